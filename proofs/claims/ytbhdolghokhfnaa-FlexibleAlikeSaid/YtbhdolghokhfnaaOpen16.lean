/-
  Walks: rows of pointers to boxes; the boxes of a line that are open (slices.Clone, IndexFunc, DeleteFunc at pointers).
-/
import Derived.Test.YtbhdolghokhfnaaItems
import Derived.Lib.SlKept
import Derived.Lib.SliceRun
import Derived.Sort.WalkA
import Derived.Sort.WalkB12
import Derived.Sort.WalkB2
namespace Go.Proofs.Ytbhdolghokhfnaa
open Go.RowKit Go.Lib Go.Sort

def ptrV (g : Nat) : Value := .pointer (some ⟨g, 0, none⟩)
def encO (x : Option Nat) : Value := match x with
  | none => .pointer none
  | some g => ptrV g
/-- A slice of pointers. -/
def Ptrs (w : World) (B : Nat) (v : Value) (gs : List Nat) : Prop :=
  ∃ A c, v = .slice A gs.length c ∧ gs.length ≤ c ∧ (0 < gs.length → ∃ g, A = some ⟨g, 0, none⟩ ∧ g < B ∧ ∀ j (h : j < gs.length), w.cell? ⟨g, j, none⟩ = some (ptrV gs[j]))
theorem Ptrs.below {w w' : World} {B : Nat} {v : Value} {gs : List Nat} (h : Ptrs w B v gs) (hb : Below B w w') : Ptrs w' B v gs := by
  obtain ⟨A, c, e, hc, hf⟩ := h
  refine ⟨A, c, e, hc, fun h0 => ?_⟩
  obtain ⟨g, e1, hk, hh⟩ := hf h0
  exact ⟨g, e1, hk, fun j hj => (hb.cell (p := ⟨g, j, none⟩) hk).trans (hh j hj)⟩
theorem Ptrs.more {w : World} {B B' : Nat} {v : Value} {gs : List Nat} (h : Ptrs w B v gs) (hB : B ≤ B') : Ptrs w B' v gs := by
  obtain ⟨A, c, e, hc, hf⟩ := h
  refine ⟨A, c, e, hc, fun h0 => ?_⟩
  obtain ⟨g, e1, hk, hh⟩ := hf h0
  exact ⟨g, e1, by omega, hh⟩
/-- .. of the call's own. -/
def OwnsP (w : World) (base : Nat) (v : Value) (gs : List Nat) : Prop := w.ownsRow base 77 1 v gs.length (gs.map ptrV)
theorem OwnsP.nil (w : World) (base : Nat) : OwnsP w base (.slice none 0 0) [] := World.ownsRow_nil _ _ _ _
theorem OwnsP.lt {w : World} {base : Nat} {v : Value} {gs : List Nat} (h : OwnsP w base v gs) : ∀ k, v.ownBlock = some k → base ≤ k ∧ k < w.heap.size := World.ownsRow.lt h
theorem OwnsP.below {w w' : World} {base : Nat} {v : Value} {gs : List Nat} (h : OwnsP w base v gs) (hb : Below w.heap.size w w') : OwnsP w' base v gs := by
  refine World.ownsRow.kept (row := none) h ⟨hb.os, hb.tape, hb.output, hb.size, fun k hk _ => hb.block k hk⟩ ?_
  cases hv : v.ownBlock with
  | none => exact .inl rfl
  | some g => exact .inr (by simp)
theorem OwnsP.setCell {w : World} {base : Nat} {v : Value} {gs : List Nat} (h : OwnsP w base v gs) {p : Addr} (hp : ∀ g, v.ownBlock = some g → g ≠ p.block) (u : Value) : OwnsP (w.setCell p u) base v gs := by
  refine World.ownsRow.kept (row := some p.block) h (only_setCell (a := w) (w := w) (g := p.block) ⟨rfl, rfl, rfl, Nat.le_refl _, fun _ _ _ => rfl⟩ (Or.inl rfl) u) ?_
  cases hv : v.ownBlock with
  | none => exact .inl rfl
  | some g => exact .inr (fun e => by cases e; exact hp _ hv rfl)
theorem OwnsP.open_ {w : World} {base : Nat} {v : Value} {gs : List Nat} (h : OwnsP w base v gs) (h0 : 0 < gs.length) :
    ∃ g cap cur, v = .slice (some ⟨g, 0, none⟩) gs.length cap ∧ gs.length ≤ cap ∧ base ≤ g ∧ g < w.heap.size ∧ w.heap[g]? = some (.cells cur 77 (0, 0)) ∧ (∀ k (hk : k < gs.length), w.cell? ⟨g, k, none⟩ = some (ptrV gs[k])) ∧ ∀ k, w.frozen? ⟨g, k, none⟩ = false := by
  rcases h.2 with ⟨_, e⟩ | ⟨g, cap, cur, rfl, hg, hb, hc, _, _, ht⟩
  · omega
  · refine ⟨g, cap, cur, rfl, hc, hg, (Array.getElem?_eq_some_iff.1 hb).1, hb, fun k hk => ?_, fun k => by simp [World.frozen?, hb]⟩
    rw [cell_of_row w g k cur _ _ hb, ← Array.getElem?_toList]
    have h1 : (cur.toList.take (gs.length * 1))[k]? = some (ptrV gs[k]) := by rw [ht]; simp [hk]
    rw [List.getElem?_take_of_lt (by omega)] at h1
    exact h1
theorem OwnsP.ptrs {w : World} {base : Nat} {v : Value} {gs : List Nat} (h : OwnsP w base v gs) : Ptrs w w.heap.size v gs := by
  rcases Nat.eq_zero_or_pos gs.length with h0 | h0
  · rcases h.2 with ⟨rfl, _⟩ | ⟨g, cap, cur, rfl, _, _, hc, _⟩
    · exact ⟨none, 0, by rw [h0], by omega, fun h => by omega⟩
    · exact ⟨_, cap, rfl, hc, fun h => by omega⟩
  · obtain ⟨g, cap, cur, e, hc, _, hg, _, hk, _⟩ := h.open_ h0
    exact ⟨_, cap, e, hc, fun _ => ⟨g, rfl, hg, hk⟩⟩
theorem Try.infoPtr : (Try.prog.info? 77).map (fun i => (i.zero, i.size, i.bytes)) = some (some (.pointer none), 1, 8) := by kernel_rfl
theorem oneCell_ptrs (gs : List Nat) : ∀ u ∈ gs.map ptrV, u.oneCell' = true := by
  intro u hu
  simp at hu
  obtain ⟨_, _, rfl⟩ := hu
  rfl
theorem Ptrs.reads {w : World} {B : Nat} {A : Option Addr} {c : Nat} {gs : List Nat} (h : Ptrs w B (.slice A gs.length c) gs) : Reads w B 1 A gs.length (gs.map ptrV) := by
  obtain ⟨A', c', e, hc, hf⟩ := h
  cases e
  refine ⟨by simp, fun h0 => ?_⟩
  obtain ⟨g, e1, hk, hh⟩ := hf h0
  refine ⟨_, e1, hk, fun j u hu => ?_⟩
  have e : (⟨g, 0, none⟩ : Addr).add j = ⟨g, j, none⟩ := by unfold Addr.add; split <;> simp_all
  rw [e]
  rw [List.getElem?_map, Option.map_eq_some_iff] at hu
  obtain ⟨x, hx, rfl⟩ := hu
  obtain ⟨hj, rfl⟩ := List.getElem?_eq_some_iff.1 hx
  exact hh j hj

/-- 'out = append(out, xs...)'. -/
theorem append_ptrs {ops : Array Oper} {rest : List Oper} {o : Oper} {a : Act} {Q : Exit → Act → World → Prop} (w : World) (hgd : o.guard = none) (s x : Operand)
    (ho : o.op = .call { callee := .builtin .append, args := #[s, x], argTypes := #[74, 74] })
    (base : Nat) (v : Value) (gs : List Nat) (hs : a.eval s = v) (hown : OwnsP w base v gs)
    (B : Nat) (u : Value) (xs : List Nat) (hx : a.eval x = u) (hu : Ptrs w B u xs)
    (h47 : gs.length + xs.length ≤ 17592186044416) (hbase : base ≤ w.heap.size)
    (h : ∀ v' w', OwnsP w' base v' (gs ++ xs) → w.grownBy w' v.ownBlock → (v'.ownBlock = v.ownBlock ∨ v'.ownBlock = some w.heap.size) → wpList Try.prog ops Q rest (a.put o.dst v') w') : wpList Try.prog ops Q (o :: rest) a w := by
  obtain ⟨i0, hi0, hz0, hz1, hz2⟩ := info_parts Try.infoPtr
  have hu' := hu
  obtain ⟨A, c, rfl, hc, _⟩ := hu'
  refine wpList_append_any w hgd s x _ ho base 77 i0 _ 1 8 Try.underlying74 hi0 hz0 hz1 hz2 rfl (by omega) v _ _ hs hown B A _ c _ hx hu.reads (oneCell_ptrs xs) (by simp only [maxLen]; omega) (by omega) hbase ?_
  intro v' w' h1 h2 h3
  exact h v' w' (by simpa [OwnsP] using h1) h2 h3

/-! ### the search, and what is struck out -/
set_option maxRecDepth 100000 in
theorem settled_any (g : Nat) (b : Bool) (w : World) (h : w.cell? ⟨g, 8, none⟩ = some (.bool b)) :
    Calls Try.prog 70 #[ptrV g] w fun e w' => e = .returned (.bool b) ∧ w = w' := by
  show Calls Try.prog 70 #[.pointer (some ⟨g, 0, none⟩)] w _
  go_enter Try.func70, Try.ntmps70
  go_wp2_with fail
  go_ret
  exact ⟨rfl, rfl⟩
/-- What the search answers. -/
def FirstAt (p : Nat → Bool) (gs : List Nat) (r : Int) : Prop := (r = -1 ∧ ∀ j (h : j < gs.length), p gs[j] = false) ∨ ∃ (k : Nat) (h : k < gs.length), r = k ∧ p gs[k] = true ∧ ∀ j (h : j < k) (h' : j < gs.length), p gs[j] = false
def FirstPost (p : Nat → Bool) (gs : List Nat) (w : World) (e : Ending) (w' : World) : Prop := w = w' ∧ ∃ r, e = .returned (.int .i64 r) ∧ FirstAt p gs r
def IdxA (p : Nat → Bool) (gs : List Nat) (w : World) (i : Value) (wr : World) : Prop :=
  ∃ k : Nat, k ≤ gs.length ∧ i = .int .i64 k ∧ wr = w ∧ ∀ j (_ : j < k) (h' : j < gs.length), p gs[j] = false
def fopen : Value := .func (.func 70) #[] #[]

set_option maxRecDepth 100000 in
set_option maxHeartbeats 1000000 in
theorem idx_any (p : Nat → Bool) (gs : List Nat) (v : Value) (B : Nat) (w : World) (h : Ptrs w B v gs) (hp : ∀ g ∈ gs, w.cell? ⟨g, 8, none⟩ = some (.bool (p g))) (hm : gs.length ≤ 1000000) :
    Calls Try.prog 87 #[v, fopen] w (FirstPost p gs w) := by
  obtain ⟨A, c, rfl, hc, hf⟩ := h
  unfold fopen
  have HP : Aside _ := hp
  have HF : Aside _ := hf
  clear hp hf
  go_enter Try.func87, Try.ntmps87
  go_wp2_with fail
  go_loopw [8] (IdxA p gs w) (fun i _ => gs.length - (intOf i).toNat)
  case atStart => exact ⟨0, by omega, rfl, rfl, fun j h => absurd h (by omega)⟩
  case round =>
    obtain ⟨k, hk, rfl, rfl, hno⟩ := hrel
    have HNO : Aside _ := hno
    clear hno
    by_cases hlt : k < gs.length
    · have hltz : (k : Int) < (gs.length : Int) := by omega
      obtain ⟨gb, rfl, hgb, hcell⟩ := HF.out (by omega)
      have hck := hcell k hlt
      have hst := settled_any gs[k] (p gs[k]) wr (HP.out _ (List.getElem_mem hlt))
      have HK := Lib.hid (show gs[k] = gs[k] from rfl)
      clear hcell
      obtain ⟨x, hx⟩ : ∃ x, gs[k] = x := ⟨_, rfl⟩
      rw [hx] at hck hst
      unfold ptrV at hck hst
      obtain ⟨b, hb⟩ : ∃ b, p x = b := ⟨_, rfl⟩
      rw [hb] at hst
      have HX := Lib.hid hx
      have HB := Lib.hid hb
      clear hx hb HK
      cases b with
      | true =>
        go_wp2_with fail
        refine hst.mono ?_
        rintro e w' ⟨rfl, rfl⟩
        go_wp2_with fail
        go_ret
        exact ⟨rfl, _, rfl, Or.inr ⟨k, hlt, rfl, by rw [HX.out]; exact HB.out, fun j h h' => HNO.out j h h'⟩⟩
      | false =>
        go_wp2_with fail
        refine hst.mono ?_
        rintro e w' ⟨rfl, rfl⟩
        go_wp2_with fail
        go_roundw
        case rel =>
          refine ⟨k + 1, hlt, by go_num, rfl, fun j h h' => ?_⟩
          rcases Nat.lt_or_eq_of_le (Nat.le_of_lt_succ h) with h1 | rfl
          · exact HNO.out j h1 h'
          · rw [HX.out]
            exact HB.out
        case measure => simp [intOf]; omega
    · obtain rfl : k = gs.length := by omega
      go_wp2_with fail
      go_ret
      exact ⟨rfl, _, rfl, Or.inl ⟨rfl, fun j h => HNO.out j h h⟩⟩

/-- The row as an array of options. -/
def rowO (gs : List Nat) : Array (Option Nat) := (gs.map some).toArray
theorem rowO_size (gs : List Nat) : (rowO gs).size = gs.length := by simp [rowO]
theorem rowO_get (gs : List Nat) {j : Nat} (h : j < gs.length) : (rowO gs)[j]! = some gs[j] := by
  rw [getElem!_pos _ j (by rw [rowO_size]; exact h)]
  simp [rowO]
def pO (p : Nat → Bool) (x : Option Nat) : Bool := match x with
  | none => true
  | some g => !p g
theorem keptO (p : Nat → Bool) (gs : List Nat) : keptUpTo (fun j => pO p (rowO gs)[j]!) (rowO gs) (rowO gs).size = (gs.filter (fun g => !p g)).map some := by
  rw [keptUpTo_filter]
  unfold rowO
  simp only [List.filter_map]
  rfl
theorem encO_one : ∀ x, (encO x).oneCell' = true := fun x => by cases x <;> rfl

/-- What striking out leaves. -/
def DelPost (p : Nat → Bool) (gs : List Nat) (W0 : World) (e : Ending) (w' : World) : Prop := ∃ v', e = .returned v' ∧ Ptrs w' w'.heap.size v' (gs.filter fun g => !p g) ∧ Below W0.heap.size W0 w' ∧ ∀ k, v'.ownBlock = some k → W0.heap.size ≤ k

set_option maxRecDepth 100000 in
set_option maxHeartbeats 4000000 in
theorem del_any (p : Nat → Bool) (gs : List Nat) (base : Nat) (v : Value) (W0 w : World) (h : OwnsP w base v gs) (hbase : W0.heap.size ≤ base) (h0 : Below W0.heap.size W0 w) (hp : ∀ g ∈ gs, g < base ∧ w.cell? ⟨g, 8, none⟩ = some (.bool (p g))) (hm : gs.length ≤ 1000000) :
    Calls Try.prog 68 #[v, fopen] w (DelPost p gs W0) := by
  have hI := idx_any p gs v w.heap.size w h.ptrs (fun g hg => (hp g hg).2) hm
  have hPt := h.ptrs
  obtain ⟨A, c, hv, hc, _⟩ := h.ptrs
  subst hv
  unfold fopen at hI ⊢
  have HO := Lib.hid h
  have HP : Aside _ := hp
  have HPt := Lib.hid hPt
  clear h hp hPt
  by_cases hnone : ∀ j (h : j < gs.length), p gs[j] = false
  · have hfl : (gs.filter fun g => !p g) = gs := by
      refine List.filter_eq_self.2 fun g hg => ?_
      obtain ⟨j, hj, rfl⟩ := List.getElem_of_mem hg
      rw [hnone j hj]
      rfl
    have HFL := Lib.hid hfl
    have HN : Aside _ := hnone
    clear hfl hnone
    go_enter Try.func68, Try.ntmps68
    go_wp2_with fail
    refine hI.mono ?_
    clear hI
    rintro e w' ⟨rfl, r, rfl, hr⟩
    have hr1 : r = -1 := by
      rcases hr with ⟨h, _⟩ | ⟨k, hk, _, ht, _⟩
      · exact h
      · rw [HN.out k hk] at ht
        cases ht
    subst hr1
    clear hr
    go_wp2_with fail
    go_ret
    exact ⟨_, rfl, by rw [HFL.out]; exact HPt.out, h0, fun k e => Nat.le_trans hbase (HO.out.lt k e).1⟩
  · have hpos : 0 < gs.length := by
      rcases Nat.eq_zero_or_pos gs.length with h | h
      · exact absurd (fun j hj => absurd hj (by omega)) hnone
      · exact h
    obtain ⟨g, cap, cur, e1, hcap, hgb, hgl, hblk, hcc, hff⟩ := HO.out.open_ hpos
    injection e1 with e1 _ e3
    subst e1 e3
    have hH : Holds encO w g 0 (rowO gs) := fun j hj => by
      rw [rowO_size] at hj
      rw [Nat.zero_add, rowO_get gs hj]
      exact ⟨hcc j hj, hff j⟩
    obtain ⟨kp, HK⟩ : ∃ kp : Nat → Bool, Hid (kp = fun j => pO p (rowO gs)[j]!) := ⟨_, rfl⟩
    have HH : Aside (Holds encO w g 0 (rowO gs)) := hH
    have hcall : ∀ (dk : Array (Option Nat)) (x : Nat) (q : Nat), x ∈ gs → Calls Try.prog 70 #[ptrV x] ((putRow encO w g 0 dk).drewN q) fun e w' => e = .returned (.bool (p x)) ∧ (putRow encO w g 0 dk).drewN q = w' := fun dk x q hx => by
      obtain ⟨h1, h2⟩ := HP.out x hx
      exact settled_any x (p x) _ ((cell?_putRow_other encO w g 0 dk ⟨x, 8, none⟩ (Or.inl (by show x ≠ g; omega))).trans h2)
    have HC : Aside _ := hcall
    have HNN : Aside _ := hnone
    obtain ⟨n, hn⟩ : ∃ n, gs.length = n := ⟨_, rfl⟩
    have hz : (rowO gs).size = n := by rw [rowO_size, hn]
    rw [hn] at hcap hpos hm hc hI ⊢
    have HN := Lib.hid hn
    have HZ := Lib.hid hz
    clear hH hcall hnone hcc hff hn hz hblk
    go_enter Try.func68, Try.ntmps68
    go_wp2_with fail
    refine hI.mono ?_
    clear hI
    rintro e w' ⟨rfl, r, rfl, hr⟩
    obtain ⟨k0, hk0, rfl, ht, hno⟩ : ∃ (k : Nat) (h : k < gs.length), r = k ∧ p gs[k] = true ∧ ∀ j (h : j < k) (h' : j < gs.length), p gs[j] = false := by
      rcases hr with ⟨_, h⟩ | h
      · exact absurd h HNN.out
      · exact h
    have hkn : k0 < n := by rw [← HN.out]; exact hk0
    have hkeep : Aside (∀ j, j < k0 → kp j = true) := fun j hj => by
      rw [HK.out]
      show pO p (rowO gs)[j]! = true
      rw [rowO_get gs (by omega)]
      show (!p gs[j]) = true
      rw [hno j hj (by omega)]
      rfl
    have hdrop : Hid (kp k0 = false) := by
      show _ = _
      rw [HK.out]
      show pO p (rowO gs)[k0]! = false
      rw [rowO_get gs hk0]
      show (!p gs[k0]) = false
      rw [ht]
      rfl
    have hne1 : ((k0 : Int) == -1) = false := beq_eq_false_iff_ne.2 (by omega)
    have hne2 : ¬ ((k0 : Int) = -1) := by omega
    have HS0 : Hid (w = (putRow encO w g 0 (rowO gs)).drewN 0) := (putRow_self encO w g 0 (rowO gs) HH.out).symm
    clear hr ht hno
    go_wp2_with fail
    go_loopg [5, 6, 7] (n + 1) (fun gg s5 s6 _ wr => ∃ (i j : Nat) (dk : Array (Option Nat)), s5 = .int .i64 i ∧ s6 = .int .i64 j ∧ i < j ∧ j ≤ n ∧ n - j ≤ gg ∧ wr = (putRow encO w g 0 dk).drewN 0 ∧ Aside (KeptInv kp (rowO gs) j i dk))
    case atStart => exact ⟨k0, k0 + 1, rowO gs, rfl, by go_num, by omega, by omega, by omega, HS0.out, KeptInv.start hkeep.out hdrop.out⟩
    case round =>
      clear hkeep hdrop HS0 hne1 hne2
      obtain ⟨i, j, dk, rfl, rfl, hij, hjd, hgg, rfl, I2⟩ := hrel
      have hds : dk.size = (rowO gs).size := I2.out.size
      have hHk := holds_putRow encO w g 0 (rowO gs) dk HH.out hds
      by_cases hlt : j < n
      · have hltz : (j : Int) < (n : Int) := by omega
        have hiz : (i : Int) < (n : Int) := by omega
        have hjs : j < gs.length := by rw [HN.out]; exact hlt
        obtain ⟨x, hx⟩ : ∃ x, gs[j] = x := ⟨_, rfl⟩
        obtain ⟨old, hold⟩ : ∃ o, dk[i]! = o := ⟨_, rfl⟩
        have cj := (hHk j (by rw [hds, HZ.out]; exact hlt)).1
        have ci := hHk i (by rw [hds, HZ.out]; omega)
        rw [I2.out.high j (by omega), rowO_get gs hjs, hx, Nat.zero_add] at cj
        rw [hold, Nat.zero_add] at ci
        obtain ⟨ci, fi⟩ := ci
        have hcall := HC.out dk x 0 (by rw [← hx]; exact List.getElem_mem hjs)
        have HX := Lib.hid hx
        have hds2 := Lib.hid hds
        clear hHk hx hold hds
        have cj' : ((putRow encO w g 0 dk).drewN 0).cell? ⟨g, j, none⟩ = some (.pointer (some ⟨x, 0, none⟩)) := cj
        have ci' : ((putRow encO w g 0 dk).drewN 0).cell? ⟨g, i, none⟩ = some (encO old) := ci
        have fi' : ((putRow encO w g 0 dk).drewN 0).frozen? ⟨g, i, none⟩ = false := fi
        clear cj ci fi
        unfold ptrV at hcall
        obtain ⟨wq, hwq⟩ : ∃ W, (putRow encO w g 0 dk).drewN 0 = W := ⟨_, rfl⟩
        rw [hwq] at cj' ci' fi' hcall ⊢
        have HW := Lib.hid hwq
        clear hwq
        obtain ⟨b, hb⟩ : ∃ b, p x = b := ⟨_, rfl⟩
        rw [hb] at hcall
        have HB := Lib.hid hb
        clear hb
        have hkpj : Hid (kp j = !b) := by
          show _ = _
          rw [HK.out]
          show pO p (rowO gs)[j]! = _
          rw [rowO_get gs hjs, HX.out]
          show (!p x) = _
          rw [HB.out]
        cases b with
        | false =>
          go_wp2_with fail
          refine hcall.mono ?_
          rintro e w' ⟨rfl, rfl⟩
          go_wp2_with fail
          go_roundg (n - (j + 1))
          case measure => omega
          case rel =>
            refine ⟨i + 1, j + 1, dk.setIfInBounds i (some x), by go_num, by go_num, by omega, by omega, Nat.le_refl _, ?_, ?_⟩
            · rw [← HW.out]
              have hps := putRow_set encO w g 0 dk i (some x) (by rw [hds2.out, HZ.out]; omega)
              rw [Nat.zero_add] at hps
              exact hps
            · have := I2.out.keep (by rw [HZ.out]; exact hlt) hkpj.out
              rw [rowO_get gs hjs, HX.out] at this
              exact this
        | true =>
          go_wp2_with fail
          refine hcall.mono ?_
          rintro e w' ⟨rfl, rfl⟩
          go_wp2_with fail
          go_roundg (n - (j + 1))
          case measure => omega
          case rel => exact ⟨i, j + 1, dk, rfl, by go_num, by omega, by omega, Nat.le_refl _, HW.out.symm, I2.out.skip hkpj.out⟩
      · obtain rfl : j = n := by omega
        have hz0 : ∀ w, (zeroValue 77).run Try.prog w = .ok (.pointer none) w := fun _ => by kernel_rfl
        have hcl : ∀ ty, (Builtin.clear_ #[74] ty #[.slice (some ⟨g, i, none⟩) (j - i) (c - i)]).run Try.prog ((putRow encO w g 0 dk).drewN 0) = .ok (.tuple #[]) (((putRow encO w g 0 dk).drewN 0).setCells g i (List.replicate (j - i) (.pointer none))) := fun ty =>
          Lib.run_clear_slice _ _ _ ty _ Try.underlying74 hz0 rfl rfl g i _ _ (by omega)
            (fun t ht => by have := (hHk (i + t) (by rw [hds, HZ.out]; omega)).1; rw [Nat.zero_add] at this; show ((putRow encO w g 0 dk).cell? _).isSome = true; rw [this]; rfl)
            (fun t ht => by have := (hHk (i + t) (by rw [hds, HZ.out]; omega)).2; rw [Nat.zero_add] at this; exact this)
        have hlen : (gs.filter fun g => !p g).length = i := by
          have h1 := I2.out.len
          have h2 := keptO p gs
          rw [HZ.out, ← HK.out] at h2
          rw [h2] at h1
          simpa using h1
        have HD2 := Lib.hid hds
        have HLN := Lib.hid hlen
        have hiz : (i : Int) < (j : Int) := by omega
        have hic : (i : Int) ≤ (c : Int) := by omega
        have hFs : ((((gs.filter fun g => !p g).map some) ++ List.replicate (j - i) none).toArray : Array (Option Nat)).size = j := by simp [hlen]; omega
        have hfin : Hid (((putRow encO w g 0 dk).drewN 0).setCells g i (List.replicate (j - i) (.pointer none)) = putRow encO w g 0 (((gs.filter fun g => !p g).map some) ++ List.replicate (j - i) none).toArray) := by
          show _ = _
          have hI2 := I2.out
          rw [← HZ.out] at hI2
          have h3 := hI2.done none
          have h2 := keptO p gs
          rw [HZ.out, ← HK.out] at h2
          rw [HZ.out, h2] at h3
          rw [← h3]
          have h4 := putRow_setCells encO w g 0 (List.replicate (j - i) none) dk i (by simp; have := HD2.out; have := HZ.out; omega)
          rw [Nat.zero_add, List.map_replicate] at h4
          exact h4
        have HFS := Lib.hid hFs
        clear hHk hds hlen hFs
        go_wp2_with fail
        go_ret
        rw [hfin.out]
        have hF := holds_putRow encO w g 0 (rowO gs) (((gs.filter fun g => !p g).map some) ++ List.replicate (j - i) none).toArray HH.out (by rw [HFS.out, HZ.out])
        have hgr : w.grownBy (putRow encO w g 0 (((gs.filter fun g => !p g).map some) ++ List.replicate (j - i) none).toArray) (some g) := ⟨rfl, rfl, rfl, by simp, fun i hi hne => by
          unfold putRow mapBlock
          simp only [Array.getElem?_modify]
          rw [if_neg (fun e => hne (by rw [e]))]⟩
        refine ⟨_, rfl, ⟨some ⟨g, 0, none⟩, c, by rw [HLN.out]; rfl, by rw [HLN.out]; omega, fun _ => ⟨g, rfl, by simpa using hgl, fun t ht => ?_⟩⟩, h0.grown hgr h0.size (fun k e => by cases e; omega), fun k e => by have e2 : g = k := Option.some.inj e; rw [← e2]; exact Nat.le_trans hbase hgb⟩
        have := (hF t (by rw [HFS.out]; rw [HLN.out] at ht; omega)).1
        rw [Nat.zero_add] at this
        rw [this]
        have hle : t < (gs.filter fun g => !p g).length := ht
        rw [getElem!_pos _ t (by rw [HFS.out]; rw [HLN.out] at ht; omega)]
        simp [List.getElem_append_left, hle, encO]

/-! ### Clone, and a line's open boxes -/
def ClonePost (gs : List Nat) (w : World) (e : Ending) (w' : World) : Prop := ∃ v', e = .returned v' ∧ OwnsP w' w.heap.size v' gs ∧ Below w.heap.size w w'

set_option maxRecDepth 100000 in
set_option maxHeartbeats 1000000 in
theorem clone_any (gs : List Nat) (v : Value) (B : Nat) (w : World) (h : Ptrs w B v gs) (hB : B ≤ w.heap.size) (hm : gs.length ≤ 1000000) :
    Calls Try.prog 69 #[v] w (ClonePost gs w) := by
  have h' := h
  obtain ⟨A, c, rfl, hc, hf⟩ := h'
  by_cases hnil : A = none
  · subst hnil
    have hl0 : gs.length = 0 := by
      rcases Nat.eq_zero_or_pos gs.length with h | h
      · exact h
      · obtain ⟨g, e, _⟩ := hf h
        cases e
    obtain rfl := List.eq_nil_of_length_eq_zero hl0
    go_enter Try.func69, Try.ntmps69
    have hq := Lib.run_eql_slice_nil (P := Try.prog) w 74 77 none 0 c 0 0 Try.underlying74
    go_wp2_with fail
    go_ret
    exact ⟨_, rfl, OwnsP.nil _ _, Below.refl _ _⟩
  · obtain ⟨ad, rfl⟩ := Option.ne_none_iff_exists'.1 hnil
    have hq := Lib.run_eql_slice_nil (P := Try.prog) w 74 77 (some ad) gs.length c 0 0 Try.underlying74
    have hown : OwnsP (w.alloc (.cells #[] 77)) w.heap.size (.slice (some ⟨w.heap.size, 0, none⟩) 0 0) [] := ⟨rfl, .inr ⟨w.heap.size, 0, #[], rfl, Nat.le_refl _, heap_alloc_new w _, Nat.le_refl _, by decide, rfl, rfl⟩⟩
    have hb0 : Below w.heap.size w (w.alloc (.cells #[] 77)) := (Below.refl _ _).alloc (Nat.le_refl _) _
    have hs0 : (w.alloc (.cells #[] 77)).heap.size = w.heap.size + 1 := World.size_alloc _ _
    have hPt := h.below (B := B) (w' := w.alloc (.cells #[] 77)) ((Below.refl _ _).alloc hB _)
    clear hf hnil h
    go_enter Try.func69, Try.ntmps69
    go_wp2_with (at_builtin; refine append_ptrs _ rfl _ _ rfl w.heap.size (.slice (some ⟨w.heap.size, 0, none⟩) 0 0) [] rfl hown B _ gs rfl hPt (by simp; omega) (by simp) ?_; intro v1 w1 hown1 hgr1 hv1)
    go_ret
    exact ⟨_, rfl, hown1, hb0.trans (below_of_grown rfl hgr1 (Nat.le_trans (Nat.le_succ _) (Nat.le_of_eq hs0.symm)) (fun k e => Nat.le_of_eq (Option.some.inj e)))⟩

set_option maxRecDepth 100000 in
set_option maxHeartbeats 1000000 in
theorem open_any (p : Nat → Bool) (gs : List Nat) (L : Nat) (v : Value) (w : World) (hl : w.cell? ⟨L, 0, none⟩ = some v) (h : Ptrs w w.heap.size v gs) (hp : ∀ g ∈ gs, g < w.heap.size ∧ w.cell? ⟨g, 8, none⟩ = some (.bool (p g))) (hm : gs.length ≤ 1000000) :
    Calls Try.prog 51 #[ptrV L] w (DelPost p gs w) := by
  have hc := clone_any gs v _ w h (Nat.le_refl _) hm
  have HP : Aside _ := hp
  clear hp h
  show Calls Try.prog 51 #[.pointer (some ⟨L, 0, none⟩)] w _
  go_enter Try.func51, Try.ntmps51
  go_wp2_with fail
  refine hc.mono ?_
  clear hc
  rintro e w1 ⟨v1, rfl, ho1, hb1⟩
  have hd := del_any p gs w.heap.size v1 w w1 ho1 (Nat.le_refl _) hb1 (fun g hg => ⟨(HP.out g hg).1, (hb1.cell (p := ⟨g, 8, none⟩) (HP.out g hg).1).trans (HP.out g hg).2⟩) hm
  unfold fopen at hd
  clear ho1
  go_wp2_with fail
  refine hd.mono ?_
  rintro e w2 ⟨v2, rfl, hp2, hb2, hx2⟩
  go_wp2_with fail
  go_ret
  exact ⟨_, rfl, hp2, hb2, hx2⟩

end Go.Proofs.Ytbhdolghokhfnaa
