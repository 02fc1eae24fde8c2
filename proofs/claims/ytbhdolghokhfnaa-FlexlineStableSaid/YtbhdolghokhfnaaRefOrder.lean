/-
  Walks: windowpaneref15.Order at any Orders; flexline.Order at none.
-/
import Derived.Test.YtbhdolghokhfnaaOrders
namespace Go.Proofs.Ytbhdolghokhfnaa
open Go.RowKit

/-- Which places have been told. -/
def flags (n : Nat) (os : List Nat) : List Bool := (List.range n).map fun i => decide (i ∈ os)
theorem flags_len (n : Nat) (os : List Nat) : (flags n os).length = n := by simp [flags]
theorem flags_set (n x : Nat) (os : List Nat) : (flags n os).set x true = flags n (os ++ [x]) := by
  refine List.ext_getElem (by simp [flags]) fun i h1 h2 => ?_
  rw [List.getElem_set]
  unfold flags
  by_cases e : x = i
  · subst e
    simp
  · rw [if_neg e]
    simp [Ne.symm e]
theorem flags_nil (n : Nat) : flags n [] = List.replicate n false := by
  refine List.ext_getElem (by simp [flags]) fun i h1 h2 => ?_
  simp [flags]
/-- A row of the call's own that tells of each place whether it is told. -/
def FBlk (w : World) (g : Nat) (fl : List Bool) : Prop := Blk w g 4 (fl.map Value.bool).toArray
theorem FBlk.at_ {w : World} {g n : Nat} {os : List Nat} (h : FBlk w g (flags n os)) {i : Nat} (hi : i < n) {b : Bool} (hb : decide (i ∈ os) = b) : w.cell? ⟨g, i, none⟩ = some (.bool b) := by
  rw [Blk.cell h i]
  simp [flags, hi, hb]
theorem FBlk.tell {w : World} {g n x : Nat} {os : List Nat} (h : FBlk w g (flags n os)) : FBlk (w.setCell ⟨g, x, none⟩ (.bool true)) g (flags n (os ++ [x])) := by
  have h2 := Blk.set_ h x (.bool true)
  unfold FBlk
  rw [← flags_set, List.map_set]
  simpa using h2
theorem made_falses (n : Nat) : madeCells #[.bool false] n = ((flags n []).map Value.bool).toArray := by
  apply Array.ext'
  rw [toList_madeCells_one, flags_nil]
  simp
theorem Try.infoBool : (Try.prog.info? 4).map (fun i => (i.zero, i.size, i.bytes)) = some (some (.bool false), 1, 1) := by kernel_rfl
theorem Owns.setLow {w : World} {base : Nat} {v : Value} {zs : List Int} (h : Owns w base v zs) {p : Addr} (hp : p.block < base) (u : Value) : Owns (w.setCell p u) base v zs := by
  refine World.ownsRow.kept (row := some p.block) h (only_setCell (a := w) (w := w) (g := p.block) ⟨rfl, rfl, rfl, Nat.le_refl _, fun _ _ _ => rfl⟩ (Or.inl rfl) u) ?_
  cases hv : v.ownBlock with
  | none => exact .inl rfl
  | some g => exact .inr (fun e => by have := (h.lt g hv).1; cases e; omega)

/-- The places told so far. -/
def RoA (l : List Int) (n s : Nat) (w0 : World) (out cnt : Value) (wr : World) : Prop :=
  ∃ os : List Nat, cnt = .int .i64 (os.length : Nat) ∧ Told l os ∧ Owns wr (s + 1) out (os.map fun j => ((j : Nat) : Int)) ∧ FBlk wr s (flags n os) ∧ Below s w0 wr
/-- The least of the first so many. -/
def RoB (l : List Int) (n : Nat) (os : List Nat) (w1 : World) (best i : Value) (wr : World) : Prop :=
  ∃ (m : Nat) (b : Int), i = .int .i64 m ∧ m ≤ n ∧ best = .int .i64 b ∧ Least l os m b ∧ ∃ k, wr = w1.drewN k

set_option maxRecDepth 100000 in
set_option maxHeartbeats 4000000 in
theorem reforder_any (l : List Int) (n : Nat) (hl : l.length = n) (h300 : n ≤ 1000000) (v : Value) (B : Nat) (w : World) (h : Ints w B v l) (hB : B ≤ w.heap.size) :
    Calls Try.prog 13 #[v] w (OrderPost l w) := by
  obtain ⟨A, c, rfl, hc, hr⟩ := h
  have hval : ∀ i (hi : i < n), ∃ ad, A = some ad ∧ ad.block < B ∧ w.cell? (ad.add i) = some (.int .i64 (l.getD i 0)) := fun i hi => by
    obtain ⟨ad, e, hb, k⟩ := hr.val (show i < l.length by omega)
    exact ⟨ad, e, hb, by rw [k]; simp [show i < l.length by omega]⟩
  obtain ⟨i0, hi0, hz0, hzs, hzb⟩ := info_parts Try.infoBool
  have hmk := fun W : World => run_make_rowN (P := Try.prog) 27 4 i0 _ Try.underlying27 hi0 hz0 .i64 .i64 n n (Nat.le_refl _) (by rw [hzb]; omega) (by omega) W
  rw [hzs, Nat.mul_one] at hmk
  clear hi0 hz0 hzs hzb
  rw [show (Value.bool false).cells = #[Value.bool false] from rfl, made_falses] at hmk
  have hblk : FBlk (w.alloc (.cells ((flags n []).map Value.bool).toArray 4)) w.heap.size (flags n []) := Blk.new _ _ _
  have hb2 : Below w.heap.size w (w.alloc (.cells ((flags n []).map Value.bool).toArray 4)) := (Below.refl _ _).alloc (Nat.le_refl _) _
  have hs2 : (w.alloc (.cells ((flags n []).map Value.bool).toArray 4)).heap.size = w.heap.size + 1 := World.size_alloc _ _
  have hmk1 := hmk w
  generalize w.alloc (.cells ((flags n []).map Value.bool).toArray 4) = w2 at *
  clear hmk
  obtain ⟨s, hs⟩ : ∃ s, w.heap.size = s := ⟨_, rfl⟩
  rw [hs] at hb2 hs2 hblk hB hmk1
  have HS := Lib.hid hs
  have HL := Lib.hid hl
  have HV : Aside _ := hval
  rw [hl] at hc ⊢
  clear hs hl hr hval
  have hw2 : s + 1 ≤ w2.heap.size := by omega
  clear hs2
  go_enter Try.func13, Try.ntmps13
  go_wp2_with fail
  clear hmk1
  go_loopw [3, 12] (RoA l n s w2) (fun _ i _ => n - (intOf i).toNat)
  case atStart => exact ⟨[], rfl, Told.nil _, Owns.nil _ _, hblk, Below.refl _ _⟩
  case round =>
    obtain ⟨os, rfl, hT, hown, hfb, hbr⟩ := hrel
    have hkn : os.length ≤ n := by have := hT.len; have := HL.out; omega
    have hsz : s + 1 ≤ wr.heap.size := by have := hbr.size; omega
    have HT := Lib.hid hT
    clear hT
    by_cases hlt : os.length < n
    · have hltz : (os.length : Int) < (n : Int) := by omega
      obtain ⟨k0, hk0⟩ : ∃ k, k = os.length := ⟨_, rfl⟩
      have HK0 := Lib.hid hk0
      rw [← hk0] at hlt hltz hkn ⊢
      clear hk0
      go_wp2_with fail
      go_loopw [5, 6] (RoB l n os wr) (fun _ i _ => n - (intOf i).toNat)
      case atStart => exact ⟨0, -1, rfl, by omega, rfl, Least.zero _ _, 0, rfl⟩
      case round =>
        obtain ⟨m, b, rfl, hmn, rfl, hLe, q, rfl⟩ := hrel
        by_cases hml : m < n
        · have hmz : (m : Int) < (n : Int) := by omega
          obtain ⟨ad, rfl, hadb, hcm⟩ := HV.out m hml
          have hcm2 : (wr.drewN q).cell? (ad.add m) = some (.int .i64 (l.getD m 0)) := (hbr.cell (by rw [block_of_add]; omega)).trans ((hb2.cell (by rw [block_of_add]; omega)).trans hcm)
          have hfr : ∀ i, (wr.drewN q).frozen? ⟨s, i, none⟩ = false := fun i => Blk.frozen hfb i
          by_cases hmo : m ∈ os
          · have hct : (wr.drewN q).cell? ⟨s, m, none⟩ = some (.bool true) := hfb.at_ hml (decide_eq_true hmo)
            have HLE := Lib.hid hLe
            clear hLe hcm hcm2 hfr
            obtain ⟨W, hW⟩ : ∃ W, wr.drewN q = W := ⟨_, rfl⟩
            have HW := Lib.hid hW
            rw [hW] at hct ⊢
            clear hW
            go_wp2_with fail
            go_quiet (fail)
            go_wp2_with fail
            go_roundw
            case rel => exact ⟨m + 1, b, by go_num, hml, rfl, HLE.out.skip hmo, q + nq, by rw [← HW.out, World.drewN_drewN]⟩
            case measure => simp [intOf]; omega
          · have hct : (wr.drewN q).cell? ⟨s, m, none⟩ = some (.bool false) := hfb.at_ hml (decide_eq_false hmo)
            rcases hLe.lt with rfl | ⟨x, rfl, hxm, hxo⟩
            · have HLE := Lib.hid hLe
              clear hLe hcm hcm2 hfr
              obtain ⟨W, hW⟩ : ∃ W, wr.drewN q = W := ⟨_, rfl⟩
              have HW := Lib.hid hW
              rw [hW] at hct ⊢
              clear hW
              go_wp2_with fail
              go_quiet (fail)
              go_wp2_with fail
              go_roundw
              case rel => exact ⟨m + 1, m, by go_num, hml, rfl, HLE.out.first hmo, q + nq, by rw [← HW.out, World.drewN_drewN]⟩
              case measure => simp [intOf]; omega
            · obtain ⟨ad2, e2, _, hcx⟩ := HV.out x (by omega)
              cases e2
              have hcx2 : (wr.drewN q).cell? (ad.add x) = some (.int .i64 (l.getD x 0)) := (hbr.cell (by rw [block_of_add]; omega)).trans ((hb2.cell (by rw [block_of_add]; omega)).trans hcx)
              have hx0 : ¬ (x : Int) < 0 := by omega
              have hx0b : decide ((x : Int) < 0) = false := decide_eq_false hx0
              have hxz : (x : Int) < (n : Int) := by omega
              have HLE := Lib.hid hLe
              clear hLe hcm hcx hfr
              obtain ⟨W, hW⟩ : ∃ W, wr.drewN q = W := ⟨_, rfl⟩
              have HW := Lib.hid hW
              rw [hW] at hct hcm2 hcx2 ⊢
              clear hW
              obtain ⟨zm, hzm⟩ : ∃ z, l.getD m 0 = z := ⟨_, rfl⟩
              obtain ⟨zx, hzx⟩ : ∃ z, l.getD x 0 = z := ⟨_, rfl⟩
              rw [hzm] at hcm2
              rw [hzx] at hcx2
              have HZM := Lib.hid hzm
              have HZX := Lib.hid hzx
              clear hzm hzx
              by_cases hcmp : zm < zx
              · go_wp2_with fail
                go_quiet (fail)
                go_wp2_with fail
                go_roundw
                case rel => exact ⟨m + 1, m, by go_num, hml, rfl, HLE.out.less hmo (by rw [HZM.out, HZX.out]; exact hcmp), q + nq, by rw [← HW.out, World.drewN_drewN]⟩
                case measure => simp [intOf]; omega
              · have hcb : decide (zm < zx) = false := decide_eq_false hcmp
                go_wp2_with fail
                go_quiet (fail)
                go_wp2_with fail
                go_roundw
                case rel => exact ⟨m + 1, x, by go_num, hml, rfl, HLE.out.more (by rw [HZM.out, HZX.out]; omega), q + nq, by rw [← HW.out, World.drewN_drewN]⟩
                case measure => simp [intOf]; omega
        · have hmz : ¬ (m : Int) < (n : Int) := by omega
          obtain rfl : m = n := by omega
          obtain ⟨x, rfl, hxn, hxo, hT2⟩ := HT.out.next (by have := HL.out; have := HK0.out; omega) (by rw [HL.out]; exact hLe)
          have hxz : (x : Int) < (m : Int) := by have := HL.out; omega
          have hcx : ∃ bb, (wr.drewN q).cell? ⟨s, x, none⟩ = some (.bool bb) := ⟨_, hfb.at_ (by have := HL.out; omega) rfl⟩
          have hcx0 := hcx
          have hfx : (wr.drewN q).frozen? ⟨s, x, none⟩ = false := Blk.frozen hfb x
          have hfx0 := hfx
          have hfb2 : FBlk ((wr.drewN q).setCell ⟨s, x, none⟩ (.bool true)) s (flags m (os ++ [x])) := FBlk.tell (w := wr.drewN q) hfb
          have hown2 : Owns ((wr.drewN q).setCell ⟨s, x, none⟩ (.bool true)) (s + 1) u3 (os.map fun j => ((j : Nat) : Int)) := Owns.setLow (hown.drewN q) (p := ⟨s, x, none⟩) (by simp) _
          have hbr2 : Below s w2 ((wr.drewN q).setCell ⟨s, x, none⟩ (.bool true)) := (below_drewN hbr q).setCell (p := ⟨s, x, none⟩) (Nat.le_refl _) _
          have hsz2 : s + 1 ≤ ((wr.drewN q).setCell ⟨s, x, none⟩ (.bool true)).heap.size := by have := hbr2.size; omega
          have hlk : (os.map fun j => ((j : Nat) : Int)).length < 17592186044416 := by have := HK0.out; simp; omega
          clear hown hfb hLe hbr hsz
          have HT2 := Lib.hid hT2
          clear hT2 hxo HT hcx hfx
          obtain ⟨bb, hcx⟩ : ∃ bb, (wr.drewN q).cell? ⟨s, x, none⟩ = some (.bool bb) := hcx0
          have hfx := hfx0
          have HZ3 : Hid (wr.heap.size = ((wr.drewN q).setCell ⟨s, x, none⟩ (.bool true)).heap.size) := Lib.hid (by simp)
          go_wp2_with (at_builtin; refine append_int _ (x : Int) rfl _ _ rfl (s + 1) u3 _ rfl hown2 (congrArg (fun n => Value.slice (some ⟨n, 0, none⟩) 1 1) HZ3.out) hlk hsz2 ?_; intro v3 w3 hown3 hb3)
          go_roundw
          case rel =>
            refine ⟨os ++ [x], ?_, HT2.out, by simpa using hown3, hfb2.below hb3 (by omega), hbr2.trans (hb3.mono (by omega))⟩
            rw [List.length_append, HK0.out]
            go_num
          case measure => simp [intOf]; omega
    · have hltz : ¬ (os.length : Int) < (n : Int) := by omega
      have hn : os.length = n := by omega
      go_wp2_with fail
      go_ret
      exact ⟨_, os, rfl, HT.out.done (by rw [HL.out]; exact hn), by rw [HS.out]; exact hown, by rw [HS.out]; exact hb2.trans hbr⟩

end Go.Proofs.Ytbhdolghokhfnaa
