/-
  Walks: the law FixedOrder.
-/
import Derived.Test.YtpelapdadgmlkaaBack
import Derived.StillTailTactics
import Derived.Deep.RegionHeld3
namespace Go.Proofs.Ytpelapdadgmlkaa
open Go.RowKit

/-! Plain. -/
def ordB (L : List Int) (fr k : Nat) : List Int := (List.range k).map fun i => L.getD ((fr + i) % L.length) 0
def ordC (L : List Int) (k : Nat) : List Int := (List.range k).flatMap fun i => [L.getD i 0, -L.getD (L.length - 1 - i) 0]
theorem ordB_succ (L : List Int) (fr k : Nat) : ordB L fr (k + 1) = ordB L fr k ++ [L.getD ((fr + k) % L.length) 0] := by simp [ordB, List.range_succ]
theorem ordC_succ (L : List Int) (k : Nat) : ordC L (k + 1) = ordC L k ++ [L.getD k 0, -L.getD (L.length - 1 - k) 0] := by simp [ordC, List.range_succ, List.flatMap_append]
theorem ordB_len (L : List Int) (fr k : Nat) : (ordB L fr k).length = k := by simp [ordB]
theorem ordC_len (L : List Int) : ∀ k, (ordC L k).length = k * 2
  | 0 => rfl
  | k + 1 => by rw [ordC_succ, List.length_append, ordC_len L k]; simp; omega
theorem ordB_all (L : List Int) {fr : Nat} (h : fr < L.length) : ordB L fr L.length = L.drop fr ++ L.take fr := by
  refine List.ext_getElem (by simp [ordB]; omega) fun i h1 h2 => ?_
  have hi : i < L.length := by simpa [ordB] using h1
  simp only [ordB, List.getElem_map, List.getElem_range]
  rcases Nat.lt_or_ge i (L.length - fr) with h3 | h3
  · rw [List.getElem_append_left (by simp; omega), List.getElem_drop, Nat.mod_eq_of_lt (by omega)]
    simp [List.getD, show fr + i < L.length by omega]
  · rw [List.getElem_append_right (by simp; omega), List.getElem_take]
    have e : (fr + i) % L.length = i - (L.length - fr) := by
      rw [show fr + i = (i - (L.length - fr)) + L.length by omega, Nat.add_mod_right, Nat.mod_eq_of_lt (by omega)]
    simp [List.getD, e, show i - (L.length - fr) < L.length by omega]
theorem ordB_sum (L : List Int) {fr : Nat} (h : fr < L.length) : (ordB L fr L.length).sum = L.sum := by
  rw [ordB_all L h, List.sum_append, Int.add_comm, ← List.sum_append, List.take_append_drop]
theorem ordC_sum_to (L : List Int) : ∀ k, k ≤ L.length → (ordC L k).sum = (L.take k).sum - (L.reverse.take k).sum
  | 0, _ => by simp [ordC]
  | k + 1, h => by
    rw [ordC_succ, List.sum_append, ordC_sum_to L k (by omega), take_sum L k h, take_sum L.reverse k (by rw [List.length_reverse]; exact h), List.getElem_reverse]
    simp [List.getD, show k < L.length by omega, show L.length - 1 - k < L.length by omega]
    omega
theorem ordC_sum (L : List Int) : (ordC L L.length).sum = 0 := by
  rw [ordC_sum_to L _ (Nat.le_refl _), List.take_of_length_le (Nat.le_refl _), List.take_of_length_le (by simp), List.sum_reverse]
  omega
theorem getD_fit {L : List Int} (h : L.all fit = true) (i : Nat) : fit (L.getD i 0) = true := by
  rcases Nat.lt_or_ge i L.length with hi | hi
  · rw [List.getD, List.getElem?_eq_getElem hi]
    exact List.all_eq_true.1 h _ (List.getElem_mem hi)
  · rw [List.getD, List.getElem?_eq_none hi]
    rfl
theorem ordB_fit {L : List Int} (h : L.all fit = true) (fr k : Nat) : (ordB L fr k).all fit = true :=
  List.all_eq_true.2 fun x hx => by
    obtain ⟨i, _, rfl⟩ := List.mem_map.1 hx
    exact getD_fit h _
theorem ordC_fit {L : List Int} (h : L.all fit = true) : ∀ k, (ordC L k).all fit = true
  | 0 => rfl
  | k + 1 => by
    rw [ordC_succ, List.all_append, ordC_fit h k]
    simp only [List.all_cons, List.all_nil, fit_neg, getD_fit h, Bool.and_true]
theorem addR_of {zs : List Int} (h : zs.all fit = true) : addR zs = if fit zs.sum = true then (zs.sum, 0) else (0, 10) := by
  unfold addR
  cases hf : fit zs.sum with
  | true => rw [if_pos rfl]; exact told_yes h hf
  | false => rw [if_neg (by simp)]; exact told_no2 hf

/-! Rows of the call's own beside one another. -/
def Apart (v u : Value) : Prop := ∀ g, v.ownBlock = some g → u.ownBlock ≠ some g
theorem Apart.nil_ (u : Value) : Apart (.slice none 0 0) u := fun g h => by cases h
theorem Apart.symm {v u : Value} (h : Apart v u) : Apart u v := fun g h1 h2 => h g h2 h1
theorem Owns.kept_ {w w' : World} {base : Nat} {v u : Value} {zs : List Int} (h : Owns w base u zs) (hg : w.grownBy w' v.ownBlock) (ha : Apart v u) : Owns w' base u zs := by
  refine World.ownsRow.kept h hg ?_
  cases hu : u.ownBlock with
  | none => exact .inl rfl
  | some g => exact .inr fun e => ha g e.symm hu
theorem Apart.turned {w : World} {base n : Nat} {v v' u : Value} {zs : List Int} (h : Apart v u) (hu : Owns w base u zs) (hn : w.heap.size ≤ n) (hv : v'.ownBlock = v.ownBlock ∨ v'.ownBlock = some n) : Apart v' u := by
  intro g h1 h2
  rcases hv with e | e
  · rw [e] at h1
    exact h g h1 h2
  · rw [e] at h1
    cases h1
    have := (Owns.lt hu n h2).2
    omega

/-- 'out = append(out, ..)' of some ints that lie in a new block: which block has turned, and where the new row lies. -/
theorem append_news {ops : Array Oper} {rest : List Oper} {o : Oper} {a : Act} {Q : Exit → Act → World → Prop} (w : World) (xs : List Int) (cs : Array Value) (hcs : cs = (xs.map (Value.int .i64)).toArray) (m : Nat) (hm : m = xs.length) (hgd : o.guard = none) (s x : Operand)
    (ho : o.op = .call { callee := .builtin .append, args := #[s, x], argTypes := #[22, 22] })
    (base : Nat) (v : Value) (zs : List Int) (hs : a.eval s = v) (hown : Owns w base v zs)
    (hx : a.eval x = .slice (some ⟨w.heap.size, 0, none⟩) m m)
    (h47 : zs.length + xs.length ≤ 1000000) (hbase : base ≤ w.heap.size)
    (h : ∀ v' w', Owns w' base v' (zs ++ xs) → w.grownBy w' v.ownBlock → (v'.ownBlock = v.ownBlock ∨ v'.ownBlock = some (w.heap.size + 1)) → wpList Try.prog ops Q rest (a.put o.dst v') w') : wpList Try.prog ops Q (o :: rest) a (w.alloc (.cells cs 3)) := by
  subst hcs hm
  obtain ⟨i0, hi0, hz0, hz1, hz2⟩ := info_parts Try.infoInt
  obtain ⟨A, c, e, hc, hr⟩ := Ints.built w xs 3
  injection e with e1 e2 e3
  subst e1 e3
  refine wpList_append_any _ hgd s x _ ho base 3 i0 _ 1 8 Try.underlying22 hi0 hz0 hz1 hz2 rfl (by omega) v _ _ hs (hown.alloc _) _ _ _ _ _ hx hr (oneCell_ints xs) (by simp only [maxLen]; omega) (by omega) (by simp; omega) ?_
  intro v' w' h1 h2 h3
  refine h v' w' (by simpa [Owns] using h1) ⟨h2.os, h2.tape, h2.output, Nat.le_trans (by simp) h2.size, fun i hi hne => (h2.block i (by simp; omega) hne).trans (Below.heap_alloc w _ i hi)⟩ ?_
  rwa [World.size_alloc] at h3

theorem step_append_news {ops : Array Oper} {o : Oper} {a : Act} {K : Act → World → Prop} {Q : Exit → Act → World → Prop} {E : Prop} (w : World) (xs : List Int) (cs : Array Value) (hcs : cs = (xs.map (Value.int .i64)).toArray) (m : Nat) (hm : m = xs.length) (hgd : o.guard = none) (s x : Operand)
    (ho : o.op = .call { callee := .builtin .append, args := #[s, x], argTypes := #[22, 22] })
    (base : Nat) (v : Value) (zs : List Int) (hs : a.eval s = v) (hown : Owns w base v zs)
    (hx : a.eval x = .slice (some ⟨w.heap.size, 0, none⟩) m m)
    (h47 : zs.length + xs.length ≤ 1000000) (hbase : base ≤ w.heap.size)
    (h : ∀ v' w', Owns w' base v' (zs ++ xs) → w.grownBy w' v.ownBlock → (v'.ownBlock = v.ownBlock ∨ v'.ownBlock = some (w.heap.size + 1)) → K (a.put o.dst v') w') :
    if Region.wanted o (yielded ops a.tmps) = true then Oper.wp Try.prog o a (w.alloc (.cells cs 3)) K Q else E := by
  subst hcs hm
  obtain ⟨i0, hi0, hz0, hz1, hz2⟩ := info_parts Try.infoInt
  obtain ⟨A, c, e, hc, hr⟩ := Ints.built w xs 3
  injection e with e1 e2 e3
  subst e1 e3
  refine step_append_any _ hgd s x _ ho base 3 i0 _ 1 8 Try.underlying22 hi0 hz0 hz1 hz2 rfl (by omega) v _ _ hs (hown.alloc _) _ _ _ _ _ hx hr (oneCell_ints xs) (by simp only [maxLen]; omega) (by omega) (by simp; omega) ?_
  intro v' w' h1 h2 h3
  refine h v' w' (by simpa [Owns] using h1) ⟨h2.os, h2.tape, h2.output, Nat.le_trans (by simp) h2.size, fun i hi hne => (h2.block i (by simp; omega) hne).trans (Below.heap_alloc w _ i hi)⟩ ?_
  rwa [World.size_alloc] at h3

def OrdA (L : List Int) (fr base : Nat) (w1 : World) (a b c i : Value) (wr : World) : Prop :=
  ∃ k : Nat, k ≤ L.length ∧ i = .int .i64 k ∧ (Owns wr base a (L.take k) ∧ Owns wr base b (ordB L fr k) ∧ Owns wr base c (ordC L k)) ∧ (Apart a b ∧ Apart a c ∧ Apart b c) ∧ Below base w1 wr

set_option maxRecDepth 100000 in
set_option maxHeartbeats 4000000 in
theorem order_main (v : Value) (ws : List Int) (from_ : Int) (w : World) (h : Ints w w.heap.size v ws) (h0 : 0 < ws.length) (hl : ws.length ≤ 500) :
    LawReturns 20 #[v, .int .i64 from_] w := by
  unfold LawReturns
  obtain ⟨L, hL⟩ : ∃ L, ws.map lenOf = L := ⟨_, rfl⟩
  have hLl : L.length = ws.length := by rw [← hL]; simp
  have hLf : L.all fit = true := by
    rw [← hL]
    refine List.all_eq_true.2 fun x hx => ?_
    obtain ⟨y, _, rfl⟩ := List.mem_map.1 hx
    exact lenOf_fit y
  have hLa : ∀ i (hi : i < ws.length), lenOf ws[i] = L.getD i 0 := fun i hi => by
    rw [← hL]
    simp [List.getD, hi]
  have HLL := Lib.hid hLl
  have HLA := Lib.hid hLa
  have HLF := Lib.hid hLf
  clear hL hLa hLf hLl
  obtain ⟨A, c, rfl, hc, hr⟩ := h
  have t0 : ((ws.length : Int) == 0) = false := beq_eq_false_iff_ne.2 (by omega)
  have t1 : ¬ (ws.length : Int) = 0 := by omega
  have t2 : decide ((500 : Int) < (ws.length : Int)) = false := by simp; omega
  have t3 : decide (500 < ws.length) = false := by simp; omega
  obtain ⟨fr, hfr, hfw⟩ : ∃ fr : Nat, fr < ws.length ∧ wrap64 ((IntKind.u64.wrap from_).tmod (ws.length : Int)) = (fr : Int) := by
    have hu : 0 ≤ IntKind.u64.wrap from_ := by rw [IntKind.wrap_u64]; omega
    have h1 := Int.emod_lt_of_pos (IntKind.u64.wrap from_) (show (0 : Int) < ws.length by omega)
    have h2 := Int.emod_nonneg (IntKind.u64.wrap from_) (show (ws.length : Int) ≠ 0 by omega)
    rw [Int.tmod_eq_emod_of_nonneg hu]
    generalize IntKind.u64.wrap from_ % (ws.length : Int) = q at *
    exact ⟨q.toNat, by omega, by unfold wrap64; omega⟩
  go_enter Try.func20, Try.ntmps20
  go_wp2_with fail
  refine (awake01 _).mono ?_
  rintro e w1 ⟨rfl, h1⟩
  have hr1 := hr.below h1
  clear hr
  go_wp2_with fail
  rw [hfw]
  have HFW := Lib.hid hfw
  clear hfw
  go_loopw [7, 8, 9, 10] (OrdA L fr w.heap.size w1) (fun _ _ _ i _ => ws.length - (intOf i).toNat)
  case atStart => exact ⟨0, by omega, rfl, ⟨Owns.nil _ _, Owns.nil _ _, Owns.nil _ _⟩, ⟨Apart.nil_ _, Apart.nil_ _, Apart.nil_ _⟩, Below.refl _ _⟩
  case round =>
    obtain ⟨k, hk, rfl, ⟨oa, ob, oc⟩, ⟨ab, ac, bc⟩, hbr⟩ := hrel
    rw [HLL.out] at hk
    have hbase : w.heap.size ≤ wr.heap.size := Nat.le_trans h1.size hbr.size
    by_cases hlt : k < ws.length
    · have hr2 := hr1.below hbr
      obtain ⟨ad, rfl, hbb, hcell⟩ := hr2.val hlt
      have e1 := fun W => length_any ws[k] W
      rw [HLA.out k hlt] at e1
      have hj : (fr + k) % ws.length < ws.length := Nat.mod_lt _ h0
      have e2 := fun W => length_any ws[(fr + k) % ws.length] W
      rw [HLA.out _ hj] at e2
      have hjw : ((fr : Int) + k) % (ws.length : Int) = (((fr + k) % ws.length : Nat) : Int) := by rw [← Int.natCast_add, ← Int.natCast_emod]
      obtain ⟨_, e', _, hcell2⟩ := hr2.val hj
      cases e'
      have hkn : ws.length - 1 - k < ws.length := by omega
      have e3 := fun W => length_any ws[ws.length - 1 - k] W
      rw [HLA.out _ hkn] at e3
      obtain ⟨_, e', _, hcell3⟩ := hr2.val hkn
      cases e'
      have fb1 := (fit_iff _).1 (getD_fit HLF.out k)
      have fb2 := (fit_iff _).1 (getD_fit HLF.out ((fr + k) % ws.length))
      have fb3 := (fit_iff _).1 (getD_fit HLF.out (ws.length - 1 - k))
      have HB := Lib.hid (ordB_succ L fr k)
      have HC := Lib.hid (ordC_succ L k)
      have HA := Lib.hid (show L.take (k + 1) = L.take k ++ [L.getD k 0] by
        rw [List.take_succ_eq_append_getElem (by rw [HLL.out]; exact hlt), List.getD, List.getElem?_eq_getElem (by rw [HLL.out]; exact hlt)]
        rfl)
      rw [HLL.out] at HB HC
      generalize L.getD k 0 = x1 at *
      generalize L.getD ((fr + k) % ws.length) 0 = x2 at *
      generalize L.getD (ws.length - 1 - k) 0 = x3 at *
      generalize ws[k] = y1 at *
      generalize ws[(fr + k) % ws.length] = y2 at *
      generalize ws[ws.length - 1 - k] = y3 at *
      generalize hJ : (fr + k) % ws.length = j at *
      clear hJ
      have la : (L.take k).length + [x1].length ≤ 1000000 := by simp; omega
      have lb : (ordB L fr k).length + [x2].length ≤ 1000000 := by simp [ordB_len]; omega
      have lc : (ordC L k).length + [x1, -x3].length ≤ 1000000 := by simp [ordC_len]; omega
      go_wp2_with fail
      refine (e1 _).mono ?_
      rintro e w2 ⟨rfl, rfl⟩
      go_wp2_with (at_builtin; refine append_news _ [x1] _ rfl 1 rfl rfl _ _ rfl w.heap.size u7 (L.take k) rfl oa rfl la hbase ?_; intro va wa oa1 ga hva; have hb1 : Below w.heap.size wr wa := (Below.refl _ wr).grown ga hbase (fun g e => (oa.lt g e).1); have ob1 := ob.kept_ ga ab; have oc1 := oc.kept_ ga ac; have ab1 := ab.turned ob (Nat.le_succ _) hva; have ac1 := ac.turned oc (Nat.le_succ _) hva; have hbase1 := Nat.le_trans hbase hb1.size; have k2 := (hb1.cell (p := ad.add j) (by rw [block_of_add]; exact hbb)).trans hcell2; have k3 := (hb1.cell (p := ad.add (ws.length - 1 - k)) (by rw [block_of_add]; exact hbb)).trans hcell3; have k1 := (hb1.cell (p := ad.add k) (by rw [block_of_add]; exact hbb)).trans hcell; clear hcell hcell2 hcell3 ga hva oa ob oc ab ac)
      refine (e2 _).mono ?_
      rintro e w2 ⟨rfl, rfl⟩
      go_wp2_with (at_builtin; refine append_news _ [x2] _ rfl 1 rfl rfl _ _ rfl w.heap.size u8 (ordB L fr k) rfl ob1 rfl lb hbase1 ?_; intro vb wb ob2 gb hvb)
      have hb2 : Below w.heap.size wa wb := (Below.refl _ wa).grown gb hbase1 (fun g e => (ob1.lt g e).1)
      have oa2 := oa1.kept_ gb ab1.symm
      have oc2 := oc1.kept_ gb bc
      have ab2 := (ab1.symm.turned oa1 (Nat.le_succ _) hvb).symm
      have bc2 := bc.turned oc1 (Nat.le_succ _) hvb
      have hbase2 := Nat.le_trans hbase1 hb2.size
      have k12 := (hb2.cell (p := ad.add k) (by rw [block_of_add]; exact hbb)).trans k1
      have k32 := (hb2.cell (p := ad.add (ws.length - 1 - k)) (by rw [block_of_add]; exact hbb)).trans k3
      clear k1 k2 k3 gb hvb oa1 ob1 oc1 ab1
      obtain ⟨W, hW⟩ : ∃ W, wb = W := ⟨_, rfl⟩
      have w1c : W.cell? (ad.add k) = some (.int .i64 y1) := by rw [← hW]; exact k12
      have w3c : W.cell? (ad.add (ws.length - 1 - k)) = some (.int .i64 y3) := by rw [← hW]; exact k32
      have oa3 : Owns W w.heap.size va (L.take k ++ [x1]) := by rw [← hW]; exact oa2
      have ob3 : Owns W w.heap.size vb (ordB L fr k ++ [x2]) := by rw [← hW]; exact ob2
      have oc3 : Owns W w.heap.size u9 (ordC L k) := by rw [← hW]; exact oc2
      have hbW : Below w.heap.size w1 W := by rw [← hW]; exact hbr.trans (hb1.trans hb2)
      have hbase3 : w.heap.size ≤ W.heap.size := by rw [← hW]; exact hbase2
      have HW := Lib.hid hW; clear hW
      clear oa2 ob2 oc2 k12 k32
      have hi1 : IntKind.i64.wrap ((ws.length : Int) - 1) = (ws.length : Int) - 1 := by rw [IntKind.wrap_i64]; omega
      have hi2 : IntKind.i64.wrap ((ws.length : Int) - 1 - k) = ((ws.length - 1 - k : Nat) : Int) := by rw [IntKind.wrap_i64]; omega
      have hi3 : IntKind.i64.wrap (-x3) = -x3 := by rw [IntKind.wrap_i64]; omega
      generalize ws.length - 1 - k = j3 at *
      go_wp2_with fail
      rw [HW.out]
      go_region_held3 (fun w' => w'.cell? (ad.add k) = some (.int .i64 y1) ∧ w'.cell? (ad.add j3) = some (.int .i64 y3)) (go_keep)
        (first | (go_at_call 80; with_reducible refine (e1 _).mono ?_; rintro e w5 ⟨rfl, rfl⟩) | (go_at_call 80; with_reducible refine (e3 _).mono ?_; rintro e w5 ⟨rfl, rfl⟩) | (refine step_append_news _ [x1, -x3] _ (by rfl) 2 (by rfl) (by rfl) _ _ (by rfl) w.heap.size u9 (ordC L k) (by rfl) (oc3.drewN 1) (by rfl) lc hbase3 ?_; intro vc wc oc4 gc hvc; have Hvc := Lib.hid hvc; clear hvc; have hb3 : Below w.heap.size W wc := (below_drewN (Below.refl _ W) 1).grown gc hbase3 (fun g e => (oc3.lt g e).1); have kc1 := (hb3.cell (p := ad.add k) (by rw [block_of_add]; exact hbb)).trans w1c; have kc3 := (hb3.cell (p := ad.add j3) (by rw [block_of_add]; exact hbb)).trans w3c))
      have gc' : W.grownBy wc u9.ownBlock := ⟨gc.os, gc.tape, gc.output, gc.size, gc.block⟩
      have oa4 := oa3.kept_ gc' ac1.symm
      have ob4 := ob3.kept_ gc' bc2.symm
      have ac3 := (ac1.symm.turned oa3 (Nat.le_succ _) Hvc.out).symm
      have bc3 := (bc2.symm.turned ob3 (Nat.le_succ _) Hvc.out).symm
      go_wp2_with fail
      go_roundw
      case rel => exact ⟨k + 1, by rw [HLL.out]; exact hlt, by go_num, ⟨by rw [HA.out]; exact oa4, by rw [HB.out]; exact ob4, by rw [HC.out]; exact oc4⟩, ⟨ab2, ac3, bc3⟩, hbW.trans hb3⟩
      case measure => simp [intOf]; omega
    · obtain rfl : k = ws.length := by omega
      have hA : L.take ws.length = L := List.take_of_length_le (by rw [HLL.out]; omega)
      rw [hA] at oa
      have sB : (ordB L fr ws.length).sum = L.sum := by rw [← HLL.out]; exact ordB_sum L (by rw [HLL.out]; exact hfr)
      have sC : (ordC L ws.length).sum = 0 := by rw [← HLL.out]; exact ordC_sum L
      have rA := addR_of HLF.out
      have rB := addR_of (ordB_fit HLF.out fr ws.length)
      have rC := addR_of (ordC_fit HLF.out ws.length)
      rw [sB] at rB
      rw [sC, if_pos (show fit 0 = true from rfl)] at rC
      have lA : L.length ≤ 1048576 := by rw [HLL.out]; omega
      have lB : (ordB L fr ws.length).length ≤ 1048576 := by rw [ordB_len]; omega
      have lC : (ordC L ws.length).length ≤ 1048576 := by rw [ordC_len]; omega
      have fA := add_any L _ _ wr oa.ints lA
      have fB := fun W (hb : Below wr.heap.size wr W) => add_any _ _ _ W (ob.ints.below hb) lB
      have fC := fun W (hb : Below wr.heap.size wr W) => add_any _ _ _ W (oc.ints.below hb) lC
      rw [rA] at fA
      rw [rB] at fB
      rw [rC] at fC
      have hb0 := h1.trans hbr
      obtain ⟨_, _, rfl, _, _⟩ := oa.ints
      obtain ⟨_, _, rfl, _, _⟩ := ob.ints
      obtain ⟨_, _, rfl, _, _⟩ := oc.ints
      clear oa ob oc ab ac bc sB sC rA rB rC lA lB lC hA
      generalize L.sum = S at *
      cases hS : fit S with
      | true =>
        rw [hS] at fA fB
        clear hS
        simp only [if_true] at fA fB
        go_wp2_with fail
        refine fA.mono ?_
        rintro e w2 ⟨rfl, hb2⟩
        go_wp2_with fail
        refine (fB w2 hb2).mono ?_
        rintro e w3 ⟨rfl, hb3⟩
        go_wp2_with fail
        refine (fC w3 (below2 hb2 hb3)).mono ?_
        rintro e w4 ⟨rfl, hb4⟩
        go_wp2_with fail
        go_ret
        exact ⟨by simp, hb0.trans ((below2 (below2 hb2 hb3) hb4).mono hbase)⟩
      | false =>
        rw [hS] at fA fB
        clear hS
        simp only [Bool.false_eq_true, if_false] at fA fB
        go_wp2_with fail
        refine fA.mono ?_
        rintro e w2 ⟨rfl, hb2⟩
        go_wp2_with fail
        refine (fB w2 hb2).mono ?_
        rintro e w3 ⟨rfl, hb3⟩
        go_wp2_with fail
        refine (fC w3 (below2 hb2 hb3)).mono ?_
        rintro e w4 ⟨rfl, hb4⟩
        go_wp2_with fail
        go_ret
        exact ⟨by simp, hb0.trans ((below2 (below2 hb2 hb3) hb4).mono hbase)⟩

set_option maxRecDepth 100000 in
theorem fixedOrder_walk (v : Value) (ws : List Int) (from_ : Int) (w : World) (h : Ints w w.heap.size v ws) (hl : ws.length ≤ 17592186044416) :
    LawReturns 20 #[v, .int .i64 from_] w := by
  have early : ws.length = 0 ∨ 500 < ws.length → LawReturns 20 #[v, .int .i64 from_] w := by
    intro hc
    unfold LawReturns
    obtain ⟨A, c, rfl, _, hr⟩ := h
    have fN := fun W => add_any [] (.slice none 0 0) 0 W (Ints.nil _ _) (by simp)
    rw [show addR [] = (0, 0) from by decide] at fN
    rcases hc with g1 | g1
    · rw [g1]
      clear g1
      go_enter Try.func20, Try.ntmps20
      go_wp2_with fail
      refine (awake01 _).mono ?_
      rintro e w1 ⟨rfl, h1⟩
      go_wp2_with fail
      refine (fN _).mono ?_
      rintro e w2 ⟨rfl, h2⟩
      go_wp2_with fail
      go_ret
      exact ⟨rfl, below2 h1 h2⟩
    · have t0 : ((ws.length : Int) == 0) = false := beq_eq_false_iff_ne.2 (by omega)
      go_enter Try.func20, Try.ntmps20
      go_wp2_with fail
      refine (awake01 _).mono ?_
      rintro e w1 ⟨rfl, h1⟩
      go_wp2_with fail
      refine (fN _).mono ?_
      rintro e w2 ⟨rfl, h2⟩
      go_wp2_with fail
      go_ret
      exact ⟨rfl, below2 h1 h2⟩
  by_cases h0 : ws.length = 0 ∨ 500 < ws.length
  · exact early h0
  · exact order_main v ws from_ w h (by omega) (by omega)

end Go.Proofs.Ytpelapdadgmlkaa
