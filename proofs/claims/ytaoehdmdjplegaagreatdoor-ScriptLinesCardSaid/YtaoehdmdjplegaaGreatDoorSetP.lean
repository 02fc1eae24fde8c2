/-
  Walks: script.set: what it writes, and what it throws (written by gen_set.py).
-/
import Derived.Test.YtaoehdmdjplegaaGreatDoorScrW
namespace Go.Proofs.YtaoehdmdjplegaaGreatDoor
open Go.RowKit Go.Shelf

/-- What a length's or a number's setting leaves. -/
def SetPost (o : Option Sty) (g : Nat) (w : World) (e : Ending) (w' : World) : Prop :=
  Kept [g] w w' ∧ (∀ s, o = some s → e = .returned (.tuple #[]) ∧ Blk w' g 28 (styC s).toArray) ∧ (o = none → e = .panicked wrongC)
theorem SetPost.bad {o : Option Sty} {g : Nat} {w w' : World} (h : o = none) (hk : Kept [g] w w') : SetPost o g w (.panicked wrongC) w' :=
  ⟨hk, fun s hs => (by rw [h] at hs; cases hs), fun _ => rfl⟩
theorem SetPost.ok {o : Option Sty} {s : Sty} {g : Nat} {w w' : World} (h : o = some s) (hk : Kept [g] w w') (hb : Blk w' g 28 (styC s).toArray) : SetPost o g w (.returned (.tuple #[])) w' :=
  ⟨hk, fun s' hs => (by rw [h] at hs; injection hs with hs; exact ⟨rfl, hs ▸ hb⟩), fun hn => (by rw [h] at hn; cases hn)⟩
/-- What lies in memory while a length is set. -/
structure SetM (g m kd : Nat) (n : Int) (s : Sty) (w0 w : World) : Prop where
  kp : Kept [g] w0 w
  st : Blk w g 28 (styC s).toArray
  le : Blk w m 24 [.int .u8 (kd : Int), .int .i64 n].toArray
  gm : g ≠ m
theorem SetM.more {g m kd : Nat} {n : Int} {s : Sty} {w0 w w' : World} (h : SetM g m kd n s w0 w) (hb : Below w.heap.size w w') : SetM g m kd n s w0 w' := ⟨h.kp.trans (Kept.of_below hb), h.st.below hb h.st.lt, h.le.below hb h.le.lt, h.gm⟩
theorem SetM.quiet {g m kd : Nat} {n : Int} {s : Sty} {w0 w : World} (h : SetM g m kd n s w0 w) (k : Nat) : SetM g m kd n s w0 (w.drewN k) := ⟨h.kp.drewN k, h.st, h.le, h.gm⟩
theorem SetM.first {g : Nat} {n : Int} {s : Sty} {w2 w3 w4 : World} (hb : Blk w2 g 28 (styC s).toArray) (hb3 : Below w2.heap.size w2 w3) (b4 : Blk w4 w3.heap.size 24 [.int .u8 1, .int .i64 n].toArray) (k4 : Kept [w3.heap.size] (w3.alloc (.cells [.int .u8 0, .int .i64 0].toArray 24)) w4) : SetM g w3.heap.size 1 n s w2 w4 := by
  have hb4 : Below w3.heap.size w3 w4 := (below_one _ _).trans (Kept.to_below k4 (by simp) (by simp))
  have h3 := hb.below hb3 hb.lt
  exact ⟨(Kept.of_below hb3).trans (Kept.of_below hb4), h3.below hb4 h3.lt, b4, Nat.ne_of_lt h3.lt⟩
theorem SetM.part {g m : Nat} {n : Int} {s : Sty} {w0 w w' : World} (h : SetM g m 1 n s w0 w) (b : Blk w' m 24 ([.int .u8 ((1 : Nat) : Int), .int .i64 n].set 0 (.int .u8 2)).toArray) (k : Kept [m] w w') (hm : w0.heap.size ≤ m := by omega) : SetM g m 2 n s w0 w' :=
  ⟨h.kp.then (k.to_below h.kp.size (by simpa using hm)), h.st.kept k (by simpa using h.gm), b, h.gm⟩
theorem ptr_len (g : Nat) (i : Fin 11) (W : World) : (Instr.index 107 (.agg (ptrsC g 0 lensO)) (.int .i64 ((i.val : Nat) : Int))).run Tryz.prog W = .ok (.pointer (some ⟨g, lensO.getD i.val 0, none⟩)) W := by
  have e0 : (Instr.index 107 (.agg (ptrsC g 0 lensO)) (.int .i64 ((0 : Nat) : Int))).run Tryz.prog W = .ok (.pointer (some ⟨g, lensO.getD 0 0, none⟩)) W := by kernel_rfl
  have e1 : (Instr.index 107 (.agg (ptrsC g 0 lensO)) (.int .i64 ((1 : Nat) : Int))).run Tryz.prog W = .ok (.pointer (some ⟨g, lensO.getD 1 0, none⟩)) W := by kernel_rfl
  have e2 : (Instr.index 107 (.agg (ptrsC g 0 lensO)) (.int .i64 ((2 : Nat) : Int))).run Tryz.prog W = .ok (.pointer (some ⟨g, lensO.getD 2 0, none⟩)) W := by kernel_rfl
  have e3 : (Instr.index 107 (.agg (ptrsC g 0 lensO)) (.int .i64 ((3 : Nat) : Int))).run Tryz.prog W = .ok (.pointer (some ⟨g, lensO.getD 3 0, none⟩)) W := by kernel_rfl
  have e4 : (Instr.index 107 (.agg (ptrsC g 0 lensO)) (.int .i64 ((4 : Nat) : Int))).run Tryz.prog W = .ok (.pointer (some ⟨g, lensO.getD 4 0, none⟩)) W := by kernel_rfl
  have e5 : (Instr.index 107 (.agg (ptrsC g 0 lensO)) (.int .i64 ((5 : Nat) : Int))).run Tryz.prog W = .ok (.pointer (some ⟨g, lensO.getD 5 0, none⟩)) W := by kernel_rfl
  have e6 : (Instr.index 107 (.agg (ptrsC g 0 lensO)) (.int .i64 ((6 : Nat) : Int))).run Tryz.prog W = .ok (.pointer (some ⟨g, lensO.getD 6 0, none⟩)) W := by kernel_rfl
  have e7 : (Instr.index 107 (.agg (ptrsC g 0 lensO)) (.int .i64 ((7 : Nat) : Int))).run Tryz.prog W = .ok (.pointer (some ⟨g, lensO.getD 7 0, none⟩)) W := by kernel_rfl
  have e8 : (Instr.index 107 (.agg (ptrsC g 0 lensO)) (.int .i64 ((8 : Nat) : Int))).run Tryz.prog W = .ok (.pointer (some ⟨g, lensO.getD 8 0, none⟩)) W := by kernel_rfl
  have e9 : (Instr.index 107 (.agg (ptrsC g 0 lensO)) (.int .i64 ((9 : Nat) : Int))).run Tryz.prog W = .ok (.pointer (some ⟨g, lensO.getD 9 0, none⟩)) W := by kernel_rfl
  have e10 : (Instr.index 107 (.agg (ptrsC g 0 lensO)) (.int .i64 ((10 : Nat) : Int))).run Tryz.prog W = .ok (.pointer (some ⟨g, lensO.getD 10 0, none⟩)) W := by kernel_rfl
  obtain ⟨i, hi⟩ := i
  have h : i = 0 ∨ i = 1 ∨ i = 2 ∨ i = 3 ∨ i = 4 ∨ i = 5 ∨ i = 6 ∨ i = 7 ∨ i = 8 ∨ i = 9 ∨ i = 10 := by omega
  rcases h with rfl | rfl | rfl | rfl | rfl | rfl | rfl | rfl | rfl | rfl | rfl
  · exact e0
  · exact e1
  · exact e2
  · exact e3
  · exact e4
  · exact e5
  · exact e6
  · exact e7
  · exact e8
  · exact e9
  · exact e10
theorem ptr_num (g : Nat) (i : Fin 16) (W : World) : (Instr.index 110 (.agg (ptrsC g 0 numsO)) (.int .i64 ((i.val : Nat) : Int))).run Tryz.prog W = .ok (.pointer (some ⟨g, numsO.getD i.val 0, none⟩)) W := by
  have e0 : (Instr.index 110 (.agg (ptrsC g 0 numsO)) (.int .i64 ((0 : Nat) : Int))).run Tryz.prog W = .ok (.pointer (some ⟨g, numsO.getD 0 0, none⟩)) W := by kernel_rfl
  have e1 : (Instr.index 110 (.agg (ptrsC g 0 numsO)) (.int .i64 ((1 : Nat) : Int))).run Tryz.prog W = .ok (.pointer (some ⟨g, numsO.getD 1 0, none⟩)) W := by kernel_rfl
  have e2 : (Instr.index 110 (.agg (ptrsC g 0 numsO)) (.int .i64 ((2 : Nat) : Int))).run Tryz.prog W = .ok (.pointer (some ⟨g, numsO.getD 2 0, none⟩)) W := by kernel_rfl
  have e3 : (Instr.index 110 (.agg (ptrsC g 0 numsO)) (.int .i64 ((3 : Nat) : Int))).run Tryz.prog W = .ok (.pointer (some ⟨g, numsO.getD 3 0, none⟩)) W := by kernel_rfl
  have e4 : (Instr.index 110 (.agg (ptrsC g 0 numsO)) (.int .i64 ((4 : Nat) : Int))).run Tryz.prog W = .ok (.pointer (some ⟨g, numsO.getD 4 0, none⟩)) W := by kernel_rfl
  have e5 : (Instr.index 110 (.agg (ptrsC g 0 numsO)) (.int .i64 ((5 : Nat) : Int))).run Tryz.prog W = .ok (.pointer (some ⟨g, numsO.getD 5 0, none⟩)) W := by kernel_rfl
  have e6 : (Instr.index 110 (.agg (ptrsC g 0 numsO)) (.int .i64 ((6 : Nat) : Int))).run Tryz.prog W = .ok (.pointer (some ⟨g, numsO.getD 6 0, none⟩)) W := by kernel_rfl
  have e7 : (Instr.index 110 (.agg (ptrsC g 0 numsO)) (.int .i64 ((7 : Nat) : Int))).run Tryz.prog W = .ok (.pointer (some ⟨g, numsO.getD 7 0, none⟩)) W := by kernel_rfl
  have e8 : (Instr.index 110 (.agg (ptrsC g 0 numsO)) (.int .i64 ((8 : Nat) : Int))).run Tryz.prog W = .ok (.pointer (some ⟨g, numsO.getD 8 0, none⟩)) W := by kernel_rfl
  have e9 : (Instr.index 110 (.agg (ptrsC g 0 numsO)) (.int .i64 ((9 : Nat) : Int))).run Tryz.prog W = .ok (.pointer (some ⟨g, numsO.getD 9 0, none⟩)) W := by kernel_rfl
  have e10 : (Instr.index 110 (.agg (ptrsC g 0 numsO)) (.int .i64 ((10 : Nat) : Int))).run Tryz.prog W = .ok (.pointer (some ⟨g, numsO.getD 10 0, none⟩)) W := by kernel_rfl
  have e11 : (Instr.index 110 (.agg (ptrsC g 0 numsO)) (.int .i64 ((11 : Nat) : Int))).run Tryz.prog W = .ok (.pointer (some ⟨g, numsO.getD 11 0, none⟩)) W := by kernel_rfl
  have e12 : (Instr.index 110 (.agg (ptrsC g 0 numsO)) (.int .i64 ((12 : Nat) : Int))).run Tryz.prog W = .ok (.pointer (some ⟨g, numsO.getD 12 0, none⟩)) W := by kernel_rfl
  have e13 : (Instr.index 110 (.agg (ptrsC g 0 numsO)) (.int .i64 ((13 : Nat) : Int))).run Tryz.prog W = .ok (.pointer (some ⟨g, numsO.getD 13 0, none⟩)) W := by kernel_rfl
  have e14 : (Instr.index 110 (.agg (ptrsC g 0 numsO)) (.int .i64 ((14 : Nat) : Int))).run Tryz.prog W = .ok (.pointer (some ⟨g, numsO.getD 14 0, none⟩)) W := by kernel_rfl
  have e15 : (Instr.index 110 (.agg (ptrsC g 0 numsO)) (.int .i64 ((15 : Nat) : Int))).run Tryz.prog W = .ok (.pointer (some ⟨g, numsO.getD 15 0, none⟩)) W := by kernel_rfl
  obtain ⟨i, hi⟩ := i
  have h : i = 0 ∨ i = 1 ∨ i = 2 ∨ i = 3 ∨ i = 4 ∨ i = 5 ∨ i = 6 ∨ i = 7 ∨ i = 8 ∨ i = 9 ∨ i = 10 ∨ i = 11 ∨ i = 12 ∨ i = 13 ∨ i = 14 ∨ i = 15 := by omega
  rcases h with rfl | rfl | rfl | rfl | rfl | rfl | rfl | rfl | rfl | rfl | rfl | rfl | rfl | rfl | rfl | rfl
  · exact e0
  · exact e1
  · exact e2
  · exact e3
  · exact e4
  · exact e5
  · exact e6
  · exact e7
  · exact e8
  · exact e9
  · exact e10
  · exact e11
  · exact e12
  · exact e13
  · exact e14
  · exact e15
theorem lensO_lt : ∀ i : Fin 11, lensO.getD i.val 0 + 2 ≤ 47 := by decide
theorem numsO_lt : ∀ i : Fin 16, numsO.getD i.val 0 < 47 := by decide
theorem suf_p (l : List UInt8) : Lib.hasSuffix l [112] = (partV l).2 ∧ Lib.trimSuffix l [112] = (partV l).1 := by
  have h : Lib.hasSuffix l [112] = decide (l.getLast? = some 112) := by
    unfold Lib.hasSuffix
    rw [List.isSuffixOf]
    cases hl : l.getLast? with
    | none =>
      rw [List.getLast?_eq_none_iff] at hl
      subst hl
      rfl
    | some c =>
      have : l.reverse.head? = some c := by rw [List.head?_reverse, hl]
      cases hr : l.reverse with
      | nil => rw [hr] at this; cases this
      | cons d r =>
        rw [hr] at this
        injection this with this
        subst this
        simp [List.isPrefixOf]
        by_cases h : (112 : UInt8) = d
        · simp [h]
        · simp [h, Ne.symm h]
  unfold Lib.trimSuffix partV
  rw [h]
  by_cases hl : l.getLast? = some 112
  · rw [if_pos hl, if_pos (by simpa using hl)]
    exact ⟨by simpa using hl, (List.dropLast_eq_take).symm⟩
  · rw [if_neg hl, if_neg (by simpa using hl)]
    exact ⟨by simpa using hl, rfl⟩
theorem cutsuf_p (V : List UInt8) (hV : V.length ≤ 5000) (W : World) : Calls Tryz.prog 51 #[.string (mkB V), .string ⟨#[112]⟩] W fun e w' => e = .returned (.tuple #[.string (mkB (partV V).1), .bool (partV V).2]) ∧ w' = W :=
  (Tryz.strings_CutSuffix (mkB V) ⟨#[112]⟩ W (by rw [mkB_size]; omega)).mono fun e w' ⟨h1, h2⟩ => ⟨by rw [h1]; show Ending.returned (.tuple #[.string ⟨(Lib.trimSuffix V [112]).toArray⟩, .bool (Lib.hasSuffix V [112])]) = _; rw [(suf_p V).1, (suf_p V).2]; rfl, h2⟩

set_option maxRecDepth 100000 in
set_option maxHeartbeats 8000000 in
theorem set_any (g : Nat) (s : Sty) (hs : s.Ok) (nm V : List UInt8) (hV : V.length ≤ 5000) (w : World) (hw : ScrW w) (hb : Blk w g 28 (styC s).toArray) :
    Calls Tryz.prog 49 #[.pointer (some ⟨g, 0, none⟩), .string (mkB nm), .string (mkB V)] w (SetPost (setP s nm V) g w) := by
  have hW1 : (partV V).1.length ≤ 5000 := by
    unfold partV
    split
    · simp; omega
    · exact hV
  by_cases hl : idxW lensT nm < 11
  · obtain ⟨i, hi⟩ : ∃ i : Fin 11, i.val = idxW lensT nm := ⟨⟨_, hl⟩, rfl⟩
    have HI := Lib.hid (show ∀ W, (∀ j, j < lensT.length → W.cell? ⟨1, j, none⟩ = some (.string (mkB (lensT.getD j [])))) → Calls Tryz.prog 47 #[.slice (some ⟨1, 0, none⟩) 11 11, .string (mkB nm)] W fun e w' => e = .returned (.int .i64 ((i.val : Nat) : Int)) ∧ w' = W from fun W h => by
      have := index_words 1 11 lensT nm (by decide) W h
      rw [idxV_hit (show idxW lensT nm < lensT.length from hl), ← hi] at this
      exact this)
    have HN := Lib.hid (number_any (mkB (partV V).1) (by rw [mkB_size]; exact hW1) w hw.num)
    have HC := Lib.hid (fun W => cutsuf_p V hV W)
    have HLW := Lib.hid hw.len
    have HSET := Lib.hid (show setP s nm V = (numP (partV V).1).map fun n => { s with lens := s.lens.set i.val (if (partV V).2 then 2 else 1, n) } by unfold setP; rw [if_pos hl, ← hi])
    have HG := Lib.hid (fun W => ptr_len g i W)
    have HO := Lib.hid (lensO_lt i)
    have HSL := Lib.hid (fun k n => styC_setLen hs.l i k n)
    have i0 : ¬ ((i.val : Nat) : Int) < 0 := by omega
    have i1 : ((i.val : Nat) : Int) < 11 := by have := i.isLt; omega
    clear hi hl
    generalize i.val = iv at *
    go_enter Tryz.func49, Tryz.ntmps49
    go_wp2_with fail
    refine (HI.out _ (fun j hj => HLW.out j hj)).mono ?_
    rintro e w1 ⟨rfl, rfl⟩
    go_wp2_with fail
    refine (HC.out _).mono ?_
    rintro e w2 ⟨rfl, rfl⟩
    go_wp2_with fail
    refine HN.out.mono ?_
    rintro e w3 ⟨hb3, hgood, hbad⟩
    rw [mkB_toList] at hgood hbad
    cases hnum : numP (partV V).1 with
    | none =>
      have := hbad hnum
      subst this
      exact ⟨rfl, SetPost.bad (by rw [HSET.out, hnum]; rfl) (Kept.of_below hb3)⟩
    | some n =>
      have := hgood n hnum
      subst this
      rw [hnum] at HSET
      clear hgood hbad hnum HN HC HI HLW hw
      obtain ⟨bb, hbv⟩ : ∃ b, b = (partV V).2 := ⟨_, rfl⟩
      rw [← hbv] at HSET ⊢
      clear hbv
      cases bb with
      | false =>
        go_upto_region 6 with (first | (refine wpList_store_blk rfl 24 _ _ rfl w3.heap.size 0 24 [.int .u8 0, .int .i64 0] [.int .u8 1, .int .i64 n] rfl (Blk.new w3 24 _) rfl (Nat.le_refl _) (by kernel_rfl) (two_cells _ _ rfl rfl) ?_; intro w4 b4 k4 z4; have hm : SetM g w3.heap.size 1 n s w2 w4 := SetM.first hb hb3 b4 k4; clear b4 k4 z4; simp only [Act.put]))
        refine wp_region_held_drew (S := fun w' => Blk w' w3.heap.size 24 [.int .u8 ((1 : Nat) : Int), .int .i64 n].toArray) (by kernel_rfl) (Blk.drew hm.le) (fun hHeld => ?_)
        have hm := hm.quiet 1
        refine wpAnyH_take (i := 0) (v := ?va1) rfl (by kernel_rfl) (by kernel_rfl) (by kernel_rfl) (fun _ _ _ h => h) (Or.inl ⟨by rfl, ?hya1⟩) (by assumption) ?resta1
        case hya1 => (intro w' hSw; have hp := HG.out w'; go_simp; try with_reducible rfl)
        case resta1 =>
        change wpAnyH _ _ _ _ _ _ _ (Act.put _ (some 26) _) _
        try simp only [Act.put, List.setIfInBounds_toArray, List.set_cons_zero, List.set_cons_succ]
        refine wpAnyH_take (i := 2) (v := ?va2) rfl (by kernel_rfl) (by kernel_rfl) (by kernel_rfl) (fun _ _ _ h => h) (Or.inl ⟨by rfl, ?hya2⟩) (by assumption) ?resta2
        case hya2 => (intro w' hSw; have hp := HG.out w'; go_simp; try with_reducible rfl)
        case resta2 =>
        change wpAnyH _ _ _ _ _ _ _ (Act.put _ (some 28) _) _
        try simp only [Act.put, List.setIfInBounds_toArray, List.set_cons_zero, List.set_cons_succ]
        refine' wpAnyH_take (i := 4) (v := _) rfl (by kernel_rfl) (by kernel_rfl) (by kernel_rfl) (fun _ _ _ h => h) (yieldsIf_load_mid (by rfl) _ _ rfl _ _ rfl [.int .u8 ((1 : Nat) : Int), .int .i64 n] _ (fun _ h => blk_range h (fun j v hv => by rw [Nat.zero_add]; exact hv)) Tryz.underlying24 rfl (by kernel_rfl)) (by assumption) ?_
        change wpAnyH _ _ _ _ _ _ _ (Act.put _ (some 30) _) _
        try simp only [Act.put, List.setIfInBounds_toArray, List.set_cons_zero, List.set_cons_succ]
        refine wpAnyH_ready (rs := [1]) (by kernel_rfl) (by simp) ?_
        refine AllReadyH.cons rfl (fun K hK => ?_) AllReadyH.nil
        go_simp
        go_at_call 56
        refine (lengths_of g 0 _).mono ?_
        rintro e5 w5 ⟨rfl, hb5⟩
        have hm := hm.more hb5
        refine hK.out _ _ hm.le (fun hHeld => ?_)
        clear hK K
        try change wpAnyH _ _ _ _ _ _ _ (Act.put _ (some 27) _) _
        try simp only [Act.put, List.setIfInBounds_toArray, List.set_cons_zero, List.set_cons_succ]
        refine wpAnyH_take (i := 3) (v := ?va3) rfl (by kernel_rfl) (by kernel_rfl) (by kernel_rfl) (fun _ _ _ h => h) (Or.inl ⟨by rfl, ?hya3⟩) (by assumption) ?resta3
        case hya3 => (intro w' hSw; have hp := HG.out w'; go_simp; try with_reducible rfl)
        case resta3 =>
        change wpAnyH _ _ _ _ _ _ _ (Act.put _ (some 29) _) _
        try simp only [Act.put, List.setIfInBounds_toArray, List.set_cons_zero, List.set_cons_succ]
        refine wpAnyH_take (i := 5) (v := ?va4) rfl (by kernel_rfl) (by kernel_rfl) (by kernel_rfl) (fun _ _ _ h => h) (Or.inl ⟨by rfl, ?hya4⟩) (by assumption) ?resta4
        case hya4 => (intro w' hSw; have hp := HG.out w'; go_simp; try with_reducible rfl)
        case resta4 =>
        change wpAnyH _ _ _ _ _ _ _ (Act.put _ (some 31) _) _
        try simp only [Act.put, List.setIfInBounds_toArray, List.set_cons_zero, List.set_cons_succ]
        refine wpAnyH_ready (rs := [6]) (by kernel_rfl) (by simp) ?_
        refine AllReadyH.cons rfl (fun K hK => ?_) AllReadyH.nil
        refine step_store_blk (by rfl) 24 _ _ (by rfl) g (lensO.getD iv 0) 28 (styC s) [.int .u8 ((1 : Nat) : Int), .int .i64 n] (by rfl) hm.st (by rfl) (by rw [styC_len]; exact HO.out) (by kernel_rfl) (two_cells _ _ rfl rfl) ?_
        intro w6 b6 k6 z6
        have hk6 : Kept [g] w2 w6 := hm.kp.trans k6
        refine hK.out _ _ (hm.le.kept k6 (by simpa using hm.gm.symm)) (fun hHeld => ?_)
        clear hK K
        try change wpAnyH _ _ _ _ _ _ _ (Act.put _ (none) _) _
        try simp only [Act.put]
        refine wpAnyH_done (by kernel_rfl) ?_ _
        go_wp2_with fail
        refine bodyPost_ret (results_none rfl _ _ _) rfl ?_
        exact SetPost.ok HSET.out hk6 (by rw [HSL.out] at b6; exact b6)
      | true =>
        go_upto_region 6 with (first | (refine wpList_store_blk rfl 24 _ _ rfl w3.heap.size 0 24 [.int .u8 0, .int .i64 0] [.int .u8 1, .int .i64 n] rfl (Blk.new w3 24 _) rfl (Nat.le_refl _) (by kernel_rfl) (two_cells _ _ rfl rfl) ?_; intro w4 b4 k4 z4; have hm : SetM g w3.heap.size 1 n s w2 w4 := SetM.first hb hb3 b4 k4; clear b4 k4 z4; simp only [Act.put]) | (refine wpList_store_one rfl 5 _ _ rfl w3.heap.size 0 24 _ (.int .u8 2) (by rfl) hm.le (by rfl) (by simp) (by rfl) (storeVar_u8 _ _ _ _) ?_; intro w4 b4 k4 z4; have hm : SetM g w3.heap.size 2 n s w2 w4 := hm.part b4 k4 hb3.size; clear b4 k4 z4; simp only [Act.put]))
        refine wp_region_held_drew (S := fun w' => Blk w' w3.heap.size 24 [.int .u8 ((2 : Nat) : Int), .int .i64 n].toArray) (by kernel_rfl) (Blk.drew hm.le) (fun hHeld => ?_)
        have hm := hm.quiet 1
        refine wpAnyH_take (i := 0) (v := ?vb1) rfl (by kernel_rfl) (by kernel_rfl) (by kernel_rfl) (fun _ _ _ h => h) (Or.inl ⟨by rfl, ?hyb1⟩) (by assumption) ?restb1
        case hyb1 => (intro w' hSw; have hp := HG.out w'; go_simp; try with_reducible rfl)
        case restb1 =>
        change wpAnyH _ _ _ _ _ _ _ (Act.put _ (some 26) _) _
        try simp only [Act.put, List.setIfInBounds_toArray, List.set_cons_zero, List.set_cons_succ]
        refine wpAnyH_take (i := 2) (v := ?vb2) rfl (by kernel_rfl) (by kernel_rfl) (by kernel_rfl) (fun _ _ _ h => h) (Or.inl ⟨by rfl, ?hyb2⟩) (by assumption) ?restb2
        case hyb2 => (intro w' hSw; have hp := HG.out w'; go_simp; try with_reducible rfl)
        case restb2 =>
        change wpAnyH _ _ _ _ _ _ _ (Act.put _ (some 28) _) _
        try simp only [Act.put, List.setIfInBounds_toArray, List.set_cons_zero, List.set_cons_succ]
        refine' wpAnyH_take (i := 4) (v := _) rfl (by kernel_rfl) (by kernel_rfl) (by kernel_rfl) (fun _ _ _ h => h) (yieldsIf_load_mid (by rfl) _ _ rfl _ _ rfl [.int .u8 ((2 : Nat) : Int), .int .i64 n] _ (fun _ h => blk_range h (fun j v hv => by rw [Nat.zero_add]; exact hv)) Tryz.underlying24 rfl (by kernel_rfl)) (by assumption) ?_
        change wpAnyH _ _ _ _ _ _ _ (Act.put _ (some 30) _) _
        try simp only [Act.put, List.setIfInBounds_toArray, List.set_cons_zero, List.set_cons_succ]
        refine wpAnyH_ready (rs := [1]) (by kernel_rfl) (by simp) ?_
        refine AllReadyH.cons rfl (fun K hK => ?_) AllReadyH.nil
        go_simp
        go_at_call 56
        refine (lengths_of g 0 _).mono ?_
        rintro e5 w5 ⟨rfl, hb5⟩
        have hm := hm.more hb5
        refine hK.out _ _ hm.le (fun hHeld => ?_)
        clear hK K
        try change wpAnyH _ _ _ _ _ _ _ (Act.put _ (some 27) _) _
        try simp only [Act.put, List.setIfInBounds_toArray, List.set_cons_zero, List.set_cons_succ]
        refine wpAnyH_take (i := 3) (v := ?vb3) rfl (by kernel_rfl) (by kernel_rfl) (by kernel_rfl) (fun _ _ _ h => h) (Or.inl ⟨by rfl, ?hyb3⟩) (by assumption) ?restb3
        case hyb3 => (intro w' hSw; have hp := HG.out w'; go_simp; try with_reducible rfl)
        case restb3 =>
        change wpAnyH _ _ _ _ _ _ _ (Act.put _ (some 29) _) _
        try simp only [Act.put, List.setIfInBounds_toArray, List.set_cons_zero, List.set_cons_succ]
        refine wpAnyH_take (i := 5) (v := ?vb4) rfl (by kernel_rfl) (by kernel_rfl) (by kernel_rfl) (fun _ _ _ h => h) (Or.inl ⟨by rfl, ?hyb4⟩) (by assumption) ?restb4
        case hyb4 => (intro w' hSw; have hp := HG.out w'; go_simp; try with_reducible rfl)
        case restb4 =>
        change wpAnyH _ _ _ _ _ _ _ (Act.put _ (some 31) _) _
        try simp only [Act.put, List.setIfInBounds_toArray, List.set_cons_zero, List.set_cons_succ]
        refine wpAnyH_ready (rs := [6]) (by kernel_rfl) (by simp) ?_
        refine AllReadyH.cons rfl (fun K hK => ?_) AllReadyH.nil
        refine step_store_blk (by rfl) 24 _ _ (by rfl) g (lensO.getD iv 0) 28 (styC s) [.int .u8 ((2 : Nat) : Int), .int .i64 n] (by rfl) hm.st (by rfl) (by rw [styC_len]; exact HO.out) (by kernel_rfl) (two_cells _ _ rfl rfl) ?_
        intro w6 b6 k6 z6
        have hk6 : Kept [g] w2 w6 := hm.kp.trans k6
        refine hK.out _ _ (hm.le.kept k6 (by simpa using hm.gm.symm)) (fun hHeld => ?_)
        clear hK K
        try change wpAnyH _ _ _ _ _ _ _ (Act.put _ (none) _) _
        try simp only [Act.put]
        refine wpAnyH_done (by kernel_rfl) ?_ _
        go_wp2_with fail
        refine bodyPost_ret (results_none rfl _ _ _) rfl ?_
        exact SetPost.ok HSET.out hk6 (by rw [HSL.out] at b6; exact b6)
  · by_cases hl2 : idxW numsT nm < 16
    · obtain ⟨i, hi⟩ : ∃ i : Fin 16, i.val = idxW numsT nm := ⟨⟨_, hl2⟩, rfl⟩
      have HI := Lib.hid (show ∀ W, (∀ j, j < lensT.length → W.cell? ⟨1, j, none⟩ = some (.string (mkB (lensT.getD j [])))) → Calls Tryz.prog 47 #[.slice (some ⟨1, 0, none⟩) 11 11, .string (mkB nm)] W fun e w' => e = .returned (.int .i64 (-1)) ∧ w' = W from fun W h => by
        have := index_words 1 11 lensT nm (by decide) W h
        rw [idxV_no (show ¬ idxW lensT nm < lensT.length from hl)] at this
        exact this)
      have HI2 := Lib.hid (show ∀ W, (∀ j, j < numsT.length → W.cell? ⟨2, j, none⟩ = some (.string (mkB (numsT.getD j [])))) → Calls Tryz.prog 47 #[.slice (some ⟨2, 0, none⟩) 16 16, .string (mkB nm)] W fun e w' => e = .returned (.int .i64 ((i.val : Nat) : Int)) ∧ w' = W from fun W h => by
        have := index_words 2 16 numsT nm (by decide) W h
        rw [idxV_hit (show idxW numsT nm < numsT.length from hl2), ← hi] at this
        exact this)
      have HLW := Lib.hid hw.len
      have HLN := Lib.hid hw.nms
      have HNW := Lib.hid hw.num
      have HSET := Lib.hid (show setP s nm V = (numP V).map fun n => { s with nums := s.nums.set i.val n } by unfold setP; rw [if_neg hl, if_pos hl2, ← hi])
      have HG := Lib.hid (fun W => ptr_num g i W)
      have HO := Lib.hid (numsO_lt i)
      have HSL := Lib.hid (fun n => styC_setNum hs.n i n)
      have i0 : ¬ ((i.val : Nat) : Int) < 0 := by omega
      have i1 : ((i.val : Nat) : Int) < 16 := by have := i.isLt; omega
      clear hi hl hl2 hw
      generalize i.val = iv at *
      cases hnum : numP V with
      | none =>
        rw [hnum] at HSET
        have HNUM := Lib.hid hnum
        clear hnum
        go_enter Tryz.func49, Tryz.ntmps49
        go_wp2_with fail
        refine (HI.out _ (fun j hj => HLW.out j hj)).mono ?_
        rintro e w1 ⟨rfl, rfl⟩
        go_wp2_with fail
        refine (HI2.out _ (fun j hj => HLN.out j hj)).mono ?_
        rintro e w2 ⟨rfl, rfl⟩
        go_wp2_with fail
        refine wp_region_held_drew (S := fun _ => True) (by kernel_rfl) trivial (fun hHeld => ?_)
        refine wpAnyH_take (i := 0) (v := ?vc1) rfl (by kernel_rfl) (by kernel_rfl) (by kernel_rfl) (fun _ _ _ h => h) (Or.inl ⟨by rfl, ?hyc1⟩) (by assumption) ?restc1
        case hyc1 => (intro w' hSw; have hp := HG.out w'; go_simp; try with_reducible rfl)
        case restc1 =>
        change wpAnyH _ _ _ _ _ _ _ (Act.put _ (some 39) _) _
        try simp only [Act.put, List.setIfInBounds_toArray, List.set_cons_zero, List.set_cons_succ]
        refine wpAnyH_take (i := 2) (v := ?vc2) rfl (by kernel_rfl) (by kernel_rfl) (by kernel_rfl) (fun _ _ _ h => h) (Or.inl ⟨by rfl, ?hyc2⟩) (by assumption) ?restc2
        case hyc2 => (intro w' hSw; have hp := HG.out w'; go_simp; try with_reducible rfl)
        case restc2 =>
        change wpAnyH _ _ _ _ _ _ _ (Act.put _ (some 41) _) _
        try simp only [Act.put, List.setIfInBounds_toArray, List.set_cons_zero, List.set_cons_succ]
        refine wpAnyH_take (i := 4) (v := ?vc3) rfl (by kernel_rfl) (by kernel_rfl) (by kernel_rfl) (fun _ _ _ h => h) (Or.inl ⟨by rfl, ?hyc3⟩) (by assumption) ?restc3
        case hyc3 => (intro w' hSw; have hp := HG.out w'; go_simp; try with_reducible rfl)
        case restc3 =>
        change wpAnyH _ _ _ _ _ _ _ (Act.put _ (some 43) _) _
        try simp only [Act.put, List.setIfInBounds_toArray, List.set_cons_zero, List.set_cons_succ]
        refine wpAnyH_ready (rs := [1]) (by kernel_rfl) (by simp) ?_
        refine AllReadyH.cons rfl (fun K hK => ?_) AllReadyH.nil
        go_simp
        go_at_call 57
        refine (numbers_of g 0 _).mono ?_
        rintro e5 w5 ⟨rfl, hb5⟩
        have hb5 : Below w2.heap.size w2 w5 := (below_drewN (Below.refl _ _) 1).trans hb5
        have hnw := HNW.out.below hb5 (Nat.le_refl _)
        have hst := hb.below hb5 hb.lt
        refine hK.out _ _ trivial (fun hHeld => ?_)
        clear hK K
        try change wpAnyH _ _ _ _ _ _ _ (Act.put _ (some 40) _) _
        try simp only [Act.put, List.setIfInBounds_toArray, List.set_cons_zero, List.set_cons_succ]
        refine wpAnyH_take (i := 3) (v := ?vc4) rfl (by kernel_rfl) (by kernel_rfl) (by kernel_rfl) (fun _ _ _ h => h) (Or.inl ⟨by rfl, ?hyc4⟩) (by assumption) ?restc4
        case hyc4 => (intro w' hSw; have hp := HG.out w'; go_simp; try with_reducible rfl)
        case restc4 =>
        change wpAnyH _ _ _ _ _ _ _ (Act.put _ (some 42) _) _
        try simp only [Act.put, List.setIfInBounds_toArray, List.set_cons_zero, List.set_cons_succ]
        refine wpAnyH_ready (rs := [5]) (by kernel_rfl) (by simp) ?_
        refine AllReadyH.cons rfl (fun K hK => ?_) AllReadyH.nil
        go_simp
        go_at_call 19
        refine (number_any (mkB V) (by rw [mkB_size]; exact hV) _ hnw).mono ?_
        rintro e6 w6 ⟨hb6, hgood, hbad⟩
        rw [mkB_toList] at hgood hbad
        have := hbad HNUM.out
        subst this
        exact ⟨rfl, SetPost.bad HSET.out ((Kept.of_below hb5).trans (Kept.of_below hb6))⟩
      | some n =>
        rw [hnum] at HSET
        have HNUM := Lib.hid hnum
        clear hnum
        go_enter Tryz.func49, Tryz.ntmps49
        go_wp2_with fail
        refine (HI.out _ (fun j hj => HLW.out j hj)).mono ?_
        rintro e w1 ⟨rfl, rfl⟩
        go_wp2_with fail
        refine (HI2.out _ (fun j hj => HLN.out j hj)).mono ?_
        rintro e w2 ⟨rfl, rfl⟩
        go_wp2_with fail
        refine wp_region_held_drew (S := fun _ => True) (by kernel_rfl) trivial (fun hHeld => ?_)
        refine wpAnyH_take (i := 0) (v := ?vd1) rfl (by kernel_rfl) (by kernel_rfl) (by kernel_rfl) (fun _ _ _ h => h) (Or.inl ⟨by rfl, ?hyd1⟩) (by assumption) ?restd1
        case hyd1 => (intro w' hSw; have hp := HG.out w'; go_simp; try with_reducible rfl)
        case restd1 =>
        change wpAnyH _ _ _ _ _ _ _ (Act.put _ (some 39) _) _
        try simp only [Act.put, List.setIfInBounds_toArray, List.set_cons_zero, List.set_cons_succ]
        refine wpAnyH_take (i := 2) (v := ?vd2) rfl (by kernel_rfl) (by kernel_rfl) (by kernel_rfl) (fun _ _ _ h => h) (Or.inl ⟨by rfl, ?hyd2⟩) (by assumption) ?restd2
        case hyd2 => (intro w' hSw; have hp := HG.out w'; go_simp; try with_reducible rfl)
        case restd2 =>
        change wpAnyH _ _ _ _ _ _ _ (Act.put _ (some 41) _) _
        try simp only [Act.put, List.setIfInBounds_toArray, List.set_cons_zero, List.set_cons_succ]
        refine wpAnyH_take (i := 4) (v := ?vd3) rfl (by kernel_rfl) (by kernel_rfl) (by kernel_rfl) (fun _ _ _ h => h) (Or.inl ⟨by rfl, ?hyd3⟩) (by assumption) ?restd3
        case hyd3 => (intro w' hSw; have hp := HG.out w'; go_simp; try with_reducible rfl)
        case restd3 =>
        change wpAnyH _ _ _ _ _ _ _ (Act.put _ (some 43) _) _
        try simp only [Act.put, List.setIfInBounds_toArray, List.set_cons_zero, List.set_cons_succ]
        refine wpAnyH_ready (rs := [1]) (by kernel_rfl) (by simp) ?_
        refine AllReadyH.cons rfl (fun K hK => ?_) AllReadyH.nil
        go_simp
        go_at_call 57
        refine (numbers_of g 0 _).mono ?_
        rintro e5 w5 ⟨rfl, hb5⟩
        have hb5 : Below w2.heap.size w2 w5 := (below_drewN (Below.refl _ _) 1).trans hb5
        have hnw := HNW.out.below hb5 (Nat.le_refl _)
        have hst := hb.below hb5 hb.lt
        refine hK.out _ _ trivial (fun hHeld => ?_)
        clear hK K
        try change wpAnyH _ _ _ _ _ _ _ (Act.put _ (some 40) _) _
        try simp only [Act.put, List.setIfInBounds_toArray, List.set_cons_zero, List.set_cons_succ]
        refine wpAnyH_take (i := 3) (v := ?vd4) rfl (by kernel_rfl) (by kernel_rfl) (by kernel_rfl) (fun _ _ _ h => h) (Or.inl ⟨by rfl, ?hyd4⟩) (by assumption) ?restd4
        case hyd4 => (intro w' hSw; have hp := HG.out w'; go_simp; try with_reducible rfl)
        case restd4 =>
        change wpAnyH _ _ _ _ _ _ _ (Act.put _ (some 42) _) _
        try simp only [Act.put, List.setIfInBounds_toArray, List.set_cons_zero, List.set_cons_succ]
        refine wpAnyH_ready (rs := [5]) (by kernel_rfl) (by simp) ?_
        refine AllReadyH.cons rfl (fun K hK => ?_) AllReadyH.nil
        go_simp
        go_at_call 19
        refine (number_any (mkB V) (by rw [mkB_size]; exact hV) _ hnw).mono ?_
        rintro e6 w6 ⟨hb6, hgood, hbad⟩
        rw [mkB_toList] at hgood hbad
        have := hgood n HNUM.out
        subst this
        have hst := hst.below hb6 hst.lt
        have hk6 : Kept [g] w2 w6 := (Kept.of_below hb5).trans (Kept.of_below hb6)
        refine hK.out _ _ trivial (fun hHeld => ?_)
        clear hK K
        try change wpAnyH _ _ _ _ _ _ _ (Act.put _ (some 44) _) _
        try simp only [Act.put, List.setIfInBounds_toArray, List.set_cons_zero, List.set_cons_succ]
        refine wpAnyH_take (i := 6) (v := ?vd5) rfl (by kernel_rfl) (by kernel_rfl) (by kernel_rfl) (fun _ _ _ h => h) (Or.inl ⟨by rfl, ?hyd5⟩) (by assumption) ?restd5
        case hyd5 => (intro w' hSw; have hp := HG.out w'; go_simp; try with_reducible rfl)
        case restd5 =>
        change wpAnyH _ _ _ _ _ _ _ (Act.put _ (some 45) _) _
        try simp only [Act.put, List.setIfInBounds_toArray, List.set_cons_zero, List.set_cons_succ]
        refine wpAnyH_ready (rs := [7]) (by kernel_rfl) (by simp) ?_
        refine AllReadyH.cons rfl (fun K hK => ?_) AllReadyH.nil
        refine step_store_one (by rfl) 3 _ _ (by rfl) g (numsO.getD iv 0) 28 (styC s) (.int .i64 n) (by rfl) hst (by rfl) (by rw [styC_len]; exact HO.out) (by rfl) (storeVar_int _ _ _ _) ?_
        intro w7 b7 k7 z7
        have hk7 : Kept [g] w2 w7 := hk6.trans k7
        refine hK.out _ _ trivial (fun hHeld => ?_)
        clear hK K
        try change wpAnyH _ _ _ _ _ _ _ (Act.put _ (none) _) _
        try simp only [Act.put]
        refine wpAnyH_done (by kernel_rfl) ?_ _
        go_wp2_with fail
        go_end0
        exact SetPost.ok HSET.out hk7 (by rw [HSL.out] at b7; exact b7)
    · have HSET := Lib.hid (show setP s nm V = none by unfold setP; rw [if_neg hl, if_neg hl2])
      have HI := Lib.hid (show ∀ W, (∀ j, j < lensT.length → W.cell? ⟨1, j, none⟩ = some (.string (mkB (lensT.getD j [])))) → Calls Tryz.prog 47 #[.slice (some ⟨1, 0, none⟩) 11 11, .string (mkB nm)] W fun e w' => e = .returned (.int .i64 (-1)) ∧ w' = W from fun W h => by
        have := index_words 1 11 lensT nm (by decide) W h
        rw [idxV_no (show ¬ idxW lensT nm < lensT.length from hl)] at this
        exact this)
      have HI2 := Lib.hid (show ∀ W, (∀ j, j < numsT.length → W.cell? ⟨2, j, none⟩ = some (.string (mkB (numsT.getD j [])))) → Calls Tryz.prog 47 #[.slice (some ⟨2, 0, none⟩) 16 16, .string (mkB nm)] W fun e w' => e = .returned (.int .i64 (-1)) ∧ w' = W from fun W h => by
        have := index_words 2 16 numsT nm (by decide) W h
        rw [idxV_no (show ¬ idxW numsT nm < numsT.length from hl2)] at this
        exact this)
      have HLW := Lib.hid hw.len
      have HLN := Lib.hid hw.nms
      clear hw hl hl2
      go_enter Tryz.func49, Tryz.ntmps49
      go_wp2_with fail
      refine (HI.out _ (fun j hj => HLW.out j hj)).mono ?_
      rintro e w1 ⟨rfl, rfl⟩
      go_wp2_with fail
      refine (HI2.out _ (fun j hj => HLN.out j hj)).mono ?_
      rintro e w2 ⟨rfl, rfl⟩
      go_wp2_with fail
      exact ⟨rfl, SetPost.bad HSET.out (Kept.refl _ _)⟩

end Go.Proofs.YtaoehdmdjplegaaGreatDoor
