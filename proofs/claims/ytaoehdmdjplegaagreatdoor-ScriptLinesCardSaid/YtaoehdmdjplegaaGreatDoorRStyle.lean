/-
  Walks: windowpaneref32.Style: what it answers (written by gen_rstyle.py).
-/
import Derived.Test.YtaoehdmdjplegaaGreatDoorRStyleP
namespace Go.Proofs.YtaoehdmdjplegaaGreatDoor
open Go.RowKit Go.Shelf

/-- A world with some blocks more. -/
def allocs (w : World) (l : List Obj) : World := l.foldl World.alloc w
theorem allocs_size : ∀ (l : List Obj) (w : World), (allocs w l).heap.size = w.heap.size + l.length
  | [], w => rfl
  | o :: l, w => by
    have := allocs_size l (w.alloc o)
    rw [World.size_alloc] at this
    rw [List.length_cons, show allocs w (o :: l) = allocs (w.alloc o) l from rfl, this]; omega
theorem allocs_below : ∀ (l : List Obj) (w : World), Below w.heap.size w (allocs w l)
  | [], w => Below.refl _ _
  | o :: l, w => by
    have h := allocs_below l (w.alloc o)
    exact ((Below.refl _ w).alloc (Nat.le_refl _) o).trans (h.mono (by rw [World.size_alloc]; omega))
theorem allocs_blk : ∀ (l : List Obj) (w : World) (i : Nat) (t : TypeId) (cs : Array Value), l[i]? = some (.cells cs t (0, 0)) → Blk (allocs w l) (w.heap.size + i) t cs
  | [], _, _, _, _, h => by simp at h
  | o :: l, w, 0, t, cs, h => by
    simp at h
    subst h
    exact (Blk.new w t cs).below (allocs_below l _) (by rw [World.size_alloc]; omega)
  | o :: l, w, i + 1, t, cs, h => by
    have := allocs_blk l (w.alloc o) i t cs (by simpa using h)
    rw [World.size_alloc] at this
    rw [show w.heap.size + (i + 1) = w.heap.size + 1 + i by omega]
    exact this

def fldA (s : Sty) : Array Value := #[.int .u8 ((s.picks.getD 0 0 : Nat) : Int), .int .u8 ((s.picks.getD 1 0 : Nat) : Int), .int .u8 ((s.picks.getD 2 0 : Nat) : Int), .int .u8 ((s.picks.getD 3 0 : Nat) : Int), .int .u8 ((s.picks.getD 4 0 : Nat) : Int), .int .u8 ((s.picks.getD 5 0 : Nat) : Int), .int .u8 ((s.picks.getD 6 0 : Nat) : Int)]
theorem fldA_eq {s : Sty} (h : s.picks.length = 7) : fldA s = (s.picks.map fun x => Value.int .u8 ((x : Nat) : Int)).toArray := by
  obtain ⟨P, wh, wp, L, N⟩ := s
  obtain ⟨p0, p1, p2, p3, p4, p5, p6, rfl⟩ := list7 h
  rfl
def wdA (n : Nat) : Array Value := ((List.range 7).map fun i => Value.slice (some ⟨n + 2 + i, 0, none⟩) (rpicksT.getD i []).length (rpicksT.getD i []).length).toArray
def styObjs (s : Sty) (n : Nat) : List Obj := [.cells (styC s).toArray 28, .cells (fldA s) 5, .cells (strA (rpicksT.getD 0 [])) 9, .cells (strA (rpicksT.getD 1 [])) 9, .cells (strA (rpicksT.getD 2 [])) 9, .cells (strA (rpicksT.getD 3 [])) 9, .cells (strA (rpicksT.getD 4 [])) 9, .cells (strA (rpicksT.getD 5 [])) 9, .cells (strA (rpicksT.getD 6 [])) 9, .cells (wdA n) 47]
/-- What lies in memory while a style is written. -/
structure SM (s : Sty) (n : Nat) (w0 w : World) : Prop where
  bel : Below n w0 w
  sz : n + 10 ≤ w.heap.size
  sty : Blk w n 28 (styC s).toArray
  fld : Blk w (n + 1) 5 (fldA s)
  row : ∀ i, i < 7 → Blk w (n + 2 + i) 9 (strA (rpicksT.getD i []))
  wds : Blk w (n + 9) 47 (wdA n)
theorem SM.start (s : Sty) (w : World) : SM s w.heap.size w (allocs w (styObjs s w.heap.size)) := by
  refine ⟨allocs_below _ _, by rw [allocs_size]; simp [styObjs], allocs_blk _ _ 0 _ _ rfl, allocs_blk _ _ 1 _ _ rfl, fun i hi => ?_, allocs_blk _ _ 9 _ _ rfl⟩
  have h : i = 0 ∨ i = 1 ∨ i = 2 ∨ i = 3 ∨ i = 4 ∨ i = 5 ∨ i = 6 := by omega
  rcases h with rfl | rfl | rfl | rfl | rfl | rfl | rfl
  · exact allocs_blk _ _ 2 _ _ rfl
  · exact allocs_blk _ _ 3 _ _ rfl
  · exact allocs_blk _ _ 4 _ _ rfl
  · exact allocs_blk _ _ 5 _ _ rfl
  · exact allocs_blk _ _ 6 _ _ rfl
  · exact allocs_blk _ _ 7 _ _ rfl
  · exact allocs_blk _ _ 8 _ _ rfl
theorem SM.more {s : Sty} {n : Nat} {w0 w w' : World} (h : SM s n w0 w) (hb : Below (n + 10) w w') : SM s n w0 w' :=
  ⟨h.bel.trans (hb.mono (by omega)), Nat.le_trans h.sz hb.size, h.sty.below hb (by omega), h.fld.below hb (by omega), fun i hi => (h.row i hi).below hb (by omega), h.wds.below hb (by omega)⟩
theorem SM.drewN {s : Sty} {n : Nat} {w0 w : World} (h : SM s n w0 w) (m : Nat) : SM s n w0 (w.drewN m) := h.more (below_drewN (Below.refl _ _) m)
theorem SM.fcell {s : Sty} {n : Nat} {w0 w : World} (h : SM s n w0 w) (hp : s.picks.length = 7) {k : Nat} (hk : k < s.picks.length) : w.cell? ⟨n + 1, k, none⟩ = some (.int .u8 ((s.picks[k] : Nat) : Int)) := by
  rw [h.fld.cell k, fldA_eq hp]
  simp [hk]
theorem SM.wcell {s : Sty} {n : Nat} {w0 w : World} (h : SM s n w0 w) {k : Nat} (hk : k < 7) : w.cell? ⟨n + 9, k, none⟩ = some (.slice (some ⟨n + 2 + k, 0, none⟩) (rpicksT[k]'hk).length (rpicksT[k]'hk).length) := by
  rw [h.wds.cell k]
  have e : (rpicksT[k]?.getD []).length = (rpicksT[k]'hk).length := by
    rw [List.getElem?_eq_getElem (show k < rpicksT.length from hk)]; rfl
  simp [wdA, hk, e]
theorem SM.strs {s : Sty} {n : Nat} {w0 w : World} (h : SM s n w0 w) {k : Nat} (hk : k < 7) : Strs w (n + 10) (.slice (some ⟨n + 2 + k, 0, none⟩) (rpicksT[k]'hk).length (rpicksT[k]'hk).length) (rpicksT[k]'hk) := by
  have e : rpicksT.getD k [] = rpicksT[k]'hk := by
    rw [List.getD_eq_getElem?_getD, List.getElem?_eq_getElem (show k < rpicksT.length from hk)]; rfl
  have hb := h.row k hk
  rw [e] at hb
  refine ⟨_, _, rfl, Nat.le_refl _, by simp, fun _ => ⟨_, rfl, by show n + 2 + k < n + 10; omega, fun j u hu => ?_⟩⟩
  have ea : (⟨n + 2 + k, 0, none⟩ : Addr).add j = ⟨n + 2 + k, j, none⟩ := by unfold Addr.add; split <;> simp_all
  rw [ea, hb.cell j]
  simpa [strA] using hu
/-- Where the picked words' loop stands. -/
def PkA (s : Sty) (n : Nat) (w0 : World) (out i : Value) (w : World) : Prop :=
  ∃ (k : Nat) (o : List UInt8), k ≤ 7 ∧ i = .int .i64 k ∧ out = .string (mkB o) ∧ o.length ≤ 101 * k ∧ pickTs rpicksT s.picks = (pickTs (rpicksT.drop k) (s.picks.drop k)).map (o ++ ·) ∧ SM s n w0 w
theorem pickT_len {ws : List (List UInt8)} (hw : ∀ x ∈ ws, x.length ≤ 100) {n : Nat} {t : List UInt8} (h : pickT ws n = some t) : t.length ≤ 101 := by
  unfold pickT at h
  split at h
  · injection h with h
    subst h
    simp
  · split at h
    · cases h
    · rename_i w hw'
      split at h
      · cases h
      · injection h with h
        subst h
        have := hw w (List.mem_of_getElem? hw')
        simp
        omega
def lenA (s : Sty) : Array Value := #[.int .u8 (((s.lens.getD 0 (0, 0)).1 : Nat) : Int), .int .i64 (s.lens.getD 0 (0, 0)).2, .int .u8 (((s.lens.getD 1 (0, 0)).1 : Nat) : Int), .int .i64 (s.lens.getD 1 (0, 0)).2, .int .u8 (((s.lens.getD 2 (0, 0)).1 : Nat) : Int), .int .i64 (s.lens.getD 2 (0, 0)).2, .int .u8 (((s.lens.getD 3 (0, 0)).1 : Nat) : Int), .int .i64 (s.lens.getD 3 (0, 0)).2, .int .u8 (((s.lens.getD 4 (0, 0)).1 : Nat) : Int), .int .i64 (s.lens.getD 4 (0, 0)).2, .int .u8 (((s.lens.getD 5 (0, 0)).1 : Nat) : Int), .int .i64 (s.lens.getD 5 (0, 0)).2, .int .u8 (((s.lens.getD 6 (0, 0)).1 : Nat) : Int), .int .i64 (s.lens.getD 6 (0, 0)).2, .int .u8 (((s.lens.getD 7 (0, 0)).1 : Nat) : Int), .int .i64 (s.lens.getD 7 (0, 0)).2, .int .u8 (((s.lens.getD 8 (0, 0)).1 : Nat) : Int), .int .i64 (s.lens.getD 8 (0, 0)).2, .int .u8 (((s.lens.getD 9 (0, 0)).1 : Nat) : Int), .int .i64 (s.lens.getD 9 (0, 0)).2, .int .u8 (((s.lens.getD 10 (0, 0)).1 : Nat) : Int), .int .i64 (s.lens.getD 10 (0, 0)).2]
def namA : Array Value := strA lensT
theorem lenA_at {s : Sty} (h : s.lens.length = 11) {k : Nat} (hk : k < 11) : (lenA s)[k * 2]? = some (.int .u8 (((s.lens[k]'(by rw [h]; exact hk)).1 : Nat) : Int)) ∧ (lenA s)[k * 2 + 1]? = some (.int .i64 (s.lens[k]'(by rw [h]; exact hk)).2) := by
  obtain ⟨P, wh, wp, L, N⟩ := s
  obtain ⟨a0, a1, a2, a3, a4, a5, a6, a7, a8, a9, a10, rfl⟩ := list11 h
  have h : k = 0 ∨ k = 1 ∨ k = 2 ∨ k = 3 ∨ k = 4 ∨ k = 5 ∨ k = 6 ∨ k = 7 ∨ k = 8 ∨ k = 9 ∨ k = 10 := by omega
  rcases h with rfl | rfl | rfl | rfl | rfl | rfl | rfl | rfl | rfl | rfl | rfl <;> exact ⟨rfl, rfl⟩
def numA (s : Sty) : Array Value := #[.int .i64 (s.nums.getD 0 0), .int .i64 (s.nums.getD 1 0), .int .i64 (s.nums.getD 2 0), .int .i64 (s.nums.getD 3 0), .int .i64 (s.nums.getD 4 0), .int .i64 (s.nums.getD 5 0), .int .i64 (s.nums.getD 6 0), .int .i64 (s.nums.getD 7 0), .int .i64 (s.nums.getD 8 0), .int .i64 (s.nums.getD 9 0), .int .i64 (s.nums.getD 10 0), .int .i64 (s.nums.getD 11 0), .int .i64 (s.nums.getD 12 0), .int .i64 (s.nums.getD 13 0), .int .i64 (s.nums.getD 14 0), .int .i64 (s.nums.getD 15 0)]
theorem numA_at {s : Sty} (h : s.nums.length = 16) {k : Nat} (hk : k < 16) : (numA s)[k]? = some (.int .i64 (s.nums[k]'(by rw [h]; exact hk))) := by
  obtain ⟨P, wh, wp, L, N⟩ := s
  obtain ⟨a0, a1, a2, a3, a4, a5, a6, a7, a8, a9, a10, a11, a12, a13, a14, a15, rfl⟩ := list16 h
  have h : k = 0 ∨ k = 1 ∨ k = 2 ∨ k = 3 ∨ k = 4 ∨ k = 5 ∨ k = 6 ∨ k = 7 ∨ k = 8 ∨ k = 9 ∨ k = 10 ∨ k = 11 ∨ k = 12 ∨ k = 13 ∨ k = 14 ∨ k = 15 := by omega
  rcases h with rfl | rfl | rfl | rfl | rfl | rfl | rfl | rfl | rfl | rfl | rfl | rfl | rfl | rfl | rfl | rfl <;> rfl
/-- Where the lengths' loop stands. -/
def LnA (s : Sty) (n m : Nat) (O : List UInt8) (w0 : World) (out i : Value) (w : World) : Prop :=
  ∃ (k : Nat) (o : List UInt8), k ≤ 11 ∧ i = .int .i64 k ∧ out = .string (mkB (O ++ o)) ∧ o.length ≤ 200 * k ∧ lenTs lensT s.lens = (lenTs (lensT.drop k) (s.lens.drop k)).map (o ++ ·) ∧ SM s n w0 w ∧
    n + 10 ≤ m ∧ m + 2 ≤ w.heap.size ∧ Blk w m 24 (lenA s) ∧ Blk w (m + 1) 9 (strA lensT)
theorem len_start {s : Sty} {n : Nat} {w0 w : World} (h : SM s n w0 w) (O : List UInt8) : LnA s n w.heap.size O w0 (.string (mkB O)) (.int .i64 0) (allocs w [.cells (lenA s) 24, .cells (strA lensT) 9]) :=
  ⟨0, [], by omega, rfl, by rw [List.append_nil], by simp, by simp, h.more ((allocs_below _ _).mono h.sz), h.sz, by rw [allocs_size]; exact Nat.le_refl _, allocs_blk _ _ 0 _ _ rfl, allocs_blk _ _ 1 _ _ rfl⟩
/-- Where the numbers' loop stands. -/
def NmA (s : Sty) (n m : Nat) (O : List UInt8) (w0 : World) (out i : Value) (w : World) : Prop :=
  ∃ (k : Nat) (o : List UInt8), k ≤ 16 ∧ i = .int .i64 k ∧ out = .string (mkB (O ++ o)) ∧ o.length ≤ 130 * k ∧ numTs numsT s.nums = o ++ numTs (numsT.drop k) (s.nums.drop k) ∧ Below n w0 w ∧
    Blk w (m + 1 + 1) 3 (numA s) ∧ Blk w (m + 1 + 1 + 1) 9 (strA numsT)
theorem num_start {s : Sty} {n : Nat} {w0 w : World} (h : Below n w0 w) (hn : n ≤ w.heap.size) (A B : Obj) (O : List UInt8) : NmA s n w.heap.size O w0 (.string (mkB O)) (.int .i64 0) (allocs w [A, B, .cells (numA s) 3, .cells (strA numsT) 9]).drew :=
  ⟨0, [], by omega, rfl, by rw [List.append_nil], by simp, by simp, below_drewN (h.trans ((allocs_below _ _).mono hn)) 1, Blk.drew (allocs_blk _ _ 2 _ _ rfl), Blk.drew (allocs_blk _ _ 3 _ _ rfl)⟩
theorem numV_len {name : List UInt8} (h : name.length ≤ 100) {n : Int} (hn : I64 n) : (numV name n).length ≤ 130 := by
  have := itoa_size hn
  rw [mkB_size] at this
  unfold numV
  split <;> simp
  omega
/-- What a style's writing answers. -/
def StylePost (s : Sty) (w : World) (e : Ending) (w' : World) : Prop :=
  ∃ x : List UInt8, e = .returned (.tuple #[.string (mkB x), .bool (stylT s).isSome]) ∧ (∀ t, stylT s = some t → x = t) ∧ x.length ≤ 8000 ∧ Below w.heap.size w w'
theorem stylT_pick {s : Sty} (h : pickTs rpicksT s.picks = none) : stylT s = none := by unfold stylT; rw [h]
theorem stylT_len {s : Sty} (h : lenTs lensT s.lens = none) : stylT s = none := by
  unfold stylT
  rw [h]
  cases pickTs rpicksT s.picks <;> rfl

set_option maxRecDepth 100000 in
set_option maxHeartbeats 8000000 in
theorem rstyle_any (s : Sty) (hs : s.Ok) (w : World) :
    Calls Tryz.prog 64 #[.agg (styC s).toArray] w (StylePost s w) := by
  have hsm : SM s w.heap.size w (allocs w (styObjs s w.heap.size)) := SM.start s w
  rw [styC_lit]
  go_enter Tryz.func64, Tryz.ntmps64
  go_wp2_with fail
  go_loopw [6, 7] (PkA s w.heap.size w) (fun _ i _ => 7 - (intOf i).toNat)
  case atStart => exact ⟨0, [], by omega, rfl, rfl, by simp, by simp, hsm⟩
  case round =>
    obtain ⟨k, o, hk, rfl, rfl, hol, hpk, hm⟩ := hrel
    clear hsm
    have HPK := Lib.hid hpk
    clear hpk
    by_cases hlt : k < 7
    · have hlp : k < s.picks.length := by rw [hs.p]; exact hlt
      have i1 : ((k : Nat) : Int) < 7 := by omega
      have c4 : wr.cell? ⟨w.heap.size + 1, k, none⟩ = some (.int .u8 ((s.picks[k] : Nat) : Int)) := hm.fcell hs.p hlp
      have c5 : wr.cell? ⟨w.heap.size + 1 + 1 + 1 + 1 + 1 + 1 + 1 + 1 + 1, k, none⟩ = some (.slice (some ⟨w.heap.size + 2 + k, 0, none⟩) (rpicksT[k]'hlt).length (rpicksT[k]'hlt).length) := hm.wcell hlt
      have hsm := rpicks_small _ (List.getElem_mem (show k < rpicksT.length from hlt))
      have HAT := Lib.hid (picks_at s hs hlt)
      have z1 : (mkB o).size ≤ 1000 := by rw [mkB_size]; omega
      cases hpt : pickT (rpicksT[k]'hlt) (s.picks[k]) with
      | none =>
        have HN := Lib.hid (show stylT s = none from stylT_pick (by rw [HPK.out, HAT.out, hpt]; rfl))
        have HV := Lib.hid (show optP (pickT (rpicksT[k]'hlt) (s.picks[k])) = .tuple #[.string (mkB []), .bool false] by rw [hpt]; rfl)
        have HQ := Lib.hid (fun m => (rpicked_any (s.picks[k]) (hs.pk _ (List.getElem_mem hlp)) (rpicksT[k]'hlt) hsm.2 _ _ (wr.drewN m) ((hm.drewN m).strs hlt)).mono fun e w' (h : _ ∧ _) => (⟨h.1.trans (congrArg Ending.returned HV.out), h.2⟩ : e = _ ∧ w' = _))
        clear hpt
        go_wp2_with fail
        go_quiet ((go_at_call 78; exact Calls.quiet_of_same (HQ.out _)))
        go_wp2_with fail
        go_ret2
        exact ⟨[], by rw [HN.out]; rfl, fun t ht => by (rw [HN.out] at ht; cases ht), by simp, below_drewN hm.bel _⟩
      | some a =>
        have hal := pickT_len hsm.2 hpt
        have HST := Lib.hid (show pickTs rpicksT s.picks = (pickTs (rpicksT.drop (k + 1)) (s.picks.drop (k + 1))).map ((o ++ a) ++ ·) by rw [HPK.out, HAT.out, hpt]; simp [Function.comp_def])
        have HV := Lib.hid (show optP (pickT (rpicksT[k]'hlt) (s.picks[k])) = .tuple #[.string (mkB a), .bool true] by rw [hpt]; rfl)
        have HQ := Lib.hid (fun m => (rpicked_any (s.picks[k]) (hs.pk _ (List.getElem_mem hlp)) (rpicksT[k]'hlt) hsm.2 _ _ (wr.drewN m) ((hm.drewN m).strs hlt)).mono fun e w' (h : _ ∧ _) => (⟨h.1.trans (congrArg Ending.returned HV.out), h.2⟩ : e = _ ∧ w' = _))
        have z2 : (mkB a).size ≤ 101 := by rw [mkB_size]; exact hal
        clear hpt
        go_wp2_with fail
        go_quiet ((go_at_call 78; exact Calls.quiet_of_same (HQ.out _)))
        go_wp2_with fail
        go_round
        case rel => exact ⟨k + 1, o ++ a, by omega, by go_num, by rw [mkB_append], by simp; omega, HST.out, hm.drewN _⟩
        case measure => simp [intOf]; omega
    · have HP := Lib.hid (show pickTs rpicksT s.picks = some o by rw [HPK.out, show k = 7 by omega, picks_stop s hs]; simp)
      have hol : o.length ≤ 707 := by omega
      have hk7 : ¬ ((k : Nat) : Int) < 7 := by omega
      clear HPK
      have s1 : wr.cell? ⟨w.heap.size, 1, none⟩ = some (.bool s.whole) := hm.sty.cell 1
      have s38 : wr.cell? ⟨w.heap.size, 38, none⟩ = some (.bool s.wrap) := hm.sty.cell 38
      have z1 : (mkB o).size ≤ 1000 := by rw [mkB_size]; omega
      obtain ⟨f1, hf1⟩ : ∃ f, f = (if s.whole then 32 :: wholeB else []) := ⟨_, rfl⟩
      obtain ⟨f2, hf2⟩ : ∃ f, f = (if s.wrap then 32 :: wrapB else []) := ⟨_, rfl⟩
      have HF := Lib.hid (show flagT s = f1 ++ f2 by rw [hf1, hf2]; rfl)
      have hl1 : f1.length ≤ 6 := by rw [hf1]; cases s.whole <;> decide
      have hl2 : f2.length ≤ 5 := by rw [hf2]; cases s.wrap <;> decide
      have HF1 := Lib.hid hf1
      have HF2 := Lib.hid hf2
      clear hf1 hf2
      obtain ⟨bw, hbw⟩ : ∃ b, b = s.whole := ⟨_, rfl⟩
      obtain ⟨bp, hbp⟩ : ∃ b, b = s.wrap := ⟨_, rfl⟩
      rw [← hbw] at s1 HF1
      rw [← hbp] at s38 HF2
      clear hbw hbp
      go_upto_if 66 with fail
      go_cut [6] (fun s6 wx => s6 = .string (mkB (o ++ f1)) ∧ wx = wr)
      case first =>
        cases bw with
        | false =>
          go_wp2_with fail
          go_meet
          exact ⟨by rw [HF1.out]; simp, rfl⟩
        | true =>
          go_wp2_with fail
          go_meet
          exact ⟨by rw [HF1.out, ← mkB_append]; rfl, rfl⟩
      case rest =>
        obtain ⟨rfl, rfl⟩ := hcut
        go_upto_if 70 with fail
        go_cut [6] (fun s6 wx => s6 = .string (mkB (o ++ (f1 ++ f2))) ∧ wx = wc)
        case first =>
          have z2 : (mkB (o ++ f1)).size ≤ 1010 := by rw [mkB_size, List.length_append]; omega
          cases bp with
          | false =>
            go_wp2_with fail
            go_meet
            exact ⟨by rw [HF2.out]; simp, rfl⟩
          | true =>
            go_wp2_with fail
            go_meet
            exact ⟨by rw [HF2.out, ← List.append_assoc, ← mkB_append]; rfl, rfl⟩
        case rest =>
          obtain ⟨rfl, rfl⟩ := hcut
          clear s1 s38 z1
          have HFin := Lib.hid (show ∀ b, lenTs lensT s.lens = some b → stylT s = some ((o ++ (f1 ++ f2)) ++ (b ++ numTs numsT s.nums)) by
            intro b hb
            unfold stylT
            rw [HP.out, hb, HF.out]
            simp)
          have hOl : (o ++ (f1 ++ f2)).length ≤ 800 := by rw [List.length_append, List.length_append]; omega
          clear HP HF HF1 HF2
          generalize o ++ (f1 ++ f2) = O at *
          have hst := len_start hm O
          have sa0 : wc.cell? ⟨w.heap.size, 2, none⟩ = some (.int .u8 (((s.lens.getD 0 (0, 0)).1 : Nat) : Int)) := hm.sty.cell 2
          have sb0 : wc.cell? ⟨w.heap.size, 3, none⟩ = some (.int .i64 (s.lens.getD 0 (0, 0)).2) := hm.sty.cell 3
          have sa1 : wc.cell? ⟨w.heap.size, 4, none⟩ = some (.int .u8 (((s.lens.getD 1 (0, 0)).1 : Nat) : Int)) := hm.sty.cell 4
          have sb1 : wc.cell? ⟨w.heap.size, 5, none⟩ = some (.int .i64 (s.lens.getD 1 (0, 0)).2) := hm.sty.cell 5
          have sa2 : wc.cell? ⟨w.heap.size, 6, none⟩ = some (.int .u8 (((s.lens.getD 2 (0, 0)).1 : Nat) : Int)) := hm.sty.cell 6
          have sb2 : wc.cell? ⟨w.heap.size, 7, none⟩ = some (.int .i64 (s.lens.getD 2 (0, 0)).2) := hm.sty.cell 7
          have sa3 : wc.cell? ⟨w.heap.size, 8, none⟩ = some (.int .u8 (((s.lens.getD 3 (0, 0)).1 : Nat) : Int)) := hm.sty.cell 8
          have sb3 : wc.cell? ⟨w.heap.size, 9, none⟩ = some (.int .i64 (s.lens.getD 3 (0, 0)).2) := hm.sty.cell 9
          have sa4 : wc.cell? ⟨w.heap.size, 10, none⟩ = some (.int .u8 (((s.lens.getD 4 (0, 0)).1 : Nat) : Int)) := hm.sty.cell 10
          have sb4 : wc.cell? ⟨w.heap.size, 11, none⟩ = some (.int .i64 (s.lens.getD 4 (0, 0)).2) := hm.sty.cell 11
          have sa5 : wc.cell? ⟨w.heap.size, 12, none⟩ = some (.int .u8 (((s.lens.getD 5 (0, 0)).1 : Nat) : Int)) := hm.sty.cell 12
          have sb5 : wc.cell? ⟨w.heap.size, 13, none⟩ = some (.int .i64 (s.lens.getD 5 (0, 0)).2) := hm.sty.cell 13
          have sa6 : wc.cell? ⟨w.heap.size, 14, none⟩ = some (.int .u8 (((s.lens.getD 6 (0, 0)).1 : Nat) : Int)) := hm.sty.cell 14
          have sb6 : wc.cell? ⟨w.heap.size, 15, none⟩ = some (.int .i64 (s.lens.getD 6 (0, 0)).2) := hm.sty.cell 15
          have sa7 : wc.cell? ⟨w.heap.size, 16, none⟩ = some (.int .u8 (((s.lens.getD 7 (0, 0)).1 : Nat) : Int)) := hm.sty.cell 16
          have sb7 : wc.cell? ⟨w.heap.size, 17, none⟩ = some (.int .i64 (s.lens.getD 7 (0, 0)).2) := hm.sty.cell 17
          have sa8 : wc.cell? ⟨w.heap.size, 18, none⟩ = some (.int .u8 (((s.lens.getD 8 (0, 0)).1 : Nat) : Int)) := hm.sty.cell 18
          have sb8 : wc.cell? ⟨w.heap.size, 19, none⟩ = some (.int .i64 (s.lens.getD 8 (0, 0)).2) := hm.sty.cell 19
          have sa9 : wc.cell? ⟨w.heap.size, 20, none⟩ = some (.int .u8 (((s.lens.getD 9 (0, 0)).1 : Nat) : Int)) := hm.sty.cell 20
          have sb9 : wc.cell? ⟨w.heap.size, 21, none⟩ = some (.int .i64 (s.lens.getD 9 (0, 0)).2) := hm.sty.cell 21
          have sa10 : wc.cell? ⟨w.heap.size, 44, none⟩ = some (.int .u8 (((s.lens.getD 10 (0, 0)).1 : Nat) : Int)) := hm.sty.cell 44
          have sb10 : wc.cell? ⟨w.heap.size, 45, none⟩ = some (.int .i64 (s.lens.getD 10 (0, 0)).2) := hm.sty.cell 45
          go_wp2_with fail
          go_loopw [6, 12] (LnA s w.heap.size wc.heap.size O w) (fun _ i _ => 11 - (intOf i).toNat)
          case atStart => exact hst
          case round =>
            clear hk7 hlt hk
            obtain ⟨k, ol, hk, rfl, rfl, hol, hln, hm, hnm, hmw, hbl, hbn⟩ := hrel
            have HLN := Lib.hid hln
            clear hln hst
            by_cases hlt : k < 11
            · have hll : k < s.lens.length := by rw [hs.l]; exact hlt
              have i1 : ((k : Nat) : Int) < 11 := by omega
              have c1 : wr.cell? ⟨wc.heap.size + 1, k, none⟩ = some (.string (mkB (lensT[k]'hlt))) := strA_at hbn hlt
              have c2 : wr.cell? ⟨wc.heap.size, k * 2, none⟩ = some (.int .u8 ((s.lens[k].1 : Nat) : Int)) := (hbl.cell _).trans (lenA_at hs.l hlt).1
              have c3 : wr.cell? ⟨wc.heap.size, k * 2 + 1, none⟩ = some (.int .i64 s.lens[k].2) := (hbl.cell _).trans (lenA_at hs.l hlt).2
              have hlk := hs.lk _ (List.getElem_mem hll)
              have hsm := lensT_small _ (List.getElem_mem (show k < lensT.length from hlt))
              have HAT := Lib.hid (lens_at s hs hlt)
              have z1 : (mkB (O ++ ol)).size ≤ 4000 := by rw [mkB_size, List.length_append]; omega
              have hkeep : ∀ w', Below wr.drew.heap.size wr.drew w' → w'.cell? ⟨wc.heap.size + 1, k, none⟩ = some (.string (mkB (lensT[k]'hlt))) ∧ w'.cell? ⟨wc.heap.size, k * 2, none⟩ = some (.int .u8 ((s.lens[k].1 : Nat) : Int)) ∧ w'.cell? ⟨wc.heap.size, k * 2 + 1, none⟩ = some (.int .i64 s.lens[k].2) := fun w' hb' =>
                ⟨(hb'.cell (p := ⟨wc.heap.size + 1, k, none⟩) (show wc.heap.size + 1 < wr.heap.size by omega)).trans c1, (hb'.cell (p := ⟨wc.heap.size, k * 2, none⟩) (show wc.heap.size < wr.heap.size by omega)).trans c2, (hb'.cell (p := ⟨wc.heap.size, k * 2 + 1, none⟩) (show wc.heap.size < wr.heap.size by omega)).trans c3⟩
              cases hpt : lenT (lensT[k]'hlt) s.lens[k] with
              | none =>
                have HN := Lib.hid (show stylT s = none from stylT_len (by rw [HLN.out, HAT.out, hpt]; rfl))
                have HQ := Lib.hid (fun W => (rlength_any (lensT[k]'hlt) hsm s.lens[k].1 hlk.1 s.lens[k].2 hlk.2 W).mono fun e w' (h : LenPost _ _ _ e w') => (by
                  obtain ⟨x, h1, _, h3, h4⟩ := h
                  have hb : (lenT (lensT[k]'hlt) (s.lens[k].1, s.lens[k].2)).isSome = false := by rw [show ((s.lens[k].1, s.lens[k].2) : Nat × Int) = s.lens[k] from rfl, hpt]; rfl
                  rw [hb] at h1
                  exact ⟨x, h1, h4⟩ : ∃ x, e = .returned (.tuple #[.string (mkB x), .bool false]) ∧ Below W.heap.size W w'))
                clear hpt
                go_wp2_with fail
                go_region_held3 (fun w' => w'.cell? ⟨wc.heap.size + 1, k, none⟩ = some (.string (mkB (lensT[k]'hlt))) ∧ w'.cell? ⟨wc.heap.size, k * 2, none⟩ = some (.int .u8 ((s.lens[k].1 : Nat) : Int)) ∧ w'.cell? ⟨wc.heap.size, k * 2 + 1, none⟩ = some (.int .i64 s.lens[k].2)) (first | exact hkeep _ (by assumption) | go_keep)
                  (first | (go_at_call 79; (with_reducible refine (HQ.out _).mono ?_); rintro e w5 ⟨x5, rfl, g3⟩))
                have hb5 : Below wr.heap.size wr w5 := (below_drewN (Below.refl _ _) 1).trans g3
                clear hkeep HQ
                go_wp2_with fail
                go_ret2
                exact ⟨[], by rw [HN.out]; rfl, fun t ht => by (rw [HN.out] at ht; cases ht), by simp, hm.bel.trans (hb5.mono hm.bel.size)⟩
              | some a =>
                have HST := Lib.hid (show lenTs lensT s.lens = (lenTs (lensT.drop (k + 1)) (s.lens.drop (k + 1))).map ((ol ++ a) ++ ·) by rw [HLN.out, HAT.out, hpt]; simp [Function.comp_def])
                have HQ := Lib.hid (fun W => (rlength_any (lensT[k]'hlt) hsm s.lens[k].1 hlk.1 s.lens[k].2 hlk.2 W).mono fun e w' (h : LenPost _ _ _ e w') => (by
                  obtain ⟨x, h1, h2, h3, h4⟩ := h
                  have hb : (lenT (lensT[k]'hlt) (s.lens[k].1, s.lens[k].2)) = some a := by rw [show ((s.lens[k].1, s.lens[k].2) : Nat × Int) = s.lens[k] from rfl, hpt]
                  have hx := h2 a hb
                  subst hx
                  rw [hb] at h1
                  exact ⟨h1, h3, h4⟩ : e = .returned (.tuple #[.string (mkB a), .bool true]) ∧ a.length ≤ 200 ∧ Below W.heap.size W w'))
                clear hpt
                go_wp2_with fail
                go_region_held3 (fun w' => w'.cell? ⟨wc.heap.size + 1, k, none⟩ = some (.string (mkB (lensT[k]'hlt))) ∧ w'.cell? ⟨wc.heap.size, k * 2, none⟩ = some (.int .u8 ((s.lens[k].1 : Nat) : Int)) ∧ w'.cell? ⟨wc.heap.size, k * 2 + 1, none⟩ = some (.int .i64 s.lens[k].2)) (first | exact hkeep _ (by assumption) | go_keep)
                  (first | (go_at_call 79; (with_reducible refine (HQ.out _).mono ?_); rintro e w5 ⟨rfl, g2, g3⟩))
                have hb5 : Below wr.heap.size wr w5 := (below_drewN (Below.refl _ _) 1).trans g3
                have z2 : (mkB a).size ≤ 200 := by rw [mkB_size]; exact g2
                clear hkeep HQ
                go_wp2_with fail
                go_round
                case rel => exact ⟨k + 1, ol ++ a, by omega, by go_num, by rw [mkB_append, List.append_assoc], by simp; omega, HST.out, hm.more (hb5.mono hm.sz), hnm, Nat.le_trans hmw hb5.size, hbl.below hb5 hbl.lt, hbn.below hb5 hbn.lt⟩
                case measure => simp [intOf]; omega
            · have HLL := Lib.hid (show lenTs lensT s.lens = some ol by rw [HLN.out, show k = 11 by omega, lens_stop s hs]; simp)
              have hol : ol.length ≤ 2200 := by omega
              have hk11 : ¬ ((k : Nat) : Int) < 11 := by omega
              clear HLN hbl hbn
              have HFin2 := Lib.hid (HFin.out _ HLL.out)
              have hO2 : (O ++ ol).length ≤ 3000 := by rw [List.length_append]; omega
              have HFin2 := Lib.hid (HFin2.out.trans (by rw [← List.append_assoc]))
              clear HFin HLL
              generalize O ++ ol = O2 at *
              have sn0 : wr.cell? ⟨w.heap.size, 22, none⟩ = some (.int .i64 (s.nums.getD 0 0)) := hm.sty.cell 22
              have sn1 : wr.cell? ⟨w.heap.size, 23, none⟩ = some (.int .i64 (s.nums.getD 1 0)) := hm.sty.cell 23
              have sn2 : wr.cell? ⟨w.heap.size, 24, none⟩ = some (.int .i64 (s.nums.getD 2 0)) := hm.sty.cell 24
              have sn3 : wr.cell? ⟨w.heap.size, 25, none⟩ = some (.int .i64 (s.nums.getD 3 0)) := hm.sty.cell 25
              have sn4 : wr.cell? ⟨w.heap.size, 26, none⟩ = some (.int .i64 (s.nums.getD 4 0)) := hm.sty.cell 26
              have sn5 : wr.cell? ⟨w.heap.size, 27, none⟩ = some (.int .i64 (s.nums.getD 5 0)) := hm.sty.cell 27
              have sn6 : wr.cell? ⟨w.heap.size, 28, none⟩ = some (.int .i64 (s.nums.getD 6 0)) := hm.sty.cell 28
              have sn7 : wr.cell? ⟨w.heap.size, 29, none⟩ = some (.int .i64 (s.nums.getD 7 0)) := hm.sty.cell 29
              have sn8 : wr.cell? ⟨w.heap.size, 30, none⟩ = some (.int .i64 (s.nums.getD 8 0)) := hm.sty.cell 30
              have sn9 : wr.cell? ⟨w.heap.size, 31, none⟩ = some (.int .i64 (s.nums.getD 9 0)) := hm.sty.cell 31
              have sn10 : wr.cell? ⟨w.heap.size, 32, none⟩ = some (.int .i64 (s.nums.getD 10 0)) := hm.sty.cell 32
              have sn11 : wr.cell? ⟨w.heap.size, 40, none⟩ = some (.int .i64 (s.nums.getD 11 0)) := hm.sty.cell 40
              have sn12 : wr.cell? ⟨w.heap.size, 41, none⟩ = some (.int .i64 (s.nums.getD 12 0)) := hm.sty.cell 41
              have sn13 : wr.cell? ⟨w.heap.size, 42, none⟩ = some (.int .i64 (s.nums.getD 13 0)) := hm.sty.cell 42
              have sn14 : wr.cell? ⟨w.heap.size, 43, none⟩ = some (.int .i64 (s.nums.getD 14 0)) := hm.sty.cell 43
              have sn15 : wr.cell? ⟨w.heap.size, 46, none⟩ = some (.int .i64 (s.nums.getD 15 0)) := hm.sty.cell 46
              have hlt0 : w.heap.size < wr.heap.size := by have := hm.sz; omega
              go_wp2_with fail
              go_region
              go_wp2_with fail
              all_goals
                have hbel := hm.bel
                have hnb : w.heap.size ≤ wr.heap.size := hbel.size
                go_loopw [6, 18] (NmA s w.heap.size wr.heap.size O2 w) (fun _ i _ => 16 - (intOf i).toNat)
                case atStart => exact num_start hbel hnb _ _ O2
                case round =>
                  clear hm hbel hnb hlt0 sn0 sn1 sn2 sn3 sn4 sn5 sn6 sn7 sn8 sn9 sn10 sn11 sn12 sn13 sn14 sn15
                  obtain ⟨k, o3, hk, rfl, rfl, ho3, hnn, hbw3, hbk, hbn⟩ := hrel
                  have HNN := Lib.hid hnn
                  clear hnn
                  by_cases hlt : k < 16
                  · have hll : k < s.nums.length := by rw [hs.n]; exact hlt
                    have i1 : ((k : Nat) : Int) < 16 := by omega
                    have c1 := strA_at hbn hlt
                    have c2 := (hbk.cell k).trans (numA_at hs.n hlt)
                    have hsm := numsT_small _ (List.getElem_mem (show k < numsT.length from hlt))
                    have hnk := hs.nk _ (List.getElem_mem hll)
                    have hvl := numV_len hsm hnk
                    have HST := Lib.hid (show numTs numsT s.nums = (o3 ++ numV (numsT[k]'hlt) s.nums[k]) ++ numTs (numsT.drop (k + 1)) (s.nums.drop (k + 1)) by rw [HNN.out, nums_at s hs hlt, List.append_assoc])
                    have HQ := Lib.hid (rnumber_any (numsT[k]'hlt) hsm hnk)
                    have z1 : (mkB (O2 ++ o3)).size ≤ 6000 := by rw [mkB_size, List.length_append]; omega
                    have z2 : (mkB (numV (numsT[k]'hlt) s.nums[k])).size ≤ 130 := by rw [mkB_size]; exact hvl
                    go_wp2_with fail
                    go_quiet ((go_at_call 80; exact Calls.quiet_of_same (HQ.out _)))
                    go_wp2_with fail
                    go_round
                    case rel => exact ⟨k + 1, o3 ++ numV (numsT[k]'hlt) s.nums[k], by omega, by go_num, by rw [mkB_append, List.append_assoc], by simp; omega, HST.out, below_drewN hbw3 _, hbk.drewN _, hbn.drewN _⟩
                    case measure => simp [intOf]; omega
                  · have HNE := Lib.hid (show stylT s = some (O2 ++ o3) by rw [HFin2.out, HNN.out, show k = 16 by omega, nums_stop s hs, List.append_nil])
                    clear HNN HFin2
                    go_wp2_with fail
                    go_ret2
                    refine ⟨O2 ++ o3, by rw [HNE.out]; rfl, fun t ht => ?_, by rw [List.length_append]; omega, hbw3⟩
                    rw [HNE.out] at ht
                    injection ht

end Go.Proofs.YtaoehdmdjplegaaGreatDoor
