/-
  Walks: windowpaneref32.reader's style: what it answers, and what it leaves (written by gen_rsty.py).
-/
import Derived.Test.YtaoehdmdjplegaaGreatDoorRField
namespace Go.Proofs.YtaoehdmdjplegaaGreatDoor
open Go.RowKit Go.Shelf

theorem idxR_mem {ws : List (List UInt8)} {x : List UInt8} (h : 0 < idxR ws x) : x ∈ ws := by
  unfold idxR at h
  split at h
  · omega
  · rename_i hn
    exact idxW_lt.1 (by unfold idxW; omega)
theorem idxR_le (ws : List (List UInt8)) (x : List UInt8) : idxR ws x ≤ ws.length := by
  unfold idxR
  split
  · omega
  · omega
theorem pick_hit : ∀ j : Fin 7, ∀ x ∈ rpicksT[j.val]'j.isLt, 0 < idxR (rpicksT[j.val]'j.isLt) x → findPick picksT 0 x = some (j.val, idxR (rpicksT[j.val]'j.isLt) x) := by decide
theorem pick_at (j : Fin 7) {x : List UInt8} (h : 0 < idxR (rpicksT[j.val]'j.isLt) x) : findPick picksT 0 x = some (j.val, idxR (rpicksT[j.val]'j.isLt) x) := pick_hit j x (idxR_mem h) h
theorem pick_any : ∀ t ∈ picksT, ∀ x ∈ t, x ≠ [63] → 0 < idxW t x → ∃ j : Fin 7, 0 < idxR (rpicksT[j.val]'j.isLt) x := by decide
theorem pick_skip {x : List UInt8} : ∀ (T : List (List (List UInt8))) (i : Nat), (∀ t ∈ T, ¬ (0 < idxW t x ∧ idxW t x < t.length ∧ x ≠ [63])) → findPick T i x = none
  | [], _, _ => rfl
  | t :: T, i, h => by rw [findPick, if_neg (h t (by simp)), pick_skip T (i + 1) fun u hu => h u (by simp [hu])]
theorem pick_no {x : List UInt8} (h : ∀ j : Fin 7, ¬ 0 < idxR (rpicksT[j.val]'j.isLt) x) : findPick picksT 0 x = none :=
  pick_skip _ _ fun t ht ⟨h1, h2, h3⟩ => by
    obtain ⟨j, hj⟩ := pick_any t ht x (idxW_lt.1 h2) h3 h1
    exact h j hj
theorem step_hit (s : Sty) (j : Fin 7) {x : List UInt8} (h : 0 < idxR (rpicksT[j.val]'j.isLt) x) : stepR s x = ({ s with picks := s.picks.set j.val (idxR (rpicksT[j.val]'j.isLt) x) }, false) := by
  unfold stepR
  rw [pick_at j h]
theorem step_hit' (s : Sty) (j : Nat) (hj : j < 7) (L : List (List UInt8)) (hL : rpicksT[j]'hj = L) {x : List UInt8} (h : 0 < idxR L x) : stepR s x = ({ s with picks := s.picks.set j (idxR L x) }, false) := by
  subst hL
  exact step_hit s ⟨j, hj⟩ h
theorem step_whole (s : Sty) : stepR s wholeB = ({ s with whole := true }, false) := by rfl
theorem step_wrap (s : Sty) : stepR s wrapB = ({ s with wrap := true }, false) := by rfl
theorem step_field (s : Sty) {x : List UInt8} (h : ∀ j : Fin 7, ¬ 0 < idxR (rpicksT[j.val]'j.isLt) x) (h1 : x ≠ wholeB) (h2 : x ≠ wrapB) : stepR s x = fieldR s x := by
  unfold stepR
  rw [pick_no h]
  simp only [if_neg h1, if_neg h2]
  unfold fieldR
  cases cutEq x <;> rfl
/-- A new row of constant words. -/
theorem strs_new (w : World) (t : TypeId) (ws : List (List UInt8)) : Strs (w.alloc (.cells (strA ws) t)) (w.heap.size + 1) (.slice (some ⟨w.heap.size, 0, none⟩) ws.length ws.length) ws := by
  refine ⟨_, _, rfl, Nat.le_refl _, by simp, fun _ => ⟨_, rfl, by show w.heap.size < w.heap.size + 1; omega, fun j u hu => ?_⟩⟩
  have ea : (⟨w.heap.size, 0, none⟩ : Addr).add j = ⟨w.heap.size, j, none⟩ := by unfold Addr.add; split <;> simp_all
  rw [ea, (Blk.new w t (strA ws)).cell j]
  simpa [strA] using hu
/-- What lies in memory while a style is read. -/
structure SR (t : TypeId) (g : Nat) (S : ByteArray) (w0 : World) (k : Nat) (bd : Bool) (st : Sty) (w : World) : Prop where
  rd : Rdr t w g S k bd
  res : Blk w w0.heap.size 28 (styC sty0).toArray
  cur : Blk w (w0.heap.size + 1) 28 (styC st).toArray
  kp : Kept [g] w0 w
  sz : w0.heap.size + 2 ≤ w.heap.size
  gl : g < w0.heap.size
theorem SR.more {t : TypeId} {g : Nat} {S : ByteArray} {w0 w w' : World} {k : Nat} {bd : Bool} {st : Sty} (h : SR t g S w0 k bd st w) (hb : Below w.heap.size w w') : SR t g S w0 k bd st w' :=
  ⟨Blk.below h.rd hb h.rd.lt, h.res.below hb h.res.lt, h.cur.below hb h.cur.lt, h.kp.trans (Kept.of_below hb), Nat.le_trans h.sz hb.size, h.gl⟩
theorem SR.drewN {t : TypeId} {g : Nat} {S : ByteArray} {w0 w : World} {k : Nat} {bd : Bool} {st : Sty} (h : SR t g S w0 k bd st w) (n : Nat) : SR t g S w0 k bd st (w.drewN n) := h.more (below_drewN (Below.refl _ _) n)
theorem SR.read {t : TypeId} {g : Nat} {S : ByteArray} {w0 w w' : World} {k k' : Nat} {bd bd' : Bool} {st : Sty} (h : SR t g S w0 k bd st w) (hk : Kept [g] w w') (hr : Rdr t w' g S k' bd') : SR t g S w0 k' bd' st w' :=
  ⟨hr, h.res.kept hk (by simpa using (Nat.ne_of_lt h.gl).symm), h.cur.kept hk (by have := h.gl; simp; omega), h.kp.trans hk, Nat.le_trans h.sz hk.size, h.gl⟩
theorem SR.write {t : TypeId} {g : Nat} {S : ByteArray} {w0 w w' : World} {k : Nat} {bd : Bool} {st st' : Sty} (h : SR t g S w0 k bd st w) (hk : Kept [w0.heap.size + 1] w w') (hc : Blk w' (w0.heap.size + 1) 28 (styC st').toArray) : SR t g S w0 k bd st' w' :=
  ⟨Blk.kept h.rd hk (by have := h.gl; simp; omega), h.res.kept hk (by simp), hc, h.kp.then (hk.to_below h.kp.size (by simp)), Nat.le_trans h.sz hk.size, h.gl⟩
theorem SR.both {t : TypeId} {g : Nat} {S : ByteArray} {w0 w w' : World} {k : Nat} {bd bd' : Bool} {st st' : Sty} (h : SR t g S w0 k bd st w) (hk : Kept [g, w0.heap.size + 1] w w') (hr : Rdr t w' g S k bd') (hc : Blk w' (w0.heap.size + 1) 28 (styC st').toArray) : SR t g S w0 k bd' st' w' :=
  ⟨hr, h.res.kept hk (by have := h.gl; simp; omega), hc, ⟨hk.os.trans h.kp.os, hk.tape.trans h.kp.tape, hk.output.trans h.kp.output, Nat.le_trans h.kp.size hk.size, fun i hi hn => (hk.block i (Nat.lt_of_lt_of_le hi h.kp.size) (by simp at hn ⊢; omega)).trans (h.kp.block i hi hn)⟩, Nat.le_trans h.sz hk.size, h.gl⟩
def styOs : List Obj := [.cells (styC sty0).toArray 28, .cells (styC sty0).toArray 28]
theorem SR.start {t : TypeId} {g : Nat} {S : ByteArray} {w : World} {k : Nat} {bd : Bool} (hr : Rdr t w g S k bd) : SR t g S w k bd sty0 (allocs w styOs) :=
  ⟨Blk.below hr (allocs_below _ _) hr.lt, allocs_blk styOs w 0 _ _ rfl, allocs_blk styOs w 1 _ _ rfl, Kept.of_below (allocs_below _ _), Nat.le_of_eq (allocs_size styOs w).symm, hr.lt⟩
theorem storeVar_bool (w : World) (p : Addr) (b : Bool) : (storeVar 4 p (.bool b)).run Tryz.prog w = (store p (.bool b)).run Tryz.prog w := by simp [storeVar, go_sem, Value.cells, storeCells]
theorem below_one (w : World) (o : Obj) : Below w.heap.size w (w.alloc o) := (Below.refl _ _).alloc (Nat.le_refl _) o
theorem wordC_len : ∀ l : List UInt8, (wordC l).length ≤ l.length
  | [] => by simp [wordC]
  | c :: l => by
    have := wordC_len l
    unfold wordC
    split
    · simp
    · simp; omega
theorem rp0 : rpicksT[0]'(by decide) = [[105, 110, 108, 105, 110, 101], [102, 108, 101, 120]] := by decide
theorem rp1 : rpicksT[1]'(by decide) = [[115, 116, 97, 121], [107, 101, 101, 112]] := by decide
theorem rp2 : rpicksT[2]'(by decide) = [[108, 105, 110, 101, 115, 45, 101, 110, 100], [108, 105, 110, 101, 115, 45, 109, 105, 100, 100, 108, 101]] := by decide
theorem rp3 : rpicksT[3]'(by decide) = [[116, 111, 112], [98, 111, 116, 116, 111, 109]] := by decide
theorem rp4 : rpicksT[4]'(by decide) = [[114, 111, 119, 45, 98, 97, 99, 107], [99, 111, 108, 117, 109, 110], [99, 111, 108, 117, 109, 110, 45, 98, 97, 99, 107]] := by decide
theorem rp5 : rpicksT[5]'(by decide) = [[106, 117, 115, 116, 105, 102, 121, 45, 101, 110, 100], [106, 117, 115, 116, 105, 102, 121, 45, 109, 105, 100, 100, 108, 101], [106, 117, 115, 116, 105, 102, 121, 45, 98, 101, 116, 119, 101, 101, 110], [106, 117, 115, 116, 105, 102, 121, 45, 101, 118, 101, 110, 108, 121]] := by decide
theorem rp6 : rpicksT[6]'(by decide) = [[97, 108, 105, 103, 110, 45, 101, 110, 100], [97, 108, 105, 103, 110, 45, 109, 105, 100, 100, 108, 101], [], [], [97, 108, 105, 103, 110, 45, 115, 116, 114, 101, 116, 99, 104]] := by decide
/-- What a style's reading leaves. -/
def StyPost (t : TypeId) (g : Nat) (S : ByteArray) (a : Nat) (bad : Bool) (w : World) (e : Ending) (w' : World) : Prop :=
  ∃ (st : Sty) (k : Nat) (bd : Bool), e = .returned (.agg (styC st).toArray) ∧ st.Ok ∧ Kept [g] w w' ∧ k ≤ S.size ∧ Rdr t w' g S k bd ∧ (bad = true → bd = true) ∧ (bad = false → stylR sty0 (S.data.toList.drop a) = (st, bd))
/-- Where the loop over the words stands. -/
def StA (t : TypeId) (g : Nat) (S : ByteArray) (a : Nat) (bad : Bool) (w0 : World) (w : World) : Prop :=
  ∃ (k : Nat) (bd : Bool) (st : Sty), k ≤ S.size ∧ st.Ok ∧ SR t g S w0 k bd st w ∧ (bad = true → bd = true) ∧ (bad = false → (bd = false ∧ stylR sty0 (S.data.toList.drop a) = stylR st (S.data.toList.drop k)) ∨ (bd = true ∧ stylR sty0 (S.data.toList.drop a) = (st, true)))
def StB (t : TypeId) (g : Nat) (S : ByteArray) (a : Nat) (bad : Bool) (w0 : World) (_ : Value) (w : World) : Prop := StA t g S a bad w0 w
/-- A round of it. -/
theorem StA.step {t : TypeId} {g : Nat} {S : ByteArray} {a : Nat} {bad : Bool} {w0 w : World} {k k' : Nat} {st st' : Sty} {c : Bool} (hk : k < S.size) (hk' : k' ≤ S.size) (hr : S.data.toList.drop k' = restC (S.data.toList.drop k)) (hst : st.Ok) (hs : stepR st (wordC (S.data.toList.drop k)) = (st', c)) (hm : SR t g S w0 k' c st' w) (hb : bad = false) (he : stylR sty0 (S.data.toList.drop a) = stylR st (S.data.toList.drop k)) : StA t g S a bad w0 w := by
  have h1 := stylR_cons st S[k] (S.data.toList.drop (k + 1))
  rw [← drop_cons hk, hs, ← hr, ← he] at h1
  simp only at h1
  refine ⟨k', c, st', hk', by have := stepR_ok (wordC (S.data.toList.drop k)) hst; rw [hs] at this; exact this, hm, fun h => by (rw [hb] at h; cases h), fun _ => ?_⟩
  cases c with
  | false => exact .inl ⟨rfl, by simpa using h1⟩
  | true => exact .inr ⟨rfl, by simpa using h1⟩
theorem SR.at_ {t : TypeId} {g : Nat} {S : ByteArray} {w0 w : World} {k : Nat} {bd : Bool} {st : Sty} (h : SR t g S w0 k bd st w) : atOf g w = k := h.rd.at_
theorem rest_lt {S : ByteArray} {k k' : Nat} (hk : k < S.size) (hk' : k' ≤ S.size) (hr : S.data.toList.drop k' = restC (S.data.toList.drop k)) : k < k' := by
  have h1 := restC_lt (s := S.data.toList.drop k) (by rw [drop_cons hk]; simp)
  rw [← hr, List.length_drop, List.length_drop, size_len] at h1
  omega

set_option maxRecDepth 100000 in
set_option maxHeartbeats 8000000 in
theorem rsty_any (t : TypeId) (g : Nat) (S : ByteArray) (hS : S.size ≤ 5000) (a : Nat) (ha : a ≤ S.size) (bad : Bool) (w : World) (hr : Rdr t w g S a bad) :
    Calls Tryz.prog 36 #[.pointer (some ⟨g, 0, none⟩)] w (StyPost t g S a bad w) := by
  have hg := hr.lt
  go_enter Tryz.func36, Tryz.ntmps36
  go_wp2_with fail
  go_loopw [4] (StB t g S a bad w) (fun _ w' => S.size - atOf g w')
  case atStart => exact ⟨a, bad, sty0, ha, ok0, SR.start hr, fun h => h, fun h => .inl ⟨h, rfl⟩⟩
  case round =>
    obtain ⟨k, bd, st, hk, hst, hm, hb1, hb2⟩ := hrel
    have hg' := hm.rd.lt
    have hf := hm.rd.frozen
    have c0 := hm.rd.cell 0
    have c1 := hm.rd.cell 1
    have c2 := hm.rd.cell 2
    simp only [List.getElem?_toArray, List.getElem?_cons_succ, List.getElem?_cons_zero] at c0 c1 c2
    have HB1 := Lib.hid hb1
    have HB2 := Lib.hid hb2
    clear hb1 hb2
    by_cases hlt : k < S.size
    · cases bd with
      | true =>
        go_wp2_with fail
        go_quiet (fail)
        have hm := hm.drewN nq
        go_wp2_with (first | (refine wpList_load_blk rfl 28 _ rfl (w.heap.size + 1) 0 28 (styC st) (styC st) _ rfl hm.cur (fun j v hv => by rw [Nat.zero_add]; exact hv) Tryz.underlying28 rfl styC_size ?_) | (refine wpList_store_blk rfl 28 _ _ rfl w.heap.size 0 28 (styC sty0) (styC st) rfl hm.res rfl (by rw [styC_len, styC_len]; exact Nat.le_refl _) styC_size (styC_cells _) ?_; intro w6 b6 k6 z6; rw [setL_all (by rw [styC_len, styC_len])] at b6))
        refine bodyPost_ret (results_cell_row rfl _ _ w.heap.size 28 (styC st).toArray (0, 0) _ rfl b6 Tryz.underlying28 rfl styC_size) rfl ?_
        have hk6 : Kept [g] w w6 := hm.kp.then (k6.to_below hm.kp.size (by simp))
        refine ⟨st, _, true, rfl, hst, hk6, hk, Blk.kept hm.rd k6 (by have := hm.gl; simp; omega), fun h => (by first | rfl | exact absurd (HB1.out h) (by simp)), fun h => ?_⟩
        rcases HB2.out h with ⟨h1, _⟩ | ⟨_, h1⟩
        · cases h1
        · exact h1
      | false =>
        have hbad : bad = false := by
          cases bad with
          | false => rfl
          | true => cases HB1.out rfl
        have HE := Lib.hid (show stylR sty0 (S.data.toList.drop a) = stylR st (S.data.toList.drop k) by
          rcases HB2.out hbad with ⟨_, h⟩ | ⟨h, _⟩
          · exact h
          · cases h)
        have HA := Lib.hid hm.at_
        have HBd := Lib.hid hbad
        clear hbad HB1 HB2
        go_wp2_with fail
        go_quiet (fail)
        have hm := hm.drewN nq
        clear c0 c1 c2 hf
        go_wp2_with fail
        refine (rword_any t g S hS k hk false _ hm.rd).mono ?_
        rintro e w3 ⟨rfl, hk3, k', hle', hk', hrest, hr3⟩
        have hm := hm.read hk3 hr3
        have hxl := wordC_len (S.data.toList.drop k)
        rw [List.length_drop, size_len] at hxl
        have HR := Lib.hid hrest
        clear hk3 hr3 hrest
        generalize hx : wordC (List.drop k S.data.toList) = x at *
        have HX := Lib.hid hx
        clear hx
        go_wp2_with fail
        refine (rindex_any x [[105, 110, 108, 105, 110, 101], [102, 108, 101, 120]] (by decide) _ _ _ (strs_new _ 9 [[105, 110, 108, 105, 110, 101], [102, 108, 101, 120]])).mono ?_
        rintro e w10 ⟨rfl, hw4⟩
        have hm := hm.more (hw4 ▸ below_one _ _)
        clear hw4
        have hi0 := idxR_le [[105, 110, 108, 105, 110, 101], [102, 108, 101, 120]] x
        simp only [List.length_cons, List.length_nil] at hi0
        by_cases h0 : 0 < idxR [[105, 110, 108, 105, 110, 101], [102, 108, 101, 120]] x
        · have HS := Lib.hid (step_hit' st 0 (by decide) [[105, 110, 108, 105, 110, 101], [102, 108, 101, 120]] rp0 h0)
          generalize idxR [[105, 110, 108, 105, 110, 101], [102, 108, 101, 120]] x = i at *
          have i1 : (0 : Int) < ((i : Nat) : Int) := by omega
          have i2 : IntKind.u8.wrap ((i : Nat) : Int) = ((i : Nat) : Int) := by simp [IntKind.wrap, IntKind.bits, IntKind.signed]; omega
          go_wp2_with (refine wpList_store_one rfl 5 _ _ rfl (w.heap.size + 1) 0 28 (styC st) (.int .u8 ((i : Nat) : Int)) (by rfl) hm.cur (by rfl) (by rw [styC_len]; omega) (by rfl) (storeVar_u8 _ _ _ _) ?_; intro w6 b6 k6 z6; have b6 : Blk w6 (w.heap.size + 1) 28 (styC { st with picks := st.picks.set 0 i }).toArray := (by rw [← styC_setPick hst.p ⟨0, by decide⟩ i]; exact b6); have hm := hm.write k6 b6; clear b6 k6 z6; simp only [Act.put])
          go_roundw
          case rel => exact StA.step hlt hk' HR.out hst (by rw [HX.out]; exact HS.out) hm HBd.out HE.out
          case measure =>
            have e2 := hm.at_
            have e3 := rest_lt hlt hk' HR.out
            rw [HA.out, e2]
            omega
        have n0 : ¬ (0 : Int) < ((idxR [[105, 110, 108, 105, 110, 101], [102, 108, 101, 120]] x : Nat) : Int) := by omega
        have N0 := Lib.hid h0
        clear h0 hi0
        go_wp2_with fail
        refine (rindex_any x [[115, 116, 97, 121], [107, 101, 101, 112]] (by decide) _ _ _ (strs_new _ 9 [[115, 116, 97, 121], [107, 101, 101, 112]])).mono ?_
        rintro e w11 ⟨rfl, hw4⟩
        have hm := hm.more (hw4 ▸ below_one _ _)
        clear hw4
        have hi1 := idxR_le [[115, 116, 97, 121], [107, 101, 101, 112]] x
        simp only [List.length_cons, List.length_nil] at hi1
        by_cases h1 : 0 < idxR [[115, 116, 97, 121], [107, 101, 101, 112]] x
        · have HS := Lib.hid (step_hit' st 1 (by decide) [[115, 116, 97, 121], [107, 101, 101, 112]] rp1 h1)
          generalize idxR [[115, 116, 97, 121], [107, 101, 101, 112]] x = i at *
          have i1 : (0 : Int) < ((i : Nat) : Int) := by omega
          have i2 : IntKind.u8.wrap ((i : Nat) : Int) = ((i : Nat) : Int) := by simp [IntKind.wrap, IntKind.bits, IntKind.signed]; omega
          go_wp2_with (refine wpList_store_one rfl 5 _ _ rfl (w.heap.size + 1) 33 28 (styC st) (.int .u8 ((i : Nat) : Int)) (by rfl) hm.cur (by rfl) (by rw [styC_len]; omega) (by rfl) (storeVar_u8 _ _ _ _) ?_; intro w6 b6 k6 z6; have b6 : Blk w6 (w.heap.size + 1) 28 (styC { st with picks := st.picks.set 1 i }).toArray := (by rw [← styC_setPick hst.p ⟨1, by decide⟩ i]; exact b6); have hm := hm.write k6 b6; clear b6 k6 z6; simp only [Act.put])
          go_roundw
          case rel => exact StA.step hlt hk' HR.out hst (by rw [HX.out]; exact HS.out) hm HBd.out HE.out
          case measure =>
            have e2 := hm.at_
            have e3 := rest_lt hlt hk' HR.out
            rw [HA.out, e2]
            omega
        have n1 : ¬ (0 : Int) < ((idxR [[115, 116, 97, 121], [107, 101, 101, 112]] x : Nat) : Int) := by omega
        have N1 := Lib.hid h1
        clear h1 hi1
        go_wp2_with fail
        refine (rindex_any x [[108, 105, 110, 101, 115, 45, 101, 110, 100], [108, 105, 110, 101, 115, 45, 109, 105, 100, 100, 108, 101]] (by decide) _ _ _ (strs_new _ 9 [[108, 105, 110, 101, 115, 45, 101, 110, 100], [108, 105, 110, 101, 115, 45, 109, 105, 100, 100, 108, 101]])).mono ?_
        rintro e w12 ⟨rfl, hw4⟩
        have hm := hm.more (hw4 ▸ below_one _ _)
        clear hw4
        have hi2 := idxR_le [[108, 105, 110, 101, 115, 45, 101, 110, 100], [108, 105, 110, 101, 115, 45, 109, 105, 100, 100, 108, 101]] x
        simp only [List.length_cons, List.length_nil] at hi2
        by_cases h2 : 0 < idxR [[108, 105, 110, 101, 115, 45, 101, 110, 100], [108, 105, 110, 101, 115, 45, 109, 105, 100, 100, 108, 101]] x
        · have HS := Lib.hid (step_hit' st 2 (by decide) [[108, 105, 110, 101, 115, 45, 101, 110, 100], [108, 105, 110, 101, 115, 45, 109, 105, 100, 100, 108, 101]] rp2 h2)
          generalize idxR [[108, 105, 110, 101, 115, 45, 101, 110, 100], [108, 105, 110, 101, 115, 45, 109, 105, 100, 100, 108, 101]] x = i at *
          have i1 : (0 : Int) < ((i : Nat) : Int) := by omega
          have i2 : IntKind.u8.wrap ((i : Nat) : Int) = ((i : Nat) : Int) := by simp [IntKind.wrap, IntKind.bits, IntKind.signed]; omega
          go_wp2_with (refine wpList_store_one rfl 5 _ _ rfl (w.heap.size + 1) 34 28 (styC st) (.int .u8 ((i : Nat) : Int)) (by rfl) hm.cur (by rfl) (by rw [styC_len]; omega) (by rfl) (storeVar_u8 _ _ _ _) ?_; intro w6 b6 k6 z6; have b6 : Blk w6 (w.heap.size + 1) 28 (styC { st with picks := st.picks.set 2 i }).toArray := (by rw [← styC_setPick hst.p ⟨2, by decide⟩ i]; exact b6); have hm := hm.write k6 b6; clear b6 k6 z6; simp only [Act.put])
          go_roundw
          case rel => exact StA.step hlt hk' HR.out hst (by rw [HX.out]; exact HS.out) hm HBd.out HE.out
          case measure =>
            have e2 := hm.at_
            have e3 := rest_lt hlt hk' HR.out
            rw [HA.out, e2]
            omega
        have n2 : ¬ (0 : Int) < ((idxR [[108, 105, 110, 101, 115, 45, 101, 110, 100], [108, 105, 110, 101, 115, 45, 109, 105, 100, 100, 108, 101]] x : Nat) : Int) := by omega
        have N2 := Lib.hid h2
        clear h2 hi2
        go_wp2_with fail
        refine (rindex_any x [[116, 111, 112], [98, 111, 116, 116, 111, 109]] (by decide) _ _ _ (strs_new _ 9 [[116, 111, 112], [98, 111, 116, 116, 111, 109]])).mono ?_
        rintro e w13 ⟨rfl, hw4⟩
        have hm := hm.more (hw4 ▸ below_one _ _)
        clear hw4
        have hi3 := idxR_le [[116, 111, 112], [98, 111, 116, 116, 111, 109]] x
        simp only [List.length_cons, List.length_nil] at hi3
        by_cases h3 : 0 < idxR [[116, 111, 112], [98, 111, 116, 116, 111, 109]] x
        · have HS := Lib.hid (step_hit' st 3 (by decide) [[116, 111, 112], [98, 111, 116, 116, 111, 109]] rp3 h3)
          generalize idxR [[116, 111, 112], [98, 111, 116, 116, 111, 109]] x = i at *
          have i1 : (0 : Int) < ((i : Nat) : Int) := by omega
          have i2 : IntKind.u8.wrap ((i : Nat) : Int) = ((i : Nat) : Int) := by simp [IntKind.wrap, IntKind.bits, IntKind.signed]; omega
          go_wp2_with (refine wpList_store_one rfl 5 _ _ rfl (w.heap.size + 1) 35 28 (styC st) (.int .u8 ((i : Nat) : Int)) (by rfl) hm.cur (by rfl) (by rw [styC_len]; omega) (by rfl) (storeVar_u8 _ _ _ _) ?_; intro w6 b6 k6 z6; have b6 : Blk w6 (w.heap.size + 1) 28 (styC { st with picks := st.picks.set 3 i }).toArray := (by rw [← styC_setPick hst.p ⟨3, by decide⟩ i]; exact b6); have hm := hm.write k6 b6; clear b6 k6 z6; simp only [Act.put])
          go_roundw
          case rel => exact StA.step hlt hk' HR.out hst (by rw [HX.out]; exact HS.out) hm HBd.out HE.out
          case measure =>
            have e2 := hm.at_
            have e3 := rest_lt hlt hk' HR.out
            rw [HA.out, e2]
            omega
        have n3 : ¬ (0 : Int) < ((idxR [[116, 111, 112], [98, 111, 116, 116, 111, 109]] x : Nat) : Int) := by omega
        have N3 := Lib.hid h3
        clear h3 hi3
        go_wp2_with fail
        refine (rindex_any x [[114, 111, 119, 45, 98, 97, 99, 107], [99, 111, 108, 117, 109, 110], [99, 111, 108, 117, 109, 110, 45, 98, 97, 99, 107]] (by decide) _ _ _ (strs_new _ 9 [[114, 111, 119, 45, 98, 97, 99, 107], [99, 111, 108, 117, 109, 110], [99, 111, 108, 117, 109, 110, 45, 98, 97, 99, 107]])).mono ?_
        rintro e w14 ⟨rfl, hw4⟩
        have hm := hm.more (hw4 ▸ below_one _ _)
        clear hw4
        have hi4 := idxR_le [[114, 111, 119, 45, 98, 97, 99, 107], [99, 111, 108, 117, 109, 110], [99, 111, 108, 117, 109, 110, 45, 98, 97, 99, 107]] x
        simp only [List.length_cons, List.length_nil] at hi4
        by_cases h4 : 0 < idxR [[114, 111, 119, 45, 98, 97, 99, 107], [99, 111, 108, 117, 109, 110], [99, 111, 108, 117, 109, 110, 45, 98, 97, 99, 107]] x
        · have HS := Lib.hid (step_hit' st 4 (by decide) [[114, 111, 119, 45, 98, 97, 99, 107], [99, 111, 108, 117, 109, 110], [99, 111, 108, 117, 109, 110, 45, 98, 97, 99, 107]] rp4 h4)
          generalize idxR [[114, 111, 119, 45, 98, 97, 99, 107], [99, 111, 108, 117, 109, 110], [99, 111, 108, 117, 109, 110, 45, 98, 97, 99, 107]] x = i at *
          have i1 : (0 : Int) < ((i : Nat) : Int) := by omega
          have i2 : IntKind.u8.wrap ((i : Nat) : Int) = ((i : Nat) : Int) := by simp [IntKind.wrap, IntKind.bits, IntKind.signed]; omega
          go_wp2_with (refine wpList_store_one rfl 5 _ _ rfl (w.heap.size + 1) 36 28 (styC st) (.int .u8 ((i : Nat) : Int)) (by rfl) hm.cur (by rfl) (by rw [styC_len]; omega) (by rfl) (storeVar_u8 _ _ _ _) ?_; intro w6 b6 k6 z6; have b6 : Blk w6 (w.heap.size + 1) 28 (styC { st with picks := st.picks.set 4 i }).toArray := (by rw [← styC_setPick hst.p ⟨4, by decide⟩ i]; exact b6); have hm := hm.write k6 b6; clear b6 k6 z6; simp only [Act.put])
          go_roundw
          case rel => exact StA.step hlt hk' HR.out hst (by rw [HX.out]; exact HS.out) hm HBd.out HE.out
          case measure =>
            have e2 := hm.at_
            have e3 := rest_lt hlt hk' HR.out
            rw [HA.out, e2]
            omega
        have n4 : ¬ (0 : Int) < ((idxR [[114, 111, 119, 45, 98, 97, 99, 107], [99, 111, 108, 117, 109, 110], [99, 111, 108, 117, 109, 110, 45, 98, 97, 99, 107]] x : Nat) : Int) := by omega
        have N4 := Lib.hid h4
        clear h4 hi4
        go_wp2_with fail
        refine (rindex_any x [[106, 117, 115, 116, 105, 102, 121, 45, 101, 110, 100], [106, 117, 115, 116, 105, 102, 121, 45, 109, 105, 100, 100, 108, 101], [106, 117, 115, 116, 105, 102, 121, 45, 98, 101, 116, 119, 101, 101, 110], [106, 117, 115, 116, 105, 102, 121, 45, 101, 118, 101, 110, 108, 121]] (by decide) _ _ _ (strs_new _ 9 [[106, 117, 115, 116, 105, 102, 121, 45, 101, 110, 100], [106, 117, 115, 116, 105, 102, 121, 45, 109, 105, 100, 100, 108, 101], [106, 117, 115, 116, 105, 102, 121, 45, 98, 101, 116, 119, 101, 101, 110], [106, 117, 115, 116, 105, 102, 121, 45, 101, 118, 101, 110, 108, 121]])).mono ?_
        rintro e w15 ⟨rfl, hw4⟩
        have hm := hm.more (hw4 ▸ below_one _ _)
        clear hw4
        have hi5 := idxR_le [[106, 117, 115, 116, 105, 102, 121, 45, 101, 110, 100], [106, 117, 115, 116, 105, 102, 121, 45, 109, 105, 100, 100, 108, 101], [106, 117, 115, 116, 105, 102, 121, 45, 98, 101, 116, 119, 101, 101, 110], [106, 117, 115, 116, 105, 102, 121, 45, 101, 118, 101, 110, 108, 121]] x
        simp only [List.length_cons, List.length_nil] at hi5
        by_cases h5 : 0 < idxR [[106, 117, 115, 116, 105, 102, 121, 45, 101, 110, 100], [106, 117, 115, 116, 105, 102, 121, 45, 109, 105, 100, 100, 108, 101], [106, 117, 115, 116, 105, 102, 121, 45, 98, 101, 116, 119, 101, 101, 110], [106, 117, 115, 116, 105, 102, 121, 45, 101, 118, 101, 110, 108, 121]] x
        · have HS := Lib.hid (step_hit' st 5 (by decide) [[106, 117, 115, 116, 105, 102, 121, 45, 101, 110, 100], [106, 117, 115, 116, 105, 102, 121, 45, 109, 105, 100, 100, 108, 101], [106, 117, 115, 116, 105, 102, 121, 45, 98, 101, 116, 119, 101, 101, 110], [106, 117, 115, 116, 105, 102, 121, 45, 101, 118, 101, 110, 108, 121]] rp5 h5)
          generalize idxR [[106, 117, 115, 116, 105, 102, 121, 45, 101, 110, 100], [106, 117, 115, 116, 105, 102, 121, 45, 109, 105, 100, 100, 108, 101], [106, 117, 115, 116, 105, 102, 121, 45, 98, 101, 116, 119, 101, 101, 110], [106, 117, 115, 116, 105, 102, 121, 45, 101, 118, 101, 110, 108, 121]] x = i at *
          have i1 : (0 : Int) < ((i : Nat) : Int) := by omega
          have i2 : IntKind.u8.wrap ((i : Nat) : Int) = ((i : Nat) : Int) := by simp [IntKind.wrap, IntKind.bits, IntKind.signed]; omega
          go_wp2_with (refine wpList_store_one rfl 5 _ _ rfl (w.heap.size + 1) 37 28 (styC st) (.int .u8 ((i : Nat) : Int)) (by rfl) hm.cur (by rfl) (by rw [styC_len]; omega) (by rfl) (storeVar_u8 _ _ _ _) ?_; intro w6 b6 k6 z6; have b6 : Blk w6 (w.heap.size + 1) 28 (styC { st with picks := st.picks.set 5 i }).toArray := (by rw [← styC_setPick hst.p ⟨5, by decide⟩ i]; exact b6); have hm := hm.write k6 b6; clear b6 k6 z6; simp only [Act.put])
          go_roundw
          case rel => exact StA.step hlt hk' HR.out hst (by rw [HX.out]; exact HS.out) hm HBd.out HE.out
          case measure =>
            have e2 := hm.at_
            have e3 := rest_lt hlt hk' HR.out
            rw [HA.out, e2]
            omega
        have n5 : ¬ (0 : Int) < ((idxR [[106, 117, 115, 116, 105, 102, 121, 45, 101, 110, 100], [106, 117, 115, 116, 105, 102, 121, 45, 109, 105, 100, 100, 108, 101], [106, 117, 115, 116, 105, 102, 121, 45, 98, 101, 116, 119, 101, 101, 110], [106, 117, 115, 116, 105, 102, 121, 45, 101, 118, 101, 110, 108, 121]] x : Nat) : Int) := by omega
        have N5 := Lib.hid h5
        clear h5 hi5
        go_wp2_with fail
        refine (rindex_any x [[97, 108, 105, 103, 110, 45, 101, 110, 100], [97, 108, 105, 103, 110, 45, 109, 105, 100, 100, 108, 101], [], [], [97, 108, 105, 103, 110, 45, 115, 116, 114, 101, 116, 99, 104]] (by decide) _ _ _ (strs_new _ 9 [[97, 108, 105, 103, 110, 45, 101, 110, 100], [97, 108, 105, 103, 110, 45, 109, 105, 100, 100, 108, 101], [], [], [97, 108, 105, 103, 110, 45, 115, 116, 114, 101, 116, 99, 104]])).mono ?_
        rintro e w16 ⟨rfl, hw4⟩
        have hm := hm.more (hw4 ▸ below_one _ _)
        clear hw4
        have hi6 := idxR_le [[97, 108, 105, 103, 110, 45, 101, 110, 100], [97, 108, 105, 103, 110, 45, 109, 105, 100, 100, 108, 101], [], [], [97, 108, 105, 103, 110, 45, 115, 116, 114, 101, 116, 99, 104]] x
        simp only [List.length_cons, List.length_nil] at hi6
        by_cases h6 : 0 < idxR [[97, 108, 105, 103, 110, 45, 101, 110, 100], [97, 108, 105, 103, 110, 45, 109, 105, 100, 100, 108, 101], [], [], [97, 108, 105, 103, 110, 45, 115, 116, 114, 101, 116, 99, 104]] x
        · have HS := Lib.hid (step_hit' st 6 (by decide) [[97, 108, 105, 103, 110, 45, 101, 110, 100], [97, 108, 105, 103, 110, 45, 109, 105, 100, 100, 108, 101], [], [], [97, 108, 105, 103, 110, 45, 115, 116, 114, 101, 116, 99, 104]] rp6 h6)
          generalize idxR [[97, 108, 105, 103, 110, 45, 101, 110, 100], [97, 108, 105, 103, 110, 45, 109, 105, 100, 100, 108, 101], [], [], [97, 108, 105, 103, 110, 45, 115, 116, 114, 101, 116, 99, 104]] x = i at *
          have i1 : (0 : Int) < ((i : Nat) : Int) := by omega
          have i2 : IntKind.u8.wrap ((i : Nat) : Int) = ((i : Nat) : Int) := by simp [IntKind.wrap, IntKind.bits, IntKind.signed]; omega
          go_wp2_with (refine wpList_store_one rfl 5 _ _ rfl (w.heap.size + 1) 39 28 (styC st) (.int .u8 ((i : Nat) : Int)) (by rfl) hm.cur (by rfl) (by rw [styC_len]; omega) (by rfl) (storeVar_u8 _ _ _ _) ?_; intro w6 b6 k6 z6; have b6 : Blk w6 (w.heap.size + 1) 28 (styC { st with picks := st.picks.set 6 i }).toArray := (by rw [← styC_setPick hst.p ⟨6, by decide⟩ i]; exact b6); have hm := hm.write k6 b6; clear b6 k6 z6; simp only [Act.put])
          go_roundw
          case rel => exact StA.step hlt hk' HR.out hst (by rw [HX.out]; exact HS.out) hm HBd.out HE.out
          case measure =>
            have e2 := hm.at_
            have e3 := rest_lt hlt hk' HR.out
            rw [HA.out, e2]
            omega
        have n6 : ¬ (0 : Int) < ((idxR [[97, 108, 105, 103, 110, 45, 101, 110, 100], [97, 108, 105, 103, 110, 45, 109, 105, 100, 100, 108, 101], [], [], [97, 108, 105, 103, 110, 45, 115, 116, 114, 101, 116, 99, 104]] x : Nat) : Int) := by omega
        have N6 := Lib.hid h6
        clear h6 hi6
        have NH : RowKit.Hid (∀ j : Fin 7, ¬ 0 < idxR (rpicksT[j.val]'j.isLt) x) := Lib.hid fun j => match j with
          | ⟨0, _⟩ => by show ¬ 0 < idxR (rpicksT[0]'(by decide)) x; rw [rp0]; exact N0.out
          | ⟨1, _⟩ => by show ¬ 0 < idxR (rpicksT[1]'(by decide)) x; rw [rp1]; exact N1.out
          | ⟨2, _⟩ => by show ¬ 0 < idxR (rpicksT[2]'(by decide)) x; rw [rp2]; exact N2.out
          | ⟨3, _⟩ => by show ¬ 0 < idxR (rpicksT[3]'(by decide)) x; rw [rp3]; exact N3.out
          | ⟨4, _⟩ => by show ¬ 0 < idxR (rpicksT[4]'(by decide)) x; rw [rp4]; exact N4.out
          | ⟨5, _⟩ => by show ¬ 0 < idxR (rpicksT[5]'(by decide)) x; rw [rp5]; exact N5.out
          | ⟨6, _⟩ => by show ¬ 0 < idxR (rpicksT[6]'(by decide)) x; rw [rp6]; exact N6.out
        clear N0 N1 N2 N3 N4 N5 N6
        by_cases hwhole : x = [119, 104, 111, 108, 101]
        · have m1 : ((mkB x).toList == ([119, 104, 111, 108, 101] : List UInt8)) = true := str_eq' (b := [119, 104, 111, 108, 101]) hwhole
          have HS := Lib.hid (show stepR st x = ({ st with whole := true }, false) by rw [hwhole]; exact step_whole st)
          clear hwhole
          go_wp2_with (refine wpList_store_one rfl 4 _ _ rfl (w.heap.size + 1) 1 28 (styC st) (.bool true) (by rfl) hm.cur (by rfl) (by rw [styC_len]; omega) (by rfl) (storeVar_bool _ _ _) ?_; intro w6 b6 k6 z6; have b6 : Blk w6 (w.heap.size + 1) 28 (styC { st with whole := true }).toArray := b6; have hm := hm.write k6 b6; clear b6 k6 z6; simp only [Act.put])
          go_roundw
          case rel => exact StA.step hlt hk' HR.out hst (by rw [HX.out]; exact HS.out) hm HBd.out HE.out
          case measure =>
            have e2 := hm.at_
            have e3 := rest_lt hlt hk' HR.out
            rw [HA.out, e2]
            omega
        have mwhole : ((mkB x).toList == ([119, 104, 111, 108, 101] : List UInt8)) = false := str_ne' (b := [119, 104, 111, 108, 101]) hwhole
        have Hwhole := Lib.hid hwhole
        clear hwhole
        by_cases hwrap : x = [119, 114, 97, 112]
        · have m1 : ((mkB x).toList == ([119, 114, 97, 112] : List UInt8)) = true := str_eq' (b := [119, 114, 97, 112]) hwrap
          have HS := Lib.hid (show stepR st x = ({ st with wrap := true }, false) by rw [hwrap]; exact step_wrap st)
          clear hwrap
          go_wp2_with (refine wpList_store_one rfl 4 _ _ rfl (w.heap.size + 1) 38 28 (styC st) (.bool true) (by rfl) hm.cur (by rfl) (by rw [styC_len]; omega) (by rfl) (storeVar_bool _ _ _) ?_; intro w6 b6 k6 z6; have b6 : Blk w6 (w.heap.size + 1) 28 (styC { st with wrap := true }).toArray := b6; have hm := hm.write k6 b6; clear b6 k6 z6; simp only [Act.put])
          go_roundw
          case rel => exact StA.step hlt hk' HR.out hst (by rw [HX.out]; exact HS.out) hm HBd.out HE.out
          case measure =>
            have e2 := hm.at_
            have e3 := rest_lt hlt hk' HR.out
            rw [HA.out, e2]
            omega
        have mwrap : ((mkB x).toList == ([119, 114, 97, 112] : List UInt8)) = false := str_ne' (b := [119, 114, 97, 112]) hwrap
        have Hwrap := Lib.hid hwrap
        clear hwrap
        have HS := Lib.hid (step_field st NH.out Hwhole.out Hwrap.out)
        clear NH Hwhole Hwrap
        go_wp2_with fail
        refine (rfield_any t g (w.heap.size + 1) (by have := hm.gl; omega) S k' false st hst (mkB x) (by rw [mkB_size]; omega) _ hm.rd hm.cur).mono ?_
        rintro e w5 ⟨rfl, q1, q2, q3⟩
        rw [mkB_toList, Bool.false_or] at q2
        rw [mkB_toList] at q3
        have hm := hm.both q1 q2 q3
        clear q1 q2 q3
        go_wp2_with fail
        go_roundw
        case rel => exact StA.step hlt hk' HR.out hst (by rw [HX.out]; exact HS.out) hm HBd.out HE.out
        case measure =>
          have e2 := hm.at_
          have e3 := rest_lt hlt hk' HR.out
          rw [HA.out, e2]
          omega
    · obtain rfl : k = S.size := by omega
      cases bd with
      | true =>
        go_wp2_with fail
        go_quiet (fail)
        have hm := hm.drewN nq
        go_wp2_with (first | (refine wpList_load_blk rfl 28 _ rfl (w.heap.size + 1) 0 28 (styC st) (styC st) _ rfl hm.cur (fun j v hv => by rw [Nat.zero_add]; exact hv) Tryz.underlying28 rfl styC_size ?_) | (refine wpList_store_blk rfl 28 _ _ rfl w.heap.size 0 28 (styC sty0) (styC st) rfl hm.res rfl (by rw [styC_len, styC_len]; exact Nat.le_refl _) styC_size (styC_cells _) ?_; intro w6 b6 k6 z6; rw [setL_all (by rw [styC_len, styC_len])] at b6))
        refine bodyPost_ret (results_cell_row rfl _ _ w.heap.size 28 (styC st).toArray (0, 0) _ rfl b6 Tryz.underlying28 rfl styC_size) rfl ?_
        have hk6 : Kept [g] w w6 := hm.kp.then (k6.to_below hm.kp.size (by simp))
        refine ⟨st, _, true, rfl, hst, hk6, hk, Blk.kept hm.rd k6 (by have := hm.gl; simp; omega), fun h => (by first | rfl | exact absurd (HB1.out h) (by simp)), fun h => ?_⟩
        rcases HB2.out h with ⟨h1, _⟩ | ⟨_, h1⟩
        · cases h1
        · exact h1
      | false =>
        go_wp2_with fail
        go_quiet (fail)
        have hm := hm.drewN nq
        go_wp2_with (first | (refine wpList_load_blk rfl 28 _ rfl (w.heap.size + 1) 0 28 (styC st) (styC st) _ rfl hm.cur (fun j v hv => by rw [Nat.zero_add]; exact hv) Tryz.underlying28 rfl styC_size ?_) | (refine wpList_store_blk rfl 28 _ _ rfl w.heap.size 0 28 (styC sty0) (styC st) rfl hm.res rfl (by rw [styC_len, styC_len]; exact Nat.le_refl _) styC_size (styC_cells _) ?_; intro w6 b6 k6 z6; rw [setL_all (by rw [styC_len, styC_len])] at b6))
        refine bodyPost_ret (results_cell_row rfl _ _ w.heap.size 28 (styC st).toArray (0, 0) _ rfl b6 Tryz.underlying28 rfl styC_size) rfl ?_
        have hk6 : Kept [g] w w6 := hm.kp.then (k6.to_below hm.kp.size (by simp))
        refine ⟨st, _, false, rfl, hst, hk6, hk, Blk.kept hm.rd k6 (by have := hm.gl; simp; omega), fun h => (by first | rfl | exact absurd (HB1.out h) (by simp)), fun h => ?_⟩
        rcases HB2.out h with ⟨_, h1⟩ | ⟨h1, _⟩
        · rw [h1, drop_end (Nat.le_refl _), stylR_nil]
        · cases h1

end Go.Proofs.YtaoehdmdjplegaaGreatDoor
