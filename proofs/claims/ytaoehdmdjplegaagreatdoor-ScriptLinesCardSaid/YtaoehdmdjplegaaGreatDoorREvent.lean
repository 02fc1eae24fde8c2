/-
  Walks: windowpaneref32.reader's event: what it answers, and what it leaves (written by gen_revent.py).
-/
import Derived.Test.YtaoehdmdjplegaaGreatDoorEvC
namespace Go.Proofs.YtaoehdmdjplegaaGreatDoor
open Go.RowKit Go.Shelf

theorem numR_def (r : List UInt8) : numR r = if (toldR (wordC r)).2 then none else some ((toldR (wordC r)).1, restC r) := rfl
theorem ev_plain {t : List UInt8 × Nat × Nat × Nat} (ht : t ∈ plainT) (r : List UInt8) : eventG t.1 r = (numsR t.2.2.2 r).map fun x => setF t.2.1 t.2.2.1 x.1 := by
  obtain ⟨h1, h2, h3, h4, h5⟩ := plain_find t ht
  unfold eventG
  rw [if_neg h2, if_neg h3, if_neg h4, if_neg h5, h1]
theorem ev_style (r : List UInt8) : eventG styleB r = match numR r with
    | some (k, r) => (stylO r).map fun s => { ev0 with kind := 1, ck := 4, key := k, sty := s }
    | none => none := rfl
theorem ev_text (r : List UInt8) : eventG textB r = match numR r with
    | some (k, r) => (textO r).map fun t => { ev0 with kind := 1, ck := 5, key := k, text := t }
    | none => none := rfl
theorem ev_inject (r : List UInt8) : eventG injectB r = match numR r with
    | some (k, r) => (bytesR r).map fun b => { ev0 with kind := 9, client := k, bytes := b }
    | none => none := rfl
theorem ev_none {x : List UInt8} (h1 : x ≠ insertB) (h2 : x ≠ styleB) (h3 : x ≠ textB) (h4 : x ≠ injectB) (h : ∀ t ∈ plainT, x ≠ t.1) (r : List UInt8) : eventG x r = none := by
  have hf : plainT.find? (·.1 = x) = none := by
    rw [List.find?_eq_none]
    intro t ht
    simpa using Ne.symm (h t ht)
  unfold eventG
  rw [if_neg h1, if_neg h2, if_neg h3, if_neg h4, hf]
/-- What lies in memory while an event is read. -/
structure EM (t : TypeId) (g : Nat) (S : ByteArray) (w0 : World) (k : Nat) (bd : Bool) (L : List Value) (w : World) : Prop where
  rd : Rdr t w g S k bd
  res : Blk w w0.heap.size 34 (evC ev0 (.slice none 0 0)).toArray
  cur : Blk w (w0.heap.size + 1) 34 L.toArray
  len : L.length = 59
  kp : Kept [g] w0 w
  sz : w0.heap.size + 2 ≤ w.heap.size
  gl : g < w0.heap.size
section
variable {t : TypeId} {g : Nat} {S : ByteArray} {w0 w w' : World} {k k' : Nat} {bd bd' : Bool} {L L' : List Value}
theorem EM.more (h : EM t g S w0 k bd L w) (hb : Below w.heap.size w w') : EM t g S w0 k bd L w' :=
  ⟨Blk.below h.rd hb h.rd.lt, h.res.below hb h.res.lt, h.cur.below hb h.cur.lt, h.len, h.kp.trans (Kept.of_below hb), Nat.le_trans h.sz hb.size, h.gl⟩
theorem EM.read (h : EM t g S w0 k bd L w) (hk : Kept [g] w w') (hr : Rdr t w' g S k' bd') : EM t g S w0 k' bd' L w' :=
  ⟨hr, h.res.kept hk (by simpa using (Nat.ne_of_lt h.gl).symm), h.cur.kept hk (by have := h.gl; simp; omega), h.len, h.kp.trans hk, Nat.le_trans h.sz hk.size, h.gl⟩
theorem EM.told (h : EM t g S w0 k bd L w) (c : Bool) : EM t g S w0 k (bd || c) L (badW g c w) := by
  obtain ⟨h1, h2, _⟩ := badW_kept c h.rd
  exact h.read h1 h2
theorem EM.put (h : EM t g S w0 k bd L w) (hc : Blk w' (w0.heap.size + 1) 34 L'.toArray) (hk : Kept [w0.heap.size + 1] w w') (hl : L'.length = 59) : EM t g S w0 k bd L' w' :=
  ⟨Blk.kept h.rd hk (by have := h.gl; simp; omega), h.res.kept hk (by simp), hc, hl, h.kp.then (hk.to_below h.kp.size (by simp)), Nat.le_trans h.sz hk.size, h.gl⟩
theorem EM.is (h : EM t g S w0 k bd L w) (e : L = L') : EM t g S w0 k bd L' w := e ▸ h
def evOs : List Obj := [.cells (evC ev0 (.slice none 0 0)).toArray 34, .cells (evC ev0 (.slice none 0 0)).toArray 34]
theorem EM.start (hr : Rdr t w g S k bd) : EM t g S w k bd (evC ev0 (.slice none 0 0)) (allocs w evOs) :=
  ⟨Blk.below hr (allocs_below _ _) hr.lt, allocs_blk evOs w 0 _ _ rfl, allocs_blk evOs w 1 _ _ rfl, rfl, Kept.of_below (allocs_below _ _), Nat.le_of_eq (allocs_size evOs w).symm, hr.lt⟩
end
/-- What an event's reading leaves. -/
def EvRel (o : Option Ev) (bd : Bool) (ev : Ev) : Prop := match o with
  | none => bd = true
  | some x => bd = false ∧ ev = x
theorem EvRel.of {o : Option Ev} {bd : Bool} {ev : Ev} (h : o = if bd then none else some ev) : EvRel o bd ev := by
  subst h
  cases bd
  · exact ⟨rfl, rfl⟩
  · exact rfl
def EventPost (t : TypeId) (g : Nat) (S : ByteArray) (w : World) (e : Ending) (w' : World) : Prop :=
  ∃ (ev : Ev) (bv : Value) (k : Nat) (bd : Bool), e = .returned (.agg (evC ev bv).toArray) ∧ Kept [g] w w' ∧ Rdr t w' g S k bd ∧ OwnsY w' w.heap.size bv ev.bytes ∧ EvRel (eventR S.data.toList) bd ev
theorem EventPost.done {t : TypeId} {g : Nat} {S : ByteArray} {w w1 w2 : World} {k : Nat} {bd : Bool} {ev : Ev} {bv : Value} (hm : EM t g S w k bd (evC ev bv) w1) (hk : Kept [w.heap.size] w1 w2) (hb : OwnsY w2 w.heap.size bv ev.bytes) (hr : EvRel (eventR S.data.toList) bd ev) :
    EventPost t g S w (.returned (.agg (evC ev bv).toArray)) w2 :=
  ⟨ev, bv, k, bd, rfl, hm.kp.then (hk.to_below hm.kp.size (by simp)), Blk.kept hm.rd hk (by have := hm.gl; simp; omega), hb, hr⟩
theorem word_small {S : ByteArray} (hS : S.size ≤ 5000) (k : Nat) : (mkB (wordC (S.data.toList.drop k))).size ≤ 5000 := by
  have h := wordC_len (S.data.toList.drop k)
  rw [List.length_drop, size_len] at h
  rw [mkB_size]; omega
theorem drop_small {S : ByteArray} (hS : S.size ≤ 5000) (k : Nat) : (mkB (S.data.toList.drop k)).size ≤ 5000 := by
  rw [mkB_size, List.length_drop, size_len]; omega

set_option maxRecDepth 100000 in
set_option maxHeartbeats 16000000 in
theorem revent_any (t : TypeId) (g : Nat) (S : ByteArray) (hS : S.size ≤ 5000) (w : World) (hr : Rdr t w g S 0 false) :
    Calls Tryz.prog 13 #[.pointer (some ⟨g, 0, none⟩)] w (EventPost t g S w) := by
  have hg := hr.lt
  have hm := EM.start (w := w) hr
  clear hr
  go_enter Tryz.func13, Tryz.ntmps13
  have hk0 : 0 ≤ S.size := Nat.zero_le _
  obtain ⟨k0, hk00⟩ : ∃ k : Nat, k = 0 := ⟨_, rfl⟩
  have hk0 : k0 ≤ S.size := by omega
  have hm : EM t g S w k0 false (evC ev0 (.slice none 0 0)) (allocs w evOs) := by rw [hk00]; exact hm
  have hd0 : S.data.toList = S.data.toList.drop k0 := by rw [hk00]; rfl
  have HER := Lib.hid (show eventR S.data.toList = eventG (wordC (S.data.toList.drop k0)) (restC (S.data.toList.drop k0)) by rw [← hd0]; rfl)
  clear hd0 hk00
  go_wp2_with (refine wpList_store_one rfl 5 _ _ rfl (w.heap.size + 1) 0 34 _ (.int .u8 1) (by rfl) hm.cur (by rfl) (by have := hm.len; omega) (by rfl) (storeVar_u8 _ _ _ _) ?_; intro w6 b6 k6 z6; have hm := hm.put b6 k6 (by rw [List.length_set]; exact hm.len); clear b6 k6 z6; simp only [Act.put])
  refine (rword_any t g S hS k0 hk0 _ _ hm.rd).mono ?_
  rintro e w3 ⟨rfl, hq, k1, _, hk1, hr1, hr⟩
  have hm := hm.read hq hr
  clear hq hr
  have HR1 := Lib.hid hr1
  clear hr1
  rw [← HR1.out] at HER
  generalize wordC (S.data.toList.drop k0) = x at *
  go_upto_region 6 with fail
  by_cases h0 : x = [105, 110, 115, 101, 114, 116]
  · have m1 : ((mkB x).toList == ([105, 110, 115, 101, 114, 116] : List UInt8)) = true := str_eq' (b := [105, 110, 115, 101, 114, 116]) h0
    have HX := Lib.hid h0
    clear h0
    go_wp2_with (refine wpList_store_one rfl 5 _ _ rfl (w.heap.size + 1) 4 34 _ (.int .u8 1) (by rfl) hm.cur (by rfl) (by have := hm.len; omega) (by rfl) (storeVar_u8 _ _ _ _) ?_; intro w6 b6 k6 z6; have hm := hm.put b6 k6 (by rw [List.length_set]; exact hm.len); clear b6 k6 z6; simp only [Act.put])
    refine (rword_any t g S hS k1 hk1 _ _ hm.rd).mono ?_
    rintro e w3 ⟨rfl, hq, k2, _, hk2, hr2, hr⟩
    have hm := hm.read hq hr
    clear hq hr
    have HR2 := Lib.hid hr2
    clear hr2
    go_wp2_with fail
    refine (rtold_any t g (mkB (wordC (S.data.toList.drop k1))) (word_small hS k1) S _ _ _ hm.rd).mono ?_
    rintro e w3 ⟨rfl, rfl⟩
    rw [mkB_toList]
    have hm := hm.told (toldR (wordC (S.data.toList.drop k1))).2
    have HN1 := Lib.hid (numR_def (S.data.toList.drop k1))
    rw [← HR2.out] at HN1
    generalize badW g (toldR (wordC (S.data.toList.drop k1))).2 _ = w4 at *
    generalize (toldR (wordC (S.data.toList.drop k1))).1 = n1 at *
    generalize (toldR (wordC (S.data.toList.drop k1))).2 = c1 at *
    go_wp2_with fail
    refine (rword_any t g S hS k2 hk2 _ _ hm.rd).mono ?_
    rintro e w3 ⟨rfl, hq, k3, _, hk3, hr3, hr⟩
    have hm := hm.read hq hr
    clear hq hr
    have HR3 := Lib.hid hr3
    clear hr3
    go_wp2_with fail
    refine (rtold_any t g (mkB (wordC (S.data.toList.drop k2))) (word_small hS k2) S _ _ _ hm.rd).mono ?_
    rintro e w3 ⟨rfl, rfl⟩
    rw [mkB_toList]
    have hm := hm.told (toldR (wordC (S.data.toList.drop k2))).2
    have HN2 := Lib.hid (numR_def (S.data.toList.drop k2))
    rw [← HR3.out] at HN2
    generalize badW g (toldR (wordC (S.data.toList.drop k2))).2 _ = w4 at *
    generalize (toldR (wordC (S.data.toList.drop k2))).1 = n2 at *
    generalize (toldR (wordC (S.data.toList.drop k2))).2 = c2 at *
    go_wp2_with (first | (refine wpList_store_one rfl 3 _ _ rfl (w.heap.size + 1) 6 34 _ (.int .i64 n1) (by rfl) hm.cur (by rfl) (by have := hm.len; omega) (by rfl) (storeVar_int _ _ _ _) ?_; intro w6 b6 k6 z6; have hm := hm.put b6 k6 (by rw [List.length_set]; exact hm.len); clear b6 k6 z6; simp only [Act.put]) | (refine wpList_store_one rfl 3 _ _ rfl (w.heap.size + 1) 7 34 _ (.int .i64 n2) (by rfl) hm.cur (by rfl) (by have := hm.len; omega) (by rfl) (storeVar_int _ _ _ _) ?_; intro w6 b6 k6 z6; have hm := hm.put b6 k6 (by rw [List.length_set]; exact hm.len); clear b6 k6 z6; simp only [Act.put]))
    refine (rword_any t g S hS k3 hk3 _ _ hm.rd).mono ?_
    rintro e w3 ⟨rfl, hq, k4, _, hk4, hr4, hr⟩
    have hm := hm.read hq hr
    clear hq hr
    have HR4 := Lib.hid hr4
    clear hr4
    have HI := Lib.hid (show numsR 2 (S.data.toList.drop k1) = if ((false || c1) || c2) then none else some ([n1, n2], S.data.toList.drop k3) by
      cases c1 <;> cases c2 <;> simp [numsR, HN1.out, HN2.out])
    have HER2 := Lib.hid (show eventR S.data.toList = if ((false || c1) || c2) then none else if wordC (S.data.toList.drop k3) = boxB then (stylO (S.data.toList.drop k4)).map fun s => { ev0 with kind := 1, ck := 1, parent := n1, at_ := n2, sty := s } else if wordC (S.data.toList.drop k3) = textB then (textO (S.data.toList.drop k4)).map fun t => { ev0 with kind := 1, ck := 1, parent := n1, at_ := n2, nkind := 1, text := t } else none by
      rw [HER.out, HX.out]
      unfold eventG
      rw [if_pos (show ([105, 110, 115, 101, 114, 116] : List UInt8) = insertB from rfl), HI.out, HR4.out]
      cases c1 <;> cases c2 <;> rfl)
    clear HI HN1 HN2 HER
    generalize wordC (S.data.toList.drop k3) = y at *
    go_upto_region 11 with fail
    by_cases hbox : y = [98, 111, 120]
    · have m1 : ((mkB y).toList == ([98, 111, 120] : List UInt8)) = true := str_eq' (b := [98, 111, 120]) hbox
      have HY := Lib.hid hbox
      clear hbox
      go_wp2_with fail
      have hm := hm.is (L' := evC { ev0 with kind := 1, ck := 1, parent := n1, at_ := n2 } (.slice none 0 0)) rfl
      refine (rsty_any t g S hS k4 hk4 _ _ hm.rd).mono ?_
      rintro e w7 ⟨st, k5, bd, rfl, hst, hq, hk5, hr, hb1, hb2⟩
      have hm := hm.read hq hr
      have HB1 := Lib.hid hb1
      have HB2 := Lib.hid hb2
      clear hq hr hb1 hb2
      go_upto_region 46 with (first | (refine wpList_store_blk rfl 28 _ _ rfl (w.heap.size + 1) 11 34 _ (styC st) rfl hm.cur rfl (by have := hm.len; rw [styC_len]; omega) styC_size (styC_cells _) ?_; intro w6 b6 k6 z6; have hm := (hm.put b6 k6 (by rw [setL_len]; exact hm.len)).is (evC_setSty _ _ _); clear b6 k6 z6; simp only [Act.put]))
      obtain ⟨ev, hev⟩ : ∃ ev : Ev, ev = { ev0 with kind := 1, ck := 1, parent := n1, at_ := n2, sty := st } := ⟨_, rfl⟩
      obtain ⟨bv, hbv0⟩ : ∃ bv : Value, bv = .slice none 0 0 := ⟨_, rfl⟩
      have hbv : bv.oneCell' = true := by rw [hbv0]; exact rfl
      have hm := hm.is (L' := evC ev bv) (by first | (rw [hev, hbv0]; done) | (rw [hev, hbv0]; rfl))
      have HE := Lib.hid hev
      have HV := Lib.hid hbv0
      clear hev hbv0
      go_wp2_with (first | (refine wpList_load_blk rfl 34 _ rfl (w.heap.size + 1) 0 34 (evC ev bv) (evC ev bv) _ rfl hm.cur (fun j v hv => by rw [Nat.zero_add]; exact hv) Tryz.underlying34 rfl evC_size ?_) | (refine wpList_store_blk rfl 34 _ _ rfl w.heap.size 0 34 (evC ev0 (.slice none 0 0)) (evC ev bv) rfl hm.res rfl (by rw [evC_len, evC_len]; exact Nat.le_refl _) evC_size (evC_cells _ hbv) ?_; intro w9 b9 k9 z9; rw [setL_all (by rw [evC_len, evC_len])] at b9))
      refine bodyPost_ret (results_cell_row rfl _ _ w.heap.size 34 (evC ev bv).toArray (0, 0) _ rfl b9 Tryz.underlying34 rfl evC_size) rfl ?_
      refine EventPost.done hm k9 (by rw [HE.out, HV.out]; exact OwnsY.nil _ _) (EvRel.of ?_)
      have hE := HE.out
      rw [HER2.out, HY.out, hE]
      rw [if_pos (show ([98, 111, 120] : List UInt8) = boxB from rfl)]
      by_cases hc : ((false || c1) || c2) = true
      · have hbd := HB1.out hc
        subst hbd
        cases c1 <;> cases c2 <;> first | rfl | cases hc
      · have hc : ((false || c1) || c2) = false := by simpa using hc
        have h2 := HB2.out hc
        have h3 : stylO (S.data.toList.drop k4) = if bd then none else some st := by unfold stylO; rw [h2]
        have h4 : c1 = false ∧ c2 = false := by cases c1 <;> cases c2 <;> first | exact ⟨rfl, rfl⟩ | cases hc
        obtain ⟨rfl, rfl⟩ := h4
        simp only [Bool.or_false, Bool.false_eq_true, if_false, h3]
        cases bd <;> rfl
    have m0 : ((mkB y).toList == ([98, 111, 120] : List UInt8)) = false := str_ne' (b := [98, 111, 120]) hbox
    have HY0 := Lib.hid hbox
    clear hbox
    go_upto_region 13 with fail
    clear m0
    by_cases htxt : y = [116, 101, 120, 116]
    · have m1 : ((mkB y).toList == ([116, 101, 120, 116] : List UInt8)) = true := str_eq' (b := [116, 101, 120, 116]) htxt
      have HY := Lib.hid htxt
      clear htxt
      go_wp2_with fail
      refine (rrest_any t g S k4 hk4 _ _ hm.rd).mono ?_
      rintro e w7 ⟨rfl, hq, hr⟩
      have hm := hm.read hq hr
      clear hq hr
      go_wp2_with fail
      refine (rtext_any t g (mkB (S.data.toList.drop k4)) (drop_small hS k4) S _ _ _ hm.rd).mono ?_
      rintro e w7 ⟨rfl, hq, hr⟩
      have hm := hm.read hq hr
      clear hq hr
      rw [mkB_toList] at hm ⊢
      have HT := Lib.hid (show textO (S.data.toList.drop k4) = if (textR (S.data.toList.drop k4)).2 then none else some (textR (S.data.toList.drop k4)).1 from rfl)
      generalize (textR (S.data.toList.drop k4)).1 = tx at *
      generalize (textR (S.data.toList.drop k4)).2 = ct at *
      go_upto_region 46 with (first | (refine wpList_store_one rfl 5 _ _ rfl (w.heap.size + 1) 10 34 _ (.int .u8 1) (by rfl) hm.cur (by rfl) (by have := hm.len; omega) (by rfl) (storeVar_u8 _ _ _ _) ?_; intro w6 b6 k6 z6; have hm := hm.put b6 k6 (by rw [List.length_set]; exact hm.len); clear b6 k6 z6; simp only [Act.put]) | (refine wpList_store_one rfl 9 _ _ rfl (w.heap.size + 1) 58 34 _ (.string (mkB tx)) (by rfl) hm.cur (by rfl) (by have := hm.len; omega) (by rfl) (storeVar_str _ _ _) ?_; intro w6 b6 k6 z6; have hm := hm.put b6 k6 (by rw [List.length_set]; exact hm.len); clear b6 k6 z6; simp only [Act.put]))
      obtain ⟨ev, hev⟩ : ∃ ev : Ev, ev = { ev0 with kind := 1, ck := 1, parent := n1, at_ := n2, nkind := 1, text := tx } := ⟨_, rfl⟩
      obtain ⟨bv, hbv0⟩ : ∃ bv : Value, bv = .slice none 0 0 := ⟨_, rfl⟩
      have hbv : bv.oneCell' = true := by rw [hbv0]; exact rfl
      have hm := hm.is (L' := evC ev bv) (by first | (rw [hev, hbv0]; done) | (rw [hev, hbv0]; rfl))
      have HE := Lib.hid hev
      have HV := Lib.hid hbv0
      clear hev hbv0
      go_wp2_with (first | (refine wpList_load_blk rfl 34 _ rfl (w.heap.size + 1) 0 34 (evC ev bv) (evC ev bv) _ rfl hm.cur (fun j v hv => by rw [Nat.zero_add]; exact hv) Tryz.underlying34 rfl evC_size ?_) | (refine wpList_store_blk rfl 34 _ _ rfl w.heap.size 0 34 (evC ev0 (.slice none 0 0)) (evC ev bv) rfl hm.res rfl (by rw [evC_len, evC_len]; exact Nat.le_refl _) evC_size (evC_cells _ hbv) ?_; intro w9 b9 k9 z9; rw [setL_all (by rw [evC_len, evC_len])] at b9))
      refine bodyPost_ret (results_cell_row rfl _ _ w.heap.size 34 (evC ev bv).toArray (0, 0) _ rfl b9 Tryz.underlying34 rfl evC_size) rfl ?_
      refine EventPost.done hm k9 (by rw [HE.out, HV.out]; exact OwnsY.nil _ _) (EvRel.of ?_)
      have hE := HE.out
      rw [HER2.out, HY.out, hE]
      rw [if_neg (show ¬ ([116, 101, 120, 116] : List UInt8) = boxB by decide), if_pos (show ([116, 101, 120, 116] : List UInt8) = textB from rfl)]
      cases c1 <;> cases c2 <;> cases ct <;> simp [HT.out]
    have m0 : ((mkB y).toList == ([116, 101, 120, 116] : List UInt8)) = false := str_ne' (b := [116, 101, 120, 116]) htxt
    have HY1 := Lib.hid htxt
    clear htxt
    have hf2 := hm.rd.frozen
    have c2 := hm.rd.cell 2
    simp only [List.getElem?_toArray, List.getElem?_cons_succ, List.getElem?_cons_zero] at c2
    go_upto_region 46 with fail
    have hm := hm.read ((Kept.refl [g] _).setCell (p := ⟨g, 2, none⟩) (by simp) (.bool true)) hm.rd.wrong
    clear hf2 c2
    go_upto_region 46 with fail
    obtain ⟨ev, hev⟩ : ∃ ev : Ev, ev = { ev0 with kind := 1, ck := 1, parent := n1, at_ := n2 } := ⟨_, rfl⟩
    obtain ⟨bv, hbv0⟩ : ∃ bv : Value, bv = .slice none 0 0 := ⟨_, rfl⟩
    have hbv : bv.oneCell' = true := by rw [hbv0]; exact rfl
    have hm := hm.is (L' := evC ev bv) (by first | (rw [hev, hbv0]; done) | (rw [hev, hbv0]; rfl))
    have HE := Lib.hid hev
    have HV := Lib.hid hbv0
    clear hev hbv0
    go_wp2_with (first | (refine wpList_load_blk rfl 34 _ rfl (w.heap.size + 1) 0 34 (evC ev bv) (evC ev bv) _ rfl hm.cur (fun j v hv => by rw [Nat.zero_add]; exact hv) Tryz.underlying34 rfl evC_size ?_) | (refine wpList_store_blk rfl 34 _ _ rfl w.heap.size 0 34 (evC ev0 (.slice none 0 0)) (evC ev bv) rfl hm.res rfl (by rw [evC_len, evC_len]; exact Nat.le_refl _) evC_size (evC_cells _ hbv) ?_; intro w9 b9 k9 z9; rw [setL_all (by rw [evC_len, evC_len])] at b9))
    refine bodyPost_ret (results_cell_row rfl _ _ w.heap.size 34 (evC ev bv).toArray (0, 0) _ rfl b9 Tryz.underlying34 rfl evC_size) rfl ?_
    refine EventPost.done hm k9 (by rw [HE.out, HV.out]; exact OwnsY.nil _ _) (EvRel.of ?_)
    have hE := HE.out
    rw [HER2.out, if_neg (show ¬ y = boxB from HY0.out), if_neg (show ¬ y = textB from HY1.out)]
    simp
  have m0 : ((mkB x).toList == ([105, 110, 115, 101, 114, 116] : List UInt8)) = false := str_ne' (b := [105, 110, 115, 101, 114, 116]) h0
  have H0 := Lib.hid h0
  clear h0
  go_upto_region 15 with fail
  clear m0
  by_cases h1 : x = [114, 101, 109, 111, 118, 101]
  · have m1 : ((mkB x).toList == ([114, 101, 109, 111, 118, 101] : List UInt8)) = true := str_eq' (b := [114, 101, 109, 111, 118, 101]) h1
    have HX := Lib.hid h1
    clear h1 H0
    go_wp2_with fail
    refine (rword_any t g S hS k1 hk1 _ _ hm.rd).mono ?_
    rintro e w3 ⟨rfl, hq, k2, _, hk2, hr2, hr⟩
    have hm := hm.read hq hr
    clear hq hr
    have HR2 := Lib.hid hr2
    clear hr2
    go_wp2_with fail
    refine (rtold_any t g (mkB (wordC (S.data.toList.drop k1))) (word_small hS k1) S _ _ _ hm.rd).mono ?_
    rintro e w3 ⟨rfl, rfl⟩
    rw [mkB_toList]
    have hm := hm.told (toldR (wordC (S.data.toList.drop k1))).2
    have HN1 := Lib.hid (numR_def (S.data.toList.drop k1))
    rw [← HR2.out] at HN1
    generalize badW g (toldR (wordC (S.data.toList.drop k1))).2 _ = w4 at *
    generalize (toldR (wordC (S.data.toList.drop k1))).1 = n1 at *
    generalize (toldR (wordC (S.data.toList.drop k1))).2 = c1 at *
    go_upto_region 46 with (first | (refine wpList_store_one rfl 5 _ _ rfl (w.heap.size + 1) 4 34 _ (.int .u8 2) (by rfl) hm.cur (by rfl) (by have := hm.len; omega) (by rfl) (storeVar_u8 _ _ _ _) ?_; intro w6 b6 k6 z6; have hm := hm.put b6 k6 (by rw [List.length_set]; exact hm.len); clear b6 k6 z6; simp only [Act.put]) | (refine wpList_store_one rfl 3 _ _ rfl (w.heap.size + 1) 5 34 _ (.int .i64 n1) (by rfl) hm.cur (by rfl) (by have := hm.len; omega) (by rfl) (storeVar_int _ _ _ _) ?_; intro w6 b6 k6 z6; have hm := hm.put b6 k6 (by rw [List.length_set]; exact hm.len); clear b6 k6 z6; simp only [Act.put]))
    obtain ⟨ev, hev⟩ : ∃ ev : Ev, ev = { ev0 with kind := 1, ck := 2, key := n1 } := ⟨_, rfl⟩
    obtain ⟨bv, hbv0⟩ : ∃ bv : Value, bv = .slice none 0 0 := ⟨_, rfl⟩
    have hbv : bv.oneCell' = true := by rw [hbv0]; exact rfl
    have hm := hm.is (L' := evC ev bv) (by first | (rw [hev, hbv0]; done) | (rw [hev, hbv0]; rfl))
    have HE := Lib.hid hev
    have HV := Lib.hid hbv0
    clear hev hbv0
    go_wp2_with (first | (refine wpList_load_blk rfl 34 _ rfl (w.heap.size + 1) 0 34 (evC ev bv) (evC ev bv) _ rfl hm.cur (fun j v hv => by rw [Nat.zero_add]; exact hv) Tryz.underlying34 rfl evC_size ?_) | (refine wpList_store_blk rfl 34 _ _ rfl w.heap.size 0 34 (evC ev0 (.slice none 0 0)) (evC ev bv) rfl hm.res rfl (by rw [evC_len, evC_len]; exact Nat.le_refl _) evC_size (evC_cells _ hbv) ?_; intro w9 b9 k9 z9; rw [setL_all (by rw [evC_len, evC_len])] at b9))
    refine bodyPost_ret (results_cell_row rfl _ _ w.heap.size 34 (evC ev bv).toArray (0, 0) _ rfl b9 Tryz.underlying34 rfl evC_size) rfl ?_
    refine EventPost.done hm k9 (by rw [HE.out, HV.out]; exact OwnsY.nil _ _) (EvRel.of ?_)
    have hE := HE.out
    rw [HER.out, HX.out, show ([114, 101, 109, 111, 118, 101] : List UInt8) = (plainT[0]'(by decide)).1 from rfl, ev_plain (List.getElem_mem _), hE]
    show (numsR 1 (S.data.toList.drop k1)).map (fun x => setF 1 2 x.1) = _
    have h1 : numsR 1 (S.data.toList.drop k1) = if (false || c1) then none else some ([n1], S.data.toList.drop k2) := by
      cases c1 <;> simp [numsR, HN1.out]
    rw [h1]
    cases c1 <;> rfl
  have m0 : ((mkB x).toList == ([114, 101, 109, 111, 118, 101] : List UInt8)) = false := str_ne' (b := [114, 101, 109, 111, 118, 101]) h1
  have H1 := Lib.hid h1
  clear h1
  go_upto_region 17 with fail
  clear m0
  by_cases h2 : x = [109, 111, 118, 101]
  · have m1 : ((mkB x).toList == ([109, 111, 118, 101] : List UInt8)) = true := str_eq' (b := [109, 111, 118, 101]) h2
    have HX := Lib.hid h2
    clear h2 H0 H1
    go_wp2_with (refine wpList_store_one rfl 5 _ _ rfl (w.heap.size + 1) 4 34 _ (.int .u8 3) (by rfl) hm.cur (by rfl) (by have := hm.len; omega) (by rfl) (storeVar_u8 _ _ _ _) ?_; intro w6 b6 k6 z6; have hm := hm.put b6 k6 (by rw [List.length_set]; exact hm.len); clear b6 k6 z6; simp only [Act.put])
    refine (rword_any t g S hS k1 hk1 _ _ hm.rd).mono ?_
    rintro e w3 ⟨rfl, hq, k2, _, hk2, hr2, hr⟩
    have hm := hm.read hq hr
    clear hq hr
    have HR2 := Lib.hid hr2
    clear hr2
    go_wp2_with fail
    refine (rtold_any t g (mkB (wordC (S.data.toList.drop k1))) (word_small hS k1) S _ _ _ hm.rd).mono ?_
    rintro e w3 ⟨rfl, rfl⟩
    rw [mkB_toList]
    have hm := hm.told (toldR (wordC (S.data.toList.drop k1))).2
    have HN1 := Lib.hid (numR_def (S.data.toList.drop k1))
    rw [← HR2.out] at HN1
    generalize badW g (toldR (wordC (S.data.toList.drop k1))).2 _ = w4 at *
    generalize (toldR (wordC (S.data.toList.drop k1))).1 = n1 at *
    generalize (toldR (wordC (S.data.toList.drop k1))).2 = c1 at *
    go_wp2_with (refine wpList_store_one rfl 3 _ _ rfl (w.heap.size + 1) 5 34 _ (.int .i64 n1) (by rfl) hm.cur (by rfl) (by have := hm.len; omega) (by rfl) (storeVar_int _ _ _ _) ?_; intro w6 b6 k6 z6; have hm := hm.put b6 k6 (by rw [List.length_set]; exact hm.len); clear b6 k6 z6; simp only [Act.put])
    refine (rword_any t g S hS k2 hk2 _ _ hm.rd).mono ?_
    rintro e w3 ⟨rfl, hq, k3, _, hk3, hr3, hr⟩
    have hm := hm.read hq hr
    clear hq hr
    have HR3 := Lib.hid hr3
    clear hr3
    go_wp2_with fail
    refine (rtold_any t g (mkB (wordC (S.data.toList.drop k2))) (word_small hS k2) S _ _ _ hm.rd).mono ?_
    rintro e w3 ⟨rfl, rfl⟩
    rw [mkB_toList]
    have hm := hm.told (toldR (wordC (S.data.toList.drop k2))).2
    have HN2 := Lib.hid (numR_def (S.data.toList.drop k2))
    rw [← HR3.out] at HN2
    generalize badW g (toldR (wordC (S.data.toList.drop k2))).2 _ = w4 at *
    generalize (toldR (wordC (S.data.toList.drop k2))).1 = n2 at *
    generalize (toldR (wordC (S.data.toList.drop k2))).2 = c2 at *
    go_wp2_with fail
    refine (rword_any t g S hS k3 hk3 _ _ hm.rd).mono ?_
    rintro e w3 ⟨rfl, hq, k4, _, hk4, hr4, hr⟩
    have hm := hm.read hq hr
    clear hq hr
    have HR4 := Lib.hid hr4
    clear hr4
    go_wp2_with fail
    refine (rtold_any t g (mkB (wordC (S.data.toList.drop k3))) (word_small hS k3) S _ _ _ hm.rd).mono ?_
    rintro e w3 ⟨rfl, rfl⟩
    rw [mkB_toList]
    have hm := hm.told (toldR (wordC (S.data.toList.drop k3))).2
    have HN3 := Lib.hid (numR_def (S.data.toList.drop k3))
    rw [← HR4.out] at HN3
    generalize badW g (toldR (wordC (S.data.toList.drop k3))).2 _ = w4 at *
    generalize (toldR (wordC (S.data.toList.drop k3))).1 = n3 at *
    generalize (toldR (wordC (S.data.toList.drop k3))).2 = c3 at *
    go_upto_region 46 with (first | (refine wpList_store_one rfl 3 _ _ rfl (w.heap.size + 1) 6 34 _ (.int .i64 n2) (by rfl) hm.cur (by rfl) (by have := hm.len; omega) (by rfl) (storeVar_int _ _ _ _) ?_; intro w6 b6 k6 z6; have hm := hm.put b6 k6 (by rw [List.length_set]; exact hm.len); clear b6 k6 z6; simp only [Act.put]) | (refine wpList_store_one rfl 3 _ _ rfl (w.heap.size + 1) 7 34 _ (.int .i64 n3) (by rfl) hm.cur (by rfl) (by have := hm.len; omega) (by rfl) (storeVar_int _ _ _ _) ?_; intro w6 b6 k6 z6; have hm := hm.put b6 k6 (by rw [List.length_set]; exact hm.len); clear b6 k6 z6; simp only [Act.put]))
    obtain ⟨ev, hev⟩ : ∃ ev : Ev, ev = { ev0 with kind := 1, ck := 3, key := n1, parent := n2, at_ := n3 } := ⟨_, rfl⟩
    obtain ⟨bv, hbv0⟩ : ∃ bv : Value, bv = .slice none 0 0 := ⟨_, rfl⟩
    have hbv : bv.oneCell' = true := by rw [hbv0]; exact rfl
    have hm := hm.is (L' := evC ev bv) (by first | (rw [hev, hbv0]; done) | (rw [hev, hbv0]; rfl))
    have HE := Lib.hid hev
    have HV := Lib.hid hbv0
    clear hev hbv0
    go_wp2_with (first | (refine wpList_load_blk rfl 34 _ rfl (w.heap.size + 1) 0 34 (evC ev bv) (evC ev bv) _ rfl hm.cur (fun j v hv => by rw [Nat.zero_add]; exact hv) Tryz.underlying34 rfl evC_size ?_) | (refine wpList_store_blk rfl 34 _ _ rfl w.heap.size 0 34 (evC ev0 (.slice none 0 0)) (evC ev bv) rfl hm.res rfl (by rw [evC_len, evC_len]; exact Nat.le_refl _) evC_size (evC_cells _ hbv) ?_; intro w9 b9 k9 z9; rw [setL_all (by rw [evC_len, evC_len])] at b9))
    refine bodyPost_ret (results_cell_row rfl _ _ w.heap.size 34 (evC ev bv).toArray (0, 0) _ rfl b9 Tryz.underlying34 rfl evC_size) rfl ?_
    refine EventPost.done hm k9 (by rw [HE.out, HV.out]; exact OwnsY.nil _ _) (EvRel.of ?_)
    have hE := HE.out
    rw [HER.out, HX.out, show ([109, 111, 118, 101] : List UInt8) = (plainT[1]'(by decide)).1 from rfl, ev_plain (List.getElem_mem _), hE]
    show (numsR 3 (S.data.toList.drop k1)).map (fun x => setF 1 3 x.1) = _
    have h1 : numsR 3 (S.data.toList.drop k1) = if (((false || c1) || c2) || c3) then none else some ([n1, n2, n3], S.data.toList.drop k4) := by
      cases c1 <;> cases c2 <;> cases c3 <;> simp [numsR, HN1.out, HN2.out, HN3.out]
    rw [h1]
    cases c1 <;> cases c2 <;> cases c3 <;> rfl
  have m0 : ((mkB x).toList == ([109, 111, 118, 101] : List UInt8)) = false := str_ne' (b := [109, 111, 118, 101]) h2
  have H2 := Lib.hid h2
  clear h2
  go_upto_region 21 with fail
  clear m0
  by_cases h3 : x = [115, 116, 121, 108, 101]
  · have m1 : ((mkB x).toList == ([115, 116, 121, 108, 101] : List UInt8)) = true := str_eq' (b := [115, 116, 121, 108, 101]) h3
    have HX := Lib.hid h3
    clear h3 H0 H1 H2
    go_wp2_with fail
    refine (rword_any t g S hS k1 hk1 _ _ hm.rd).mono ?_
    rintro e w3 ⟨rfl, hq, k2, _, hk2, hr2, hr⟩
    have hm := hm.read hq hr
    clear hq hr
    have HR2 := Lib.hid hr2
    clear hr2
    go_wp2_with fail
    refine (rtold_any t g (mkB (wordC (S.data.toList.drop k1))) (word_small hS k1) S _ _ _ hm.rd).mono ?_
    rintro e w3 ⟨rfl, rfl⟩
    rw [mkB_toList]
    have hm := hm.told (toldR (wordC (S.data.toList.drop k1))).2
    have HN1 := Lib.hid (numR_def (S.data.toList.drop k1))
    rw [← HR2.out] at HN1
    generalize badW g (toldR (wordC (S.data.toList.drop k1))).2 _ = w4 at *
    generalize (toldR (wordC (S.data.toList.drop k1))).1 = n1 at *
    generalize (toldR (wordC (S.data.toList.drop k1))).2 = c1 at *
    go_wp2_with (first | (refine wpList_store_one rfl 5 _ _ rfl (w.heap.size + 1) 4 34 _ (.int .u8 4) (by rfl) hm.cur (by rfl) (by have := hm.len; omega) (by rfl) (storeVar_u8 _ _ _ _) ?_; intro w6 b6 k6 z6; have hm := hm.put b6 k6 (by rw [List.length_set]; exact hm.len); clear b6 k6 z6; simp only [Act.put]) | (refine wpList_store_one rfl 3 _ _ rfl (w.heap.size + 1) 5 34 _ (.int .i64 n1) (by rfl) hm.cur (by rfl) (by have := hm.len; omega) (by rfl) (storeVar_int _ _ _ _) ?_; intro w6 b6 k6 z6; have hm := hm.put b6 k6 (by rw [List.length_set]; exact hm.len); clear b6 k6 z6; simp only [Act.put]))
    have hm := hm.is (L' := evC { ev0 with kind := 1, ck := 4, key := n1 } (.slice none 0 0)) rfl
    refine (rsty_any t g S hS k2 hk2 _ _ hm.rd).mono ?_
    rintro e w7 ⟨st, k5, bd, rfl, hst, hq, hk5, hr, hb1, hb2⟩
    have hm := hm.read hq hr
    have HB1 := Lib.hid hb1
    have HB2 := Lib.hid hb2
    clear hq hr hb1 hb2
    go_upto_region 46 with (first | (refine wpList_store_blk rfl 28 _ _ rfl (w.heap.size + 1) 11 34 _ (styC st) rfl hm.cur rfl (by have := hm.len; rw [styC_len]; omega) styC_size (styC_cells _) ?_; intro w6 b6 k6 z6; have hm := (hm.put b6 k6 (by rw [setL_len]; exact hm.len)).is (evC_setSty _ _ _); clear b6 k6 z6; simp only [Act.put]))
    obtain ⟨ev, hev⟩ : ∃ ev : Ev, ev = { ev0 with kind := 1, ck := 4, key := n1, sty := st } := ⟨_, rfl⟩
    obtain ⟨bv, hbv0⟩ : ∃ bv : Value, bv = .slice none 0 0 := ⟨_, rfl⟩
    have hbv : bv.oneCell' = true := by rw [hbv0]; exact rfl
    have hm := hm.is (L' := evC ev bv) (by first | (rw [hev, hbv0]; done) | (rw [hev, hbv0]; rfl))
    have HE := Lib.hid hev
    have HV := Lib.hid hbv0
    clear hev hbv0
    go_wp2_with (first | (refine wpList_load_blk rfl 34 _ rfl (w.heap.size + 1) 0 34 (evC ev bv) (evC ev bv) _ rfl hm.cur (fun j v hv => by rw [Nat.zero_add]; exact hv) Tryz.underlying34 rfl evC_size ?_) | (refine wpList_store_blk rfl 34 _ _ rfl w.heap.size 0 34 (evC ev0 (.slice none 0 0)) (evC ev bv) rfl hm.res rfl (by rw [evC_len, evC_len]; exact Nat.le_refl _) evC_size (evC_cells _ hbv) ?_; intro w9 b9 k9 z9; rw [setL_all (by rw [evC_len, evC_len])] at b9))
    refine bodyPost_ret (results_cell_row rfl _ _ w.heap.size 34 (evC ev bv).toArray (0, 0) _ rfl b9 Tryz.underlying34 rfl evC_size) rfl ?_
    refine EventPost.done hm k9 (by rw [HE.out, HV.out]; exact OwnsY.nil _ _) (EvRel.of ?_)
    have hE := HE.out
    rw [HER.out, HX.out, show ([115, 116, 121, 108, 101] : List UInt8) = styleB from rfl, ev_style, HN1.out, hE]
    by_cases hc : (false || c1) = true
    · have hbd := HB1.out hc
      subst hbd
      cases c1 <;> first | rfl | cases hc
    · have hc : (false || c1) = false := by simpa using hc
      have h2 := HB2.out hc
      have h3 : stylO (S.data.toList.drop k2) = if bd then none else some st := by unfold stylO; rw [h2]
      have h4 : c1 = false ∧ True := by cases c1 <;> first | exact ⟨rfl, trivial⟩ | cases hc
      obtain ⟨rfl, _⟩ := h4
      simp only [Bool.false_eq_true, if_false, h3]
      cases bd <;> rfl
  have m0 : ((mkB x).toList == ([115, 116, 121, 108, 101] : List UInt8)) = false := str_ne' (b := [115, 116, 121, 108, 101]) h3
  have H3 := Lib.hid h3
  clear h3
  go_upto_region 24 with fail
  clear m0
  by_cases h4 : x = [116, 101, 120, 116]
  · have m1 : ((mkB x).toList == ([116, 101, 120, 116] : List UInt8)) = true := str_eq' (b := [116, 101, 120, 116]) h4
    have HX := Lib.hid h4
    clear h4 H0 H1 H2 H3
    go_wp2_with fail
    refine (rword_any t g S hS k1 hk1 _ _ hm.rd).mono ?_
    rintro e w3 ⟨rfl, hq, k2, _, hk2, hr2, hr⟩
    have hm := hm.read hq hr
    clear hq hr
    have HR2 := Lib.hid hr2
    clear hr2
    go_wp2_with fail
    refine (rtold_any t g (mkB (wordC (S.data.toList.drop k1))) (word_small hS k1) S _ _ _ hm.rd).mono ?_
    rintro e w3 ⟨rfl, rfl⟩
    rw [mkB_toList]
    have hm := hm.told (toldR (wordC (S.data.toList.drop k1))).2
    have HN1 := Lib.hid (numR_def (S.data.toList.drop k1))
    rw [← HR2.out] at HN1
    generalize badW g (toldR (wordC (S.data.toList.drop k1))).2 _ = w4 at *
    generalize (toldR (wordC (S.data.toList.drop k1))).1 = n1 at *
    generalize (toldR (wordC (S.data.toList.drop k1))).2 = c1 at *
    go_wp2_with (first | (refine wpList_store_one rfl 5 _ _ rfl (w.heap.size + 1) 4 34 _ (.int .u8 5) (by rfl) hm.cur (by rfl) (by have := hm.len; omega) (by rfl) (storeVar_u8 _ _ _ _) ?_; intro w6 b6 k6 z6; have hm := hm.put b6 k6 (by rw [List.length_set]; exact hm.len); clear b6 k6 z6; simp only [Act.put]) | (refine wpList_store_one rfl 3 _ _ rfl (w.heap.size + 1) 5 34 _ (.int .i64 n1) (by rfl) hm.cur (by rfl) (by have := hm.len; omega) (by rfl) (storeVar_int _ _ _ _) ?_; intro w6 b6 k6 z6; have hm := hm.put b6 k6 (by rw [List.length_set]; exact hm.len); clear b6 k6 z6; simp only [Act.put]))
    refine (rrest_any t g S k2 hk2 _ _ hm.rd).mono ?_
    rintro e w7 ⟨rfl, hq, hr⟩
    have hm := hm.read hq hr
    clear hq hr
    go_wp2_with fail
    refine (rtext_any t g (mkB (S.data.toList.drop k2)) (drop_small hS k2) S _ _ _ hm.rd).mono ?_
    rintro e w7 ⟨rfl, hq, hr⟩
    have hm := hm.read hq hr
    clear hq hr
    rw [mkB_toList] at hm ⊢
    have HT := Lib.hid (show textO (S.data.toList.drop k2) = if (textR (S.data.toList.drop k2)).2 then none else some (textR (S.data.toList.drop k2)).1 from rfl)
    generalize (textR (S.data.toList.drop k2)).1 = tx at *
    generalize (textR (S.data.toList.drop k2)).2 = ct at *
    go_upto_region 46 with (first | (refine wpList_store_one rfl 9 _ _ rfl (w.heap.size + 1) 58 34 _ (.string (mkB tx)) (by rfl) hm.cur (by rfl) (by have := hm.len; omega) (by rfl) (storeVar_str _ _ _) ?_; intro w6 b6 k6 z6; have hm := hm.put b6 k6 (by rw [List.length_set]; exact hm.len); clear b6 k6 z6; simp only [Act.put]))
    obtain ⟨ev, hev⟩ : ∃ ev : Ev, ev = { ev0 with kind := 1, ck := 5, key := n1, text := tx } := ⟨_, rfl⟩
    obtain ⟨bv, hbv0⟩ : ∃ bv : Value, bv = .slice none 0 0 := ⟨_, rfl⟩
    have hbv : bv.oneCell' = true := by rw [hbv0]; exact rfl
    have hm := hm.is (L' := evC ev bv) (by first | (rw [hev, hbv0]; done) | (rw [hev, hbv0]; rfl))
    have HE := Lib.hid hev
    have HV := Lib.hid hbv0
    clear hev hbv0
    go_wp2_with (first | (refine wpList_load_blk rfl 34 _ rfl (w.heap.size + 1) 0 34 (evC ev bv) (evC ev bv) _ rfl hm.cur (fun j v hv => by rw [Nat.zero_add]; exact hv) Tryz.underlying34 rfl evC_size ?_) | (refine wpList_store_blk rfl 34 _ _ rfl w.heap.size 0 34 (evC ev0 (.slice none 0 0)) (evC ev bv) rfl hm.res rfl (by rw [evC_len, evC_len]; exact Nat.le_refl _) evC_size (evC_cells _ hbv) ?_; intro w9 b9 k9 z9; rw [setL_all (by rw [evC_len, evC_len])] at b9))
    refine bodyPost_ret (results_cell_row rfl _ _ w.heap.size 34 (evC ev bv).toArray (0, 0) _ rfl b9 Tryz.underlying34 rfl evC_size) rfl ?_
    refine EventPost.done hm k9 (by rw [HE.out, HV.out]; exact OwnsY.nil _ _) (EvRel.of ?_)
    have hE := HE.out
    rw [HER.out, HX.out, show ([116, 101, 120, 116] : List UInt8) = textB from rfl, ev_text, HN1.out, hE]
    cases c1 <;> cases ct <;> simp [HT.out]
  have m0 : ((mkB x).toList == ([116, 101, 120, 116] : List UInt8)) = false := str_ne' (b := [116, 101, 120, 116]) h4
  have H4 := Lib.hid h4
  clear h4
  go_upto_region 27 with fail
  clear m0
  by_cases h5 : x = [115, 117, 98, 115, 99, 114, 105, 98, 101]
  · have m1 : ((mkB x).toList == ([115, 117, 98, 115, 99, 114, 105, 98, 101] : List UInt8)) = true := str_eq' (b := [115, 117, 98, 115, 99, 114, 105, 98, 101]) h5
    have HX := Lib.hid h5
    clear h5 H0 H1 H2 H3 H4
    go_wp2_with (refine wpList_store_one rfl 5 _ _ rfl (w.heap.size + 1) 0 34 _ (.int .u8 2) (by rfl) hm.cur (by rfl) (by have := hm.len; omega) (by rfl) (storeVar_u8 _ _ _ _) ?_; intro w6 b6 k6 z6; have hm := hm.put b6 k6 (by rw [List.length_set]; exact hm.len); clear b6 k6 z6; simp only [Act.put])
    refine (rword_any t g S hS k1 hk1 _ _ hm.rd).mono ?_
    rintro e w3 ⟨rfl, hq, k2, _, hk2, hr2, hr⟩
    have hm := hm.read hq hr
    clear hq hr
    have HR2 := Lib.hid hr2
    clear hr2
    go_wp2_with fail
    refine (rtold_any t g (mkB (wordC (S.data.toList.drop k1))) (word_small hS k1) S _ _ _ hm.rd).mono ?_
    rintro e w3 ⟨rfl, rfl⟩
    rw [mkB_toList]
    have hm := hm.told (toldR (wordC (S.data.toList.drop k1))).2
    have HN1 := Lib.hid (numR_def (S.data.toList.drop k1))
    rw [← HR2.out] at HN1
    generalize badW g (toldR (wordC (S.data.toList.drop k1))).2 _ = w4 at *
    generalize (toldR (wordC (S.data.toList.drop k1))).1 = n1 at *
    generalize (toldR (wordC (S.data.toList.drop k1))).2 = c1 at *
    go_wp2_with fail
    refine (rword_any t g S hS k2 hk2 _ _ hm.rd).mono ?_
    rintro e w3 ⟨rfl, hq, k3, _, hk3, hr3, hr⟩
    have hm := hm.read hq hr
    clear hq hr
    have HR3 := Lib.hid hr3
    clear hr3
    go_wp2_with fail
    refine (rtold_any t g (mkB (wordC (S.data.toList.drop k2))) (word_small hS k2) S _ _ _ hm.rd).mono ?_
    rintro e w3 ⟨rfl, rfl⟩
    rw [mkB_toList]
    have hm := hm.told (toldR (wordC (S.data.toList.drop k2))).2
    have HN2 := Lib.hid (numR_def (S.data.toList.drop k2))
    rw [← HR3.out] at HN2
    generalize badW g (toldR (wordC (S.data.toList.drop k2))).2 _ = w4 at *
    generalize (toldR (wordC (S.data.toList.drop k2))).1 = n2 at *
    generalize (toldR (wordC (S.data.toList.drop k2))).2 = c2 at *
    go_upto_region 46 with (first | (refine wpList_store_one rfl 3 _ _ rfl (w.heap.size + 1) 1 34 _ (.int .i64 n1) (by rfl) hm.cur (by rfl) (by have := hm.len; omega) (by rfl) (storeVar_int _ _ _ _) ?_; intro w6 b6 k6 z6; have hm := hm.put b6 k6 (by rw [List.length_set]; exact hm.len); clear b6 k6 z6; simp only [Act.put]) | (refine wpList_store_one rfl 3 _ _ rfl (w.heap.size + 1) 2 34 _ (.int .i64 n2) (by rfl) hm.cur (by rfl) (by have := hm.len; omega) (by rfl) (storeVar_int _ _ _ _) ?_; intro w6 b6 k6 z6; have hm := hm.put b6 k6 (by rw [List.length_set]; exact hm.len); clear b6 k6 z6; simp only [Act.put]))
    obtain ⟨ev, hev⟩ : ∃ ev : Ev, ev = { ev0 with kind := 2, client := n1, n := n2 } := ⟨_, rfl⟩
    obtain ⟨bv, hbv0⟩ : ∃ bv : Value, bv = .slice none 0 0 := ⟨_, rfl⟩
    have hbv : bv.oneCell' = true := by rw [hbv0]; exact rfl
    have hm := hm.is (L' := evC ev bv) (by first | (rw [hev, hbv0]; done) | (rw [hev, hbv0]; rfl))
    have HE := Lib.hid hev
    have HV := Lib.hid hbv0
    clear hev hbv0
    go_wp2_with (first | (refine wpList_load_blk rfl 34 _ rfl (w.heap.size + 1) 0 34 (evC ev bv) (evC ev bv) _ rfl hm.cur (fun j v hv => by rw [Nat.zero_add]; exact hv) Tryz.underlying34 rfl evC_size ?_) | (refine wpList_store_blk rfl 34 _ _ rfl w.heap.size 0 34 (evC ev0 (.slice none 0 0)) (evC ev bv) rfl hm.res rfl (by rw [evC_len, evC_len]; exact Nat.le_refl _) evC_size (evC_cells _ hbv) ?_; intro w9 b9 k9 z9; rw [setL_all (by rw [evC_len, evC_len])] at b9))
    refine bodyPost_ret (results_cell_row rfl _ _ w.heap.size 34 (evC ev bv).toArray (0, 0) _ rfl b9 Tryz.underlying34 rfl evC_size) rfl ?_
    refine EventPost.done hm k9 (by rw [HE.out, HV.out]; exact OwnsY.nil _ _) (EvRel.of ?_)
    have hE := HE.out
    rw [HER.out, HX.out, show ([115, 117, 98, 115, 99, 114, 105, 98, 101] : List UInt8) = (plainT[2]'(by decide)).1 from rfl, ev_plain (List.getElem_mem _), hE]
    show (numsR 2 (S.data.toList.drop k1)).map (fun x => setF 2 0 x.1) = _
    have h1 : numsR 2 (S.data.toList.drop k1) = if ((false || c1) || c2) then none else some ([n1, n2], S.data.toList.drop k3) := by
      cases c1 <;> cases c2 <;> simp [numsR, HN1.out, HN2.out]
    rw [h1]
    cases c1 <;> cases c2 <;> rfl
  have m0 : ((mkB x).toList == ([115, 117, 98, 115, 99, 114, 105, 98, 101] : List UInt8)) = false := str_ne' (b := [115, 117, 98, 115, 99, 114, 105, 98, 101]) h5
  have H5 := Lib.hid h5
  clear h5
  go_upto_region 30 with fail
  clear m0
  by_cases h6 : x = [108, 101, 97, 118, 101]
  · have m1 : ((mkB x).toList == ([108, 101, 97, 118, 101] : List UInt8)) = true := str_eq' (b := [108, 101, 97, 118, 101]) h6
    have HX := Lib.hid h6
    clear h6 H0 H1 H2 H3 H4 H5
    go_wp2_with fail
    refine (rword_any t g S hS k1 hk1 _ _ hm.rd).mono ?_
    rintro e w3 ⟨rfl, hq, k2, _, hk2, hr2, hr⟩
    have hm := hm.read hq hr
    clear hq hr
    have HR2 := Lib.hid hr2
    clear hr2
    go_wp2_with fail
    refine (rtold_any t g (mkB (wordC (S.data.toList.drop k1))) (word_small hS k1) S _ _ _ hm.rd).mono ?_
    rintro e w3 ⟨rfl, rfl⟩
    rw [mkB_toList]
    have hm := hm.told (toldR (wordC (S.data.toList.drop k1))).2
    have HN1 := Lib.hid (numR_def (S.data.toList.drop k1))
    rw [← HR2.out] at HN1
    generalize badW g (toldR (wordC (S.data.toList.drop k1))).2 _ = w4 at *
    generalize (toldR (wordC (S.data.toList.drop k1))).1 = n1 at *
    generalize (toldR (wordC (S.data.toList.drop k1))).2 = c1 at *
    go_upto_region 46 with (first | (refine wpList_store_one rfl 5 _ _ rfl (w.heap.size + 1) 0 34 _ (.int .u8 3) (by rfl) hm.cur (by rfl) (by have := hm.len; omega) (by rfl) (storeVar_u8 _ _ _ _) ?_; intro w6 b6 k6 z6; have hm := hm.put b6 k6 (by rw [List.length_set]; exact hm.len); clear b6 k6 z6; simp only [Act.put]) | (refine wpList_store_one rfl 3 _ _ rfl (w.heap.size + 1) 1 34 _ (.int .i64 n1) (by rfl) hm.cur (by rfl) (by have := hm.len; omega) (by rfl) (storeVar_int _ _ _ _) ?_; intro w6 b6 k6 z6; have hm := hm.put b6 k6 (by rw [List.length_set]; exact hm.len); clear b6 k6 z6; simp only [Act.put]))
    obtain ⟨ev, hev⟩ : ∃ ev : Ev, ev = { ev0 with kind := 3, client := n1 } := ⟨_, rfl⟩
    obtain ⟨bv, hbv0⟩ : ∃ bv : Value, bv = .slice none 0 0 := ⟨_, rfl⟩
    have hbv : bv.oneCell' = true := by rw [hbv0]; exact rfl
    have hm := hm.is (L' := evC ev bv) (by first | (rw [hev, hbv0]; done) | (rw [hev, hbv0]; rfl))
    have HE := Lib.hid hev
    have HV := Lib.hid hbv0
    clear hev hbv0
    go_wp2_with (first | (refine wpList_load_blk rfl 34 _ rfl (w.heap.size + 1) 0 34 (evC ev bv) (evC ev bv) _ rfl hm.cur (fun j v hv => by rw [Nat.zero_add]; exact hv) Tryz.underlying34 rfl evC_size ?_) | (refine wpList_store_blk rfl 34 _ _ rfl w.heap.size 0 34 (evC ev0 (.slice none 0 0)) (evC ev bv) rfl hm.res rfl (by rw [evC_len, evC_len]; exact Nat.le_refl _) evC_size (evC_cells _ hbv) ?_; intro w9 b9 k9 z9; rw [setL_all (by rw [evC_len, evC_len])] at b9))
    refine bodyPost_ret (results_cell_row rfl _ _ w.heap.size 34 (evC ev bv).toArray (0, 0) _ rfl b9 Tryz.underlying34 rfl evC_size) rfl ?_
    refine EventPost.done hm k9 (by rw [HE.out, HV.out]; exact OwnsY.nil _ _) (EvRel.of ?_)
    have hE := HE.out
    rw [HER.out, HX.out, show ([108, 101, 97, 118, 101] : List UInt8) = (plainT[3]'(by decide)).1 from rfl, ev_plain (List.getElem_mem _), hE]
    show (numsR 1 (S.data.toList.drop k1)).map (fun x => setF 3 0 x.1) = _
    have h1 : numsR 1 (S.data.toList.drop k1) = if (false || c1) then none else some ([n1], S.data.toList.drop k2) := by
      cases c1 <;> simp [numsR, HN1.out]
    rw [h1]
    cases c1 <;> rfl
  have m0 : ((mkB x).toList == ([108, 101, 97, 118, 101] : List UInt8)) = false := str_ne' (b := [108, 101, 97, 118, 101]) h6
  have H6 := Lib.hid h6
  clear h6
  go_upto_region 32 with fail
  clear m0
  by_cases h7 : x = [116, 105, 99, 107]
  · have m1 : ((mkB x).toList == ([116, 105, 99, 107] : List UInt8)) = true := str_eq' (b := [116, 105, 99, 107]) h7
    have HX := Lib.hid h7
    clear h7 H0 H1 H2 H3 H4 H5 H6
    go_upto_region 46 with (first | (refine wpList_store_one rfl 5 _ _ rfl (w.heap.size + 1) 0 34 _ (.int .u8 4) (by rfl) hm.cur (by rfl) (by have := hm.len; omega) (by rfl) (storeVar_u8 _ _ _ _) ?_; intro w6 b6 k6 z6; have hm := hm.put b6 k6 (by rw [List.length_set]; exact hm.len); clear b6 k6 z6; simp only [Act.put]))
    obtain ⟨ev, hev⟩ : ∃ ev : Ev, ev = { ev0 with kind := 4 } := ⟨_, rfl⟩
    obtain ⟨bv, hbv0⟩ : ∃ bv : Value, bv = .slice none 0 0 := ⟨_, rfl⟩
    have hbv : bv.oneCell' = true := by rw [hbv0]; exact rfl
    have hm := hm.is (L' := evC ev bv) (by first | (rw [hev, hbv0]; done) | (rw [hev, hbv0]; rfl))
    have HE := Lib.hid hev
    have HV := Lib.hid hbv0
    clear hev hbv0
    go_wp2_with (first | (refine wpList_load_blk rfl 34 _ rfl (w.heap.size + 1) 0 34 (evC ev bv) (evC ev bv) _ rfl hm.cur (fun j v hv => by rw [Nat.zero_add]; exact hv) Tryz.underlying34 rfl evC_size ?_) | (refine wpList_store_blk rfl 34 _ _ rfl w.heap.size 0 34 (evC ev0 (.slice none 0 0)) (evC ev bv) rfl hm.res rfl (by rw [evC_len, evC_len]; exact Nat.le_refl _) evC_size (evC_cells _ hbv) ?_; intro w9 b9 k9 z9; rw [setL_all (by rw [evC_len, evC_len])] at b9))
    refine bodyPost_ret (results_cell_row rfl _ _ w.heap.size 34 (evC ev bv).toArray (0, 0) _ rfl b9 Tryz.underlying34 rfl evC_size) rfl ?_
    refine EventPost.done hm k9 (by rw [HE.out, HV.out]; exact OwnsY.nil _ _) (EvRel.of ?_)
    have hE := HE.out
    rw [HER.out, HX.out, show ([116, 105, 99, 107] : List UInt8) = (plainT[4]'(by decide)).1 from rfl, ev_plain (List.getElem_mem _), hE]
    rfl
  have m0 : ((mkB x).toList == ([116, 105, 99, 107] : List UInt8)) = false := str_ne' (b := [116, 105, 99, 107]) h7
  have H7 := Lib.hid h7
  clear h7
  go_upto_region 34 with fail
  clear m0
  by_cases h8 : x = [100, 101, 108, 105, 118, 101, 114]
  · have m1 : ((mkB x).toList == ([100, 101, 108, 105, 118, 101, 114] : List UInt8)) = true := str_eq' (b := [100, 101, 108, 105, 118, 101, 114]) h8
    have HX := Lib.hid h8
    clear h8 H0 H1 H2 H3 H4 H5 H6 H7
    go_wp2_with fail
    refine (rword_any t g S hS k1 hk1 _ _ hm.rd).mono ?_
    rintro e w3 ⟨rfl, hq, k2, _, hk2, hr2, hr⟩
    have hm := hm.read hq hr
    clear hq hr
    have HR2 := Lib.hid hr2
    clear hr2
    go_wp2_with fail
    refine (rtold_any t g (mkB (wordC (S.data.toList.drop k1))) (word_small hS k1) S _ _ _ hm.rd).mono ?_
    rintro e w3 ⟨rfl, rfl⟩
    rw [mkB_toList]
    have hm := hm.told (toldR (wordC (S.data.toList.drop k1))).2
    have HN1 := Lib.hid (numR_def (S.data.toList.drop k1))
    rw [← HR2.out] at HN1
    generalize badW g (toldR (wordC (S.data.toList.drop k1))).2 _ = w4 at *
    generalize (toldR (wordC (S.data.toList.drop k1))).1 = n1 at *
    generalize (toldR (wordC (S.data.toList.drop k1))).2 = c1 at *
    go_upto_region 46 with (first | (refine wpList_store_one rfl 5 _ _ rfl (w.heap.size + 1) 0 34 _ (.int .u8 5) (by rfl) hm.cur (by rfl) (by have := hm.len; omega) (by rfl) (storeVar_u8 _ _ _ _) ?_; intro w6 b6 k6 z6; have hm := hm.put b6 k6 (by rw [List.length_set]; exact hm.len); clear b6 k6 z6; simp only [Act.put]) | (refine wpList_store_one rfl 3 _ _ rfl (w.heap.size + 1) 2 34 _ (.int .i64 n1) (by rfl) hm.cur (by rfl) (by have := hm.len; omega) (by rfl) (storeVar_int _ _ _ _) ?_; intro w6 b6 k6 z6; have hm := hm.put b6 k6 (by rw [List.length_set]; exact hm.len); clear b6 k6 z6; simp only [Act.put]))
    obtain ⟨ev, hev⟩ : ∃ ev : Ev, ev = { ev0 with kind := 5, n := n1 } := ⟨_, rfl⟩
    obtain ⟨bv, hbv0⟩ : ∃ bv : Value, bv = .slice none 0 0 := ⟨_, rfl⟩
    have hbv : bv.oneCell' = true := by rw [hbv0]; exact rfl
    have hm := hm.is (L' := evC ev bv) (by first | (rw [hev, hbv0]; done) | (rw [hev, hbv0]; rfl))
    have HE := Lib.hid hev
    have HV := Lib.hid hbv0
    clear hev hbv0
    go_wp2_with (first | (refine wpList_load_blk rfl 34 _ rfl (w.heap.size + 1) 0 34 (evC ev bv) (evC ev bv) _ rfl hm.cur (fun j v hv => by rw [Nat.zero_add]; exact hv) Tryz.underlying34 rfl evC_size ?_) | (refine wpList_store_blk rfl 34 _ _ rfl w.heap.size 0 34 (evC ev0 (.slice none 0 0)) (evC ev bv) rfl hm.res rfl (by rw [evC_len, evC_len]; exact Nat.le_refl _) evC_size (evC_cells _ hbv) ?_; intro w9 b9 k9 z9; rw [setL_all (by rw [evC_len, evC_len])] at b9))
    refine bodyPost_ret (results_cell_row rfl _ _ w.heap.size 34 (evC ev bv).toArray (0, 0) _ rfl b9 Tryz.underlying34 rfl evC_size) rfl ?_
    refine EventPost.done hm k9 (by rw [HE.out, HV.out]; exact OwnsY.nil _ _) (EvRel.of ?_)
    have hE := HE.out
    rw [HER.out, HX.out, show ([100, 101, 108, 105, 118, 101, 114] : List UInt8) = (plainT[5]'(by decide)).1 from rfl, ev_plain (List.getElem_mem _), hE]
    show (numsR 1 (S.data.toList.drop k1)).map (fun x => setF 5 0 x.1) = _
    have h1 : numsR 1 (S.data.toList.drop k1) = if (false || c1) then none else some ([n1], S.data.toList.drop k2) := by
      cases c1 <;> simp [numsR, HN1.out]
    rw [h1]
    cases c1 <;> rfl
  have m0 : ((mkB x).toList == ([100, 101, 108, 105, 118, 101, 114] : List UInt8)) = false := str_ne' (b := [100, 101, 108, 105, 118, 101, 114]) h8
  have H8 := Lib.hid h8
  clear h8
  go_upto_region 36 with fail
  clear m0
  by_cases h9 : x = [100, 114, 111, 112]
  · have m1 : ((mkB x).toList == ([100, 114, 111, 112] : List UInt8)) = true := str_eq' (b := [100, 114, 111, 112]) h9
    have HX := Lib.hid h9
    clear h9 H0 H1 H2 H3 H4 H5 H6 H7 H8
    go_wp2_with fail
    refine (rword_any t g S hS k1 hk1 _ _ hm.rd).mono ?_
    rintro e w3 ⟨rfl, hq, k2, _, hk2, hr2, hr⟩
    have hm := hm.read hq hr
    clear hq hr
    have HR2 := Lib.hid hr2
    clear hr2
    go_wp2_with fail
    refine (rtold_any t g (mkB (wordC (S.data.toList.drop k1))) (word_small hS k1) S _ _ _ hm.rd).mono ?_
    rintro e w3 ⟨rfl, rfl⟩
    rw [mkB_toList]
    have hm := hm.told (toldR (wordC (S.data.toList.drop k1))).2
    have HN1 := Lib.hid (numR_def (S.data.toList.drop k1))
    rw [← HR2.out] at HN1
    generalize badW g (toldR (wordC (S.data.toList.drop k1))).2 _ = w4 at *
    generalize (toldR (wordC (S.data.toList.drop k1))).1 = n1 at *
    generalize (toldR (wordC (S.data.toList.drop k1))).2 = c1 at *
    go_upto_region 46 with (first | (refine wpList_store_one rfl 5 _ _ rfl (w.heap.size + 1) 0 34 _ (.int .u8 6) (by rfl) hm.cur (by rfl) (by have := hm.len; omega) (by rfl) (storeVar_u8 _ _ _ _) ?_; intro w6 b6 k6 z6; have hm := hm.put b6 k6 (by rw [List.length_set]; exact hm.len); clear b6 k6 z6; simp only [Act.put]) | (refine wpList_store_one rfl 3 _ _ rfl (w.heap.size + 1) 2 34 _ (.int .i64 n1) (by rfl) hm.cur (by rfl) (by have := hm.len; omega) (by rfl) (storeVar_int _ _ _ _) ?_; intro w6 b6 k6 z6; have hm := hm.put b6 k6 (by rw [List.length_set]; exact hm.len); clear b6 k6 z6; simp only [Act.put]))
    obtain ⟨ev, hev⟩ : ∃ ev : Ev, ev = { ev0 with kind := 6, n := n1 } := ⟨_, rfl⟩
    obtain ⟨bv, hbv0⟩ : ∃ bv : Value, bv = .slice none 0 0 := ⟨_, rfl⟩
    have hbv : bv.oneCell' = true := by rw [hbv0]; exact rfl
    have hm := hm.is (L' := evC ev bv) (by first | (rw [hev, hbv0]; done) | (rw [hev, hbv0]; rfl))
    have HE := Lib.hid hev
    have HV := Lib.hid hbv0
    clear hev hbv0
    go_wp2_with (first | (refine wpList_load_blk rfl 34 _ rfl (w.heap.size + 1) 0 34 (evC ev bv) (evC ev bv) _ rfl hm.cur (fun j v hv => by rw [Nat.zero_add]; exact hv) Tryz.underlying34 rfl evC_size ?_) | (refine wpList_store_blk rfl 34 _ _ rfl w.heap.size 0 34 (evC ev0 (.slice none 0 0)) (evC ev bv) rfl hm.res rfl (by rw [evC_len, evC_len]; exact Nat.le_refl _) evC_size (evC_cells _ hbv) ?_; intro w9 b9 k9 z9; rw [setL_all (by rw [evC_len, evC_len])] at b9))
    refine bodyPost_ret (results_cell_row rfl _ _ w.heap.size 34 (evC ev bv).toArray (0, 0) _ rfl b9 Tryz.underlying34 rfl evC_size) rfl ?_
    refine EventPost.done hm k9 (by rw [HE.out, HV.out]; exact OwnsY.nil _ _) (EvRel.of ?_)
    have hE := HE.out
    rw [HER.out, HX.out, show ([100, 114, 111, 112] : List UInt8) = (plainT[6]'(by decide)).1 from rfl, ev_plain (List.getElem_mem _), hE]
    show (numsR 1 (S.data.toList.drop k1)).map (fun x => setF 6 0 x.1) = _
    have h1 : numsR 1 (S.data.toList.drop k1) = if (false || c1) then none else some ([n1], S.data.toList.drop k2) := by
      cases c1 <;> simp [numsR, HN1.out]
    rw [h1]
    cases c1 <;> rfl
  have m0 : ((mkB x).toList == ([100, 114, 111, 112] : List UInt8)) = false := str_ne' (b := [100, 114, 111, 112]) h9
  have H9 := Lib.hid h9
  clear h9
  go_upto_region 38 with fail
  clear m0
  by_cases h10 : x = [99, 111, 112, 121]
  · have m1 : ((mkB x).toList == ([99, 111, 112, 121] : List UInt8)) = true := str_eq' (b := [99, 111, 112, 121]) h10
    have HX := Lib.hid h10
    clear h10 H0 H1 H2 H3 H4 H5 H6 H7 H8 H9
    go_wp2_with fail
    refine (rword_any t g S hS k1 hk1 _ _ hm.rd).mono ?_
    rintro e w3 ⟨rfl, hq, k2, _, hk2, hr2, hr⟩
    have hm := hm.read hq hr
    clear hq hr
    have HR2 := Lib.hid hr2
    clear hr2
    go_wp2_with fail
    refine (rtold_any t g (mkB (wordC (S.data.toList.drop k1))) (word_small hS k1) S _ _ _ hm.rd).mono ?_
    rintro e w3 ⟨rfl, rfl⟩
    rw [mkB_toList]
    have hm := hm.told (toldR (wordC (S.data.toList.drop k1))).2
    have HN1 := Lib.hid (numR_def (S.data.toList.drop k1))
    rw [← HR2.out] at HN1
    generalize badW g (toldR (wordC (S.data.toList.drop k1))).2 _ = w4 at *
    generalize (toldR (wordC (S.data.toList.drop k1))).1 = n1 at *
    generalize (toldR (wordC (S.data.toList.drop k1))).2 = c1 at *
    go_upto_region 46 with (first | (refine wpList_store_one rfl 5 _ _ rfl (w.heap.size + 1) 0 34 _ (.int .u8 7) (by rfl) hm.cur (by rfl) (by have := hm.len; omega) (by rfl) (storeVar_u8 _ _ _ _) ?_; intro w6 b6 k6 z6; have hm := hm.put b6 k6 (by rw [List.length_set]; exact hm.len); clear b6 k6 z6; simp only [Act.put]) | (refine wpList_store_one rfl 3 _ _ rfl (w.heap.size + 1) 2 34 _ (.int .i64 n1) (by rfl) hm.cur (by rfl) (by have := hm.len; omega) (by rfl) (storeVar_int _ _ _ _) ?_; intro w6 b6 k6 z6; have hm := hm.put b6 k6 (by rw [List.length_set]; exact hm.len); clear b6 k6 z6; simp only [Act.put]))
    obtain ⟨ev, hev⟩ : ∃ ev : Ev, ev = { ev0 with kind := 7, n := n1 } := ⟨_, rfl⟩
    obtain ⟨bv, hbv0⟩ : ∃ bv : Value, bv = .slice none 0 0 := ⟨_, rfl⟩
    have hbv : bv.oneCell' = true := by rw [hbv0]; exact rfl
    have hm := hm.is (L' := evC ev bv) (by first | (rw [hev, hbv0]; done) | (rw [hev, hbv0]; rfl))
    have HE := Lib.hid hev
    have HV := Lib.hid hbv0
    clear hev hbv0
    go_wp2_with (first | (refine wpList_load_blk rfl 34 _ rfl (w.heap.size + 1) 0 34 (evC ev bv) (evC ev bv) _ rfl hm.cur (fun j v hv => by rw [Nat.zero_add]; exact hv) Tryz.underlying34 rfl evC_size ?_) | (refine wpList_store_blk rfl 34 _ _ rfl w.heap.size 0 34 (evC ev0 (.slice none 0 0)) (evC ev bv) rfl hm.res rfl (by rw [evC_len, evC_len]; exact Nat.le_refl _) evC_size (evC_cells _ hbv) ?_; intro w9 b9 k9 z9; rw [setL_all (by rw [evC_len, evC_len])] at b9))
    refine bodyPost_ret (results_cell_row rfl _ _ w.heap.size 34 (evC ev bv).toArray (0, 0) _ rfl b9 Tryz.underlying34 rfl evC_size) rfl ?_
    refine EventPost.done hm k9 (by rw [HE.out, HV.out]; exact OwnsY.nil _ _) (EvRel.of ?_)
    have hE := HE.out
    rw [HER.out, HX.out, show ([99, 111, 112, 121] : List UInt8) = (plainT[7]'(by decide)).1 from rfl, ev_plain (List.getElem_mem _), hE]
    show (numsR 1 (S.data.toList.drop k1)).map (fun x => setF 7 0 x.1) = _
    have h1 : numsR 1 (S.data.toList.drop k1) = if (false || c1) then none else some ([n1], S.data.toList.drop k2) := by
      cases c1 <;> simp [numsR, HN1.out]
    rw [h1]
    cases c1 <;> rfl
  have m0 : ((mkB x).toList == ([99, 111, 112, 121] : List UInt8)) = false := str_ne' (b := [99, 111, 112, 121]) h10
  have H10 := Lib.hid h10
  clear h10
  go_upto_region 40 with fail
  clear m0
  by_cases h11 : x = [99, 111, 114, 114, 117, 112, 116]
  · have m1 : ((mkB x).toList == ([99, 111, 114, 114, 117, 112, 116] : List UInt8)) = true := str_eq' (b := [99, 111, 114, 114, 117, 112, 116]) h11
    have HX := Lib.hid h11
    clear h11 H0 H1 H2 H3 H4 H5 H6 H7 H8 H9 H10
    go_wp2_with (refine wpList_store_one rfl 5 _ _ rfl (w.heap.size + 1) 0 34 _ (.int .u8 8) (by rfl) hm.cur (by rfl) (by have := hm.len; omega) (by rfl) (storeVar_u8 _ _ _ _) ?_; intro w6 b6 k6 z6; have hm := hm.put b6 k6 (by rw [List.length_set]; exact hm.len); clear b6 k6 z6; simp only [Act.put])
    refine (rword_any t g S hS k1 hk1 _ _ hm.rd).mono ?_
    rintro e w3 ⟨rfl, hq, k2, _, hk2, hr2, hr⟩
    have hm := hm.read hq hr
    clear hq hr
    have HR2 := Lib.hid hr2
    clear hr2
    go_wp2_with fail
    refine (rtold_any t g (mkB (wordC (S.data.toList.drop k1))) (word_small hS k1) S _ _ _ hm.rd).mono ?_
    rintro e w3 ⟨rfl, rfl⟩
    rw [mkB_toList]
    have hm := hm.told (toldR (wordC (S.data.toList.drop k1))).2
    have HN1 := Lib.hid (numR_def (S.data.toList.drop k1))
    rw [← HR2.out] at HN1
    generalize badW g (toldR (wordC (S.data.toList.drop k1))).2 _ = w4 at *
    generalize (toldR (wordC (S.data.toList.drop k1))).1 = n1 at *
    generalize (toldR (wordC (S.data.toList.drop k1))).2 = c1 at *
    go_wp2_with fail
    refine (rword_any t g S hS k2 hk2 _ _ hm.rd).mono ?_
    rintro e w3 ⟨rfl, hq, k3, _, hk3, hr3, hr⟩
    have hm := hm.read hq hr
    clear hq hr
    have HR3 := Lib.hid hr3
    clear hr3
    go_wp2_with fail
    refine (rtold_any t g (mkB (wordC (S.data.toList.drop k2))) (word_small hS k2) S _ _ _ hm.rd).mono ?_
    rintro e w3 ⟨rfl, rfl⟩
    rw [mkB_toList]
    have hm := hm.told (toldR (wordC (S.data.toList.drop k2))).2
    have HN2 := Lib.hid (numR_def (S.data.toList.drop k2))
    rw [← HR3.out] at HN2
    generalize badW g (toldR (wordC (S.data.toList.drop k2))).2 _ = w4 at *
    generalize (toldR (wordC (S.data.toList.drop k2))).1 = n2 at *
    generalize (toldR (wordC (S.data.toList.drop k2))).2 = c2 at *
    go_upto_region 46 with (first | (refine wpList_store_one rfl 3 _ _ rfl (w.heap.size + 1) 2 34 _ (.int .i64 n1) (by rfl) hm.cur (by rfl) (by have := hm.len; omega) (by rfl) (storeVar_int _ _ _ _) ?_; intro w6 b6 k6 z6; have hm := hm.put b6 k6 (by rw [List.length_set]; exact hm.len); clear b6 k6 z6; simp only [Act.put]) | (refine wpList_store_one rfl 3 _ _ rfl (w.heap.size + 1) 1 34 _ (.int .i64 n2) (by rfl) hm.cur (by rfl) (by have := hm.len; omega) (by rfl) (storeVar_int _ _ _ _) ?_; intro w6 b6 k6 z6; have hm := hm.put b6 k6 (by rw [List.length_set]; exact hm.len); clear b6 k6 z6; simp only [Act.put]))
    obtain ⟨ev, hev⟩ : ∃ ev : Ev, ev = { ev0 with kind := 8, n := n1, client := n2 } := ⟨_, rfl⟩
    obtain ⟨bv, hbv0⟩ : ∃ bv : Value, bv = .slice none 0 0 := ⟨_, rfl⟩
    have hbv : bv.oneCell' = true := by rw [hbv0]; exact rfl
    have hm := hm.is (L' := evC ev bv) (by first | (rw [hev, hbv0]; done) | (rw [hev, hbv0]; rfl))
    have HE := Lib.hid hev
    have HV := Lib.hid hbv0
    clear hev hbv0
    go_wp2_with (first | (refine wpList_load_blk rfl 34 _ rfl (w.heap.size + 1) 0 34 (evC ev bv) (evC ev bv) _ rfl hm.cur (fun j v hv => by rw [Nat.zero_add]; exact hv) Tryz.underlying34 rfl evC_size ?_) | (refine wpList_store_blk rfl 34 _ _ rfl w.heap.size 0 34 (evC ev0 (.slice none 0 0)) (evC ev bv) rfl hm.res rfl (by rw [evC_len, evC_len]; exact Nat.le_refl _) evC_size (evC_cells _ hbv) ?_; intro w9 b9 k9 z9; rw [setL_all (by rw [evC_len, evC_len])] at b9))
    refine bodyPost_ret (results_cell_row rfl _ _ w.heap.size 34 (evC ev bv).toArray (0, 0) _ rfl b9 Tryz.underlying34 rfl evC_size) rfl ?_
    refine EventPost.done hm k9 (by rw [HE.out, HV.out]; exact OwnsY.nil _ _) (EvRel.of ?_)
    have hE := HE.out
    rw [HER.out, HX.out, show ([99, 111, 114, 114, 117, 112, 116] : List UInt8) = (plainT[8]'(by decide)).1 from rfl, ev_plain (List.getElem_mem _), hE]
    show (numsR 2 (S.data.toList.drop k1)).map (fun x => setF 8 0 x.1) = _
    have h1 : numsR 2 (S.data.toList.drop k1) = if ((false || c1) || c2) then none else some ([n1, n2], S.data.toList.drop k3) := by
      cases c1 <;> cases c2 <;> simp [numsR, HN1.out, HN2.out]
    rw [h1]
    cases c1 <;> cases c2 <;> rfl
  have m0 : ((mkB x).toList == ([99, 111, 114, 114, 117, 112, 116] : List UInt8)) = false := str_ne' (b := [99, 111, 114, 114, 117, 112, 116]) h11
  have H11 := Lib.hid h11
  clear h11
  go_upto_region 43 with fail
  clear m0
  by_cases h12 : x = [105, 110, 106, 101, 99, 116]
  · have m1 : ((mkB x).toList == ([105, 110, 106, 101, 99, 116] : List UInt8)) = true := str_eq' (b := [105, 110, 106, 101, 99, 116]) h12
    have HX := Lib.hid h12
    clear h12 H0 H1 H2 H3 H4 H5 H6 H7 H8 H9 H10 H11
    go_wp2_with fail
    refine (rword_any t g S hS k1 hk1 _ _ hm.rd).mono ?_
    rintro e w3 ⟨rfl, hq, k2, _, hk2, hr2, hr⟩
    have hm := hm.read hq hr
    clear hq hr
    have HR2 := Lib.hid hr2
    clear hr2
    go_wp2_with fail
    refine (rtold_any t g (mkB (wordC (S.data.toList.drop k1))) (word_small hS k1) S _ _ _ hm.rd).mono ?_
    rintro e w3 ⟨rfl, rfl⟩
    rw [mkB_toList]
    have hm := hm.told (toldR (wordC (S.data.toList.drop k1))).2
    have HN1 := Lib.hid (numR_def (S.data.toList.drop k1))
    rw [← HR2.out] at HN1
    generalize badW g (toldR (wordC (S.data.toList.drop k1))).2 _ = w4 at *
    generalize (toldR (wordC (S.data.toList.drop k1))).1 = n1 at *
    generalize (toldR (wordC (S.data.toList.drop k1))).2 = c1 at *
    go_wp2_with (first | (refine wpList_store_one rfl 5 _ _ rfl (w.heap.size + 1) 0 34 _ (.int .u8 9) (by rfl) hm.cur (by rfl) (by have := hm.len; omega) (by rfl) (storeVar_u8 _ _ _ _) ?_; intro w6 b6 k6 z6; have hm := hm.put b6 k6 (by rw [List.length_set]; exact hm.len); clear b6 k6 z6; simp only [Act.put]) | (refine wpList_store_one rfl 3 _ _ rfl (w.heap.size + 1) 1 34 _ (.int .i64 n1) (by rfl) hm.cur (by rfl) (by have := hm.len; omega) (by rfl) (storeVar_int _ _ _ _) ?_; intro w6 b6 k6 z6; have hm := hm.put b6 k6 (by rw [List.length_set]; exact hm.len); clear b6 k6 z6; simp only [Act.put]))
    refine (rrest_any t g S k2 hk2 _ _ hm.rd).mono ?_
    rintro e w7 ⟨rfl, hq, hr⟩
    have hm := hm.read hq hr
    clear hq hr
    go_wp2_with fail
    refine (rrbytes_any t g (mkB (S.data.toList.drop k2)) (drop_small hS k2) S _ _ _ hm.rd).mono ?_
    rintro e w7 ⟨bv0, rfl, ho, hq, hr⟩
    have hws := hm.sz
    have hm := hm.read hq hr
    clear hq hr
    rw [mkB_toList] at ho hm
    have HO := Lib.hid ho
    have ho1 := ho.byts.one
    clear ho
    generalize hby : bytesR (S.data.toList.drop k2) = ob at *
    have HBY := Lib.hid hby
    clear hby
    go_upto_region 46 with (first | (refine wpList_store_one rfl 22 _ _ rfl (w.heap.size + 1) 3 34 _ bv0 (by rfl) hm.cur (by rfl) (by have := hm.len; omega) ho1 (storeVar_slice _ _ ho1) ?_; intro w6 b6 k6 z6; have HO := Lib.hid (HO.out.kept1 k6 (by omega)); have hm := hm.put b6 k6 (by rw [List.length_set]; exact hm.len); clear b6 k6 z6; simp only [Act.put]))
    obtain ⟨ev, hev⟩ : ∃ ev : Ev, ev = { ev0 with kind := 9, client := n1, bytes := ob.getD [] } := ⟨_, rfl⟩
    obtain ⟨bv, hbv0⟩ : ∃ bv : Value, bv = bv0 := ⟨_, rfl⟩
    have hbv : bv.oneCell' = true := by rw [hbv0]; exact ho1
    have hm := hm.is (L' := evC ev bv) (by first | (rw [hev, hbv0]; done) | (rw [hev, hbv0]; rfl))
    have HE := Lib.hid hev
    have HV := Lib.hid hbv0
    clear hev hbv0
    go_wp2_with (first | (refine wpList_load_blk rfl 34 _ rfl (w.heap.size + 1) 0 34 (evC ev bv) (evC ev bv) _ rfl hm.cur (fun j v hv => by rw [Nat.zero_add]; exact hv) Tryz.underlying34 rfl evC_size ?_) | (refine wpList_store_blk rfl 34 _ _ rfl w.heap.size 0 34 (evC ev0 (.slice none 0 0)) (evC ev bv) rfl hm.res rfl (by rw [evC_len, evC_len]; exact Nat.le_refl _) evC_size (evC_cells _ hbv) ?_; intro w9 b9 k9 z9; rw [setL_all (by rw [evC_len, evC_len])] at b9))
    refine bodyPost_ret (results_cell_row rfl _ _ w.heap.size 34 (evC ev bv).toArray (0, 0) _ rfl b9 Tryz.underlying34 rfl evC_size) rfl ?_
    refine EventPost.done hm k9 (by rw [HE.out, HV.out]; exact (HO.out.kept1 k9 (by omega)).base_le (by omega)) (EvRel.of ?_)
    have hE := HE.out
    rw [HER.out, HX.out, show ([105, 110, 106, 101, 99, 116] : List UInt8) = injectB from rfl, ev_inject, HN1.out, hE]
    cases c1 with
    | true => rfl
    | false =>
      simp only [Bool.false_eq_true, if_false, HBY.out]
      cases ob <;> rfl
  have m0 : ((mkB x).toList == ([105, 110, 106, 101, 99, 116] : List UInt8)) = false := str_ne' (b := [105, 110, 106, 101, 99, 116]) h12
  have H12 := Lib.hid h12
  clear h12
  have hf2 := hm.rd.frozen
  have c2 := hm.rd.cell 2
  simp only [List.getElem?_toArray, List.getElem?_cons_succ, List.getElem?_cons_zero] at c2
  go_upto_region 46 with fail
  have hm := hm.read ((Kept.refl [g] _).setCell (p := ⟨g, 2, none⟩) (by simp) (.bool true)) hm.rd.wrong
  clear hf2 c2
  go_upto_region 46 with fail
  obtain ⟨ev, hev⟩ : ∃ ev : Ev, ev = { ev0 with kind := 1 } := ⟨_, rfl⟩
  obtain ⟨bv, hbv0⟩ : ∃ bv : Value, bv = .slice none 0 0 := ⟨_, rfl⟩
  have hbv : bv.oneCell' = true := by rw [hbv0]; exact rfl
  have hm := hm.is (L' := evC ev bv) (by first | (rw [hev, hbv0]; done) | (rw [hev, hbv0]; rfl))
  have HE := Lib.hid hev
  have HV := Lib.hid hbv0
  clear hev hbv0
  go_wp2_with (first | (refine wpList_load_blk rfl 34 _ rfl (w.heap.size + 1) 0 34 (evC ev bv) (evC ev bv) _ rfl hm.cur (fun j v hv => by rw [Nat.zero_add]; exact hv) Tryz.underlying34 rfl evC_size ?_) | (refine wpList_store_blk rfl 34 _ _ rfl w.heap.size 0 34 (evC ev0 (.slice none 0 0)) (evC ev bv) rfl hm.res rfl (by rw [evC_len, evC_len]; exact Nat.le_refl _) evC_size (evC_cells _ hbv) ?_; intro w9 b9 k9 z9; rw [setL_all (by rw [evC_len, evC_len])] at b9))
  refine bodyPost_ret (results_cell_row rfl _ _ w.heap.size 34 (evC ev bv).toArray (0, 0) _ rfl b9 Tryz.underlying34 rfl evC_size) rfl ?_
  refine EventPost.done hm k9 (by rw [HE.out, HV.out]; exact OwnsY.nil _ _) (EvRel.of ?_)
  have hE := HE.out
  rw [HER.out, ev_none H0.out H3.out H4.out H12.out (by
    intro t ht
    simp only [plainT, List.mem_cons, List.not_mem_nil, or_false] at ht
    rcases ht with rfl | rfl | rfl | rfl | rfl | rfl | rfl | rfl | rfl
    · exact H1.out
    · exact H2.out
    · exact H5.out
    · exact H6.out
    · exact H7.out
    · exact H8.out
    · exact H9.out
    · exact H10.out
    · exact H11.out) _]
  simp

end Go.Proofs.YtaoehdmdjplegaaGreatDoor
