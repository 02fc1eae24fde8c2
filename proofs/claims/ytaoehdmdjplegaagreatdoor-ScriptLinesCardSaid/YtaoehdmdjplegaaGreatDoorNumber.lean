/-
  Walks: script.number: what it answers, and what it throws.
-/
import Derived.Lib.SmallJoins
import Derived.Lib.QuietBelow
import Derived.Lib.AppendIntMem
import Derived.Test.YtaoehdmdjplegaaGreatDoorLength
namespace Go.Proofs.YtaoehdmdjplegaaGreatDoor
open Go.RowKit Go.Shelf

/-- What the program's numbers lean on: two of the library's errors, and its table of powers. -/
structure NumW (w : World) : Prop where
  syn : ∃ tp p, w.var? Tryz.prog "strconv.ErrSyntax" = some #[.iface tp p]
  ran : ∃ tp p, w.var? Tryz.prog "strconv.ErrRange" = some #[.iface tp p]
  tab : Lib.TabIs Tryz.prog w "internal/strconv.uint64pow10" .u64 Lib.pow10Tab
theorem Tryz.gSyn : Tryz.prog.globalNamed "strconv.ErrSyntax" = some 4 := by kernel_rfl
theorem Tryz.gRan : Tryz.prog.globalNamed "strconv.ErrRange" = some 5 := by kernel_rfl
theorem Tryz.gTab : Tryz.prog.globalNamed "internal/strconv.uint64pow10" = some 6 := by kernel_rfl
theorem NumW.below {w w' : World} {B : Nat} (h : NumW w) (hb : Below B w w') (hB : w.heap.size ≤ B) : NumW w' := by
  obtain ⟨⟨t1, p1, h1⟩, ⟨t2, p2, h2⟩, h3⟩ := h
  exact ⟨⟨t1, p1, Go.Joins.var_stays Tryz.gSyn h1 hb hB⟩, ⟨t2, p2, Go.Joins.var_stays Tryz.gRan h2 hb hB⟩, Go.Joins.tab_stays Tryz.gTab h3 hb hB⟩
theorem itoa_num {v : Int} (hv : I64 v) {w : World} (h : NumW w) : Calls Tryz.prog 26 #[.int .i64 v] w fun e w' => e = .returned (.string (mkB (Lib.itoa v))) ∧ Below w.heap.size w w' :=
  (Tryz.strconv_Itoa v hv.1 (by have := hv.2; omega) w h.tab).mono fun _ _ ⟨a, k, os, b⟩ => ⟨a, b ▸ Lib.below_grow _ w (Nat.le_refl _) k os⟩
/-- What is thrown where a line is none. -/
def wrongC : List PanicEntry := [{ v := .iface 58 (.agg #[]), recovered := false }]
def NumPost (l : List UInt8) (w : World) (e : Ending) (w' : World) : Prop :=
  Below w.heap.size w w' ∧ (∀ n, numP l = some n → e = .returned (.int .i64 n)) ∧ (numP l = none → e = .panicked wrongC)

set_option maxRecDepth 100000 in
set_option maxHeartbeats 4000000 in
theorem number_any (l : ByteArray) (hl : l.size ≤ 5000) (w : World) (hw : NumW w) : Calls Tryz.prog 19 #[.string l] w (NumPost l.data.toList w) := by
  obtain ⟨tp, p, hs⟩ := hw.syn
  rcases ha : Lib.atoiAll l.data.toList with v | _ | _
  rotate_left
  · skip
    have hN := Lib.hid (show numP l.data.toList = none by unfold numP; rw [ha])
    have hc := Lib.hid (Tryz.strconv_Atoi_syntax_var l (by omega) ha tp p w hs)
    clear ha
    go_enter Tryz.func19, Tryz.ntmps19
    go_wp2_with fail
    refine hc.out.mono ?_
    rintro e w2 ⟨N, rfl, hN1, hN2, hb⟩
    go_wp2_with fail
    refine ⟨rfl, hb, fun n h => ?_, fun _ => rfl⟩
    rw [hN.out] at h
    cases h
  · skip
    obtain ⟨tp, p, hs⟩ := hw.ran
    have hN := Lib.hid (show numP l.data.toList = none by unfold numP; rw [ha])
    have hc := Lib.hid (Tryz.strconv_Atoi_range_var l (by omega) ha tp p w hs)
    clear ha
    go_enter Tryz.func19, Tryz.ntmps19
    go_wp2_with fail
    refine hc.out.mono ?_
    rintro e w2 ⟨N, rfl, hN1, hN2, hb⟩
    go_wp2_with fail
    refine ⟨rfl, hb, fun n h => ?_, fun _ => rfl⟩
    rw [hN.out] at h
    cases h
  · skip
    have hv := atoi_range ha
    have hc := Lib.hid (Tryz.strconv_Atoi_ok l (by omega) v ha w)
    by_cases he : Lib.itoa v = l.data.toList
    · have hN := Lib.hid (show numP l.data.toList = some v by unfold numP; rw [ha]; simp [he])
      have e1 : ((mkB (Lib.itoa v)).toList == l.toList) = true := by rw [Lib.toList_data, Lib.toList_data, mkB_toList, he]; simp
      clear ha he
      go_enter Tryz.func19, Tryz.ntmps19
      go_wp2_with fail
      refine hc.out.mono ?_
      rintro e w2 ⟨rfl, hw2⟩
      go_wp2_with fail
      have hb2 : Below w.heap.size w w2 := by
        rcases hw2 with rfl | ⟨t, rfl⟩
        · exact Below.refl _ _
        · exact Lib.bytesWorld_below _ _ _
      refine (itoa_num hv (hw.below hb2 (Nat.le_refl _))).mono ?_
      rintro e w3 ⟨rfl, hb3⟩
      go_wp2_with fail
      go_ret
      refine ⟨hb2.trans (hb3.mono hb2.size), fun n h => ?_, fun h => ?_⟩
      · rw [hN.out] at h
        injection h with h
        rw [← h]; rfl
      · rw [hN.out] at h
        cases h
    · have hN := Lib.hid (show numP l.data.toList = none by unfold numP; rw [ha]; simp [he])
      have e1 : ((mkB (Lib.itoa v)).toList == l.toList) = false := by rw [Lib.toList_data, Lib.toList_data, mkB_toList, beq_eq_false_iff_ne]; exact he
      clear ha he
      go_enter Tryz.func19, Tryz.ntmps19
      go_wp2_with fail
      refine hc.out.mono ?_
      rintro e w2 ⟨rfl, hw2⟩
      go_wp2_with fail
      have hb2 : Below w.heap.size w w2 := by
        rcases hw2 with rfl | ⟨t, rfl⟩
        · exact Below.refl _ _
        · exact Lib.bytesWorld_below _ _ _
      refine (itoa_num hv (hw.below hb2 (Nat.le_refl _))).mono ?_
      rintro e w3 ⟨rfl, hb3⟩
      go_wp2_with fail
      refine ⟨rfl, hb2.trans (hb3.mono hb2.size), fun n h => ?_, fun _ => rfl⟩
      rw [hN.out] at h
      cases h

end Go.Proofs.YtaoehdmdjplegaaGreatDoor
