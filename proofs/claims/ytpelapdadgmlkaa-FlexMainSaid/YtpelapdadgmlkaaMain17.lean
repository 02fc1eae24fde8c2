/-
  Walks: the law FlexMain.
-/
import Derived.Test.YtpelapdadgmlkaaRefMain17
import Derived.Test.YtpelapdadgmlkaaShares
import Derived.Test.YtpelapdadgmlkaaHow
namespace Go.Proofs.Ytpelapdadgmlkaa
open Go.RowKit

theorem mainR_len (outer : List Int) (gap room : Int) (j : Nat) (back : Bool) : (mainR outer gap room j back).1.length ≤ 300 := by
  unfold mainR
  split
  · simp
  · split
    · split
      · simp
      · split
        · split
          · simp only [atTo_len]; omega
          · simp
        · simp
    · simp

set_option maxRecDepth 100000 in
set_option maxHeartbeats 4000000 in
theorem main17_main (outer : List Int) (gap room : Int) (j : Nat) (hj : j < 256) (back : Bool) (v : Value) (w : World) (h : Ints w w.heap.size v outer) (hl : outer.length ≤ 400) :
    LawReturns 26 #[v, howV gap room j back] w := by
  unfold LawReturns howV
  have hI := h
  obtain ⟨A, c, rfl, hc, _⟩ := hI
  have hlz := mainR_len outer gap room j back
  have hb0 : Below w.heap.size w (w.alloc (.cells #[.int .i64 gap, .int .i64 room, .int .u8 j, .bool back] 82)) := (Below.refl _ _).alloc (Nat.le_refl _) _
  have hs0 : (w.alloc (.cells #[.int .i64 gap, .int .i64 room, .int .u8 j, .bool back] 82)).heap.size = w.heap.size + 1 := World.size_alloc _ _
  have hc0 : (w.alloc (.cells #[.int .i64 gap, .int .i64 room, .int .u8 j, .bool back] 82)).cell? ⟨w.heap.size, 0, none⟩ = some (.int .i64 gap) := by simp [go_sem]
  have hc1 : (w.alloc (.cells #[.int .i64 gap, .int .i64 room, .int .u8 j, .bool back] 82)).cell? ⟨w.heap.size, 1, none⟩ = some (.int .i64 room) := by simp [go_sem]
  have hc2 : (w.alloc (.cells #[.int .i64 gap, .int .i64 room, .int .u8 j, .bool back] 82)).cell? ⟨w.heap.size, 2, none⟩ = some (.int .u8 j) := by simp [go_sem]
  have hc3 : (w.alloc (.cells #[.int .i64 gap, .int .i64 room, .int .u8 j, .bool back] 82)).cell? ⟨w.heap.size, 3, none⟩ = some (.bool back) := by simp [go_sem]
  have h0 := h.below hb0
  clear h
  go_enter Try.func26, Try.ntmps26
  go_wp2_with fail
  generalize w.alloc (.cells #[.int .i64 gap, .int .i64 room, .int .u8 j, .bool back] 82) = w0 at *
  obtain ⟨B, hB⟩ : ∃ B, w.heap.size = B := ⟨_, rfl⟩
  rw [hB] at hb0 hs0 hc0 hc1 hc2 hc3 h0
  have HB := Lib.hid hB; clear hB
  rw [HB.out]
  refine (copy_any outer _ _ w0 h0 (by omega)).mono ?_
  rintro e w2 ⟨mv, rfl, hm2, hb2⟩
  have hs2 := hb2.size
  have hI2 := h0.below (hb2.mono (by omega))
  have d0 := (hb2.cell (p := ⟨B, 0, none⟩) (by show B < _; omega)).trans hc0
  have d1 := (hb2.cell (p := ⟨B, 1, none⟩) (by show B < _; omega)).trans hc1
  have d2 := (hb2.cell (p := ⟨B, 2, none⟩) (by show B < _; omega)).trans hc2
  have d3 := (hb2.cell (p := ⟨B, 3, none⟩) (by show B < _; omega)).trans hc3
  clear hc0 hc1 hc2 hc3
  go_wp2_with fail
  refine (rmain_any outer gap room j hj back _ B w2 hI2 (by omega) (by omega)).mono ?_
  rintro e w3 ⟨wv, rfl, hw3, hb3⟩
  have hs3' := hb3.size
  have hI3 := (hI2.below (hb3.mono (by omega))).more (show B ≤ w3.heap.size by omega)
  have hM3 := (hm2.ints.below hb3).more hb3.size
  have hW3 := hw3.ints
  have e0 := (hb3.cell (p := ⟨B, 0, none⟩) (by show B < _; omega)).trans d0
  have e1 := (hb3.cell (p := ⟨B, 1, none⟩) (by show B < _; omega)).trans d1
  have e2 := (hb3.cell (p := ⟨B, 2, none⟩) (by show B < _; omega)).trans d2
  have e3 := (hb3.cell (p := ⟨B, 3, none⟩) (by show B < _; omega)).trans d3
  have hb03 : Below B w w3 := hb0.trans ((hb2.mono (by omega)).trans (hb3.mono (by omega)))
  have hs3 : B + 1 ≤ w3.heap.size := by omega
  clear h0 hI2 hm2 hw3 hb0 hb2 hb3 d0 d1 d2 d3
  have HS : Hid (∀ v' W, Ints W w3.heap.size v' outer → w3.heap.size ≤ W.heap.size → Calls Try.prog 83 #[v', .int .i64 gap, .int .i64 room, .int .u8 j, .bool back] W (MainPost outer gap room j back W)) := Lib.hid fun v' W hi hb => flexMain_any outer gap room j hj back _ _ W hi hb (by omega)
  unfold MainPost at HS
  generalize (mainR outer gap room j back).1 = zs at *
  generalize (mainR outer gap room j back).2 = cd at *
  go_wp2_with fail
  go_loopw [8] (ShaA w3 w3.heap.size) (fun i _ => 2 - (intOf i).toNat)
  case atStart => exact ⟨0, by omega, rfl, Below.refl _ _⟩
  case round =>
    obtain ⟨k, hk, rfl, hbr⟩ := hrel
    by_cases hlt : k < 2
    · have hMr := hM3.below hbr
      have sh := HS.out _ _ hMr hbr.size
      have d0 := (hbr.cell (p := ⟨B, 0, none⟩) (by show B < _; omega)).trans e0
      have d1 := (hbr.cell (p := ⟨B, 1, none⟩) (by show B < _; omega)).trans e1
      have d2 := (hbr.cell (p := ⟨B, 2, none⟩) (by show B < _; omega)).trans e2
      have d3 := (hbr.cell (p := ⟨B, 3, none⟩) (by show B < _; omega)).trans e3
      go_wp2_with fail
      refine sh.mono ?_
      rintro e w4 ⟨lv, rfl, hl4, hb4⟩
      have hb34 : Below w3.heap.size w3 w4 := hbr.trans (hb4.mono hbr.size)
      have hW4 := hW3.below hb34
      have hM4 := hM3.below hb34
      have hI4 := hI3.below hb34
      have hs4 : w3.heap.size ≤ w4.heap.size := hb34.size
      have q1 := fun W (hq : Below w4.heap.size w4 W) => same_self zs _ _ _ W (hl4.ints.below hq) ((hW4.below (hq.mono hb34.size)).more hb34.size) (by omega)
      have q2 := fun W (hq : Below w4.heap.size w4 W) => same_self outer _ _ _ W (hM4.below (hq.mono hb34.size)) (hI4.below (hq.mono hb34.size)) (by omega)
      have hl4' := hl4
      obtain ⟨A4, c4, rfl, _, _⟩ := hl4'.ints
      go_wp2_with fail
      refine (q1 w4 (Below.refl _ _)).mono ?_
      rintro e w5 ⟨rfl, m5, rfl⟩
      go_wp2_with fail
      refine (q2 _ (below_drewN (Below.refl _ _) m5)).mono ?_
      rintro e w6 ⟨rfl, m6, rfl⟩
      clear q1 q2 sh HS
      go_wp2_with fail
      obtain ⟨g, hgA, hgb, hgc⟩ : ∃ g, (0 < zs.length → A4 = some ⟨g, 0, none⟩) ∧ w3.heap.size ≤ g ∧ ∀ j, j < zs.length → (∃ x, w4.cell? ⟨g, j, none⟩ = some x) ∧ w4.frozen? ⟨g, j, none⟩ = false := by
        rcases Nat.eq_zero_or_pos zs.length with h0 | h0
        · exact ⟨w4.heap.size, fun h => by omega, by omega, fun j h => by omega⟩
        · obtain ⟨g, cap, e, _, hg, _, hcc, hff⟩ := hl4.open_ h0
          injection e with e1 e2 e3
          exact ⟨g, fun _ => e1, by have := hbr.size; omega, fun j hj => ⟨⟨_, hcc j hj⟩, hff j⟩⟩
      clear hl4 hW4 hM4 hI4 hW3 hM3 hI3 hMr
      go_loopw [11] (ShaB zs.length g w3.heap.size w3) (fun i _ => zs.length - (intOf i).toNat)
      case atStart => exact ⟨0, by omega, rfl, fun j hj => (hgc j hj).1, fun j hj => (hgc j hj).2, below_drewN hb34 _⟩
      case round =>
        obtain ⟨i, hi, rfl, hcc, hff, hbi⟩ := hrel
        by_cases hli : i < zs.length
        · obtain rfl := hgA (by omega)
          obtain ⟨x, hx⟩ := hcc i hli
          have hf := hff i hli
          go_wp2_with fail
          go_roundw
          case rel =>
            refine ⟨i + 1, hli, by go_num, fun j hj => ?_, fun j hj => ?_, ?_⟩
            · exact cell?_setCell_some (hcc j hj).choose_spec
            · simpa using hff j hj
            · exact hbi.setCell (p := ⟨g, i, none⟩) hgb _
          case measure => simp [intOf]; omega
        · obtain rfl : i = zs.length := by omega
          go_wp2_with fail
          go_roundw
          case rel => exact ⟨k + 1, hlt, by go_num, hbi⟩
          case measure => simp [intOf]; omega
    · obtain rfl : k = 2 := by omega
      go_wp2_with fail
      go_ret
      exact ⟨rfl, by rw [HB.out]; exact hb03.trans (hbr.mono (by omega))⟩

set_option maxRecDepth 100000 in
theorem flexMain_walk (outer : List Int) (gap room j : Int) (hj : (Lit.int .u8 j).wf = true) (back : Bool) (v : Value) (w : World) (h : Ints w w.heap.size v outer) (hm : outer.length ≤ 17592186044416) :
    LawReturns 26 #[v, .agg #[.int .i64 gap, .int .i64 room, .int .u8 j, .bool back]] w := by
  obtain ⟨k, rfl, hk⟩ := u8_nat hj
  by_cases h0 : outer.length ≤ 400
  · exact main17_main outer gap room k hk back v w h h0
  · unfold LawReturns
    have g1 : 400 < outer.length := by omega
    clear h0
    obtain ⟨A, c, rfl, hc, hr⟩ := h
    have hb0 : Below w.heap.size w (w.alloc (.cells #[.int .i64 gap, .int .i64 room, .int .u8 k, .bool back] 82)) := (Below.refl _ _).alloc (Nat.le_refl _) _
    go_enter Try.func26, Try.ntmps26
    go_wp2_with fail
    go_ret
    exact ⟨rfl, hb0⟩

end Go.Proofs.Ytpelapdadgmlkaa
