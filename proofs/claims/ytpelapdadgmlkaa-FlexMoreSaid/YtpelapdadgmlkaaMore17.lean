/-
  Walks: the law FlexMore.
-/
import Derived.Test.YtpelapdadgmlkaaBack17
import Derived.Test.YtpelapdadgmlkaaFlexShape
namespace Go.Proofs.Ytpelapdadgmlkaa
open Go.RowKit

theorem more_lists {outer : List Int} {gap room more : Int} {j : Nat} (hd : nearHead outer gap room j) (hN : outer.all isNear = true) (m0 : 0 ≤ more) (m1 : more ≤ 268435456) :
    ∃ La Lb Lc Ld : List Int, mainR outer gap room 1 false = (La, 0) ∧ mainR outer gap (room + more) 1 false = (Lb, 0) ∧ mainR outer gap room 0 false = (Lc, 0) ∧ mainR outer gap (room + more) 0 false = (Ld, 0) ∧
      La.length = outer.length ∧ Lb.length = outer.length ∧ Lc.length = outer.length ∧ Ld.length = outer.length ∧
      ∀ k, k < outer.length → -107374182400 ≤ La.getD k 0 ∧ La.getD k 0 ≤ 657129996288 ∧ Lb.getD k 0 = La.getD k 0 + more ∧ Lc.getD k 0 = Ld.getD k 0 := by
  obtain ⟨q1, q2, q3, q4, q5, q6⟩ := hd
  have w1 : wideHead outer gap room 1 := ⟨q1, q2, q3, q4, by omega, by omega⟩
  have w2 : wideHead outer gap (room + more) 1 := ⟨q1, q2, q3, by omega, by omega, by omega⟩
  have w3 : wideHead outer gap room 0 := ⟨q1, q2, q3, q4, by omega, by omega⟩
  have w4 : wideHead outer gap (room + more) 0 := ⟨q1, q2, q3, by omega, by omega, by omega⟩
  refine ⟨_, _, _, _, wide_main w1 hN false, wide_main w2 hN false, wide_main w3 hN false, wide_main w4 hN false, atTo_len _ _ _ _ _ _, atTo_len _ _ _ _ _ _, atTo_len _ _ _ _ _ _, atTo_len _ _ _ _ _ _, fun k hk => ?_⟩
  have hy := near_y w1 hN hk
  rw [atTo_get hk, atTo_get hk, atTo_get hk, atTo_get hk]
  change -107374182400 ≤ atF (moreR outer.length (leftOf outer gap room) 1) outer gap room false k ∧ atF (moreR outer.length (leftOf outer gap room) 1) outer gap room false k ≤ 657129996288 at hy
  refine ⟨hy.1, hy.2, ?_, ?_⟩
  · rw [end_at w1 hN hk, end_at w2 hN hk, leftOf_more]; omega
  · rw [start_at w3 hN hk, start_at w4 hN hk]

theorem more_none {outer : List Int} {gap room : Int} {j : Nat} {more : Int} (h : ¬ ((nearHead outer gap room j ∧ outer.all isNear = true) ∧ 0 ≤ more ∧ more ≤ 268435456)) :
    ¬ (nearHead outer gap room j ∧ outer.all isNear = true) ∨ ((nearHead outer gap room j ∧ outer.all isNear = true) ∧ (more < 0 ∨ (¬ more < 0 ∧ 268435456 < more))) := by
  by_cases h1 : nearHead outer gap room j ∧ outer.all isNear = true
  · refine .inr ⟨h1, ?_⟩
    have : ¬ (0 ≤ more ∧ more ≤ 268435456) := fun h2 => h ⟨h1, h2⟩
    omega
  · exact .inl h1

set_option maxRecDepth 100000 in
set_option maxHeartbeats 4000000 in
theorem more17_main (outer : List Int) (gap room : Int) (j : Nat) (back : Bool) (more : Int) (v : Value) (w : World) (h : Ints w w.heap.size v outer) (hd : nearHead outer gap room j) (hN : outer.all isNear = true) (m0 : 0 ≤ more) (m1 : more ≤ 268435456) :
    LawReturns 31 #[v, howV gap room j back, .int .i64 more] w := by
  unfold LawReturns howV
  have nm := fun v B w h hB => near17_main outer gap room j back v B w h hB hd
  rw [hN] at nm
  obtain ⟨La, Lb, Lc, Ld, r1, r2, r3, r4, l1, l2, l3, l4, hk⟩ := more_lists hd hN m0 m1
  have HM1 := Lib.hid r1
  have HM2 := Lib.hid r2
  have HM3 := Lib.hid r3
  have HM4 := Lib.hid r4
  have HK := Lib.hid hk
  clear r1 r2 r3 r4 hk
  obtain ⟨q1, q2, q3, q4, q5, q6⟩ := hd
  clear hN
  have hI := h
  obtain ⟨A, c, rfl, hc, _⟩ := hI
  have hb0 : Below w.heap.size w (w.alloc (.cells #[.int .i64 gap, .int .i64 room, .int .u8 j, .bool back] 82)) := (Below.refl _ _).alloc (Nat.le_refl _) _
  have hs0 : (w.alloc (.cells #[.int .i64 gap, .int .i64 room, .int .u8 j, .bool back] 82)).heap.size = w.heap.size + 1 := World.size_alloc _ _
  have hc0 : (w.alloc (.cells #[.int .i64 gap, .int .i64 room, .int .u8 j, .bool back] 82)).cell? ⟨w.heap.size, 0, none⟩ = some (.int .i64 gap) := by simp [go_sem]
  have hc1 : (w.alloc (.cells #[.int .i64 gap, .int .i64 room, .int .u8 j, .bool back] 82)).cell? ⟨w.heap.size, 1, none⟩ = some (.int .i64 room) := by simp [go_sem]
  have hc2 : (w.alloc (.cells #[.int .i64 gap, .int .i64 room, .int .u8 j, .bool back] 82)).cell? ⟨w.heap.size, 2, none⟩ = some (.int .u8 j) := by simp [go_sem]
  have hc3 : (w.alloc (.cells #[.int .i64 gap, .int .i64 room, .int .u8 j, .bool back] 82)).cell? ⟨w.heap.size, 3, none⟩ = some (.bool back) := by simp [go_sem]
  have h0 := h.below hb0
  clear h
  have nm1 : ¬ more < 0 := by omega
  have nm2 : ¬ 268435456 < more := by omega
  go_enter Try.func31, Try.ntmps31
  go_wp2_with fail
  generalize w.alloc (.cells #[.int .i64 gap, .int .i64 room, .int .u8 j, .bool back] 82) = w0 at *
  obtain ⟨B, hB⟩ : ∃ B, w.heap.size = B := ⟨_, rfl⟩
  rw [hB] at hb0 hs0 hc0 hc1 hc2 hc3 h0
  have HB := Lib.hid hB; clear hB
  rw [HB.out]
  refine (awake17 _).mono ?_
  rintro e w1 ⟨rfl, hb1⟩
  have hs1 := hb1.size
  have hI1 := h0.below (hb1.mono (by omega))
  have d0 := (hb1.cell (p := ⟨B, 0, none⟩) (by show B < _; omega)).trans hc0
  have d1 := (hb1.cell (p := ⟨B, 1, none⟩) (by show B < _; omega)).trans hc1
  have d2 := (hb1.cell (p := ⟨B, 2, none⟩) (by show B < _; omega)).trans hc2
  have d3 := (hb1.cell (p := ⟨B, 3, none⟩) (by show B < _; omega)).trans hc3
  go_wp2_with fail
  refine (nm _ B w1 hI1 (by omega)).mono ?_
  rintro e w2 ⟨rfl, hb2⟩
  have hs2 := hb2.size
  have hI2 := hI1.below (hb2.mono (by omega))
  have d4 := (hb2.cell (p := ⟨B, 0, none⟩) (by show B < _; omega)).trans d0
  have d5 := (hb2.cell (p := ⟨B, 1, none⟩) (by show B < _; omega)).trans d1
  clear d0 d1 d2 d3 hc0 hc1 hc2 hc3
  go_wp2_with fail
  refine (flexMain_any outer gap room 1 (by omega) false _ B w2 hI2 (by omega) (by omega)).mono ?_
  unfold MainPost
  rw [HM1.out]
  rintro e w3 ⟨v3, rfl, ho3, hb3⟩
  have hs3 := hb3.size
  have hI3 := hI2.below (hb3.mono (by omega))
  have d0 := (hb3.cell (p := ⟨B, 0, none⟩) (by show B < _; omega)).trans d4
  have d1 := (hb3.cell (p := ⟨B, 1, none⟩) (by show B < _; omega)).trans d5
  clear d4 d5
  go_wp2_with fail
  refine (flexMain_any outer gap (room + more) 1 (by omega) false _ B w3 hI3 (by omega) (by omega)).mono ?_
  unfold MainPost
  rw [HM2.out]
  rintro e w4 ⟨v4, rfl, ho4, hb4⟩
  have hs4 := hb4.size
  have hI4 := hI3.below (hb4.mono (by omega))
  have d4 := (hb4.cell (p := ⟨B, 0, none⟩) (by show B < _; omega)).trans d0
  have d5 := (hb4.cell (p := ⟨B, 1, none⟩) (by show B < _; omega)).trans d1
  clear d0 d1
  go_wp2_with fail
  refine (flexMain_any outer gap room 0 (by omega) false _ B w4 hI4 (by omega) (by omega)).mono ?_
  unfold MainPost
  rw [HM3.out]
  rintro e w5 ⟨v5, rfl, ho5, hb5⟩
  have hs5 := hb5.size
  have hI5 := hI4.below (hb5.mono (by omega))
  have d0 := (hb5.cell (p := ⟨B, 0, none⟩) (by show B < _; omega)).trans d4
  have d1 := (hb5.cell (p := ⟨B, 1, none⟩) (by show B < _; omega)).trans d5
  clear d4 d5
  go_wp2_with fail
  refine (flexMain_any outer gap (room + more) 0 (by omega) false _ B w5 hI5 (by omega) (by omega)).mono ?_
  unfold MainPost
  rw [HM4.out]
  rintro e w6 ⟨v6, rfl, ho6, hb6⟩
  have hs6 := hb6.size
  obtain ⟨A3, c3, rfl, hc3, hr3⟩ := ((ho3.ints.below hb4).below (hb5.mono hs4)).below (hb6.mono (Nat.le_trans hs4 hs5))
  obtain ⟨A4, c4, rfl, hc4, hr4⟩ := (ho4.ints.below hb5).below (hb6.mono hs5)
  obtain ⟨A5, c5, rfl, hc5, hr5⟩ := ho5.ints.below hb6
  obtain ⟨A6, c6, rfl, hc6, hr6⟩ := ho6.ints
  have hbb : Below B w w6 := hb0.trans ((hb1.mono (by omega)).trans ((hb2.mono (by omega)).trans ((hb3.mono (by omega)).trans ((hb4.mono (by omega)).trans ((hb5.mono (by omega)).trans (hb6.mono (by omega)))))))
  clear ho3 ho4 ho5 ho6 hI1 hI2 hI3 hI4 hI5 hb0 hb1 hb2 hb3 hb4 hb5 hb6 d0 d1 nm h0
  have hl1 : ((La.length : Int) == (outer.length : Int)) = true := by simp [l1]
  have hl2 : ((Lb.length : Int) == (outer.length : Int)) = true := by simp [l2]
  have hl3 : ((Lc.length : Int) == (outer.length : Int)) = true := by simp [l3]
  have hl4 : ((Ld.length : Int) == (outer.length : Int)) = true := by simp [l4]
  go_wp2_with fail
  go_loopw [15] (BkA outer.length w6) (fun i _ => outer.length - (intOf i).toNat)
  case atStart => exact ⟨0, by omega, rfl, Quiet.refl _⟩
  case round =>
    obtain ⟨i, hi, rfl, mo, rfl⟩ := hrel
    by_cases hli : i < outer.length
    · have i1 : (i : Int) < (La.length : Int) := by omega
      have i2 : (i : Int) < (Lb.length : Int) := by omega
      have i3 : (i : Int) < (Lc.length : Int) := by omega
      have i4 : (i : Int) < (Ld.length : Int) := by omega
      obtain ⟨ad3, rfl, _, k3⟩ := hr3.val (show i < La.length by omega)
      obtain ⟨ad4, rfl, _, k4⟩ := hr4.val (show i < Lb.length by omega)
      obtain ⟨ad5, rfl, _, k5⟩ := hr5.val (show i < Lc.length by omega)
      obtain ⟨ad6, rfl, _, k6⟩ := hr6.val (show i < Ld.length by omega)
      obtain ⟨y1, y2, y3, y4⟩ := HK.out i hli
      rw [← getD_at] at k3 k4 k5 k6
      rw [y3] at k4
      rw [y4] at k5
      generalize La.getD i 0 = a at *
      generalize Ld.getD i 0 = d at *
      obtain ⟨S, hS⟩ : ∃ S, a + more = S := ⟨_, rfl⟩
      have hw1 : IntKind.i64.wrap (a + more) = S := by rw [hS, IntKind.wrap_i64]; omega
      rw [hS] at k4
      clear hS y3 y4
      go_wp2_with fail
      go_quiet (fail)
      go_wp2_with fail
      go_roundw
      case rel => exact ⟨i + 1, hli, by go_num, _, rfl⟩
      case measure => simp [intOf]; omega
    · obtain rfl : i = outer.length := by omega
      go_wp2_with fail
      go_ret
      exact ⟨rfl, by rw [HB.out]; exact below_drewN hbb mo⟩

set_option maxRecDepth 100000 in
theorem more17_no (outer : List Int) (gap room : Int) (j : Nat) (hj : j < 256) (back : Bool) (more : Int) (v : Value) (w : World) (h : Ints w w.heap.size v outer) (hm : outer.length ≤ 17592186044416) (hno : ¬ ((nearHead outer gap room j ∧ outer.all isNear = true) ∧ 0 ≤ more ∧ more ≤ 268435456)) :
    LawReturns 31 #[v, howV gap room j back, .int .i64 more] w := by
  unfold LawReturns howV
  have hI := h
  obtain ⟨A, c, rfl, hc, _⟩ := hI
  have hb0 : Below w.heap.size w (w.alloc (.cells #[.int .i64 gap, .int .i64 room, .int .u8 j, .bool back] 82)) := (Below.refl _ _).alloc (Nat.le_refl _) _
  have hs0 : (w.alloc (.cells #[.int .i64 gap, .int .i64 room, .int .u8 j, .bool back] 82)).heap.size = w.heap.size + 1 := World.size_alloc _ _
  have hc0 : (w.alloc (.cells #[.int .i64 gap, .int .i64 room, .int .u8 j, .bool back] 82)).cell? ⟨w.heap.size, 0, none⟩ = some (.int .i64 gap) := by simp [go_sem]
  have hc1 : (w.alloc (.cells #[.int .i64 gap, .int .i64 room, .int .u8 j, .bool back] 82)).cell? ⟨w.heap.size, 1, none⟩ = some (.int .i64 room) := by simp [go_sem]
  have hc2 : (w.alloc (.cells #[.int .i64 gap, .int .i64 room, .int .u8 j, .bool back] 82)).cell? ⟨w.heap.size, 2, none⟩ = some (.int .u8 j) := by simp [go_sem]
  have hc3 : (w.alloc (.cells #[.int .i64 gap, .int .i64 room, .int .u8 j, .bool back] 82)).cell? ⟨w.heap.size, 3, none⟩ = some (.bool back) := by simp [go_sem]
  have h0 := h.below hb0
  clear h
  rcases more_none hno with hx | ⟨⟨hd, hN⟩, hx⟩
  · have nn := fun v B w h hB => near17_no outer gap room j hj back v B w h hB hm hx
    clear hx hno
    go_enter Try.func31, Try.ntmps31
    go_wp2_with fail
    generalize w.alloc (.cells #[.int .i64 gap, .int .i64 room, .int .u8 j, .bool back] 82) = w0 at *
    refine (awake17 _).mono ?_
    rintro e w1 ⟨rfl, hb1⟩
    have hs1 := hb1.size
    have hI1 := h0.below (hb1.mono (by omega))
    have d0 := (hb1.cell (p := ⟨w.heap.size, 0, none⟩) (by show w.heap.size < _; omega)).trans hc0
    have d1 := (hb1.cell (p := ⟨w.heap.size, 1, none⟩) (by show w.heap.size < _; omega)).trans hc1
    have d2 := (hb1.cell (p := ⟨w.heap.size, 2, none⟩) (by show w.heap.size < _; omega)).trans hc2
    have d3 := (hb1.cell (p := ⟨w.heap.size, 3, none⟩) (by show w.heap.size < _; omega)).trans hc3
    go_wp2_with fail
    refine (nn _ _ w1 hI1 (by omega)).mono ?_
    rintro e w2 ⟨rfl, hb2⟩
    go_wp2_with fail
    go_ret
    exact ⟨rfl, hb0.trans ((hb1.mono (by omega)).trans (hb2.mono (by omega)))⟩
  · have nn := fun v B w h hB => near17_main outer gap room j back v B w h hB hd
    rw [hN] at nn
    clear hno hd hN
    rcases hx with g1 | ⟨g1, g2⟩
    all_goals
      go_enter Try.func31, Try.ntmps31
      go_wp2_with fail
      generalize w.alloc (.cells #[.int .i64 gap, .int .i64 room, .int .u8 j, .bool back] 82) = w0 at *
      refine (awake17 _).mono ?_
      rintro e w1 ⟨rfl, hb1⟩
      have hs1 := hb1.size
      have hI1 := h0.below (hb1.mono (by omega))
      have d0 := (hb1.cell (p := ⟨w.heap.size, 0, none⟩) (by show w.heap.size < _; omega)).trans hc0
      have d1 := (hb1.cell (p := ⟨w.heap.size, 1, none⟩) (by show w.heap.size < _; omega)).trans hc1
      have d2 := (hb1.cell (p := ⟨w.heap.size, 2, none⟩) (by show w.heap.size < _; omega)).trans hc2
      have d3 := (hb1.cell (p := ⟨w.heap.size, 3, none⟩) (by show w.heap.size < _; omega)).trans hc3
      go_wp2_with fail
      refine (nn _ _ w1 hI1 (by omega)).mono ?_
      rintro e w2 ⟨rfl, hb2⟩
      go_wp2_with fail
      go_ret
      exact ⟨rfl, hb0.trans ((hb1.mono (by omega)).trans (hb2.mono (by omega)))⟩

theorem flexMore_walk (outer : List Int) (gap room j : Int) (hj : (Lit.int .u8 j).wf = true) (back : Bool) (more : Int) (v : Value) (w : World) (h : Ints w w.heap.size v outer) (hm : outer.length ≤ 17592186044416) :
    LawReturns 31 #[v, .agg #[.int .i64 gap, .int .i64 room, .int .u8 j, .bool back], .int .i64 more] w := by
  obtain ⟨k, rfl, hk⟩ := u8_nat hj
  by_cases hb : (nearHead outer gap room k ∧ outer.all isNear = true) ∧ 0 ≤ more ∧ more ≤ 268435456
  · exact more17_main outer gap room k back more v w h hb.1.1 hb.1.2 hb.2.1 hb.2.2
  · exact more17_no outer gap room k hk back more v w h hm hb

end Go.Proofs.Ytpelapdadgmlkaa
