/-
  Walks: the law FlexBeside.
-/
import Derived.Test.YtpelapdadgmlkaaBack17
import Derived.Test.YtpelapdadgmlkaaFlexShape
namespace Go.Proofs.Ytpelapdadgmlkaa
open Go.RowKit

set_option maxRecDepth 100000 in
set_option maxHeartbeats 4000000 in
theorem beside17_main (outer : List Int) (gap room : Int) (j : Nat) (back : Bool) (v : Value) (w : World) (h : Ints w w.heap.size v outer) (hd : nearHead outer gap room j) (hN : outer.all isNear = true) :
    LawReturns 27 #[v, howV gap room j back] w := by
  unfold LawReturns howV
  have nm := fun v B w h hB => near17_main outer gap room j back v B w h hB hd
  rw [hN] at nm
  obtain ⟨L, F, r1, r2, l1, f0, f1, hk⟩ := beside_list hd hN
  have hfit : outer.all fit = true := List.all_eq_true.2 fun x hx => by
    have := (isNear_iff _).1 (List.all_eq_true.1 hN x hx)
    exact (fit_iff _).2 (by omega)
  have HX := Lib.hid (fun k (hk : k < outer.length) => (isNear_iff _).1 (List.all_eq_true.1 hN _ (List.getElem_mem hk)))
  obtain ⟨q1, q2, q3, q4, q5, q6⟩ := hd
  have lf := fun v B w h hB => left17_any outer gap room j false v B w h hB q1 hfit q2 (by omega) q4 (by omega)
  rw [r2] at lf
  unfold howV at lf
  have HM := Lib.hid r1
  have HK := Lib.hid hk
  clear r1 r2 hk hfit
  clear hN
  have hI := h
  obtain ⟨A, c, rfl, hc, _⟩ := hI
  have hb0 : Below w.heap.size w (w.alloc (.cells #[.int .i64 gap, .int .i64 room, .int .u8 j, .bool back] 82)) := (Below.refl _ _).alloc (Nat.le_refl _) _
  have hs0 : (w.alloc (.cells #[.int .i64 gap, .int .i64 room, .int .u8 j, .bool back] 82)).heap.size = w.heap.size + 1 := World.size_alloc _ _
  have hc0 : (w.alloc (.cells #[.int .i64 gap, .int .i64 room, .int .u8 j, .bool back] 82)).cell? ⟨w.heap.size, 0, none⟩ = some (.int .i64 gap) := by simp [go_sem]
  have hc1 : (w.alloc (.cells #[.int .i64 gap, .int .i64 room, .int .u8 j, .bool back] 82)).cell? ⟨w.heap.size, 1, none⟩ = some (.int .i64 room) := by simp [go_sem]
  have hc2 : (w.alloc (.cells #[.int .i64 gap, .int .i64 room, .int .u8 j, .bool back] 82)).cell? ⟨w.heap.size, 2, none⟩ = some (.int .u8 j) := by simp [go_sem]
  have hc3 : (w.alloc (.cells #[.int .i64 gap, .int .i64 room, .int .u8 j, .bool back] 82)).cell? ⟨w.heap.size, 3, none⟩ = some (.bool back) := by simp [go_sem]
  have hf3 : (w.alloc (.cells #[.int .i64 gap, .int .i64 room, .int .u8 j, .bool back] 82)).frozen? ⟨w.heap.size, 3, none⟩ = false := by simp [go_sem]
  have h0 := h.below hb0
  clear h
  go_enter Try.func27, Try.ntmps27
  go_wp2_with fail
  generalize w.alloc (.cells #[.int .i64 gap, .int .i64 room, .int .u8 j, .bool back] 82) = w0 at *
  obtain ⟨B, hB⟩ : ∃ B, w.heap.size = B := ⟨_, rfl⟩
  rw [hB] at hb0 hs0 hc0 hc1 hc2 hc3 hf3 h0
  have HB := Lib.hid hB; clear hB
  rw [HB.out]
  refine (awake17 _).mono ?_
  rintro e w1 ⟨rfl, hb1⟩
  have hs1 := hb1.size
  have hI1 := h0.below (hb1.mono (by omega))
  have d0 := (hb1.cell (p := ⟨B, 0, none⟩) (by show B < _; omega)).trans hc0
  have d1 := (hb1.cell (p := ⟨B, 1, none⟩) (by show B < _; omega)).trans hc1
  have d2 := (hb1.cell (p := ⟨B, 2, none⟩) (by show B < _; omega)).trans hc2
  have d3 := (hb1.cell (p := ⟨B, 3, none⟩) (by show B < _; omega)).trans hc3
  have g3 := (World.frozen?_of_block (a := ⟨B, 3, none⟩) (hb1.block B (by omega))).trans hf3
  go_wp2_with fail
  refine (nm _ B w1 hI1 (by omega)).mono ?_
  rintro e w2 ⟨rfl, hb2⟩
  have hs2 := hb2.size
  have hI2 := hI1.below (hb2.mono (by omega))
  have d4 := (hb2.cell (p := ⟨B, 0, none⟩) (by show B < _; omega)).trans d0
  have d5 := (hb2.cell (p := ⟨B, 1, none⟩) (by show B < _; omega)).trans d1
  have d6 := (hb2.cell (p := ⟨B, 2, none⟩) (by show B < _; omega)).trans d2
  have d7 := (hb2.cell (p := ⟨B, 3, none⟩) (by show B < _; omega)).trans d3
  have g7 := (World.frozen?_of_block (a := ⟨B, 3, none⟩) (hb2.block B (by omega))).trans g3
  have hb02 : Below B w w2 := hb0.trans ((hb1.mono (by omega)).trans (hb2.mono (by omega)))
  clear d0 d1 d2 d3 hc0 hc1 hc2 hc3 hf3 g3 hb0 hb1 hb2 h0 hI1
  go_wp2_with fail
  have hb3 : Below B w2 (w2.setCell ⟨B, 3, none⟩ (.bool false)) := (Below.refl _ _).setCell (p := ⟨B, 3, none⟩) (Nat.le_refl _) _
  have hs3 : (w2.setCell ⟨B, 3, none⟩ (.bool false)).heap.size = w2.heap.size := by simp [World.setCell]
  have hI3 := hI2.below hb3
  have d0 : (w2.setCell ⟨B, 3, none⟩ (.bool false)).cell? ⟨B, 0, none⟩ = some (.int .i64 gap) := by simpa [go_sem] using d4
  have d1 : (w2.setCell ⟨B, 3, none⟩ (.bool false)).cell? ⟨B, 1, none⟩ = some (.int .i64 room) := by simpa [go_sem] using d5
  have d2 : (w2.setCell ⟨B, 3, none⟩ (.bool false)).cell? ⟨B, 2, none⟩ = some (.int .u8 j) := by simpa [go_sem] using d6
  have d3 : (w2.setCell ⟨B, 3, none⟩ (.bool false)).cell? ⟨B, 3, none⟩ = some (.bool false) := World.cell?_setCell_same' _ _ _ (by rw [d7]; rfl)
  generalize w2.setCell ⟨B, 3, none⟩ (.bool false) = w3 at *
  clear d4 d5 d6 d7 g7 hI2
  refine (flexMain_any outer gap room j (by omega) false _ B w3 hI3 (by omega) (by omega)).mono ?_
  unfold MainPost
  rw [HM.out]
  rintro e w4 ⟨v4, rfl, ho4, hb4⟩
  have hs4 := hb4.size
  have hI4 := hI3.below (hb4.mono (by omega))
  have d4 := (hb4.cell (p := ⟨B, 0, none⟩) (by show B < _; omega)).trans d0
  have d5 := (hb4.cell (p := ⟨B, 1, none⟩) (by show B < _; omega)).trans d1
  have d6 := (hb4.cell (p := ⟨B, 2, none⟩) (by show B < _; omega)).trans d2
  have d7 := (hb4.cell (p := ⟨B, 3, none⟩) (by show B < _; omega)).trans d3
  obtain ⟨A4, c4, e4, hc4, _⟩ := ho4.ints
  subst e4
  have hl1 : ((L.length : Int) == (outer.length : Int)) = true := by simp [l1]
  clear d0 d1 d2 d3
  go_wp2_with fail
  refine (lf _ B w4 hI4 (by omega)).mono ?_
  rintro e w5 ⟨rfl, hb5⟩
  have hs5 := hb5.size
  have e0 := (hb5.cell (p := ⟨B, 0, none⟩) (by show B < _; omega)).trans d4
  have e1 := (hb5.cell (p := ⟨B, 1, none⟩) (by show B < _; omega)).trans d5
  have e2 := (hb5.cell (p := ⟨B, 2, none⟩) (by show B < _; omega)).trans d6
  obtain ⟨A0, c0, e0', _, hr0⟩ := hI4.below (hb5.mono (by omega))
  cases e0'
  obtain ⟨A4', c4', e4', _, hr4⟩ := ho4.ints.below hb5
  cases e4'
  have hbb : Below B w w5 := hb02.trans (hb3.trans ((hb4.mono (by omega)).trans (hb5.mono (by omega))))
  clear ho4 hI3 hI4 hb02 hb3 hb4 hb5 nm lf d4 d5 d6 d7
  go_wp2_with fail
  go_loopw [8] (BkA outer.length w5) (fun i _ => outer.length - (intOf i).toNat)
  case atStart => exact ⟨0, by omega, rfl, Quiet.refl _⟩
  case round =>
    obtain ⟨i, hi, rfl, mo, rfl⟩ := hrel
    by_cases hli : i < outer.length
    · have i4 : (i : Int) < (L.length : Int) := by omega
      obtain ⟨ad0, rfl, _, k0⟩ := hr0.val hli
      obtain ⟨ad4, rfl, _, k4⟩ := hr4.val (show i < L.length by omega)
      obtain ⟨y1, y2, hp, hq⟩ := HK.out i hli
      obtain ⟨x1, x2⟩ := HX.out i hli
      rw [← getD_at] at k0 k4
      rw [← getD_at hli] at x1 x2
      have hy1 : 0 < i → -107374182400 ≤ L.getD (i - 1) 0 ∧ L.getD (i - 1) 0 ≤ 657129996288 := fun h => by have := HK.out (i - 1) (by omega); exact ⟨this.1, this.2.1⟩
      have hx1 : 0 < i → 0 ≤ outer.getD (i - 1) 0 ∧ outer.getD (i - 1) 0 ≤ 268435456 := fun h => by have := HX.out (i - 1) (by omega); rwa [← getD_at (show i - 1 < outer.length by omega)] at this
      have k0' : 0 < i → w5.cell? (ad0.add (i - 1)) = some (.int .i64 (outer.getD (i - 1) 0)) := fun h => by
        obtain ⟨ad, e, _, k⟩ := hr0.val (show i - 1 < outer.length by omega)
        cases e
        rw [getD_at (show i - 1 < outer.length by omega)]
        exact k
      have k4' : 0 < i → w5.cell? (ad4.add (i - 1)) = some (.int .i64 (L.getD (i - 1) 0)) := fun h => by
        obtain ⟨ad, e, _, k⟩ := hr4.val (show i - 1 < L.length by omega)
        cases e
        rw [getD_at (show i - 1 < L.length by omega)]
        exact k
      have hn3 : i + 1 ≤ outer.length := hli
      generalize L.getD i 0 = y at *
      generalize outer.getD i 0 = x at *
      generalize L.getD (i - 1) 0 = y' at *
      generalize outer.getD (i - 1) 0 = x' at *
      obtain ⟨S, hS⟩ : ∃ S, y + x = S := ⟨_, rfl⟩
      have hwS : IntKind.i64.wrap (y + x) = S := by rw [hS, IntKind.wrap_i64]; omega
      have h2 : F < 0 ∨ (0 ≤ F ∧ ¬ y < 0 ∧ ¬ room < S) := by
        rcases Int.lt_or_le F 0 with h | h
        · exact .inl h
        · have := hp h
          exact .inr ⟨h, by omega, by omega⟩
      have gb0 : F < 0 → decide (0 ≤ F) = false := fun h => decide_eq_false (by omega)
      have gb1 : 0 ≤ F → decide (0 ≤ F) = true := decide_eq_true
      have gb2 : ¬ y < 0 → decide (y < 0) = false := decide_eq_false
      have gb3 : ¬ room < S → decide (room < S) = false := decide_eq_false
      rcases Nat.eq_zero_or_pos i with h0 | h0
      · subst h0
        have k0z : w5.cell? ad0 = some (.int .i64 x) := k0
        have k4z : w5.cell? ad4 = some (.int .i64 y) := k4
        clear k0' k4' hy1 hx1 hq hp hS
        rcases h2 with g1 | ⟨g1, g2, g3⟩
        · have b0 := gb0 g1
          clear gb0 gb1 gb2 gb3
          go_wp2_with fail
          go_quiet (fail)
          go_wp2_with fail
          go_roundw
          case rel => exact ⟨1, by omega, by go_num, _, rfl⟩
          case measure => simp [intOf]; omega
        · have b1 := gb1 g1
          have b2 := gb2 g2
          have b3 := gb3 g3
          clear gb0 gb1 gb2 gb3
          go_wp2_with fail
          go_quiet (fail)
          go_wp2_with fail
          go_roundw
          case rel => exact ⟨1, by omega, by go_num, _, rfl⟩
          case measure => simp [intOf]; omega
      · obtain ⟨m, hm, m0, m1, hmm⟩ := hq h0
        have kk0 := k0' h0
        have kk4 := k4' h0
        obtain ⟨b1, b2⟩ := hy1 h0
        obtain ⟨b3, b4⟩ := hx1 h0
        have hki : IntKind.i64.wrap ((i : Int) - 1) = ((i - 1 : Nat) : Int) := by rw [IntKind.wrap_i64]; omega
        have i0 : ((i : Int) == 0) = false := beq_eq_false_iff_ne.2 (by omega)
        have hi1 : ((i - 1 : Nat) : Int) < (L.length : Int) := by omega
        have hi2 : ((i - 1 : Nat) : Int) < (outer.length : Int) := by omega
        obtain ⟨D1, hD1⟩ : ∃ D, y - y' = D := ⟨_, rfl⟩
        obtain ⟨D2, hD2⟩ : ∃ D, D1 - x' = D := ⟨_, rfl⟩
        have hw1 : IntKind.i64.wrap (y - y') = D1 := by rw [hD1, IntKind.wrap_i64]; omega
        have hw2 : IntKind.i64.wrap (D1 - x') = D2 := by rw [hD2, IntKind.wrap_i64]; omega
        have h4 : (D2 = gap) ∨ (gap < D2 ∧ 0 < F ∧ j = 3) ∨ (gap < D2 ∧ 0 < F ∧ j = 4) := by
          rcases hmm with hz | ⟨hF, hj⟩
          · exact .inl (by omega)
          · rcases Int.lt_or_le 0 m with hp | hp
            · rcases hj with hj | hj
              · exact .inr (.inl ⟨by omega, hF, hj⟩)
              · exact .inr (.inr ⟨by omega, hF, hj⟩)
            · exact .inl (by omega)
        clear hmm hm m0 m1 k0' k4' hy1 hx1 hq hp hS hD1 hD2
        generalize i - 1 = i1 at *
        rcases h2 with g1 | ⟨g1, g2, g3⟩
        · have b0 := gb0 g1
          clear gb0 gb1 gb2 gb3
          rcases h4 with rfl | ⟨q1, q2, q3⟩ | ⟨q1, q2, q3⟩
          · go_wp2_with fail
            go_quiet (fail)
            go_wp2_with fail
            go_quiet (fail)
            go_wp2_with fail
            go_roundw
            case rel => exact ⟨i + 1, hli, by go_num, _, rfl⟩
            case measure => simp [intOf]; omega
          · omega
          · omega
        · have c1 := gb1 g1
          have c2 := gb2 g2
          have c3 := gb3 g3
          clear gb0 gb1 gb2 gb3
          have h5 : (D2 = gap) ∨ (gap < D2 ∧ 0 < F ∧ ((j : Int) != 3) = false) ∨ (gap < D2 ∧ 0 < F ∧ ((j : Int) != 3) = true ∧ ((j : Int) != 4) = false) := by
            rcases h4 with h | ⟨h, h', rfl⟩ | ⟨h, h', rfl⟩
            · exact .inl h
            · exact .inr (.inl ⟨h, h', by decide⟩)
            · exact .inr (.inr ⟨h, h', by decide, by decide⟩)
          clear h4
          rcases h5 with rfl | ⟨q1, q2, q3⟩ | ⟨q1, q2, q3, q4⟩
          all_goals
            go_wp2_with fail
            go_quiet (fail)
            go_wp2_with fail
            go_quiet (fail)
            go_wp2_with fail
            go_roundw
            case rel => exact ⟨i + 1, hli, by go_num, _, rfl⟩
            case measure => simp [intOf]; omega
    · obtain rfl : i = outer.length := by omega
      go_wp2_with fail
      go_ret
      exact ⟨rfl, by rw [HB.out]; exact below_drewN hbb mo⟩

set_option maxRecDepth 100000 in
theorem beside17_no (outer : List Int) (gap room : Int) (j : Nat) (hj : j < 256) (back : Bool) (v : Value) (w : World) (h : Ints w w.heap.size v outer) (hm : outer.length ≤ 17592186044416) (hno : ¬ (nearHead outer gap room j ∧ outer.all isNear = true)) :
    LawReturns 27 #[v, howV gap room j back] w := by
  unfold LawReturns howV
  have hI := h
  obtain ⟨A, c, rfl, hc, _⟩ := hI
  have hb0 : Below w.heap.size w (w.alloc (.cells #[.int .i64 gap, .int .i64 room, .int .u8 j, .bool back] 82)) := (Below.refl _ _).alloc (Nat.le_refl _) _
  have hs0 : (w.alloc (.cells #[.int .i64 gap, .int .i64 room, .int .u8 j, .bool back] 82)).heap.size = w.heap.size + 1 := World.size_alloc _ _
  have hc0 : (w.alloc (.cells #[.int .i64 gap, .int .i64 room, .int .u8 j, .bool back] 82)).cell? ⟨w.heap.size, 0, none⟩ = some (.int .i64 gap) := by simp [go_sem]
  have hc1 : (w.alloc (.cells #[.int .i64 gap, .int .i64 room, .int .u8 j, .bool back] 82)).cell? ⟨w.heap.size, 1, none⟩ = some (.int .i64 room) := by simp [go_sem]
  have hc2 : (w.alloc (.cells #[.int .i64 gap, .int .i64 room, .int .u8 j, .bool back] 82)).cell? ⟨w.heap.size, 2, none⟩ = some (.int .u8 j) := by simp [go_sem]
  have hc3 : (w.alloc (.cells #[.int .i64 gap, .int .i64 room, .int .u8 j, .bool back] 82)).cell? ⟨w.heap.size, 3, none⟩ = some (.bool back) := by simp [go_sem]
  have h0 := h.below hb0
  clear h
  go_enter Try.func27, Try.ntmps27
  go_wp2_with fail
  generalize w.alloc (.cells #[.int .i64 gap, .int .i64 room, .int .u8 j, .bool back] 82) = w0 at *
  refine (awake17 _).mono ?_
  rintro e w1 ⟨rfl, hb1⟩
  have hs1 := hb1.size
  have hI1 := h0.below (hb1.mono (by omega))
  have d0 := (hb1.cell (p := ⟨w.heap.size, 0, none⟩) (by show w.heap.size < _; omega)).trans hc0
  have d1 := (hb1.cell (p := ⟨w.heap.size, 1, none⟩) (by show w.heap.size < _; omega)).trans hc1
  have d2 := (hb1.cell (p := ⟨w.heap.size, 2, none⟩) (by show w.heap.size < _; omega)).trans hc2
  have d3 := (hb1.cell (p := ⟨w.heap.size, 3, none⟩) (by show w.heap.size < _; omega)).trans hc3
  go_wp2_with fail
  refine (near17_no outer gap room j hj back _ _ w1 hI1 (by omega) hm hno).mono ?_
  rintro e w2 ⟨rfl, hb2⟩
  go_wp2_with fail
  go_ret
  exact ⟨rfl, hb0.trans ((hb1.mono (by omega)).trans (hb2.mono (by omega)))⟩

theorem flexBeside_walk (outer : List Int) (gap room j : Int) (hj : (Lit.int .u8 j).wf = true) (back : Bool) (v : Value) (w : World) (h : Ints w w.heap.size v outer) (hm : outer.length ≤ 17592186044416) :
    LawReturns 27 #[v, .agg #[.int .i64 gap, .int .i64 room, .int .u8 j, .bool back]] w := by
  obtain ⟨k, rfl, hk⟩ := u8_nat hj
  by_cases hb : nearHead outer gap room k ∧ outer.all isNear = true
  · exact beside17_main outer gap room k back v w h hb.1 hb.2
  · exact beside17_no outer gap room k hk back v w h hm hb

end Go.Proofs.Ytpelapdadgmlkaa
