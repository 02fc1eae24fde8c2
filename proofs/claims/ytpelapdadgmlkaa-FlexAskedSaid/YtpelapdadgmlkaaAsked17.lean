/-
  Walks: the law FlexAsked.
-/
import Derived.Test.YtpelapdadgmlkaaBack17
import Derived.Test.YtpelapdadgmlkaaFlexShape
import Derived.Deep.RegionHeld3
namespace Go.Proofs.Ytpelapdadgmlkaa
open Go.RowKit

def AkA (M : List Int) (n : Nat) (w0 : World) (least most i : Value) (wr : World) : Prop :=
  ∃ k : Nat, 1 ≤ k ∧ k ≤ n ∧ i = .int .i64 k ∧ least = .int .i64 (lsTo M (k - 1)) ∧ most = .int .i64 (msTo M (k - 1)) ∧ Quiet w0 wr

theorem ls_step (M : List Int) {k : Nat} (h : 0 < k) : lsTo M (k + 1 - 1) = min (lsTo M (k - 1)) (M.getD k 0) := by
  obtain ⟨i, rfl⟩ : ∃ i, k = i + 1 := ⟨k - 1, by omega⟩
  rfl
theorem ms_step (M : List Int) {k : Nat} (h : 0 < k) : msTo M (k + 1 - 1) = max (msTo M (k - 1)) (M.getD k 0) := by
  obtain ⟨i, rfl⟩ : ∃ i, k = i + 1 := ⟨k - 1, by omega⟩
  rfl

set_option maxRecDepth 100000 in
set_option maxHeartbeats 4000000 in
theorem asked17_main (outer : List Int) (gap room : Int) (j : Nat) (back : Bool) (v : Value) (w : World) (h : Ints w w.heap.size v outer) (hd : nearHead outer gap room j) (hN : outer.all isNear = true) (hlen : 0 < outer.length) :
    LawReturns 28 #[v, howV gap room j back] w := by
  unfold LawReturns howV
  have nm := fun v B w h hB => near17_main outer gap room j back v B w h hB hd
  rw [hN] at nm
  obtain ⟨L, M, F, r1, r2, l1, f0, f1, hy, hk, hask⟩ := asked_list hd hN hlen
  have hfit : outer.all fit = true := List.all_eq_true.2 fun x hx => by
    have := (isNear_iff _).1 (List.all_eq_true.1 hN x hx)
    exact (fit_iff _).2 (by omega)
  have HX := Lib.hid (fun k (hk : k < outer.length) => (isNear_iff _).1 (List.all_eq_true.1 hN _ (List.getElem_mem hk)))
  obtain ⟨q1, q2, q3, q4, q5, q6⟩ := hd
  have lf := fun v B w h hB => left17_any outer gap room j back v B w h hB q1 hfit q2 (by omega) q4 (by omega)
  rw [r2] at lf
  unfold howV at lf
  have HM := Lib.hid r1
  have HK := Lib.hid hk
  have HYB := Lib.hid hy
  have HAK := Lib.hid hask
  clear r1 r2 hk hy hask hfit
  clear hN
  have hI := h
  obtain ⟨A, c, rfl, hc, _⟩ := hI
  have hb0 : Below w.heap.size w (w.alloc (.cells #[.int .i64 gap, .int .i64 room, .int .u8 j, .bool back] 82)) := (Below.refl _ _).alloc (Nat.le_refl _) _
  have hs0 : (w.alloc (.cells #[.int .i64 gap, .int .i64 room, .int .u8 j, .bool back] 82)).heap.size = w.heap.size + 1 := World.size_alloc _ _
  have hc0 : (w.alloc (.cells #[.int .i64 gap, .int .i64 room, .int .u8 j, .bool back] 82)).cell? ⟨w.heap.size, 0, none⟩ = some (.int .i64 gap) := by simp [go_sem]
  have hc1 : (w.alloc (.cells #[.int .i64 gap, .int .i64 room, .int .u8 j, .bool back] 82)).cell? ⟨w.heap.size, 1, none⟩ = some (.int .i64 room) := by simp [go_sem]
  have hc2 : (w.alloc (.cells #[.int .i64 gap, .int .i64 room, .int .u8 j, .bool back] 82)).cell? ⟨w.heap.size, 2, none⟩ = some (.int .u8 j) := by simp [go_sem]
  have hc3 : (w.alloc (.cells #[.int .i64 gap, .int .i64 room, .int .u8 j, .bool back] 82)).cell? ⟨w.heap.size, 3, none⟩ = some (.bool back) := by simp [go_sem]
  have h0 := h.below hb0
  clear h
  go_enter Try.func28, Try.ntmps28
  go_wp2_with fail
  generalize w.alloc (.cells #[.int .i64 gap, .int .i64 room, .int .u8 j, .bool back] 82) = w0 at *
  obtain ⟨B, hB⟩ : ∃ B, w.heap.size = B := ⟨_, rfl⟩
  rw [hB] at hb0 hs0 hc0 hc1 hc2 hc3 h0
  have HB := Lib.hid hB; clear hB
  rw [HB.out]
  refine (awake17 _).mono ?_
  rintro e w1 ⟨rfl, hb1⟩
  have hs1 := hb1.size
  have hI1 := h0.below (hb1.mono (by omega))
  have d0 := (hb1.cell (p := ⟨B, 0, none⟩) (by show B < _; omega)).trans hc0
  have d1 := (hb1.cell (p := ⟨B, 1, none⟩) (by show B < _; omega)).trans hc1
  have d2 := (hb1.cell (p := ⟨B, 2, none⟩) (by show B < _; omega)).trans hc2
  have d3 := (hb1.cell (p := ⟨B, 3, none⟩) (by show B < _; omega)).trans hc3
  go_wp2_with fail
  refine (nm _ B w1 hI1 (by omega)).mono ?_
  rintro e w2 ⟨rfl, hb2⟩
  have hs2 := hb2.size
  have hI2 := hI1.below (hb2.mono (by omega))
  have d4 := (hb2.cell (p := ⟨B, 0, none⟩) (by show B < _; omega)).trans d0
  have d5 := (hb2.cell (p := ⟨B, 1, none⟩) (by show B < _; omega)).trans d1
  have d6 := (hb2.cell (p := ⟨B, 2, none⟩) (by show B < _; omega)).trans d2
  have d7 := (hb2.cell (p := ⟨B, 3, none⟩) (by show B < _; omega)).trans d3
  have hb02 : Below B w w2 := hb0.trans ((hb1.mono (by omega)).trans (hb2.mono (by omega)))
  clear d0 d1 d2 d3 hc0 hc1 hc2 hc3 hb0 hb1 hb2 h0 hI1
  have hl0 : ((outer.length : Int) == 0) = false := beq_eq_false_iff_ne.2 (by omega)
  go_wp2_with fail
  refine (flexMain_any outer gap room j (by omega) false _ B w2 hI2 (by omega) (by omega)).mono ?_
  unfold MainPost
  rw [HM.out]
  rintro e w4 ⟨v4, rfl, ho4, hb4⟩
  have hs4 := hb4.size
  have hI4 := hI2.below (hb4.mono (by omega))
  have e0 := (hb4.cell (p := ⟨B, 0, none⟩) (by show B < _; omega)).trans d4
  have e1 := (hb4.cell (p := ⟨B, 1, none⟩) (by show B < _; omega)).trans d5
  have e2 := (hb4.cell (p := ⟨B, 2, none⟩) (by show B < _; omega)).trans d6
  have e3 := (hb4.cell (p := ⟨B, 3, none⟩) (by show B < _; omega)).trans d7
  obtain ⟨A4, c4, e4, hc4, hr4⟩ := ho4.ints
  subst e4
  obtain ⟨A0, c0, e0', _, hr0⟩ := hI4
  cases e0'
  obtain ⟨ad4, rfl, hbk4, k40⟩ := hr4.val (show 0 < L.length by omega)
  obtain ⟨ad0, rfl, hbk0, _⟩ := hr0.val hlen
  have hI4' : Ints w4 B (.slice (some ad0) outer.length c) outer := ⟨_, _, rfl, hc, hr0⟩
  have k4z : w4.cell? ad4 = some (.int .i64 (L.getD 0 0)) := by rw [getD_at (show 0 < L.length by omega)]; exact k40
  have k4n : w4.cell? (ad4.add (outer.length - 1)) = some (.int .i64 (L.getD (outer.length - 1) 0)) := by
    obtain ⟨ad, e, _, k⟩ := hr4.val (show outer.length - 1 < L.length by omega)
    cases e
    rw [getD_at (show outer.length - 1 < L.length by omega)]
    exact k
  have k0n : w4.cell? (ad0.add (outer.length - 1)) = some (.int .i64 (outer.getD (outer.length - 1) 0)) := by
    obtain ⟨ad, e, _, k⟩ := hr0.val (show outer.length - 1 < outer.length by omega)
    cases e
    rw [getD_at (show outer.length - 1 < outer.length by omega)]
    exact k
  have hl1 : ((L.length : Int) == (outer.length : Int)) = true := by simp [l1]
  have hln : IntKind.i64.wrap ((L.length : Int) - 1) = ((outer.length - 1 : Nat) : Int) := by rw [IntKind.wrap_i64]; omega
  have hi1 : ((outer.length - 1 : Nat) : Int) < (L.length : Int) := by omega
  have hi2 : ((outer.length - 1 : Nat) : Int) < (outer.length : Int) := by omega
  have hi3 : (0 : Int) < (L.length : Int) := by omega
  have hi4 : (0 : Int) ≤ ((outer.length - 1 : Nat) : Int) := by omega
  have hle : (outer.length : Int) - 1 = ((outer.length - 1 : Nat) : Int) := by omega
  have hla := Lib.hid (show outer.length - 1 = outer.length - 1 from rfl)
  obtain ⟨y1, y2⟩ := HYB.out 0 hlen
  obtain ⟨y3, y4⟩ := HYB.out (outer.length - 1) (by omega)
  have hX := HX.out (outer.length - 1) (by omega)
  rw [← getD_at (show outer.length - 1 < outer.length by omega)] at hX
  obtain ⟨x1, x2⟩ := hX
  clear d4 d5 d6 d7
  go_wp2_with fail
  try rw [hle]
  obtain ⟨la, hlax⟩ : ∃ la, outer.length - 1 = la := ⟨_, rfl⟩
  rw [hlax] at k4n k0n hi1 hi2 hi4 y3 y4 x1 x2 hln HAK ⊢
  have HLA := Lib.hid hlax
  clear hlax hla hle
  generalize L.getD 0 0 = a at *
  generalize L.getD la 0 = y at *
  generalize outer.getD la 0 = x at *
  obtain ⟨D1, hD1⟩ : ∃ D, room - y = D := ⟨_, rfl⟩
  obtain ⟨bh, hbh⟩ : ∃ D, D1 - x = D := ⟨_, rfl⟩
  have hw1 : IntKind.i64.wrap (room - y) = D1 := by rw [hD1, IntKind.wrap_i64]; omega
  have hw2 : IntKind.i64.wrap (D1 - x) = bh := by rw [hbh, IntKind.wrap_i64]; omega
  rw [show room - y - x = bh by omega] at HAK
  have hbB1 : -1099511627776 ≤ bh := by omega
  have hbB2 : bh ≤ 1099511627776 := by omega
  clear hD1 hbh
  have hd5 : Below w4.heap.size w4 w4.drew := (Below.refl _ _).drew
  have lf5 := lf _ B _ (hI4'.below (hd5.mono (by omega))) (Nat.le_trans (show B ≤ w4.heap.size by omega) hd5.size)
  have hkeep : ∀ w', Below w4.drew.heap.size w4.drew w' → w'.cell? ad4 = some (.int .i64 a) ∧ w'.cell? (ad4.add la) = some (.int .i64 y) ∧ w'.cell? (ad0.add la) = some (.int .i64 x) ∧ w'.cell? ⟨B, 0, none⟩ = some (.int .i64 gap) ∧ w'.cell? ⟨B, 1, none⟩ = some (.int .i64 room) ∧ w'.cell? ⟨B, 2, none⟩ = some (.int .u8 j) ∧ w'.cell? ⟨B, 3, none⟩ = some (.bool back) := fun w' hb' => by
    have hx := hd5.trans (hb'.mono hd5.size)
    have b4 : ∀ n, (ad4.add n).block < w4.heap.size := fun n => by rw [block_of_add]; exact hbk4
    have b0 : ∀ n, (ad0.add n).block < w4.heap.size := fun n => by rw [block_of_add]; omega
    exact ⟨(hx.cell (p := ad4) hbk4).trans k4z, (hx.cell (b4 _)).trans k4n, (hx.cell (b0 _)).trans k0n, (hx.cell (p := ⟨B, 0, none⟩) (by show B < _; omega)).trans e0, (hx.cell (p := ⟨B, 1, none⟩) (by show B < _; omega)).trans e1, (hx.cell (p := ⟨B, 2, none⟩) (by show B < _; omega)).trans e2, (hx.cell (p := ⟨B, 3, none⟩) (by show B < _; omega)).trans e3⟩
  go_region_held3 (fun w' => w'.cell? ad4 = some (.int .i64 a) ∧ w'.cell? (ad4.add la) = some (.int .i64 y) ∧ w'.cell? (ad0.add la) = some (.int .i64 x) ∧ w'.cell? ⟨B, 0, none⟩ = some (.int .i64 gap) ∧ w'.cell? ⟨B, 1, none⟩ = some (.int .i64 room) ∧ w'.cell? ⟨B, 2, none⟩ = some (.int .u8 j) ∧ w'.cell? ⟨B, 3, none⟩ = some (.bool back)) (first | exact hkeep _ (by assumption) | go_keep)
    (first | (go_at_call 86; with_reducible refine lf5.mono ?_; rintro e w5 ⟨rfl, hb5⟩))
  have hb45 : Below w4.heap.size w4 w5 := hd5.trans (hb5.mono hd5.size)
  have hs5 := hb45.size
  have r4 := hr4.below hb45
  have r0 := hr0.below (hb45.mono (by omega))
  have b0 := (hb45.cell (p := ⟨B, 0, none⟩) (by show B < _; omega)).trans e0
  have b2 := (hb45.cell (p := ⟨B, 2, none⟩) (by show B < _; omega)).trans e2
  have hbb : Below B w w5 := hb02.trans ((hb4.mono (by omega)).trans (hb45.mono (by omega)))
  clear k4z k4n k0n e0 e1 e2 e3 hr4 hr0 lf lf5 hd5 nm ho4 hI4' hb4 hb5 hb45 hb02 hI2 hw1 hw2
  go_wp2_with fail
  go_loopw [11, 12, 13] (AkA M outer.length w5) (fun _ _ i _ => outer.length - (intOf i).toNat)
  case atStart => exact ⟨1, by omega, by omega, rfl, rfl, rfl, Quiet.refl _⟩
  case round =>
    obtain ⟨k, hk1, hk2, rfl, rfl, rfl, mo, rfl⟩ := hrel
    by_cases hlt : k < outer.length
    · have i4 : (k : Int) < (L.length : Int) := by omega
      obtain ⟨_, h', _, kk0⟩ := r0.val (show k - 1 < outer.length by omega)
      cases h'
      obtain ⟨_, h', _, kk4⟩ := r4.val (show k < L.length by omega)
      cases h'
      obtain ⟨_, h', _, kk5⟩ := r4.val (show k - 1 < L.length by omega)
      cases h'
      obtain ⟨m1, m2, m3⟩ := HK.out k (by omega) hlt
      obtain ⟨z1, z2⟩ := HYB.out k hlt
      obtain ⟨z3, z4⟩ := HYB.out (k - 1) (by omega)
      obtain ⟨z5, z6⟩ := HX.out (k - 1) (by omega)
      rw [← getD_at] at kk0 kk4 kk5 z5 z6
      have HLS := Lib.hid (ls_step M (show 0 < k by omega))
      have HMS := Lib.hid (ms_step M (show 0 < k by omega))
      have l1' := lsTo_le M (k - 1)
      have l2' := msTo_ge M (k - 1)
      have hki : IntKind.i64.wrap ((k : Int) - 1) = ((k - 1 : Nat) : Int) := by rw [IntKind.wrap_i64]; omega
      have hi1' : ((k - 1 : Nat) : Int) < (L.length : Int) := by omega
      have hi2' : ((k - 1 : Nat) : Int) < (outer.length : Int) := by omega
      generalize L.getD k 0 = y0 at *
      generalize L.getD (k - 1) 0 = y' at *
      generalize outer.getD (k - 1) 0 = x' at *
      generalize M.getD k 0 = m at *
      generalize lsTo M (k - 1) = ls at *
      generalize msTo M (k - 1) = ms at *
      obtain ⟨E1, hE1⟩ : ∃ D, y0 - y' = D := ⟨_, rfl⟩
      obtain ⟨E2, hE2⟩ : ∃ D, E1 - x' = D := ⟨_, rfl⟩
      have hw1 : IntKind.i64.wrap (y0 - y') = E1 := by rw [hE1, IntKind.wrap_i64]; omega
      have hw2 : IntKind.i64.wrap (E1 - x') = E2 := by rw [hE2, IntKind.wrap_i64]; omega
      have hw3 : IntKind.i64.wrap (E2 - gap) = m := by rw [IntKind.wrap_i64]; omega
      clear m1 hE1 hE2
      generalize k - 1 = k1 at *
      go_wp2_with fail
      go_quiet (fail)
      go_wp2_with fail
      go_roundw
      case rel => exact ⟨k + 1, by omega, hlt, by go_num, by rw [HLS.out], by rw [HMS.out], _, rfl⟩
      case measure => simp [intOf]; omega
    · obtain rfl : k = outer.length := by omega
      have hms := msTo_le (M := M) (c := 1099511627776) (by omega) (k := la) fun i h1 h2 => (HK.out i h1 (by have := HLA.out; omega)).2.2
      have hls := lsTo_ge (M := M) (c := 0) (by omega) (k := la) fun i h1 h2 => (HK.out i h1 (by have := HLA.out; omega)).2.1
      have hls2 := lsTo_le M la
      have hms2 := msTo_ge M la
      have hA := HAK.out
      rw [HLA.out]
      have hlan : la + 1 = outer.length := by have := HLA.out; omega
      generalize lsTo M la = ls at *
      generalize msTo M la = ms at *
      unfold Asked at hA
      rcases hA with ⟨hj, h1, h2⟩ | ⟨hj, h1, h2⟩ | ⟨hj, h1, h2, h3⟩ | ⟨hj, h1, h2, h3, h4⟩ | ⟨hj, h1, h2, h3⟩ | ⟨hj, h1, h2, h3, h4, h5⟩ | ⟨hj, h1, h2, h3⟩
      · have q0 : ((j : Int) == 0) = true := by simp [hj]
        have p1 : (a == 0) = true := by simp [h1]
        have p2 : (bh == F) = true := by simp [h2]
        clear HK HYB HX HAK HLA hj h1 h2
        go_wp2_with fail
        go_ret
        exact ⟨by simp [*], by rw [HB.out]; exact below_drewN hbb mo⟩
      · have q0 : ((j : Int) == 0) = false := by simp [hj]
        have q1 : ((j : Int) == 1) = true := by simp [hj]
        have p1 : (a == F) = true := by simp [h1]
        have p2 : (bh == 0) = true := by simp [h2]
        clear HK HYB HX HAK HLA hj h1 h2
        go_wp2_with fail
        go_ret
        exact ⟨by simp [*], by rw [HB.out]; exact below_drewN hbb mo⟩
      · have q0 : ((j : Int) == 0) = false := by simp [hj]
        have q1 : ((j : Int) == 1) = false := by simp [hj]
        have q2 : ((j : Int) == 2) = true := by simp [hj]
        have p1 : (a + bh == F) = true := by simp [h1]
        clear HK HYB HX HAK HLA hj
        go_wp2_with fail
        go_ret
        exact ⟨by simp [*], by rw [HB.out]; exact below_drewN hbb mo⟩
      · have q0 : ((j : Int) == 0) = false := beq_eq_false_iff_ne.2 (by omega)
        have q1 : ((j : Int) == 1) = false := beq_eq_false_iff_ne.2 (by omega)
        have q2 : ((j : Int) == 2) = false := beq_eq_false_iff_ne.2 (by omega)
        have p1 : (a == 0) = true := by simp [h2]
        have p2 : (bh == F) = true := by simp [h3]
        have p3 : (ms == 0) = true := by simp [h4]
        clear HK HYB HX HAK HLA hj h2 h3 h4
        go_wp2_with fail
        go_ret
        exact ⟨by simp [*], by rw [HB.out]; exact below_drewN hbb mo⟩
      · have q0 : ((j : Int) == 0) = false := by simp [hj]
        have q1 : ((j : Int) == 1) = false := by simp [hj]
        have q2 : ((j : Int) == 2) = false := by simp [hj]
        have q3 : ((j : Int) == 3) = true := by simp [hj]
        have p0 : ¬ F ≤ 0 := by omega
        have p1 : (a == 0) = true := by simp [h2]
        have p2 : ((la : Int) == 0) = true := by simp; omega
        clear HK HYB HX HAK HLA hj h1 h2
        go_wp2_with fail
        go_ret
        exact ⟨by simp [*], by rw [HB.out]; exact below_drewN hbb mo⟩
      · have q0 : ((j : Int) == 0) = false := by simp [hj]
        have q1 : ((j : Int) == 1) = false := by simp [hj]
        have q2 : ((j : Int) == 2) = false := by simp [hj]
        have q3 : ((j : Int) == 3) = true := by simp [hj]
        have p0 : ¬ F ≤ 0 := by omega
        have p1 : (a == 0) = true := by simp [h2]
        have p2 : ((la : Int) == 0) = false := beq_eq_false_iff_ne.2 (by omega)
        have p3 : (bh == 0) = true := by simp [h4]
        clear HK HYB HX HAK HLA hj h1 h2 h4
        go_wp2_with fail
        go_ret
        exact ⟨by simp [*], by rw [HB.out]; exact below_drewN hbb mo⟩
      · have q0 : ((j : Int) == 0) = false := by simp [hj]
        have q1 : ((j : Int) == 1) = false := by simp [hj]
        have q2 : ((j : Int) == 2) = false := by simp [hj]
        have q3 : ((j : Int) == 3) = false := by simp [hj]
        have p0 : ¬ F ≤ 0 := by omega
        clear HK HYB HX HAK HLA hj h1
        go_wp2_with fail
        all_goals
          go_ret
          exact ⟨by simp [*], by rw [HB.out]; exact below_drewN hbb mo⟩

set_option maxRecDepth 100000 in
theorem asked17_no (outer : List Int) (gap room : Int) (j : Nat) (hj : j < 256) (back : Bool) (v : Value) (w : World) (h : Ints w w.heap.size v outer) (hm : outer.length ≤ 17592186044416) (hno : ¬ (nearHead outer gap room j ∧ outer.all isNear = true) ∨ ((nearHead outer gap room j ∧ outer.all isNear = true) ∧ outer.length = 0)) :
    LawReturns 28 #[v, howV gap room j back] w := by
  unfold LawReturns howV
  have hI := h
  obtain ⟨A, c, rfl, hc, _⟩ := hI
  have hb0 : Below w.heap.size w (w.alloc (.cells #[.int .i64 gap, .int .i64 room, .int .u8 j, .bool back] 82)) := (Below.refl _ _).alloc (Nat.le_refl _) _
  have hs0 : (w.alloc (.cells #[.int .i64 gap, .int .i64 room, .int .u8 j, .bool back] 82)).heap.size = w.heap.size + 1 := World.size_alloc _ _
  have hc0 : (w.alloc (.cells #[.int .i64 gap, .int .i64 room, .int .u8 j, .bool back] 82)).cell? ⟨w.heap.size, 0, none⟩ = some (.int .i64 gap) := by simp [go_sem]
  have hc1 : (w.alloc (.cells #[.int .i64 gap, .int .i64 room, .int .u8 j, .bool back] 82)).cell? ⟨w.heap.size, 1, none⟩ = some (.int .i64 room) := by simp [go_sem]
  have hc2 : (w.alloc (.cells #[.int .i64 gap, .int .i64 room, .int .u8 j, .bool back] 82)).cell? ⟨w.heap.size, 2, none⟩ = some (.int .u8 j) := by simp [go_sem]
  have hc3 : (w.alloc (.cells #[.int .i64 gap, .int .i64 room, .int .u8 j, .bool back] 82)).cell? ⟨w.heap.size, 3, none⟩ = some (.bool back) := by simp [go_sem]
  have h0 := h.below hb0
  clear h
  rcases hno with hx | ⟨⟨hd, hN⟩, hx⟩
  · have nn := fun v B w h hB => near17_no outer gap room j hj back v B w h hB hm hx
    clear hx
    go_enter Try.func28, Try.ntmps28
    go_wp2_with fail
    generalize w.alloc (.cells #[.int .i64 gap, .int .i64 room, .int .u8 j, .bool back] 82) = w0 at *
    refine (awake17 _).mono ?_
    rintro e w1 ⟨rfl, hb1⟩
    have hs1 := hb1.size
    have hI1 := h0.below (hb1.mono (by omega))
    have d0 := (hb1.cell (p := ⟨w.heap.size, 0, none⟩) (by show w.heap.size < _; omega)).trans hc0
    have d1 := (hb1.cell (p := ⟨w.heap.size, 1, none⟩) (by show w.heap.size < _; omega)).trans hc1
    have d2 := (hb1.cell (p := ⟨w.heap.size, 2, none⟩) (by show w.heap.size < _; omega)).trans hc2
    have d3 := (hb1.cell (p := ⟨w.heap.size, 3, none⟩) (by show w.heap.size < _; omega)).trans hc3
    go_wp2_with fail
    refine (nn _ _ w1 hI1 (by omega)).mono ?_
    rintro e w2 ⟨rfl, hb2⟩
    go_wp2_with fail
    go_ret
    exact ⟨rfl, hb0.trans ((hb1.mono (by omega)).trans (hb2.mono (by omega)))⟩
  · have nn := fun v B w h hB => near17_main outer gap room j back v B w h hB hd
    rw [hN] at nn
    have hl0 : ((outer.length : Int) == 0) = true := by simp [hx]
    clear hd hN hx
    go_enter Try.func28, Try.ntmps28
    go_wp2_with fail
    generalize w.alloc (.cells #[.int .i64 gap, .int .i64 room, .int .u8 j, .bool back] 82) = w0 at *
    refine (awake17 _).mono ?_
    rintro e w1 ⟨rfl, hb1⟩
    have hs1 := hb1.size
    have hI1 := h0.below (hb1.mono (by omega))
    have d0 := (hb1.cell (p := ⟨w.heap.size, 0, none⟩) (by show w.heap.size < _; omega)).trans hc0
    have d1 := (hb1.cell (p := ⟨w.heap.size, 1, none⟩) (by show w.heap.size < _; omega)).trans hc1
    have d2 := (hb1.cell (p := ⟨w.heap.size, 2, none⟩) (by show w.heap.size < _; omega)).trans hc2
    have d3 := (hb1.cell (p := ⟨w.heap.size, 3, none⟩) (by show w.heap.size < _; omega)).trans hc3
    go_wp2_with fail
    refine (nn _ _ w1 hI1 (by omega)).mono ?_
    rintro e w2 ⟨rfl, hb2⟩
    go_wp2_with fail
    go_ret
    exact ⟨rfl, hb0.trans ((hb1.mono (by omega)).trans (hb2.mono (by omega)))⟩

theorem flexAsked_walk (outer : List Int) (gap room j : Int) (hj : (Lit.int .u8 j).wf = true) (back : Bool) (v : Value) (w : World) (h : Ints w w.heap.size v outer) (hm : outer.length ≤ 17592186044416) :
    LawReturns 28 #[v, .agg #[.int .i64 gap, .int .i64 room, .int .u8 j, .bool back]] w := by
  obtain ⟨k, rfl, hk⟩ := u8_nat hj
  by_cases hb : nearHead outer gap room k ∧ outer.all isNear = true
  · rcases Nat.eq_zero_or_pos outer.length with h0 | h0
    · exact asked17_no outer gap room k hk back v w h hm (.inr ⟨hb, h0⟩)
    · exact asked17_main outer gap room k back v w h hb.1 hb.2 h0
  · exact asked17_no outer gap room k hk back v w h hm (.inl hb)

end Go.Proofs.Ytpelapdadgmlkaa
