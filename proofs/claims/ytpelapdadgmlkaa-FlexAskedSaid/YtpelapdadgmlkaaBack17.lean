/-
  Walks: the law FlexBack.
-/
import Derived.Test.YtpelapdadgmlkaaFlexNear
import Derived.Test.YtpelapdadgmlkaaAwake17
import Derived.Test.YtpelapdadgmlkaaLeft17
import Derived.Test.YtpelapdadgmlkaaHow
import Derived.Deep.QuietTactic
import Derived.BigQuiet
namespace Go.Proofs.Ytpelapdadgmlkaa
open Go.RowKit

theorem near17_no (outer : List Int) (gap room : Int) (j : Nat) (hj : j < 256) (back : Bool) (v : Value) (B : Nat) (w : World) (h : Ints w B v outer) (hB : B ≤ w.heap.size) (hm : outer.length ≤ 17592186044416) (hno : ¬ (nearHead outer gap room j ∧ outer.all isNear = true)) :
    Calls Try.prog 85 #[v, .agg #[.int .i64 gap, .int .i64 room, .int .u8 j, .bool back]] w fun e w' => e = .returned (.bool false) ∧ Below w.heap.size w w' := by
  by_cases hd : nearHead outer gap room j
  · have h2 := near17_main outer gap room j back v B w h hB hd
    rw [show outer.all isNear = false by cases e : outer.all isNear with
      | false => rfl
      | true => exact absurd ⟨hd, e⟩ hno] at h2
    exact h2
  · exact near17_bad outer gap room j hj back v B w h hm hd

theorem atF_pair (M outer : List Int) (gap room : Int) (k : Nat) : atF M outer gap room false k + atF M outer gap room true k + outer.getD k 0 = room := by
  unfold atF
  rw [if_neg (by simp), if_pos rfl]
  omega
def BkA (n : Nat) (w3 : World) (i : Value) (wr : World) : Prop := ∃ k : Nat, k ≤ n ∧ i = .int .i64 k ∧ Quiet w3 wr

set_option maxRecDepth 100000 in
set_option maxHeartbeats 4000000 in
theorem back17_main (outer : List Int) (gap room : Int) (j : Nat) (back : Bool) (v : Value) (w : World) (h : Ints w w.heap.size v outer) (hd : nearHead outer gap room j) (hN : outer.all isNear = true) :
    LawReturns 29 #[v, howV gap room j back] w := by
  unfold LawReturns howV
  have nm := fun v B w h hB => near17_main outer gap room j back v B w h hB hd
  rw [hN] at nm
  have HM1 := Lib.hid (near_main hd hN false)
  have HM2 := Lib.hid (near_main hd hN true)
  have HY := Lib.hid (fun k (hk : k < outer.length) => near_y hd.wide hN hk)
  have HN := Lib.hid (fun k (hk : k < outer.length) => (isNear_iff _).1 (List.all_eq_true.1 hN _ (List.getElem_mem hk)))
  obtain ⟨q1, q2, q3, q4, q5, q6⟩ := hd
  clear hN
  generalize moreR outer.length (leftOf outer gap room) j = M at *
  have hI := h
  obtain ⟨A, c, rfl, hc, _⟩ := hI
  have hb0 : Below w.heap.size w (w.alloc (.cells #[.int .i64 gap, .int .i64 room, .int .u8 j, .bool back] 82)) := (Below.refl _ _).alloc (Nat.le_refl _) _
  have hs0 : (w.alloc (.cells #[.int .i64 gap, .int .i64 room, .int .u8 j, .bool back] 82)).heap.size = w.heap.size + 1 := World.size_alloc _ _
  have hc0 : (w.alloc (.cells #[.int .i64 gap, .int .i64 room, .int .u8 j, .bool back] 82)).cell? ⟨w.heap.size, 0, none⟩ = some (.int .i64 gap) := by simp [go_sem]
  have hc1 : (w.alloc (.cells #[.int .i64 gap, .int .i64 room, .int .u8 j, .bool back] 82)).cell? ⟨w.heap.size, 1, none⟩ = some (.int .i64 room) := by simp [go_sem]
  have hc2 : (w.alloc (.cells #[.int .i64 gap, .int .i64 room, .int .u8 j, .bool back] 82)).cell? ⟨w.heap.size, 2, none⟩ = some (.int .u8 j) := by simp [go_sem]
  have hc3 : (w.alloc (.cells #[.int .i64 gap, .int .i64 room, .int .u8 j, .bool back] 82)).cell? ⟨w.heap.size, 3, none⟩ = some (.bool back) := by simp [go_sem]
  have h0 := h.below hb0
  clear h
  go_enter Try.func29, Try.ntmps29
  go_wp2_with fail
  generalize w.alloc (.cells #[.int .i64 gap, .int .i64 room, .int .u8 j, .bool back] 82) = w0 at *
  obtain ⟨B, hB⟩ : ∃ B, w.heap.size = B := ⟨_, rfl⟩
  rw [hB] at hb0 hs0 hc0 hc1 hc2 hc3 h0
  have HB := Lib.hid hB; clear hB
  rw [HB.out]
  refine (awake17 _).mono ?_
  rintro e w1 ⟨rfl, hb1⟩
  have hs1 := hb1.size
  have hI1 := h0.below (hb1.mono (by omega))
  have d0 := (hb1.cell (p := ⟨B, 0, none⟩) (by show B < _; omega)).trans hc0
  have d1 := (hb1.cell (p := ⟨B, 1, none⟩) (by show B < _; omega)).trans hc1
  have d2 := (hb1.cell (p := ⟨B, 2, none⟩) (by show B < _; omega)).trans hc2
  have d3 := (hb1.cell (p := ⟨B, 3, none⟩) (by show B < _; omega)).trans hc3
  go_wp2_with fail
  refine (nm _ B w1 hI1 (by omega)).mono ?_
  rintro e w2 ⟨rfl, hb2⟩
  have hs2 := hb2.size
  have hI2 := hI1.below (hb2.mono (by omega))
  have d4 := (hb2.cell (p := ⟨B, 0, none⟩) (by show B < _; omega)).trans d0
  have d5 := (hb2.cell (p := ⟨B, 1, none⟩) (by show B < _; omega)).trans d1
  have d6 := (hb2.cell (p := ⟨B, 2, none⟩) (by show B < _; omega)).trans d2
  clear d0 d1 d2 d3 hc0 hc1 hc2 hc3
  go_wp2_with fail
  refine (flexMain_any outer gap room j (by omega) false _ B w2 hI2 (by omega) (by omega)).mono ?_
  unfold MainPost
  rw [HM1.out]
  rintro e w3 ⟨v3, rfl, ho3, hb3⟩
  have hs3 := hb3.size
  have hI3 := hI2.below (hb3.mono (by omega))
  have d0 := (hb3.cell (p := ⟨B, 0, none⟩) (by show B < _; omega)).trans d4
  have d1 := (hb3.cell (p := ⟨B, 1, none⟩) (by show B < _; omega)).trans d5
  have d2 := (hb3.cell (p := ⟨B, 2, none⟩) (by show B < _; omega)).trans d6
  clear d4 d5 d6
  go_wp2_with fail
  refine (flexMain_any outer gap room j (by omega) true _ B w3 hI3 (by omega) (by omega)).mono ?_
  unfold MainPost
  rw [HM2.out]
  rintro e w4 ⟨v4, rfl, ho4, hb4⟩
  have hs4 := hb4.size
  obtain ⟨A0, c0, e0, _, hr0⟩ := hI3.below (hb4.mono (by omega))
  cases e0
  have e1 := (hb4.cell (p := ⟨B, 1, none⟩) (by show B < _; omega)).trans d1
  obtain ⟨A3, c3, rfl, hc3, hr3⟩ := ho3.ints.below hb4
  obtain ⟨A4, c4, rfl, hc4, hr4⟩ := ho4.ints
  have hl3 := atTo_len M outer gap room false outer.length
  have hl4 := atTo_len M outer gap room true outer.length
  rw [hl3] at hc3
  rw [hl4] at hc4
  have hbb : Below B w w4 := hb0.trans ((hb1.mono (by omega)).trans ((hb2.mono (by omega)).trans ((hb3.mono (by omega)).trans (hb4.mono (by omega)))))
  clear ho3 ho4 hI1 hI2 hI3 hb0 hb1 hb2 hb3 hb4 d0 d1 d2 nm h0
  rw [hl3, hl4]
  go_wp2_with fail
  go_loopw [9] (BkA outer.length w4) (fun i _ => outer.length - (intOf i).toNat)
  case atStart => exact ⟨0, by omega, rfl, Quiet.refl _⟩
  case round =>
    obtain ⟨i, hi, rfl, mo, rfl⟩ := hrel
    by_cases hli : i < outer.length
    · obtain ⟨ad0, rfl, _, k0⟩ := hr0.val hli
      obtain ⟨ad3, rfl, _, k3⟩ := hr3.val (by rw [hl3]; exact hli)
      obtain ⟨ad4, rfl, _, k4⟩ := hr4.val (by rw [hl4]; exact hli)
      have hp := atF_pair M outer gap room i
      obtain ⟨y1, y2⟩ := HY.out i hli
      change -107374182400 ≤ atF M outer gap room false i at y1
      change atF M outer gap room false i ≤ 657129996288 at y2
      obtain ⟨n1, n2⟩ := HN.out i hli
      rw [getD_at hli] at hp
      simp only [atTo, List.getElem_map, List.getElem_range] at k3 k4
      generalize outer[i] = x at *
      generalize atF M outer gap room false i = a at *
      generalize atF M outer gap room true i = b at *
      obtain ⟨S, hS⟩ : ∃ S, a + b = S := ⟨_, rfl⟩
      have hw1 : IntKind.i64.wrap (a + b) = S := by rw [hS, IntKind.wrap_i64]; omega
      have hw2 : IntKind.i64.wrap (S + x) = room := by rw [IntKind.wrap_i64]; omega
      clear hp hS
      go_wp2_with fail
      go_quiet (fail)
      go_wp2_with fail
      go_roundw
      case rel => exact ⟨i + 1, hli, by go_num, _, rfl⟩
      case measure => simp [intOf]; omega
    · obtain rfl : i = outer.length := by omega
      go_wp2_with fail
      go_ret
      exact ⟨rfl, by rw [HB.out]; exact below_drewN hbb mo⟩

set_option maxRecDepth 100000 in
theorem back17_no (outer : List Int) (gap room : Int) (j : Nat) (hj : j < 256) (back : Bool) (v : Value) (w : World) (h : Ints w w.heap.size v outer) (hm : outer.length ≤ 17592186044416) (hno : ¬ (nearHead outer gap room j ∧ outer.all isNear = true)) :
    LawReturns 29 #[v, howV gap room j back] w := by
  unfold LawReturns howV
  have hI := h
  obtain ⟨A, c, rfl, hc, _⟩ := hI
  have hb0 : Below w.heap.size w (w.alloc (.cells #[.int .i64 gap, .int .i64 room, .int .u8 j, .bool back] 82)) := (Below.refl _ _).alloc (Nat.le_refl _) _
  have hs0 : (w.alloc (.cells #[.int .i64 gap, .int .i64 room, .int .u8 j, .bool back] 82)).heap.size = w.heap.size + 1 := World.size_alloc _ _
  have hc0 : (w.alloc (.cells #[.int .i64 gap, .int .i64 room, .int .u8 j, .bool back] 82)).cell? ⟨w.heap.size, 0, none⟩ = some (.int .i64 gap) := by simp [go_sem]
  have hc1 : (w.alloc (.cells #[.int .i64 gap, .int .i64 room, .int .u8 j, .bool back] 82)).cell? ⟨w.heap.size, 1, none⟩ = some (.int .i64 room) := by simp [go_sem]
  have hc2 : (w.alloc (.cells #[.int .i64 gap, .int .i64 room, .int .u8 j, .bool back] 82)).cell? ⟨w.heap.size, 2, none⟩ = some (.int .u8 j) := by simp [go_sem]
  have hc3 : (w.alloc (.cells #[.int .i64 gap, .int .i64 room, .int .u8 j, .bool back] 82)).cell? ⟨w.heap.size, 3, none⟩ = some (.bool back) := by simp [go_sem]
  have h0 := h.below hb0
  clear h
  go_enter Try.func29, Try.ntmps29
  go_wp2_with fail
  generalize w.alloc (.cells #[.int .i64 gap, .int .i64 room, .int .u8 j, .bool back] 82) = w0 at *
  refine (awake17 _).mono ?_
  rintro e w1 ⟨rfl, hb1⟩
  have hs1 := hb1.size
  have hI1 := h0.below (hb1.mono (by omega))
  have d0 := (hb1.cell (p := ⟨w.heap.size, 0, none⟩) (by show w.heap.size < _; omega)).trans hc0
  have d1 := (hb1.cell (p := ⟨w.heap.size, 1, none⟩) (by show w.heap.size < _; omega)).trans hc1
  have d2 := (hb1.cell (p := ⟨w.heap.size, 2, none⟩) (by show w.heap.size < _; omega)).trans hc2
  have d3 := (hb1.cell (p := ⟨w.heap.size, 3, none⟩) (by show w.heap.size < _; omega)).trans hc3
  go_wp2_with fail
  refine (near17_no outer gap room j hj back _ _ w1 hI1 (by omega) hm hno).mono ?_
  rintro e w2 ⟨rfl, hb2⟩
  go_wp2_with fail
  go_ret
  exact ⟨rfl, hb0.trans ((hb1.mono (by omega)).trans (hb2.mono (by omega)))⟩

theorem flexBack_walk (outer : List Int) (gap room j : Int) (hj : (Lit.int .u8 j).wf = true) (back : Bool) (v : Value) (w : World) (h : Ints w w.heap.size v outer) (hm : outer.length ≤ 17592186044416) :
    LawReturns 29 #[v, .agg #[.int .i64 gap, .int .i64 room, .int .u8 j, .bool back]] w := by
  obtain ⟨k, rfl, hk⟩ := u8_nat hj
  by_cases hb : nearHead outer gap room k ∧ outer.all isNear = true
  · exact back17_main outer gap room k back v w h hb.1 hb.2
  · exact back17_no outer gap room k hk back v w h hm hb

end Go.Proofs.Ytpelapdadgmlkaa
