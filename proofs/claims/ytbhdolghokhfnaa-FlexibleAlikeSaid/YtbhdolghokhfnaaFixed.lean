/-
  Walks: package fixed without Share, and its reference: Fits, Add, Sub, Part, Clamp, Copy, Same: what each call answers and what it does to the world.
-/
import Derived.Test.YtbhdolghokhfnaaInts
import Derived.Test.YtbhdolghokhfnaaFixedPlain
import Derived.Test.YtbhdolghokhfnaaShelf
namespace Go.Proofs.Ytbhdolghokhfnaa
open Go.RowKit

theorem fit1 (n : Int) (w : World) : Calls Try.prog 61 #[.int .i64 n] w fun e w' => e = .returned (.bool (!fit n)) ∧ w = w' := by
  by_cases h1 : n < -1099511627776
  · go_enter Try.func61, Try.ntmps61
    go_wp2
    go_ret
    exact ⟨by simp [fit]; omega, rfl⟩
  · by_cases h2 : 1099511627776 < n
    · go_enter Try.func61, Try.ntmps61
      go_wp2
      go_ret
      exact ⟨by simp [fit]; omega, rfl⟩
    · go_enter Try.func61, Try.ntmps61
      go_wp2
      go_ret
      exact ⟨by simp [fit]; omega, rfl⟩

def IdxPost (zs : List Int) (w : World) (e : Ending) (w' : World) : Prop :=
  ∃ r : Int, e = .returned (.int .i64 r) ∧ -1 ≤ r ∧ (zs.all fit = !decide (0 ≤ r)) ∧ w = w'

theorem idx_unfit (zs : List Int) (v : Value) (B : Nat) (w : World) (h : Ints w B v zs) (hm : zs.length ≤ 9223372036854775807) :
    Calls Try.prog 75 #[v, .func (.func 61) #[] #[]] w (IdxPost zs w) := by
  obtain ⟨A, c, rfl, hc, hr⟩ := h
  go_enter Try.func75, Try.ntmps75
  go_wp2
  go_loop [5, 8] (fun _ i => ∃ k : Nat, k ≤ zs.length ∧ i = .int .i64 k ∧ (zs.take k).all fit = true) (fun _ i => zs.length - (intOf i).toNat)
  case atStart => exact ⟨0, by omega, rfl, by simp⟩
  case round =>
    obtain ⟨k, hk, rfl, hall⟩ := hrel
    have Hall := Lib.hid hall; clear hall
    by_cases hlt : k < zs.length
    · obtain ⟨ad, rfl, hb, hcell⟩ := hr.val hlt
      by_cases hf : fit zs[k] = true
      · go_wp2_with (go_at_call 61; refine (fit1 _ _).mono ?_; rintro e w' ⟨rfl, rfl⟩)
        go_round
        case rel => exact ⟨k + 1, by omega, by go_num, by rw [take_all zs k hlt, Hall.out, hf]; rfl⟩
        case measure => simp [intOf]; omega
      · go_wp2_with (go_at_call 61; refine (fit1 _ _).mono ?_; rintro e w' ⟨rfl, rfl⟩)
        go_ret
        exact ⟨k, rfl, by omega, by rw [all_false_at zs k hlt (by simpa using hf)]; simp, rfl⟩
    · go_wp2
      go_ret
      exact ⟨-1, rfl, by omega, by rw [List.take_of_length_le (by omega)] at Hall; rw [Hall.out]; rfl, rfl⟩

theorem has_unfit (zs : List Int) (v : Value) (B : Nat) (w : World) (h : Ints w B v zs) (hm : zs.length ≤ 9223372036854775807) :
    Calls Try.prog 60 #[v, .func (.func 61) #[] #[]] w fun e w' => e = .returned (.bool (!zs.all fit)) ∧ w = w' := by
  go_enter Try.func60, Try.ntmps60
  go_wp2_with (go_at_call 75; refine (idx_unfit zs v B w h hm).mono ?_; rintro e w' ⟨r, rfl, hr1, hr2, rfl⟩; have Hr := Lib.hid hr2; clear hr2)
  go_ret
  exact ⟨by rw [Hr.out]; simp, rfl⟩

theorem fits_any (zs : List Int) (v : Value) (B : Nat) (w : World) (h : Ints w B v zs) (hm : zs.length ≤ 9223372036854775807) :
    Calls Try.prog 38 #[v] w fun e w' => e = .returned (.bool (zs.all fit)) ∧ w = w' := by
  go_enter Try.func38, Try.ntmps38
  go_wp2_with (go_at_call 60; refine (has_unfit zs v B w h hm).mono ?_; rintro e w' ⟨rfl, rfl⟩)
  go_ret
  exact ⟨by simp, rfl⟩

theorem fits_one (n : Int) (t : TypeId) (w : World) :
    Calls Try.prog 38 #[.slice (some ⟨w.heap.size, 0, none⟩) 1 1] (w.alloc (.cells #[.int .i64 n] t)) fun e w' => e = .returned (.bool (fit n)) ∧ w.alloc (.cells #[.int .i64 n] t) = w' :=
  (fits_any [n] _ _ _ (Ints.built w [n] t) (by simp)).mono fun _ _ ⟨h1, h2⟩ => ⟨by simpa using h1, h2⟩
theorem fits_two (a b : Int) (t : TypeId) (w : World) :
    Calls Try.prog 38 #[.slice (some ⟨w.heap.size, 0, none⟩) 2 2] (w.alloc (.cells #[.int .i64 a, .int .i64 b] t)) fun e w' => e = .returned (.bool (fit a && fit b)) ∧ w.alloc (.cells #[.int .i64 a, .int .i64 b] t) = w' :=
  (fits_any [a, b] _ _ _ (Ints.built w [a, b] t) (by simp)).mono fun _ _ ⟨h1, h2⟩ => ⟨by simpa using h1, h2⟩

theorem told_any (out : Int) (zs : List Int) (v : Value) (B : Nat) (w : World) (h : Ints w B v zs) (hm : zs.length ≤ 9223372036854775807) :
    Calls Try.prog 59 #[.int .i64 out, v] w fun e w' => e = .returned (.tuple #[.int .i64 (told out zs).1, .int .i64 (told out zs).2]) ∧ Below w.heap.size w w' := by
  cases ha : zs.all fit with
  | false =>
    have H := Lib.hid (told_no1 (out := out) ha)
    have hf := fits_any zs v B w h hm
    rw [ha] at hf
    clear ha
    go_enter Try.func59, Try.ntmps59
    go_wp2_with (go_at_call 38; refine hf.mono ?_; rintro e w' ⟨rfl, rfl⟩)
    go_ret2
    exact ⟨by rw [H.out]; rfl, Below.refl _ _⟩
  | true =>
    have hf := fits_any zs v B w h hm
    rw [ha] at hf
    cases hb : fit out with
    | false =>
      have H := Lib.hid (told_no2 (of := zs) hb)
      have hg := fits_one out 3 w
      rw [hb] at hg
      clear ha hb
      go_enter Try.func59, Try.ntmps59
      go_wp2_with (first | (go_at_call 38; with_reducible refine hf.mono ?_; rintro e w' ⟨rfl, rfl⟩) | (go_at_call 38; with_reducible refine hg.mono ?_; rintro e w' ⟨rfl, rfl⟩))
      go_ret2
      exact ⟨by rw [H.out]; rfl, (Below.refl _ _).alloc (Nat.le_refl _) _⟩
    | true =>
      have H := Lib.hid (told_yes ha hb)
      have hg := fits_one out 3 w
      rw [hb] at hg
      clear ha hb
      go_enter Try.func59, Try.ntmps59
      go_wp2_with (first | (go_at_call 38; with_reducible refine hf.mono ?_; rintro e w' ⟨rfl, rfl⟩) | (go_at_call 38; with_reducible refine hg.mono ?_; rintro e w' ⟨rfl, rfl⟩))
      go_ret2
      exact ⟨by rw [H.out]; rfl, (Below.refl _ _).alloc (Nat.le_refl _) _⟩

theorem add_any (zs : List Int) (v : Value) (B : Nat) (w : World) (h : Ints w B v zs) (hm : zs.length ≤ 1048576) :
    Calls Try.prog 34 #[v] w fun e w' => e = .returned (.tuple #[.int .i64 (addR zs).1, .int .i64 (addR zs).2]) ∧ Below w.heap.size w w' := by
  have hf := fits_any zs v B w h (by omega)
  cases ha : zs.all fit with
  | false =>
    have H := Lib.hid (told_no1 (out := zs.sum) ha)
    rw [ha] at hf
    clear ha
    go_enter Try.func34, Try.ntmps34
    go_wp2_with (go_at_call 38; refine hf.mono ?_; rintro e w' ⟨rfl, rfl⟩)
    go_ret2
    exact ⟨by rw [addR, H.out]; rfl, Below.refl _ _⟩
  | true =>
    rw [ha] at hf
    have ht := fun s : Int => told_any s [] (.slice none 0 0) 0 w (Ints.nil _ _) (by simp)
    have HT : ∀ s, told s [] = told s zs := fun s => by simp [told, ha]
    have HT := Lib.hid HT
    have HA := Lib.hid ha
    clear ha
    obtain ⟨A, c, rfl, hc, hr⟩ := h
    go_enter Try.func34, Try.ntmps34
    go_wp2_with (go_at_call 38; refine hf.mono ?_; rintro e w' ⟨rfl, rfl⟩)
    go_loop [4, 6, 12] (fun s _ i => ∃ k : Nat, k ≤ zs.length ∧ i = .int .i64 k ∧ s = .int .i64 (zs.take k).sum) (fun _ _ i => zs.length - (intOf i).toNat)
    case atStart => exact ⟨0, by omega, rfl, by simp⟩
    case round =>
      obtain ⟨k, hk, rfl, rfl⟩ := hrel
      obtain ⟨hs1, hs2⟩ := sum_bd HA.out k
      by_cases hlt : k < zs.length
      · obtain ⟨ad, rfl, hb, hcell⟩ := hr.val hlt
        obtain ⟨hv1, hv2⟩ := all_at HA.out k hlt
        go_wp2
        go_round
        case rel => exact ⟨k + 1, by omega, by go_num, by rw [take_sum zs k hlt]⟩
        case measure => simp [intOf]; omega
      · go_wp2_with (go_at_call 59; refine (ht _).mono ?_; rintro e w' ⟨rfl, hb⟩)
        go_ret2
        rw [List.take_of_length_le (by omega)]
        exact ⟨by rw [addR, ← HT.out]; rfl, hb⟩

theorem rfits (n : Int) (w : World) : Calls Try.prog 66 #[.int .i64 n] w fun e w' => e = .returned (.bool (fit n)) ∧ w = w' := by
  by_cases h1 : -1099511627776 ≤ n
  · by_cases h2 : n ≤ 1099511627776
    · go_enter Try.func66, Try.ntmps66
      go_wp2
      go_ret
      exact ⟨by simp [fit, h1, h2], rfl⟩
    · go_enter Try.func66, Try.ntmps66
      go_wp2
      go_ret
      exact ⟨by simp [fit]; omega, rfl⟩
  · go_enter Try.func66, Try.ntmps66
    go_wp2
    go_ret
    exact ⟨by simp [fit]; omega, rfl⟩

theorem rall (zs : List Int) (v : Value) (B : Nat) (w : World) (h : Ints w B v zs) (hm : zs.length ≤ 9223372036854775807) :
    Calls Try.prog 49 #[v] w fun e w' => e = .returned (.bool (zs.all fit)) ∧ w = w' := by
  obtain ⟨A, c, rfl, hc, hr⟩ := h
  go_enter Try.func49, Try.ntmps49
  go_wp2
  go_loop [3] (fun i => ∃ k : Nat, k ≤ zs.length ∧ i = .int .i64 k ∧ (zs.take k).all fit = true) (fun i => zs.length - (intOf i).toNat)
  case atStart => exact ⟨0, by omega, rfl, by simp⟩
  case round =>
    obtain ⟨k, hk, rfl, hall⟩ := hrel
    have Hall := Lib.hid hall; clear hall
    by_cases hlt : k < zs.length
    · obtain ⟨ad, rfl, hb, hcell⟩ := hr.val hlt
      by_cases hf : fit zs[k] = true
      · go_wp2_with (go_at_call 66; refine (rfits _ _).mono ?_; rintro e w' ⟨rfl, rfl⟩)
        go_round
        case rel => exact ⟨k + 1, by omega, by go_num, by rw [take_all zs k hlt, Hall.out, hf]; rfl⟩
        case measure => simp [intOf]; omega
      · go_wp2_with (go_at_call 66; refine (rfits _ _).mono ?_; rintro e w' ⟨rfl, rfl⟩)
        go_ret
        exact ⟨by rw [all_false_at zs k hlt (by simpa using hf)]; rfl, rfl⟩
    · go_wp2
      go_ret
      exact ⟨by rw [List.take_of_length_le (by omega)] at Hall; rw [Hall.out]; rfl, rfl⟩

theorem take_eq_step (xs ys : List Int) (k : Nat) (h1 : k < xs.length) (h2 : k < ys.length) (h : xs.take k = ys.take k) (he : xs[k] = ys[k]) : xs.take (k + 1) = ys.take (k + 1) := by
  rw [List.take_succ_eq_append_getElem h1, List.take_succ_eq_append_getElem h2, h, he]

theorem same_any (xs ys : List Int) (v u : Value) (B : Nat) (w : World) (h : Ints w B v xs) (h' : Ints w B u ys) (hm : xs.length ≤ 9223372036854775807) :
    Calls Try.prog 15 #[v, u] w fun e w' => e = .returned (.bool (decide (xs = ys))) ∧ Quiet w w' := by
  obtain ⟨A, c, rfl, hc, hr⟩ := h
  obtain ⟨A', c', rfl, hc', hr'⟩ := h'
  by_cases hl : xs.length = ys.length
  · have HL := Lib.hid hl; clear hl
    have hbq : (((xs.length : Int)) != (ys.length : Int)) = false := by simp [HL.out]
    go_enter Try.func15, Try.ntmps15
    go_wp2
    go_loopw [5] (fun i wr => ∃ k : Nat, k ≤ xs.length ∧ i = .int .i64 k ∧ Quiet w wr ∧ Hid (xs.take k = ys.take k)) (fun i _ => xs.length - (intOf i).toNat)
    case atStart => exact ⟨0, by omega, rfl, Quiet.refl _, rfl⟩
    case round =>
      obtain ⟨k, hk, rfl, hq, HT⟩ := hrel
      by_cases hlt : k < xs.length
      · have hlt' : k < ys.length := by have := HL.out; omega
        obtain ⟨ad, rfl, hb, hcell⟩ := (hr.below (hq.below B)).val hlt
        obtain ⟨ad', rfl, hb', hcell'⟩ := (hr'.below (hq.below B)).val hlt'
        by_cases he : xs[k] = ys[k]
        · have hne : (xs[k] != ys[k]) = false := by simp [he]
          have HE := Lib.hid he; clear he
          go_wp2
          go_quiet (fail)
          go_wp2
          go_roundw
          case rel => exact ⟨k + 1, by omega, by go_num, hq.drewN _, take_eq_step xs ys k hlt hlt' HT.out HE.out⟩
          case measure => simp [intOf]; omega
        · have hne : (xs[k] != ys[k]) = true := by simp [he]
          have HE := Lib.hid he; clear he
          go_wp2
          go_quiet (fail)
          go_wp2
          go_ret
          refine ⟨?_, hq.drewN _⟩
          have : xs ≠ ys := by
            intro e
            have he := HE.out
            subst e
            exact he rfl
          simp [this]
      · go_wp2
        go_ret
        refine ⟨?_, hq⟩
        have h1 := HT.out
        have h2 := HL.out
        rw [List.take_of_length_le (by omega), List.take_of_length_le (by omega)] at h1
        simp [h1]
  · have hbq : (((xs.length : Int)) != (ys.length : Int)) = true := by simp; omega
    have HL := Lib.hid hl; clear hl
    go_enter Try.func15, Try.ntmps15
    go_wp2
    go_ret
    refine ⟨?_, Quiet.refl _⟩
    have : xs ≠ ys := fun e => HL.out (by rw [e])
    simp [this]

def CopyPost (zs : List Int) (w : World) (e : Ending) (w' : World) : Prop :=
  ∃ v, e = .returned v ∧ Owns w' w.heap.size v zs ∧ Below w.heap.size w w'
theorem copy_any (zs : List Int) (v : Value) (B : Nat) (w : World) (h : Ints w B v zs) (hm : zs.length ≤ 17592186044416) :
    Calls Try.prog 12 #[v] w (CopyPost zs w) := by
  go_enter Try.func12, Try.ntmps12
  go_wp2_with (at_builtin; refine append_ints w rfl (.tmp 4) (.tmp 5) rfl w.heap.size (.slice none 0 0) [] rfl (Owns.nil _ _) B v zs rfl h (by simpa using hm) (Nat.le_refl _) ?_; intro v1 w1 hown1 hb1)
  go_ret
  exact ⟨v1, rfl, hown1, hb1⟩


theorem fit_neg (b : Int) : fit (-b) = fit b := by
  rw [Bool.eq_iff_iff, fit_iff, fit_iff]; omega
theorem addR_sub (a b : Int) : addR [a, -b] = subR a b := by
  simp [addR, subR, told, fit_neg, Int.sub_eq_add_neg]

theorem clamp_any (n l m : Int) (w : World) :
    Calls Try.prog 37 #[.int .i64 n, .int .i64 l, .int .i64 m] w fun e w' => e = .returned (.int .i64 (clampR n l m)) ∧ w = w' := by
  go_enter Try.func37, Try.ntmps37
  go_wp2
  all_goals
    go_ret
    exact ⟨congrArg (fun x => Ending.returned (.int .i64 x)) (by unfold clampR; omega), rfl⟩

theorem rclamp (n l m : Int) (w : World) :
    Calls Try.prog 53 #[.int .i64 n, .int .i64 l, .int .i64 m] w fun e w' => e = .returned (.int .i64 (clampR n l m)) ∧ w = w' := by
  by_cases h1 : m < n
  · by_cases h2 : m < l
    · go_enter Try.func53, Try.ntmps53
      go_wp2
      go_ret
      exact ⟨congrArg (fun x => Ending.returned (.int .i64 x)) (by simp only [clampR]; omega), rfl⟩
    · go_enter Try.func53, Try.ntmps53
      go_wp2
      go_ret
      exact ⟨congrArg (fun x => Ending.returned (.int .i64 x)) (by simp only [clampR]; omega), rfl⟩
  · by_cases h2 : n < l
    · go_enter Try.func53, Try.ntmps53
      go_wp2
      go_ret
      exact ⟨congrArg (fun x => Ending.returned (.int .i64 x)) (by simp only [clampR]; omega), rfl⟩
    · go_enter Try.func53, Try.ntmps53
      go_wp2
      go_ret
      exact ⟨congrArg (fun x => Ending.returned (.int .i64 x)) (by simp only [clampR]; omega), rfl⟩

theorem part_any (n x : Int) (w : World) :
    Calls Try.prog 36 #[.int .i64 n, .int .i64 x] w fun e w' => e = .returned (.tuple #[.int .i64 (partR n x).1, .int .i64 (partR n x).2]) ∧ Below w.heap.size w w' := by
  by_cases h1 : n < 0
  · have H := Lib.hid (show partR n x = (0, 2) from if_pos (.inl h1))
    go_enter Try.func36, Try.ntmps36
    go_wp2_with fail
    go_ret2
    exact ⟨by rw [H.out]; rfl, Below.refl _ _⟩
  by_cases h2 : 100000 < n
  · have H := Lib.hid (show partR n x = (0, 2) from if_pos (.inr h2))
    go_enter Try.func36, Try.ntmps36
    go_wp2_with fail
    go_ret2
    exact ⟨by rw [H.out]; rfl, Below.refl _ _⟩
  have hf := fits_one x 3 w
  have h12 : ¬ (n < 0 ∨ 100000 < n) := by omega
  cases h3 : fit x with
  | false =>
    have H := Lib.hid (show partR n x = (0, 10) from (if_neg h12).trans (if_neg (by simp [h3])))
    rw [h3] at hf
    clear h3 h12
    go_enter Try.func36, Try.ntmps36
    go_wp2_with (go_at_call 38; with_reducible refine hf.mono ?_; rintro e w' ⟨rfl, rfl⟩)
    go_ret2
    exact ⟨by rw [H.out]; rfl, (Below.refl _ _).alloc (Nat.le_refl _) _⟩
  | true =>
    have H := Lib.hid (show partR n x = told ((n * x).tdiv 10000) [] from (if_neg h12).trans (if_pos h3))
    rw [h3] at hf
    have hb := (fit_iff x).1 h3
    have hp1 : n * x ≤ 100000 * 1099511627776 := by
      rcases Int.le_total 0 x with hx0 | hx0
      · exact Int.mul_le_mul (by omega) hb.2 hx0 (by omega)
      · exact Int.le_trans (Int.mul_nonpos_of_nonneg_of_nonpos (by omega) hx0) (by omega)
    have hp2 : -(100000 * 1099511627776) ≤ n * x := by
      rcases Int.le_total 0 x with hx0 | hx0
      · exact Int.le_trans (by omega) (Int.mul_nonneg (by omega) hx0)
      · have : n * (-x) ≤ 100000 * 1099511627776 := Int.mul_le_mul (by omega) (by omega) (by omega) (by omega)
        rw [Int.mul_neg] at this; omega
    clear h3 h12 hb
    have ht := fun y : Int => told_any y [] (.slice none 0 0) 0 (w.alloc (.cells #[.int .i64 x] 3)) (Ints.nil _ _) (by simp)
    go_enter Try.func36, Try.ntmps36
    go_wp2_with (first | (go_at_call 38; with_reducible refine hf.mono ?_; rintro e w' ⟨rfl, rfl⟩) | (go_at_call 59; refine (ht _).mono ?_; rintro e w' ⟨rfl, hbel⟩))
    go_ret2
    exact ⟨by rw [H.out]; rfl, ((Below.refl _ _).alloc (Nat.le_refl _) _).trans (hbel.mono (by simp))⟩

theorem size_any (n : Int) (w : World) (hn : -9223372036854775808 ≤ n ∧ n ≤ 9223372036854775807) :
    Calls Try.prog 39 #[.int .i64 n] w fun e w' => e = .returned (.int .u64 (n.natAbs : Nat)) ∧ w = w' := by
  obtain ⟨hn1, hn2⟩ := hn
  by_cases h : n < 0
  · go_enter Try.func39, Try.ntmps39
    go_wp2_with fail
    go_ret
    exact ⟨congrArg (fun x => Ending.returned (.int .u64 x)) (by rw [IntKind.wrap_u64, IntKind.wrap_u64]; omega), rfl⟩
  · go_enter Try.func39, Try.ntmps39
    go_wp2_with fail
    go_ret
    exact ⟨congrArg (fun x => Ending.returned (.int .u64 x)) (by omega), rfl⟩

/-- bits.Mul64, the two halves under names. -/
theorem mul64_any (x y : Nat) (hi lo : Int) (hx : x < 18446744073709551616) (hy : y < 18446744073709551616) (h1 : ((x * y / 18446744073709551616 : Nat) : Int) = hi) (h2 : ((x * y % 18446744073709551616 : Nat) : Int) = lo) (w : World) :
    Calls Try.prog 40 #[.int .u64 x, .int .u64 y] w fun e w' => e = .returned (.tuple #[.int .u64 hi, .int .u64 lo]) ∧ w = w' := by
  subst h1 h2
  exact (Try.bits_Mul64 x y hx hy w).mono fun _ _ ⟨h1, h2⟩ => ⟨h1, h2.symm⟩

theorem i64_bounds {n : Int} (h : (Lit.int .i64 n).wf = true) : -9223372036854775808 ≤ n ∧ n ≤ 9223372036854775807 := by
  simp [Lit.wf, IntKind.min, IntKind.max, IntKind.signed, IntKind.bits] at h
  exact ⟨by omega, by omega⟩

theorem natAbs_mul_big (a b : Int) (h1 : (fit a && fit b) = true) (hi lo : Int) (h2 : ((a.natAbs * b.natAbs / 18446744073709551616 : Nat) : Int) = hi) (h3 : ((a.natAbs * b.natAbs % 18446744073709551616 : Nat) : Int) = lo) :
    (0 ≤ hi ∧ 0 ≤ lo) ∧ (hi ≤ 0 → lo ≤ 1099511627776 → mulR a b = (a * b, 0) ∧ -1099511627776 ≤ a * b ∧ a * b ≤ 1099511627776) ∧ ((0 < hi ∨ 1099511627776 < lo) → mulR a b = (0, 10)) := by
  have hab : (a * b).natAbs = a.natAbs * b.natAbs := Int.natAbs_mul a b
  have hall : [a, b].all fit = true := by simpa using h1
  refine ⟨by omega, fun ha hb => ?_, fun h => ?_⟩
  · have : fit (a * b) = true := (fit_iff _).2 (by omega)
    exact ⟨told_yes hall this, (fit_iff _).1 this⟩
  · have : fit (a * b) = false := (fit_false _).2 (by omega)
    exact told_no2 this

theorem mul_any (a b : Int) (w : World) (ha : (Lit.int .i64 a).wf = true) (hb : (Lit.int .i64 b).wf = true) :
    Calls Try.prog 35 #[.int .i64 a, .int .i64 b] w fun e w' => e = .returned (.tuple #[.int .i64 (mulR a b).1, .int .i64 (mulR a b).2]) ∧ Below w.heap.size w w' := by
  have ha := i64_bounds ha
  have hb := i64_bounds hb
  have sa := size_any a w ha
  have sb := size_any b w hb
  have hf := fits_two a b 3 w
  obtain ⟨hi, hhi⟩ : ∃ hi : Int, ((a.natAbs * b.natAbs / 18446744073709551616 : Nat) : Int) = hi := ⟨_, rfl⟩
  obtain ⟨lo, hlo⟩ : ∃ lo : Int, ((a.natAbs * b.natAbs % 18446744073709551616 : Nat) : Int) = lo := ⟨_, rfl⟩
  have hm := mul64_any a.natAbs b.natAbs hi lo (by omega) (by omega) hhi hlo w
  cases h1 : (fit a && fit b) with
  | false =>
    have H := Lib.hid (show mulR a b = (0, 10) from told_no1 (by simpa using h1))
    rw [h1] at hf
    clear h1 hhi hlo
    go_enter Try.func35, Try.ntmps35
    go_wp2_with fail
    refine sa.mono ?_
    rintro e w' ⟨rfl, rfl⟩
    go_wp2_with fail
    refine sb.mono ?_
    rintro e w' ⟨rfl, rfl⟩
    go_wp2_with fail
    refine hm.mono ?_
    rintro e w' ⟨rfl, rfl⟩
    go_wp2_with fail
    refine hf.mono ?_
    rintro e w' ⟨rfl, rfl⟩
    go_wp2_with fail
    go_ret2
    exact ⟨by rw [H.out]; rfl, (Below.refl _ _).alloc (Nat.le_refl _) _⟩
  | true =>
    obtain ⟨⟨p1, p2⟩, p3, p4⟩ := natAbs_mul_big a b h1 hi lo hhi hlo
    rw [h1] at hf
    clear h1 hhi hlo
    have p3 := Lib.hid p3
    have p4 := Lib.hid p4
    by_cases g1 : 0 < hi
    · go_enter Try.func35, Try.ntmps35
      go_wp2_with fail
      refine sa.mono ?_
      rintro e w' ⟨rfl, rfl⟩
      go_wp2_with fail
      refine sb.mono ?_
      rintro e w' ⟨rfl, rfl⟩
      go_wp2_with fail
      refine hm.mono ?_
      rintro e w' ⟨rfl, rfl⟩
      go_wp2_with fail
      refine hf.mono ?_
      rintro e w' ⟨rfl, rfl⟩
      go_wp2_with fail
      go_ret2
      exact ⟨by rw [p4.out (.inl g1)]; rfl, (Below.refl _ _).alloc (Nat.le_refl _) _⟩
    by_cases g2 : 1099511627776 < lo
    · go_enter Try.func35, Try.ntmps35
      go_wp2_with fail
      refine sa.mono ?_
      rintro e w' ⟨rfl, rfl⟩
      go_wp2_with fail
      refine sb.mono ?_
      rintro e w' ⟨rfl, rfl⟩
      go_wp2_with fail
      refine hm.mono ?_
      rintro e w' ⟨rfl, rfl⟩
      go_wp2_with fail
      refine hf.mono ?_
      rintro e w' ⟨rfl, rfl⟩
      go_wp2_with fail
      go_ret2
      exact ⟨by rw [p4.out (.inr g2)]; rfl, (Below.refl _ _).alloc (Nat.le_refl _) _⟩
    obtain ⟨H, b1, b2⟩ := p3.out (by omega) (by omega)
    have H := Lib.hid H
    go_enter Try.func35, Try.ntmps35
    go_wp2_with fail
    refine sa.mono ?_
    rintro e w' ⟨rfl, rfl⟩
    go_wp2_with fail
    refine sb.mono ?_
    rintro e w' ⟨rfl, rfl⟩
    go_wp2_with fail
    refine hm.mono ?_
    rintro e w' ⟨rfl, rfl⟩
    go_wp2_with fail
    refine hf.mono ?_
    rintro e w' ⟨rfl, rfl⟩
    go_wp2_with fail
    go_ret2
    exact ⟨by rw [H.out]; rfl, (Below.refl _ _).alloc (Nat.le_refl _) _⟩

theorem mul_div_le (x y : Int) (hy : 0 < y) : (1099511627776 / y < x ↔ 1099511627776 < x * y) := by
  rw [Int.ediv_lt_iff_lt_mul hy]
theorem mulR_of (a b x y : Int) (h1 : fit a = true) (h2 : fit b = true) (hx : 0 < x) (hy : 0 < y) (hxa : x = a ∨ x = -a) (hyb : y = b ∨ y = -b) :
    (1099511627776 / y < x → mulR a b = (0, 10)) ∧ (¬ 1099511627776 / y < x → mulR a b = (a * b, 0) ∧ -1099511627776 ≤ a * b ∧ a * b ≤ 1099511627776) := by
  rw [mul_div_le x y hy]
  have hall : [a, b].all fit = true := by simp [h1, h2]
  have hp : a * b = x * y ∨ a * b = -(x * y) := by
    rcases hxa with rfl | rfl <;> rcases hyb with rfl | rfl <;> simp [Int.neg_mul, Int.mul_neg]
  have hpos : 0 < x * y := Int.mul_pos hx hy
  refine ⟨fun h => told_no2 ((fit_false _).2 (by omega)), fun h => ?_⟩
  have : fit (a * b) = true := (fit_iff _).2 (by omega)
  exact ⟨told_yes hall this, (fit_iff _).1 this⟩

theorem below2 {w w1 w2 : World} (h : Below w.heap.size w w1) (k : Below w1.heap.size w1 w2) : Below w.heap.size w w2 := h.trans (k.mono h.size)

theorem same_self (xs : List Int) (v u : Value) (B : Nat) (w : World) (h : Ints w B v xs) (h' : Ints w B u xs) (hm : xs.length ≤ 9223372036854775807) :
    Calls Try.prog 15 #[v, u] w fun e w' => e = .returned (.bool true) ∧ Quiet w w' := by
  have hs := same_any xs xs v u B w h h' hm
  rwa [decide_eq_true (rfl : xs = xs)] at hs

end Go.Proofs.Ytbhdolghokhfnaa
