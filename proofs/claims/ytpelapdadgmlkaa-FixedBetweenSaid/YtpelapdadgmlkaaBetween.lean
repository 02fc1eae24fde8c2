/-
  Walks: the law FixedBetween.
-/
import Derived.Test.YtpelapdadgmlkaaAwake01
namespace Go.Proofs.Ytpelapdadgmlkaa
open Go.RowKit

theorem clamp_low {n l m : Int} (h : m < l ∨ n ≤ l) : clampR n l m = l := by unfold clampR; omega
theorem clamp_high {n l m : Int} (h : l ≤ m) (h2 : m ≤ n) : clampR n l m = m := by unfold clampR; omega
theorem clamp_same {n l m : Int} (h : l ≤ n) (h2 : n ≤ m) : clampR n l m = n := by unfold clampR; omega

set_option maxRecDepth 100000 in
theorem fixedBetween_walk (n l m : Int) (w : World) : LawReturns 24 #[.int .i64 n, .int .i64 l, .int .i64 m] w := by
  unfold LawReturns
  have hc := fun W => clamp_any n l m W
  by_cases h1 : m < l
  · rw [clamp_low (.inl h1)] at hc
    go_enter Try.func24, Try.ntmps24
    go_wp2_with fail
    refine (awake01 _).mono ?_
    rintro e w1 ⟨rfl, hb⟩
    go_wp2_with fail
    refine (hc _).mono ?_
    rintro e w2 ⟨rfl, rfl⟩
    go_wp2_with fail
    go_ret
    exact ⟨by simp, hb⟩
  rcases Int.lt_or_le n l with h2 | h2
  · rw [clamp_low (.inr (by omega))] at hc
    have hd := fun W => clamp_any l l m W
    rw [clamp_same (by omega) (by omega)] at hd
    go_enter Try.func24, Try.ntmps24
    go_wp2_with fail
    refine (awake01 _).mono ?_
    rintro e w1 ⟨rfl, hb⟩
    go_wp2_with fail
    refine (hc _).mono ?_
    rintro e w2 ⟨rfl, rfl⟩
    go_wp2_with fail
    refine (hd _).mono ?_
    rintro e w2 ⟨rfl, rfl⟩
    go_wp2_with fail
    go_ret
    exact ⟨by simp, hb⟩
  rcases Int.lt_or_le m n with h3 | h3
  · rw [clamp_high (by omega) (by omega)] at hc
    have hd := fun W => clamp_any m l m W
    rw [clamp_same (by omega) (by omega)] at hd
    go_enter Try.func24, Try.ntmps24
    go_wp2_with fail
    refine (awake01 _).mono ?_
    rintro e w1 ⟨rfl, hb⟩
    go_wp2_with fail
    refine (hc _).mono ?_
    rintro e w2 ⟨rfl, rfl⟩
    go_wp2_with fail
    refine (hd _).mono ?_
    rintro e w2 ⟨rfl, rfl⟩
    go_wp2_with fail
    go_ret
    exact ⟨by simp, hb⟩
  · rw [clamp_same h2 h3] at hc
    go_enter Try.func24, Try.ntmps24
    go_wp2_with fail
    refine (awake01 _).mono ?_
    rintro e w1 ⟨rfl, hb⟩
    go_wp2_with fail
    refine (hc _).mono ?_
    rintro e w2 ⟨rfl, rfl⟩
    go_wp2_with fail
    refine (hc _).mono ?_
    rintro e w2 ⟨rfl, rfl⟩
    go_wp2_with fail
    go_ret
    exact ⟨by simp, hb⟩
end Go.Proofs.Ytpelapdadgmlkaa
