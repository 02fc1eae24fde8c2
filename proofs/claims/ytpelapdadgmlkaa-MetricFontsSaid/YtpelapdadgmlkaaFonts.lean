/-
  Walks: the law MetricFonts.
-/
import Derived.Test.YtpelapdadgmlkaaBeside
namespace Go.Proofs.Ytpelapdadgmlkaa
open Go.RowKit

theorem fonts_law (X font times : Int) (k : Nat) (h0 : 0 ≤ X) (h1 : X ≤ 64 * k) (hk : k ≤ 2000) (f1 : 1 ≤ font) (f2 : font ≤ 1000) (t1 : 1 ≤ times) (t2 : times ≤ 1000) :
    (0 ≤ X * font ∧ X * font ≤ 128000000) ∧ (0 ≤ X * font * times ∧ X * font * times ≤ 128000000000) ∧ X * font ≤ 64 * font * k ∧ (0 ≤ 64 * font * k ∧ 64 * font * k ≤ 128000000) := by
  have a1 : 0 ≤ X * font := Int.mul_nonneg h0 (by omega)
  have a2 : X * font ≤ 128000 * 1000 := Int.mul_le_mul (by omega) f2 (by omega) (by omega)
  have a3 : 0 ≤ X * font * times := Int.mul_nonneg a1 (by omega)
  have a4 : X * font * times ≤ 128000000 * 1000 := Int.mul_le_mul (by omega) t2 (by omega) (by omega)
  have a5 : X * font ≤ 64 * k * font := Int.mul_le_mul_of_nonneg_right h1 (by omega)
  have a6 : 64 * (k : Int) * font = 64 * font * k := by rw [Int.mul_assoc, Int.mul_comm (k : Int) font, ← Int.mul_assoc]
  have a7 : 0 ≤ 64 * font * (k : Int) := Int.mul_nonneg (by omega) (by omega)
  have a8 : 64 * font * (k : Int) ≤ 64000 * 2000 := Int.mul_le_mul (by omega) (by omega) (by omega) (by omega)
  exact ⟨⟨a1, by omega⟩, ⟨a3, by omega⟩, by omega, a7, by omega⟩

set_option maxHeartbeats 2000000 in
theorem metricFonts_walk (s : ByteArray) (font times : Int) (w : World) (hs : s.size ≤ 140737488351232) :
    LawReturns 11 #[.string s, .int .i64 font, .int .i64 times] w := by
  unfold LawReturns
  by_cases g1 : 2000 < s.size
  · go_enter Try.func11, Try.ntmps11
    go_wp2_with fail
    refine (awake08 _).mono ?_
    rintro e w1 ⟨rfl, hb1⟩
    go_wp2_with fail
    go_ret
    exact ⟨rfl, hb1⟩
  by_cases g2 : font < 1
  · go_enter Try.func11, Try.ntmps11
    go_wp2_with fail
    refine (awake08 _).mono ?_
    rintro e w1 ⟨rfl, hb1⟩
    go_wp2_with fail
    go_ret
    exact ⟨rfl, hb1⟩
  by_cases g3 : times < 1
  · go_enter Try.func11, Try.ntmps11
    go_wp2_with fail
    refine (awake08 _).mono ?_
    rintro e w1 ⟨rfl, hb1⟩
    go_wp2_with fail
    go_ret
    exact ⟨rfl, hb1⟩
  by_cases g4 : 1000 < font
  · go_enter Try.func11, Try.ntmps11
    go_wp2_with fail
    refine (awake08 _).mono ?_
    rintro e w1 ⟨rfl, hb1⟩
    go_wp2_with fail
    go_ret
    exact ⟨rfl, hb1⟩
  by_cases g5 : 1000 < times
  · go_enter Try.func11, Try.ntmps11
    go_wp2_with fail
    refine (awake08 _).mono ?_
    rintro e w1 ⟨rfl, hb1⟩
    go_wp2_with fail
    go_ret
    exact ⟨rfl, hb1⟩
  have hp : 0 ≤ font * times ∧ font * times ≤ 1000000 := ⟨Int.mul_nonneg (by omega) (by omega), Int.le_trans (Int.mul_le_mul (show font ≤ 1000 by omega) (show times ≤ 1000 by omega) (by omega) (by omega)) (by omega)⟩
  by_cases g6 : 1000 < font * times
  · go_enter Try.func11, Try.ntmps11
    go_wp2_with fail
    refine (awake08 _).mono ?_
    rintro e w1 ⟨rfl, hb1⟩
    go_wp2_with fail
    go_ret
    exact ⟨rfl, hb1⟩
  have hp1 : 1 ≤ font * times := by
    have := Int.mul_pos (show 0 < font by omega) (show 0 < times by omega)
    omega
  have ha := fun w => width_ok s font w (by omega) (by omega) (by omega)
  have hb := fun w => width_ok s (font * times) w (by omega) hp1 (by omega)
  rw [← Int.mul_assoc] at hb
  have hu := fun w => up_any font w
  have hd := fun w => down_any font w
  rw [timesR_ok 60 font (by omega) (by omega) (by omega)] at hu
  rw [timesR_ok 20 font (by omega) (by omega) (by omega)] at hd
  have hc := fun w => count_any s w hs
  have hX := sumShare_bd (codes s)
  have hk := (sum_bd08 s font (by omega) (by omega) (by omega)).2
  have hlen := codesAt_len s _ 0 (Nat.le_refl _)
  rw [← codes_eq] at hlen
  have hlaw := fonts_law (sumShare (codes s)) font times (codes s).length hX.1 hX.2 (by omega) (by omega) (by omega) (by omega) (by omega)
  clear hX hlen
  generalize (codes s).length = k at *
  generalize sumShare (codes s) * font = x at *
  obtain ⟨⟨q1, q2⟩, ⟨q3, q4⟩, q5, q6, q7⟩ := hlaw
  have q8 : (60 * font + 20 * font == 80 * font) = true := by simp; omega
  have q9 : (60 * font == 3 * (20 * font)) = true := by simp; omega
  go_enter Try.func11, Try.ntmps11
  go_wp2_with fail
  refine (awake08 _).mono ?_
  rintro e w1 ⟨rfl, h1⟩
  go_wp2_with fail
  refine (ha _).mono ?_
  rintro e w2 ⟨rfl, h2⟩
  go_wp2_with fail
  refine (hb _).mono ?_
  rintro e w3 ⟨rfl, h3⟩
  go_wp2_with fail
  refine (hu _).mono ?_
  rintro e w4 ⟨rfl, rfl⟩
  go_wp2_with fail
  refine (hd _).mono ?_
  rintro e w4 ⟨rfl, rfl⟩
  go_wp2_with fail
  refine (hc _).mono ?_
  rintro e w4 ⟨rfl, h4⟩
  go_wp2_with fail
  go_ret
  exact ⟨rfl, below2 (below2 (below2 h1 h2) h3) h4⟩
end Go.Proofs.Ytpelapdadgmlkaa
