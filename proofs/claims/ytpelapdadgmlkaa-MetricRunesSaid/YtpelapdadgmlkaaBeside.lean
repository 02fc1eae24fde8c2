/-
  Walks: the law MetricBeside.
-/
import Derived.Test.YtpelapdadgmlkaaAwake08
namespace Go.Proofs.Ytpelapdadgmlkaa
open Go.RowKit

theorem width_ok (s : ByteArray) (font : Int) (w : World) (hs : s.size ≤ 10000) (h1 : 1 ≤ font) (h2 : font ≤ 1000) :
    Calls Try.prog 67 #[.string s, .int .i64 font] w fun e w' => e = .returned (.tuple #[.int .i64 (sumShare (codes s) * font), .int .i64 0]) ∧ Below w.heap.size w w' := by
  have hb := sumShare_bd (codes s)
  have hlen := codesAt_len s _ 0 (Nat.le_refl _)
  rw [← codes_eq] at hlen
  have hm : sumShare (codes s) * font ≤ 640000 * 1000 := Int.mul_le_mul (by omega) h2 (by omega) (by omega)
  have h := width_any s font w (by omega)
  rw [widthR, timesR_ok _ _ h1 h2 (by omega)] at h
  exact h

theorem sum_bd08 (s : ByteArray) (font : Int) (hs : s.size ≤ 10000) (h1 : 1 ≤ font) (h2 : font ≤ 1000) : (0 ≤ sumShare (codes s) * font ∧ sumShare (codes s) * font ≤ 640000000) ∧ (codes s).length ≤ 10000 := by
  have hb := sumShare_bd (codes s)
  have hlen := codesAt_len s _ 0 (Nat.le_refl _)
  rw [← codes_eq] at hlen
  have hm : sumShare (codes s) * font ≤ 640000 * 1000 := Int.mul_le_mul (by omega) h2 (by omega) (by omega)
  exact ⟨⟨Int.mul_nonneg hb.1 (by omega), by omega⟩, by omega⟩

set_option maxHeartbeats 1000000 in
theorem metricBeside_walk (s t : ByteArray) (font : Int) (w : World) (hs : s.size ≤ 140737488351232) (ht : t.size ≤ 140737488351232) :
    LawReturns 10 #[.string s, .string t, .int .i64 font] w := by
  unfold LawReturns
  by_cases g1 : 2000 < s.size
  · go_enter Try.func10, Try.ntmps10
    go_wp2_with fail
    refine (awake08 _).mono ?_
    rintro e w1 ⟨rfl, hb1⟩
    go_wp2_with fail
    go_ret
    exact ⟨rfl, hb1⟩
  by_cases g2 : 2000 < t.size
  · go_enter Try.func10, Try.ntmps10
    go_wp2_with fail
    refine (awake08 _).mono ?_
    rintro e w1 ⟨rfl, hb1⟩
    go_wp2_with fail
    go_ret
    exact ⟨rfl, hb1⟩
  by_cases g3 : font < 1
  · go_enter Try.func10, Try.ntmps10
    go_wp2_with fail
    refine (awake08 _).mono ?_
    rintro e w1 ⟨rfl, hb1⟩
    go_wp2_with fail
    go_ret
    exact ⟨rfl, hb1⟩
  by_cases g4 : 1000 < font
  · go_enter Try.func10, Try.ntmps10
    go_wp2_with fail
    refine (awake08 _).mono ?_
    rintro e w1 ⟨rfl, hb1⟩
    go_wp2_with fail
    go_ret
    exact ⟨rfl, hb1⟩
  have hu : (s ++ (⟨#[32]⟩ : ByteArray)).size = s.size + 1 := ByteArray.size_append
  have hut : (s ++ (⟨#[32]⟩ : ByteArray) ++ t).size = s.size + 1 + t.size := by rw [ByteArray.size_append, hu]
  have hco := codes_beside _ t (endsLow_push s 32 (by decide)).1
  have ha := fun w => width_ok (s ++ ⟨#[32]⟩) font w (by omega) (by omega) (by omega)
  have hb := fun w => width_ok t font w (by omega) (by omega) (by omega)
  have hc := fun w => width_ok (s ++ ⟨#[32]⟩ ++ t) font w (by omega) (by omega) (by omega)
  have ka := fun w => count_any (s ++ ⟨#[32]⟩) w (by omega)
  have kb := fun w => count_any t w (by omega)
  have kc := fun w => count_any (s ++ ⟨#[32]⟩ ++ t) w (by omega)
  rw [hco, sumShare_append, Int.add_mul] at hc
  rw [hco, List.length_append] at kc
  have l1 := sum_bd08 (s ++ ⟨#[32]⟩) font (by omega) (by omega) (by omega)
  have l2 := sum_bd08 t font (by omega) (by omega) (by omega)
  clear hco hu hut
  generalize sumShare (codes (s ++ ⟨#[32]⟩)) * font = x at *
  generalize sumShare (codes t) * font = y at *
  generalize (codes (s ++ ⟨#[32]⟩)).length = k at *
  generalize (codes t).length = l at *
  go_enter Try.func10, Try.ntmps10
  go_wp2_with fail
  refine (awake08 _).mono ?_
  rintro e w1 ⟨rfl, h1⟩
  go_wp2_with fail
  refine (ha _).mono ?_
  rintro e w2 ⟨rfl, h2⟩
  go_wp2_with fail
  refine (hb _).mono ?_
  rintro e w3 ⟨rfl, h3⟩
  go_wp2_with fail
  refine (hc _).mono ?_
  rintro e w4 ⟨rfl, h4⟩
  go_wp2_with fail
  refine (ka _).mono ?_
  rintro e w5 ⟨rfl, h5⟩
  go_wp2_with fail
  refine (kb _).mono ?_
  rintro e w6 ⟨rfl, h6⟩
  go_wp2_with fail
  refine (kc _).mono ?_
  rintro e w7 ⟨rfl, h7⟩
  go_wp2_with fail
  go_ret
  exact ⟨rfl, below2 (below2 (below2 (below2 (below2 (below2 h1 h2) h3) h4) h5) h6) h7⟩
end Go.Proofs.Ytpelapdadgmlkaa
