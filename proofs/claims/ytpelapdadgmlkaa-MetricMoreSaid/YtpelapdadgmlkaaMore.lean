/-
  Walks: the law MetricMore.
-/
import Derived.Test.YtpelapdadgmlkaaBeside
namespace Go.Proofs.Ytpelapdadgmlkaa
open Go.RowKit

theorem codes_pos (t : ByteArray) (h : 0 < t.size) : 0 < (codes t).length := by
  rw [codes_eq, codesAt_step t 0 h]
  simp
set_option maxRecDepth 100000 in
set_option maxHeartbeats 2000000 in
theorem metricMore_walk (s t : ByteArray) (font : Int) (w : World) (hs : s.size ≤ 140737488351232) (ht : t.size ≤ 140737488351232) :
    LawReturns 13 #[.string s, .string t, .int .i64 font] w := by
  unfold LawReturns
  by_cases g1 : 2000 < s.size
  · go_enter Try.func13, Try.ntmps13
    go_wp2_with fail
    refine (awake08 _).mono ?_
    rintro e w1 ⟨rfl, hb1⟩
    go_wp2_with fail
    go_ret
    exact ⟨rfl, hb1⟩
  by_cases g2 : 2000 < t.size
  · go_enter Try.func13, Try.ntmps13
    go_wp2_with fail
    refine (awake08 _).mono ?_
    rintro e w1 ⟨rfl, hb1⟩
    go_wp2_with fail
    go_ret
    exact ⟨rfl, hb1⟩
  by_cases g3 : font < 1
  · go_enter Try.func13, Try.ntmps13
    go_wp2_with fail
    refine (awake08 _).mono ?_
    rintro e w1 ⟨rfl, hb1⟩
    go_wp2_with fail
    go_ret
    exact ⟨rfl, hb1⟩
  by_cases g4 : 1000 < font
  · go_enter Try.func13, Try.ntmps13
    go_wp2_with fail
    refine (awake08 _).mono ?_
    rintro e w1 ⟨rfl, hb1⟩
    go_wp2_with fail
    go_ret
    exact ⟨rfl, hb1⟩
  have hu : (s ++ (⟨#[97]⟩ : ByteArray)).size = s.size + 1 := ByteArray.size_append
  have hut : (s ++ (⟨#[97]⟩ : ByteArray) ++ t).size = s.size + 1 + t.size := by rw [ByteArray.size_append, hu]
  have hlow := endsLow_push s 97 (by decide)
  have hco := codes_beside _ t hlow.1
  obtain ⟨X, hX⟩ := codes_last _ hlow.1
  rw [hlow.2] at hX
  have ha := fun w => width_ok (s ++ ⟨#[97]⟩) font w (by omega) (by omega) (by omega)
  have hb := fun w => width_ok (s ++ ⟨#[97]⟩ ++ t) font w (by omega) (by omega) (by omega)
  have hc := fun w => width_ok t font w (by omega) (by omega) (by omega)
  have kt := fun w => count_any t w ht
  rw [hco, sumShare_append, Int.add_mul] at hb
  have l1 := sum_bd08 (s ++ ⟨#[97]⟩) font (by omega) (by omega) (by omega)
  have l2 := sum_bd08 t font (by omega) (by omega) (by omega)
  have l3 : 32 * font ≤ sumShare (codes (s ++ ⟨#[97]⟩)) * font := by
    rw [hX, sumShare_append]
    have e : sumShare [(((97 : UInt8).toNat : Nat) : Int)] = 32 := by decide +kernel
    rw [e]
    exact Int.mul_le_mul_of_nonneg_right (by have := (sumShare_bd X).1; omega) (by omega)
  have l4 := codesAt_len t _ 0 (Nat.le_refl _)
  rw [← codes_eq] at l4
  have l5 := codes_pos t
  by_cases hz : t.size = 0
  · obtain rfl : t = ByteArray.empty := ByteArray.size_eq_zero_iff.1 hz
    have e0 : (codes ByteArray.empty).length = 0 := by decide +kernel
    have e1 : sumShare (codes ByteArray.empty) = 0 := by decide +kernel
    rw [e0] at kt
    rw [e1, Int.zero_mul] at hc
    clear l5 hz hb hco hu hut hX hlow l2 l4 e0 e1 ht
    generalize sumShare (codes (s ++ ⟨#[97]⟩)) * font = x at *
    obtain ⟨⟨q1, q2⟩, q3⟩ := l1
    go_enter Try.func13, Try.ntmps13
    go_wp2_with fail
    refine (awake08 _).mono ?_
    rintro e w1 ⟨rfl, h1⟩
    go_wp2_with fail
    refine (ha _).mono ?_
    rintro e w2 ⟨rfl, h2⟩
    go_wp2_with fail
    refine (ha _).mono ?_
    rintro e w3 ⟨rfl, h3⟩
    go_wp2_with fail
    refine (hc _).mono ?_
    rintro e w4 ⟨rfl, h4⟩
    go_wp2_with fail
    refine (kt _).mono ?_
    rintro e w5 ⟨rfl, h5⟩
    go_wp2_with fail
    refine (kt _).mono ?_
    rintro e w6 ⟨rfl, h6⟩
    go_wp2_with fail
    go_ret
    exact ⟨rfl, below2 (below2 (below2 (below2 (below2 h1 h2) h3) h4) h5) h6⟩
  clear hco hu hut hX hlow
  generalize sumShare (codes (s ++ ⟨#[97]⟩)) * font = x at *
  generalize sumShare (codes t) * font = y at *
  obtain ⟨⟨q1, q2⟩, q3⟩ := l1
  obtain ⟨⟨q4, q5⟩, q6⟩ := l2
  have hpos := l5 (by omega)
  clear l5
  generalize (codes t).length = k at *
  go_enter Try.func13, Try.ntmps13
  go_wp2_with fail
  refine (awake08 _).mono ?_
  rintro e w1 ⟨rfl, h1⟩
  go_wp2_with fail
  refine (ha _).mono ?_
  rintro e w2 ⟨rfl, h2⟩
  go_wp2_with fail
  refine (hb _).mono ?_
  rintro e w3 ⟨rfl, h3⟩
  go_wp2_with fail
  refine (hc _).mono ?_
  rintro e w4 ⟨rfl, h4⟩
  go_wp2_with fail
  refine (kt _).mono ?_
  rintro e w5 ⟨rfl, h5⟩
  go_wp2_with fail
  refine (kt _).mono ?_
  rintro e w6 ⟨rfl, h6⟩
  have hz1 : t.toList.isEmpty = false := by
    rw [List.isEmpty_eq_false_iff]
    intro h
    have : t.toList.length = 0 := by rw [h]; rfl
    rw [ByteArray.toList_eq] at this
    exact hz (by simpa using this)
  have hk1 : decide (0 < k) = true := by simp [hpos]
  go_wp2_with fail
  go_ret
  exact ⟨rfl, below2 (below2 (below2 (below2 (below2 h1 h2) h3) h4) h5) h6⟩
end Go.Proofs.Ytpelapdadgmlkaa
