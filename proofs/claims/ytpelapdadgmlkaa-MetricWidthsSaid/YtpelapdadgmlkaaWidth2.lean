/-
  Walks: the reference's Count and Width, the law MetricWidths.
-/
import Derived.Test.YtpelapdadgmlkaaNext
import Derived.Test.YtpelapdadgmlkaaMetric2
namespace Go.Proofs.Ytpelapdadgmlkaa
open Go.RowKit

theorem rcount (s : ByteArray) (w : World) (hs : s.size ≤ 140737488351232) :
    Calls Try.prog 70 #[.string s] w fun e w' => e = .returned (.int .i64 (codes s).length) ∧ w = w' := by
  have hlen := codesAt_len s _ 0 (Nat.le_refl _)
  rw [← codes_eq] at hlen
  go_enter Try.func70, Try.ntmps70
  go_wp2_with fail
  go_loop [3, 4, 5, 6] (fun n i _ _ => ∃ (pos acc : Nat), i = .int .i64 pos ∧ n = .int .i64 acc ∧ pos ≤ 140737488351236 ∧ Hid (acc + (codesAt s pos).length = (codes s).length)) (fun _ i _ _ => s.size - (intOf i).toNat)
  case atStart => exact ⟨0, 0, rfl, rfl, by omega, by show _ = _; rw [codes_eq]; omega⟩
  case round =>
    obtain ⟨pos, acc, rfl, rfl, hpos, HE⟩ := hrel
    by_cases hlt : pos < s.size
    · have HD := Lib.hid (decode_pos s pos)
      have hd4 := decode_pos4 s pos
      have HS := Lib.hid (codesAt_step s pos hlt)
      have hup : acc + 1 ≤ 140737488351232 := by
        have h1 := HE.out
        rw [HS.out, List.length_cons] at h1
        omega
      have hn := rnext s pos w hlt hs
      go_wp2_with fail
      refine hn.mono ?_
      rintro e w' ⟨rfl, rfl⟩
      go_wp2_with fail
      go_round
      case rel => exact ⟨pos + (Utf8.decode s pos).2, acc + 1, by go_num, by go_num, by omega, by
        have h1 := HE.out
        rw [HS.out, List.length_cons] at h1
        show _ = _
        omega⟩
      case measure =>
        have := HD.out
        simp [intOf]
        omega
    · have hacc2 : acc = (codes s).length := by
        have h1 := HE.out
        rw [codesAt_end s pos hlt] at h1
        simpa using h1
      have HA := Lib.hid hacc2; clear hacc2
      go_wp2_with fail
      go_ret
      exact ⟨by rw [← HA.out]; rfl, rfl⟩
theorem mul_bd (x f : Int) (h1 : 0 ≤ x) (h2 : x ≤ 64) (h3 : 1 ≤ f) (h4 : f ≤ 1000) : 0 ≤ x * f ∧ x * f ≤ 64000 :=
  ⟨Int.mul_nonneg h1 (by omega), Int.le_trans (Int.mul_le_mul h2 h4 (by omega) (by omega)) (by omega)⟩
theorem sum_mul_bd (l : List Int) (f : Int) (h3 : 1 ≤ f) (h4 : f ≤ 1000) : 0 ≤ sumShare l * f ∧ sumShare l * f ≤ 64000 * l.length := by
  obtain ⟨h1, h2⟩ := sumShare_bd l
  refine ⟨Int.mul_nonneg h1 (by omega), ?_⟩
  have := Int.mul_le_mul h2 h4 (by omega) (by omega)
  omega

theorem rwidth (s : ByteArray) (font : Int) (w : World) (hs : s.size ≤ 1000000) :
    Calls Try.prog 68 #[.string s, .int .i64 font] w fun e w' => e = .returned (.tuple #[.int .i64 (widthR s font).1, .int .i64 (widthR s font).2]) ∧ w = w' := by
  by_cases h1 : font < 1
  · have H := Lib.hid (show widthR s font = (0, 2) from if_pos (.inl h1))
    go_enter Try.func68, Try.ntmps68
    go_wp2_with fail
    go_ret2
    exact ⟨by rw [H.out]; rfl, rfl⟩
  by_cases h2 : 1000 < font
  · have H := Lib.hid (show widthR s font = (0, 2) from if_pos (.inr h2))
    go_enter Try.func68, Try.ntmps68
    go_wp2_with fail
    go_ret2
    exact ⟨by rw [H.out]; rfl, rfl⟩
  have hlen := codesAt_len s _ 0 (Nat.le_refl _)
  rw [← codes_eq] at hlen
  have htot := sum_mul_bd (codes s) font (by omega) (by omega)
  go_enter Try.func68, Try.ntmps68
  go_wp2_with fail
  go_loop [6, 7, 8, 9] (fun n i _ _ => ∃ (pos : Nat) (a : Int), i = .int .i64 pos ∧ n = .int .i64 a ∧ pos ≤ 1000004 ∧ 0 ≤ a ∧ Hid (a + sumShare (codesAt s pos) * font = sumShare (codes s) * font)) (fun _ i _ _ => s.size - (intOf i).toNat)
  case atStart => exact ⟨0, 0, rfl, rfl, by omega, by omega, by show _ = _; rw [codes_eq]; omega⟩
  case round =>
    obtain ⟨pos, a, rfl, rfl, hpos, ha, HE⟩ := hrel
    have hrem := sum_mul_bd (codesAt s pos) font (by omega) (by omega)
    have haup : a ≤ 64000000000 := by
      have h1 := HE.out
      omega
    by_cases hlt : pos < s.size
    · have HD := Lib.hid (decode_pos s pos)
      have hd4 := decode_pos4 s pos
      have HS := Lib.hid (codesAt_step s pos hlt)
      have hsb := share_bd ((Utf8.decode s pos).1 : Int)
      have hmb := mul_bd _ font hsb.1 hsb.2 (by omega) (by omega)
      have hn := rnext s pos w hlt (by omega)
      have hdl := decode_le s pos
      have hsh := rshare ((Utf8.decode s pos).1 : Int) w (by omega) (by omega)
      clear hrem htot
      go_wp2_with fail
      refine hn.mono ?_
      rintro e w' ⟨rfl, rfl⟩
      go_wp2_with fail
      refine hsh.mono ?_
      rintro e w' ⟨rfl, rfl⟩
      go_wp2_with fail
      go_round
      case rel => exact ⟨pos + (Utf8.decode s pos).2, _, by go_num, rfl, by omega, by omega, by
        have h1 := HE.out
        rw [HS.out, sumShare_cons, Int.add_mul] at h1
        show _ = _
        omega⟩
      case measure =>
        have := HD.out
        simp [intOf]
        omega
    · have hacc2 : a = sumShare (codes s) * font := by
        have h1 := HE.out
        rw [codesAt_end s pos hlt] at h1
        simpa [sumShare] using h1
      by_cases hbig : 1099511627776 < a
      · have HA := Lib.hid (show widthR s font = (0, 10) from (if_neg (by omega)).trans (if_pos (by rw [← hacc2]; exact hbig)))
        clear hacc2 hrem htot
        go_wp2_with fail
        go_ret2
        exact ⟨by rw [HA.out]; rfl, rfl⟩
      · have HA := Lib.hid (show widthR s font = (a, 0) from (if_neg (by omega)).trans ((if_neg (by rw [← hacc2]; exact hbig)).trans (by rw [hacc2])))
        clear hacc2 hrem htot
        go_wp2_with fail
        go_ret2
        exact ⟨by rw [HA.out]; rfl, rfl⟩

theorem metricWidths_walk (s : ByteArray) (font : Int) (w : World) (hs : s.size ≤ 140737488351232) :
    LawReturns 9 #[.string s, .int .i64 font] w := by
  unfold LawReturns
  by_cases hbig : 5000 < s.size
  · go_enter Try.func9, Try.ntmps9
    go_wp2_with fail
    go_ret
    exact ⟨rfl, Below.refl _ _⟩
  have h1 := width_any s font w hs
  have h2 := fun w => rwidth s font w (by omega)
  have h3 := fun w => count_any s w hs
  have h4 := fun w => rcount s w hs
  generalize widthR s font = r at *
  generalize (codes s).length = k at *
  obtain ⟨r1, r2⟩ := r
  go_enter Try.func9, Try.ntmps9
  go_wp2_with fail
  refine h1.mono ?_
  rintro e w1 ⟨rfl, hb1⟩
  go_wp2_with fail
  refine (h2 _).mono ?_
  rintro e w2 ⟨rfl, rfl⟩
  go_wp2_with fail
  refine (h3 _).mono ?_
  rintro e w2 ⟨rfl, hb2⟩
  go_wp2_with fail
  refine (h4 _).mono ?_
  rintro e w3 ⟨rfl, rfl⟩
  go_wp2_with fail
  go_ret
  exact ⟨rfl, below2 hb1 hb2⟩
end Go.Proofs.Ytpelapdadgmlkaa
