/-
  Walks: the law FixedBack.
-/
import Derived.Test.YtbhdolghokhfnaaAwake01
namespace Go.Proofs.Ytbhdolghokhfnaa
open Go.RowKit

/-- A number, brought to a length. -/
def lenOf (n : Int) : Int := n.tmod 1099511627777
theorem lenOf_bd (n : Int) : -1099511627776 ≤ lenOf n ∧ lenOf n ≤ 1099511627776 := by
  unfold lenOf
  have h1 := Int.tmod_lt_of_pos n (show (0 : Int) < 1099511627777 by omega)
  have h2 := Int.lt_tmod_of_pos n (show (0 : Int) < 1099511627777 by omega)
  omega
theorem lenOf_fit (n : Int) : fit (lenOf n) = true := (fit_iff _).2 (lenOf_bd n)
theorem length_any (n : Int) (w : World) : Calls Try.prog 18 #[.int .i64 n] w fun e w' => e = .returned (.int .i64 (lenOf n)) ∧ w = w' := by
  have hb := lenOf_bd n
  have H := Lib.hid (show n.tmod 1099511627777 = lenOf n from rfl)
  have hw : IntKind.i64.wrap (n.tmod 1099511627777) = lenOf n := by
    rw [H.out, IntKind.wrap_i64]
    omega
  go_enter Try.func18, Try.ntmps18
  go_wp2_with fail
  go_ret
  exact ⟨by first | rfl | (rw [← H.out]; rfl), rfl⟩

theorem add2 (a b x c : Int) (h : addR [a, b] = (x, c)) (w : World) :
    Calls Try.prog 34 #[.slice (some ⟨w.heap.size, 0, none⟩) 2 2] (w.alloc (.cells #[.int .i64 a, .int .i64 b] 3)) fun e w' => e = .returned (.tuple #[.int .i64 x, .int .i64 c]) ∧ Below w.heap.size w w' := by
  have h1 := add_any [a, b] _ _ _ (Ints.built w [a, b] 3) (by simp)
  rw [h] at h1
  exact h1.mono fun e w' ⟨he, hb⟩ => ⟨he, below_alloc hb⟩
theorem addR_ok {a b : Int} (ha : fit a = true) (hb : fit b = true) (h : fit (a + b) = true) : addR [a, b] = (a + b, 0) := by
  have : [a, b].sum = a + b := by simp
  unfold addR
  rw [this]
  exact told_yes (by simp [ha, hb]) h
theorem addR_no {a b : Int} (h : fit (a + b) = false) : addR [a, b] = (0, 10) := by
  have : [a, b].sum = a + b := by simp
  unfold addR
  rw [this]
  exact told_no2 h
theorem subR_ok {a b : Int} (ha : fit a = true) (hb : fit b = true) (h : fit (a - b) = true) : subR a b = (a - b, 0) := told_yes (by simp [ha, hb]) h
theorem subR_no {a b : Int} (h : fit (a - b) = false) : subR a b = (0, 10) := told_no2 h

end Go.Proofs.Ytbhdolghokhfnaa
