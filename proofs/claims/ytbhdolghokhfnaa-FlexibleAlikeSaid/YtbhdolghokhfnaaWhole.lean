/-
  Walks: the law FixedWhole.
-/
import Derived.Test.YtbhdolghokhfnaaBack
namespace Go.Proofs.Ytbhdolghokhfnaa
open Go.RowKit

theorem partR_of {n a p : Int} (h0 : 0 ≤ n) (h1 : n ≤ 100000) (ha : 0 ≤ a) (ha2 : a ≤ 1099511627776) (hp : n * a = p) : partR n a = if fit (p / 10000) = true then (p / 10000, 0) else (0, 10) := by
  have h2 : 0 ≤ p := by rw [← hp]; exact Int.mul_nonneg h0 ha
  unfold partR
  rw [if_neg (by omega), if_pos ((fit_iff a).2 (by omega)), hp, Int.tdiv_eq_ediv_of_nonneg h2]
  cases h : fit (p / 10000) with
  | true => rw [if_pos rfl]; exact told_yes (by simp) h
  | false => rw [if_neg (by simp)]; exact told_no2 h
theorem part_at (n a x c : Int) (h : partR n a = (x, c)) (w : World) :
    Calls Try.prog 36 #[.int .i64 n, .int .i64 a] w fun e w' => e = .returned (.tuple #[.int .i64 x, .int .i64 c]) ∧ Below w.heap.size w w' := by
  have h1 := part_any n a w
  rwa [h] at h1
theorem prod_bd {n a : Int} (h0 : 0 ≤ n) (h1 : n ≤ 100000) (ha : 0 ≤ a) (ha2 : a ≤ 1099511627776) : 0 ≤ n * a ∧ n * a ≤ 109951162777600000 := by
  refine ⟨Int.mul_nonneg h0 ha, ?_⟩
  have h2 : n * a ≤ 100000 * 1099511627776 := Int.mul_le_mul h1 ha2 ha (by omega)
  omega

end Go.Proofs.Ytbhdolghokhfnaa
