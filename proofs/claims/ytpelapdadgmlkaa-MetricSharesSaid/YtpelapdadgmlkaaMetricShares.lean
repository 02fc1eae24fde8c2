/-
  MetricShares: for every rune and every font the law returns true: metric.Share, Up and Down answer what the reference answers. No condition.
-/
import Derived.Test.YtpelapdadgmlkaaMetric2
import Derived.Test.YtpelapdadgmlkaaArgs
namespace Go.Proofs.Ytpelapdadgmlkaa
open Go.ChangeShapes Go.WideShapes Go.ChangeAt Go.RowKit

theorem metricShares_inPlace : (Rows.metricSharesRow.inPlace == Try.prog.inPlace 8) = true := by kernel_rfl
theorem metricShares_unfollowed : (Rows.metricSharesRow.unfollowed == Try.prog.unfollowed 8) = true := by kernel_rfl
theorem metricShares_recurses : (Rows.metricSharesRow.recurses == Try.prog.recurses 8) = true := by kernel_rfl
theorem metricShares_named : (Rows.metricSharesRow.named == Try.prog.varsNamed 8) = true := by kernel_rfl
theorem metricShares_closed : joinedFacts Try.prog 8 Try.f8 Rows.metricSharesSpec Rows.metricSharesRow = true :=
  closed_of _ _ _ _ (by kernel_rfl) (by kernel_rfl) (by kernel_rfl) (by kernel_rfl) (by kernel_rfl) metricShares_inPlace metricShares_unfollowed metricShares_recurses metricShares_named (by kernel_rfl) (by kernel_rfl) (by kernel_rfl) (by kernel_rfl) (by kernel_rfl) (by kernel_rfl) (by kernel_rfl) (by kernel_rfl) (by kernel_rfl) (by kernel_rfl) (by kernel_rfl) (by kernel_rfl) (by kernel_rfl) (by kernel_rfl) (by kernel_rfl) (by kernel_rfl) (by kernel_rfl) (by kernel_rfl)

set_option maxRecDepth 100000 in
theorem metricShares_lifted (os : Os) (started : os.Started) (H : Type) (enc : TypeId × Value → H) :
    ReturnsInHanded {} Try.checked os 8 .any (Rows.metricSharesSpec.pre6 enc Try.prog Try.f8 Rows.metricSharesRow.domain false) (Rows.metricSharesSpec.post enc Try.prog Try.f8 false true false false) := by
  refine law_lift os started H enc (by kernel_rfl) Try.func8 rfl (fun ds hd => ?_) rfl ?_
    (ChangeSpec.witness6 (enc := enc) (C := Try.checked) false ⟨#[], #[.int .i32 0, .int .i64 0], []⟩ 8 (by kernel_rfl) (by kernel_rfl) (by kernel_rfl) (by kernel_rfl)) ?_
  · match ds, hd with
    | [_d0, _d1], _ => exact ⟨rfl, rfl, rfl⟩
  · rw [Try.params8]
    intro t ht
    simp only [List.mem_cons, List.not_mem_nil, or_false] at ht
    rcases ht with rfl | rfl
    all_goals exact ⟨by kernel_rfl, of_decide_eq_true (by kernel_rfl)⟩
  · intro W base args ds p hval hA _ _
    rw [Try.params8] at hA hval
    obtain ⟨v0, v1, d0, d1, p0, p1, rfl, rfl, rfl, h0, h1⟩ := trodAll_two hA
    obtain ⟨r, rfl, rfl, rfl, wr⟩ := open_int Try.underlying21 (hval 0 _ v0 rfl rfl) h0
    obtain ⟨f, rfl, rfl, rfl, wf⟩ := open_int Try.underlying3 (hval 1 _ v1 rfl rfl) h1
    exact metricShares_walk r f W (i32_bounds wr).1 (i32_bounds wr).2

theorem metricShares_holds : Rows.MetricSharesSaid :=
  OpenClaim.holds_of_wide 8 Try.f8 rfl rfl rfl rfl rfl rfl rfl ⟨rfl, rfl, rfl, rfl, rfl⟩ rfl rfl rfl rfl rfl (by kernel_rfl) Try.func8 metricShares_closed
    (of_decide_eq_true (by kernel_rfl)) (by unfold Func.isWrapper; first | (rw [if_pos (by decide +kernel)]; kernel_rfl) | (rw [if_neg (by decide +kernel)]; exact ⟨rfl, rfl⟩))
    (fun os started H enc _ => metricShares_lifted os started H enc)
#print axioms metricShares_holds

end Go.Proofs.Ytpelapdadgmlkaa
