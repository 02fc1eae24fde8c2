/-
  MetricWidths: for every text and every font the law returns true: metric.Width and Count answer what the reference answers. No condition.
-/
import Derived.Test.YtpelapdadgmlkaaWidth2
import Derived.Test.YtpelapdadgmlkaaArgs
namespace Go.Proofs.Ytpelapdadgmlkaa
open Go.ChangeShapes Go.WideShapes Go.ChangeAt Go.RowKit
open Go.ChangeMaps (open_string)

theorem metricWidths_inPlace : (Rows.metricWidthsRow.inPlace == Try.prog.inPlace 9) = true := by kernel_rfl
theorem metricWidths_unfollowed : (Rows.metricWidthsRow.unfollowed == Try.prog.unfollowed 9) = true := by kernel_rfl
theorem metricWidths_recurses : (Rows.metricWidthsRow.recurses == Try.prog.recurses 9) = true := by kernel_rfl
theorem metricWidths_named : (Rows.metricWidthsRow.named == Try.prog.varsNamed 9) = true := by kernel_rfl
theorem metricWidths_closed : joinedFacts Try.prog 9 Try.f9 Rows.metricWidthsSpec Rows.metricWidthsRow = true :=
  closed_of _ _ _ _ (by kernel_rfl) (by kernel_rfl) (by kernel_rfl) (by kernel_rfl) (by kernel_rfl) metricWidths_inPlace metricWidths_unfollowed metricWidths_recurses metricWidths_named (by kernel_rfl) (by kernel_rfl) (by kernel_rfl) (by kernel_rfl) (by kernel_rfl) (by kernel_rfl) (by kernel_rfl) (by kernel_rfl) (by kernel_rfl) (by kernel_rfl) (by kernel_rfl) (by kernel_rfl) (by kernel_rfl) (by kernel_rfl) (by kernel_rfl) (by kernel_rfl) (by kernel_rfl) (by kernel_rfl)

set_option maxRecDepth 100000 in
theorem metricWidths_lifted (os : Os) (started : os.Started) (H : Type) (enc : TypeId × Value → H) :
    ReturnsInHanded {} Try.checked os 9 .any (Rows.metricWidthsSpec.pre6 enc Try.prog Try.f9 Rows.metricWidthsRow.domain false) (Rows.metricWidthsSpec.post enc Try.prog Try.f9 false true false false) := by
  refine law_lift os started H enc (by kernel_rfl) Try.func9 rfl (fun ds hd => ?_) rfl ?_
    (ChangeSpec.witness6 (enc := enc) (C := Try.checked) false ⟨#[], #[.string ByteArray.empty, .int .i64 0], []⟩ 8 (by kernel_rfl) (by kernel_rfl) (by kernel_rfl) (by kernel_rfl)) ?_
  · match ds, hd with
    | [_d0, _d1], _ => exact ⟨rfl, rfl, rfl⟩
  · rw [Try.params9]
    intro t ht
    simp only [List.mem_cons, List.not_mem_nil, or_false] at ht
    rcases ht with rfl | rfl
    all_goals exact ⟨by kernel_rfl, of_decide_eq_true (by kernel_rfl)⟩
  · intro W base args ds p hval hA hsz _
    rw [Try.params9] at hA hval hsz
    obtain ⟨v0, v1, d0, d1, p0, p1, rfl, rfl, rfl, h0, h1⟩ := trodAll_two hA
    obtain ⟨s, rfl, rfl, rfl, ls⟩ := open_string Try.underlying9 (hval 0 _ v0 rfl rfl) h0
    have rs := sized_string hsz (j := 0) rfl rfl
    obtain ⟨f, rfl, rfl, rfl, wf⟩ := open_int Try.underlying3 (hval 1 _ v1 rfl rfl) h1
    exact metricWidths_walk s f W (by simpa [reachBytes] using rs)

theorem metricWidths_holds : Rows.MetricWidthsSaid :=
  OpenClaim.holds_of_wide 9 Try.f9 rfl rfl rfl rfl rfl rfl rfl ⟨rfl, rfl, rfl, rfl, rfl⟩ rfl rfl rfl rfl rfl (by kernel_rfl) Try.func9 metricWidths_closed
    (of_decide_eq_true (by kernel_rfl)) (by unfold Func.isWrapper; first | (rw [if_pos (by decide +kernel)]; kernel_rfl) | (rw [if_neg (by decide +kernel)]; exact ⟨rfl, rfl⟩))
    (fun os started H enc _ => metricWidths_lifted os started H enc)
#print axioms metricWidths_holds

end Go.Proofs.Ytpelapdadgmlkaa
