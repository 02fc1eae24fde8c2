/-
  MetricBeside: for every two texts and every font the law returns true. No condition.
-/
import Derived.Test.YtpelapdadgmlkaaBeside
import Derived.Test.YtpelapdadgmlkaaArgs
namespace Go.Proofs.Ytpelapdadgmlkaa
open Go.ChangeShapes Go.WideShapes Go.ChangeAt Go.RowKit
open Go.ChangeMaps (open_string)

theorem metricBeside_inPlace : (Rows.metricBesideRow.inPlace == Try.prog.inPlace 10) = true := by kernel_rfl
theorem metricBeside_unfollowed : (Rows.metricBesideRow.unfollowed == Try.prog.unfollowed 10) = true := by kernel_rfl
theorem metricBeside_recurses : (Rows.metricBesideRow.recurses == Try.prog.recurses 10) = true := by kernel_rfl
theorem metricBeside_named : (Rows.metricBesideRow.named == Try.prog.varsNamed 10) = true := by kernel_rfl
theorem metricBeside_closed : joinedFacts Try.prog 10 Try.f10 Rows.metricBesideSpec Rows.metricBesideRow = true :=
  closed_of _ _ _ _ (by kernel_rfl) (by kernel_rfl) (by kernel_rfl) (by kernel_rfl) (by kernel_rfl) metricBeside_inPlace metricBeside_unfollowed metricBeside_recurses metricBeside_named (by kernel_rfl) (by kernel_rfl) (by kernel_rfl) (by kernel_rfl) (by kernel_rfl) (by kernel_rfl) (by kernel_rfl) (by kernel_rfl) (by kernel_rfl) (by kernel_rfl) (by kernel_rfl) (by kernel_rfl) (by kernel_rfl) (by kernel_rfl) (by kernel_rfl) (by kernel_rfl) (by kernel_rfl) (by kernel_rfl)

set_option maxRecDepth 100000 in
theorem metricBeside_lifted (os : Os) (started : os.Started) (H : Type) (enc : TypeId × Value → H) :
    ReturnsInHanded {} Try.checked os 10 .any (Rows.metricBesideSpec.pre6 enc Try.prog Try.f10 Rows.metricBesideRow.domain false) (Rows.metricBesideSpec.post enc Try.prog Try.f10 false true false false) := by
  refine law_lift os started H enc (by kernel_rfl) Try.func10 rfl (fun ds hd => ?_) rfl ?_
    (ChangeSpec.witness6 (enc := enc) (C := Try.checked) false ⟨#[], #[.string ByteArray.empty, .string ByteArray.empty, .int .i64 0], []⟩ 8 (by kernel_rfl) (by kernel_rfl) (by kernel_rfl) (by kernel_rfl)) ?_
  · match ds, hd with
    | [_d0, _d1, _d2], _ => exact ⟨rfl, rfl, rfl⟩
  · rw [Try.params10]
    intro t ht
    simp only [List.mem_cons, List.not_mem_nil, or_false] at ht
    rcases ht with rfl | rfl | rfl
    all_goals exact ⟨by kernel_rfl, of_decide_eq_true (by kernel_rfl)⟩
  · intro W base args ds p hval hA hsz _
    rw [Try.params10] at hA hval hsz
    obtain ⟨v0, v1, v2, d0, d1, d2, p0, p1, p2, rfl, rfl, rfl, h0, h1, h2⟩ := trodAll_three hA
    obtain ⟨s, rfl, rfl, rfl, ls⟩ := open_string Try.underlying9 (hval 0 _ v0 rfl rfl) h0
    have rs := sized_string hsz (j := 0) rfl rfl
    obtain ⟨t, rfl, rfl, rfl, lt⟩ := open_string Try.underlying9 (hval 1 _ v1 rfl rfl) h1
    have rt := sized_string hsz (j := 1) rfl rfl
    obtain ⟨f, rfl, rfl, rfl, wf⟩ := open_int Try.underlying3 (hval 2 _ v2 rfl rfl) h2
    exact metricBeside_walk s t f W (by simpa [reachBytes] using rs) (by simpa [reachBytes] using rt)

theorem metricBeside_holds : Rows.MetricBesideSaid :=
  OpenClaim.holds_of_wide 10 Try.f10 rfl rfl rfl rfl rfl rfl rfl ⟨rfl, rfl, rfl, rfl, rfl⟩ rfl rfl rfl rfl rfl (by kernel_rfl) Try.func10 metricBeside_closed
    (of_decide_eq_true (by kernel_rfl)) (by unfold Func.isWrapper; first | (rw [if_pos (by decide +kernel)]; kernel_rfl) | (rw [if_neg (by decide +kernel)]; exact ⟨rfl, rfl⟩))
    (fun os started H enc _ => metricBeside_lifted os started H enc)
#print axioms metricBeside_holds

end Go.Proofs.Ytpelapdadgmlkaa
