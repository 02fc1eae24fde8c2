/-
  MetricMore: the row MetricMore.
-/
import Derived.Test.YtpelapdadgmlkaaMore
import Derived.Test.YtpelapdadgmlkaaArgs
namespace Go.Proofs.Ytpelapdadgmlkaa
open Go.ChangeShapes Go.WideShapes Go.ChangeAt Go.RowKit
open Go.ChangeMaps (open_string)

theorem metricMore_inPlace : (Rows.metricMoreRow.inPlace == Try.prog.inPlace 13) = true := by kernel_rfl
theorem metricMore_unfollowed : (Rows.metricMoreRow.unfollowed == Try.prog.unfollowed 13) = true := by kernel_rfl
theorem metricMore_recurses : (Rows.metricMoreRow.recurses == Try.prog.recurses 13) = true := by kernel_rfl
theorem metricMore_named : (Rows.metricMoreRow.named == Try.prog.varsNamed 13) = true := by kernel_rfl
theorem metricMore_closed : joinedFacts Try.prog 13 Try.f13 Rows.metricMoreSpec Rows.metricMoreRow = true :=
  closed_of _ _ _ _ (by kernel_rfl) (by kernel_rfl) (by kernel_rfl) (by kernel_rfl) (by kernel_rfl) metricMore_inPlace metricMore_unfollowed metricMore_recurses metricMore_named (by kernel_rfl) (by kernel_rfl) (by kernel_rfl) (by kernel_rfl) (by kernel_rfl) (by kernel_rfl) (by kernel_rfl) (by kernel_rfl) (by kernel_rfl) (by kernel_rfl) (by kernel_rfl) (by kernel_rfl) (by kernel_rfl) (by kernel_rfl) (by kernel_rfl) (by kernel_rfl) (by kernel_rfl) (by kernel_rfl)

set_option maxRecDepth 100000 in
theorem metricMore_lifted (os : Os) (started : os.Started) (H : Type) (enc : TypeId × Value → H) :
    ReturnsInHanded {} Try.checked os 13 .any (Rows.metricMoreSpec.pre6 enc Try.prog Try.f13 Rows.metricMoreRow.domain false) (Rows.metricMoreSpec.post enc Try.prog Try.f13 false true false false) := by
  refine law_lift os started H enc (by kernel_rfl) Try.func13 rfl (fun ds hd => ?_) rfl ?_
    (ChangeSpec.witness6 (enc := enc) (C := Try.checked) false ⟨#[], #[.string ByteArray.empty, .string ByteArray.empty, .int .i64 0], []⟩ 8 (by kernel_rfl) (by kernel_rfl) (by kernel_rfl) (by kernel_rfl)) ?_
  · match ds, hd with
    | [_d0, _d1, _d2], _ => exact ⟨rfl, rfl, rfl⟩
  · rw [Try.params13]
    intro t ht
    simp only [List.mem_cons, List.not_mem_nil, or_false] at ht
    rcases ht with rfl | rfl | rfl
    all_goals exact ⟨by kernel_rfl, of_decide_eq_true (by kernel_rfl)⟩
  · intro W base args ds p hval hA hsz _
    rw [Try.params13] at hA hval hsz
    obtain ⟨v0, v1, v2, d0, d1, d2, p0, p1, p2, rfl, rfl, rfl, h0, h1, h2⟩ := trodAll_three hA
    obtain ⟨s, rfl, rfl, rfl, ls⟩ := open_string Try.underlying9 (hval 0 _ v0 rfl rfl) h0
    have rs := sized_string hsz (j := 0) rfl rfl
    obtain ⟨t, rfl, rfl, rfl, lt⟩ := open_string Try.underlying9 (hval 1 _ v1 rfl rfl) h1
    have rt := sized_string hsz (j := 1) rfl rfl
    obtain ⟨f, rfl, rfl, rfl, wf⟩ := open_int Try.underlying3 (hval 2 _ v2 rfl rfl) h2
    exact metricMore_walk s t f W (by simpa [reachBytes] using rs) (by simpa [reachBytes] using rt)

theorem metricMore_holds : Rows.MetricMoreSaid :=
  OpenClaim.holds_of_wide 13 Try.f13 rfl rfl rfl rfl rfl rfl rfl ⟨rfl, rfl, rfl, rfl, rfl⟩ rfl rfl rfl rfl rfl (by kernel_rfl) Try.func13 metricMore_closed
    (of_decide_eq_true (by kernel_rfl)) (by unfold Func.isWrapper; first | (rw [if_pos (by decide +kernel)]; kernel_rfl) | (rw [if_neg (by decide +kernel)]; exact ⟨rfl, rfl⟩))
    (fun os started H enc _ => metricMore_lifted os started H enc)
#print axioms metricMore_holds

end Go.Proofs.Ytpelapdadgmlkaa
