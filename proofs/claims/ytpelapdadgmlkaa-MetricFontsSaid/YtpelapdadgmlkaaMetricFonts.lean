/-
  MetricFonts: for every text and every two numbers the law returns true. No condition.
-/
import Derived.Test.YtpelapdadgmlkaaFonts
import Derived.Test.YtpelapdadgmlkaaArgs
namespace Go.Proofs.Ytpelapdadgmlkaa
open Go.ChangeShapes Go.WideShapes Go.ChangeAt Go.RowKit
open Go.ChangeMaps (open_string)

theorem metricFonts_inPlace : (Rows.metricFontsRow.inPlace == Try.prog.inPlace 11) = true := by kernel_rfl
theorem metricFonts_unfollowed : (Rows.metricFontsRow.unfollowed == Try.prog.unfollowed 11) = true := by kernel_rfl
theorem metricFonts_recurses : (Rows.metricFontsRow.recurses == Try.prog.recurses 11) = true := by kernel_rfl
theorem metricFonts_named : (Rows.metricFontsRow.named == Try.prog.varsNamed 11) = true := by kernel_rfl
theorem metricFonts_closed : joinedFacts Try.prog 11 Try.f11 Rows.metricFontsSpec Rows.metricFontsRow = true :=
  closed_of _ _ _ _ (by kernel_rfl) (by kernel_rfl) (by kernel_rfl) (by kernel_rfl) (by kernel_rfl) metricFonts_inPlace metricFonts_unfollowed metricFonts_recurses metricFonts_named (by kernel_rfl) (by kernel_rfl) (by kernel_rfl) (by kernel_rfl) (by kernel_rfl) (by kernel_rfl) (by kernel_rfl) (by kernel_rfl) (by kernel_rfl) (by kernel_rfl) (by kernel_rfl) (by kernel_rfl) (by kernel_rfl) (by kernel_rfl) (by kernel_rfl) (by kernel_rfl) (by kernel_rfl) (by kernel_rfl)

set_option maxRecDepth 100000 in
theorem metricFonts_lifted (os : Os) (started : os.Started) (H : Type) (enc : TypeId × Value → H) :
    ReturnsInHanded {} Try.checked os 11 .any (Rows.metricFontsSpec.pre6 enc Try.prog Try.f11 Rows.metricFontsRow.domain false) (Rows.metricFontsSpec.post enc Try.prog Try.f11 false true false false) := by
  refine law_lift os started H enc (by kernel_rfl) Try.func11 rfl (fun ds hd => ?_) rfl ?_
    (ChangeSpec.witness6 (enc := enc) (C := Try.checked) false ⟨#[], #[.string ByteArray.empty, .int .i64 0, .int .i64 0], []⟩ 8 (by kernel_rfl) (by kernel_rfl) (by kernel_rfl) (by kernel_rfl)) ?_
  · match ds, hd with
    | [_d0, _d1, _d2], _ => exact ⟨rfl, rfl, rfl⟩
  · rw [Try.params11]
    intro t ht
    simp only [List.mem_cons, List.not_mem_nil, or_false] at ht
    rcases ht with rfl | rfl | rfl
    all_goals exact ⟨by kernel_rfl, of_decide_eq_true (by kernel_rfl)⟩
  · intro W base args ds p hval hA hsz _
    rw [Try.params11] at hA hval hsz
    obtain ⟨v0, v1, v2, d0, d1, d2, p0, p1, p2, rfl, rfl, rfl, h0, h1, h2⟩ := trodAll_three hA
    obtain ⟨s, rfl, rfl, rfl, ls⟩ := open_string Try.underlying9 (hval 0 _ v0 rfl rfl) h0
    have rs := sized_string hsz (j := 0) rfl rfl
    obtain ⟨f, rfl, rfl, rfl, wf⟩ := open_int Try.underlying3 (hval 1 _ v1 rfl rfl) h1
    obtain ⟨t, rfl, rfl, rfl, wt⟩ := open_int Try.underlying3 (hval 2 _ v2 rfl rfl) h2
    exact metricFonts_walk s f t W (by simpa [reachBytes] using rs)

theorem metricFonts_holds : Rows.MetricFontsSaid :=
  OpenClaim.holds_of_wide 11 Try.f11 rfl rfl rfl rfl rfl rfl rfl ⟨rfl, rfl, rfl, rfl, rfl⟩ rfl rfl rfl rfl rfl (by kernel_rfl) Try.func11 metricFonts_closed
    (of_decide_eq_true (by kernel_rfl)) (by unfold Func.isWrapper; first | (rw [if_pos (by decide +kernel)]; kernel_rfl) | (rw [if_neg (by decide +kernel)]; exact ⟨rfl, rfl⟩))
    (fun os started H enc _ => metricFonts_lifted os started H enc)
#print axioms metricFonts_holds

end Go.Proofs.Ytpelapdadgmlkaa
