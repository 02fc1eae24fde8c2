/-
  MetricRunes: the row MetricRunes.
-/
import Derived.Test.YtpelapdadgmlkaaRunes
import Derived.Test.YtpelapdadgmlkaaArgs
namespace Go.Proofs.Ytpelapdadgmlkaa
open Go.ChangeShapes Go.WideShapes Go.ChangeAt Go.RowKit
open Go.ChangeMaps (open_string)

theorem metricRunes_inPlace : (Rows.metricRunesRow.inPlace == Try.prog.inPlace 12) = true := by kernel_rfl
theorem metricRunes_unfollowed : (Rows.metricRunesRow.unfollowed == Try.prog.unfollowed 12) = true := by kernel_rfl
theorem metricRunes_recurses : (Rows.metricRunesRow.recurses == Try.prog.recurses 12) = true := by kernel_rfl
theorem metricRunes_named : (Rows.metricRunesRow.named == Try.prog.varsNamed 12) = true := by kernel_rfl
theorem metricRunes_closed : joinedFacts Try.prog 12 Try.f12 Rows.metricRunesSpec Rows.metricRunesRow = true :=
  closed_of _ _ _ _ (by kernel_rfl) (by kernel_rfl) (by kernel_rfl) (by kernel_rfl) (by kernel_rfl) metricRunes_inPlace metricRunes_unfollowed metricRunes_recurses metricRunes_named (by kernel_rfl) (by kernel_rfl) (by kernel_rfl) (by kernel_rfl) (by kernel_rfl) (by kernel_rfl) (by kernel_rfl) (by kernel_rfl) (by kernel_rfl) (by kernel_rfl) (by kernel_rfl) (by kernel_rfl) (by kernel_rfl) (by kernel_rfl) (by kernel_rfl) (by kernel_rfl) (by kernel_rfl) (by kernel_rfl)

set_option maxRecDepth 100000 in
theorem metricRunes_lifted (os : Os) (started : os.Started) (H : Type) (enc : TypeId × Value → H) :
    ReturnsInHanded {} Try.checked os 12 .any (Rows.metricRunesSpec.pre6 enc Try.prog Try.f12 Rows.metricRunesRow.domain false) (Rows.metricRunesSpec.post enc Try.prog Try.f12 false true false false) := by
  refine law_lift os started H enc (by kernel_rfl) Try.func12 rfl (fun ds hd => ?_) rfl ?_
    (ChangeSpec.witness6 (enc := enc) (C := Try.checked) false ⟨#[], #[.int .i32 0, .int .u8 0, .int .i64 0], []⟩ 8 (by kernel_rfl) (by kernel_rfl) (by kernel_rfl) (by kernel_rfl)) ?_
  · match ds, hd with
    | [_d0, _d1, _d2], _ => exact ⟨rfl, rfl, rfl⟩
  · rw [Try.params12]
    intro t ht
    simp only [List.mem_cons, List.not_mem_nil, or_false] at ht
    rcases ht with rfl | rfl | rfl
    all_goals exact ⟨by kernel_rfl, of_decide_eq_true (by kernel_rfl)⟩
  · intro W base args ds p hval hA _ _
    rw [Try.params12] at hA hval
    obtain ⟨v0, v1, v2, d0, d1, d2, p0, p1, p2, rfl, rfl, rfl, h0, h1, h2⟩ := trodAll_three hA
    obtain ⟨r, rfl, rfl, rfl, wr⟩ := open_int Try.underlying21 (hval 0 _ v0 rfl rfl) h0
    obtain ⟨b, rfl, rfl, rfl, wb⟩ := open_int Try.underlying5 (hval 1 _ v1 rfl rfl) h1
    obtain ⟨f, rfl, rfl, rfl, wf⟩ := open_int Try.underlying3 (hval 2 _ v2 rfl rfl) h2
    exact metricRunes_walk r b f W (i32_bounds wr).1 (by have := (i32_bounds wr).2; omega) (u8_bounds wb).1 (by have := (u8_bounds wb).2; omega)

theorem metricRunes_holds : Rows.MetricRunesSaid :=
  OpenClaim.holds_of_wide 12 Try.f12 rfl rfl rfl rfl rfl rfl rfl ⟨rfl, rfl, rfl, rfl, rfl⟩ rfl rfl rfl rfl rfl (by kernel_rfl) Try.func12 metricRunes_closed
    (of_decide_eq_true (by kernel_rfl)) (by unfold Func.isWrapper; first | (rw [if_pos (by decide +kernel)]; kernel_rfl) | (rw [if_neg (by decide +kernel)]; exact ⟨rfl, rfl⟩))
    (fun os started H enc _ => metricRunes_lifted os started H enc)
#print axioms metricRunes_holds

end Go.Proofs.Ytpelapdadgmlkaa
