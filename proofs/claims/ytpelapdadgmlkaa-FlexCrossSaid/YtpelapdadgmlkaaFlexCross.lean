/-
  FlexCross: for every outer, room and align the law returns true: flex.Cross answers what the reference answers. No condition.
-/
import Derived.Test.YtpelapdadgmlkaaCross
import Derived.Test.YtpelapdadgmlkaaArgs
namespace Go.Proofs.Ytpelapdadgmlkaa
open Go.ChangeShapes Go.WideShapes Go.ChangeAt Go.RowKit

theorem flexCross_inPlace : (Rows.flexCrossRow.inPlace == Try.prog.inPlace 4) = true := by kernel_rfl
theorem flexCross_unfollowed : (Rows.flexCrossRow.unfollowed == Try.prog.unfollowed 4) = true := by kernel_rfl
theorem flexCross_recurses : (Rows.flexCrossRow.recurses == Try.prog.recurses 4) = true := by kernel_rfl
theorem flexCross_named : (Rows.flexCrossRow.named == Try.prog.varsNamed 4) = true := by kernel_rfl
theorem flexCross_closed : joinedFacts Try.prog 4 Try.f4 Rows.flexCrossSpec Rows.flexCrossRow = true :=
  closed_of _ _ _ _ (by kernel_rfl) (by kernel_rfl) (by kernel_rfl) (by kernel_rfl) (by kernel_rfl) flexCross_inPlace flexCross_unfollowed flexCross_recurses flexCross_named (by kernel_rfl) (by kernel_rfl) (by kernel_rfl) (by kernel_rfl) (by kernel_rfl) (by kernel_rfl) (by kernel_rfl) (by kernel_rfl) (by kernel_rfl) (by kernel_rfl) (by kernel_rfl) (by kernel_rfl) (by kernel_rfl) (by kernel_rfl) (by kernel_rfl) (by kernel_rfl) (by kernel_rfl) (by kernel_rfl)

set_option maxRecDepth 100000 in
theorem flexCross_lifted (os : Os) (started : os.Started) (H : Type) (enc : TypeId × Value → H) :
    ReturnsInHanded {} Try.checked os 4 .any (Rows.flexCrossSpec.pre6 enc Try.prog Try.f4 Rows.flexCrossRow.domain false) (Rows.flexCrossSpec.post enc Try.prog Try.f4 false true false false) := by
  refine law_lift os started H enc (by kernel_rfl) Try.func4 rfl (fun ds hd => ?_) rfl ?_
    (ChangeSpec.witness6 (enc := enc) (C := Try.checked) false ⟨#[], #[.int .i64 0, .int .i64 0, .int .u8 0], []⟩ 8 (by kernel_rfl) (by kernel_rfl) (by kernel_rfl) (by kernel_rfl)) ?_
  · match ds, hd with
    | [_d0, _d1, _d2], _ => exact ⟨rfl, rfl, rfl⟩
  · rw [Try.params4]
    intro t ht
    simp only [List.mem_cons, List.not_mem_nil, or_false] at ht
    rcases ht with rfl | rfl | rfl
    all_goals exact ⟨by kernel_rfl, of_decide_eq_true (by kernel_rfl)⟩
  · intro W base args ds p hval hA _ _
    rw [Try.params4] at hA hval
    obtain ⟨v0, v1, v2, d0, d1, d2, p0, p1, p2, rfl, rfl, rfl, h0, h1, h2⟩ := trodAll_three hA
    obtain ⟨o, rfl, rfl, rfl, wo⟩ := open_int Try.underlying3 (hval 0 _ v0 rfl rfl) h0
    obtain ⟨r, rfl, rfl, rfl, wr⟩ := open_int Try.underlying3 (hval 1 _ v1 rfl rfl) h1
    obtain ⟨a, rfl, rfl, rfl, wa⟩ := open_int Try.underlying5 (hval 2 _ v2 rfl rfl) h2
    exact flexCross_walk o r a W

theorem flexCross_holds : Rows.FlexCrossSaid :=
  OpenClaim.holds_of_wide 4 Try.f4 rfl rfl rfl rfl rfl rfl rfl ⟨rfl, rfl, rfl, rfl, rfl⟩ rfl rfl rfl rfl rfl (by kernel_rfl) Try.func4 flexCross_closed
    (of_decide_eq_true (by kernel_rfl)) (by unfold Func.isWrapper; first | (rw [if_pos (by decide +kernel)]; kernel_rfl) | (rw [if_neg (by decide +kernel)]; exact ⟨rfl, rfl⟩))
    (fun os started H enc _ => flexCross_lifted os started H enc)
#print axioms flexCross_holds

end Go.Proofs.Ytpelapdadgmlkaa
