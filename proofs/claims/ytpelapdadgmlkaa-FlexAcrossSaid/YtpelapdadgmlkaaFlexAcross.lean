/-
  FlexAcross: for every size and every room the law returns true: a box that fits stands within the room, at its beginning, its end or in the middle; alone in a line it stands so along it. No condition.
-/
import Derived.Test.YtpelapdadgmlkaaAcross
import Derived.Test.YtpelapdadgmlkaaArgs
namespace Go.Proofs.Ytpelapdadgmlkaa
open Go.ChangeShapes Go.WideShapes Go.ChangeAt Go.RowKit
open Go.ChangeMaps (open_string)

theorem flexAcross_inPlace : (Rows.flexAcrossRow.inPlace == Try.prog.inPlace 30) = true := by kernel_rfl
theorem flexAcross_unfollowed : (Rows.flexAcrossRow.unfollowed == Try.prog.unfollowed 30) = true := by kernel_rfl
theorem flexAcross_recurses : (Rows.flexAcrossRow.recurses == Try.prog.recurses 30) = true := by kernel_rfl
theorem flexAcross_named : (Rows.flexAcrossRow.named == Try.prog.varsNamed 30) = true := by kernel_rfl
theorem flexAcross_closed : joinedFacts Try.prog 30 Try.f30 Rows.flexAcrossSpec Rows.flexAcrossRow = true :=
  closed_of _ _ _ _ (by kernel_rfl) (by kernel_rfl) (by kernel_rfl) (by kernel_rfl) (by kernel_rfl) flexAcross_inPlace flexAcross_unfollowed flexAcross_recurses flexAcross_named (by kernel_rfl) (by kernel_rfl) (by kernel_rfl) (by kernel_rfl) (by kernel_rfl) (by kernel_rfl) (by kernel_rfl) (by kernel_rfl) (by kernel_rfl) (by kernel_rfl) (by kernel_rfl) (by kernel_rfl) (by kernel_rfl) (by kernel_rfl) (by kernel_rfl) (by kernel_rfl) (by kernel_rfl) (by kernel_rfl)

set_option maxRecDepth 100000 in
theorem flexAcross_lifted (os : Os) (started : os.Started) (H : Type) (enc : TypeId × Value → H) :
    ReturnsInHanded {} Try.checked os 30 .any (Rows.flexAcrossSpec.pre6 enc Try.prog Try.f30 Rows.flexAcrossRow.domain false) (Rows.flexAcrossSpec.post enc Try.prog Try.f30 false true false false) := by
  refine law_lift os started H enc (by kernel_rfl) Try.func30 rfl (fun ds hd => ?_) rfl ?_
    (ChangeSpec.witness6 (enc := enc) (C := Try.checked) false ⟨#[], #[.int .i64 0, .int .i64 0], []⟩ 8 (by kernel_rfl) (by kernel_rfl) (by kernel_rfl) (by kernel_rfl)) ?_
  · match ds, hd with
    | [_d0, _d1], _ => exact ⟨rfl, rfl, rfl⟩
  · rw [Try.params30]
    intro t ht
    simp only [List.mem_cons, List.not_mem_nil, or_false] at ht
    rcases ht with rfl | rfl
    all_goals exact ⟨by kernel_rfl, of_decide_eq_true (by kernel_rfl)⟩
  · intro W base args ds p hval hA _ _
    rw [Try.params30] at hA hval
    obtain ⟨v0, v1, d0, d1, p0, p1, rfl, rfl, rfl, h0, h1⟩ := trodAll_two hA
    obtain ⟨a, rfl, rfl, rfl, wa⟩ := open_int Try.underlying3 (hval 0 _ v0 rfl rfl) h0
    obtain ⟨r, rfl, rfl, rfl, wr⟩ := open_int Try.underlying3 (hval 1 _ v1 rfl rfl) h1
    exact flexAcross_walk a r W

theorem flexAcross_holds : Rows.FlexAcrossSaid :=
  OpenClaim.holds_of_wide 30 Try.f30 rfl rfl rfl rfl rfl rfl rfl ⟨rfl, rfl, rfl, rfl, rfl⟩ rfl rfl rfl rfl rfl (by kernel_rfl) Try.func30 flexAcross_closed
    (of_decide_eq_true (by kernel_rfl)) (by unfold Func.isWrapper; first | (rw [if_pos (by decide +kernel)]; kernel_rfl) | (rw [if_neg (by decide +kernel)]; exact ⟨rfl, rfl⟩))
    (fun os started H enc _ => flexAcross_lifted os started H enc)
#print axioms flexAcross_holds

end Go.Proofs.Ytpelapdadgmlkaa
