/-
  FlexibleSizes: Any boxes have, in any room, the sizes that the chapter says, or are refused; they stay, and what is told is the caller's own.
-/
import Derived.Test.YtbhdolghokhfnaaSizes16Law
import Derived.Test.YtbhdolghokhfnaaItemArg
import Derived.Test.YtbhdolghokhfnaaArgs
namespace Go.Proofs.Ytbhdolghokhfnaa
open Go.ChangeShapes Go.WideShapes Go.ChangeAt Go.RowKit
open Go.ChangeMaps (open_string)

theorem flexibleSizes_inPlace : (Rows.flexibleSizesRow.inPlace == Try.prog.inPlace 6) = true := by kernel_rfl
theorem flexibleSizes_unfollowed : (Rows.flexibleSizesRow.unfollowed == Try.prog.unfollowed 6) = true := by kernel_rfl
theorem flexibleSizes_recurses : (Rows.flexibleSizesRow.recurses == Try.prog.recurses 6) = true := by kernel_rfl
theorem flexibleSizes_named : (Rows.flexibleSizesRow.named == Try.prog.varsNamed 6) = true := by kernel_rfl
theorem flexibleSizes_closed : joinedFacts Try.prog 6 Try.f6 Rows.flexibleSizesSpec Rows.flexibleSizesRow = true :=
  closed_of _ _ _ _ (by kernel_rfl) (by kernel_rfl) (by kernel_rfl) (by kernel_rfl) (by kernel_rfl) flexibleSizes_inPlace flexibleSizes_unfollowed flexibleSizes_recurses flexibleSizes_named (by kernel_rfl) (by kernel_rfl) (by kernel_rfl) (by kernel_rfl) (by kernel_rfl) (by kernel_rfl) (by kernel_rfl) (by kernel_rfl) (by kernel_rfl) (by kernel_rfl) (by kernel_rfl) (by kernel_rfl) (by kernel_rfl) (by kernel_rfl) (by kernel_rfl) (by kernel_rfl) (by kernel_rfl) (by kernel_rfl)

set_option maxRecDepth 100000 in
theorem flexibleSizes_lifted (os : Os) (started : os.Started) (H : Type) (enc : TypeId × Value → H) :
    ReturnsInHanded {} Try.checked os 6 .any (Rows.flexibleSizesSpec.pre6 enc Try.prog Try.f6 Rows.flexibleSizesRow.domain false) (Rows.flexibleSizesSpec.post enc Try.prog Try.f6 false true false false) := by
  refine law_lift os started H enc (by kernel_rfl) Try.func6 rfl (fun ds hd => ?_) rfl ?_
    (ChangeSpec.witness6 (enc := enc) (C := Try.checked) false ⟨#[], #[.slice none 0 0, .int .i64 0, .int .i64 0], []⟩ 8 (by kernel_rfl) (by kernel_rfl) (by kernel_rfl) (by kernel_rfl)) ?_
  · match ds, hd with
    | [_d0, _d1, _d2], _ => exact ⟨rfl, rfl, rfl⟩
  · rw [Try.params6]
    intro t ht
    simp only [List.mem_cons, List.not_mem_nil, or_false] at ht
    rcases ht with rfl | rfl | rfl
    all_goals exact ⟨by kernel_rfl, of_decide_eq_true (by kernel_rfl)⟩
  · intro W base args ds p hval hA _ hlt
    rw [Try.params6] at hA hval
    obtain ⟨v0, v1, v2, d0, d1, d2, p0, p1, p2, rfl, rfl, rfl, h0, h1, h2⟩ := trodAll_three hA
    obtain ⟨l, hl⟩ := arg_items (hval 0 _ v0 rfl rfl) h0 (fun x hx => hlt x (by simp [hx]))
    obtain ⟨gap, rfl, rfl, rfl, wgap⟩ := open_int Try.underlying3 (hval 1 _ v1 rfl rfl) h1
    obtain ⟨room, rfl, rfl, rfl, wroom⟩ := open_int Try.underlying3 (hval 2 _ v2 rfl rfl) h2
    exact flexibleSizes_walk l gap room _ W hl

theorem flexibleSizes_holds : Rows.FlexibleSizesSaid :=
  OpenClaim.holds_of_wide 6 Try.f6 rfl rfl rfl rfl rfl rfl rfl ⟨rfl, rfl, rfl, rfl, rfl⟩ rfl rfl rfl rfl rfl (by kernel_rfl) Try.func6 flexibleSizes_closed
    (of_decide_eq_true (by kernel_rfl)) (by unfold Func.isWrapper; first | (rw [if_pos (by decide +kernel)]; kernel_rfl) | (rw [if_neg (by decide +kernel)]; exact ⟨rfl, rfl⟩))
    (fun os started H enc _ => flexibleSizes_lifted os started H enc)
#print axioms flexibleSizes_holds

end Go.Proofs.Ytbhdolghokhfnaa
