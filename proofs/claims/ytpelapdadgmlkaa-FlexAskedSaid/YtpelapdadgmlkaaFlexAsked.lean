/-
  FlexAsked: for every line of boxes and every way to stand along it the law returns true: what is left is where it was asked to be. No condition.
-/
import Derived.Test.YtpelapdadgmlkaaAsked17
import Derived.Test.YtpelapdadgmlkaaArgs
namespace Go.Proofs.Ytpelapdadgmlkaa
open Go.ChangeShapes Go.WideShapes Go.ChangeAt Go.RowKit
open Go.ChangeMaps (open_string)

theorem flexAsked_inPlace : (Rows.flexAskedRow.inPlace == Try.prog.inPlace 28) = true := by kernel_rfl
theorem flexAsked_unfollowed : (Rows.flexAskedRow.unfollowed == Try.prog.unfollowed 28) = true := by kernel_rfl
theorem flexAsked_recurses : (Rows.flexAskedRow.recurses == Try.prog.recurses 28) = true := by kernel_rfl
theorem flexAsked_named : (Rows.flexAskedRow.named == Try.prog.varsNamed 28) = true := by kernel_rfl
theorem flexAsked_closed : joinedFacts Try.prog 28 Try.f28 Rows.flexAskedSpec Rows.flexAskedRow = true :=
  closed_of _ _ _ _ (by kernel_rfl) (by kernel_rfl) (by kernel_rfl) (by kernel_rfl) (by kernel_rfl) flexAsked_inPlace flexAsked_unfollowed flexAsked_recurses flexAsked_named (by kernel_rfl) (by kernel_rfl) (by kernel_rfl) (by kernel_rfl) (by kernel_rfl) (by kernel_rfl) (by kernel_rfl) (by kernel_rfl) (by kernel_rfl) (by kernel_rfl) (by kernel_rfl) (by kernel_rfl) (by kernel_rfl) (by kernel_rfl) (by kernel_rfl) (by kernel_rfl) (by kernel_rfl) (by kernel_rfl)

set_option maxRecDepth 100000 in
theorem flexAsked_lifted (os : Os) (started : os.Started) (H : Type) (enc : TypeId × Value → H) :
    ReturnsInHanded {} Try.checked os 28 .any (Rows.flexAskedSpec.pre6 enc Try.prog Try.f28 Rows.flexAskedRow.domain false) (Rows.flexAskedSpec.post enc Try.prog Try.f28 false true false false) := by
  refine law_lift os started H enc (by kernel_rfl) Try.func28 rfl (fun ds hd => ?_) rfl ?_
    (ChangeSpec.witness6 (enc := enc) (C := Try.checked) false ⟨#[], #[.slice none 0 0, .agg #[.int .i64 0, .int .i64 0, .int .u8 0, .bool false]], []⟩ 8 (by kernel_rfl) (by kernel_rfl) (by kernel_rfl) (by kernel_rfl)) ?_
  · match ds, hd with
    | [_d0, _d1], _ => exact ⟨rfl, rfl, rfl⟩
  · rw [Try.params28]
    intro t ht
    simp only [List.mem_cons, List.not_mem_nil, or_false] at ht
    rcases ht with rfl | rfl
    all_goals exact ⟨by kernel_rfl, of_decide_eq_true (by kernel_rfl)⟩
  · intro W base args ds p hval hA hsz hlt
    rw [Try.params28] at hA hval hsz
    obtain ⟨v0, v1, d0, d1, p0, p1, rfl, rfl, rfl, h0, h1⟩ := trodAll_two hA
    obtain ⟨zs, hzs, wzs, lzs⟩ := arg_ints (hval 0 _ v0 rfl rfl) h0 (fun x hx => hlt x (by simp [hx])) hsz (j := 0) rfl rfl
    obtain ⟨xGap, xRoom, xJ, xBack, rfl, wx⟩ := arg_how (hval 1 _ v1 rfl rfl) h1
    exact flexAsked_walk zs xGap xRoom xJ wx xBack v0 W hzs lzs

theorem flexAsked_holds : Rows.FlexAskedSaid :=
  OpenClaim.holds_of_wide 28 Try.f28 rfl rfl rfl rfl rfl rfl rfl ⟨rfl, rfl, rfl, rfl, rfl⟩ rfl rfl rfl rfl rfl (by kernel_rfl) Try.func28 flexAsked_closed
    (of_decide_eq_true (by kernel_rfl)) (by unfold Func.isWrapper; first | (rw [if_pos (by decide +kernel)]; kernel_rfl) | (rw [if_neg (by decide +kernel)]; exact ⟨rfl, rfl⟩))
    (fun os started H enc _ => flexAsked_lifted os started H enc)
#print axioms flexAsked_holds

end Go.Proofs.Ytpelapdadgmlkaa
