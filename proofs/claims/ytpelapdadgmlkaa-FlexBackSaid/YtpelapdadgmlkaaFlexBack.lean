/-
  FlexBack: for every line of boxes, and every way to stand along it, the law returns true: backwards each box is as far from the end as it is from the beginning else. No condition.
-/
import Derived.Test.YtpelapdadgmlkaaBack17
import Derived.Test.YtpelapdadgmlkaaArgs
namespace Go.Proofs.Ytpelapdadgmlkaa
open Go.ChangeShapes Go.WideShapes Go.ChangeAt Go.RowKit
open Go.ChangeMaps (open_string)

theorem flexBack_inPlace : (Rows.flexBackRow.inPlace == Try.prog.inPlace 29) = true := by kernel_rfl
theorem flexBack_unfollowed : (Rows.flexBackRow.unfollowed == Try.prog.unfollowed 29) = true := by kernel_rfl
theorem flexBack_recurses : (Rows.flexBackRow.recurses == Try.prog.recurses 29) = true := by kernel_rfl
theorem flexBack_named : (Rows.flexBackRow.named == Try.prog.varsNamed 29) = true := by kernel_rfl
theorem flexBack_closed : joinedFacts Try.prog 29 Try.f29 Rows.flexBackSpec Rows.flexBackRow = true :=
  closed_of _ _ _ _ (by kernel_rfl) (by kernel_rfl) (by kernel_rfl) (by kernel_rfl) (by kernel_rfl) flexBack_inPlace flexBack_unfollowed flexBack_recurses flexBack_named (by kernel_rfl) (by kernel_rfl) (by kernel_rfl) (by kernel_rfl) (by kernel_rfl) (by kernel_rfl) (by kernel_rfl) (by kernel_rfl) (by kernel_rfl) (by kernel_rfl) (by kernel_rfl) (by kernel_rfl) (by kernel_rfl) (by kernel_rfl) (by kernel_rfl) (by kernel_rfl) (by kernel_rfl) (by kernel_rfl)

set_option maxRecDepth 100000 in
theorem flexBack_lifted (os : Os) (started : os.Started) (H : Type) (enc : TypeId × Value → H) :
    ReturnsInHanded {} Try.checked os 29 .any (Rows.flexBackSpec.pre6 enc Try.prog Try.f29 Rows.flexBackRow.domain false) (Rows.flexBackSpec.post enc Try.prog Try.f29 false true false false) := by
  refine law_lift os started H enc (by kernel_rfl) Try.func29 rfl (fun ds hd => ?_) rfl ?_
    (ChangeSpec.witness6 (enc := enc) (C := Try.checked) false ⟨#[], #[.slice none 0 0, .agg #[.int .i64 0, .int .i64 0, .int .u8 0, .bool false]], []⟩ 8 (by kernel_rfl) (by kernel_rfl) (by kernel_rfl) (by kernel_rfl)) ?_
  · match ds, hd with
    | [_d0, _d1], _ => exact ⟨rfl, rfl, rfl⟩
  · rw [Try.params29]
    intro t ht
    simp only [List.mem_cons, List.not_mem_nil, or_false] at ht
    rcases ht with rfl | rfl
    all_goals exact ⟨by kernel_rfl, of_decide_eq_true (by kernel_rfl)⟩
  · intro W base args ds p hval hA hsz hlt
    rw [Try.params29] at hA hval hsz
    obtain ⟨v0, v1, d0, d1, p0, p1, rfl, rfl, rfl, h0, h1⟩ := trodAll_two hA
    obtain ⟨zs, hzs, wzs, lzs⟩ := arg_ints (hval 0 _ v0 rfl rfl) h0 (fun x hx => hlt x (by simp [hx])) hsz (j := 0) rfl rfl
    obtain ⟨xGap, xRoom, xJ, xBack, rfl, wx⟩ := arg_how (hval 1 _ v1 rfl rfl) h1
    exact flexBack_walk zs xGap xRoom xJ wx xBack v0 W hzs lzs

theorem flexBack_holds : Rows.FlexBackSaid :=
  OpenClaim.holds_of_wide 29 Try.f29 rfl rfl rfl rfl rfl rfl rfl ⟨rfl, rfl, rfl, rfl, rfl⟩ rfl rfl rfl rfl rfl (by kernel_rfl) Try.func29 flexBack_closed
    (of_decide_eq_true (by kernel_rfl)) (by unfold Func.isWrapper; first | (rw [if_pos (by decide +kernel)]; kernel_rfl) | (rw [if_neg (by decide +kernel)]; exact ⟨rfl, rfl⟩))
    (fun os started H enc _ => flexBack_lifted os started H enc)
#print axioms flexBack_holds

end Go.Proofs.Ytpelapdadgmlkaa
