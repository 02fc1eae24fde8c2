/-
  FixedSums: for every slice of ints the law returns true: fixed.Fits and fixed.Add answer what the reference answers, and leave the slice as it was. No condition.
-/
import Derived.Test.YtpelapdadgmlkaaFixed
import Derived.Test.YtpelapdadgmlkaaArgs
namespace Go.Proofs.Ytpelapdadgmlkaa
open Go.ChangeShapes Go.WideShapes Go.ChangeAt Go.RowKit

theorem fixedSums_inPlace : (Rows.fixedSumsRow.inPlace == Try.prog.inPlace 3) = true := by kernel_rfl
theorem fixedSums_unfollowed : (Rows.fixedSumsRow.unfollowed == Try.prog.unfollowed 3) = true := by kernel_rfl
theorem fixedSums_recurses : (Rows.fixedSumsRow.recurses == Try.prog.recurses 3) = true := by kernel_rfl
theorem fixedSums_named : (Rows.fixedSumsRow.named == Try.prog.varsNamed 3) = true := by kernel_rfl
theorem fixedSums_closed : joinedFacts Try.prog 3 Try.f3 Rows.fixedSumsSpec Rows.fixedSumsRow = true :=
  closed_of _ _ _ _ (by kernel_rfl) (by kernel_rfl) (by kernel_rfl) (by kernel_rfl) (by kernel_rfl) fixedSums_inPlace fixedSums_unfollowed fixedSums_recurses fixedSums_named (by kernel_rfl) (by kernel_rfl) (by kernel_rfl) (by kernel_rfl) (by kernel_rfl) (by kernel_rfl) (by kernel_rfl) (by kernel_rfl) (by kernel_rfl) (by kernel_rfl) (by kernel_rfl) (by kernel_rfl) (by kernel_rfl) (by kernel_rfl) (by kernel_rfl) (by kernel_rfl) (by kernel_rfl) (by kernel_rfl)

set_option maxRecDepth 100000 in
theorem fixedSums_lifted (os : Os) (started : os.Started) (H : Type) (enc : TypeId × Value → H) :
    ReturnsInHanded {} Try.checked os 3 .any (Rows.fixedSumsSpec.pre6 enc Try.prog Try.f3 Rows.fixedSumsRow.domain false) (Rows.fixedSumsSpec.post enc Try.prog Try.f3 false true false false) := by
  refine law_lift os started H enc (by kernel_rfl) Try.func3 rfl (fun ds hd => ?_) rfl ?_
    (ChangeSpec.witness6 (enc := enc) (C := Try.checked) false ⟨#[], #[.slice none 0 0], []⟩ 8 (by kernel_rfl) (by kernel_rfl) (by kernel_rfl) (by kernel_rfl)) ?_
  · match ds, hd with
    | [_d0], _ => exact ⟨rfl, rfl, rfl⟩
  · rw [Try.params3]
    intro t ht
    simp only [List.mem_cons, List.not_mem_nil, or_false] at ht
    subst ht
    exact ⟨by kernel_rfl, of_decide_eq_true (by kernel_rfl)⟩
  · intro W base args ds p hval hA hsz hlt
    rw [Try.params3] at hA hval hsz
    obtain ⟨v0, d0, rfl, rfl, h0⟩ := trodAll_one hA
    obtain ⟨zs, hzs, wzs, lzs⟩ := arg_ints (hval 0 _ v0 rfl rfl) h0 (fun x hx => hlt x (by simp [hx])) hsz (j := 0) rfl rfl
    exact fixedSums_walk _ zs W hzs lzs

theorem fixedSums_holds : Rows.FixedSumsSaid :=
  OpenClaim.holds_of_wide 3 Try.f3 rfl rfl rfl rfl rfl rfl rfl ⟨rfl, rfl, rfl, rfl, rfl⟩ rfl rfl rfl rfl rfl (by kernel_rfl) Try.func3 fixedSums_closed
    (of_decide_eq_true (by kernel_rfl)) (by unfold Func.isWrapper; first | (rw [if_pos (by decide +kernel)]; kernel_rfl) | (rw [if_neg (by decide +kernel)]; exact ⟨rfl, rfl⟩))
    (fun os started H enc _ => fixedSums_lifted os started H enc)
#print axioms fixedSums_holds

end Go.Proofs.Ytpelapdadgmlkaa
