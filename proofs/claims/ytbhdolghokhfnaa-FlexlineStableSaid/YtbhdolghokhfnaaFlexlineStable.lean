/-
  FlexlineStable: for every list of Orders the law returns true: each place comes once; Orders rise; of equal ones places rise. No condition.
-/
import Derived.Test.YtbhdolghokhfnaaStableLaw
import Derived.Test.YtbhdolghokhfnaaArgs
namespace Go.Proofs.Ytbhdolghokhfnaa
open Go.ChangeShapes Go.WideShapes Go.ChangeAt Go.RowKit
open Go.ChangeMaps (open_string)

theorem flexlineStable_inPlace : (Rows.flexlineStableRow.inPlace == Try.prog.inPlace 4) = true := by kernel_rfl
theorem flexlineStable_unfollowed : (Rows.flexlineStableRow.unfollowed == Try.prog.unfollowed 4) = true := by kernel_rfl
theorem flexlineStable_recurses : (Rows.flexlineStableRow.recurses == Try.prog.recurses 4) = true := by kernel_rfl
theorem flexlineStable_named : (Rows.flexlineStableRow.named == Try.prog.varsNamed 4) = true := by kernel_rfl
theorem flexlineStable_closed : joinedFacts Try.prog 4 Try.f4 Rows.flexlineStableSpec Rows.flexlineStableRow = true :=
  closed_of _ _ _ _ (by kernel_rfl) (by kernel_rfl) (by kernel_rfl) (by kernel_rfl) (by kernel_rfl) flexlineStable_inPlace flexlineStable_unfollowed flexlineStable_recurses flexlineStable_named (by kernel_rfl) (by kernel_rfl) (by kernel_rfl) (by kernel_rfl) (by kernel_rfl) (by kernel_rfl) (by kernel_rfl) (by kernel_rfl) (by kernel_rfl) (by kernel_rfl) (by kernel_rfl) (by kernel_rfl) (by kernel_rfl) (by kernel_rfl) (by kernel_rfl) (by kernel_rfl) (by kernel_rfl) (by kernel_rfl)

set_option maxRecDepth 100000 in
theorem flexlineStable_lifted (os : Os) (started : os.Started) (H : Type) (enc : TypeId × Value → H) :
    ReturnsInHanded {} Try.checked os 4 .any (Rows.flexlineStableSpec.pre6 enc Try.prog Try.f4 Rows.flexlineStableRow.domain false) (Rows.flexlineStableSpec.post enc Try.prog Try.f4 false true false false) := by
  refine law_lift os started H enc (by kernel_rfl) Try.func4 rfl (fun ds hd => ?_) rfl ?_
    (ChangeSpec.witness6 (enc := enc) (C := Try.checked) false ⟨#[], #[.slice none 0 0], []⟩ 8 (by kernel_rfl) (by kernel_rfl) (by kernel_rfl) (by kernel_rfl)) ?_
  · match ds, hd with
    | [_d0], _ => exact ⟨rfl, rfl, rfl⟩
  · rw [Try.params4]
    intro t ht
    simp only [List.mem_cons, List.not_mem_nil, or_false] at ht
    subst ht
    exact ⟨by kernel_rfl, of_decide_eq_true (by kernel_rfl)⟩
  · intro W base args ds p hval hA hsz hlt
    rw [Try.params4] at hA hval hsz
    obtain ⟨v0, d0, rfl, rfl, h0⟩ := trodAll_one hA
    obtain ⟨zs, hzs, wzs, lzs⟩ := arg_ints (hval 0 _ v0 rfl rfl) h0 (fun x hx => hlt x (by simp [hx])) hsz (j := 0) rfl rfl
    exact flexlineStable_walk zs v0 W hzs lzs

theorem flexlineStable_holds : Rows.FlexlineStableSaid :=
  OpenClaim.holds_of_wide 4 Try.f4 rfl rfl rfl rfl rfl rfl rfl ⟨rfl, rfl, rfl, rfl, rfl⟩ rfl rfl rfl rfl rfl (by kernel_rfl) Try.func4 flexlineStable_closed
    (of_decide_eq_true (by kernel_rfl)) (by unfold Func.isWrapper; first | (rw [if_pos (by decide +kernel)]; kernel_rfl) | (rw [if_neg (by decide +kernel)]; exact ⟨rfl, rfl⟩))
    (fun os started H enc _ => flexlineStable_lifted os started H enc)
#print axioms flexlineStable_holds

end Go.Proofs.Ytbhdolghokhfnaa
