/-
  FlexlineOrders: for every list of Orders the law returns true: boxes of any Orders stand in the order that the chapter says; what is told is the own slice of the caller. No condition.
-/
import Derived.Test.YtbhdolghokhfnaaOrdersLaw
import Derived.Test.YtbhdolghokhfnaaArgs
namespace Go.Proofs.Ytbhdolghokhfnaa
open Go.ChangeShapes Go.WideShapes Go.ChangeAt Go.RowKit
open Go.ChangeMaps (open_string)

theorem flexlineOrders_inPlace : (Rows.flexlineOrdersRow.inPlace == Try.prog.inPlace 3) = true := by kernel_rfl
theorem flexlineOrders_unfollowed : (Rows.flexlineOrdersRow.unfollowed == Try.prog.unfollowed 3) = true := by kernel_rfl
theorem flexlineOrders_recurses : (Rows.flexlineOrdersRow.recurses == Try.prog.recurses 3) = true := by kernel_rfl
theorem flexlineOrders_named : (Rows.flexlineOrdersRow.named == Try.prog.varsNamed 3) = true := by kernel_rfl
theorem flexlineOrders_closed : joinedFacts Try.prog 3 Try.f3 Rows.flexlineOrdersSpec Rows.flexlineOrdersRow = true :=
  closed_of _ _ _ _ (by kernel_rfl) (by kernel_rfl) (by kernel_rfl) (by kernel_rfl) (by kernel_rfl) flexlineOrders_inPlace flexlineOrders_unfollowed flexlineOrders_recurses flexlineOrders_named (by kernel_rfl) (by kernel_rfl) (by kernel_rfl) (by kernel_rfl) (by kernel_rfl) (by kernel_rfl) (by kernel_rfl) (by kernel_rfl) (by kernel_rfl) (by kernel_rfl) (by kernel_rfl) (by kernel_rfl) (by kernel_rfl) (by kernel_rfl) (by kernel_rfl) (by kernel_rfl) (by kernel_rfl) (by kernel_rfl)

set_option maxRecDepth 100000 in
theorem flexlineOrders_lifted (os : Os) (started : os.Started) (H : Type) (enc : TypeId × Value → H) :
    ReturnsInHanded {} Try.checked os 3 .any (Rows.flexlineOrdersSpec.pre6 enc Try.prog Try.f3 Rows.flexlineOrdersRow.domain false) (Rows.flexlineOrdersSpec.post enc Try.prog Try.f3 false true false false) := by
  refine law_lift os started H enc (by kernel_rfl) Try.func3 rfl (fun ds hd => ?_) rfl ?_
    (ChangeSpec.witness6 (enc := enc) (C := Try.checked) false ⟨#[], #[.slice none 0 0], []⟩ 8 (by kernel_rfl) (by kernel_rfl) (by kernel_rfl) (by kernel_rfl)) ?_
  · match ds, hd with
    | [_d0], _ => exact ⟨rfl, rfl, rfl⟩
  · rw [Try.params3]
    intro t ht
    simp only [List.mem_cons, List.not_mem_nil, or_false] at ht
    subst ht
    exact ⟨by kernel_rfl, of_decide_eq_true (by kernel_rfl)⟩
  · intro W base args ds p hval hA hsz hlt
    rw [Try.params3] at hA hval hsz
    obtain ⟨v0, d0, rfl, rfl, h0⟩ := trodAll_one hA
    obtain ⟨zs, hzs, wzs, lzs⟩ := arg_ints (hval 0 _ v0 rfl rfl) h0 (fun x hx => hlt x (by simp [hx])) hsz (j := 0) rfl rfl
    exact flexlineOrders_walk zs v0 W hzs lzs

theorem flexlineOrders_holds : Rows.FlexlineOrdersSaid :=
  OpenClaim.holds_of_wide 3 Try.f3 rfl rfl rfl rfl rfl rfl rfl ⟨rfl, rfl, rfl, rfl, rfl⟩ rfl rfl rfl rfl rfl (by kernel_rfl) Try.func3 flexlineOrders_closed
    (of_decide_eq_true (by kernel_rfl)) (by unfold Func.isWrapper; first | (rw [if_pos (by decide +kernel)]; kernel_rfl) | (rw [if_neg (by decide +kernel)]; exact ⟨rfl, rfl⟩))
    (fun os started H enc _ => flexlineOrders_lifted os started H enc)
#print axioms flexlineOrders_holds

end Go.Proofs.Ytbhdolghokhfnaa
