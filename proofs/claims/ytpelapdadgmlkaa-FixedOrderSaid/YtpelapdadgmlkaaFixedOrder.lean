/-
  FixedOrder: for every slice of ints and every int the law returns true: in whatever order lengths stand, their sum is the same, or refused; with their opposites it is 0. No condition.
-/
import Derived.Test.YtpelapdadgmlkaaOrder
import Derived.Test.YtpelapdadgmlkaaArgs
namespace Go.Proofs.Ytpelapdadgmlkaa
open Go.ChangeShapes Go.WideShapes Go.ChangeAt Go.RowKit
open Go.ChangeMaps (open_string)

theorem fixedOrder_inPlace : (Rows.fixedOrderRow.inPlace == Try.prog.inPlace 20) = true := by kernel_rfl
theorem fixedOrder_unfollowed : (Rows.fixedOrderRow.unfollowed == Try.prog.unfollowed 20) = true := by kernel_rfl
theorem fixedOrder_recurses : (Rows.fixedOrderRow.recurses == Try.prog.recurses 20) = true := by kernel_rfl
theorem fixedOrder_named : (Rows.fixedOrderRow.named == Try.prog.varsNamed 20) = true := by kernel_rfl
theorem fixedOrder_closed : joinedFacts Try.prog 20 Try.f20 Rows.fixedOrderSpec Rows.fixedOrderRow = true :=
  closed_of _ _ _ _ (by kernel_rfl) (by kernel_rfl) (by kernel_rfl) (by kernel_rfl) (by kernel_rfl) fixedOrder_inPlace fixedOrder_unfollowed fixedOrder_recurses fixedOrder_named (by kernel_rfl) (by kernel_rfl) (by kernel_rfl) (by kernel_rfl) (by kernel_rfl) (by kernel_rfl) (by kernel_rfl) (by kernel_rfl) (by kernel_rfl) (by kernel_rfl) (by kernel_rfl) (by kernel_rfl) (by kernel_rfl) (by kernel_rfl) (by kernel_rfl) (by kernel_rfl) (by kernel_rfl) (by kernel_rfl)

set_option maxRecDepth 100000 in
theorem fixedOrder_lifted (os : Os) (started : os.Started) (H : Type) (enc : TypeId × Value → H) :
    ReturnsInHanded {} Try.checked os 20 .any (Rows.fixedOrderSpec.pre6 enc Try.prog Try.f20 Rows.fixedOrderRow.domain false) (Rows.fixedOrderSpec.post enc Try.prog Try.f20 false true false false) := by
  refine law_lift os started H enc (by kernel_rfl) Try.func20 rfl (fun ds hd => ?_) rfl ?_
    (ChangeSpec.witness6 (enc := enc) (C := Try.checked) false ⟨#[], #[.slice none 0 0, .int .i64 0], []⟩ 8 (by kernel_rfl) (by kernel_rfl) (by kernel_rfl) (by kernel_rfl)) ?_
  · match ds, hd with
    | [_d0, _d1], _ => exact ⟨rfl, rfl, rfl⟩
  · rw [Try.params20]
    intro t ht
    simp only [List.mem_cons, List.not_mem_nil, or_false] at ht
    rcases ht with rfl | rfl
    all_goals exact ⟨by kernel_rfl, of_decide_eq_true (by kernel_rfl)⟩
  · intro W base args ds p hval hA hsz hlt
    rw [Try.params20] at hA hval hsz
    obtain ⟨v0, v1, d0, d1, p0, p1, rfl, rfl, rfl, h0, h1⟩ := trodAll_two hA
    obtain ⟨z, hz, wz, lz⟩ := arg_ints (hval 0 _ v0 rfl rfl) h0 (fun x hx => hlt x (by simp [hx])) hsz (j := 0) rfl rfl
    obtain ⟨n, rfl, rfl, rfl, wn⟩ := open_int Try.underlying3 (hval 1 _ v1 rfl rfl) h1
    exact fixedOrder_walk v0 z n W hz lz

theorem fixedOrder_holds : Rows.FixedOrderSaid :=
  OpenClaim.holds_of_wide 20 Try.f20 rfl rfl rfl rfl rfl rfl rfl ⟨rfl, rfl, rfl, rfl, rfl⟩ rfl rfl rfl rfl rfl (by kernel_rfl) Try.func20 fixedOrder_closed
    (of_decide_eq_true (by kernel_rfl)) (by unfold Func.isWrapper; first | (rw [if_pos (by decide +kernel)]; kernel_rfl) | (rw [if_neg (by decide +kernel)]; exact ⟨rfl, rfl⟩))
    (fun os started H enc _ => fixedOrder_lifted os started H enc)
#print axioms fixedOrder_holds

end Go.Proofs.Ytpelapdadgmlkaa
