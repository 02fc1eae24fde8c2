/-
  FlexibleFull: All sizes are the room together; or each box that grows has its most, each one that shrinks its least.
-/
import Derived.Test.YtbhdolghokhfnaaFull16
import Derived.Test.YtbhdolghokhfnaaItemArg
import Derived.Test.YtbhdolghokhfnaaArgs
namespace Go.Proofs.Ytbhdolghokhfnaa
open Go.ChangeShapes Go.WideShapes Go.ChangeAt Go.RowKit
open Go.ChangeMaps (open_string)

theorem flexibleFull_inPlace : (Rows.flexibleFullRow.inPlace == Try.prog.inPlace 7) = true := by kernel_rfl
theorem flexibleFull_unfollowed : (Rows.flexibleFullRow.unfollowed == Try.prog.unfollowed 7) = true := by kernel_rfl
theorem flexibleFull_recurses : (Rows.flexibleFullRow.recurses == Try.prog.recurses 7) = true := by kernel_rfl
theorem flexibleFull_named : (Rows.flexibleFullRow.named == Try.prog.varsNamed 7) = true := by kernel_rfl
theorem flexibleFull_closed : joinedFacts Try.prog 7 Try.f7 Rows.flexibleFullSpec Rows.flexibleFullRow = true :=
  closed_of _ _ _ _ (by kernel_rfl) (by kernel_rfl) (by kernel_rfl) (by kernel_rfl) (by kernel_rfl) flexibleFull_inPlace flexibleFull_unfollowed flexibleFull_recurses flexibleFull_named (by kernel_rfl) (by kernel_rfl) (by kernel_rfl) (by kernel_rfl) (by kernel_rfl) (by kernel_rfl) (by kernel_rfl) (by kernel_rfl) (by kernel_rfl) (by kernel_rfl) (by kernel_rfl) (by kernel_rfl) (by kernel_rfl) (by kernel_rfl) (by kernel_rfl) (by kernel_rfl) (by kernel_rfl) (by kernel_rfl)

set_option maxRecDepth 100000 in
theorem flexibleFull_lifted (os : Os) (started : os.Started) (H : Type) (enc : TypeId × Value → H) :
    ReturnsInHanded {} Try.checked os 7 .any (Rows.flexibleFullSpec.pre6 enc Try.prog Try.f7 Rows.flexibleFullRow.domain false) (Rows.flexibleFullSpec.post enc Try.prog Try.f7 false true false false) := by
  refine law_lift os started H enc (by kernel_rfl) Try.func7 rfl (fun ds hd => ?_) rfl ?_
    (ChangeSpec.witness6 (enc := enc) (C := Try.checked) false ⟨#[], #[.slice none 0 0, .int .i64 0, .int .i64 0], []⟩ 8 (by kernel_rfl) (by kernel_rfl) (by kernel_rfl) (by kernel_rfl)) ?_
  · match ds, hd with
    | [_d0, _d1, _d2], _ => exact ⟨rfl, rfl, rfl⟩
  · rw [Try.params7]
    intro t ht
    simp only [List.mem_cons, List.not_mem_nil, or_false] at ht
    rcases ht with rfl | rfl | rfl
    all_goals exact ⟨by kernel_rfl, of_decide_eq_true (by kernel_rfl)⟩
  · intro W base args ds p hval hA _ hlt
    rw [Try.params7] at hA hval
    obtain ⟨v0, v1, v2, d0, d1, d2, p0, p1, p2, rfl, rfl, rfl, h0, h1, h2⟩ := trodAll_three hA
    obtain ⟨l, hl⟩ := arg_items (hval 0 _ v0 rfl rfl) h0 (fun x hx => hlt x (by simp [hx]))
    obtain ⟨gap, rfl, rfl, rfl, wgap⟩ := open_int Try.underlying3 (hval 1 _ v1 rfl rfl) h1
    obtain ⟨room, rfl, rfl, rfl, wroom⟩ := open_int Try.underlying3 (hval 2 _ v2 rfl rfl) h2
    exact flexibleFull_walk l gap room _ W hl

theorem flexibleFull_holds : Rows.FlexibleFullSaid :=
  OpenClaim.holds_of_wide 7 Try.f7 rfl rfl rfl rfl rfl rfl rfl ⟨rfl, rfl, rfl, rfl, rfl⟩ rfl rfl rfl rfl rfl (by kernel_rfl) Try.func7 flexibleFull_closed
    (of_decide_eq_true (by kernel_rfl)) (by unfold Func.isWrapper; first | (rw [if_pos (by decide +kernel)]; kernel_rfl) | (rw [if_neg (by decide +kernel)]; exact ⟨rfl, rfl⟩))
    (fun os started H enc _ => flexibleFull_lifted os started H enc)
#print axioms flexibleFull_holds

end Go.Proofs.Ytbhdolghokhfnaa
