/-
  FlexibleAlike: Boxes that are alike, with nothing between the least and the most in their way, differ by 1 at most, the first ones being no smaller when they grow.
-/
import Derived.Test.YtbhdolghokhfnaaAlike16
import Derived.Test.YtbhdolghokhfnaaArgs
namespace Go.Proofs.Ytbhdolghokhfnaa
open Go.ChangeShapes Go.WideShapes Go.ChangeAt Go.RowKit
open Go.ChangeMaps (open_string)

theorem flexibleAlike_inPlace : (Rows.flexibleAlikeRow.inPlace == Try.prog.inPlace 11) = true := by kernel_rfl
theorem flexibleAlike_unfollowed : (Rows.flexibleAlikeRow.unfollowed == Try.prog.unfollowed 11) = true := by kernel_rfl
theorem flexibleAlike_recurses : (Rows.flexibleAlikeRow.recurses == Try.prog.recurses 11) = true := by kernel_rfl
theorem flexibleAlike_named : (Rows.flexibleAlikeRow.named == Try.prog.varsNamed 11) = true := by kernel_rfl
theorem flexibleAlike_closed : joinedFacts Try.prog 11 Try.f11 Rows.flexibleAlikeSpec Rows.flexibleAlikeRow = true :=
  closed_of _ _ _ _ (by kernel_rfl) (by kernel_rfl) (by kernel_rfl) (by kernel_rfl) (by kernel_rfl) flexibleAlike_inPlace flexibleAlike_unfollowed flexibleAlike_recurses flexibleAlike_named (by kernel_rfl) (by kernel_rfl) (by kernel_rfl) (by kernel_rfl) (by kernel_rfl) (by kernel_rfl) (by kernel_rfl) (by kernel_rfl) (by kernel_rfl) (by kernel_rfl) (by kernel_rfl) (by kernel_rfl) (by kernel_rfl) (by kernel_rfl) (by kernel_rfl) (by kernel_rfl) (by kernel_rfl) (by kernel_rfl)

set_option maxRecDepth 100000 in
theorem flexibleAlike_lifted (os : Os) (started : os.Started) (H : Type) (enc : TypeId × Value → H) :
    ReturnsInHanded {} Try.checked os 11 .any (Rows.flexibleAlikeSpec.pre6 enc Try.prog Try.f11 Rows.flexibleAlikeRow.domain false) (Rows.flexibleAlikeSpec.post enc Try.prog Try.f11 false true false false) := by
  refine law_lift os started H enc (by kernel_rfl) Try.func11 rfl (fun ds hd => ?_) rfl ?_
    (ChangeSpec.witness6 (enc := enc) (C := Try.checked) false ⟨#[], #[.agg #[.int .i64 0, .int .i64 0, .int .i64 0, .int .i64 0, .int .i64 0, .int .i64 0], .int .i64 0, .int .i64 0], []⟩ 8 (by kernel_rfl) (by kernel_rfl) (by kernel_rfl) (by kernel_rfl)) ?_
  · match ds, hd with
    | [_d0, _d1, _d2], _ => exact ⟨rfl, rfl, rfl⟩
  · rw [Try.params11]
    intro t ht
    simp only [List.mem_cons, List.not_mem_nil, or_false] at ht
    rcases ht with rfl | rfl | rfl
    all_goals exact ⟨by kernel_rfl, of_decide_eq_true (by kernel_rfl)⟩
  · intro W base args ds p hval hA _ _
    rw [Try.params11] at hA hval
    obtain ⟨v0, v1, v2, d0, d1, d2, p0, p1, p2, rfl, rfl, rfl, h0, h1, h2⟩ := trodAll_three hA
    obtain ⟨x, rfl⟩ := arg_item (hval 0 _ v0 rfl rfl) h0
    obtain ⟨many, rfl, rfl, rfl, wmany⟩ := open_int Try.underlying3 (hval 1 _ v1 rfl rfl) h1
    obtain ⟨room, rfl, rfl, rfl, wroom⟩ := open_int Try.underlying3 (hval 2 _ v2 rfl rfl) h2
    exact flexibleAlike_walk x many room W

theorem flexibleAlike_holds : Rows.FlexibleAlikeSaid :=
  OpenClaim.holds_of_wide 11 Try.f11 rfl rfl rfl rfl rfl rfl rfl ⟨rfl, rfl, rfl, rfl, rfl⟩ rfl rfl rfl rfl rfl (by kernel_rfl) Try.func11 flexibleAlike_closed
    (of_decide_eq_true (by kernel_rfl)) (by unfold Func.isWrapper; first | (rw [if_pos (by decide +kernel)]; kernel_rfl) | (rw [if_neg (by decide +kernel)]; exact ⟨rfl, rfl⟩))
    (fun os started H enc _ => flexibleAlike_lifted os started H enc)
#print axioms flexibleAlike_holds

end Go.Proofs.Ytbhdolghokhfnaa
