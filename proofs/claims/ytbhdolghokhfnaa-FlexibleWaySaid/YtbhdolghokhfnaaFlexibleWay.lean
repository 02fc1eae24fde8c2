/-
  FlexibleWay: When boxes grow none is smaller than its first size, when they shrink none is greater; each size is between the least and the most, if the least is not above the most, else the least.
-/
import Derived.Test.YtbhdolghokhfnaaWay16
import Derived.Test.YtbhdolghokhfnaaItemArg
import Derived.Test.YtbhdolghokhfnaaArgs
namespace Go.Proofs.Ytbhdolghokhfnaa
open Go.ChangeShapes Go.WideShapes Go.ChangeAt Go.RowKit
open Go.ChangeMaps (open_string)

theorem flexibleWay_inPlace : (Rows.flexibleWayRow.inPlace == Try.prog.inPlace 8) = true := by kernel_rfl
theorem flexibleWay_unfollowed : (Rows.flexibleWayRow.unfollowed == Try.prog.unfollowed 8) = true := by kernel_rfl
theorem flexibleWay_recurses : (Rows.flexibleWayRow.recurses == Try.prog.recurses 8) = true := by kernel_rfl
theorem flexibleWay_named : (Rows.flexibleWayRow.named == Try.prog.varsNamed 8) = true := by kernel_rfl
theorem flexibleWay_closed : joinedFacts Try.prog 8 Try.f8 Rows.flexibleWaySpec Rows.flexibleWayRow = true :=
  closed_of _ _ _ _ (by kernel_rfl) (by kernel_rfl) (by kernel_rfl) (by kernel_rfl) (by kernel_rfl) flexibleWay_inPlace flexibleWay_unfollowed flexibleWay_recurses flexibleWay_named (by kernel_rfl) (by kernel_rfl) (by kernel_rfl) (by kernel_rfl) (by kernel_rfl) (by kernel_rfl) (by kernel_rfl) (by kernel_rfl) (by kernel_rfl) (by kernel_rfl) (by kernel_rfl) (by kernel_rfl) (by kernel_rfl) (by kernel_rfl) (by kernel_rfl) (by kernel_rfl) (by kernel_rfl) (by kernel_rfl)

set_option maxRecDepth 100000 in
theorem flexibleWay_lifted (os : Os) (started : os.Started) (H : Type) (enc : TypeId × Value → H) :
    ReturnsInHanded {} Try.checked os 8 .any (Rows.flexibleWaySpec.pre6 enc Try.prog Try.f8 Rows.flexibleWayRow.domain false) (Rows.flexibleWaySpec.post enc Try.prog Try.f8 false true false false) := by
  refine law_lift os started H enc (by kernel_rfl) Try.func8 rfl (fun ds hd => ?_) rfl ?_
    (ChangeSpec.witness6 (enc := enc) (C := Try.checked) false ⟨#[], #[.slice none 0 0, .int .i64 0, .int .i64 0], []⟩ 8 (by kernel_rfl) (by kernel_rfl) (by kernel_rfl) (by kernel_rfl)) ?_
  · match ds, hd with
    | [_d0, _d1, _d2], _ => exact ⟨rfl, rfl, rfl⟩
  · rw [Try.params8]
    intro t ht
    simp only [List.mem_cons, List.not_mem_nil, or_false] at ht
    rcases ht with rfl | rfl | rfl
    all_goals exact ⟨by kernel_rfl, of_decide_eq_true (by kernel_rfl)⟩
  · intro W base args ds p hval hA _ hlt
    rw [Try.params8] at hA hval
    obtain ⟨v0, v1, v2, d0, d1, d2, p0, p1, p2, rfl, rfl, rfl, h0, h1, h2⟩ := trodAll_three hA
    obtain ⟨l, hl⟩ := arg_items (hval 0 _ v0 rfl rfl) h0 (fun x hx => hlt x (by simp [hx]))
    obtain ⟨gap, rfl, rfl, rfl, wgap⟩ := open_int Try.underlying3 (hval 1 _ v1 rfl rfl) h1
    obtain ⟨room, rfl, rfl, rfl, wroom⟩ := open_int Try.underlying3 (hval 2 _ v2 rfl rfl) h2
    exact flexibleWay_walk l gap room _ W hl

theorem flexibleWay_holds : Rows.FlexibleWaySaid :=
  OpenClaim.holds_of_wide 8 Try.f8 rfl rfl rfl rfl rfl rfl rfl ⟨rfl, rfl, rfl, rfl, rfl⟩ rfl rfl rfl rfl rfl (by kernel_rfl) Try.func8 flexibleWay_closed
    (of_decide_eq_true (by kernel_rfl)) (by unfold Func.isWrapper; first | (rw [if_pos (by decide +kernel)]; kernel_rfl) | (rw [if_neg (by decide +kernel)]; exact ⟨rfl, rfl⟩))
    (fun os started H enc _ => flexibleWay_lifted os started H enc)
#print axioms flexibleWay_holds

end Go.Proofs.Ytbhdolghokhfnaa
