/-
  FlexibleStiff: Of boxes that neither grow nor shrink each has its first size, whatever the room; so has each one, where the first sizes fill it.
-/
import Derived.Test.YtbhdolghokhfnaaStiff16
import Derived.Test.YtbhdolghokhfnaaItemArg
import Derived.Test.YtbhdolghokhfnaaArgs
namespace Go.Proofs.Ytbhdolghokhfnaa
open Go.ChangeShapes Go.WideShapes Go.ChangeAt Go.RowKit
open Go.ChangeMaps (open_string)

theorem flexibleStiff_inPlace : (Rows.flexibleStiffRow.inPlace == Try.prog.inPlace 9) = true := by kernel_rfl
theorem flexibleStiff_unfollowed : (Rows.flexibleStiffRow.unfollowed == Try.prog.unfollowed 9) = true := by kernel_rfl
theorem flexibleStiff_recurses : (Rows.flexibleStiffRow.recurses == Try.prog.recurses 9) = true := by kernel_rfl
theorem flexibleStiff_named : (Rows.flexibleStiffRow.named == Try.prog.varsNamed 9) = true := by kernel_rfl
theorem flexibleStiff_closed : joinedFacts Try.prog 9 Try.f9 Rows.flexibleStiffSpec Rows.flexibleStiffRow = true :=
  closed_of _ _ _ _ (by kernel_rfl) (by kernel_rfl) (by kernel_rfl) (by kernel_rfl) (by kernel_rfl) flexibleStiff_inPlace flexibleStiff_unfollowed flexibleStiff_recurses flexibleStiff_named (by kernel_rfl) (by kernel_rfl) (by kernel_rfl) (by kernel_rfl) (by kernel_rfl) (by kernel_rfl) (by kernel_rfl) (by kernel_rfl) (by kernel_rfl) (by kernel_rfl) (by kernel_rfl) (by kernel_rfl) (by kernel_rfl) (by kernel_rfl) (by kernel_rfl) (by kernel_rfl) (by kernel_rfl) (by kernel_rfl)

set_option maxRecDepth 100000 in
theorem flexibleStiff_lifted (os : Os) (started : os.Started) (H : Type) (enc : TypeId × Value → H) :
    ReturnsInHanded {} Try.checked os 9 .any (Rows.flexibleStiffSpec.pre6 enc Try.prog Try.f9 Rows.flexibleStiffRow.domain false) (Rows.flexibleStiffSpec.post enc Try.prog Try.f9 false true false false) := by
  refine law_lift os started H enc (by kernel_rfl) Try.func9 rfl (fun ds hd => ?_) rfl ?_
    (ChangeSpec.witness6 (enc := enc) (C := Try.checked) false ⟨#[], #[.slice none 0 0, .int .i64 0, .int .i64 0], []⟩ 8 (by kernel_rfl) (by kernel_rfl) (by kernel_rfl) (by kernel_rfl)) ?_
  · match ds, hd with
    | [_d0, _d1, _d2], _ => exact ⟨rfl, rfl, rfl⟩
  · rw [Try.params9]
    intro t ht
    simp only [List.mem_cons, List.not_mem_nil, or_false] at ht
    rcases ht with rfl | rfl | rfl
    all_goals exact ⟨by kernel_rfl, of_decide_eq_true (by kernel_rfl)⟩
  · intro W base args ds p hval hA _ hlt
    rw [Try.params9] at hA hval
    obtain ⟨v0, v1, v2, d0, d1, d2, p0, p1, p2, rfl, rfl, rfl, h0, h1, h2⟩ := trodAll_three hA
    obtain ⟨l, hl⟩ := arg_items (hval 0 _ v0 rfl rfl) h0 (fun x hx => hlt x (by simp [hx]))
    obtain ⟨gap, rfl, rfl, rfl, wgap⟩ := open_int Try.underlying3 (hval 1 _ v1 rfl rfl) h1
    obtain ⟨room, rfl, rfl, rfl, wroom⟩ := open_int Try.underlying3 (hval 2 _ v2 rfl rfl) h2
    exact flexibleStiff_walk l gap room _ W hl

theorem flexibleStiff_holds : Rows.FlexibleStiffSaid :=
  OpenClaim.holds_of_wide 9 Try.f9 rfl rfl rfl rfl rfl rfl rfl ⟨rfl, rfl, rfl, rfl, rfl⟩ rfl rfl rfl rfl rfl (by kernel_rfl) Try.func9 flexibleStiff_closed
    (of_decide_eq_true (by kernel_rfl)) (by unfold Func.isWrapper; first | (rw [if_pos (by decide +kernel)]; kernel_rfl) | (rw [if_neg (by decide +kernel)]; exact ⟨rfl, rfl⟩))
    (fun os started H enc _ => flexibleStiff_lifted os started H enc)
#print axioms flexibleStiff_holds

end Go.Proofs.Ytbhdolghokhfnaa
