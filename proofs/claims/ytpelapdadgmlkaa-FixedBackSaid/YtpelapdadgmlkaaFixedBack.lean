/-
  FixedBack: for every two ints the law returns true: what is added can be taken away again, what is taken away added; a sum is refused just if it is no length. No condition.
-/
import Derived.Test.YtpelapdadgmlkaaBack
import Derived.Test.YtpelapdadgmlkaaArgs
namespace Go.Proofs.Ytpelapdadgmlkaa
open Go.ChangeShapes Go.WideShapes Go.ChangeAt Go.RowKit
open Go.ChangeMaps (open_string)

theorem fixedBack_inPlace : (Rows.fixedBackRow.inPlace == Try.prog.inPlace 25) = true := by kernel_rfl
theorem fixedBack_unfollowed : (Rows.fixedBackRow.unfollowed == Try.prog.unfollowed 25) = true := by kernel_rfl
theorem fixedBack_recurses : (Rows.fixedBackRow.recurses == Try.prog.recurses 25) = true := by kernel_rfl
theorem fixedBack_named : (Rows.fixedBackRow.named == Try.prog.varsNamed 25) = true := by kernel_rfl
theorem fixedBack_closed : joinedFacts Try.prog 25 Try.f25 Rows.fixedBackSpec Rows.fixedBackRow = true :=
  closed_of _ _ _ _ (by kernel_rfl) (by kernel_rfl) (by kernel_rfl) (by kernel_rfl) (by kernel_rfl) fixedBack_inPlace fixedBack_unfollowed fixedBack_recurses fixedBack_named (by kernel_rfl) (by kernel_rfl) (by kernel_rfl) (by kernel_rfl) (by kernel_rfl) (by kernel_rfl) (by kernel_rfl) (by kernel_rfl) (by kernel_rfl) (by kernel_rfl) (by kernel_rfl) (by kernel_rfl) (by kernel_rfl) (by kernel_rfl) (by kernel_rfl) (by kernel_rfl) (by kernel_rfl) (by kernel_rfl)

set_option maxRecDepth 100000 in
theorem fixedBack_lifted (os : Os) (started : os.Started) (H : Type) (enc : TypeId × Value → H) :
    ReturnsInHanded {} Try.checked os 25 .any (Rows.fixedBackSpec.pre6 enc Try.prog Try.f25 Rows.fixedBackRow.domain false) (Rows.fixedBackSpec.post enc Try.prog Try.f25 false true false false) := by
  refine law_lift os started H enc (by kernel_rfl) Try.func25 rfl (fun ds hd => ?_) rfl ?_
    (ChangeSpec.witness6 (enc := enc) (C := Try.checked) false ⟨#[], #[.int .i64 0, .int .i64 0], []⟩ 8 (by kernel_rfl) (by kernel_rfl) (by kernel_rfl) (by kernel_rfl)) ?_
  · match ds, hd with
    | [_d0, _d1], _ => exact ⟨rfl, rfl, rfl⟩
  · rw [Try.params25]
    intro t ht
    simp only [List.mem_cons, List.not_mem_nil, or_false] at ht
    rcases ht with rfl | rfl
    all_goals exact ⟨by kernel_rfl, of_decide_eq_true (by kernel_rfl)⟩
  · intro W base args ds p hval hA _ _
    rw [Try.params25] at hA hval
    obtain ⟨v0, v1, d0, d1, p0, p1, rfl, rfl, rfl, h0, h1⟩ := trodAll_two hA
    obtain ⟨a, rfl, rfl, rfl, wa⟩ := open_int Try.underlying3 (hval 0 _ v0 rfl rfl) h0
    obtain ⟨b, rfl, rfl, rfl, wb⟩ := open_int Try.underlying3 (hval 1 _ v1 rfl rfl) h1
    exact fixedBack_walk a b W

theorem fixedBack_holds : Rows.FixedBackSaid :=
  OpenClaim.holds_of_wide 25 Try.f25 rfl rfl rfl rfl rfl rfl rfl ⟨rfl, rfl, rfl, rfl, rfl⟩ rfl rfl rfl rfl rfl (by kernel_rfl) Try.func25 fixedBack_closed
    (of_decide_eq_true (by kernel_rfl)) (by unfold Func.isWrapper; first | (rw [if_pos (by decide +kernel)]; kernel_rfl) | (rw [if_neg (by decide +kernel)]; exact ⟨rfl, rfl⟩))
    (fun os started H enc _ => fixedBack_lifted os started H enc)
#print axioms fixedBack_holds

end Go.Proofs.Ytpelapdadgmlkaa
