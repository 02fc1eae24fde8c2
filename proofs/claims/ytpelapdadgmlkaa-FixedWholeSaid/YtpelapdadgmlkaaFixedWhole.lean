/-
  FixedWhole: for every four ints the law returns true: a part of 10000 is the whole; of a greater number a part is no smaller, more parts are no less. No condition.
-/
import Derived.Test.YtpelapdadgmlkaaWhole
import Derived.Test.YtpelapdadgmlkaaArgs
namespace Go.Proofs.Ytpelapdadgmlkaa
open Go.ChangeShapes Go.WideShapes Go.ChangeAt Go.RowKit
open Go.ChangeMaps (open_string)

theorem fixedWhole_inPlace : (Rows.fixedWholeRow.inPlace == Try.prog.inPlace 23) = true := by kernel_rfl
theorem fixedWhole_unfollowed : (Rows.fixedWholeRow.unfollowed == Try.prog.unfollowed 23) = true := by kernel_rfl
theorem fixedWhole_recurses : (Rows.fixedWholeRow.recurses == Try.prog.recurses 23) = true := by kernel_rfl
theorem fixedWhole_named : (Rows.fixedWholeRow.named == Try.prog.varsNamed 23) = true := by kernel_rfl
theorem fixedWhole_closed : joinedFacts Try.prog 23 Try.f23 Rows.fixedWholeSpec Rows.fixedWholeRow = true :=
  closed_of _ _ _ _ (by kernel_rfl) (by kernel_rfl) (by kernel_rfl) (by kernel_rfl) (by kernel_rfl) fixedWhole_inPlace fixedWhole_unfollowed fixedWhole_recurses fixedWhole_named (by kernel_rfl) (by kernel_rfl) (by kernel_rfl) (by kernel_rfl) (by kernel_rfl) (by kernel_rfl) (by kernel_rfl) (by kernel_rfl) (by kernel_rfl) (by kernel_rfl) (by kernel_rfl) (by kernel_rfl) (by kernel_rfl) (by kernel_rfl) (by kernel_rfl) (by kernel_rfl) (by kernel_rfl) (by kernel_rfl)

set_option maxRecDepth 100000 in
theorem fixedWhole_lifted (os : Os) (started : os.Started) (H : Type) (enc : TypeId × Value → H) :
    ReturnsInHanded {} Try.checked os 23 .any (Rows.fixedWholeSpec.pre6 enc Try.prog Try.f23 Rows.fixedWholeRow.domain false) (Rows.fixedWholeSpec.post enc Try.prog Try.f23 false true false false) := by
  refine law_lift os started H enc (by kernel_rfl) Try.func23 rfl (fun ds hd => ?_) rfl ?_
    (ChangeSpec.witness6 (enc := enc) (C := Try.checked) false ⟨#[], #[.int .i64 0, .int .i64 0, .int .i64 0, .int .i64 0], []⟩ 8 (by kernel_rfl) (by kernel_rfl) (by kernel_rfl) (by kernel_rfl)) ?_
  · match ds, hd with
    | [_d0, _d1, _d2, _d3], _ => exact ⟨rfl, rfl, rfl⟩
  · rw [Try.params23]
    intro t ht
    simp only [List.mem_cons, List.not_mem_nil, or_false] at ht
    rcases ht with rfl | rfl | rfl | rfl
    all_goals exact ⟨by kernel_rfl, of_decide_eq_true (by kernel_rfl)⟩
  · intro W base args ds p hval hA _ _
    rw [Try.params23] at hA hval
    obtain ⟨v0, v1, v2, v3, d0, d1, d2, d3, p0, p1, p2, p3, rfl, rfl, rfl, h0, h1, h2, h3⟩ := trodAll_four hA
    obtain ⟨a, rfl, rfl, rfl, wa⟩ := open_int Try.underlying3 (hval 0 _ v0 rfl rfl) h0
    obtain ⟨b, rfl, rfl, rfl, wb⟩ := open_int Try.underlying3 (hval 1 _ v1 rfl rfl) h1
    obtain ⟨n, rfl, rfl, rfl, wn⟩ := open_int Try.underlying3 (hval 2 _ v2 rfl rfl) h2
    obtain ⟨m, rfl, rfl, rfl, wm⟩ := open_int Try.underlying3 (hval 3 _ v3 rfl rfl) h3
    exact fixedWhole_walk a b n m W

theorem fixedWhole_holds : Rows.FixedWholeSaid :=
  OpenClaim.holds_of_wide 23 Try.f23 rfl rfl rfl rfl rfl rfl rfl ⟨rfl, rfl, rfl, rfl, rfl⟩ rfl rfl rfl rfl rfl (by kernel_rfl) Try.func23 fixedWhole_closed
    (of_decide_eq_true (by kernel_rfl)) (by unfold Func.isWrapper; first | (rw [if_pos (by decide +kernel)]; kernel_rfl) | (rw [if_neg (by decide +kernel)]; exact ⟨rfl, rfl⟩))
    (fun os started H enc _ => fixedWhole_lifted os started H enc)
#print axioms fixedWhole_holds

end Go.Proofs.Ytpelapdadgmlkaa
