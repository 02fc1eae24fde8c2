/-
  FixedPairs: for every three ints the law returns true: what fixed.Sub, Mul, Part and Clamp answer is what the reference answers; the arguments read as they did. No condition.
-/
import Derived.Test.YtpelapdadgmlkaaFixed
import Derived.Test.YtpelapdadgmlkaaArgs
namespace Go.Proofs.Ytpelapdadgmlkaa
open Go.ChangeShapes Go.WideShapes Go.ChangeAt Go.RowKit

theorem fixedPairs_inPlace : (Rows.fixedPairsRow.inPlace == Try.prog.inPlace 7) = true := by kernel_rfl
theorem fixedPairs_unfollowed : (Rows.fixedPairsRow.unfollowed == Try.prog.unfollowed 7) = true := by kernel_rfl
theorem fixedPairs_recurses : (Rows.fixedPairsRow.recurses == Try.prog.recurses 7) = true := by kernel_rfl
theorem fixedPairs_named : (Rows.fixedPairsRow.named == Try.prog.varsNamed 7) = true := by kernel_rfl
theorem fixedPairs_closed : joinedFacts Try.prog 7 Try.f7 Rows.fixedPairsSpec Rows.fixedPairsRow = true :=
  closed_of _ _ _ _ (by kernel_rfl) (by kernel_rfl) (by kernel_rfl) (by kernel_rfl) (by kernel_rfl) fixedPairs_inPlace fixedPairs_unfollowed fixedPairs_recurses fixedPairs_named (by kernel_rfl) (by kernel_rfl) (by kernel_rfl) (by kernel_rfl) (by kernel_rfl) (by kernel_rfl) (by kernel_rfl) (by kernel_rfl) (by kernel_rfl) (by kernel_rfl) (by kernel_rfl) (by kernel_rfl) (by kernel_rfl) (by kernel_rfl) (by kernel_rfl) (by kernel_rfl) (by kernel_rfl) (by kernel_rfl)

set_option maxRecDepth 100000 in
theorem fixedPairs_lifted (os : Os) (started : os.Started) (H : Type) (enc : TypeId × Value → H) :
    ReturnsInHanded {} Try.checked os 7 .any (Rows.fixedPairsSpec.pre6 enc Try.prog Try.f7 Rows.fixedPairsRow.domain false) (Rows.fixedPairsSpec.post enc Try.prog Try.f7 false true false false) := by
  refine law_lift os started H enc (by kernel_rfl) Try.func7 rfl (fun ds hd => ?_) rfl ?_
    (ChangeSpec.witness6 (enc := enc) (C := Try.checked) false ⟨#[], #[.int .i64 0, .int .i64 0, .int .i64 0], []⟩ 8 (by kernel_rfl) (by kernel_rfl) (by kernel_rfl) (by kernel_rfl)) ?_
  · match ds, hd with
    | [_d0, _d1, _d2], _ => exact ⟨rfl, rfl, rfl⟩
  · rw [Try.params7]
    intro t ht
    simp only [List.mem_cons, List.not_mem_nil, or_false] at ht
    rcases ht with rfl | rfl | rfl
    all_goals exact ⟨by kernel_rfl, of_decide_eq_true (by kernel_rfl)⟩
  · intro W base args ds p hval hA _ _
    rw [Try.params7] at hA hval
    obtain ⟨v0, v1, v2, d0, d1, d2, p0, p1, p2, rfl, rfl, rfl, h0, h1, h2⟩ := trodAll_three hA
    obtain ⟨a, rfl, rfl, rfl, wa⟩ := open_int Try.underlying3 (hval 0 _ v0 rfl rfl) h0
    obtain ⟨b, rfl, rfl, rfl, wb⟩ := open_int Try.underlying3 (hval 1 _ v1 rfl rfl) h1
    obtain ⟨c, rfl, rfl, rfl, wc⟩ := open_int Try.underlying3 (hval 2 _ v2 rfl rfl) h2
    exact fixedPairs_walk a b c W wa wb

theorem fixedPairs_holds : Rows.FixedPairsSaid :=
  OpenClaim.holds_of_wide 7 Try.f7 rfl rfl rfl rfl rfl rfl rfl ⟨rfl, rfl, rfl, rfl, rfl⟩ rfl rfl rfl rfl rfl (by kernel_rfl) Try.func7 fixedPairs_closed
    (of_decide_eq_true (by kernel_rfl)) (by unfold Func.isWrapper; first | (rw [if_pos (by decide +kernel)]; kernel_rfl) | (rw [if_neg (by decide +kernel)]; exact ⟨rfl, rfl⟩))
    (fun os started H enc _ => fixedPairs_lifted os started H enc)
#print axioms fixedPairs_holds

end Go.Proofs.Ytpelapdadgmlkaa
