/-
  FixedBetween: for every three ints the law returns true: what is brought between two numbers lies there, if the least is not above the most; else it is the least. No condition.
-/
import Derived.Test.YtpelapdadgmlkaaBetween
import Derived.Test.YtpelapdadgmlkaaArgs
namespace Go.Proofs.Ytpelapdadgmlkaa
open Go.ChangeShapes Go.WideShapes Go.ChangeAt Go.RowKit
open Go.ChangeMaps (open_string)

theorem fixedBetween_inPlace : (Rows.fixedBetweenRow.inPlace == Try.prog.inPlace 24) = true := by kernel_rfl
theorem fixedBetween_unfollowed : (Rows.fixedBetweenRow.unfollowed == Try.prog.unfollowed 24) = true := by kernel_rfl
theorem fixedBetween_recurses : (Rows.fixedBetweenRow.recurses == Try.prog.recurses 24) = true := by kernel_rfl
theorem fixedBetween_named : (Rows.fixedBetweenRow.named == Try.prog.varsNamed 24) = true := by kernel_rfl
theorem fixedBetween_closed : joinedFacts Try.prog 24 Try.f24 Rows.fixedBetweenSpec Rows.fixedBetweenRow = true :=
  closed_of _ _ _ _ (by kernel_rfl) (by kernel_rfl) (by kernel_rfl) (by kernel_rfl) (by kernel_rfl) fixedBetween_inPlace fixedBetween_unfollowed fixedBetween_recurses fixedBetween_named (by kernel_rfl) (by kernel_rfl) (by kernel_rfl) (by kernel_rfl) (by kernel_rfl) (by kernel_rfl) (by kernel_rfl) (by kernel_rfl) (by kernel_rfl) (by kernel_rfl) (by kernel_rfl) (by kernel_rfl) (by kernel_rfl) (by kernel_rfl) (by kernel_rfl) (by kernel_rfl) (by kernel_rfl) (by kernel_rfl)

set_option maxRecDepth 100000 in
theorem fixedBetween_lifted (os : Os) (started : os.Started) (H : Type) (enc : TypeId × Value → H) :
    ReturnsInHanded {} Try.checked os 24 .any (Rows.fixedBetweenSpec.pre6 enc Try.prog Try.f24 Rows.fixedBetweenRow.domain false) (Rows.fixedBetweenSpec.post enc Try.prog Try.f24 false true false false) := by
  refine law_lift os started H enc (by kernel_rfl) Try.func24 rfl (fun ds hd => ?_) rfl ?_
    (ChangeSpec.witness6 (enc := enc) (C := Try.checked) false ⟨#[], #[.int .i64 0, .int .i64 0, .int .i64 0], []⟩ 8 (by kernel_rfl) (by kernel_rfl) (by kernel_rfl) (by kernel_rfl)) ?_
  · match ds, hd with
    | [_d0, _d1, _d2], _ => exact ⟨rfl, rfl, rfl⟩
  · rw [Try.params24]
    intro t ht
    simp only [List.mem_cons, List.not_mem_nil, or_false] at ht
    rcases ht with rfl | rfl | rfl
    all_goals exact ⟨by kernel_rfl, of_decide_eq_true (by kernel_rfl)⟩
  · intro W base args ds p hval hA _ _
    rw [Try.params24] at hA hval
    obtain ⟨v0, v1, v2, d0, d1, d2, p0, p1, p2, rfl, rfl, rfl, h0, h1, h2⟩ := trodAll_three hA
    obtain ⟨n, rfl, rfl, rfl, wn⟩ := open_int Try.underlying3 (hval 0 _ v0 rfl rfl) h0
    obtain ⟨l, rfl, rfl, rfl, wl⟩ := open_int Try.underlying3 (hval 1 _ v1 rfl rfl) h1
    obtain ⟨m, rfl, rfl, rfl, wm⟩ := open_int Try.underlying3 (hval 2 _ v2 rfl rfl) h2
    exact fixedBetween_walk n l m W

theorem fixedBetween_holds : Rows.FixedBetweenSaid :=
  OpenClaim.holds_of_wide 24 Try.f24 rfl rfl rfl rfl rfl rfl rfl ⟨rfl, rfl, rfl, rfl, rfl⟩ rfl rfl rfl rfl rfl (by kernel_rfl) Try.func24 fixedBetween_closed
    (of_decide_eq_true (by kernel_rfl)) (by unfold Func.isWrapper; first | (rw [if_pos (by decide +kernel)]; kernel_rfl) | (rw [if_neg (by decide +kernel)]; exact ⟨rfl, rfl⟩))
    (fun os started H enc _ => fixedBetween_lifted os started H enc)
#print axioms fixedBetween_holds

end Go.Proofs.Ytpelapdadgmlkaa
