/-
  RightPoints: for every list of fragments and every point the law returns true: what they hit, and fill, is what the chapter says. No condition.
-/
import Derived.Test.YtpelapdadgmlkaaPoints
import Derived.Test.YtpelapdadgmlkaaArgs
namespace Go.Proofs.Ytpelapdadgmlkaa
open Go.ChangeShapes Go.WideShapes Go.ChangeAt Go.RowKit
open Go.ChangeMaps (open_string)

theorem rightPoints_inPlace : (Rows.rightPointsRow.inPlace == Try.prog.inPlace 6) = true := by kernel_rfl
theorem rightPoints_unfollowed : (Rows.rightPointsRow.unfollowed == Try.prog.unfollowed 6) = true := by kernel_rfl
theorem rightPoints_recurses : (Rows.rightPointsRow.recurses == Try.prog.recurses 6) = true := by kernel_rfl
theorem rightPoints_named : (Rows.rightPointsRow.named == Try.prog.varsNamed 6) = true := by kernel_rfl
theorem rightPoints_closed : joinedFacts Try.prog 6 Try.f6 Rows.rightPointsSpec Rows.rightPointsRow = true :=
  closed_of _ _ _ _ (by kernel_rfl) (by kernel_rfl) (by kernel_rfl) (by kernel_rfl) (by kernel_rfl) rightPoints_inPlace rightPoints_unfollowed rightPoints_recurses rightPoints_named (by kernel_rfl) (by kernel_rfl) (by kernel_rfl) (by kernel_rfl) (by kernel_rfl) (by kernel_rfl) (by kernel_rfl) (by kernel_rfl) (by kernel_rfl) (by kernel_rfl) (by kernel_rfl) (by kernel_rfl) (by kernel_rfl) (by kernel_rfl) (by kernel_rfl) (by kernel_rfl) (by kernel_rfl) (by kernel_rfl)

set_option maxRecDepth 100000 in
theorem rightPoints_lifted (os : Os) (started : os.Started) (H : Type) (enc : TypeId × Value → H) :
    ReturnsInHanded {} Try.checked os 6 .any (Rows.rightPointsSpec.pre6 enc Try.prog Try.f6 Rows.rightPointsRow.domain false) (Rows.rightPointsSpec.post enc Try.prog Try.f6 false true false false) := by
  refine law_lift os started H enc (by kernel_rfl) Try.func6 rfl (fun ds hd => ?_) rfl ?_
    (ChangeSpec.witness6 (enc := enc) (C := Try.checked) false ⟨#[], #[.slice none 0 0, .int .i64 0, .int .i64 0], []⟩ 8 (by kernel_rfl) (by kernel_rfl) (by kernel_rfl) (by kernel_rfl)) ?_
  · match ds, hd with
    | [_d0, _d1, _d2], _ => exact ⟨rfl, rfl, rfl⟩
  · rw [Try.params6]
    intro t ht
    simp only [List.mem_cons, List.not_mem_nil, or_false] at ht
    rcases ht with rfl | rfl | rfl
    all_goals exact ⟨by kernel_rfl, of_decide_eq_true (by kernel_rfl)⟩
  · intro W base args ds p hval hA _ hlt
    rw [Try.params6] at hA hval
    obtain ⟨v0, v1, v2, d0, d1, d2, p0, p1, p2, rfl, rfl, rfl, h0, h1, h2⟩ := trodAll_three hA
    obtain ⟨fs, hfs⟩ := arg_frags (hval 0 _ v0 rfl rfl) h0 (fun x hx => hlt x (by simp [hx]))
    obtain ⟨x, rfl, rfl, rfl, wx⟩ := open_int Try.underlying3 (hval 1 _ v1 rfl rfl) h1
    obtain ⟨y, rfl, rfl, rfl, wy⟩ := open_int Try.underlying3 (hval 2 _ v2 rfl rfl) h2
    exact rightPoints_walk fs x y v0 W hfs

theorem rightPoints_holds : Rows.RightPointsSaid :=
  OpenClaim.holds_of_wide 6 Try.f6 rfl rfl rfl rfl rfl rfl rfl ⟨rfl, rfl, rfl, rfl, rfl⟩ rfl rfl rfl rfl rfl (by kernel_rfl) Try.func6 rightPoints_closed
    (of_decide_eq_true (by kernel_rfl)) (by unfold Func.isWrapper; first | (rw [if_pos (by decide +kernel)]; kernel_rfl) | (rw [if_neg (by decide +kernel)]; exact ⟨rfl, rfl⟩))
    (fun os started H enc _ => rightPoints_lifted os started H enc)
#print axioms rightPoints_holds

end Go.Proofs.Ytpelapdadgmlkaa
