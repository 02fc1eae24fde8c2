/-
  FixedShares: for every total and every weights the law returns true: the total is given out to the weights as the reference gives it out, or refused with the same code; the weights stay, and what is told is the caller's own. No condition.
-/
import Derived.Test.YtpelapdadgmlkaaShares
import Derived.Test.YtpelapdadgmlkaaArgs
namespace Go.Proofs.Ytpelapdadgmlkaa
open Go.ChangeShapes Go.WideShapes Go.ChangeAt Go.RowKit
open Go.ChangeMaps (open_string)

theorem fixedShares_inPlace : (Rows.fixedSharesRow.inPlace == Try.prog.inPlace 19) = true := by kernel_rfl
theorem fixedShares_unfollowed : (Rows.fixedSharesRow.unfollowed == Try.prog.unfollowed 19) = true := by kernel_rfl
theorem fixedShares_recurses : (Rows.fixedSharesRow.recurses == Try.prog.recurses 19) = true := by kernel_rfl
theorem fixedShares_named : (Rows.fixedSharesRow.named == Try.prog.varsNamed 19) = true := by kernel_rfl
theorem fixedShares_closed : joinedFacts Try.prog 19 Try.f19 Rows.fixedSharesSpec Rows.fixedSharesRow = true :=
  closed_of _ _ _ _ (by kernel_rfl) (by kernel_rfl) (by kernel_rfl) (by kernel_rfl) (by kernel_rfl) fixedShares_inPlace fixedShares_unfollowed fixedShares_recurses fixedShares_named (by kernel_rfl) (by kernel_rfl) (by kernel_rfl) (by kernel_rfl) (by kernel_rfl) (by kernel_rfl) (by kernel_rfl) (by kernel_rfl) (by kernel_rfl) (by kernel_rfl) (by kernel_rfl) (by kernel_rfl) (by kernel_rfl) (by kernel_rfl) (by kernel_rfl) (by kernel_rfl) (by kernel_rfl) (by kernel_rfl)

set_option maxRecDepth 100000 in
theorem fixedShares_lifted (os : Os) (started : os.Started) (H : Type) (enc : TypeId × Value → H) :
    ReturnsInHanded {} Try.checked os 19 .any (Rows.fixedSharesSpec.pre6 enc Try.prog Try.f19 Rows.fixedSharesRow.domain false) (Rows.fixedSharesSpec.post enc Try.prog Try.f19 false true false false) := by
  refine law_lift os started H enc (by kernel_rfl) Try.func19 rfl (fun ds hd => ?_) rfl ?_
    (ChangeSpec.witness6 (enc := enc) (C := Try.checked) false ⟨#[], #[.int .i64 0, .slice none 0 0], []⟩ 8 (by kernel_rfl) (by kernel_rfl) (by kernel_rfl) (by kernel_rfl)) ?_
  · match ds, hd with
    | [_d0, _d1], _ => exact ⟨rfl, rfl, rfl⟩
  · rw [Try.params19]
    intro t ht
    simp only [List.mem_cons, List.not_mem_nil, or_false] at ht
    rcases ht with rfl | rfl
    all_goals exact ⟨by kernel_rfl, of_decide_eq_true (by kernel_rfl)⟩
  · intro W base args ds p hval hA hsz hlt
    rw [Try.params19] at hA hval hsz
    obtain ⟨v0, v1, d0, d1, p0, p1, rfl, rfl, rfl, h0, h1⟩ := trodAll_two hA
    obtain ⟨z, hz, wz, lz⟩ := arg_ints (hval 1 _ v1 rfl rfl) h1 (fun x hx => hlt x (by simp [hx])) hsz (j := 1) rfl rfl
    obtain ⟨t, rfl, rfl, rfl, wt⟩ := open_int Try.underlying3 (hval 0 _ v0 rfl rfl) h0
    exact fixedShares_walk t v1 z W hz lz

theorem fixedShares_holds : Rows.FixedSharesSaid :=
  OpenClaim.holds_of_wide 19 Try.f19 rfl rfl rfl rfl rfl rfl rfl ⟨rfl, rfl, rfl, rfl, rfl⟩ rfl rfl rfl rfl rfl (by kernel_rfl) Try.func19 fixedShares_closed
    (of_decide_eq_true (by kernel_rfl)) (by unfold Func.isWrapper; first | (rw [if_pos (by decide +kernel)]; kernel_rfl) | (rw [if_neg (by decide +kernel)]; exact ⟨rfl, rfl⟩))
    (fun os started H enc _ => fixedShares_lifted os started H enc)
#print axioms fixedShares_holds

end Go.Proofs.Ytpelapdadgmlkaa
