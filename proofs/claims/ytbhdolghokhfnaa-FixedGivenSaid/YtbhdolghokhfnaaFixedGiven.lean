/-
  FixedGiven: for every total and all weights the law returns true: the shares are the total together if a weight is not 0; a weight of 0 gets nothing; a greater weight gets no less, and equal ones differ by 1 at most. No condition.
-/
import Derived.Test.YtbhdolghokhfnaaGivenLaw
import Derived.Test.YtbhdolghokhfnaaArgs
namespace Go.Proofs.Ytbhdolghokhfnaa
open Go.ChangeShapes Go.WideShapes Go.ChangeAt Go.RowKit
open Go.ChangeMaps (open_string)

theorem fixedGiven_inPlace : (Rows.fixedGivenRow.inPlace == Try.prog.inPlace 5) = true := by kernel_rfl
theorem fixedGiven_unfollowed : (Rows.fixedGivenRow.unfollowed == Try.prog.unfollowed 5) = true := by kernel_rfl
theorem fixedGiven_recurses : (Rows.fixedGivenRow.recurses == Try.prog.recurses 5) = true := by kernel_rfl
theorem fixedGiven_named : (Rows.fixedGivenRow.named == Try.prog.varsNamed 5) = true := by kernel_rfl
theorem fixedGiven_closed : joinedFacts Try.prog 5 Try.f5 Rows.fixedGivenSpec Rows.fixedGivenRow = true :=
  closed_of _ _ _ _ (by kernel_rfl) (by kernel_rfl) (by kernel_rfl) (by kernel_rfl) (by kernel_rfl) fixedGiven_inPlace fixedGiven_unfollowed fixedGiven_recurses fixedGiven_named (by kernel_rfl) (by kernel_rfl) (by kernel_rfl) (by kernel_rfl) (by kernel_rfl) (by kernel_rfl) (by kernel_rfl) (by kernel_rfl) (by kernel_rfl) (by kernel_rfl) (by kernel_rfl) (by kernel_rfl) (by kernel_rfl) (by kernel_rfl) (by kernel_rfl) (by kernel_rfl) (by kernel_rfl) (by kernel_rfl)

set_option maxRecDepth 100000 in
theorem fixedGiven_lifted (os : Os) (started : os.Started) (H : Type) (enc : TypeId × Value → H) :
    ReturnsInHanded {} Try.checked os 5 .any (Rows.fixedGivenSpec.pre6 enc Try.prog Try.f5 Rows.fixedGivenRow.domain false) (Rows.fixedGivenSpec.post enc Try.prog Try.f5 false true false false) := by
  refine law_lift os started H enc (by kernel_rfl) Try.func5 rfl (fun ds hd => ?_) rfl ?_
    (ChangeSpec.witness6 (enc := enc) (C := Try.checked) false ⟨#[], #[.int .i64 0, .slice none 0 0], []⟩ 8 (by kernel_rfl) (by kernel_rfl) (by kernel_rfl) (by kernel_rfl)) ?_
  · match ds, hd with
    | [_d0, _d1], _ => exact ⟨rfl, rfl, rfl⟩
  · rw [Try.params5]
    intro t ht
    simp only [List.mem_cons, List.not_mem_nil, or_false] at ht
    rcases ht with rfl | rfl
    all_goals exact ⟨by kernel_rfl, of_decide_eq_true (by kernel_rfl)⟩
  · intro W base args ds p hval hA hsz hlt
    rw [Try.params5] at hA hval hsz
    obtain ⟨v0, v1, d0, d1, p0, p1, rfl, rfl, rfl, h0, h1⟩ := trodAll_two hA
    obtain ⟨ws, hws, wws, lws⟩ := arg_ints (hval 1 _ v1 rfl rfl) h1 (fun x hx => hlt x (by simp [hx])) hsz (j := 1) rfl rfl
    obtain ⟨n, rfl, rfl, rfl, wn⟩ := open_int Try.underlying3 (hval 0 _ v0 rfl rfl) h0
    exact fixedGiven_walk n v1 ws W hws lws

theorem fixedGiven_holds : Rows.FixedGivenSaid :=
  OpenClaim.holds_of_wide 5 Try.f5 rfl rfl rfl rfl rfl rfl rfl ⟨rfl, rfl, rfl, rfl, rfl⟩ rfl rfl rfl rfl rfl (by kernel_rfl) Try.func5 fixedGiven_closed
    (of_decide_eq_true (by kernel_rfl)) (by unfold Func.isWrapper; first | (rw [if_pos (by decide +kernel)]; kernel_rfl) | (rw [if_neg (by decide +kernel)]; exact ⟨rfl, rfl⟩))
    (fun os started H enc _ => fixedGiven_lifted os started H enc)
#print axioms fixedGiven_holds

end Go.Proofs.Ytbhdolghokhfnaa
