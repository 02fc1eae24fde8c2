/-
  FixedTurned: for every total, weights, parts and times the law returns true: the shares of opposite totals are opposites; weights so many times as great change nothing. No condition.
-/
import Derived.Test.YtpelapdadgmlkaaTurned
import Derived.Test.YtpelapdadgmlkaaArgs
namespace Go.Proofs.Ytpelapdadgmlkaa
open Go.ChangeShapes Go.WideShapes Go.ChangeAt Go.RowKit
open Go.ChangeMaps (open_string)

theorem fixedTurned_inPlace : (Rows.fixedTurnedRow.inPlace == Try.prog.inPlace 22) = true := by kernel_rfl
theorem fixedTurned_unfollowed : (Rows.fixedTurnedRow.unfollowed == Try.prog.unfollowed 22) = true := by kernel_rfl
theorem fixedTurned_recurses : (Rows.fixedTurnedRow.recurses == Try.prog.recurses 22) = true := by kernel_rfl
theorem fixedTurned_named : (Rows.fixedTurnedRow.named == Try.prog.varsNamed 22) = true := by kernel_rfl
theorem fixedTurned_closed : joinedFacts Try.prog 22 Try.f22 Rows.fixedTurnedSpec Rows.fixedTurnedRow = true :=
  closed_of _ _ _ _ (by kernel_rfl) (by kernel_rfl) (by kernel_rfl) (by kernel_rfl) (by kernel_rfl) fixedTurned_inPlace fixedTurned_unfollowed fixedTurned_recurses fixedTurned_named (by kernel_rfl) (by kernel_rfl) (by kernel_rfl) (by kernel_rfl) (by kernel_rfl) (by kernel_rfl) (by kernel_rfl) (by kernel_rfl) (by kernel_rfl) (by kernel_rfl) (by kernel_rfl) (by kernel_rfl) (by kernel_rfl) (by kernel_rfl) (by kernel_rfl) (by kernel_rfl) (by kernel_rfl) (by kernel_rfl)

set_option maxRecDepth 100000 in
theorem fixedTurned_lifted (os : Os) (started : os.Started) (H : Type) (enc : TypeId × Value → H) :
    ReturnsInHanded {} Try.checked os 22 .any (Rows.fixedTurnedSpec.pre6 enc Try.prog Try.f22 Rows.fixedTurnedRow.domain false) (Rows.fixedTurnedSpec.post enc Try.prog Try.f22 false true false false) := by
  refine law_lift os started H enc (by kernel_rfl) Try.func22 rfl (fun ds hd => ?_) rfl ?_
    (ChangeSpec.witness6 (enc := enc) (C := Try.checked) false ⟨#[], #[.int .i64 0, .slice none 0 0, .int .i64 0, .int .i64 0], []⟩ 8 (by kernel_rfl) (by kernel_rfl) (by kernel_rfl) (by kernel_rfl)) ?_
  · match ds, hd with
    | [_d0, _d1, _d2, _d3], _ => exact ⟨rfl, rfl, rfl⟩
  · rw [Try.params22]
    intro t ht
    simp only [List.mem_cons, List.not_mem_nil, or_false] at ht
    rcases ht with rfl | rfl | rfl | rfl
    all_goals exact ⟨by kernel_rfl, of_decide_eq_true (by kernel_rfl)⟩
  · intro W base args ds p hval hA hsz hlt
    rw [Try.params22] at hA hval hsz
    obtain ⟨v0, v1, v2, v3, d0, d1, d2, d3, p0, p1, p2, p3, rfl, rfl, rfl, h0, h1, h2, h3⟩ := trodAll_four hA
    obtain ⟨z, hz, wz, lz⟩ := arg_ints (hval 1 _ v1 rfl rfl) h1 (fun x hx => hlt x (by simp [hx])) hsz (j := 1) rfl rfl
    obtain ⟨t, rfl, rfl, rfl, wt⟩ := open_int Try.underlying3 (hval 0 _ v0 rfl rfl) h0
    obtain ⟨n, rfl, rfl, rfl, wn⟩ := open_int Try.underlying3 (hval 2 _ v2 rfl rfl) h2
    obtain ⟨m, rfl, rfl, rfl, wm⟩ := open_int Try.underlying3 (hval 3 _ v3 rfl rfl) h3
    exact fixedTurned_walk t v1 z n m W hz lz

theorem fixedTurned_holds : Rows.FixedTurnedSaid :=
  OpenClaim.holds_of_wide 22 Try.f22 rfl rfl rfl rfl rfl rfl rfl ⟨rfl, rfl, rfl, rfl, rfl⟩ rfl rfl rfl rfl rfl (by kernel_rfl) Try.func22 fixedTurned_closed
    (of_decide_eq_true (by kernel_rfl)) (by unfold Func.isWrapper; first | (rw [if_pos (by decide +kernel)]; kernel_rfl) | (rw [if_neg (by decide +kernel)]; exact ⟨rfl, rfl⟩))
    (fun os started H enc _ => fixedTurned_lifted os started H enc)
#print axioms fixedTurned_holds

end Go.Proofs.Ytpelapdadgmlkaa
