/-
  FlexMain: for every line of boxes, every gap, room and way to stand, the law returns true: where boxes begin is what the chapter says, or they are refused. No condition.
-/
import Derived.Test.YtpelapdadgmlkaaMain17
import Derived.Test.YtpelapdadgmlkaaArgs
namespace Go.Proofs.Ytpelapdadgmlkaa
open Go.ChangeShapes Go.WideShapes Go.ChangeAt Go.RowKit
open Go.ChangeMaps (open_string)

theorem flexMain_inPlace : (Rows.flexMainRow.inPlace == Try.prog.inPlace 26) = true := by kernel_rfl
theorem flexMain_unfollowed : (Rows.flexMainRow.unfollowed == Try.prog.unfollowed 26) = true := by kernel_rfl
theorem flexMain_recurses : (Rows.flexMainRow.recurses == Try.prog.recurses 26) = true := by kernel_rfl
theorem flexMain_named : (Rows.flexMainRow.named == Try.prog.varsNamed 26) = true := by kernel_rfl
theorem flexMain_closed : joinedFacts Try.prog 26 Try.f26 Rows.flexMainSpec Rows.flexMainRow = true :=
  closed_of _ _ _ _ (by kernel_rfl) (by kernel_rfl) (by kernel_rfl) (by kernel_rfl) (by kernel_rfl) flexMain_inPlace flexMain_unfollowed flexMain_recurses flexMain_named (by kernel_rfl) (by kernel_rfl) (by kernel_rfl) (by kernel_rfl) (by kernel_rfl) (by kernel_rfl) (by kernel_rfl) (by kernel_rfl) (by kernel_rfl) (by kernel_rfl) (by kernel_rfl) (by kernel_rfl) (by kernel_rfl) (by kernel_rfl) (by kernel_rfl) (by kernel_rfl) (by kernel_rfl) (by kernel_rfl)

set_option maxRecDepth 100000 in
theorem flexMain_lifted (os : Os) (started : os.Started) (H : Type) (enc : TypeId × Value → H) :
    ReturnsInHanded {} Try.checked os 26 .any (Rows.flexMainSpec.pre6 enc Try.prog Try.f26 Rows.flexMainRow.domain false) (Rows.flexMainSpec.post enc Try.prog Try.f26 false true false false) := by
  refine law_lift os started H enc (by kernel_rfl) Try.func26 rfl (fun ds hd => ?_) rfl ?_
    (ChangeSpec.witness6 (enc := enc) (C := Try.checked) false ⟨#[], #[.slice none 0 0, .agg #[.int .i64 0, .int .i64 0, .int .u8 0, .bool false]], []⟩ 8 (by kernel_rfl) (by kernel_rfl) (by kernel_rfl) (by kernel_rfl)) ?_
  · match ds, hd with
    | [_d0, _d1], _ => exact ⟨rfl, rfl, rfl⟩
  · rw [Try.params26]
    intro t ht
    simp only [List.mem_cons, List.not_mem_nil, or_false] at ht
    rcases ht with rfl | rfl
    all_goals exact ⟨by kernel_rfl, of_decide_eq_true (by kernel_rfl)⟩
  · intro W base args ds p hval hA hsz hlt
    rw [Try.params26] at hA hval hsz
    obtain ⟨v0, v1, d0, d1, p0, p1, rfl, rfl, rfl, h0, h1⟩ := trodAll_two hA
    obtain ⟨zs, hzs, wzs, lzs⟩ := arg_ints (hval 0 _ v0 rfl rfl) h0 (fun x hx => hlt x (by simp [hx])) hsz (j := 0) rfl rfl
    obtain ⟨xGap, xRoom, xJ, xBack, rfl, wx⟩ := arg_how (hval 1 _ v1 rfl rfl) h1
    exact flexMain_walk zs xGap xRoom xJ wx xBack v0 W hzs lzs

theorem flexMain_holds : Rows.FlexMainSaid :=
  OpenClaim.holds_of_wide 26 Try.f26 rfl rfl rfl rfl rfl rfl rfl ⟨rfl, rfl, rfl, rfl, rfl⟩ rfl rfl rfl rfl rfl (by kernel_rfl) Try.func26 flexMain_closed
    (of_decide_eq_true (by kernel_rfl)) (by unfold Func.isWrapper; first | (rw [if_pos (by decide +kernel)]; kernel_rfl) | (rw [if_neg (by decide +kernel)]; exact ⟨rfl, rfl⟩))
    (fun os started H enc _ => flexMain_lifted os started H enc)
#print axioms flexMain_holds

end Go.Proofs.Ytpelapdadgmlkaa
