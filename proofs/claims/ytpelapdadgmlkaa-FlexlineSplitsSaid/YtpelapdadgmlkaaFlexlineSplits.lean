/-
  FlexlineSplits: for every list of sizes, every gap and room, wrapping or not, the law returns true: boxes are split into the lines that the chapter says, or refused; they stay. No condition.
-/
import Derived.Test.YtpelapdadgmlkaaSplitsLaw
import Derived.Test.YtpelapdadgmlkaaArgs
namespace Go.Proofs.Ytpelapdadgmlkaa
open Go.ChangeShapes Go.WideShapes Go.ChangeAt Go.RowKit
open Go.ChangeMaps (open_string)

theorem flexlineSplits_inPlace : (Rows.flexlineSplitsRow.inPlace == Try.prog.inPlace 5) = true := by kernel_rfl
theorem flexlineSplits_unfollowed : (Rows.flexlineSplitsRow.unfollowed == Try.prog.unfollowed 5) = true := by kernel_rfl
theorem flexlineSplits_recurses : (Rows.flexlineSplitsRow.recurses == Try.prog.recurses 5) = true := by kernel_rfl
theorem flexlineSplits_named : (Rows.flexlineSplitsRow.named == Try.prog.varsNamed 5) = true := by kernel_rfl
theorem flexlineSplits_closed : joinedFacts Try.prog 5 Try.f5 Rows.flexlineSplitsSpec Rows.flexlineSplitsRow = true :=
  closed_of _ _ _ _ (by kernel_rfl) (by kernel_rfl) (by kernel_rfl) (by kernel_rfl) (by kernel_rfl) flexlineSplits_inPlace flexlineSplits_unfollowed flexlineSplits_recurses flexlineSplits_named (by kernel_rfl) (by kernel_rfl) (by kernel_rfl) (by kernel_rfl) (by kernel_rfl) (by kernel_rfl) (by kernel_rfl) (by kernel_rfl) (by kernel_rfl) (by kernel_rfl) (by kernel_rfl) (by kernel_rfl) (by kernel_rfl) (by kernel_rfl) (by kernel_rfl) (by kernel_rfl) (by kernel_rfl) (by kernel_rfl)

set_option maxRecDepth 100000 in
theorem flexlineSplits_lifted (os : Os) (started : os.Started) (H : Type) (enc : TypeId × Value → H) :
    ReturnsInHanded {} Try.checked os 5 .any (Rows.flexlineSplitsSpec.pre6 enc Try.prog Try.f5 Rows.flexlineSplitsRow.domain false) (Rows.flexlineSplitsSpec.post enc Try.prog Try.f5 false true false false) := by
  refine law_lift os started H enc (by kernel_rfl) Try.func5 rfl (fun ds hd => ?_) rfl ?_
    (ChangeSpec.witness6 (enc := enc) (C := Try.checked) false ⟨#[], #[.slice none 0 0, .int .i64 0, .int .i64 0, .bool false], []⟩ 8 (by kernel_rfl) (by kernel_rfl) (by kernel_rfl) (by kernel_rfl)) ?_
  · match ds, hd with
    | [_d0, _d1, _d2, _d3], _ => exact ⟨rfl, rfl, rfl⟩
  · rw [Try.params5]
    intro t ht
    simp only [List.mem_cons, List.not_mem_nil, or_false] at ht
    rcases ht with rfl | rfl | rfl | rfl
    all_goals exact ⟨by kernel_rfl, of_decide_eq_true (by kernel_rfl)⟩
  · intro W base args ds p hval hA hsz hlt
    rw [Try.params5] at hA hval hsz
    obtain ⟨v0, v1, v2, v3, d0, d1, d2, d3, p0, p1, p2, p3, rfl, rfl, rfl, h0, h1, h2, h3⟩ := trodAll_four hA
    obtain ⟨zs, hzs, wzs, lzs⟩ := arg_ints (hval 0 _ v0 rfl rfl) h0 (fun x hx => hlt x (by simp [hx])) hsz (j := 0) rfl rfl
    obtain ⟨gap, rfl, rfl, rfl, wgap⟩ := open_int Try.underlying3 (hval 1 _ v1 rfl rfl) h1
    obtain ⟨room, rfl, rfl, rfl, wroom⟩ := open_int Try.underlying3 (hval 2 _ v2 rfl rfl) h2
    obtain ⟨wrap, rfl, rfl, rfl⟩ := open_bool Try.underlying4 (hval 3 _ v3 rfl rfl) h3
    exact flexlineSplits_walk zs gap room wrap v0 W hzs lzs

theorem flexlineSplits_holds : Rows.FlexlineSplitsSaid :=
  OpenClaim.holds_of_wide 5 Try.f5 rfl rfl rfl rfl rfl rfl rfl ⟨rfl, rfl, rfl, rfl, rfl⟩ rfl rfl rfl rfl rfl (by kernel_rfl) Try.func5 flexlineSplits_closed
    (of_decide_eq_true (by kernel_rfl)) (by unfold Func.isWrapper; first | (rw [if_pos (by decide +kernel)]; kernel_rfl) | (rw [if_neg (by decide +kernel)]; exact ⟨rfl, rfl⟩))
    (fun os started H enc _ => flexlineSplits_lifted os started H enc)
#print axioms flexlineSplits_holds

end Go.Proofs.Ytpelapdadgmlkaa
