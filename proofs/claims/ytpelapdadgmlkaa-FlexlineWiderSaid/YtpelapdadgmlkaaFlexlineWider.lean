/-
  FlexlineWider: for every list of sizes, every gap and every two rooms, the law returns true: of boxes with no size below 0 a greater room never needs more lines, nor does a lesser gap. No condition.
-/
import Derived.Test.YtpelapdadgmlkaaWider15
import Derived.Test.YtpelapdadgmlkaaArgs
namespace Go.Proofs.Ytpelapdadgmlkaa
open Go.ChangeShapes Go.WideShapes Go.ChangeAt Go.RowKit
open Go.ChangeMaps (open_string)

theorem flexlineWider_inPlace : (Rows.flexlineWiderRow.inPlace == Try.prog.inPlace 17) = true := by kernel_rfl
theorem flexlineWider_unfollowed : (Rows.flexlineWiderRow.unfollowed == Try.prog.unfollowed 17) = true := by kernel_rfl
theorem flexlineWider_recurses : (Rows.flexlineWiderRow.recurses == Try.prog.recurses 17) = true := by kernel_rfl
theorem flexlineWider_named : (Rows.flexlineWiderRow.named == Try.prog.varsNamed 17) = true := by kernel_rfl
theorem flexlineWider_closed : joinedFacts Try.prog 17 Try.f17 Rows.flexlineWiderSpec Rows.flexlineWiderRow = true :=
  closed_of _ _ _ _ (by kernel_rfl) (by kernel_rfl) (by kernel_rfl) (by kernel_rfl) (by kernel_rfl) flexlineWider_inPlace flexlineWider_unfollowed flexlineWider_recurses flexlineWider_named (by kernel_rfl) (by kernel_rfl) (by kernel_rfl) (by kernel_rfl) (by kernel_rfl) (by kernel_rfl) (by kernel_rfl) (by kernel_rfl) (by kernel_rfl) (by kernel_rfl) (by kernel_rfl) (by kernel_rfl) (by kernel_rfl) (by kernel_rfl) (by kernel_rfl) (by kernel_rfl) (by kernel_rfl) (by kernel_rfl)

set_option maxRecDepth 100000 in
theorem flexlineWider_lifted (os : Os) (started : os.Started) (H : Type) (enc : TypeId × Value → H) :
    ReturnsInHanded {} Try.checked os 17 .any (Rows.flexlineWiderSpec.pre6 enc Try.prog Try.f17 Rows.flexlineWiderRow.domain false) (Rows.flexlineWiderSpec.post enc Try.prog Try.f17 false true false false) := by
  refine law_lift os started H enc (by kernel_rfl) Try.func17 rfl (fun ds hd => ?_) rfl ?_
    (ChangeSpec.witness6 (enc := enc) (C := Try.checked) false ⟨#[], #[.slice none 0 0, .int .i64 0, .int .i64 0, .int .i64 0], []⟩ 8 (by kernel_rfl) (by kernel_rfl) (by kernel_rfl) (by kernel_rfl)) ?_
  · match ds, hd with
    | [_d0, _d1, _d2, _d3], _ => exact ⟨rfl, rfl, rfl⟩
  · rw [Try.params17]
    intro t ht
    simp only [List.mem_cons, List.not_mem_nil, or_false] at ht
    rcases ht with rfl | rfl | rfl | rfl
    all_goals exact ⟨by kernel_rfl, of_decide_eq_true (by kernel_rfl)⟩
  · intro W base args ds p hval hA hsz hlt
    rw [Try.params17] at hA hval hsz
    obtain ⟨v0, v1, v2, v3, d0, d1, d2, d3, p0, p1, p2, p3, rfl, rfl, rfl, h0, h1, h2, h3⟩ := trodAll_four hA
    obtain ⟨zs, hzs, wzs, lzs⟩ := arg_ints (hval 0 _ v0 rfl rfl) h0 (fun x hx => hlt x (by simp [hx])) hsz (j := 0) rfl rfl
    obtain ⟨gap, rfl, rfl, rfl, wgap⟩ := open_int Try.underlying3 (hval 1 _ v1 rfl rfl) h1
    obtain ⟨room, rfl, rfl, rfl, wroom⟩ := open_int Try.underlying3 (hval 2 _ v2 rfl rfl) h2
    obtain ⟨more, rfl, rfl, rfl, wmore⟩ := open_int Try.underlying3 (hval 3 _ v3 rfl rfl) h3
    exact flexlineWider_walk zs gap room more v0 W hzs lzs

theorem flexlineWider_holds : Rows.FlexlineWiderSaid :=
  OpenClaim.holds_of_wide 17 Try.f17 rfl rfl rfl rfl rfl rfl rfl ⟨rfl, rfl, rfl, rfl, rfl⟩ rfl rfl rfl rfl rfl (by kernel_rfl) Try.func17 flexlineWider_closed
    (of_decide_eq_true (by kernel_rfl)) (by unfold Func.isWrapper; first | (rw [if_pos (by decide +kernel)]; kernel_rfl) | (rw [if_neg (by decide +kernel)]; exact ⟨rfl, rfl⟩))
    (fun os started H enc _ => flexlineWider_lifted os started H enc)
#print axioms flexlineWider_holds

end Go.Proofs.Ytpelapdadgmlkaa
