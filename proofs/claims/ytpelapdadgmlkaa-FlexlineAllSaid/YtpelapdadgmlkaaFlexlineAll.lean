/-
  FlexlineAll: for every list of sizes, every gap and room, the law returns true: lines have all boxes, one behind the other, as many as can be. No condition.
-/
import Derived.Test.YtpelapdadgmlkaaAll15
import Derived.Test.YtpelapdadgmlkaaArgs
namespace Go.Proofs.Ytpelapdadgmlkaa
open Go.ChangeShapes Go.WideShapes Go.ChangeAt Go.RowKit
open Go.ChangeMaps (open_string)

theorem flexlineAll_inPlace : (Rows.flexlineAllRow.inPlace == Try.prog.inPlace 15) = true := by kernel_rfl
theorem flexlineAll_unfollowed : (Rows.flexlineAllRow.unfollowed == Try.prog.unfollowed 15) = true := by kernel_rfl
theorem flexlineAll_recurses : (Rows.flexlineAllRow.recurses == Try.prog.recurses 15) = true := by kernel_rfl
theorem flexlineAll_named : (Rows.flexlineAllRow.named == Try.prog.varsNamed 15) = true := by kernel_rfl
theorem flexlineAll_closed : joinedFacts Try.prog 15 Try.f15 Rows.flexlineAllSpec Rows.flexlineAllRow = true :=
  closed_of _ _ _ _ (by kernel_rfl) (by kernel_rfl) (by kernel_rfl) (by kernel_rfl) (by kernel_rfl) flexlineAll_inPlace flexlineAll_unfollowed flexlineAll_recurses flexlineAll_named (by kernel_rfl) (by kernel_rfl) (by kernel_rfl) (by kernel_rfl) (by kernel_rfl) (by kernel_rfl) (by kernel_rfl) (by kernel_rfl) (by kernel_rfl) (by kernel_rfl) (by kernel_rfl) (by kernel_rfl) (by kernel_rfl) (by kernel_rfl) (by kernel_rfl) (by kernel_rfl) (by kernel_rfl) (by kernel_rfl)

set_option maxRecDepth 100000 in
theorem flexlineAll_lifted (os : Os) (started : os.Started) (H : Type) (enc : TypeId × Value → H) :
    ReturnsInHanded {} Try.checked os 15 .any (Rows.flexlineAllSpec.pre6 enc Try.prog Try.f15 Rows.flexlineAllRow.domain false) (Rows.flexlineAllSpec.post enc Try.prog Try.f15 false true false false) := by
  refine law_lift os started H enc (by kernel_rfl) Try.func15 rfl (fun ds hd => ?_) rfl ?_
    (ChangeSpec.witness6 (enc := enc) (C := Try.checked) false ⟨#[], #[.slice none 0 0, .int .i64 0, .int .i64 0], []⟩ 8 (by kernel_rfl) (by kernel_rfl) (by kernel_rfl) (by kernel_rfl)) ?_
  · match ds, hd with
    | [_d0, _d1, _d2], _ => exact ⟨rfl, rfl, rfl⟩
  · rw [Try.params15]
    intro t ht
    simp only [List.mem_cons, List.not_mem_nil, or_false] at ht
    rcases ht with rfl | rfl | rfl
    all_goals exact ⟨by kernel_rfl, of_decide_eq_true (by kernel_rfl)⟩
  · intro W base args ds p hval hA hsz hlt
    rw [Try.params15] at hA hval hsz
    obtain ⟨v0, v1, v2, d0, d1, d2, p0, p1, p2, rfl, rfl, rfl, h0, h1, h2⟩ := trodAll_three hA
    obtain ⟨zs, hzs, wzs, lzs⟩ := arg_ints (hval 0 _ v0 rfl rfl) h0 (fun x hx => hlt x (by simp [hx])) hsz (j := 0) rfl rfl
    obtain ⟨gap, rfl, rfl, rfl, wgap⟩ := open_int Try.underlying3 (hval 1 _ v1 rfl rfl) h1
    obtain ⟨room, rfl, rfl, rfl, wroom⟩ := open_int Try.underlying3 (hval 2 _ v2 rfl rfl) h2
    exact flexlineAll_walk zs gap room v0 W hzs lzs

theorem flexlineAll_holds : Rows.FlexlineAllSaid :=
  OpenClaim.holds_of_wide 15 Try.f15 rfl rfl rfl rfl rfl rfl rfl ⟨rfl, rfl, rfl, rfl, rfl⟩ rfl rfl rfl rfl rfl (by kernel_rfl) Try.func15 flexlineAll_closed
    (of_decide_eq_true (by kernel_rfl)) (by unfold Func.isWrapper; first | (rw [if_pos (by decide +kernel)]; kernel_rfl) | (rw [if_neg (by decide +kernel)]; exact ⟨rfl, rfl⟩))
    (fun os started H enc _ => flexlineAll_lifted os started H enc)
#print axioms flexlineAll_holds

end Go.Proofs.Ytpelapdadgmlkaa
