/-
  FlexMore: for every line of boxes, every way to stand along it and every greater room the law returns true: AtEnd each box stands that much farther, AtStart where it stood. No condition.
-/
import Derived.Test.YtpelapdadgmlkaaMore17
import Derived.Test.YtpelapdadgmlkaaArgs
namespace Go.Proofs.Ytpelapdadgmlkaa
open Go.ChangeShapes Go.WideShapes Go.ChangeAt Go.RowKit
open Go.ChangeMaps (open_string)

theorem flexMore_inPlace : (Rows.flexMoreRow.inPlace == Try.prog.inPlace 31) = true := by kernel_rfl
theorem flexMore_unfollowed : (Rows.flexMoreRow.unfollowed == Try.prog.unfollowed 31) = true := by kernel_rfl
theorem flexMore_recurses : (Rows.flexMoreRow.recurses == Try.prog.recurses 31) = true := by kernel_rfl
theorem flexMore_named : (Rows.flexMoreRow.named == Try.prog.varsNamed 31) = true := by kernel_rfl
theorem flexMore_closed : joinedFacts Try.prog 31 Try.f31 Rows.flexMoreSpec Rows.flexMoreRow = true :=
  closed_of _ _ _ _ (by kernel_rfl) (by kernel_rfl) (by kernel_rfl) (by kernel_rfl) (by kernel_rfl) flexMore_inPlace flexMore_unfollowed flexMore_recurses flexMore_named (by kernel_rfl) (by kernel_rfl) (by kernel_rfl) (by kernel_rfl) (by kernel_rfl) (by kernel_rfl) (by kernel_rfl) (by kernel_rfl) (by kernel_rfl) (by kernel_rfl) (by kernel_rfl) (by kernel_rfl) (by kernel_rfl) (by kernel_rfl) (by kernel_rfl) (by kernel_rfl) (by kernel_rfl) (by kernel_rfl)

set_option maxRecDepth 100000 in
theorem flexMore_lifted (os : Os) (started : os.Started) (H : Type) (enc : TypeId × Value → H) :
    ReturnsInHanded {} Try.checked os 31 .any (Rows.flexMoreSpec.pre6 enc Try.prog Try.f31 Rows.flexMoreRow.domain false) (Rows.flexMoreSpec.post enc Try.prog Try.f31 false true false false) := by
  refine law_lift os started H enc (by kernel_rfl) Try.func31 rfl (fun ds hd => ?_) rfl ?_
    (ChangeSpec.witness6 (enc := enc) (C := Try.checked) false ⟨#[], #[.slice none 0 0, .agg #[.int .i64 0, .int .i64 0, .int .u8 0, .bool false], .int .i64 0], []⟩ 8 (by kernel_rfl) (by kernel_rfl) (by kernel_rfl) (by kernel_rfl)) ?_
  · match ds, hd with
    | [_d0, _d1, _d2], _ => exact ⟨rfl, rfl, rfl⟩
  · rw [Try.params31]
    intro t ht
    simp only [List.mem_cons, List.not_mem_nil, or_false] at ht
    rcases ht with rfl | rfl | rfl
    all_goals exact ⟨by kernel_rfl, of_decide_eq_true (by kernel_rfl)⟩
  · intro W base args ds p hval hA hsz hlt
    rw [Try.params31] at hA hval hsz
    obtain ⟨v0, v1, v2, d0, d1, d2, p0, p1, p2, rfl, rfl, rfl, h0, h1, h2⟩ := trodAll_three hA
    obtain ⟨zs, hzs, wzs, lzs⟩ := arg_ints (hval 0 _ v0 rfl rfl) h0 (fun x hx => hlt x (by simp [hx])) hsz (j := 0) rfl rfl
    obtain ⟨xGap, xRoom, xJ, xBack, rfl, wx⟩ := arg_how (hval 1 _ v1 rfl rfl) h1
    obtain ⟨more, rfl, rfl, rfl, wmore⟩ := open_int Try.underlying3 (hval 2 _ v2 rfl rfl) h2
    exact flexMore_walk zs xGap xRoom xJ wx xBack more v0 W hzs lzs

theorem flexMore_holds : Rows.FlexMoreSaid :=
  OpenClaim.holds_of_wide 31 Try.f31 rfl rfl rfl rfl rfl rfl rfl ⟨rfl, rfl, rfl, rfl, rfl⟩ rfl rfl rfl rfl rfl (by kernel_rfl) Try.func31 flexMore_closed
    (of_decide_eq_true (by kernel_rfl)) (by unfold Func.isWrapper; first | (rw [if_pos (by decide +kernel)]; kernel_rfl) | (rw [if_neg (by decide +kernel)]; exact ⟨rfl, rfl⟩))
    (fun os started H enc _ => flexMore_lifted os started H enc)
#print axioms flexMore_holds

end Go.Proofs.Ytpelapdadgmlkaa
