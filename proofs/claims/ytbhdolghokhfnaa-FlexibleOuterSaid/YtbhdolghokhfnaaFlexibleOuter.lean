/-
  FlexibleOuter: What is around contents counts as so much less room: with an Outer so much greater, and as much more room, all sizes are the same.
-/
import Derived.Test.YtbhdolghokhfnaaOuter16
import Derived.Test.YtbhdolghokhfnaaItemArg
import Derived.Test.YtbhdolghokhfnaaArgs
namespace Go.Proofs.Ytbhdolghokhfnaa
open Go.ChangeShapes Go.WideShapes Go.ChangeAt Go.RowKit
open Go.ChangeMaps (open_string)

theorem flexibleOuter_inPlace : (Rows.flexibleOuterRow.inPlace == Try.prog.inPlace 10) = true := by kernel_rfl
theorem flexibleOuter_unfollowed : (Rows.flexibleOuterRow.unfollowed == Try.prog.unfollowed 10) = true := by kernel_rfl
theorem flexibleOuter_recurses : (Rows.flexibleOuterRow.recurses == Try.prog.recurses 10) = true := by kernel_rfl
theorem flexibleOuter_named : (Rows.flexibleOuterRow.named == Try.prog.varsNamed 10) = true := by kernel_rfl
theorem flexibleOuter_closed : joinedFacts Try.prog 10 Try.f10 Rows.flexibleOuterSpec Rows.flexibleOuterRow = true :=
  closed_of _ _ _ _ (by kernel_rfl) (by kernel_rfl) (by kernel_rfl) (by kernel_rfl) (by kernel_rfl) flexibleOuter_inPlace flexibleOuter_unfollowed flexibleOuter_recurses flexibleOuter_named (by kernel_rfl) (by kernel_rfl) (by kernel_rfl) (by kernel_rfl) (by kernel_rfl) (by kernel_rfl) (by kernel_rfl) (by kernel_rfl) (by kernel_rfl) (by kernel_rfl) (by kernel_rfl) (by kernel_rfl) (by kernel_rfl) (by kernel_rfl) (by kernel_rfl) (by kernel_rfl) (by kernel_rfl) (by kernel_rfl)

set_option maxRecDepth 100000 in
theorem flexibleOuter_lifted (os : Os) (started : os.Started) (H : Type) (enc : TypeId × Value → H) :
    ReturnsInHanded {} Try.checked os 10 .any (Rows.flexibleOuterSpec.pre6 enc Try.prog Try.f10 Rows.flexibleOuterRow.domain false) (Rows.flexibleOuterSpec.post enc Try.prog Try.f10 false true false false) := by
  refine law_lift os started H enc (by kernel_rfl) Try.func10 rfl (fun ds hd => ?_) rfl ?_
    (ChangeSpec.witness6 (enc := enc) (C := Try.checked) false ⟨#[], #[.slice none 0 0, .int .i64 0, .int .i64 0, .int .i64 0], []⟩ 8 (by kernel_rfl) (by kernel_rfl) (by kernel_rfl) (by kernel_rfl)) ?_
  · match ds, hd with
    | [_d0, _d1, _d2, _d3], _ => exact ⟨rfl, rfl, rfl⟩
  · rw [Try.params10]
    intro t ht
    simp only [List.mem_cons, List.not_mem_nil, or_false] at ht
    rcases ht with rfl | rfl | rfl | rfl
    all_goals exact ⟨by kernel_rfl, of_decide_eq_true (by kernel_rfl)⟩
  · intro W base args ds p hval hA _ hlt
    rw [Try.params10] at hA hval
    obtain ⟨v0, v1, v2, v3, d0, d1, d2, d3, p0, p1, p2, p3, rfl, rfl, rfl, h0, h1, h2, h3⟩ := trodAll_four hA
    obtain ⟨l, hl⟩ := arg_items (hval 0 _ v0 rfl rfl) h0 (fun x hx => hlt x (by simp [hx]))
    obtain ⟨room, rfl, rfl, rfl, wroom⟩ := open_int Try.underlying3 (hval 1 _ v1 rfl rfl) h1
    obtain ⟨which, rfl, rfl, rfl, wwhich⟩ := open_int Try.underlying3 (hval 2 _ v2 rfl rfl) h2
    obtain ⟨more, rfl, rfl, rfl, wmore⟩ := open_int Try.underlying3 (hval 3 _ v3 rfl rfl) h3
    exact flexibleOuter_walk l room which more _ W hl

theorem flexibleOuter_holds : Rows.FlexibleOuterSaid :=
  OpenClaim.holds_of_wide 10 Try.f10 rfl rfl rfl rfl rfl rfl rfl ⟨rfl, rfl, rfl, rfl, rfl⟩ rfl rfl rfl rfl rfl (by kernel_rfl) Try.func10 flexibleOuter_closed
    (of_decide_eq_true (by kernel_rfl)) (by unfold Func.isWrapper; first | (rw [if_pos (by decide +kernel)]; kernel_rfl) | (rw [if_neg (by decide +kernel)]; exact ⟨rfl, rfl⟩))
    (fun os started H enc _ => flexibleOuter_lifted os started H enc)
#print axioms flexibleOuter_holds

end Go.Proofs.Ytbhdolghokhfnaa
