/-
  BreaksBeside: Two texts of which the first one ends with a word's byte, and the second begins with a blank, have the pieces of both, one behind the other (of WsNormal and WsKeep): of any texts of at most 1500 bytes (a card: the library's tables that the row lists hold their initial data).
-/
import Derived.Test.YtlfmeagdelmlpaaDoorBeside09
import Derived.Test.YtlfmeagdelmlpaaDoorLiftL
import Derived.Test.YtlfmeagdelmlpaaDoorTie
import Derived.Test.YtlfmeagdelmlpaaDoorCards
namespace Go.Proofs.YtlfmeagdelmlpaaDoor
open Go.ChangeShapes Go.WideShapes Go.ChangeAt Go.RowKit
open Go.ChangeMaps (open_string)

set_option maxRecDepth 100000 in
theorem breaksBeside_lifted (os : Os) (started : os.Started) (H : Type) (enc : TypeId × Value → H) :
    ReturnsInHanded {} Tryd.checked os 7 .any (fun w args => (Rows.breaksBesideSpec.pre enc Tryd.prog Tryd.f7 Rows.breaksBesideRow.domain false w args ∧ laidMetH Tryd.prog Rows.breaksBesideRow.laid w) ∧ sizedMet enc Tryd.prog Tryd.f7 (OpenSpec.ofChange Rows.breaksBesideSpec) false w args)
      (Rows.breaksBesideSpec.post enc Tryd.prog Tryd.f7 false true false false) := by
  refine law_lift_laid os started H enc (by kernel_rfl) Tryd.func7 rfl (fun ds hd => ?_) rfl ?_
    (ChangeSpec.witness_shaped (enc := enc) (C := Tryd.checked) (os := os) (X := fun w _ => laidMetH Tryd.prog Rows.breaksBesideRow.laid w) false (World.laidAll Tryd.prog os Rows.breaksBesideRow.laid) #[.string ByteArray.empty, .string ByteArray.empty, .bool false] 8 (World.laidAll_os _ _ _)
      (World.shaped_of_ZipB (by kernel_rfl) (by kernel_rfl)) (by kernel_rfl) (by kernel_rfl) (by kernel_rfl) (by rw [MakeChecks.laidMetH_plain _ _ _ (by kernel_rfl)]; exact laidMet_laidAll _ (by kernel_rfl) (by kernel_rfl))) ?_
  · match ds, hd with
    | [_d0, _d1, _d2], _ => exact ⟨rfl, rfl, rfl⟩
  · rw [Tryd.params7]
    intro t ht
    simp only [List.mem_cons, List.not_mem_nil, or_false] at ht
    rcases ht with rfl | rfl | rfl
    all_goals exact ⟨by kernel_rfl, of_decide_eq_true (by kernel_rfl)⟩
  · intro W base args ds p hval hA hsz _ hsh _
    rw [Tryd.params7] at hA hval hsz
    obtain ⟨v0, v1, v2, d0, d1, d2, p0, p1, p2, rfl, rfl, rfl, h0, h1, h2⟩ := trodAll_three hA
    obtain ⟨m, hm⟩ := Tryd.laysM146.s1_3 W hsh
    obtain ⟨s, rfl, rfl, rfl, ls⟩ := open_string Tryd.underlying9 (hval 0 _ v0 rfl rfl) h0
    have rs := sized_string hsz (j := 0) rfl rfl
    obtain ⟨t, rfl, rfl, rfl, lt⟩ := open_string Tryd.underlying9 (hval 1 _ v1 rfl rfl) h1
    have rt := sized_string hsz (j := 1) rfl rfl
    obtain ⟨keep, rfl, rfl, rfl⟩ := open_bool Tryd.underlying4 (hval 2 _ v2 rfl rfl) h2
    exact beside_law s t keep m W hm ls lt

theorem breaksBeside_row : Rows.BreaksBesideSaid :=
  OpenClaim.holds_of_wide 7 Tryd.f7 rfl rfl rfl rfl rfl rfl rfl ⟨rfl, rfl, rfl, rfl, rfl⟩ rfl rfl rfl rfl rfl (by kernel_rfl) Tryd.func7 (by kernel_rfl)
    (of_decide_eq_true (by kernel_rfl)) (by unfold Func.isWrapper; first | (rw [if_pos (by decide +kernel)]; kernel_rfl) | (rw [if_neg (by decide +kernel)]; exact ⟨rfl, rfl⟩))
    (fun os started H enc _ => breaksBeside_lifted os started H enc)
theorem breaksBeside_holds : Rows.BreaksBesideCardSaid :=
  Claim7.holds_tied_plain_at .later [] [.data, .pinned] true (true, "4c743cad973e4393e9ac91ca4ef73fab829f9456440002d18ac799405a8cb6e2") false breaksBeside_row (fun _ h => by cases h) (by kernel_rfl) (fun _ h => by cases h) breaksBeside_row_tie rfl ⟨rfl, rfl⟩ (by kernel_rfl) rfl
    (fun f fn hf hfn => by
      obtain rfl : f = 7 := Option.some.inj ((show Tryd.prog.funcNamed "windowpane/windowpanelaw09.BreaksBeside" = some 7 by kernel_rfl).symm.trans hf) |>.symm
      obtain rfl : fn = Tryd.f7 := (Option.some.inj (Tryd.func7.symm.trans hfn)).symm
      exact ⟨by kernel_rfl, fun j t ht => by
        rw [Tryd.params7] at ht
        have hm : t ∈ ([9, 9, 4] : List Nat) := by simpa using Array.mem_of_getElem? ht
        have hall : (([9, 9, 4] : List Nat).all fun u => !Tryd.prog.wantsStandIn u) = true := by kernel_rfl
        exact (show Tryd.prog.wantsStandIn t = false by simpa using List.all_eq_true.1 hall t hm)⟩)
    (by kernel_rfl)
#print axioms breaksBeside_holds

end Go.Proofs.YtlfmeagdelmlpaaDoor
