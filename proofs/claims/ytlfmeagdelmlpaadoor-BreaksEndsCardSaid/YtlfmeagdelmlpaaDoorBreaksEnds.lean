/-
  BreaksEnds: Of WsKeep there are as many lines' ends as bytes 10, no word has one, and none is empty, nor two side by side: of any text of at most 3000 bytes (a card: the library's tables that the row lists hold their initial data).
-/
import Derived.Test.YtlfmeagdelmlpaaDoorEnds09
import Derived.Test.YtlfmeagdelmlpaaDoorLiftL
import Derived.Test.YtlfmeagdelmlpaaDoorTie
import Derived.Test.YtlfmeagdelmlpaaDoorCards
namespace Go.Proofs.YtlfmeagdelmlpaaDoor
open Go.ChangeShapes Go.WideShapes Go.ChangeAt Go.RowKit
open Go.ChangeMaps (open_string)

set_option maxRecDepth 100000 in
theorem breaksEnds_lifted (os : Os) (started : os.Started) (H : Type) (enc : TypeId × Value → H) :
    ReturnsInHanded {} Tryd.checked os 6 .any (fun w args => (Rows.breaksEndsSpec.pre enc Tryd.prog Tryd.f6 Rows.breaksEndsRow.domain false w args ∧ laidMetH Tryd.prog Rows.breaksEndsRow.laid w) ∧ sizedMet enc Tryd.prog Tryd.f6 (OpenSpec.ofChange Rows.breaksEndsSpec) false w args)
      (Rows.breaksEndsSpec.post enc Tryd.prog Tryd.f6 false true false false) := by
  refine law_lift_laid os started H enc (by kernel_rfl) Tryd.func6 rfl (fun ds hd => ?_) rfl ?_
    (ChangeSpec.witness_shaped (enc := enc) (C := Tryd.checked) (os := os) (X := fun w _ => laidMetH Tryd.prog Rows.breaksEndsRow.laid w) false (World.laidAll Tryd.prog os Rows.breaksEndsRow.laid) #[.string ByteArray.empty] 8 (World.laidAll_os _ _ _)
      (World.shaped_of_ZipB (by kernel_rfl) (by kernel_rfl)) (by kernel_rfl) (by kernel_rfl) (by kernel_rfl) (by rw [MakeChecks.laidMetH_plain _ _ _ (by kernel_rfl)]; exact laidMet_laidAll _ (by kernel_rfl) (by kernel_rfl))) ?_
  · match ds, hd with
    | [_d0], _ => exact ⟨rfl, rfl, rfl⟩
  · rw [Tryd.params6]
    intro t ht
    simp only [List.mem_cons, List.not_mem_nil, or_false] at ht
    subst ht
    exact ⟨by kernel_rfl, of_decide_eq_true (by kernel_rfl)⟩
  · intro W base args ds p hval hA hsz _ hsh _
    rw [Tryd.params6] at hA hval hsz
    obtain ⟨v0, d0, rfl, rfl, h0⟩ := trodAll_one hA
    obtain ⟨m, hm⟩ := Tryd.laysM146.s1_3 W hsh
    obtain ⟨s, rfl, rfl, rfl, ls⟩ := open_string Tryd.underlying9 (hval 0 _ v0 rfl rfl) h0
    have rs := sized_string hsz (j := 0) rfl rfl
    exact ends_law s m W hm ls

theorem breaksEnds_row : Rows.BreaksEndsSaid :=
  OpenClaim.holds_of_wide 6 Tryd.f6 rfl rfl rfl rfl rfl rfl rfl ⟨rfl, rfl, rfl, rfl, rfl⟩ rfl rfl rfl rfl rfl (by kernel_rfl) Tryd.func6 (by kernel_rfl)
    (of_decide_eq_true (by kernel_rfl)) (by unfold Func.isWrapper; first | (rw [if_pos (by decide +kernel)]; kernel_rfl) | (rw [if_neg (by decide +kernel)]; exact ⟨rfl, rfl⟩))
    (fun os started H enc _ => breaksEnds_lifted os started H enc)
theorem breaksEnds_holds : Rows.BreaksEndsCardSaid :=
  Claim7.holds_tied_plain_at .later [] [.data, .pinned] true (true, "4c743cad973e4393e9ac91ca4ef73fab829f9456440002d18ac799405a8cb6e2") false breaksEnds_row (fun _ h => by cases h) (by kernel_rfl) (fun _ h => by cases h) breaksEnds_row_tie rfl ⟨rfl, rfl⟩ (by kernel_rfl) rfl
    (fun f fn hf hfn => by
      obtain rfl : f = 6 := Option.some.inj ((show Tryd.prog.funcNamed "windowpane/windowpanelaw09.BreaksEnds" = some 6 by kernel_rfl).symm.trans hf) |>.symm
      obtain rfl : fn = Tryd.f6 := (Option.some.inj (Tryd.func6.symm.trans hfn)).symm
      exact ⟨by kernel_rfl, fun j t ht => by
        rw [Tryd.params6] at ht
        have hm : t ∈ ([9] : List Nat) := by simpa using Array.mem_of_getElem? ht
        have hall : (([9] : List Nat).all fun u => !Tryd.prog.wantsStandIn u) = true := by kernel_rfl
        exact (show Tryd.prog.wantsStandIn t = false by simpa using List.all_eq_true.1 hall t hm)⟩)
    (by kernel_rfl)
#print axioms breaksEnds_holds

end Go.Proofs.YtlfmeagdelmlpaaDoor
