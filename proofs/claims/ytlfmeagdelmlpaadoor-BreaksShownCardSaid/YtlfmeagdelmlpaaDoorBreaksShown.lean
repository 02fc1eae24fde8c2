/-
  BreaksShown: What is shown of a text is shown as itself; of WsKeep it is the text; without its blanks it is the text without its blanks; of WsNormal and WsStay it is the same, and no two blanks stand side by side in it: of any text of at most 3000 bytes, any Ws (a card: the library's tables that the row lists hold their initial data).
-/
import Derived.Test.YtlfmeagdelmlpaaDoorShownLaw
import Derived.Test.YtlfmeagdelmlpaaDoorLiftL
import Derived.Test.YtlfmeagdelmlpaaDoorTie
import Derived.Test.YtlfmeagdelmlpaaDoorCards
namespace Go.Proofs.YtlfmeagdelmlpaaDoor
open Go.ChangeShapes Go.WideShapes Go.ChangeAt Go.RowKit
open Go.ChangeMaps (open_string)

set_option maxRecDepth 100000 in
theorem breaksShown_lifted (os : Os) (started : os.Started) (H : Type) (enc : TypeId × Value → H) :
    ReturnsInHanded {} Tryd.checked os 4 .any (fun w args => (Rows.breaksShownSpec.pre enc Tryd.prog Tryd.f4 Rows.breaksShownRow.domain false w args ∧ laidMetH Tryd.prog Rows.breaksShownRow.laid w) ∧ sizedMet enc Tryd.prog Tryd.f4 (OpenSpec.ofChange Rows.breaksShownSpec) false w args)
      (Rows.breaksShownSpec.post enc Tryd.prog Tryd.f4 false true false false) := by
  refine law_lift_laid os started H enc (by kernel_rfl) Tryd.func4 rfl (fun ds hd => ?_) rfl ?_
    (ChangeSpec.witness_shaped (enc := enc) (C := Tryd.checked) (os := os) (X := fun w _ => laidMetH Tryd.prog Rows.breaksShownRow.laid w) false (World.laidAll Tryd.prog os Rows.breaksShownRow.laid) #[.string ByteArray.empty, .int .u8 0] 8 (World.laidAll_os _ _ _)
      (World.shaped_of_ZipB (by kernel_rfl) (by kernel_rfl)) (by kernel_rfl) (by kernel_rfl) (by kernel_rfl) (by rw [MakeChecks.laidMetH_plain _ _ _ (by kernel_rfl)]; exact laidMet_laidAll _ (by kernel_rfl) (by kernel_rfl))) ?_
  · match ds, hd with
    | [_d0, _d1], _ => exact ⟨rfl, rfl, rfl⟩
  · rw [Tryd.params4]
    intro t ht
    simp only [List.mem_cons, List.not_mem_nil, or_false] at ht
    rcases ht with rfl | rfl
    all_goals exact ⟨by kernel_rfl, of_decide_eq_true (by kernel_rfl)⟩
  · intro W base args ds p hval hA hsz _ hsh _
    rw [Tryd.params4] at hA hval hsz
    obtain ⟨v0, v1, d0, d1, p0, p1, rfl, rfl, rfl, h0, h1⟩ := trodAll_two hA
    obtain ⟨m, hm⟩ := Tryd.laysM146.s1_3 W hsh
    obtain ⟨s, rfl, rfl, rfl, ls⟩ := open_string Tryd.underlying9 (hval 0 _ v0 rfl rfl) h0
    have rs := sized_string hsz (j := 0) rfl rfl
    obtain ⟨ws, rfl, rfl, rfl, wws⟩ := open_int Tryd.underlying5 (hval 1 _ v1 rfl rfl) h1
    have bws : 0 ≤ ws ∧ ws ≤ 255 := by simpa [Lit.wf, IntKind.min, IntKind.max, IntKind.signed, IntKind.bits] using wws
    exact shown_law s ws m W hm ls bws.1

theorem breaksShown_row : Rows.BreaksShownSaid :=
  OpenClaim.holds_of_wide 4 Tryd.f4 rfl rfl rfl rfl rfl rfl rfl ⟨rfl, rfl, rfl, rfl, rfl⟩ rfl rfl rfl rfl rfl (by kernel_rfl) Tryd.func4 (by kernel_rfl)
    (of_decide_eq_true (by kernel_rfl)) (by unfold Func.isWrapper; first | (rw [if_pos (by decide +kernel)]; kernel_rfl) | (rw [if_neg (by decide +kernel)]; exact ⟨rfl, rfl⟩))
    (fun os started H enc _ => breaksShown_lifted os started H enc)
theorem breaksShown_holds : Rows.BreaksShownCardSaid :=
  Claim7.holds_tied_plain_at .later [] [.data, .pinned] true (true, "4c743cad973e4393e9ac91ca4ef73fab829f9456440002d18ac799405a8cb6e2") false breaksShown_row (fun _ h => by cases h) (by kernel_rfl) (fun _ h => by cases h) breaksShown_row_tie rfl ⟨rfl, rfl⟩ (by kernel_rfl) rfl
    (fun f fn hf hfn => by
      obtain rfl : f = 4 := Option.some.inj ((show Tryd.prog.funcNamed "windowpane/windowpanelaw09.BreaksShown" = some 4 by kernel_rfl).symm.trans hf) |>.symm
      obtain rfl : fn = Tryd.f4 := (Option.some.inj (Tryd.func4.symm.trans hfn)).symm
      exact ⟨by kernel_rfl, fun j t ht => by
        rw [Tryd.params4] at ht
        have hm : t ∈ ([9, 5] : List Nat) := by simpa using Array.mem_of_getElem? ht
        have hall : (([9, 5] : List Nat).all fun u => !Tryd.prog.wantsStandIn u) = true := by kernel_rfl
        exact (show Tryd.prog.wantsStandIn t = false by simpa using List.all_eq_true.1 hall t hm)⟩)
    (by kernel_rfl)
#print axioms breaksShown_holds

end Go.Proofs.YtlfmeagdelmlpaaDoor
