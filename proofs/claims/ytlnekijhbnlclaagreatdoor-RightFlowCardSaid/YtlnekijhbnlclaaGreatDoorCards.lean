/-
  DERIVED. GIVEN WITH THE SEED: THE CARDS: each row of YtlnekijhbnlclaaGreatDoorRows.lean that lists a variable, with what it lists TIED to the program's text (the seventh form; the later family's looks); each row that meets fmt, with fmt's text TOLD by the authors' own Lean function (tested against real Go, not proved from fmt's source: count such statements apart). THE CARD IS WHAT COUNTS. Prove the row's statement (the work); the ties are given (YtlnekijhbnlclaaGreatDoorTie.lean); close each card by the builder's one call (the guide's Derived/Test/ToyasCard.lean, 'card_holds'). Laid BY PROGRAM, IN A SANDBOX (cutbox-door.mjs). By AI agents, Wed Nov 11 2026. No macro, syntax, notation, axiom, sorry.
-/
import Derived.Test.YtlnekijhbnlclaaGreatDoorRows
import GoSem.ClaimSeven
namespace Go.Proofs.YtlnekijhbnlclaaGreatDoor
namespace Rows

/-- THE TIED CARD OF 'windowpanelaw18.LayoutOff'. -/
def layoutOffCard : Claim7 := { stood := { row := layoutOffRow, standIns := [], harness := (true, "617517110e7d79e90873164d66b100420adf705e8f4b182ef2cbb93281018b33"), looks := true }, kinds := [], alts := [], laidByText := true, laidKinds := [.data, .pinned], laidTests := true, laidLooks := .later }
def LayoutOffCardSaid : Prop := Claim7.holds Tryz.pinned (.plain (OpenSpec.ofChange layoutOffSpec)) layoutOffCard

/-- THE TIED CARD OF 'windowpanelaw18.LayoutAround'. -/
def layoutAroundCard : Claim7 := { stood := { row := layoutAroundRow, standIns := [], harness := (true, "617517110e7d79e90873164d66b100420adf705e8f4b182ef2cbb93281018b33"), looks := true }, kinds := [], alts := [], laidByText := true, laidKinds := [.data, .pinned], laidTests := true, laidLooks := .later }
def LayoutAroundCardSaid : Prop := Claim7.holds Tryz.pinned (.plain (OpenSpec.ofChange layoutAroundSpec)) layoutAroundCard

/-- THE TIED CARD OF 'windowpanelaw18.LayoutHeight'. -/
def layoutHeightCard : Claim7 := { stood := { row := layoutHeightRow, standIns := [], harness := (true, "617517110e7d79e90873164d66b100420adf705e8f4b182ef2cbb93281018b33"), looks := true }, kinds := [], alts := [], laidByText := true, laidKinds := [.data, .pinned], laidTests := true, laidLooks := .later }
def LayoutHeightCardSaid : Prop := Claim7.holds Tryz.pinned (.plain (OpenSpec.ofChange layoutHeightSpec)) layoutHeightCard

/-- THE TIED CARD OF 'windowpanelaw19.RightOne'. -/
def rightOneCard : Claim7 := { stood := { row := rightOneRow, standIns := [], harness := (true, "617517110e7d79e90873164d66b100420adf705e8f4b182ef2cbb93281018b33"), looks := true }, kinds := [], alts := [], laidByText := true, laidKinds := [.data, .pinned], laidTests := true, laidLooks := .later }
def RightOneCardSaid : Prop := Claim7.holds Tryz.pinned (.plain (OpenSpec.ofChange rightOneSpec)) rightOneCard

/-- THE TIED CARD OF 'windowpanelaw19.RightFlow'. -/
def rightFlowCard : Claim7 := { stood := { row := rightFlowRow, standIns := [], harness := (true, "617517110e7d79e90873164d66b100420adf705e8f4b182ef2cbb93281018b33"), looks := true }, kinds := [], alts := [], laidByText := true, laidKinds := [.data, .pinned], laidTests := true, laidLooks := .later }
def RightFlowCardSaid : Prop := Claim7.holds Tryz.pinned (.plain (OpenSpec.ofChange rightFlowSpec)) rightFlowCard

/-- THE TIED CARD OF 'windowpanelaw19.RightLines'. -/
def rightLinesCard : Claim7 := { stood := { row := rightLinesRow, standIns := [], harness := (true, "617517110e7d79e90873164d66b100420adf705e8f4b182ef2cbb93281018b33"), looks := true }, kinds := [], alts := [], laidByText := true, laidKinds := [.data, .pinned], laidTests := true, laidLooks := .later }
def RightLinesCardSaid : Prop := Claim7.holds Tryz.pinned (.plain (OpenSpec.ofChange rightLinesSpec)) rightLinesCard

/-- THE TIED CARD OF 'windowpanelaw19.RightHit'. -/
def rightHitCard : Claim7 := { stood := { row := rightHitRow, standIns := [], harness := (true, "617517110e7d79e90873164d66b100420adf705e8f4b182ef2cbb93281018b33"), looks := true }, kinds := [], alts := [], laidByText := true, laidKinds := [.data, .pinned], laidTests := true, laidLooks := .later }
def RightHitCardSaid : Prop := Claim7.holds Tryz.pinned (.plain (OpenSpec.ofChange rightHitSpec)) rightHitCard

/-- THE SECOND FORM's CARD OF 'windowpanelaw18.LayoutOff'. -/
def layoutOffUptoCard : Claim7 := { stood := { row := layoutOffUptoRow, standIns := [], harness := (true, "617517110e7d79e90873164d66b100420adf705e8f4b182ef2cbb93281018b33"), looks := true }, kinds := [], alts := [], laidByText := true, laidKinds := [.data, .pinned], laidTests := true, laidLooks := .later }
def LayoutOffUptoCardSaid : Prop := Claim7.holds Tryz.pinned (.plain (OpenSpec.upto layoutOffSpec)) layoutOffUptoCard

/-- THE SECOND FORM's CARD OF 'windowpanelaw18.LayoutAround'. -/
def layoutAroundUptoCard : Claim7 := { stood := { row := layoutAroundUptoRow, standIns := [], harness := (true, "617517110e7d79e90873164d66b100420adf705e8f4b182ef2cbb93281018b33"), looks := true }, kinds := [], alts := [], laidByText := true, laidKinds := [.data, .pinned], laidTests := true, laidLooks := .later }
def LayoutAroundUptoCardSaid : Prop := Claim7.holds Tryz.pinned (.plain (OpenSpec.upto layoutAroundSpec)) layoutAroundUptoCard

/-- THE SECOND FORM's CARD OF 'windowpanelaw18.LayoutHeight'. -/
def layoutHeightUptoCard : Claim7 := { stood := { row := layoutHeightUptoRow, standIns := [], harness := (true, "617517110e7d79e90873164d66b100420adf705e8f4b182ef2cbb93281018b33"), looks := true }, kinds := [], alts := [], laidByText := true, laidKinds := [.data, .pinned], laidTests := true, laidLooks := .later }
def LayoutHeightUptoCardSaid : Prop := Claim7.holds Tryz.pinned (.plain (OpenSpec.upto layoutHeightSpec)) layoutHeightUptoCard

/-- THE SECOND FORM's CARD OF 'windowpanelaw19.RightOne'. -/
def rightOneUptoCard : Claim7 := { stood := { row := rightOneUptoRow, standIns := [], harness := (true, "617517110e7d79e90873164d66b100420adf705e8f4b182ef2cbb93281018b33"), looks := true }, kinds := [], alts := [], laidByText := true, laidKinds := [.data, .pinned], laidTests := true, laidLooks := .later }
def RightOneUptoCardSaid : Prop := Claim7.holds Tryz.pinned (.plain (OpenSpec.upto rightOneSpec)) rightOneUptoCard

/-- THE SECOND FORM's CARD OF 'windowpanelaw19.RightFlow'. -/
def rightFlowUptoCard : Claim7 := { stood := { row := rightFlowUptoRow, standIns := [], harness := (true, "617517110e7d79e90873164d66b100420adf705e8f4b182ef2cbb93281018b33"), looks := true }, kinds := [], alts := [], laidByText := true, laidKinds := [.data, .pinned], laidTests := true, laidLooks := .later }
def RightFlowUptoCardSaid : Prop := Claim7.holds Tryz.pinned (.plain (OpenSpec.upto rightFlowSpec)) rightFlowUptoCard

/-- THE SECOND FORM's CARD OF 'windowpanelaw19.RightLines'. -/
def rightLinesUptoCard : Claim7 := { stood := { row := rightLinesUptoRow, standIns := [], harness := (true, "617517110e7d79e90873164d66b100420adf705e8f4b182ef2cbb93281018b33"), looks := true }, kinds := [], alts := [], laidByText := true, laidKinds := [.data, .pinned], laidTests := true, laidLooks := .later }
def RightLinesUptoCardSaid : Prop := Claim7.holds Tryz.pinned (.plain (OpenSpec.upto rightLinesSpec)) rightLinesUptoCard

/-- THE SECOND FORM's CARD OF 'windowpanelaw19.RightHit'. -/
def rightHitUptoCard : Claim7 := { stood := { row := rightHitUptoRow, standIns := [], harness := (true, "617517110e7d79e90873164d66b100420adf705e8f4b182ef2cbb93281018b33"), looks := true }, kinds := [], alts := [], laidByText := true, laidKinds := [.data, .pinned], laidTests := true, laidLooks := .later }
def RightHitUptoCardSaid : Prop := Claim7.holds Tryz.pinned (.plain (OpenSpec.upto rightHitSpec)) rightHitUptoCard
end Rows
end Go.Proofs.YtlnekijhbnlclaaGreatDoor
