/-
  DERIVED. GIVEN WITH THE SEED: THE CARDS: each row of YtlfmeagdelmlpaaDoorRows.lean that lists a variable, with what it lists TIED to the program's text (the seventh form; the later family's looks); each row that meets fmt, with fmt's text TOLD by the authors' own Lean function (tested against real Go, not proved from fmt's source: count such statements apart). THE CARD IS WHAT COUNTS. Prove the row's statement (the work); the ties are given (YtlfmeagdelmlpaaDoorTie.lean); close each card by the builder's one call (the guide's Derived/Test/ToyasCard.lean, 'card_holds'). Laid BY PROGRAM, IN A SANDBOX (cutbox-door.mjs). By AI agents, Wed Nov 11 2026. No macro, syntax, notation, axiom, sorry.
-/
import Derived.Test.YtlfmeagdelmlpaaDoorRows
import GoSem.ClaimSeven
namespace Go.Proofs.YtlfmeagdelmlpaaDoor
namespace Rows

/-- THE TIED CARD OF 'windowpanelaw09.BreaksCut'. -/
def breaksCutCard : Claim7 := { stood := { row := breaksCutRow, standIns := [], harness := (true, "4c743cad973e4393e9ac91ca4ef73fab829f9456440002d18ac799405a8cb6e2"), looks := false }, kinds := [], alts := [], laidByText := true, laidKinds := [.data, .pinned], laidTests := true, laidLooks := .later }
def BreaksCutCardSaid : Prop := Claim7.holds Tryd.pinned (.plain (OpenSpec.ofChange breaksCutSpec)) breaksCutCard

/-- THE TIED CARD OF 'windowpanelaw09.BreaksShown'. -/
def breaksShownCard : Claim7 := { stood := { row := breaksShownRow, standIns := [], harness := (true, "4c743cad973e4393e9ac91ca4ef73fab829f9456440002d18ac799405a8cb6e2"), looks := false }, kinds := [], alts := [], laidByText := true, laidKinds := [.data, .pinned], laidTests := true, laidLooks := .later }
def BreaksShownCardSaid : Prop := Claim7.holds Tryd.pinned (.plain (OpenSpec.ofChange breaksShownSpec)) breaksShownCard

/-- THE TIED CARD OF 'windowpanelaw09.BreaksTurns'. -/
def breaksTurnsCard : Claim7 := { stood := { row := breaksTurnsRow, standIns := [], harness := (true, "4c743cad973e4393e9ac91ca4ef73fab829f9456440002d18ac799405a8cb6e2"), looks := false }, kinds := [], alts := [], laidByText := true, laidKinds := [.data, .pinned], laidTests := true, laidLooks := .later }
def BreaksTurnsCardSaid : Prop := Claim7.holds Tryd.pinned (.plain (OpenSpec.ofChange breaksTurnsSpec)) breaksTurnsCard

/-- THE TIED CARD OF 'windowpanelaw09.BreaksEnds'. -/
def breaksEndsCard : Claim7 := { stood := { row := breaksEndsRow, standIns := [], harness := (true, "4c743cad973e4393e9ac91ca4ef73fab829f9456440002d18ac799405a8cb6e2"), looks := false }, kinds := [], alts := [], laidByText := true, laidKinds := [.data, .pinned], laidTests := true, laidLooks := .later }
def BreaksEndsCardSaid : Prop := Claim7.holds Tryd.pinned (.plain (OpenSpec.ofChange breaksEndsSpec)) breaksEndsCard

/-- THE TIED CARD OF 'windowpanelaw09.BreaksBeside'. -/
def breaksBesideCard : Claim7 := { stood := { row := breaksBesideRow, standIns := [], harness := (true, "4c743cad973e4393e9ac91ca4ef73fab829f9456440002d18ac799405a8cb6e2"), looks := false }, kinds := [], alts := [], laidByText := true, laidKinds := [.data, .pinned], laidTests := true, laidLooks := .later }
def BreaksBesideCardSaid : Prop := Claim7.holds Tryd.pinned (.plain (OpenSpec.ofChange breaksBesideSpec)) breaksBesideCard

/-- THE SECOND FORM's CARD OF 'windowpanelaw09.BreaksCut'. -/
def breaksCutUptoCard : Claim7 := { stood := { row := breaksCutUptoRow, standIns := [], harness := (true, "4c743cad973e4393e9ac91ca4ef73fab829f9456440002d18ac799405a8cb6e2"), looks := false }, kinds := [], alts := [], laidByText := true, laidKinds := [.data, .pinned], laidTests := true, laidLooks := .later }
def BreaksCutUptoCardSaid : Prop := Claim7.holds Tryd.pinned (.plain (OpenSpec.upto breaksCutSpec)) breaksCutUptoCard

/-- THE SECOND FORM's CARD OF 'windowpanelaw09.BreaksShown'. -/
def breaksShownUptoCard : Claim7 := { stood := { row := breaksShownUptoRow, standIns := [], harness := (true, "4c743cad973e4393e9ac91ca4ef73fab829f9456440002d18ac799405a8cb6e2"), looks := false }, kinds := [], alts := [], laidByText := true, laidKinds := [.data, .pinned], laidTests := true, laidLooks := .later }
def BreaksShownUptoCardSaid : Prop := Claim7.holds Tryd.pinned (.plain (OpenSpec.upto breaksShownSpec)) breaksShownUptoCard

/-- THE SECOND FORM's CARD OF 'windowpanelaw09.BreaksTurns'. -/
def breaksTurnsUptoCard : Claim7 := { stood := { row := breaksTurnsUptoRow, standIns := [], harness := (true, "4c743cad973e4393e9ac91ca4ef73fab829f9456440002d18ac799405a8cb6e2"), looks := false }, kinds := [], alts := [], laidByText := true, laidKinds := [.data, .pinned], laidTests := true, laidLooks := .later }
def BreaksTurnsUptoCardSaid : Prop := Claim7.holds Tryd.pinned (.plain (OpenSpec.upto breaksTurnsSpec)) breaksTurnsUptoCard

/-- THE SECOND FORM's CARD OF 'windowpanelaw09.BreaksEnds'. -/
def breaksEndsUptoCard : Claim7 := { stood := { row := breaksEndsUptoRow, standIns := [], harness := (true, "4c743cad973e4393e9ac91ca4ef73fab829f9456440002d18ac799405a8cb6e2"), looks := false }, kinds := [], alts := [], laidByText := true, laidKinds := [.data, .pinned], laidTests := true, laidLooks := .later }
def BreaksEndsUptoCardSaid : Prop := Claim7.holds Tryd.pinned (.plain (OpenSpec.upto breaksEndsSpec)) breaksEndsUptoCard

/-- THE SECOND FORM's CARD OF 'windowpanelaw09.BreaksBeside'. -/
def breaksBesideUptoCard : Claim7 := { stood := { row := breaksBesideUptoRow, standIns := [], harness := (true, "4c743cad973e4393e9ac91ca4ef73fab829f9456440002d18ac799405a8cb6e2"), looks := false }, kinds := [], alts := [], laidByText := true, laidKinds := [.data, .pinned], laidTests := true, laidLooks := .later }
def BreaksBesideUptoCardSaid : Prop := Claim7.holds Tryd.pinned (.plain (OpenSpec.upto breaksBesideSpec)) breaksBesideUptoCard
end Rows
end Go.Proofs.YtlfmeagdelmlpaaDoor
