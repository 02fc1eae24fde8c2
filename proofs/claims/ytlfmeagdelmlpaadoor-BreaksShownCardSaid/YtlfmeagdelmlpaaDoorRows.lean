/-
  NARROWER THAN 'FOR EVERY INPUT', by the rows' own cells (each row's printed sentence says how): BreaksCut: laid · BreaksShown: laid · BreaksTurns: laid · BreaksEnds: laid · BreaksBeside: laid.
  DERIVED. THE GIVEN ROWS OF THIS SEAT. 5 by the template 'for every input the law returns true; each argument reads behind the call as it read before'; 0 by the template 'total and deterministic' (their statements: YtlfmeagdelmlpaaDoorTotals.lean).
  GIVEN WITH THE SEED: the statements are not yours to turn. If you find one false, say at which input.
  Laid BY PROGRAM, IN A SANDBOX (cutbox-rows.mjs): the forced cells as the released guide's own fill.sh prints them over the translation e3b0384950a6823b… (all of the seat's roots in one cut). By AI agents, Wed Nov 11 2026. No macro, syntax, notation, axiom, sorry.
-/
import Derived.Test.YtlfmeagdelmlpaaDoorChecked
import GoSem.PinnedTables
import GoSem.Claim
import GoSem.ClaimJoined
import GoSem.ClaimMapViews
import Derived.JoinedTies
import Derived.KernelRfl
namespace Go.Proofs.YtlfmeagdelmlpaaDoor
/- THE CELL 'sum', in the pinned program and in every row, IS THE sha256 OF THE DUMP (.gsa) THAT YtlfmeagdelmlpaaDoorProg.lean LOADS. Nothing in Lean hashes anything: it is a label: what it is worth is what the hold of that sum in a sandbox is worth. -/
noncomputable def Tryd.pinned : Pinned := { name := "ytlfmeagdelmlpaadoor", sum := "e3b0384950a6823bd69d6f9cc243f2c11f229fbb51ff3549b4e4781bed643fcd", checked := Tryd.checked }
namespace Rows
def none {H : Type} : Left H := { results := [], args := [] }

/- WHAT THE LISTED PACKAGE-LEVEL VARIABLES READ AS WHEN THE CALL BEGINS. Each datum BY PROGRAM (the guide's laid-datum.mjs) off the statement by which the dump's own 'gosem.cut.vars' lays the variable. In a bare row this is a premise. The card (YtlfmeagdelmlpaaDoorCards.lean) ties it to the program's text. -/
def laid_unicode_utf8_acceptRanges {H : Type} : DataW H := .agg [.agg [.lit (.int .u8 128), .lit (.int .u8 191)], .agg [.lit (.int .u8 160), .lit (.int .u8 191)], .agg [.lit (.int .u8 128), .lit (.int .u8 159)], .agg [.lit (.int .u8 144), .lit (.int .u8 191)], .agg [.lit (.int .u8 128), .lit (.int .u8 143)], .agg [.lit (.int .u8 0), .lit (.int .u8 0)], .agg [.lit (.int .u8 0), .lit (.int .u8 0)], .agg [.lit (.int .u8 0), .lit (.int .u8 0)], .agg [.lit (.int .u8 0), .lit (.int .u8 0)], .agg [.lit (.int .u8 0), .lit (.int .u8 0)], .agg [.lit (.int .u8 0), .lit (.int .u8 0)], .agg [.lit (.int .u8 0), .lit (.int .u8 0)], .agg [.lit (.int .u8 0), .lit (.int .u8 0)], .agg [.lit (.int .u8 0), .lit (.int .u8 0)], .agg [.lit (.int .u8 0), .lit (.int .u8 0)], .agg [.lit (.int .u8 0), .lit (.int .u8 0)]]
/-- One of Go's own tables, pinned by name: the form's constant. -/
def laid_unicode_utf8_first : DataW Unit := Go.Pinned.utf8First

/-- 'windowpanelaw09.BreaksCut': WHATEVER THE INPUT: true; the input reads as it did. -/
def breaksCutSpec : ChangeSpec := { name := "breaksCut", fn := fun _ => fun
  | [d1, d2] => { results := [.lit (.bool true)], args := [d1, d2] }
  | _ => none }
def breaksCutRow : OpenClaim := { program := "ytlfmeagdelmlpaadoor", sum := "e3b0384950a6823bd69d6f9cc243f2c11f229fbb51ff3549b4e4781bed643fcd", func := "windowpane/windowpanelaw09.BreaksCut", spec := "breaksCut", inPlace := ["internal/abi.NoEscape", "internal/bytealg.CountString", "internal/bytealg.IndexByteString", "internal/bytealg.IndexString"], unfollowed := true, recurses := true, named := ["unicode/utf8.first", "unicode/utf8.acceptRanges", "internal/bytealg.MaxLen"], apart := false, laid := [("unicode/utf8.acceptRanges", laid_unicode_utf8_acceptRanges), ("unicode/utf8.first", laid_unicode_utf8_first)] }
def BreaksCutSaid : Prop := breaksCutRow.holds Tryd.pinned (OpenSpec.ofChange breaksCutSpec)

/-- ITS FALSE NEIGHBOUR: 'it returns false'. Refute it at one input. -/
def breaksCutWrong : ChangeSpec := { name := "breaksCut", fn := fun _ => fun
  | [d1, d2] => { results := [.lit (.bool false)], args := [d1, d2] }
  | _ => none }
def BreaksCutWrongFalsely : Prop := breaksCutRow.holds Tryd.pinned (OpenSpec.ofChange breaksCutWrong)

/-- 'windowpanelaw09.BreaksShown': WHATEVER THE INPUT: true; the input reads as it did. -/
def breaksShownSpec : ChangeSpec := { name := "breaksShown", fn := fun _ => fun
  | [d1, d2] => { results := [.lit (.bool true)], args := [d1, d2] }
  | _ => none }
def breaksShownRow : OpenClaim := { program := "ytlfmeagdelmlpaadoor", sum := "e3b0384950a6823bd69d6f9cc243f2c11f229fbb51ff3549b4e4781bed643fcd", func := "windowpane/windowpanelaw09.BreaksShown", spec := "breaksShown", inPlace := ["internal/abi.NoEscape", "internal/bytealg.CountString", "internal/bytealg.IndexByteString", "internal/bytealg.IndexString"], unfollowed := true, recurses := true, named := ["unicode/utf8.first", "unicode/utf8.acceptRanges", "internal/bytealg.MaxLen"], apart := false, laid := [("unicode/utf8.acceptRanges", laid_unicode_utf8_acceptRanges), ("unicode/utf8.first", laid_unicode_utf8_first)] }
def BreaksShownSaid : Prop := breaksShownRow.holds Tryd.pinned (OpenSpec.ofChange breaksShownSpec)

/-- ITS FALSE NEIGHBOUR: 'it returns false'. Refute it at one input. -/
def breaksShownWrong : ChangeSpec := { name := "breaksShown", fn := fun _ => fun
  | [d1, d2] => { results := [.lit (.bool false)], args := [d1, d2] }
  | _ => none }
def BreaksShownWrongFalsely : Prop := breaksShownRow.holds Tryd.pinned (OpenSpec.ofChange breaksShownWrong)

/-- 'windowpanelaw09.BreaksTurns': WHATEVER THE INPUT: true; the input reads as it did. -/
def breaksTurnsSpec : ChangeSpec := { name := "breaksTurns", fn := fun _ => fun
  | [d] => { results := [.lit (.bool true)], args := [d] }
  | _ => none }
def breaksTurnsRow : OpenClaim := { program := "ytlfmeagdelmlpaadoor", sum := "e3b0384950a6823bd69d6f9cc243f2c11f229fbb51ff3549b4e4781bed643fcd", func := "windowpane/windowpanelaw09.BreaksTurns", spec := "breaksTurns", inPlace := ["internal/abi.NoEscape", "internal/bytealg.CountString", "internal/bytealg.IndexByteString", "internal/bytealg.IndexString"], unfollowed := true, recurses := true, named := ["unicode/utf8.first", "unicode/utf8.acceptRanges", "internal/bytealg.MaxLen"], apart := false, laid := [("unicode/utf8.acceptRanges", laid_unicode_utf8_acceptRanges), ("unicode/utf8.first", laid_unicode_utf8_first)] }
def BreaksTurnsSaid : Prop := breaksTurnsRow.holds Tryd.pinned (OpenSpec.ofChange breaksTurnsSpec)

/-- ITS FALSE NEIGHBOUR: 'it returns false'. Refute it at one input. -/
def breaksTurnsWrong : ChangeSpec := { name := "breaksTurns", fn := fun _ => fun
  | [d] => { results := [.lit (.bool false)], args := [d] }
  | _ => none }
def BreaksTurnsWrongFalsely : Prop := breaksTurnsRow.holds Tryd.pinned (OpenSpec.ofChange breaksTurnsWrong)

/-- 'windowpanelaw09.BreaksEnds': WHATEVER THE INPUT: true; the input reads as it did. -/
def breaksEndsSpec : ChangeSpec := { name := "breaksEnds", fn := fun _ => fun
  | [d] => { results := [.lit (.bool true)], args := [d] }
  | _ => none }
def breaksEndsRow : OpenClaim := { program := "ytlfmeagdelmlpaadoor", sum := "e3b0384950a6823bd69d6f9cc243f2c11f229fbb51ff3549b4e4781bed643fcd", func := "windowpane/windowpanelaw09.BreaksEnds", spec := "breaksEnds", inPlace := ["internal/abi.NoEscape", "internal/bytealg.CountString", "internal/bytealg.IndexByteString", "internal/bytealg.IndexString"], unfollowed := true, recurses := true, named := ["unicode/utf8.first", "unicode/utf8.acceptRanges", "internal/bytealg.MaxLen"], apart := false, laid := [("unicode/utf8.acceptRanges", laid_unicode_utf8_acceptRanges), ("unicode/utf8.first", laid_unicode_utf8_first)] }
def BreaksEndsSaid : Prop := breaksEndsRow.holds Tryd.pinned (OpenSpec.ofChange breaksEndsSpec)

/-- ITS FALSE NEIGHBOUR: 'it returns false'. Refute it at one input. -/
def breaksEndsWrong : ChangeSpec := { name := "breaksEnds", fn := fun _ => fun
  | [d] => { results := [.lit (.bool false)], args := [d] }
  | _ => none }
def BreaksEndsWrongFalsely : Prop := breaksEndsRow.holds Tryd.pinned (OpenSpec.ofChange breaksEndsWrong)

/-- 'windowpanelaw09.BreaksBeside': WHATEVER THE INPUT: true; the input reads as it did. -/
def breaksBesideSpec : ChangeSpec := { name := "breaksBeside", fn := fun _ => fun
  | [d1, d2, d3] => { results := [.lit (.bool true)], args := [d1, d2, d3] }
  | _ => none }
def breaksBesideRow : OpenClaim := { program := "ytlfmeagdelmlpaadoor", sum := "e3b0384950a6823bd69d6f9cc243f2c11f229fbb51ff3549b4e4781bed643fcd", func := "windowpane/windowpanelaw09.BreaksBeside", spec := "breaksBeside", inPlace := ["internal/abi.NoEscape", "internal/bytealg.CountString", "internal/bytealg.IndexByteString", "internal/bytealg.IndexString"], unfollowed := true, recurses := true, named := ["unicode/utf8.first", "unicode/utf8.acceptRanges", "internal/bytealg.MaxLen"], apart := false, laid := [("unicode/utf8.acceptRanges", laid_unicode_utf8_acceptRanges), ("unicode/utf8.first", laid_unicode_utf8_first)] }
def BreaksBesideSaid : Prop := breaksBesideRow.holds Tryd.pinned (OpenSpec.ofChange breaksBesideSpec)

/-- ITS FALSE NEIGHBOUR: 'it returns false'. Refute it at one input. -/
def breaksBesideWrong : ChangeSpec := { name := "breaksBeside", fn := fun _ => fun
  | [d1, d2, d3] => { results := [.lit (.bool false)], args := [d1, d2, d3] }
  | _ => none }
def BreaksBesideWrongFalsely : Prop := breaksBesideRow.holds Tryd.pinned (OpenSpec.ofChange breaksBesideWrong)

/- THE SECOND FORM. 'bulk': how many values and letters a reading holds, each counted each time it is reached (what is shared counts as often as it is met; a slice's spare places count too). A statement '..UptoSaid' is the law's where the arguments, and the package variables that the reading takes, are together of bulk at most 1048576: NARROWER than '..Said'. Prove '..Said' where nothing that the law and all that it calls make is longer than what came in: it says more and counts as full. Else prove '..UptoSaid'. A law counts once. -/
mutual
def uptoBulk {H : Type} : DataW H → Nat
  | .lit (.string bytes) => bytes.length + 1
  | .lit _ => 1
  | .nil => 1
  | .ptr d => uptoBulk d + 1
  | .slice elems spare => uptoBulkAll elems + uptoBulkAll spare + 1
  | .agg parts => uptoBulkAll parts + 1
  | .iface _ d => uptoBulk d + 1
  | .map entries => uptoBulkEntries entries + 1
  | .held _ => 1
def uptoBulkAll {H : Type} : List (DataW H) → Nat
  | [] => 0
  | d :: r => uptoBulk d + uptoBulkAll r
def uptoBulkEntries {H : Type} : List (Lit × DataW H) → Nat
  | [] => 0
  | x :: r => uptoBulkEntry x + uptoBulkEntries r
def uptoBulkEntry {H : Type} : Lit × DataW H → Nat
  | (.string bytes, d) => bytes.length + uptoBulk d + 1
  | (_, d) => uptoBulk d + 1
 end
def uptoSmall : (H : Type) → List (DataW H) → Bool := fun _ ds => decide (uptoBulkAll ds ≤ 1048576)
def OpenSpec.upto (s : _root_.Go.ChangeSpec) : _root_.Go.OpenSpec := { _root_.Go.OpenSpec.ofChange s with cond := some uptoSmall }

/-- 'windowpanelaw09.BreaksCut', WHERE WHAT IT READS IS OF BULK AT MOST 1048576: true; the input reads as it did. -/
def breaksCutUptoRow : OpenClaim := { program := "ytlfmeagdelmlpaadoor", sum := "e3b0384950a6823bd69d6f9cc243f2c11f229fbb51ff3549b4e4781bed643fcd", func := "windowpane/windowpanelaw09.BreaksCut", spec := "breaksCut", inPlace := ["internal/abi.NoEscape", "internal/bytealg.CountString", "internal/bytealg.IndexByteString", "internal/bytealg.IndexString"], unfollowed := true, recurses := true, named := ["unicode/utf8.first", "unicode/utf8.acceptRanges", "internal/bytealg.MaxLen"], apart := false, laid := [("unicode/utf8.acceptRanges", laid_unicode_utf8_acceptRanges), ("unicode/utf8.first", laid_unicode_utf8_first)], narrowed := true }
def BreaksCutUptoSaid : Prop := breaksCutUptoRow.holds Tryd.pinned (OpenSpec.upto breaksCutSpec)

/-- 'windowpanelaw09.BreaksShown', WHERE WHAT IT READS IS OF BULK AT MOST 1048576: true; the input reads as it did. -/
def breaksShownUptoRow : OpenClaim := { program := "ytlfmeagdelmlpaadoor", sum := "e3b0384950a6823bd69d6f9cc243f2c11f229fbb51ff3549b4e4781bed643fcd", func := "windowpane/windowpanelaw09.BreaksShown", spec := "breaksShown", inPlace := ["internal/abi.NoEscape", "internal/bytealg.CountString", "internal/bytealg.IndexByteString", "internal/bytealg.IndexString"], unfollowed := true, recurses := true, named := ["unicode/utf8.first", "unicode/utf8.acceptRanges", "internal/bytealg.MaxLen"], apart := false, laid := [("unicode/utf8.acceptRanges", laid_unicode_utf8_acceptRanges), ("unicode/utf8.first", laid_unicode_utf8_first)], narrowed := true }
def BreaksShownUptoSaid : Prop := breaksShownUptoRow.holds Tryd.pinned (OpenSpec.upto breaksShownSpec)

/-- 'windowpanelaw09.BreaksTurns', WHERE WHAT IT READS IS OF BULK AT MOST 1048576: true; the input reads as it did. -/
def breaksTurnsUptoRow : OpenClaim := { program := "ytlfmeagdelmlpaadoor", sum := "e3b0384950a6823bd69d6f9cc243f2c11f229fbb51ff3549b4e4781bed643fcd", func := "windowpane/windowpanelaw09.BreaksTurns", spec := "breaksTurns", inPlace := ["internal/abi.NoEscape", "internal/bytealg.CountString", "internal/bytealg.IndexByteString", "internal/bytealg.IndexString"], unfollowed := true, recurses := true, named := ["unicode/utf8.first", "unicode/utf8.acceptRanges", "internal/bytealg.MaxLen"], apart := false, laid := [("unicode/utf8.acceptRanges", laid_unicode_utf8_acceptRanges), ("unicode/utf8.first", laid_unicode_utf8_first)], narrowed := true }
def BreaksTurnsUptoSaid : Prop := breaksTurnsUptoRow.holds Tryd.pinned (OpenSpec.upto breaksTurnsSpec)

/-- 'windowpanelaw09.BreaksEnds', WHERE WHAT IT READS IS OF BULK AT MOST 1048576: true; the input reads as it did. -/
def breaksEndsUptoRow : OpenClaim := { program := "ytlfmeagdelmlpaadoor", sum := "e3b0384950a6823bd69d6f9cc243f2c11f229fbb51ff3549b4e4781bed643fcd", func := "windowpane/windowpanelaw09.BreaksEnds", spec := "breaksEnds", inPlace := ["internal/abi.NoEscape", "internal/bytealg.CountString", "internal/bytealg.IndexByteString", "internal/bytealg.IndexString"], unfollowed := true, recurses := true, named := ["unicode/utf8.first", "unicode/utf8.acceptRanges", "internal/bytealg.MaxLen"], apart := false, laid := [("unicode/utf8.acceptRanges", laid_unicode_utf8_acceptRanges), ("unicode/utf8.first", laid_unicode_utf8_first)], narrowed := true }
def BreaksEndsUptoSaid : Prop := breaksEndsUptoRow.holds Tryd.pinned (OpenSpec.upto breaksEndsSpec)

/-- 'windowpanelaw09.BreaksBeside', WHERE WHAT IT READS IS OF BULK AT MOST 1048576: true; the input reads as it did. -/
def breaksBesideUptoRow : OpenClaim := { program := "ytlfmeagdelmlpaadoor", sum := "e3b0384950a6823bd69d6f9cc243f2c11f229fbb51ff3549b4e4781bed643fcd", func := "windowpane/windowpanelaw09.BreaksBeside", spec := "breaksBeside", inPlace := ["internal/abi.NoEscape", "internal/bytealg.CountString", "internal/bytealg.IndexByteString", "internal/bytealg.IndexString"], unfollowed := true, recurses := true, named := ["unicode/utf8.first", "unicode/utf8.acceptRanges", "internal/bytealg.MaxLen"], apart := false, laid := [("unicode/utf8.acceptRanges", laid_unicode_utf8_acceptRanges), ("unicode/utf8.first", laid_unicode_utf8_first)], narrowed := true }
def BreaksBesideUptoSaid : Prop := breaksBesideUptoRow.holds Tryd.pinned (OpenSpec.upto breaksBesideSpec)

end Rows
end Go.Proofs.YtlfmeagdelmlpaaDoor
