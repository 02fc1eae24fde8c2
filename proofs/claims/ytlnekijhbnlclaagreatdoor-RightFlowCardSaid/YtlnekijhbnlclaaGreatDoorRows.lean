/-
  NARROWER THAN 'FOR EVERY INPUT', by the rows' own cells (each row's printed sentence says how): LayoutOff: laid · LayoutAround: laid · LayoutHeight: laid · RightOne: laid · RightFlow: laid · RightLines: laid · RightHit: laid.
  DERIVED. THE GIVEN ROWS OF THIS SEAT. 7 by the template 'for every input the law returns true; each argument reads behind the call as it read before'; 0 by the template 'total and deterministic' (their statements: YtlnekijhbnlclaaGreatDoorTotals.lean).
  GIVEN WITH THE SEED: the statements are not yours to turn. If you find one false, say at which input.
  Laid BY PROGRAM, IN A SANDBOX (cutbox-rows.mjs): the forced cells as the released guide's own fill.sh prints them over the translation 0c1be74d60e4fb45… (all of the seat's roots in one cut). By AI agents, Wed Nov 11 2026. No macro, syntax, notation, axiom, sorry.
-/
import Derived.Test.YtlnekijhbnlclaaGreatDoorChecked
import GoSem.PinnedTables
import GoSem.Claim
import GoSem.ClaimJoined
import GoSem.ClaimMapViews
import Derived.JoinedTies
import Derived.KernelRfl
namespace Go.Proofs.YtlnekijhbnlclaaGreatDoor
/- THE CELL 'sum', in the pinned program and in every row, IS THE sha256 OF THE DUMP (.gsa) THAT YtlnekijhbnlclaaGreatDoorProg.lean LOADS. Nothing in Lean hashes anything: it is a label: what it is worth is what the hold of that sum in a sandbox is worth. -/
noncomputable def Tryz.pinned : Pinned := { name := "ytlnekijhbnlclaagreatdoor", sum := "0c1be74d60e4fb45051d637b6763dd1002eb1ea28a175914210f0b0145fafd1a", checked := Tryz.checked }
namespace Rows
def none {H : Type} : Left H := { results := [], args := [] }

/- WHAT THE LISTED PACKAGE-LEVEL VARIABLES READ AS WHEN THE CALL BEGINS. Each datum BY PROGRAM (the guide's laid-datum.mjs) off the statement by which the dump's own 'gosem.cut.vars' lays the variable. In a bare row this is a premise. The card (YtlnekijhbnlclaaGreatDoorCards.lean) ties it to the program's text. -/
def laid_unicode_utf8_acceptRanges {H : Type} : DataW H := .agg [.agg [.lit (.int .u8 128), .lit (.int .u8 191)], .agg [.lit (.int .u8 160), .lit (.int .u8 191)], .agg [.lit (.int .u8 128), .lit (.int .u8 159)], .agg [.lit (.int .u8 144), .lit (.int .u8 191)], .agg [.lit (.int .u8 128), .lit (.int .u8 143)], .agg [.lit (.int .u8 0), .lit (.int .u8 0)], .agg [.lit (.int .u8 0), .lit (.int .u8 0)], .agg [.lit (.int .u8 0), .lit (.int .u8 0)], .agg [.lit (.int .u8 0), .lit (.int .u8 0)], .agg [.lit (.int .u8 0), .lit (.int .u8 0)], .agg [.lit (.int .u8 0), .lit (.int .u8 0)], .agg [.lit (.int .u8 0), .lit (.int .u8 0)], .agg [.lit (.int .u8 0), .lit (.int .u8 0)], .agg [.lit (.int .u8 0), .lit (.int .u8 0)], .agg [.lit (.int .u8 0), .lit (.int .u8 0)], .agg [.lit (.int .u8 0), .lit (.int .u8 0)]]
/-- One of Go's own tables, pinned by name: the form's constant. -/
def laid_unicode_utf8_first : DataW Unit := Go.Pinned.utf8First

/-- 'windowpanelaw18.LayoutOff': WHATEVER THE INPUT: true; the input reads as it did. -/
def layoutOffSpec : ChangeSpec := { name := "layoutOff", fn := fun _ => fun
  | [d1, d2, d3, d4] => { results := [.lit (.bool true)], args := [d1, d2, d3, d4] }
  | _ => none }
def layoutOffRow : OpenClaim := { program := "ytlnekijhbnlclaagreatdoor", sum := "0c1be74d60e4fb45051d637b6763dd1002eb1ea28a175914210f0b0145fafd1a", func := "windowpane/windowpanelaw18.LayoutOff", spec := "layoutOff", inPlace := ["internal/abi.NoEscape", "internal/bytealg.CountString", "internal/bytealg.IndexByteString", "internal/bytealg.IndexString"], unfollowed := true, recurses := true, named := ["unicode/utf8.first", "unicode/utf8.acceptRanges", "internal/bytealg.MaxLen", "math/bits.divideError", "math/bits.overflowError"], apart := false, laid := [("unicode/utf8.acceptRanges", laid_unicode_utf8_acceptRanges), ("unicode/utf8.first", laid_unicode_utf8_first)] }
def LayoutOffSaid : Prop := layoutOffRow.holds Tryz.pinned (OpenSpec.ofChange layoutOffSpec)

/-- ITS FALSE NEIGHBOUR: 'it returns false'. Refute it at one input. -/
def layoutOffWrong : ChangeSpec := { name := "layoutOff", fn := fun _ => fun
  | [d1, d2, d3, d4] => { results := [.lit (.bool false)], args := [d1, d2, d3, d4] }
  | _ => none }
def LayoutOffWrongFalsely : Prop := layoutOffRow.holds Tryz.pinned (OpenSpec.ofChange layoutOffWrong)

/-- 'windowpanelaw18.LayoutAround': WHATEVER THE INPUT: true; the input reads as it did. -/
def layoutAroundSpec : ChangeSpec := { name := "layoutAround", fn := fun _ => fun
  | [d1, d2, d3] => { results := [.lit (.bool true)], args := [d1, d2, d3] }
  | _ => none }
def layoutAroundRow : OpenClaim := { program := "ytlnekijhbnlclaagreatdoor", sum := "0c1be74d60e4fb45051d637b6763dd1002eb1ea28a175914210f0b0145fafd1a", func := "windowpane/windowpanelaw18.LayoutAround", spec := "layoutAround", inPlace := ["internal/abi.NoEscape", "internal/bytealg.CountString", "internal/bytealg.IndexByteString", "internal/bytealg.IndexString"], unfollowed := true, recurses := true, named := ["unicode/utf8.first", "unicode/utf8.acceptRanges", "internal/bytealg.MaxLen", "math/bits.divideError", "math/bits.overflowError"], apart := false, laid := [("unicode/utf8.acceptRanges", laid_unicode_utf8_acceptRanges), ("unicode/utf8.first", laid_unicode_utf8_first)] }
def LayoutAroundSaid : Prop := layoutAroundRow.holds Tryz.pinned (OpenSpec.ofChange layoutAroundSpec)

/-- ITS FALSE NEIGHBOUR: 'it returns false'. Refute it at one input. -/
def layoutAroundWrong : ChangeSpec := { name := "layoutAround", fn := fun _ => fun
  | [d1, d2, d3] => { results := [.lit (.bool false)], args := [d1, d2, d3] }
  | _ => none }
def LayoutAroundWrongFalsely : Prop := layoutAroundRow.holds Tryz.pinned (OpenSpec.ofChange layoutAroundWrong)

/-- 'windowpanelaw18.LayoutHeight': WHATEVER THE INPUT: true; the input reads as it did. -/
def layoutHeightSpec : ChangeSpec := { name := "layoutHeight", fn := fun _ => fun
  | [d1, d2] => { results := [.lit (.bool true)], args := [d1, d2] }
  | _ => none }
def layoutHeightRow : OpenClaim := { program := "ytlnekijhbnlclaagreatdoor", sum := "0c1be74d60e4fb45051d637b6763dd1002eb1ea28a175914210f0b0145fafd1a", func := "windowpane/windowpanelaw18.LayoutHeight", spec := "layoutHeight", inPlace := ["internal/abi.NoEscape", "internal/bytealg.CountString", "internal/bytealg.IndexByteString", "internal/bytealg.IndexString"], unfollowed := true, recurses := true, named := ["unicode/utf8.first", "unicode/utf8.acceptRanges", "internal/bytealg.MaxLen", "math/bits.divideError", "math/bits.overflowError"], apart := false, laid := [("unicode/utf8.acceptRanges", laid_unicode_utf8_acceptRanges), ("unicode/utf8.first", laid_unicode_utf8_first)] }
def LayoutHeightSaid : Prop := layoutHeightRow.holds Tryz.pinned (OpenSpec.ofChange layoutHeightSpec)

/-- ITS FALSE NEIGHBOUR: 'it returns false'. Refute it at one input. -/
def layoutHeightWrong : ChangeSpec := { name := "layoutHeight", fn := fun _ => fun
  | [d1, d2] => { results := [.lit (.bool false)], args := [d1, d2] }
  | _ => none }
def LayoutHeightWrongFalsely : Prop := layoutHeightRow.holds Tryz.pinned (OpenSpec.ofChange layoutHeightWrong)

/-- 'windowpanelaw19.RightOne': WHATEVER THE INPUT: true; the input reads as it did. -/
def rightOneSpec : ChangeSpec := { name := "rightOne", fn := fun _ => fun
  | [d1, d2, d3, d4] => { results := [.lit (.bool true)], args := [d1, d2, d3, d4] }
  | _ => none }
def rightOneRow : OpenClaim := { program := "ytlnekijhbnlclaagreatdoor", sum := "0c1be74d60e4fb45051d637b6763dd1002eb1ea28a175914210f0b0145fafd1a", func := "windowpane/windowpanelaw19.RightOne", spec := "rightOne", inPlace := ["internal/abi.NoEscape", "internal/bytealg.CountString", "internal/bytealg.IndexByteString", "internal/bytealg.IndexString"], unfollowed := true, recurses := true, named := ["unicode/utf8.first", "unicode/utf8.acceptRanges", "internal/bytealg.MaxLen", "math/bits.divideError", "math/bits.overflowError"], apart := false, laid := [("unicode/utf8.acceptRanges", laid_unicode_utf8_acceptRanges), ("unicode/utf8.first", laid_unicode_utf8_first)] }
def RightOneSaid : Prop := rightOneRow.holds Tryz.pinned (OpenSpec.ofChange rightOneSpec)

/-- ITS FALSE NEIGHBOUR: 'it returns false'. Refute it at one input. -/
def rightOneWrong : ChangeSpec := { name := "rightOne", fn := fun _ => fun
  | [d1, d2, d3, d4] => { results := [.lit (.bool false)], args := [d1, d2, d3, d4] }
  | _ => none }
def RightOneWrongFalsely : Prop := rightOneRow.holds Tryz.pinned (OpenSpec.ofChange rightOneWrong)

/-- 'windowpanelaw19.RightFlow': WHATEVER THE INPUT: true; the input reads as it did. -/
def rightFlowSpec : ChangeSpec := { name := "rightFlow", fn := fun _ => fun
  | [d1, d2] => { results := [.lit (.bool true)], args := [d1, d2] }
  | _ => none }
def rightFlowRow : OpenClaim := { program := "ytlnekijhbnlclaagreatdoor", sum := "0c1be74d60e4fb45051d637b6763dd1002eb1ea28a175914210f0b0145fafd1a", func := "windowpane/windowpanelaw19.RightFlow", spec := "rightFlow", inPlace := ["internal/abi.NoEscape", "internal/bytealg.CountString", "internal/bytealg.IndexByteString", "internal/bytealg.IndexString"], unfollowed := true, recurses := true, named := ["unicode/utf8.first", "unicode/utf8.acceptRanges", "internal/bytealg.MaxLen", "math/bits.divideError", "math/bits.overflowError"], apart := false, laid := [("unicode/utf8.acceptRanges", laid_unicode_utf8_acceptRanges), ("unicode/utf8.first", laid_unicode_utf8_first)] }
def RightFlowSaid : Prop := rightFlowRow.holds Tryz.pinned (OpenSpec.ofChange rightFlowSpec)

/-- ITS FALSE NEIGHBOUR: 'it returns false'. Refute it at one input. -/
def rightFlowWrong : ChangeSpec := { name := "rightFlow", fn := fun _ => fun
  | [d1, d2] => { results := [.lit (.bool false)], args := [d1, d2] }
  | _ => none }
def RightFlowWrongFalsely : Prop := rightFlowRow.holds Tryz.pinned (OpenSpec.ofChange rightFlowWrong)

/-- 'windowpanelaw19.RightLines': WHATEVER THE INPUT: true; the input reads as it did. -/
def rightLinesSpec : ChangeSpec := { name := "rightLines", fn := fun _ => fun
  | [d1, d2] => { results := [.lit (.bool true)], args := [d1, d2] }
  | _ => none }
def rightLinesRow : OpenClaim := { program := "ytlnekijhbnlclaagreatdoor", sum := "0c1be74d60e4fb45051d637b6763dd1002eb1ea28a175914210f0b0145fafd1a", func := "windowpane/windowpanelaw19.RightLines", spec := "rightLines", inPlace := ["internal/abi.NoEscape", "internal/bytealg.CountString", "internal/bytealg.IndexByteString", "internal/bytealg.IndexString"], unfollowed := true, recurses := true, named := ["unicode/utf8.first", "unicode/utf8.acceptRanges", "internal/bytealg.MaxLen", "math/bits.divideError", "math/bits.overflowError"], apart := false, laid := [("unicode/utf8.acceptRanges", laid_unicode_utf8_acceptRanges), ("unicode/utf8.first", laid_unicode_utf8_first)] }
def RightLinesSaid : Prop := rightLinesRow.holds Tryz.pinned (OpenSpec.ofChange rightLinesSpec)

/-- ITS FALSE NEIGHBOUR: 'it returns false'. Refute it at one input. -/
def rightLinesWrong : ChangeSpec := { name := "rightLines", fn := fun _ => fun
  | [d1, d2] => { results := [.lit (.bool false)], args := [d1, d2] }
  | _ => none }
def RightLinesWrongFalsely : Prop := rightLinesRow.holds Tryz.pinned (OpenSpec.ofChange rightLinesWrong)

/-- 'windowpanelaw19.RightHit': WHATEVER THE INPUT: true; the input reads as it did. -/
def rightHitSpec : ChangeSpec := { name := "rightHit", fn := fun _ => fun
  | [d1, d2, d3] => { results := [.lit (.bool true)], args := [d1, d2, d3] }
  | _ => none }
def rightHitRow : OpenClaim := { program := "ytlnekijhbnlclaagreatdoor", sum := "0c1be74d60e4fb45051d637b6763dd1002eb1ea28a175914210f0b0145fafd1a", func := "windowpane/windowpanelaw19.RightHit", spec := "rightHit", inPlace := ["internal/abi.NoEscape", "internal/bytealg.CountString", "internal/bytealg.IndexByteString", "internal/bytealg.IndexString"], unfollowed := true, recurses := true, named := ["unicode/utf8.first", "unicode/utf8.acceptRanges", "internal/bytealg.MaxLen", "math/bits.divideError", "math/bits.overflowError"], apart := false, laid := [("unicode/utf8.acceptRanges", laid_unicode_utf8_acceptRanges), ("unicode/utf8.first", laid_unicode_utf8_first)] }
def RightHitSaid : Prop := rightHitRow.holds Tryz.pinned (OpenSpec.ofChange rightHitSpec)

/-- ITS FALSE NEIGHBOUR: 'it returns false'. Refute it at one input. -/
def rightHitWrong : ChangeSpec := { name := "rightHit", fn := fun _ => fun
  | [d1, d2, d3] => { results := [.lit (.bool false)], args := [d1, d2, d3] }
  | _ => none }
def RightHitWrongFalsely : Prop := rightHitRow.holds Tryz.pinned (OpenSpec.ofChange rightHitWrong)

/- THE SECOND FORM. 'bulk': how many values and letters a reading holds, each counted each time it is reached (what is shared counts as often as it is met; a slice's spare places count too). A statement '..UptoSaid' is the law's where the arguments, and the package variables that the reading takes, are together of bulk at most 1048576: NARROWER than '..Said'. Prove '..Said' where nothing that the law and all that it calls make is longer than what came in: it says more and counts as full. Else prove '..UptoSaid'. A law counts once. -/
mutual
def uptoBulk {H : Type} : DataW H → Nat
  | .lit (.string bytes) => bytes.length + 1
  | .lit _ => 1
  | .nil => 1
  | .ptr d => uptoBulk d + 1
  | .slice elems spare => uptoBulkAll elems + uptoBulkAll spare + 1
  | .agg parts => uptoBulkAll parts + 1
  | .iface _ d => uptoBulk d + 1
  | .map entries => uptoBulkEntries entries + 1
  | .held _ => 1
def uptoBulkAll {H : Type} : List (DataW H) → Nat
  | [] => 0
  | d :: r => uptoBulk d + uptoBulkAll r
def uptoBulkEntries {H : Type} : List (Lit × DataW H) → Nat
  | [] => 0
  | x :: r => uptoBulkEntry x + uptoBulkEntries r
def uptoBulkEntry {H : Type} : Lit × DataW H → Nat
  | (.string bytes, d) => bytes.length + uptoBulk d + 1
  | (_, d) => uptoBulk d + 1
 end
def uptoSmall : (H : Type) → List (DataW H) → Bool := fun _ ds => decide (uptoBulkAll ds ≤ 1048576)
def OpenSpec.upto (s : _root_.Go.ChangeSpec) : _root_.Go.OpenSpec := { _root_.Go.OpenSpec.ofChange s with cond := some uptoSmall }

/-- 'windowpanelaw18.LayoutOff', WHERE WHAT IT READS IS OF BULK AT MOST 1048576: true; the input reads as it did. -/
def layoutOffUptoRow : OpenClaim := { program := "ytlnekijhbnlclaagreatdoor", sum := "0c1be74d60e4fb45051d637b6763dd1002eb1ea28a175914210f0b0145fafd1a", func := "windowpane/windowpanelaw18.LayoutOff", spec := "layoutOff", inPlace := ["internal/abi.NoEscape", "internal/bytealg.CountString", "internal/bytealg.IndexByteString", "internal/bytealg.IndexString"], unfollowed := true, recurses := true, named := ["unicode/utf8.first", "unicode/utf8.acceptRanges", "internal/bytealg.MaxLen", "math/bits.divideError", "math/bits.overflowError"], apart := false, laid := [("unicode/utf8.acceptRanges", laid_unicode_utf8_acceptRanges), ("unicode/utf8.first", laid_unicode_utf8_first)], narrowed := true }
def LayoutOffUptoSaid : Prop := layoutOffUptoRow.holds Tryz.pinned (OpenSpec.upto layoutOffSpec)

/-- 'windowpanelaw18.LayoutAround', WHERE WHAT IT READS IS OF BULK AT MOST 1048576: true; the input reads as it did. -/
def layoutAroundUptoRow : OpenClaim := { program := "ytlnekijhbnlclaagreatdoor", sum := "0c1be74d60e4fb45051d637b6763dd1002eb1ea28a175914210f0b0145fafd1a", func := "windowpane/windowpanelaw18.LayoutAround", spec := "layoutAround", inPlace := ["internal/abi.NoEscape", "internal/bytealg.CountString", "internal/bytealg.IndexByteString", "internal/bytealg.IndexString"], unfollowed := true, recurses := true, named := ["unicode/utf8.first", "unicode/utf8.acceptRanges", "internal/bytealg.MaxLen", "math/bits.divideError", "math/bits.overflowError"], apart := false, laid := [("unicode/utf8.acceptRanges", laid_unicode_utf8_acceptRanges), ("unicode/utf8.first", laid_unicode_utf8_first)], narrowed := true }
def LayoutAroundUptoSaid : Prop := layoutAroundUptoRow.holds Tryz.pinned (OpenSpec.upto layoutAroundSpec)

/-- 'windowpanelaw18.LayoutHeight', WHERE WHAT IT READS IS OF BULK AT MOST 1048576: true; the input reads as it did. -/
def layoutHeightUptoRow : OpenClaim := { program := "ytlnekijhbnlclaagreatdoor", sum := "0c1be74d60e4fb45051d637b6763dd1002eb1ea28a175914210f0b0145fafd1a", func := "windowpane/windowpanelaw18.LayoutHeight", spec := "layoutHeight", inPlace := ["internal/abi.NoEscape", "internal/bytealg.CountString", "internal/bytealg.IndexByteString", "internal/bytealg.IndexString"], unfollowed := true, recurses := true, named := ["unicode/utf8.first", "unicode/utf8.acceptRanges", "internal/bytealg.MaxLen", "math/bits.divideError", "math/bits.overflowError"], apart := false, laid := [("unicode/utf8.acceptRanges", laid_unicode_utf8_acceptRanges), ("unicode/utf8.first", laid_unicode_utf8_first)], narrowed := true }
def LayoutHeightUptoSaid : Prop := layoutHeightUptoRow.holds Tryz.pinned (OpenSpec.upto layoutHeightSpec)

/-- 'windowpanelaw19.RightOne', WHERE WHAT IT READS IS OF BULK AT MOST 1048576: true; the input reads as it did. -/
def rightOneUptoRow : OpenClaim := { program := "ytlnekijhbnlclaagreatdoor", sum := "0c1be74d60e4fb45051d637b6763dd1002eb1ea28a175914210f0b0145fafd1a", func := "windowpane/windowpanelaw19.RightOne", spec := "rightOne", inPlace := ["internal/abi.NoEscape", "internal/bytealg.CountString", "internal/bytealg.IndexByteString", "internal/bytealg.IndexString"], unfollowed := true, recurses := true, named := ["unicode/utf8.first", "unicode/utf8.acceptRanges", "internal/bytealg.MaxLen", "math/bits.divideError", "math/bits.overflowError"], apart := false, laid := [("unicode/utf8.acceptRanges", laid_unicode_utf8_acceptRanges), ("unicode/utf8.first", laid_unicode_utf8_first)], narrowed := true }
def RightOneUptoSaid : Prop := rightOneUptoRow.holds Tryz.pinned (OpenSpec.upto rightOneSpec)

/-- 'windowpanelaw19.RightFlow', WHERE WHAT IT READS IS OF BULK AT MOST 1048576: true; the input reads as it did. -/
def rightFlowUptoRow : OpenClaim := { program := "ytlnekijhbnlclaagreatdoor", sum := "0c1be74d60e4fb45051d637b6763dd1002eb1ea28a175914210f0b0145fafd1a", func := "windowpane/windowpanelaw19.RightFlow", spec := "rightFlow", inPlace := ["internal/abi.NoEscape", "internal/bytealg.CountString", "internal/bytealg.IndexByteString", "internal/bytealg.IndexString"], unfollowed := true, recurses := true, named := ["unicode/utf8.first", "unicode/utf8.acceptRanges", "internal/bytealg.MaxLen", "math/bits.divideError", "math/bits.overflowError"], apart := false, laid := [("unicode/utf8.acceptRanges", laid_unicode_utf8_acceptRanges), ("unicode/utf8.first", laid_unicode_utf8_first)], narrowed := true }
def RightFlowUptoSaid : Prop := rightFlowUptoRow.holds Tryz.pinned (OpenSpec.upto rightFlowSpec)

/-- 'windowpanelaw19.RightLines', WHERE WHAT IT READS IS OF BULK AT MOST 1048576: true; the input reads as it did. -/
def rightLinesUptoRow : OpenClaim := { program := "ytlnekijhbnlclaagreatdoor", sum := "0c1be74d60e4fb45051d637b6763dd1002eb1ea28a175914210f0b0145fafd1a", func := "windowpane/windowpanelaw19.RightLines", spec := "rightLines", inPlace := ["internal/abi.NoEscape", "internal/bytealg.CountString", "internal/bytealg.IndexByteString", "internal/bytealg.IndexString"], unfollowed := true, recurses := true, named := ["unicode/utf8.first", "unicode/utf8.acceptRanges", "internal/bytealg.MaxLen", "math/bits.divideError", "math/bits.overflowError"], apart := false, laid := [("unicode/utf8.acceptRanges", laid_unicode_utf8_acceptRanges), ("unicode/utf8.first", laid_unicode_utf8_first)], narrowed := true }
def RightLinesUptoSaid : Prop := rightLinesUptoRow.holds Tryz.pinned (OpenSpec.upto rightLinesSpec)

/-- 'windowpanelaw19.RightHit', WHERE WHAT IT READS IS OF BULK AT MOST 1048576: true; the input reads as it did. -/
def rightHitUptoRow : OpenClaim := { program := "ytlnekijhbnlclaagreatdoor", sum := "0c1be74d60e4fb45051d637b6763dd1002eb1ea28a175914210f0b0145fafd1a", func := "windowpane/windowpanelaw19.RightHit", spec := "rightHit", inPlace := ["internal/abi.NoEscape", "internal/bytealg.CountString", "internal/bytealg.IndexByteString", "internal/bytealg.IndexString"], unfollowed := true, recurses := true, named := ["unicode/utf8.first", "unicode/utf8.acceptRanges", "internal/bytealg.MaxLen", "math/bits.divideError", "math/bits.overflowError"], apart := false, laid := [("unicode/utf8.acceptRanges", laid_unicode_utf8_acceptRanges), ("unicode/utf8.first", laid_unicode_utf8_first)], narrowed := true }
def RightHitUptoSaid : Prop := rightHitUptoRow.holds Tryz.pinned (OpenSpec.upto rightHitSpec)

end Rows
end Go.Proofs.YtlnekijhbnlclaaGreatDoor
