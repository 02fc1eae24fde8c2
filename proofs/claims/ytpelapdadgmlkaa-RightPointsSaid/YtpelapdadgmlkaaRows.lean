/-
  No cell of these rows narrows 'for every input' (looked for: loops, veiled, ifaces, maps, wideKeys, modest, calm, conditions, laid).
  DERIVED. THE GIVEN ROWS OF THIS SEAT. 35 by the template 'for every input the law returns true; each argument reads behind the call as it read before'; 0 by the template 'total and deterministic' (their statements: YtpelapdadgmlkaaTotals.lean).
  GIVEN WITH THE SEED: the statements are not yours to turn. If you find one false, say at which input.
  Laid BY PROGRAM, IN A SANDBOX (cutbox-rows.mjs): the forced cells as the released guide's own fill.sh prints them over the translation 12a3de58ee23a212… (all of the seat's roots in one cut). By AI agents, Wed Nov 11 2026. No macro, syntax, notation, axiom, sorry.
-/
import Derived.Test.YtpelapdadgmlkaaChecked
import GoSem.Claim
import GoSem.ClaimJoined
import GoSem.ClaimMapViews
import Derived.JoinedTies
import Derived.KernelRfl
namespace Go.Proofs.Ytpelapdadgmlkaa
/- THE CELL 'sum', in the pinned program and in every row, IS THE sha256 OF THE DUMP (.gsa) THAT YtpelapdadgmlkaaProg.lean LOADS. Nothing in Lean hashes anything: it is a label: what it is worth is what the hold of that sum in a sandbox is worth. -/
noncomputable def Try.pinned : Pinned := { name := "ytpelapdadgmlkaa", sum := "12a3de58ee23a212e46a6c687546d5456798b8b8561e9bdeff5e24fa5a26fce1", checked := Try.checked }
namespace Rows
def none {H : Type} : Left H := { results := [], args := [] }

/-- 'windowpanelaw01.FixedSums': WHATEVER THE INPUT: true; the input reads as it did. -/
def fixedSumsSpec : ChangeSpec := { name := "fixedSums", fn := fun _ => fun
  | [d] => { results := [.lit (.bool true)], args := [d] }
  | _ => none }
def fixedSumsRow : OpenClaim := { program := "ytpelapdadgmlkaa", sum := "12a3de58ee23a212e46a6c687546d5456798b8b8561e9bdeff5e24fa5a26fce1", func := "windowpane/windowpanelaw01.FixedSums", spec := "fixedSums", unfollowed := true, recurses := true, apart := false }
def FixedSumsSaid : Prop := fixedSumsRow.holds Try.pinned (OpenSpec.ofChange fixedSumsSpec)

/-- ITS FALSE NEIGHBOUR: 'it returns false'. Refute it at one input. -/
def fixedSumsWrong : ChangeSpec := { name := "fixedSums", fn := fun _ => fun
  | [d] => { results := [.lit (.bool false)], args := [d] }
  | _ => none }
def FixedSumsWrongFalsely : Prop := fixedSumsRow.holds Try.pinned (OpenSpec.ofChange fixedSumsWrong)

/-- 'windowpanelaw17.FlexCross': WHATEVER THE INPUT: true; the input reads as it did. -/
def flexCrossSpec : ChangeSpec := { name := "flexCross", fn := fun _ => fun
  | [d1, d2, d3] => { results := [.lit (.bool true)], args := [d1, d2, d3] }
  | _ => none }
def flexCrossRow : OpenClaim := { program := "ytpelapdadgmlkaa", sum := "12a3de58ee23a212e46a6c687546d5456798b8b8561e9bdeff5e24fa5a26fce1", func := "windowpane/windowpanelaw17.FlexCross", spec := "flexCross", unfollowed := true, recurses := true, apart := false }
def FlexCrossSaid : Prop := flexCrossRow.holds Try.pinned (OpenSpec.ofChange flexCrossSpec)

/-- ITS FALSE NEIGHBOUR: 'it returns false'. Refute it at one input. -/
def flexCrossWrong : ChangeSpec := { name := "flexCross", fn := fun _ => fun
  | [d1, d2, d3] => { results := [.lit (.bool false)], args := [d1, d2, d3] }
  | _ => none }
def FlexCrossWrongFalsely : Prop := flexCrossRow.holds Try.pinned (OpenSpec.ofChange flexCrossWrong)

/-- 'windowpanelaw15.FlexlineSplits': WHATEVER THE INPUT: true; the input reads as it did. -/
def flexlineSplitsSpec : ChangeSpec := { name := "flexlineSplits", fn := fun _ => fun
  | [d1, d2, d3, d4] => { results := [.lit (.bool true)], args := [d1, d2, d3, d4] }
  | _ => none }
def flexlineSplitsRow : OpenClaim := { program := "ytpelapdadgmlkaa", sum := "12a3de58ee23a212e46a6c687546d5456798b8b8561e9bdeff5e24fa5a26fce1", func := "windowpane/windowpanelaw15.FlexlineSplits", spec := "flexlineSplits", unfollowed := true, recurses := true, apart := false }
def FlexlineSplitsSaid : Prop := flexlineSplitsRow.holds Try.pinned (OpenSpec.ofChange flexlineSplitsSpec)

/-- ITS FALSE NEIGHBOUR: 'it returns false'. Refute it at one input. -/
def flexlineSplitsWrong : ChangeSpec := { name := "flexlineSplits", fn := fun _ => fun
  | [d1, d2, d3, d4] => { results := [.lit (.bool false)], args := [d1, d2, d3, d4] }
  | _ => none }
def FlexlineSplitsWrongFalsely : Prop := flexlineSplitsRow.holds Try.pinned (OpenSpec.ofChange flexlineSplitsWrong)

/-- 'windowpanelaw19.RightPoints': WHATEVER THE INPUT: true; the input reads as it did. -/
def rightPointsSpec : ChangeSpec := { name := "rightPoints", fn := fun _ => fun
  | [d1, d2, d3] => { results := [.lit (.bool true)], args := [d1, d2, d3] }
  | _ => none }
def rightPointsRow : OpenClaim := { program := "ytpelapdadgmlkaa", sum := "12a3de58ee23a212e46a6c687546d5456798b8b8561e9bdeff5e24fa5a26fce1", func := "windowpane/windowpanelaw19.RightPoints", spec := "rightPoints", unfollowed := true, recurses := true, apart := false }
def RightPointsSaid : Prop := rightPointsRow.holds Try.pinned (OpenSpec.ofChange rightPointsSpec)

/-- ITS FALSE NEIGHBOUR: 'it returns false'. Refute it at one input. -/
def rightPointsWrong : ChangeSpec := { name := "rightPoints", fn := fun _ => fun
  | [d1, d2, d3] => { results := [.lit (.bool false)], args := [d1, d2, d3] }
  | _ => none }
def RightPointsWrongFalsely : Prop := rightPointsRow.holds Try.pinned (OpenSpec.ofChange rightPointsWrong)

/-- 'windowpanelaw01.FixedPairs': WHATEVER THE INPUT: true; the input reads as it did. -/
def fixedPairsSpec : ChangeSpec := { name := "fixedPairs", fn := fun _ => fun
  | [d1, d2, d3] => { results := [.lit (.bool true)], args := [d1, d2, d3] }
  | _ => none }
def fixedPairsRow : OpenClaim := { program := "ytpelapdadgmlkaa", sum := "12a3de58ee23a212e46a6c687546d5456798b8b8561e9bdeff5e24fa5a26fce1", func := "windowpane/windowpanelaw01.FixedPairs", spec := "fixedPairs", unfollowed := true, recurses := true, apart := false }
def FixedPairsSaid : Prop := fixedPairsRow.holds Try.pinned (OpenSpec.ofChange fixedPairsSpec)

/-- ITS FALSE NEIGHBOUR: 'it returns false'. Refute it at one input. -/
def fixedPairsWrong : ChangeSpec := { name := "fixedPairs", fn := fun _ => fun
  | [d1, d2, d3] => { results := [.lit (.bool false)], args := [d1, d2, d3] }
  | _ => none }
def FixedPairsWrongFalsely : Prop := fixedPairsRow.holds Try.pinned (OpenSpec.ofChange fixedPairsWrong)

/-- 'windowpanelaw08.MetricShares': WHATEVER THE INPUT: true; the input reads as it did. -/
def metricSharesSpec : ChangeSpec := { name := "metricShares", fn := fun _ => fun
  | [d1, d2] => { results := [.lit (.bool true)], args := [d1, d2] }
  | _ => none }
def metricSharesRow : OpenClaim := { program := "ytpelapdadgmlkaa", sum := "12a3de58ee23a212e46a6c687546d5456798b8b8561e9bdeff5e24fa5a26fce1", func := "windowpane/windowpanelaw08.MetricShares", spec := "metricShares", inPlace := ["internal/bytealg.IndexByteString", "internal/bytealg.IndexString"], unfollowed := true, recurses := true, named := ["internal/bytealg.MaxLen"], apart := false }
def MetricSharesSaid : Prop := metricSharesRow.holds Try.pinned (OpenSpec.ofChange metricSharesSpec)

/-- ITS FALSE NEIGHBOUR: 'it returns false'. Refute it at one input. -/
def metricSharesWrong : ChangeSpec := { name := "metricShares", fn := fun _ => fun
  | [d1, d2] => { results := [.lit (.bool false)], args := [d1, d2] }
  | _ => none }
def MetricSharesWrongFalsely : Prop := metricSharesRow.holds Try.pinned (OpenSpec.ofChange metricSharesWrong)

/-- 'windowpanelaw08.MetricWidths': WHATEVER THE INPUT: true; the input reads as it did. -/
def metricWidthsSpec : ChangeSpec := { name := "metricWidths", fn := fun _ => fun
  | [d1, d2] => { results := [.lit (.bool true)], args := [d1, d2] }
  | _ => none }
def metricWidthsRow : OpenClaim := { program := "ytpelapdadgmlkaa", sum := "12a3de58ee23a212e46a6c687546d5456798b8b8561e9bdeff5e24fa5a26fce1", func := "windowpane/windowpanelaw08.MetricWidths", spec := "metricWidths", inPlace := ["internal/bytealg.IndexByteString", "internal/bytealg.IndexString"], unfollowed := true, recurses := true, named := ["internal/bytealg.MaxLen"], apart := false }
def MetricWidthsSaid : Prop := metricWidthsRow.holds Try.pinned (OpenSpec.ofChange metricWidthsSpec)

/-- ITS FALSE NEIGHBOUR: 'it returns false'. Refute it at one input. -/
def metricWidthsWrong : ChangeSpec := { name := "metricWidths", fn := fun _ => fun
  | [d1, d2] => { results := [.lit (.bool false)], args := [d1, d2] }
  | _ => none }
def MetricWidthsWrongFalsely : Prop := metricWidthsRow.holds Try.pinned (OpenSpec.ofChange metricWidthsWrong)

/-- 'windowpanelaw08.MetricBeside': WHATEVER THE INPUT: true; the input reads as it did. -/
def metricBesideSpec : ChangeSpec := { name := "metricBeside", fn := fun _ => fun
  | [d1, d2, d3] => { results := [.lit (.bool true)], args := [d1, d2, d3] }
  | _ => none }
def metricBesideRow : OpenClaim := { program := "ytpelapdadgmlkaa", sum := "12a3de58ee23a212e46a6c687546d5456798b8b8561e9bdeff5e24fa5a26fce1", func := "windowpane/windowpanelaw08.MetricBeside", spec := "metricBeside", inPlace := ["internal/bytealg.IndexByteString", "internal/bytealg.IndexString"], unfollowed := true, recurses := true, named := ["internal/bytealg.MaxLen"], apart := false }
def MetricBesideSaid : Prop := metricBesideRow.holds Try.pinned (OpenSpec.ofChange metricBesideSpec)

/-- ITS FALSE NEIGHBOUR: 'it returns false'. Refute it at one input. -/
def metricBesideWrong : ChangeSpec := { name := "metricBeside", fn := fun _ => fun
  | [d1, d2, d3] => { results := [.lit (.bool false)], args := [d1, d2, d3] }
  | _ => none }
def MetricBesideWrongFalsely : Prop := metricBesideRow.holds Try.pinned (OpenSpec.ofChange metricBesideWrong)

/-- 'windowpanelaw08.MetricFonts': WHATEVER THE INPUT: true; the input reads as it did. -/
def metricFontsSpec : ChangeSpec := { name := "metricFonts", fn := fun _ => fun
  | [d1, d2, d3] => { results := [.lit (.bool true)], args := [d1, d2, d3] }
  | _ => none }
def metricFontsRow : OpenClaim := { program := "ytpelapdadgmlkaa", sum := "12a3de58ee23a212e46a6c687546d5456798b8b8561e9bdeff5e24fa5a26fce1", func := "windowpane/windowpanelaw08.MetricFonts", spec := "metricFonts", inPlace := ["internal/bytealg.IndexByteString", "internal/bytealg.IndexString"], unfollowed := true, recurses := true, named := ["internal/bytealg.MaxLen"], apart := false }
def MetricFontsSaid : Prop := metricFontsRow.holds Try.pinned (OpenSpec.ofChange metricFontsSpec)

/-- ITS FALSE NEIGHBOUR: 'it returns false'. Refute it at one input. -/
def metricFontsWrong : ChangeSpec := { name := "metricFonts", fn := fun _ => fun
  | [d1, d2, d3] => { results := [.lit (.bool false)], args := [d1, d2, d3] }
  | _ => none }
def MetricFontsWrongFalsely : Prop := metricFontsRow.holds Try.pinned (OpenSpec.ofChange metricFontsWrong)

/-- 'windowpanelaw08.MetricRunes': WHATEVER THE INPUT: true; the input reads as it did. -/
def metricRunesSpec : ChangeSpec := { name := "metricRunes", fn := fun _ => fun
  | [d1, d2, d3] => { results := [.lit (.bool true)], args := [d1, d2, d3] }
  | _ => none }
def metricRunesRow : OpenClaim := { program := "ytpelapdadgmlkaa", sum := "12a3de58ee23a212e46a6c687546d5456798b8b8561e9bdeff5e24fa5a26fce1", func := "windowpane/windowpanelaw08.MetricRunes", spec := "metricRunes", inPlace := ["internal/bytealg.IndexByteString", "internal/bytealg.IndexString"], unfollowed := true, recurses := true, named := ["internal/bytealg.MaxLen"], apart := false }
def MetricRunesSaid : Prop := metricRunesRow.holds Try.pinned (OpenSpec.ofChange metricRunesSpec)

/-- ITS FALSE NEIGHBOUR: 'it returns false'. Refute it at one input. -/
def metricRunesWrong : ChangeSpec := { name := "metricRunes", fn := fun _ => fun
  | [d1, d2, d3] => { results := [.lit (.bool false)], args := [d1, d2, d3] }
  | _ => none }
def MetricRunesWrongFalsely : Prop := metricRunesRow.holds Try.pinned (OpenSpec.ofChange metricRunesWrong)

/-- 'windowpanelaw08.MetricMore': WHATEVER THE INPUT: true; the input reads as it did. -/
def metricMoreSpec : ChangeSpec := { name := "metricMore", fn := fun _ => fun
  | [d1, d2, d3] => { results := [.lit (.bool true)], args := [d1, d2, d3] }
  | _ => none }
def metricMoreRow : OpenClaim := { program := "ytpelapdadgmlkaa", sum := "12a3de58ee23a212e46a6c687546d5456798b8b8561e9bdeff5e24fa5a26fce1", func := "windowpane/windowpanelaw08.MetricMore", spec := "metricMore", inPlace := ["internal/bytealg.IndexByteString", "internal/bytealg.IndexString"], unfollowed := true, recurses := true, named := ["internal/bytealg.MaxLen"], apart := false }
def MetricMoreSaid : Prop := metricMoreRow.holds Try.pinned (OpenSpec.ofChange metricMoreSpec)

/-- ITS FALSE NEIGHBOUR: 'it returns false'. Refute it at one input. -/
def metricMoreWrong : ChangeSpec := { name := "metricMore", fn := fun _ => fun
  | [d1, d2, d3] => { results := [.lit (.bool false)], args := [d1, d2, d3] }
  | _ => none }
def MetricMoreWrongFalsely : Prop := metricMoreRow.holds Try.pinned (OpenSpec.ofChange metricMoreWrong)

/-- 'windowpanelaw15.FlexlineOrders': WHATEVER THE INPUT: true; the input reads as it did. -/
def flexlineOrdersSpec : ChangeSpec := { name := "flexlineOrders", fn := fun _ => fun
  | [d] => { results := [.lit (.bool true)], args := [d] }
  | _ => none }
def flexlineOrdersRow : OpenClaim := { program := "ytpelapdadgmlkaa", sum := "12a3de58ee23a212e46a6c687546d5456798b8b8561e9bdeff5e24fa5a26fce1", func := "windowpane/windowpanelaw15.FlexlineOrders", spec := "flexlineOrders", unfollowed := true, recurses := true, apart := false }
def FlexlineOrdersSaid : Prop := flexlineOrdersRow.holds Try.pinned (OpenSpec.ofChange flexlineOrdersSpec)

/-- ITS FALSE NEIGHBOUR: 'it returns false'. Refute it at one input. -/
def flexlineOrdersWrong : ChangeSpec := { name := "flexlineOrders", fn := fun _ => fun
  | [d] => { results := [.lit (.bool false)], args := [d] }
  | _ => none }
def FlexlineOrdersWrongFalsely : Prop := flexlineOrdersRow.holds Try.pinned (OpenSpec.ofChange flexlineOrdersWrong)

/-- 'windowpanelaw15.FlexlineAll': WHATEVER THE INPUT: true; the input reads as it did. -/
def flexlineAllSpec : ChangeSpec := { name := "flexlineAll", fn := fun _ => fun
  | [d1, d2, d3] => { results := [.lit (.bool true)], args := [d1, d2, d3] }
  | _ => none }
def flexlineAllRow : OpenClaim := { program := "ytpelapdadgmlkaa", sum := "12a3de58ee23a212e46a6c687546d5456798b8b8561e9bdeff5e24fa5a26fce1", func := "windowpane/windowpanelaw15.FlexlineAll", spec := "flexlineAll", unfollowed := true, recurses := true, apart := false }
def FlexlineAllSaid : Prop := flexlineAllRow.holds Try.pinned (OpenSpec.ofChange flexlineAllSpec)

/-- ITS FALSE NEIGHBOUR: 'it returns false'. Refute it at one input. -/
def flexlineAllWrong : ChangeSpec := { name := "flexlineAll", fn := fun _ => fun
  | [d1, d2, d3] => { results := [.lit (.bool false)], args := [d1, d2, d3] }
  | _ => none }
def FlexlineAllWrongFalsely : Prop := flexlineAllRow.holds Try.pinned (OpenSpec.ofChange flexlineAllWrong)

/-- 'windowpanelaw15.FlexlineOne': WHATEVER THE INPUT: true; the input reads as it did. -/
def flexlineOneSpec : ChangeSpec := { name := "flexlineOne", fn := fun _ => fun
  | [d1, d2, d3] => { results := [.lit (.bool true)], args := [d1, d2, d3] }
  | _ => none }
def flexlineOneRow : OpenClaim := { program := "ytpelapdadgmlkaa", sum := "12a3de58ee23a212e46a6c687546d5456798b8b8561e9bdeff5e24fa5a26fce1", func := "windowpane/windowpanelaw15.FlexlineOne", spec := "flexlineOne", unfollowed := true, recurses := true, apart := false }
def FlexlineOneSaid : Prop := flexlineOneRow.holds Try.pinned (OpenSpec.ofChange flexlineOneSpec)

/-- ITS FALSE NEIGHBOUR: 'it returns false'. Refute it at one input. -/
def flexlineOneWrong : ChangeSpec := { name := "flexlineOne", fn := fun _ => fun
  | [d1, d2, d3] => { results := [.lit (.bool false)], args := [d1, d2, d3] }
  | _ => none }
def FlexlineOneWrongFalsely : Prop := flexlineOneRow.holds Try.pinned (OpenSpec.ofChange flexlineOneWrong)

/-- 'windowpanelaw15.FlexlineWider': WHATEVER THE INPUT: true; the input reads as it did. -/
def flexlineWiderSpec : ChangeSpec := { name := "flexlineWider", fn := fun _ => fun
  | [d1, d2, d3, d4] => { results := [.lit (.bool true)], args := [d1, d2, d3, d4] }
  | _ => none }
def flexlineWiderRow : OpenClaim := { program := "ytpelapdadgmlkaa", sum := "12a3de58ee23a212e46a6c687546d5456798b8b8561e9bdeff5e24fa5a26fce1", func := "windowpane/windowpanelaw15.FlexlineWider", spec := "flexlineWider", unfollowed := true, recurses := true, apart := false }
def FlexlineWiderSaid : Prop := flexlineWiderRow.holds Try.pinned (OpenSpec.ofChange flexlineWiderSpec)

/-- ITS FALSE NEIGHBOUR: 'it returns false'. Refute it at one input. -/
def flexlineWiderWrong : ChangeSpec := { name := "flexlineWider", fn := fun _ => fun
  | [d1, d2, d3, d4] => { results := [.lit (.bool false)], args := [d1, d2, d3, d4] }
  | _ => none }
def FlexlineWiderWrongFalsely : Prop := flexlineWiderRow.holds Try.pinned (OpenSpec.ofChange flexlineWiderWrong)

/-- 'windowpanelaw15.FlexlineStable': WHATEVER THE INPUT: true; the input reads as it did. -/
def flexlineStableSpec : ChangeSpec := { name := "flexlineStable", fn := fun _ => fun
  | [d] => { results := [.lit (.bool true)], args := [d] }
  | _ => none }
def flexlineStableRow : OpenClaim := { program := "ytpelapdadgmlkaa", sum := "12a3de58ee23a212e46a6c687546d5456798b8b8561e9bdeff5e24fa5a26fce1", func := "windowpane/windowpanelaw15.FlexlineStable", spec := "flexlineStable", unfollowed := true, recurses := true, apart := false }
def FlexlineStableSaid : Prop := flexlineStableRow.holds Try.pinned (OpenSpec.ofChange flexlineStableSpec)

/-- ITS FALSE NEIGHBOUR: 'it returns false'. Refute it at one input. -/
def flexlineStableWrong : ChangeSpec := { name := "flexlineStable", fn := fun _ => fun
  | [d] => { results := [.lit (.bool false)], args := [d] }
  | _ => none }
def FlexlineStableWrongFalsely : Prop := flexlineStableRow.holds Try.pinned (OpenSpec.ofChange flexlineStableWrong)

/-- 'windowpanelaw01.FixedShares': WHATEVER THE INPUT: true; the input reads as it did. -/
def fixedSharesSpec : ChangeSpec := { name := "fixedShares", fn := fun _ => fun
  | [d1, d2] => { results := [.lit (.bool true)], args := [d1, d2] }
  | _ => none }
def fixedSharesRow : OpenClaim := { program := "ytpelapdadgmlkaa", sum := "12a3de58ee23a212e46a6c687546d5456798b8b8561e9bdeff5e24fa5a26fce1", func := "windowpane/windowpanelaw01.FixedShares", spec := "fixedShares", unfollowed := true, recurses := true, named := ["math/bits.divideError", "math/bits.overflowError"], apart := false }
def FixedSharesSaid : Prop := fixedSharesRow.holds Try.pinned (OpenSpec.ofChange fixedSharesSpec)

/-- ITS FALSE NEIGHBOUR: 'it returns false'. Refute it at one input. -/
def fixedSharesWrong : ChangeSpec := { name := "fixedShares", fn := fun _ => fun
  | [d1, d2] => { results := [.lit (.bool false)], args := [d1, d2] }
  | _ => none }
def FixedSharesWrongFalsely : Prop := fixedSharesRow.holds Try.pinned (OpenSpec.ofChange fixedSharesWrong)

/-- 'windowpanelaw01.FixedOrder': WHATEVER THE INPUT: true; the input reads as it did. -/
def fixedOrderSpec : ChangeSpec := { name := "fixedOrder", fn := fun _ => fun
  | [d1, d2] => { results := [.lit (.bool true)], args := [d1, d2] }
  | _ => none }
def fixedOrderRow : OpenClaim := { program := "ytpelapdadgmlkaa", sum := "12a3de58ee23a212e46a6c687546d5456798b8b8561e9bdeff5e24fa5a26fce1", func := "windowpane/windowpanelaw01.FixedOrder", spec := "fixedOrder", unfollowed := true, recurses := true, named := ["math/bits.divideError", "math/bits.overflowError"], apart := false }
def FixedOrderSaid : Prop := fixedOrderRow.holds Try.pinned (OpenSpec.ofChange fixedOrderSpec)

/-- ITS FALSE NEIGHBOUR: 'it returns false'. Refute it at one input. -/
def fixedOrderWrong : ChangeSpec := { name := "fixedOrder", fn := fun _ => fun
  | [d1, d2] => { results := [.lit (.bool false)], args := [d1, d2] }
  | _ => none }
def FixedOrderWrongFalsely : Prop := fixedOrderRow.holds Try.pinned (OpenSpec.ofChange fixedOrderWrong)

/-- 'windowpanelaw01.FixedGiven': WHATEVER THE INPUT: true; the input reads as it did. -/
def fixedGivenSpec : ChangeSpec := { name := "fixedGiven", fn := fun _ => fun
  | [d1, d2] => { results := [.lit (.bool true)], args := [d1, d2] }
  | _ => none }
def fixedGivenRow : OpenClaim := { program := "ytpelapdadgmlkaa", sum := "12a3de58ee23a212e46a6c687546d5456798b8b8561e9bdeff5e24fa5a26fce1", func := "windowpane/windowpanelaw01.FixedGiven", spec := "fixedGiven", unfollowed := true, recurses := true, named := ["math/bits.divideError", "math/bits.overflowError"], apart := false }
def FixedGivenSaid : Prop := fixedGivenRow.holds Try.pinned (OpenSpec.ofChange fixedGivenSpec)

/-- ITS FALSE NEIGHBOUR: 'it returns false'. Refute it at one input. -/
def fixedGivenWrong : ChangeSpec := { name := "fixedGiven", fn := fun _ => fun
  | [d1, d2] => { results := [.lit (.bool false)], args := [d1, d2] }
  | _ => none }
def FixedGivenWrongFalsely : Prop := fixedGivenRow.holds Try.pinned (OpenSpec.ofChange fixedGivenWrong)

/-- 'windowpanelaw01.FixedTurned': WHATEVER THE INPUT: true; the input reads as it did. -/
def fixedTurnedSpec : ChangeSpec := { name := "fixedTurned", fn := fun _ => fun
  | [d1, d2, d3, d4] => { results := [.lit (.bool true)], args := [d1, d2, d3, d4] }
  | _ => none }
def fixedTurnedRow : OpenClaim := { program := "ytpelapdadgmlkaa", sum := "12a3de58ee23a212e46a6c687546d5456798b8b8561e9bdeff5e24fa5a26fce1", func := "windowpane/windowpanelaw01.FixedTurned", spec := "fixedTurned", unfollowed := true, recurses := true, named := ["math/bits.divideError", "math/bits.overflowError"], apart := false }
def FixedTurnedSaid : Prop := fixedTurnedRow.holds Try.pinned (OpenSpec.ofChange fixedTurnedSpec)

/-- ITS FALSE NEIGHBOUR: 'it returns false'. Refute it at one input. -/
def fixedTurnedWrong : ChangeSpec := { name := "fixedTurned", fn := fun _ => fun
  | [d1, d2, d3, d4] => { results := [.lit (.bool false)], args := [d1, d2, d3, d4] }
  | _ => none }
def FixedTurnedWrongFalsely : Prop := fixedTurnedRow.holds Try.pinned (OpenSpec.ofChange fixedTurnedWrong)

/-- 'windowpanelaw01.FixedWhole': WHATEVER THE INPUT: true; the input reads as it did. -/
def fixedWholeSpec : ChangeSpec := { name := "fixedWhole", fn := fun _ => fun
  | [d1, d2, d3, d4] => { results := [.lit (.bool true)], args := [d1, d2, d3, d4] }
  | _ => none }
def fixedWholeRow : OpenClaim := { program := "ytpelapdadgmlkaa", sum := "12a3de58ee23a212e46a6c687546d5456798b8b8561e9bdeff5e24fa5a26fce1", func := "windowpane/windowpanelaw01.FixedWhole", spec := "fixedWhole", unfollowed := true, recurses := true, named := ["math/bits.divideError", "math/bits.overflowError"], apart := false }
def FixedWholeSaid : Prop := fixedWholeRow.holds Try.pinned (OpenSpec.ofChange fixedWholeSpec)

/-- ITS FALSE NEIGHBOUR: 'it returns false'. Refute it at one input. -/
def fixedWholeWrong : ChangeSpec := { name := "fixedWhole", fn := fun _ => fun
  | [d1, d2, d3, d4] => { results := [.lit (.bool false)], args := [d1, d2, d3, d4] }
  | _ => none }
def FixedWholeWrongFalsely : Prop := fixedWholeRow.holds Try.pinned (OpenSpec.ofChange fixedWholeWrong)

/-- 'windowpanelaw01.FixedBetween': WHATEVER THE INPUT: true; the input reads as it did. -/
def fixedBetweenSpec : ChangeSpec := { name := "fixedBetween", fn := fun _ => fun
  | [d1, d2, d3] => { results := [.lit (.bool true)], args := [d1, d2, d3] }
  | _ => none }
def fixedBetweenRow : OpenClaim := { program := "ytpelapdadgmlkaa", sum := "12a3de58ee23a212e46a6c687546d5456798b8b8561e9bdeff5e24fa5a26fce1", func := "windowpane/windowpanelaw01.FixedBetween", spec := "fixedBetween", unfollowed := true, recurses := true, named := ["math/bits.divideError", "math/bits.overflowError"], apart := false }
def FixedBetweenSaid : Prop := fixedBetweenRow.holds Try.pinned (OpenSpec.ofChange fixedBetweenSpec)

/-- ITS FALSE NEIGHBOUR: 'it returns false'. Refute it at one input. -/
def fixedBetweenWrong : ChangeSpec := { name := "fixedBetween", fn := fun _ => fun
  | [d1, d2, d3] => { results := [.lit (.bool false)], args := [d1, d2, d3] }
  | _ => none }
def FixedBetweenWrongFalsely : Prop := fixedBetweenRow.holds Try.pinned (OpenSpec.ofChange fixedBetweenWrong)

/-- 'windowpanelaw01.FixedBack': WHATEVER THE INPUT: true; the input reads as it did. -/
def fixedBackSpec : ChangeSpec := { name := "fixedBack", fn := fun _ => fun
  | [d1, d2] => { results := [.lit (.bool true)], args := [d1, d2] }
  | _ => none }
def fixedBackRow : OpenClaim := { program := "ytpelapdadgmlkaa", sum := "12a3de58ee23a212e46a6c687546d5456798b8b8561e9bdeff5e24fa5a26fce1", func := "windowpane/windowpanelaw01.FixedBack", spec := "fixedBack", unfollowed := true, recurses := true, named := ["math/bits.divideError", "math/bits.overflowError"], apart := false }
def FixedBackSaid : Prop := fixedBackRow.holds Try.pinned (OpenSpec.ofChange fixedBackSpec)

/-- ITS FALSE NEIGHBOUR: 'it returns false'. Refute it at one input. -/
def fixedBackWrong : ChangeSpec := { name := "fixedBack", fn := fun _ => fun
  | [d1, d2] => { results := [.lit (.bool false)], args := [d1, d2] }
  | _ => none }
def FixedBackWrongFalsely : Prop := fixedBackRow.holds Try.pinned (OpenSpec.ofChange fixedBackWrong)

/-- 'windowpanelaw17.FlexMain': WHATEVER THE INPUT: true; the input reads as it did. -/
def flexMainSpec : ChangeSpec := { name := "flexMain", fn := fun _ => fun
  | [d1, d2] => { results := [.lit (.bool true)], args := [d1, d2] }
  | _ => none }
def flexMainRow : OpenClaim := { program := "ytpelapdadgmlkaa", sum := "12a3de58ee23a212e46a6c687546d5456798b8b8561e9bdeff5e24fa5a26fce1", func := "windowpane/windowpanelaw17.FlexMain", spec := "flexMain", unfollowed := true, recurses := true, named := ["math/bits.divideError", "math/bits.overflowError"], apart := false }
def FlexMainSaid : Prop := flexMainRow.holds Try.pinned (OpenSpec.ofChange flexMainSpec)

/-- ITS FALSE NEIGHBOUR: 'it returns false'. Refute it at one input. -/
def flexMainWrong : ChangeSpec := { name := "flexMain", fn := fun _ => fun
  | [d1, d2] => { results := [.lit (.bool false)], args := [d1, d2] }
  | _ => none }
def FlexMainWrongFalsely : Prop := flexMainRow.holds Try.pinned (OpenSpec.ofChange flexMainWrong)

/-- 'windowpanelaw17.FlexBeside': WHATEVER THE INPUT: true; the input reads as it did. -/
def flexBesideSpec : ChangeSpec := { name := "flexBeside", fn := fun _ => fun
  | [d1, d2] => { results := [.lit (.bool true)], args := [d1, d2] }
  | _ => none }
def flexBesideRow : OpenClaim := { program := "ytpelapdadgmlkaa", sum := "12a3de58ee23a212e46a6c687546d5456798b8b8561e9bdeff5e24fa5a26fce1", func := "windowpane/windowpanelaw17.FlexBeside", spec := "flexBeside", unfollowed := true, recurses := true, named := ["math/bits.divideError", "math/bits.overflowError"], apart := false }
def FlexBesideSaid : Prop := flexBesideRow.holds Try.pinned (OpenSpec.ofChange flexBesideSpec)

/-- ITS FALSE NEIGHBOUR: 'it returns false'. Refute it at one input. -/
def flexBesideWrong : ChangeSpec := { name := "flexBeside", fn := fun _ => fun
  | [d1, d2] => { results := [.lit (.bool false)], args := [d1, d2] }
  | _ => none }
def FlexBesideWrongFalsely : Prop := flexBesideRow.holds Try.pinned (OpenSpec.ofChange flexBesideWrong)

/-- 'windowpanelaw17.FlexAsked': WHATEVER THE INPUT: true; the input reads as it did. -/
def flexAskedSpec : ChangeSpec := { name := "flexAsked", fn := fun _ => fun
  | [d1, d2] => { results := [.lit (.bool true)], args := [d1, d2] }
  | _ => none }
def flexAskedRow : OpenClaim := { program := "ytpelapdadgmlkaa", sum := "12a3de58ee23a212e46a6c687546d5456798b8b8561e9bdeff5e24fa5a26fce1", func := "windowpane/windowpanelaw17.FlexAsked", spec := "flexAsked", unfollowed := true, recurses := true, named := ["math/bits.divideError", "math/bits.overflowError"], apart := false }
def FlexAskedSaid : Prop := flexAskedRow.holds Try.pinned (OpenSpec.ofChange flexAskedSpec)

/-- ITS FALSE NEIGHBOUR: 'it returns false'. Refute it at one input. -/
def flexAskedWrong : ChangeSpec := { name := "flexAsked", fn := fun _ => fun
  | [d1, d2] => { results := [.lit (.bool false)], args := [d1, d2] }
  | _ => none }
def FlexAskedWrongFalsely : Prop := flexAskedRow.holds Try.pinned (OpenSpec.ofChange flexAskedWrong)

/-- 'windowpanelaw17.FlexBack': WHATEVER THE INPUT: true; the input reads as it did. -/
def flexBackSpec : ChangeSpec := { name := "flexBack", fn := fun _ => fun
  | [d1, d2] => { results := [.lit (.bool true)], args := [d1, d2] }
  | _ => none }
def flexBackRow : OpenClaim := { program := "ytpelapdadgmlkaa", sum := "12a3de58ee23a212e46a6c687546d5456798b8b8561e9bdeff5e24fa5a26fce1", func := "windowpane/windowpanelaw17.FlexBack", spec := "flexBack", unfollowed := true, recurses := true, named := ["math/bits.divideError", "math/bits.overflowError"], apart := false }
def FlexBackSaid : Prop := flexBackRow.holds Try.pinned (OpenSpec.ofChange flexBackSpec)

/-- ITS FALSE NEIGHBOUR: 'it returns false'. Refute it at one input. -/
def flexBackWrong : ChangeSpec := { name := "flexBack", fn := fun _ => fun
  | [d1, d2] => { results := [.lit (.bool false)], args := [d1, d2] }
  | _ => none }
def FlexBackWrongFalsely : Prop := flexBackRow.holds Try.pinned (OpenSpec.ofChange flexBackWrong)

/-- 'windowpanelaw17.FlexAcross': WHATEVER THE INPUT: true; the input reads as it did. -/
def flexAcrossSpec : ChangeSpec := { name := "flexAcross", fn := fun _ => fun
  | [d1, d2] => { results := [.lit (.bool true)], args := [d1, d2] }
  | _ => none }
def flexAcrossRow : OpenClaim := { program := "ytpelapdadgmlkaa", sum := "12a3de58ee23a212e46a6c687546d5456798b8b8561e9bdeff5e24fa5a26fce1", func := "windowpane/windowpanelaw17.FlexAcross", spec := "flexAcross", unfollowed := true, recurses := true, named := ["math/bits.divideError", "math/bits.overflowError"], apart := false }
def FlexAcrossSaid : Prop := flexAcrossRow.holds Try.pinned (OpenSpec.ofChange flexAcrossSpec)

/-- ITS FALSE NEIGHBOUR: 'it returns false'. Refute it at one input. -/
def flexAcrossWrong : ChangeSpec := { name := "flexAcross", fn := fun _ => fun
  | [d1, d2] => { results := [.lit (.bool false)], args := [d1, d2] }
  | _ => none }
def FlexAcrossWrongFalsely : Prop := flexAcrossRow.holds Try.pinned (OpenSpec.ofChange flexAcrossWrong)

/-- 'windowpanelaw17.FlexMore': WHATEVER THE INPUT: true; the input reads as it did. -/
def flexMoreSpec : ChangeSpec := { name := "flexMore", fn := fun _ => fun
  | [d1, d2, d3] => { results := [.lit (.bool true)], args := [d1, d2, d3] }
  | _ => none }
def flexMoreRow : OpenClaim := { program := "ytpelapdadgmlkaa", sum := "12a3de58ee23a212e46a6c687546d5456798b8b8561e9bdeff5e24fa5a26fce1", func := "windowpane/windowpanelaw17.FlexMore", spec := "flexMore", unfollowed := true, recurses := true, named := ["math/bits.divideError", "math/bits.overflowError"], apart := false }
def FlexMoreSaid : Prop := flexMoreRow.holds Try.pinned (OpenSpec.ofChange flexMoreSpec)

/-- ITS FALSE NEIGHBOUR: 'it returns false'. Refute it at one input. -/
def flexMoreWrong : ChangeSpec := { name := "flexMore", fn := fun _ => fun
  | [d1, d2, d3] => { results := [.lit (.bool false)], args := [d1, d2, d3] }
  | _ => none }
def FlexMoreWrongFalsely : Prop := flexMoreRow.holds Try.pinned (OpenSpec.ofChange flexMoreWrong)

/-- 'windowpanelaw16.FlexibleSizes': WHATEVER THE INPUT: true; the input reads as it did. -/
def flexibleSizesSpec : ChangeSpec := { name := "flexibleSizes", fn := fun _ => fun
  | [d1, d2, d3] => { results := [.lit (.bool true)], args := [d1, d2, d3] }
  | _ => none }
def flexibleSizesRow : OpenClaim := { program := "ytpelapdadgmlkaa", sum := "12a3de58ee23a212e46a6c687546d5456798b8b8561e9bdeff5e24fa5a26fce1", func := "windowpane/windowpanelaw16.FlexibleSizes", spec := "flexibleSizes", unfollowed := true, recurses := true, named := ["math/bits.divideError", "math/bits.overflowError"], apart := false }
def FlexibleSizesSaid : Prop := flexibleSizesRow.holds Try.pinned (OpenSpec.ofChange flexibleSizesSpec)

/-- ITS FALSE NEIGHBOUR: 'it returns false'. Refute it at one input. -/
def flexibleSizesWrong : ChangeSpec := { name := "flexibleSizes", fn := fun _ => fun
  | [d1, d2, d3] => { results := [.lit (.bool false)], args := [d1, d2, d3] }
  | _ => none }
def FlexibleSizesWrongFalsely : Prop := flexibleSizesRow.holds Try.pinned (OpenSpec.ofChange flexibleSizesWrong)

/-- 'windowpanelaw16.FlexibleFull': WHATEVER THE INPUT: true; the input reads as it did. -/
def flexibleFullSpec : ChangeSpec := { name := "flexibleFull", fn := fun _ => fun
  | [d1, d2, d3] => { results := [.lit (.bool true)], args := [d1, d2, d3] }
  | _ => none }
def flexibleFullRow : OpenClaim := { program := "ytpelapdadgmlkaa", sum := "12a3de58ee23a212e46a6c687546d5456798b8b8561e9bdeff5e24fa5a26fce1", func := "windowpane/windowpanelaw16.FlexibleFull", spec := "flexibleFull", unfollowed := true, recurses := true, named := ["math/bits.divideError", "math/bits.overflowError"], apart := false }
def FlexibleFullSaid : Prop := flexibleFullRow.holds Try.pinned (OpenSpec.ofChange flexibleFullSpec)

/-- ITS FALSE NEIGHBOUR: 'it returns false'. Refute it at one input. -/
def flexibleFullWrong : ChangeSpec := { name := "flexibleFull", fn := fun _ => fun
  | [d1, d2, d3] => { results := [.lit (.bool false)], args := [d1, d2, d3] }
  | _ => none }
def FlexibleFullWrongFalsely : Prop := flexibleFullRow.holds Try.pinned (OpenSpec.ofChange flexibleFullWrong)

/-- 'windowpanelaw16.FlexibleWay': WHATEVER THE INPUT: true; the input reads as it did. -/
def flexibleWaySpec : ChangeSpec := { name := "flexibleWay", fn := fun _ => fun
  | [d1, d2, d3] => { results := [.lit (.bool true)], args := [d1, d2, d3] }
  | _ => none }
def flexibleWayRow : OpenClaim := { program := "ytpelapdadgmlkaa", sum := "12a3de58ee23a212e46a6c687546d5456798b8b8561e9bdeff5e24fa5a26fce1", func := "windowpane/windowpanelaw16.FlexibleWay", spec := "flexibleWay", unfollowed := true, recurses := true, named := ["math/bits.divideError", "math/bits.overflowError"], apart := false }
def FlexibleWaySaid : Prop := flexibleWayRow.holds Try.pinned (OpenSpec.ofChange flexibleWaySpec)

/-- ITS FALSE NEIGHBOUR: 'it returns false'. Refute it at one input. -/
def flexibleWayWrong : ChangeSpec := { name := "flexibleWay", fn := fun _ => fun
  | [d1, d2, d3] => { results := [.lit (.bool false)], args := [d1, d2, d3] }
  | _ => none }
def FlexibleWayWrongFalsely : Prop := flexibleWayRow.holds Try.pinned (OpenSpec.ofChange flexibleWayWrong)

/-- 'windowpanelaw16.FlexibleStiff': WHATEVER THE INPUT: true; the input reads as it did. -/
def flexibleStiffSpec : ChangeSpec := { name := "flexibleStiff", fn := fun _ => fun
  | [d1, d2, d3] => { results := [.lit (.bool true)], args := [d1, d2, d3] }
  | _ => none }
def flexibleStiffRow : OpenClaim := { program := "ytpelapdadgmlkaa", sum := "12a3de58ee23a212e46a6c687546d5456798b8b8561e9bdeff5e24fa5a26fce1", func := "windowpane/windowpanelaw16.FlexibleStiff", spec := "flexibleStiff", unfollowed := true, recurses := true, named := ["math/bits.divideError", "math/bits.overflowError"], apart := false }
def FlexibleStiffSaid : Prop := flexibleStiffRow.holds Try.pinned (OpenSpec.ofChange flexibleStiffSpec)

/-- ITS FALSE NEIGHBOUR: 'it returns false'. Refute it at one input. -/
def flexibleStiffWrong : ChangeSpec := { name := "flexibleStiff", fn := fun _ => fun
  | [d1, d2, d3] => { results := [.lit (.bool false)], args := [d1, d2, d3] }
  | _ => none }
def FlexibleStiffWrongFalsely : Prop := flexibleStiffRow.holds Try.pinned (OpenSpec.ofChange flexibleStiffWrong)

/-- 'windowpanelaw16.FlexibleOuter': WHATEVER THE INPUT: true; the input reads as it did. -/
def flexibleOuterSpec : ChangeSpec := { name := "flexibleOuter", fn := fun _ => fun
  | [d1, d2, d3, d4] => { results := [.lit (.bool true)], args := [d1, d2, d3, d4] }
  | _ => none }
def flexibleOuterRow : OpenClaim := { program := "ytpelapdadgmlkaa", sum := "12a3de58ee23a212e46a6c687546d5456798b8b8561e9bdeff5e24fa5a26fce1", func := "windowpane/windowpanelaw16.FlexibleOuter", spec := "flexibleOuter", unfollowed := true, recurses := true, named := ["math/bits.divideError", "math/bits.overflowError"], apart := false }
def FlexibleOuterSaid : Prop := flexibleOuterRow.holds Try.pinned (OpenSpec.ofChange flexibleOuterSpec)

/-- ITS FALSE NEIGHBOUR: 'it returns false'. Refute it at one input. -/
def flexibleOuterWrong : ChangeSpec := { name := "flexibleOuter", fn := fun _ => fun
  | [d1, d2, d3, d4] => { results := [.lit (.bool false)], args := [d1, d2, d3, d4] }
  | _ => none }
def FlexibleOuterWrongFalsely : Prop := flexibleOuterRow.holds Try.pinned (OpenSpec.ofChange flexibleOuterWrong)

/-- 'windowpanelaw16.FlexibleAlike': WHATEVER THE INPUT: true; the input reads as it did. -/
def flexibleAlikeSpec : ChangeSpec := { name := "flexibleAlike", fn := fun _ => fun
  | [d1, d2, d3] => { results := [.lit (.bool true)], args := [d1, d2, d3] }
  | _ => none }
def flexibleAlikeRow : OpenClaim := { program := "ytpelapdadgmlkaa", sum := "12a3de58ee23a212e46a6c687546d5456798b8b8561e9bdeff5e24fa5a26fce1", func := "windowpane/windowpanelaw16.FlexibleAlike", spec := "flexibleAlike", unfollowed := true, recurses := true, named := ["math/bits.divideError", "math/bits.overflowError"], apart := false }
def FlexibleAlikeSaid : Prop := flexibleAlikeRow.holds Try.pinned (OpenSpec.ofChange flexibleAlikeSpec)

/-- ITS FALSE NEIGHBOUR: 'it returns false'. Refute it at one input. -/
def flexibleAlikeWrong : ChangeSpec := { name := "flexibleAlike", fn := fun _ => fun
  | [d1, d2, d3] => { results := [.lit (.bool false)], args := [d1, d2, d3] }
  | _ => none }
def FlexibleAlikeWrongFalsely : Prop := flexibleAlikeRow.holds Try.pinned (OpenSpec.ofChange flexibleAlikeWrong)

/- THE SECOND FORM. 'bulk': how many values and letters a reading holds, each counted each time it is reached (what is shared counts as often as it is met; a slice's spare places count too). A statement '..UptoSaid' is the law's where the arguments, and the package variables that the reading takes, are together of bulk at most 1048576: NARROWER than '..Said'. Prove '..Said' where nothing that the law and all that it calls make is longer than what came in: it says more and counts as full. Else prove '..UptoSaid'. A law counts once. -/
mutual
def uptoBulk {H : Type} : DataW H → Nat
  | .lit (.string bytes) => bytes.length + 1
  | .lit _ => 1
  | .nil => 1
  | .ptr d => uptoBulk d + 1
  | .slice elems spare => uptoBulkAll elems + uptoBulkAll spare + 1
  | .agg parts => uptoBulkAll parts + 1
  | .iface _ d => uptoBulk d + 1
  | .map entries => uptoBulkEntries entries + 1
  | .held _ => 1
def uptoBulkAll {H : Type} : List (DataW H) → Nat
  | [] => 0
  | d :: r => uptoBulk d + uptoBulkAll r
def uptoBulkEntries {H : Type} : List (Lit × DataW H) → Nat
  | [] => 0
  | x :: r => uptoBulkEntry x + uptoBulkEntries r
def uptoBulkEntry {H : Type} : Lit × DataW H → Nat
  | (.string bytes, d) => bytes.length + uptoBulk d + 1
  | (_, d) => uptoBulk d + 1
 end
def uptoSmall : (H : Type) → List (DataW H) → Bool := fun _ ds => decide (uptoBulkAll ds ≤ 1048576)
def OpenSpec.upto (s : _root_.Go.ChangeSpec) : _root_.Go.OpenSpec := { _root_.Go.OpenSpec.ofChange s with cond := some uptoSmall }

/-- 'windowpanelaw01.FixedSums', WHERE WHAT IT READS IS OF BULK AT MOST 1048576: true; the input reads as it did. -/
def fixedSumsUptoRow : OpenClaim := { program := "ytpelapdadgmlkaa", sum := "12a3de58ee23a212e46a6c687546d5456798b8b8561e9bdeff5e24fa5a26fce1", func := "windowpane/windowpanelaw01.FixedSums", spec := "fixedSums", unfollowed := true, recurses := true, apart := false, narrowed := true }
def FixedSumsUptoSaid : Prop := fixedSumsUptoRow.holds Try.pinned (OpenSpec.upto fixedSumsSpec)

/-- 'windowpanelaw17.FlexCross', WHERE WHAT IT READS IS OF BULK AT MOST 1048576: true; the input reads as it did. -/
def flexCrossUptoRow : OpenClaim := { program := "ytpelapdadgmlkaa", sum := "12a3de58ee23a212e46a6c687546d5456798b8b8561e9bdeff5e24fa5a26fce1", func := "windowpane/windowpanelaw17.FlexCross", spec := "flexCross", unfollowed := true, recurses := true, apart := false, narrowed := true }
def FlexCrossUptoSaid : Prop := flexCrossUptoRow.holds Try.pinned (OpenSpec.upto flexCrossSpec)

/-- 'windowpanelaw15.FlexlineSplits', WHERE WHAT IT READS IS OF BULK AT MOST 1048576: true; the input reads as it did. -/
def flexlineSplitsUptoRow : OpenClaim := { program := "ytpelapdadgmlkaa", sum := "12a3de58ee23a212e46a6c687546d5456798b8b8561e9bdeff5e24fa5a26fce1", func := "windowpane/windowpanelaw15.FlexlineSplits", spec := "flexlineSplits", unfollowed := true, recurses := true, apart := false, narrowed := true }
def FlexlineSplitsUptoSaid : Prop := flexlineSplitsUptoRow.holds Try.pinned (OpenSpec.upto flexlineSplitsSpec)

/-- 'windowpanelaw19.RightPoints', WHERE WHAT IT READS IS OF BULK AT MOST 1048576: true; the input reads as it did. -/
def rightPointsUptoRow : OpenClaim := { program := "ytpelapdadgmlkaa", sum := "12a3de58ee23a212e46a6c687546d5456798b8b8561e9bdeff5e24fa5a26fce1", func := "windowpane/windowpanelaw19.RightPoints", spec := "rightPoints", unfollowed := true, recurses := true, apart := false, narrowed := true }
def RightPointsUptoSaid : Prop := rightPointsUptoRow.holds Try.pinned (OpenSpec.upto rightPointsSpec)

/-- 'windowpanelaw01.FixedPairs', WHERE WHAT IT READS IS OF BULK AT MOST 1048576: true; the input reads as it did. -/
def fixedPairsUptoRow : OpenClaim := { program := "ytpelapdadgmlkaa", sum := "12a3de58ee23a212e46a6c687546d5456798b8b8561e9bdeff5e24fa5a26fce1", func := "windowpane/windowpanelaw01.FixedPairs", spec := "fixedPairs", unfollowed := true, recurses := true, apart := false, narrowed := true }
def FixedPairsUptoSaid : Prop := fixedPairsUptoRow.holds Try.pinned (OpenSpec.upto fixedPairsSpec)

/-- 'windowpanelaw08.MetricShares', WHERE WHAT IT READS IS OF BULK AT MOST 1048576: true; the input reads as it did. -/
def metricSharesUptoRow : OpenClaim := { program := "ytpelapdadgmlkaa", sum := "12a3de58ee23a212e46a6c687546d5456798b8b8561e9bdeff5e24fa5a26fce1", func := "windowpane/windowpanelaw08.MetricShares", spec := "metricShares", inPlace := ["internal/bytealg.IndexByteString", "internal/bytealg.IndexString"], unfollowed := true, recurses := true, named := ["internal/bytealg.MaxLen"], apart := false, narrowed := true }
def MetricSharesUptoSaid : Prop := metricSharesUptoRow.holds Try.pinned (OpenSpec.upto metricSharesSpec)

/-- 'windowpanelaw08.MetricWidths', WHERE WHAT IT READS IS OF BULK AT MOST 1048576: true; the input reads as it did. -/
def metricWidthsUptoRow : OpenClaim := { program := "ytpelapdadgmlkaa", sum := "12a3de58ee23a212e46a6c687546d5456798b8b8561e9bdeff5e24fa5a26fce1", func := "windowpane/windowpanelaw08.MetricWidths", spec := "metricWidths", inPlace := ["internal/bytealg.IndexByteString", "internal/bytealg.IndexString"], unfollowed := true, recurses := true, named := ["internal/bytealg.MaxLen"], apart := false, narrowed := true }
def MetricWidthsUptoSaid : Prop := metricWidthsUptoRow.holds Try.pinned (OpenSpec.upto metricWidthsSpec)

/-- 'windowpanelaw08.MetricBeside', WHERE WHAT IT READS IS OF BULK AT MOST 1048576: true; the input reads as it did. -/
def metricBesideUptoRow : OpenClaim := { program := "ytpelapdadgmlkaa", sum := "12a3de58ee23a212e46a6c687546d5456798b8b8561e9bdeff5e24fa5a26fce1", func := "windowpane/windowpanelaw08.MetricBeside", spec := "metricBeside", inPlace := ["internal/bytealg.IndexByteString", "internal/bytealg.IndexString"], unfollowed := true, recurses := true, named := ["internal/bytealg.MaxLen"], apart := false, narrowed := true }
def MetricBesideUptoSaid : Prop := metricBesideUptoRow.holds Try.pinned (OpenSpec.upto metricBesideSpec)

/-- 'windowpanelaw08.MetricFonts', WHERE WHAT IT READS IS OF BULK AT MOST 1048576: true; the input reads as it did. -/
def metricFontsUptoRow : OpenClaim := { program := "ytpelapdadgmlkaa", sum := "12a3de58ee23a212e46a6c687546d5456798b8b8561e9bdeff5e24fa5a26fce1", func := "windowpane/windowpanelaw08.MetricFonts", spec := "metricFonts", inPlace := ["internal/bytealg.IndexByteString", "internal/bytealg.IndexString"], unfollowed := true, recurses := true, named := ["internal/bytealg.MaxLen"], apart := false, narrowed := true }
def MetricFontsUptoSaid : Prop := metricFontsUptoRow.holds Try.pinned (OpenSpec.upto metricFontsSpec)

/-- 'windowpanelaw08.MetricRunes', WHERE WHAT IT READS IS OF BULK AT MOST 1048576: true; the input reads as it did. -/
def metricRunesUptoRow : OpenClaim := { program := "ytpelapdadgmlkaa", sum := "12a3de58ee23a212e46a6c687546d5456798b8b8561e9bdeff5e24fa5a26fce1", func := "windowpane/windowpanelaw08.MetricRunes", spec := "metricRunes", inPlace := ["internal/bytealg.IndexByteString", "internal/bytealg.IndexString"], unfollowed := true, recurses := true, named := ["internal/bytealg.MaxLen"], apart := false, narrowed := true }
def MetricRunesUptoSaid : Prop := metricRunesUptoRow.holds Try.pinned (OpenSpec.upto metricRunesSpec)

/-- 'windowpanelaw08.MetricMore', WHERE WHAT IT READS IS OF BULK AT MOST 1048576: true; the input reads as it did. -/
def metricMoreUptoRow : OpenClaim := { program := "ytpelapdadgmlkaa", sum := "12a3de58ee23a212e46a6c687546d5456798b8b8561e9bdeff5e24fa5a26fce1", func := "windowpane/windowpanelaw08.MetricMore", spec := "metricMore", inPlace := ["internal/bytealg.IndexByteString", "internal/bytealg.IndexString"], unfollowed := true, recurses := true, named := ["internal/bytealg.MaxLen"], apart := false, narrowed := true }
def MetricMoreUptoSaid : Prop := metricMoreUptoRow.holds Try.pinned (OpenSpec.upto metricMoreSpec)

/-- 'windowpanelaw15.FlexlineOrders', WHERE WHAT IT READS IS OF BULK AT MOST 1048576: true; the input reads as it did. -/
def flexlineOrdersUptoRow : OpenClaim := { program := "ytpelapdadgmlkaa", sum := "12a3de58ee23a212e46a6c687546d5456798b8b8561e9bdeff5e24fa5a26fce1", func := "windowpane/windowpanelaw15.FlexlineOrders", spec := "flexlineOrders", unfollowed := true, recurses := true, apart := false, narrowed := true }
def FlexlineOrdersUptoSaid : Prop := flexlineOrdersUptoRow.holds Try.pinned (OpenSpec.upto flexlineOrdersSpec)

/-- 'windowpanelaw15.FlexlineAll', WHERE WHAT IT READS IS OF BULK AT MOST 1048576: true; the input reads as it did. -/
def flexlineAllUptoRow : OpenClaim := { program := "ytpelapdadgmlkaa", sum := "12a3de58ee23a212e46a6c687546d5456798b8b8561e9bdeff5e24fa5a26fce1", func := "windowpane/windowpanelaw15.FlexlineAll", spec := "flexlineAll", unfollowed := true, recurses := true, apart := false, narrowed := true }
def FlexlineAllUptoSaid : Prop := flexlineAllUptoRow.holds Try.pinned (OpenSpec.upto flexlineAllSpec)

/-- 'windowpanelaw15.FlexlineOne', WHERE WHAT IT READS IS OF BULK AT MOST 1048576: true; the input reads as it did. -/
def flexlineOneUptoRow : OpenClaim := { program := "ytpelapdadgmlkaa", sum := "12a3de58ee23a212e46a6c687546d5456798b8b8561e9bdeff5e24fa5a26fce1", func := "windowpane/windowpanelaw15.FlexlineOne", spec := "flexlineOne", unfollowed := true, recurses := true, apart := false, narrowed := true }
def FlexlineOneUptoSaid : Prop := flexlineOneUptoRow.holds Try.pinned (OpenSpec.upto flexlineOneSpec)

/-- 'windowpanelaw15.FlexlineWider', WHERE WHAT IT READS IS OF BULK AT MOST 1048576: true; the input reads as it did. -/
def flexlineWiderUptoRow : OpenClaim := { program := "ytpelapdadgmlkaa", sum := "12a3de58ee23a212e46a6c687546d5456798b8b8561e9bdeff5e24fa5a26fce1", func := "windowpane/windowpanelaw15.FlexlineWider", spec := "flexlineWider", unfollowed := true, recurses := true, apart := false, narrowed := true }
def FlexlineWiderUptoSaid : Prop := flexlineWiderUptoRow.holds Try.pinned (OpenSpec.upto flexlineWiderSpec)

/-- 'windowpanelaw15.FlexlineStable', WHERE WHAT IT READS IS OF BULK AT MOST 1048576: true; the input reads as it did. -/
def flexlineStableUptoRow : OpenClaim := { program := "ytpelapdadgmlkaa", sum := "12a3de58ee23a212e46a6c687546d5456798b8b8561e9bdeff5e24fa5a26fce1", func := "windowpane/windowpanelaw15.FlexlineStable", spec := "flexlineStable", unfollowed := true, recurses := true, apart := false, narrowed := true }
def FlexlineStableUptoSaid : Prop := flexlineStableUptoRow.holds Try.pinned (OpenSpec.upto flexlineStableSpec)

/-- 'windowpanelaw01.FixedShares', WHERE WHAT IT READS IS OF BULK AT MOST 1048576: true; the input reads as it did. -/
def fixedSharesUptoRow : OpenClaim := { program := "ytpelapdadgmlkaa", sum := "12a3de58ee23a212e46a6c687546d5456798b8b8561e9bdeff5e24fa5a26fce1", func := "windowpane/windowpanelaw01.FixedShares", spec := "fixedShares", unfollowed := true, recurses := true, named := ["math/bits.divideError", "math/bits.overflowError"], apart := false, narrowed := true }
def FixedSharesUptoSaid : Prop := fixedSharesUptoRow.holds Try.pinned (OpenSpec.upto fixedSharesSpec)

/-- 'windowpanelaw01.FixedOrder', WHERE WHAT IT READS IS OF BULK AT MOST 1048576: true; the input reads as it did. -/
def fixedOrderUptoRow : OpenClaim := { program := "ytpelapdadgmlkaa", sum := "12a3de58ee23a212e46a6c687546d5456798b8b8561e9bdeff5e24fa5a26fce1", func := "windowpane/windowpanelaw01.FixedOrder", spec := "fixedOrder", unfollowed := true, recurses := true, named := ["math/bits.divideError", "math/bits.overflowError"], apart := false, narrowed := true }
def FixedOrderUptoSaid : Prop := fixedOrderUptoRow.holds Try.pinned (OpenSpec.upto fixedOrderSpec)

/-- 'windowpanelaw01.FixedGiven', WHERE WHAT IT READS IS OF BULK AT MOST 1048576: true; the input reads as it did. -/
def fixedGivenUptoRow : OpenClaim := { program := "ytpelapdadgmlkaa", sum := "12a3de58ee23a212e46a6c687546d5456798b8b8561e9bdeff5e24fa5a26fce1", func := "windowpane/windowpanelaw01.FixedGiven", spec := "fixedGiven", unfollowed := true, recurses := true, named := ["math/bits.divideError", "math/bits.overflowError"], apart := false, narrowed := true }
def FixedGivenUptoSaid : Prop := fixedGivenUptoRow.holds Try.pinned (OpenSpec.upto fixedGivenSpec)

/-- 'windowpanelaw01.FixedTurned', WHERE WHAT IT READS IS OF BULK AT MOST 1048576: true; the input reads as it did. -/
def fixedTurnedUptoRow : OpenClaim := { program := "ytpelapdadgmlkaa", sum := "12a3de58ee23a212e46a6c687546d5456798b8b8561e9bdeff5e24fa5a26fce1", func := "windowpane/windowpanelaw01.FixedTurned", spec := "fixedTurned", unfollowed := true, recurses := true, named := ["math/bits.divideError", "math/bits.overflowError"], apart := false, narrowed := true }
def FixedTurnedUptoSaid : Prop := fixedTurnedUptoRow.holds Try.pinned (OpenSpec.upto fixedTurnedSpec)

/-- 'windowpanelaw01.FixedWhole', WHERE WHAT IT READS IS OF BULK AT MOST 1048576: true; the input reads as it did. -/
def fixedWholeUptoRow : OpenClaim := { program := "ytpelapdadgmlkaa", sum := "12a3de58ee23a212e46a6c687546d5456798b8b8561e9bdeff5e24fa5a26fce1", func := "windowpane/windowpanelaw01.FixedWhole", spec := "fixedWhole", unfollowed := true, recurses := true, named := ["math/bits.divideError", "math/bits.overflowError"], apart := false, narrowed := true }
def FixedWholeUptoSaid : Prop := fixedWholeUptoRow.holds Try.pinned (OpenSpec.upto fixedWholeSpec)

/-- 'windowpanelaw01.FixedBetween', WHERE WHAT IT READS IS OF BULK AT MOST 1048576: true; the input reads as it did. -/
def fixedBetweenUptoRow : OpenClaim := { program := "ytpelapdadgmlkaa", sum := "12a3de58ee23a212e46a6c687546d5456798b8b8561e9bdeff5e24fa5a26fce1", func := "windowpane/windowpanelaw01.FixedBetween", spec := "fixedBetween", unfollowed := true, recurses := true, named := ["math/bits.divideError", "math/bits.overflowError"], apart := false, narrowed := true }
def FixedBetweenUptoSaid : Prop := fixedBetweenUptoRow.holds Try.pinned (OpenSpec.upto fixedBetweenSpec)

/-- 'windowpanelaw01.FixedBack', WHERE WHAT IT READS IS OF BULK AT MOST 1048576: true; the input reads as it did. -/
def fixedBackUptoRow : OpenClaim := { program := "ytpelapdadgmlkaa", sum := "12a3de58ee23a212e46a6c687546d5456798b8b8561e9bdeff5e24fa5a26fce1", func := "windowpane/windowpanelaw01.FixedBack", spec := "fixedBack", unfollowed := true, recurses := true, named := ["math/bits.divideError", "math/bits.overflowError"], apart := false, narrowed := true }
def FixedBackUptoSaid : Prop := fixedBackUptoRow.holds Try.pinned (OpenSpec.upto fixedBackSpec)

/-- 'windowpanelaw17.FlexMain', WHERE WHAT IT READS IS OF BULK AT MOST 1048576: true; the input reads as it did. -/
def flexMainUptoRow : OpenClaim := { program := "ytpelapdadgmlkaa", sum := "12a3de58ee23a212e46a6c687546d5456798b8b8561e9bdeff5e24fa5a26fce1", func := "windowpane/windowpanelaw17.FlexMain", spec := "flexMain", unfollowed := true, recurses := true, named := ["math/bits.divideError", "math/bits.overflowError"], apart := false, narrowed := true }
def FlexMainUptoSaid : Prop := flexMainUptoRow.holds Try.pinned (OpenSpec.upto flexMainSpec)

/-- 'windowpanelaw17.FlexBeside', WHERE WHAT IT READS IS OF BULK AT MOST 1048576: true; the input reads as it did. -/
def flexBesideUptoRow : OpenClaim := { program := "ytpelapdadgmlkaa", sum := "12a3de58ee23a212e46a6c687546d5456798b8b8561e9bdeff5e24fa5a26fce1", func := "windowpane/windowpanelaw17.FlexBeside", spec := "flexBeside", unfollowed := true, recurses := true, named := ["math/bits.divideError", "math/bits.overflowError"], apart := false, narrowed := true }
def FlexBesideUptoSaid : Prop := flexBesideUptoRow.holds Try.pinned (OpenSpec.upto flexBesideSpec)

/-- 'windowpanelaw17.FlexAsked', WHERE WHAT IT READS IS OF BULK AT MOST 1048576: true; the input reads as it did. -/
def flexAskedUptoRow : OpenClaim := { program := "ytpelapdadgmlkaa", sum := "12a3de58ee23a212e46a6c687546d5456798b8b8561e9bdeff5e24fa5a26fce1", func := "windowpane/windowpanelaw17.FlexAsked", spec := "flexAsked", unfollowed := true, recurses := true, named := ["math/bits.divideError", "math/bits.overflowError"], apart := false, narrowed := true }
def FlexAskedUptoSaid : Prop := flexAskedUptoRow.holds Try.pinned (OpenSpec.upto flexAskedSpec)

/-- 'windowpanelaw17.FlexBack', WHERE WHAT IT READS IS OF BULK AT MOST 1048576: true; the input reads as it did. -/
def flexBackUptoRow : OpenClaim := { program := "ytpelapdadgmlkaa", sum := "12a3de58ee23a212e46a6c687546d5456798b8b8561e9bdeff5e24fa5a26fce1", func := "windowpane/windowpanelaw17.FlexBack", spec := "flexBack", unfollowed := true, recurses := true, named := ["math/bits.divideError", "math/bits.overflowError"], apart := false, narrowed := true }
def FlexBackUptoSaid : Prop := flexBackUptoRow.holds Try.pinned (OpenSpec.upto flexBackSpec)

/-- 'windowpanelaw17.FlexAcross', WHERE WHAT IT READS IS OF BULK AT MOST 1048576: true; the input reads as it did. -/
def flexAcrossUptoRow : OpenClaim := { program := "ytpelapdadgmlkaa", sum := "12a3de58ee23a212e46a6c687546d5456798b8b8561e9bdeff5e24fa5a26fce1", func := "windowpane/windowpanelaw17.FlexAcross", spec := "flexAcross", unfollowed := true, recurses := true, named := ["math/bits.divideError", "math/bits.overflowError"], apart := false, narrowed := true }
def FlexAcrossUptoSaid : Prop := flexAcrossUptoRow.holds Try.pinned (OpenSpec.upto flexAcrossSpec)

/-- 'windowpanelaw17.FlexMore', WHERE WHAT IT READS IS OF BULK AT MOST 1048576: true; the input reads as it did. -/
def flexMoreUptoRow : OpenClaim := { program := "ytpelapdadgmlkaa", sum := "12a3de58ee23a212e46a6c687546d5456798b8b8561e9bdeff5e24fa5a26fce1", func := "windowpane/windowpanelaw17.FlexMore", spec := "flexMore", unfollowed := true, recurses := true, named := ["math/bits.divideError", "math/bits.overflowError"], apart := false, narrowed := true }
def FlexMoreUptoSaid : Prop := flexMoreUptoRow.holds Try.pinned (OpenSpec.upto flexMoreSpec)

/-- 'windowpanelaw16.FlexibleSizes', WHERE WHAT IT READS IS OF BULK AT MOST 1048576: true; the input reads as it did. -/
def flexibleSizesUptoRow : OpenClaim := { program := "ytpelapdadgmlkaa", sum := "12a3de58ee23a212e46a6c687546d5456798b8b8561e9bdeff5e24fa5a26fce1", func := "windowpane/windowpanelaw16.FlexibleSizes", spec := "flexibleSizes", unfollowed := true, recurses := true, named := ["math/bits.divideError", "math/bits.overflowError"], apart := false, narrowed := true }
def FlexibleSizesUptoSaid : Prop := flexibleSizesUptoRow.holds Try.pinned (OpenSpec.upto flexibleSizesSpec)

/-- 'windowpanelaw16.FlexibleFull', WHERE WHAT IT READS IS OF BULK AT MOST 1048576: true; the input reads as it did. -/
def flexibleFullUptoRow : OpenClaim := { program := "ytpelapdadgmlkaa", sum := "12a3de58ee23a212e46a6c687546d5456798b8b8561e9bdeff5e24fa5a26fce1", func := "windowpane/windowpanelaw16.FlexibleFull", spec := "flexibleFull", unfollowed := true, recurses := true, named := ["math/bits.divideError", "math/bits.overflowError"], apart := false, narrowed := true }
def FlexibleFullUptoSaid : Prop := flexibleFullUptoRow.holds Try.pinned (OpenSpec.upto flexibleFullSpec)

/-- 'windowpanelaw16.FlexibleWay', WHERE WHAT IT READS IS OF BULK AT MOST 1048576: true; the input reads as it did. -/
def flexibleWayUptoRow : OpenClaim := { program := "ytpelapdadgmlkaa", sum := "12a3de58ee23a212e46a6c687546d5456798b8b8561e9bdeff5e24fa5a26fce1", func := "windowpane/windowpanelaw16.FlexibleWay", spec := "flexibleWay", unfollowed := true, recurses := true, named := ["math/bits.divideError", "math/bits.overflowError"], apart := false, narrowed := true }
def FlexibleWayUptoSaid : Prop := flexibleWayUptoRow.holds Try.pinned (OpenSpec.upto flexibleWaySpec)

/-- 'windowpanelaw16.FlexibleStiff', WHERE WHAT IT READS IS OF BULK AT MOST 1048576: true; the input reads as it did. -/
def flexibleStiffUptoRow : OpenClaim := { program := "ytpelapdadgmlkaa", sum := "12a3de58ee23a212e46a6c687546d5456798b8b8561e9bdeff5e24fa5a26fce1", func := "windowpane/windowpanelaw16.FlexibleStiff", spec := "flexibleStiff", unfollowed := true, recurses := true, named := ["math/bits.divideError", "math/bits.overflowError"], apart := false, narrowed := true }
def FlexibleStiffUptoSaid : Prop := flexibleStiffUptoRow.holds Try.pinned (OpenSpec.upto flexibleStiffSpec)

/-- 'windowpanelaw16.FlexibleOuter', WHERE WHAT IT READS IS OF BULK AT MOST 1048576: true; the input reads as it did. -/
def flexibleOuterUptoRow : OpenClaim := { program := "ytpelapdadgmlkaa", sum := "12a3de58ee23a212e46a6c687546d5456798b8b8561e9bdeff5e24fa5a26fce1", func := "windowpane/windowpanelaw16.FlexibleOuter", spec := "flexibleOuter", unfollowed := true, recurses := true, named := ["math/bits.divideError", "math/bits.overflowError"], apart := false, narrowed := true }
def FlexibleOuterUptoSaid : Prop := flexibleOuterUptoRow.holds Try.pinned (OpenSpec.upto flexibleOuterSpec)

/-- 'windowpanelaw16.FlexibleAlike', WHERE WHAT IT READS IS OF BULK AT MOST 1048576: true; the input reads as it did. -/
def flexibleAlikeUptoRow : OpenClaim := { program := "ytpelapdadgmlkaa", sum := "12a3de58ee23a212e46a6c687546d5456798b8b8561e9bdeff5e24fa5a26fce1", func := "windowpane/windowpanelaw16.FlexibleAlike", spec := "flexibleAlike", unfollowed := true, recurses := true, named := ["math/bits.divideError", "math/bits.overflowError"], apart := false, narrowed := true }
def FlexibleAlikeUptoSaid : Prop := flexibleAlikeUptoRow.holds Try.pinned (OpenSpec.upto flexibleAlikeSpec)

end Rows
end Go.Proofs.Ytpelapdadgmlkaa
