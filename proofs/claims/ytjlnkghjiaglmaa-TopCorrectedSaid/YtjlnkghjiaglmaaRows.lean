/-
  No cell of these rows narrows 'for every input' (looked for: loops, veiled, ifaces, maps, wideKeys, modest, calm, conditions, laid).
  DERIVED. THE GIVEN ROWS OF THIS SEAT. 19 by the template 'for every input the law returns true; each argument reads behind the call as it read before'; 0 by the template 'total and deterministic' (their statements: YtjlnkghjiaglmaaTotals.lean).
  GIVEN WITH THE SEED: the statements are not yours to turn. If you find one false, say at which input.
  Laid BY PROGRAM, IN A SANDBOX (cutbox-rows.mjs): the forced cells as the released guide's own fill.sh prints them over the translation 9f9c470e7a9e7fd3… (all of the seat's roots in one cut). By AI agents, Wed Nov 11 2026. No macro, syntax, notation, axiom, sorry.
-/
import Derived.Test.YtjlnkghjiaglmaaChecked
import GoSem.Claim
import GoSem.ClaimJoined
import GoSem.ClaimMapViews
import Derived.JoinedTies
import Derived.KernelRfl
namespace Go.Proofs.Ytjlnkghjiaglmaa
/- THE CELL 'sum', in the pinned program and in every row, IS THE sha256 OF THE DUMP (.gsa) THAT YtjlnkghjiaglmaaProg.lean LOADS. Nothing in Lean hashes anything: it is a label: what it is worth is what the hold of that sum in a sandbox is worth. -/
noncomputable def Try.pinned : Pinned := { name := "ytjlnkghjiaglmaa", sum := "9f9c470e7a9e7fd3c5e2c10792b8ad2a6a880f06b0216a305ff7633c9822cb6c", checked := Try.checked }
namespace Rows
def none {H : Type} : Left H := { results := [], args := [] }

/-- 'tourbillonlaw04.DialLengths': WHATEVER THE INPUT: true; the input reads as it did. -/
def dialLengthsSpec : ChangeSpec := { name := "dialLengths", fn := fun _ => fun
  | [d1, d2] => { results := [.lit (.bool true)], args := [d1, d2] }
  | _ => none }
def dialLengthsRow : OpenClaim := { program := "ytjlnkghjiaglmaa", sum := "9f9c470e7a9e7fd3c5e2c10792b8ad2a6a880f06b0216a305ff7633c9822cb6c", func := "tourbillon/tourbillonlaw04.DialLengths", spec := "dialLengths", apart := false }
def DialLengthsSaid : Prop := dialLengthsRow.holds Try.pinned (OpenSpec.ofChange dialLengthsSpec)

/-- ITS FALSE NEIGHBOUR: 'it returns false'. Refute it at one input. -/
def dialLengthsWrong : ChangeSpec := { name := "dialLengths", fn := fun _ => fun
  | [d1, d2] => { results := [.lit (.bool false)], args := [d1, d2] }
  | _ => none }
def DialLengthsWrongFalsely : Prop := dialLengthsRow.holds Try.pinned (OpenSpec.ofChange dialLengthsWrong)

/-- 'tourbillonlaw04.DialYears': WHATEVER THE INPUT: true; the input reads as it did. -/
def dialYearsSpec : ChangeSpec := { name := "dialYears", fn := fun _ => fun
  | [d] => { results := [.lit (.bool true)], args := [d] }
  | _ => none }
def dialYearsRow : OpenClaim := { program := "ytjlnkghjiaglmaa", sum := "9f9c470e7a9e7fd3c5e2c10792b8ad2a6a880f06b0216a305ff7633c9822cb6c", func := "tourbillon/tourbillonlaw04.DialYears", spec := "dialYears", apart := false }
def DialYearsSaid : Prop := dialYearsRow.holds Try.pinned (OpenSpec.ofChange dialYearsSpec)

/-- ITS FALSE NEIGHBOUR: 'it returns false'. Refute it at one input. -/
def dialYearsWrong : ChangeSpec := { name := "dialYears", fn := fun _ => fun
  | [d] => { results := [.lit (.bool false)], args := [d] }
  | _ => none }
def DialYearsWrongFalsely : Prop := dialYearsRow.holds Try.pinned (OpenSpec.ofChange dialYearsWrong)

/-- 'tourbillonlaw04.DialRuns': WHATEVER THE INPUT: true; the input reads as it did. -/
def dialRunsSpec : ChangeSpec := { name := "dialRuns", fn := fun _ => fun
  | [d1, d2, d3] => { results := [.lit (.bool true)], args := [d1, d2, d3] }
  | _ => none }
def dialRunsRow : OpenClaim := { program := "ytjlnkghjiaglmaa", sum := "9f9c470e7a9e7fd3c5e2c10792b8ad2a6a880f06b0216a305ff7633c9822cb6c", func := "tourbillon/tourbillonlaw04.DialRuns", spec := "dialRuns", apart := false }
def DialRunsSaid : Prop := dialRunsRow.holds Try.pinned (OpenSpec.ofChange dialRunsSpec)

/-- ITS FALSE NEIGHBOUR: 'it returns false'. Refute it at one input. -/
def dialRunsWrong : ChangeSpec := { name := "dialRuns", fn := fun _ => fun
  | [d1, d2, d3] => { results := [.lit (.bool false)], args := [d1, d2, d3] }
  | _ => none }
def DialRunsWrongFalsely : Prop := dialRunsRow.holds Try.pinned (OpenSpec.ofChange dialRunsWrong)

/-- 'tourbillonlaw04.DialHands': WHATEVER THE INPUT: true; the input reads as it did. -/
def dialHandsSpec : ChangeSpec := { name := "dialHands", fn := fun _ => fun
  | [d] => { results := [.lit (.bool true)], args := [d] }
  | _ => none }
def dialHandsRow : OpenClaim := { program := "ytjlnkghjiaglmaa", sum := "9f9c470e7a9e7fd3c5e2c10792b8ad2a6a880f06b0216a305ff7633c9822cb6c", func := "tourbillon/tourbillonlaw04.DialHands", spec := "dialHands", apart := false }
def DialHandsSaid : Prop := dialHandsRow.holds Try.pinned (OpenSpec.ofChange dialHandsSpec)

/-- ITS FALSE NEIGHBOUR: 'it returns false'. Refute it at one input. -/
def dialHandsWrong : ChangeSpec := { name := "dialHands", fn := fun _ => fun
  | [d] => { results := [.lit (.bool false)], args := [d] }
  | _ => none }
def DialHandsWrongFalsely : Prop := dialHandsRow.holds Try.pinned (OpenSpec.ofChange dialHandsWrong)

/-- 'tourbillonlaw04.DialPlays': WHATEVER THE INPUT: true; the input reads as it did. -/
def dialPlaysSpec : ChangeSpec := { name := "dialPlays", fn := fun _ => fun
  | [d1, d2] => { results := [.lit (.bool true)], args := [d1, d2] }
  | _ => none }
def dialPlaysRow : OpenClaim := { program := "ytjlnkghjiaglmaa", sum := "9f9c470e7a9e7fd3c5e2c10792b8ad2a6a880f06b0216a305ff7633c9822cb6c", func := "tourbillon/tourbillonlaw04.DialPlays", spec := "dialPlays", apart := false }
def DialPlaysSaid : Prop := dialPlaysRow.holds Try.pinned (OpenSpec.ofChange dialPlaysSpec)

/-- ITS FALSE NEIGHBOUR: 'it returns false'. Refute it at one input. -/
def dialPlaysWrong : ChangeSpec := { name := "dialPlays", fn := fun _ => fun
  | [d1, d2] => { results := [.lit (.bool false)], args := [d1, d2] }
  | _ => none }
def DialPlaysWrongFalsely : Prop := dialPlaysRow.holds Try.pinned (OpenSpec.ofChange dialPlaysWrong)

/-- 'tourbillonlaw04.DialMoves': WHATEVER THE INPUT: true; the input reads as it did. -/
def dialMovesSpec : ChangeSpec := { name := "dialMoves", fn := fun _ => fun
  | [d1, d2, d3] => { results := [.lit (.bool true)], args := [d1, d2, d3] }
  | _ => none }
def dialMovesRow : OpenClaim := { program := "ytjlnkghjiaglmaa", sum := "9f9c470e7a9e7fd3c5e2c10792b8ad2a6a880f06b0216a305ff7633c9822cb6c", func := "tourbillon/tourbillonlaw04.DialMoves", spec := "dialMoves", apart := false }
def DialMovesSaid : Prop := dialMovesRow.holds Try.pinned (OpenSpec.ofChange dialMovesSpec)

/-- ITS FALSE NEIGHBOUR: 'it returns false'. Refute it at one input. -/
def dialMovesWrong : ChangeSpec := { name := "dialMoves", fn := fun _ => fun
  | [d1, d2, d3] => { results := [.lit (.bool false)], args := [d1, d2, d3] }
  | _ => none }
def DialMovesWrongFalsely : Prop := dialMovesRow.holds Try.pinned (OpenSpec.ofChange dialMovesWrong)

/-- 'tourbillonlaw04.DialSets': WHATEVER THE INPUT: true; the input reads as it did. -/
def dialSetsSpec : ChangeSpec := { name := "dialSets", fn := fun _ => fun
  | [d1, d2, d3] => { results := [.lit (.bool true)], args := [d1, d2, d3] }
  | _ => none }
def dialSetsRow : OpenClaim := { program := "ytjlnkghjiaglmaa", sum := "9f9c470e7a9e7fd3c5e2c10792b8ad2a6a880f06b0216a305ff7633c9822cb6c", func := "tourbillon/tourbillonlaw04.DialSets", spec := "dialSets", apart := false }
def DialSetsSaid : Prop := dialSetsRow.holds Try.pinned (OpenSpec.ofChange dialSetsSpec)

/-- ITS FALSE NEIGHBOUR: 'it returns false'. Refute it at one input. -/
def dialSetsWrong : ChangeSpec := { name := "dialSets", fn := fun _ => fun
  | [d1, d2, d3] => { results := [.lit (.bool false)], args := [d1, d2, d3] }
  | _ => none }
def DialSetsWrongFalsely : Prop := dialSetsRow.holds Try.pinned (OpenSpec.ofChange dialSetsWrong)

/-- 'tourbillonlaw04.DialDates': WHATEVER THE INPUT: true; the input reads as it did. -/
def dialDatesSpec : ChangeSpec := { name := "dialDates", fn := fun _ => fun
  | [d1, d2] => { results := [.lit (.bool true)], args := [d1, d2] }
  | _ => none }
def dialDatesRow : OpenClaim := { program := "ytjlnkghjiaglmaa", sum := "9f9c470e7a9e7fd3c5e2c10792b8ad2a6a880f06b0216a305ff7633c9822cb6c", func := "tourbillon/tourbillonlaw04.DialDates", spec := "dialDates", apart := false }
def DialDatesSaid : Prop := dialDatesRow.holds Try.pinned (OpenSpec.ofChange dialDatesSpec)

/-- ITS FALSE NEIGHBOUR: 'it returns false'. Refute it at one input. -/
def dialDatesWrong : ChangeSpec := { name := "dialDates", fn := fun _ => fun
  | [d1, d2] => { results := [.lit (.bool false)], args := [d1, d2] }
  | _ => none }
def DialDatesWrongFalsely : Prop := dialDatesRow.holds Try.pinned (OpenSpec.ofChange dialDatesWrong)

/-- 'tourbillonlaw04.DialBack': WHATEVER THE INPUT: true; the input reads as it did. -/
def dialBackSpec : ChangeSpec := { name := "dialBack", fn := fun _ => fun
  | [d] => { results := [.lit (.bool true)], args := [d] }
  | _ => none }
def dialBackRow : OpenClaim := { program := "ytjlnkghjiaglmaa", sum := "9f9c470e7a9e7fd3c5e2c10792b8ad2a6a880f06b0216a305ff7633c9822cb6c", func := "tourbillon/tourbillonlaw04.DialBack", spec := "dialBack", apart := false }
def DialBackSaid : Prop := dialBackRow.holds Try.pinned (OpenSpec.ofChange dialBackSpec)

/-- ITS FALSE NEIGHBOUR: 'it returns false'. Refute it at one input. -/
def dialBackWrong : ChangeSpec := { name := "dialBack", fn := fun _ => fun
  | [d] => { results := [.lit (.bool false)], args := [d] }
  | _ => none }
def DialBackWrongFalsely : Prop := dialBackRow.holds Try.pinned (OpenSpec.ofChange dialBackWrong)

/-- 'tourbillonlaw04.DialCycle': WHATEVER THE INPUT: true; the input reads as it did. -/
def dialCycleSpec : ChangeSpec := { name := "dialCycle", fn := fun _ => fun
  | [d] => { results := [.lit (.bool true)], args := [d] }
  | _ => none }
def dialCycleRow : OpenClaim := { program := "ytjlnkghjiaglmaa", sum := "9f9c470e7a9e7fd3c5e2c10792b8ad2a6a880f06b0216a305ff7633c9822cb6c", func := "tourbillon/tourbillonlaw04.DialCycle", spec := "dialCycle", apart := false }
def DialCycleSaid : Prop := dialCycleRow.holds Try.pinned (OpenSpec.ofChange dialCycleSpec)

/-- ITS FALSE NEIGHBOUR: 'it returns false'. Refute it at one input. -/
def dialCycleWrong : ChangeSpec := { name := "dialCycle", fn := fun _ => fun
  | [d] => { results := [.lit (.bool false)], args := [d] }
  | _ => none }
def DialCycleWrongFalsely : Prop := dialCycleRow.holds Try.pinned (OpenSpec.ofChange dialCycleWrong)

/-- 'tourbillonlaw04.DialSum': WHATEVER THE INPUT: true; the input reads as it did. -/
def dialSumSpec : ChangeSpec := { name := "dialSum", fn := fun _ => fun
  | [d1, d2, d3] => { results := [.lit (.bool true)], args := [d1, d2, d3] }
  | _ => none }
def dialSumRow : OpenClaim := { program := "ytjlnkghjiaglmaa", sum := "9f9c470e7a9e7fd3c5e2c10792b8ad2a6a880f06b0216a305ff7633c9822cb6c", func := "tourbillon/tourbillonlaw04.DialSum", spec := "dialSum", apart := false }
def DialSumSaid : Prop := dialSumRow.holds Try.pinned (OpenSpec.ofChange dialSumSpec)

/-- ITS FALSE NEIGHBOUR: 'it returns false'. Refute it at one input. -/
def dialSumWrong : ChangeSpec := { name := "dialSum", fn := fun _ => fun
  | [d1, d2, d3] => { results := [.lit (.bool false)], args := [d1, d2, d3] }
  | _ => none }
def DialSumWrongFalsely : Prop := dialSumRow.holds Try.pinned (OpenSpec.ofChange dialSumWrong)

/-- 'tourbillonlaw04.DialNights': WHATEVER THE INPUT: true; the input reads as it did. -/
def dialNightsSpec : ChangeSpec := { name := "dialNights", fn := fun _ => fun
  | [d1, d2, d3] => { results := [.lit (.bool true)], args := [d1, d2, d3] }
  | _ => none }
def dialNightsRow : OpenClaim := { program := "ytjlnkghjiaglmaa", sum := "9f9c470e7a9e7fd3c5e2c10792b8ad2a6a880f06b0216a305ff7633c9822cb6c", func := "tourbillon/tourbillonlaw04.DialNights", spec := "dialNights", apart := false }
def DialNightsSaid : Prop := dialNightsRow.holds Try.pinned (OpenSpec.ofChange dialNightsSpec)

/-- ITS FALSE NEIGHBOUR: 'it returns false'. Refute it at one input. -/
def dialNightsWrong : ChangeSpec := { name := "dialNights", fn := fun _ => fun
  | [d1, d2, d3] => { results := [.lit (.bool false)], args := [d1, d2, d3] }
  | _ => none }
def DialNightsWrongFalsely : Prop := dialNightsRow.holds Try.pinned (OpenSpec.ofChange dialNightsWrong)

/-- 'tourbillontop.TopCorrected': WHATEVER THE INPUT: true; the input reads as it did. -/
def topCorrectedSpec : ChangeSpec := { name := "topCorrected", fn := fun _ => fun
  | [d1, d2] => { results := [.lit (.bool true)], args := [d1, d2] }
  | _ => none }
def topCorrectedRow : OpenClaim := { program := "ytjlnkghjiaglmaa", sum := "9f9c470e7a9e7fd3c5e2c10792b8ad2a6a880f06b0216a305ff7633c9822cb6c", func := "tourbillon/tourbillontop.TopCorrected", spec := "topCorrected", apart := false }
def TopCorrectedSaid : Prop := topCorrectedRow.holds Try.pinned (OpenSpec.ofChange topCorrectedSpec)

/-- ITS FALSE NEIGHBOUR: 'it returns false'. Refute it at one input. -/
def topCorrectedWrong : ChangeSpec := { name := "topCorrected", fn := fun _ => fun
  | [d1, d2] => { results := [.lit (.bool false)], args := [d1, d2] }
  | _ => none }
def TopCorrectedWrongFalsely : Prop := topCorrectedRow.holds Try.pinned (OpenSpec.ofChange topCorrectedWrong)

/-- 'tourbillonlaw04.DialHand': WHATEVER THE INPUT: true; the input reads as it did. -/
def dialHandSpec : ChangeSpec := { name := "dialHand", fn := fun _ => fun
  | [d] => { results := [.lit (.bool true)], args := [d] }
  | _ => none }
def dialHandRow : OpenClaim := { program := "ytjlnkghjiaglmaa", sum := "9f9c470e7a9e7fd3c5e2c10792b8ad2a6a880f06b0216a305ff7633c9822cb6c", func := "tourbillon/tourbillonlaw04.DialHand", spec := "dialHand", apart := false }
def DialHandSaid : Prop := dialHandRow.holds Try.pinned (OpenSpec.ofChange dialHandSpec)

/-- ITS FALSE NEIGHBOUR: 'it returns false'. Refute it at one input. -/
def dialHandWrong : ChangeSpec := { name := "dialHand", fn := fun _ => fun
  | [d] => { results := [.lit (.bool false)], args := [d] }
  | _ => none }
def DialHandWrongFalsely : Prop := dialHandRow.holds Try.pinned (OpenSpec.ofChange dialHandWrong)

/-- 'tourbillonlaw04.DialPushes': WHATEVER THE INPUT: true; the input reads as it did. -/
def dialPushesSpec : ChangeSpec := { name := "dialPushes", fn := fun _ => fun
  | [d1, d2] => { results := [.lit (.bool true)], args := [d1, d2] }
  | _ => none }
def dialPushesRow : OpenClaim := { program := "ytjlnkghjiaglmaa", sum := "9f9c470e7a9e7fd3c5e2c10792b8ad2a6a880f06b0216a305ff7633c9822cb6c", func := "tourbillon/tourbillonlaw04.DialPushes", spec := "dialPushes", apart := false }
def DialPushesSaid : Prop := dialPushesRow.holds Try.pinned (OpenSpec.ofChange dialPushesSpec)

/-- ITS FALSE NEIGHBOUR: 'it returns false'. Refute it at one input. -/
def dialPushesWrong : ChangeSpec := { name := "dialPushes", fn := fun _ => fun
  | [d1, d2] => { results := [.lit (.bool false)], args := [d1, d2] }
  | _ => none }
def DialPushesWrongFalsely : Prop := dialPushesRow.holds Try.pinned (OpenSpec.ofChange dialPushesWrong)

/-- 'tourbillonlaw04.DialFollows': WHATEVER THE INPUT: true; the input reads as it did. -/
def dialFollowsSpec : ChangeSpec := { name := "dialFollows", fn := fun _ => fun
  | [d1, d2] => { results := [.lit (.bool true)], args := [d1, d2] }
  | _ => none }
def dialFollowsRow : OpenClaim := { program := "ytjlnkghjiaglmaa", sum := "9f9c470e7a9e7fd3c5e2c10792b8ad2a6a880f06b0216a305ff7633c9822cb6c", func := "tourbillon/tourbillonlaw04.DialFollows", spec := "dialFollows", apart := false }
def DialFollowsSaid : Prop := dialFollowsRow.holds Try.pinned (OpenSpec.ofChange dialFollowsSpec)

/-- ITS FALSE NEIGHBOUR: 'it returns false'. Refute it at one input. -/
def dialFollowsWrong : ChangeSpec := { name := "dialFollows", fn := fun _ => fun
  | [d1, d2] => { results := [.lit (.bool false)], args := [d1, d2] }
  | _ => none }
def DialFollowsWrongFalsely : Prop := dialFollowsRow.holds Try.pinned (OpenSpec.ofChange dialFollowsWrong)

/-- 'tourbillonlaw04.DialWrongs': WHATEVER THE INPUT: true; the input reads as it did. -/
def dialWrongsSpec : ChangeSpec := { name := "dialWrongs", fn := fun _ => fun
  | [d1, d2] => { results := [.lit (.bool true)], args := [d1, d2] }
  | _ => none }
def dialWrongsRow : OpenClaim := { program := "ytjlnkghjiaglmaa", sum := "9f9c470e7a9e7fd3c5e2c10792b8ad2a6a880f06b0216a305ff7633c9822cb6c", func := "tourbillon/tourbillonlaw04.DialWrongs", spec := "dialWrongs", apart := false }
def DialWrongsSaid : Prop := dialWrongsRow.holds Try.pinned (OpenSpec.ofChange dialWrongsSpec)

/-- ITS FALSE NEIGHBOUR: 'it returns false'. Refute it at one input. -/
def dialWrongsWrong : ChangeSpec := { name := "dialWrongs", fn := fun _ => fun
  | [d1, d2] => { results := [.lit (.bool false)], args := [d1, d2] }
  | _ => none }
def DialWrongsWrongFalsely : Prop := dialWrongsRow.holds Try.pinned (OpenSpec.ofChange dialWrongsWrong)

/-- 'tourbillonlaw04.DialFirst': WHATEVER THE INPUT: true; the input reads as it did. -/
def dialFirstSpec : ChangeSpec := { name := "dialFirst", fn := fun _ => fun
  | [d1, d2] => { results := [.lit (.bool true)], args := [d1, d2] }
  | _ => none }
def dialFirstRow : OpenClaim := { program := "ytjlnkghjiaglmaa", sum := "9f9c470e7a9e7fd3c5e2c10792b8ad2a6a880f06b0216a305ff7633c9822cb6c", func := "tourbillon/tourbillonlaw04.DialFirst", spec := "dialFirst", apart := false }
def DialFirstSaid : Prop := dialFirstRow.holds Try.pinned (OpenSpec.ofChange dialFirstSpec)

/-- ITS FALSE NEIGHBOUR: 'it returns false'. Refute it at one input. -/
def dialFirstWrong : ChangeSpec := { name := "dialFirst", fn := fun _ => fun
  | [d1, d2] => { results := [.lit (.bool false)], args := [d1, d2] }
  | _ => none }
def DialFirstWrongFalsely : Prop := dialFirstRow.holds Try.pinned (OpenSpec.ofChange dialFirstWrong)

/-- 'tourbillonlaw04.DialPerpetual': WHATEVER THE INPUT: true; the input reads as it did. -/
def dialPerpetualSpec : ChangeSpec := { name := "dialPerpetual", fn := fun _ => fun
  | [d1, d2] => { results := [.lit (.bool true)], args := [d1, d2] }
  | _ => none }
def dialPerpetualRow : OpenClaim := { program := "ytjlnkghjiaglmaa", sum := "9f9c470e7a9e7fd3c5e2c10792b8ad2a6a880f06b0216a305ff7633c9822cb6c", func := "tourbillon/tourbillonlaw04.DialPerpetual", spec := "dialPerpetual", apart := false }
def DialPerpetualSaid : Prop := dialPerpetualRow.holds Try.pinned (OpenSpec.ofChange dialPerpetualSpec)

/-- ITS FALSE NEIGHBOUR: 'it returns false'. Refute it at one input. -/
def dialPerpetualWrong : ChangeSpec := { name := "dialPerpetual", fn := fun _ => fun
  | [d1, d2] => { results := [.lit (.bool false)], args := [d1, d2] }
  | _ => none }
def DialPerpetualWrongFalsely : Prop := dialPerpetualRow.holds Try.pinned (OpenSpec.ofChange dialPerpetualWrong)

/- THE SECOND FORM. 'bulk': how many values and letters a reading holds, each counted each time it is reached (what is shared counts as often as it is met; a slice's spare places count too). A statement '..UptoSaid' is the law's where the arguments, and the package variables that the reading takes, are together of bulk at most 1048576: NARROWER than '..Said'. Prove '..Said' where nothing that the law and all that it calls make is longer than what came in: it says more and counts as full. Else prove '..UptoSaid'. A law counts once. -/
mutual
def uptoBulk {H : Type} : DataW H → Nat
  | .lit (.string bytes) => bytes.length + 1
  | .lit _ => 1
  | .nil => 1
  | .ptr d => uptoBulk d + 1
  | .slice elems spare => uptoBulkAll elems + uptoBulkAll spare + 1
  | .agg parts => uptoBulkAll parts + 1
  | .iface _ d => uptoBulk d + 1
  | .map entries => uptoBulkEntries entries + 1
  | .held _ => 1
def uptoBulkAll {H : Type} : List (DataW H) → Nat
  | [] => 0
  | d :: r => uptoBulk d + uptoBulkAll r
def uptoBulkEntries {H : Type} : List (Lit × DataW H) → Nat
  | [] => 0
  | x :: r => uptoBulkEntry x + uptoBulkEntries r
def uptoBulkEntry {H : Type} : Lit × DataW H → Nat
  | (.string bytes, d) => bytes.length + uptoBulk d + 1
  | (_, d) => uptoBulk d + 1
 end
def uptoSmall : (H : Type) → List (DataW H) → Bool := fun _ ds => decide (uptoBulkAll ds ≤ 1048576)
def OpenSpec.upto (s : _root_.Go.ChangeSpec) : _root_.Go.OpenSpec := { _root_.Go.OpenSpec.ofChange s with cond := some uptoSmall }

/-- 'tourbillonlaw04.DialLengths', WHERE WHAT IT READS IS OF BULK AT MOST 1048576: true; the input reads as it did. -/
def dialLengthsUptoRow : OpenClaim := { program := "ytjlnkghjiaglmaa", sum := "9f9c470e7a9e7fd3c5e2c10792b8ad2a6a880f06b0216a305ff7633c9822cb6c", func := "tourbillon/tourbillonlaw04.DialLengths", spec := "dialLengths", apart := false, narrowed := true }
def DialLengthsUptoSaid : Prop := dialLengthsUptoRow.holds Try.pinned (OpenSpec.upto dialLengthsSpec)

/-- 'tourbillonlaw04.DialYears', WHERE WHAT IT READS IS OF BULK AT MOST 1048576: true; the input reads as it did. -/
def dialYearsUptoRow : OpenClaim := { program := "ytjlnkghjiaglmaa", sum := "9f9c470e7a9e7fd3c5e2c10792b8ad2a6a880f06b0216a305ff7633c9822cb6c", func := "tourbillon/tourbillonlaw04.DialYears", spec := "dialYears", apart := false, narrowed := true }
def DialYearsUptoSaid : Prop := dialYearsUptoRow.holds Try.pinned (OpenSpec.upto dialYearsSpec)

/-- 'tourbillonlaw04.DialRuns', WHERE WHAT IT READS IS OF BULK AT MOST 1048576: true; the input reads as it did. -/
def dialRunsUptoRow : OpenClaim := { program := "ytjlnkghjiaglmaa", sum := "9f9c470e7a9e7fd3c5e2c10792b8ad2a6a880f06b0216a305ff7633c9822cb6c", func := "tourbillon/tourbillonlaw04.DialRuns", spec := "dialRuns", apart := false, narrowed := true }
def DialRunsUptoSaid : Prop := dialRunsUptoRow.holds Try.pinned (OpenSpec.upto dialRunsSpec)

/-- 'tourbillonlaw04.DialHands', WHERE WHAT IT READS IS OF BULK AT MOST 1048576: true; the input reads as it did. -/
def dialHandsUptoRow : OpenClaim := { program := "ytjlnkghjiaglmaa", sum := "9f9c470e7a9e7fd3c5e2c10792b8ad2a6a880f06b0216a305ff7633c9822cb6c", func := "tourbillon/tourbillonlaw04.DialHands", spec := "dialHands", apart := false, narrowed := true }
def DialHandsUptoSaid : Prop := dialHandsUptoRow.holds Try.pinned (OpenSpec.upto dialHandsSpec)

/-- 'tourbillonlaw04.DialPlays', WHERE WHAT IT READS IS OF BULK AT MOST 1048576: true; the input reads as it did. -/
def dialPlaysUptoRow : OpenClaim := { program := "ytjlnkghjiaglmaa", sum := "9f9c470e7a9e7fd3c5e2c10792b8ad2a6a880f06b0216a305ff7633c9822cb6c", func := "tourbillon/tourbillonlaw04.DialPlays", spec := "dialPlays", apart := false, narrowed := true }
def DialPlaysUptoSaid : Prop := dialPlaysUptoRow.holds Try.pinned (OpenSpec.upto dialPlaysSpec)

/-- 'tourbillonlaw04.DialMoves', WHERE WHAT IT READS IS OF BULK AT MOST 1048576: true; the input reads as it did. -/
def dialMovesUptoRow : OpenClaim := { program := "ytjlnkghjiaglmaa", sum := "9f9c470e7a9e7fd3c5e2c10792b8ad2a6a880f06b0216a305ff7633c9822cb6c", func := "tourbillon/tourbillonlaw04.DialMoves", spec := "dialMoves", apart := false, narrowed := true }
def DialMovesUptoSaid : Prop := dialMovesUptoRow.holds Try.pinned (OpenSpec.upto dialMovesSpec)

/-- 'tourbillonlaw04.DialSets', WHERE WHAT IT READS IS OF BULK AT MOST 1048576: true; the input reads as it did. -/
def dialSetsUptoRow : OpenClaim := { program := "ytjlnkghjiaglmaa", sum := "9f9c470e7a9e7fd3c5e2c10792b8ad2a6a880f06b0216a305ff7633c9822cb6c", func := "tourbillon/tourbillonlaw04.DialSets", spec := "dialSets", apart := false, narrowed := true }
def DialSetsUptoSaid : Prop := dialSetsUptoRow.holds Try.pinned (OpenSpec.upto dialSetsSpec)

/-- 'tourbillonlaw04.DialDates', WHERE WHAT IT READS IS OF BULK AT MOST 1048576: true; the input reads as it did. -/
def dialDatesUptoRow : OpenClaim := { program := "ytjlnkghjiaglmaa", sum := "9f9c470e7a9e7fd3c5e2c10792b8ad2a6a880f06b0216a305ff7633c9822cb6c", func := "tourbillon/tourbillonlaw04.DialDates", spec := "dialDates", apart := false, narrowed := true }
def DialDatesUptoSaid : Prop := dialDatesUptoRow.holds Try.pinned (OpenSpec.upto dialDatesSpec)

/-- 'tourbillonlaw04.DialBack', WHERE WHAT IT READS IS OF BULK AT MOST 1048576: true; the input reads as it did. -/
def dialBackUptoRow : OpenClaim := { program := "ytjlnkghjiaglmaa", sum := "9f9c470e7a9e7fd3c5e2c10792b8ad2a6a880f06b0216a305ff7633c9822cb6c", func := "tourbillon/tourbillonlaw04.DialBack", spec := "dialBack", apart := false, narrowed := true }
def DialBackUptoSaid : Prop := dialBackUptoRow.holds Try.pinned (OpenSpec.upto dialBackSpec)

/-- 'tourbillonlaw04.DialCycle', WHERE WHAT IT READS IS OF BULK AT MOST 1048576: true; the input reads as it did. -/
def dialCycleUptoRow : OpenClaim := { program := "ytjlnkghjiaglmaa", sum := "9f9c470e7a9e7fd3c5e2c10792b8ad2a6a880f06b0216a305ff7633c9822cb6c", func := "tourbillon/tourbillonlaw04.DialCycle", spec := "dialCycle", apart := false, narrowed := true }
def DialCycleUptoSaid : Prop := dialCycleUptoRow.holds Try.pinned (OpenSpec.upto dialCycleSpec)

/-- 'tourbillonlaw04.DialSum', WHERE WHAT IT READS IS OF BULK AT MOST 1048576: true; the input reads as it did. -/
def dialSumUptoRow : OpenClaim := { program := "ytjlnkghjiaglmaa", sum := "9f9c470e7a9e7fd3c5e2c10792b8ad2a6a880f06b0216a305ff7633c9822cb6c", func := "tourbillon/tourbillonlaw04.DialSum", spec := "dialSum", apart := false, narrowed := true }
def DialSumUptoSaid : Prop := dialSumUptoRow.holds Try.pinned (OpenSpec.upto dialSumSpec)

/-- 'tourbillonlaw04.DialNights', WHERE WHAT IT READS IS OF BULK AT MOST 1048576: true; the input reads as it did. -/
def dialNightsUptoRow : OpenClaim := { program := "ytjlnkghjiaglmaa", sum := "9f9c470e7a9e7fd3c5e2c10792b8ad2a6a880f06b0216a305ff7633c9822cb6c", func := "tourbillon/tourbillonlaw04.DialNights", spec := "dialNights", apart := false, narrowed := true }
def DialNightsUptoSaid : Prop := dialNightsUptoRow.holds Try.pinned (OpenSpec.upto dialNightsSpec)

/-- 'tourbillontop.TopCorrected', WHERE WHAT IT READS IS OF BULK AT MOST 1048576: true; the input reads as it did. -/
def topCorrectedUptoRow : OpenClaim := { program := "ytjlnkghjiaglmaa", sum := "9f9c470e7a9e7fd3c5e2c10792b8ad2a6a880f06b0216a305ff7633c9822cb6c", func := "tourbillon/tourbillontop.TopCorrected", spec := "topCorrected", apart := false, narrowed := true }
def TopCorrectedUptoSaid : Prop := topCorrectedUptoRow.holds Try.pinned (OpenSpec.upto topCorrectedSpec)

/-- 'tourbillonlaw04.DialHand', WHERE WHAT IT READS IS OF BULK AT MOST 1048576: true; the input reads as it did. -/
def dialHandUptoRow : OpenClaim := { program := "ytjlnkghjiaglmaa", sum := "9f9c470e7a9e7fd3c5e2c10792b8ad2a6a880f06b0216a305ff7633c9822cb6c", func := "tourbillon/tourbillonlaw04.DialHand", spec := "dialHand", apart := false, narrowed := true }
def DialHandUptoSaid : Prop := dialHandUptoRow.holds Try.pinned (OpenSpec.upto dialHandSpec)

/-- 'tourbillonlaw04.DialPushes', WHERE WHAT IT READS IS OF BULK AT MOST 1048576: true; the input reads as it did. -/
def dialPushesUptoRow : OpenClaim := { program := "ytjlnkghjiaglmaa", sum := "9f9c470e7a9e7fd3c5e2c10792b8ad2a6a880f06b0216a305ff7633c9822cb6c", func := "tourbillon/tourbillonlaw04.DialPushes", spec := "dialPushes", apart := false, narrowed := true }
def DialPushesUptoSaid : Prop := dialPushesUptoRow.holds Try.pinned (OpenSpec.upto dialPushesSpec)

/-- 'tourbillonlaw04.DialFollows', WHERE WHAT IT READS IS OF BULK AT MOST 1048576: true; the input reads as it did. -/
def dialFollowsUptoRow : OpenClaim := { program := "ytjlnkghjiaglmaa", sum := "9f9c470e7a9e7fd3c5e2c10792b8ad2a6a880f06b0216a305ff7633c9822cb6c", func := "tourbillon/tourbillonlaw04.DialFollows", spec := "dialFollows", apart := false, narrowed := true }
def DialFollowsUptoSaid : Prop := dialFollowsUptoRow.holds Try.pinned (OpenSpec.upto dialFollowsSpec)

/-- 'tourbillonlaw04.DialWrongs', WHERE WHAT IT READS IS OF BULK AT MOST 1048576: true; the input reads as it did. -/
def dialWrongsUptoRow : OpenClaim := { program := "ytjlnkghjiaglmaa", sum := "9f9c470e7a9e7fd3c5e2c10792b8ad2a6a880f06b0216a305ff7633c9822cb6c", func := "tourbillon/tourbillonlaw04.DialWrongs", spec := "dialWrongs", apart := false, narrowed := true }
def DialWrongsUptoSaid : Prop := dialWrongsUptoRow.holds Try.pinned (OpenSpec.upto dialWrongsSpec)

/-- 'tourbillonlaw04.DialFirst', WHERE WHAT IT READS IS OF BULK AT MOST 1048576: true; the input reads as it did. -/
def dialFirstUptoRow : OpenClaim := { program := "ytjlnkghjiaglmaa", sum := "9f9c470e7a9e7fd3c5e2c10792b8ad2a6a880f06b0216a305ff7633c9822cb6c", func := "tourbillon/tourbillonlaw04.DialFirst", spec := "dialFirst", apart := false, narrowed := true }
def DialFirstUptoSaid : Prop := dialFirstUptoRow.holds Try.pinned (OpenSpec.upto dialFirstSpec)

/-- 'tourbillonlaw04.DialPerpetual', WHERE WHAT IT READS IS OF BULK AT MOST 1048576: true; the input reads as it did. -/
def dialPerpetualUptoRow : OpenClaim := { program := "ytjlnkghjiaglmaa", sum := "9f9c470e7a9e7fd3c5e2c10792b8ad2a6a880f06b0216a305ff7633c9822cb6c", func := "tourbillon/tourbillonlaw04.DialPerpetual", spec := "dialPerpetual", apart := false, narrowed := true }
def DialPerpetualUptoSaid : Prop := dialPerpetualUptoRow.holds Try.pinned (OpenSpec.upto dialPerpetualSpec)

end Rows
end Go.Proofs.Ytjlnkghjiaglmaa
