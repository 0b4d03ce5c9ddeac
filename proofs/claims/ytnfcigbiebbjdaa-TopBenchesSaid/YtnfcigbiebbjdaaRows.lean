/-
  No cell of these rows narrows 'for every input' (looked for: loops, veiled, ifaces, maps, wideKeys, modest, calm, conditions, laid).
  DERIVED. THE GIVEN ROWS OF THIS SEAT. 13 by the template 'for every input the law returns true; each argument reads behind the call as it read before'; 0 by the template 'total and deterministic' (their statements: YtnfcigbiebbjdaaTotals.lean).
  GIVEN WITH THE SEED: the statements are not yours to turn. If you find one false, say at which input.
  Laid BY PROGRAM, IN A SANDBOX (cutbox-rows.mjs): the forced cells as the released guide's own fill.sh prints them over the translation 534a7e7525a6f6d4… (all of the seat's roots in one cut). By AI agents, Wed Nov 11 2026. No macro, syntax, notation, axiom, sorry.
-/
import Derived.Test.YtnfcigbiebbjdaaChecked
import GoSem.Claim
import GoSem.ClaimJoined
import GoSem.ClaimMapViews
import Derived.JoinedTies
import Derived.KernelRfl
namespace Go.Proofs.Ytnfcigbiebbjdaa
/- THE CELL 'sum', in the pinned program and in every row, IS THE sha256 OF THE DUMP (.gsa) THAT YtnfcigbiebbjdaaProg.lean LOADS. Nothing in Lean hashes anything: it is a label: what it is worth is what the hold of that sum in a sandbox is worth. -/
noncomputable def Try.pinned : Pinned := { name := "ytnfcigbiebbjdaa", sum := "534a7e7525a6f6d4bed90f816e2e8c0a3606a149c7bca33109abfa62898fa925", checked := Try.checked }
namespace Rows
def none {H : Type} : Left H := { results := [], args := [] }

/-- 'tourbillonlaw07.QueueSmithLeast': WHATEVER THE INPUT: true; the input reads as it did. -/
def queueSmithLeastSpec : ChangeSpec := { name := "queueSmithLeast", fn := fun _ => fun
  | [d1, d2] => { results := [.lit (.bool true)], args := [d1, d2] }
  | _ => none }
def queueSmithLeastRow : OpenClaim := { program := "ytnfcigbiebbjdaa", sum := "534a7e7525a6f6d4bed90f816e2e8c0a3606a149c7bca33109abfa62898fa925", func := "tourbillon/tourbillonlaw07.QueueSmithLeast", spec := "queueSmithLeast", unfollowed := true, recurses := true, apart := false }
def QueueSmithLeastSaid : Prop := queueSmithLeastRow.holds Try.pinned (OpenSpec.ofChange queueSmithLeastSpec)

/-- ITS FALSE NEIGHBOUR: 'it returns false'. Refute it at one input. -/
def queueSmithLeastWrong : ChangeSpec := { name := "queueSmithLeast", fn := fun _ => fun
  | [d1, d2] => { results := [.lit (.bool false)], args := [d1, d2] }
  | _ => none }
def QueueSmithLeastWrongFalsely : Prop := queueSmithLeastRow.holds Try.pinned (OpenSpec.ofChange queueSmithLeastWrong)

/-- 'tourbillonlaw07.QueueJohnsonLeast': WHATEVER THE INPUT: true; the input reads as it did. -/
def queueJohnsonLeastSpec : ChangeSpec := { name := "queueJohnsonLeast", fn := fun _ => fun
  | [d1, d2, d3] => { results := [.lit (.bool true)], args := [d1, d2, d3] }
  | _ => none }
def queueJohnsonLeastRow : OpenClaim := { program := "ytnfcigbiebbjdaa", sum := "534a7e7525a6f6d4bed90f816e2e8c0a3606a149c7bca33109abfa62898fa925", func := "tourbillon/tourbillonlaw07.QueueJohnsonLeast", spec := "queueJohnsonLeast", unfollowed := true, recurses := true, apart := false }
def QueueJohnsonLeastSaid : Prop := queueJohnsonLeastRow.holds Try.pinned (OpenSpec.ofChange queueJohnsonLeastSpec)

/-- ITS FALSE NEIGHBOUR: 'it returns false'. Refute it at one input. -/
def queueJohnsonLeastWrong : ChangeSpec := { name := "queueJohnsonLeast", fn := fun _ => fun
  | [d1, d2, d3] => { results := [.lit (.bool false)], args := [d1, d2, d3] }
  | _ => none }
def QueueJohnsonLeastWrongFalsely : Prop := queueJohnsonLeastRow.holds Try.pinned (OpenSpec.ofChange queueJohnsonLeastWrong)

/-- 'tourbillonlaw07.QueueSmiths': WHATEVER THE INPUT: true; the input reads as it did. -/
def queueSmithsSpec : ChangeSpec := { name := "queueSmiths", fn := fun _ => fun
  | [d] => { results := [.lit (.bool true)], args := [d] }
  | _ => none }
def queueSmithsRow : OpenClaim := { program := "ytnfcigbiebbjdaa", sum := "534a7e7525a6f6d4bed90f816e2e8c0a3606a149c7bca33109abfa62898fa925", func := "tourbillon/tourbillonlaw07.QueueSmiths", spec := "queueSmiths", unfollowed := true, recurses := true, apart := false }
def QueueSmithsSaid : Prop := queueSmithsRow.holds Try.pinned (OpenSpec.ofChange queueSmithsSpec)

/-- ITS FALSE NEIGHBOUR: 'it returns false'. Refute it at one input. -/
def queueSmithsWrong : ChangeSpec := { name := "queueSmiths", fn := fun _ => fun
  | [d] => { results := [.lit (.bool false)], args := [d] }
  | _ => none }
def QueueSmithsWrongFalsely : Prop := queueSmithsRow.holds Try.pinned (OpenSpec.ofChange queueSmithsWrong)

/-- 'tourbillonlaw07.QueueLawlerLeast': WHATEVER THE INPUT: true; the input reads as it did. -/
def queueLawlerLeastSpec : ChangeSpec := { name := "queueLawlerLeast", fn := fun _ => fun
  | [d1, d2] => { results := [.lit (.bool true)], args := [d1, d2] }
  | _ => none }
def queueLawlerLeastRow : OpenClaim := { program := "ytnfcigbiebbjdaa", sum := "534a7e7525a6f6d4bed90f816e2e8c0a3606a149c7bca33109abfa62898fa925", func := "tourbillon/tourbillonlaw07.QueueLawlerLeast", spec := "queueLawlerLeast", unfollowed := true, recurses := true, apart := false }
def QueueLawlerLeastSaid : Prop := queueLawlerLeastRow.holds Try.pinned (OpenSpec.ofChange queueLawlerLeastSpec)

/-- ITS FALSE NEIGHBOUR: 'it returns false'. Refute it at one input. -/
def queueLawlerLeastWrong : ChangeSpec := { name := "queueLawlerLeast", fn := fun _ => fun
  | [d1, d2] => { results := [.lit (.bool false)], args := [d1, d2] }
  | _ => none }
def QueueLawlerLeastWrongFalsely : Prop := queueLawlerLeastRow.holds Try.pinned (OpenSpec.ofChange queueLawlerLeastWrong)

/-- 'tourbillontop.TopBenches': WHATEVER THE INPUT: true; the input reads as it did. -/
def topBenchesSpec : ChangeSpec := { name := "topBenches", fn := fun _ => fun
  | [d] => { results := [.lit (.bool true)], args := [d] }
  | _ => none }
def topBenchesRow : OpenClaim := { program := "ytnfcigbiebbjdaa", sum := "534a7e7525a6f6d4bed90f816e2e8c0a3606a149c7bca33109abfa62898fa925", func := "tourbillon/tourbillontop.TopBenches", spec := "topBenches", unfollowed := true, recurses := true, apart := false }
def TopBenchesSaid : Prop := topBenchesRow.holds Try.pinned (OpenSpec.ofChange topBenchesSpec)

/-- ITS FALSE NEIGHBOUR: 'it returns false'. Refute it at one input. -/
def topBenchesWrong : ChangeSpec := { name := "topBenches", fn := fun _ => fun
  | [d] => { results := [.lit (.bool false)], args := [d] }
  | _ => none }
def TopBenchesWrongFalsely : Prop := topBenchesRow.holds Try.pinned (OpenSpec.ofChange topBenchesWrong)

/-- 'tourbillonlaw07.QueueLater': WHATEVER THE INPUT: true; the input reads as it did. -/
def queueLaterSpec : ChangeSpec := { name := "queueLater", fn := fun _ => fun
  | [d1, d2] => { results := [.lit (.bool true)], args := [d1, d2] }
  | _ => none }
def queueLaterRow : OpenClaim := { program := "ytnfcigbiebbjdaa", sum := "534a7e7525a6f6d4bed90f816e2e8c0a3606a149c7bca33109abfa62898fa925", func := "tourbillon/tourbillonlaw07.QueueLater", spec := "queueLater", unfollowed := true, recurses := true, apart := false }
def QueueLaterSaid : Prop := queueLaterRow.holds Try.pinned (OpenSpec.ofChange queueLaterSpec)

/-- ITS FALSE NEIGHBOUR: 'it returns false'. Refute it at one input. -/
def queueLaterWrong : ChangeSpec := { name := "queueLater", fn := fun _ => fun
  | [d1, d2] => { results := [.lit (.bool false)], args := [d1, d2] }
  | _ => none }
def QueueLaterWrongFalsely : Prop := queueLaterRow.holds Try.pinned (OpenSpec.ofChange queueLaterWrong)

/-- 'tourbillonlaw07.QueueSweeps': WHATEVER THE INPUT: true; the input reads as it did. -/
def queueSweepsSpec : ChangeSpec := { name := "queueSweeps", fn := fun _ => fun
  | [d] => { results := [.lit (.bool true)], args := [d] }
  | _ => none }
def queueSweepsRow : OpenClaim := { program := "ytnfcigbiebbjdaa", sum := "534a7e7525a6f6d4bed90f816e2e8c0a3606a149c7bca33109abfa62898fa925", func := "tourbillon/tourbillonlaw07.QueueSweeps", spec := "queueSweeps", unfollowed := true, recurses := true, apart := false }
def QueueSweepsSaid : Prop := queueSweepsRow.holds Try.pinned (OpenSpec.ofChange queueSweepsSpec)

/-- ITS FALSE NEIGHBOUR: 'it returns false'. Refute it at one input. -/
def queueSweepsWrong : ChangeSpec := { name := "queueSweeps", fn := fun _ => fun
  | [d] => { results := [.lit (.bool false)], args := [d] }
  | _ => none }
def QueueSweepsWrongFalsely : Prop := queueSweepsRow.holds Try.pinned (OpenSpec.ofChange queueSweepsWrong)

/-- 'tourbillonlaw07.QueueSweepProof': WHATEVER THE INPUT: true; the input reads as it did. -/
def queueSweepProofSpec : ChangeSpec := { name := "queueSweepProof", fn := fun _ => fun
  | [d] => { results := [.lit (.bool true)], args := [d] }
  | _ => none }
def queueSweepProofRow : OpenClaim := { program := "ytnfcigbiebbjdaa", sum := "534a7e7525a6f6d4bed90f816e2e8c0a3606a149c7bca33109abfa62898fa925", func := "tourbillon/tourbillonlaw07.QueueSweepProof", spec := "queueSweepProof", unfollowed := true, recurses := true, apart := false }
def QueueSweepProofSaid : Prop := queueSweepProofRow.holds Try.pinned (OpenSpec.ofChange queueSweepProofSpec)

/-- ITS FALSE NEIGHBOUR: 'it returns false'. Refute it at one input. -/
def queueSweepProofWrong : ChangeSpec := { name := "queueSweepProof", fn := fun _ => fun
  | [d] => { results := [.lit (.bool false)], args := [d] }
  | _ => none }
def QueueSweepProofWrongFalsely : Prop := queueSweepProofRow.holds Try.pinned (OpenSpec.ofChange queueSweepProofWrong)

/-- 'tourbillonlaw07.QueueJohnsons': WHATEVER THE INPUT: true; the input reads as it did. -/
def queueJohnsonsSpec : ChangeSpec := { name := "queueJohnsons", fn := fun _ => fun
  | [d1, d2, d3] => { results := [.lit (.bool true)], args := [d1, d2, d3] }
  | _ => none }
def queueJohnsonsRow : OpenClaim := { program := "ytnfcigbiebbjdaa", sum := "534a7e7525a6f6d4bed90f816e2e8c0a3606a149c7bca33109abfa62898fa925", func := "tourbillon/tourbillonlaw07.QueueJohnsons", spec := "queueJohnsons", unfollowed := true, recurses := true, apart := false }
def QueueJohnsonsSaid : Prop := queueJohnsonsRow.holds Try.pinned (OpenSpec.ofChange queueJohnsonsSpec)

/-- ITS FALSE NEIGHBOUR: 'it returns false'. Refute it at one input. -/
def queueJohnsonsWrong : ChangeSpec := { name := "queueJohnsons", fn := fun _ => fun
  | [d1, d2, d3] => { results := [.lit (.bool false)], args := [d1, d2, d3] }
  | _ => none }
def QueueJohnsonsWrongFalsely : Prop := queueJohnsonsRow.holds Try.pinned (OpenSpec.ofChange queueJohnsonsWrong)

/-- 'tourbillonlaw07.QueueOnTimes': WHATEVER THE INPUT: true; the input reads as it did. -/
def queueOnTimesSpec : ChangeSpec := { name := "queueOnTimes", fn := fun _ => fun
  | [d] => { results := [.lit (.bool true)], args := [d] }
  | _ => none }
def queueOnTimesRow : OpenClaim := { program := "ytnfcigbiebbjdaa", sum := "534a7e7525a6f6d4bed90f816e2e8c0a3606a149c7bca33109abfa62898fa925", func := "tourbillon/tourbillonlaw07.QueueOnTimes", spec := "queueOnTimes", unfollowed := true, recurses := true, apart := false }
def QueueOnTimesSaid : Prop := queueOnTimesRow.holds Try.pinned (OpenSpec.ofChange queueOnTimesSpec)

/-- ITS FALSE NEIGHBOUR: 'it returns false'. Refute it at one input. -/
def queueOnTimesWrong : ChangeSpec := { name := "queueOnTimes", fn := fun _ => fun
  | [d] => { results := [.lit (.bool false)], args := [d] }
  | _ => none }
def QueueOnTimesWrongFalsely : Prop := queueOnTimesRow.holds Try.pinned (OpenSpec.ofChange queueOnTimesWrong)

/-- 'tourbillonlaw07.QueueOrders': WHATEVER THE INPUT: true; the input reads as it did. -/
def queueOrdersSpec : ChangeSpec := { name := "queueOrders", fn := fun _ => fun
  | [d1, d2] => { results := [.lit (.bool true)], args := [d1, d2] }
  | _ => none }
def queueOrdersRow : OpenClaim := { program := "ytnfcigbiebbjdaa", sum := "534a7e7525a6f6d4bed90f816e2e8c0a3606a149c7bca33109abfa62898fa925", func := "tourbillon/tourbillonlaw07.QueueOrders", spec := "queueOrders", unfollowed := true, recurses := true, apart := false }
def QueueOrdersSaid : Prop := queueOrdersRow.holds Try.pinned (OpenSpec.ofChange queueOrdersSpec)

/-- ITS FALSE NEIGHBOUR: 'it returns false'. Refute it at one input. -/
def queueOrdersWrong : ChangeSpec := { name := "queueOrders", fn := fun _ => fun
  | [d1, d2] => { results := [.lit (.bool false)], args := [d1, d2] }
  | _ => none }
def QueueOrdersWrongFalsely : Prop := queueOrdersRow.holds Try.pinned (OpenSpec.ofChange queueOrdersWrong)

/-- 'tourbillonlaw07.QueueOnTimeMost': WHATEVER THE INPUT: true; the input reads as it did. -/
def queueOnTimeMostSpec : ChangeSpec := { name := "queueOnTimeMost", fn := fun _ => fun
  | [d1, d2] => { results := [.lit (.bool true)], args := [d1, d2] }
  | _ => none }
def queueOnTimeMostRow : OpenClaim := { program := "ytnfcigbiebbjdaa", sum := "534a7e7525a6f6d4bed90f816e2e8c0a3606a149c7bca33109abfa62898fa925", func := "tourbillon/tourbillonlaw07.QueueOnTimeMost", spec := "queueOnTimeMost", unfollowed := true, recurses := true, apart := false }
def QueueOnTimeMostSaid : Prop := queueOnTimeMostRow.holds Try.pinned (OpenSpec.ofChange queueOnTimeMostSpec)

/-- ITS FALSE NEIGHBOUR: 'it returns false'. Refute it at one input. -/
def queueOnTimeMostWrong : ChangeSpec := { name := "queueOnTimeMost", fn := fun _ => fun
  | [d1, d2] => { results := [.lit (.bool false)], args := [d1, d2] }
  | _ => none }
def QueueOnTimeMostWrongFalsely : Prop := queueOnTimeMostRow.holds Try.pinned (OpenSpec.ofChange queueOnTimeMostWrong)

/-- 'tourbillonlaw07.QueueMore': WHATEVER THE INPUT: true; the input reads as it did. -/
def queueMoreSpec : ChangeSpec := { name := "queueMore", fn := fun _ => fun
  | [d1, d2, d3] => { results := [.lit (.bool true)], args := [d1, d2, d3] }
  | _ => none }
def queueMoreRow : OpenClaim := { program := "ytnfcigbiebbjdaa", sum := "534a7e7525a6f6d4bed90f816e2e8c0a3606a149c7bca33109abfa62898fa925", func := "tourbillon/tourbillonlaw07.QueueMore", spec := "queueMore", unfollowed := true, recurses := true, apart := false }
def QueueMoreSaid : Prop := queueMoreRow.holds Try.pinned (OpenSpec.ofChange queueMoreSpec)

/-- ITS FALSE NEIGHBOUR: 'it returns false'. Refute it at one input. -/
def queueMoreWrong : ChangeSpec := { name := "queueMore", fn := fun _ => fun
  | [d1, d2, d3] => { results := [.lit (.bool false)], args := [d1, d2, d3] }
  | _ => none }
def QueueMoreWrongFalsely : Prop := queueMoreRow.holds Try.pinned (OpenSpec.ofChange queueMoreWrong)

/- THE SECOND FORM. 'bulk': how many values and letters a reading holds, each counted each time it is reached (what is shared counts as often as it is met; a slice's spare places count too). A statement '..UptoSaid' is the law's where the arguments, and the package variables that the reading takes, are together of bulk at most 1048576: NARROWER than '..Said'. Prove '..Said' where nothing that the law and all that it calls make is longer than what came in: it says more and counts as full. Else prove '..UptoSaid'. A law counts once. -/
mutual
def uptoBulk {H : Type} : DataW H → Nat
  | .lit (.string bytes) => bytes.length + 1
  | .lit _ => 1
  | .nil => 1
  | .ptr d => uptoBulk d + 1
  | .slice elems spare => uptoBulkAll elems + uptoBulkAll spare + 1
  | .agg parts => uptoBulkAll parts + 1
  | .iface _ d => uptoBulk d + 1
  | .map entries => uptoBulkEntries entries + 1
  | .held _ => 1
def uptoBulkAll {H : Type} : List (DataW H) → Nat
  | [] => 0
  | d :: r => uptoBulk d + uptoBulkAll r
def uptoBulkEntries {H : Type} : List (Lit × DataW H) → Nat
  | [] => 0
  | x :: r => uptoBulkEntry x + uptoBulkEntries r
def uptoBulkEntry {H : Type} : Lit × DataW H → Nat
  | (.string bytes, d) => bytes.length + uptoBulk d + 1
  | (_, d) => uptoBulk d + 1
 end
def uptoSmall : (H : Type) → List (DataW H) → Bool := fun _ ds => decide (uptoBulkAll ds ≤ 1048576)
def OpenSpec.upto (s : _root_.Go.ChangeSpec) : _root_.Go.OpenSpec := { _root_.Go.OpenSpec.ofChange s with cond := some uptoSmall }

/-- 'tourbillonlaw07.QueueSmithLeast', WHERE WHAT IT READS IS OF BULK AT MOST 1048576: true; the input reads as it did. -/
def queueSmithLeastUptoRow : OpenClaim := { program := "ytnfcigbiebbjdaa", sum := "534a7e7525a6f6d4bed90f816e2e8c0a3606a149c7bca33109abfa62898fa925", func := "tourbillon/tourbillonlaw07.QueueSmithLeast", spec := "queueSmithLeast", unfollowed := true, recurses := true, apart := false, narrowed := true }
def QueueSmithLeastUptoSaid : Prop := queueSmithLeastUptoRow.holds Try.pinned (OpenSpec.upto queueSmithLeastSpec)

/-- 'tourbillonlaw07.QueueJohnsonLeast', WHERE WHAT IT READS IS OF BULK AT MOST 1048576: true; the input reads as it did. -/
def queueJohnsonLeastUptoRow : OpenClaim := { program := "ytnfcigbiebbjdaa", sum := "534a7e7525a6f6d4bed90f816e2e8c0a3606a149c7bca33109abfa62898fa925", func := "tourbillon/tourbillonlaw07.QueueJohnsonLeast", spec := "queueJohnsonLeast", unfollowed := true, recurses := true, apart := false, narrowed := true }
def QueueJohnsonLeastUptoSaid : Prop := queueJohnsonLeastUptoRow.holds Try.pinned (OpenSpec.upto queueJohnsonLeastSpec)

/-- 'tourbillonlaw07.QueueSmiths', WHERE WHAT IT READS IS OF BULK AT MOST 1048576: true; the input reads as it did. -/
def queueSmithsUptoRow : OpenClaim := { program := "ytnfcigbiebbjdaa", sum := "534a7e7525a6f6d4bed90f816e2e8c0a3606a149c7bca33109abfa62898fa925", func := "tourbillon/tourbillonlaw07.QueueSmiths", spec := "queueSmiths", unfollowed := true, recurses := true, apart := false, narrowed := true }
def QueueSmithsUptoSaid : Prop := queueSmithsUptoRow.holds Try.pinned (OpenSpec.upto queueSmithsSpec)

/-- 'tourbillonlaw07.QueueLawlerLeast', WHERE WHAT IT READS IS OF BULK AT MOST 1048576: true; the input reads as it did. -/
def queueLawlerLeastUptoRow : OpenClaim := { program := "ytnfcigbiebbjdaa", sum := "534a7e7525a6f6d4bed90f816e2e8c0a3606a149c7bca33109abfa62898fa925", func := "tourbillon/tourbillonlaw07.QueueLawlerLeast", spec := "queueLawlerLeast", unfollowed := true, recurses := true, apart := false, narrowed := true }
def QueueLawlerLeastUptoSaid : Prop := queueLawlerLeastUptoRow.holds Try.pinned (OpenSpec.upto queueLawlerLeastSpec)

/-- 'tourbillontop.TopBenches', WHERE WHAT IT READS IS OF BULK AT MOST 1048576: true; the input reads as it did. -/
def topBenchesUptoRow : OpenClaim := { program := "ytnfcigbiebbjdaa", sum := "534a7e7525a6f6d4bed90f816e2e8c0a3606a149c7bca33109abfa62898fa925", func := "tourbillon/tourbillontop.TopBenches", spec := "topBenches", unfollowed := true, recurses := true, apart := false, narrowed := true }
def TopBenchesUptoSaid : Prop := topBenchesUptoRow.holds Try.pinned (OpenSpec.upto topBenchesSpec)

/-- 'tourbillonlaw07.QueueLater', WHERE WHAT IT READS IS OF BULK AT MOST 1048576: true; the input reads as it did. -/
def queueLaterUptoRow : OpenClaim := { program := "ytnfcigbiebbjdaa", sum := "534a7e7525a6f6d4bed90f816e2e8c0a3606a149c7bca33109abfa62898fa925", func := "tourbillon/tourbillonlaw07.QueueLater", spec := "queueLater", unfollowed := true, recurses := true, apart := false, narrowed := true }
def QueueLaterUptoSaid : Prop := queueLaterUptoRow.holds Try.pinned (OpenSpec.upto queueLaterSpec)

/-- 'tourbillonlaw07.QueueSweeps', WHERE WHAT IT READS IS OF BULK AT MOST 1048576: true; the input reads as it did. -/
def queueSweepsUptoRow : OpenClaim := { program := "ytnfcigbiebbjdaa", sum := "534a7e7525a6f6d4bed90f816e2e8c0a3606a149c7bca33109abfa62898fa925", func := "tourbillon/tourbillonlaw07.QueueSweeps", spec := "queueSweeps", unfollowed := true, recurses := true, apart := false, narrowed := true }
def QueueSweepsUptoSaid : Prop := queueSweepsUptoRow.holds Try.pinned (OpenSpec.upto queueSweepsSpec)

/-- 'tourbillonlaw07.QueueSweepProof', WHERE WHAT IT READS IS OF BULK AT MOST 1048576: true; the input reads as it did. -/
def queueSweepProofUptoRow : OpenClaim := { program := "ytnfcigbiebbjdaa", sum := "534a7e7525a6f6d4bed90f816e2e8c0a3606a149c7bca33109abfa62898fa925", func := "tourbillon/tourbillonlaw07.QueueSweepProof", spec := "queueSweepProof", unfollowed := true, recurses := true, apart := false, narrowed := true }
def QueueSweepProofUptoSaid : Prop := queueSweepProofUptoRow.holds Try.pinned (OpenSpec.upto queueSweepProofSpec)

/-- 'tourbillonlaw07.QueueJohnsons', WHERE WHAT IT READS IS OF BULK AT MOST 1048576: true; the input reads as it did. -/
def queueJohnsonsUptoRow : OpenClaim := { program := "ytnfcigbiebbjdaa", sum := "534a7e7525a6f6d4bed90f816e2e8c0a3606a149c7bca33109abfa62898fa925", func := "tourbillon/tourbillonlaw07.QueueJohnsons", spec := "queueJohnsons", unfollowed := true, recurses := true, apart := false, narrowed := true }
def QueueJohnsonsUptoSaid : Prop := queueJohnsonsUptoRow.holds Try.pinned (OpenSpec.upto queueJohnsonsSpec)

/-- 'tourbillonlaw07.QueueOnTimes', WHERE WHAT IT READS IS OF BULK AT MOST 1048576: true; the input reads as it did. -/
def queueOnTimesUptoRow : OpenClaim := { program := "ytnfcigbiebbjdaa", sum := "534a7e7525a6f6d4bed90f816e2e8c0a3606a149c7bca33109abfa62898fa925", func := "tourbillon/tourbillonlaw07.QueueOnTimes", spec := "queueOnTimes", unfollowed := true, recurses := true, apart := false, narrowed := true }
def QueueOnTimesUptoSaid : Prop := queueOnTimesUptoRow.holds Try.pinned (OpenSpec.upto queueOnTimesSpec)

/-- 'tourbillonlaw07.QueueOrders', WHERE WHAT IT READS IS OF BULK AT MOST 1048576: true; the input reads as it did. -/
def queueOrdersUptoRow : OpenClaim := { program := "ytnfcigbiebbjdaa", sum := "534a7e7525a6f6d4bed90f816e2e8c0a3606a149c7bca33109abfa62898fa925", func := "tourbillon/tourbillonlaw07.QueueOrders", spec := "queueOrders", unfollowed := true, recurses := true, apart := false, narrowed := true }
def QueueOrdersUptoSaid : Prop := queueOrdersUptoRow.holds Try.pinned (OpenSpec.upto queueOrdersSpec)

/-- 'tourbillonlaw07.QueueOnTimeMost', WHERE WHAT IT READS IS OF BULK AT MOST 1048576: true; the input reads as it did. -/
def queueOnTimeMostUptoRow : OpenClaim := { program := "ytnfcigbiebbjdaa", sum := "534a7e7525a6f6d4bed90f816e2e8c0a3606a149c7bca33109abfa62898fa925", func := "tourbillon/tourbillonlaw07.QueueOnTimeMost", spec := "queueOnTimeMost", unfollowed := true, recurses := true, apart := false, narrowed := true }
def QueueOnTimeMostUptoSaid : Prop := queueOnTimeMostUptoRow.holds Try.pinned (OpenSpec.upto queueOnTimeMostSpec)

/-- 'tourbillonlaw07.QueueMore', WHERE WHAT IT READS IS OF BULK AT MOST 1048576: true; the input reads as it did. -/
def queueMoreUptoRow : OpenClaim := { program := "ytnfcigbiebbjdaa", sum := "534a7e7525a6f6d4bed90f816e2e8c0a3606a149c7bca33109abfa62898fa925", func := "tourbillon/tourbillonlaw07.QueueMore", spec := "queueMore", unfollowed := true, recurses := true, apart := false, narrowed := true }
def QueueMoreUptoSaid : Prop := queueMoreUptoRow.holds Try.pinned (OpenSpec.upto queueMoreSpec)

end Rows
end Go.Proofs.Ytnfcigbiebbjdaa
