/-
  No cell of these rows narrows 'for every input' (looked for: loops, veiled, ifaces, maps, wideKeys, modest, calm, conditions, laid).
  DERIVED. THE GIVEN ROWS OF THIS SEAT. 14 by the template 'for every input the law returns true; each argument reads behind the call as it read before'; 0 by the template 'total and deterministic' (their statements: YtpklcjbdmikbdaaTotals.lean).
  GIVEN WITH THE SEED: the statements are not yours to turn. If you find one false, say at which input.
  Laid BY PROGRAM, IN A SANDBOX (cutbox-rows.mjs): the forced cells as the released guide's own fill.sh prints them over the translation 83feeef6e33597d7… (all of the seat's roots in one cut). By AI agents, Wed Nov 11 2026. No macro, syntax, notation, axiom, sorry.
-/
import Derived.Test.YtpklcjbdmikbdaaChecked
import GoSem.Claim
import GoSem.ClaimJoined
import GoSem.ClaimMapViews
import Derived.JoinedTies
import Derived.KernelRfl
namespace Go.Proofs.Ytpklcjbdmikbdaa
/- THE CELL 'sum', in the pinned program and in every row, IS THE sha256 OF THE DUMP (.gsa) THAT YtpklcjbdmikbdaaProg.lean LOADS. Nothing in Lean hashes anything: it is a label: what it is worth is what the hold of that sum in a sandbox is worth. -/
noncomputable def Try.pinned : Pinned := { name := "ytpklcjbdmikbdaa", sum := "83feeef6e33597d7b9eb0d5c242ea7bb021ce4c8fabcf0da6b32b86ed1835047", checked := Try.checked }
namespace Rows
def none {H : Type} : Left H := { results := [], args := [] }

/-- 'tourbillontop.TopYields': WHATEVER THE INPUT: true; the input reads as it did. -/
def topYieldsSpec : ChangeSpec := { name := "topYields", fn := fun _ => fun
  | [d1, d2] => { results := [.lit (.bool true)], args := [d1, d2] }
  | _ => none }
def topYieldsRow : OpenClaim := { program := "ytpklcjbdmikbdaa", sum := "83feeef6e33597d7b9eb0d5c242ea7bb021ce4c8fabcf0da6b32b86ed1835047", func := "tourbillon/tourbillontop.TopYields", spec := "topYields", unfollowed := true, recurses := true, apart := false }
def TopYieldsSaid : Prop := topYieldsRow.holds Try.pinned (OpenSpec.ofChange topYieldsSpec)

/-- ITS FALSE NEIGHBOUR: 'it returns false'. Refute it at one input. -/
def topYieldsWrong : ChangeSpec := { name := "topYields", fn := fun _ => fun
  | [d1, d2] => { results := [.lit (.bool false)], args := [d1, d2] }
  | _ => none }
def TopYieldsWrongFalsely : Prop := topYieldsRow.holds Try.pinned (OpenSpec.ofChange topYieldsWrong)

/-- 'tourbillonlaw02.FitPairs': WHATEVER THE INPUT: true; the input reads as it did. -/
def fitPairsSpec : ChangeSpec := { name := "fitPairs", fn := fun _ => fun
  | [d] => { results := [.lit (.bool true)], args := [d] }
  | _ => none }
def fitPairsRow : OpenClaim := { program := "ytpklcjbdmikbdaa", sum := "83feeef6e33597d7b9eb0d5c242ea7bb021ce4c8fabcf0da6b32b86ed1835047", func := "tourbillon/tourbillonlaw02.FitPairs", spec := "fitPairs", unfollowed := true, recurses := true, apart := false }
def FitPairsSaid : Prop := fitPairsRow.holds Try.pinned (OpenSpec.ofChange fitPairsSpec)

/-- ITS FALSE NEIGHBOUR: 'it returns false'. Refute it at one input. -/
def fitPairsWrong : ChangeSpec := { name := "fitPairs", fn := fun _ => fun
  | [d] => { results := [.lit (.bool false)], args := [d] }
  | _ => none }
def FitPairsWrongFalsely : Prop := fitPairsRow.holds Try.pinned (OpenSpec.ofChange fitPairsWrong)

/-- 'tourbillonlaw02.FitSplits': WHATEVER THE INPUT: true; the input reads as it did. -/
def fitSplitsSpec : ChangeSpec := { name := "fitSplits", fn := fun _ => fun
  | [d1, d2, d3] => { results := [.lit (.bool true)], args := [d1, d2, d3] }
  | _ => none }
def fitSplitsRow : OpenClaim := { program := "ytpklcjbdmikbdaa", sum := "83feeef6e33597d7b9eb0d5c242ea7bb021ce4c8fabcf0da6b32b86ed1835047", func := "tourbillon/tourbillonlaw02.FitSplits", spec := "fitSplits", unfollowed := true, recurses := true, apart := false }
def FitSplitsSaid : Prop := fitSplitsRow.holds Try.pinned (OpenSpec.ofChange fitSplitsSpec)

/-- ITS FALSE NEIGHBOUR: 'it returns false'. Refute it at one input. -/
def fitSplitsWrong : ChangeSpec := { name := "fitSplits", fn := fun _ => fun
  | [d1, d2, d3] => { results := [.lit (.bool false)], args := [d1, d2, d3] }
  | _ => none }
def FitSplitsWrongFalsely : Prop := fitSplitsRow.holds Try.pinned (OpenSpec.ofChange fitSplitsWrong)

/-- 'tourbillonlaw02.FitMoves': WHATEVER THE INPUT: true; the input reads as it did. -/
def fitMovesSpec : ChangeSpec := { name := "fitMoves", fn := fun _ => fun
  | [d1, d2, d3] => { results := [.lit (.bool true)], args := [d1, d2, d3] }
  | _ => none }
def fitMovesRow : OpenClaim := { program := "ytpklcjbdmikbdaa", sum := "83feeef6e33597d7b9eb0d5c242ea7bb021ce4c8fabcf0da6b32b86ed1835047", func := "tourbillon/tourbillonlaw02.FitMoves", spec := "fitMoves", unfollowed := true, recurses := true, apart := false }
def FitMovesSaid : Prop := fitMovesRow.holds Try.pinned (OpenSpec.ofChange fitMovesSpec)

/-- ITS FALSE NEIGHBOUR: 'it returns false'. Refute it at one input. -/
def fitMovesWrong : ChangeSpec := { name := "fitMoves", fn := fun _ => fun
  | [d1, d2, d3] => { results := [.lit (.bool false)], args := [d1, d2, d3] }
  | _ => none }
def FitMovesWrongFalsely : Prop := fitMovesRow.holds Try.pinned (OpenSpec.ofChange fitMovesWrong)

/-- 'tourbillonlaw02.FitMost': WHATEVER THE INPUT: true; the input reads as it did. -/
def fitMostSpec : ChangeSpec := { name := "fitMost", fn := fun _ => fun
  | [d1, d2] => { results := [.lit (.bool true)], args := [d1, d2] }
  | _ => none }
def fitMostRow : OpenClaim := { program := "ytpklcjbdmikbdaa", sum := "83feeef6e33597d7b9eb0d5c242ea7bb021ce4c8fabcf0da6b32b86ed1835047", func := "tourbillon/tourbillonlaw02.FitMost", spec := "fitMost", unfollowed := true, recurses := true, apart := false }
def FitMostSaid : Prop := fitMostRow.holds Try.pinned (OpenSpec.ofChange fitMostSpec)

/-- ITS FALSE NEIGHBOUR: 'it returns false'. Refute it at one input. -/
def fitMostWrong : ChangeSpec := { name := "fitMost", fn := fun _ => fun
  | [d1, d2] => { results := [.lit (.bool false)], args := [d1, d2] }
  | _ => none }
def FitMostWrongFalsely : Prop := fitMostRow.holds Try.pinned (OpenSpec.ofChange fitMostWrong)

/-- 'tourbillonlaw02.FitMore': WHATEVER THE INPUT: true; the input reads as it did. -/
def fitMoreSpec : ChangeSpec := { name := "fitMore", fn := fun _ => fun
  | [d1, d2, d3] => { results := [.lit (.bool true)], args := [d1, d2, d3] }
  | _ => none }
def fitMoreRow : OpenClaim := { program := "ytpklcjbdmikbdaa", sum := "83feeef6e33597d7b9eb0d5c242ea7bb021ce4c8fabcf0da6b32b86ed1835047", func := "tourbillon/tourbillonlaw02.FitMore", spec := "fitMore", unfollowed := true, recurses := true, apart := false }
def FitMoreSaid : Prop := fitMoreRow.holds Try.pinned (OpenSpec.ofChange fitMoreSpec)

/-- ITS FALSE NEIGHBOUR: 'it returns false'. Refute it at one input. -/
def fitMoreWrong : ChangeSpec := { name := "fitMore", fn := fun _ => fun
  | [d1, d2, d3] => { results := [.lit (.bool false)], args := [d1, d2, d3] }
  | _ => none }
def FitMoreWrongFalsely : Prop := fitMoreRow.holds Try.pinned (OpenSpec.ofChange fitMoreWrong)

/-- 'tourbillonlaw02.FitShows': WHATEVER THE INPUT: true; the input reads as it did. -/
def fitShowsSpec : ChangeSpec := { name := "fitShows", fn := fun _ => fun
  | [d1, d2] => { results := [.lit (.bool true)], args := [d1, d2] }
  | _ => none }
def fitShowsRow : OpenClaim := { program := "ytpklcjbdmikbdaa", sum := "83feeef6e33597d7b9eb0d5c242ea7bb021ce4c8fabcf0da6b32b86ed1835047", func := "tourbillon/tourbillonlaw02.FitShows", spec := "fitShows", unfollowed := true, recurses := true, apart := false }
def FitShowsSaid : Prop := fitShowsRow.holds Try.pinned (OpenSpec.ofChange fitShowsSpec)

/-- ITS FALSE NEIGHBOUR: 'it returns false'. Refute it at one input. -/
def fitShowsWrong : ChangeSpec := { name := "fitShows", fn := fun _ => fun
  | [d1, d2] => { results := [.lit (.bool false)], args := [d1, d2] }
  | _ => none }
def FitShowsWrongFalsely : Prop := fitShowsRow.holds Try.pinned (OpenSpec.ofChange fitShowsWrong)

/-- 'tourbillonlaw02.FitStacks': WHATEVER THE INPUT: true; the input reads as it did. -/
def fitStacksSpec : ChangeSpec := { name := "fitStacks", fn := fun _ => fun
  | [d1, d2] => { results := [.lit (.bool true)], args := [d1, d2] }
  | _ => none }
def fitStacksRow : OpenClaim := { program := "ytpklcjbdmikbdaa", sum := "83feeef6e33597d7b9eb0d5c242ea7bb021ce4c8fabcf0da6b32b86ed1835047", func := "tourbillon/tourbillonlaw02.FitStacks", spec := "fitStacks", unfollowed := true, recurses := true, apart := false }
def FitStacksSaid : Prop := fitStacksRow.holds Try.pinned (OpenSpec.ofChange fitStacksSpec)

/-- ITS FALSE NEIGHBOUR: 'it returns false'. Refute it at one input. -/
def fitStacksWrong : ChangeSpec := { name := "fitStacks", fn := fun _ => fun
  | [d1, d2] => { results := [.lit (.bool false)], args := [d1, d2] }
  | _ => none }
def FitStacksWrongFalsely : Prop := fitStacksRow.holds Try.pinned (OpenSpec.ofChange fitStacksWrong)

/-- 'tourbillonlaw02.FitWorst': WHATEVER THE INPUT: true; the input reads as it did. -/
def fitWorstSpec : ChangeSpec := { name := "fitWorst", fn := fun _ => fun
  | [d1, d2, d3] => { results := [.lit (.bool true)], args := [d1, d2, d3] }
  | _ => none }
def fitWorstRow : OpenClaim := { program := "ytpklcjbdmikbdaa", sum := "83feeef6e33597d7b9eb0d5c242ea7bb021ce4c8fabcf0da6b32b86ed1835047", func := "tourbillon/tourbillonlaw02.FitWorst", spec := "fitWorst", unfollowed := true, recurses := true, apart := false }
def FitWorstSaid : Prop := fitWorstRow.holds Try.pinned (OpenSpec.ofChange fitWorstSpec)

/-- ITS FALSE NEIGHBOUR: 'it returns false'. Refute it at one input. -/
def fitWorstWrong : ChangeSpec := { name := "fitWorst", fn := fun _ => fun
  | [d1, d2, d3] => { results := [.lit (.bool false)], args := [d1, d2, d3] }
  | _ => none }
def FitWorstWrongFalsely : Prop := fitWorstRow.holds Try.pinned (OpenSpec.ofChange fitWorstWrong)

/-- 'tourbillonlaw02.FitLacks': WHATEVER THE INPUT: true; the input reads as it did. -/
def fitLacksSpec : ChangeSpec := { name := "fitLacks", fn := fun _ => fun
  | [d] => { results := [.lit (.bool true)], args := [d] }
  | _ => none }
def fitLacksRow : OpenClaim := { program := "ytpklcjbdmikbdaa", sum := "83feeef6e33597d7b9eb0d5c242ea7bb021ce4c8fabcf0da6b32b86ed1835047", func := "tourbillon/tourbillonlaw02.FitLacks", spec := "fitLacks", unfollowed := true, recurses := true, apart := false }
def FitLacksSaid : Prop := fitLacksRow.holds Try.pinned (OpenSpec.ofChange fitLacksSpec)

/-- ITS FALSE NEIGHBOUR: 'it returns false'. Refute it at one input. -/
def fitLacksWrong : ChangeSpec := { name := "fitLacks", fn := fun _ => fun
  | [d] => { results := [.lit (.bool false)], args := [d] }
  | _ => none }
def FitLacksWrongFalsely : Prop := fitLacksRow.holds Try.pinned (OpenSpec.ofChange fitLacksWrong)

/-- 'tourbillonlaw02.FitGrinds': WHATEVER THE INPUT: true; the input reads as it did. -/
def fitGrindsSpec : ChangeSpec := { name := "fitGrinds", fn := fun _ => fun
  | [d] => { results := [.lit (.bool true)], args := [d] }
  | _ => none }
def fitGrindsRow : OpenClaim := { program := "ytpklcjbdmikbdaa", sum := "83feeef6e33597d7b9eb0d5c242ea7bb021ce4c8fabcf0da6b32b86ed1835047", func := "tourbillon/tourbillonlaw02.FitGrinds", spec := "fitGrinds", unfollowed := true, recurses := true, apart := false }
def FitGrindsSaid : Prop := fitGrindsRow.holds Try.pinned (OpenSpec.ofChange fitGrindsSpec)

/-- ITS FALSE NEIGHBOUR: 'it returns false'. Refute it at one input. -/
def fitGrindsWrong : ChangeSpec := { name := "fitGrinds", fn := fun _ => fun
  | [d] => { results := [.lit (.bool false)], args := [d] }
  | _ => none }
def FitGrindsWrongFalsely : Prop := fitGrindsRow.holds Try.pinned (OpenSpec.ofChange fitGrindsWrong)

/-- 'tourbillonlaw02.FitLeast': WHATEVER THE INPUT: true; the input reads as it did. -/
def fitLeastSpec : ChangeSpec := { name := "fitLeast", fn := fun _ => fun
  | [d1, d2] => { results := [.lit (.bool true)], args := [d1, d2] }
  | _ => none }
def fitLeastRow : OpenClaim := { program := "ytpklcjbdmikbdaa", sum := "83feeef6e33597d7b9eb0d5c242ea7bb021ce4c8fabcf0da6b32b86ed1835047", func := "tourbillon/tourbillonlaw02.FitLeast", spec := "fitLeast", unfollowed := true, recurses := true, apart := false }
def FitLeastSaid : Prop := fitLeastRow.holds Try.pinned (OpenSpec.ofChange fitLeastSpec)

/-- ITS FALSE NEIGHBOUR: 'it returns false'. Refute it at one input. -/
def fitLeastWrong : ChangeSpec := { name := "fitLeast", fn := fun _ => fun
  | [d1, d2] => { results := [.lit (.bool false)], args := [d1, d2] }
  | _ => none }
def FitLeastWrongFalsely : Prop := fitLeastRow.holds Try.pinned (OpenSpec.ofChange fitLeastWrong)

/-- 'tourbillonlaw02.FitPaired': WHATEVER THE INPUT: true; the input reads as it did. -/
def fitPairedSpec : ChangeSpec := { name := "fitPaired", fn := fun _ => fun
  | [d] => { results := [.lit (.bool true)], args := [d] }
  | _ => none }
def fitPairedRow : OpenClaim := { program := "ytpklcjbdmikbdaa", sum := "83feeef6e33597d7b9eb0d5c242ea7bb021ce4c8fabcf0da6b32b86ed1835047", func := "tourbillon/tourbillonlaw02.FitPaired", spec := "fitPaired", unfollowed := true, recurses := true, apart := false }
def FitPairedSaid : Prop := fitPairedRow.holds Try.pinned (OpenSpec.ofChange fitPairedSpec)

/-- ITS FALSE NEIGHBOUR: 'it returns false'. Refute it at one input. -/
def fitPairedWrong : ChangeSpec := { name := "fitPaired", fn := fun _ => fun
  | [d] => { results := [.lit (.bool false)], args := [d] }
  | _ => none }
def FitPairedWrongFalsely : Prop := fitPairedRow.holds Try.pinned (OpenSpec.ofChange fitPairedWrong)

/-- 'tourbillonlaw02.FitDual': WHATEVER THE INPUT: true; the input reads as it did. -/
def fitDualSpec : ChangeSpec := { name := "fitDual", fn := fun _ => fun
  | [d1, d2] => { results := [.lit (.bool true)], args := [d1, d2] }
  | _ => none }
def fitDualRow : OpenClaim := { program := "ytpklcjbdmikbdaa", sum := "83feeef6e33597d7b9eb0d5c242ea7bb021ce4c8fabcf0da6b32b86ed1835047", func := "tourbillon/tourbillonlaw02.FitDual", spec := "fitDual", unfollowed := true, recurses := true, apart := false }
def FitDualSaid : Prop := fitDualRow.holds Try.pinned (OpenSpec.ofChange fitDualSpec)

/-- ITS FALSE NEIGHBOUR: 'it returns false'. Refute it at one input. -/
def fitDualWrong : ChangeSpec := { name := "fitDual", fn := fun _ => fun
  | [d1, d2] => { results := [.lit (.bool false)], args := [d1, d2] }
  | _ => none }
def FitDualWrongFalsely : Prop := fitDualRow.holds Try.pinned (OpenSpec.ofChange fitDualWrong)

/- THE SECOND FORM. 'bulk': how many values and letters a reading holds, each counted each time it is reached (what is shared counts as often as it is met; a slice's spare places count too). A statement '..UptoSaid' is the law's where the arguments, and the package variables that the reading takes, are together of bulk at most 1048576: NARROWER than '..Said'. Prove '..Said' where nothing that the law and all that it calls make is longer than what came in: it says more and counts as full. Else prove '..UptoSaid'. A law counts once. -/
mutual
def uptoBulk {H : Type} : DataW H → Nat
  | .lit (.string bytes) => bytes.length + 1
  | .lit _ => 1
  | .nil => 1
  | .ptr d => uptoBulk d + 1
  | .slice elems spare => uptoBulkAll elems + uptoBulkAll spare + 1
  | .agg parts => uptoBulkAll parts + 1
  | .iface _ d => uptoBulk d + 1
  | .map entries => uptoBulkEntries entries + 1
  | .held _ => 1
def uptoBulkAll {H : Type} : List (DataW H) → Nat
  | [] => 0
  | d :: r => uptoBulk d + uptoBulkAll r
def uptoBulkEntries {H : Type} : List (Lit × DataW H) → Nat
  | [] => 0
  | x :: r => uptoBulkEntry x + uptoBulkEntries r
def uptoBulkEntry {H : Type} : Lit × DataW H → Nat
  | (.string bytes, d) => bytes.length + uptoBulk d + 1
  | (_, d) => uptoBulk d + 1
 end
def uptoSmall : (H : Type) → List (DataW H) → Bool := fun _ ds => decide (uptoBulkAll ds ≤ 1048576)
def OpenSpec.upto (s : _root_.Go.ChangeSpec) : _root_.Go.OpenSpec := { _root_.Go.OpenSpec.ofChange s with cond := some uptoSmall }

/-- 'tourbillontop.TopYields', WHERE WHAT IT READS IS OF BULK AT MOST 1048576: true; the input reads as it did. -/
def topYieldsUptoRow : OpenClaim := { program := "ytpklcjbdmikbdaa", sum := "83feeef6e33597d7b9eb0d5c242ea7bb021ce4c8fabcf0da6b32b86ed1835047", func := "tourbillon/tourbillontop.TopYields", spec := "topYields", unfollowed := true, recurses := true, apart := false, narrowed := true }
def TopYieldsUptoSaid : Prop := topYieldsUptoRow.holds Try.pinned (OpenSpec.upto topYieldsSpec)

/-- 'tourbillonlaw02.FitPairs', WHERE WHAT IT READS IS OF BULK AT MOST 1048576: true; the input reads as it did. -/
def fitPairsUptoRow : OpenClaim := { program := "ytpklcjbdmikbdaa", sum := "83feeef6e33597d7b9eb0d5c242ea7bb021ce4c8fabcf0da6b32b86ed1835047", func := "tourbillon/tourbillonlaw02.FitPairs", spec := "fitPairs", unfollowed := true, recurses := true, apart := false, narrowed := true }
def FitPairsUptoSaid : Prop := fitPairsUptoRow.holds Try.pinned (OpenSpec.upto fitPairsSpec)

/-- 'tourbillonlaw02.FitSplits', WHERE WHAT IT READS IS OF BULK AT MOST 1048576: true; the input reads as it did. -/
def fitSplitsUptoRow : OpenClaim := { program := "ytpklcjbdmikbdaa", sum := "83feeef6e33597d7b9eb0d5c242ea7bb021ce4c8fabcf0da6b32b86ed1835047", func := "tourbillon/tourbillonlaw02.FitSplits", spec := "fitSplits", unfollowed := true, recurses := true, apart := false, narrowed := true }
def FitSplitsUptoSaid : Prop := fitSplitsUptoRow.holds Try.pinned (OpenSpec.upto fitSplitsSpec)

/-- 'tourbillonlaw02.FitMoves', WHERE WHAT IT READS IS OF BULK AT MOST 1048576: true; the input reads as it did. -/
def fitMovesUptoRow : OpenClaim := { program := "ytpklcjbdmikbdaa", sum := "83feeef6e33597d7b9eb0d5c242ea7bb021ce4c8fabcf0da6b32b86ed1835047", func := "tourbillon/tourbillonlaw02.FitMoves", spec := "fitMoves", unfollowed := true, recurses := true, apart := false, narrowed := true }
def FitMovesUptoSaid : Prop := fitMovesUptoRow.holds Try.pinned (OpenSpec.upto fitMovesSpec)

/-- 'tourbillonlaw02.FitMost', WHERE WHAT IT READS IS OF BULK AT MOST 1048576: true; the input reads as it did. -/
def fitMostUptoRow : OpenClaim := { program := "ytpklcjbdmikbdaa", sum := "83feeef6e33597d7b9eb0d5c242ea7bb021ce4c8fabcf0da6b32b86ed1835047", func := "tourbillon/tourbillonlaw02.FitMost", spec := "fitMost", unfollowed := true, recurses := true, apart := false, narrowed := true }
def FitMostUptoSaid : Prop := fitMostUptoRow.holds Try.pinned (OpenSpec.upto fitMostSpec)

/-- 'tourbillonlaw02.FitMore', WHERE WHAT IT READS IS OF BULK AT MOST 1048576: true; the input reads as it did. -/
def fitMoreUptoRow : OpenClaim := { program := "ytpklcjbdmikbdaa", sum := "83feeef6e33597d7b9eb0d5c242ea7bb021ce4c8fabcf0da6b32b86ed1835047", func := "tourbillon/tourbillonlaw02.FitMore", spec := "fitMore", unfollowed := true, recurses := true, apart := false, narrowed := true }
def FitMoreUptoSaid : Prop := fitMoreUptoRow.holds Try.pinned (OpenSpec.upto fitMoreSpec)

/-- 'tourbillonlaw02.FitShows', WHERE WHAT IT READS IS OF BULK AT MOST 1048576: true; the input reads as it did. -/
def fitShowsUptoRow : OpenClaim := { program := "ytpklcjbdmikbdaa", sum := "83feeef6e33597d7b9eb0d5c242ea7bb021ce4c8fabcf0da6b32b86ed1835047", func := "tourbillon/tourbillonlaw02.FitShows", spec := "fitShows", unfollowed := true, recurses := true, apart := false, narrowed := true }
def FitShowsUptoSaid : Prop := fitShowsUptoRow.holds Try.pinned (OpenSpec.upto fitShowsSpec)

/-- 'tourbillonlaw02.FitStacks', WHERE WHAT IT READS IS OF BULK AT MOST 1048576: true; the input reads as it did. -/
def fitStacksUptoRow : OpenClaim := { program := "ytpklcjbdmikbdaa", sum := "83feeef6e33597d7b9eb0d5c242ea7bb021ce4c8fabcf0da6b32b86ed1835047", func := "tourbillon/tourbillonlaw02.FitStacks", spec := "fitStacks", unfollowed := true, recurses := true, apart := false, narrowed := true }
def FitStacksUptoSaid : Prop := fitStacksUptoRow.holds Try.pinned (OpenSpec.upto fitStacksSpec)

/-- 'tourbillonlaw02.FitWorst', WHERE WHAT IT READS IS OF BULK AT MOST 1048576: true; the input reads as it did. -/
def fitWorstUptoRow : OpenClaim := { program := "ytpklcjbdmikbdaa", sum := "83feeef6e33597d7b9eb0d5c242ea7bb021ce4c8fabcf0da6b32b86ed1835047", func := "tourbillon/tourbillonlaw02.FitWorst", spec := "fitWorst", unfollowed := true, recurses := true, apart := false, narrowed := true }
def FitWorstUptoSaid : Prop := fitWorstUptoRow.holds Try.pinned (OpenSpec.upto fitWorstSpec)

/-- 'tourbillonlaw02.FitLacks', WHERE WHAT IT READS IS OF BULK AT MOST 1048576: true; the input reads as it did. -/
def fitLacksUptoRow : OpenClaim := { program := "ytpklcjbdmikbdaa", sum := "83feeef6e33597d7b9eb0d5c242ea7bb021ce4c8fabcf0da6b32b86ed1835047", func := "tourbillon/tourbillonlaw02.FitLacks", spec := "fitLacks", unfollowed := true, recurses := true, apart := false, narrowed := true }
def FitLacksUptoSaid : Prop := fitLacksUptoRow.holds Try.pinned (OpenSpec.upto fitLacksSpec)

/-- 'tourbillonlaw02.FitGrinds', WHERE WHAT IT READS IS OF BULK AT MOST 1048576: true; the input reads as it did. -/
def fitGrindsUptoRow : OpenClaim := { program := "ytpklcjbdmikbdaa", sum := "83feeef6e33597d7b9eb0d5c242ea7bb021ce4c8fabcf0da6b32b86ed1835047", func := "tourbillon/tourbillonlaw02.FitGrinds", spec := "fitGrinds", unfollowed := true, recurses := true, apart := false, narrowed := true }
def FitGrindsUptoSaid : Prop := fitGrindsUptoRow.holds Try.pinned (OpenSpec.upto fitGrindsSpec)

/-- 'tourbillonlaw02.FitLeast', WHERE WHAT IT READS IS OF BULK AT MOST 1048576: true; the input reads as it did. -/
def fitLeastUptoRow : OpenClaim := { program := "ytpklcjbdmikbdaa", sum := "83feeef6e33597d7b9eb0d5c242ea7bb021ce4c8fabcf0da6b32b86ed1835047", func := "tourbillon/tourbillonlaw02.FitLeast", spec := "fitLeast", unfollowed := true, recurses := true, apart := false, narrowed := true }
def FitLeastUptoSaid : Prop := fitLeastUptoRow.holds Try.pinned (OpenSpec.upto fitLeastSpec)

/-- 'tourbillonlaw02.FitPaired', WHERE WHAT IT READS IS OF BULK AT MOST 1048576: true; the input reads as it did. -/
def fitPairedUptoRow : OpenClaim := { program := "ytpklcjbdmikbdaa", sum := "83feeef6e33597d7b9eb0d5c242ea7bb021ce4c8fabcf0da6b32b86ed1835047", func := "tourbillon/tourbillonlaw02.FitPaired", spec := "fitPaired", unfollowed := true, recurses := true, apart := false, narrowed := true }
def FitPairedUptoSaid : Prop := fitPairedUptoRow.holds Try.pinned (OpenSpec.upto fitPairedSpec)

/-- 'tourbillonlaw02.FitDual', WHERE WHAT IT READS IS OF BULK AT MOST 1048576: true; the input reads as it did. -/
def fitDualUptoRow : OpenClaim := { program := "ytpklcjbdmikbdaa", sum := "83feeef6e33597d7b9eb0d5c242ea7bb021ce4c8fabcf0da6b32b86ed1835047", func := "tourbillon/tourbillonlaw02.FitDual", spec := "fitDual", unfollowed := true, recurses := true, apart := false, narrowed := true }
def FitDualUptoSaid : Prop := fitDualUptoRow.holds Try.pinned (OpenSpec.upto fitDualSpec)

end Rows
end Go.Proofs.Ytpklcjbdmikbdaa
