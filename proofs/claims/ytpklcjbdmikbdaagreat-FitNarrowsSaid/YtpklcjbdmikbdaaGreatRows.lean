/-
  No cell of these rows narrows 'for every input' (looked for: loops, veiled, ifaces, maps, wideKeys, modest, calm, conditions, laid).
  DERIVED. THE GIVEN ROWS OF THIS SEAT. 2 by the template 'for every input the law returns true; each argument reads behind the call as it read before'; 0 by the template 'total and deterministic' (their statements: YtpklcjbdmikbdaaGreatTotals.lean).
  GIVEN WITH THE SEED: the statements are not yours to turn. If you find one false, say at which input.
  Laid BY PROGRAM, IN A SANDBOX (cutbox-rows.mjs): the forced cells as the released guide's own fill.sh prints them over the translation 611a92fdb9af3e23… (all of the seat's roots in one cut). By AI agents, Wed Nov 11 2026. No macro, syntax, notation, axiom, sorry.
-/
import Derived.Test.YtpklcjbdmikbdaaGreatChecked
import GoSem.Claim
import GoSem.ClaimJoined
import GoSem.ClaimMapViews
import Derived.JoinedTies
import Derived.KernelRfl
namespace Go.Proofs.YtpklcjbdmikbdaaGreat
/- THE CELL 'sum', in the pinned program and in every row, IS THE sha256 OF THE DUMP (.gsa) THAT YtpklcjbdmikbdaaGreatProg.lean LOADS. Nothing in Lean hashes anything: it is a label: what it is worth is what the hold of that sum in a sandbox is worth. -/
noncomputable def Tryz.pinned : Pinned := { name := "ytpklcjbdmikbdaagreat", sum := "611a92fdb9af3e23c6d03e530dafe5f4ac821c17e0bd86253f5e2b2a8b505368", checked := Tryz.checked }
namespace Rows
def none {H : Type} : Left H := { results := [], args := [] }

/-- 'tourbillonlaw02.FitCounts': WHATEVER THE INPUT: true; the input reads as it did. -/
def fitCountsSpec : ChangeSpec := { name := "fitCounts", fn := fun _ => fun
  | [d1, d2] => { results := [.lit (.bool true)], args := [d1, d2] }
  | _ => none }
def fitCountsRow : OpenClaim := { program := "ytpklcjbdmikbdaagreat", sum := "611a92fdb9af3e23c6d03e530dafe5f4ac821c17e0bd86253f5e2b2a8b505368", func := "tourbillon/tourbillonlaw02.FitCounts", spec := "fitCounts", unfollowed := true, recurses := true, apart := false }
def FitCountsSaid : Prop := fitCountsRow.holds Tryz.pinned (OpenSpec.ofChange fitCountsSpec)

/-- ITS FALSE NEIGHBOUR: 'it returns false'. Refute it at one input. -/
def fitCountsWrong : ChangeSpec := { name := "fitCounts", fn := fun _ => fun
  | [d1, d2] => { results := [.lit (.bool false)], args := [d1, d2] }
  | _ => none }
def FitCountsWrongFalsely : Prop := fitCountsRow.holds Tryz.pinned (OpenSpec.ofChange fitCountsWrong)

/-- 'tourbillonlaw02.FitNarrows': WHATEVER THE INPUT: true; the input reads as it did. -/
def fitNarrowsSpec : ChangeSpec := { name := "fitNarrows", fn := fun _ => fun
  | [d1, d2] => { results := [.lit (.bool true)], args := [d1, d2] }
  | _ => none }
def fitNarrowsRow : OpenClaim := { program := "ytpklcjbdmikbdaagreat", sum := "611a92fdb9af3e23c6d03e530dafe5f4ac821c17e0bd86253f5e2b2a8b505368", func := "tourbillon/tourbillonlaw02.FitNarrows", spec := "fitNarrows", unfollowed := true, recurses := true, apart := false }
def FitNarrowsSaid : Prop := fitNarrowsRow.holds Tryz.pinned (OpenSpec.ofChange fitNarrowsSpec)

/-- ITS FALSE NEIGHBOUR: 'it returns false'. Refute it at one input. -/
def fitNarrowsWrong : ChangeSpec := { name := "fitNarrows", fn := fun _ => fun
  | [d1, d2] => { results := [.lit (.bool false)], args := [d1, d2] }
  | _ => none }
def FitNarrowsWrongFalsely : Prop := fitNarrowsRow.holds Tryz.pinned (OpenSpec.ofChange fitNarrowsWrong)

/- THE SECOND FORM. 'bulk': how many values and letters a reading holds, each counted each time it is reached (what is shared counts as often as it is met; a slice's spare places count too). A statement '..UptoSaid' is the law's where the arguments, and the package variables that the reading takes, are together of bulk at most 1048576: NARROWER than '..Said'. Prove '..Said' where nothing that the law and all that it calls make is longer than what came in: it says more and counts as full. Else prove '..UptoSaid'. A law counts once. -/
mutual
def uptoBulk {H : Type} : DataW H → Nat
  | .lit (.string bytes) => bytes.length + 1
  | .lit _ => 1
  | .nil => 1
  | .ptr d => uptoBulk d + 1
  | .slice elems spare => uptoBulkAll elems + uptoBulkAll spare + 1
  | .agg parts => uptoBulkAll parts + 1
  | .iface _ d => uptoBulk d + 1
  | .map entries => uptoBulkEntries entries + 1
  | .held _ => 1
def uptoBulkAll {H : Type} : List (DataW H) → Nat
  | [] => 0
  | d :: r => uptoBulk d + uptoBulkAll r
def uptoBulkEntries {H : Type} : List (Lit × DataW H) → Nat
  | [] => 0
  | x :: r => uptoBulkEntry x + uptoBulkEntries r
def uptoBulkEntry {H : Type} : Lit × DataW H → Nat
  | (.string bytes, d) => bytes.length + uptoBulk d + 1
  | (_, d) => uptoBulk d + 1
 end
def uptoSmall : (H : Type) → List (DataW H) → Bool := fun _ ds => decide (uptoBulkAll ds ≤ 1048576)
def OpenSpec.upto (s : _root_.Go.ChangeSpec) : _root_.Go.OpenSpec := { _root_.Go.OpenSpec.ofChange s with cond := some uptoSmall }

/-- 'tourbillonlaw02.FitCounts', WHERE WHAT IT READS IS OF BULK AT MOST 1048576: true; the input reads as it did. -/
def fitCountsUptoRow : OpenClaim := { program := "ytpklcjbdmikbdaagreat", sum := "611a92fdb9af3e23c6d03e530dafe5f4ac821c17e0bd86253f5e2b2a8b505368", func := "tourbillon/tourbillonlaw02.FitCounts", spec := "fitCounts", unfollowed := true, recurses := true, apart := false, narrowed := true }
def FitCountsUptoSaid : Prop := fitCountsUptoRow.holds Tryz.pinned (OpenSpec.upto fitCountsSpec)

/-- 'tourbillonlaw02.FitNarrows', WHERE WHAT IT READS IS OF BULK AT MOST 1048576: true; the input reads as it did. -/
def fitNarrowsUptoRow : OpenClaim := { program := "ytpklcjbdmikbdaagreat", sum := "611a92fdb9af3e23c6d03e530dafe5f4ac821c17e0bd86253f5e2b2a8b505368", func := "tourbillon/tourbillonlaw02.FitNarrows", spec := "fitNarrows", unfollowed := true, recurses := true, apart := false, narrowed := true }
def FitNarrowsUptoSaid : Prop := fitNarrowsUptoRow.holds Tryz.pinned (OpenSpec.upto fitNarrowsSpec)

end Rows
end Go.Proofs.YtpklcjbdmikbdaaGreat
