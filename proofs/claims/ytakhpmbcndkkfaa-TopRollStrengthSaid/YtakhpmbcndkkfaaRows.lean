/-
  No cell of these rows narrows 'for every input' (looked for: loops, veiled, ifaces, maps, wideKeys, modest, calm, conditions, laid).
  DERIVED. THE GIVEN ROWS OF THIS SEAT. 4 by the template 'for every input the law returns true; each argument reads behind the call as it read before'; 0 by the template 'total and deterministic' (their statements: YtakhpmbcndkkfaaTotals.lean).
  GIVEN WITH THE SEED: the statements are not yours to turn. If you find one false, say at which input.
  Laid BY PROGRAM, IN A SANDBOX (cutbox-rows.mjs): the forced cells as the released guide's own fill.sh prints them over the translation 417012dcd09a0dee… (all of the seat's roots in one cut). By AI agents, Wed Nov 11 2026. No macro, syntax, notation, axiom, sorry.
-/
import Derived.Test.YtakhpmbcndkkfaaChecked
import GoSem.Claim
import GoSem.ClaimJoined
import GoSem.ClaimMapViews
import Derived.JoinedTies
import Derived.KernelRfl
namespace Go.Proofs.Ytakhpmbcndkkfaa
/- THE CELL 'sum', in the pinned program and in every row, IS THE sha256 OF THE DUMP (.gsa) THAT YtakhpmbcndkkfaaProg.lean LOADS. Nothing in Lean hashes anything: it is a label: what it is worth is what the hold of that sum in a sandbox is worth. -/
noncomputable def Try.pinned : Pinned := { name := "ytakhpmbcndkkfaa", sum := "417012dcd09a0deebc286c2eead2892e39871f2a0ae264eb013d5fff9033507d", checked := Try.checked }
namespace Rows
def none {H : Type} : Left H := { results := [], args := [] }

/-- 'testlinertop.TopDampWeight': WHATEVER THE INPUT: true; the input reads as it did. -/
def topDampWeightSpec : ChangeSpec := { name := "topDampWeight", fn := fun _ => fun
  | [d1, d2, d3] => { results := [.lit (.bool true)], args := [d1, d2, d3] }
  | _ => none }
def topDampWeightRow : OpenClaim := { program := "ytakhpmbcndkkfaa", sum := "417012dcd09a0deebc286c2eead2892e39871f2a0ae264eb013d5fff9033507d", func := "testliner/testlinertop.TopDampWeight", spec := "topDampWeight", unfollowed := true, recurses := true, apart := false }
def TopDampWeightSaid : Prop := topDampWeightRow.holds Try.pinned (OpenSpec.ofChange topDampWeightSpec)

/-- ITS FALSE NEIGHBOUR: 'it returns false'. Refute it at one input. -/
def topDampWeightWrong : ChangeSpec := { name := "topDampWeight", fn := fun _ => fun
  | [d1, d2, d3] => { results := [.lit (.bool false)], args := [d1, d2, d3] }
  | _ => none }
def TopDampWeightWrongFalsely : Prop := topDampWeightRow.holds Try.pinned (OpenSpec.ofChange topDampWeightWrong)

/-- 'testlinertop.TopQuoteBoard': WHATEVER THE INPUT: true; the input reads as it did. -/
def topQuoteBoardSpec : ChangeSpec := { name := "topQuoteBoard", fn := fun _ => fun
  | [d1, d2] => { results := [.lit (.bool true)], args := [d1, d2] }
  | _ => none }
def topQuoteBoardRow : OpenClaim := { program := "ytakhpmbcndkkfaa", sum := "417012dcd09a0deebc286c2eead2892e39871f2a0ae264eb013d5fff9033507d", func := "testliner/testlinertop.TopQuoteBoard", spec := "topQuoteBoard", unfollowed := true, recurses := true, apart := false }
def TopQuoteBoardSaid : Prop := topQuoteBoardRow.holds Try.pinned (OpenSpec.ofChange topQuoteBoardSpec)

/-- ITS FALSE NEIGHBOUR: 'it returns false'. Refute it at one input. -/
def topQuoteBoardWrong : ChangeSpec := { name := "topQuoteBoard", fn := fun _ => fun
  | [d1, d2] => { results := [.lit (.bool false)], args := [d1, d2] }
  | _ => none }
def TopQuoteBoardWrongFalsely : Prop := topQuoteBoardRow.holds Try.pinned (OpenSpec.ofChange topQuoteBoardWrong)

/-- 'testlinertop.TopRollBoard': WHATEVER THE INPUT: true; the input reads as it did. -/
def topRollBoardSpec : ChangeSpec := { name := "topRollBoard", fn := fun _ => fun
  | [d1, d2] => { results := [.lit (.bool true)], args := [d1, d2] }
  | _ => none }
def topRollBoardRow : OpenClaim := { program := "ytakhpmbcndkkfaa", sum := "417012dcd09a0deebc286c2eead2892e39871f2a0ae264eb013d5fff9033507d", func := "testliner/testlinertop.TopRollBoard", spec := "topRollBoard", unfollowed := true, recurses := true, apart := false }
def TopRollBoardSaid : Prop := topRollBoardRow.holds Try.pinned (OpenSpec.ofChange topRollBoardSpec)

/-- ITS FALSE NEIGHBOUR: 'it returns false'. Refute it at one input. -/
def topRollBoardWrong : ChangeSpec := { name := "topRollBoard", fn := fun _ => fun
  | [d1, d2] => { results := [.lit (.bool false)], args := [d1, d2] }
  | _ => none }
def TopRollBoardWrongFalsely : Prop := topRollBoardRow.holds Try.pinned (OpenSpec.ofChange topRollBoardWrong)

/-- 'testlinertop.TopRollStrength': WHATEVER THE INPUT: true; the input reads as it did. -/
def topRollStrengthSpec : ChangeSpec := { name := "topRollStrength", fn := fun _ => fun
  | [d1, d2, d3] => { results := [.lit (.bool true)], args := [d1, d2, d3] }
  | _ => none }
def topRollStrengthRow : OpenClaim := { program := "ytakhpmbcndkkfaa", sum := "417012dcd09a0deebc286c2eead2892e39871f2a0ae264eb013d5fff9033507d", func := "testliner/testlinertop.TopRollStrength", spec := "topRollStrength", unfollowed := true, recurses := true, apart := false }
def TopRollStrengthSaid : Prop := topRollStrengthRow.holds Try.pinned (OpenSpec.ofChange topRollStrengthSpec)

/-- ITS FALSE NEIGHBOUR: 'it returns false'. Refute it at one input. -/
def topRollStrengthWrong : ChangeSpec := { name := "topRollStrength", fn := fun _ => fun
  | [d1, d2, d3] => { results := [.lit (.bool false)], args := [d1, d2, d3] }
  | _ => none }
def TopRollStrengthWrongFalsely : Prop := topRollStrengthRow.holds Try.pinned (OpenSpec.ofChange topRollStrengthWrong)

/- THE SECOND FORM. 'bulk': how many values and letters a reading holds, each counted each time it is reached (what is shared counts as often as it is met; a slice's spare places count too). A statement '..UptoSaid' is the law's where the arguments, and the package variables that the reading takes, are together of bulk at most 1048576: NARROWER than '..Said'. Prove '..Said' where nothing that the law and all that it calls make is longer than what came in: it says more and counts as full. Else prove '..UptoSaid'. A law counts once. -/
mutual
def uptoBulk {H : Type} : DataW H → Nat
  | .lit (.string bytes) => bytes.length + 1
  | .lit _ => 1
  | .nil => 1
  | .ptr d => uptoBulk d + 1
  | .slice elems spare => uptoBulkAll elems + uptoBulkAll spare + 1
  | .agg parts => uptoBulkAll parts + 1
  | .iface _ d => uptoBulk d + 1
  | .map entries => uptoBulkEntries entries + 1
  | .held _ => 1
def uptoBulkAll {H : Type} : List (DataW H) → Nat
  | [] => 0
  | d :: r => uptoBulk d + uptoBulkAll r
def uptoBulkEntries {H : Type} : List (Lit × DataW H) → Nat
  | [] => 0
  | x :: r => uptoBulkEntry x + uptoBulkEntries r
def uptoBulkEntry {H : Type} : Lit × DataW H → Nat
  | (.string bytes, d) => bytes.length + uptoBulk d + 1
  | (_, d) => uptoBulk d + 1
 end
def uptoSmall : (H : Type) → List (DataW H) → Bool := fun _ ds => decide (uptoBulkAll ds ≤ 1048576)
def OpenSpec.upto (s : _root_.Go.ChangeSpec) : _root_.Go.OpenSpec := { _root_.Go.OpenSpec.ofChange s with cond := some uptoSmall }

/-- 'testlinertop.TopDampWeight', WHERE WHAT IT READS IS OF BULK AT MOST 1048576: true; the input reads as it did. -/
def topDampWeightUptoRow : OpenClaim := { program := "ytakhpmbcndkkfaa", sum := "417012dcd09a0deebc286c2eead2892e39871f2a0ae264eb013d5fff9033507d", func := "testliner/testlinertop.TopDampWeight", spec := "topDampWeight", unfollowed := true, recurses := true, apart := false, narrowed := true }
def TopDampWeightUptoSaid : Prop := topDampWeightUptoRow.holds Try.pinned (OpenSpec.upto topDampWeightSpec)

/-- 'testlinertop.TopQuoteBoard', WHERE WHAT IT READS IS OF BULK AT MOST 1048576: true; the input reads as it did. -/
def topQuoteBoardUptoRow : OpenClaim := { program := "ytakhpmbcndkkfaa", sum := "417012dcd09a0deebc286c2eead2892e39871f2a0ae264eb013d5fff9033507d", func := "testliner/testlinertop.TopQuoteBoard", spec := "topQuoteBoard", unfollowed := true, recurses := true, apart := false, narrowed := true }
def TopQuoteBoardUptoSaid : Prop := topQuoteBoardUptoRow.holds Try.pinned (OpenSpec.upto topQuoteBoardSpec)

/-- 'testlinertop.TopRollBoard', WHERE WHAT IT READS IS OF BULK AT MOST 1048576: true; the input reads as it did. -/
def topRollBoardUptoRow : OpenClaim := { program := "ytakhpmbcndkkfaa", sum := "417012dcd09a0deebc286c2eead2892e39871f2a0ae264eb013d5fff9033507d", func := "testliner/testlinertop.TopRollBoard", spec := "topRollBoard", unfollowed := true, recurses := true, apart := false, narrowed := true }
def TopRollBoardUptoSaid : Prop := topRollBoardUptoRow.holds Try.pinned (OpenSpec.upto topRollBoardSpec)

/-- 'testlinertop.TopRollStrength', WHERE WHAT IT READS IS OF BULK AT MOST 1048576: true; the input reads as it did. -/
def topRollStrengthUptoRow : OpenClaim := { program := "ytakhpmbcndkkfaa", sum := "417012dcd09a0deebc286c2eead2892e39871f2a0ae264eb013d5fff9033507d", func := "testliner/testlinertop.TopRollStrength", spec := "topRollStrength", unfollowed := true, recurses := true, apart := false, narrowed := true }
def TopRollStrengthUptoSaid : Prop := topRollStrengthUptoRow.holds Try.pinned (OpenSpec.upto topRollStrengthSpec)

end Rows
end Go.Proofs.Ytakhpmbcndkkfaa
