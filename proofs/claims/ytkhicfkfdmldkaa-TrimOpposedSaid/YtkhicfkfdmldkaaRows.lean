/-
  No cell of these rows narrows 'for every input' (looked for: loops, veiled, ifaces, maps, wideKeys, modest, calm, conditions, laid).
  DERIVED. THE GIVEN ROWS OF THIS SEAT. 12 by the template 'for every input the law returns true; each argument reads behind the call as it read before'; 0 by the template 'total and deterministic' (their statements: YtkhicfkfdmldkaaTotals.lean).
  GIVEN WITH THE SEED: the statements are not yours to turn. If you find one false, say at which input.
  Laid BY PROGRAM, IN A SANDBOX (cutbox-rows.mjs): the forced cells as the released guide's own fill.sh prints them over the translation 593bef6b39cbfd99… (all of the seat's roots in one cut). By AI agents, Wed Nov 11 2026. No macro, syntax, notation, axiom, sorry.
-/
import Derived.Test.YtkhicfkfdmldkaaChecked
import GoSem.Claim
import GoSem.ClaimJoined
import GoSem.ClaimMapViews
import Derived.JoinedTies
import Derived.KernelRfl
namespace Go.Proofs.Ytkhicfkfdmldkaa
/- THE CELL 'sum', in the pinned program and in every row, IS THE sha256 OF THE DUMP (.gsa) THAT YtkhicfkfdmldkaaProg.lean LOADS. Nothing in Lean hashes anything: it is a label: what it is worth is what the hold of that sum in a sandbox is worth. -/
noncomputable def Try.pinned : Pinned := { name := "ytkhicfkfdmldkaa", sum := "593bef6b39cbfd99b467c53c260551d60338e62846808988dd14f85d8c919d9a", checked := Try.checked }
namespace Rows
def none {H : Type} : Left H := { results := [], args := [] }

/-- 'testlinerlaw04.TrimChanges': WHATEVER THE INPUT: true; the input reads as it did. -/
def trimChangesSpec : ChangeSpec := { name := "trimChanges", fn := fun _ => fun
  | [d1, d2] => { results := [.lit (.bool true)], args := [d1, d2] }
  | _ => none }
def trimChangesRow : OpenClaim := { program := "ytkhicfkfdmldkaa", sum := "593bef6b39cbfd99b467c53c260551d60338e62846808988dd14f85d8c919d9a", func := "testliner/testlinerlaw04.TrimChanges", spec := "trimChanges", unfollowed := true, recurses := true, apart := false }
def TrimChangesSaid : Prop := trimChangesRow.holds Try.pinned (OpenSpec.ofChange trimChangesSpec)

/-- ITS FALSE NEIGHBOUR: 'it returns false'. Refute it at one input. -/
def trimChangesWrong : ChangeSpec := { name := "trimChanges", fn := fun _ => fun
  | [d1, d2] => { results := [.lit (.bool false)], args := [d1, d2] }
  | _ => none }
def TrimChangesWrongFalsely : Prop := trimChangesRow.holds Try.pinned (OpenSpec.ofChange trimChangesWrong)

/-- 'testlinerlaw04.TrimGets': WHATEVER THE INPUT: true; the input reads as it did. -/
def trimGetsSpec : ChangeSpec := { name := "trimGets", fn := fun _ => fun
  | [d1, d2, d3] => { results := [.lit (.bool true)], args := [d1, d2, d3] }
  | _ => none }
def trimGetsRow : OpenClaim := { program := "ytkhicfkfdmldkaa", sum := "593bef6b39cbfd99b467c53c260551d60338e62846808988dd14f85d8c919d9a", func := "testliner/testlinerlaw04.TrimGets", spec := "trimGets", unfollowed := true, recurses := true, apart := false }
def TrimGetsSaid : Prop := trimGetsRow.holds Try.pinned (OpenSpec.ofChange trimGetsSpec)

/-- ITS FALSE NEIGHBOUR: 'it returns false'. Refute it at one input. -/
def trimGetsWrong : ChangeSpec := { name := "trimGets", fn := fun _ => fun
  | [d1, d2, d3] => { results := [.lit (.bool false)], args := [d1, d2, d3] }
  | _ => none }
def TrimGetsWrongFalsely : Prop := trimGetsRow.holds Try.pinned (OpenSpec.ofChange trimGetsWrong)

/-- 'testlinerlaw04.TrimPlans': WHATEVER THE INPUT: true; the input reads as it did. -/
def trimPlansSpec : ChangeSpec := { name := "trimPlans", fn := fun _ => fun
  | [d1, d2] => { results := [.lit (.bool true)], args := [d1, d2] }
  | _ => none }
def trimPlansRow : OpenClaim := { program := "ytkhicfkfdmldkaa", sum := "593bef6b39cbfd99b467c53c260551d60338e62846808988dd14f85d8c919d9a", func := "testliner/testlinerlaw04.TrimPlans", spec := "trimPlans", unfollowed := true, recurses := true, apart := false }
def TrimPlansSaid : Prop := trimPlansRow.holds Try.pinned (OpenSpec.ofChange trimPlansSpec)

/-- ITS FALSE NEIGHBOUR: 'it returns false'. Refute it at one input. -/
def trimPlansWrong : ChangeSpec := { name := "trimPlans", fn := fun _ => fun
  | [d1, d2] => { results := [.lit (.bool false)], args := [d1, d2] }
  | _ => none }
def TrimPlansWrongFalsely : Prop := trimPlansRow.holds Try.pinned (OpenSpec.ofChange trimPlansWrong)

/-- 'testlinerlaw04.TrimChooses': WHATEVER THE INPUT: true; the input reads as it did. -/
def trimChoosesSpec : ChangeSpec := { name := "trimChooses", fn := fun _ => fun
  | [d1, d2] => { results := [.lit (.bool true)], args := [d1, d2] }
  | _ => none }
def trimChoosesRow : OpenClaim := { program := "ytkhicfkfdmldkaa", sum := "593bef6b39cbfd99b467c53c260551d60338e62846808988dd14f85d8c919d9a", func := "testliner/testlinerlaw04.TrimChooses", spec := "trimChooses", unfollowed := true, recurses := true, apart := false }
def TrimChoosesSaid : Prop := trimChoosesRow.holds Try.pinned (OpenSpec.ofChange trimChoosesSpec)

/-- ITS FALSE NEIGHBOUR: 'it returns false'. Refute it at one input. -/
def trimChoosesWrong : ChangeSpec := { name := "trimChooses", fn := fun _ => fun
  | [d1, d2] => { results := [.lit (.bool false)], args := [d1, d2] }
  | _ => none }
def TrimChoosesWrongFalsely : Prop := trimChoosesRow.holds Try.pinned (OpenSpec.ofChange trimChoosesWrong)

/-- 'testlinerlaw04.TrimAgainsts': WHATEVER THE INPUT: true; the input reads as it did. -/
def trimAgainstsSpec : ChangeSpec := { name := "trimAgainsts", fn := fun _ => fun
  | [d1, d2] => { results := [.lit (.bool true)], args := [d1, d2] }
  | _ => none }
def trimAgainstsRow : OpenClaim := { program := "ytkhicfkfdmldkaa", sum := "593bef6b39cbfd99b467c53c260551d60338e62846808988dd14f85d8c919d9a", func := "testliner/testlinerlaw04.TrimAgainsts", spec := "trimAgainsts", unfollowed := true, recurses := true, apart := false }
def TrimAgainstsSaid : Prop := trimAgainstsRow.holds Try.pinned (OpenSpec.ofChange trimAgainstsSpec)

/-- ITS FALSE NEIGHBOUR: 'it returns false'. Refute it at one input. -/
def trimAgainstsWrong : ChangeSpec := { name := "trimAgainsts", fn := fun _ => fun
  | [d1, d2] => { results := [.lit (.bool false)], args := [d1, d2] }
  | _ => none }
def TrimAgainstsWrongFalsely : Prop := trimAgainstsRow.holds Try.pinned (OpenSpec.ofChange trimAgainstsWrong)

/-- 'testlinerlaw04.TrimSheets': WHATEVER THE INPUT: true; the input reads as it did. -/
def trimSheetsSpec : ChangeSpec := { name := "trimSheets", fn := fun _ => fun
  | [d1, d2, d3] => { results := [.lit (.bool true)], args := [d1, d2, d3] }
  | _ => none }
def trimSheetsRow : OpenClaim := { program := "ytkhicfkfdmldkaa", sum := "593bef6b39cbfd99b467c53c260551d60338e62846808988dd14f85d8c919d9a", func := "testliner/testlinerlaw04.TrimSheets", spec := "trimSheets", unfollowed := true, recurses := true, apart := false }
def TrimSheetsSaid : Prop := trimSheetsRow.holds Try.pinned (OpenSpec.ofChange trimSheetsSpec)

/-- ITS FALSE NEIGHBOUR: 'it returns false'. Refute it at one input. -/
def trimSheetsWrong : ChangeSpec := { name := "trimSheets", fn := fun _ => fun
  | [d1, d2, d3] => { results := [.lit (.bool false)], args := [d1, d2, d3] }
  | _ => none }
def TrimSheetsWrongFalsely : Prop := trimSheetsRow.holds Try.pinned (OpenSpec.ofChange trimSheetsWrong)

/-- 'testlinerlaw04.TrimMetres': WHATEVER THE INPUT: true; the input reads as it did. -/
def trimMetresSpec : ChangeSpec := { name := "trimMetres", fn := fun _ => fun
  | [d1, d2] => { results := [.lit (.bool true)], args := [d1, d2] }
  | _ => none }
def trimMetresRow : OpenClaim := { program := "ytkhicfkfdmldkaa", sum := "593bef6b39cbfd99b467c53c260551d60338e62846808988dd14f85d8c919d9a", func := "testliner/testlinerlaw04.TrimMetres", spec := "trimMetres", unfollowed := true, recurses := true, apart := false }
def TrimMetresSaid : Prop := trimMetresRow.holds Try.pinned (OpenSpec.ofChange trimMetresSpec)

/-- ITS FALSE NEIGHBOUR: 'it returns false'. Refute it at one input. -/
def trimMetresWrong : ChangeSpec := { name := "trimMetres", fn := fun _ => fun
  | [d1, d2] => { results := [.lit (.bool false)], args := [d1, d2] }
  | _ => none }
def TrimMetresWrongFalsely : Prop := trimMetresRow.holds Try.pinned (OpenSpec.ofChange trimMetresWrong)

/-- 'testlinerlaw04.TrimOpposed': WHATEVER THE INPUT: true; the input reads as it did. -/
def trimOpposedSpec : ChangeSpec := { name := "trimOpposed", fn := fun _ => fun
  | [d1, d2] => { results := [.lit (.bool true)], args := [d1, d2] }
  | _ => none }
def trimOpposedRow : OpenClaim := { program := "ytkhicfkfdmldkaa", sum := "593bef6b39cbfd99b467c53c260551d60338e62846808988dd14f85d8c919d9a", func := "testliner/testlinerlaw04.TrimOpposed", spec := "trimOpposed", unfollowed := true, recurses := true, apart := false }
def TrimOpposedSaid : Prop := trimOpposedRow.holds Try.pinned (OpenSpec.ofChange trimOpposedSpec)

/-- ITS FALSE NEIGHBOUR: 'it returns false'. Refute it at one input. -/
def trimOpposedWrong : ChangeSpec := { name := "trimOpposed", fn := fun _ => fun
  | [d1, d2] => { results := [.lit (.bool false)], args := [d1, d2] }
  | _ => none }
def TrimOpposedWrongFalsely : Prop := trimOpposedRow.holds Try.pinned (OpenSpec.ofChange trimOpposedWrong)

/-- 'testlinerlaw04.TrimPatterns': WHATEVER THE INPUT: true; the input reads as it did. -/
def trimPatternsSpec : ChangeSpec := { name := "trimPatterns", fn := fun _ => fun
  | [d1, d2, d3] => { results := [.lit (.bool true)], args := [d1, d2, d3] }
  | _ => none }
def trimPatternsRow : OpenClaim := { program := "ytkhicfkfdmldkaa", sum := "593bef6b39cbfd99b467c53c260551d60338e62846808988dd14f85d8c919d9a", func := "testliner/testlinerlaw04.TrimPatterns", spec := "trimPatterns", unfollowed := true, recurses := true, apart := false }
def TrimPatternsSaid : Prop := trimPatternsRow.holds Try.pinned (OpenSpec.ofChange trimPatternsSpec)

/-- ITS FALSE NEIGHBOUR: 'it returns false'. Refute it at one input. -/
def trimPatternsWrong : ChangeSpec := { name := "trimPatterns", fn := fun _ => fun
  | [d1, d2, d3] => { results := [.lit (.bool false)], args := [d1, d2, d3] }
  | _ => none }
def TrimPatternsWrongFalsely : Prop := trimPatternsRow.holds Try.pinned (OpenSpec.ofChange trimPatternsWrong)

/-- 'testlinerlaw04.TrimMoved': WHATEVER THE INPUT: true; the input reads as it did. -/
def trimMovedSpec : ChangeSpec := { name := "trimMoved", fn := fun _ => fun
  | [d1, d2, d3] => { results := [.lit (.bool true)], args := [d1, d2, d3] }
  | _ => none }
def trimMovedRow : OpenClaim := { program := "ytkhicfkfdmldkaa", sum := "593bef6b39cbfd99b467c53c260551d60338e62846808988dd14f85d8c919d9a", func := "testliner/testlinerlaw04.TrimMoved", spec := "trimMoved", unfollowed := true, recurses := true, apart := false }
def TrimMovedSaid : Prop := trimMovedRow.holds Try.pinned (OpenSpec.ofChange trimMovedSpec)

/-- ITS FALSE NEIGHBOUR: 'it returns false'. Refute it at one input. -/
def trimMovedWrong : ChangeSpec := { name := "trimMoved", fn := fun _ => fun
  | [d1, d2, d3] => { results := [.lit (.bool false)], args := [d1, d2, d3] }
  | _ => none }
def TrimMovedWrongFalsely : Prop := trimMovedRow.holds Try.pinned (OpenSpec.ofChange trimMovedWrong)

/-- 'testlinerlaw04.TrimRests': WHATEVER THE INPUT: true; the input reads as it did. -/
def trimRestsSpec : ChangeSpec := { name := "trimRests", fn := fun _ => fun
  | [d1, d2, d3] => { results := [.lit (.bool true)], args := [d1, d2, d3] }
  | _ => none }
def trimRestsRow : OpenClaim := { program := "ytkhicfkfdmldkaa", sum := "593bef6b39cbfd99b467c53c260551d60338e62846808988dd14f85d8c919d9a", func := "testliner/testlinerlaw04.TrimRests", spec := "trimRests", unfollowed := true, recurses := true, apart := false }
def TrimRestsSaid : Prop := trimRestsRow.holds Try.pinned (OpenSpec.ofChange trimRestsSpec)

/-- ITS FALSE NEIGHBOUR: 'it returns false'. Refute it at one input. -/
def trimRestsWrong : ChangeSpec := { name := "trimRests", fn := fun _ => fun
  | [d1, d2, d3] => { results := [.lit (.bool false)], args := [d1, d2, d3] }
  | _ => none }
def TrimRestsWrongFalsely : Prop := trimRestsRow.holds Try.pinned (OpenSpec.ofChange trimRestsWrong)

/-- 'testlinerlaw04.TrimBroken': WHATEVER THE INPUT: true; the input reads as it did. -/
def trimBrokenSpec : ChangeSpec := { name := "trimBroken", fn := fun _ => fun
  | [d1, d2] => { results := [.lit (.bool true)], args := [d1, d2] }
  | _ => none }
def trimBrokenRow : OpenClaim := { program := "ytkhicfkfdmldkaa", sum := "593bef6b39cbfd99b467c53c260551d60338e62846808988dd14f85d8c919d9a", func := "testliner/testlinerlaw04.TrimBroken", spec := "trimBroken", unfollowed := true, recurses := true, apart := false }
def TrimBrokenSaid : Prop := trimBrokenRow.holds Try.pinned (OpenSpec.ofChange trimBrokenSpec)

/-- ITS FALSE NEIGHBOUR: 'it returns false'. Refute it at one input. -/
def trimBrokenWrong : ChangeSpec := { name := "trimBroken", fn := fun _ => fun
  | [d1, d2] => { results := [.lit (.bool false)], args := [d1, d2] }
  | _ => none }
def TrimBrokenWrongFalsely : Prop := trimBrokenRow.holds Try.pinned (OpenSpec.ofChange trimBrokenWrong)

/- THE SECOND FORM. 'bulk': how many values and letters a reading holds, each counted each time it is reached (what is shared counts as often as it is met; a slice's spare places count too). A statement '..UptoSaid' is the law's where the arguments, and the package variables that the reading takes, are together of bulk at most 1048576: NARROWER than '..Said'. Prove '..Said' where nothing that the law and all that it calls make is longer than what came in: it says more and counts as full. Else prove '..UptoSaid'. A law counts once. -/
mutual
def uptoBulk {H : Type} : DataW H → Nat
  | .lit (.string bytes) => bytes.length + 1
  | .lit _ => 1
  | .nil => 1
  | .ptr d => uptoBulk d + 1
  | .slice elems spare => uptoBulkAll elems + uptoBulkAll spare + 1
  | .agg parts => uptoBulkAll parts + 1
  | .iface _ d => uptoBulk d + 1
  | .map entries => uptoBulkEntries entries + 1
  | .held _ => 1
def uptoBulkAll {H : Type} : List (DataW H) → Nat
  | [] => 0
  | d :: r => uptoBulk d + uptoBulkAll r
def uptoBulkEntries {H : Type} : List (Lit × DataW H) → Nat
  | [] => 0
  | x :: r => uptoBulkEntry x + uptoBulkEntries r
def uptoBulkEntry {H : Type} : Lit × DataW H → Nat
  | (.string bytes, d) => bytes.length + uptoBulk d + 1
  | (_, d) => uptoBulk d + 1
 end
def uptoSmall : (H : Type) → List (DataW H) → Bool := fun _ ds => decide (uptoBulkAll ds ≤ 1048576)
def OpenSpec.upto (s : _root_.Go.ChangeSpec) : _root_.Go.OpenSpec := { _root_.Go.OpenSpec.ofChange s with cond := some uptoSmall }

/-- 'testlinerlaw04.TrimChanges', WHERE WHAT IT READS IS OF BULK AT MOST 1048576: true; the input reads as it did. -/
def trimChangesUptoRow : OpenClaim := { program := "ytkhicfkfdmldkaa", sum := "593bef6b39cbfd99b467c53c260551d60338e62846808988dd14f85d8c919d9a", func := "testliner/testlinerlaw04.TrimChanges", spec := "trimChanges", unfollowed := true, recurses := true, apart := false, narrowed := true }
def TrimChangesUptoSaid : Prop := trimChangesUptoRow.holds Try.pinned (OpenSpec.upto trimChangesSpec)

/-- 'testlinerlaw04.TrimGets', WHERE WHAT IT READS IS OF BULK AT MOST 1048576: true; the input reads as it did. -/
def trimGetsUptoRow : OpenClaim := { program := "ytkhicfkfdmldkaa", sum := "593bef6b39cbfd99b467c53c260551d60338e62846808988dd14f85d8c919d9a", func := "testliner/testlinerlaw04.TrimGets", spec := "trimGets", unfollowed := true, recurses := true, apart := false, narrowed := true }
def TrimGetsUptoSaid : Prop := trimGetsUptoRow.holds Try.pinned (OpenSpec.upto trimGetsSpec)

/-- 'testlinerlaw04.TrimPlans', WHERE WHAT IT READS IS OF BULK AT MOST 1048576: true; the input reads as it did. -/
def trimPlansUptoRow : OpenClaim := { program := "ytkhicfkfdmldkaa", sum := "593bef6b39cbfd99b467c53c260551d60338e62846808988dd14f85d8c919d9a", func := "testliner/testlinerlaw04.TrimPlans", spec := "trimPlans", unfollowed := true, recurses := true, apart := false, narrowed := true }
def TrimPlansUptoSaid : Prop := trimPlansUptoRow.holds Try.pinned (OpenSpec.upto trimPlansSpec)

/-- 'testlinerlaw04.TrimChooses', WHERE WHAT IT READS IS OF BULK AT MOST 1048576: true; the input reads as it did. -/
def trimChoosesUptoRow : OpenClaim := { program := "ytkhicfkfdmldkaa", sum := "593bef6b39cbfd99b467c53c260551d60338e62846808988dd14f85d8c919d9a", func := "testliner/testlinerlaw04.TrimChooses", spec := "trimChooses", unfollowed := true, recurses := true, apart := false, narrowed := true }
def TrimChoosesUptoSaid : Prop := trimChoosesUptoRow.holds Try.pinned (OpenSpec.upto trimChoosesSpec)

/-- 'testlinerlaw04.TrimAgainsts', WHERE WHAT IT READS IS OF BULK AT MOST 1048576: true; the input reads as it did. -/
def trimAgainstsUptoRow : OpenClaim := { program := "ytkhicfkfdmldkaa", sum := "593bef6b39cbfd99b467c53c260551d60338e62846808988dd14f85d8c919d9a", func := "testliner/testlinerlaw04.TrimAgainsts", spec := "trimAgainsts", unfollowed := true, recurses := true, apart := false, narrowed := true }
def TrimAgainstsUptoSaid : Prop := trimAgainstsUptoRow.holds Try.pinned (OpenSpec.upto trimAgainstsSpec)

/-- 'testlinerlaw04.TrimSheets', WHERE WHAT IT READS IS OF BULK AT MOST 1048576: true; the input reads as it did. -/
def trimSheetsUptoRow : OpenClaim := { program := "ytkhicfkfdmldkaa", sum := "593bef6b39cbfd99b467c53c260551d60338e62846808988dd14f85d8c919d9a", func := "testliner/testlinerlaw04.TrimSheets", spec := "trimSheets", unfollowed := true, recurses := true, apart := false, narrowed := true }
def TrimSheetsUptoSaid : Prop := trimSheetsUptoRow.holds Try.pinned (OpenSpec.upto trimSheetsSpec)

/-- 'testlinerlaw04.TrimMetres', WHERE WHAT IT READS IS OF BULK AT MOST 1048576: true; the input reads as it did. -/
def trimMetresUptoRow : OpenClaim := { program := "ytkhicfkfdmldkaa", sum := "593bef6b39cbfd99b467c53c260551d60338e62846808988dd14f85d8c919d9a", func := "testliner/testlinerlaw04.TrimMetres", spec := "trimMetres", unfollowed := true, recurses := true, apart := false, narrowed := true }
def TrimMetresUptoSaid : Prop := trimMetresUptoRow.holds Try.pinned (OpenSpec.upto trimMetresSpec)

/-- 'testlinerlaw04.TrimOpposed', WHERE WHAT IT READS IS OF BULK AT MOST 1048576: true; the input reads as it did. -/
def trimOpposedUptoRow : OpenClaim := { program := "ytkhicfkfdmldkaa", sum := "593bef6b39cbfd99b467c53c260551d60338e62846808988dd14f85d8c919d9a", func := "testliner/testlinerlaw04.TrimOpposed", spec := "trimOpposed", unfollowed := true, recurses := true, apart := false, narrowed := true }
def TrimOpposedUptoSaid : Prop := trimOpposedUptoRow.holds Try.pinned (OpenSpec.upto trimOpposedSpec)

/-- 'testlinerlaw04.TrimPatterns', WHERE WHAT IT READS IS OF BULK AT MOST 1048576: true; the input reads as it did. -/
def trimPatternsUptoRow : OpenClaim := { program := "ytkhicfkfdmldkaa", sum := "593bef6b39cbfd99b467c53c260551d60338e62846808988dd14f85d8c919d9a", func := "testliner/testlinerlaw04.TrimPatterns", spec := "trimPatterns", unfollowed := true, recurses := true, apart := false, narrowed := true }
def TrimPatternsUptoSaid : Prop := trimPatternsUptoRow.holds Try.pinned (OpenSpec.upto trimPatternsSpec)

/-- 'testlinerlaw04.TrimMoved', WHERE WHAT IT READS IS OF BULK AT MOST 1048576: true; the input reads as it did. -/
def trimMovedUptoRow : OpenClaim := { program := "ytkhicfkfdmldkaa", sum := "593bef6b39cbfd99b467c53c260551d60338e62846808988dd14f85d8c919d9a", func := "testliner/testlinerlaw04.TrimMoved", spec := "trimMoved", unfollowed := true, recurses := true, apart := false, narrowed := true }
def TrimMovedUptoSaid : Prop := trimMovedUptoRow.holds Try.pinned (OpenSpec.upto trimMovedSpec)

/-- 'testlinerlaw04.TrimRests', WHERE WHAT IT READS IS OF BULK AT MOST 1048576: true; the input reads as it did. -/
def trimRestsUptoRow : OpenClaim := { program := "ytkhicfkfdmldkaa", sum := "593bef6b39cbfd99b467c53c260551d60338e62846808988dd14f85d8c919d9a", func := "testliner/testlinerlaw04.TrimRests", spec := "trimRests", unfollowed := true, recurses := true, apart := false, narrowed := true }
def TrimRestsUptoSaid : Prop := trimRestsUptoRow.holds Try.pinned (OpenSpec.upto trimRestsSpec)

/-- 'testlinerlaw04.TrimBroken', WHERE WHAT IT READS IS OF BULK AT MOST 1048576: true; the input reads as it did. -/
def trimBrokenUptoRow : OpenClaim := { program := "ytkhicfkfdmldkaa", sum := "593bef6b39cbfd99b467c53c260551d60338e62846808988dd14f85d8c919d9a", func := "testliner/testlinerlaw04.TrimBroken", spec := "trimBroken", unfollowed := true, recurses := true, apart := false, narrowed := true }
def TrimBrokenUptoSaid : Prop := trimBrokenUptoRow.holds Try.pinned (OpenSpec.upto trimBrokenSpec)

end Rows
end Go.Proofs.Ytkhicfkfdmldkaa
