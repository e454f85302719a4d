/-
  No cell of these rows narrows 'for every input' (looked for: loops, veiled, ifaces, maps, wideKeys, modest, calm, conditions, laid).
  DERIVED. THE GIVEN ROWS OF THIS SEAT. 11 by the template 'for every input the law returns true; each argument reads behind the call as it read before'; 0 by the template 'total and deterministic' (their statements: YtecgononbfgigaaTotals.lean).
  GIVEN WITH THE SEED: the statements are not yours to turn. If you find one false, say at which input.
  Laid BY PROGRAM, IN A SANDBOX (cutbox-rows.mjs): the forced cells as the released guide's own fill.sh prints them over the translation e7864a7043be6c02… (all of the seat's roots in one cut). By AI agents, Wed Nov 11 2026. No macro, syntax, notation, axiom, sorry.
-/
import Derived.Test.YtecgononbfgigaaChecked
import GoSem.Claim
import GoSem.ClaimJoined
import GoSem.ClaimMapViews
import Derived.JoinedTies
import Derived.KernelRfl
namespace Go.Proofs.Ytecgononbfgigaa
/- THE CELL 'sum', in the pinned program and in every row, IS THE sha256 OF THE DUMP (.gsa) THAT YtecgononbfgigaaProg.lean LOADS. Nothing in Lean hashes anything: it is a label: what it is worth is what the hold of that sum in a sandbox is worth. -/
noncomputable def Try.pinned : Pinned := { name := "ytecgononbfgigaa", sum := "e7864a7043be6c02167cc13703fe2cb9a4e77559b9c560fd05b5bbf17d4c84f7", checked := Try.checked }
namespace Rows
def none {H : Type} : Left H := { results := [], args := [] }

/-- 'testlinerlaw08.GlueExplains': WHATEVER THE INPUT: true; the input reads as it did. -/
def glueExplainsSpec : ChangeSpec := { name := "glueExplains", fn := fun _ => fun
  | [d1, d2] => { results := [.lit (.bool true)], args := [d1, d2] }
  | _ => none }
def glueExplainsRow : OpenClaim := { program := "ytecgononbfgigaa", sum := "e7864a7043be6c02167cc13703fe2cb9a4e77559b9c560fd05b5bbf17d4c84f7", func := "testliner/testlinerlaw08.GlueExplains", spec := "glueExplains", unfollowed := true, recurses := true, apart := false }
def GlueExplainsSaid : Prop := glueExplainsRow.holds Try.pinned (OpenSpec.ofChange glueExplainsSpec)

/-- ITS FALSE NEIGHBOUR: 'it returns false'. Refute it at one input. -/
def glueExplainsWrong : ChangeSpec := { name := "glueExplains", fn := fun _ => fun
  | [d1, d2] => { results := [.lit (.bool false)], args := [d1, d2] }
  | _ => none }
def GlueExplainsWrongFalsely : Prop := glueExplainsRow.holds Try.pinned (OpenSpec.ofChange glueExplainsWrong)

/-- 'testlinerlaw08.GlueLooks': WHATEVER THE INPUT: true; the input reads as it did. -/
def glueLooksSpec : ChangeSpec := { name := "glueLooks", fn := fun _ => fun
  | [d1, d2, d3] => { results := [.lit (.bool true)], args := [d1, d2, d3] }
  | _ => none }
def glueLooksRow : OpenClaim := { program := "ytecgononbfgigaa", sum := "e7864a7043be6c02167cc13703fe2cb9a4e77559b9c560fd05b5bbf17d4c84f7", func := "testliner/testlinerlaw08.GlueLooks", spec := "glueLooks", unfollowed := true, recurses := true, apart := false }
def GlueLooksSaid : Prop := glueLooksRow.holds Try.pinned (OpenSpec.ofChange glueLooksSpec)

/-- ITS FALSE NEIGHBOUR: 'it returns false'. Refute it at one input. -/
def glueLooksWrong : ChangeSpec := { name := "glueLooks", fn := fun _ => fun
  | [d1, d2, d3] => { results := [.lit (.bool false)], args := [d1, d2, d3] }
  | _ => none }
def GlueLooksWrongFalsely : Prop := glueLooksRow.holds Try.pinned (OpenSpec.ofChange glueLooksWrong)

/-- 'testlinerlaw08.GlueAparts': WHATEVER THE INPUT: true; the input reads as it did. -/
def glueApartsSpec : ChangeSpec := { name := "glueAparts", fn := fun _ => fun
  | [d1, d2, d3] => { results := [.lit (.bool true)], args := [d1, d2, d3] }
  | _ => none }
def glueApartsRow : OpenClaim := { program := "ytecgononbfgigaa", sum := "e7864a7043be6c02167cc13703fe2cb9a4e77559b9c560fd05b5bbf17d4c84f7", func := "testliner/testlinerlaw08.GlueAparts", spec := "glueAparts", unfollowed := true, recurses := true, apart := false }
def GlueApartsSaid : Prop := glueApartsRow.holds Try.pinned (OpenSpec.ofChange glueApartsSpec)

/-- ITS FALSE NEIGHBOUR: 'it returns false'. Refute it at one input. -/
def glueApartsWrong : ChangeSpec := { name := "glueAparts", fn := fun _ => fun
  | [d1, d2, d3] => { results := [.lit (.bool false)], args := [d1, d2, d3] }
  | _ => none }
def GlueApartsWrongFalsely : Prop := glueApartsRow.holds Try.pinned (OpenSpec.ofChange glueApartsWrong)

/-- 'testlinerlaw08.GlueAlikes': WHATEVER THE INPUT: true; the input reads as it did. -/
def glueAlikesSpec : ChangeSpec := { name := "glueAlikes", fn := fun _ => fun
  | [d1, d2, d3] => { results := [.lit (.bool true)], args := [d1, d2, d3] }
  | _ => none }
def glueAlikesRow : OpenClaim := { program := "ytecgononbfgigaa", sum := "e7864a7043be6c02167cc13703fe2cb9a4e77559b9c560fd05b5bbf17d4c84f7", func := "testliner/testlinerlaw08.GlueAlikes", spec := "glueAlikes", unfollowed := true, recurses := true, apart := false }
def GlueAlikesSaid : Prop := glueAlikesRow.holds Try.pinned (OpenSpec.ofChange glueAlikesSpec)

/-- ITS FALSE NEIGHBOUR: 'it returns false'. Refute it at one input. -/
def glueAlikesWrong : ChangeSpec := { name := "glueAlikes", fn := fun _ => fun
  | [d1, d2, d3] => { results := [.lit (.bool false)], args := [d1, d2, d3] }
  | _ => none }
def GlueAlikesWrongFalsely : Prop := glueAlikesRow.holds Try.pinned (OpenSpec.ofChange glueAlikesWrong)

/-- 'testlinerlaw08.GlueOpens': WHATEVER THE INPUT: true; the input reads as it did. -/
def glueOpensSpec : ChangeSpec := { name := "glueOpens", fn := fun _ => fun
  | [d1, d2] => { results := [.lit (.bool true)], args := [d1, d2] }
  | _ => none }
def glueOpensRow : OpenClaim := { program := "ytecgononbfgigaa", sum := "e7864a7043be6c02167cc13703fe2cb9a4e77559b9c560fd05b5bbf17d4c84f7", func := "testliner/testlinerlaw08.GlueOpens", spec := "glueOpens", unfollowed := true, recurses := true, apart := false }
def GlueOpensSaid : Prop := glueOpensRow.holds Try.pinned (OpenSpec.ofChange glueOpensSpec)

/-- ITS FALSE NEIGHBOUR: 'it returns false'. Refute it at one input. -/
def glueOpensWrong : ChangeSpec := { name := "glueOpens", fn := fun _ => fun
  | [d1, d2] => { results := [.lit (.bool false)], args := [d1, d2] }
  | _ => none }
def GlueOpensWrongFalsely : Prop := glueOpensRow.holds Try.pinned (OpenSpec.ofChange glueOpensWrong)

/-- 'testlinerlaw08.GlueTruth': WHATEVER THE INPUT: true; the input reads as it did. -/
def glueTruthSpec : ChangeSpec := { name := "glueTruth", fn := fun _ => fun
  | [d1, d2, d3] => { results := [.lit (.bool true)], args := [d1, d2, d3] }
  | _ => none }
def glueTruthRow : OpenClaim := { program := "ytecgononbfgigaa", sum := "e7864a7043be6c02167cc13703fe2cb9a4e77559b9c560fd05b5bbf17d4c84f7", func := "testliner/testlinerlaw08.GlueTruth", spec := "glueTruth", unfollowed := true, recurses := true, apart := false }
def GlueTruthSaid : Prop := glueTruthRow.holds Try.pinned (OpenSpec.ofChange glueTruthSpec)

/-- ITS FALSE NEIGHBOUR: 'it returns false'. Refute it at one input. -/
def glueTruthWrong : ChangeSpec := { name := "glueTruth", fn := fun _ => fun
  | [d1, d2, d3] => { results := [.lit (.bool false)], args := [d1, d2, d3] }
  | _ => none }
def GlueTruthWrongFalsely : Prop := glueTruthRow.holds Try.pinned (OpenSpec.ofChange glueTruthWrong)

/-- 'testlinerlaw08.GlueNext': WHATEVER THE INPUT: true; the input reads as it did. -/
def glueNextSpec : ChangeSpec := { name := "glueNext", fn := fun _ => fun
  | [d1, d2, d3] => { results := [.lit (.bool true)], args := [d1, d2, d3] }
  | _ => none }
def glueNextRow : OpenClaim := { program := "ytecgononbfgigaa", sum := "e7864a7043be6c02167cc13703fe2cb9a4e77559b9c560fd05b5bbf17d4c84f7", func := "testliner/testlinerlaw08.GlueNext", spec := "glueNext", unfollowed := true, recurses := true, apart := false }
def GlueNextSaid : Prop := glueNextRow.holds Try.pinned (OpenSpec.ofChange glueNextSpec)

/-- ITS FALSE NEIGHBOUR: 'it returns false'. Refute it at one input. -/
def glueNextWrong : ChangeSpec := { name := "glueNext", fn := fun _ => fun
  | [d1, d2, d3] => { results := [.lit (.bool false)], args := [d1, d2, d3] }
  | _ => none }
def GlueNextWrongFalsely : Prop := glueNextRow.holds Try.pinned (OpenSpec.ofChange glueNextWrong)

/-- 'testlinerlaw08.GlueGrouped': WHATEVER THE INPUT: true; the input reads as it did. -/
def glueGroupedSpec : ChangeSpec := { name := "glueGrouped", fn := fun _ => fun
  | [d1, d2, d3] => { results := [.lit (.bool true)], args := [d1, d2, d3] }
  | _ => none }
def glueGroupedRow : OpenClaim := { program := "ytecgononbfgigaa", sum := "e7864a7043be6c02167cc13703fe2cb9a4e77559b9c560fd05b5bbf17d4c84f7", func := "testliner/testlinerlaw08.GlueGrouped", spec := "glueGrouped", unfollowed := true, recurses := true, apart := false }
def GlueGroupedSaid : Prop := glueGroupedRow.holds Try.pinned (OpenSpec.ofChange glueGroupedSpec)

/-- ITS FALSE NEIGHBOUR: 'it returns false'. Refute it at one input. -/
def glueGroupedWrong : ChangeSpec := { name := "glueGrouped", fn := fun _ => fun
  | [d1, d2, d3] => { results := [.lit (.bool false)], args := [d1, d2, d3] }
  | _ => none }
def GlueGroupedWrongFalsely : Prop := glueGroupedRow.holds Try.pinned (OpenSpec.ofChange glueGroupedWrong)

/-- 'testlinerlaw08.GlueGiven': WHATEVER THE INPUT: true; the input reads as it did. -/
def glueGivenSpec : ChangeSpec := { name := "glueGiven", fn := fun _ => fun
  | [d1, d2] => { results := [.lit (.bool true)], args := [d1, d2] }
  | _ => none }
def glueGivenRow : OpenClaim := { program := "ytecgononbfgigaa", sum := "e7864a7043be6c02167cc13703fe2cb9a4e77559b9c560fd05b5bbf17d4c84f7", func := "testliner/testlinerlaw08.GlueGiven", spec := "glueGiven", unfollowed := true, recurses := true, apart := false }
def GlueGivenSaid : Prop := glueGivenRow.holds Try.pinned (OpenSpec.ofChange glueGivenSpec)

/-- ITS FALSE NEIGHBOUR: 'it returns false'. Refute it at one input. -/
def glueGivenWrong : ChangeSpec := { name := "glueGiven", fn := fun _ => fun
  | [d1, d2] => { results := [.lit (.bool false)], args := [d1, d2] }
  | _ => none }
def GlueGivenWrongFalsely : Prop := glueGivenRow.holds Try.pinned (OpenSpec.ofChange glueGivenWrong)

/-- 'testlinerlaw08.GluePressed': WHATEVER THE INPUT: true; the input reads as it did. -/
def gluePressedSpec : ChangeSpec := { name := "gluePressed", fn := fun _ => fun
  | [d1, d2] => { results := [.lit (.bool true)], args := [d1, d2] }
  | _ => none }
def gluePressedRow : OpenClaim := { program := "ytecgononbfgigaa", sum := "e7864a7043be6c02167cc13703fe2cb9a4e77559b9c560fd05b5bbf17d4c84f7", func := "testliner/testlinerlaw08.GluePressed", spec := "gluePressed", unfollowed := true, recurses := true, apart := false }
def GluePressedSaid : Prop := gluePressedRow.holds Try.pinned (OpenSpec.ofChange gluePressedSpec)

/-- ITS FALSE NEIGHBOUR: 'it returns false'. Refute it at one input. -/
def gluePressedWrong : ChangeSpec := { name := "gluePressed", fn := fun _ => fun
  | [d1, d2] => { results := [.lit (.bool false)], args := [d1, d2] }
  | _ => none }
def GluePressedWrongFalsely : Prop := gluePressedRow.holds Try.pinned (OpenSpec.ofChange gluePressedWrong)

/-- 'testlinerlaw08.GlueBoxes': WHATEVER THE INPUT: true; the input reads as it did. -/
def glueBoxesSpec : ChangeSpec := { name := "glueBoxes", fn := fun _ => fun
  | [d1, d2, d3] => { results := [.lit (.bool true)], args := [d1, d2, d3] }
  | _ => none }
def glueBoxesRow : OpenClaim := { program := "ytecgononbfgigaa", sum := "e7864a7043be6c02167cc13703fe2cb9a4e77559b9c560fd05b5bbf17d4c84f7", func := "testliner/testlinerlaw08.GlueBoxes", spec := "glueBoxes", unfollowed := true, recurses := true, apart := false }
def GlueBoxesSaid : Prop := glueBoxesRow.holds Try.pinned (OpenSpec.ofChange glueBoxesSpec)

/-- ITS FALSE NEIGHBOUR: 'it returns false'. Refute it at one input. -/
def glueBoxesWrong : ChangeSpec := { name := "glueBoxes", fn := fun _ => fun
  | [d1, d2, d3] => { results := [.lit (.bool false)], args := [d1, d2, d3] }
  | _ => none }
def GlueBoxesWrongFalsely : Prop := glueBoxesRow.holds Try.pinned (OpenSpec.ofChange glueBoxesWrong)

/- THE SECOND FORM. 'bulk': how many values and letters a reading holds, each counted each time it is reached (what is shared counts as often as it is met; a slice's spare places count too). A statement '..UptoSaid' is the law's where the arguments, and the package variables that the reading takes, are together of bulk at most 1048576: NARROWER than '..Said'. Prove '..Said' where nothing that the law and all that it calls make is longer than what came in: it says more and counts as full. Else prove '..UptoSaid'. A law counts once. -/
mutual
def uptoBulk {H : Type} : DataW H → Nat
  | .lit (.string bytes) => bytes.length + 1
  | .lit _ => 1
  | .nil => 1
  | .ptr d => uptoBulk d + 1
  | .slice elems spare => uptoBulkAll elems + uptoBulkAll spare + 1
  | .agg parts => uptoBulkAll parts + 1
  | .iface _ d => uptoBulk d + 1
  | .map entries => uptoBulkEntries entries + 1
  | .held _ => 1
def uptoBulkAll {H : Type} : List (DataW H) → Nat
  | [] => 0
  | d :: r => uptoBulk d + uptoBulkAll r
def uptoBulkEntries {H : Type} : List (Lit × DataW H) → Nat
  | [] => 0
  | x :: r => uptoBulkEntry x + uptoBulkEntries r
def uptoBulkEntry {H : Type} : Lit × DataW H → Nat
  | (.string bytes, d) => bytes.length + uptoBulk d + 1
  | (_, d) => uptoBulk d + 1
 end
def uptoSmall : (H : Type) → List (DataW H) → Bool := fun _ ds => decide (uptoBulkAll ds ≤ 1048576)
def OpenSpec.upto (s : _root_.Go.ChangeSpec) : _root_.Go.OpenSpec := { _root_.Go.OpenSpec.ofChange s with cond := some uptoSmall }

/-- 'testlinerlaw08.GlueExplains', WHERE WHAT IT READS IS OF BULK AT MOST 1048576: true; the input reads as it did. -/
def glueExplainsUptoRow : OpenClaim := { program := "ytecgononbfgigaa", sum := "e7864a7043be6c02167cc13703fe2cb9a4e77559b9c560fd05b5bbf17d4c84f7", func := "testliner/testlinerlaw08.GlueExplains", spec := "glueExplains", unfollowed := true, recurses := true, apart := false, narrowed := true }
def GlueExplainsUptoSaid : Prop := glueExplainsUptoRow.holds Try.pinned (OpenSpec.upto glueExplainsSpec)

/-- 'testlinerlaw08.GlueLooks', WHERE WHAT IT READS IS OF BULK AT MOST 1048576: true; the input reads as it did. -/
def glueLooksUptoRow : OpenClaim := { program := "ytecgononbfgigaa", sum := "e7864a7043be6c02167cc13703fe2cb9a4e77559b9c560fd05b5bbf17d4c84f7", func := "testliner/testlinerlaw08.GlueLooks", spec := "glueLooks", unfollowed := true, recurses := true, apart := false, narrowed := true }
def GlueLooksUptoSaid : Prop := glueLooksUptoRow.holds Try.pinned (OpenSpec.upto glueLooksSpec)

/-- 'testlinerlaw08.GlueAparts', WHERE WHAT IT READS IS OF BULK AT MOST 1048576: true; the input reads as it did. -/
def glueApartsUptoRow : OpenClaim := { program := "ytecgononbfgigaa", sum := "e7864a7043be6c02167cc13703fe2cb9a4e77559b9c560fd05b5bbf17d4c84f7", func := "testliner/testlinerlaw08.GlueAparts", spec := "glueAparts", unfollowed := true, recurses := true, apart := false, narrowed := true }
def GlueApartsUptoSaid : Prop := glueApartsUptoRow.holds Try.pinned (OpenSpec.upto glueApartsSpec)

/-- 'testlinerlaw08.GlueAlikes', WHERE WHAT IT READS IS OF BULK AT MOST 1048576: true; the input reads as it did. -/
def glueAlikesUptoRow : OpenClaim := { program := "ytecgononbfgigaa", sum := "e7864a7043be6c02167cc13703fe2cb9a4e77559b9c560fd05b5bbf17d4c84f7", func := "testliner/testlinerlaw08.GlueAlikes", spec := "glueAlikes", unfollowed := true, recurses := true, apart := false, narrowed := true }
def GlueAlikesUptoSaid : Prop := glueAlikesUptoRow.holds Try.pinned (OpenSpec.upto glueAlikesSpec)

/-- 'testlinerlaw08.GlueOpens', WHERE WHAT IT READS IS OF BULK AT MOST 1048576: true; the input reads as it did. -/
def glueOpensUptoRow : OpenClaim := { program := "ytecgononbfgigaa", sum := "e7864a7043be6c02167cc13703fe2cb9a4e77559b9c560fd05b5bbf17d4c84f7", func := "testliner/testlinerlaw08.GlueOpens", spec := "glueOpens", unfollowed := true, recurses := true, apart := false, narrowed := true }
def GlueOpensUptoSaid : Prop := glueOpensUptoRow.holds Try.pinned (OpenSpec.upto glueOpensSpec)

/-- 'testlinerlaw08.GlueTruth', WHERE WHAT IT READS IS OF BULK AT MOST 1048576: true; the input reads as it did. -/
def glueTruthUptoRow : OpenClaim := { program := "ytecgononbfgigaa", sum := "e7864a7043be6c02167cc13703fe2cb9a4e77559b9c560fd05b5bbf17d4c84f7", func := "testliner/testlinerlaw08.GlueTruth", spec := "glueTruth", unfollowed := true, recurses := true, apart := false, narrowed := true }
def GlueTruthUptoSaid : Prop := glueTruthUptoRow.holds Try.pinned (OpenSpec.upto glueTruthSpec)

/-- 'testlinerlaw08.GlueNext', WHERE WHAT IT READS IS OF BULK AT MOST 1048576: true; the input reads as it did. -/
def glueNextUptoRow : OpenClaim := { program := "ytecgononbfgigaa", sum := "e7864a7043be6c02167cc13703fe2cb9a4e77559b9c560fd05b5bbf17d4c84f7", func := "testliner/testlinerlaw08.GlueNext", spec := "glueNext", unfollowed := true, recurses := true, apart := false, narrowed := true }
def GlueNextUptoSaid : Prop := glueNextUptoRow.holds Try.pinned (OpenSpec.upto glueNextSpec)

/-- 'testlinerlaw08.GlueGrouped', WHERE WHAT IT READS IS OF BULK AT MOST 1048576: true; the input reads as it did. -/
def glueGroupedUptoRow : OpenClaim := { program := "ytecgononbfgigaa", sum := "e7864a7043be6c02167cc13703fe2cb9a4e77559b9c560fd05b5bbf17d4c84f7", func := "testliner/testlinerlaw08.GlueGrouped", spec := "glueGrouped", unfollowed := true, recurses := true, apart := false, narrowed := true }
def GlueGroupedUptoSaid : Prop := glueGroupedUptoRow.holds Try.pinned (OpenSpec.upto glueGroupedSpec)

/-- 'testlinerlaw08.GlueGiven', WHERE WHAT IT READS IS OF BULK AT MOST 1048576: true; the input reads as it did. -/
def glueGivenUptoRow : OpenClaim := { program := "ytecgononbfgigaa", sum := "e7864a7043be6c02167cc13703fe2cb9a4e77559b9c560fd05b5bbf17d4c84f7", func := "testliner/testlinerlaw08.GlueGiven", spec := "glueGiven", unfollowed := true, recurses := true, apart := false, narrowed := true }
def GlueGivenUptoSaid : Prop := glueGivenUptoRow.holds Try.pinned (OpenSpec.upto glueGivenSpec)

/-- 'testlinerlaw08.GluePressed', WHERE WHAT IT READS IS OF BULK AT MOST 1048576: true; the input reads as it did. -/
def gluePressedUptoRow : OpenClaim := { program := "ytecgononbfgigaa", sum := "e7864a7043be6c02167cc13703fe2cb9a4e77559b9c560fd05b5bbf17d4c84f7", func := "testliner/testlinerlaw08.GluePressed", spec := "gluePressed", unfollowed := true, recurses := true, apart := false, narrowed := true }
def GluePressedUptoSaid : Prop := gluePressedUptoRow.holds Try.pinned (OpenSpec.upto gluePressedSpec)

/-- 'testlinerlaw08.GlueBoxes', WHERE WHAT IT READS IS OF BULK AT MOST 1048576: true; the input reads as it did. -/
def glueBoxesUptoRow : OpenClaim := { program := "ytecgononbfgigaa", sum := "e7864a7043be6c02167cc13703fe2cb9a4e77559b9c560fd05b5bbf17d4c84f7", func := "testliner/testlinerlaw08.GlueBoxes", spec := "glueBoxes", unfollowed := true, recurses := true, apart := false, narrowed := true }
def GlueBoxesUptoSaid : Prop := glueBoxesUptoRow.holds Try.pinned (OpenSpec.upto glueBoxesSpec)

end Rows
end Go.Proofs.Ytecgononbfgigaa
