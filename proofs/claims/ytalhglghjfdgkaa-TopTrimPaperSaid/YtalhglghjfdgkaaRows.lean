/-
  No cell of these rows narrows 'for every input' (looked for: loops, veiled, ifaces, maps, wideKeys, modest, calm, conditions, laid).
  DERIVED. THE GIVEN ROWS OF THIS SEAT. 3 by the template 'for every input the law returns true; each argument reads behind the call as it read before'; 0 by the template 'total and deterministic' (their statements: YtalhglghjfdgkaaTotals.lean).
  GIVEN WITH THE SEED: the statements are not yours to turn. If you find one false, say at which input.
  Laid BY PROGRAM, IN A SANDBOX (cutbox-rows.mjs): the forced cells as the released guide's own fill.sh prints them over the translation b0b515e1b768c768… (all of the seat's roots in one cut). By AI agents, Wed Nov 11 2026. No macro, syntax, notation, axiom, sorry.
-/
import Derived.Test.YtalhglghjfdgkaaChecked
import GoSem.Claim
import GoSem.ClaimJoined
import GoSem.ClaimMapViews
import Derived.JoinedTies
import Derived.KernelRfl
namespace Go.Proofs.Ytalhglghjfdgkaa
/- THE CELL 'sum', in the pinned program and in every row, IS THE sha256 OF THE DUMP (.gsa) THAT YtalhglghjfdgkaaProg.lean LOADS. Nothing in Lean hashes anything: it is a label: what it is worth is what the hold of that sum in a sandbox is worth. -/
noncomputable def Try.pinned : Pinned := { name := "ytalhglghjfdgkaa", sum := "b0b515e1b768c768595dab6cbcef6cdcfe441f49cce7b0d8bda28e204b928c03", checked := Try.checked }
namespace Rows
def none {H : Type} : Left H := { results := [], args := [] }

/-- 'testlinertop.TopLorryRolls': WHATEVER THE INPUT: true; the input reads as it did. -/
def topLorryRollsSpec : ChangeSpec := { name := "topLorryRolls", fn := fun _ => fun
  | [d1, d2, d3] => { results := [.lit (.bool true)], args := [d1, d2, d3] }
  | _ => none }
def topLorryRollsRow : OpenClaim := { program := "ytalhglghjfdgkaa", sum := "b0b515e1b768c768595dab6cbcef6cdcfe441f49cce7b0d8bda28e204b928c03", func := "testliner/testlinertop.TopLorryRolls", spec := "topLorryRolls", unfollowed := true, recurses := true, plainKeys := false, apart := false }
def TopLorryRollsSaid : Prop := topLorryRollsRow.holds Try.pinned (OpenSpec.ofChange topLorryRollsSpec)

/-- ITS FALSE NEIGHBOUR: 'it returns false'. Refute it at one input. -/
def topLorryRollsWrong : ChangeSpec := { name := "topLorryRolls", fn := fun _ => fun
  | [d1, d2, d3] => { results := [.lit (.bool false)], args := [d1, d2, d3] }
  | _ => none }
def TopLorryRollsWrongFalsely : Prop := topLorryRollsRow.holds Try.pinned (OpenSpec.ofChange topLorryRollsWrong)

/-- 'testlinertop.TopTrimPaper': WHATEVER THE INPUT: true; the input reads as it did. -/
def topTrimPaperSpec : ChangeSpec := { name := "topTrimPaper", fn := fun _ => fun
  | [d1, d2] => { results := [.lit (.bool true)], args := [d1, d2] }
  | _ => none }
def topTrimPaperRow : OpenClaim := { program := "ytalhglghjfdgkaa", sum := "b0b515e1b768c768595dab6cbcef6cdcfe441f49cce7b0d8bda28e204b928c03", func := "testliner/testlinertop.TopTrimPaper", spec := "topTrimPaper", unfollowed := true, recurses := true, plainKeys := false, apart := false }
def TopTrimPaperSaid : Prop := topTrimPaperRow.holds Try.pinned (OpenSpec.ofChange topTrimPaperSpec)

/-- ITS FALSE NEIGHBOUR: 'it returns false'. Refute it at one input. -/
def topTrimPaperWrong : ChangeSpec := { name := "topTrimPaper", fn := fun _ => fun
  | [d1, d2] => { results := [.lit (.bool false)], args := [d1, d2] }
  | _ => none }
def TopTrimPaperWrongFalsely : Prop := topTrimPaperRow.holds Try.pinned (OpenSpec.ofChange topTrimPaperWrong)

/-- 'testlinertop.TopTrimArea': WHATEVER THE INPUT: true; the input reads as it did. -/
def topTrimAreaSpec : ChangeSpec := { name := "topTrimArea", fn := fun _ => fun
  | [d1, d2] => { results := [.lit (.bool true)], args := [d1, d2] }
  | _ => none }
def topTrimAreaRow : OpenClaim := { program := "ytalhglghjfdgkaa", sum := "b0b515e1b768c768595dab6cbcef6cdcfe441f49cce7b0d8bda28e204b928c03", func := "testliner/testlinertop.TopTrimArea", spec := "topTrimArea", unfollowed := true, recurses := true, plainKeys := false, apart := false }
def TopTrimAreaSaid : Prop := topTrimAreaRow.holds Try.pinned (OpenSpec.ofChange topTrimAreaSpec)

/-- ITS FALSE NEIGHBOUR: 'it returns false'. Refute it at one input. -/
def topTrimAreaWrong : ChangeSpec := { name := "topTrimArea", fn := fun _ => fun
  | [d1, d2] => { results := [.lit (.bool false)], args := [d1, d2] }
  | _ => none }
def TopTrimAreaWrongFalsely : Prop := topTrimAreaRow.holds Try.pinned (OpenSpec.ofChange topTrimAreaWrong)

/- THE SECOND FORM. 'bulk': how many values and letters a reading holds, each counted each time it is reached (what is shared counts as often as it is met; a slice's spare places count too). A statement '..UptoSaid' is the law's where the arguments, and the package variables that the reading takes, are together of bulk at most 1048576: NARROWER than '..Said'. Prove '..Said' where nothing that the law and all that it calls make is longer than what came in: it says more and counts as full. Else prove '..UptoSaid'. A law counts once. -/
mutual
def uptoBulk {H : Type} : DataW H → Nat
  | .lit (.string bytes) => bytes.length + 1
  | .lit _ => 1
  | .nil => 1
  | .ptr d => uptoBulk d + 1
  | .slice elems spare => uptoBulkAll elems + uptoBulkAll spare + 1
  | .agg parts => uptoBulkAll parts + 1
  | .iface _ d => uptoBulk d + 1
  | .map entries => uptoBulkEntries entries + 1
  | .held _ => 1
def uptoBulkAll {H : Type} : List (DataW H) → Nat
  | [] => 0
  | d :: r => uptoBulk d + uptoBulkAll r
def uptoBulkEntries {H : Type} : List (Lit × DataW H) → Nat
  | [] => 0
  | x :: r => uptoBulkEntry x + uptoBulkEntries r
def uptoBulkEntry {H : Type} : Lit × DataW H → Nat
  | (.string bytes, d) => bytes.length + uptoBulk d + 1
  | (_, d) => uptoBulk d + 1
 end
def uptoSmall : (H : Type) → List (DataW H) → Bool := fun _ ds => decide (uptoBulkAll ds ≤ 1048576)
def OpenSpec.upto (s : _root_.Go.ChangeSpec) : _root_.Go.OpenSpec := { _root_.Go.OpenSpec.ofChange s with cond := some uptoSmall }

/-- 'testlinertop.TopLorryRolls', WHERE WHAT IT READS IS OF BULK AT MOST 1048576: true; the input reads as it did. -/
def topLorryRollsUptoRow : OpenClaim := { program := "ytalhglghjfdgkaa", sum := "b0b515e1b768c768595dab6cbcef6cdcfe441f49cce7b0d8bda28e204b928c03", func := "testliner/testlinertop.TopLorryRolls", spec := "topLorryRolls", unfollowed := true, recurses := true, plainKeys := false, apart := false, narrowed := true }
def TopLorryRollsUptoSaid : Prop := topLorryRollsUptoRow.holds Try.pinned (OpenSpec.upto topLorryRollsSpec)

/-- 'testlinertop.TopTrimPaper', WHERE WHAT IT READS IS OF BULK AT MOST 1048576: true; the input reads as it did. -/
def topTrimPaperUptoRow : OpenClaim := { program := "ytalhglghjfdgkaa", sum := "b0b515e1b768c768595dab6cbcef6cdcfe441f49cce7b0d8bda28e204b928c03", func := "testliner/testlinertop.TopTrimPaper", spec := "topTrimPaper", unfollowed := true, recurses := true, plainKeys := false, apart := false, narrowed := true }
def TopTrimPaperUptoSaid : Prop := topTrimPaperUptoRow.holds Try.pinned (OpenSpec.upto topTrimPaperSpec)

/-- 'testlinertop.TopTrimArea', WHERE WHAT IT READS IS OF BULK AT MOST 1048576: true; the input reads as it did. -/
def topTrimAreaUptoRow : OpenClaim := { program := "ytalhglghjfdgkaa", sum := "b0b515e1b768c768595dab6cbcef6cdcfe441f49cce7b0d8bda28e204b928c03", func := "testliner/testlinertop.TopTrimArea", spec := "topTrimArea", unfollowed := true, recurses := true, plainKeys := false, apart := false, narrowed := true }
def TopTrimAreaUptoSaid : Prop := topTrimAreaUptoRow.holds Try.pinned (OpenSpec.upto topTrimAreaSpec)

end Rows
end Go.Proofs.Ytalhglghjfdgkaa
