/-
  No cell of these rows narrows 'for every input' (looked for: loops, veiled, ifaces, maps, wideKeys, modest, calm, conditions, laid).
  DERIVED. THE GIVEN ROWS OF THIS SEAT. 3 by the template 'for every input the law returns true; each argument reads behind the call as it read before'; 0 by the template 'total and deterministic' (their statements: YtnbgonichmcfaaaTotals.lean).
  GIVEN WITH THE SEED: the statements are not yours to turn. If you find one false, say at which input.
  Laid BY PROGRAM, IN A SANDBOX (cutbox-rows.mjs): the forced cells as the released guide's own fill.sh prints them over the translation 5fc2395688db9ae6… (all of the seat's roots in one cut). By AI agents, Wed Nov 11 2026. No macro, syntax, notation, axiom, sorry.
-/
import Derived.Test.YtnbgonichmcfaaaChecked
import GoSem.Claim
import GoSem.ClaimJoined
import GoSem.ClaimMapViews
import Derived.JoinedTies
import Derived.KernelRfl
namespace Go.Proofs.Ytnbgonichmcfaaa
/- THE CELL 'sum', in the pinned program and in every row, IS THE sha256 OF THE DUMP (.gsa) THAT YtnbgonichmcfaaaProg.lean LOADS. Nothing in Lean hashes anything: it is a label: what it is worth is what the hold of that sum in a sandbox is worth. -/
noncomputable def Try.pinned : Pinned := { name := "ytnbgonichmcfaaa", sum := "5fc2395688db9ae67ebe15f7c42262ed1b5624fe6217f8272a1669b262d6fb49", checked := Try.checked }
namespace Rows
def none {H : Type} : Left H := { results := [], args := [] }

/-- 'testlinertop.TopBoardCloses': WHATEVER THE INPUT: true; the input reads as it did. -/
def topBoardClosesSpec : ChangeSpec := { name := "topBoardCloses", fn := fun _ => fun
  | [d1, d2, d3] => { results := [.lit (.bool true)], args := [d1, d2, d3] }
  | _ => none }
def topBoardClosesRow : OpenClaim := { program := "ytnbgonichmcfaaa", sum := "5fc2395688db9ae67ebe15f7c42262ed1b5624fe6217f8272a1669b262d6fb49", func := "testliner/testlinertop.TopBoardCloses", spec := "topBoardCloses", unfollowed := true, recurses := true, apart := false }
def TopBoardClosesSaid : Prop := topBoardClosesRow.holds Try.pinned (OpenSpec.ofChange topBoardClosesSpec)

/-- ITS FALSE NEIGHBOUR: 'it returns false'. Refute it at one input. -/
def topBoardClosesWrong : ChangeSpec := { name := "topBoardCloses", fn := fun _ => fun
  | [d1, d2, d3] => { results := [.lit (.bool false)], args := [d1, d2, d3] }
  | _ => none }
def TopBoardClosesWrongFalsely : Prop := topBoardClosesRow.holds Try.pinned (OpenSpec.ofChange topBoardClosesWrong)

/-- 'testlinertop.TopPrintedBlank': WHATEVER THE INPUT: true; the input reads as it did. -/
def topPrintedBlankSpec : ChangeSpec := { name := "topPrintedBlank", fn := fun _ => fun
  | [d1, d2, d3] => { results := [.lit (.bool true)], args := [d1, d2, d3] }
  | _ => none }
def topPrintedBlankRow : OpenClaim := { program := "ytnbgonichmcfaaa", sum := "5fc2395688db9ae67ebe15f7c42262ed1b5624fe6217f8272a1669b262d6fb49", func := "testliner/testlinertop.TopPrintedBlank", spec := "topPrintedBlank", unfollowed := true, recurses := true, apart := false }
def TopPrintedBlankSaid : Prop := topPrintedBlankRow.holds Try.pinned (OpenSpec.ofChange topPrintedBlankSpec)

/-- ITS FALSE NEIGHBOUR: 'it returns false'. Refute it at one input. -/
def topPrintedBlankWrong : ChangeSpec := { name := "topPrintedBlank", fn := fun _ => fun
  | [d1, d2, d3] => { results := [.lit (.bool false)], args := [d1, d2, d3] }
  | _ => none }
def TopPrintedBlankWrongFalsely : Prop := topPrintedBlankRow.holds Try.pinned (OpenSpec.ofChange topPrintedBlankWrong)

/-- 'testlinertop.TopTrimArea': WHATEVER THE INPUT: true; the input reads as it did. -/
def topTrimAreaSpec : ChangeSpec := { name := "topTrimArea", fn := fun _ => fun
  | [d1, d2] => { results := [.lit (.bool true)], args := [d1, d2] }
  | _ => none }
def topTrimAreaRow : OpenClaim := { program := "ytnbgonichmcfaaa", sum := "5fc2395688db9ae67ebe15f7c42262ed1b5624fe6217f8272a1669b262d6fb49", func := "testliner/testlinertop.TopTrimArea", spec := "topTrimArea", unfollowed := true, recurses := true, apart := false }
def TopTrimAreaSaid : Prop := topTrimAreaRow.holds Try.pinned (OpenSpec.ofChange topTrimAreaSpec)

/-- ITS FALSE NEIGHBOUR: 'it returns false'. Refute it at one input. -/
def topTrimAreaWrong : ChangeSpec := { name := "topTrimArea", fn := fun _ => fun
  | [d1, d2] => { results := [.lit (.bool false)], args := [d1, d2] }
  | _ => none }
def TopTrimAreaWrongFalsely : Prop := topTrimAreaRow.holds Try.pinned (OpenSpec.ofChange topTrimAreaWrong)

/- THE SECOND FORM. 'bulk': how many values and letters a reading holds, each counted each time it is reached (what is shared counts as often as it is met; a slice's spare places count too). A statement '..UptoSaid' is the law's where the arguments, and the package variables that the reading takes, are together of bulk at most 1048576: NARROWER than '..Said'. Prove '..Said' where nothing that the law and all that it calls make is longer than what came in: it says more and counts as full. Else prove '..UptoSaid'. A law counts once. -/
mutual
def uptoBulk {H : Type} : DataW H → Nat
  | .lit (.string bytes) => bytes.length + 1
  | .lit _ => 1
  | .nil => 1
  | .ptr d => uptoBulk d + 1
  | .slice elems spare => uptoBulkAll elems + uptoBulkAll spare + 1
  | .agg parts => uptoBulkAll parts + 1
  | .iface _ d => uptoBulk d + 1
  | .map entries => uptoBulkEntries entries + 1
  | .held _ => 1
def uptoBulkAll {H : Type} : List (DataW H) → Nat
  | [] => 0
  | d :: r => uptoBulk d + uptoBulkAll r
def uptoBulkEntries {H : Type} : List (Lit × DataW H) → Nat
  | [] => 0
  | x :: r => uptoBulkEntry x + uptoBulkEntries r
def uptoBulkEntry {H : Type} : Lit × DataW H → Nat
  | (.string bytes, d) => bytes.length + uptoBulk d + 1
  | (_, d) => uptoBulk d + 1
 end
def uptoSmall : (H : Type) → List (DataW H) → Bool := fun _ ds => decide (uptoBulkAll ds ≤ 1048576)
def OpenSpec.upto (s : _root_.Go.ChangeSpec) : _root_.Go.OpenSpec := { _root_.Go.OpenSpec.ofChange s with cond := some uptoSmall }

/-- 'testlinertop.TopBoardCloses', WHERE WHAT IT READS IS OF BULK AT MOST 1048576: true; the input reads as it did. -/
def topBoardClosesUptoRow : OpenClaim := { program := "ytnbgonichmcfaaa", sum := "5fc2395688db9ae67ebe15f7c42262ed1b5624fe6217f8272a1669b262d6fb49", func := "testliner/testlinertop.TopBoardCloses", spec := "topBoardCloses", unfollowed := true, recurses := true, apart := false, narrowed := true }
def TopBoardClosesUptoSaid : Prop := topBoardClosesUptoRow.holds Try.pinned (OpenSpec.upto topBoardClosesSpec)

/-- 'testlinertop.TopPrintedBlank', WHERE WHAT IT READS IS OF BULK AT MOST 1048576: true; the input reads as it did. -/
def topPrintedBlankUptoRow : OpenClaim := { program := "ytnbgonichmcfaaa", sum := "5fc2395688db9ae67ebe15f7c42262ed1b5624fe6217f8272a1669b262d6fb49", func := "testliner/testlinertop.TopPrintedBlank", spec := "topPrintedBlank", unfollowed := true, recurses := true, apart := false, narrowed := true }
def TopPrintedBlankUptoSaid : Prop := topPrintedBlankUptoRow.holds Try.pinned (OpenSpec.upto topPrintedBlankSpec)

/-- 'testlinertop.TopTrimArea', WHERE WHAT IT READS IS OF BULK AT MOST 1048576: true; the input reads as it did. -/
def topTrimAreaUptoRow : OpenClaim := { program := "ytnbgonichmcfaaa", sum := "5fc2395688db9ae67ebe15f7c42262ed1b5624fe6217f8272a1669b262d6fb49", func := "testliner/testlinertop.TopTrimArea", spec := "topTrimArea", unfollowed := true, recurses := true, apart := false, narrowed := true }
def TopTrimAreaUptoSaid : Prop := topTrimAreaUptoRow.holds Try.pinned (OpenSpec.upto topTrimAreaSpec)

end Rows
end Go.Proofs.Ytnbgonichmcfaaa
