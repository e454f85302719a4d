/-
  No cell of these rows narrows 'for every input' (looked for: loops, veiled, ifaces, maps, wideKeys, modest, calm, conditions, laid).
  DERIVED. THE GIVEN ROWS OF THIS SEAT. 5 by the template 'for every input the law returns true; each argument reads behind the call as it read before'; 0 by the template 'total and deterministic' (their statements: YtmbgogijhpommaaTotals.lean).
  GIVEN WITH THE SEED: the statements are not yours to turn. If you find one false, say at which input.
  Laid BY PROGRAM, IN A SANDBOX (cutbox-rows.mjs): the forced cells as the released guide's own fill.sh prints them over the translation 095820f1ef67cb00… (all of the seat's roots in one cut). By AI agents, Wed Nov 11 2026. No macro, syntax, notation, axiom, sorry.
-/
import Derived.Test.YtmbgogijhpommaaChecked
import GoSem.Claim
import GoSem.ClaimJoined
import GoSem.ClaimMapViews
import Derived.JoinedTies
import Derived.KernelRfl
namespace Go.Proofs.Ytmbgogijhpommaa
/- THE CELL 'sum', in the pinned program and in every row, IS THE sha256 OF THE DUMP (.gsa) THAT YtmbgogijhpommaaProg.lean LOADS. Nothing in Lean hashes anything: it is a label: what it is worth is what the hold of that sum in a sandbox is worth. -/
noncomputable def Try.pinned : Pinned := { name := "ytmbgogijhpommaa", sum := "095820f1ef67cb00d0fa5cda529d17bc752941d138da9f45f7bc90d57ffbe9e4", checked := Try.checked }
namespace Rows
def none {H : Type} : Left H := { results := [], args := [] }

/-- 'testlinertop.TopCreditTests': WHATEVER THE INPUT: true; the input reads as it did. -/
def topCreditTestsSpec : ChangeSpec := { name := "topCreditTests", fn := fun _ => fun
  | [d1, d2, d3] => { results := [.lit (.bool true)], args := [d1, d2, d3] }
  | _ => none }
def topCreditTestsRow : OpenClaim := { program := "ytmbgogijhpommaa", sum := "095820f1ef67cb00d0fa5cda529d17bc752941d138da9f45f7bc90d57ffbe9e4", func := "testliner/testlinertop.TopCreditTests", spec := "topCreditTests", unfollowed := true, recurses := true, apart := false }
def TopCreditTestsSaid : Prop := topCreditTestsRow.holds Try.pinned (OpenSpec.ofChange topCreditTestsSpec)

/-- ITS FALSE NEIGHBOUR: 'it returns false'. Refute it at one input. -/
def topCreditTestsWrong : ChangeSpec := { name := "topCreditTests", fn := fun _ => fun
  | [d1, d2, d3] => { results := [.lit (.bool false)], args := [d1, d2, d3] }
  | _ => none }
def TopCreditTestsWrongFalsely : Prop := topCreditTestsRow.holds Try.pinned (OpenSpec.ofChange topCreditTestsWrong)

/-- 'testlinertop.TopBoardBox': WHATEVER THE INPUT: true; the input reads as it did. -/
def topBoardBoxSpec : ChangeSpec := { name := "topBoardBox", fn := fun _ => fun
  | [d1, d2, d3] => { results := [.lit (.bool true)], args := [d1, d2, d3] }
  | _ => none }
def topBoardBoxRow : OpenClaim := { program := "ytmbgogijhpommaa", sum := "095820f1ef67cb00d0fa5cda529d17bc752941d138da9f45f7bc90d57ffbe9e4", func := "testliner/testlinertop.TopBoardBox", spec := "topBoardBox", unfollowed := true, recurses := true, apart := false }
def TopBoardBoxSaid : Prop := topBoardBoxRow.holds Try.pinned (OpenSpec.ofChange topBoardBoxSpec)

/-- ITS FALSE NEIGHBOUR: 'it returns false'. Refute it at one input. -/
def topBoardBoxWrong : ChangeSpec := { name := "topBoardBox", fn := fun _ => fun
  | [d1, d2, d3] => { results := [.lit (.bool false)], args := [d1, d2, d3] }
  | _ => none }
def TopBoardBoxWrongFalsely : Prop := topBoardBoxRow.holds Try.pinned (OpenSpec.ofChange topBoardBoxWrong)

/-- 'testlinertop.TopDampWeight': WHATEVER THE INPUT: true; the input reads as it did. -/
def topDampWeightSpec : ChangeSpec := { name := "topDampWeight", fn := fun _ => fun
  | [d1, d2, d3] => { results := [.lit (.bool true)], args := [d1, d2, d3] }
  | _ => none }
def topDampWeightRow : OpenClaim := { program := "ytmbgogijhpommaa", sum := "095820f1ef67cb00d0fa5cda529d17bc752941d138da9f45f7bc90d57ffbe9e4", func := "testliner/testlinertop.TopDampWeight", spec := "topDampWeight", unfollowed := true, recurses := true, apart := false }
def TopDampWeightSaid : Prop := topDampWeightRow.holds Try.pinned (OpenSpec.ofChange topDampWeightSpec)

/-- ITS FALSE NEIGHBOUR: 'it returns false'. Refute it at one input. -/
def topDampWeightWrong : ChangeSpec := { name := "topDampWeight", fn := fun _ => fun
  | [d1, d2, d3] => { results := [.lit (.bool false)], args := [d1, d2, d3] }
  | _ => none }
def TopDampWeightWrongFalsely : Prop := topDampWeightRow.holds Try.pinned (OpenSpec.ofChange topDampWeightWrong)

/-- 'testlinertop.TopTestedBoard': WHATEVER THE INPUT: true; the input reads as it did. -/
def topTestedBoardSpec : ChangeSpec := { name := "topTestedBoard", fn := fun _ => fun
  | [d1, d2, d3] => { results := [.lit (.bool true)], args := [d1, d2, d3] }
  | _ => none }
def topTestedBoardRow : OpenClaim := { program := "ytmbgogijhpommaa", sum := "095820f1ef67cb00d0fa5cda529d17bc752941d138da9f45f7bc90d57ffbe9e4", func := "testliner/testlinertop.TopTestedBoard", spec := "topTestedBoard", unfollowed := true, recurses := true, apart := false }
def TopTestedBoardSaid : Prop := topTestedBoardRow.holds Try.pinned (OpenSpec.ofChange topTestedBoardSpec)

/-- ITS FALSE NEIGHBOUR: 'it returns false'. Refute it at one input. -/
def topTestedBoardWrong : ChangeSpec := { name := "topTestedBoard", fn := fun _ => fun
  | [d1, d2, d3] => { results := [.lit (.bool false)], args := [d1, d2, d3] }
  | _ => none }
def TopTestedBoardWrongFalsely : Prop := topTestedBoardRow.holds Try.pinned (OpenSpec.ofChange topTestedBoardWrong)

/-- 'testlinertop.TopPressTests': WHATEVER THE INPUT: true; the input reads as it did. -/
def topPressTestsSpec : ChangeSpec := { name := "topPressTests", fn := fun _ => fun
  | [d1, d2, d3] => { results := [.lit (.bool true)], args := [d1, d2, d3] }
  | _ => none }
def topPressTestsRow : OpenClaim := { program := "ytmbgogijhpommaa", sum := "095820f1ef67cb00d0fa5cda529d17bc752941d138da9f45f7bc90d57ffbe9e4", func := "testliner/testlinertop.TopPressTests", spec := "topPressTests", unfollowed := true, recurses := true, apart := false }
def TopPressTestsSaid : Prop := topPressTestsRow.holds Try.pinned (OpenSpec.ofChange topPressTestsSpec)

/-- ITS FALSE NEIGHBOUR: 'it returns false'. Refute it at one input. -/
def topPressTestsWrong : ChangeSpec := { name := "topPressTests", fn := fun _ => fun
  | [d1, d2, d3] => { results := [.lit (.bool false)], args := [d1, d2, d3] }
  | _ => none }
def TopPressTestsWrongFalsely : Prop := topPressTestsRow.holds Try.pinned (OpenSpec.ofChange topPressTestsWrong)

/- THE SECOND FORM. 'bulk': how many values and letters a reading holds, each counted each time it is reached (what is shared counts as often as it is met; a slice's spare places count too). A statement '..UptoSaid' is the law's where the arguments, and the package variables that the reading takes, are together of bulk at most 1048576: NARROWER than '..Said'. Prove '..Said' where nothing that the law and all that it calls make is longer than what came in: it says more and counts as full. Else prove '..UptoSaid'. A law counts once. -/
mutual
def uptoBulk {H : Type} : DataW H → Nat
  | .lit (.string bytes) => bytes.length + 1
  | .lit _ => 1
  | .nil => 1
  | .ptr d => uptoBulk d + 1
  | .slice elems spare => uptoBulkAll elems + uptoBulkAll spare + 1
  | .agg parts => uptoBulkAll parts + 1
  | .iface _ d => uptoBulk d + 1
  | .map entries => uptoBulkEntries entries + 1
  | .held _ => 1
def uptoBulkAll {H : Type} : List (DataW H) → Nat
  | [] => 0
  | d :: r => uptoBulk d + uptoBulkAll r
def uptoBulkEntries {H : Type} : List (Lit × DataW H) → Nat
  | [] => 0
  | x :: r => uptoBulkEntry x + uptoBulkEntries r
def uptoBulkEntry {H : Type} : Lit × DataW H → Nat
  | (.string bytes, d) => bytes.length + uptoBulk d + 1
  | (_, d) => uptoBulk d + 1
 end
def uptoSmall : (H : Type) → List (DataW H) → Bool := fun _ ds => decide (uptoBulkAll ds ≤ 1048576)
def OpenSpec.upto (s : _root_.Go.ChangeSpec) : _root_.Go.OpenSpec := { _root_.Go.OpenSpec.ofChange s with cond := some uptoSmall }

/-- 'testlinertop.TopCreditTests', WHERE WHAT IT READS IS OF BULK AT MOST 1048576: true; the input reads as it did. -/
def topCreditTestsUptoRow : OpenClaim := { program := "ytmbgogijhpommaa", sum := "095820f1ef67cb00d0fa5cda529d17bc752941d138da9f45f7bc90d57ffbe9e4", func := "testliner/testlinertop.TopCreditTests", spec := "topCreditTests", unfollowed := true, recurses := true, apart := false, narrowed := true }
def TopCreditTestsUptoSaid : Prop := topCreditTestsUptoRow.holds Try.pinned (OpenSpec.upto topCreditTestsSpec)

/-- 'testlinertop.TopBoardBox', WHERE WHAT IT READS IS OF BULK AT MOST 1048576: true; the input reads as it did. -/
def topBoardBoxUptoRow : OpenClaim := { program := "ytmbgogijhpommaa", sum := "095820f1ef67cb00d0fa5cda529d17bc752941d138da9f45f7bc90d57ffbe9e4", func := "testliner/testlinertop.TopBoardBox", spec := "topBoardBox", unfollowed := true, recurses := true, apart := false, narrowed := true }
def TopBoardBoxUptoSaid : Prop := topBoardBoxUptoRow.holds Try.pinned (OpenSpec.upto topBoardBoxSpec)

/-- 'testlinertop.TopDampWeight', WHERE WHAT IT READS IS OF BULK AT MOST 1048576: true; the input reads as it did. -/
def topDampWeightUptoRow : OpenClaim := { program := "ytmbgogijhpommaa", sum := "095820f1ef67cb00d0fa5cda529d17bc752941d138da9f45f7bc90d57ffbe9e4", func := "testliner/testlinertop.TopDampWeight", spec := "topDampWeight", unfollowed := true, recurses := true, apart := false, narrowed := true }
def TopDampWeightUptoSaid : Prop := topDampWeightUptoRow.holds Try.pinned (OpenSpec.upto topDampWeightSpec)

/-- 'testlinertop.TopTestedBoard', WHERE WHAT IT READS IS OF BULK AT MOST 1048576: true; the input reads as it did. -/
def topTestedBoardUptoRow : OpenClaim := { program := "ytmbgogijhpommaa", sum := "095820f1ef67cb00d0fa5cda529d17bc752941d138da9f45f7bc90d57ffbe9e4", func := "testliner/testlinertop.TopTestedBoard", spec := "topTestedBoard", unfollowed := true, recurses := true, apart := false, narrowed := true }
def TopTestedBoardUptoSaid : Prop := topTestedBoardUptoRow.holds Try.pinned (OpenSpec.upto topTestedBoardSpec)

/-- 'testlinertop.TopPressTests', WHERE WHAT IT READS IS OF BULK AT MOST 1048576: true; the input reads as it did. -/
def topPressTestsUptoRow : OpenClaim := { program := "ytmbgogijhpommaa", sum := "095820f1ef67cb00d0fa5cda529d17bc752941d138da9f45f7bc90d57ffbe9e4", func := "testliner/testlinertop.TopPressTests", spec := "topPressTests", unfollowed := true, recurses := true, apart := false, narrowed := true }
def TopPressTestsUptoSaid : Prop := topPressTestsUptoRow.holds Try.pinned (OpenSpec.upto topPressTestsSpec)

end Rows
end Go.Proofs.Ytmbgogijhpommaa
