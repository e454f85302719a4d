/-
  No cell of these rows narrows 'for every input' (looked for: loops, veiled, ifaces, maps, wideKeys, modest, calm, conditions, laid).
  DERIVED. THE GIVEN ROWS OF THIS SEAT. 5 by the template 'for every input the law returns true; each argument reads behind the call as it read before'; 0 by the template 'total and deterministic' (their statements: YtkkbfndajnmhmaaTotals.lean).
  GIVEN WITH THE SEED: the statements are not yours to turn. If you find one false, say at which input.
  Laid BY PROGRAM, IN A SANDBOX (cutbox-rows.mjs): the forced cells as the released guide's own fill.sh prints them over the translation ac9eecf1e8e540d2… (all of the seat's roots in one cut). By AI agents, Wed Nov 11 2026. No macro, syntax, notation, axiom, sorry.
-/
import Derived.Test.YtkkbfndajnmhmaaChecked
import GoSem.Claim
import GoSem.ClaimJoined
import GoSem.ClaimMapViews
import Derived.JoinedTies
import Derived.KernelRfl
namespace Go.Proofs.Ytkkbfndajnmhmaa
/- THE CELL 'sum', in the pinned program and in every row, IS THE sha256 OF THE DUMP (.gsa) THAT YtkkbfndajnmhmaaProg.lean LOADS. Nothing in Lean hashes anything: it is a label: what it is worth is what the hold of that sum in a sandbox is worth. -/
noncomputable def Try.pinned : Pinned := { name := "ytkkbfndajnmhmaa", sum := "ac9eecf1e8e540d26a1a3d92e600a2170609d3fd7351289d67b3a8405cf1c511", checked := Try.checked }
namespace Rows
def none {H : Type} : Left H := { results := [], args := [] }

/-- 'testlinertop.TopPalletStack': WHATEVER THE INPUT: true; the input reads as it did. -/
def topPalletStackSpec : ChangeSpec := { name := "topPalletStack", fn := fun _ => fun
  | [d1, d2] => { results := [.lit (.bool true)], args := [d1, d2] }
  | _ => none }
def topPalletStackRow : OpenClaim := { program := "ytkkbfndajnmhmaa", sum := "ac9eecf1e8e540d26a1a3d92e600a2170609d3fd7351289d67b3a8405cf1c511", func := "testliner/testlinertop.TopPalletStack", spec := "topPalletStack", unfollowed := true, recurses := true, plainKeys := false, apart := false }
def TopPalletStackSaid : Prop := topPalletStackRow.holds Try.pinned (OpenSpec.ofChange topPalletStackSpec)

/-- ITS FALSE NEIGHBOUR: 'it returns false'. Refute it at one input. -/
def topPalletStackWrong : ChangeSpec := { name := "topPalletStack", fn := fun _ => fun
  | [d1, d2] => { results := [.lit (.bool false)], args := [d1, d2] }
  | _ => none }
def TopPalletStackWrongFalsely : Prop := topPalletStackRow.holds Try.pinned (OpenSpec.ofChange topPalletStackWrong)

/-- 'testlinertop.TopGluedStack': WHATEVER THE INPUT: true; the input reads as it did. -/
def topGluedStackSpec : ChangeSpec := { name := "topGluedStack", fn := fun _ => fun
  | [d1, d2, d3] => { results := [.lit (.bool true)], args := [d1, d2, d3] }
  | _ => none }
def topGluedStackRow : OpenClaim := { program := "ytkkbfndajnmhmaa", sum := "ac9eecf1e8e540d26a1a3d92e600a2170609d3fd7351289d67b3a8405cf1c511", func := "testliner/testlinertop.TopGluedStack", spec := "topGluedStack", unfollowed := true, recurses := true, plainKeys := false, apart := false }
def TopGluedStackSaid : Prop := topGluedStackRow.holds Try.pinned (OpenSpec.ofChange topGluedStackSpec)

/-- ITS FALSE NEIGHBOUR: 'it returns false'. Refute it at one input. -/
def topGluedStackWrong : ChangeSpec := { name := "topGluedStack", fn := fun _ => fun
  | [d1, d2, d3] => { results := [.lit (.bool false)], args := [d1, d2, d3] }
  | _ => none }
def TopGluedStackWrongFalsely : Prop := topGluedStackRow.holds Try.pinned (OpenSpec.ofChange topGluedStackWrong)

/-- 'testlinertop.TopQuotePallets': WHATEVER THE INPUT: true; the input reads as it did. -/
def topQuotePalletsSpec : ChangeSpec := { name := "topQuotePallets", fn := fun _ => fun
  | [d1, d2, d3] => { results := [.lit (.bool true)], args := [d1, d2, d3] }
  | _ => none }
def topQuotePalletsRow : OpenClaim := { program := "ytkkbfndajnmhmaa", sum := "ac9eecf1e8e540d26a1a3d92e600a2170609d3fd7351289d67b3a8405cf1c511", func := "testliner/testlinertop.TopQuotePallets", spec := "topQuotePallets", unfollowed := true, recurses := true, plainKeys := false, apart := false }
def TopQuotePalletsSaid : Prop := topQuotePalletsRow.holds Try.pinned (OpenSpec.ofChange topQuotePalletsSpec)

/-- ITS FALSE NEIGHBOUR: 'it returns false'. Refute it at one input. -/
def topQuotePalletsWrong : ChangeSpec := { name := "topQuotePallets", fn := fun _ => fun
  | [d1, d2, d3] => { results := [.lit (.bool false)], args := [d1, d2, d3] }
  | _ => none }
def TopQuotePalletsWrongFalsely : Prop := topQuotePalletsRow.holds Try.pinned (OpenSpec.ofChange topQuotePalletsWrong)

/-- 'testlinertop.TopDampStack': WHATEVER THE INPUT: true; the input reads as it did. -/
def topDampStackSpec : ChangeSpec := { name := "topDampStack", fn := fun _ => fun
  | [d1, d2, d3] => { results := [.lit (.bool true)], args := [d1, d2, d3] }
  | _ => none }
def topDampStackRow : OpenClaim := { program := "ytkkbfndajnmhmaa", sum := "ac9eecf1e8e540d26a1a3d92e600a2170609d3fd7351289d67b3a8405cf1c511", func := "testliner/testlinertop.TopDampStack", spec := "topDampStack", unfollowed := true, recurses := true, plainKeys := false, apart := false }
def TopDampStackSaid : Prop := topDampStackRow.holds Try.pinned (OpenSpec.ofChange topDampStackSpec)

/-- ITS FALSE NEIGHBOUR: 'it returns false'. Refute it at one input. -/
def topDampStackWrong : ChangeSpec := { name := "topDampStack", fn := fun _ => fun
  | [d1, d2, d3] => { results := [.lit (.bool false)], args := [d1, d2, d3] }
  | _ => none }
def TopDampStackWrongFalsely : Prop := topDampStackRow.holds Try.pinned (OpenSpec.ofChange topDampStackWrong)

/-- 'testlinertop.TopLorryRolls': WHATEVER THE INPUT: true; the input reads as it did. -/
def topLorryRollsSpec : ChangeSpec := { name := "topLorryRolls", fn := fun _ => fun
  | [d1, d2, d3] => { results := [.lit (.bool true)], args := [d1, d2, d3] }
  | _ => none }
def topLorryRollsRow : OpenClaim := { program := "ytkkbfndajnmhmaa", sum := "ac9eecf1e8e540d26a1a3d92e600a2170609d3fd7351289d67b3a8405cf1c511", func := "testliner/testlinertop.TopLorryRolls", spec := "topLorryRolls", unfollowed := true, recurses := true, plainKeys := false, apart := false }
def TopLorryRollsSaid : Prop := topLorryRollsRow.holds Try.pinned (OpenSpec.ofChange topLorryRollsSpec)

/-- ITS FALSE NEIGHBOUR: 'it returns false'. Refute it at one input. -/
def topLorryRollsWrong : ChangeSpec := { name := "topLorryRolls", fn := fun _ => fun
  | [d1, d2, d3] => { results := [.lit (.bool false)], args := [d1, d2, d3] }
  | _ => none }
def TopLorryRollsWrongFalsely : Prop := topLorryRollsRow.holds Try.pinned (OpenSpec.ofChange topLorryRollsWrong)

/- THE SECOND FORM. 'bulk': how many values and letters a reading holds, each counted each time it is reached (what is shared counts as often as it is met; a slice's spare places count too). A statement '..UptoSaid' is the law's where the arguments, and the package variables that the reading takes, are together of bulk at most 1048576: NARROWER than '..Said'. Prove '..Said' where nothing that the law and all that it calls make is longer than what came in: it says more and counts as full. Else prove '..UptoSaid'. A law counts once. -/
mutual
def uptoBulk {H : Type} : DataW H → Nat
  | .lit (.string bytes) => bytes.length + 1
  | .lit _ => 1
  | .nil => 1
  | .ptr d => uptoBulk d + 1
  | .slice elems spare => uptoBulkAll elems + uptoBulkAll spare + 1
  | .agg parts => uptoBulkAll parts + 1
  | .iface _ d => uptoBulk d + 1
  | .map entries => uptoBulkEntries entries + 1
  | .held _ => 1
def uptoBulkAll {H : Type} : List (DataW H) → Nat
  | [] => 0
  | d :: r => uptoBulk d + uptoBulkAll r
def uptoBulkEntries {H : Type} : List (Lit × DataW H) → Nat
  | [] => 0
  | x :: r => uptoBulkEntry x + uptoBulkEntries r
def uptoBulkEntry {H : Type} : Lit × DataW H → Nat
  | (.string bytes, d) => bytes.length + uptoBulk d + 1
  | (_, d) => uptoBulk d + 1
 end
def uptoSmall : (H : Type) → List (DataW H) → Bool := fun _ ds => decide (uptoBulkAll ds ≤ 1048576)
def OpenSpec.upto (s : _root_.Go.ChangeSpec) : _root_.Go.OpenSpec := { _root_.Go.OpenSpec.ofChange s with cond := some uptoSmall }

/-- 'testlinertop.TopPalletStack', WHERE WHAT IT READS IS OF BULK AT MOST 1048576: true; the input reads as it did. -/
def topPalletStackUptoRow : OpenClaim := { program := "ytkkbfndajnmhmaa", sum := "ac9eecf1e8e540d26a1a3d92e600a2170609d3fd7351289d67b3a8405cf1c511", func := "testliner/testlinertop.TopPalletStack", spec := "topPalletStack", unfollowed := true, recurses := true, plainKeys := false, apart := false, narrowed := true }
def TopPalletStackUptoSaid : Prop := topPalletStackUptoRow.holds Try.pinned (OpenSpec.upto topPalletStackSpec)

/-- 'testlinertop.TopGluedStack', WHERE WHAT IT READS IS OF BULK AT MOST 1048576: true; the input reads as it did. -/
def topGluedStackUptoRow : OpenClaim := { program := "ytkkbfndajnmhmaa", sum := "ac9eecf1e8e540d26a1a3d92e600a2170609d3fd7351289d67b3a8405cf1c511", func := "testliner/testlinertop.TopGluedStack", spec := "topGluedStack", unfollowed := true, recurses := true, plainKeys := false, apart := false, narrowed := true }
def TopGluedStackUptoSaid : Prop := topGluedStackUptoRow.holds Try.pinned (OpenSpec.upto topGluedStackSpec)

/-- 'testlinertop.TopQuotePallets', WHERE WHAT IT READS IS OF BULK AT MOST 1048576: true; the input reads as it did. -/
def topQuotePalletsUptoRow : OpenClaim := { program := "ytkkbfndajnmhmaa", sum := "ac9eecf1e8e540d26a1a3d92e600a2170609d3fd7351289d67b3a8405cf1c511", func := "testliner/testlinertop.TopQuotePallets", spec := "topQuotePallets", unfollowed := true, recurses := true, plainKeys := false, apart := false, narrowed := true }
def TopQuotePalletsUptoSaid : Prop := topQuotePalletsUptoRow.holds Try.pinned (OpenSpec.upto topQuotePalletsSpec)

/-- 'testlinertop.TopDampStack', WHERE WHAT IT READS IS OF BULK AT MOST 1048576: true; the input reads as it did. -/
def topDampStackUptoRow : OpenClaim := { program := "ytkkbfndajnmhmaa", sum := "ac9eecf1e8e540d26a1a3d92e600a2170609d3fd7351289d67b3a8405cf1c511", func := "testliner/testlinertop.TopDampStack", spec := "topDampStack", unfollowed := true, recurses := true, plainKeys := false, apart := false, narrowed := true }
def TopDampStackUptoSaid : Prop := topDampStackUptoRow.holds Try.pinned (OpenSpec.upto topDampStackSpec)

/-- 'testlinertop.TopLorryRolls', WHERE WHAT IT READS IS OF BULK AT MOST 1048576: true; the input reads as it did. -/
def topLorryRollsUptoRow : OpenClaim := { program := "ytkkbfndajnmhmaa", sum := "ac9eecf1e8e540d26a1a3d92e600a2170609d3fd7351289d67b3a8405cf1c511", func := "testliner/testlinertop.TopLorryRolls", spec := "topLorryRolls", unfollowed := true, recurses := true, plainKeys := false, apart := false, narrowed := true }
def TopLorryRollsUptoSaid : Prop := topLorryRollsUptoRow.holds Try.pinned (OpenSpec.upto topLorryRollsSpec)

end Rows
end Go.Proofs.Ytkkbfndajnmhmaa
