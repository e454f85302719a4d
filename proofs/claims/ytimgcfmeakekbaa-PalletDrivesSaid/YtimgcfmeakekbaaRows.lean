/-
  No cell of these rows narrows 'for every input' (looked for: loops, veiled, ifaces, maps, wideKeys, modest, calm, conditions, laid).
  DERIVED. THE GIVEN ROWS OF THIS SEAT. 10 by the template 'for every input the law returns true; each argument reads behind the call as it read before'; 0 by the template 'total and deterministic' (their statements: YtimgcfmeakekbaaTotals.lean).
  GIVEN WITH THE SEED: the statements are not yours to turn. If you find one false, say at which input.
  Laid BY PROGRAM, IN A SANDBOX (cutbox-rows.mjs): the forced cells as the released guide's own fill.sh prints them over the translation 5033ad0672e12e62… (all of the seat's roots in one cut). By AI agents, Wed Nov 11 2026. No macro, syntax, notation, axiom, sorry.
-/
import Derived.Test.YtimgcfmeakekbaaChecked
import GoSem.Claim
import GoSem.ClaimJoined
import GoSem.ClaimMapViews
import Derived.JoinedTies
import Derived.KernelRfl
namespace Go.Proofs.Ytimgcfmeakekbaa
/- THE CELL 'sum', in the pinned program and in every row, IS THE sha256 OF THE DUMP (.gsa) THAT YtimgcfmeakekbaaProg.lean LOADS. Nothing in Lean hashes anything: it is a label: what it is worth is what the hold of that sum in a sandbox is worth. -/
noncomputable def Try.pinned : Pinned := { name := "ytimgcfmeakekbaa", sum := "5033ad0672e12e6205d6600f2e49633947a33d64ef8cb5e23c552a78c3bdeb7b", checked := Try.checked }
namespace Rows
def none {H : Type} : Left H := { results := [], args := [] }

/-- 'testlinerlaw09.PalletMosts': WHATEVER THE INPUT: true; the input reads as it did. -/
def palletMostsSpec : ChangeSpec := { name := "palletMosts", fn := fun _ => fun
  | [d] => { results := [.lit (.bool true)], args := [d] }
  | _ => none }
def palletMostsRow : OpenClaim := { program := "ytimgcfmeakekbaa", sum := "5033ad0672e12e6205d6600f2e49633947a33d64ef8cb5e23c552a78c3bdeb7b", func := "testliner/testlinerlaw09.PalletMosts", spec := "palletMosts", unfollowed := true, recurses := true, plainKeys := false, apart := false }
def PalletMostsSaid : Prop := palletMostsRow.holds Try.pinned (OpenSpec.ofChange palletMostsSpec)

/-- ITS FALSE NEIGHBOUR: 'it returns false'. Refute it at one input. -/
def palletMostsWrong : ChangeSpec := { name := "palletMosts", fn := fun _ => fun
  | [d] => { results := [.lit (.bool false)], args := [d] }
  | _ => none }
def PalletMostsWrongFalsely : Prop := palletMostsRow.holds Try.pinned (OpenSpec.ofChange palletMostsWrong)

/-- 'testlinerlaw09.PalletRests': WHATEVER THE INPUT: true; the input reads as it did. -/
def palletRestsSpec : ChangeSpec := { name := "palletRests", fn := fun _ => fun
  | [d1, d2, d3] => { results := [.lit (.bool true)], args := [d1, d2, d3] }
  | _ => none }
def palletRestsRow : OpenClaim := { program := "ytimgcfmeakekbaa", sum := "5033ad0672e12e6205d6600f2e49633947a33d64ef8cb5e23c552a78c3bdeb7b", func := "testliner/testlinerlaw09.PalletRests", spec := "palletRests", unfollowed := true, recurses := true, plainKeys := false, apart := false }
def PalletRestsSaid : Prop := palletRestsRow.holds Try.pinned (OpenSpec.ofChange palletRestsSpec)

/-- ITS FALSE NEIGHBOUR: 'it returns false'. Refute it at one input. -/
def palletRestsWrong : ChangeSpec := { name := "palletRests", fn := fun _ => fun
  | [d1, d2, d3] => { results := [.lit (.bool false)], args := [d1, d2, d3] }
  | _ => none }
def PalletRestsWrongFalsely : Prop := palletRestsRow.holds Try.pinned (OpenSpec.ofChange palletRestsWrong)

/-- 'testlinerlaw09.PalletAxles': WHATEVER THE INPUT: true; the input reads as it did. -/
def palletAxlesSpec : ChangeSpec := { name := "palletAxles", fn := fun _ => fun
  | [d1, d2] => { results := [.lit (.bool true)], args := [d1, d2] }
  | _ => none }
def palletAxlesRow : OpenClaim := { program := "ytimgcfmeakekbaa", sum := "5033ad0672e12e6205d6600f2e49633947a33d64ef8cb5e23c552a78c3bdeb7b", func := "testliner/testlinerlaw09.PalletAxles", spec := "palletAxles", unfollowed := true, recurses := true, plainKeys := false, apart := false }
def PalletAxlesSaid : Prop := palletAxlesRow.holds Try.pinned (OpenSpec.ofChange palletAxlesSpec)

/-- ITS FALSE NEIGHBOUR: 'it returns false'. Refute it at one input. -/
def palletAxlesWrong : ChangeSpec := { name := "palletAxles", fn := fun _ => fun
  | [d1, d2] => { results := [.lit (.bool false)], args := [d1, d2] }
  | _ => none }
def PalletAxlesWrongFalsely : Prop := palletAxlesRow.holds Try.pinned (OpenSpec.ofChange palletAxlesWrong)

/-- 'testlinerlaw09.PalletOrders': WHATEVER THE INPUT: true; the input reads as it did. -/
def palletOrdersSpec : ChangeSpec := { name := "palletOrders", fn := fun _ => fun
  | [d1, d2] => { results := [.lit (.bool true)], args := [d1, d2] }
  | _ => none }
def palletOrdersRow : OpenClaim := { program := "ytimgcfmeakekbaa", sum := "5033ad0672e12e6205d6600f2e49633947a33d64ef8cb5e23c552a78c3bdeb7b", func := "testliner/testlinerlaw09.PalletOrders", spec := "palletOrders", unfollowed := true, recurses := true, plainKeys := false, apart := false }
def PalletOrdersSaid : Prop := palletOrdersRow.holds Try.pinned (OpenSpec.ofChange palletOrdersSpec)

/-- ITS FALSE NEIGHBOUR: 'it returns false'. Refute it at one input. -/
def palletOrdersWrong : ChangeSpec := { name := "palletOrders", fn := fun _ => fun
  | [d1, d2] => { results := [.lit (.bool false)], args := [d1, d2] }
  | _ => none }
def PalletOrdersWrongFalsely : Prop := palletOrdersRow.holds Try.pinned (OpenSpec.ofChange palletOrdersWrong)

/-- 'testlinerlaw09.PalletTurned': WHATEVER THE INPUT: true; the input reads as it did. -/
def palletTurnedSpec : ChangeSpec := { name := "palletTurned", fn := fun _ => fun
  | [d1, d2, d3] => { results := [.lit (.bool true)], args := [d1, d2, d3] }
  | _ => none }
def palletTurnedRow : OpenClaim := { program := "ytimgcfmeakekbaa", sum := "5033ad0672e12e6205d6600f2e49633947a33d64ef8cb5e23c552a78c3bdeb7b", func := "testliner/testlinerlaw09.PalletTurned", spec := "palletTurned", unfollowed := true, recurses := true, plainKeys := false, apart := false }
def PalletTurnedSaid : Prop := palletTurnedRow.holds Try.pinned (OpenSpec.ofChange palletTurnedSpec)

/-- ITS FALSE NEIGHBOUR: 'it returns false'. Refute it at one input. -/
def palletTurnedWrong : ChangeSpec := { name := "palletTurned", fn := fun _ => fun
  | [d1, d2, d3] => { results := [.lit (.bool false)], args := [d1, d2, d3] }
  | _ => none }
def PalletTurnedWrongFalsely : Prop := palletTurnedRow.holds Try.pinned (OpenSpec.ofChange palletTurnedWrong)

/-- 'testlinerlaw09.PalletRested': WHATEVER THE INPUT: true; the input reads as it did. -/
def palletRestedSpec : ChangeSpec := { name := "palletRested", fn := fun _ => fun
  | [d1, d2, d3] => { results := [.lit (.bool true)], args := [d1, d2, d3] }
  | _ => none }
def palletRestedRow : OpenClaim := { program := "ytimgcfmeakekbaa", sum := "5033ad0672e12e6205d6600f2e49633947a33d64ef8cb5e23c552a78c3bdeb7b", func := "testliner/testlinerlaw09.PalletRested", spec := "palletRested", unfollowed := true, recurses := true, plainKeys := false, apart := false }
def PalletRestedSaid : Prop := palletRestedRow.holds Try.pinned (OpenSpec.ofChange palletRestedSpec)

/-- ITS FALSE NEIGHBOUR: 'it returns false'. Refute it at one input. -/
def palletRestedWrong : ChangeSpec := { name := "palletRested", fn := fun _ => fun
  | [d1, d2, d3] => { results := [.lit (.bool false)], args := [d1, d2, d3] }
  | _ => none }
def PalletRestedWrongFalsely : Prop := palletRestedRow.holds Try.pinned (OpenSpec.ofChange palletRestedWrong)

/-- 'testlinerlaw09.PalletDrives': WHATEVER THE INPUT: true; the input reads as it did. -/
def palletDrivesSpec : ChangeSpec := { name := "palletDrives", fn := fun _ => fun
  | [d1, d2, d3] => { results := [.lit (.bool true)], args := [d1, d2, d3] }
  | _ => none }
def palletDrivesRow : OpenClaim := { program := "ytimgcfmeakekbaa", sum := "5033ad0672e12e6205d6600f2e49633947a33d64ef8cb5e23c552a78c3bdeb7b", func := "testliner/testlinerlaw09.PalletDrives", spec := "palletDrives", unfollowed := true, recurses := true, plainKeys := false, apart := false }
def PalletDrivesSaid : Prop := palletDrivesRow.holds Try.pinned (OpenSpec.ofChange palletDrivesSpec)

/-- ITS FALSE NEIGHBOUR: 'it returns false'. Refute it at one input. -/
def palletDrivesWrong : ChangeSpec := { name := "palletDrives", fn := fun _ => fun
  | [d1, d2, d3] => { results := [.lit (.bool false)], args := [d1, d2, d3] }
  | _ => none }
def PalletDrivesWrongFalsely : Prop := palletDrivesRow.holds Try.pinned (OpenSpec.ofChange palletDrivesWrong)

/-- 'testlinerlaw09.PalletFaults': WHATEVER THE INPUT: true; the input reads as it did. -/
def palletFaultsSpec : ChangeSpec := { name := "palletFaults", fn := fun _ => fun
  | [d1, d2, d3] => { results := [.lit (.bool true)], args := [d1, d2, d3] }
  | _ => none }
def palletFaultsRow : OpenClaim := { program := "ytimgcfmeakekbaa", sum := "5033ad0672e12e6205d6600f2e49633947a33d64ef8cb5e23c552a78c3bdeb7b", func := "testliner/testlinerlaw09.PalletFaults", spec := "palletFaults", unfollowed := true, recurses := true, plainKeys := false, apart := false }
def PalletFaultsSaid : Prop := palletFaultsRow.holds Try.pinned (OpenSpec.ofChange palletFaultsSpec)

/-- ITS FALSE NEIGHBOUR: 'it returns false'. Refute it at one input. -/
def palletFaultsWrong : ChangeSpec := { name := "palletFaults", fn := fun _ => fun
  | [d1, d2, d3] => { results := [.lit (.bool false)], args := [d1, d2, d3] }
  | _ => none }
def PalletFaultsWrongFalsely : Prop := palletFaultsRow.holds Try.pinned (OpenSpec.ofChange palletFaultsWrong)

/-- 'testlinerlaw09.PalletLaid': WHATEVER THE INPUT: true; the input reads as it did. -/
def palletLaidSpec : ChangeSpec := { name := "palletLaid", fn := fun _ => fun
  | [d1, d2] => { results := [.lit (.bool true)], args := [d1, d2] }
  | _ => none }
def palletLaidRow : OpenClaim := { program := "ytimgcfmeakekbaa", sum := "5033ad0672e12e6205d6600f2e49633947a33d64ef8cb5e23c552a78c3bdeb7b", func := "testliner/testlinerlaw09.PalletLaid", spec := "palletLaid", unfollowed := true, recurses := true, plainKeys := false, apart := false }
def PalletLaidSaid : Prop := palletLaidRow.holds Try.pinned (OpenSpec.ofChange palletLaidSpec)

/-- ITS FALSE NEIGHBOUR: 'it returns false'. Refute it at one input. -/
def palletLaidWrong : ChangeSpec := { name := "palletLaid", fn := fun _ => fun
  | [d1, d2] => { results := [.lit (.bool false)], args := [d1, d2] }
  | _ => none }
def PalletLaidWrongFalsely : Prop := palletLaidRow.holds Try.pinned (OpenSpec.ofChange palletLaidWrong)

/-- 'testlinerlaw09.PalletHigh': WHATEVER THE INPUT: true; the input reads as it did. -/
def palletHighSpec : ChangeSpec := { name := "palletHigh", fn := fun _ => fun
  | [d1, d2, d3] => { results := [.lit (.bool true)], args := [d1, d2, d3] }
  | _ => none }
def palletHighRow : OpenClaim := { program := "ytimgcfmeakekbaa", sum := "5033ad0672e12e6205d6600f2e49633947a33d64ef8cb5e23c552a78c3bdeb7b", func := "testliner/testlinerlaw09.PalletHigh", spec := "palletHigh", unfollowed := true, recurses := true, plainKeys := false, apart := false }
def PalletHighSaid : Prop := palletHighRow.holds Try.pinned (OpenSpec.ofChange palletHighSpec)

/-- ITS FALSE NEIGHBOUR: 'it returns false'. Refute it at one input. -/
def palletHighWrong : ChangeSpec := { name := "palletHigh", fn := fun _ => fun
  | [d1, d2, d3] => { results := [.lit (.bool false)], args := [d1, d2, d3] }
  | _ => none }
def PalletHighWrongFalsely : Prop := palletHighRow.holds Try.pinned (OpenSpec.ofChange palletHighWrong)

/- THE SECOND FORM. 'bulk': how many values and letters a reading holds, each counted each time it is reached (what is shared counts as often as it is met; a slice's spare places count too). A statement '..UptoSaid' is the law's where the arguments, and the package variables that the reading takes, are together of bulk at most 1048576: NARROWER than '..Said'. Prove '..Said' where nothing that the law and all that it calls make is longer than what came in: it says more and counts as full. Else prove '..UptoSaid'. A law counts once. -/
mutual
def uptoBulk {H : Type} : DataW H → Nat
  | .lit (.string bytes) => bytes.length + 1
  | .lit _ => 1
  | .nil => 1
  | .ptr d => uptoBulk d + 1
  | .slice elems spare => uptoBulkAll elems + uptoBulkAll spare + 1
  | .agg parts => uptoBulkAll parts + 1
  | .iface _ d => uptoBulk d + 1
  | .map entries => uptoBulkEntries entries + 1
  | .held _ => 1
def uptoBulkAll {H : Type} : List (DataW H) → Nat
  | [] => 0
  | d :: r => uptoBulk d + uptoBulkAll r
def uptoBulkEntries {H : Type} : List (Lit × DataW H) → Nat
  | [] => 0
  | x :: r => uptoBulkEntry x + uptoBulkEntries r
def uptoBulkEntry {H : Type} : Lit × DataW H → Nat
  | (.string bytes, d) => bytes.length + uptoBulk d + 1
  | (_, d) => uptoBulk d + 1
 end
def uptoSmall : (H : Type) → List (DataW H) → Bool := fun _ ds => decide (uptoBulkAll ds ≤ 1048576)
def OpenSpec.upto (s : _root_.Go.ChangeSpec) : _root_.Go.OpenSpec := { _root_.Go.OpenSpec.ofChange s with cond := some uptoSmall }

/-- 'testlinerlaw09.PalletMosts', WHERE WHAT IT READS IS OF BULK AT MOST 1048576: true; the input reads as it did. -/
def palletMostsUptoRow : OpenClaim := { program := "ytimgcfmeakekbaa", sum := "5033ad0672e12e6205d6600f2e49633947a33d64ef8cb5e23c552a78c3bdeb7b", func := "testliner/testlinerlaw09.PalletMosts", spec := "palletMosts", unfollowed := true, recurses := true, plainKeys := false, apart := false, narrowed := true }
def PalletMostsUptoSaid : Prop := palletMostsUptoRow.holds Try.pinned (OpenSpec.upto palletMostsSpec)

/-- 'testlinerlaw09.PalletRests', WHERE WHAT IT READS IS OF BULK AT MOST 1048576: true; the input reads as it did. -/
def palletRestsUptoRow : OpenClaim := { program := "ytimgcfmeakekbaa", sum := "5033ad0672e12e6205d6600f2e49633947a33d64ef8cb5e23c552a78c3bdeb7b", func := "testliner/testlinerlaw09.PalletRests", spec := "palletRests", unfollowed := true, recurses := true, plainKeys := false, apart := false, narrowed := true }
def PalletRestsUptoSaid : Prop := palletRestsUptoRow.holds Try.pinned (OpenSpec.upto palletRestsSpec)

/-- 'testlinerlaw09.PalletAxles', WHERE WHAT IT READS IS OF BULK AT MOST 1048576: true; the input reads as it did. -/
def palletAxlesUptoRow : OpenClaim := { program := "ytimgcfmeakekbaa", sum := "5033ad0672e12e6205d6600f2e49633947a33d64ef8cb5e23c552a78c3bdeb7b", func := "testliner/testlinerlaw09.PalletAxles", spec := "palletAxles", unfollowed := true, recurses := true, plainKeys := false, apart := false, narrowed := true }
def PalletAxlesUptoSaid : Prop := palletAxlesUptoRow.holds Try.pinned (OpenSpec.upto palletAxlesSpec)

/-- 'testlinerlaw09.PalletOrders', WHERE WHAT IT READS IS OF BULK AT MOST 1048576: true; the input reads as it did. -/
def palletOrdersUptoRow : OpenClaim := { program := "ytimgcfmeakekbaa", sum := "5033ad0672e12e6205d6600f2e49633947a33d64ef8cb5e23c552a78c3bdeb7b", func := "testliner/testlinerlaw09.PalletOrders", spec := "palletOrders", unfollowed := true, recurses := true, plainKeys := false, apart := false, narrowed := true }
def PalletOrdersUptoSaid : Prop := palletOrdersUptoRow.holds Try.pinned (OpenSpec.upto palletOrdersSpec)

/-- 'testlinerlaw09.PalletTurned', WHERE WHAT IT READS IS OF BULK AT MOST 1048576: true; the input reads as it did. -/
def palletTurnedUptoRow : OpenClaim := { program := "ytimgcfmeakekbaa", sum := "5033ad0672e12e6205d6600f2e49633947a33d64ef8cb5e23c552a78c3bdeb7b", func := "testliner/testlinerlaw09.PalletTurned", spec := "palletTurned", unfollowed := true, recurses := true, plainKeys := false, apart := false, narrowed := true }
def PalletTurnedUptoSaid : Prop := palletTurnedUptoRow.holds Try.pinned (OpenSpec.upto palletTurnedSpec)

/-- 'testlinerlaw09.PalletRested', WHERE WHAT IT READS IS OF BULK AT MOST 1048576: true; the input reads as it did. -/
def palletRestedUptoRow : OpenClaim := { program := "ytimgcfmeakekbaa", sum := "5033ad0672e12e6205d6600f2e49633947a33d64ef8cb5e23c552a78c3bdeb7b", func := "testliner/testlinerlaw09.PalletRested", spec := "palletRested", unfollowed := true, recurses := true, plainKeys := false, apart := false, narrowed := true }
def PalletRestedUptoSaid : Prop := palletRestedUptoRow.holds Try.pinned (OpenSpec.upto palletRestedSpec)

/-- 'testlinerlaw09.PalletDrives', WHERE WHAT IT READS IS OF BULK AT MOST 1048576: true; the input reads as it did. -/
def palletDrivesUptoRow : OpenClaim := { program := "ytimgcfmeakekbaa", sum := "5033ad0672e12e6205d6600f2e49633947a33d64ef8cb5e23c552a78c3bdeb7b", func := "testliner/testlinerlaw09.PalletDrives", spec := "palletDrives", unfollowed := true, recurses := true, plainKeys := false, apart := false, narrowed := true }
def PalletDrivesUptoSaid : Prop := palletDrivesUptoRow.holds Try.pinned (OpenSpec.upto palletDrivesSpec)

/-- 'testlinerlaw09.PalletFaults', WHERE WHAT IT READS IS OF BULK AT MOST 1048576: true; the input reads as it did. -/
def palletFaultsUptoRow : OpenClaim := { program := "ytimgcfmeakekbaa", sum := "5033ad0672e12e6205d6600f2e49633947a33d64ef8cb5e23c552a78c3bdeb7b", func := "testliner/testlinerlaw09.PalletFaults", spec := "palletFaults", unfollowed := true, recurses := true, plainKeys := false, apart := false, narrowed := true }
def PalletFaultsUptoSaid : Prop := palletFaultsUptoRow.holds Try.pinned (OpenSpec.upto palletFaultsSpec)

/-- 'testlinerlaw09.PalletLaid', WHERE WHAT IT READS IS OF BULK AT MOST 1048576: true; the input reads as it did. -/
def palletLaidUptoRow : OpenClaim := { program := "ytimgcfmeakekbaa", sum := "5033ad0672e12e6205d6600f2e49633947a33d64ef8cb5e23c552a78c3bdeb7b", func := "testliner/testlinerlaw09.PalletLaid", spec := "palletLaid", unfollowed := true, recurses := true, plainKeys := false, apart := false, narrowed := true }
def PalletLaidUptoSaid : Prop := palletLaidUptoRow.holds Try.pinned (OpenSpec.upto palletLaidSpec)

/-- 'testlinerlaw09.PalletHigh', WHERE WHAT IT READS IS OF BULK AT MOST 1048576: true; the input reads as it did. -/
def palletHighUptoRow : OpenClaim := { program := "ytimgcfmeakekbaa", sum := "5033ad0672e12e6205d6600f2e49633947a33d64ef8cb5e23c552a78c3bdeb7b", func := "testliner/testlinerlaw09.PalletHigh", spec := "palletHigh", unfollowed := true, recurses := true, plainKeys := false, apart := false, narrowed := true }
def PalletHighUptoSaid : Prop := palletHighUptoRow.holds Try.pinned (OpenSpec.upto palletHighSpec)

end Rows
end Go.Proofs.Ytimgcfmeakekbaa
