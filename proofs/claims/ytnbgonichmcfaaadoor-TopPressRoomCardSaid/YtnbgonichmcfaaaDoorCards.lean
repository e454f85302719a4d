/-
  DERIVED. GIVEN WITH THE SEED: THE CARDS: each row of YtnbgonichmcfaaaDoorRows.lean that lists a variable, with what it lists TIED to the program's text (the seventh form; the later family's looks); each row that meets fmt, with fmt's text TOLD by the authors' own Lean function (tested against real Go, not proved from fmt's source: count such statements apart). THE CARD IS WHAT COUNTS. Prove the row's statement (the work); the ties are given (YtnbgonichmcfaaaDoorTie.lean); close each card by the builder's one call (the guide's Derived/Test/ToyasCard.lean, 'card_holds'). Laid BY PROGRAM, IN A SANDBOX (cutbox-door.mjs). By AI agents, Wed Nov 11 2026. No macro, syntax, notation, axiom, sorry.
-/
import Derived.Test.YtnbgonichmcfaaaDoorRows
import GoSem.ClaimSeven
namespace Go.Proofs.YtnbgonichmcfaaaDoor
namespace Rows

/-- THE TIED CARD OF 'testlinertop.TopPressRoom'. -/
def topPressRoomCard : Claim7 := { stood := { row := topPressRoomRow, standIns := [], harness := (true, "4303e8bc54dc2139f1c7c6ec049551287fcc2b703554daa5c2b83078a295d90f"), looks := false }, kinds := [], alts := [], laidByText := true, laidKinds := [.data, .data], laidTests := true, laidLooks := .later }
def TopPressRoomCardSaid : Prop := Claim7.holds Tryd.pinned (.plain (OpenSpec.ofChange topPressRoomSpec)) topPressRoomCard

/-- THE TIED CARD OF 'testlinertop.TopHeaviest'. -/
def topHeaviestCard : Claim7 := { stood := { row := topHeaviestRow, standIns := [], harness := (true, "4303e8bc54dc2139f1c7c6ec049551287fcc2b703554daa5c2b83078a295d90f"), looks := false }, kinds := [], alts := [], laidByText := true, laidKinds := [.data, .data], laidTests := true, laidLooks := .later }
def TopHeaviestCardSaid : Prop := Claim7.holds Tryd.pinned (.plain (OpenSpec.ofChange topHeaviestSpec)) topHeaviestCard

/-- THE SECOND FORM's CARD OF 'testlinertop.TopPressRoom'. -/
def topPressRoomUptoCard : Claim7 := { stood := { row := topPressRoomUptoRow, standIns := [], harness := (true, "4303e8bc54dc2139f1c7c6ec049551287fcc2b703554daa5c2b83078a295d90f"), looks := false }, kinds := [], alts := [], laidByText := true, laidKinds := [.data, .data], laidTests := true, laidLooks := .later }
def TopPressRoomUptoCardSaid : Prop := Claim7.holds Tryd.pinned (.plain (OpenSpec.upto topPressRoomSpec)) topPressRoomUptoCard

/-- THE SECOND FORM's CARD OF 'testlinertop.TopHeaviest'. -/
def topHeaviestUptoCard : Claim7 := { stood := { row := topHeaviestUptoRow, standIns := [], harness := (true, "4303e8bc54dc2139f1c7c6ec049551287fcc2b703554daa5c2b83078a295d90f"), looks := false }, kinds := [], alts := [], laidByText := true, laidKinds := [.data, .data], laidTests := true, laidLooks := .later }
def TopHeaviestUptoCardSaid : Prop := Claim7.holds Tryd.pinned (.plain (OpenSpec.upto topHeaviestSpec)) topHeaviestUptoCard
end Rows
end Go.Proofs.YtnbgonichmcfaaaDoor
