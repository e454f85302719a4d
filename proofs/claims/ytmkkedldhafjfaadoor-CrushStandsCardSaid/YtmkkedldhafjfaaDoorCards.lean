/-
  DERIVED. GIVEN WITH THE SEED: THE CARDS: each row of YtmkkedldhafjfaaDoorRows.lean that lists a variable, with what it lists TIED to the program's text (the seventh form; the later family's looks); each row that meets fmt, with fmt's text TOLD by the authors' own Lean function (tested against real Go, not proved from fmt's source: count such statements apart). THE CARD IS WHAT COUNTS. Prove the row's statement (the work); the ties are given (YtmkkedldhafjfaaDoorTie.lean); close each card by the builder's one call (the guide's Derived/Test/ToyasCard.lean, 'card_holds'). Laid BY PROGRAM, IN A SANDBOX (cutbox-door.mjs). By AI agents, Wed Nov 11 2026. No macro, syntax, notation, axiom, sorry.
-/
import Derived.Test.YtmkkedldhafjfaaDoorRows
import GoSem.ClaimSeven
namespace Go.Proofs.YtmkkedldhafjfaaDoor
namespace Rows

/-- THE TIED CARD OF 'testlinerlaw03.CrushDecides'. -/
def crushDecidesCard : Claim7 := { stood := { row := crushDecidesRow, standIns := [], harness := (true, "297f8463b124370e2b72efd31c67678953b9b96d373b67f97d6bdf9dbdab5bb2"), looks := false }, kinds := [], alts := [], laidByText := true, laidKinds := [.data, .data], laidTests := true, laidLooks := .later }
def CrushDecidesCardSaid : Prop := Claim7.holds Tryd.pinned (.plain (OpenSpec.ofChange crushDecidesSpec)) crushDecidesCard

/-- THE TIED CARD OF 'testlinerlaw03.CrushOdds'. -/
def crushOddsCard : Claim7 := { stood := { row := crushOddsRow, standIns := [], harness := (true, "297f8463b124370e2b72efd31c67678953b9b96d373b67f97d6bdf9dbdab5bb2"), looks := false }, kinds := [], alts := [], laidByText := true, laidKinds := [.data, .data], laidTests := true, laidLooks := .later }
def CrushOddsCardSaid : Prop := Claim7.holds Tryd.pinned (.plain (OpenSpec.ofChange crushOddsSpec)) crushOddsCard

/-- THE TIED CARD OF 'testlinerlaw03.CrushStrengths'. -/
def crushStrengthsCard : Claim7 := { stood := { row := crushStrengthsRow, standIns := [], harness := (true, "297f8463b124370e2b72efd31c67678953b9b96d373b67f97d6bdf9dbdab5bb2"), looks := false }, kinds := [], alts := [], laidByText := true, laidKinds := [.data, .data], laidTests := true, laidLooks := .later }
def CrushStrengthsCardSaid : Prop := Claim7.holds Tryd.pinned (.plain (OpenSpec.ofChange crushStrengthsSpec)) crushStrengthsCard

/-- THE TIED CARD OF 'testlinerlaw03.CrushFalls'. -/
def crushFallsCard : Claim7 := { stood := { row := crushFallsRow, standIns := [], harness := (true, "297f8463b124370e2b72efd31c67678953b9b96d373b67f97d6bdf9dbdab5bb2"), looks := false }, kinds := [], alts := [], laidByText := true, laidKinds := [.data, .data], laidTests := true, laidLooks := .later }
def CrushFallsCardSaid : Prop := Claim7.holds Tryd.pinned (.plain (OpenSpec.ofChange crushFallsSpec)) crushFallsCard

/-- THE TIED CARD OF 'testlinerlaw03.CrushHighs'. -/
def crushHighsCard : Claim7 := { stood := { row := crushHighsRow, standIns := [], harness := (true, "297f8463b124370e2b72efd31c67678953b9b96d373b67f97d6bdf9dbdab5bb2"), looks := false }, kinds := [], alts := [], laidByText := true, laidKinds := [.data, .data], laidTests := true, laidLooks := .later }
def CrushHighsCardSaid : Prop := Claim7.holds Tryd.pinned (.plain (OpenSpec.ofChange crushHighsSpec)) crushHighsCard

/-- THE TIED CARD OF 'testlinerlaw03.CrushOrders'. -/
def crushOrdersCard : Claim7 := { stood := { row := crushOrdersRow, standIns := [], harness := (true, "297f8463b124370e2b72efd31c67678953b9b96d373b67f97d6bdf9dbdab5bb2"), looks := false }, kinds := [], alts := [], laidByText := true, laidKinds := [.data, .data], laidTests := true, laidLooks := .later }
def CrushOrdersCardSaid : Prop := Claim7.holds Tryd.pinned (.plain (OpenSpec.ofChange crushOrdersSpec)) crushOrdersCard

/-- THE TIED CARD OF 'testlinerlaw03.CrushSure'. -/
def crushSureCard : Claim7 := { stood := { row := crushSureRow, standIns := [], harness := (true, "297f8463b124370e2b72efd31c67678953b9b96d373b67f97d6bdf9dbdab5bb2"), looks := false }, kinds := [], alts := [], laidByText := true, laidKinds := [.data, .data], laidTests := true, laidLooks := .later }
def CrushSureCardSaid : Prop := Claim7.holds Tryd.pinned (.plain (OpenSpec.ofChange crushSureSpec)) crushSureCard

/-- THE TIED CARD OF 'testlinerlaw03.CrushFew'. -/
def crushFewCard : Claim7 := { stood := { row := crushFewRow, standIns := [], harness := (true, "297f8463b124370e2b72efd31c67678953b9b96d373b67f97d6bdf9dbdab5bb2"), looks := false }, kinds := [], alts := [], laidByText := true, laidKinds := [.data, .data], laidTests := true, laidLooks := .later }
def CrushFewCardSaid : Prop := Claim7.holds Tryd.pinned (.plain (OpenSpec.ofChange crushFewSpec)) crushFewCard

/-- THE TIED CARD OF 'testlinerlaw03.CrushOut'. -/
def crushOutCard : Claim7 := { stood := { row := crushOutRow, standIns := [], harness := (true, "297f8463b124370e2b72efd31c67678953b9b96d373b67f97d6bdf9dbdab5bb2"), looks := false }, kinds := [], alts := [], laidByText := true, laidKinds := [.data, .data], laidTests := true, laidLooks := .later }
def CrushOutCardSaid : Prop := Claim7.holds Tryd.pinned (.plain (OpenSpec.ofChange crushOutSpec)) crushOutCard

/-- THE TIED CARD OF 'testlinerlaw03.CrushRoot'. -/
def crushRootCard : Claim7 := { stood := { row := crushRootRow, standIns := [], harness := (true, "297f8463b124370e2b72efd31c67678953b9b96d373b67f97d6bdf9dbdab5bb2"), looks := false }, kinds := [], alts := [], laidByText := true, laidKinds := [.data, .data], laidTests := true, laidLooks := .later }
def CrushRootCardSaid : Prop := Claim7.holds Tryd.pinned (.plain (OpenSpec.ofChange crushRootSpec)) crushRootCard

/-- THE TIED CARD OF 'testlinerlaw03.CrushStands'. -/
def crushStandsCard : Claim7 := { stood := { row := crushStandsRow, standIns := [], harness := (true, "297f8463b124370e2b72efd31c67678953b9b96d373b67f97d6bdf9dbdab5bb2"), looks := false }, kinds := [], alts := [], laidByText := true, laidKinds := [.data, .data], laidTests := true, laidLooks := .later }
def CrushStandsCardSaid : Prop := Claim7.holds Tryd.pinned (.plain (OpenSpec.ofChange crushStandsSpec)) crushStandsCard

/-- THE TIED CARD OF 'testlinerlaw03.CrushStacked'. -/
def crushStackedCard : Claim7 := { stood := { row := crushStackedRow, standIns := [], harness := (true, "297f8463b124370e2b72efd31c67678953b9b96d373b67f97d6bdf9dbdab5bb2"), looks := false }, kinds := [], alts := [], laidByText := true, laidKinds := [.data, .data], laidTests := true, laidLooks := .later }
def CrushStackedCardSaid : Prop := Claim7.holds Tryd.pinned (.plain (OpenSpec.ofChange crushStackedSpec)) crushStackedCard

/-- THE TIED CARD OF 'testlinerlaw03.CrushMore'. -/
def crushMoreCard : Claim7 := { stood := { row := crushMoreRow, standIns := [], harness := (true, "297f8463b124370e2b72efd31c67678953b9b96d373b67f97d6bdf9dbdab5bb2"), looks := false }, kinds := [], alts := [], laidByText := true, laidKinds := [.data, .data], laidTests := true, laidLooks := .later }
def CrushMoreCardSaid : Prop := Claim7.holds Tryd.pinned (.plain (OpenSpec.ofChange crushMoreSpec)) crushMoreCard

/-- THE SECOND FORM's CARD OF 'testlinerlaw03.CrushDecides'. -/
def crushDecidesUptoCard : Claim7 := { stood := { row := crushDecidesUptoRow, standIns := [], harness := (true, "297f8463b124370e2b72efd31c67678953b9b96d373b67f97d6bdf9dbdab5bb2"), looks := false }, kinds := [], alts := [], laidByText := true, laidKinds := [.data, .data], laidTests := true, laidLooks := .later }
def CrushDecidesUptoCardSaid : Prop := Claim7.holds Tryd.pinned (.plain (OpenSpec.upto crushDecidesSpec)) crushDecidesUptoCard

/-- THE SECOND FORM's CARD OF 'testlinerlaw03.CrushOdds'. -/
def crushOddsUptoCard : Claim7 := { stood := { row := crushOddsUptoRow, standIns := [], harness := (true, "297f8463b124370e2b72efd31c67678953b9b96d373b67f97d6bdf9dbdab5bb2"), looks := false }, kinds := [], alts := [], laidByText := true, laidKinds := [.data, .data], laidTests := true, laidLooks := .later }
def CrushOddsUptoCardSaid : Prop := Claim7.holds Tryd.pinned (.plain (OpenSpec.upto crushOddsSpec)) crushOddsUptoCard

/-- THE SECOND FORM's CARD OF 'testlinerlaw03.CrushStrengths'. -/
def crushStrengthsUptoCard : Claim7 := { stood := { row := crushStrengthsUptoRow, standIns := [], harness := (true, "297f8463b124370e2b72efd31c67678953b9b96d373b67f97d6bdf9dbdab5bb2"), looks := false }, kinds := [], alts := [], laidByText := true, laidKinds := [.data, .data], laidTests := true, laidLooks := .later }
def CrushStrengthsUptoCardSaid : Prop := Claim7.holds Tryd.pinned (.plain (OpenSpec.upto crushStrengthsSpec)) crushStrengthsUptoCard

/-- THE SECOND FORM's CARD OF 'testlinerlaw03.CrushFalls'. -/
def crushFallsUptoCard : Claim7 := { stood := { row := crushFallsUptoRow, standIns := [], harness := (true, "297f8463b124370e2b72efd31c67678953b9b96d373b67f97d6bdf9dbdab5bb2"), looks := false }, kinds := [], alts := [], laidByText := true, laidKinds := [.data, .data], laidTests := true, laidLooks := .later }
def CrushFallsUptoCardSaid : Prop := Claim7.holds Tryd.pinned (.plain (OpenSpec.upto crushFallsSpec)) crushFallsUptoCard

/-- THE SECOND FORM's CARD OF 'testlinerlaw03.CrushHighs'. -/
def crushHighsUptoCard : Claim7 := { stood := { row := crushHighsUptoRow, standIns := [], harness := (true, "297f8463b124370e2b72efd31c67678953b9b96d373b67f97d6bdf9dbdab5bb2"), looks := false }, kinds := [], alts := [], laidByText := true, laidKinds := [.data, .data], laidTests := true, laidLooks := .later }
def CrushHighsUptoCardSaid : Prop := Claim7.holds Tryd.pinned (.plain (OpenSpec.upto crushHighsSpec)) crushHighsUptoCard

/-- THE SECOND FORM's CARD OF 'testlinerlaw03.CrushOrders'. -/
def crushOrdersUptoCard : Claim7 := { stood := { row := crushOrdersUptoRow, standIns := [], harness := (true, "297f8463b124370e2b72efd31c67678953b9b96d373b67f97d6bdf9dbdab5bb2"), looks := false }, kinds := [], alts := [], laidByText := true, laidKinds := [.data, .data], laidTests := true, laidLooks := .later }
def CrushOrdersUptoCardSaid : Prop := Claim7.holds Tryd.pinned (.plain (OpenSpec.upto crushOrdersSpec)) crushOrdersUptoCard

/-- THE SECOND FORM's CARD OF 'testlinerlaw03.CrushSure'. -/
def crushSureUptoCard : Claim7 := { stood := { row := crushSureUptoRow, standIns := [], harness := (true, "297f8463b124370e2b72efd31c67678953b9b96d373b67f97d6bdf9dbdab5bb2"), looks := false }, kinds := [], alts := [], laidByText := true, laidKinds := [.data, .data], laidTests := true, laidLooks := .later }
def CrushSureUptoCardSaid : Prop := Claim7.holds Tryd.pinned (.plain (OpenSpec.upto crushSureSpec)) crushSureUptoCard

/-- THE SECOND FORM's CARD OF 'testlinerlaw03.CrushFew'. -/
def crushFewUptoCard : Claim7 := { stood := { row := crushFewUptoRow, standIns := [], harness := (true, "297f8463b124370e2b72efd31c67678953b9b96d373b67f97d6bdf9dbdab5bb2"), looks := false }, kinds := [], alts := [], laidByText := true, laidKinds := [.data, .data], laidTests := true, laidLooks := .later }
def CrushFewUptoCardSaid : Prop := Claim7.holds Tryd.pinned (.plain (OpenSpec.upto crushFewSpec)) crushFewUptoCard

/-- THE SECOND FORM's CARD OF 'testlinerlaw03.CrushOut'. -/
def crushOutUptoCard : Claim7 := { stood := { row := crushOutUptoRow, standIns := [], harness := (true, "297f8463b124370e2b72efd31c67678953b9b96d373b67f97d6bdf9dbdab5bb2"), looks := false }, kinds := [], alts := [], laidByText := true, laidKinds := [.data, .data], laidTests := true, laidLooks := .later }
def CrushOutUptoCardSaid : Prop := Claim7.holds Tryd.pinned (.plain (OpenSpec.upto crushOutSpec)) crushOutUptoCard

/-- THE SECOND FORM's CARD OF 'testlinerlaw03.CrushRoot'. -/
def crushRootUptoCard : Claim7 := { stood := { row := crushRootUptoRow, standIns := [], harness := (true, "297f8463b124370e2b72efd31c67678953b9b96d373b67f97d6bdf9dbdab5bb2"), looks := false }, kinds := [], alts := [], laidByText := true, laidKinds := [.data, .data], laidTests := true, laidLooks := .later }
def CrushRootUptoCardSaid : Prop := Claim7.holds Tryd.pinned (.plain (OpenSpec.upto crushRootSpec)) crushRootUptoCard

/-- THE SECOND FORM's CARD OF 'testlinerlaw03.CrushStands'. -/
def crushStandsUptoCard : Claim7 := { stood := { row := crushStandsUptoRow, standIns := [], harness := (true, "297f8463b124370e2b72efd31c67678953b9b96d373b67f97d6bdf9dbdab5bb2"), looks := false }, kinds := [], alts := [], laidByText := true, laidKinds := [.data, .data], laidTests := true, laidLooks := .later }
def CrushStandsUptoCardSaid : Prop := Claim7.holds Tryd.pinned (.plain (OpenSpec.upto crushStandsSpec)) crushStandsUptoCard

/-- THE SECOND FORM's CARD OF 'testlinerlaw03.CrushStacked'. -/
def crushStackedUptoCard : Claim7 := { stood := { row := crushStackedUptoRow, standIns := [], harness := (true, "297f8463b124370e2b72efd31c67678953b9b96d373b67f97d6bdf9dbdab5bb2"), looks := false }, kinds := [], alts := [], laidByText := true, laidKinds := [.data, .data], laidTests := true, laidLooks := .later }
def CrushStackedUptoCardSaid : Prop := Claim7.holds Tryd.pinned (.plain (OpenSpec.upto crushStackedSpec)) crushStackedUptoCard

/-- THE SECOND FORM's CARD OF 'testlinerlaw03.CrushMore'. -/
def crushMoreUptoCard : Claim7 := { stood := { row := crushMoreUptoRow, standIns := [], harness := (true, "297f8463b124370e2b72efd31c67678953b9b96d373b67f97d6bdf9dbdab5bb2"), looks := false }, kinds := [], alts := [], laidByText := true, laidKinds := [.data, .data], laidTests := true, laidLooks := .later }
def CrushMoreUptoCardSaid : Prop := Claim7.holds Tryd.pinned (.plain (OpenSpec.upto crushMoreSpec)) crushMoreUptoCard
end Rows
end Go.Proofs.YtmkkedldhafjfaaDoor
