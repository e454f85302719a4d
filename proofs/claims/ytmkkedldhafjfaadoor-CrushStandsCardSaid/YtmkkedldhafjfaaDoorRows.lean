/-
  NARROWER THAN 'FOR EVERY INPUT', by the rows' own cells (each row's printed sentence says how): CrushDecides: laid · CrushOdds: laid · CrushStrengths: laid · CrushFalls: laid · CrushHighs: laid · CrushOrders: laid · CrushSure: laid · CrushFew: laid · CrushOut: laid · CrushRoot: laid · CrushStands: laid · CrushStacked: laid · CrushMore: laid.
  DERIVED. THE GIVEN ROWS OF THIS SEAT. 13 by the template 'for every input the law returns true; each argument reads behind the call as it read before'; 0 by the template 'total and deterministic' (their statements: YtmkkedldhafjfaaDoorTotals.lean).
  GIVEN WITH THE SEED: the statements are not yours to turn. If you find one false, say at which input.
  Laid BY PROGRAM, IN A SANDBOX (cutbox-rows.mjs): the forced cells as the released guide's own fill.sh prints them over the translation 4fc1248d91702f16… (all of the seat's roots in one cut). By AI agents, Wed Nov 11 2026. No macro, syntax, notation, axiom, sorry.
-/
import Derived.Test.YtmkkedldhafjfaaDoorChecked
import GoSem.Claim
import GoSem.ClaimJoined
import GoSem.ClaimMapViews
import Derived.JoinedTies
import Derived.KernelRfl
namespace Go.Proofs.YtmkkedldhafjfaaDoor
/- THE CELL 'sum', in the pinned program and in every row, IS THE sha256 OF THE DUMP (.gsa) THAT YtmkkedldhafjfaaDoorProg.lean LOADS. Nothing in Lean hashes anything: it is a label: what it is worth is what the hold of that sum in a sandbox is worth. -/
noncomputable def Tryd.pinned : Pinned := { name := "ytmkkedldhafjfaadoor", sum := "4fc1248d91702f1668c01e70df6eb428df23dacdaa302799cb95585874c84c6c", checked := Tryd.checked }
namespace Rows
def none {H : Type} : Left H := { results := [], args := [] }

/- WHAT THE LISTED PACKAGE-LEVEL VARIABLES READ AS WHEN THE CALL BEGINS. Each datum BY PROGRAM (the guide's laid-datum.mjs) off the statement by which the dump's own 'gosem.cut.vars' lays the variable. In a bare row this is a premise. The card (YtmkkedldhafjfaaDoorCards.lean) ties it to the program's text. -/
def laid_math_bits_deBruijn32tab {H : Type} : DataW H := .agg [.lit (.int .u8 0), .lit (.int .u8 1), .lit (.int .u8 28), .lit (.int .u8 2), .lit (.int .u8 29), .lit (.int .u8 14), .lit (.int .u8 24), .lit (.int .u8 3), .lit (.int .u8 30), .lit (.int .u8 22), .lit (.int .u8 20), .lit (.int .u8 15), .lit (.int .u8 25), .lit (.int .u8 17), .lit (.int .u8 4), .lit (.int .u8 8), .lit (.int .u8 31), .lit (.int .u8 27), .lit (.int .u8 13), .lit (.int .u8 23), .lit (.int .u8 21), .lit (.int .u8 19), .lit (.int .u8 16), .lit (.int .u8 7), .lit (.int .u8 26), .lit (.int .u8 12), .lit (.int .u8 18), .lit (.int .u8 6), .lit (.int .u8 11), .lit (.int .u8 5), .lit (.int .u8 10), .lit (.int .u8 9)]
def laid_math_bits_deBruijn64tab {H : Type} : DataW H := .agg [.lit (.int .u8 0), .lit (.int .u8 1), .lit (.int .u8 56), .lit (.int .u8 2), .lit (.int .u8 57), .lit (.int .u8 49), .lit (.int .u8 28), .lit (.int .u8 3), .lit (.int .u8 61), .lit (.int .u8 58), .lit (.int .u8 42), .lit (.int .u8 50), .lit (.int .u8 38), .lit (.int .u8 29), .lit (.int .u8 17), .lit (.int .u8 4), .lit (.int .u8 62), .lit (.int .u8 47), .lit (.int .u8 59), .lit (.int .u8 36), .lit (.int .u8 45), .lit (.int .u8 43), .lit (.int .u8 51), .lit (.int .u8 22), .lit (.int .u8 53), .lit (.int .u8 39), .lit (.int .u8 33), .lit (.int .u8 30), .lit (.int .u8 24), .lit (.int .u8 18), .lit (.int .u8 12), .lit (.int .u8 5), .lit (.int .u8 63), .lit (.int .u8 55), .lit (.int .u8 48), .lit (.int .u8 27), .lit (.int .u8 60), .lit (.int .u8 41), .lit (.int .u8 37), .lit (.int .u8 16), .lit (.int .u8 46), .lit (.int .u8 35), .lit (.int .u8 44), .lit (.int .u8 21), .lit (.int .u8 52), .lit (.int .u8 32), .lit (.int .u8 23), .lit (.int .u8 11), .lit (.int .u8 54), .lit (.int .u8 26), .lit (.int .u8 40), .lit (.int .u8 15), .lit (.int .u8 34), .lit (.int .u8 20), .lit (.int .u8 31), .lit (.int .u8 10), .lit (.int .u8 25), .lit (.int .u8 14), .lit (.int .u8 19), .lit (.int .u8 9), .lit (.int .u8 13), .lit (.int .u8 8), .lit (.int .u8 7), .lit (.int .u8 6)]

/-- 'testlinerlaw03.CrushDecides': WHATEVER THE INPUT: true; the input reads as it did. -/
def crushDecidesSpec : ChangeSpec := { name := "crushDecides", fn := fun _ => fun
  | [d1, d2, d3] => { results := [.lit (.bool true)], args := [d1, d2, d3] }
  | _ => none }
def crushDecidesRow : OpenClaim := { program := "ytmkkedldhafjfaadoor", sum := "4fc1248d91702f1668c01e70df6eb428df23dacdaa302799cb95585874c84c6c", func := "testliner/testlinerlaw03.CrushDecides", spec := "crushDecides", unfollowed := true, recurses := true, named := ["math/bits.deBruijn32tab", "math/bits.deBruijn64tab"], apart := false, laid := [("math/bits.deBruijn32tab", laid_math_bits_deBruijn32tab), ("math/bits.deBruijn64tab", laid_math_bits_deBruijn64tab)] }
def CrushDecidesSaid : Prop := crushDecidesRow.holds Tryd.pinned (OpenSpec.ofChange crushDecidesSpec)

/-- ITS FALSE NEIGHBOUR: 'it returns false'. Refute it at one input. -/
def crushDecidesWrong : ChangeSpec := { name := "crushDecides", fn := fun _ => fun
  | [d1, d2, d3] => { results := [.lit (.bool false)], args := [d1, d2, d3] }
  | _ => none }
def CrushDecidesWrongFalsely : Prop := crushDecidesRow.holds Tryd.pinned (OpenSpec.ofChange crushDecidesWrong)

/-- 'testlinerlaw03.CrushOdds': WHATEVER THE INPUT: true; the input reads as it did. -/
def crushOddsSpec : ChangeSpec := { name := "crushOdds", fn := fun _ => fun
  | [d1, d2, d3] => { results := [.lit (.bool true)], args := [d1, d2, d3] }
  | _ => none }
def crushOddsRow : OpenClaim := { program := "ytmkkedldhafjfaadoor", sum := "4fc1248d91702f1668c01e70df6eb428df23dacdaa302799cb95585874c84c6c", func := "testliner/testlinerlaw03.CrushOdds", spec := "crushOdds", unfollowed := true, recurses := true, named := ["math/bits.deBruijn32tab", "math/bits.deBruijn64tab"], apart := false, laid := [("math/bits.deBruijn32tab", laid_math_bits_deBruijn32tab), ("math/bits.deBruijn64tab", laid_math_bits_deBruijn64tab)] }
def CrushOddsSaid : Prop := crushOddsRow.holds Tryd.pinned (OpenSpec.ofChange crushOddsSpec)

/-- ITS FALSE NEIGHBOUR: 'it returns false'. Refute it at one input. -/
def crushOddsWrong : ChangeSpec := { name := "crushOdds", fn := fun _ => fun
  | [d1, d2, d3] => { results := [.lit (.bool false)], args := [d1, d2, d3] }
  | _ => none }
def CrushOddsWrongFalsely : Prop := crushOddsRow.holds Tryd.pinned (OpenSpec.ofChange crushOddsWrong)

/-- 'testlinerlaw03.CrushStrengths': WHATEVER THE INPUT: true; the input reads as it did. -/
def crushStrengthsSpec : ChangeSpec := { name := "crushStrengths", fn := fun _ => fun
  | [d] => { results := [.lit (.bool true)], args := [d] }
  | _ => none }
def crushStrengthsRow : OpenClaim := { program := "ytmkkedldhafjfaadoor", sum := "4fc1248d91702f1668c01e70df6eb428df23dacdaa302799cb95585874c84c6c", func := "testliner/testlinerlaw03.CrushStrengths", spec := "crushStrengths", unfollowed := true, recurses := true, named := ["math/bits.deBruijn32tab", "math/bits.deBruijn64tab"], apart := false, laid := [("math/bits.deBruijn32tab", laid_math_bits_deBruijn32tab), ("math/bits.deBruijn64tab", laid_math_bits_deBruijn64tab)] }
def CrushStrengthsSaid : Prop := crushStrengthsRow.holds Tryd.pinned (OpenSpec.ofChange crushStrengthsSpec)

/-- ITS FALSE NEIGHBOUR: 'it returns false'. Refute it at one input. -/
def crushStrengthsWrong : ChangeSpec := { name := "crushStrengths", fn := fun _ => fun
  | [d] => { results := [.lit (.bool false)], args := [d] }
  | _ => none }
def CrushStrengthsWrongFalsely : Prop := crushStrengthsRow.holds Tryd.pinned (OpenSpec.ofChange crushStrengthsWrong)

/-- 'testlinerlaw03.CrushFalls': WHATEVER THE INPUT: true; the input reads as it did. -/
def crushFallsSpec : ChangeSpec := { name := "crushFalls", fn := fun _ => fun
  | [d1, d2, d3] => { results := [.lit (.bool true)], args := [d1, d2, d3] }
  | _ => none }
def crushFallsRow : OpenClaim := { program := "ytmkkedldhafjfaadoor", sum := "4fc1248d91702f1668c01e70df6eb428df23dacdaa302799cb95585874c84c6c", func := "testliner/testlinerlaw03.CrushFalls", spec := "crushFalls", unfollowed := true, recurses := true, named := ["math/bits.deBruijn32tab", "math/bits.deBruijn64tab"], apart := false, laid := [("math/bits.deBruijn32tab", laid_math_bits_deBruijn32tab), ("math/bits.deBruijn64tab", laid_math_bits_deBruijn64tab)] }
def CrushFallsSaid : Prop := crushFallsRow.holds Tryd.pinned (OpenSpec.ofChange crushFallsSpec)

/-- ITS FALSE NEIGHBOUR: 'it returns false'. Refute it at one input. -/
def crushFallsWrong : ChangeSpec := { name := "crushFalls", fn := fun _ => fun
  | [d1, d2, d3] => { results := [.lit (.bool false)], args := [d1, d2, d3] }
  | _ => none }
def CrushFallsWrongFalsely : Prop := crushFallsRow.holds Tryd.pinned (OpenSpec.ofChange crushFallsWrong)

/-- 'testlinerlaw03.CrushHighs': WHATEVER THE INPUT: true; the input reads as it did. -/
def crushHighsSpec : ChangeSpec := { name := "crushHighs", fn := fun _ => fun
  | [d1, d2, d3] => { results := [.lit (.bool true)], args := [d1, d2, d3] }
  | _ => none }
def crushHighsRow : OpenClaim := { program := "ytmkkedldhafjfaadoor", sum := "4fc1248d91702f1668c01e70df6eb428df23dacdaa302799cb95585874c84c6c", func := "testliner/testlinerlaw03.CrushHighs", spec := "crushHighs", unfollowed := true, recurses := true, named := ["math/bits.deBruijn32tab", "math/bits.deBruijn64tab"], apart := false, laid := [("math/bits.deBruijn32tab", laid_math_bits_deBruijn32tab), ("math/bits.deBruijn64tab", laid_math_bits_deBruijn64tab)] }
def CrushHighsSaid : Prop := crushHighsRow.holds Tryd.pinned (OpenSpec.ofChange crushHighsSpec)

/-- ITS FALSE NEIGHBOUR: 'it returns false'. Refute it at one input. -/
def crushHighsWrong : ChangeSpec := { name := "crushHighs", fn := fun _ => fun
  | [d1, d2, d3] => { results := [.lit (.bool false)], args := [d1, d2, d3] }
  | _ => none }
def CrushHighsWrongFalsely : Prop := crushHighsRow.holds Tryd.pinned (OpenSpec.ofChange crushHighsWrong)

/-- 'testlinerlaw03.CrushOrders': WHATEVER THE INPUT: true; the input reads as it did. -/
def crushOrdersSpec : ChangeSpec := { name := "crushOrders", fn := fun _ => fun
  | [d1, d2, d3] => { results := [.lit (.bool true)], args := [d1, d2, d3] }
  | _ => none }
def crushOrdersRow : OpenClaim := { program := "ytmkkedldhafjfaadoor", sum := "4fc1248d91702f1668c01e70df6eb428df23dacdaa302799cb95585874c84c6c", func := "testliner/testlinerlaw03.CrushOrders", spec := "crushOrders", unfollowed := true, recurses := true, named := ["math/bits.deBruijn32tab", "math/bits.deBruijn64tab"], apart := false, laid := [("math/bits.deBruijn32tab", laid_math_bits_deBruijn32tab), ("math/bits.deBruijn64tab", laid_math_bits_deBruijn64tab)] }
def CrushOrdersSaid : Prop := crushOrdersRow.holds Tryd.pinned (OpenSpec.ofChange crushOrdersSpec)

/-- ITS FALSE NEIGHBOUR: 'it returns false'. Refute it at one input. -/
def crushOrdersWrong : ChangeSpec := { name := "crushOrders", fn := fun _ => fun
  | [d1, d2, d3] => { results := [.lit (.bool false)], args := [d1, d2, d3] }
  | _ => none }
def CrushOrdersWrongFalsely : Prop := crushOrdersRow.holds Tryd.pinned (OpenSpec.ofChange crushOrdersWrong)

/-- 'testlinerlaw03.CrushSure': WHATEVER THE INPUT: true; the input reads as it did. -/
def crushSureSpec : ChangeSpec := { name := "crushSure", fn := fun _ => fun
  | [d] => { results := [.lit (.bool true)], args := [d] }
  | _ => none }
def crushSureRow : OpenClaim := { program := "ytmkkedldhafjfaadoor", sum := "4fc1248d91702f1668c01e70df6eb428df23dacdaa302799cb95585874c84c6c", func := "testliner/testlinerlaw03.CrushSure", spec := "crushSure", unfollowed := true, recurses := true, named := ["math/bits.deBruijn32tab", "math/bits.deBruijn64tab"], apart := false, laid := [("math/bits.deBruijn32tab", laid_math_bits_deBruijn32tab), ("math/bits.deBruijn64tab", laid_math_bits_deBruijn64tab)] }
def CrushSureSaid : Prop := crushSureRow.holds Tryd.pinned (OpenSpec.ofChange crushSureSpec)

/-- ITS FALSE NEIGHBOUR: 'it returns false'. Refute it at one input. -/
def crushSureWrong : ChangeSpec := { name := "crushSure", fn := fun _ => fun
  | [d] => { results := [.lit (.bool false)], args := [d] }
  | _ => none }
def CrushSureWrongFalsely : Prop := crushSureRow.holds Tryd.pinned (OpenSpec.ofChange crushSureWrong)

/-- 'testlinerlaw03.CrushFew': WHATEVER THE INPUT: true; the input reads as it did. -/
def crushFewSpec : ChangeSpec := { name := "crushFew", fn := fun _ => fun
  | [d1, d2, d3] => { results := [.lit (.bool true)], args := [d1, d2, d3] }
  | _ => none }
def crushFewRow : OpenClaim := { program := "ytmkkedldhafjfaadoor", sum := "4fc1248d91702f1668c01e70df6eb428df23dacdaa302799cb95585874c84c6c", func := "testliner/testlinerlaw03.CrushFew", spec := "crushFew", unfollowed := true, recurses := true, named := ["math/bits.deBruijn32tab", "math/bits.deBruijn64tab"], apart := false, laid := [("math/bits.deBruijn32tab", laid_math_bits_deBruijn32tab), ("math/bits.deBruijn64tab", laid_math_bits_deBruijn64tab)] }
def CrushFewSaid : Prop := crushFewRow.holds Tryd.pinned (OpenSpec.ofChange crushFewSpec)

/-- ITS FALSE NEIGHBOUR: 'it returns false'. Refute it at one input. -/
def crushFewWrong : ChangeSpec := { name := "crushFew", fn := fun _ => fun
  | [d1, d2, d3] => { results := [.lit (.bool false)], args := [d1, d2, d3] }
  | _ => none }
def CrushFewWrongFalsely : Prop := crushFewRow.holds Tryd.pinned (OpenSpec.ofChange crushFewWrong)

/-- 'testlinerlaw03.CrushOut': WHATEVER THE INPUT: true; the input reads as it did. -/
def crushOutSpec : ChangeSpec := { name := "crushOut", fn := fun _ => fun
  | [d1, d2, d3] => { results := [.lit (.bool true)], args := [d1, d2, d3] }
  | _ => none }
def crushOutRow : OpenClaim := { program := "ytmkkedldhafjfaadoor", sum := "4fc1248d91702f1668c01e70df6eb428df23dacdaa302799cb95585874c84c6c", func := "testliner/testlinerlaw03.CrushOut", spec := "crushOut", unfollowed := true, recurses := true, named := ["math/bits.deBruijn32tab", "math/bits.deBruijn64tab"], apart := false, laid := [("math/bits.deBruijn32tab", laid_math_bits_deBruijn32tab), ("math/bits.deBruijn64tab", laid_math_bits_deBruijn64tab)] }
def CrushOutSaid : Prop := crushOutRow.holds Tryd.pinned (OpenSpec.ofChange crushOutSpec)

/-- ITS FALSE NEIGHBOUR: 'it returns false'. Refute it at one input. -/
def crushOutWrong : ChangeSpec := { name := "crushOut", fn := fun _ => fun
  | [d1, d2, d3] => { results := [.lit (.bool false)], args := [d1, d2, d3] }
  | _ => none }
def CrushOutWrongFalsely : Prop := crushOutRow.holds Tryd.pinned (OpenSpec.ofChange crushOutWrong)

/-- 'testlinerlaw03.CrushRoot': WHATEVER THE INPUT: true; the input reads as it did. -/
def crushRootSpec : ChangeSpec := { name := "crushRoot", fn := fun _ => fun
  | [d1, d2] => { results := [.lit (.bool true)], args := [d1, d2] }
  | _ => none }
def crushRootRow : OpenClaim := { program := "ytmkkedldhafjfaadoor", sum := "4fc1248d91702f1668c01e70df6eb428df23dacdaa302799cb95585874c84c6c", func := "testliner/testlinerlaw03.CrushRoot", spec := "crushRoot", unfollowed := true, recurses := true, named := ["math/bits.deBruijn32tab", "math/bits.deBruijn64tab"], apart := false, laid := [("math/bits.deBruijn32tab", laid_math_bits_deBruijn32tab), ("math/bits.deBruijn64tab", laid_math_bits_deBruijn64tab)] }
def CrushRootSaid : Prop := crushRootRow.holds Tryd.pinned (OpenSpec.ofChange crushRootSpec)

/-- ITS FALSE NEIGHBOUR: 'it returns false'. Refute it at one input. -/
def crushRootWrong : ChangeSpec := { name := "crushRoot", fn := fun _ => fun
  | [d1, d2] => { results := [.lit (.bool false)], args := [d1, d2] }
  | _ => none }
def CrushRootWrongFalsely : Prop := crushRootRow.holds Tryd.pinned (OpenSpec.ofChange crushRootWrong)

/-- 'testlinerlaw03.CrushStands': WHATEVER THE INPUT: true; the input reads as it did. -/
def crushStandsSpec : ChangeSpec := { name := "crushStands", fn := fun _ => fun
  | [d1, d2, d3] => { results := [.lit (.bool true)], args := [d1, d2, d3] }
  | _ => none }
def crushStandsRow : OpenClaim := { program := "ytmkkedldhafjfaadoor", sum := "4fc1248d91702f1668c01e70df6eb428df23dacdaa302799cb95585874c84c6c", func := "testliner/testlinerlaw03.CrushStands", spec := "crushStands", unfollowed := true, recurses := true, named := ["math/bits.deBruijn32tab", "math/bits.deBruijn64tab"], apart := false, laid := [("math/bits.deBruijn32tab", laid_math_bits_deBruijn32tab), ("math/bits.deBruijn64tab", laid_math_bits_deBruijn64tab)] }
def CrushStandsSaid : Prop := crushStandsRow.holds Tryd.pinned (OpenSpec.ofChange crushStandsSpec)

/-- ITS FALSE NEIGHBOUR: 'it returns false'. Refute it at one input. -/
def crushStandsWrong : ChangeSpec := { name := "crushStands", fn := fun _ => fun
  | [d1, d2, d3] => { results := [.lit (.bool false)], args := [d1, d2, d3] }
  | _ => none }
def CrushStandsWrongFalsely : Prop := crushStandsRow.holds Tryd.pinned (OpenSpec.ofChange crushStandsWrong)

/-- 'testlinerlaw03.CrushStacked': WHATEVER THE INPUT: true; the input reads as it did. -/
def crushStackedSpec : ChangeSpec := { name := "crushStacked", fn := fun _ => fun
  | [d1, d2, d3] => { results := [.lit (.bool true)], args := [d1, d2, d3] }
  | _ => none }
def crushStackedRow : OpenClaim := { program := "ytmkkedldhafjfaadoor", sum := "4fc1248d91702f1668c01e70df6eb428df23dacdaa302799cb95585874c84c6c", func := "testliner/testlinerlaw03.CrushStacked", spec := "crushStacked", unfollowed := true, recurses := true, named := ["math/bits.deBruijn32tab", "math/bits.deBruijn64tab"], apart := false, laid := [("math/bits.deBruijn32tab", laid_math_bits_deBruijn32tab), ("math/bits.deBruijn64tab", laid_math_bits_deBruijn64tab)] }
def CrushStackedSaid : Prop := crushStackedRow.holds Tryd.pinned (OpenSpec.ofChange crushStackedSpec)

/-- ITS FALSE NEIGHBOUR: 'it returns false'. Refute it at one input. -/
def crushStackedWrong : ChangeSpec := { name := "crushStacked", fn := fun _ => fun
  | [d1, d2, d3] => { results := [.lit (.bool false)], args := [d1, d2, d3] }
  | _ => none }
def CrushStackedWrongFalsely : Prop := crushStackedRow.holds Tryd.pinned (OpenSpec.ofChange crushStackedWrong)

/-- 'testlinerlaw03.CrushMore': WHATEVER THE INPUT: true; the input reads as it did. -/
def crushMoreSpec : ChangeSpec := { name := "crushMore", fn := fun _ => fun
  | [d1, d2, d3] => { results := [.lit (.bool true)], args := [d1, d2, d3] }
  | _ => none }
def crushMoreRow : OpenClaim := { program := "ytmkkedldhafjfaadoor", sum := "4fc1248d91702f1668c01e70df6eb428df23dacdaa302799cb95585874c84c6c", func := "testliner/testlinerlaw03.CrushMore", spec := "crushMore", unfollowed := true, recurses := true, named := ["math/bits.deBruijn32tab", "math/bits.deBruijn64tab"], apart := false, laid := [("math/bits.deBruijn32tab", laid_math_bits_deBruijn32tab), ("math/bits.deBruijn64tab", laid_math_bits_deBruijn64tab)] }
def CrushMoreSaid : Prop := crushMoreRow.holds Tryd.pinned (OpenSpec.ofChange crushMoreSpec)

/-- ITS FALSE NEIGHBOUR: 'it returns false'. Refute it at one input. -/
def crushMoreWrong : ChangeSpec := { name := "crushMore", fn := fun _ => fun
  | [d1, d2, d3] => { results := [.lit (.bool false)], args := [d1, d2, d3] }
  | _ => none }
def CrushMoreWrongFalsely : Prop := crushMoreRow.holds Tryd.pinned (OpenSpec.ofChange crushMoreWrong)

/- THE SECOND FORM. 'bulk': how many values and letters a reading holds, each counted each time it is reached (what is shared counts as often as it is met; a slice's spare places count too). A statement '..UptoSaid' is the law's where the arguments, and the package variables that the reading takes, are together of bulk at most 1048576: NARROWER than '..Said'. Prove '..Said' where nothing that the law and all that it calls make is longer than what came in: it says more and counts as full. Else prove '..UptoSaid'. A law counts once. -/
mutual
def uptoBulk {H : Type} : DataW H → Nat
  | .lit (.string bytes) => bytes.length + 1
  | .lit _ => 1
  | .nil => 1
  | .ptr d => uptoBulk d + 1
  | .slice elems spare => uptoBulkAll elems + uptoBulkAll spare + 1
  | .agg parts => uptoBulkAll parts + 1
  | .iface _ d => uptoBulk d + 1
  | .map entries => uptoBulkEntries entries + 1
  | .held _ => 1
def uptoBulkAll {H : Type} : List (DataW H) → Nat
  | [] => 0
  | d :: r => uptoBulk d + uptoBulkAll r
def uptoBulkEntries {H : Type} : List (Lit × DataW H) → Nat
  | [] => 0
  | x :: r => uptoBulkEntry x + uptoBulkEntries r
def uptoBulkEntry {H : Type} : Lit × DataW H → Nat
  | (.string bytes, d) => bytes.length + uptoBulk d + 1
  | (_, d) => uptoBulk d + 1
 end
def uptoSmall : (H : Type) → List (DataW H) → Bool := fun _ ds => decide (uptoBulkAll ds ≤ 1048576)
def OpenSpec.upto (s : _root_.Go.ChangeSpec) : _root_.Go.OpenSpec := { _root_.Go.OpenSpec.ofChange s with cond := some uptoSmall }

/-- 'testlinerlaw03.CrushDecides', WHERE WHAT IT READS IS OF BULK AT MOST 1048576: true; the input reads as it did. -/
def crushDecidesUptoRow : OpenClaim := { program := "ytmkkedldhafjfaadoor", sum := "4fc1248d91702f1668c01e70df6eb428df23dacdaa302799cb95585874c84c6c", func := "testliner/testlinerlaw03.CrushDecides", spec := "crushDecides", unfollowed := true, recurses := true, named := ["math/bits.deBruijn32tab", "math/bits.deBruijn64tab"], apart := false, laid := [("math/bits.deBruijn32tab", laid_math_bits_deBruijn32tab), ("math/bits.deBruijn64tab", laid_math_bits_deBruijn64tab)], narrowed := true }
def CrushDecidesUptoSaid : Prop := crushDecidesUptoRow.holds Tryd.pinned (OpenSpec.upto crushDecidesSpec)

/-- 'testlinerlaw03.CrushOdds', WHERE WHAT IT READS IS OF BULK AT MOST 1048576: true; the input reads as it did. -/
def crushOddsUptoRow : OpenClaim := { program := "ytmkkedldhafjfaadoor", sum := "4fc1248d91702f1668c01e70df6eb428df23dacdaa302799cb95585874c84c6c", func := "testliner/testlinerlaw03.CrushOdds", spec := "crushOdds", unfollowed := true, recurses := true, named := ["math/bits.deBruijn32tab", "math/bits.deBruijn64tab"], apart := false, laid := [("math/bits.deBruijn32tab", laid_math_bits_deBruijn32tab), ("math/bits.deBruijn64tab", laid_math_bits_deBruijn64tab)], narrowed := true }
def CrushOddsUptoSaid : Prop := crushOddsUptoRow.holds Tryd.pinned (OpenSpec.upto crushOddsSpec)

/-- 'testlinerlaw03.CrushStrengths', WHERE WHAT IT READS IS OF BULK AT MOST 1048576: true; the input reads as it did. -/
def crushStrengthsUptoRow : OpenClaim := { program := "ytmkkedldhafjfaadoor", sum := "4fc1248d91702f1668c01e70df6eb428df23dacdaa302799cb95585874c84c6c", func := "testliner/testlinerlaw03.CrushStrengths", spec := "crushStrengths", unfollowed := true, recurses := true, named := ["math/bits.deBruijn32tab", "math/bits.deBruijn64tab"], apart := false, laid := [("math/bits.deBruijn32tab", laid_math_bits_deBruijn32tab), ("math/bits.deBruijn64tab", laid_math_bits_deBruijn64tab)], narrowed := true }
def CrushStrengthsUptoSaid : Prop := crushStrengthsUptoRow.holds Tryd.pinned (OpenSpec.upto crushStrengthsSpec)

/-- 'testlinerlaw03.CrushFalls', WHERE WHAT IT READS IS OF BULK AT MOST 1048576: true; the input reads as it did. -/
def crushFallsUptoRow : OpenClaim := { program := "ytmkkedldhafjfaadoor", sum := "4fc1248d91702f1668c01e70df6eb428df23dacdaa302799cb95585874c84c6c", func := "testliner/testlinerlaw03.CrushFalls", spec := "crushFalls", unfollowed := true, recurses := true, named := ["math/bits.deBruijn32tab", "math/bits.deBruijn64tab"], apart := false, laid := [("math/bits.deBruijn32tab", laid_math_bits_deBruijn32tab), ("math/bits.deBruijn64tab", laid_math_bits_deBruijn64tab)], narrowed := true }
def CrushFallsUptoSaid : Prop := crushFallsUptoRow.holds Tryd.pinned (OpenSpec.upto crushFallsSpec)

/-- 'testlinerlaw03.CrushHighs', WHERE WHAT IT READS IS OF BULK AT MOST 1048576: true; the input reads as it did. -/
def crushHighsUptoRow : OpenClaim := { program := "ytmkkedldhafjfaadoor", sum := "4fc1248d91702f1668c01e70df6eb428df23dacdaa302799cb95585874c84c6c", func := "testliner/testlinerlaw03.CrushHighs", spec := "crushHighs", unfollowed := true, recurses := true, named := ["math/bits.deBruijn32tab", "math/bits.deBruijn64tab"], apart := false, laid := [("math/bits.deBruijn32tab", laid_math_bits_deBruijn32tab), ("math/bits.deBruijn64tab", laid_math_bits_deBruijn64tab)], narrowed := true }
def CrushHighsUptoSaid : Prop := crushHighsUptoRow.holds Tryd.pinned (OpenSpec.upto crushHighsSpec)

/-- 'testlinerlaw03.CrushOrders', WHERE WHAT IT READS IS OF BULK AT MOST 1048576: true; the input reads as it did. -/
def crushOrdersUptoRow : OpenClaim := { program := "ytmkkedldhafjfaadoor", sum := "4fc1248d91702f1668c01e70df6eb428df23dacdaa302799cb95585874c84c6c", func := "testliner/testlinerlaw03.CrushOrders", spec := "crushOrders", unfollowed := true, recurses := true, named := ["math/bits.deBruijn32tab", "math/bits.deBruijn64tab"], apart := false, laid := [("math/bits.deBruijn32tab", laid_math_bits_deBruijn32tab), ("math/bits.deBruijn64tab", laid_math_bits_deBruijn64tab)], narrowed := true }
def CrushOrdersUptoSaid : Prop := crushOrdersUptoRow.holds Tryd.pinned (OpenSpec.upto crushOrdersSpec)

/-- 'testlinerlaw03.CrushSure', WHERE WHAT IT READS IS OF BULK AT MOST 1048576: true; the input reads as it did. -/
def crushSureUptoRow : OpenClaim := { program := "ytmkkedldhafjfaadoor", sum := "4fc1248d91702f1668c01e70df6eb428df23dacdaa302799cb95585874c84c6c", func := "testliner/testlinerlaw03.CrushSure", spec := "crushSure", unfollowed := true, recurses := true, named := ["math/bits.deBruijn32tab", "math/bits.deBruijn64tab"], apart := false, laid := [("math/bits.deBruijn32tab", laid_math_bits_deBruijn32tab), ("math/bits.deBruijn64tab", laid_math_bits_deBruijn64tab)], narrowed := true }
def CrushSureUptoSaid : Prop := crushSureUptoRow.holds Tryd.pinned (OpenSpec.upto crushSureSpec)

/-- 'testlinerlaw03.CrushFew', WHERE WHAT IT READS IS OF BULK AT MOST 1048576: true; the input reads as it did. -/
def crushFewUptoRow : OpenClaim := { program := "ytmkkedldhafjfaadoor", sum := "4fc1248d91702f1668c01e70df6eb428df23dacdaa302799cb95585874c84c6c", func := "testliner/testlinerlaw03.CrushFew", spec := "crushFew", unfollowed := true, recurses := true, named := ["math/bits.deBruijn32tab", "math/bits.deBruijn64tab"], apart := false, laid := [("math/bits.deBruijn32tab", laid_math_bits_deBruijn32tab), ("math/bits.deBruijn64tab", laid_math_bits_deBruijn64tab)], narrowed := true }
def CrushFewUptoSaid : Prop := crushFewUptoRow.holds Tryd.pinned (OpenSpec.upto crushFewSpec)

/-- 'testlinerlaw03.CrushOut', WHERE WHAT IT READS IS OF BULK AT MOST 1048576: true; the input reads as it did. -/
def crushOutUptoRow : OpenClaim := { program := "ytmkkedldhafjfaadoor", sum := "4fc1248d91702f1668c01e70df6eb428df23dacdaa302799cb95585874c84c6c", func := "testliner/testlinerlaw03.CrushOut", spec := "crushOut", unfollowed := true, recurses := true, named := ["math/bits.deBruijn32tab", "math/bits.deBruijn64tab"], apart := false, laid := [("math/bits.deBruijn32tab", laid_math_bits_deBruijn32tab), ("math/bits.deBruijn64tab", laid_math_bits_deBruijn64tab)], narrowed := true }
def CrushOutUptoSaid : Prop := crushOutUptoRow.holds Tryd.pinned (OpenSpec.upto crushOutSpec)

/-- 'testlinerlaw03.CrushRoot', WHERE WHAT IT READS IS OF BULK AT MOST 1048576: true; the input reads as it did. -/
def crushRootUptoRow : OpenClaim := { program := "ytmkkedldhafjfaadoor", sum := "4fc1248d91702f1668c01e70df6eb428df23dacdaa302799cb95585874c84c6c", func := "testliner/testlinerlaw03.CrushRoot", spec := "crushRoot", unfollowed := true, recurses := true, named := ["math/bits.deBruijn32tab", "math/bits.deBruijn64tab"], apart := false, laid := [("math/bits.deBruijn32tab", laid_math_bits_deBruijn32tab), ("math/bits.deBruijn64tab", laid_math_bits_deBruijn64tab)], narrowed := true }
def CrushRootUptoSaid : Prop := crushRootUptoRow.holds Tryd.pinned (OpenSpec.upto crushRootSpec)

/-- 'testlinerlaw03.CrushStands', WHERE WHAT IT READS IS OF BULK AT MOST 1048576: true; the input reads as it did. -/
def crushStandsUptoRow : OpenClaim := { program := "ytmkkedldhafjfaadoor", sum := "4fc1248d91702f1668c01e70df6eb428df23dacdaa302799cb95585874c84c6c", func := "testliner/testlinerlaw03.CrushStands", spec := "crushStands", unfollowed := true, recurses := true, named := ["math/bits.deBruijn32tab", "math/bits.deBruijn64tab"], apart := false, laid := [("math/bits.deBruijn32tab", laid_math_bits_deBruijn32tab), ("math/bits.deBruijn64tab", laid_math_bits_deBruijn64tab)], narrowed := true }
def CrushStandsUptoSaid : Prop := crushStandsUptoRow.holds Tryd.pinned (OpenSpec.upto crushStandsSpec)

/-- 'testlinerlaw03.CrushStacked', WHERE WHAT IT READS IS OF BULK AT MOST 1048576: true; the input reads as it did. -/
def crushStackedUptoRow : OpenClaim := { program := "ytmkkedldhafjfaadoor", sum := "4fc1248d91702f1668c01e70df6eb428df23dacdaa302799cb95585874c84c6c", func := "testliner/testlinerlaw03.CrushStacked", spec := "crushStacked", unfollowed := true, recurses := true, named := ["math/bits.deBruijn32tab", "math/bits.deBruijn64tab"], apart := false, laid := [("math/bits.deBruijn32tab", laid_math_bits_deBruijn32tab), ("math/bits.deBruijn64tab", laid_math_bits_deBruijn64tab)], narrowed := true }
def CrushStackedUptoSaid : Prop := crushStackedUptoRow.holds Tryd.pinned (OpenSpec.upto crushStackedSpec)

/-- 'testlinerlaw03.CrushMore', WHERE WHAT IT READS IS OF BULK AT MOST 1048576: true; the input reads as it did. -/
def crushMoreUptoRow : OpenClaim := { program := "ytmkkedldhafjfaadoor", sum := "4fc1248d91702f1668c01e70df6eb428df23dacdaa302799cb95585874c84c6c", func := "testliner/testlinerlaw03.CrushMore", spec := "crushMore", unfollowed := true, recurses := true, named := ["math/bits.deBruijn32tab", "math/bits.deBruijn64tab"], apart := false, laid := [("math/bits.deBruijn32tab", laid_math_bits_deBruijn32tab), ("math/bits.deBruijn64tab", laid_math_bits_deBruijn64tab)], narrowed := true }
def CrushMoreUptoSaid : Prop := crushMoreUptoRow.holds Tryd.pinned (OpenSpec.upto crushMoreSpec)

end Rows
end Go.Proofs.YtmkkedldhafjfaaDoor
