/- Helpers of a proof. -/
import Derived.Test.YtakhpmbcndkkfaaW43
set_option linter.unusedVariables false
set_option linter.unusedSimpArgs false
section
set_option linter.unusedSimpArgs false
namespace Go.Dw
open Go.RowKit
variable {P : Program} {nt : Nat} {tm : List (Nat × D)} {bx : List (Nat × Blk)}
structure RowAt where
  l : Nat
  len : Nat
  cap : Nat
  m : Nat
def RowAt.v (p : RowAt) : Value := .slice (some ⟨p.l, 0, none⟩) p.len p.cap
section
variable {w : World} {G : Gh} {A : Bool → Nat → Prop} {k : Nat} {p : RowAt}
end
structure RowAt.ok (p : RowAt) (n : Nat) (es : List (List D)) : Prop where
  len : p.len = es.length
  cap : p.len ≤ p.cap
  m : es.length * n + p.m = p.cap * n
end Go.Dw
end
