/- Helpers of a proof. -/
import Derived.Test.YtnbgonichmcfaaaW43
set_option linter.unusedVariables false
set_option linter.unusedSimpArgs false
section
set_option linter.unusedSimpArgs false
namespace Go.Dw
open Go.RowKit
variable {P : Program} {nt : Nat} {tm : List (Nat × D)} {bx : List (Nat × Blk)}
structure RowAt where
  l : Nat
  len : Nat
  cap : Nat
  m : Nat
def RowAt.v (p : RowAt) : Value := .slice (some ⟨p.l, 0, none⟩) p.len p.cap
mutual
def rpD (k : Nat) (p : RowAt) : D → D
  | .top => .top
  | .c c => .c c
  | .agg cs => .agg (rpDs k p cs)
  | .tup cs => .tup (rpDs k p cs)
  | .box j off => .box j off
  | .own j => if j = k then .c (.v p.v) else .own j
  | .elo j n i off => .elo j n i off
  | .hd j => .hd j
  | .win j n lo hi => if j = k ∧ lo < p.cap ∧ lo ≤ hi ∧ hi ≤ p.len then .c (.v (.slice (some ⟨p.l, lo * n, none⟩) (hi - lo) (p.cap - lo))) else .win j n lo hi
  | .fn f fs caps => .fn f (rpDs k p fs) (rpDs k p caps)
def rpDs (k : Nat) (p : RowAt) : List D → List D
  | [] => []
  | d :: ds => rpD k p d :: rpDs k p ds
end
section
variable {w : World} {G : Gh} {A : Bool → Nat → Prop} {k : Nat} {p : RowAt}
end
structure RowAt.ok (p : RowAt) (n : Nat) (es : List (List D)) : Prop where
  len : p.len = es.length
  cap : p.len ≤ p.cap
  m : es.length * n + p.m = p.cap * n
end Go.Dw
end
