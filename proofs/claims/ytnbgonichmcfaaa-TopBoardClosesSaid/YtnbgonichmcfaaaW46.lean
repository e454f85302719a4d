/- Helpers of a proof. -/
import Derived.Test.YtnbgonichmcfaaaW45
set_option linter.unusedVariables false
set_option linter.unusedSimpArgs false
section
set_option linter.unusedSimpArgs false
namespace Go.Dw
open Go.RowKit
variable {P : Program} {nt : Nat} {tm : List (Nat × D)} {bx : List (Nat × Blk)}
def rpB (k : Nat) (p : RowAt) : Blk → Blk
  | .box cs => .box (rpDs k p cs)
  | .row n es => .row n (es.map (rpDs k p))
  | .lp o v tm => .lp o v (tm.map fun q => (q.1, rpD k p q.2))
  | .map ks ds => .map ks (rpDs k p ds)
  | .pmap l' ks ds => .pmap l' ks (rpDs k p ds)
  | .pbox l' ds => .pbox l' (rpDs k p ds)
def rpX (k : Nat) (p : RowAt) : List (Nat × Blk) → List (Nat × Blk)
  | [] => []
  | q :: r => (q.1, rpB k p q.2) :: rpX k p r
attribute [go_sem] rpX rpB
end Go.Dw
end
