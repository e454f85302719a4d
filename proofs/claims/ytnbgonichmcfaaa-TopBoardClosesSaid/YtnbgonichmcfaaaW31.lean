/- Helpers of a proof. -/
import Derived.Test.YtnbgonichmcfaaaW30
set_option linter.unusedVariables false
set_option linter.unusedSimpArgs false
section
set_option linter.unusedSimpArgs false
namespace Go.Dw
open Go.RowKit
variable {P : Program} {α ε : Type}
theorem round_end [Lays] {nt : Nat} {v : Nat → Value} {tm : List (Nat × D)} {o : Option Exit} {bx : List (Nat × Blk)} {e : Exit} {σ : St} (h1 : e = o.getD .normal) (h2 : okJ o = true) (h3 : Ent σ ⟨nt, [], bx ++ [capB v tm]⟩) : roundQ nt v tm o bx e σ := ⟨h1, h2, h3⟩
attribute [go_sem] insPs capB List.cons_append List.nil_append
end Go.Dw
end
