/- Helpers of a proof. -/
import Derived.Test.YtnbgonichmcfaaaDoorW35
set_option linter.unusedVariables false
set_option linter.unusedSimpArgs false
section
set_option linter.unusedSimpArgs false
namespace Go.Dw
open Go.RowKit
variable {P : Program}
def exitQ [Lays] (i : Nat) (Q : Exit → St → Prop) (σF : St) : Exit → St → Prop := fun e σ => match e with
  | .exit j => if j = i then Ent σ σF else Q (.exit j) σ
  | e => Q e σ
theorem exit_self [Lays] {Q : Exit → St → Prop} {σF σ : St} {i : Nat} : exitQ i Q σF (.exit i) σ = Ent σ σF := if_pos rfl
theorem exit_ret [Lays] {Q : Exit → St → Prop} {σF σ : St} {i : Nat} : exitQ i Q σF .ret σ = Q .ret σ := rfl
theorem exit_normal [Lays] {Q : Exit → St → Prop} {σF σ : St} {i : Nat} : exitQ i Q σF .normal σ = Q .normal σ := rfl
attribute [go_sem] exit_self exit_ret exit_normal
end Go.Dw
end
