/- Helpers of a proof. -/
import Derived.Test.YtnbgonichmcfaaaW35
set_option linter.unusedVariables false
set_option linter.unusedSimpArgs false
section
set_option linter.unusedSimpArgs false
namespace Go.Dw
open Go.RowKit
variable {P : Program}
def exitQ [Lays] (i : Nat) (Q : Exit → St → Prop) (σF : St) : Exit → St → Prop := fun e σ => match e with
  | .exit j => if j = i then Ent σ σF else Q (.exit j) σ
  | e => Q e σ
theorem DW.leave [Lays] {x : SC} {Q : Exit → St → Prop} {σ : St} (i : Nat) (σF : St) (h : DW P x (exitQ i Q σF) σ) (hF : ∀ σ', Ent σ' σF → Q (.exit i) σ') : DW P x Q σ :=
  DW.mono h (fun e σ' q => by
    cases e with
    | exit j =>
      by_cases hj : j = i
      · subst hj
        exact hF _ (by simpa [exitQ] using q)
      · simpa [exitQ, hj] using q
    | normal => exact q
    | ret => exact q
    | goto _ => exact q
    | panic _ => exact q
    | outgrown => exact q)
theorem exit_self [Lays] {Q : Exit → St → Prop} {σF σ : St} {i : Nat} : exitQ i Q σF (.exit i) σ = Ent σ σF := if_pos rfl
theorem exit_ret [Lays] {Q : Exit → St → Prop} {σF σ : St} {i : Nat} : exitQ i Q σF .ret σ = Q .ret σ := rfl
theorem exit_normal [Lays] {Q : Exit → St → Prop} {σF σ : St} {i : Nat} : exitQ i Q σF .normal σ = Q .normal σ := rfl
attribute [go_sem] exit_self exit_ret exit_normal
end Go.Dw
end
