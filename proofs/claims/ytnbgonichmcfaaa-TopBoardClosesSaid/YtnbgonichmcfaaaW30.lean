/- Helpers of a proof. -/
import Derived.Test.YtnbgonichmcfaaaW29
set_option linter.unusedVariables false
set_option linter.unusedSimpArgs false
section
namespace Go.Dw
open Go.RowKit
variable {P : Program}
attribute [go_sem] del
def cutQ [Lays] (Q : Exit → St → Prop) (σF : St) : Exit → St → Prop := fun e σ => match e with
  | .normal => Ent σ σF
  | e => Q e σ
theorem DW.cut [Lays] {x y : SC} {Q : Exit → St → Prop} {σ : St} (σF : St) (h : DW P x (cutQ Q σF) σ) (hy : DW P y Q σF) : DW P (.seq x y) Q σ :=
  DW.seq (DW.mono h (fun e σ' q => by
    cases e <;> first | exact DW.ent q hy | exact q))
theorem cut_normal [Lays] {Q : Exit → St → Prop} {σF σ : St} : cutQ Q σF .normal σ = Ent σ σF := rfl
theorem cut_ret [Lays] {Q : Exit → St → Prop} {σF σ : St} : cutQ Q σF .ret σ = Q .ret σ := rfl
theorem cut_exit [Lays] {Q : Exit → St → Prop} {σF σ : St} {i : Nat} : cutQ Q σF (.exit i) σ = Q (.exit i) σ := rfl
attribute [go_sem] cut_normal cut_ret cut_exit
end Go.Dw
end
