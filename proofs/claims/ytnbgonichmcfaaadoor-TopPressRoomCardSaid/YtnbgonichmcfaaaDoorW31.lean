/- Helpers of a proof. -/
import Derived.Test.YtnbgonichmcfaaaDoorW30
set_option linter.unusedVariables false
set_option linter.unusedSimpArgs false
section
set_option linter.unusedSimpArgs false
namespace Go.Dw
open Go.RowKit
variable {P : Program} {α ε : Type}
theorem Ent.toT [Lays] {nt : Nat} {tm tm' : List (Nat × D)} {bx : List (Nat × Blk)} (ht : wkT tm tm') : Ent ⟨nt, tm, bx⟩ ⟨nt, tm', bx⟩ :=
  Ent.weak (fun _ _ h => wkT_mem ht _ (get_mem h)) (fun _ x h => ⟨x, h, .refl x⟩)
theorem round_end [Lays] {nt : Nat} {v : Nat → Value} {tm : List (Nat × D)} {o : Option Exit} {bx : List (Nat × Blk)} {e : Exit} {σ : St} (h1 : e = o.getD .normal) (h2 : okJ o = true) (h3 : Ent σ ⟨nt, [], bx ++ [capB v tm]⟩) : roundQ nt v tm o bx e σ := ⟨h1, h2, h3⟩
attribute [go_sem] insPs capB List.cons_append List.nil_append
end Go.Dw
end
