/- Helpers of a proof. -/
import Derived.Test.YtkkbfndajnmhmaaW38
set_option linter.unusedVariables false
set_option linter.unusedSimpArgs false
section
set_option linter.unusedSimpArgs false
namespace Go.Dw
open Go.RowKit
variable {P : Program} {nt : Nat} {tm : List (Nat × D)} {bx : List (Nat × Blk)}
theorem RepDs.set {w : World} {A : Bool → Nat → Prop} {G : Gh} {d' : D} {x : Value} : ∀ {ds : List D} {ys : List Value} {i : Nat}, RepDs w A G ds ys → ds[i]? = some (.c (.v x)) → RepD w A G d' x → RepDs w A G (ds.set i d') ys
  | [], _, _, _, hi, _ => by simp at hi
  | d :: ds, _, 0, hr, hi, hd => by
    obtain ⟨y, ys, rfl, h1, h2⟩ := hr
    simp only [List.getElem?_cons_zero, Option.some.injEq] at hi
    subst hi
    obtain ⟨rfl, _⟩ := h1
    exact ⟨_, _, rfl, hd, h2⟩
  | d :: ds, _, i + 1, hr, hi, hd => by
    obtain ⟨y, ys, rfl, h1, h2⟩ := hr
    simp only [List.getElem?_cons_succ] at hi
    exact ⟨_, _, rfl, h1, RepDs.set h2 hi hd⟩
end Go.Dw
end
