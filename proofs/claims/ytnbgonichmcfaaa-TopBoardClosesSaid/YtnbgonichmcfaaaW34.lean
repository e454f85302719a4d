/- Helpers of a proof. -/
import Derived.Test.YtnbgonichmcfaaaW33
set_option linter.unusedVariables false
set_option linter.unusedSimpArgs false
section
namespace Go.Dw
open Go.RowKit
variable {P : Program}
mutual
inductive WkC : C → C → Prop
  | refl (c : C) : WkC c c
  | nil {a : Option Addr} {c : Nat} (bw : Bool) (n : Nat) : WkC (.v (.slice a 0 c)) (.sl bw n [])
  | sl {bw : Bool} {n : Nat} {es es' : List (List C)} : WkCss es es' → WkC (.sl bw n es) (.sl bw n es')
inductive WkCs : List C → List C → Prop
  | nil : WkCs [] []
  | cons {d d' : C} {ds ds' : List C} : WkC d d' → WkCs ds ds' → WkCs (d :: ds) (d' :: ds')
inductive WkCss : List (List C) → List (List C) → Prop
  | nil : WkCss [] []
  | cons {d d' : List C} {ds ds' : List (List C)} : WkCs d d' → WkCss ds ds' → WkCss (d :: ds) (d' :: ds')
end
section
variable {w : World} {A : Bool → Nat → Prop}
mutual
theorem WkC.sound : ∀ {d d' : C}, WkC d d' → ∀ {y : Value}, RepC w A d y → RepC w A d' y
  | _, _, .refl _, _, h => h
  | _, _, .nil bw n, y, h => by
    obtain ⟨rfl, _⟩ := h
    exact ⟨_, _, rfl, Nat.zero_le _, .inl rfl⟩
  | _, _, .sl hs, y, h => by
    obtain ⟨a, cap, rfl, hc, hr⟩ := h
    have hl := WkCss.len hs
    refine ⟨a, cap, by rw [hl], by rw [hl]; exact hc, ?_⟩
    rcases hr with rfl | ⟨b, off, rfl, hb, hA, hr⟩
    · cases hs; exact .inl rfl
    · exact .inr ⟨b, off, rfl, hb, hA, WkCss.sound hs hr⟩
theorem WkCs.sound : ∀ {ds ds' : List C}, WkCs ds ds' → ∀ {b o : Nat}, RepCs w A ds b o → RepCs w A ds' b o
  | _, _, .nil, _, _, _ => trivial
  | _, _, .cons h1 h, b, o, ⟨⟨x, hx, hr⟩, hr2⟩ => ⟨⟨x, hx, WkC.sound h1 hr⟩, WkCs.sound h hr2⟩
theorem WkCss.sound : ∀ {ds ds' : List (List C)}, WkCss ds ds' → ∀ {n b o : Nat}, RepEs w A n ds b o → RepEs w A n ds' b o
  | _, _, .nil, _, _, _, _ => trivial
  | _, _, .cons h1 h, n, b, o, ⟨hl, hr, hr2⟩ => ⟨by rw [← hl]; exact WkCs.len h1, WkCs.sound h1 hr, WkCss.sound h hr2⟩
theorem WkCs.len : ∀ {ds ds' : List C}, WkCs ds ds' → ds'.length = ds.length
  | _, _, .nil => rfl
  | _, _, .cons _ h => by simp [WkCs.len h]
theorem WkCss.len : ∀ {ds ds' : List (List C)}, WkCss ds ds' → ds'.length = ds.length
  | _, _, .nil => rfl
  | _, _, .cons _ h => by simp [WkCss.len h]
end
inductive WkA : List D → List D → Prop
  | nil : WkA [] []
  | cons {d d' : D} {ds ds' : List D} : (d = d' ∨ ∃ c c', d = .c c ∧ d' = .c c' ∧ WkC c c') → WkA ds ds' → WkA (d :: ds) (d' :: ds')
theorem WkA.sound {G : Gh} : ∀ {ds ds' : List D}, WkA ds ds' → ∀ {ys : List Value}, RepDs w A G ds ys → RepDs w A G ds' ys
  | _, _, .nil, _, h => h
  | _, _, .cons h1 h, ys, hr => by
    obtain ⟨y, ys, rfl, h2, h3⟩ := hr
    refine ⟨y, ys, rfl, ?_, WkA.sound h h3⟩
    rcases h1 with rfl | ⟨c, c', rfl, rfl, hw⟩
    · exact h2
    · exact hw.sound h2
end
end Go.Dw
end
