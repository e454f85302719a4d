/- Helpers of a proof. -/
import Derived.Test.YtnbgonichmcfaaaW44
set_option linter.unusedVariables false
set_option linter.unusedSimpArgs false
section
set_option linter.unusedSimpArgs false
namespace Go.Dw
open Go.RowKit
variable {P : Program} {α ε : Type}
def pnC (n : Nat) : Option (List Int) → List D
  | some xs => xs.map dI
  | none => List.replicate n .top
def pnB (p n : Nat) (c : Option (List Int)) : Blk := .pbox p (pnC n c)
theorem pn_plain (n : Nat) (c : Option (List Int)) : ∀ d ∈ pnC n c, (∃ x, d = dI x) ∨ d = .top := by
  intro d hd
  cases c with
  | none => exact .inr (List.eq_of_mem_replicate hd)
  | some xs =>
    obtain ⟨x, _, rfl⟩ := List.mem_map.1 hd
    exact .inl ⟨x, rfl⟩
theorem pn_keys (bx : List (Nat × Blk)) : ∀ l : List D, (∀ d ∈ l, (∃ x, d = dI x) ∨ d = .top) → D.keysIns bx l = true
  | [], _ => rfl
  | d :: l, h => by
    rw [D.keysIns, pn_keys bx l (fun x hx => h x (List.mem_cons_of_mem _ hx))]
    rcases h d (by simp) with ⟨x, rfl⟩ | rfl <;> rfl
theorem pn_mens (k : Nat) : ∀ l : List D, (∀ d ∈ l, (∃ x, d = dI x) ∨ d = .top) → D.mens k l = false
  | [], _ => rfl
  | d :: l, h => by
    rw [D.mens, pn_mens k l (fun x hx => h x (List.mem_cons_of_mem _ hx))]
    rcases h d (by simp) with ⟨x, rfl⟩ | rfl <;> rfl
theorem pn_map (f : D → D) (hf : ∀ x, f (dI x) = dI x) (ht : f .top = .top) : ∀ l : List D, (∀ d ∈ l, (∃ x, d = dI x) ∨ d = .top) → l.map f = l
  | [], _ => rfl
  | d :: l, h => by
    rw [List.map_cons, pn_map f hf ht l (fun x hx => h x (List.mem_cons_of_mem _ hx))]
    rcases h d (by simp) with ⟨x, rfl⟩ | rfl
    · rw [hf]
    · rw [ht]
theorem pn_rels (k : Nat) (x : Blk) : ∀ l : List D, (∀ d ∈ l, (∃ x, d = dI x) ∨ d = .top) → relDs k x l = l
  | [], _ => rfl
  | d :: l, h => by
    rw [relDs, pn_rels k x l (fun x hx => h x (List.mem_cons_of_mem _ hx))]
    rcases h d (by simp) with ⟨x, rfl⟩ | rfl <;> rfl
theorem pnB_men [Lays] (j p n : Nat) (c : Option (List Int)) : Blk.men j (pnB p n c) = false := pn_mens j _ (pn_plain n c)
theorem pnB_keys [Lays] (bx : List (Nat × Blk)) (p n : Nat) (c : Option (List Int)) : Blk.keysIn bx (pnB p n c) = true := pn_keys bx _ (pn_plain n c)
theorem pnB_kill [Lays] (j p n : Nat) (c : Option (List Int)) : killB j (pnB p n c) = pnB p n c := congrArg (Blk.pbox p) (pn_map (killD j) (fun _ => rfl) rfl _ (pn_plain n c))
theorem pnB_rel [Lays] (j : Nat) (x : Blk) (p n : Nat) (c : Option (List Int)) : relB j x (pnB p n c) = pnB p n c := congrArg (Blk.pbox p) (pn_rels j x _ (pn_plain n c))
attribute [go_sem] pnB_men pnB_keys pnB_kill pnB_rel
end Go.Dw
end
