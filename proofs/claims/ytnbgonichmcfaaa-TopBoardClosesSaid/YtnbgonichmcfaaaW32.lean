/- Helpers of a proof. -/
import Derived.Test.YtnbgonichmcfaaaW31
set_option linter.unusedVariables false
set_option linter.unusedSimpArgs false
section
namespace Go.Dw
open Go.RowKit
variable {P : Program} {nt : Nat} {tm : List (Nat × D)} {bx : List (Nat × Blk)}
def stk (f : Nat → Blk) : Nat → List (Nat × Blk) → List (Nat × Blk)
  | 0, bx => bx
  | n + 1, bx => (1000 + n, f n) :: stk f n bx
theorem get_stk (f : Nat → Blk) (k : Nat) (bx : List (Nat × Blk)) : ∀ n, get k (stk f n bx) = if 1000 ≤ k ∧ k < 1000 + n then some (f (k - 1000)) else get k bx
  | 0 => by rw [if_neg (by omega)]; rfl
  | n + 1 => by
    simp only [stk, get, get_stk f k bx n]
    by_cases h1 : k = 1000 + n
    · subst h1
      rw [if_pos rfl, if_pos (by omega)]; simp
    · rw [if_neg h1]
      by_cases h2 : 1000 ≤ k ∧ k < 1000 + n
      · rw [if_pos h2, if_pos (by omega)]
      · rw [if_neg h2, if_neg (by omega)]
theorem stk_congr {f g : Nat → Blk} {bx : List (Nat × Blk)} : ∀ n, (∀ j, j < n → f j = g j) → stk f n bx = stk g n bx
  | 0, _ => rfl
  | n + 1, h => by simp only [stk]; rw [h n (by omega), stk_congr n (fun j hj => h j (by omega))]
theorem ins_stk_lo {f : Nat → Blk} {bx : List (Nat × Blk)} {k : Nat} {x : Blk} (hk : k < 1000) : ∀ n, ins k x (stk f n bx) = stk f n (ins k x bx)
  | 0 => rfl
  | n + 1 => by
    simp only [stk, ins]
    rw [if_neg (by omega), if_neg (by omega), ins_stk_lo hk n]
theorem ins_stk [Lays] {f : Nat → Blk} {bx : List (Nat × Blk)} {i : Nat} {x : Blk} : ∀ n, i < n → ins (1000 + i) x (stk f n bx) = stk (fun j => if j = i then x else f j) n bx
  | 0, h => by omega
  | n + 1, h => by
    simp only [stk, ins]
    rw [if_neg (by omega)]
    by_cases h1 : i = n
    · subst h1
      rw [if_pos rfl, if_pos rfl]
      congr 1
      exact stk_congr _ (fun j hj => by rw [if_neg (by omega)])
    · rw [if_neg (by omega), if_neg (fun e => h1 e.symm), ins_stk n (by omega)]
theorem map_stk {f : Nat → Blk} {bx : List (Nat × Blk)} (g : Blk → Blk) : ∀ n, (stk f n bx).map (fun p => (p.1, g p.2)) = stk (fun j => g (f j)) n (bx.map fun p => (p.1, g p.2))
  | 0 => rfl
  | n + 1 => by simp only [stk, List.map_cons, map_stk g n]
theorem any_stk {f : Nat → Blk} {bx : List (Nat × Blk)} (q : Nat × Blk → Bool) : ∀ n, (∀ j, j < n → q (1000 + j, f j) = false) → (stk f n bx).any q = bx.any q
  | 0, _ => rfl
  | n + 1, h => by simp only [stk, List.any_cons, h n (by omega), Bool.false_or, any_stk q n (fun j hj => h j (by omega))]
theorem all_stk {f : Nat → Blk} {bx : List (Nat × Blk)} (q : Nat × Blk → Bool) : ∀ n, (∀ j, j < n → q (1000 + j, f j) = true) → (stk f n bx).all q = bx.all q
  | 0, _ => rfl
  | n + 1, h => by simp only [stk, List.all_cons, h n (by omega), Bool.true_and, all_stk q n (fun j hj => h j (by omega))]
section
variable {α : Type} {e : α → List C} {n : Nat}
def nestB (n : Nat) (e : α → List C) (gs : List (List α)) (j : Nat) : Blk := .row n (rowC (rows e (gs[j]?.getD [])))
def nest (n : Nat) (e : α → List C) (gs : List (List α)) (bx : List (Nat × Blk)) : List (Nat × Blk) := stk (nestB n e gs) gs.length bx
def owns (n : Nat) : List (List D) := (List.range n).map fun i => [.own (1000 + i)]
theorem owns_length (n : Nat) : (owns n).length = n := by simp [owns]
theorem owns_get (n i : Nat) : (owns n)[i]? = if i < n then some [.own (1000 + i)] else none := by
  simp only [owns, List.getElem?_map]
  by_cases h : i < n
  · rw [List.getElem?_range h, if_pos h]; rfl
  · rw [List.getElem?_eq_none (by simp; omega), if_neg h]; rfl
theorem owns_at [Lays] (n i : Nat) (h : i < n) : (owns n)[i]? = some [.own (1000 + i)] := by rw [owns_get, if_pos h]
theorem owns_put [Lays] (n i : Nat) (x : List D) (h : i < n) : ((owns n).set i x)[i]? = some x := by
  rw [List.getElem?_set_self (by rw [owns_length]; exact h)]
theorem owns_back [Lays] (n i : Nat) (x : List D) (h : i < n) : ((owns n).set i x).set i [.own (1000 + i)] = owns n := by
  rw [List.set_set]
  apply List.ext_getElem?
  intro j
  rw [List.getElem?_set, owns_get, owns_length]
  by_cases h1 : i = j
  · subst h1; simp [h]
  · simp [h1]
theorem owns_kill [Lays] (n i : Nat) (h : i < n) : (owns n).map (·.map (killD (1000 + i))) = (owns n).set i [.top] := by
  apply List.ext_getElem?
  intro j
  rw [List.getElem?_map, List.getElem?_set, owns_get, owns_length]
  by_cases h1 : i = j
  · subst h1; simp [h, killD, D.men]
  · by_cases h2 : j < n
    · simp [h1, h2, killD, D.men, Ne.symm h1]
    · simp [h1, h2]
theorem killB_owns [Lays] (m n i : Nat) (h : i < n) : killB (1000 + i) (.row m (owns n)) = .row m ((owns n).set i [.top]) := by
  show Blk.row m ((owns n).map _) = _
  rw [← owns_kill n i h]
theorem owns_kill_lo (n k : Nat) (h : k < 1000) : (owns n).map (·.map (killD k)) = owns n := by
  simp only [owns, List.map_map]
  apply List.map_congr_left
  intro i _
  have : (1000 + i == k) = false := by simp; omega
  simp [killD, D.men, this]
theorem killB_owns_lo [Lays] (m n k : Nat) (h : k < 1000) : killB k (.row m (owns n)) = .row m (owns n) := by
  show Blk.row m ((owns n).map _) = _
  rw [owns_kill_lo n k h]
theorem owns_any (n k : Nat) (h : k < 1000) : (owns n).any (D.mens k) = false := by
  simp only [owns, List.any_map, List.any_eq_false]
  intro i _
  have : (1000 + i == k) = false := by simp; omega
  simp [D.mens, D.men, this]
theorem owns_keys [Lays] (gs : List (List α)) (bx : List (Nat × Blk)) : (owns gs.length).all (D.keysIns (nest n e gs bx)) = true := by
  simp only [owns, List.all_map, List.all_eq_true, List.mem_range]
  intro i hi
  simp only [Function.comp, D.keysIns, D.keysIn, nest, get_stk, Bool.and_true]
  rw [if_pos (by omega)]; rfl
theorem get_nest_lo [Lays] (gs : List (List α)) (bx : List (Nat × Blk)) (k : Nat) (h : k < 1000) : get k (nest n e gs bx) = get k bx := by
  rw [nest, get_stk, if_neg (by omega)]
theorem get_nest [Lays] (gs : List (List α)) (bx : List (Nat × Blk)) (i : Nat) {g : List α} (h : gs[i]? = some g) : get (1000 + i) (nest n e gs bx) = some (.row n (rowC (rows e g))) := by
  have hi : i < gs.length := (List.getElem?_eq_some_iff.1 h).1
  rw [nest, get_stk, if_pos (by omega)]
  simp [nestB, h]
theorem ins_nest_lo [Lays] (gs : List (List α)) (bx : List (Nat × Blk)) (k : Nat) (x : Blk) (h : k < 1000) : ins k x (nest n e gs bx) = nest n e gs (ins k x bx) := ins_stk_lo h _
theorem ins_nest [Lays] (gs : List (List α)) (bx : List (Nat × Blk)) (i : Nat) (g : List α) (h : i < gs.length) : ins (1000 + i) (.row n (rowC (rows e g))) (nest n e gs bx) = nest n e (gs.set i g) bx := by
  rw [nest, ins_stk _ h, nest, List.length_set]
  refine stk_congr _ (fun j hj => ?_)
  simp only [nestB, List.getElem?_set]
  by_cases h1 : j = i
  · subst h1; simp [h]
  · simp [h1, Ne.symm h1]
theorem kill_nest [Lays] (gs : List (List α)) (bx : List (Nat × Blk)) (k : Nat) : (nest n e gs bx).map (fun p => (p.1, killB k p.2)) = nest n e gs (bx.map fun p => (p.1, killB k p.2)) := by
  rw [nest, map_stk, nest]
  exact stk_congr _ (fun j _ => killB_row (rowC_men k n _))
theorem any_nest [Lays] (gs : List (List α)) (bx : List (Nat × Blk)) (k : Nat) : (nest n e gs bx).any (fun p => p.2.men k) = bx.any (fun p => p.2.men k) := any_stk _ _ (fun _ _ => rowC_men k n _)
theorem all_nest [Lays] (gs : List (List α)) (bx bx' : List (Nat × Blk)) : (nest n e gs bx).all (fun p => p.2.keysIn bx') = bx.all (fun p => p.2.keysIn bx') := all_stk _ _ (fun _ _ => rowC_keysIn bx' n _)
theorem closeE1_owns [Lays] (gs : List (List α)) (bx : List (Nat × Blk)) (nt : Nat) (tm : List (Nat × D)) : closeE1 ⟨nt, tm, nest n e gs bx⟩ (owns gs.length) = some (rows (fun g => [C.sl true n (rows e g)]) gs) := by
  have key : ∀ (m : Nat) (l : List Nat) (ls : List (List α)), (∀ j : Nat, j < l.length → ∃ i g, l[j]? = some i ∧ ls[j]? = some g ∧ gs[i]? = some g) → l.length = ls.length → m = l.length →
      closeE1 ⟨nt, tm, nest n e gs bx⟩ (l.map fun i => [.own (1000 + i)]) = some (rows (fun g => [C.sl true n (rows e g)]) ls) := by
    intro m
    induction m with
    | zero =>
      intro l ls _ hl hm
      have h1 : l = [] := List.eq_nil_of_length_eq_zero hm.symm
      subst h1
      have h2 : ls = [] := List.eq_nil_of_length_eq_zero (by simpa using hl.symm)
      subst h2; rfl
    | succ m ih =>
      intro l ls h hl hm
      cases l with
      | nil => simp at hm
      | cons i l => cases ls with
        | nil => simp at hl
        | cons g ls =>
          have h0 := h 0 (by simp)
          simp only [List.getElem?_cons_zero, Option.some.injEq, exists_eq_left', ] at h0
          obtain ⟨i', g', rfl, rfl, hg⟩ := h0
          have h1 := ih l ls (fun j hj => by simpa using h (j + 1) (by simp; omega)) (by simpa using hl) (by simp at hm; omega)
          simp only [List.map_cons, closeE1, closeCs1, closeC1, get_nest gs bx i hg, closedEs_rowC, Option.map_some, h1, rows_cons]
  exact key gs.length (List.range gs.length) gs (fun j hj => by
    simp only [List.length_range] at hj
    exact ⟨j, gs[j], List.getElem?_range hj, by simp [hj], by simp [hj]⟩) (by simp) (by simp)
end
end Go.Dw
end
