/- Helpers of a proof. -/
import Derived.Test.YtakhpmbcndkkfaaW43
set_option linter.unusedVariables false
set_option linter.unusedSimpArgs false
section
set_option linter.unusedSimpArgs false
namespace Go.Dw
open Go.RowKit
variable {P : Program} {nt : Nat} {tm : List (Nat × D)} {bx : List (Nat × Blk)}
structure RowAt where
  l : Nat
  len : Nat
  cap : Nat
  m : Nat
def RowAt.v (p : RowAt) : Value := .slice (some ⟨p.l, 0, none⟩) p.len p.cap
mutual
def rpD (k : Nat) (p : RowAt) : D → D
  | .top => .top
  | .c c => .c c
  | .agg cs => .agg (rpDs k p cs)
  | .tup cs => .tup (rpDs k p cs)
  | .box j off => .box j off
  | .own j => if j = k then .c (.v p.v) else .own j
  | .elo j n i off => .elo j n i off
  | .hd j => .hd j
  | .win j n lo hi => if j = k ∧ lo < p.cap ∧ lo ≤ hi ∧ hi ≤ p.len then .c (.v (.slice (some ⟨p.l, lo * n, none⟩) (hi - lo) (p.cap - lo))) else .win j n lo hi
  | .fn f fs caps => .fn f (rpDs k p fs) (rpDs k p caps)
def rpDs (k : Nat) (p : RowAt) : List D → List D
  | [] => []
  | d :: ds => rpD k p d :: rpDs k p ds
end
section
variable {w : World} {G : Gh} {A : Bool → Nat → Prop} {k : Nat} {p : RowAt}
mutual
theorem rpD_to (hg : G.γ k = p.v) : ∀ (d : D) (y : Value), RepD w A G d y → RepD w A G (rpD k p d) y
  | .top, _, _ => trivial
  | .c c, y, h => h
  | .agg cs, y, h => by
    obtain ⟨ys, rfl, h⟩ := h
    exact ⟨ys, rfl, rpDs_to hg cs _ h⟩
  | .tup cs, y, h => by
    obtain ⟨ys, rfl, h⟩ := h
    exact ⟨ys, rfl, rpDs_to hg cs _ h⟩
  | .box j off, y, h => h
  | .own j, y, h => by
    simp only [rpD]
    split
    · rename_i e; subst e
      obtain ⟨rfl, _⟩ := h
      rw [hg]
      exact ⟨rfl, rfl⟩
    · exact h
  | .elo _ _ _ _, _, h => h
  | .hd j, y, h => h
  | .win j n lo hi, y, h => by
    simp only [rpD]
    split
    · rename_i e
      obtain ⟨rfl, e1, e2, e3⟩ := e
      obtain ⟨a, l, c, h1, _, _, rfl⟩ := h
      rw [hg] at h1
      cases h1
      rw [if_neg (by omega)]
      simp only [Option.map_some]
      refine ⟨?_, rfl⟩
      simp only [Addr.add, Nat.zero_add]
      by_cases h0 : lo * n = 0
      · rw [if_pos h0, h0]
      · rw [if_neg h0]
    · exact h
  | .fn f fs caps, y, h => by
    obtain ⟨x1, x2, rfl, h1, h2⟩ := h
    exact ⟨x1, x2, rfl, rpDs_to hg fs _ h1, rpDs_to hg caps _ h2⟩
theorem rpDs_to (hg : G.γ k = p.v) : ∀ (ds : List D) (ys : List Value), RepDs w A G ds ys → RepDs w A G (rpDs k p ds) ys
  | [], _, h => h
  | d :: ds, _, h => by
    obtain ⟨y, ys, rfl, h1, h2⟩ := h
    exact ⟨y, ys, rfl, rpD_to hg d y h1, rpDs_to hg ds ys h2⟩
end
end
def rpT (k : Nat) (p : RowAt) : List (Nat × D) → List (Nat × D)
  | [] => []
  | q :: r => (q.1, rpD k p q.2) :: rpT k p r
theorem get_rpT {k : Nat} {p : RowAt} {t : Nat} : ∀ {r : List (Nat × D)}, get t (rpT k p r) = (get t r).map (rpD k p)
  | [] => rfl
  | q :: r => by
    simp only [rpT, get]
    split
    · rfl
    · exact get_rpT
def RowAt.blk (p : RowAt) (es : List (List D)) : Blk := .pbox p.l (es.flatten ++ List.replicate p.m .top)
structure RowAt.ok (p : RowAt) (n : Nat) (es : List (List D)) : Prop where
  len : p.len = es.length
  cap : p.len ≤ p.cap
  m : es.length * n + p.m = p.cap * n
end Go.Dw
end
