/- Helpers of a proof. -/
import Derived.Test.YtimgcfmeakekbaaW32
set_option linter.unusedVariables false
set_option linter.unusedSimpArgs false
section
namespace Go.Dw
open Go.RowKit
variable {P : Program} {nt : Nat} {tm : List (Nat × D)} {bx : List (Nat × Blk)}
section
variable {w : World} {A : Bool → Nat → Prop} {G : Gh} {k k' : Nat}
end
section
variable {α : Type} {e : α → List C} {n : Nat}
mutual
theorem relD_of {k : Nat} {x : Blk} : ∀ (d : D), d.men k = false → relD k x d = d
  | .top, _ => rfl
  | .c _, _ => rfl
  | .agg cs, h => by simp only [relD]; rw [relDs_of cs (by simpa [D.men] using h)]
  | .tup cs, h => by simp only [relD]; rw [relDs_of cs (by simpa [D.men] using h)]
  | .box j off, h => by simp only [relD]; rw [if_neg (by simpa [D.men] using h)]
  | .own j, h => by simp only [relD]; rw [if_neg (by simpa [D.men] using h)]
  | .elo j n i off, h => by simp only [relD]; rw [if_neg (by simpa [D.men] using h)]
  | .win j n lo hi, h => by simp only [relD]; rw [if_neg (by simpa [D.men] using h)]
  | .hd j, h => by simp only [relD]; rw [if_neg (by simpa [D.men] using h)]
  | .fn f fs caps, h => by
    simp only [D.men, Bool.or_eq_false_iff] at h
    simp only [relD]; rw [relDs_of fs h.1, relDs_of caps h.2]
theorem relDs_of {k : Nat} {x : Blk} : ∀ (ds : List D), D.mens k ds = false → relDs k x ds = ds
  | [], _ => rfl
  | d :: ds, h => by
    simp only [D.mens, Bool.or_eq_false_iff] at h
    simp only [relDs]; rw [relD_of d h.1, relDs_of ds h.2]
end
end
end Go.Dw
end
