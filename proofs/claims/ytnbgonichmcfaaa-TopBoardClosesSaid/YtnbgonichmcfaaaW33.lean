/- Helpers of a proof. -/
import Derived.Test.YtnbgonichmcfaaaW32
set_option linter.unusedVariables false
set_option linter.unusedSimpArgs false
section
namespace Go.Dw
open Go.RowKit
variable {P : Program} {nt : Nat} {tm : List (Nat × D)} {bx : List (Nat × Blk)}
theorem call_e [Lays] {Q : St → Prop} {l : List SO} {d : Tmp} {f : Operand} {args : Array Operand} {tys : Array TypeId} {g : FuncId} {fs caps as : List D} {r : D} {o : Option (FuncId × List D)} {tm0 : List (Nat × D)} {bx0 : List (Nat × Blk)}
    (he : Ent ⟨nt, tm, bx⟩ ⟨nt, tm0, bx0⟩) (hc : DCall P g as [] r []) (hce : calleeD (St.op ⟨nt, tm0, bx0⟩ f) = some (g, fs, caps)) (hcl : closeDs ⟨nt, tm0, bx0⟩ none (fs ++ args.toList.map (St.op ⟨nt, tm0, bx0⟩) ++ caps) = some as)
    (hd : d < nt) (h : opsS P false Q l ⟨nt, ins d r tm0, bx0⟩) : opsC P false Q l d f args tys ⟨nt, tm, bx⟩ o := fun _ => o_callE he rfl hc hce (.inl hcl) trivial (fun t ht => by cases ht; exact hd) h
theorem lo_beq (k i : Nat) (h : k < 1000) : (k == 1000 + i) = false := by simp; omega
theorem hi_beq (k i : Nat) (h : k < 1000) : (1000 + i == k) = false := by simp; omega
theorem owns_set (n i : Nat) (x y : List D) : ((owns n).set i x).set i y = (owns n).set i y := by rw [List.set_set]
theorem owns_new [Lays] (n : Nat) (x y : List D) : (owns n ++ [x]).set n y = owns n ++ [y] := by
  rw [List.set_append_right _ _ (by rw [owns_length]; exact Nat.le_refl _), owns_length, Nat.sub_self]; rfl
theorem owns_last [Lays] (n : Nat) (x : List D) : (owns n ++ [x])[n]? = some x := by
  rw [List.getElem?_append_right (by rw [owns_length]; exact Nat.le_refl _), owns_length, Nat.sub_self]; rfl
theorem get_nest_at [Lays] {α : Type} {e : α → List C} {n : Nat} (gs : List (List α)) (bx : List (Nat × Blk)) (i : Nat) (h : i < gs.length) : get (1000 + i) (nest n e gs bx) = (gs[i]?).map fun g => .row n (rowC (rows e g)) := by
  have hg : gs[i]? = some gs[i] := by simp [h]
  rw [get_nest gs bx i hg, hg]; rfl
attribute [go_sem] get_nest_at
theorem owns_set_length [Lays] (n i : Nat) (x : List D) : ((owns n).set i x).length = n := by rw [List.length_set, owns_length]
attribute [go_sem] owns_set_length
theorem owns_own [Lays] (n i : Nat) : (owns n).set i [.own (1000 + i)] = owns n := by
  apply List.ext_getElem?
  intro j
  rw [List.getElem?_set, owns_get, owns_length]
  by_cases h1 : i = j
  · subst h1; by_cases h2 : i < n <;> simp [h2]
  · simp [h1]
attribute [go_sem] owns_own
theorem owns_snoc_length [Lays] (n : Nat) (x : List D) : (owns n ++ [x]).length = n + 1 := by rw [List.length_append, owns_length]; rfl
attribute [go_sem] owns_snoc_length Nat.lt_add_one
theorem bm_box (k : Nat) (cs : List D) : Blk.men k (.box cs) = D.mens k cs := rfl
theorem bm_row (k n : Nat) (es : List (List D)) : Blk.men k (.row n es) = es.any (D.mens k) := rfl
theorem bk_box (bx : List (Nat × Blk)) (cs : List D) : Blk.keysIn bx (.box cs) = D.keysIns bx cs := rfl
theorem bk_row (bx : List (Nat × Blk)) (n : Nat) (es : List (List D)) : Blk.keysIn bx (.row n es) = es.all (D.keysIns bx) := rfl
attribute [go_sem] owns_length owns_at owns_put owns_back killB_owns killB_owns_lo owns_any owns_keys get_nest_lo ins_nest_lo ins_nest kill_nest any_nest all_nest lo_beq hi_beq owns_set owns_new owns_last closeN closeNs closeE1_owns List.any_append List.all_append
end Go.Dw
end
