/- Helpers of a proof. -/
import Derived.Test.YtnbgonichmcfaaaW41
set_option linter.unusedVariables false
set_option linter.unusedSimpArgs false
section
set_option linter.unusedSimpArgs false
namespace Go.Dw
open Go.RowKit
variable {P : Program} {nt : Nat} {tm : List (Nat × D)} {bx : List (Nat × Blk)}
theorem RepDs.split {w : World} {A : Bool → Nat → Prop} {G : Gh} : ∀ {ds es : List D} {ys : List Value}, RepDs w A G (ds ++ es) ys → ∃ y1 y2, ys = y1 ++ y2 ∧ RepDs w A G ds y1 ∧ RepDs w A G es y2
  | [], _, ys, h => ⟨[], ys, rfl, rfl, h⟩
  | d :: ds, es, _, h => by
    obtain ⟨y, ys, rfl, h1, h2⟩ := h
    obtain ⟨y1, y2, rfl, h3, h4⟩ := RepDs.split h2
    exact ⟨y :: y1, y2, rfl, ⟨y, y1, rfl, h1, h3⟩, h4⟩
def opsN [Lays] (P : Program) (Q : St → Prop) (l : List SO) (d : Tmp) (f : Operand) (args : Array Operand) (tys : Array TypeId) (σ0 : St) : Prop :=
  ∀ nt tm bx o, σ0.nt = nt → Ent ⟨nt, tm, bx⟩ σ0 → opsC P false Q l d f args tys ⟨nt, tm, bx⟩ o
section
variable {Q : St → Prop} {l : List SO} {d : Tmp} {f : Operand} {args : Array Operand} {tys : Array TypeId} {g : FuncId} {fs caps as : List D} {r : D}
theorem opsN.rel [Lays] (k : Nat) {y : Blk} (hk : get k bx = some y) (h : opsN P Q l d f args tys ⟨nt, relT k y tm, relX k y bx⟩) : opsN P Q l d f args tys ⟨nt, tm, bx⟩ :=
  fun nt' tm' bx' o e he => h nt' tm' bx' o e (he.trans (Ent.rel k hk))
theorem opsN.c [Lays] (hc : DCall P g as [] r []) (hce : calleeD (St.op ⟨nt, tm, bx⟩ f) = some (g, fs, caps)) (hcl : closeDs ⟨nt, tm, bx⟩ none (fs ++ args.toList.map (St.op ⟨nt, tm, bx⟩) ++ caps) = some as)
    (hd : d < nt) (h : opsS P false Q l ⟨nt, ins d r tm, bx⟩) : opsN P Q l d f args tys ⟨nt, tm, bx⟩ := fun nt' tm' bx' o e he => by
  cases e
  exact call_e he hc hce hcl hd h
theorem opsN.hk [Lays] (k : Nat) {x x' : Blk} (hc : DCall P g as [(k, x)] r [(k, x')]) (hk : get k bx = some x) (hce : calleeD (St.op ⟨nt, tm, (k, x) :: del k bx⟩ f) = some (g, fs, caps))
    (hcl : closeDs ⟨nt, tm, del k bx⟩ none (fs ++ args.toList.map (St.op ⟨nt, tm, (k, x) :: del k bx⟩) ++ caps) = some as)
    (hm : menS k tm (del k bx) = false) (hd : d < nt) (hQ : opsS P false Q l ⟨nt, ins d r tm, (k, x') :: del k bx⟩) : opsN P Q l d f args tys ⟨nt, tm, bx⟩ := fun nt' tm' bx' o e he => by
  cases e
  have hkd : get k (del k bx) = none := by rw [get_del, if_pos rfl]
  refine call_h (h := [(k, x)]) (h' := [(k, x')]) (own := del k bx) hc (he.trans (Ent.ofGet fun j y hj => ?_)) hce hcl ?_ ?_ hd hQ
  · simp only [List.cons_append, List.nil_append, Dw.get, get_del] at hj
    split at hj
    · rename_i e; cases hj; rw [e]; exact hk
    · rename_i e; simpa [e] using hj
  · simp only [apartB, List.all_eq_true]
    intro p hp
    simp only [Dw.get]
    split
    · rename_i e
      exfalso
      have : ∀ l : List (Nat × Blk), ∀ q ∈ del k l, q.1 ≠ k := by
        intro l
        induction l with
        | nil => intro q hq; cases hq
        | cons a l ih =>
          intro q hq
          simp only [del] at hq
          split at hq
          · exact ih q hq
          · rename_i hne
            rcases List.mem_cons.1 hq with rfl | hq
            · exact fun e => hne e.symm
            · exact ih q hq
      exact this bx p hp e
    · rfl
  · simp only [List.all_cons, List.all_nil, Bool.and_true, hkd, hm, Option.isNone_none, Bool.not_false]
end
end Go.Dw
end
