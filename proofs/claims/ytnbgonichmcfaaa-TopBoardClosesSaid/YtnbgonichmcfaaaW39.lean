/- Helpers of a proof. -/
import Derived.Test.YtnbgonichmcfaaaW38
set_option linter.unusedVariables false
set_option linter.unusedSimpArgs false
section
set_option linter.unusedSimpArgs false
namespace Go.Dw
open Go.RowKit
variable {P : Program} {nt : Nat} {tm : List (Nat × D)} {bx : List (Nat × Blk)}
theorem RepDs.set {w : World} {A : Bool → Nat → Prop} {G : Gh} {d' : D} {x : Value} : ∀ {ds : List D} {ys : List Value} {i : Nat}, RepDs w A G ds ys → ds[i]? = some (.c (.v x)) → RepD w A G d' x → RepDs w A G (ds.set i d') ys
  | [], _, _, _, hi, _ => by simp at hi
  | d :: ds, _, 0, hr, hi, hd => by
    obtain ⟨y, ys, rfl, h1, h2⟩ := hr
    simp only [List.getElem?_cons_zero, Option.some.injEq] at hi
    subst hi
    obtain ⟨rfl, _⟩ := h1
    exact ⟨_, _, rfl, hd, h2⟩
  | d :: ds, _, i + 1, hr, hi, hd => by
    obtain ⟨y, ys, rfl, h1, h2⟩ := hr
    simp only [List.getElem?_cons_succ] at hi
    exact ⟨_, _, rfl, h1, RepDs.set h2 hi hd⟩
theorem Ent.adoptB [Lays] (j i k n : Nat) {cs : List D} (hj : get j bx = some (.box cs)) (hi : cs[i]? = some (.c (.v (.slice none 0 0)))) (hk : get k bx = none) (hm : menS k tm bx = false) :
    Ent ⟨nt, tm, bx⟩ ⟨nt, tm, ins j (.box (cs.set i (.own k))) (ins k (.row n []) bx)⟩ := ent_mk fun N O0 w0 G a w h => by
  have h' := h.adopt hk hm n
  refine ⟨G.set k none (.slice none 0 0), ?_⟩
  generalize hG : G.set k none (.slice none 0 0) = G' at *
  have hne : j ≠ k := fun e => by subst e; rw [hj] at hk; cases hk
  have hj' : get j (ins k (.row n []) bx) = some (.box cs) := by rw [get_ins, if_neg hne]; exact hj
  have hg : ∀ t, get t (ins j (.box (cs.set i (.own k))) (ins k (.row n []) bx)) = if t = j then some (.box (cs.set i (.own k))) else get t (ins k (.row n []) bx) := fun t => get_ins ..
  have hex : ∀ t x, get t (ins j (.box (cs.set i (.own k))) (ins k (.row n []) bx)) = some x → ∃ y, get t (ins k (.row n []) bx) = some y := fun t x hx => by
    rw [hg] at hx
    split at hx
    · rename_i e; subst e; exact ⟨_, hj'⟩
    · exact ⟨x, hx⟩
  have ho : ∀ b, owned G' (ins j (.box (cs.set i (.own k))) (ins k (.row n []) bx)) b → owned G' (ins k (.row n []) bx) b := fun b ⟨t, x, ht, hb⟩ => by
    obtain ⟨y, hy⟩ := hex t x ht
    exact ⟨t, y, hy, hb⟩
  have hkp : Keeps w w (Av N G' (ins k (.row n []) bx)) (Av N G' (ins j (.box (cs.set i (.own k))) (ins k (.row n []) bx))) := ⟨Nat.le_refl _, fun _ _ _ hA hA' => hA (hA'.imp (ho _) id), fun _ _ _ _ _ => rfl⟩
  exact {
    rep := fun t x ht => by
      rw [hg] at ht
      split at ht
      · rename_i e
        subst e
        cases ht
        obtain ⟨b, arr, E, h1, h2, h3⟩ := RepB.mono hkp (fun _ => False) (fun _ _ => ⟨rfl, rfl⟩) _ (fun h => h) (fun _ _ => rfl) (fun _ h => h.elim) (h'.rep t _ hj')
        refine ⟨b, arr, E, h1, h2, RepDs.set h3 hi ?_⟩
        rw [← hG]
        exact ⟨by simp [Gh.set], none, 0, 0, rfl⟩
      · exact RepB.mono hkp (fun _ => False) (fun _ _ => ⟨rfl, rfl⟩) x (fun h => h) (fun _ _ => rfl) (fun _ h => h.elim) (h'.rep t x ht)
    inj := fun t t' x x' b ht ht' => by
      obtain ⟨y, hy⟩ := hex t x ht
      obtain ⟨y', hy'⟩ := hex t' x' ht'
      exact h'.inj t t' y y' b hy hy'
    own := fun b hb => h'.own b (ho b hb)
    tm := fun t d hd => by
      obtain ⟨y, hy, hr⟩ := h'.tm t d hd
      exact ⟨y, hy, RepD.keep hkp d y hr⟩
    nt := h'.nt
    df := h'.df
    fr := h'.fr
    nlt := h'.nlt
    odis := h'.odis
    laid := h'.laid }
end Go.Dw
end
