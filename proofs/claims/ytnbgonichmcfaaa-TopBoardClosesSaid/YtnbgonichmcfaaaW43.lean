/- Helpers of a proof. -/
import Derived.Test.YtnbgonichmcfaaaW42
set_option linter.unusedVariables false
set_option linter.unusedSimpArgs false
section
set_option linter.unusedSimpArgs false
namespace Go.Dw
open Go.RowKit
variable {P : Program} {nt : Nat} {tm : List (Nat × D)} {bx : List (Nat × Blk)}
section
variable {N O0 : Nat → Prop} {w0 w : World} {G : Gh} {a : Act} {A : Bool → Nat → Prop}
mutual
theorem unpinD {k l : Nat} (hl : G.β k = some l) : ∀ (d : D) (y : Value), RepD w A G (pinD k l d) y → RepD w A G d y
  | .top, _, _ => trivial
  | .c c, y, h => h
  | .agg cs, y, h => by
    obtain ⟨ys, rfl, h⟩ := h
    exact ⟨ys, rfl, unpinDs hl cs _ h⟩
  | .tup cs, y, h => by
    obtain ⟨ys, rfl, h⟩ := h
    exact ⟨ys, rfl, unpinDs hl cs _ h⟩
  | .box j off, y, h => by
    simp only [pinD] at h
    split at h
    · rename_i e; subst e
      obtain ⟨rfl, _⟩ := h
      exact ⟨l, hl, rfl⟩
    · exact h
  | .own _, _, h => h
  | .elo _ _ _ _, _, h => h
  | .hd j, y, h => by
    simp only [pinD] at h
    split at h
    · rename_i e; subst e
      obtain ⟨rfl, _⟩ := h
      exact ⟨l, hl, rfl⟩
    · exact h
  | .win _ _ _ _, _, h => h
  | .fn f fs caps, y, h => by
    obtain ⟨x1, x2, rfl, h1, h2⟩ := h
    exact ⟨x1, x2, rfl, unpinDs hl fs _ h1, unpinDs hl caps _ h2⟩
theorem unpinDs {k l : Nat} (hl : G.β k = some l) : ∀ (ds : List D) (ys : List Value), RepDs w A G (pinDs k l ds) ys → RepDs w A G ds ys
  | [], _, h => h
  | d :: ds, _, h => by
    obtain ⟨y, ys, rfl, h1, h2⟩ := h
    exact ⟨y, ys, rfl, unpinD hl d y h1, unpinDs hl ds ys h2⟩
end
theorem unpinB {k l : Nat} (hl : G.β k = some l) {j : Nat} (x : Blk) (h : RepB w A G j (pinB k l x)) : RepB w A G j x := by
  cases x with
  | lp o v tm =>
    refine ⟨h.1, fun p hp => ?_⟩
    exact unpinD hl _ _ (h.2 (p.1, pinD k l p.2) (List.mem_map.2 ⟨p, hp, rfl⟩))
  | box cs =>
    obtain ⟨b, arr, E, h1, h2, h3⟩ := h
    exact ⟨b, arr, E, h1, h2, unpinDs hl cs _ h3⟩
  | map ks ds =>
    obtain ⟨b, ents, clk, h1, h2, h4, h3⟩ := h
    exact ⟨b, ents, clk, h1, h2, h4, unpinDs hl ds _ h3⟩
  | pmap l' ks ds =>
    obtain ⟨b, ents, clk, h1, h2, h4, h3⟩ := h
    exact ⟨b, ents, clk, h1, h2, h4, unpinDs hl ds _ h3⟩
  | pbox l' ds =>
    obtain ⟨b, arr, E, h1, h2, h3⟩ := h
    exact ⟨b, arr, E, h1, h2, unpinDs hl ds _ h3⟩
  | row n es =>
    obtain ⟨h0, h1⟩ := h
    refine ⟨fun e he => ?_, ?_⟩
    · have := h0 (pinDs k l e) (List.mem_map.2 ⟨e, he, rfl⟩)
      rwa [pinDs_map, List.length_map] at this
    · rcases h1 with ⟨h1, h2⟩ | ⟨b, arr, E, cap, h1, h2, h3, h4, h5, h6⟩
      · exact .inl ⟨List.map_eq_nil_iff.1 h1, h2⟩
      · rw [List.length_map] at h3 h4 h6
        rw [pinDs_flat] at h6
        exact .inr ⟨b, arr, E, cap, h1, h2, h3, h4, h5, unpinDs hl _ _ h6⟩
theorem unpinO {k l j : Nat} (x : Blk) (h : RepB w A G j (pinO l x)) : RepB w A G j x := by
  cases x with
  | box cs =>
    obtain ⟨b, arr, E, ⟨h1, _⟩, h2, h3⟩ := h
    exact ⟨b, arr, E, h1, h2, h3⟩
  | map ks ds =>
    obtain ⟨b, ents, clk, ⟨h1, _⟩, h2, h4, h3⟩ := h
    exact ⟨b, ents, clk, h1, h2, h4, h3⟩
  | _ => exact h
theorem pinO_at {k l : Nat} {x : Blk} (hx : pinned x = true) (h : RepB w A G k (pinO l (pinB k l x))) : G.β k = some l := by
  cases x with
  | box cs => obtain ⟨b, _, _, ⟨h1, e⟩, _⟩ := h; rw [h1, e]
  | map ks ds => obtain ⟨b, _, _, ⟨h1, e⟩, _⟩ := h; rw [h1, e]
  | _ => cases hx
end
theorem Inv.unpin [Lays] {N O0 : Nat → Prop} {w0 w : World} {a : Act} {k l : Nat} {x : Blk} (hk : get k bx = some x) (hx : pinned x = true) (h : Inv N O0 w0 ⟨nt, pinT k l tm, pinX k l bx⟩ a w) : Inv N O0 w0 ⟨nt, tm, bx⟩ a w := by
  obtain ⟨G, h⟩ := h
  have hl : G.β k = some l := pinO_at hx (h.rep k _ (by rw [get_pinX, hk]; simp only [Option.map_some, if_true]))
  have ho : ∀ b, owned G (pinX k l bx) b ↔ owned G bx b := fun b => by
    constructor
    · rintro ⟨j, z, hj, hb⟩
      rw [get_pinX] at hj
      simp only [Option.map_eq_some_iff] at hj
      obtain ⟨y, hy, _⟩ := hj
      exact ⟨j, y, hy, hb⟩
    · rintro ⟨j, y, hj, hb⟩
      exact ⟨j, _, by rw [get_pinX, hj]; rfl, hb⟩
  have hA : Av N G (pinX k l bx) = Av N G bx := by
    funext bw b
    simp only [Av, ho]
  have hg : ∀ j y, get j bx = some y → get j (pinX k l bx) = some (if j = k then pinO l (pinB k l y) else pinB k l y) := fun j y hj => by rw [get_pinX, hj]; rfl
  exact ⟨G, {
    rep := fun j z hj => by
      have := h.rep j _ (hg j z hj)
      change RepB w (Av N G (pinX k l bx)) G j _ at this
      rw [hA] at this
      refine unpinB hl z ?_
      split at this
      · exact unpinO (k := k) _ this
      · exact this
    inj := fun j j' z z' b hj hj' => h.inj j j' _ _ b (hg j z hj) (hg j' z' hj')
    own := fun b hb => h.own b ((ho b).2 hb)
    tm := fun t d hd => by
      obtain ⟨y, hy, hr⟩ := h.tm t (pinD k l d) (by show get t (pinT k l tm) = _; rw [get_pinT, hd]; rfl)
      change RepD w (Av N G (pinX k l bx)) G (pinD k l d) y at hr
      rw [hA] at hr
      exact ⟨y, hy, unpinD hl d y hr⟩
    nt := h.nt
    df := h.df
    fr := h.fr
    nlt := h.nlt
    odis := h.odis
    laid := h.laid }⟩
section
variable {w : World} {G : Gh} {A : Bool → Nat → Prop} {i j : Nat}
end
end Go.Dw
end
