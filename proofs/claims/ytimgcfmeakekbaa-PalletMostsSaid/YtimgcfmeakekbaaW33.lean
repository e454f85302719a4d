/- Helpers of a proof. -/
import Derived.Test.YtimgcfmeakekbaaW32
set_option linter.unusedVariables false
set_option linter.unusedSimpArgs false
section
namespace Go.Dw
open Go.RowKit
variable {P : Program} {nt : Nat} {tm : List (Nat × D)} {bx : List (Nat × Blk)}
def renD (k k' : Nat) : D → D
  | .own j => if j = k then .own k' else .own j
  | d => killD k d
def renB (k k' : Nat) : Blk → Blk
  | .box cs => .box (cs.map (renD k k'))
  | .row n es => .row n (es.map (·.map (renD k k')))
  | .lp o v tm => .lp o v (tm.map fun p => (p.1, renD k k' p.2))
  | .map ks ds => .map ks (ds.map (renD k k'))
  | .pmap l ks ds => .pmap l ks (ds.map (renD k k'))
  | .pbox l ds => .pbox l (ds.map (renD k k'))
section
variable {w : World} {A : Bool → Nat → Prop} {G : Gh} {k k' : Nat}
theorem renD_sound [Lays] (hβ : True) {d : D} {y : Value} (hm : d.men k' = false) (hr : RepD w A G d y) : RepD w A (G.set k' (G.β k) (G.γ k)) (renD k k' d) y := by
  have gen : RepD w A (G.set k' (G.β k) (G.γ k)) (killD k d) y := by
    refine RepD.mono (Keeps.refl _ _) (fun j => j = k') (Gh.set_other G k' _ _) _ y (fun j hj => ?_) (hr.kill k)
    subst hj
    unfold killD; split
    · rfl
    · exact hm
  cases d <;> simp only [renD] <;> try exact gen
  rename_i j
  split
  · rename_i e; subst e
    exact ⟨by rw [hr.1]; simp [Gh.set], hr.2⟩
  · rename_i e
    have : (D.own j).men k = false := by simp [D.men, e]
    rw [killD_of this] at gen; exact gen
theorem renDs_sound [Lays] : ∀ {ds : List D} {ys : List Value}, D.mens k' ds = false → RepDs w A G ds ys → RepDs w A (G.set k' (G.β k) (G.γ k)) (ds.map (renD k k')) ys
  | [], _, _, h => h
  | d :: ds, _, hm, h => by
    obtain ⟨y, ys, rfl, h1, h2⟩ := h
    simp only [D.mens, Bool.or_eq_false_iff] at hm
    exact ⟨y, ys, rfl, renD_sound trivial hm.1 h1, renDs_sound hm.2 h2⟩
theorem renB_sound [Lays] {j : Nat} {x : Blk} (hj : j ≠ k') (hm : x.men k' = false) (hr : RepB w A G j x) : RepB w A (G.set k' (G.β k) (G.γ k)) j (renB k k' x) := by
  have hb := Gh.set_other G k' (G.β k) (G.γ k) j hj
  cases x with
  | box cs =>
    obtain ⟨b, arr, E, h1, h2, h3⟩ := hr
    exact ⟨b, arr, E, by rw [hb.1]; exact h1, h2, renDs_sound hm h3⟩
  | map ks ds =>
    obtain ⟨b, ents, clk, h1, h2, h4, h3⟩ := hr
    exact ⟨b, ents, clk, by rw [hb.1]; exact h1, h2, h4, renDs_sound hm h3⟩
  | pmap l ks ds =>
    obtain ⟨b, ents, clk, h1, h2, h4, h3⟩ := hr
    exact ⟨b, ents, clk, by rw [hb.1]; exact h1, h2, h4, renDs_sound hm h3⟩
  | pbox l ds =>
    obtain ⟨b, arr, E, h1, h2, h3⟩ := hr
    exact ⟨b, arr, E, by rw [hb.1]; exact h1, h2, renDs_sound hm h3⟩
  | lp o v tm =>
    refine ⟨?_, fun p hp => ?_⟩
    · rw [hb.1]; exact hr.1
    · obtain ⟨q, hq, rfl⟩ := List.mem_map.1 hp
      simp only [Blk.men, List.any_eq_false] at hm
      exact renD_sound trivial (by simpa using hm q hq) (hr.2 q hq)
  | row n es =>
    obtain ⟨h0, h1⟩ := hr
    refine ⟨fun e he => ?_, ?_⟩
    · obtain ⟨e', he', rfl⟩ := List.mem_map.1 he
      simpa using h0 e' he'
    · have hmf : D.mens k' es.flatten = false := by
        simp only [Blk.men, List.any_eq_false] at hm
        clear h0 h1
        induction es with
        | nil => rfl
        | cons e es ih =>
          rw [List.flatten_cons, mens_append, Bool.or_eq_false_iff]
          exact ⟨by simpa using hm e (by simp), ih (fun x hx => hm x (by simp [hx]))⟩
      rcases h1 with ⟨h1, h2, h3⟩ | ⟨b, arr, E, cap, h1, h2, h3, h4, h5, h6⟩
      · exact .inl ⟨by rw [h1]; rfl, by rw [hb.1]; exact h2, by rw [hb.2]; exact h3⟩
      · refine .inr ⟨b, arr, E, cap, by rw [hb.1]; exact h1, h2, by rw [hb.2, List.length_map]; exact h3, by rw [List.length_map]; exact h4, h5, ?_⟩
        have := renDs_sound (k := k) hmf h6
        rw [List.length_map]
        simpa [List.map_flatten] using this
end
theorem Ent.ren [Lays] (k k' : Nat) {n : Nat} {es : List (List C)} (hk : get k bx = some (.row n (rowC es))) (hf : get k' bx = none) (hm : menS k' tm bx = false) :
    Ent ⟨nt, tm, bx⟩ ⟨nt, tm.map fun p => (p.1, renD k k' p.2), (k', .row n (rowC es)) :: del k (bx.map fun p => (p.1, renB k k' p.2))⟩ := ent_mk fun N O0 w0 G a w h => by
  have hne : k ≠ k' := fun e => by rw [e, hf] at hk; cases hk
  have hget : ∀ j z, get j ((k', Blk.row n (rowC es)) :: del k (bx.map fun p => (p.1, renB k k' p.2))) = some z → (j = k' ∧ z = .row n (rowC es)) ∨ (j ≠ k' ∧ j ≠ k ∧ ∃ y, get j bx = some y ∧ z = renB k k' y) := by
    intro j z hj
    simp only [get, get_del, get_map] at hj
    split at hj
    · rename_i e; cases hj; exact .inl ⟨e, rfl⟩
    · rename_i e
      split at hj
      · cases hj
      · rename_i e2
        obtain ⟨y, hy, rfl⟩ := Option.map_eq_some_iff.1 hj
        exact .inr ⟨e, e2, y, hy, rfl⟩
  let G2 : Gh := G.set k' (G.β k) (G.γ k)
  have hother : ∀ j, j ≠ k' → G2.β j = G.β j ∧ G2.γ j = G.γ j := Gh.set_other G k' _ _
  have hself : G2.β k' = G.β k ∧ G2.γ k' = G.γ k := by simp [G2, Gh.set]
  have ho : ∀ b, owned G2 ((k', Blk.row n (rowC es)) :: del k (bx.map fun p => (p.1, renB k k' p.2))) b ↔ owned G bx b := by
    intro b
    constructor
    · rintro ⟨j, z, hj, hb⟩
      rcases hget j z hj with ⟨rfl, _⟩ | ⟨h1, _, y, hy, _⟩
      · exact ⟨k, _, hk, by rw [← hself.1]; exact hb⟩
      · exact ⟨j, y, hy, by rw [← (hother j h1).1]; exact hb⟩
    · rintro ⟨j, y, hj, hb⟩
      by_cases e : j = k
      · subst e
        exact ⟨k', .row n (rowC es), by simp [get], by rw [hself.1]; exact hb⟩
      · have e2 : j ≠ k' := fun e2 => by rw [e2, hf] at hj; cases hj
        exact ⟨j, renB k k' y, by simp only [get, get_del, get_map]; rw [if_neg e2, if_neg e, hj]; rfl, by rw [(hother j e2).1]; exact hb⟩
  have hA : Av N G2 ((k', Blk.row n (rowC es)) :: del k (bx.map fun p => (p.1, renB k k' p.2))) = Av N G bx := by
    funext bw b; simp only [Av, ho]
  refine ⟨G2, ?_⟩
  exact {
    rep := fun j z hj => by
      show RepB w (Av N G2 _) G2 j z
      rw [hA]
      rcases hget j z hj with ⟨rfl, rfl⟩ | ⟨h1, _, y, hy, rfl⟩
      · obtain ⟨h0, h1⟩ := h.rep k _ hk
        refine ⟨h0, ?_⟩
        rcases h1 with ⟨h1, h2, h3⟩ | ⟨b, arr, E, cap, h1, h2, h3, h4, h5, h6⟩
        · exact .inl ⟨h1, by rw [hself.1]; exact h2, by rw [hself.2]; exact h3⟩
        · refine .inr ⟨b, arr, E, cap, by rw [hself.1]; exact h1, h2, by rw [hself.2]; exact h3, h4, h5, ?_⟩
          refine RepDs.mono (Keeps.refl _ _) (fun _ => True) (fun k hk => absurd trivial hk) _ _ (fun k _ => ?_) h6
          have : (rowC es).flatten = es.flatten.map D.c := by simp [rowC, List.map_flatten]
          rw [this]; exact mens_mapc k _
      · exact renB_sound h1 (men_bx (σ := ⟨nt, tm, bx⟩) hm hy) (h.rep j y hy)
    inj := fun i j x1 x2 b hi hj hb1 hb2 => by
      rcases hget i x1 hi with ⟨rfl, _⟩ | ⟨h1, h1', y, hy, _⟩ <;> rcases hget j x2 hj with ⟨rfl, _⟩ | ⟨h2, h2', z, hz, _⟩
      · rfl
      · exact absurd (h.inj k j _ z b hk hz (by rw [← hself.1]; exact hb1) (by rw [← (hother j h2).1]; exact hb2)) (fun e => h2' e.symm)
      · exact absurd (h.inj i k y _ b hy hk (by rw [← (hother i h1).1]; exact hb1) (by rw [← hself.1]; exact hb2)) h1'
      · exact h.inj i j y z b hy hz (by rw [← (hother i h1).1]; exact hb1) (by rw [← (hother j h2).1]; exact hb2)
    own := fun b hb => h.own b ((ho b).1 hb)
    tm := fun t d ht => by
      simp only [get_map, Option.map_eq_some_iff] at ht
      obtain ⟨d0, hd0, rfl⟩ := ht
      obtain ⟨y, hy, hr⟩ := h.tm t d0 hd0
      refine ⟨y, hy, ?_⟩
      show RepD w (Av N G2 _) G2 _ y
      rw [hA]
      exact renD_sound trivial (men_tm (σ := ⟨nt, tm, bx⟩) hm hd0) hr
    nt := h.nt
    df := h.df
    fr := h.fr
    nlt := h.nlt
    odis := h.odis
    laid := h.laid }
theorem renD_of [Lays] {k k' : Nat} {d : D} (h : d.men k = false) : renD k k' d = d := by
  cases d <;> simp only [renD] <;> try exact killD_of h
  rename_i j
  rw [if_neg (by simpa [D.men] using h)]
theorem renDs_of [Lays] {k k' : Nat} : ∀ {ds : List D}, D.mens k ds = false → ds.map (renD k k') = ds
  | [], _ => rfl
  | d :: ds, h => by
    simp only [D.mens, Bool.or_eq_false_iff] at h
    rw [List.map_cons, renD_of h.1, renDs_of h.2]
theorem renB_of [Lays] {k k' : Nat} {x : Blk} (h : x.men k = false) : renB k k' x = x := by
  cases x with
  | box cs => exact congrArg Blk.box (renDs_of h)
  | map ks cs => exact congrArg (Blk.map ks) (renDs_of h)
  | pmap l ks cs => exact congrArg (Blk.pmap l ks) (renDs_of h)
  | pbox l cs => exact congrArg (Blk.pbox l) (renDs_of h)
  | row n es =>
    simp only [Blk.men, List.any_eq_false] at h
    simp only [renB]
    congr 1
    rw [List.map_congr_left (g := id)]
    · simp
    · intro e he; exact renDs_of (by simpa using h e he)
  | lp o v tm =>
    simp only [Blk.men, List.any_eq_false] at h
    simp only [renB]
    congr 1
    rw [List.map_congr_left (g := id)]
    · simp
    · intro p hp; rw [renD_of (by simpa using h p hp)]; rfl
section
variable {α : Type} {e : α → List C} {n : Nat}
theorem Ent.grow [Lays] {gs : List (List α)} {g : List α} (k k0 : Nat) (hk : k < 1000) (hk0 : k0 < 1000) (hne : k ≠ k0) (hlo : loB tm bx = true) (hm : menS k tm bx = false) (hf : get k0 bx = none) (hfk : get k bx = none) :
    Ent ⟨nt, tm, nest n e gs ((k, .row n (rowC (rows e g))) :: (k0, .row 1 (owns gs.length ++ [[.own k]])) :: bx)⟩ ⟨nt, tm, nest n e (gs ++ [g]) ((k0, .row 1 (owns (gs.length + 1))) :: bx)⟩ := by
  have hspec := loB_spec (nt := nt) hlo (1000 + gs.length) (by omega)
  have hgL : get (1000 + gs.length) bx = none := hspec.1
  have hmL : menS (1000 + gs.length) tm bx = false := hspec.2
  have hb2 : (k0 == 1000 + gs.length) = false := by simp; omega
  have hb3 : (k == 1000 + gs.length) = false := by simp; omega
  have howL : (owns gs.length).any (D.mens (1000 + gs.length)) = false := by
    simp only [owns, List.any_map, List.any_eq_false, List.mem_range]
    intro i hi
    have : (1000 + i == 1000 + gs.length) = false := by simp; omega
    simp [D.mens, D.men, this]
  refine Ent.trans (Ent.ren k (1000 + gs.length) (n := n) (es := rows e g) ?_ ?_ ?_) ?_
  · rw [get_nest_lo _ _ _ hk]; simp [get]
  · rw [nest, get_stk, if_neg (by omega)]
    simp only [get]
    rw [if_neg (by omega), if_neg (by omega)]; exact hgL
  · simp only [menS, any_nest, List.any_cons, Bool.or_eq_false_iff] at hmL ⊢
    refine ⟨hmL.1, rowC_men _ _ _, ?_, hmL.2⟩
    simp only [Blk.men, List.any_append, howL, Bool.false_or, List.any_cons, List.any_nil, D.mens, D.men, Bool.or_false, hb3]
  · simp only [menS, Bool.or_eq_false_iff, List.any_eq_false] at hm
    have ht : (tm.map fun p => (p.1, renD k (1000 + gs.length) p.2)) = tm := by
      rw [List.map_congr_left (g := id)]
      · simp
      · intro p hp; rw [renD_of (by simpa using hm.1 p hp)]; rfl
    rw [ht]
    refine Ent.weak (fun t d hd => ⟨d, hd, .refl d⟩) (fun j x hj => ⟨x, ?_, .refl x⟩)
    simp only [get, get_del, get_map]
    rw [nest, get_stk] at hj
    simp only [nest, get_stk]
    by_cases h1 : 1000 ≤ j ∧ j < 1000 + (gs ++ [g]).length
    · rw [if_pos h1] at hj
      simp only [List.length_append, List.length_singleton] at h1
      by_cases h2 : j = 1000 + gs.length
      · rw [if_pos h2]
        rw [← hj, h2]
        simp [nestB]
      · rw [if_neg h2, if_neg (by omega), if_pos (by omega)]
        rw [← hj]
        simp only [Option.map_some, Option.some.injEq]
        rw [renB_of (show Blk.men k (nestB n e gs _) = false from rowC_men k n _)]
        simp only [nestB]
        rw [List.getElem?_append_left (by omega)]
    · rw [if_neg h1] at hj
      simp only [List.length_append, List.length_singleton] at h1
      rw [if_neg (by omega)]
      simp only [get] at hj ⊢
      have hni : ¬ (1000 ≤ j ∧ j < 1000 + gs.length) := by omega
      by_cases h3 : j = k0
      · have h4 : ¬ j = k := fun h4 => hne (h4.symm.trans h3)
        rw [if_pos h3] at hj
        cases hj
        rw [if_neg h4, if_neg hni, if_neg h4, if_pos h3]
        simp only [Option.map_some, renB, Option.some.injEq, Blk.row.injEq, true_and, List.map_append, List.map_cons, List.map_nil, renD, if_true]
        have : (owns gs.length).map (·.map (renD k (1000 + gs.length))) = owns gs.length := by
          simp only [owns, List.map_map]
          apply List.map_congr_left
          intro i _
          simp only [Function.comp, List.map_cons, List.map_nil, renD]
          rw [if_neg (by omega)]
        rw [this]
        simp [owns, List.range_succ]
      · rw [if_neg h3] at hj
        have h4 : ¬ j = k := fun h4 => by rw [h4, hfk] at hj; cases hj
        rw [if_neg h4, if_neg hni, if_neg h4, if_neg h3, hj]
        simp only [Option.map_some, Option.some.injEq]
        exact renB_of (by
          have := hm.2 _ (get_mem hj)
          simpa using this)
mutual
theorem relD_of {k : Nat} {x : Blk} : ∀ (d : D), d.men k = false → relD k x d = d
  | .top, _ => rfl
  | .c _, _ => rfl
  | .agg cs, h => by simp only [relD]; rw [relDs_of cs (by simpa [D.men] using h)]
  | .tup cs, h => by simp only [relD]; rw [relDs_of cs (by simpa [D.men] using h)]
  | .box j off, h => by simp only [relD]; rw [if_neg (by simpa [D.men] using h)]
  | .own j, h => by simp only [relD]; rw [if_neg (by simpa [D.men] using h)]
  | .elo j n i off, h => by simp only [relD]; rw [if_neg (by simpa [D.men] using h)]
  | .win j n lo hi, h => by simp only [relD]; rw [if_neg (by simpa [D.men] using h)]
  | .hd j, h => by simp only [relD]; rw [if_neg (by simpa [D.men] using h)]
  | .fn f fs caps, h => by
    simp only [D.men, Bool.or_eq_false_iff] at h
    simp only [relD]; rw [relDs_of fs h.1, relDs_of caps h.2]
theorem relDs_of {k : Nat} {x : Blk} : ∀ (ds : List D), D.mens k ds = false → relDs k x ds = ds
  | [], _ => rfl
  | d :: ds, h => by
    simp only [D.mens, Bool.or_eq_false_iff] at h
    simp only [relDs]; rw [relD_of d h.1, relDs_of ds h.2]
end
end
end Go.Dw
end
