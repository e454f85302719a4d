/- Helpers of a proof. -/
import Derived.Test.YtnbgonichmcfaaaDoorW42
set_option linter.unusedVariables false
set_option linter.unusedSimpArgs false
section
set_option linter.unusedSimpArgs false
namespace Go.Dw
open Go.RowKit
variable {P : Program} {nt : Nat} {tm : List (Nat × D)} {bx : List (Nat × Blk)}
section
variable {N O0 : Nat → Prop} {w0 w : World} {G : Gh} {a : Act} {A : Bool → Nat → Prop}
mutual
theorem unpinD {k l : Nat} (hl : G.β k = some l) : ∀ (d : D) (y : Value), RepD w A G (pinD k l d) y → RepD w A G d y
  | .top, _, _ => trivial
  | .c c, y, h => h
  | .agg cs, y, h => by
    obtain ⟨ys, rfl, h⟩ := h
    exact ⟨ys, rfl, unpinDs hl cs _ h⟩
  | .tup cs, y, h => by
    obtain ⟨ys, rfl, h⟩ := h
    exact ⟨ys, rfl, unpinDs hl cs _ h⟩
  | .box j off, y, h => by
    simp only [pinD] at h
    split at h
    · rename_i e; subst e
      obtain ⟨rfl, _⟩ := h
      exact ⟨l, hl, rfl⟩
    · exact h
  | .own _, _, h => h
  | .elo _ _ _ _, _, h => h
  | .hd j, y, h => by
    simp only [pinD] at h
    split at h
    · rename_i e; subst e
      obtain ⟨rfl, _⟩ := h
      exact ⟨l, hl, rfl⟩
    · exact h
  | .win _ _ _ _, _, h => h
  | .fn f fs caps, y, h => by
    obtain ⟨x1, x2, rfl, h1, h2⟩ := h
    exact ⟨x1, x2, rfl, unpinDs hl fs _ h1, unpinDs hl caps _ h2⟩
theorem unpinDs {k l : Nat} (hl : G.β k = some l) : ∀ (ds : List D) (ys : List Value), RepDs w A G (pinDs k l ds) ys → RepDs w A G ds ys
  | [], _, h => h
  | d :: ds, _, h => by
    obtain ⟨y, ys, rfl, h1, h2⟩ := h
    exact ⟨y, ys, rfl, unpinD hl d y h1, unpinDs hl ds ys h2⟩
end
theorem unpinB {k l : Nat} (hl : G.β k = some l) {j : Nat} (x : Blk) (h : RepB w A G j (pinB k l x)) : RepB w A G j x := by
  cases x with
  | lp o v tm =>
    refine ⟨h.1, fun p hp => ?_⟩
    exact unpinD hl _ _ (h.2 (p.1, pinD k l p.2) (List.mem_map.2 ⟨p, hp, rfl⟩))
  | box cs =>
    obtain ⟨b, arr, E, h1, h2, h3⟩ := h
    exact ⟨b, arr, E, h1, h2, unpinDs hl cs _ h3⟩
  | map ks ds =>
    obtain ⟨b, ents, clk, h1, h2, h4, h3⟩ := h
    exact ⟨b, ents, clk, h1, h2, h4, unpinDs hl ds _ h3⟩
  | pmap l' ks ds =>
    obtain ⟨b, ents, clk, h1, h2, h4, h3⟩ := h
    exact ⟨b, ents, clk, h1, h2, h4, unpinDs hl ds _ h3⟩
  | pbox l' ds =>
    obtain ⟨b, arr, E, h1, h2, h3⟩ := h
    exact ⟨b, arr, E, h1, h2, unpinDs hl ds _ h3⟩
  | row n es =>
    obtain ⟨h0, h1⟩ := h
    refine ⟨fun e he => ?_, ?_⟩
    · have := h0 (pinDs k l e) (List.mem_map.2 ⟨e, he, rfl⟩)
      rwa [pinDs_map, List.length_map] at this
    · rcases h1 with ⟨h1, h2⟩ | ⟨b, arr, E, cap, h1, h2, h3, h4, h5, h6⟩
      · exact .inl ⟨List.map_eq_nil_iff.1 h1, h2⟩
      · rw [List.length_map] at h3 h4 h6
        rw [pinDs_flat] at h6
        exact .inr ⟨b, arr, E, cap, h1, h2, h3, h4, h5, unpinDs hl _ _ h6⟩
theorem unpinO {k l j : Nat} (x : Blk) (h : RepB w A G j (pinO l x)) : RepB w A G j x := by
  cases x with
  | box cs =>
    obtain ⟨b, arr, E, ⟨h1, _⟩, h2, h3⟩ := h
    exact ⟨b, arr, E, h1, h2, h3⟩
  | map ks ds =>
    obtain ⟨b, ents, clk, ⟨h1, _⟩, h2, h4, h3⟩ := h
    exact ⟨b, ents, clk, h1, h2, h4, h3⟩
  | _ => exact h
theorem pinO_at {k l : Nat} {x : Blk} (hx : pinned x = true) (h : RepB w A G k (pinO l (pinB k l x))) : G.β k = some l := by
  cases x with
  | box cs => obtain ⟨b, _, _, ⟨h1, e⟩, _⟩ := h; rw [h1, e]
  | map ks ds => obtain ⟨b, _, _, ⟨h1, e⟩, _⟩ := h; rw [h1, e]
  | _ => cases hx
end
theorem Inv.unpin [Lays] {N O0 : Nat → Prop} {w0 w : World} {a : Act} {k l : Nat} {x : Blk} (hk : get k bx = some x) (hx : pinned x = true) (h : Inv N O0 w0 ⟨nt, pinT k l tm, pinX k l bx⟩ a w) : Inv N O0 w0 ⟨nt, tm, bx⟩ a w := by
  obtain ⟨G, h⟩ := h
  have hl : G.β k = some l := pinO_at hx (h.rep k _ (by rw [get_pinX, hk]; simp only [Option.map_some, if_true]))
  have ho : ∀ b, owned G (pinX k l bx) b ↔ owned G bx b := fun b => by
    constructor
    · rintro ⟨j, z, hj, hb⟩
      rw [get_pinX] at hj
      simp only [Option.map_eq_some_iff] at hj
      obtain ⟨y, hy, _⟩ := hj
      exact ⟨j, y, hy, hb⟩
    · rintro ⟨j, y, hj, hb⟩
      exact ⟨j, _, by rw [get_pinX, hj]; rfl, hb⟩
  have hA : Av N G (pinX k l bx) = Av N G bx := by
    funext bw b
    simp only [Av, ho]
  have hg : ∀ j y, get j bx = some y → get j (pinX k l bx) = some (if j = k then pinO l (pinB k l y) else pinB k l y) := fun j y hj => by rw [get_pinX, hj]; rfl
  exact ⟨G, {
    rep := fun j z hj => by
      have := h.rep j _ (hg j z hj)
      change RepB w (Av N G (pinX k l bx)) G j _ at this
      rw [hA] at this
      refine unpinB hl z ?_
      split at this
      · exact unpinO (k := k) _ this
      · exact this
    inj := fun j j' z z' b hj hj' => h.inj j j' _ _ b (hg j z hj) (hg j' z' hj')
    own := fun b hb => h.own b ((ho b).2 hb)
    tm := fun t d hd => by
      obtain ⟨y, hy, hr⟩ := h.tm t (pinD k l d) (by show get t (pinT k l tm) = _; rw [get_pinT, hd]; rfl)
      change RepD w (Av N G (pinX k l bx)) G (pinD k l d) y at hr
      rw [hA] at hr
      exact ⟨y, hy, unpinD hl d y hr⟩
    nt := h.nt
    df := h.df
    fr := h.fr
    nlt := h.nlt
    odis := h.odis
    laid := h.laid }⟩
def swk (i j k : Nat) : Nat := if k = i then j else if k = j then i else k
theorem swk_swk (i j k : Nat) : swk i j (swk i j k) = k := by
  unfold swk
  by_cases h1 : k = i
  · rw [if_pos h1]
    by_cases h2 : j = i
    · rw [if_pos h2, h1, h2]
    · rw [if_neg h2, if_pos rfl, h1]
  · rw [if_neg h1]
    by_cases h2 : k = j
    · rw [if_pos h2, if_pos rfl, h2]
    · rw [if_neg h2, if_neg h1, if_neg h2]
mutual
def swD (i j : Nat) : D → D
  | .top => .top
  | .c c => .c c
  | .agg cs => .agg (swDs i j cs)
  | .tup cs => .tup (swDs i j cs)
  | .box k off => .box (swk i j k) off
  | .own k => .own (swk i j k)
  | .elo k n m off => .elo (swk i j k) n m off
  | .hd k => .hd (swk i j k)
  | .win k n lo hi => .win (swk i j k) n lo hi
  | .fn f fs caps => .fn f (swDs i j fs) (swDs i j caps)
def swDs (i j : Nat) : List D → List D
  | [] => []
  | d :: ds => swD i j d :: swDs i j ds
end
def Gh.sw (G : Gh) (i j : Nat) : Gh := ⟨fun k => G.β (swk i j k), fun k => G.γ (swk i j k)⟩
section
variable {w : World} {G : Gh} {A : Bool → Nat → Prop} {i j : Nat}
theorem swβ (k : Nat) : (G.sw i j).β (swk i j k) = G.β k := by simp only [Gh.sw, swk_swk]
theorem swγ (k : Nat) : (G.sw i j).γ (swk i j k) = G.γ k := by simp only [Gh.sw, swk_swk]
mutual
theorem swD_sound : ∀ (d : D) (y : Value), RepD w A G d y → RepD w A (G.sw i j) (swD i j d) y
  | .top, _, _ => trivial
  | .c c, y, h => h
  | .agg cs, y, h => by
    obtain ⟨ys, rfl, h⟩ := h
    exact ⟨ys, rfl, swDs_sound cs _ h⟩
  | .tup cs, y, h => by
    obtain ⟨ys, rfl, h⟩ := h
    exact ⟨ys, rfl, swDs_sound cs _ h⟩
  | .box k off, y, h => by
    simp only [swD, RepD, swβ] at h ⊢; exact h
  | .own k, y, h => by
    simp only [swD, RepD, swγ] at h ⊢; exact h
  | .elo k n m off, y, h => by
    simp only [swD, RepD, swβ] at h ⊢; exact h
  | .hd k, y, h => by
    simp only [swD, RepD, swβ] at h ⊢; exact h
  | .win k n lo hi, y, h => by
    simp only [swD, RepD, swβ, swγ] at h ⊢; exact h
  | .fn f fs caps, y, h => by
    obtain ⟨x1, x2, rfl, h1, h2⟩ := h
    exact ⟨x1, x2, rfl, swDs_sound fs _ h1, swDs_sound caps _ h2⟩
theorem swDs_sound : ∀ (ds : List D) (ys : List Value), RepDs w A G ds ys → RepDs w A (G.sw i j) (swDs i j ds) ys
  | [], _, h => h
  | d :: ds, _, h => by
    obtain ⟨y, ys, rfl, h1, h2⟩ := h
    exact ⟨y, ys, rfl, swD_sound d y h1, swDs_sound ds ys h2⟩
end
end
def swB (i j : Nat) : Blk → Blk
  | .box cs => .box (swDs i j cs)
  | .row n es => .row n (es.map (swDs i j))
  | .lp o v tm => .lp o v (tm.map fun p => (p.1, swD i j p.2))
  | .map ks ds => .map ks (swDs i j ds)
  | .pmap l' ks ds => .pmap l' ks (swDs i j ds)
  | .pbox l' ds => .pbox l' (swDs i j ds)
def swT (i j : Nat) : List (Nat × D) → List (Nat × D)
  | [] => []
  | p :: r => (p.1, swD i j p.2) :: swT i j r
def swX (i j : Nat) : List (Nat × Blk) → List (Nat × Blk)
  | [] => []
  | p :: r => (swk i j p.1, swB i j p.2) :: swX i j r
theorem get_swT {i j t : Nat} : ∀ {r : List (Nat × D)}, get t (swT i j r) = (get t r).map (swD i j)
  | [] => rfl
  | p :: r => by
    simp only [swT, get]
    split
    · rfl
    · exact get_swT
theorem get_swX {i j k : Nat} : ∀ {bo : List (Nat × Blk)}, get k (swX i j bo) = (get (swk i j k) bo).map (swB i j)
  | [] => rfl
  | p :: r => by
    simp only [swX, get]
    by_cases h : swk i j k = p.1
    · rw [if_pos h, if_pos (by rw [← h, swk_swk])]; rfl
    · rw [if_neg h, if_neg (fun e => h (by rw [e, swk_swk]))]
      exact get_swX
theorem swDs_len (i j : Nat) : ∀ ds : List D, (swDs i j ds).length = ds.length
  | [] => rfl
  | d :: ds => by simp only [swDs, List.length_cons, swDs_len i j ds]
theorem swDs_app (i j : Nat) : ∀ a b : List D, swDs i j (a ++ b) = swDs i j a ++ swDs i j b
  | [], _ => rfl
  | d :: a, b => by simp only [List.cons_append, swDs, swDs_app i j a b]
theorem swDs_flat (i j : Nat) : ∀ es : List (List D), (es.map (swDs i j)).flatten = swDs i j es.flatten
  | [] => rfl
  | e :: es => by simp only [List.map_cons, List.flatten_cons, swDs_flat i j es, swDs_app]
theorem swB_sound {w : World} {G : Gh} {A : Bool → Nat → Prop} {i j k : Nat} (x : Blk) (h : RepB w A G k x) : RepB w A (G.sw i j) (swk i j k) (swB i j x) := by
  cases x with
  | lp o v tm =>
    refine ⟨?_, fun p hp => ?_⟩
    · rw [swβ]; exact h.1
    · obtain ⟨q, hq, rfl⟩ := List.mem_map.1 hp
      exact swD_sound _ _ (h.2 q hq)
  | box cs =>
    obtain ⟨b, arr, E, h1, h2, h3⟩ := h
    exact ⟨b, arr, E, by rw [swβ]; exact h1, h2, swDs_sound cs _ h3⟩
  | map ks ds =>
    obtain ⟨b, ents, clk, h1, h2, h4, h3⟩ := h
    exact ⟨b, ents, clk, by rw [swβ]; exact h1, h2, h4, swDs_sound ds _ h3⟩
  | pmap l' ks ds =>
    obtain ⟨b, ents, clk, h1, h2, h4, h3⟩ := h
    exact ⟨b, ents, clk, by rw [swβ]; exact h1, h2, h4, swDs_sound ds _ h3⟩
  | pbox l' ds =>
    obtain ⟨b, arr, E, h1, h2, h3⟩ := h
    exact ⟨b, arr, E, by rw [swβ]; exact h1, h2, swDs_sound ds _ h3⟩
  | row n es =>
    obtain ⟨h0, h1⟩ := h
    refine ⟨fun e he => ?_, ?_⟩
    · obtain ⟨e', he', rfl⟩ := List.mem_map.1 he
      rw [swDs_len]; exact h0 e' he'
    · rcases h1 with ⟨rfl, h2⟩ | ⟨b, arr, E, cap, h1, h2, h3, h4, h5, h6⟩
      · exact .inl ⟨rfl, by rw [swβ, swγ]; exact h2⟩
      · refine .inr ⟨b, arr, E, cap, by rw [swβ]; exact h1, h2, by rw [swγ, List.length_map]; exact h3, by rw [List.length_map]; exact h4, h5, ?_⟩
        rw [List.length_map, swDs_flat]
        exact swDs_sound _ _ h6
theorem Ent.swk [Lays] (i j : Nat) : Ent ⟨nt, tm, bx⟩ ⟨nt, swT i j tm, swX i j bx⟩ := fun N O0 w0 a w ⟨G, h⟩ => by
  have hg : ∀ k z, get k (swX i j bx) = some z → ∃ y, get (Go.Dw.swk i j k) bx = some y ∧ z = swB i j y := by
    intro k z hk
    rw [get_swX] at hk
    simp only [Option.map_eq_some_iff] at hk
    obtain ⟨y, hy, rfl⟩ := hk
    exact ⟨y, hy, rfl⟩
  have hβ : ∀ k, (G.sw i j).β k = G.β (Go.Dw.swk i j k) := fun _ => rfl
  have ho : ∀ b, owned (G.sw i j) (swX i j bx) b ↔ owned G bx b := fun b => by
    constructor
    · rintro ⟨k, z, hk, hb⟩
      obtain ⟨y, hy, _⟩ := hg k z hk
      exact ⟨_, y, hy, hb⟩
    · rintro ⟨k, y, hk, hb⟩
      exact ⟨Go.Dw.swk i j k, _, by rw [get_swX, swk_swk, hk]; rfl, by rw [swβ]; exact hb⟩
  have hA : Av N (G.sw i j) (swX i j bx) = Av N G bx := by
    funext bw b
    simp only [Av, ho]
  exact ⟨G.sw i j, {
    rep := fun k z hk => by
      obtain ⟨y, hy, rfl⟩ := hg k z hk
      show RepB w (Av N (G.sw i j) (swX i j bx)) (G.sw i j) k _
      rw [hA]
      have := swB_sound (i := i) (j := j) y (h.rep _ y hy)
      rwa [swk_swk] at this
    inj := fun k k' z z' b hk hk' hb hb' => by
      obtain ⟨y, hy, _⟩ := hg k z hk
      obtain ⟨y', hy', _⟩ := hg k' z' hk'
      have := h.inj _ _ y y' b hy hy' hb hb'
      rw [← swk_swk i j k, this, swk_swk]
    own := fun b hb => h.own b ((ho b).1 hb)
    tm := fun t d hd => by
      show ∃ y, _ ∧ RepD w (Av N (G.sw i j) (swX i j bx)) (G.sw i j) d y
      rw [hA]
      change get t (swT i j tm) = some d at hd
      rw [get_swT] at hd
      simp only [Option.map_eq_some_iff] at hd
      obtain ⟨d1, hd1, rfl⟩ := hd
      obtain ⟨y, hy, hr⟩ := h.tm t d1 hd1
      exact ⟨y, hy, swD_sound d1 y hr⟩
    nt := h.nt
    df := h.df
    fr := h.fr
    nlt := h.nlt
    odis := h.odis
    laid := h.laid }⟩
theorem DCall.swap [Lays] (i j : Nat) {f : FuncId} {as : List D} {bi : List (Nat × Blk)} {r : D} {bo : List (Nat × Blk)} (hok : okRes (swD i j r) (swX i j bo)) (h : DCall P f as bi r bo) : DCall P f as bi (swD i j r) (swX i j bo) := by
  refine ⟨h.1, hok, fun N G w vs hN hd hh has => ?_⟩
  refine Calls.mono (h.2.2 N G w vs hN hd hh has) ?_
  rintro e w' ⟨G', v, rfl, hk, hr, hfr, hfo⟩
  have hown : ∀ b, owned (G'.sw i j) (swX i j bo) b ↔ owned G' bo b := by
    intro b
    constructor
    · rintro ⟨k, x, hg, hb⟩
      rw [get_swX] at hg
      simp only [Option.map_eq_some_iff] at hg
      obtain ⟨y, hy, _⟩ := hg
      exact ⟨Go.Dw.swk i j k, y, hy, hb⟩
    · rintro ⟨k, x, hg, hb⟩
      exact ⟨Go.Dw.swk i j k, _, by rw [get_swX, swk_swk, hg]; rfl, by rw [swβ]; exact hb⟩
  have hA : AvR N (G'.sw i j) (swX i j bo) = AvR N G' bo := by
    funext bw b
    simp only [AvR, hown]
  refine ⟨G'.sw i j, v, rfl, ?_, by rw [hA]; exact swD_sound r v hr, hfr, fun b hb => hfo b ((hown b).1 hb)⟩
  rw [hA]
  exact {
    rep := fun k x hg => by
      rw [get_swX] at hg
      simp only [Option.map_eq_some_iff] at hg
      obtain ⟨y, hy, rfl⟩ := hg
      have := swB_sound (i := i) (j := j) y (hk.rep _ y hy)
      rwa [swk_swk] at this
    inj := fun k k' x x' b hg hg' hb hb' => by
      rw [get_swX] at hg hg'
      simp only [Option.map_eq_some_iff] at hg hg'
      obtain ⟨y, hy, _⟩ := hg
      obtain ⟨y', hy', _⟩ := hg'
      have := hk.inj _ _ y y' b hy hy' hb hb'
      rw [← swk_swk i j k, this, swk_swk]
    lt := fun b hb => hk.lt b ((hown b).1 hb)
    laid := hk.laid }
end Go.Dw
end
