/- Helpers of a proof. -/
import Derived.Test.YtnbgonichmcfaaaDoorW39
set_option linter.unusedVariables false
set_option linter.unusedSimpArgs false
section
set_option linter.unusedSimpArgs false
namespace Go.Dw
open Go.RowKit
variable {P : Program} {nt : Nat} {tm : List (Nat × D)} {bx : List (Nat × Blk)}
mutual
def pinD (k l : Nat) : D → D
  | .top => .top
  | .c c => .c c
  | .agg cs => .agg (pinDs k l cs)
  | .tup cs => .tup (pinDs k l cs)
  | .box j off => if j = k then .c (.v (.pointer (some ⟨l, off, none⟩))) else .box j off
  | .own j => .own j
  | .elo j n i off => .elo j n i off
  | .hd j => if j = k then .c (.v (.map (some l))) else .hd j
  | .win j n lo hi => .win j n lo hi
  | .fn f fs caps => .fn f (pinDs k l fs) (pinDs k l caps)
def pinDs (k l : Nat) : List D → List D
  | [] => []
  | d :: ds => pinD k l d :: pinDs k l ds
end
def pinB (k l : Nat) : Blk → Blk
  | .box cs => .box (pinDs k l cs)
  | .row n es => .row n (es.map (pinDs k l))
  | .lp o v tm => .lp o v (tm.map fun p => (p.1, pinD k l p.2))
  | .map ks ds => .map ks (pinDs k l ds)
  | .pmap l' ks ds => .pmap l' ks (pinDs k l ds)
  | .pbox l' ds => .pbox l' (pinDs k l ds)
def pinO (l : Nat) : Blk → Blk
  | .box cs => .pbox l cs
  | .map ks ds => .pmap l ks ds
  | x => x
def pinT (k l : Nat) : List (Nat × D) → List (Nat × D)
  | [] => []
  | p :: r => (p.1, pinD k l p.2) :: pinT k l r
def pinX (k l : Nat) : List (Nat × Blk) → List (Nat × Blk)
  | [] => []
  | p :: r => (p.1, if p.1 = k then pinO l (pinB k l p.2) else pinB k l p.2) :: pinX k l r
theorem get_pinT {k l t : Nat} : ∀ {r : List (Nat × D)}, get t (pinT k l r) = (get t r).map (pinD k l)
  | [] => rfl
  | p :: r => by
    simp only [pinT, get]
    split
    · rfl
    · exact get_pinT
theorem get_pinX {k l t : Nat} : ∀ {r : List (Nat × Blk)}, get t (pinX k l r) = (get t r).map fun x => if t = k then pinO l (pinB k l x) else pinB k l x
  | [] => rfl
  | p :: r => by
    simp only [pinX, get]
    split
    · rename_i e; subst e; rfl
    · exact get_pinX
theorem pinDs_map (k l : Nat) : ∀ ds : List D, pinDs k l ds = ds.map (pinD k l)
  | [] => rfl
  | d :: ds => by simp [pinDs, pinDs_map k l ds]
section
variable {N O0 : Nat → Prop} {w0 w : World} {G : Gh} {a : Act} {A : Bool → Nat → Prop}
mutual
theorem pinD_sound {k l : Nat} (hl : G.β k = some l) : ∀ (d : D) (y : Value), RepD w A G d y → RepD w A G (pinD k l d) y
  | .top, _, _ => trivial
  | .c c, y, h => h
  | .agg cs, y, h => by
    obtain ⟨ys, rfl, h⟩ := h
    exact ⟨ys, rfl, pinDs_sound hl cs _ h⟩
  | .tup cs, y, h => by
    obtain ⟨ys, rfl, h⟩ := h
    exact ⟨ys, rfl, pinDs_sound hl cs _ h⟩
  | .box j off, y, h => by
    simp only [pinD]
    split
    · rename_i e; subst e
      obtain ⟨b, hb, rfl⟩ := h
      rw [hl] at hb; cases hb
      exact ⟨rfl, rfl⟩
    · exact h
  | .own _, _, h => h
  | .elo _ _ _ _, _, h => h
  | .hd j, y, h => by
    simp only [pinD]
    split
    · rename_i e; subst e
      obtain ⟨b, hb, rfl⟩ := h
      rw [hl] at hb; cases hb
      exact ⟨rfl, rfl⟩
    · exact h
  | .win _ _ _ _, _, h => h
  | .fn f fs caps, y, h => by
    obtain ⟨x1, x2, rfl, h1, h2⟩ := h
    exact ⟨x1, x2, rfl, pinDs_sound hl fs _ h1, pinDs_sound hl caps _ h2⟩
theorem pinDs_sound {k l : Nat} (hl : G.β k = some l) : ∀ (ds : List D) (ys : List Value), RepDs w A G ds ys → RepDs w A G (pinDs k l ds) ys
  | [], _, h => h
  | d :: ds, _, h => by
    obtain ⟨y, ys, rfl, h1, h2⟩ := h
    exact ⟨y, ys, rfl, pinD_sound hl d y h1, pinDs_sound hl ds ys h2⟩
end
theorem pinDs_flat (k l : Nat) (es : List (List D)) : (es.map (pinDs k l)).flatten = pinDs k l es.flatten := by
  rw [pinDs_map, List.map_flatten]
  congr 1
  exact List.map_congr_left fun e _ => pinDs_map k l e
theorem pinB_sound {k l : Nat} (hl : G.β k = some l) {j : Nat} (x : Blk) (h : RepB w A G j x) : RepB w A G j (pinB k l x) := by
  cases x with
  | lp o v tm =>
    refine ⟨h.1, fun p hp => ?_⟩
    obtain ⟨q, hq, rfl⟩ := List.mem_map.1 hp
    exact pinD_sound hl _ _ (h.2 q hq)
  | box cs =>
    obtain ⟨b, arr, E, h1, h2, h3⟩ := h
    exact ⟨b, arr, E, h1, h2, pinDs_sound hl cs _ h3⟩
  | map ks ds =>
    obtain ⟨b, ents, clk, h1, h2, h4, h3⟩ := h
    exact ⟨b, ents, clk, h1, h2, h4, pinDs_sound hl ds _ h3⟩
  | pmap l' ks ds =>
    obtain ⟨b, ents, clk, h1, h2, h4, h3⟩ := h
    exact ⟨b, ents, clk, h1, h2, h4, pinDs_sound hl ds _ h3⟩
  | pbox l' ds =>
    obtain ⟨b, arr, E, h1, h2, h3⟩ := h
    exact ⟨b, arr, E, h1, h2, pinDs_sound hl ds _ h3⟩
  | row n es =>
    obtain ⟨h0, h1⟩ := h
    refine ⟨fun e he => ?_, ?_⟩
    · obtain ⟨e', he', rfl⟩ := List.mem_map.1 he
      rw [pinDs_map, List.length_map]; exact h0 e' he'
    · rcases h1 with ⟨rfl, h2⟩ | ⟨b, arr, E, cap, h1, h2, h3, h4, h5, h6⟩
      · exact .inl ⟨rfl, h2⟩
      · refine .inr ⟨b, arr, E, cap, h1, h2, by rw [List.length_map]; exact h3, by rw [List.length_map]; exact h4, h5, ?_⟩
        rw [List.length_map, pinDs_flat]
        exact pinDs_sound hl _ _ h6
theorem pinO_sound {k l : Nat} (hl : G.β k = some l) (x : Blk) (h : RepB w A G k x) : RepB w A G k (pinO l x) := by
  cases x with
  | box cs =>
    obtain ⟨b, arr, E, h1, h2, h3⟩ := h
    have e : b = l := by rw [hl] at h1; cases h1; rfl
    exact ⟨b, arr, E, ⟨h1, e⟩, h2, h3⟩
  | map ks ds =>
    obtain ⟨b, ents, clk, h1, h2, h4, h3⟩ := h
    have e : b = l := by rw [hl] at h1; cases h1; rfl
    exact ⟨b, ents, clk, ⟨h1, e⟩, h2, h4, h3⟩
  | _ => exact h
end
def pinned : Blk → Bool
  | .box _ => true
  | .map _ _ => true
  | _ => false
theorem Inv.pin [Lays] {N O0 : Nat → Prop} {w0 w : World} {a : Act} (k : Nat) {x : Blk} (hk : get k bx = some x) (hx : pinned x = true) (h : Inv N O0 w0 ⟨nt, tm, bx⟩ a w) : ∃ l, Inv N O0 w0 ⟨nt, pinT k l tm, pinX k l bx⟩ a w := by
  obtain ⟨G, h⟩ := h
  obtain ⟨l, hl⟩ : ∃ l, G.β k = some l := by
    have := h.rep k x hk
    cases x with
    | box cs => obtain ⟨b, _, _, h1, _⟩ := this; exact ⟨b, h1⟩
    | map ks ds => obtain ⟨b, _, _, h1, _⟩ := this; exact ⟨b, h1⟩
    | _ => cases hx
  refine ⟨l, G, ?_⟩
  have hget : ∀ j z, get j (pinX k l bx) = some z → ∃ y, get j bx = some y ∧ z = if j = k then pinO l (pinB k l y) else pinB k l y := by
    intro j z hj
    rw [get_pinX] at hj
    simp only [Option.map_eq_some_iff] at hj
    obtain ⟨y, hy, rfl⟩ := hj
    exact ⟨y, hy, rfl⟩
  have ho : ∀ b, owned G (pinX k l bx) b ↔ owned G bx b := fun b => by
    constructor
    · rintro ⟨j, z, hj, hb⟩
      obtain ⟨y, hy, _⟩ := hget j z hj
      exact ⟨j, y, hy, hb⟩
    · rintro ⟨j, y, hj, hb⟩
      exact ⟨j, _, by rw [get_pinX, hj]; rfl, hb⟩
  have hA : Av N G (pinX k l bx) = Av N G bx := by
    funext bw b
    simp only [Av, ho]
  exact {
    rep := fun j z hj => by
      obtain ⟨y, hy, rfl⟩ := hget j z hj
      show RepB w (Av N G (pinX k l bx)) G j _
      rw [hA]
      have := pinB_sound hl y (h.rep j y hy)
      split
      · rename_i e; subst e; exact pinO_sound hl _ this
      · exact this
    inj := fun j j' z z' b hj hj' => by
      obtain ⟨y, hy, _⟩ := hget j z hj
      obtain ⟨y', hy', _⟩ := hget j' z' hj'
      exact h.inj j j' y y' b hy hy'
    own := fun b hb => h.own b ((ho b).1 hb)
    tm := fun t d hd => by
      show ∃ y, _ ∧ RepD w (Av N G (pinX k l bx)) G d y
      rw [hA]
      rw [get_pinT] at hd
      simp only [Option.map_eq_some_iff] at hd
      obtain ⟨d1, hd1, rfl⟩ := hd
      obtain ⟨y, hy, hr⟩ := h.tm t d1 hd1
      exact ⟨y, hy, pinD_sound hl d1 y hr⟩
    nt := h.nt
    df := h.df
    fr := h.fr
    nlt := h.nlt
    odis := h.odis
    laid := h.laid }
theorem W.pin [Lays] {c : Code} {Q : Exit → St → Prop} (k : Nat) {x : Blk} (hk : get k bx = some x) (hx : pinned x = true) (h : ∀ l, W P c Q ⟨nt, pinT k l tm, pinX k l bx⟩) : W P c Q ⟨nt, tm, bx⟩ :=
  fun N O0 w0 a w rd n Qm hi hq => by
    obtain ⟨l, hl⟩ := hi.pin k hk hx
    exact h l N O0 w0 a w rd n Qm hl hq
theorem DW.pin [Lays] {s : SC} {Q : Exit → St → Prop} (k : Nat) {x : Blk} (hk : get k bx = some x) (hx : pinned x = true) (h : ∀ l, DW P s Q ⟨nt, pinT k l tm, pinX k l bx⟩) : DW P s Q ⟨nt, tm, bx⟩ :=
  fun c hc => W.pin k hk hx fun l => h l c hc
def apartB (own h : List (Nat × Blk)) : Bool := own.all fun p => (get p.1 h).isNone
theorem apartB_spec {own h : List (Nat × Blk)} (hb : apartB own h = true) : ∀ k x, get k own = some x → get k h = none := fun k x hk => by
  have := List.all_eq_true.1 hb _ (get_mem hk)
  simpa using this
theorem call_h [Lays] {Q : St → Prop} {l : List SO} {d : Tmp} {f : Operand} {args : Array Operand} {tys : Array TypeId} {g : FuncId} {fs caps as : List D} {r : D} {o : Option (FuncId × List D)} {tm0 : List (Nat × D)} {own h h' : List (Nat × Blk)}
    (hc : DCall P g as h r h') (he : Ent ⟨nt, tm, bx⟩ ⟨nt, tm0, h ++ own⟩) (hce : calleeD (St.op ⟨nt, tm0, h ++ own⟩ f) = some (g, fs, caps)) (hcl : closeDs ⟨nt, tm0, own⟩ none (fs ++ args.toList.map (St.op ⟨nt, tm0, h ++ own⟩) ++ caps) = some as)
    (hap : apartB own h = true) (hap' : h'.all (fun p => (get p.1 own).isNone && !(menS p.1 tm0 own)) = true) (hd : d < nt) (hQ : opsS P false Q l ⟨nt, ins d r tm0, h' ++ own⟩) : opsC P false Q l d f args tys ⟨nt, tm, bx⟩ o := fun _ => by
  refine ⟨_, ⟨fun t ht => (by cases ht; exact hd), .inr ⟨rfl, .inr (.inl ⟨_, he, rfl, g, fs, caps, as, own, h, r, h', hce, hcl, hc, rfl, apartB_spec hap, fun k x hk => ?_, rfl⟩)⟩⟩, .inl rfl, hQ⟩
  have := List.all_eq_true.1 hap' _ (get_mem hk)
  simp only [Bool.and_eq_true, Option.isNone_iff_eq_none, Bool.not_eq_true'] at this
  exact this
theorem s_nilCheck [Lays] {Q : St → Prop} {dr : Bool} {l : List SO} {d : Tmp} {x : Operand} : opsS P dr Q (⟨some d, .nilCheck x, none⟩ :: l) ⟨nt, tm, bx⟩ = (d < nt ∧ opsV P dr Q l d nt tm bx (evP P ⟨nt, tm, bx⟩ (.nilCheck x))) := o_pure rfl
theorem nilD_ptr (a : Addr) : nilD (.c (.v (.pointer (some a)))) = some (.c (.v (.pointer (some a)))) := rfl
theorem nilD_ro (b : Bool) (cs : List C) (off : Nat) : nilD (.c (.ro b cs off)) = some (.c (.ro b cs off)) := rfl
theorem nilD_box (k off : Nat) : nilD (.box k off) = some (.box k off) := rfl
theorem nilD_elo (k n i off : Nat) : nilD (.elo k n i off) = some (.elo k n i off) := rfl
attribute [go_sem] s_nilCheck nilD_ptr nilD_ro nilD_box nilD_elo s_lookup s_update s_makeMap pget mget pkey Blk.pinB Blk.pinM mapAt lookD evM updAt keyD valsC
end Go.Dw
end
