/- Helpers of a proof. -/
import Derived.Test.YtnbgonichmcfaaaW22
set_option linter.unusedVariables false
set_option linter.unusedSimpArgs false
section
namespace Go.Dw
open Go.RowKit
variable {P : Program} {dr : Bool} {σ σ' : St} {Q : St → Prop} {l : List SO} {nt : Nat} {tm : List (Nat × D)} {bx : List (Nat × Blk)}
theorem q_some {d n : Nat} : (∀ t : Tmp, some d = some t → t < n) = (d < n) := propext ⟨fun h => h d rfl, fun h t ht => by cases ht; exact h⟩
theorem q_none {n : Nat} : (∀ t : Tmp, none = some t → t < n) = True := propext ⟨fun _ => trivial, fun _ t ht => by cases ht⟩
def argsD [Lays] (σ : St) (f : Operand) (args : List Operand) : Option (FuncId × List D) := match calleeD (σ.op f) with
  | some (g, fs, caps) => (closeDs σ none (fs ++ args.map σ.op ++ caps)).map fun as => (g, as)
  | none => none
def opsC [Lays] (P : Program) (dr : Bool) (Q : St → Prop) (l : List SO) (d : Tmp) (f : Operand) (args : Array Operand) (tys : Array TypeId) (σ : St) (o : Option (FuncId × List D)) : Prop :=
  o = argsD σ f args.toList → opsS P dr Q (⟨some d, .call { callee := .value f, args := args, argTypes := tys }, none⟩ :: l) σ
theorem s_call [Lays] {d : Tmp} {f : Operand} {args : Array Operand} {tys : Array TypeId} : opsS P dr Q (⟨some d, .call { callee := .value f, args := args, argTypes := tys }, none⟩ :: l) σ = opsC P dr Q l d f args tys σ (argsD σ f args.toList) :=
  propext ⟨fun h _ => h, fun h => h rfl⟩
theorem call_c [Lays] {d : Tmp} {f : Operand} {args : Array Operand} {tys : Array TypeId} {g : FuncId} {as : List D} {r : D} (hc : DCall P g as [] r []) (hd : d < nt) (h : opsS P dr Q l ⟨nt, ins d r tm, bx⟩) :
    opsC P dr Q l d f args tys ⟨nt, tm, bx⟩ (some (g, as)) := fun e => by
  unfold argsD at e
  split at e
  · rename_i g' fs caps hce
    simp only [Option.map] at e
    split at e
    · rename_i as' hcl
      cases e
      exact o_call0 hc hce hcl hd h
    · cases e
  · cases e
theorem call_r [Lays] {d : Tmp} {f : Operand} {args : Array Operand} {tys : Array TypeId} {g : FuncId} {as : List D} {r : D} {x : Blk} (hc : DCall P g as [] r [(d, x)]) (hd : d < nt) (hf : get d bx = none) (hm : menS d tm bx = false) (h : opsS P dr Q l ⟨nt, ins d r tm, ins d x bx⟩) (hu : x.unpin = true := by rfl) :
    opsC P dr Q l d f args tys ⟨nt, tm, bx⟩ (some (g, as)) := fun e => by
  unfold argsD at e
  split at e
  · rename_i g' fs caps hce
    simp only [Option.map] at e
    split at e
    · rename_i as' hcl
      cases e
      refine o_call (mv := none) hc hce hcl ?_ (fun _ => ⟨rfl, .inr ⟨d, x, rfl, rfl, hu⟩, rfl⟩) (fun t ht => by cases ht; exact hd) h
      exact ⟨trivial, hf, hm, rfl⟩
    · cases e
  · cases e
theorem closeDs_c (σ : St) (mv : Option Nat) : ∀ cs : List C, closeDs σ mv (cs.map D.c) = some (cs.map D.c)
  | [] => rfl
  | c :: cs => by simp [closeDs, closeD, closeDs_c σ mv cs]
theorem closeDs_append {σ : St} {mv : Option Nat} : ∀ {as bs as' bs' : List D}, closeDs σ mv as = some as' → closeDs σ mv bs = some bs' → closeDs σ mv (as ++ bs) = some (as' ++ bs')
  | [], _, _, _, ha, hb => by cases ha; exact hb
  | a :: as, bs, as', bs', ha, hb => by
    simp only [closeDs] at ha
    split at ha
    · rename_i x y hx hy
      cases ha
      simp only [List.cons_append, closeDs, hx, closeDs_append hy hb]
    · cases ha
theorem closeDs_fn [Lays] {σ : St} {mv : Option Nat} {fs caps : List C} {as : List D} : closeDs σ mv (fs.map D.c ++ as ++ caps.map D.c) = (closeDs σ mv as).map fun as' => fs.map D.c ++ as' ++ caps.map D.c := by
  cases h : closeDs σ mv as with
  | some as' =>
    rw [closeDs_append (closeDs_append (closeDs_c σ mv fs) h) (closeDs_c σ mv caps)]; rfl
  | none =>
    have key : ∀ (l as bs : List D), closeDs σ mv as = none → closeDs σ mv (l ++ as ++ bs) = none := by
      intro l as bs h
      induction l with
      | nil =>
        simp only [List.nil_append]
        induction as with
        | nil => cases h
        | cons a as ih =>
          simp only [closeDs] at h
          simp only [List.cons_append, closeDs]
          cases ha : closeD σ mv a with
          | none => rfl
          | some x =>
            rw [ha] at h
            cases hb : closeDs σ mv as with
            | none => rw [ih hb]
            | some y => rw [hb] at h; cases h
      | cons d l ih => simp only [List.cons_append, closeDs, ih]; cases closeD σ mv d <;> rfl
    rw [key _ _ _ h]; rfl
inductive WkE : List (List D) → List (List D) → Prop
  | nil : WkE [] []
  | cons {e e' : List D} {es es' : List (List D)} : Wks e e' → WkE es es' → WkE (e :: es) (e' :: es')
theorem WkE.refl [Lays] : ∀ es : List (List D), WkE es es
  | [] => .nil
  | e :: es => .cons (Wks.refl e) (WkE.refl es)
theorem WkE.append : ∀ {ds ds' es es' : List (List D)}, WkE ds ds' → WkE es es' → WkE (ds ++ es) (ds' ++ es')
  | _, _, _, _, .nil, h => h
  | _, _, _, _, .cons h1 h, h' => .cons h1 (WkE.append h h')
theorem WkE.length : ∀ {ds ds' : List (List D)}, WkE ds ds' → ds'.length = ds.length
  | _, _, .nil => rfl
  | _, _, .cons _ h => by simp [WkE.length h]
theorem WkE.flat [Lays] : ∀ {ds ds' : List (List D)}, WkE ds ds' → Wks ds.flatten ds'.flatten
  | _, _, .nil => .nil
  | _, _, .cons h1 h => by simpa using Wks.append h1 (WkE.flat h)
theorem WkE.mem [Lays] {n : Nat} : ∀ {ds ds' : List (List D)}, WkE ds ds' → (∀ e ∈ ds, e.length = n) → ∀ e ∈ ds', e.length = n
  | _, _, .nil, h => h
  | _, _, .cons h1 hs, h => by
    intro e he
    rcases List.mem_cons.1 he with rfl | he
    · rw [h1.length]; exact h _ (by simp)
    · exact WkE.mem hs (fun e he => h e (by simp [he])) e he
inductive WkB : Blk → Blk → Prop
  | refl (x : Blk) : WkB x x
  | box {cs cs' : List D} : Wks cs cs' → WkB (.box cs) (.box cs')
  | row {n : Nat} {es es' : List (List D)} : WkE es es' → WkB (.row n es) (.row n es')
theorem WkB.sound [Lays] {w : World} {A : Bool → Nat → Prop} {G : Gh} {k : Nat} {x x' : Blk} (h : WkB x x') (hr : RepB w A G k x) : RepB w A G k x' := by
  cases h with
  | refl => exact hr
  | box hs =>
    obtain ⟨b, arr, E, h1, h2, h3⟩ := hr
    exact ⟨b, arr, E, h1, h2, hs.sound h3⟩
  | row hs =>
    obtain ⟨h0, h1⟩ := hr
    refine ⟨hs.mem h0, ?_⟩
    rcases h1 with ⟨rfl, h2⟩ | ⟨b, arr, E, cap, h1, h2, h3, h4, h5, h6⟩
    · cases hs
      exact .inl ⟨rfl, h2⟩
    · exact .inr ⟨b, arr, E, cap, h1, h2, by rw [hs.length]; exact h3, by rw [hs.length]; exact h4, h5, by rw [hs.length]; exact hs.flat.sound h6⟩
theorem Ent.weak [Lays] {tm' : List (Nat × D)} {bx' : List (Nat × Blk)} (ht : ∀ t d', get t tm' = some d' → ∃ d, get t tm = some d ∧ Wk d d') (hb : ∀ k x', get k bx' = some x' → ∃ x, get k bx = some x ∧ WkB x x') : Ent ⟨nt, tm, bx⟩ ⟨nt, tm', bx'⟩ := ent_mk fun N O0 w0 G a w h => by
  have ho : ∀ b, owned G bx' b → owned G bx b := fun b ⟨k, x, hk, hb'⟩ => let ⟨y, hy, _⟩ := hb k x hk; ⟨k, y, hy, hb'⟩
  have hkp : Keeps w w (Av N G bx) (Av N G bx') := ⟨Nat.le_refl _, fun _ _ _ hA hA' => hA (hA'.imp (ho _) id), fun _ _ _ _ _ => rfl⟩
  refine ⟨G, ?_⟩
  exact {
    rep := fun k x hk => by
      obtain ⟨y, hy, hw⟩ := hb k x hk
      exact hw.sound (RepB.mono hkp (fun _ => False) (fun _ _ => ⟨rfl, rfl⟩) y (fun h => h) (fun _ _ => rfl) (fun _ h => h.elim) (h.rep k y hy))
    inj := fun k k' x x' b hk hk' => by
      obtain ⟨y, hy, _⟩ := hb k x hk
      obtain ⟨y', hy', _⟩ := hb k' x' hk'
      exact h.inj k k' y y' b hy hy'
    own := fun b hb' => h.own b (ho b hb')
    tm := fun t d hd => by
      obtain ⟨d1, hd1, hw⟩ := ht t d hd
      obtain ⟨y, hy, hr⟩ := h.tm t d1 hd1
      exact ⟨y, hy, hw.sound (RepD.keep hkp d1 y hr)⟩
    nt := h.nt
    df := h.df
    fr := h.fr
    nlt := h.nlt
    odis := h.odis
    laid := h.laid }
def wkT (tm : List (Nat × D)) : List (Nat × D) → Prop
  | [] => True
  | p :: l => (∃ d, get p.1 tm = some d ∧ Wk d p.2) ∧ wkT tm l
def wkX (bx : List (Nat × Blk)) : List (Nat × Blk) → Prop
  | [] => True
  | p :: l => (∃ d, get p.1 bx = some d ∧ WkB d p.2) ∧ wkX bx l
theorem wkT_mem {tm : List (Nat × D)} : ∀ {l : List (Nat × D)}, wkT tm l → ∀ p ∈ l, ∃ d, get p.1 tm = some d ∧ Wk d p.2
  | [], _, p, hp => by cases hp
  | q :: l, h, p, hp => by
    rcases List.mem_cons.1 hp with rfl | hp
    · exact h.1
    · exact wkT_mem h.2 p hp
theorem wkX_mem {bx : List (Nat × Blk)} : ∀ {l : List (Nat × Blk)}, wkX bx l → ∀ p ∈ l, ∃ d, get p.1 bx = some d ∧ WkB d p.2
  | [], _, p, hp => by cases hp
  | q :: l, h, p, hp => by
    rcases List.mem_cons.1 hp with rfl | hp
    · exact h.1
    · exact wkX_mem h.2 p hp
theorem Ent.to [Lays] {tm' : List (Nat × D)} {bx' : List (Nat × Blk)} (ht : wkT tm tm') (hb : wkX bx bx') : Ent ⟨nt, tm, bx⟩ ⟨nt, tm', bx'⟩ :=
  Ent.weak (fun _ _ h => wkT_mem ht _ (get_mem h)) (fun _ _ h => wkX_mem hb _ (get_mem h))
theorem wk_self {d : D} : Wk d d = True := eq_true (.refl d)
theorem wk_top {d : D} : Wk d .top = True := eq_true (.top d)
theorem wk_nil {a : Option Addr} {c : Nat} {bw : Bool} {n : Nat} : Wk (.c (.v (.slice a 0 c))) (.c (.sl bw n [])) = True := eq_true (.nil bw n)
theorem wkB_self {d : Blk} : WkB d d = True := eq_true (.refl d)
theorem wkT_cons {p : Nat × D} {l : List (Nat × D)} : wkT tm (p :: l) = ((∃ d, get p.1 tm = some d ∧ Wk d p.2) ∧ wkT tm l) := rfl
theorem wkX_cons {p : Nat × Blk} {l : List (Nat × Blk)} : wkX bx (p :: l) = ((∃ d, get p.1 bx = some d ∧ WkB d p.2) ∧ wkX bx l) := rfl
theorem wkT_nil : wkT tm [] = True := rfl
theorem wkX_nil : wkX bx [] = True := rfl
theorem ex_some {α : Type} {x : α} {p : α → Prop} : (∃ d, some x = some d ∧ p d) = p x := propext ⟨fun ⟨_, e, h⟩ => by cases e; exact h, fun h => ⟨x, rfl, h⟩⟩
mutual
def relD (k : Nat) (x : Blk) : D → D
  | .top => .top
  | .c c => .c c
  | .agg cs => .agg (relDs k x cs)
  | .tup cs => .tup (relDs k x cs)
  | .box j off => if j = k then (match x with
      | .box cs => match closedCs cs with
        | some l => .c (.ro false l off)
        | none => .top
      | _ => .top) else .box j off
  | .own j => if j = k then (match x with
      | .row n es => match closedEs es with
        | some l => .c (.sl false n l)
        | none => .top
      | _ => .top) else .own j
  | .elo j n i off => if j = k then .top else .elo j n i off
  | .hd j => if j = k then .top else .hd j
  | .win j n lo hi => if j = k then (match x with
      | .row m es => if n = m ∧ lo ≤ hi ∧ hi ≤ es.length then (match closedEs es with
        | some l => .c (.sl false n ((l.take hi).drop lo))
        | none => .top) else .top
      | _ => .top) else .win j n lo hi
  | .fn f fs caps => .fn f (relDs k x fs) (relDs k x caps)
def relDs (k : Nat) (x : Blk) : List D → List D
  | [] => []
  | d :: ds => relD k x d :: relDs k x ds
end
def relB (k : Nat) (x : Blk) : Blk → Blk
  | .box cs => .box (relDs k x cs)
  | .row n es => .row n (es.map (relDs k x))
  | .lp o v tm => .lp o v (tm.map fun p => (p.1, relD k x p.2))
  | .map ks ds => .map ks (relDs k x ds)
  | .pmap l ks ds => .pmap l ks (relDs k x ds)
  | .pbox l ds => .pbox l (relDs k x ds)
def relT (k : Nat) (x : Blk) : List (Nat × D) → List (Nat × D)
  | [] => []
  | p :: l => (p.1, relD k x p.2) :: relT k x l
def relX (k : Nat) (x : Blk) : List (Nat × Blk) → List (Nat × Blk)
  | [] => []
  | p :: l => if p.1 = k then relX k x l else (p.1, relB k x p.2) :: relX k x l
theorem get_relT {k : Nat} {x : Blk} {t : Nat} : ∀ {l : List (Nat × D)}, get t (relT k x l) = (get t l).map (relD k x)
  | [] => rfl
  | p :: l => by
    simp only [relT, get]
    split
    · rfl
    · exact get_relT
theorem get_relX {k : Nat} {x : Blk} {t : Nat} : ∀ {l : List (Nat × Blk)}, get t (relX k x l) = if t = k then none else (get t l).map (relB k x)
  | [] => by simp [relX, get]
  | p :: l => by
    have ih := get_relX (k := k) (x := x) (t := t) (l := l)
    simp only [relX]
    by_cases h1 : p.1 = k
    · rw [if_pos h1, ih]
      by_cases h2 : t = k
      · simp [h2]
      · simp only [h2, if_false, get]
        rw [if_neg (by omega)]
    · rw [if_neg h1]
      simp only [get]
      by_cases h3 : t = p.1
      · rw [if_pos h3, if_neg (by omega), if_pos h3]; rfl
      · rw [if_neg h3, if_neg h3, ih]
theorem relDs_map (k : Nat) (x : Blk) : ∀ ds : List D, relDs k x ds = ds.map (relD k x)
  | [] => rfl
  | d :: ds => by simp [relDs, relDs_map k x ds]
section
variable {N O0 : Nat → Prop} {w0 w : World} {G : Gh} {a : Act}
mutual
theorem relD_sound [Lays] {k : Nat} {x : Blk} {A A' : Bool → Nat → Prop} (hkp : Keeps w w A A') (hr : RepB w A G k x) (hlt : ∀ b, G.β k = some b → b < w.heap.size ∧ ¬ A' false b) : ∀ (d : D) (y : Value), RepD w A G d y → RepD w A' G (relD k x d) y
  | .top, _, _ => trivial
  | .c c, y, h => RepC.mono hkp c y h
  | .agg cs, y, h => by
    obtain ⟨ys, rfl, h⟩ := h
    exact ⟨ys, rfl, relDs_sound hkp hr hlt cs _ h⟩
  | .tup cs, y, h => by
    obtain ⟨ys, rfl, h⟩ := h
    exact ⟨ys, rfl, relDs_sound hkp hr hlt cs _ h⟩
  | .box j off, y, h => by
    simp only [relD]
    split
    · rename_i e; subst e
      split
      · rename_i cs
        split
        · rename_i l hl
          obtain ⟨b, hb, rfl⟩ := h
          obtain ⟨b', arr, E, hb', hh, hrep⟩ := hr
          rw [hb] at hb'; cases hb'
          have hcs := closedCs_spec hl
          subst hcs
          exact ⟨b, 0, by rw [Nat.zero_add], (hlt b hb).1, (hlt b hb).2, cells_of_RepDs hh (RepVs.mono hkp _ _ (RepDs.toVs hrep))⟩
        · trivial
      · trivial
    · exact h
  | .own j, y, h => by
    simp only [relD]
    split
    · rename_i e; subst e
      split
      · rename_i n es
        split
        · rename_i l hl
          obtain ⟨rfl, _⟩ := h
          exact row_closed hl hr hkp false hlt
        · trivial
      · trivial
    · exact h
  | .elo j n i off, y, h => by
    simp only [relD]
    split
    · trivial
    · exact h
  | .hd j, y, h => by
    simp only [relD]
    split
    · trivial
    · exact h
  | .win j n lo hi, y, h => by
    simp only [relD]
    split
    · rename_i e; subst e
      split
      · rename_i m es
        split
        · rename_i hc
          obtain ⟨rfl, hc1, hc2⟩ := hc
          split
          · rename_i l hl
            obtain ⟨a0, ln, c, hγ, _, _, rfl⟩ := h
            have hrc := row_closed hl hr hkp false hlt
            rw [hγ] at hrc
            have := closedEs_spec hl
            have hle : l.length = es.length := by rw [this]; simp [rowC]
            exact sl_window hrc hc1 (by omega)
          · trivial
        · trivial
      · trivial
    · exact h
  | .fn f fs caps, y, h => by
    obtain ⟨x1, x2, rfl, h1, h2⟩ := h
    exact ⟨x1, x2, rfl, relDs_sound hkp hr hlt fs _ h1, relDs_sound hkp hr hlt caps _ h2⟩
theorem relDs_sound [Lays] {k : Nat} {x : Blk} {A A' : Bool → Nat → Prop} (hkp : Keeps w w A A') (hr : RepB w A G k x) (hlt : ∀ b, G.β k = some b → b < w.heap.size ∧ ¬ A' false b) : ∀ (ds : List D) (ys : List Value), RepDs w A G ds ys → RepDs w A' G (relDs k x ds) ys
  | [], _, h => h
  | d :: ds, _, h => by
    obtain ⟨y, ys, rfl, h1, h2⟩ := h
    exact ⟨y, ys, rfl, relD_sound hkp hr hlt d y h1, relDs_sound hkp hr hlt ds ys h2⟩
end
theorem relDs_flat [Lays] (k : Nat) (x : Blk) (es : List (List D)) : (es.map (relDs k x)).flatten = relDs k x es.flatten := by
  rw [relDs_map, List.map_flatten]
  congr 1
  exact List.map_congr_left fun e _ => relDs_map k x e
theorem Ent.rel [Lays] (k : Nat) {x : Blk} (hk : get k bx = some x) : Ent ⟨nt, tm, bx⟩ ⟨nt, relT k x tm, relX k x bx⟩ := ent_mk fun N O0 w0 G a w h => by
  have hget : ∀ j z, get j (relX k x bx) = some z → j ≠ k ∧ ∃ y, get j bx = some y ∧ z = relB k x y := by
    intro j z hj
    rw [get_relX] at hj
    split at hj
    · cases hj
    · rename_i hne
      simp only [Option.map_eq_some_iff] at hj
      obtain ⟨y, hy, rfl⟩ := hj
      exact ⟨hne, y, hy, rfl⟩
  have ho : ∀ b, owned G (relX k x bx) b → owned G bx b := fun b ⟨j, z, hj, hb⟩ => let ⟨_, y, hy, _⟩ := hget j z hj; ⟨j, y, hy, hb⟩
  have hkp : Keeps w w (Av N G bx) (Av N G (relX k x bx)) := ⟨Nat.le_refl _, fun _ _ _ hA hA' => hA (hA'.imp (ho _) id), fun _ _ _ _ _ => rfl⟩
  have hlt : ∀ b, G.β k = some b → b < w.heap.size ∧ ¬ Av N G (relX k x bx) false b := by
    intro b hb
    have hob := h.own b ⟨k, x, hk, hb⟩
    refine ⟨hob.1, ?_⟩
    rintro (⟨j, z, hj, hbj⟩ | ⟨_, hn⟩)
    · obtain ⟨hne, y, hy, _⟩ := hget j z hj
      exact hne (h.inj j k y x b hy hk hbj hb)
    · rcases hob.2 with h1 | h1
      · exact h.odis b h1 hn
      · have := h.nlt b hn; omega
  have hrk := h.rep k x hk
  refine ⟨G, ?_⟩
  exact {
    rep := fun j z hj => by
      obtain ⟨_, y, hy, rfl⟩ := hget j z hj
      have := h.rep j y hy
      cases y with
      | lp o v tm =>
        refine ⟨this.1, fun p hp => ?_⟩
        obtain ⟨q, hq, rfl⟩ := List.mem_map.1 hp
        exact relD_sound hkp hrk hlt _ _ (this.2 q hq)
      | box cs =>
        obtain ⟨b, arr, E, h1, h2, h3⟩ := this
        exact ⟨b, arr, E, h1, h2, relDs_sound hkp hrk hlt cs _ h3⟩
      | map ks ds =>
        obtain ⟨b, ents, clk, h1, h2, h4, h3⟩ := this
        exact ⟨b, ents, clk, h1, h2, h4, relDs_sound hkp hrk hlt ds _ h3⟩
      | pmap l ks ds =>
        obtain ⟨b, ents, clk, h1, h2, h4, h3⟩ := this
        exact ⟨b, ents, clk, h1, h2, h4, relDs_sound hkp hrk hlt ds _ h3⟩
      | pbox l ds =>
        obtain ⟨b, arr, E, h1, h2, h3⟩ := this
        exact ⟨b, arr, E, h1, h2, relDs_sound hkp hrk hlt ds _ h3⟩
      | row n es =>
        obtain ⟨h0, h1⟩ := this
        refine ⟨fun e he => ?_, ?_⟩
        · obtain ⟨e', he', rfl⟩ := List.mem_map.1 he
          rw [relDs_map, List.length_map]; exact h0 e' he'
        · rcases h1 with ⟨rfl, h2⟩ | ⟨b, arr, E, cap, h1, h2, h3, h4, h5, h6⟩
          · exact .inl ⟨rfl, h2⟩
          · refine .inr ⟨b, arr, E, cap, h1, h2, by rw [List.length_map]; exact h3, by rw [List.length_map]; exact h4, h5, ?_⟩
            rw [List.length_map, relDs_flat]
            exact relDs_sound hkp hrk hlt _ _ h6
    inj := fun j j' z z' b hj hj' => by
      obtain ⟨_, y, hy, _⟩ := hget j z hj
      obtain ⟨_, y', hy', _⟩ := hget j' z' hj'
      exact h.inj j j' y y' b hy hy'
    own := fun b hb' => h.own b (ho b hb')
    tm := fun t d hd => by
      rw [get_relT] at hd
      simp only [Option.map_eq_some_iff] at hd
      obtain ⟨d1, hd1, rfl⟩ := hd
      obtain ⟨y, hy, hr⟩ := h.tm t d1 hd1
      exact ⟨y, hy, relD_sound hkp hrk hlt d1 y hr⟩
    nt := h.nt
    df := h.df
    fr := h.fr
    nlt := h.nlt
    odis := h.odis
    laid := h.laid }
end
theorem relDs_c (k : Nat) (x : Blk) : ∀ cs : List C, relDs k x (cs.map D.c) = cs.map D.c
  | [] => rfl
  | c :: cs => by simp [relDs, relD, relDs_c k x cs]
theorem rel_rowC [Lays] (k : Nat) (x : Blk) (es : List (List C)) : (rowC es).map (relDs k x) = rowC es := by
  simp only [rowC, List.map_map]
  exact List.map_congr_left fun e _ => relDs_c k x e
theorem Ent.adopt [Lays] (t k n : Nat) (ht : get t tm = some (.c (.v (.slice none 0 0)))) (hk : get k bx = none) (hm : menS k tm bx = false) : Ent ⟨nt, tm, bx⟩ ⟨nt, ins t (.own k) tm, ins k (.row n []) bx⟩ := ent_mk fun N O0 w0 G a w h => by
  have h' := h.adopt hk hm n
  refine ⟨G.set k none (.slice none 0 0), ?_⟩
  obtain ⟨y, hy, hr⟩ := h.tm t _ ht
  obtain ⟨rfl, _⟩ := hr
  exact {
    rep := h'.rep, inj := h'.inj, own := h'.own, nt := h'.nt, df := h'.df, fr := h'.fr, nlt := h'.nlt, odis := h'.odis
    laid := h'.laid
    tm := fun t' d hd => by
      simp only [get_ins] at hd
      split at hd
      · rename_i e; subst e; cases hd
        exact ⟨_, hy, by simp [Gh.set], none, 0, 0, rfl⟩
      · exact h'.tm t' d hd }
theorem DW.cond_tt [Lays] {o : Operand} {x y : SC} {Q : Exit → St → Prop} (hc : σ.op o = bD true) (hx : DW P x Q σ) : DW P (.cond o x y) Q σ := DW.cond hc (fun _ => hx) (fun h => by cases h)
theorem DW.cond_ff [Lays] {o : Operand} {x y : SC} {Q : Exit → St → Prop} (hc : σ.op o = bD false) (hy : DW P y Q σ) : DW P (.cond o x y) Q σ := DW.cond hc (fun h => by cases h) (fun _ => hy)
theorem loop_normal [Lays] {ι : Type} {mk : ι → St} {m : ι → Nat} {Q : Exit → St → Prop} {i : ι} : loopQ mk m Q i .normal σ = ∃ i', m i' < m i ∧ Ent σ (mk i') := rfl
theorem loop_ret [Lays] {ι : Type} {mk : ι → St} {m : ι → Nat} {Q : Exit → St → Prop} {i : ι} : loopQ mk m Q i .ret σ = Q .ret σ := rfl
theorem loop_exit [Lays] {ι : Type} {mk : ι → St} {m : ι → Nat} {Q : Exit → St → Prop} {i : ι} {n : Nat} : loopQ mk m Q i (.exit n) σ = Q (.exit n) σ := rfl
theorem retS_ent [Lays] {e : Exit} {res : List ResultVar} {r : D} {bo : List (Nat × Blk)} (he : Ent σ σ') (h : retS P res r bo e σ') : retS P res r bo e σ := by
  obtain ⟨h1, σ1, ds, h2, h3⟩ := h
  exact ⟨h1, σ1, ds, he.trans h2, h3⟩
theorem retS_of' [Lays] {e : Exit} {res : List ResultVar} {r : D} {ds : List D} (he : e = .ret ∨ e = .normal) (h : resD P σ res = some ds) (hr : Wk (oneD ds) r) (hn : r.nb = true) : retS P res r [] e σ :=
  ⟨he, σ, ds, Ent.refl _, h, hr, hn, fun _ _ h => by cases h⟩
theorem retS_wk [Lays] {res : List ResultVar} {r : D} {ds : List D} (h : resD P σ res = some ds) (hr : Wk (oneD ds) r) (hn : r.nb = true) : retS P res r [] .ret σ := retS_of' (.inl rfl) h hr hn
end Go.Dw
end
