/- Helpers of a proof. -/
import Derived.Test.YtalhglghjfdgkaaW44
set_option linter.unusedVariables false
set_option linter.unusedSimpArgs false
section
set_option linter.unusedSimpArgs false
namespace Go.Dw
open Go.RowKit
variable {P : Program} {nt : Nat} {tm : List (Nat × D)} {bx : List (Nat × Blk)}
structure RowAt where
  l : Nat
  len : Nat
  cap : Nat
  m : Nat
def RowAt.v (p : RowAt) : Value := .slice (some ⟨p.l, 0, none⟩) p.len p.cap
mutual
def rpD (k : Nat) (p : RowAt) : D → D
  | .top => .top
  | .c c => .c c
  | .agg cs => .agg (rpDs k p cs)
  | .tup cs => .tup (rpDs k p cs)
  | .box j off => .box j off
  | .own j => if j = k then .c (.v p.v) else .own j
  | .elo j n i off => .elo j n i off
  | .hd j => .hd j
  | .win j n lo hi => if j = k ∧ lo < p.cap ∧ lo ≤ hi ∧ hi ≤ p.len then .c (.v (.slice (some ⟨p.l, lo * n, none⟩) (hi - lo) (p.cap - lo))) else .win j n lo hi
  | .fn f fs caps => .fn f (rpDs k p fs) (rpDs k p caps)
def rpDs (k : Nat) (p : RowAt) : List D → List D
  | [] => []
  | d :: ds => rpD k p d :: rpDs k p ds
end
section
variable {w : World} {G : Gh} {A : Bool → Nat → Prop} {k : Nat} {p : RowAt}
mutual
theorem rpD_to (hg : G.γ k = p.v) : ∀ (d : D) (y : Value), RepD w A G d y → RepD w A G (rpD k p d) y
  | .top, _, _ => trivial
  | .c c, y, h => h
  | .agg cs, y, h => by
    obtain ⟨ys, rfl, h⟩ := h
    exact ⟨ys, rfl, rpDs_to hg cs _ h⟩
  | .tup cs, y, h => by
    obtain ⟨ys, rfl, h⟩ := h
    exact ⟨ys, rfl, rpDs_to hg cs _ h⟩
  | .box j off, y, h => h
  | .own j, y, h => by
    simp only [rpD]
    split
    · rename_i e; subst e
      obtain ⟨rfl, _⟩ := h
      rw [hg]
      exact ⟨rfl, rfl⟩
    · exact h
  | .elo _ _ _ _, _, h => h
  | .hd j, y, h => h
  | .win j n lo hi, y, h => by
    simp only [rpD]
    split
    · rename_i e
      obtain ⟨rfl, e1, e2, e3⟩ := e
      obtain ⟨a, l, c, h1, _, _, rfl⟩ := h
      rw [hg] at h1
      cases h1
      rw [if_neg (by omega)]
      simp only [Option.map_some]
      refine ⟨?_, rfl⟩
      simp only [Addr.add, Nat.zero_add]
      by_cases h0 : lo * n = 0
      · rw [if_pos h0, h0]
      · rw [if_neg h0]
    · exact h
  | .fn f fs caps, y, h => by
    obtain ⟨x1, x2, rfl, h1, h2⟩ := h
    exact ⟨x1, x2, rfl, rpDs_to hg fs _ h1, rpDs_to hg caps _ h2⟩
theorem rpDs_to (hg : G.γ k = p.v) : ∀ (ds : List D) (ys : List Value), RepDs w A G ds ys → RepDs w A G (rpDs k p ds) ys
  | [], _, h => h
  | d :: ds, _, h => by
    obtain ⟨y, ys, rfl, h1, h2⟩ := h
    exact ⟨y, ys, rfl, rpD_to hg d y h1, rpDs_to hg ds ys h2⟩
end
mutual
theorem rpD_of (hg : G.γ k = p.v) : ∀ (d : D) (y : Value), RepD w A G (rpD k p d) y → RepD w A G d y
  | .top, _, _ => trivial
  | .c c, y, h => h
  | .agg cs, y, h => by
    obtain ⟨ys, rfl, h⟩ := h
    exact ⟨ys, rfl, rpDs_of hg cs _ h⟩
  | .tup cs, y, h => by
    obtain ⟨ys, rfl, h⟩ := h
    exact ⟨ys, rfl, rpDs_of hg cs _ h⟩
  | .box j off, y, h => h
  | .own j, y, h => by
    simp only [rpD] at h
    split at h
    · rename_i e; subst e
      obtain ⟨rfl, _⟩ := h
      exact ⟨hg.symm, _, _, _, rfl⟩
    · exact h
  | .elo _ _ _ _, _, h => h
  | .hd j, y, h => h
  | .win j n lo hi, y, h => by
    simp only [rpD] at h
    split at h
    · rename_i e
      obtain ⟨rfl, e1, e2, e3⟩ := e
      obtain ⟨rfl, _⟩ := h
      refine ⟨_, _, _, hg, e2, e3, ?_⟩
      rw [if_neg (by omega)]
      simp only [Option.map_some, Addr.add, Nat.zero_add]
      by_cases h0 : lo * n = 0
      · rw [if_pos h0, h0]
      · rw [if_neg h0]
    · exact h
  | .fn f fs caps, y, h => by
    obtain ⟨x1, x2, rfl, h1, h2⟩ := h
    exact ⟨x1, x2, rfl, rpDs_of hg fs _ h1, rpDs_of hg caps _ h2⟩
theorem rpDs_of (hg : G.γ k = p.v) : ∀ (ds : List D) (ys : List Value), RepDs w A G (rpDs k p ds) ys → RepDs w A G ds ys
  | [], _, h => h
  | d :: ds, _, h => by
    obtain ⟨y, ys, rfl, h1, h2⟩ := h
    exact ⟨y, ys, rfl, rpD_of hg d y h1, rpDs_of hg ds ys h2⟩
end
end
def rpT (k : Nat) (p : RowAt) : List (Nat × D) → List (Nat × D)
  | [] => []
  | q :: r => (q.1, rpD k p q.2) :: rpT k p r
theorem get_rpT {k : Nat} {p : RowAt} {t : Nat} : ∀ {r : List (Nat × D)}, get t (rpT k p r) = (get t r).map (rpD k p)
  | [] => rfl
  | q :: r => by
    simp only [rpT, get]
    split
    · rfl
    · exact get_rpT
theorem rpT_ins {k : Nat} {p : RowAt} {d : Nat} {r : D} : ∀ (t : List (Nat × D)), rpT k p (ins d r t) = ins d (rpD k p r) (rpT k p t)
  | [] => rfl
  | q :: t => by
    simp only [ins, rpT]
    split
    · rfl
    · split
      · rfl
      · simp only [rpT, rpT_ins t]
def RowAt.blk (p : RowAt) (es : List (List D)) : Blk := .pbox p.l (es.flatten ++ List.replicate p.m .top)
structure RowAt.ok (p : RowAt) (n : Nat) (es : List (List D)) : Prop where
  len : p.len = es.length
  cap : p.len ≤ p.cap
  m : es.length * n + p.m = p.cap * n
theorem Inv.rowPin [Lays] {N O0 : Nat → Prop} {w0 w : World} {a : Act} {k n : Nat} {es : List (List D)} (hne : es ≠ []) (hk : get k bx = some (.row n es)) (h : Inv N O0 w0 ⟨nt, tm, bx⟩ a w) :
    ∃ p : { p : RowAt // p.ok n es }, Inv N O0 w0 ⟨nt, rpT k p.1 tm, (k, p.1.blk es) :: del k bx⟩ a w := by
  obtain ⟨G, h⟩ := h
  obtain ⟨hlen, ⟨hnil, _⟩ | ⟨b, arr, E, cap, hb, hheap, hγ, hcap, hsz, hrep⟩⟩ := h.rep k (.row n es) hk
  · exact absurd hnil hne
  have hal : arr.toList.length = cap * n := hsz
  have hle : es.length * n ≤ arr.toList.length := by
    rw [hal]; exact Nat.mul_le_mul_right _ hcap
  refine ⟨⟨⟨b, es.length, cap, (arr.toList.drop (es.length * n)).length⟩, ⟨rfl, hcap, by dsimp only; rw [List.length_drop, hal]; rw [hal] at hle; omega⟩⟩, G, ?_⟩
  dsimp only
  obtain ⟨p, hp⟩ : ∃ p : RowAt, p = ⟨b, es.length, cap, (arr.toList.drop (es.length * n)).length⟩ := ⟨_, rfl⟩
  rw [← hp]
  have hv : G.γ k = p.v := by rw [hγ, hp]; rfl
  have hg : ∀ j x, get j ((k, p.blk es) :: del k bx) = some x → (j = k ∧ x = p.blk es) ∨ (j ≠ k ∧ get j bx = some x) := fun j x hj => by
    simp only [get] at hj
    split at hj
    · rename_i e; cases hj; exact .inl ⟨e, rfl⟩
    · rename_i e
      rw [get_del, if_neg e] at hj
      exact .inr ⟨e, hj⟩
  have hin : ∀ j x, get j ((k, p.blk es) :: del k bx) = some x → ∃ y, get j bx = some y := fun j x hj => by
    rcases hg j x hj with ⟨rfl, _⟩ | ⟨_, hj⟩
    · exact ⟨_, hk⟩
    · exact ⟨_, hj⟩
  have ho : ∀ c, owned G ((k, p.blk es) :: del k bx) c ↔ owned G bx c := fun c => by
    constructor
    · rintro ⟨j, x, hj, hc⟩
      obtain ⟨y, hy⟩ := hin j x hj
      exact ⟨j, y, hy, hc⟩
    · rintro ⟨j, x, hj, hc⟩
      by_cases e : j = k
      · subst e; exact ⟨j, p.blk es, by simp [get], hc⟩
      · exact ⟨j, x, by simp only [get, if_neg e]; rw [get_del, if_neg e]; exact hj, hc⟩
  have hA : Av N G ((k, p.blk es) :: del k bx) = Av N G bx := by
    funext bw c
    simp only [Av, ho]
  exact {
    rep := fun j x hj => by
      show RepB w (Av N G ((k, p.blk es) :: del k bx)) G j x
      rw [hA]
      rcases hg j x hj with ⟨rfl, rfl⟩ | ⟨_, hj⟩
      · have h2 := hrep.append (RepDs.tops (w := w) (A := Av N G bx) (G := G) (arr.toList.drop (es.length * n)))
        rw [List.take_append_drop] at h2
        rw [hp]
        exact ⟨b, arr, E, ⟨hb, rfl⟩, hheap, h2⟩
      · exact h.rep j x hj
    inj := fun j j' z z' c hj hj' => by
      obtain ⟨y, hy⟩ := hin j z hj
      obtain ⟨y', hy'⟩ := hin j' z' hj'
      exact h.inj j j' y y' c hy hy'
    own := fun c hc => h.own c ((ho c).1 hc)
    tm := fun t d hd => by
      show ∃ y, _ ∧ RepD w (Av N G ((k, p.blk es) :: del k bx)) G d y
      rw [hA]
      change get t (rpT k p tm) = some d at hd
      rw [get_rpT] at hd
      simp only [Option.map_eq_some_iff] at hd
      obtain ⟨d1, hd1, rfl⟩ := hd
      obtain ⟨y, hy, hr⟩ := h.tm t d1 hd1
      exact ⟨y, hy, rpD_to hv d1 y hr⟩
    nt := h.nt
    df := h.df
    fr := h.fr
    nlt := h.nlt
    odis := h.odis
    laid := h.laid }
theorem Inv.rowUnpin [Lays] {N O0 : Nat → Prop} {w0 w : World} {a : Act} {k n : Nat} {p : RowAt} {es es' : List (List D)} (hp : p.ok n es) (hl : es'.length = es.length) (hne : es ≠ []) (he : ∀ e ∈ es', e.length = n) (hkd : get k bx = none) (hes : ∀ j, D.mens j es'.flatten = false) (hbm : bx.all (fun q => !q.2.men k) = true) (htm : (rpT k p tm).all (fun q => !q.2.men k) = true)
    (h : Inv N O0 w0 ⟨nt, rpT k p tm, (k, p.blk es') :: bx⟩ a w) : Inv N O0 w0 ⟨nt, tm, (k, .row n es') :: bx⟩ a w := by
  obtain ⟨G, h⟩ := h
  obtain ⟨b, arr, E, ⟨hb, rfl⟩, hheap, hrep⟩ := h.rep k (p.blk es') (by simp [get])
  let G2 : Gh := G.set k (some p.l) p.v
  have hβ : ∀ j, G2.β j = G.β j := fun j => by
    by_cases e : j = k
    · subst e; simp [G2, Gh.set, hb]
    · simp [G2, Gh.set, e]
  have hK : ∀ j, ¬ j = k → G2.β j = G.β j ∧ G2.γ j = G.γ j := Gh.set_other G k _ _
  have hv : G2.γ k = p.v := by simp [G2, Gh.set]
  have hkey : ∀ j x, get j ((k, Blk.row n es') :: bx) = some x → ∃ y, get j ((k, p.blk es') :: bx) = some y := fun j x hj => by
    simp only [get] at hj ⊢
    by_cases e : j = k
    · exact ⟨p.blk es', if_pos e⟩
    · rw [if_neg e] at hj
      exact ⟨x, by rw [if_neg e]; exact hj⟩
  have ho : ∀ c, owned G2 ((k, Blk.row n es') :: bx) c ↔ owned G ((k, p.blk es') :: bx) c := fun c => by
    constructor
    · rintro ⟨j, x, hj, hc⟩
      obtain ⟨y, hy⟩ := hkey j x hj
      exact ⟨j, y, hy, by rw [← hβ]; exact hc⟩
    · rintro ⟨j, x, hj, hc⟩
      simp only [get] at hj
      split at hj
      · rename_i e; subst e; exact ⟨j, .row n es', by simp [get], by rw [hβ]; exact hc⟩
      · rename_i e; exact ⟨j, x, by simp only [get, if_neg e]; exact hj, by rw [hβ]; exact hc⟩
  have hA : Av N G2 ((k, Blk.row n es') :: bx) = Av N G ((k, p.blk es') :: bx) := by
    funext bw c
    simp only [Av, ho]
  have hne' : es' ≠ [] := fun e => hne (by rw [e] at hl; exact List.eq_nil_of_length_eq_zero hl.symm)
  have hfl : es'.flatten.length = es'.length * n := by
    clear hrep hl hne' hes h ho hA hkey
    induction es' with
    | nil => simp
    | cons e es' ih => rw [List.flatten_cons, List.length_append, ih (fun x hx => he x (by simp [hx])), he e (by simp), List.length_cons, Nat.add_mul, Nat.one_mul, Nat.add_comm]
  exact ⟨G2, {
    rep := fun j x hj => by
      show RepB w (Av N G2 ((k, Blk.row n es') :: bx)) G2 j x
      rw [hA]
      simp only [get] at hj
      split at hj
      · rename_i e; subst e; cases hj
        obtain ⟨y1, y2, h1, h2, h3⟩ := RepDs.split hrep
        have l1 := h2.length
        have l2 := h3.length
        have hsz : arr.size = p.cap * n := by
          rw [← Array.length_toList, h1, List.length_append, l1, l2, hfl, List.length_replicate, hl]; exact hp.m
        refine ⟨he, .inr ⟨p.l, arr, E, p.cap, by rw [hβ]; exact hb, hheap, by rw [hv, RowAt.v, hp.len, hl], by rw [hl, ← hp.len]; exact hp.cap, hsz, ?_⟩⟩
        rw [h1, List.take_left' (by rw [l1, hfl])]
        exact RepDs.mono (Keeps.refl _ _) (fun _ => True) (fun k hk => absurd trivial hk) _ y1 (fun j _ => hes j) h2
      · rename_i e
        have h0 := h.rep j x (by show get j ((k, p.blk es') :: bx) = some x; simp only [get, if_neg e]; exact hj)
        have hm := List.all_eq_true.1 hbm _ (get_mem hj)
        refine RepB.mono (Keeps.refl _ _) (fun i => i = k) hK x e (fun _ _ => rfl) (fun i hi => ?_) h0
        subst hi
        simpa using hm
    inj := fun j j' z z' c hj hj' hc hc' => by
      obtain ⟨y, hy⟩ := hkey j z hj
      obtain ⟨y', hy'⟩ := hkey j' z' hj'
      exact h.inj j j' y y' c hy hy' (by rw [← hβ]; exact hc) (by rw [← hβ]; exact hc')
    own := fun c hc => h.own c ((ho c).1 hc)
    tm := fun t d hd => by
      show ∃ y, _ ∧ RepD w (Av N G2 ((k, Blk.row n es') :: bx)) G2 d y
      rw [hA]
      have hd2 : get t (rpT k p tm) = some (rpD k p d) := by rw [get_rpT]; change get t tm = some d at hd; rw [hd]; rfl
      obtain ⟨y, hy, hr⟩ := h.tm t (rpD k p d) hd2
      have hm := List.all_eq_true.1 htm _ (get_mem hd2)
      refine ⟨y, hy, rpD_of hv d y (RepD.mono (Keeps.refl _ _) (fun i => i = k) hK _ y (fun i hi => ?_) hr)⟩
      subst hi
      simpa using hm
    nt := h.nt
    df := h.df
    fr := h.fr
    nlt := h.nlt
    odis := h.odis
    laid := h.laid }⟩
theorem call_row [Lays] (k : Nat) {n : Nat} {es es' : List (List D)} {Q : St → Prop} {l : List SO} {d : Tmp} {f : Operand} {args : Array Operand} {tys : Array TypeId} {g : FuncId} {fs caps as : RowAt → List D} {r : D} {o : Option (FuncId × List D)}
    (hc : ∀ p : RowAt, p.ok n es → DCall P g (as p) [(k, p.blk es)] r [(k, p.blk es')]) (hk : get k bx = some (.row n es)) (hne : es ≠ []) (hl : es'.length = es.length) (he : ∀ e ∈ es', e.length = n) (hes : ∀ j, D.mens j es'.flatten = false) (hr : ∀ j, r.men j = false) (hrp : ∀ p, rpD k p r = r)
    (hbm : (del k bx).all (fun q => !q.2.men k) = true)
    (hce : ∀ p : RowAt, p.ok n es → calleeD (St.op ⟨nt, rpT k p tm, (k, p.blk es) :: del k bx⟩ f) = some (g, fs p, caps p))
    (hcl : ∀ p : RowAt, p.ok n es → closeDs ⟨nt, rpT k p tm, del k bx⟩ none (fs p ++ args.toList.map (St.op ⟨nt, rpT k p tm, (k, p.blk es) :: del k bx⟩) ++ caps p) = some (as p))
    (htm : ∀ p : RowAt, p.ok n es → (rpT k p tm).all (fun q => !q.2.men k) = true) (hd : d < nt) (hQ : opsS P false Q l ⟨nt, ins d r tm, (k, .row n es') :: del k bx⟩) : opsC P false Q l d f args tys ⟨nt, tm, bx⟩ o := fun _ => by
  have hkd : get k (del k bx) = none := by rw [get_del, if_pos rfl]
  have hmS : ∀ p : RowAt, p.ok n es → menS k (rpT k p tm) (del k bx) = false := fun p hp => by
    simp only [menS, Bool.or_eq_false_iff, List.any_eq_false]
    exact ⟨fun q hq => by have := List.all_eq_true.1 (htm p hp) q hq; simpa using this, fun q hq => by have := List.all_eq_true.1 hbm q hq; simpa using this⟩
  refine ⟨_, ⟨fun t ht => (by cases ht; exact hd), .inr ⟨rfl, .inr (.inr ⟨{ p : RowAt // p.ok n es }, fun p => ⟨nt, rpT k p.1 tm, (k, p.1.blk es) :: del k bx⟩, fun p => (⟨nt, rpT k p.1 tm, (k, p.1.blk es') :: del k bx⟩ : St).putO (some d) r, fun N O0 w0 a w hi => Inv.rowPin hne hk hi, fun p => ⟨rfl, _, fun _ _ _ _ _ h => h, rfl, g, fs p.1, caps p.1, as p.1, del k bx, [(k, p.1.blk es)], r, [(k, p.1.blk es')], hce p.1 p.2, hcl p.1 p.2, hc p.1 p.2, rfl, ?_, ?_, rfl⟩, ?_⟩)⟩⟩, .inl rfl, hQ⟩
  · intro j y hj
    simp only [get]
    split
    · rename_i e
      rw [e, hkd] at hj; cases hj
    · rfl
  · intro j y hj
    simp only [get] at hj
    split at hj
    · rename_i e; subst e; exact ⟨hkd, hmS p.1 p.2⟩
    · cases hj
  · intro p N O0 w0 a w hi
    refine Inv.rowUnpin (p := p.1) p.2 hl hne he hkd hes hbm ?_ ?_
    · rw [rpT_ins, hrp]
      simp only [List.all_eq_true]
      intro q hq
      have : ∀ t : List (Nat × D), q ∈ ins d r t → q = (d, r) ∨ q ∈ t := by
        intro t
        induction t with
        | nil => intro h; rcases List.mem_singleton.1 h with rfl; exact .inl rfl
        | cons x t ih =>
          intro h
          simp only [ins] at h
          split at h
          · rcases List.mem_cons.1 h with rfl | h
            · exact .inl rfl
            · exact .inr h
          · split at h
            · rcases List.mem_cons.1 h with rfl | h
              · exact .inl rfl
              · exact .inr (by simp [h])
            · rcases List.mem_cons.1 h with rfl | h
              · exact .inr (by simp)
              · rcases ih h with h | h
                · exact .inl h
                · exact .inr (by simp [h])
      rcases this _ hq with rfl | hq
      · simp [hr k]
      · exact List.all_eq_true.1 (htm p.1 p.2) q hq
    · rw [rpT_ins, hrp]
      exact hi
end Go.Dw
end
