/- Helpers of a proof. -/
import Derived.Test.YtnbgonichmcfaaaW08
set_option linter.unusedVariables false
set_option linter.unusedSimpArgs false
section
namespace Go.Dw
open Go.RowKit
variable {P : Program} {N O0 : Nat → Prop} {w0 : World} {σ : St} {G : Gh} {a : Act} {w : World}
def killD (k : Nat) (d : D) : D := if d.men k then .top else d
def killB (k : Nat) : Blk → Blk
  | .box cs => .box (cs.map (killD k))
  | .row n es => .row n (es.map (·.map (killD k)))
  | .lp o v tm => .lp o v (tm.map fun p => (p.1, killD k p.2))
  | .map ks ds => .map ks (ds.map (killD k))
  | .pmap l ks ds => .pmap l ks (ds.map (killD k))
  | .pbox l ds => .pbox l (ds.map (killD k))
def St.kill (σ : St) (k : Nat) : St := { σ with tm := σ.tm.map fun p => (p.1, killD k p.2), bx := σ.bx.map fun p => (p.1, killB k p.2) }
theorem get_map {α β : Type} (f : α → β) (k : Nat) : ∀ l : List (Nat × α), get k (l.map fun p => (p.1, f p.2)) = (get k l).map f
  | [] => rfl
  | p :: l => by simp only [List.map_cons, get, get_map f k l]; split <;> rfl
theorem killD_men (k : Nat) (d : D) : (killD k d).men k = false := by
  unfold killD; split
  · rfl
  · rename_i h; simpa using h
theorem mens_map_kill [Lays] (k : Nat) : ∀ cs : List D, D.mens k (cs.map (killD k)) = false
  | [] => rfl
  | d :: ds => by simp [D.mens, killD_men, mens_map_kill k ds]
theorem kill_men [Lays] (σ : St) (k : Nat) : (σ.kill k).men k = false := by
  simp only [St.men, St.kill, Bool.or_eq_false_iff, List.any_eq_false, List.mem_map]
  refine ⟨?_, ?_⟩
  · rintro _ ⟨p, _, rfl⟩; simp [killD_men]
  · rintro _ ⟨p, _, rfl⟩
    obtain ⟨j, x⟩ := p
    cases x with
    | box cs => simp [killB, Blk.men, mens_map_kill]
    | row n es => simp [killB, Blk.men, mens_map_kill]
    | lp o v tm => simp [killB, Blk.men, killD_men]
    | map ks ds => simp [killB, Blk.men, mens_map_kill]
    | pmap l ks ds => simp [killB, Blk.men, mens_map_kill]
    | pbox l ds => simp [killB, Blk.men, mens_map_kill]
theorem RepD.kill {w : World} {A : Bool → Nat → Prop} {G : Gh} (k : Nat) {d : D} {y : Value} (h : RepD w A G d y) : RepD w A G (killD k d) y := by
  unfold killD; split
  · trivial
  · exact h
theorem RepDs.kill [Lays] {w : World} {A : Bool → Nat → Prop} {G : Gh} (k : Nat) : ∀ {ds : List D} {ys : List Value}, RepDs w A G ds ys → RepDs w A G (ds.map (killD k)) ys
  | [], _, h => h
  | _ :: ds, _, h => by obtain ⟨y, ys, rfl, h1, h2⟩ := h; exact ⟨y, ys, rfl, h1.kill k, RepDs.kill k h2⟩
theorem owned_kill [Lays] {G : Gh} {bx : List (Nat × Blk)} {k b : Nat} : owned G (bx.map fun p => (p.1, killB k p.2)) b ↔ owned G bx b := by
  simp only [owned, get_map]
  constructor
  · rintro ⟨j, x, h1, h2⟩
    obtain ⟨z, hz, _⟩ := Option.map_eq_some_iff.1 h1
    exact ⟨j, z, hz, h2⟩
  · rintro ⟨j, x, h1, h2⟩
    exact ⟨j, _, by rw [h1]; rfl, h2⟩
theorem Av_kill [Lays] {G : Gh} {bx : List (Nat × Blk)} {k : Nat} : Av N G (bx.map fun p => (p.1, killB k p.2)) = Av N G bx := by
  funext bw b; simp only [Av, owned_kill]
theorem Core.kill [Lays] (h : Core N O0 w0 σ G a w) (k : Nat) : Core N O0 w0 (σ.kill k) G a w where
  rep := fun j x hj => by
    simp only [St.kill, get_map, Option.map_eq_some_iff] at hj ⊢
    obtain ⟨z, hz, rfl⟩ := hj
    rw [Av_kill]
    have := h.rep j z hz
    cases z with
    | lp o v tm =>
      refine ⟨this.1, fun p hp => ?_⟩
      obtain ⟨q, hq, rfl⟩ := List.mem_map.1 hp
      exact (this.2 q hq).kill _
    | box cs =>
      obtain ⟨b, arr, E, h1, h2, h3⟩ := this
      exact ⟨b, arr, E, h1, h2, h3.kill k⟩
    | map ks ds =>
      obtain ⟨b, ents, clk, h1, h2, h4, h3⟩ := this
      exact ⟨b, ents, clk, h1, h2, h4, h3.kill k⟩
    | pmap l ks ds =>
      obtain ⟨b, ents, clk, h1, h2, h4, h3⟩ := this
      exact ⟨b, ents, clk, h1, h2, h4, h3.kill k⟩
    | pbox l ds =>
      obtain ⟨b, arr, E, h1, h2, h3⟩ := this
      exact ⟨b, arr, E, h1, h2, h3.kill k⟩
    | row n es =>
      obtain ⟨h0, h1⟩ := this
      refine ⟨?_, ?_⟩
      · intro e he
        simp only [List.mem_map] at he
        obtain ⟨e', he', rfl⟩ := he
        simpa using h0 e' he'
      · rcases h1 with ⟨h1, h2, h3⟩ | ⟨b, arr, E, cap, h1, h2, h3, h4, h5, h6⟩
        · exact .inl ⟨by rw [h1]; rfl, h2, h3⟩
        · refine .inr ⟨b, arr, E, cap, h1, h2, by simpa using h3, by simpa using h4, h5, ?_⟩
          have := h6.kill k
          simpa [List.map_flatten] using this
  inj := fun i j x1 x2 b hi hj => by
    simp only [St.kill, get_map, Option.map_eq_some_iff] at hi hj
    obtain ⟨z1, hz1, _⟩ := hi
    obtain ⟨z2, hz2, _⟩ := hj
    exact h.inj i j z1 z2 b hz1 hz2
  own := fun b hb => h.own b (owned_kill.1 hb)
  tm := fun t d ht => by
    simp only [St.kill, get_map, Option.map_eq_some_iff] at ht
    obtain ⟨d0, hd0, rfl⟩ := ht
    obtain ⟨y, hy, hr⟩ := h.tm t d0 hd0
    refine ⟨y, hy, ?_⟩
    show RepD w (Av N G (σ.bx.map fun p => (p.1, killB k p.2))) G _ y
    rw [Av_kill]; exact hr.kill k
  nt := h.nt
  df := h.df
  fr := h.fr
  nlt := h.nlt
  odis := h.odis
  laid := h.laid
theorem Core.rebind [Lays] (h : Core N O0 w0 σ G a w) {k : Nat} {x : Blk} (hk : get k σ.bx = some x) (hm : σ.men k = false) {w' : World} (b1 : Option Nat) (y : Value) (x' : Blk)
    (hos : w'.os = w.os) (htape : w'.tape = w.tape) (hout : w'.output = w.output) (hsz : w.heap.size ≤ w'.heap.size)
    (hkeep : ∀ b', b' < w.heap.size → G.β k ≠ some b' → w'.heap[b']? = w.heap[b']?)
    (hb1 : ∀ b, b1 = some b → (G.β k = some b ∨ w.heap.size ≤ b) ∧ b < w'.heap.size)
    (hx : Keeps w w' (Av N G σ.bx) (Av N (G.set k b1 y) (ins k x' σ.bx)) → RepB w' (Av N (G.set k b1 y) (ins k x' σ.bx)) (G.set k b1 y) k x') : Core N O0 w0 (σ.putB k x') (G.set k b1 y) a w' := by
  have hown : ∀ b, owned (G.set k b1 y) (ins k x' σ.bx) b ↔ b1 = some b ∨ ∃ j z, j ≠ k ∧ get j σ.bx = some z ∧ G.β j = some b := by
    intro b
    constructor
    · rintro ⟨j, z, hj, hb⟩
      rw [get_ins] at hj
      by_cases e : j = k
      · subst e; simp [Gh.set] at hb; exact .inl hb
      · rw [if_neg e] at hj; simp only [Gh.set, if_neg e] at hb; exact .inr ⟨j, z, e, hj, hb⟩
    · rintro (rfl | ⟨j, z, e, hj, hb⟩)
      · exact ⟨k, x', by rw [get_ins, if_pos rfl], by simp [Gh.set]⟩
      · exact ⟨j, z, by rw [get_ins, if_neg e]; exact hj, by simp only [Gh.set, if_neg e]; exact hb⟩
  have hkp : Keeps w w' (Av N G σ.bx) (Av N (G.set k b1 y) (ins k x' σ.bx)) := {
    size := hsz
    av := fun bw b hb hA hA' => by
      rcases hA' with h1 | h1
      · rcases (hown b).1 h1 with h1 | ⟨j, z, _, hj, hb'⟩
        · rcases (hb1 b h1).1 with h2 | h2
          · exact hA (.inl ⟨k, x, hk, h2⟩)
          · omega
        · exact hA (.inl ⟨j, z, hj, hb'⟩)
      · exact hA (.inr h1)
    cell := fun bw b hb hA o => cell?_of_heap (hkeep b hb (fun e => hA (.inl ⟨k, x, hk, e⟩))) o }
  exact {
    rep := fun j z hj => by
      simp only [St.putB, get_ins] at hj
      split at hj
      · rename_i e; subst e; cases hj; exact hx hkp
      · rename_i e
        refine RepB.mono hkp (fun i => i = k) (Gh.set_other G k _ y) z e (fun b hb => ?_) (fun i hi => by subst hi; exact men_bx hm hj) (h.rep j z hj)
        exact hkeep b (h.own b ⟨j, z, hj, hb⟩).1 (fun e2 => e (h.inj j k z x b hj hk hb e2))
    inj := fun i j x1 x2 b hi hj hbi hbj => by
      simp only [St.putB, get_ins] at hi hj
      by_cases e1 : i = k <;> by_cases e2 : j = k
      · rw [e1, e2]
      · rw [if_neg e2] at hj
        simp only [Gh.set, if_pos e1, if_neg e2] at hbi hbj
        rcases (hb1 b hbi).1 with h1 | h1
        · exact absurd (h.inj j k x2 x b hj hk hbj h1) e2
        · have := (h.own b ⟨j, x2, hj, hbj⟩).1; omega
      · rw [if_neg e1] at hi
        simp only [Gh.set, if_pos e2, if_neg e1] at hbi hbj
        rcases (hb1 b hbj).1 with h1 | h1
        · exact absurd (h.inj i k x1 x b hi hk hbi h1) e1
        · have := (h.own b ⟨i, x1, hi, hbi⟩).1; omega
      · rw [if_neg e1] at hi; rw [if_neg e2] at hj
        simp only [Gh.set, if_neg e1, if_neg e2] at hbi hbj
        exact h.inj i j x1 x2 b hi hj hbi hbj
    own := fun b hb => by
      rcases (hown b).1 hb with h1 | ⟨j, z, _, hj, hb'⟩
      · refine ⟨(hb1 b h1).2, ?_⟩
        rcases (hb1 b h1).1 with h2 | h2
        · exact (h.own b ⟨k, x, hk, h2⟩).2
        · have := h.fr.size; exact .inr (by omega)
      · have := h.own b ⟨j, z, hj, hb'⟩
        exact ⟨by omega, this.2⟩
    tm := fun t d ht => by
      obtain ⟨v, hv, hr⟩ := h.tm t d ht
      exact ⟨v, hv, RepD.mono hkp (fun i => i = k) (Gh.set_other G k _ y) d v (fun i hi => by subst hi; exact men_tm hm ht) hr⟩
    nt := h.nt
    df := by
      obtain ⟨rs, h1, h2, h3⟩ := h.df
      refine ⟨rs, h1, h2, fun r hr => ⟨?_, (h3 r hr).2⟩⟩
      have hr3 := (h3 r hr).1
      rw [hkeep r (lt_of_heap hr3) (fun e => ?_)]
      · exact hr3
      · obtain ⟨o, hc, ho⟩ := h.cells hk e
        rw [hr3] at hc; cases hc; cases ho
    fr := ⟨hos.trans h.fr.os, htape.trans h.fr.tape, hout.trans h.fr.output, Nat.le_trans h.fr.size hsz, fun b hb hO => by
      have hlt : b < w.heap.size := Nat.lt_of_lt_of_le hb h.fr.size
      rw [hkeep b hlt (fun e => ?_)]
      · exact h.fr.keep b hb hO
      · rcases (h.own b ⟨k, x, hk, e⟩).2 with h1 | h1
        · exact hO h1
        · omega⟩
    nlt := h.nlt
    odis := h.odis
    laid := h.laid }
theorem Core.adopt [Lays] (h : Core N O0 w0 σ G a w) {k : Nat} (hf : get k σ.bx = none) (hm : σ.men k = false) (n : Nat) :
    Core N O0 w0 (σ.putB k (.row n [])) (G.set k none (.slice none 0 0)) a w := by
  have hown : ∀ b, owned (G.set k none (.slice none 0 0)) (ins k (.row n []) σ.bx) b ↔ owned G σ.bx b := by
    intro b
    constructor
    · rintro ⟨j, z, hj, hb⟩
      rw [get_ins] at hj
      by_cases e : j = k
      · subst e; simp [Gh.set] at hb
      · rw [if_neg e] at hj; simp only [Gh.set, if_neg e] at hb; exact ⟨j, z, hj, hb⟩
    · rintro ⟨j, z, hj, hb⟩
      have e : j ≠ k := fun e => by subst e; rw [hf] at hj; cases hj
      exact ⟨j, z, by rw [get_ins, if_neg e]; exact hj, by simp only [Gh.set, if_neg e]; exact hb⟩
  have hkp : Keeps w w (Av N G σ.bx) (Av N (G.set k none (.slice none 0 0)) (ins k (.row n []) σ.bx)) := by
    refine ⟨Nat.le_refl _, fun bw b _ hA hA' => hA ?_, fun _ _ _ _ _ => rfl⟩
    rcases hA' with h1 | h1
    · exact .inl ((hown b).1 h1)
    · exact .inr h1
  exact {
    rep := fun j z hj => by
      simp only [St.putB, get_ins] at hj
      split at hj
      · rename_i e; subst e; cases hj
        exact ⟨by simp, .inl ⟨rfl, by simp [Gh.set], by simp [Gh.set]⟩⟩
      · rename_i e
        exact RepB.mono hkp (fun i => i = k) (Gh.set_other G k _ _) z e (fun b hb => rfl) (fun i hi => by subst hi; exact men_bx hm hj) (h.rep j z hj)
    inj := fun i j x1 x2 b hi hj hbi hbj => by
      simp only [St.putB, get_ins] at hi hj
      by_cases e1 : i = k
      · subst e1; simp [Gh.set] at hbi
      · by_cases e2 : j = k
        · subst e2; simp [Gh.set] at hbj
        · rw [if_neg e1] at hi; rw [if_neg e2] at hj
          simp only [Gh.set, if_neg e1, if_neg e2] at hbi hbj
          exact h.inj i j x1 x2 b hi hj hbi hbj
    own := fun b hb => h.own b ((hown b).1 hb)
    tm := fun t d ht => by
      obtain ⟨v, hv, hr⟩ := h.tm t d ht
      exact ⟨v, hv, RepD.mono hkp (fun i => i = k) (Gh.set_other G k _ _) d v (fun i hi => by subst hi; exact men_tm hm ht) hr⟩
    nt := h.nt
    df := h.df
    fr := h.fr
    nlt := h.nlt
    odis := h.odis
    laid := h.laid }
section
variable {A : Bool → Nat → Prop}
theorem RepEs.vals [Lays] : ∀ {es : List (List C)} {n b o : Nat}, RepEs w A n es b o → ∃ ys, RepVs w A es.flatten ys ∧ ys.length = es.length * n ∧ ∀ j v, ys[j]? = some v → w.cell? ⟨b, o + j, none⟩ = some v
  | [], n, _, _, _ => ⟨[], rfl, by simp, fun j v h => by simp at h⟩
  | e :: es, n, b, o, h => by
    obtain ⟨h1, h2, h3⟩ := h
    obtain ⟨ys, a1, a2⟩ := RepCs.vals h2
    obtain ⟨zs, b1, b2, b3⟩ := RepEs.vals h3
    have hl := a1.length
    have app : ∀ (cs : List C) (ys : List Value) (ds : List C) (zs : List Value), RepVs w A cs ys → RepVs w A ds zs → RepVs w A (cs ++ ds) (ys ++ zs) := by
      intro cs
      induction cs with
      | nil => intro ys ds zs h h'; rw [show ys = [] from h]; exact h'
      | cons c cs ih =>
        intro ys ds zs h h'
        obtain ⟨y, ys', rfl, r1, r2⟩ := h
        exact ⟨y, _, rfl, r1, ih _ _ _ r2 h'⟩
    refine ⟨ys ++ zs, by simpa using app _ _ _ _ a1 b1, ?_, fun j v hj => ?_⟩
    · rw [List.length_append, hl, b2, h1, List.length_cons, Nat.add_mul]; omega
    · rw [List.getElem?_append] at hj
      split at hj
      · exact a2 j v hj
      · rename_i hge
        have := b3 _ _ hj
        rw [show o + n + (j - ys.length) = o + j by omega] at this
        exact this
end
def srcD (σ : St) (n : Nat) : D → Option (List (List D))
  | .c (.sl _ m es) => if m = n then some (es.map (·.map D.c)) else none
  | .own j => match get j σ.bx with
    | some (.row m es) => if m = n then some es else none
    | _ => none
  | .c (.v (.slice none 0 _)) => some []
  | _ => none
theorem src_sound [Lays] (h : Core N O0 w0 σ G a w) {x : D} {X : Value} {n : Nat} {xs : List (List D)} (hx : RepD w (Av N G σ.bx) G x X) (he : srcD σ n x = some xs) :
    (Builtin.lenOf X).run P w = .ok xs.length w ∧ ∃ zs : Array Value, (∀ w', (∀ b, b < w.heap.size → w'.heap[b]? = w.heap[b]?) → (Builtin.firstCells n xs.length X).run P w' = .ok zs w') ∧ RepDs w (Av N G σ.bx) G xs.flatten zs.toList ∧ zs.size = xs.length * n ∧ ∀ e ∈ xs, e.length = n := by
  unfold srcD at he
  split at he
  · rename_i bw m es
    split at he
    · rename_i hm
      subst hm
      cases he
      obtain ⟨a0, cap, rfl, hc, hes⟩ := hx
      refine ⟨by simp [Builtin.lenOf], ?_⟩
      rcases hes with rfl | ⟨b, off, rfl, hb, hA, hes⟩
      · cases a0 with
        | none => exact ⟨#[], fun w' _ => by simp [Builtin.firstCells], rfl, by simp, by simp⟩
        | some a0 => exact ⟨#[], fun w' _ => by simp [Builtin.firstCells, loadCells, loadCellsFrom], rfl, by simp, by simp⟩
      · obtain ⟨ys, h1, h2, h3⟩ := RepEs.vals hes
        refine ⟨ys.toArray, fun w' hw' => ?_, ?_, by simp [h2], ?_⟩
        · have hrun := run_loadCells_list (P := P) w' ⟨b, off, none⟩ ys (fun j v hv => by rw [Addr.add_mk, cell?_of_heap (hw' b hb)]; exact h3 j v hv)
          simp only [Builtin.firstCells, List.length_map]
          rw [h2] at hrun; exact hrun
        · have := RepDs.ofVs (G := G) h1
          simpa [List.map_flatten] using this
        · intro e he
          simp only [List.mem_map] at he
          obtain ⟨e', he', rfl⟩ := he
          obtain ⟨i, hi⟩ := List.getElem?_of_mem he'
          simpa using (RepEs.get hes hi).1
    · cases he
  · rename_i j
    split at he
    · rename_i m es hj
      split at he
      · rename_i hm
        subst hm
        cases he
        obtain ⟨rfl, _⟩ := hx
        obtain ⟨hlen, ⟨hnil, _, hγ⟩ | ⟨b, arr, E, cap, hb, hh, hγ, hc, hs, hr⟩⟩ := h.rep j _ hj
        · subst hnil
          rw [hγ]
          exact ⟨by simp [Builtin.lenOf], #[], fun w' _ => by simp [Builtin.firstCells], rfl, by simp, by simp⟩
        · rw [hγ]
          refine ⟨by simp [Builtin.lenOf], (arr.toList.take (xs.length * m)).toArray, fun w' hw' => ?_, by simpa using hr, ?_, hlen⟩
          · have hsz : xs.length * m ≤ arr.size := by rw [hs]; exact Nat.mul_le_mul_right m hc
            have hh' : w'.heap[b]? = some (.cells arr E (0, 0)) := by rw [hw' b (lt_of_heap hh)]; exact hh
            have hrun := run_loadCells_list (P := P) w' ⟨b, 0, none⟩ (arr.toList.take (xs.length * m)) (fun j v hv => by
              rw [Addr.add_mk, cell_of_cells hh', Nat.zero_add]
              rw [List.getElem?_take] at hv
              split at hv
              · exact hv
              · cases hv)
            have hl : (arr.toList.take (xs.length * m)).length = xs.length * m := by simp; omega
            rw [hl] at hrun
            exact hrun
          · have hsz : xs.length * m ≤ arr.size := by rw [hs]; exact Nat.mul_le_mul_right m hc
            simp; omega
      · cases he
    · cases he
  · rename_i c
    cases he
    rw [show X = _ from hx.1]
    exact ⟨by simp [Builtin.lenOf], #[], fun w' _ => by simp [Builtin.firstCells], rfl, by simp, by simp⟩
  · cases he
theorem growBy_le (n : Nat) : ∀ (r c : Nat), 256 ≤ c → Builtin.growBy n r c ≤ c * 2 ^ r
  | 0, c, _ => by simp [Builtin.growBy]
  | r + 1, c, h => by
    simp only [Builtin.growBy]
    split
    · exact Nat.le_mul_of_pos_right c (Nat.two_pow_pos _)
    · have h1 := growBy_le n r (c + (c + 768) / 4) (by omega)
      refine Nat.le_trans h1 ?_
      rw [Nat.pow_succ, Nat.mul_comm (2 ^ r) 2, ← Nat.mul_assoc]
      exact Nat.mul_le_mul_right _ (by omega)
theorem nextcap_le [Lays] {need cap : Nat} (h : cap ≤ need) : Builtin.nextslicecap need cap ≤ 16 * need := by
  unfold Builtin.nextslicecap
  split
  · omega
  · split
    · omega
    · have := growBy_le need 4 cap (by omega)
      omega
theorem run_append [Lays] (h : Core N O0 w0 σ G a w) {st xt e e' : TypeId} {ti : TI} (hst : elemI P st = some e) (hxt : elemI P xt = some e') (hti : tyI P e = some ti)
    {j : Nat} {es xs : List (List D)} (hj : get j σ.bx = some (.row ti.size es)) (hm : σ.men j = false) (hjm : Blk.men j (.row ti.size (es ++ xs)) = false) {X : Value} (hX : (Builtin.lenOf X).run P w = .ok xs.length w)
    {zs : Array Value} (hzs : RepDs w (Av N G σ.bx) G xs.flatten zs.toList) (hzl : zs.size = xs.length * ti.size) (hone : ∀ v ∈ zs.toList, v.oneCell' = true) (hxl : ∀ e ∈ xs, e.length = ti.size)
    (hfc : ∀ w', (∀ b, b < w.heap.size → w'.heap[b]? = w.heap[b]?) → (Builtin.firstCells ti.size xs.length X).run P w' = .ok zs w')
    (hbd : (es.length + xs.length) * ti.bytes ≤ 2 ^ 44) (hbd2 : es.length + xs.length ≤ 2 ^ 44) (rt : TypeId) :
    ∃ v w' G', (Builtin.append_ #[st, xt] rt #[G.γ j, X]).run P w = .ok v w' ∧ Core N O0 w0 (σ.putB j (.row ti.size (es ++ xs))) G' a w' ∧ v = G'.γ j ∧ ∃ p l c, v = .slice p l c := by
  have hu := elemI_spec hst
  have hux := elemI_spec hxt
  obtain ⟨inf, hinf, hbytes⟩ := run_bytes_D hti w
  obtain ⟨z, hz, hzz, hzsz, hz1⟩ := run_zero_D hti w
  have hfl : ∀ e ∈ es ++ xs, e.length = ti.size := by
    intro e he
    rcases List.mem_append.1 he with h1 | h1
    · exact (h.rep j _ hj).1 e h1
    · exact hxl e h1
  have key : ∀ (l : List (List D)), (∀ x ∈ l, ¬ D.mens j x = true) → D.mens j l.flatten = false := by
    intro l
    induction l with
    | nil => intro _; rfl
    | cons e l ih =>
      intro hl
      have app : ∀ a b : List D, D.mens j a = false → D.mens j b = false → D.mens j (a ++ b) = false := by
        intro a b ha hb'
        induction a with
        | nil => exact hb'
        | cons d ds ih =>
          simp only [D.mens, Bool.or_eq_false_iff] at ha
          simp only [List.cons_append, D.mens, Bool.or_eq_false_iff]
          exact ⟨ha.1, ih ha.2⟩
      exact app e _ (by simpa using hl e (by simp)) (ih (fun x hx => hl x (by simp [hx])))
  have hmf : ∀ i, i = j → D.mens i (es ++ xs).flatten = false := by
    rintro i rfl
    simp only [Blk.men, List.any_eq_false] at hjm
    exact key _ hjm
  have fresh : ∀ (cap : Nat) (base : Option Addr) (old : Array Value), G.γ j = .slice base es.length cap → cap < es.length + xs.length → RepDs w (Av N G σ.bx) G es.flatten old.toList → old.size = es.length * ti.size →
      (∀ w', (∀ b, b < w.heap.size → w'.heap[b]? = w.heap[b]?) → (Builtin.firstCells ti.size es.length (.slice base es.length cap)).run P w' = .ok old w') →
      ∃ v w' G', (Builtin.append_ #[st, xt] rt #[G.γ j, X]).run P w = .ok v w' ∧ Core N O0 w0 (σ.putB j (.row ti.size (es ++ xs))) G' a w' ∧ v = G'.γ j ∧ ∃ p l c, v = .slice p l c := by
    intro cap base old hγ hcap hold hosz hof
    have hcapbd : Builtin.nextslicecap (es.length + xs.length) cap * ti.bytes ≤ 2 ^ 48 := by
      have := nextcap_le (need := es.length + xs.length) (cap := cap) (by omega)
      calc Builtin.nextslicecap (es.length + xs.length) cap * ti.bytes ≤ (16 * (es.length + xs.length)) * ti.bytes := Nat.mul_le_mul_right _ this
        _ = 16 * ((es.length + xs.length) * ti.bytes) := by rw [Nat.mul_assoc]
        _ ≤ 2 ^ 48 := by omega
    obtain ⟨nc, hnc, hcut⟩ : ∃ nc, es.length + xs.length ≤ nc ∧ (choose (.appendCap (es.length + xs.length) cap e)).run P w = .ok nc { w with drawn := w.drawn + 1 } := by
      refine ⟨_, ?_, by simp only [run_choose, Question.forced]; rfl⟩
      simp only [Question.cut]
      omega
    obtain ⟨w1, hw1⟩ : ∃ w1 : World, w1 = { w with drawn := w.drawn + 1 } := ⟨_, rfl⟩
    have hsame : ∀ b, b < w.heap.size → w1.heap[b]? = w.heap[b]? := fun b _ => by rw [hw1]
    have h1 : Core N O0 w0 σ G a w1 := by rw [hw1]; exact h.drew
    obtain ⟨z', hz', hzz', _, _⟩ := run_zero_D hti w1
    have hzc : z'.cells.toList = ti.zero := hzz'
    let rest := Builtin.zeroCells z'.cells (nc - (es.length + xs.length))
    have hrs : rest.size = (nc - (es.length + xs.length)) * ti.size := by
      simp only [rest, Builtin.zeroCells, Array.size_map, Array.size_range]
      have : z'.cells.size = ti.size := by rw [← hzsz, ← hzc]; simp
      rw [this]
    have harr : (old ++ zs ++ rest).size = nc * ti.size := by
      simp only [Array.size_append, hosz, hzl, hrs]
      rw [← Nat.add_mul, ← Nat.add_mul]; congr 1; omega
    have hkw : Keeps w w1 (Av N G σ.bx) (Av N G σ.bx) := by rw [hw1]; exact ⟨Nat.le_refl _, fun _ _ _ h => h, fun _ _ _ _ _ => rfl⟩
    have hsz1 : w1.heap.size = w.heap.size := by rw [hw1]
    refine ⟨.slice (some ⟨w1.heap.size, 0, none⟩) (es.length + xs.length) nc, w1.alloc (.cells (old ++ zs ++ rest) e (0, 0)), G.set j (some w1.heap.size) (.slice (some ⟨w1.heap.size, 0, none⟩) (es.length + xs.length) nc), ?_, ?_, by simp [Gh.set], ⟨_, _, _, rfl⟩⟩
    · rw [hγ]
      have hno : ¬ (es.length + xs.length ≤ cap) := by omega
      have hb2 : ¬ (Builtin.nextslicecap (es.length + xs.length) cap * inf.bytes > 2 ^ 48) := by rw [hbytes]; omega
      have h63 : ¬ (((es.length + xs.length : Nat) : Int) > IntKind.i64.max ∧ (False ∨ inf.bytes = 0)) := by
        have : IntKind.i64.max = 9223372036854775807 := by decide
        omega
      have hf1 := hof w1 hsame
      have hf2 := hfc w1 hsame
      have hinf1 : (typeInfo e).run P w1 = .ok inf w1 := by
        obtain ⟨i, u, z, h1, h2, h3, _⟩ := tyI_spec hti
        have e1 : (typeInfo e).run P w = .ok i w := by simp [typeInfo, h1]
        rw [hinf] at e1; cases e1
        simp [typeInfo, h1]
      simp only [Builtin.append_, List.getElem?_toArray, List.getElem?_cons_zero, List.getElem?_cons_succ, Sem.run_bind, run_underlying hu, run_underlying hux, Result.andThen_ok, run_sizeOf_D hti, Sem.run_pure]
      rw [← hw1] at hcut
      simp only [Bool.false_eq_true, if_false, Sem.run_bind, hX, Result.andThen_ok, Sem.run_ite, hno, hinf, false_or, Bool.not_false, if_true]
      simp only [false_or] at h63
      simp only [h63, hb2, if_false, hcut, Result.andThen_ok, hinf1, run_askRoom, hf1, hf2, hz', Sem.run_pure, newRow, Sem.run_bind, run_newObj]
      rfl
    · refine h1.rebind hj hm _ _ _ rfl rfl rfl (by simp) (fun b' hb' _ => heap_alloc_lt w1 _ hb') (fun b hb => by cases hb; exact ⟨.inr (Nat.le_refl _), by simp⟩) (fun hkp => ?_)
      refine ⟨hfl, .inr ⟨w1.heap.size, _, e, nc, by simp [Gh.set], heap_alloc_new w1 _, by simp [Gh.set], by simpa using hnc, harr, ?_⟩⟩
      have hlen : ((es ++ xs).length * ti.size) = (old ++ zs).size := by simp only [List.length_append, Array.size_append, hosz, hzl, Nat.add_mul]
      rw [hlen]
      have : (old ++ zs ++ rest).toList.take (old ++ zs).size = old.toList ++ zs.toList := by
        simp only [Array.toList_append]
        rw [List.take_left' (by simp)]
      rw [this, List.flatten_append]
      refine RepDs.mono hkp (fun i => i = j) (Gh.set_other G j _ _) _ _ (fun i hi => by rw [← List.flatten_append]; exact hmf i hi) ?_
      exact (RepDs.keep hkw _ _ hold).append (RepDs.keep hkw _ _ hzs)
  obtain ⟨hlen, ⟨hnil, hβ, hγ⟩ | ⟨b, arr, E, cap, hb, hh, hγ, hc, hs, hr⟩⟩ := h.rep j _ hj
  · by_cases h0 : xs.length = 0
    · have hx0 : xs = [] := List.length_eq_zero_iff.1 h0
      subst hnil hx0
      refine ⟨.slice none 0 0, w, G.set j none (.slice none 0 0), ?_, ?_, by simp [Gh.set], ⟨_, _, _, rfl⟩⟩
      · rw [hγ]
        simp only [Builtin.append_, List.getElem?_toArray, List.getElem?_cons_zero, List.getElem?_cons_succ, Sem.run_bind, run_underlying hu, run_underlying hux, Result.andThen_ok, run_sizeOf_D hti, Sem.run_pure]
        simp only [Bool.false_eq_true, if_false, Sem.run_bind, hX, Result.andThen_ok, Sem.run_ite, List.length_nil, Nat.add_zero, Nat.le_refl, if_true, Bool.not_false]
        have hzr := hfc w (fun _ _ => rfl)
        simp only [List.length_nil] at hzr
        simp only [hzr, Result.andThen_ok, Sem.run_pure]
      · refine h.rebind hj hm none _ _ rfl rfl rfl (Nat.le_refl _) (fun _ _ _ => rfl) (fun b hb => by cases hb) (fun _ => ?_)
        exact ⟨hfl, .inl ⟨rfl, by simp [Gh.set], by simp [Gh.set]⟩⟩
    · subst hnil
      exact fresh 0 none #[] hγ (by simp; omega) rfl (by simp) (fun w' _ => by simp [Builtin.firstCells])
  · have hsz0 : es.length * ti.size ≤ arr.size := by rw [hs]; exact Nat.mul_le_mul_right _ hc
    have hold : ∀ w', (∀ b, b < w.heap.size → w'.heap[b]? = w.heap[b]?) → (Builtin.firstCells ti.size es.length (.slice (some ⟨b, 0, none⟩) es.length cap)).run P w' = .ok (arr.toList.take (es.length * ti.size)).toArray w' := by
      intro w' hw'
      have hh' : w'.heap[b]? = some (.cells arr E (0, 0)) := by rw [hw' b (lt_of_heap hh)]; exact hh
      have hrun := run_loadCells_list (P := P) w' ⟨b, 0, none⟩ (arr.toList.take (es.length * ti.size)) (fun j v hv => by
        rw [Addr.add_mk, cell_of_cells hh', Nat.zero_add]
        rw [List.getElem?_take] at hv
        split at hv
        · exact hv
        · cases hv)
      have hl : (arr.toList.take (es.length * ti.size)).length = es.length * ti.size := by simp; omega
      rw [hl] at hrun
      exact hrun
    by_cases hcap : es.length + xs.length ≤ cap
    ·
      have hin : es.length * ti.size + xs.length * ti.size ≤ arr.size := by
        rw [hs, ← Nat.add_mul]; exact Nat.mul_le_mul_right _ hcap
      have hzr := hfc w (fun _ _ => rfl)
      have hrun := run_storeCells_at (P := P) b (es.length * ti.size) E zs.toList 0 arr w hh (by simp; omega) hone
      rw [Nat.add_zero] at hrun
      have hzl' : zs.toList.length = xs.length * ti.size := by simpa using hzl
      obtain ⟨arr', ha'⟩ : ∃ arr', arr' = (arr.toList.take (es.length * ti.size) ++ zs.toList ++ arr.toList.drop (es.length * ti.size + zs.toList.length)).toArray := ⟨_, rfl⟩
      rw [← ha'] at hrun
      have ha'sz : arr'.size = arr.size := by
        rw [ha']; simp; omega
      refine ⟨.slice (some ⟨b, 0, none⟩) (es.length + xs.length) cap, w.setRow b arr', G.set j (some b) (.slice (some ⟨b, 0, none⟩) (es.length + xs.length) cap), ?_, ?_, by simp [Gh.set], ⟨_, _, _, rfl⟩⟩
      · rw [hγ]
        simp only [Builtin.append_, List.getElem?_toArray, List.getElem?_cons_zero, List.getElem?_cons_succ, Sem.run_bind, run_underlying hu, run_underlying hux, Result.andThen_ok, run_sizeOf_D hti, Sem.run_pure]
        simp only [Bool.false_eq_true, if_false, Sem.run_bind, hX, Result.andThen_ok, Sem.run_ite, hcap, if_true, Bool.not_false, hzr, Addr.add_mk, Nat.zero_add, hrun, Sem.run_pure]
      · refine h.rebind hj hm (some b) _ _ rfl rfl rfl (by simp [World.setRow]) (fun b' hb' hne => setRow_other w b arr' (fun e => hne (by rw [e]; exact hb)))
          (fun b' hb' => by cases hb'; exact ⟨.inl hb, by have := lt_of_heap hh; simpa [World.setRow] using this⟩) (fun hkp => ?_)
        refine ⟨hfl, .inr ⟨b, arr', E, cap, by simp [Gh.set], setRow_heap w b arr _ E (0, 0) hh, by simp [Gh.set], by simpa using hcap, by rw [ha'sz, hs], ?_⟩⟩
        have hlen : ((es ++ xs).length * ti.size) = (arr.toList.take (es.length * ti.size) ++ zs.toList).length := by
          simp only [List.length_append, List.length_take, Array.length_toList, hzl, Nat.add_mul]; omega
        have : arr'.toList.take ((es ++ xs).length * ti.size) = arr.toList.take (es.length * ti.size) ++ zs.toList := by
          rw [ha', hlen]
          rw [List.take_left' rfl]
        rw [this, List.flatten_append]
        refine RepDs.mono hkp (fun i => i = j) (Gh.set_other G j _ _) _ _ (fun i hi => by rw [← List.flatten_append]; exact hmf i hi) ?_
        exact hr.append hzs
    · exact fresh cap (some ⟨b, 0, none⟩) _ hγ (by omega) (by simpa using hr) (by simp; omega) hold
def rowC (es : List (List C)) : List (List D) := es.map (·.map D.c)
def shutCs : List D → Option (List C)
  | [] => some []
  | .c x :: ds => (shutCs ds).map fun l => x :: l
  | _ :: _ => none
def shutEs : List (List D) → Option (List (List C))
  | [] => some []
  | e :: es => match shutCs e, shutEs es with
    | some x, some y => some (x :: y)
    | _, _ => none
theorem shutCs_spec : ∀ {ds : List D} {cs : List C}, shutCs ds = some cs → ds = cs.map D.c
  | [], cs, h => by simp only [shutCs, Option.some.injEq] at h; subst h; rfl
  | d :: ds, cs, h => by
    cases d <;> simp only [shutCs, reduceCtorEq, Option.map_eq_some_iff] at h
    obtain ⟨l, hl, rfl⟩ := h
    rw [shutCs_spec hl]; rfl
theorem shutEs_spec : ∀ {es : List (List D)} {cs : List (List C)}, shutEs es = some cs → es = rowC cs
  | [], cs, h => by simp only [shutEs, Option.some.injEq] at h; subst h; rfl
  | e :: es, cs, h => by
    simp only [shutEs] at h
    split at h
    · rename_i x y hx hy
      cases h
      rw [shutCs_spec hx, shutEs_spec hy]; rfl
    · cases h
theorem repEs_of_vals {A : Bool → Nat → Prop} {n b : Nat} : ∀ {es : List (List C)} {o : Nat} {ys : List Value}, (∀ e ∈ es, e.length = n) → RepVs w A es.flatten ys → (∀ j v, ys[j]? = some v → w.cell? ⟨b, o + j, none⟩ = some v) → RepEs w A n es b o := by
  have cells : ∀ {cs : List C} {o : Nat} {ys : List Value}, RepVs w A cs ys → (∀ j v, ys[j]? = some v → w.cell? ⟨b, o + j, none⟩ = some v) → RepCs w A cs b o := by
    intro cs
    induction cs with
    | nil => intro o ys _ _; trivial
    | cons c cs ih =>
      intro o ys h hc
      obtain ⟨y, ys', rfl, h1, h2⟩ := h
      refine ⟨⟨y, by have := hc 0 y rfl; simpa using this, h1⟩, ih h2 (fun j v hj => ?_)⟩
      have := hc (j + 1) v (by simpa using hj)
      rwa [show o + 1 + j = o + (j + 1) by omega]
  have split : ∀ (cs ds : List C) (ys : List Value), RepVs w A (cs ++ ds) ys → ∃ y1 y2, ys = y1 ++ y2 ∧ RepVs w A cs y1 ∧ RepVs w A ds y2 := by
    intro cs
    induction cs with
    | nil => intro ds ys h; exact ⟨[], ys, rfl, rfl, h⟩
    | cons c cs ih =>
      intro ds ys h
      obtain ⟨y, ys', rfl, h1, h2⟩ := h
      obtain ⟨y1, y2, rfl, h3, h4⟩ := ih ds ys' h2
      exact ⟨y :: y1, y2, rfl, ⟨y, y1, rfl, h1, h3⟩, h4⟩
  intro es
  induction es with
  | nil => intro o ys _ _ _; trivial
  | cons e es ih =>
    intro o ys hl hr hc
    obtain ⟨y1, y2, rfl, h1, h2⟩ := split e es.flatten ys (by simpa using hr)
    have hn := hl e (by simp)
    have hy := h1.length
    refine ⟨hn, cells h1 (fun j v hj => hc j v ?_), ih (fun x hx => hl x (by simp [hx])) h2 (fun j v hj => ?_)⟩
    · rw [List.getElem?_append_left]
      · exact hj
      · rcases Nat.lt_or_ge j y1.length with h | h
        · exact h
        · rw [List.getElem?_eq_none h] at hj; cases hj
    · have := hc (n + j) v (by rw [List.getElem?_append_right (by omega)]; rw [show n + j - y1.length = j by omega]; exact hj)
      rwa [← Nat.add_assoc] at this
theorem run_append_cl [Lays] (h : Core N O0 w0 σ G a w) {st xt e e' : TypeId} {ti : TI} (hst : elemI P st = some e) (hxt : elemI P xt = some e') (hti : tyI P e = some ti)
    {bw : Bool} {es ys : List (List C)} {S : Value} (hS : RepC w (Av N G σ.bx) (.cl bw ti.size es) S) {X : Value} (hX : (Builtin.lenOf X).run P w = .ok ys.length w) (hpos : 0 < ys.length)
    {zs : Array Value} (hzs : RepDs w (Av N G σ.bx) G (rowC ys).flatten zs.toList) (hzl : zs.size = ys.length * ti.size) (hxl : ∀ e ∈ rowC ys, e.length = ti.size)
    (hfc : ∀ w', (∀ b, b < w.heap.size → w'.heap[b]? = w.heap[b]?) → (Builtin.firstCells ti.size ys.length X).run P w' = .ok zs w')
    (hbd : (es.length + ys.length) * ti.bytes ≤ 2 ^ 44) (hbd2 : es.length + ys.length ≤ 2 ^ 44) (rt : TypeId) :
    ∃ v w', (Builtin.append_ #[st, xt] rt #[S, X]).run P w = .ok v w' ∧ Core N O0 w0 σ G a w' ∧ RepC w' (Av N G σ.bx) (.sl false ti.size (es ++ ys)) v := by
  have hu := elemI_spec hst
  have hux := elemI_spec hxt
  obtain ⟨inf, hinf, hbytes⟩ := run_bytes_D hti w
  obtain ⟨z, hz, hzz, hzsz, hz1⟩ := run_zero_D hti w
  have hsrc := src_sound (P := P) (n := ti.size) h (x := .c (.sl bw ti.size es)) (X := S) (xs := rowC es) (cl_sl hS) (by simp only [srcD, if_true]; rfl)
  obtain ⟨_, old, hof, hold, hosz, holn⟩ := hsrc
  have hrl : (rowC es).length = es.length := by simp [rowC]
  rw [hrl] at hof hosz
  obtain ⟨base, rfl, _⟩ := hS
  have hcapbd : Builtin.nextslicecap (es.length + ys.length) es.length * ti.bytes ≤ 2 ^ 48 := by
    have := nextcap_le (need := es.length + ys.length) (cap := es.length) (by omega)
    calc Builtin.nextslicecap (es.length + ys.length) es.length * ti.bytes ≤ (16 * (es.length + ys.length)) * ti.bytes := Nat.mul_le_mul_right _ this
      _ = 16 * ((es.length + ys.length) * ti.bytes) := by rw [Nat.mul_assoc]
      _ ≤ 2 ^ 48 := by omega
  obtain ⟨nc, hnc, hcut⟩ : ∃ nc, es.length + ys.length ≤ nc ∧ (choose (.appendCap (es.length + ys.length) es.length e)).run P w = .ok nc { w with drawn := w.drawn + 1 } := by
    refine ⟨_, ?_, by simp only [run_choose, Question.forced]; rfl⟩
    simp only [Question.cut]
    omega
  obtain ⟨w1, hw1⟩ : ∃ w1 : World, w1 = { w with drawn := w.drawn + 1 } := ⟨_, rfl⟩
  have hsame : ∀ b, b < w.heap.size → w1.heap[b]? = w.heap[b]? := fun b _ => by rw [hw1]
  have h1 : Core N O0 w0 σ G a w1 := by rw [hw1]; exact h.drew
  obtain ⟨z', hz', hzz', _, _⟩ := run_zero_D hti w1
  have hzc : z'.cells.toList = ti.zero := hzz'
  let rest := Builtin.zeroCells z'.cells (nc - (es.length + ys.length))
  have hkw : Keeps w w1 (Av N G σ.bx) (Av N G σ.bx) := by rw [hw1]; exact ⟨Nat.le_refl _, fun _ _ _ h => h, fun _ _ _ _ _ => rfl⟩
  have hka : Keeps w1 (w1.alloc (.cells (old ++ zs ++ rest) e (0, 0))) (Av N G σ.bx) (Av N G σ.bx) := ⟨by simp, fun _ _ _ h => h, fun _ b hb _ o => cell?_of_heap (heap_alloc_lt w1 _ hb) o⟩
  have hno : ¬ (es.length + ys.length ≤ es.length) := by omega
  have hb2 : ¬ (Builtin.nextslicecap (es.length + ys.length) es.length * inf.bytes > 2 ^ 48) := by rw [hbytes]; omega
  have h63 : ¬ (((es.length + ys.length : Nat) : Int) > IntKind.i64.max ∧ (False ∨ inf.bytes = 0)) := by
    have : IntKind.i64.max = 9223372036854775807 := by decide
    omega
  have hf1 := hof w1 hsame
  have hf2 := hfc w1 hsame
  have hinf1 : (typeInfo e).run P w1 = .ok inf w1 := by
    obtain ⟨i, u, z, h1, h2, h3, _⟩ := tyI_spec hti
    have e1 : (typeInfo e).run P w = .ok i w := by simp [typeInfo, h1]
    rw [hinf] at e1; cases e1
    simp [typeInfo, h1]
  refine ⟨.slice (some ⟨w1.heap.size, 0, none⟩) (es.length + ys.length) nc, w1.alloc (.cells (old ++ zs ++ rest) e (0, 0)), ?_, ?_, ?_⟩
  · simp only [Builtin.append_, List.getElem?_toArray, List.getElem?_cons_zero, List.getElem?_cons_succ, Sem.run_bind, run_underlying hu, run_underlying hux, Result.andThen_ok, run_sizeOf_D hti, Sem.run_pure]
    rw [← hw1] at hcut
    simp only [Bool.false_eq_true, if_false, Sem.run_bind, hX, Result.andThen_ok, Sem.run_ite, hno, hinf, false_or, Bool.not_false, if_true]
    simp only [false_or] at h63
    simp only [h63, hb2, if_false, hcut, Result.andThen_ok, hinf1, run_askRoom, hf1, hf2, hz', Sem.run_pure, newRow, Sem.run_bind, run_newObj]
    rfl
  · exact {
      rep := fun k x hk => RepB.mono hka (fun _ => False) (fun _ _ => ⟨rfl, rfl⟩) x (fun h => h) (fun b hb => heap_alloc_lt w1 _ (h1.own b ⟨k, x, hk, hb⟩).1) (fun _ h => h.elim) (h1.rep k x hk)
      inj := h1.inj
      own := fun b hb => by
        have := h1.own b hb
        exact ⟨by simp; omega, this.2⟩
      tm := fun t d ht => let ⟨y, hy, hr⟩ := h1.tm t d ht; ⟨y, hy, RepD.keep hka d y hr⟩
      nt := h1.nt
      df := marks_alloc h1.df _
      fr := fr_alloc h1.fr _
      nlt := h1.nlt
      odis := h1.odis
      laid := h1.laid }
  · have hnot : ¬ Av N G σ.bx false w1.heap.size := by
      rintro (h3 | ⟨_, h3⟩)
      · have := (h1.own _ h3).1; omega
      · have := h1.nlt _ h3
        have := h1.fr.size
        omega
    have hel : ∀ e ∈ es ++ ys, e.length = ti.size := fun e he => by
      rcases List.mem_append.1 he with he | he
      · have := holn (e.map D.c) (by simp only [rowC, List.mem_map]; exact ⟨e, he, rfl⟩)
        simpa using this
      · have := hxl (e.map D.c) (by simp only [rowC, List.mem_map]; exact ⟨e, he, rfl⟩)
        simpa using this
    refine ⟨_, nc, by rw [List.length_append], by rw [List.length_append]; exact hnc, .inr ⟨w1.heap.size, 0, rfl, by simp, hnot, ?_⟩⟩
    have hfl : ∀ l : List (List C), (rowC l).flatten = l.flatten.map D.c := fun l => by simp [rowC, List.map_flatten]
    have hv : RepVs (w1.alloc (.cells (old ++ zs ++ rest) e (0, 0))) (Av N G σ.bx) (es ++ ys).flatten (old.toList ++ zs.toList) := by
      refine RepDs.toVs (G := G) ?_
      rw [List.flatten_append, List.map_append, ← hfl, ← hfl]
      exact (RepDs.keep hka _ _ (RepDs.keep hkw _ _ hold)).append (RepDs.keep hka _ _ (RepDs.keep hkw _ _ hzs))
    refine repEs_of_vals hel hv fun j v hj => ?_
    rw [cell_of_cells (heap_alloc_new w1 _), Nat.zero_add]
    simp only [Array.toList_append]
    rw [List.getElem?_append_left]
    · exact hj
    · exact (List.getElem?_eq_some_iff.1 hj).1
def appD (P : Program) (σ : St) (k : Nat) (st xt : TypeId) (s x : D) : Option (St × Nat × Nat) :=
  match elemI P st, elemI P xt with
  | some e, some _ => match tyI P e with
    | some ti => match srcD σ ti.size x with
      | some xs => if xs.flatten.all cellOK then (match s with
        | .own j => match get j σ.bx with
          | some (.row n es) => if n = ti.size ∧ Blk.men j (.row n (es ++ xs)) = false then
              some (((σ.kill j).putB j (.row n (es ++ xs))).put k (.own j), es.length + xs.length, ti.bytes) else none
          | _ => none
        | .c (.v (.slice none 0 0)) => if get k σ.bx = none ∧ σ.men k = false ∧ Blk.men k (.row ti.size xs) = false then
            some ((σ.putB k (.row ti.size xs)).put k (.own k), xs.length, ti.bytes) else none
        | .c (.cl _ n es) => match shutEs xs with
          | some ys => if n = ti.size ∧ 0 < xs.length then some (σ.put k (.c (.sl false n (es ++ ys))), es.length + xs.length, ti.bytes) else none
          | none => none
        | _ => none) else none
      | none => none
    | none => none
  | _, _ => none
theorem killD_of {k : Nat} {d : D} (h : d.men k = false) : killD k d = d := by simp [killD, h]
theorem map_killD_of [Lays] {k : Nat} : ∀ {ds : List D}, D.mens k ds = false → ds.map (killD k) = ds
  | [], _ => rfl
  | d :: ds, h => by
    simp only [D.mens, Bool.or_eq_false_iff] at h
    rw [List.map_cons, killD_of h.1, map_killD_of h.2]
theorem killB_row [Lays] {k n : Nat} {es : List (List D)} (h : Blk.men k (.row n es) = false) : killB k (.row n es) = .row n es := by
  simp only [Blk.men, List.any_eq_false] at h
  simp only [killB]
  congr 1
  rw [List.map_congr_left (g := id)]
  · simp
  · intro e he
    exact map_killD_of (by simpa using h e he)
theorem appD_sound [Lays] (h : Core N O0 w0 σ G a w) {k : Nat} (hk : k < σ.nt) {st xt : TypeId} {s x : D} {S X : Value} (hS : RepD w (Av N G σ.bx) G s S) (hX : RepD w (Av N G σ.bx) G x X)
    {σ' : St} {len bytes : Nat} (he : appD P σ k st xt s x = some (σ', len, bytes)) (hb1 : len * bytes ≤ 2 ^ 44) (hb2 : len ≤ 2 ^ 44) (rt : TypeId) :
    ∃ v w' G', (Builtin.append_ #[st, xt] rt #[S, X]).run P w = .ok v w' ∧ Core N O0 w0 σ' G' (a.put (some k) v) w' := by
  unfold appD at he
  split at he
  · rename_i e e' hst hxt
    split at he
    · rename_i ti hti
      split at he
      · rename_i xs hxs
        split at he
        · rename_i hok
          obtain ⟨hlen, zs, hfc, hzs, hzl, hxl⟩ := src_sound (P := P) h hX hxs
          have hone := cellsOK_one hok hzs
          split at he
          · rename_i j
            split at he
            · rename_i n es hj
              split at he
              · rename_i hc
                obtain ⟨rfl, hmen⟩ := hc
                cases he
                have hk1 := h.kill j
                have hjm : Blk.men j (.row ti.size es) = false := by
                  simp only [Blk.men, List.any_append, Bool.or_eq_false_iff] at hmen ⊢
                  exact hmen.1
                have hj1 : get j (σ.kill j).bx = some (.row ti.size es) := by
                  simp only [St.kill, get_map, hj, Option.map_some, killB_row hjm]
                have hAv : Av N G (σ.kill j).bx = Av N G σ.bx := Av_kill
                obtain ⟨v, w', G', hrun, hcore, hv, hsl⟩ := run_append (P := P) hk1 hst hxt hti hj1 (kill_men σ j) hmen hlen (by rw [hAv]; exact hzs) hzl hone hxl hfc hb1 hb2 rt
                obtain ⟨rfl, _⟩ := hS
                exact ⟨v, w', G', hrun, hcore.put hk ⟨hv, hsl⟩⟩
              · cases he
            · cases he
          · split at he
            · rename_i hc
              cases he
              have ha := h.adopt (n := ti.size) hc.1 hc.2.1
              have hmk : (σ.putB k (.row ti.size [])).men k = false := by
                have h1 := hc.2.1
                simp only [St.men, Bool.or_eq_false_iff, List.any_eq_false] at h1 ⊢
                refine ⟨h1.1, ?_⟩
                have : ∀ l : List (Nat × Blk), (∀ p ∈ l, ¬ p.2.men k = true) → ∀ p ∈ ins k (Blk.row ti.size []) l, ¬ p.2.men k = true := by
                  intro l
                  induction l with
                  | nil => intro _ p hp; simp [ins] at hp; subst hp; simp [Blk.men]
                  | cons q l ih =>
                    intro hl p hp
                    simp only [ins] at hp
                    split at hp
                    · rcases List.mem_cons.1 hp with rfl | hp
                      · simp [Blk.men]
                      · exact hl p hp
                    · split at hp
                      · rcases List.mem_cons.1 hp with rfl | hp
                        · simp [Blk.men]
                        · exact hl p (by simp [hp])
                      · rcases List.mem_cons.1 hp with rfl | hp
                        · exact hl _ (by simp)
                        · exact ih (fun x hx => hl x (by simp [hx])) p hp
                exact this _ h1.2
              have hAv : ∀ bw b, ¬ Av N G σ.bx bw b → ¬ Av N (G.set k none (.slice none 0 0)) (ins k (.row ti.size []) σ.bx) bw b := by
                rintro bw b hA (⟨i, z, hi, hb⟩ | h1)
                · rw [get_ins] at hi
                  by_cases e : i = k
                  · subst e; simp [Gh.set] at hb
                  · rw [if_neg e] at hi; simp only [Gh.set, if_neg e] at hb
                    exact hA (.inl ⟨i, z, hi, hb⟩)
                · exact hA (.inr h1)
              have hkp : Keeps w w (Av N G σ.bx) (Av N (G.set k none (.slice none 0 0)) (ins k (.row ti.size []) σ.bx)) := ⟨Nat.le_refl _, fun bw b _ => hAv bw b, fun _ _ _ _ _ => rfl⟩
              have hzs' : RepDs w (Av N (G.set k none (.slice none 0 0)) (ins k (.row ti.size []) σ.bx)) (G.set k none (.slice none 0 0)) xs.flatten zs.toList := by
                refine RepDs.mono hkp (fun i => i = k) (Gh.set_other G k _ _) _ _ (fun i hi => ?_) hzs
                subst hi
                have h1 := hc.2.2
                simp only [Blk.men, List.any_eq_false] at h1
                have key : ∀ (l : List (List D)), (∀ x ∈ l, ¬ D.mens i x = true) → D.mens i l.flatten = false := by
                  intro l
                  induction l with
                  | nil => intro _; rfl
                  | cons e l ih =>
                    intro hl
                    have app : ∀ a b : List D, D.mens i a = false → D.mens i b = false → D.mens i (a ++ b) = false := by
                      intro a b ha hb'
                      induction a with
                      | nil => exact hb'
                      | cons d ds ih =>
                        simp only [D.mens, Bool.or_eq_false_iff] at ha
                        simp only [List.cons_append, D.mens, Bool.or_eq_false_iff]
                        exact ⟨ha.1, ih ha.2⟩
                    exact app e _ (by simpa using hl e (by simp)) (ih (fun x hx => hl x (by simp [hx])))
                exact key _ h1
              obtain ⟨v, w', G', hrun, hcore, hv, hsl⟩ := run_append (P := P) ha hst hxt hti (j := k) (es := []) (xs := xs) (by simp [St.putB, get_ins]) hmk (by simpa using hc.2.2) hlen hzs' hzl hone hxl hfc (by simpa using hb1) (by simpa using hb2) rt
              have e1 : ((σ.putB k (.row ti.size [])).putB k (.row ti.size ([] ++ xs))) = σ.putB k (.row ti.size xs) := by
                simp only [St.putB, List.nil_append]
                congr 1
                have : ∀ l : List (Nat × Blk), ins k (.row ti.size xs) (ins k (.row ti.size []) l) = ins k (.row ti.size xs) l := by
                  intro l
                  induction l with
                  | nil => simp [ins]
                  | cons q l ih =>
                    simp only [ins]
                    by_cases h1 : q.1 < k
                    · rw [if_pos h1, if_pos h1]; simp [ins]
                    · rw [if_neg h1, if_neg h1]
                      by_cases h2 : k = q.1
                      · rw [if_pos h2, if_pos h2]; simp [ins]
                      · rw [if_neg h2, if_neg h2]; simp only [ins]; rw [if_neg h1, if_neg h2, ih]
                exact this _
              rw [e1] at hcore
              have eS : S = (G.set k none (.slice none 0 0)).γ k := by rw [show S = _ from hS.1]; simp [Gh.set]
              rw [← eS] at hrun
              exact ⟨v, w', G', hrun, hcore.put hk ⟨hv, hsl⟩⟩
            · cases he
          · rename_i bw n es
            split at he
            · rename_i ys hys
              have hxy := shutEs_spec hys
              subst hxy
              have hyl : (rowC ys).length = ys.length := by simp [rowC]
              rw [hyl] at he
              split at he
              · rename_i hc
                obtain ⟨rfl, hpos⟩ := hc
                cases he
                rw [hyl] at hlen hfc hzl
                obtain ⟨v, w', hrun, hcore, hv⟩ := run_append_cl (P := P) h hst hxt hti hS hlen hpos hzs hzl hxl hfc hb1 hb2 rt
                exact ⟨v, w', G, hrun, hcore.put hk hv⟩
              · cases he
            · cases he
          · cases he
        · cases he
      · cases he
    · cases he
  · cases he
def srcW (σ : St) (n lim : Nat) : D → Option (List (List D))
  | .win k m lo hi => match get k σ.bx with
    | some (.row m' es) => if m' = n ∧ m = n ∧ lo ≤ hi ∧ hi ≤ es.length then some ((es.take (min hi (lo + lim))).drop lo) else none
    | _ => none
  | d => srcD σ n d
def dstW (σ : St) (n : Nat) : D → Option (Nat × Nat × Nat × List (List D))
  | .own k => match get k σ.bx with
    | some (.row m es) => if m = n then some (k, 0, es.length, es) else none
    | _ => none
  | .win k m' lo hi => match get k σ.bx with
    | some (.row m es) => if m = n ∧ m' = n ∧ lo < hi ∧ hi ≤ es.length then some (k, lo, hi, es) else none
    | _ => none
  | _ => none
def copyD (P : Program) (σ : St) (dT : TypeId) (x y : D) : Option (St × Nat) :=
  match elemI P dT with
  | some e => match tyI P e with
    | some ti => match dstW σ ti.size x with
      | some (k, lo, hi, es) => match srcW σ ti.size (hi - lo) y with
        | some xs => if (lo + xs.length ≤ hi ∧ 0 < xs.length) ∧ xs.flatten.all cellOK = true then some (σ.putB k (.row ti.size (es.take lo ++ xs ++ es.drop (lo + xs.length))), xs.length) else none
        | none => none
      | none => none
    | none => none
  | none => none
theorem copyD_nt {P : Program} {σ σ' : St} {dT : TypeId} {x y : D} {m : Nat} (he : copyD P σ dT x y = some (σ', m)) : σ'.nt = σ.nt := by
  unfold copyD at he
  (repeat' split at he) <;> cases he <;> rfl
theorem srcW_sound [Lays] (h : Core N O0 w0 σ G a w) {x : D} {X : Value} {n lim : Nat} {xs : List (List D)} (hx : RepD w (Av N G σ.bx) G x X) (he : srcW σ n lim x = some xs) (hlim : xs.length ≤ lim) :
    (∃ L, (Builtin.lenOf X).run P w = .ok L w ∧ Nat.min L lim = xs.length) ∧ ∃ zs : Array Value, (Builtin.firstCells n xs.length X).run P w = .ok zs w ∧ RepDs w (Av N G σ.bx) G xs.flatten zs.toList ∧ zs.size = xs.length * n ∧ ∀ e ∈ xs, e.length = n := by
  unfold srcW at he
  split at he
  · rename_i k m lo hi
    split at he
    · rename_i m' es hk
      split at he
      · rename_i hc
        obtain ⟨rfl, rfl, h1, h2⟩ := hc
        cases he
        obtain ⟨a0, l, c, hγ0, _, _, rfl⟩ := hx
        obtain ⟨hlen, ⟨hnil, _, hγ⟩ | ⟨b, arr, E, cap, hb, hh, hγ, hcp, hs, hr⟩⟩ := h.rep k _ hk
        · subst hnil
          rw [hγ] at hγ0; cases hγ0
          have h3 : hi = 0 := by simpa using h2
          subst h3
          have h4 : lo = 0 := by omega
          subst h4
          have h5 : min 0 (0 + lim) = 0 := Nat.zero_min _
          rw [h5]
          exact ⟨⟨0, by simp [Builtin.lenOf], Nat.zero_min _⟩, #[], by simp [Builtin.firstCells], rfl, by simp, by simp⟩
        · rw [hγ] at hγ0; cases hγ0
          have hmn : Nat.min (hi - lo) lim = min hi (lo + lim) - lo := by
            show min (hi - lo) lim = _
            omega
          have hlo' : Sem.run P (Builtin.lenOf (Value.slice (if c = lo then some ⟨b, 0, none⟩ else Option.map (fun x : Addr => x.add (lo * m)) (some ⟨b, 0, none⟩)) (hi - lo) (c - lo))) w = .ok (hi - lo) w := by simp [Builtin.lenOf]
          have hk1 : lo ≤ min hi (lo + lim) := by omega
          have hk2 : min hi (lo + lim) ≤ hi := Nat.min_le_left _ _
          have hL : min hi (lo + lim) ≤ es.length := by omega
          generalize min hi (lo + lim) = hm at *
          have hxl : ((es.take hm).drop lo).length = hm - lo := by simp; omega
          have hsz : es.length * m ≤ arr.size := by rw [hs]; exact Nat.mul_le_mul_right m hcp
          have hhn : hm * m ≤ es.length * m := Nat.mul_le_mul_right m hL
          have hmul : lo * m + (hm - lo) * m = hm * m := by rw [← Nat.add_mul]; congr 1; omega
          refine ⟨⟨hi - lo, hlo', by rw [hxl]; exact hmn⟩, (((arr.toList.take (es.length * m)).take (hm * m)).drop (lo * m)).toArray, ?_, ?_, ?_, fun e he => hlen _ (List.mem_of_mem_take (List.mem_of_mem_drop he))⟩
          · rw [hxl]
            by_cases hcl : c = lo
            · have h0 : hm - lo = 0 := by omega
              have h5 : hm = lo := by omega
              rw [if_pos hcl, h0, h5]
              have : (((arr.toList.take (es.length * m)).take (lo * m)).drop (lo * m)).toArray = #[] := by simp
              rw [this]
              simp [Builtin.firstCells, loadCells, loadCellsFrom]
            · rw [if_neg hcl]
              simp only [Option.map_some, Addr.add_mk, Nat.zero_add]
              have hrun := run_loadCells_list (P := P) w ⟨b, lo * m, none⟩ (((arr.toList.take (es.length * m)).take (hm * m)).drop (lo * m)) (fun j v hv => by
                rw [Addr.add_mk, cell_of_cells hh]
                rw [List.getElem?_drop, List.getElem?_take] at hv
                split at hv
                · rw [List.getElem?_take] at hv
                  split at hv
                  · exact hv
                  · cases hv
                · cases hv)
              have hl : (((arr.toList.take (es.length * m)).take (hm * m)).drop (lo * m)).length = (hm - lo) * m := by simp; omega
              rw [hl] at hrun
              exact hrun
          · rw [drop_flatten (n := m) _ lo (fun e he => hlen e (List.mem_of_mem_take he)), take_flatten es hm hlen]
            exact (hr.take (hm * m)).drop (lo * m)
          · rw [hxl]; simp; omega
      · cases he
    · cases he
  · obtain ⟨h1, zs, h2, h3⟩ := src_sound (P := P) h hx he
    exact ⟨⟨_, h1, Nat.min_eq_left hlim⟩, zs, h2 w (fun _ _ => rfl), h3⟩
theorem copyD_sound [Lays] (h : Core N O0 w0 σ G a w) {st xt : TypeId} {x y : D} {X Y : Value} (hX : RepD w (Av N G σ.bx) G x X) (hY : RepD w (Av N G σ.bx) G y Y)
    {σ' : St} {m : Nat} (he : copyD P σ st x y = some (σ', m)) (rt : TypeId) :
    ∃ w', (Builtin.copy_ #[st, xt] rt #[X, Y]).run P w = .ok (.int .i64 m) w' ∧ Core N O0 w0 σ' G a w' := by
  unfold copyD at he
  split at he
  · rename_i e hel
    have hu := elemI_spec hel
    split at he
    · rename_i ti hti
      split at he
      · rename_i k lo hi es hds
        split at he
        · rename_i xs hxs
          split at he
          rotate_left
          · cases he
          rename_i hc
          obtain ⟨⟨hc1, hc2⟩, hok⟩ := hc
          cases he
          obtain ⟨⟨L, hlo, hmin⟩, zs, hfc, hzs, hzl, hxl⟩ := srcW_sound (P := P) h hY hxs (by omega)
          have hone := cellsOK_one hok hzs
          have key : ∃ b l c, get k σ.bx = some (.row ti.size es) ∧ hi ≤ es.length ∧ G.γ k = .slice (some ⟨b, 0, none⟩) l c ∧ X = .slice (some ⟨b, lo * ti.size, none⟩) (hi - lo) (c - lo) := by
            unfold dstW at hds
            split at hds
            · rename_i j
              split at hds
              · rename_i mm ess hj
                split at hds
                · rename_i hm
                  subst hm
                  cases hds
                  obtain ⟨rfl, _⟩ := hX
                  obtain ⟨_, ⟨hnil, _⟩ | ⟨b, arr, E, cap, hb, hh, hγ, _⟩⟩ := h.rep k _ hj
                  · subst hnil; simp only [List.length_nil] at hc1; omega
                  · exact ⟨b, es.length, cap, hj, Nat.le_refl _, hγ, by rw [hγ]; simp⟩
                · cases hds
              · cases hds
            · rename_i j m' lo' hi'
              split at hds
              · rename_i mm ess hj
                split at hds
                · rename_i hm
                  obtain ⟨rfl, rfl, hm1, hm2⟩ := hm
                  cases hds
                  obtain ⟨a0, l, c, hγ0, hq1, hq2, rfl⟩ := hX
                  obtain ⟨_, ⟨hnil, _⟩ | ⟨b, arr, E, cap, hb, hh, hγ, hcp, _⟩⟩ := h.rep k _ hj
                  · subst hnil; simp at hm2; omega
                  · rw [hγ] at hγ0; cases hγ0
                    refine ⟨b, es.length, c, hj, hm2, hγ, ?_⟩
                    rw [if_neg (by omega)]
                    simp only [Option.map_some, Addr.add_mk, Nat.zero_add]
                · cases hds
              · cases hds
            · cases hds
          obtain ⟨b', l', c', hk, hhi, hγ', rfl⟩ := key
          obtain ⟨hlen, ⟨hnil, _⟩ | ⟨b, arr, E, cap, hb, hh, hγ, hcp, hs, hr⟩⟩ := h.rep k _ hk
          · subst hnil; simp at hhi; omega
          rw [hγ] at hγ'
          injection hγ' with i1 i2 i3
          injection i1 with i4
          injection i4 with i5
          subst i5 i2 i3
          have hsz : es.length * ti.size ≤ arr.size := by rw [hs]; exact Nat.mul_le_mul_right _ hcp
          have hzn : zs.toList.length = xs.length * ti.size := by simpa using hzl
          have hfit : (lo + xs.length) * ti.size ≤ es.length * ti.size := Nat.mul_le_mul_right _ (by omega)
          rw [Nat.add_mul] at hfit
          have hrun := run_storeCells_at (P := P) b (lo * ti.size) E zs.toList 0 arr w hh (by rw [hzn]; omega) hone
          rw [Nat.add_zero] at hrun
          obtain ⟨arr2, harr2⟩ : ∃ arr2, arr2 = (arr.toList.take (lo * ti.size) ++ zs.toList ++ arr.toList.drop (lo * ti.size + zs.toList.length)).toArray := ⟨_, rfl⟩
          rw [← harr2] at hrun
          refine ⟨w.setRow b arr2, ?_, h.write hk hb hh arr2 ?_⟩
          · simp [Builtin.copy_, run_underlying hu, hlo, run_sizeOf_D hti, hmin, hfc, hrun, goInt]
          · have hkp : Keeps w (w.setRow b arr2) (Av N G σ.bx) (Av N G σ.bx) :=
              ⟨by simp [World.setRow], fun _ _ _ h => h, fun bw b' hb' hA o => cell?_of_heap (setRow_other w b _ (fun e => hA (.inl (by rw [e]; exact ⟨k, _, hk, hb⟩)))) o⟩
            have hle : (es.take lo ++ xs ++ es.drop (lo + xs.length)).length = es.length := by simp; omega
            refine ⟨?_, .inr ⟨b, arr2, E, cap, hb, setRow_heap w b arr _ E (0, 0) hh, by rw [hle]; exact hγ, by rw [hle]; exact hcp, ?_, ?_⟩⟩
            · intro e' he'
              simp only [List.append_assoc, List.mem_append] at he'
              rcases he' with he' | he' | he'
              · exact hlen _ (List.mem_of_mem_take he')
              · exact hxl _ he'
              · exact hlen _ (List.mem_of_mem_drop he')
            · rw [harr2]; simp only [List.length_append, List.size_toArray, List.length_take, List.length_drop, Array.length_toList] at hzn ⊢; omega
            · rw [hle]
              have hset := setAt_sound (off := lo * ti.size) hr hzs
              have e1 : (es.take lo ++ xs ++ es.drop (lo + xs.length)).flatten = setAt es.flatten (lo * ti.size) xs.flatten := by
                simp only [List.flatten_append, setAt, take_flatten es lo hlen, drop_flatten es (lo + xs.length) hlen]
                rw [flatten_len (n := ti.size) xs hxl, Nat.add_mul]
              rw [e1]
              have e2 : ((arr.toList.take (es.length * ti.size)).take (lo * ti.size) ++ zs.toList ++ (arr.toList.take (es.length * ti.size)).drop (lo * ti.size + zs.toList.length)) =
                  (arr.toList.take (lo * ti.size) ++ zs.toList ++ arr.toList.drop (lo * ti.size + zs.toList.length)).take (es.length * ti.size) := by
                have ha : (arr.toList.take (lo * ti.size) ++ zs.toList).length = lo * ti.size + xs.length * ti.size := by simp only [List.length_append, List.length_take, Array.length_toList] at hzn ⊢; omega
                rw [List.take_take, Nat.min_eq_left (by omega), List.take_append, ha, List.take_of_length_le (l := arr.toList.take (lo * ti.size) ++ _) (by omega), List.drop_take, hzn]
              rw [e2] at hset
              rw [harr2] at hkp ⊢
              simpa using RepDs.keep hkp _ _ hset
        · cases he
      · cases he
    · cases he
  · cases he
end Go.Dw
end
