/- Helpers of a proof. -/
import Derived.Test.YtnbgonichmcfaaaW02
set_option linter.unusedVariables false
set_option linter.unusedSimpArgs false
section
namespace Go.Dw
open Go.RowKit
variable {N O0 : Nat → Prop} {w0 : World} {σ : St} {G : Gh} {a : Act} {w : World}
def St.put (σ : St) (t : Nat) (d : D) : St := { σ with tm := ins t d σ.tm }
def St.putB (σ : St) (k : Nat) (x : Blk) : St := { σ with bx := ins k x σ.bx }
theorem cell?_of_heap {w w' : World} {b : Nat} (h : w'.heap[b]? = w.heap[b]?) (o : Nat) : w'.cell? ⟨b, o, none⟩ = w.cell? ⟨b, o, none⟩ := by
  simp only [World.cell?, h]
theorem Keeps.refl (w : World) (A : Bool → Nat → Prop) : Keeps w w A A := ⟨Nat.le_refl _, fun _ _ _ h => h, fun _ _ _ _ _ => rfl⟩
theorem tmps_put {a : Act} {t t' : Nat} {v : Value} : (a.put (some t) v).tmps[t']? = if t' = t then (if t < a.tmps.size then some v else none) else a.tmps[t']? := by
  simp only [Act.put, Array.getElem?_setIfInBounds]
  by_cases h : t = t'
  · subst h; simp
  · rw [if_neg h, if_neg (fun e => h e.symm)]
theorem size_put {a : Act} {t : Option Nat} {v : Value} : (a.put t v).tmps.size = a.tmps.size := by
  cases t <;> simp [Act.put]
theorem defers_put {a : Act} {t : Option Nat} {v : Value} : (a.put t v).defers = a.defers := by
  cases t <;> simp [Act.put]
theorem Core.put [Lays] (h : Core N O0 w0 σ G a w) {t : Nat} (ht : t < σ.nt) {d : D} {v : Value} (hd : RepD w (Av N G σ.bx) G d v) :
    Core N O0 w0 (σ.put t d) G (a.put (some t) v) w where
  rep := h.rep
  inj := h.inj
  own := h.own
  tm := fun t' d' ht' => by
    simp only [St.put, get_ins] at ht'
    rw [tmps_put]
    split at ht'
    · cases ht'
      rename_i e
      rw [if_pos e, if_pos (by rw [h.nt]; exact ht)]
      exact ⟨v, rfl, hd⟩
    · rename_i e
      rw [if_neg e]
      exact h.tm t' d' ht'
  nt := by rw [size_put]; exact h.nt
  df := by rw [defers_put]; exact h.df
  fr := h.fr
  nlt := h.nlt
  odis := h.odis
  laid := h.laid
theorem Core.drew [Lays] (h : Core N O0 w0 σ G a w) : Core N O0 w0 σ G a { w with drawn := w.drawn + 1 } := by
  have hk : Keeps w { w with drawn := w.drawn + 1 } (Av N G σ.bx) (Av N G σ.bx) := ⟨Nat.le_refl _, fun _ _ _ h => h, fun _ _ _ _ _ => rfl⟩
  exact {
    rep := fun k x hx => RepB.mono hk (fun _ => False) (fun _ _ => ⟨rfl, rfl⟩) x (fun h => h) (fun _ _ => rfl) (fun _ h => h.elim) (h.rep k x hx)
    inj := h.inj
    own := h.own
    tm := fun t d ht => let ⟨y, hy, hr⟩ := h.tm t d ht; ⟨y, hy, RepD.keep hk d y hr⟩
    nt := h.nt
    df := h.df
    fr := ⟨h.fr.os, h.fr.tape, h.fr.output, h.fr.size, h.fr.keep⟩
    nlt := h.nlt
    odis := h.odis
    laid := h.laid }
theorem heap_alloc_lt (w : World) (o : Obj) {b : Nat} (h : b < w.heap.size) : (w.alloc o).heap[b]? = w.heap[b]? := Below.heap_alloc w o b h
theorem heap_alloc_new (w : World) (o : Obj) : (w.alloc o).heap[w.heap.size]? = some o := World.alloc_heap_new w o
theorem lt_of_heap {w : World} {b : Nat} {o : Obj} (h : w.heap[b]? = some o) : b < w.heap.size := (Array.getElem?_eq_some_iff.1 h).1
theorem men_tm {σ : St} {k : Nat} (h : σ.men k = false) {t : Nat} {d : D} (ht : get t σ.tm = some d) : d.men k = false := by
  simp only [St.men, Bool.or_eq_false_iff, List.any_eq_false] at h
  have : ∀ l : List (Nat × D), (∀ x ∈ l, ¬ x.2.men k = true) → get t l = some d → d.men k = false := by
    intro l
    induction l with
    | nil => intro _ h; cases h
    | cons p l ih =>
      intro hl hg
      simp only [get] at hg
      split at hg
      · cases hg; simpa using hl p (by simp)
      · exact ih (fun x hx => hl x (by simp [hx])) hg
  exact this _ h.1 ht
theorem men_bx {σ : St} {k : Nat} (h : σ.men k = false) {t : Nat} {d : Blk} (ht : get t σ.bx = some d) : d.men k = false := by
  simp only [St.men, Bool.or_eq_false_iff, List.any_eq_false] at h
  have : ∀ l : List (Nat × Blk), (∀ x ∈ l, ¬ x.2.men k = true) → get t l = some d → d.men k = false := by
    intro l
    induction l with
    | nil => intro _ h; cases h
    | cons p l ih =>
      intro hl hg
      simp only [get] at hg
      split at hg
      · cases hg; simpa using hl p (by simp)
      · exact ih (fun x hx => hl x (by simp [hx])) hg
  exact this _ h.2 ht
def Gh.set (G : Gh) (k : Nat) (b : Option Nat) (y : Value) : Gh := ⟨fun j => if j = k then b else G.β j, fun j => if j = k then y else G.γ j⟩
theorem Gh.set_other (G : Gh) (k : Nat) (b : Option Nat) (y : Value) : ∀ j, ¬ j = k → (G.set k b y).β j = G.β j ∧ (G.set k b y).γ j = G.γ j := by
  intro j hj; simp [Gh.set, hj]
theorem owned_set_new [Lays] {G : Gh} {bx : List (Nat × Blk)} {k : Nat} {x : Blk} {b0 : Nat} {y : Value} (hf : get k bx = none) {b : Nat} :
    owned (G.set k (some b0) y) (ins k x bx) b ↔ owned G bx b ∨ b = b0 := by
  constructor
  · rintro ⟨j, z, hj, hb⟩
    rw [get_ins] at hj
    by_cases e : j = k
    · subst e; simp [Gh.set] at hb; exact .inr hb.symm
    · rw [if_neg e] at hj; simp only [Gh.set, if_neg e] at hb; exact .inl ⟨j, z, hj, hb⟩
  · rintro (⟨j, z, hj, hb⟩ | rfl)
    · have e : j ≠ k := fun e => by subst e; rw [hf] at hj; cases hj
      exact ⟨j, z, by rw [get_ins, if_neg e]; exact hj, by simp only [Gh.set, if_neg e]; exact hb⟩
    · exact ⟨k, x, by rw [get_ins, if_pos rfl], by simp [Gh.set]⟩
theorem keeps_alloc [Lays] (w : World) (o : Obj) {G : Gh} {bx : List (Nat × Blk)} {k : Nat} {x : Blk} {y : Value} (hf : get k bx = none) :
    Keeps w (w.alloc o) (Av N G bx) (Av N (G.set k (some w.heap.size) y) (ins k x bx)) where
  size := by simp
  av := fun bw b hb ha ha' => by
    rcases ha' with h | h
    · rcases (owned_set_new hf).1 h with h | h
      · exact ha (.inl h)
      · omega
    · exact ha (.inr h)
  cell := fun _ b hb _ o' => cell?_of_heap (heap_alloc_lt w o hb) o'
theorem fr_alloc [Lays] (h : Fr O0 w0 w) (o : Obj) : Fr O0 w0 (w.alloc o) where
  os := h.os
  tape := h.tape
  output := h.output
  size := by have := h.size; simp; omega
  keep := fun b hb hO => by
    rw [heap_alloc_lt w o (by have := h.size; omega)]; exact h.keep b hb hO
theorem marks_alloc [Lays] {l : List Deferred} (h : marks w0 w l) (o : Obj) : marks w0 (w.alloc o) l := by
  obtain ⟨rs, h1, h2, h3⟩ := h
  exact ⟨rs, h1, h2, fun r hr => ⟨by rw [heap_alloc_lt w o (lt_of_heap (h3 r hr).1)]; exact (h3 r hr).1, (h3 r hr).2⟩⟩
theorem Core.alloc [Lays] (h : Core N O0 w0 σ G a w) {k : Nat} (hf : get k σ.bx = none) (hm : σ.men k = false) (ob : Obj) (x : Blk) (y : Value)
    (hx : RepB (w.alloc ob) (Av N (G.set k (some w.heap.size) y) (ins k x σ.bx)) (G.set k (some w.heap.size) y) k x) :
    Core N O0 w0 (σ.putB k x) (G.set k (some w.heap.size) y) a (w.alloc ob) where
  rep := fun j z hj => by
    simp only [St.putB, get_ins] at hj
    split at hj
    · rename_i e; subst e; cases hj; exact hx
    · rename_i e
      refine RepB.mono (keeps_alloc w _ hf) (fun i => i = k) (Gh.set_other G k _ y) z e (fun b hb => ?_) (fun i hi => by subst hi; exact men_bx hm hj) (h.rep j z hj)
      exact heap_alloc_lt w _ (h.own b ⟨j, z, hj, hb⟩).1
  inj := fun i j x1 x2 b hi hj hb1 hb2 => by
    simp only [St.putB, get_ins] at hi hj
    have lt : ∀ i x, get i σ.bx = some x → ∀ b, G.β i = some b → b < w.heap.size := fun i x hx b hb => (h.own b ⟨i, x, hx, hb⟩).1
    by_cases e1 : i = k <;> by_cases e2 : j = k
    · rw [e1, e2]
    · rw [if_neg e2] at hj
      simp only [Gh.set, if_pos e1, if_neg e2] at hb1 hb2
      cases hb1; have := lt j _ hj _ hb2; omega
    · rw [if_neg e1] at hi
      simp only [Gh.set, if_pos e2, if_neg e1] at hb1 hb2
      cases hb2; have := lt i _ hi _ hb1; omega
    · rw [if_neg e1] at hi; rw [if_neg e2] at hj
      simp only [Gh.set, if_neg e1, if_neg e2] at hb1 hb2
      exact h.inj i j x1 x2 b hi hj hb1 hb2
  own := fun b hb => by
    rcases (owned_set_new hf).1 hb with hb | rfl
    · have := h.own b hb
      exact ⟨by simp; omega, this.2⟩
    · have := h.fr.size
      exact ⟨by simp, .inr this⟩
  tm := fun t d ht => by
    obtain ⟨v, hv, hr⟩ := h.tm t d ht
    exact ⟨v, hv, RepD.mono (keeps_alloc w _ hf) (fun i => i = k) (Gh.set_other G k _ y) d v (fun i hi => by subst hi; exact men_tm hm ht) hr⟩
  nt := h.nt
  df := marks_alloc h.df _
  fr := fr_alloc h.fr _
  nlt := h.nlt
  odis := h.odis
  laid := h.laid
theorem RepDs.alloc [Lays] {k : Nat} (hf : get k σ.bx = none) {arr : Array Value} {E : TypeId} {x : Blk} {y : Value} {ds : List D} {l : List Value} (hm : D.mens k ds = false) (h : RepDs w (Av N G σ.bx) G ds l) :
    RepDs (w.alloc (.cells arr E (0, 0))) (Av N (G.set k (some w.heap.size) y) (ins k x σ.bx)) (G.set k (some w.heap.size) y) ds l :=
  RepDs.mono (keeps_alloc w _ hf) (fun i => i = k) (Gh.set_other G k _ y) ds l (fun i hi => by subst hi; exact hm) h
theorem Core.allocBox [Lays] (h : Core N O0 w0 σ G a w) {k : Nat} (hk : k < σ.nt) (hf : get k σ.bx = none) (hm : σ.men k = false) (arr : Array Value) (E : TypeId) (cs : List D) (hcm : D.mens k cs = false)
    (hr : RepDs w (Av N G σ.bx) G cs arr.toList) :
    ∃ G', Core N O0 w0 ((σ.putB k (.box cs)).put k (.box k 0)) G' (a.put (some k) (.pointer (some ⟨w.heap.size, 0, none⟩))) (w.alloc (.cells arr E (0, 0))) := by
  refine ⟨G.set k (some w.heap.size) undef, ?_⟩
  refine Core.put (h.alloc hf hm (.cells arr E (0, 0)) (.box cs) undef ⟨w.heap.size, arr, E, by simp [Gh.set], heap_alloc_new w _, hr.alloc hf hcm⟩) hk ?_
  exact ⟨w.heap.size, by simp [Gh.set], rfl⟩
theorem Core.allocRow [Lays] (h : Core N O0 w0 σ G a w) {k : Nat} (hk : k < σ.nt) (hf : get k σ.bx = none) (hm : σ.men k = false) (arr : Array Value) (E : TypeId) (n cap : Nat) (es : List (List D)) (hcm : D.mens k es.flatten = false)
    (hn : ∀ e ∈ es, e.length = n) (hc : es.length ≤ cap) (ha : arr.size = cap * n)
    (hr : RepDs w (Av N G σ.bx) G es.flatten (arr.toList.take (es.length * n))) :
    ∃ G', Core N O0 w0 ((σ.putB k (.row n es)).put k (.own k)) G' (a.put (some k) (.slice (some ⟨w.heap.size, 0, none⟩) es.length cap)) (w.alloc (.cells arr E (0, 0))) := by
  refine ⟨G.set k (some w.heap.size) (.slice (some ⟨w.heap.size, 0, none⟩) es.length cap), ?_⟩
  refine Core.put (h.alloc hf hm (.cells arr E (0, 0)) (.row n es) _ ⟨hn, .inr ⟨w.heap.size, arr, E, cap, by simp [Gh.set], heap_alloc_new w _, by simp [Gh.set], hc, ha, hr.alloc hf hcm⟩⟩) hk ?_
  exact ⟨by simp [Gh.set], _, _, _, rfl⟩
theorem Core.allocMap [Lays] (h : Core N O0 w0 σ G a w) {k : Nat} (hk : k < σ.nt) (hf : get k σ.bx = none) (hm : σ.men k = false) :
    ∃ G', Core N O0 w0 ((σ.putB k (.map [] [])).put k (.hd k)) G' (a.put (some k) (.map (some w.heap.size))) (w.alloc (.map #[] 0)) := by
  refine ⟨G.set k (some w.heap.size) undef, ?_⟩
  refine Core.put (h.alloc hf hm (.map #[] 0) (.map [] []) undef ⟨w.heap.size, #[], 0, by simp [Gh.set], heap_alloc_new w _, rfl, rfl⟩) hk ?_
  exact ⟨w.heap.size, by simp [Gh.set], rfl⟩
end Go.Dw
end
