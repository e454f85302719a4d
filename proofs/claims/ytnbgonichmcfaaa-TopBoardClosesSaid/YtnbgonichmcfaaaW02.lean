/- Helpers of a proof. -/
import Derived.Test.YtnbgonichmcfaaaW01
set_option linter.unusedVariables false
set_option linter.unusedSimpArgs false
section
namespace Go.Dw
open Go.RowKit
def ins {α : Type} (k : Nat) (x : α) : List (Nat × α) → List (Nat × α)
  | [] => [(k, x)]
  | p :: l => if p.1 < k then (k, x) :: p :: l else if k = p.1 then (k, x) :: l else p :: ins k x l
def get {α : Type} (k : Nat) : List (Nat × α) → Option α
  | [] => none
  | p :: l => if k = p.1 then some p.2 else get k l
def del {α : Type} (k : Nat) : List (Nat × α) → List (Nat × α)
  | [] => []
  | p :: l => if k = p.1 then del k l else p :: del k l
section
variable {α : Type}
theorem get_ins (k j : Nat) (x : α) (l : List (Nat × α)) : get k (ins j x l) = if k = j then some x else get k l := by
  induction l with
  | nil => simp [ins, get]
  | cons p l ih =>
    simp only [ins]
    split
    · simp [get]
    · split
      · rename_i h1 h2
        subst h2
        simp only [get]
        split <;> simp_all
      · simp only [get, ih]
        by_cases h : k = p.1
        · simp only [h, if_true]
          rw [if_neg (by omega)]
        · simp [h]
theorem get_del (k j : Nat) (l : List (Nat × α)) : get k (del j l) = if k = j then none else get k l := by
  induction l with
  | nil => simp [del, get]
  | cons p l ih =>
    simp only [del]
    split
    · rename_i h; subst h
      rw [ih]; simp only [get]; split <;> simp_all
    · simp only [get, ih]
      by_cases h : k = p.1
      · simp only [h, if_true]; rw [if_neg (by omega)]
      · simp [h]
theorem ins_comm (j k : Nat) (x y : α) (h : j ≠ k) (l : List (Nat × α)) : ins j x (ins k y l) = ins k y (ins j x l) := by
  induction l with
  | nil => simp only [ins]; repeat' split
           all_goals first | rfl | omega | simp_all
  | cons p l ih =>
    simp only [ins]
    repeat' split
    all_goals (try simp only [ins])
    all_goals (repeat' split)
    all_goals (try simp_all)
    all_goals (try omega)
end
structure St where
  nt : Nat
  tm : List (Nat × D)
  bx : List (Nat × Blk)
def Blk.men (k : Nat) : Blk → Bool
  | .box cs => D.mens k cs
  | .row _ es => es.any (D.mens k)
  | .lp _ _ tm => tm.any (fun p => p.2.men k)
  | .map _ ds => D.mens k ds
  | .pmap _ _ ds => D.mens k ds
  | .pbox _ ds => D.mens k ds
def St.men (k : Nat) (σ : St) : Bool := σ.tm.any (fun p => p.2.men k) || σ.bx.any (fun p => p.2.men k)
def owned (G : Gh) (bx : List (Nat × Blk)) (b : Nat) : Prop := ∃ k x, get k bx = some x ∧ G.β k = some b
def Av (N : Nat → Prop) (G : Gh) (bx : List (Nat × Blk)) : Bool → Nat → Prop := fun bw b => owned G bx b ∨ (bw = false ∧ N b)
def RepB (w : World) (A : Bool → Nat → Prop) (G : Gh) (k : Nat) : Blk → Prop
  | .box cs => ∃ b arr E, G.β k = some b ∧ w.heap[b]? = some (.cells arr E (0, 0)) ∧ RepDs w A G cs arr.toList
  | .row n es => (∀ e ∈ es, e.length = n) ∧ ((es = [] ∧ G.β k = none ∧ G.γ k = .slice none 0 0) ∨
      ∃ b arr E cap, G.β k = some b ∧ w.heap[b]? = some (.cells arr E (0, 0)) ∧ G.γ k = .slice (some ⟨b, 0, none⟩) es.length cap ∧ es.length ≤ cap ∧
        arr.size = cap * n ∧ RepDs w A G es.flatten (arr.toList.take (es.length * n)))
  | .lp o v tm => (match o with | none => G.β k = none | some (l, r) => G.β k = some l ∧ w.heap[l]? = some (.loop r)) ∧ ∀ p ∈ tm, RepD w A G p.2 (v p.1)
  | .map ks ds => ∃ b ents clk, G.β k = some b ∧ w.heap[b]? = some (.map ents clk) ∧ ents.toList.map (·.key) = ks ∧ RepDs w A G ds (ents.toList.map (·.val))
  | .pmap l ks ds => ∃ b ents clk, (G.β k = some b ∧ b = l) ∧ w.heap[b]? = some (.map ents clk) ∧ ents.toList.map (·.key) = ks ∧ RepDs w A G ds (ents.toList.map (·.val))
  | .pbox l cs => ∃ b arr E, (G.β k = some b ∧ b = l) ∧ w.heap[b]? = some (.cells arr E (0, 0)) ∧ RepDs w A G cs arr.toList
structure Fr (O0 : Nat → Prop) (w0 w : World) : Prop where
  os : w.os = w0.os
  tape : w.tape = w0.tape
  output : w.output = w0.output
  size : w0.heap.size ≤ w.heap.size
  keep : ∀ b, b < w0.heap.size → ¬ O0 b → w.heap[b]? = w0.heap[b]?
def marks (w0 w : World) (l : List Deferred) : Prop :=
  ∃ rs : List Nat, l = rs.map (fun r => { target := .collected r, args := #[] }) ∧ rs.Nodup ∧ ∀ r ∈ rs, w.heap[r]? = some (.deferred (some [])) ∧ w0.heap.size ≤ r
structure Core [Lays] (N O0 : Nat → Prop) (w0 : World) (σ : St) (G : Gh) (a : Act) (w : World) : Prop where
  rep : ∀ k x, get k σ.bx = some x → RepB w (Av N G σ.bx) G k x
  inj : ∀ k k' x x' b, get k σ.bx = some x → get k' σ.bx = some x' → G.β k = some b → G.β k' = some b → k = k'
  own : ∀ b, owned G σ.bx b → b < w.heap.size ∧ (O0 b ∨ w0.heap.size ≤ b)
  tm : ∀ t d, get t σ.tm = some d → ∃ y, a.tmps[t]? = some y ∧ RepD w (Av N G σ.bx) G d y
  nt : a.tmps.size = σ.nt
  df : marks w0 w a.defers
  fr : Fr O0 w0 w
  nlt : ∀ b, N b → b < w0.heap.size
  odis : ∀ b, O0 b → ¬ N b
  laid : LaidA (fun b => N b ∨ O0 b) w0
theorem Core.laidA [Lays] {N O0 : Nat → Prop} {w0 : World} {σ : St} {G : Gh} {a : Act} {w : World} (h : Core N O0 w0 σ G a w) : LaidA (fun b => N b ∨ owned G σ.bx b) w := fun p hp => by
  have h1 := h.laid.keep (w' := w) h.fr.size (fun b hb hn => h.fr.keep b hb (fun ho => hn (.inr ho))) p hp
  obtain ⟨h2, h3, h4⟩ := h1
  refine ⟨h2, ?_, h4⟩
  rintro (h5 | h5)
  · exact h3 (.inl h5)
  · rcases (h.own _ h5).2 with h6 | h6
    · exact h3 (.inr h6)
    · have := (h.laid p hp).1; omega
def Inv [Lays] (N O0 : Nat → Prop) (w0 : World) (σ : St) (a : Act) (w : World) : Prop := ∃ G, Core N O0 w0 σ G a w
def okObj : Obj → Bool
  | .deferred _ => false
  | _ => true
theorem Core.cells [Lays] {N O0 : Nat → Prop} {w0 : World} {σ : St} {G : Gh} {a : Act} {w : World} (h : Core N O0 w0 σ G a w) {k : Nat} {x : Blk} {b : Nat}
    (hk : get k σ.bx = some x) (hb : G.β k = some b) : ∃ o, w.heap[b]? = some o ∧ okObj o = true := by
  have := h.rep k x hk
  cases x with
  | box cs =>
    obtain ⟨b', arr, E, hb', hh, _⟩ := this
    rw [hb] at hb'; cases hb'
    exact ⟨_, hh, rfl⟩
  | map ks ds =>
    obtain ⟨b', ents, clk, hb', hh, _⟩ := this
    rw [hb] at hb'; cases hb'
    exact ⟨_, hh, rfl⟩
  | pmap l ks ds =>
    obtain ⟨b', ents, clk, ⟨hb', _⟩, hh, _⟩ := this
    rw [hb] at hb'; cases hb'
    exact ⟨_, hh, rfl⟩
  | pbox l ds =>
    obtain ⟨b', arr, E, ⟨hb', _⟩, hh, _⟩ := this
    rw [hb] at hb'; cases hb'
    exact ⟨_, hh, rfl⟩
  | lp o v tm =>
    obtain ⟨h1, _⟩ := this
    cases o with
    | none => rw [hb] at h1; cases h1
    | some lr =>
      obtain ⟨hb', hh⟩ := h1
      rw [hb] at hb'; cases hb'
      exact ⟨_, hh, rfl⟩
  | row n es =>
    obtain ⟨_, ⟨_, hn, _⟩ | ⟨b', arr, E, cap, hb', hh, _⟩⟩ := this
    · rw [hb] at hn; cases hn
    · rw [hb] at hb'; cases hb'
      exact ⟨_, hh, rfl⟩
theorem RepB.mono {w w' : World} {A A' : Bool → Nat → Prop} {G G' : Gh} {k : Nat} (h : Keeps w w' A A') (K : Nat → Prop) (hg : ∀ k, ¬ K k → G'.β k = G.β k ∧ G'.γ k = G.γ k) (x : Blk)
    (hk : ¬ K k) (hb : ∀ b, G.β k = some b → w'.heap[b]? = w.heap[b]?) (hm : ∀ j, K j → x.men j = false) (hr : RepB w A G k x) : RepB w' A' G' k x := by
  cases x with
  | box cs =>
    obtain ⟨b, arr, E, h1, h2, h3⟩ := hr
    exact ⟨b, arr, E, by rw [(hg k hk).1]; exact h1, by rw [hb b h1]; exact h2, RepDs.mono h K hg cs _ (fun j hj => hm j hj) h3⟩
  | map ks ds =>
    obtain ⟨b, ents, clk, h1, h2, h4, h3⟩ := hr
    exact ⟨b, ents, clk, by rw [(hg k hk).1]; exact h1, by rw [hb b h1]; exact h2, h4, RepDs.mono h K hg ds _ (fun j hj => hm j hj) h3⟩
  | pmap l ks ds =>
    obtain ⟨b, ents, clk, h1, h2, h4, h3⟩ := hr
    exact ⟨b, ents, clk, by rw [(hg k hk).1]; exact h1, by rw [hb b h1.1]; exact h2, h4, RepDs.mono h K hg ds _ (fun j hj => hm j hj) h3⟩
  | pbox l ds =>
    obtain ⟨b, arr, E, h1, h2, h3⟩ := hr
    exact ⟨b, arr, E, by rw [(hg k hk).1]; exact h1, by rw [hb b h1.1]; exact h2, RepDs.mono h K hg ds _ (fun j hj => hm j hj) h3⟩
  | lp o v tm =>
    obtain ⟨h1, h3⟩ := hr
    refine ⟨?_, fun p hp => RepD.mono h K hg p.2 _ (fun j hj => ?_) (h3 p hp)⟩
    · cases o with
      | none => exact (hg k hk).1.trans h1
      | some lr => exact ⟨(hg k hk).1.trans h1.1, (hb _ h1.1).trans h1.2⟩
    · have := hm j hj
      simp only [Blk.men, List.any_eq_false] at this
      simpa using this p hp
  | row n es =>
    obtain ⟨h0, h1⟩ := hr
    refine ⟨h0, ?_⟩
    rcases h1 with ⟨h1, h2, h3⟩ | ⟨b, arr, E, cap, h1, h2, h3, h4, h5, h6⟩
    · exact .inl ⟨h1, by rw [(hg k hk).1]; exact h2, by rw [(hg k hk).2]; exact h3⟩
    · refine .inr ⟨b, arr, E, cap, by rw [(hg k hk).1]; exact h1, by rw [hb b h1]; exact h2, by rw [(hg k hk).2]; exact h3, h4, h5, RepDs.mono h K hg _ _ (fun j hj => ?_) h6⟩
      have := hm j hj
      simp only [Blk.men, List.any_eq_false] at this
      have key : ∀ l : List (List D), (∀ x ∈ l, ¬ D.mens j x = true) → D.mens j l.flatten = false := by
        intro l
        induction l with
        | nil => intro _; rfl
        | cons e l ih =>
          intro hl
          have h1 : D.mens j e = false := by simpa using hl e (by simp)
          have h2 := ih (fun x hx => hl x (by simp [hx]))
          have app : ∀ a b : List D, D.mens j a = false → D.mens j b = false → D.mens j (a ++ b) = false := by
            intro a b ha hb'
            induction a with
            | nil => exact hb'
            | cons d ds ih =>
              simp only [D.mens, Bool.or_eq_false_iff] at ha
              simp only [List.cons_append, D.mens, Bool.or_eq_false_iff]
              exact ⟨ha.1, ih ha.2⟩
          exact app e _ h1 h2
      exact key es (by simpa using this)
end Go.Dw
end
