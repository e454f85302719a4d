/- Helpers of a proof. -/
import Derived.Test.YtnbgonichmcfaaaW00
import Derived.OrdersIn
import Derived.TacticsIn
import Derived.RangeFuncLeaves
import Derived.RangeFuncRecord
import Derived.Below
import Derived.Still
import Derived.KernelRfl
import Derived.MapKept
set_option linter.unusedVariables false
set_option linter.unusedSimpArgs false
section
namespace Go.Dw
inductive C where
  | v (x : Value)
  | sl (bw : Bool) (n : Nat) (es : List (List C))
  | cl (bw : Bool) (n : Nat) (es : List (List C))
  | ro (bw : Bool) (cs : List C) (off : Nat)
  | fn (f : Fn) (fs caps : List C)
inductive D where
  | top
  | c (c : C)
  | agg (cs : List D)
  | tup (cs : List D)
  | box (k off : Nat)
  | own (k : Nat)
  | elo (k n i off : Nat)
  | win (k n lo hi : Nat)
  | fn (f : Fn) (fs caps : List D)
  | hd (k : Nat)
inductive Blk where
  | box (cs : List D)
  | row (n : Nat) (es : List (List D))
  | lp (o : Option (Nat × Loop)) (v : Nat → Value) (tm : List (Nat × D))
  | map (ks : List Value) (ds : List D)
  | pmap (l : Nat) (ks : List Value) (ds : List D)
  | pbox (l : Nat) (cs : List D)
mutual
def RepC (w : World) (A : Bool → Nat → Prop) : C → Value → Prop
  | .v x => fun y => y = x ∧ x.oneCell' = true
  | .sl bw n es => fun y => ∃ a cap, y = .slice a es.length cap ∧ es.length ≤ cap ∧
      (es = [] ∨ ∃ b off, a = some ⟨b, off, none⟩ ∧ b < w.heap.size ∧ ¬ A bw b ∧ RepEs w A n es b off)
  | .cl bw n es => fun y => ∃ a, y = .slice a es.length es.length ∧
      (es = [] ∨ ∃ b off, a = some ⟨b, off, none⟩ ∧ b < w.heap.size ∧ ¬ A bw b ∧ RepEs w A n es b off)
  | .ro bw cs off => fun y => ∃ b o, y = .pointer (some ⟨b, o + off, none⟩) ∧ b < w.heap.size ∧ ¬ A bw b ∧ RepCs w A cs b o
  | .fn f fs caps => fun y => ∃ x1 x2, y = .func f x1 x2 ∧ RepVs w A fs x1.toList ∧ RepVs w A caps x2.toList
def RepCs (w : World) (A : Bool → Nat → Prop) : List C → Nat → Nat → Prop
  | [] => fun _ _ => True
  | c :: cs => fun b o => (∃ x, w.cell? ⟨b, o, none⟩ = some x ∧ RepC w A c x) ∧ RepCs w A cs b (o + 1)
def RepEs (w : World) (A : Bool → Nat → Prop) (n : Nat) : List (List C) → Nat → Nat → Prop
  | [] => fun _ _ => True
  | e :: es => fun b o => e.length = n ∧ RepCs w A e b o ∧ RepEs w A n es b (o + n)
def RepVs (w : World) (A : Bool → Nat → Prop) : List C → List Value → Prop
  | [] => fun l => l = []
  | c :: cs => fun l => ∃ y ys, l = y :: ys ∧ RepC w A c y ∧ RepVs w A cs ys
end
structure Keeps (w w' : World) (A A' : Bool → Nat → Prop) : Prop where
  size : w.heap.size ≤ w'.heap.size
  av : ∀ bw b, b < w.heap.size → ¬ A bw b → ¬ A' bw b
  cell : ∀ bw b, b < w.heap.size → ¬ A bw b → ∀ o, w'.cell? ⟨b, o, none⟩ = w.cell? ⟨b, o, none⟩
section
variable {w w' : World} {A A' : Bool → Nat → Prop}
mutual
theorem RepC.mono (h : Keeps w w' A A') : ∀ (c : C) (y : Value), RepC w A c y → RepC w' A' c y
  | .v _, _, hr => hr
  | .sl bw n es, y, hr => by
    obtain ⟨a, cap, rfl, hc, hr⟩ := hr
    refine ⟨a, cap, rfl, hc, hr.imp id ?_⟩
    rintro ⟨b, off, rfl, hb, ha, hr⟩
    exact ⟨b, off, rfl, Nat.lt_of_lt_of_le hb h.size, h.av _ _ hb ha, RepEs.mono h n es b off bw hb ha hr⟩
  | .cl bw n es, y, hr => by
    obtain ⟨a, rfl, hr⟩ := hr
    refine ⟨a, rfl, hr.imp id ?_⟩
    rintro ⟨b, off, rfl, hb, ha, hr⟩
    exact ⟨b, off, rfl, Nat.lt_of_lt_of_le hb h.size, h.av _ _ hb ha, RepEs.mono h n es b off bw hb ha hr⟩
  | .ro bw cs off, y, hr => by
    obtain ⟨b, o, rfl, hb, ha, hr⟩ := hr
    exact ⟨b, o, rfl, Nat.lt_of_lt_of_le hb h.size, h.av _ _ hb ha, RepCs.mono h cs b o bw hb ha hr⟩
  | .fn f fs caps, y, hr => by
    obtain ⟨x1, x2, rfl, h1, h2⟩ := hr
    exact ⟨x1, x2, rfl, RepVs.mono h fs _ h1, RepVs.mono h caps _ h2⟩
theorem RepCs.mono (h : Keeps w w' A A') : ∀ (cs : List C) (b o : Nat) (bw : Bool), b < w.heap.size → ¬ A bw b → RepCs w A cs b o → RepCs w' A' cs b o
  | [], _, _, _, _, _, _ => trivial
  | c :: cs, b, o, bw, hb, ha, hr => by
    obtain ⟨⟨x, hx, hc⟩, hr⟩ := hr
    exact ⟨⟨x, by rw [h.cell bw b hb ha]; exact hx, RepC.mono h c x hc⟩, RepCs.mono h cs b (o + 1) bw hb ha hr⟩
theorem RepEs.mono (h : Keeps w w' A A') : ∀ (n : Nat) (es : List (List C)) (b o : Nat) (bw : Bool), b < w.heap.size → ¬ A bw b → RepEs w A n es b o → RepEs w' A' n es b o
  | _, [], _, _, _, _, _, _ => trivial
  | n, e :: es, b, o, bw, hb, ha, hr => by
    obtain ⟨h1, h2, h3⟩ := hr
    exact ⟨h1, RepCs.mono h e b o bw hb ha h2, RepEs.mono h n es b (o + n) bw hb ha h3⟩
theorem RepVs.mono (h : Keeps w w' A A') : ∀ (cs : List C) (l : List Value), RepVs w A cs l → RepVs w' A' cs l
  | [], _, hr => hr
  | c :: cs, l, hr => by
    obtain ⟨y, ys, rfl, h1, h2⟩ := hr
    exact ⟨y, ys, rfl, RepC.mono h c y h1, RepVs.mono h cs ys h2⟩
end
end
class Lays where
  l : List (Nat × List Value)
def LaidA [Lays] (A : Nat → Prop) (w : World) : Prop := ∀ p ∈ Lays.l, p.1 < w.heap.size ∧ ¬ A p.1 ∧ ∀ j v, p.2[j]? = some v → w.cell? ⟨p.1, j, none⟩ = some v ∧ v.oneCell' = true
theorem LaidA.sub [Lays] {A A' : Nat → Prop} {w : World} (h : LaidA A w) (hs : ∀ b, A' b → A b) : LaidA A' w := fun p hp =>
  let ⟨h1, h2, h3⟩ := h p hp
  ⟨h1, fun h => h2 (hs _ h), h3⟩
theorem LaidA.keep [Lays] {A : Nat → Prop} {w w' : World} (h : LaidA A w) (hsz : w.heap.size ≤ w'.heap.size) (hk : ∀ b, b < w.heap.size → ¬ A b → w'.heap[b]? = w.heap[b]?) : LaidA A w' := fun p hp => by
  obtain ⟨h1, h2, h3⟩ := h p hp
  refine ⟨Nat.lt_of_lt_of_le h1 hsz, h2, fun j v hj => ?_⟩
  obtain ⟨h4, h5⟩ := h3 j v hj
  refine ⟨?_, h5⟩
  rw [← h4]
  unfold World.cell?
  simp only [hk _ h1 h2]
theorem LaidA.keepC [Lays] {A : Nat → Prop} {w w' : World} (h : LaidA A w) (hsz : w.heap.size ≤ w'.heap.size) (hk : ∀ b o, w'.cell? ⟨b, o, none⟩ = w.cell? ⟨b, o, none⟩) : LaidA A w' := fun p hp => by
  obtain ⟨h1, h2, h3⟩ := h p hp
  exact ⟨Nat.lt_of_lt_of_le h1 hsz, h2, fun j v hj => ⟨by rw [hk]; exact (h3 j v hj).1, (h3 j v hj).2⟩⟩
structure Gh where
  β : Nat → Option Nat
  γ : Nat → Value
mutual
def RepD (w : World) (A : Bool → Nat → Prop) (G : Gh) : D → Value → Prop
  | .top => fun _ => True
  | .c c => RepC w A c
  | .agg cs => fun y => ∃ ys, y = .agg ys ∧ RepDs w A G cs ys.toList
  | .tup cs => fun y => ∃ ys, y = .tuple ys ∧ RepDs w A G cs ys.toList
  | .box k off => fun y => ∃ b, G.β k = some b ∧ y = .pointer (some ⟨b, off, none⟩)
  | .own k => fun y => y = G.γ k ∧ ∃ a l c, y = .slice a l c
  | .elo k n i off => fun y => ∃ b, G.β k = some b ∧ y = .pointer (some ⟨b, i * n + off, none⟩)
  | .win k n lo hi => fun y => ∃ a l c, G.γ k = .slice a l c ∧ lo ≤ hi ∧ hi ≤ l ∧ y = .slice (if c = lo then a else a.map (·.add (lo * n))) (hi - lo) (c - lo)
  | .fn f fs caps => fun y => ∃ x1 x2, y = .func f x1 x2 ∧ RepDs w A G fs x1.toList ∧ RepDs w A G caps x2.toList
  | .hd k => fun y => ∃ b, G.β k = some b ∧ y = .map (some b)
def RepDs (w : World) (A : Bool → Nat → Prop) (G : Gh) : List D → List Value → Prop
  | [] => fun l => l = []
  | c :: cs => fun l => ∃ y ys, l = y :: ys ∧ RepD w A G c y ∧ RepDs w A G cs ys
end
mutual
def D.men (k : Nat) : D → Bool
  | .top => false
  | .c _ => false
  | .agg cs => D.mens k cs
  | .tup cs => D.mens k cs
  | .box k' _ => k' == k
  | .own k' => k' == k
  | .elo k' _ _ _ => k' == k
  | .win k' _ _ _ => k' == k
  | .fn _ fs caps => D.mens k fs || D.mens k caps
  | .hd k' => k' == k
def D.mens (k : Nat) : List D → Bool
  | [] => false
  | d :: ds => D.men k d || D.mens k ds
end
section
variable {w w' : World} {A A' : Bool → Nat → Prop} {G G' : Gh}
mutual
theorem RepD.mono (h : Keeps w w' A A') (K : Nat → Prop) (hg : ∀ k, ¬ K k → G'.β k = G.β k ∧ G'.γ k = G.γ k) : ∀ (d : D) (y : Value), (∀ k, K k → d.men k = false) → RepD w A G d y → RepD w' A' G' d y
  | .top, _, _, _ => trivial
  | .c c, y, _, hr => RepC.mono h c y hr
  | .agg cs, y, hm, hr => by
    obtain ⟨ys, rfl, hr⟩ := hr
    exact ⟨ys, rfl, RepDs.mono h K hg cs _ (fun k hk => by simpa [D.men] using hm k hk) hr⟩
  | .tup cs, y, hm, hr => by
    obtain ⟨ys, rfl, hr⟩ := hr
    exact ⟨ys, rfl, RepDs.mono h K hg cs _ (fun k hk => by simpa [D.men] using hm k hk) hr⟩
  | .box k off, y, hm, hr => by
    obtain ⟨b, hb, rfl⟩ := hr
    have : ¬ K k := fun hk => by have := hm k hk; simp [D.men] at this
    exact ⟨b, by rw [(hg k this).1]; exact hb, rfl⟩
  | .own k, y, hm, hr => by
    have : ¬ K k := fun hk => by have := hm k hk; simp [D.men] at this
    exact ⟨by rw [(hg k this).2]; exact hr.1, hr.2⟩
  | .elo k n i off, y, hm, hr => by
    obtain ⟨b, hb, rfl⟩ := hr
    have : ¬ K k := fun hk => by have := hm k hk; simp [D.men] at this
    exact ⟨b, by rw [(hg k this).1]; exact hb, rfl⟩
  | .win k n lo hi, y, hm, hr => by
    have : ¬ K k := fun hk => by have := hm k hk; simp [D.men] at this
    obtain ⟨a, l, c, h1, h2⟩ := hr
    exact ⟨a, l, c, by rw [(hg k this).2]; exact h1, h2⟩
  | .fn f fs caps, y, hm, hr => by
    obtain ⟨x1, x2, rfl, h1, h2⟩ := hr
    exact ⟨x1, x2, rfl, RepDs.mono h K hg fs _ (fun k hk => by have := hm k hk; simp [D.men] at this; exact this.1) h1,
      RepDs.mono h K hg caps _ (fun k hk => by have := hm k hk; simp [D.men] at this; exact this.2) h2⟩
  | .hd k, y, hm, hr => by
    obtain ⟨b, hb, rfl⟩ := hr
    have : ¬ K k := fun hk => by have := hm k hk; simp [D.men] at this
    exact ⟨b, by rw [(hg k this).1]; exact hb, rfl⟩
theorem RepDs.mono (h : Keeps w w' A A') (K : Nat → Prop) (hg : ∀ k, ¬ K k → G'.β k = G.β k ∧ G'.γ k = G.γ k) : ∀ (ds : List D) (ys : List Value), (∀ k, K k → D.mens k ds = false) → RepDs w A G ds ys → RepDs w' A' G' ds ys
  | [], _, _, hr => hr
  | d :: ds, l, hm, hr => by
    obtain ⟨y, ys, rfl, h1, h2⟩ := hr
    exact ⟨y, ys, rfl, RepD.mono h K hg d y (fun k hk => by have := hm k hk; simp [D.mens] at this; exact this.1) h1,
      RepDs.mono h K hg ds ys (fun k hk => by have := hm k hk; simp [D.mens] at this; exact this.2) h2⟩
end
theorem RepD.keep (h : Keeps w w' A A') (d : D) (y : Value) (hr : RepD w A G d y) : RepD w' A' G d y :=
  RepD.mono h (fun _ => False) (fun _ _ => ⟨rfl, rfl⟩) d y (fun _ h => h.elim) hr
theorem RepDs.keep (h : Keeps w w' A A') (d : List D) (y : List Value) (hr : RepDs w A G d y) : RepDs w' A' G d y :=
  RepDs.mono h (fun _ => False) (fun _ _ => ⟨rfl, rfl⟩) d y (fun _ h => h.elim) hr
end
end Go.Dw
end
