/- The law TopBoardCloses returns true for every input, and changes nothing that was there before: the full statement TopBoardClosesSaid, without conditions. -/
import Derived.Test.YtnbgonichmcfaaaB01
import GoSem.ClaimData
import Derived.Test.YtnbgonichmcfaaaRows
import Derived.ProofKit
import Derived.OpenShut
set_option linter.unusedVariables false
set_option linter.unusedSimpArgs false
section
set_option linter.unusedSimpArgs false
set_option maxRecDepth 100000
namespace Go.Dw.Seat
open Go Go.Dw Go.Proofs Go.IntWalk
structure BkG (s : Wsh) (c : Int × Int) : Prop where
 l : (bkL s c).1 ≤ (bkL s c).2
 w : (bkW s c).1 ≤ (bkW s c).2
 h : (bkH s c).1 ≤ (bkH s c).2
 q : (bkQ s c).isSome = true
 p : (bkP s c).isSome = true
theorem bk_good {w : Wsh} {c : Int × Int} {tab : Int} (h : BkG w c) : bkR0 w c tab = bkR5 w c tab := by
 obtain ⟨h1, h2, h3, h4, h5⟩ := h
 unfold bkR0 bkR1 bkR2 bkR3 bkR4
 rw [if_neg (by omega), if_neg (by omega), if_neg (by omega), if_neg (by rw [h4]; decide), if_neg (by rw [h5]; decide)]
theorem bkAt_b (o : Bool) : 5 ≤ bkAt o ∧ bkAt o ≤ 7 := by cases o <;> decide
theorem bk_cases (w : Wsh) (c : Int × Int) (tab : Int) : (∃ k : Int, 0 ≤ k ∧ k ≤ 9 ∧ bkR0 w c tab = failD k) ∨ BkG w c := by
 have ha := bkAt_b w.op
 by_cases h1 : (bkL w c).2 < (bkL w c).1
 ·exact .inl ⟨0, by decide, by decide, by unfold bkR0; rw [if_pos h1]⟩
 by_cases h2 : (bkW w c).2 < (bkW w c).1
 ·exact .inl ⟨1, by decide, by decide, by unfold bkR0 bkR1; rw [if_neg h1, if_pos h2]⟩
 by_cases h3 : (bkH w c).2 < (bkH w c).1
 ·exact .inl ⟨4, by decide, by decide, by unfold bkR0 bkR1 bkR2; rw [if_neg h1, if_neg h2, if_pos h3]⟩
 by_cases h4 : (bkQ w c).isSome = false
 ·exact .inl ⟨bkAt w.op, by omega, by omega, by unfold bkR0 bkR1 bkR2 bkR3; rw [if_neg h1, if_neg h2, if_neg h3, if_pos h4]⟩
 by_cases h5 : (bkP w c).isSome = false
 ·exact .inl ⟨bkAt w.op + 1, by omega, by omega, by unfold bkR0 bkR1 bkR2 bkR3 bkR4; rw [if_neg h1, if_neg h2, if_neg h3, if_neg h4, if_pos h5]⟩
 exact .inr ⟨by omega, by omega, by omega, Bool.of_not_eq_false h4, Bool.of_not_eq_false h5⟩
theorem scBlankNo (w : Wsh) (hw : w.ok) (c : Int × Int) (hcal : calOk c) (tab : Int) (ht : 0 ≤ tab ∧ tab ≤ 100) (k : Int) (hk : bkR0 w c tab = failD k) : DCall Try.prog 14 [.agg (wshL w), .agg [dI c.1, dI c.2], dI tab] [] (failD k) [] := by
 have h1 := scWish w hw
 have h2 := scChecked true c hcal
 have h3 := scIn true 0 100 [tab] (by simp) (by simpa using ht)
 have h4 := scMkBlank w hw c hcal tab ht
 rw [hk] at h4
 refine DCall.of Try.func14 sf14 hb14 (Nat.le_of_ble_eq_true rfl) (okRes_nil fun _ => rfl) ?_; simp only [s14, idxs, Nat.reduceAdd]
 repeat' (first|(with_reducible first|apply qA|apply qB|apply qC|apply qD|apply qE|apply qF)|(simp (disch:=omega) only [go_sem, simprocAttr, qN, qO, qP, qQ])|exact qM rfl rfl rfl|(refine qG rfl ?_)|(refine qK (h1) (by decide) ?_)|(refine qK (h2) (by decide) ?_)|(refine qK (h3) (by decide) ?_)|(refine qK (h4) (by decide) ?_)|(refine qH rfl ?_)|(refine qI rfl ?_ ?_<;>intro hc<;>(try simp only [go_sem] at hc))|(refine qJ ?_ ?_<;>intro hc<;>(try simp only [hc])<;>(try simp only [go_sem] at hc)))
theorem scBlankOk (w : Wsh) (hw : w.ok) (c : Int × Int) (hcal : calOk c) (tab : Int) (ht : 0 ≤ tab ∧ tab ≤ 100) (hg : BkG w c) (z : Bla) (hz : bkZ w c tab (prI (bkP w c)) (prI (bkQ w c)) = z) : DCall Try.prog 14 [.agg (wshL w), .agg [dI c.1, dI c.2], dI tab] [] (.tup [.agg (bloL z w.op), dI 0, dI 0]) [] := by
 have h1 := scWish w hw
 have h2 := scChecked true c hcal
 have h3 := scIn true 0 100 [tab] (by simp) (by simpa using ht)
 have h4 := scMkBlank w hw c hcal tab ht
 rw [bk_good hg, bkR5, hz] at h4
 refine DCall.of Try.func14 sf14 hb14 (Nat.le_of_ble_eq_true rfl) (okRes_nil fun _ => rfl) ?_; simp only [s14, idxs, Nat.reduceAdd]
 repeat' (first|(with_reducible first|apply qA|apply qB|apply qC|apply qD|apply qE|apply qF)|(simp (disch:=omega) only [go_sem, simprocAttr, qN, qO, qP, qQ])|exact qM rfl rfl rfl|(refine qG rfl ?_)|(refine qK (h1) (by decide) ?_)|(refine qK (h2) (by decide) ?_)|(refine qK (h3) (by decide) ?_)|(refine qK (h4) (by decide) ?_)|(refine qH rfl ?_)|(refine qI rfl ?_ ?_<;>intro hc<;>(try simp only [go_sem] at hc))|(refine qJ ?_ ?_<;>intro hc<;>(try simp only [hc])<;>(try simp only [go_sem] at hc)))
theorem pnlS_spec {c g : Int × Int} {hi : Int} : ∀ {f : Nat} {p : Int} {r : Int × Int}, pnlS c g hi f p = some r → p ≤ r.1 ∧ r.1 ≤ hi ∧ (flpF c r.1 g).1 ≤ (flpF c r.1 g).2 ∧ r.2 = (flpF c r.1 g).1
 | 0, p, r, h => by cases h
 | f + 1, p, r, h => by
  rw [pnlS] at h
  split at h
  ·split at h
   ·rename_i h1 h2
    cases h
    exact ⟨Int.le_refl _, h1, h2, rfl⟩
   ·have := pnlS_spec h
    exact ⟨by omega, this.2⟩
  ·cases h
theorem pnlS_some {c g : Int × Int} {hi : Int} : ∀ (f : Nat) (p a : Int), p ≤ a → a ≤ hi → a < p + (f : Int) → (flpF c a g).1 ≤ (flpF c a g).2 → (pnlS c g hi f p).isSome = true
 | 0, p, a, h1, _, h3, _ => by omega
 | f + 1, p, a, h1, h2, h3, h4 => by
  rw [pnlS, if_pos (by omega)]
  split
  ·rfl
  ·rename_i h
   by_cases hpa : p = a
   ·subst hpa; exact absurd h4 h
   ·exact pnlS_some f (p + 1) a (by omega) h2 (by omega) h4
theorem pnl_get {c l g : Int × Int} (h : (pnlF c l g).isSome = true) : l.1 ≤ (prI (pnlF c l g)).1 ∧ (prI (pnlF c l g)).1 ≤ l.2 ∧ (flpF c (prI (pnlF c l g)).1 g).1 ≤ (flpF c (prI (pnlF c l g)).1 g).2 ∧ (prI (pnlF c l g)).2 = (flpF c (prI (pnlF c l g)).1 g).1 := by
 cases hp : pnlF c l g with
 | none => rw [hp] at h; cases h
 | some r => exact pnlS_spec hp
structure BkN (w : Wsh) (c : Int × Int) (z : Bla) : Prop where
 p0 : (bkL w c).1 ≤ z.p0 ∧ z.p0 ≤ (bkL w c).2
 p1 : (bkW w c).1 ≤ z.p1 ∧ z.p1 ≤ (bkW w c).2
 p2 : z.p2 = (bkL w c).1
 p3 : z.p3 = (bkW w c).1
 h : z.height = (bkH w c).1
 t0 : z.t0 = if w.op then 0 else z.b0
 t1 : z.t1 = if w.op then 0 else z.b1
 b0 : (flpF c z.p1 w.o).1 ≤ (flpF c z.p1 w.o).2 ∧ z.b0 = (flpF c z.p1 w.o).1
 b1 : (flpF c z.p0 w.i).1 ≤ (flpF c z.p0 w.i).2 ∧ z.b1 = (flpF c z.p0 w.i).1
 slot : z.slot = upQ c.2 1000
theorem bk_known {w : Wsh} {c : Int × Int} (hg : BkG w c) (tab : Int) : BkN w c (bkZ w c tab (prI (bkP w c)) (prI (bkQ w c))) := by
 have h1 := pnl_get (show (pnlF c (bkL w c) w.i).isSome = true from hg.p)
 have h2 := pnl_get (show (pnlF c (bkW w c) w.o).isSome = true from hg.q)
 exact ⟨⟨h1.1, h1.2.1⟩, ⟨h2.1, h2.2.1⟩, rfl, rfl, rfl, rfl, rfl, h2.2.2, h1.2.2, rfl⟩
theorem bk_ok {w : Wsh} {c : Int × Int} (hc : calOk c) (hg : BkG w c) {tab : Int} (ht : 0 ≤ tab ∧ tab ≤ 100) {z : Bla} (hk : BkN w c z) (htab : z.tab = tab) : z.ok := by
 obtain ⟨k1, k2, k3, k4, k5, k6, k7, k8, k9, k10⟩ := hk
 obtain ⟨g1, g2, g3, g4, g5⟩ := hg
 obtain ⟨c1, c2, c3⟩ := hc
 have f : ∀ p g, 0 ≤ (flpF c p g).1 ∧ (flpF c p g).2 ≤ 3000 := fun p g => ⟨Int.le_max_left _ _, Int.min_le_left _ _⟩
 have f1 := f z.p1 w.o
 have f2 := f z.p0 w.i
 have b1 : 1 ≤ (bkL w c).1 ∧ (bkL w c).2 ≤ 3000 := vld_b _
 have b2 : 1 ≤ (bkW w c).1 ∧ (bkW w c).2 ≤ 3000 := vld_b _
 have b3 : 1 ≤ (bkH w c).1 ∧ (bkH w c).2 ≤ 3000 := vld_b _
 unfold upQ at k10
 refine ⟨by omega, by omega, by omega, by omega, by omega, by omega, ?_, ?_, by omega, by omega, by omega⟩
 ·rw [k6]; split <;> omega
 ·rw [k7]; split <;> omega
theorem bk_all {w : Wsh} {c : Int × Int} (hc : calOk c) (hg : BkG w c) {z : Bla} (hk : BkN w c z) : AllH z w c := by
 obtain ⟨k1, k2, k3, k4, k5, k6, k7, k8, k9, k10⟩ := hk
 obtain ⟨g1, g2, g3, g4, g5⟩ := hg
 obtain ⟨c1, c2, c3⟩ := hc
 have len1 : ∀ (s : Int × Int) (n : Int), (vldF (lenF c s 1)).1 ≤ n → n ≤ (vldF (lenF c s 1)).2 → (amgF (n, 1) s).1 ≤ c.1 ∧ c.2 ≤ (amgF (n, 1) s).2 := by
  intro s n h1 h2
  unfold vldF lenF at h1 h2
  unfold amgF
  unfold upQ at *
  dsimp only at h1 h2 ⊢
  omega
 have len2 : ∀ (s : Int × Int) (n : Int), (vldF (lenF c s 2)).1 ≤ n → n ≤ (vldF (lenF c s 2)).2 → (amgF (n, 2) s).1 ≤ c.1 ∧ c.2 ≤ (amgF (n, 2) s).2 := by
  intro s n h1 h2
  unfold vldF lenF at h1 h2
  unfold amgF
  unfold upQ at *
  dsimp only at h1 h2 ⊢
  omega
 have gap : ∀ (s : Int × Int) (p f : Int), (flpF c p s).1 ≤ (flpF c p s).2 → f = (flpF c p s).1 → (amgF (p - 2 * f, 1) s).1 ≤ c.1 ∧ c.2 ≤ (amgF (p - 2 * f, 1) s).2 := by
  intro s p f h1 h2
  unfold flpF lenF at h1 h2
  unfold amgF
  unfold upQ at *
  dsimp only at h1 h2 ⊢
  omega
 intro k hk9
 rcases (by omega : k = 0 ∨ k = 1 ∨ k = 2 ∨ k = 3 ∨ k = 4 ∨ k = 5 ∨ k = 6 ∨ k = 7 ∨ k = 8 ∨ k = 9) with rfl | rfl | rfl | rfl | rfl | rfl | rfl | rfl | rfl | rfl
 ·exact len1 w.l z.p0 k1.1 k1.2
 ·exact len1 w.w z.p1 k2.1 k2.2
 ·show (amgF (z.p2, 1) w.l).1 ≤ c.1 ∧ c.2 ≤ (amgF (z.p2, 1) w.l).2
  rw [k3]
  exact len1 w.l _ (Int.le_refl _) g1
 ·show (amgF (z.p3, 1) w.w).1 ≤ c.1 ∧ c.2 ≤ (amgF (z.p3, 1) w.w).2
  rw [k4]
  exact len1 w.w _ (Int.le_refl _) g2
 ·show (amgF (z.height, foldN w.op) w.h).1 ≤ c.1 ∧ c.2 ≤ (amgF (z.height, foldN w.op) w.h).2
  rw [k5]
  unfold bkH at *
  cases hop : w.op with
  | true =>
   rw [hop] at g3
   exact len1 w.h _ (Int.le_refl _) g3
  | false =>
   rw [hop] at g3
   exact len2 w.h _ (Int.le_refl _) g3
 ·show (if w.op then ((1 : Int), (10000 : Int)) else amgF (z.p1 - 2 * z.t0, 1) w.o).1 ≤ _ ∧ _ ≤ (if w.op then ((1 : Int), (10000 : Int)) else amgF (z.p1 - 2 * z.t0, 1) w.o).2
  rw [k6]
  cases hop : w.op with
  | true => exact ⟨c1, c3⟩
  | false => exact gap w.o z.p1 z.b0 k8.1 k8.2
 ·show (if w.op then ((1 : Int), (10000 : Int)) else amgF (z.p0 - 2 * z.t1, 1) w.i).1 ≤ _ ∧ _ ≤ (if w.op then ((1 : Int), (10000 : Int)) else amgF (z.p0 - 2 * z.t1, 1) w.i).2
  rw [k7]
  cases hop : w.op with
  | true => exact ⟨c1, c3⟩
  | false => exact gap w.i z.p0 z.b1 k9.1 k9.2
 ·exact gap w.o z.p1 z.b0 k8.1 k8.2
 ·exact gap w.i z.p0 z.b1 k9.1 k9.2
 ·show max 1 1 ≤ c.1 ∧ c.2 ≤ min 10000 (1000 * z.slot)
  rw [k10]
  unfold upQ
  omega
theorem all_sub {z : Bla} {w : Wsh} {c : Int × Int} (h : AllH z w c) {t : Int} (ht : c.1 ≤ t ∧ t ≤ c.2) : AllH z w (t, t) := fun k hk => by
 have := h k hk
 exact ⟨by show _ ≤ t; omega, by show t ≤ _; omega⟩
theorem bk_sub {w : Wsh} {c : Int × Int} (hc : calOk c) (hg : BkG w c) {t : Int} (ht : c.1 ≤ t ∧ t ≤ c.2) : BkG w (t, t) := by
 have hk := bk_known hg 0
 obtain ⟨k1, k2, k3, k4, k5, k6, k7, k8, k9, k10⟩ := hk
 generalize bkZ w c 0 (prI (bkP w c)) (prI (bkQ w c)) = z at *
 obtain ⟨g1, g2, g3, g4, g5⟩ := hg
 obtain ⟨c1, c2, c3⟩ := hc
 have le1 : ∀ s : Int × Int, (vldF (lenF (t, t) s 1)).1 ≤ (vldF (lenF c s 1)).1 ∧ (vldF (lenF c s 1)).2 ≤ (vldF (lenF (t, t) s 1)).2 := by
  intro s
  unfold vldF lenF upQ
  dsimp only
  omega
 have le2 : ∀ s : Int × Int, (vldF (lenF (t, t) s 2)).1 ≤ (vldF (lenF c s 2)).1 ∧ (vldF (lenF c s 2)).2 ≤ (vldF (lenF (t, t) s 2)).2 := by
  intro s
  unfold vldF lenF upQ
  dsimp only
  omega
 have fl : ∀ (s : Int × Int) (p : Int), (flpF c p s).1 ≤ (flpF c p s).2 → (flpF (t, t) p s).1 ≤ (flpF (t, t) p s).2 := by
  intro s p
  unfold flpF lenF upQ
  dsimp only
  omega
 have a1 := le1 w.l
 have a2 := le1 w.w
 have b1 := (vld_b (lenF (t, t) w.l 1))
 have b2 := (vld_b (lenF (t, t) w.w 1))
 have e1 : bkL w c = vldF (lenF c w.l 1) := rfl
 have e2 : bkW w c = vldF (lenF c w.w 1) := rfl
 rw [e1] at g1 k1
 rw [e2] at g2 k2
 refine ⟨?_, ?_, ?_, ?_, ?_⟩
 ·show (vldF (lenF (t, t) w.l 1)).1 ≤ (vldF (lenF (t, t) w.l 1)).2
  omega
 ·show (vldF (lenF (t, t) w.w 1)).1 ≤ (vldF (lenF (t, t) w.w 1)).2
  omega
 ·unfold bkH at *
  cases hop : w.op with
  | true =>
   rw [hop] at g3
   have a3 := le1 w.h
   show (vldF (lenF (t, t) w.h 1)).1 ≤ (vldF (lenF (t, t) w.h 1)).2
   have g3 : (vldF (lenF c w.h 1)).1 ≤ (vldF (lenF c w.h 1)).2 := g3
   omega
  | false =>
   rw [hop] at g3
   have a3 := le2 w.h
   show (vldF (lenF (t, t) w.h 2)).1 ≤ (vldF (lenF (t, t) w.h 2)).2
   have g3 : (vldF (lenF c w.h 2)).1 ≤ (vldF (lenF c w.h 2)).2 := g3
   omega
 ·exact pnlS_some 3002 _ z.p1 (by show (vldF (lenF (t, t) w.w 1)).1 ≤ _; omega) (by show _ ≤ (vldF (lenF (t, t) w.w 1)).2; omega) (by show _ < (vldF (lenF (t, t) w.w 1)).1 + _; omega) (fl w.o z.p1 k8.1)
 ·exact pnlS_some 3002 _ z.p0 (by show (vldF (lenF (t, t) w.l 1)).1 ≤ _; omega) (by show _ ≤ (vldF (lenF (t, t) w.l 1)).2; omega) (by show _ < (vldF (lenF (t, t) w.l 1)).1 + _; omega) (fl w.i z.p0 k9.1)
end Go.Dw.Seat
end
section
set_option linter.unusedSimpArgs false
set_option maxRecDepth 100000
namespace Go.Dw.Seat
open Go Go.Dw Go.Proofs Go.IntWalk
structure RSt where
 num : Int
 den : Int
 tail : Int
 rolls : List (Int × Int)
structure RSt.ok (s : RSt) : Prop where
 den : 1 ≤ s.den ∧ s.den ≤ 10000
 num : s.den ≤ s.num ∧ s.num ≤ 2 * s.den
 tail : 0 ≤ s.tail ∧ s.tail ≤ 10000
 len : s.rolls.length ≤ 6
 rolls : ∀ r ∈ s.rolls, s.tail + 1 ≤ r.1 ∧ r.1 ≤ r.2 ∧ r.2 ≤ 10000000
end Go.Dw.Seat
end
section
set_option linter.unusedSimpArgs false
set_option maxRecDepth 100000
namespace Go.Dw.Seat
open Go Go.Dw Go.Proofs Go.IntWalk
def wTops (m : Nat) : List D := List.replicate m .top
structure M9 where
 a : Int
 b : Int
 c : Int
 d : Int
 e : Int
 f : Int
 g : Int
 h : Int
 i : Int
theorem wT_men (k m : Nat) : D.mens k (wTops m) = false := by
 induction m with
 | zero => rfl
 | succ m ih => exact ih
theorem wT_keys (bx : List (Nat × Blk)) (m : Nat) : D.keysIns bx (wTops m) = true := by
 induction m with
 | zero => rfl
 | succ m ih => exact ih
theorem wT_kill (k : Nat) : ∀ m : Nat, (wTops m).map (killD k) = wTops m := fun m => map_killD_of (wT_men k m)
attribute [go_sem] wT_men wT_keys wT_kill
def stp (M : M9) : Nat → Nat → Nat → M9
 | 0, 0, 0 => { M with a := if M.a + M.a < M.a then M.a + M.a else M.a }
 | 0, 0, 1 => { M with b := if M.a + M.b < M.b then M.a + M.b else M.b }
 | 0, 0, 2 => { M with c := if M.a + M.c < M.c then M.a + M.c else M.c }
 | 0, 1, 0 => { M with d := if M.d + M.a < M.d then M.d + M.a else M.d }
 | 0, 1, 1 => { M with e := if M.d + M.b < M.e then M.d + M.b else M.e }
 | 0, 1, 2 => { M with f := if M.d + M.c < M.f then M.d + M.c else M.f }
 | 0, 2, 0 => { M with g := if M.g + M.a < M.g then M.g + M.a else M.g }
 | 0, 2, 1 => { M with h := if M.g + M.b < M.h then M.g + M.b else M.h }
 | 0, 2, 2 => { M with i := if M.g + M.c < M.i then M.g + M.c else M.i }
 | 1, 0, 0 => { M with a := if M.b + M.d < M.a then M.b + M.d else M.a }
 | 1, 0, 1 => { M with b := if M.b + M.e < M.b then M.b + M.e else M.b }
 | 1, 0, 2 => { M with c := if M.b + M.f < M.c then M.b + M.f else M.c }
 | 1, 1, 0 => { M with d := if M.e + M.d < M.d then M.e + M.d else M.d }
 | 1, 1, 1 => { M with e := if M.e + M.e < M.e then M.e + M.e else M.e }
 | 1, 1, 2 => { M with f := if M.e + M.f < M.f then M.e + M.f else M.f }
 | 1, 2, 0 => { M with g := if M.h + M.d < M.g then M.h + M.d else M.g }
 | 1, 2, 1 => { M with h := if M.h + M.e < M.h then M.h + M.e else M.h }
 | 1, 2, 2 => { M with i := if M.h + M.f < M.i then M.h + M.f else M.i }
 | 2, 0, 0 => { M with a := if M.c + M.g < M.a then M.c + M.g else M.a }
 | 2, 0, 1 => { M with b := if M.c + M.h < M.b then M.c + M.h else M.b }
 | 2, 0, 2 => { M with c := if M.c + M.i < M.c then M.c + M.i else M.c }
 | 2, 1, 0 => { M with d := if M.f + M.g < M.d then M.f + M.g else M.d }
 | 2, 1, 1 => { M with e := if M.f + M.h < M.e then M.f + M.h else M.e }
 | 2, 1, 2 => { M with f := if M.f + M.i < M.f then M.f + M.i else M.f }
 | 2, 2, 0 => { M with g := if M.i + M.g < M.g then M.i + M.g else M.g }
 | 2, 2, 1 => { M with h := if M.i + M.h < M.h then M.i + M.h else M.h }
 | 2, 2, 2 => { M with i := if M.i + M.i < M.i then M.i + M.i else M.i }
 | _, _, _ => M
def bnd (x : Int) : Prop := -100000000000000 ≤ x ∧ x ≤ 100000000000000
structure M9.ok (M : M9) : Prop where
 a : bnd M.a
 b : bnd M.b
 c : bnd M.c
 d : bnd M.d
 e : bnd M.e
 f : bnd M.f
 g : bnd M.g
 h : bnd M.h
 i : bnd M.i
def M9.okB (M : M9) : Bool := [M.a, M.b, M.c, M.d, M.e, M.f, M.g, M.h, M.i].all fun x => decide (-100000000000000 ≤ x) && decide (x ≤ 100000000000000)
end Go.Dw.Seat
end
section
set_option linter.unusedSimpArgs false
set_option maxRecDepth 100000
namespace Go.Dw.Seat
open Go Go.Dw Go.Proofs Go.IntWalk
def eSn (x : Int × Int × Int) : List C := [.v (.int .i64 x.1), .v (.int .i64 x.2.1), .v (.int .i64 x.2.2)]
attribute [go_sem] eSn
end Go.Dw.Seat
end
section
set_option linter.unusedSimpArgs false
set_option maxRecDepth 100000
namespace Go.Dw.Seat
open Go Go.Dw Go.Proofs Go.IntWalk
structure T2 where
 v0 : Nat
 v1 : Nat
structure T2.ok (v : T2) : Prop where
 v0 : v.v0 < 256
 v1 : v.v1 < 256
def e2t (v : T2) : List C := [.v (.int .u8 v.v0), .v (.int .u8 v.v1)]
attribute [go_sem] e2t
structure ReelY where
 tail : Nat
 rolls : List T2
structure ReelY.ok (y : ReelY) : Prop where
 tail : y.tail < 256
 rolls : ∀ v ∈ y.rolls, v.ok
end Go.Dw.Seat
end
section
set_option linter.unusedSimpArgs false
set_option maxRecDepth 100000
namespace Go.Dw.Seat
open Go Go.Dw Go.Proofs Go.IntWalk
theorem wSto_strong {x : War} (h : x.ok) : ∀ p ∈ (wSto x).papers, 0 ≤ p.strong ∧ p.strong ≤ 2550 := by
 intro p hp
 obtain ⟨i, hi, rfl⟩ := List.mem_map.1 hp
 rw [List.mem_range] at hi
 have := (papV_ok h (i := i) (by unfold nPap at hi; omega)).v5
 show 0 ≤ 10 * ((papV x i).v5 : Int) ∧ 10 * ((papV x i).v5 : Int) ≤ 2550
 omega
end Go.Dw.Seat
end
section
set_option linter.unusedSimpArgs false
set_option maxRecDepth 100000
namespace Go.Dw.Seat
open Go Go.Dw Go.Proofs Go.IntWalk
structure SmallS (s : Sto) : Prop where
 th : ∀ p ∈ s.papers, p.th ≤ 336
 hh : ∀ f ∈ s.flutes, f.hh ≤ 3139
 weight : ∀ p ∈ s.papers, p.weight ≤ 305
 moist : ∀ p ∈ s.papers, p.mh ≤ 114
 strong : ∀ p ∈ s.papers, 0 ≤ p.strong ∧ p.strong ≤ 2550
theorem wSto_small {x : War} (h : x.ok) : SmallS (wSto x) := by
 have key : ∀ p ∈ (wSto x).papers, ∃ (v : V6) (i : Nat), v.ok ∧ p = papOf i v := by
  intro p hp
  obtain ⟨i, hi, rfl⟩ := List.mem_map.1 hp
  rw [List.mem_range] at hi
  exact ⟨_, i, papV_ok h (by unfold nPap at hi; omega), rfl⟩
 refine ⟨fun p hp => ?_, fun f hf => ?_, fun p hp => ?_, fun p hp => ?_, wSto_strong h⟩
 ·obtain ⟨v, i, hv, rfl⟩ := key p hp
  have h0 := hv.v0
  have h2 := hv.v2
  show 50 + (v.v2 : Int) + ((v.v0 / 8 : Nat) : Int) ≤ 336
  omega
 ·obtain ⟨i, _, rfl⟩ := List.mem_map.1 hf
  have hv := fluV_ok h i
  have h2 := hv.v2
  have h1 : (fluV x i).v1 % 90 < 90 := Nat.mod_lt _ (by decide)
  show 500 + 10 * ((fluV x i).v2 : Int) + (((fluV x i).v1 % 90 : Nat) : Int) ≤ 3139
  omega
 ·obtain ⟨v, i, hv, rfl⟩ := key p hp
  have h1 := hv.v1
  show 50 + (v.v1 : Int) ≤ 305
  omega
 ·obtain ⟨v, i, hv, rfl⟩ := key p hp
  have h3 := hv.v3
  have h4 : v.v3 % 100 < 100 := Nat.mod_lt _ (by decide)
  show ((v.v3 % 100 : Nat) : Int) + ((v.v3 / 16 : Nat) : Int) ≤ 114
  omega
theorem calP_hi {s : Sto} {m : Mak} (hm : m.ok s) (hS : SmallS s) : ∀ i, i ≤ m.papers.length → calP hiE s m i ≤ 336 * (((i + 1) / 2 : Nat) : Int)
 | 0, _ => by simp [calP]
 | i + 1, h => by
  have ih := calP_hi hm hS i (by omega)
  obtain ⟨v, hv⟩ := getE (l := m.papers) (i := i) (by omega)
  rw [calP, hv, Option.getD_some]
  have := hS.th _ (List.mem_of_getElem? (papAt_get (hm.papers v (List.mem_of_getElem? hv))))
  show calP hiE s m i + (if i % 2 = 0 then (papAt s v).th else 0) ≤ _
  split <;> omega
theorem calH_hi {s : Sto} {m : Mak} (hm : m.ok s) (hS : SmallS s) : ∀ i, i ≤ m.flutes.length → calH hiE s m i ≤ 3139 * (i : Int)
 | 0, _ => by simp [calH]
 | i + 1, h => by
  have ih := calH_hi hm hS i (by omega)
  obtain ⟨v, hv⟩ := getE (l := m.flutes) (i := i) (by omega)
  rw [calH, hv, Option.getD_some]
  have := hS.hh _ (List.mem_of_getElem? (fluAt_get (hm.flutes v (List.mem_of_getElem? hv))))
  show calH hiE s m i + (fluAt s v).hh ≤ _
  omega
theorem cal_hi {s : Sto} {m : Mak} (hm : m.ok s) (hS : SmallS s) : calI hiE s m ≤ 10000 := by
 have h1 := calP_hi hm hS _ (Nat.le_refl _)
 have h2 := calH_hi hm hS _ (Nat.le_refl _)
 have h3 := hm.nf
 have h4 := hm.np
 unfold calI
 omega
end Go.Dw.Seat
end
section
set_option linter.unusedSimpArgs false
set_option maxRecDepth 100000
namespace Go.Dw.Seat
open Go Go.Dw Go.Proofs Go.IntWalk
def sP5 (z : Bla) : Nat → Int
 | 0 => z.tab
 | 1 => z.tab + z.p0
 | 2 => z.tab + z.p0 + z.p1
 | 3 => z.tab + z.p0 + z.p1 + z.p2
 | _ => z.tab + z.p0 + z.p1 + z.p2 + z.p3
theorem sP50 (z : Bla) : sP5 z 0 = z.tab := rfl
theorem sP51 (z : Bla) : sP5 z 1 = z.tab + z.p0 := rfl
theorem sP52 (z : Bla) : sP5 z 2 = z.tab + z.p0 + z.p1 := rfl
theorem sP53 (z : Bla) : sP5 z 3 = z.tab + z.p0 + z.p1 + z.p2 := rfl
theorem sP54 (z : Bla) : sP5 z 4 = z.tab + z.p0 + z.p1 + z.p2 + z.p3 := rfl
theorem scSize (z : Bla) (h : z.ok) : DCall Try.prog 19 [dBla z] [] (.tup [dI (acrossI z), dI (alongI z), dI (acrossI z * alongI z), dI 0]) [] := by
 have c1 := scCheck z h
 have c2 := scMax2 false z.t0 z.t1
 have c3 := scMax2 false z.b0 z.b1
 obtain ⟨h1, h2, h3, h4, h5, h6, h7, h8, h9, h10, h11⟩ := h
 have m1 := mx2_b h7 h8
 have m2 := mx2_b h9 h10
 have hal : mx2 z.t0 z.t1 + z.height + mx2 z.b0 z.b1 = alongI z := rfl
 have hac : z.tab + z.p0 + z.p1 + z.p2 + z.p3 = acrossI z := rfl
 have bac : 0 ≤ acrossI z ∧ acrossI z ≤ 12100 := by rw [← hac]; omega
 have bal : 0 ≤ alongI z ∧ alongI z ≤ 9000 := by rw [← hal]; omega
 have bm := mulB0 (a := acrossI z) (b := alongI z) (A := 12100) (B := 9000) bac bal
 refine DCall.of Try.func19 sf19 hb19 (Nat.le_of_ble_eq_true rfl) (okRes_nil fun _ => rfl) ?_; simp only [s19, idxs, Nat.reduceAdd]
 repeat' (first|(with_reducible first|apply qA|apply qB|apply qC|apply qD|apply qE|apply qF)|(refine qL rfl (WF.of ?_) ?_; first|rfl|skip)|(simp (disch:=omega) only [go_sem, simprocAttr, Blk.men, Blk.keysIn])|exact qM rfl rfl rfl|(refine qG rfl ?_)|(refine qK (c1) (by decide) ?_)|(refine qH rfl ?_)|(refine qI rfl ?_ ?_<;>intro hc<;>(try simp only [go_sem] at hc))|(refine qJ ?_ ?_<;>intro hc<;>(try simp only [hc])<;>(try simp only [go_sem] at hc)))
 refine DW.loop (ι := { i : Nat // i ≤ 4 }) (fun i => ⟨42, [(19, dI i.1), (18, dI 4), (17, dIs false [z.p0, z.p1, z.p2, z.p3]), (2, dI (sP5 z i.1)), (1, .box 1 0)], [(1, .box [dI z.tab, dIs false [z.p0, z.p1, z.p2, z.p3], dI z.height, dIs false [z.t0, z.t1], dIs false [z.b0, z.b1], dI z.slot, bD false])]⟩) (fun i => 4 - i.1) ⟨0, by omega⟩ ?_ ?_
 ·refine Ent.to ?_ ?_ <;> simp (disch:=omega) only [qR,qS,qTw,qU,get,Nat.reduceEqDiff,↓reduceIte,qV,qW,qX,qY,qZ,and_self,dI,i64_in,and_true,true_and,rA,rB,rC,rD,sP50]
  all_goals exact .refl _
 rintro ⟨i, hi⟩
 dsimp only
 rcases (by omega : i = 0 ∨ i = 1 ∨ i = 2 ∨ i = 3 ∨ i = 4) with rfl | rfl | rfl | rfl | rfl
 ·repeat' (first|(with_reducible first|apply qA|apply qB|apply qC|apply qD|apply qE|apply qF)|(refine qL rfl (WF.of ?_) ?_; first|rfl|skip)|(simp (disch:=omega) only [go_sem, simprocAttr, Blk.men, Blk.keysIn, sP50])|exact qM rfl rfl rfl|(refine qG rfl ?_)|(refine qH rfl ?_)|(refine qI rfl ?_ ?_<;>intro hc<;>(try simp only [go_sem] at hc))|(refine qJ ?_ ?_<;>intro hc<;>(try simp only [hc])<;>(try simp only [go_sem] at hc)))
  refine ⟨⟨1, by omega⟩, ?_, Ent.to ?_ ?_⟩ <;> first | (show _ < _; (try simp only); omega) | (simp (disch:=omega) only [qR,qS,qTw,qU,get,Nat.reduceEqDiff,↓reduceIte,qV,qW,qX,qY,qZ,and_self,dI,i64_in,and_true,true_and,rA,rB,rC,rD, sP50,sP51])
  all_goals exact .refl _
 ·repeat' (first|(with_reducible first|apply qA|apply qB|apply qC|apply qD|apply qE|apply qF)|(refine qL rfl (WF.of ?_) ?_; first|rfl|skip)|(simp (disch:=omega) only [go_sem, simprocAttr, Blk.men, Blk.keysIn, sP51])|exact qM rfl rfl rfl|(refine qG rfl ?_)|(refine qH rfl ?_)|(refine qI rfl ?_ ?_<;>intro hc<;>(try simp only [go_sem] at hc))|(refine qJ ?_ ?_<;>intro hc<;>(try simp only [hc])<;>(try simp only [go_sem] at hc)))
  refine ⟨⟨2, by omega⟩, ?_, Ent.to ?_ ?_⟩ <;> first | (show _ < _; (try simp only); omega) | (simp (disch:=omega) only [qR,qS,qTw,qU,get,Nat.reduceEqDiff,↓reduceIte,qV,qW,qX,qY,qZ,and_self,dI,i64_in,and_true,true_and,rA,rB,rC,rD, sP51,sP52])
  all_goals exact .refl _
 ·repeat' (first|(with_reducible first|apply qA|apply qB|apply qC|apply qD|apply qE|apply qF)|(refine qL rfl (WF.of ?_) ?_; first|rfl|skip)|(simp (disch:=omega) only [go_sem, simprocAttr, Blk.men, Blk.keysIn, sP52])|exact qM rfl rfl rfl|(refine qG rfl ?_)|(refine qH rfl ?_)|(refine qI rfl ?_ ?_<;>intro hc<;>(try simp only [go_sem] at hc))|(refine qJ ?_ ?_<;>intro hc<;>(try simp only [hc])<;>(try simp only [go_sem] at hc)))
  refine ⟨⟨3, by omega⟩, ?_, Ent.to ?_ ?_⟩ <;> first | (show _ < _; (try simp only); omega) | (simp (disch:=omega) only [qR,qS,qTw,qU,get,Nat.reduceEqDiff,↓reduceIte,qV,qW,qX,qY,qZ,and_self,dI,i64_in,and_true,true_and,rA,rB,rC,rD, sP52,sP53])
  all_goals exact .refl _
 ·repeat' (first|(with_reducible first|apply qA|apply qB|apply qC|apply qD|apply qE|apply qF)|(refine qL rfl (WF.of ?_) ?_; first|rfl|skip)|(simp (disch:=omega) only [go_sem, simprocAttr, Blk.men, Blk.keysIn, sP53])|exact qM rfl rfl rfl|(refine qG rfl ?_)|(refine qH rfl ?_)|(refine qI rfl ?_ ?_<;>intro hc<;>(try simp only [go_sem] at hc))|(refine qJ ?_ ?_<;>intro hc<;>(try simp only [hc])<;>(try simp only [go_sem] at hc)))
  refine ⟨⟨4, by omega⟩, ?_, Ent.to ?_ ?_⟩ <;> first | (show _ < _; (try simp only); omega) | (simp (disch:=omega) only [qR,qS,qTw,qU,get,Nat.reduceEqDiff,↓reduceIte,qV,qW,qX,qY,qZ,and_self,dI,i64_in,and_true,true_and,rA,rB,rC,rD, sP53,sP54])
  all_goals exact .refl _
 ·repeat' (first|(with_reducible first|apply qA|apply qB|apply qC|apply qD|apply qE|apply qF)|(refine qL rfl (WF.of ?_) ?_; first|rfl|skip)|(simp (disch:=omega) only [go_sem, simprocAttr, Blk.men, Blk.keysIn, sP54, hac, hal])|exact qM rfl rfl rfl|(refine qG rfl ?_)|(refine qK (c2) (by decide) ?_)|(refine qK (c3) (by decide) ?_)|(refine qH rfl ?_)|(refine qI rfl ?_ ?_<;>intro hc<;>(try simp only [go_sem] at hc))|(refine qJ ?_ ?_<;>intro hc<;>(try simp only [hc])<;>(try simp only [go_sem] at hc)))
structure V7 where
 v0 : Nat
 v1 : Nat
 v2 : Nat
 v3 : Nat
 v4 : Nat
 v5 : Nat
 v6 : Nat
structure V7.ok (v : V7) : Prop where
 v0 : v.v0 < 256
 v1 : v.v1 < 256
 v2 : v.v2 < 256
 v3 : v.v3 < 256
 v4 : v.v4 < 256
 v5 : v.v5 < 256
 v6 : v.v6 < 256
end Go.Dw.Seat
end
section
set_option linter.unusedSimpArgs false
set_option maxRecDepth 100000
namespace Go.Dw.Seat
open Go Go.Dw Go.Proofs Go.IntWalk
theorem arBlank (z : Bla) (o : Bool) : DCall Try.prog 16 [.agg (bloL z o)] [] (.agg (bloL z o)) [] := by
 have c1 := arInts false [z.p0, z.p1, z.p2, z.p3] (by simp)
 have c2 := arInts false [z.t0, z.t1] (by simp)
 have c3 := arInts false [z.b0, z.b1] (by simp)
 refine DCall.of Try.func16 sf16 hb16 (Nat.le_of_ble_eq_true rfl) (okRes_nil fun _ => rfl) ?_; simp only [s16, idxs, Nat.reduceAdd]
 repeat' (first|(with_reducible first|apply qA|apply qB|apply qC|apply qD|apply qE|apply qF)|(refine qL rfl (WF.of ?_) ?_; first|rfl|skip)|(simp (disch:=omega) only [go_sem, simprocAttr, qN, qO, qP, qQ])|exact qM rfl rfl rfl|(refine qG rfl ?_)|(refine qK (c1) (by decide) ?_)|(refine qK (c2) (by decide) ?_)|(refine qK (c3) (by decide) ?_)|(refine qH rfl ?_)|(refine qI rfl ?_ ?_<;>intro hc<;>(try simp only [go_sem] at hc))|(refine qJ ?_ ?_<;>intro hc<;>(try simp only [hc])<;>(try simp only [go_sem] at hc)))
def asZ : Bla := ⟨35, 304, 204, 304, 204, 208, 101, 101, 101, 101, 6⟩
def asW : Wsh := ⟨(300, 301), (200, 201), (200, 202), (-3, 0), (0, 200), false⟩
theorem asZ_ok : asZ.ok := ⟨by decide, by decide, by decide, by decide, by decide, by decide, by decide, by decide, by decide, by decide, by decide⟩
theorem asW_ok : asW.ok := ⟨by decide, by decide, by decide, by decide, by decide⟩
theorem as_all : AllH asZ asW (3000, 4000) := by
 intro k hk
 rcases (by omega : k = 0 ∨ k = 1 ∨ k = 2 ∨ k = 3 ∨ k = 4 ∨ k = 5 ∨ k = 6 ∨ k = 7 ∨ k = 8 ∨ k = 9) with rfl | rfl | rfl | rfl | rfl | rfl | rfl | rfl | rfl | rfl <;> decide +kernel
theorem arScore : DCall Try.prog 12 [] [] (bD true) [] := by
 have h1 := scClose asZ asZ_ok asW asW_ok (fun h => by cases h) (3000, 4000) (by decide) as_all
 have h2 := scSize asZ asZ_ok
 have e1 : acrossI asZ = 1051 := by decide +kernel
 have e2 : alongI asZ = 410 := by decide +kernel
 rw [e1, e2] at h2
 simp only [asZ, asW] at h1 h2
 have z1 := arSpan 300 301
 have z2 := arSpan 200 201
 have z3 := arSpan 200 202
 have z4 := arSpan (-3) 0
 have z5 := arSpan 0 200
 have z6 := arSpan 3000 4000
 refine DCall.of Try.func12 sf12 hb12 (Nat.le_of_ble_eq_true rfl) (okRes_nil fun _ => rfl) ?_; simp only [s12, idxs, Nat.reduceAdd]
 refine DW.seq (DW.reg ?_)
 simp (disch:=omega) only [go_sem,simprocAttr,qN,qO,qP,qQ]
 refine DW.seq (DW.reg ?_)
 simp (disch:=omega) only [go_sem,simprocAttr,qN,qO,qP,qQ]
 (refine DW.ent (Ent.rel 9 rfl) ?_; simp (disch:=omega) only [go_sem,simprocAttr,qN,qO,qP,qQ])
 (refine DW.ent (Ent.rel 10 rfl) ?_; simp (disch:=omega) only [go_sem,simprocAttr,qN,qO,qP,qQ])
 (refine DW.ent (Ent.rel 11 rfl) ?_; simp (disch:=omega) only [go_sem,simprocAttr,qN,qO,qP,qQ])
 repeat' (first|(with_reducible first|apply qA|apply qB|apply qC|apply qD|apply qE|apply qF)|(refine qL rfl (WF.of ?_) ?_; first|rfl|skip)|(simp (disch:=omega) only [go_sem, simprocAttr, qN, qO, qP, qQ])|exact qM rfl rfl rfl|(refine qG rfl ?_)|(refine qK (z1) (by decide) ?_)|(refine qK (z2) (by decide) ?_)|(refine qK (z3) (by decide) ?_)|(refine qK (z4) (by decide) ?_)|(refine qK (z5) (by decide) ?_)|(refine qK (z6) (by decide) ?_)|(refine qK (h1) (by decide) ?_)|(refine qK (h2) (by decide) ?_)|(refine qH rfl ?_)|(refine qI rfl ?_ ?_<;>intro hc<;>(try simp only [go_sem] at hc))|(refine qJ ?_ ?_<;>intro hc<;>(try simp only [hc])<;>(try simp only [go_sem] at hc)))
abbrev b8 (n : Nat) : D := .c (.v (.int .u8 n))
def tpW (a0 a1 a2 a3 a4 a5 : Nat) : Wsh := ⟨(50 + (a0 : Int), 50 + (a0 : Int) + ((a4 % 4 : Nat) : Int)), (40 + (a1 : Int), 40 + (a1 : Int) + ((a4 / 4 % 4 : Nat) : Int)), (30 + (a2 : Int), 30 + (a2 : Int) + ((a4 / 16 % 4 : Nat) : Int)), ((0 - (a5 : Int)).tmod 8, ((a5 / 8 % 4 : Nat) : Int)), (-100, (a3 : Int)), decide (a5 / 32 % 4 = 0)⟩
theorem tpW_ok {a0 a1 a2 a3 a4 a5 : Nat} (h0 : a0 < 256) (h1 : a1 < 256) (h2 : a2 < 256) (h3 : a3 < 256) : (tpW a0 a1 a2 a3 a4 a5).ok := by
 have q0 : a4 % 4 < 4 := Nat.mod_lt _ (by decide)
 have q1 : a4 / 4 % 4 < 4 := Nat.mod_lt _ (by decide)
 have q2 : a4 / 16 % 4 < 4 := Nat.mod_lt _ (by decide)
 have q3 : a5 / 8 % 4 < 4 := Nat.mod_lt _ (by decide)
 have e : (0 - (a5 : Int)).tmod 8 = -(((a5 % 8 : Nat) : Int)) := by
  rw [Int.zero_sub, Int.neg_tmod]
  rw [show (a5 : Int).tmod 8 = ((a5 % 8 : Nat) : Int) from tmodN a5 8]
 have q4 : a5 % 8 < 8 := Nat.mod_lt _ (by decide)
 refine ⟨?_, ?_, ?_, ?_, ?_⟩ <;> simp only [tpW] <;> omega
set_option maxHeartbeats 16000000 in
theorem tpBoardCloses (b bt : Bool) (x : War) (hx : x.ok) (tr : List Nat) (htr : ∀ v ∈ tr, v < 256) (a0 a1 a2 a3 a4 a5 : Nat) (h0 : a0 < 256) (h1 : a1 < 256) (h2 : a2 < 256) (h3 : a3 < 256) (h4 : a4 < 256) (h5 : a5 < 256) :
  DCall Try.prog 3 [dWar b x, .c (.sl bt 1 (rows eY tr)), .agg [b8 a0, b8 a1, b8 a2, b8 a3, b8 a4, b8 a5]] [] (bD true) [] := by
 have hbo := arBoard
 have hsc := arScore
 have hS := arStore b x hx
 have hM := arMake b x hx
 have hs := wSto_ok hx
 have hm := wMak_ok x
 have hsm := wSto_small hx
 generalize wSto x = s at *
 generalize wMak x = m at *
 have hnp := hs.np
 have hnf := hs.nf
 have hmp : m.papers.length ≤ 5 := by have := hm.np; have := hm.nf; omega
 have hmf := hm.nf
 have hcp := calI_pos hs hm
 have hch := cal_hi hm hsm
 have hth := thick_in hs hm htr
 have cM := bdMeasure s m hs hm
 have cT := arThick bt s m tr hs hm htr
 have c0 := arOwn s (by omega) (by omega)
 have c1 := arMade m (by omega) (by omega)
 generalize moistI loE s m = w1 at *
 generalize moistI hiE s m = w2 at *
 generalize calI loE s m = cl at *
 generalize calI hiE s m = ch at *
 generalize thickI s m tr m.papers.length = t at *
 have hc : calOk (cl, ch) := ⟨by dsimp only; omega, by dsimp only; omega, by dsimp only; omega⟩
 have hct : calOk (t, t) := ⟨by dsimp only; omega, by dsimp only; omega, by dsimp only; omega⟩
 have hw := tpW_ok (a4 := a4) (a5 := a5) h0 h1 h2 h3
 have e3 : (a3 : Int).tmod 50 = ((a3 % 50 : Nat) : Int) := tmodN a3 50
 have e4 : (a4 : Int).tmod 4 = ((a4 % 4 : Nat) : Int) := tmodN a4 4
 have d4 : (a4 : Int).tdiv 4 = ((a4 / 4 : Nat) : Int) := tdivN a4 4
 have e5 : ((a4 / 4 : Nat) : Int).tmod 4 = ((a4 / 4 % 4 : Nat) : Int) := tmodN _ 4
 have d16 : (a4 : Int).tdiv 16 = ((a4 / 16 : Nat) : Int) := tdivN a4 16
 have e6 : ((a4 / 16 : Nat) : Int).tmod 4 = ((a4 / 16 % 4 : Nat) : Int) := tmodN _ 4
 have d8 : (a5 : Int).tdiv 8 = ((a5 / 8 : Nat) : Int) := tdivN a5 8
 have e7 : ((a5 / 8 : Nat) : Int).tmod 4 = ((a5 / 8 % 4 : Nat) : Int) := tmodN _ 4
 have d32 : (a5 : Int).tdiv 32 = ((a5 / 32 : Nat) : Int) := tdivN a5 32
 have e8 : ((a5 / 32 : Nat) : Int).tmod 4 = ((a5 / 32 % 4 : Nat) : Int) := tmodN _ 4
 have q0 : a4 % 4 < 4 := Nat.mod_lt _ (by decide)
 have q1 : a4 / 4 % 4 < 4 := Nat.mod_lt _ (by decide)
 have q2 : a4 / 16 % 4 < 4 := Nat.mod_lt _ (by decide)
 have q3 : a5 / 8 % 4 < 4 := Nat.mod_lt _ (by decide)
 have q4 : a3 % 50 < 50 := Nat.mod_lt _ (by decide)
 have q5 : a5 / 32 % 4 < 4 := Nat.mod_lt _ (by decide)
 have z1 := arSpan (50 + (a0 : Int)) (50 + (a0 : Int) + ((a4 % 4 : Nat) : Int))
 have z2 := arSpan (40 + (a1 : Int)) (40 + (a1 : Int) + ((a4 / 4 % 4 : Nat) : Int))
 have z3 := arSpan (30 + (a2 : Int)) (30 + (a2 : Int) + ((a4 / 16 % 4 : Nat) : Int))
 have z4 := arSpan ((0 - (a5 : Int)).tmod 8) ((a5 / 8 % 4 : Nat) : Int)
 have z5 := arSpan (-100) (a3 : Int)
 have z6 := arSpan t t
 have hop : ((((a5 / 32 % 4 : Nat) : Int)) == 0) = decide (a5 / 32 % 4 = 0) := by
  rw [Bool.eq_iff_iff, beq_iff_eq, decide_eq_true_eq]; omega
 have ud5 : Try.prog.underlying 5 = some (.int .u8) := by kernel_rfl
 have hd1 : decide (cl < 1) = false := decide_eq_false (by omega)
 have hd2 : decide (10000 < ch) = false := decide_eq_false (by omega)
 have hht : 0 ≤ ((a3 % 50 : Nat) : Int) ∧ ((a3 % 50 : Nat) : Int) ≤ 100 := by omega
 obtain ⟨o, ho⟩ : ∃ o, decide (a5 / 32 % 4 = 0) = o := ⟨_, rfl⟩
 obtain ⟨W, hW⟩ : ∃ W, tpW a0 a1 a2 a3 a4 a5 = W := ⟨_, rfl⟩
 have hwo : W.op = o := by rw [← hW, ← ho]; rfl
 have hwl : wshL W = [dI (50 + (a0 : Int)), dI (50 + (a0 : Int) + ((a4 % 4 : Nat) : Int)), dI (40 + (a1 : Int)), dI (40 + (a1 : Int) + ((a4 / 4 % 4 : Nat) : Int)), dI (30 + (a2 : Int)), dI (30 + (a2 : Int) + ((a4 / 16 % 4 : Nat) : Int)), dI ((0 - (a5 : Int)).tmod 8), dI ((a5 / 8 % 4 : Nat) : Int), dI (-100), dI (a3 : Int), bD o] := by rw [← hW, ← ho]; rfl
 rw [hW] at hw
 clear hW
 rw [ho] at hop
 generalize hTab : ((a3 % 50 : Nat) : Int) = tab at *
 rcases bk_cases W (cl, ch) tab with ⟨k, k0, k9, hk⟩ | hg
 ·have cB := scBlankNo W hw (cl, ch) hc tab hht k hk
  rw [hwl] at cB
  have f1 : decide (0 ≤ k) = true := decide_eq_true k0
  have f2 : decide (k ≤ 9) = true := decide_eq_true k9
  refine DCall.of Try.func3 sf3 hb3 (Nat.le_of_ble_eq_true rfl) (okRes_nil fun _ => rfl) ?_; simp only [s3, o3_0, o3_1, o3_2, o3_3, o3_4, o3_5, o3_6, o3_7, o3_8, o3_9, o3_10, o3_11, o3_12, o3_13, o3_14, o3_15, o3_16, o3_17, o3_18, o3_19, o3_20, o3_21, o3_22, o3_23, o3_24, o3_25, o3_26, o3_27, o3_28, o3_29, o3_30, o3_31, o3_32, o3_33, o3_34, o3_35, o3_36, o3_37, o3_38, o3_39, o3_40, idxs, Nat.reduceAdd]
  repeat' (first|(with_reducible first|apply qA|apply qB|apply qC|apply qD|apply qE|apply qF)|(refine qL rfl (WF.of ?_) ?_; first|rfl|skip)|(refine DW.ord rfl (WF.of (by first|rfl|simp (disch:=omega) only [go_sem, simprocAttr, qN, qO, qP, qQ, hd1, hd2, e3, e4, d4, e5, d16, e6, d8, e7, d32, e8, hop, ud5, f1, f2])) ?_ ?_ ?_; rotate_left)|rfl|(with_reducible refine And.intro ?_ ?_)|(simp (disch:=omega) only [go_sem, simprocAttr, qN, qO, qP, qQ, hd1, hd2, e3, e4, d4, e5, d16, e6, d8, e7, d32, e8, hop, ud5, f1, f2])|exact qM rfl rfl rfl|(refine qG rfl ?_)|(refine qK (hS) (by decide) ?_)|(refine qK (hM) (by decide) ?_)|(refine qK (c0) (by decide) ?_)|(refine qK (c1) (by decide) ?_)|(refine qK (cM) (by decide) ?_)|(refine qK (z1) (by decide) ?_)|(refine qK (z2) (by decide) ?_)|(refine qK (z3) (by decide) ?_)|(refine qK (z4) (by decide) ?_)|(refine qK (z5) (by decide) ?_)|(refine qK (cB) (by decide) ?_)|(refine qK (hbo) (by decide) ?_)|(refine qK (hsc) (by decide) ?_)|(refine qH rfl ?_)|(refine qI rfl ?_ ?_<;>intro hc<;>(try simp only [go_sem] at hc))|(refine qJ ?_ ?_<;>intro hc<;>(try simp only [hc])<;>(try simp only [go_sem] at hc)))
 ·have hkn := bk_known hg tab
  obtain ⟨z, hz⟩ : ∃ z, bkZ W (cl, ch) tab (prI (bkP W (cl, ch))) (prI (bkQ W (cl, ch))) = z := ⟨_, rfl⟩
  have cB := scBlankOk W hw (cl, ch) hc tab hht hg z hz
  rw [hz] at hkn
  have hztab : z.tab = tab := by rw [← hz]; rfl
  have hzo := bk_ok hc hg hht hkn hztab
  have hall := bk_all hc hg hkn
  have hz0 : W.op = true → z.t0 = 0 ∧ z.t1 = 0 := fun h => by
   rw [hkn.t0, hkn.t1, h]
   exact ⟨rfl, rfl⟩
  have hallt := all_sub hall (t := t) hth
  have cC := scClose z hzo W hw hz0 (cl, ch) hc hall
  have cD := scClose z hzo W hw hz0 (t, t) hct hallt
  have cA := scCalipers z hzo W hw hz0 (cl, ch) hc hall
  have hin := cal_in hc hall 10 (by decide)
  have hgt := bk_sub hc hg (t := t) hth
  obtain ⟨z', hz'⟩ : ∃ z', bkZ W (t, t) tab (prI (bkP W (t, t))) (prI (bkQ W (t, t))) = z' := ⟨_, rfl⟩
  have cN := scBlankOk W hw (t, t) hct tab hht hgt z' hz'
  rw [hwl, hwo] at cB cC cD cA cN
  have cK := arBlank z o
  generalize calF z W 10 = A at *
  have f1 : decide (A.1 ≤ cl) = true := decide_eq_true hin.1
  have f2 : decide (ch ≤ A.2) = true := decide_eq_true hin.2
  refine DCall.of Try.func3 sf3 hb3 (Nat.le_of_ble_eq_true rfl) (okRes_nil fun _ => rfl) ?_; simp only [s3, o3_0, o3_1, o3_2, o3_3, o3_4, o3_5, o3_6, o3_7, o3_8, o3_9, o3_10, o3_11, o3_12, o3_13, o3_14, o3_15, o3_16, o3_17, o3_18, o3_19, o3_20, o3_21, o3_22, o3_23, o3_24, o3_25, o3_26, o3_27, o3_28, o3_29, o3_30, o3_31, o3_32, o3_33, o3_34, o3_35, o3_36, o3_37, o3_38, o3_39, o3_40, idxs, Nat.reduceAdd]
  repeat' (first|(with_reducible first|apply qA|apply qB|apply qC|apply qD|apply qE|apply qF)|(refine qL rfl (WF.of ?_) ?_; first|rfl|skip)|(refine DW.ord rfl (WF.of (by first|rfl|simp (disch:=omega) only [go_sem, simprocAttr, qN, qO, qP, qQ, hd1, hd2, e3, e4, d4, e5, d16, e6, d8, e7, d32, e8, hop, ud5, f1, f2])) ?_ ?_ ?_; rotate_left)|rfl|(with_reducible refine And.intro ?_ ?_)|(simp (disch:=omega) only [go_sem, simprocAttr, qN, qO, qP, qQ, hd1, hd2, e3, e4, d4, e5, d16, e6, d8, e7, d32, e8, hop, ud5, f1, f2])|exact qM rfl rfl rfl|(refine qG rfl ?_)|(refine qK (hS) (by decide) ?_)|(refine qK (hM) (by decide) ?_)|(refine qK (c0) (by decide) ?_)|(refine qK (c1) (by decide) ?_)|(refine qK (cM) (by decide) ?_)|(refine qK (z1) (by decide) ?_)|(refine qK (z2) (by decide) ?_)|(refine qK (z3) (by decide) ?_)|(refine qK (z4) (by decide) ?_)|(refine qK (z5) (by decide) ?_)|(refine qK (cB) (by decide) ?_)|(refine qK (cK) (by decide) ?_)|(refine qK (cC) (by decide) ?_)|(refine qK (cA) (by decide) ?_)|(refine qK (cT) (by decide) ?_)|(refine qK (z6) (by decide) ?_)|(refine qK (cD) (by decide) ?_)|(refine qK (cN) (by decide) ?_)|(refine qK (hbo) (by decide) ?_)|(refine qK (hsc) (by decide) ?_)|(refine qH rfl ?_)|(refine qI rfl ?_ ?_<;>intro hc<;>(try simp only [go_sem] at hc))|(refine qJ ?_ ?_<;>intro hc<;>(try simp only [hc])<;>(try simp only [go_sem] at hc)))
end Go.Dw.Seat
end
section
set_option linter.unusedSimpArgs false
set_option maxRecDepth 100000
namespace Go.Dw.Seat
open Go Go.Dw Go.Proofs Go.IntWalk
def AllLt (b : Nat) (l : List Nat) : Prop := ∀ x ∈ l, x < b
def eN (l : List Nat) : List C := l.map fun n : Nat => .v (.int .u8 (n : Int))
def e1 (n : Nat) : List C := [.v (.int .u8 n)]
theorem boardClosesY (x : War) (hx : x.ok) (tr : List Nat) (_ : tr.length ≤ maxLen) (ht : AllLt 256 tr) (s : List Nat) (hs : s.length = 6 ∧ AllLt 256 s) :
  DCall Try.prog 3 [dWar false x, .c (.sl false 1 (rows e1 tr)), .agg ((eN s).map D.c)] [] (bD true) [] := by
 obtain ⟨h3, h4⟩ := hs
 match s, h3 with
 | [a, b, c, d, e, f], _ => exact tpBoardCloses false false x hx tr ht a b c d e f (h4 _ (by simp)) (h4 _ (by simp)) (h4 _ (by simp)) (h4 _ (by simp)) (h4 _ (by simp)) (h4 _ (by simp))
end Go.Dw.Seat
end
section
set_option linter.unusedSimpArgs false
set_option maxRecDepth 100000
namespace Go.Dw.Seat
open Go Go.Dw Go.Proofs Go.ChangeShapes Go.WideShapes Go.ChangeAt Go.RowKit
theorem tOwn : ownKnob Try.prog.godebug = none := by kernel_rfl
theorem tLaid : laidOutB Try.prog = true := by kernel_rfl
theorem u4 : Try.prog.underlying 4 = some .bool := by kernel_rfl
theorem uT5 : Try.prog.underlying 5 = some (.int .u8) := by kernel_rfl
theorem clT5 : Try.prog.cellsOf 5 = 1 := by kernel_rfl
def bV (l : List Nat) : List Value := l.map fun n : Nat => Value.int .u8 (n : Int)
section
variable {H : Type} {enc : TypeId × Value → H} {w : World} {base : Nat} {spare : Nat → Bool} {held : Bool}
theorem wf8 {n : Int} (h : (Lit.int .u8 n).wf = true) : ∃ v : Nat, n = v ∧ v < 256 := by
 have e1 : IntKind.min .u8 = 0 := by decide
 have e2 : IntKind.max .u8 = 255 := by decide
 simp only [Lit.wf, e1, e2, Bool.and_eq_true, decide_eq_true_eq] at h
 exact ⟨n.toNat, by omega, by omega⟩
theorem rep_bytes : ∀ l : List Nat, RepVs w A0 (eN l) (bV l)
 | [] => rfl
 | _ :: l => ⟨_, _, rfl, ⟨rfl, rfl⟩, rep_bytes l⟩
theorem rd_U8 {fuel : Nat} {cs : List Value} {x : DataW H × List MemPlace} (h : DataW.trod enc Try.prog w base spare held fuel 5 cs = some x) : ∃ l : List Nat, (l.length = 1 ∧ AllLt 256 l) ∧ cs = bV l := by
 obtain ⟨n, e, hw⟩ := rd_int uT5 h
 obtain ⟨v, rfl, hv⟩ := wf8 hw
 exact ⟨[v], ⟨rfl, fun x hx => by rw [List.mem_singleton] at hx; rw [hx]; exact hv⟩, e⟩
theorem bV_app (a b : List Nat) : bV (a ++ b) = bV a ++ bV b := by simp [bV]
theorem lt_app {b : Nat} {l l' : List Nat} (h : AllLt b l) (h' : AllLt b l') : AllLt b (l ++ l') := fun x hx => by
 rcases List.mem_append.1 hx with h1 | h1
 ·exact h x h1
 ·exact h' x h1
theorem rd_arrB {fuel : Nat} {cs : List Value} {x : DataW H × List MemPlace} {t e : TypeId} {n k : Nat} (ht : Try.prog.underlying t = some (.array n e)) (he : Try.prog.cellsOf e = k) (hc : Try.prog.cellsOf t = n * k)
  (hrd : ∀ m cs x, DataW.trod enc Try.prog w base spare held m e cs = some x → ∃ l : List Nat, (l.length = k ∧ AllLt 256 l) ∧ cs = bV l) (h : DataW.trod enc Try.prog w base spare held fuel t cs = some x) : ∃ l : List Nat, (l.length = n * k ∧ AllLt 256 l) ∧ cs = bV l := by
 obtain ⟨hl, m, hf⟩ := rd_array ht h
 rw [hc] at hl
 have key : ∀ j, j ≤ n → ∃ l : List Nat, (l.length = j * k ∧ AllLt 256 l) ∧ cs.take (j * k) = bV l := by
  intro j
  induction j with
  | zero => intro _; exact ⟨[], ⟨by simp, fun x hx => by cases hx⟩, by simp [bV]⟩
  | succ j ih =>
   intro hj
   obtain ⟨l, ⟨h1, h2⟩, h3⟩ := ih (by omega)
   obtain ⟨y, hy⟩ := hf j (by omega)
   rw [he] at hy
   obtain ⟨l', ⟨h4, h5⟩, h6⟩ := hrd _ _ _ hy
   refine ⟨l ++ l', ⟨by rw [List.length_append, h1, h4, Nat.succ_mul], lt_app h2 h5⟩, ?_⟩
   rw [Nat.succ_mul, List.take_add, h3, h6, bV_app]
 obtain ⟨l, h1, h2⟩ := key n (Nat.le_refl _)
 rw [List.take_of_length_le (by omega)] at h2
 exact ⟨l, h1, h2⟩
theorem uT27 : Try.prog.underlying 27 = some (.array 6 5) := by kernel_rfl
theorem clT27 : Try.prog.cellsOf 27 = 6 := by kernel_rfl
theorem rd_T27 {fuel : Nat} {cs : List Value} {x : DataW H × List MemPlace} (h : DataW.trod enc Try.prog w base spare held fuel 27 cs = some x) : ∃ l : List Nat, (l.length = 6 ∧ AllLt 256 l) ∧ cs = bV l := rd_arrB (n := 6) (k := 1) uT27 clT5 clT27 (fun _ _ _ h => rd_U8 h) h
theorem uT87 : Try.prog.underlying 87 = some (.array 3 5) := by kernel_rfl
theorem clT87 : Try.prog.cellsOf 87 = 3 := by kernel_rfl
theorem rd_T87 {fuel : Nat} {cs : List Value} {x : DataW H × List MemPlace} (h : DataW.trod enc Try.prog w base spare held fuel 87 cs = some x) : ∃ l : List Nat, (l.length = 3 ∧ AllLt 256 l) ∧ cs = bV l := rd_arrB (n := 3) (k := 1) uT87 clT5 clT87 (fun _ _ _ h => rd_U8 h) h
theorem uT24 : Try.prog.underlying 24 = some (.slice 5) := by kernel_rfl
theorem clT24 : Try.prog.cellsOf 24 = 1 := by kernel_rfl
theorem rd_T24 {fuel : Nat} {cs : List Value} {x : DataW H × List MemPlace} (h : DataW.trod enc Try.prog w base spare held fuel 24 cs = some x) : ∃ (l : List Nat) (v : Value), cs = [v] ∧ RepC w A0 (.sl false 1 (rows e1 l)) v ∧ l.length ≤ maxLen ∧ AllLt 256 l := by
 obtain ⟨l, v, e', hr, hm, _⟩ := rd_slice (f := fun v : {v : Nat // v < 256} => e1 v.1) uT24 clT5 (by decide) (fun _ => rfl) (fun m cs x h => by
  obtain ⟨n, e, hw⟩ := rd_int uT5 h
  obtain ⟨v, rfl, hv⟩ := wf8 hw
  subst e
  exact ⟨⟨v, hv⟩, _, _, rfl, ⟨rfl, rfl⟩, rfl⟩) h
 refine ⟨l.map (·.1), v, e', ?_, by simpa using hm, fun u hu => ?_⟩
 ·have : rows e1 (l.map (·.1)) = rows (fun v : {v : Nat // v < 256} => e1 v.1) l := by simp [rows, Function.comp_def]
  rw [this]; exact hr
 ·obtain ⟨a, _, rfl⟩ := List.mem_map.1 hu
  exact a.2
theorem uT22 : Try.prog.underlying 22 = some (.slice 27) := by kernel_rfl
theorem clT22 : Try.prog.cellsOf 22 = 1 := by kernel_rfl
theorem rd_W6 {fuel : Nat} {cs : List Value} {x : DataW H × List MemPlace} (h : DataW.trod enc Try.prog w base spare held fuel 27 cs = some x) : ∃ v : {v : V6 // v.ok}, RepVs w A0 (e6 v.1) cs := by
 obtain ⟨l, ⟨h1, h2⟩, h3⟩ := rd_T27 h
 subst h3
 match l, h1 with
 | [a, b, c, d, e, f], _ => exact ⟨⟨⟨a, b, c, d, e, f⟩, h2 a (by simp), h2 b (by simp), h2 c (by simp), h2 d (by simp), h2 e (by simp), h2 f (by simp)⟩, _, _, rfl, ⟨rfl, rfl⟩, _, _, rfl, ⟨rfl, rfl⟩, _, _, rfl, ⟨rfl, rfl⟩, _, _, rfl, ⟨rfl, rfl⟩, _, _, rfl, ⟨rfl, rfl⟩, _, _, rfl, ⟨rfl, rfl⟩, rfl⟩
theorem rd_X22 {fuel : Nat} {cs : List Value} {x : DataW H × List MemPlace} (h : DataW.trod enc Try.prog w base spare held fuel 22 cs = some x) : ∃ (l : List V6) (v : Value), cs = [v] ∧ RepC w A0 (.sl false 6 (rows e6 l)) v ∧ l.length ≤ maxLen ∧ ∀ v ∈ l, v.ok := by
 obtain ⟨l, v, e', hr, hm, _⟩ := rd_slice (f := fun v : {v : V6 // v.ok} => e6 v.1) uT22 clT27 (by decide) (fun _ => rfl) (fun m cs x h => rd_W6 h) h
 refine ⟨l.map (·.1), v, e', ?_, by simpa using hm, fun u hu => ?_⟩
 ·have : rows e6 (l.map (·.1)) = rows (fun v : {v : V6 // v.ok} => e6 v.1) l := by simp [rows, Function.comp_def]
  rw [this]; exact hr
 ·obtain ⟨a, _, rfl⟩ := List.mem_map.1 hu
  exact a.2
theorem uT23 : Try.prog.underlying 23 = some (.slice 87) := by kernel_rfl
theorem clT23 : Try.prog.cellsOf 23 = 1 := by kernel_rfl
theorem rd_W3 {fuel : Nat} {cs : List Value} {x : DataW H × List MemPlace} (h : DataW.trod enc Try.prog w base spare held fuel 87 cs = some x) : ∃ v : {v : V3 // v.ok}, RepVs w A0 (e3 v.1) cs := by
 obtain ⟨l, ⟨h1, h2⟩, h3⟩ := rd_T87 h
 subst h3
 match l, h1 with
 | [a, b, c], _ => exact ⟨⟨⟨a, b, c⟩, h2 a (by simp), h2 b (by simp), h2 c (by simp)⟩, _, _, rfl, ⟨rfl, rfl⟩, _, _, rfl, ⟨rfl, rfl⟩, _, _, rfl, ⟨rfl, rfl⟩, rfl⟩
theorem rd_X23 {fuel : Nat} {cs : List Value} {x : DataW H × List MemPlace} (h : DataW.trod enc Try.prog w base spare held fuel 23 cs = some x) : ∃ (l : List V3) (v : Value), cs = [v] ∧ RepC w A0 (.sl false 3 (rows e3 l)) v ∧ l.length ≤ maxLen ∧ ∀ v ∈ l, v.ok := by
 obtain ⟨l, v, e', hr, hm, _⟩ := rd_slice (f := fun v : {v : V3 // v.ok} => e3 v.1) uT23 clT87 (by decide) (fun _ => rfl) (fun m cs x h => rd_W3 h) h
 refine ⟨l.map (·.1), v, e', ?_, by simpa using hm, fun u hu => ?_⟩
 ·have : rows e3 (l.map (·.1)) = rows (fun v : {v : V3 // v.ok} => e3 v.1) l := by simp [rows, Function.comp_def]
  rw [this]; exact hr
 ·obtain ⟨a, _, rfl⟩ := List.mem_map.1 hu
  exact a.2
theorem uT26 : structIs Try.prog 26 [(22, 0), (23, 1), (24, 2)] = true := by kernel_rfl
theorem clT26 : Try.prog.cellsOf 26 = 3 := by kernel_rfl
def cWar (x : War) : List C := [.sl false 6 (rows e6 x.papers), .sl false 3 (rows e3 x.flutes), .sl false 1 (rows eY x.by')]
theorem rd_T26 {fuel : Nat} {cs : List Value} {x : DataW H × List MemPlace} (h : DataW.trod enc Try.prog w base spare held fuel 26 cs = some x) : ∃ s : War, s.ok ∧ RepVs w A0 (cWar s) cs := by
 obtain ⟨hl, m, hf⟩ := rd_struct uT26 h
 rw [clT26] at hl
 obtain ⟨y0, h0⟩ := hf 0 22 0 rfl
 obtain ⟨y1, h1⟩ := hf 1 23 1 rfl
 obtain ⟨y2, h2⟩ := hf 2 24 2 rfl
 rw [clT22] at h0
 rw [clT23] at h1
 rw [clT24] at h2
 obtain ⟨L0, v0, e0, r0, m0, p0⟩ := rd_X22 h0
 obtain ⟨L1, v1, e1, r1, m1, p1⟩ := rd_X23 h1
 obtain ⟨L2, v2, e2, r2, m2, p2⟩ := rd_T24 h2
 match cs, hl with
 | [c0, c1, c2], _ =>
  simp at e0 e1 e2
  subst e0; subst e1; subst e2
  exact ⟨⟨L0, L1, L2⟩, ⟨p0, p1, p2⟩, _, _, rfl, r0, _, _, rfl, r1, _, _, rfl, r2, rfl⟩
end
set_option maxHeartbeats 800000 in
theorem topBoardClosesLifted (os : Os) (started : os.Started) (H : Type) (enc : TypeId × Value → H) :
  ReturnsInHanded {} Try.checked os 3 .any (Ytnbgonichmcfaaa.Rows.topBoardClosesSpec.pre6 enc Try.prog Try.f3 Ytnbgonichmcfaaa.Rows.topBoardClosesRow.domain false) (Ytnbgonichmcfaaa.Rows.topBoardClosesSpec.post enc Try.prog Try.f3 false true false false) := by
 refine returnsInHanded_of_change (C := Try.checked) tOwn started (by kernel_rfl) Try.func3
  (ChangeSpec.witness6 (enc := enc) (C := Try.checked) false ⟨#[], #[.agg #[.slice none 0 0, .slice none 0 0, .slice none 0 0], .slice none 0 0, .agg #[.int .u8 0, .int .u8 0, .int .u8 0, .int .u8 0, .int .u8 0, .int .u8 0]], []⟩ 8 (by kernel_rfl) (by kernel_rfl) (by kernel_rfl) (by kernel_rfl)) ?_
 intro W base args ds gs before hval0 hW _ _
 have hval : ∀ (j : Nat) t v, Try.f3.params[j]? = some t → args[j]? = some v → Value.okWide Try.prog W .any base t v := hval0
 have hW' : DataW.Whole enc Try.prog Try.f3.params.toList [] false W args.toList ds gs before := hW
 obtain ⟨p, q, hA, hV, rfl, hfz, hnd⟩ := hW
 have hA : DataW.TrodAll enc Try.prog W 0 (fun _ => true) true [26, 24, 27] args.toList ds p := hA
 obtain ⟨rfl, rfl⟩ := trodVars_none hV
 obtain ⟨v0, vs0, d0, ds0, p0, q0, hargs, rfl, rfl, h0, r0⟩ := trodAll_cons hA
 obtain ⟨v1, vs1, d1, ds1, p1, q1, rfl, rfl, rfl, h1, r1⟩ := trodAll_cons r0
 obtain ⟨v2, vs2, d2, ds2, p2, q2, rfl, rfl, rfl, h2, r2⟩ := trodAll_cons r1
 obtain ⟨rfl, rfl, rfl⟩ := trodAll_nil r2
 obtain rfl : args = #[v0, v1, v2] := by cases args; simp_all
 obtain ⟨f0, hu0, _⟩ := structIs_spec uT26
 obtain ⟨c0, rfl, _⟩ := okWide_struct hu0 (hval 0 26 v0 rfl rfl)
 obtain ⟨a1, l1, k1, rfl⟩ := okWide_slice uT24 (hval 1 24 v1 rfl rfl)
 obtain ⟨c2, rfl, _⟩ := okWide_array uT27 (hval 2 27 v2 rfl rfl)
 obtain ⟨fu0, h0⟩ := h0
 obtain ⟨fu1, h1⟩ := h1
 obtain ⟨fu2, h2⟩ := h2
 obtain ⟨s0, ho0, hr0⟩ := rd_T26 h0
 have hr0 : RepVs W A0 (cWar s0) c0.toList := by simpa [Value.cells] using hr0
 obtain ⟨s1, sv1, e1, hs1, hl1, ho1⟩ := rd_T24 h1
 have e1 : sv1 = Value.slice a1 l1 k1 := by simpa [Value.cells] using e1.symm
 subst e1
 obtain ⟨s2, ho2, e2⟩ := rd_T27 h2
 have hr2 : RepVs W A0 (eN s2) c2.toList := by
  have e : c2.toList = bV s2 := by simpa [Value.cells] using e2
  rw [e]; exact rep_bytes s2
 refine ((boardClosesY s0 ho0 s1 hl1 ho1 s2 ho2).calls (W := W) (vs := [.agg c0, .slice a1 l1 k1, .agg c2]) (laid0 W) (fun G => ?_)).mono ?_
 ·exact ⟨_, _, rfl, ⟨c0, rfl, RepDs.ofVs hr0⟩, _, _, rfl, hs1, _, _, rfl, ⟨c2, rfl, RepDs.ofVs hr2⟩, rfl⟩
 ·rintro e W' ⟨v, rfl, ⟨G', A', hr⟩, hb⟩
  obtain ⟨rfl, _⟩ := hr
  exact ⟨_, rfl, post_true tLaid (by decide +kernel) hW' hb rfl rfl u4 rfl rfl rfl⟩
theorem topBoardClosesHolds : Ytnbgonichmcfaaa.Rows.topBoardClosesRow.holds Ytnbgonichmcfaaa.Try.pinned (OpenSpec.ofChange Ytnbgonichmcfaaa.Rows.topBoardClosesSpec) :=
 OpenClaim.holds_of_wide 3 Try.f3 rfl rfl rfl rfl rfl rfl rfl ⟨rfl, rfl, rfl, rfl, rfl⟩ rfl rfl rfl rfl rfl (by kernel_rfl) Try.func3 (by kernel_rfl)
  (of_decide_eq_true (by kernel_rfl)) (by unfold Func.isWrapper; first | (rw [if_pos (by decide +kernel)]; kernel_rfl) | (rw [if_neg (by decide +kernel)]; exact ⟨rfl, rfl⟩))
  (fun os started H enc _ => topBoardClosesLifted os started H enc)
end Go.Dw.Seat
namespace Go.Proofs.Ytnbgonichmcfaaa
theorem topBoardClosesSaid : Rows.TopBoardClosesSaid := Go.Dw.Seat.topBoardClosesHolds
end Go.Proofs.Ytnbgonichmcfaaa
end
