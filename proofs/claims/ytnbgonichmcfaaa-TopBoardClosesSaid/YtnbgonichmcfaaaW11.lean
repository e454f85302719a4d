/- Helpers of a proof. -/
import Derived.Test.YtnbgonichmcfaaaW10
set_option linter.unusedVariables false
set_option linter.unusedSimpArgs false
section
namespace Go.Dw
open Go.RowKit
variable {P : Program} {N O0 : Nat → Prop} {w0 : World} {σ : St} {G : Gh} {a : Act} {w : World}
def St.killO (σ : St) : Option Nat → St
  | some k => σ.kill k
  | none => σ
theorem Core.killO [Lays] (h : Core N O0 w0 σ G a w) (mv : Option Nat) : Core N O0 w0 (σ.killO mv) G a w := by
  cases mv with
  | none => exact h
  | some k => exact h.kill k
theorem moved_get [Lays] {mv : Option Nat} {j : Nat} {x : Blk} : get j (σ.moved mv).bx = some x ↔ mv ≠ some j ∧ get j (σ.killO mv).bx = some x := by
  cases mv with
  | none => simp [St.moved, St.killO]
  | some k =>
    simp only [St.moved, St.killO, St.delB, get_del]
    by_cases e : j = k
    · subst e; simp
    · rw [if_neg e]
      constructor
      · intro h; exact ⟨fun e2 => e (by cases e2; rfl), h⟩
      · exact fun h => h.2
theorem moved_tm {mv : Option Nat} : (σ.moved mv).tm = (σ.killO mv).tm := by cases mv <;> rfl
theorem moved_nt {mv : Option Nat} : (σ.moved mv).nt = σ.nt := by cases mv <;> rfl
theorem owned_killO [Lays] {mv : Option Nat} {b : Nat} : owned G (σ.killO mv).bx b ↔ owned G σ.bx b := by
  cases mv with
  | none => exact Iff.rfl
  | some k => exact owned_kill
theorem owned_rows [Lays] {mv : Option Nat} {b : Nat} : owned G (σ.rowsOf mv) b ↔ ∃ k x, mv = some k ∧ get k σ.bx = some x ∧ G.β k = some b := by
  constructor
  · rintro ⟨k, x, hk, hb⟩
    rw [get_rowsOf] at hk
    exact ⟨k, x, hk.1, hk.2, hb⟩
  · rintro ⟨k, x, h1, h2, h3⟩
    exact ⟨k, x, get_rowsOf.2 ⟨h1, h2⟩, h3⟩
def Gh.join (G G' : Gh) (bo : List (Nat × Blk)) : Gh :=
  ⟨fun j => if (get j bo).isSome then G'.β j else G.β j, fun j => if (get j bo).isSome then G'.γ j else G.γ j⟩
theorem Core.callRet [Lays] (h : Core N O0 w0 σ G a w) (mv : Option Nat) {bo : List (Nat × Blk)} (hf : freshBs (σ.moved mv) bo) {w' : World} {G' : Gh} {r : D} {v : Value} {N' : Nat → Prop} (hN' : ∀ b, N b ∨ owned G (σ.moved mv).bx b → N' b)
    (hok : okRes r bo) (hheap : HeapOk (AvR N' G' bo) w' G' bo) (hr : RepD w' (AvR N' G' bo) G' r v) (hfr : Fr (owned G (σ.rowsOf mv)) w w')
    (hown : ∀ b, owned G' bo b → owned G (σ.rowsOf mv) b ∨ w.heap.size ≤ b) {dst : Option Tmp} (hd : ∀ t, dst = some t → t < σ.nt) :
    ∃ G'', Core N O0 w0 (((σ.moved mv).addBs bo).putO dst r) G'' (a.put dst v) w' := by
  have h1 := h.killO mv
  refine ⟨G.join G' bo, ?_⟩
  have hbo : ∀ j x, get j (σ.moved mv).bx = some x → get j bo = none := fun j x hj => by
    cases hg : get j bo with
    | none => rfl
    | some y => have := (freshBs_spec hf j y hg).1; rw [hj] at this; cases this
  have hO : ∀ b, owned (G.join G' bo) ((σ.moved mv).addBs bo).bx b ↔ owned G' bo b ∨ owned G (σ.moved mv).bx b := by
    intro b
    constructor
    · rintro ⟨j, x, hj, hb⟩
      rw [get_addBs] at hj
      cases hg : get j bo with
      | some y => simp only [Gh.join, hg, Option.isSome_some, if_true] at hb; exact .inl ⟨j, y, hg, hb⟩
      | none =>
        rw [hg] at hj
        simp only [Gh.join, hg, Option.isSome_none, Bool.false_eq_true, if_false] at hb
        exact .inr ⟨j, x, hj, hb⟩
    · rintro (⟨j, x, hj, hb⟩ | ⟨j, x, hj, hb⟩)
      · exact ⟨j, x, by rw [get_addBs, hj], by simp only [Gh.join, hj, Option.isSome_some, if_true]; exact hb⟩
      · have hg := hbo j x hj
        exact ⟨j, x, by rw [get_addBs, hg]; exact hj, by simp only [Gh.join, hg, Option.isSome_none, Bool.false_eq_true, if_false]; exact hb⟩
  have hmv : ∀ b, owned G (σ.moved mv).bx b → owned G (σ.killO mv).bx b := fun b ⟨j, x, hj, hb⟩ => ⟨j, x, (moved_get.1 hj).2, hb⟩
  have hrow : ∀ b, owned G (σ.rowsOf mv) b → owned G (σ.killO mv).bx b := fun b hb => by
    obtain ⟨k, x, _, h2, h3⟩ := owned_rows.1 hb
    exact owned_killO.2 ⟨k, x, h2, h3⟩
  have hdisj : ∀ b, owned G (σ.moved mv).bx b → ¬ owned G (σ.rowsOf mv) b := fun b ⟨j, x, hj, hb⟩ hb2 => by
    obtain ⟨k, y, hm, h2, h3⟩ := owned_rows.1 hb2
    have hj' := moved_get.1 hj
    have : owned G σ.bx b := ⟨k, y, h2, h3⟩
    have hk : ∃ y', get k (σ.killO mv).bx = some y' := by
      rw [hm]
      exact ⟨killB k y, by simp only [St.killO, St.kill, get_map, h2, Option.map_some]⟩
    obtain ⟨y', hk⟩ := hk
    have e := h1.inj j k x y' b hj'.2 hk hb h3
    exact hj'.1 (by rw [e]; exact hm)
  have hkp : Keeps w w' (Av N G (σ.killO mv).bx) (Av N (G.join G' bo) ((σ.moved mv).addBs bo).bx) := {
    size := hfr.size
    av := fun bw b hb hA hA' => by
      rcases hA' with h2 | h2
      · rcases (hO b).1 h2 with h2 | h2
        · rcases hown b h2 with h3 | h3
          · exact hA (.inl (hrow b h3))
          · omega
        · exact hA (.inl (hmv b h2))
      · exact hA (.inr h2)
    cell := fun bw b hb hA o => cell?_of_heap (hfr.keep b hb (fun h2 => hA (.inl (hrow b h2)))) o }
  have hkr : Keeps w' w' (AvR N' G' bo) (Av N (G.join G' bo) ((σ.moved mv).addBs bo).bx) := {
    size := Nat.le_refl _
    av := fun bw b _ hA hA' => by
      rcases hA' with h2 | h2
      · rcases (hO b).1 h2 with h2 | h2
        · exact hA (.inr (.inl h2))
        · exact hA (.inr (.inr (hN' b (.inr h2))))
      · exact hA (.inr (.inr (hN' b (.inl h2.2))))
    cell := fun _ _ _ _ _ => rfl }
  have hg1 : ∀ j, ¬ (get j bo).isSome = true → (G.join G' bo).β j = G.β j ∧ (G.join G' bo).γ j = G.γ j := fun j hj => by
    simp only [Gh.join, hj, Bool.false_eq_true, if_false, and_self]
  have hg2 : ∀ j, ¬ (get j bo).isSome = false → (G.join G' bo).β j = G'.β j ∧ (G.join G' bo).γ j = G'.γ j := fun j hj => by
    have : (get j bo).isSome = true := by cases hq : (get j bo).isSome <;> simp_all
    simp only [Gh.join, this, if_true, and_self]
  have core : Core N O0 w0 ((σ.moved mv).addBs bo) (G.join G' bo) a w' := {
    rep := fun j x hj => by
      rw [get_addBs] at hj
      cases hg : get j bo with
      | some y =>
        rw [hg] at hj; cases hj
        refine RepB.mono hkr (fun i => (get i bo).isSome = false) hg2 _ (by simp [hg]) (fun _ _ => rfl) (fun i hi => hok.2 j _ hg i ?_) (hheap.rep j _ hg)
        cases hq : get i bo <;> simp_all
      | none =>
        rw [hg] at hj
        have hj' := moved_get.1 hj
        refine RepB.mono hkp (fun i => (get i bo).isSome = true) hg1 x (by simp [hg]) (fun b hb => ?_) (fun i hi => ?_) (h1.rep j x hj'.2)
        · exact hfr.keep b (h1.own b ⟨j, x, hj'.2, hb⟩).1 (hdisj b ⟨j, x, hj, hb⟩)
        · obtain ⟨y, hy⟩ := Option.isSome_iff_exists.1 hi
          exact men_bx (freshBs_spec hf i y hy).2 hj
    inj := fun i j x1 x2 b hi hj hbi hbj => by
      rw [get_addBs] at hi hj
      cases hgi : get i bo with
      | some y1 =>
        rw [hgi] at hi
        rw [(hg2 i (by simp [hgi])).1] at hbi
        cases hgj : get j bo with
        | some y2 =>
          rw [(hg2 j (by simp [hgj])).1] at hbj
          exact hheap.inj i j y1 y2 b hgi hgj hbi hbj
        | none =>
          rw [hgj] at hj
          rw [(hg1 j (by simp [hgj])).1] at hbj
          have ho : owned G (σ.moved mv).bx b := ⟨j, x2, hj, hbj⟩
          rcases hown b ⟨i, y1, hgi, hbi⟩ with h3 | h3
          · exact absurd h3 (hdisj b ho)
          · have := (h1.own b (hmv b ho)).1; omega
      | none =>
        rw [hgi] at hi
        rw [(hg1 i (by simp [hgi])).1] at hbi
        have ho : owned G (σ.moved mv).bx b := ⟨i, x1, hi, hbi⟩
        cases hgj : get j bo with
        | some y2 =>
          rw [(hg2 j (by simp [hgj])).1] at hbj
          rcases hown b ⟨j, y2, hgj, hbj⟩ with h3 | h3
          · exact absurd h3 (hdisj b ho)
          · have := (h1.own b (hmv b ho)).1; omega
        | none =>
          rw [hgj] at hj
          rw [(hg1 j (by simp [hgj])).1] at hbj
          exact h1.inj i j x1 x2 b (moved_get.1 hi).2 (moved_get.1 hj).2 hbi hbj
    own := fun b hb => by
      rcases (hO b).1 hb with h2 | h2
      · refine ⟨hheap.lt b h2, ?_⟩
        rcases hown b h2 with h3 | h3
        · exact (h1.own b (hrow b h3)).2
        · have := h.fr.size; exact .inr (by omega)
      · have := h1.own b (hmv b h2)
        exact ⟨Nat.lt_of_lt_of_le this.1 hfr.size, this.2⟩
    tm := fun t d ht => by
      rw [addBs_tm] at ht
      have ht' : get t (σ.killO mv).tm = some d := by rw [← moved_tm]; exact ht
      obtain ⟨y, hy, hry⟩ := h1.tm t d ht'
      refine ⟨y, hy, RepD.mono hkp (fun i => (get i bo).isSome = true) hg1 d y (fun i hi => ?_) hry⟩
      obtain ⟨z, hz⟩ := Option.isSome_iff_exists.1 hi
      exact men_tm (freshBs_spec hf i z hz).2 ht
    nt := by rw [addBs_nt, moved_nt]; exact h.nt
    df := by
      obtain ⟨rs, e1, e2, e3⟩ := h.df
      refine ⟨rs, e1, e2, fun r hr => ⟨?_, (e3 r hr).2⟩⟩
      have hr3 := (e3 r hr).1
      rw [hfr.keep r (lt_of_heap hr3) (fun ho => ?_)]
      · exact hr3
      · obtain ⟨k, x, _, h2, h3⟩ := owned_rows.1 ho
        obtain ⟨o, hc, ho⟩ := h.cells h2 h3
        rw [hr3] at hc; cases hc; cases ho
    fr := ⟨hfr.os.trans h.fr.os, hfr.tape.trans h.fr.tape, hfr.output.trans h.fr.output, Nat.le_trans h.fr.size hfr.size, fun b hb hO0 => by
      have hlt : b < w.heap.size := Nat.lt_of_lt_of_le hb h.fr.size
      rw [hfr.keep b hlt (fun ho => ?_)]
      · exact h.fr.keep b hb hO0
      · rcases (h1.own b (hrow b ho)).2 with h3 | h3
        · exact hO0 h3
        · omega⟩
    nlt := h.nlt
    odis := h.odis
    laid := h.laid }
  refine core.putO (fun t ht => by rw [addBs_nt, moved_nt]; exact hd t ht) ?_
  refine RepD.mono hkr (fun i => (get i bo).isSome = false) hg2 _ _ (fun i hi => hok.1 i ?_) hr
  cases hq : get i bo <;> simp_all
theorem get_append {α : Type} (k : Nat) (l2 : List (Nat × α)) : ∀ l1 : List (Nat × α), get k (l1 ++ l2) = match get k l1 with | some x => some x | none => get k l2
  | [] => rfl
  | p :: l => by
    simp only [List.cons_append, get]
    split
    · rfl
    · exact get_append k l2 l
theorem Core.sub [Lays] {nt : Nat} {tm : List (Nat × D)} {bx bx' : List (Nat × Blk)} (h : Core N O0 w0 ⟨nt, tm, bx⟩ G a w) (hb : ∀ k x, get k bx' = some x → get k bx = some x) : Core N O0 w0 ⟨nt, tm, bx'⟩ G a w := by
  have ho : ∀ b, owned G bx' b → owned G bx b := fun b ⟨k, x, hk, hb'⟩ => ⟨k, x, hb k x hk, hb'⟩
  have hkp : Keeps w w (Av N G bx) (Av N G bx') := ⟨Nat.le_refl _, fun _ _ _ hA hA' => hA (hA'.imp (ho _) id), fun _ _ _ _ _ => rfl⟩
  exact {
    rep := fun k x hk => RepB.mono hkp (fun _ => False) (fun _ _ => ⟨rfl, rfl⟩) x (fun h => h) (fun _ _ => rfl) (fun _ h => h.elim) (h.rep k x (hb k x hk))
    inj := fun k k' x x' b hk hk' => h.inj k k' x x' b (hb k x hk) (hb k' x' hk')
    own := fun b hb' => h.own b (ho b hb')
    tm := fun t d hd => let ⟨y, hy, hr⟩ := h.tm t d hd; ⟨y, hy, RepD.keep hkp d y hr⟩
    nt := h.nt
    df := h.df
    fr := h.fr
    nlt := h.nlt
    odis := h.odis
    laid := h.laid }
theorem Core.yieldRet [Lays] {nt : Nat} {tm : List (Nat × D)} {own hd bo : List (Nat × Blk)} (h : Core N O0 w0 ⟨nt, tm, own ++ hd⟩ G a w)
    (ho1 : ∀ k, 1000 ≤ k → get k own = none ∧ St.men k ⟨nt, tm, own⟩ = false) (hh : ∀ k, k < 1000 → get k hd = none ∧ get k bo = none)
    {w' : World} {G' : Gh} {r : D} {v : Value} {N' : Nat → Prop} (hN' : ∀ b, N b ∨ owned G own b → N' b)
    (hok : okRes r bo) (hheap : HeapOk (AvR N' G' bo) w' G' bo) (hr : RepD w' (AvR N' G' bo) G' r v) (hfr : Fr (owned G hd) w w')
    (hown : ∀ b, owned G' bo b → owned G hd b ∨ w.heap.size ≤ b) {dst : Option Tmp} (hdst : ∀ t, dst = some t → t < nt) :
    ∃ G'', Core N O0 w0 ((⟨nt, tm, own ++ bo⟩ : St).putO dst r) G'' (a.put dst v) w' := by
  refine ⟨G.join G' bo, ?_⟩
  have hlo : ∀ j x, get j own = some x → j < 1000 := fun j x hj => by
    rcases Nat.lt_or_ge j 1000 with h | h
    · exact h
    · rw [(ho1 j h).1] at hj; cases hj
  have hhi : ∀ j x, get j hd = some x → 1000 ≤ j ∧ get j own = none := fun j x hj => by
    rcases Nat.lt_or_ge j 1000 with h | h
    · rw [(hh j h).1] at hj; cases hj
    · exact ⟨h, (ho1 j h).1⟩
  have hbi : ∀ j x, get j bo = some x → 1000 ≤ j ∧ get j own = none := fun j x hj => by
    rcases Nat.lt_or_ge j 1000 with h | h
    · rw [(hh j h).2] at hj; cases hj
    · exact ⟨h, (ho1 j h).1⟩
  have hbo : ∀ j x, get j own = some x → get j bo = none := fun j x hj => (hh j (hlo j x hj)).2
  have gown : ∀ j x, get j own = some x → get j (own ++ hd) = some x := fun j x hj => by rw [get_append, hj]
  have ghd : ∀ j x, get j hd = some x → get j (own ++ hd) = some x := fun j x hj => by rw [get_append, (hhi j x hj).2]; exact hj
  have hget : ∀ j x, get j (own ++ bo) = some x → get j bo = some x ∨ (get j bo = none ∧ get j own = some x) := fun j x hj => by
    rw [get_append] at hj
    cases hg : get j own with
    | none => rw [hg] at hj; exact .inl hj
    | some y => rw [hg] at hj; cases hj; exact .inr ⟨hbo j _ hg, rfl⟩
  have hO : ∀ b, owned (G.join G' bo) (own ++ bo) b ↔ owned G' bo b ∨ owned G own b := by
    intro b
    constructor
    · rintro ⟨j, x, hj, hb⟩
      rcases hget j x hj with hg | ⟨hg, hj⟩
      · simp only [Gh.join, hg, Option.isSome_some, if_true] at hb; exact .inl ⟨j, x, hg, hb⟩
      · simp only [Gh.join, hg, Option.isSome_none, Bool.false_eq_true, if_false] at hb
        exact .inr ⟨j, x, hj, hb⟩
    · rintro (⟨j, x, hj, hb⟩ | ⟨j, x, hj, hb⟩)
      · exact ⟨j, x, by rw [get_append, (hbi j x hj).2]; exact hj, by simp only [Gh.join, hj, Option.isSome_some, if_true]; exact hb⟩
      · exact ⟨j, x, by rw [get_append, hj], by simp only [Gh.join, hbo j x hj, Option.isSome_none, Bool.false_eq_true, if_false]; exact hb⟩
  have hmv : ∀ b, owned G own b → owned G (own ++ hd) b := fun b ⟨j, x, hj, hb⟩ => ⟨j, x, gown j x hj, hb⟩
  have hrow : ∀ b, owned G hd b → owned G (own ++ hd) b := fun b ⟨j, x, hj, hb⟩ => ⟨j, x, ghd j x hj, hb⟩
  have hdisj : ∀ b, owned G own b → ¬ owned G hd b := fun b ⟨j, x, hj, hb⟩ ⟨k, y, hk, hb2⟩ => by
    have e := h.inj j k x y b (gown j x hj) (ghd k y hk) hb hb2
    have h1 := hlo j x hj
    have h2 := (hhi k y hk).1
    omega
  have hkp : Keeps w w' (Av N G (own ++ hd)) (Av N (G.join G' bo) (own ++ bo)) := {
    size := hfr.size
    av := fun bw b hb hA hA' => by
      rcases hA' with h2 | h2
      · rcases (hO b).1 h2 with h2 | h2
        · rcases hown b h2 with h3 | h3
          · exact hA (.inl (hrow b h3))
          · omega
        · exact hA (.inl (hmv b h2))
      · exact hA (.inr h2)
    cell := fun bw b hb hA o => cell?_of_heap (hfr.keep b hb (fun h2 => hA (.inl (hrow b h2)))) o }
  have hkr : Keeps w' w' (AvR N' G' bo) (Av N (G.join G' bo) (own ++ bo)) := {
    size := Nat.le_refl _
    av := fun bw b _ hA hA' => by
      rcases hA' with h2 | h2
      · rcases (hO b).1 h2 with h2 | h2
        · exact hA (.inr (.inl h2))
        · exact hA (.inr (.inr (hN' b (.inr h2))))
      · exact hA (.inr (.inr (hN' b (.inl h2.2))))
    cell := fun _ _ _ _ _ => rfl }
  have hg1 : ∀ j, ¬ (get j bo).isSome = true → (G.join G' bo).β j = G.β j ∧ (G.join G' bo).γ j = G.γ j := fun j hj => by
    simp only [Gh.join, hj, Bool.false_eq_true, if_false, and_self]
  have hg2 : ∀ j, ¬ (get j bo).isSome = false → (G.join G' bo).β j = G'.β j ∧ (G.join G' bo).γ j = G'.γ j := fun j hj => by
    have : (get j bo).isSome = true := by cases hq : (get j bo).isSome <;> simp_all
    simp only [Gh.join, this, if_true, and_self]
  have hmen : ∀ i, (get i bo).isSome = true → St.men i ⟨nt, tm, own⟩ = false := fun i hi => by
    obtain ⟨y, hy⟩ := Option.isSome_iff_exists.1 hi
    exact (ho1 i (hbi i y hy).1).2
  have core : Core N O0 w0 ⟨nt, tm, own ++ bo⟩ (G.join G' bo) a w' := {
    rep := fun j x hj => by
      rcases hget j x hj with hg | ⟨hg, hj'⟩
      · refine RepB.mono hkr (fun i => (get i bo).isSome = false) hg2 _ (by simp [hg]) (fun _ _ => rfl) (fun i hi => hok.2 j _ hg i ?_) (hheap.rep j _ hg)
        cases hq : get i bo <;> simp_all
      · refine RepB.mono hkp (fun i => (get i bo).isSome = true) hg1 x (by simp [hg]) (fun b hb => ?_) (fun i hi => men_bx (hmen i hi) hj') (h.rep j x (gown j x hj'))
        exact hfr.keep b (h.own b ⟨j, x, gown j x hj', hb⟩).1 (hdisj b ⟨j, x, hj', hb⟩)
    inj := fun i j x1 x2 b hi hj hbi' hbj => by
      rcases hget i x1 hi with hgi | ⟨hgi, hi⟩
      · rw [(hg2 i (by simp [hgi])).1] at hbi'
        rcases hget j x2 hj with hgj | ⟨hgj, hj⟩
        · rw [(hg2 j (by simp [hgj])).1] at hbj
          exact hheap.inj i j x1 x2 b hgi hgj hbi' hbj
        · rw [(hg1 j (by simp [hgj])).1] at hbj
          have ho : owned G own b := ⟨j, x2, hj, hbj⟩
          rcases hown b ⟨i, x1, hgi, hbi'⟩ with h3 | h3
          · exact absurd h3 (hdisj b ho)
          · have := (h.own b (hmv b ho)).1; omega
      · rw [(hg1 i (by simp [hgi])).1] at hbi'
        have ho : owned G own b := ⟨i, x1, hi, hbi'⟩
        rcases hget j x2 hj with hgj | ⟨hgj, hj⟩
        · rw [(hg2 j (by simp [hgj])).1] at hbj
          rcases hown b ⟨j, x2, hgj, hbj⟩ with h3 | h3
          · exact absurd h3 (hdisj b ho)
          · have := (h.own b (hmv b ho)).1; omega
        · rw [(hg1 j (by simp [hgj])).1] at hbj
          exact h.inj i j x1 x2 b (gown i x1 hi) (gown j x2 hj) hbi' hbj
    own := fun b hb => by
      rcases (hO b).1 hb with h2 | h2
      · refine ⟨hheap.lt b h2, ?_⟩
        rcases hown b h2 with h3 | h3
        · exact (h.own b (hrow b h3)).2
        · have := h.fr.size; exact .inr (by omega)
      · have := h.own b (hmv b h2)
        exact ⟨Nat.lt_of_lt_of_le this.1 hfr.size, this.2⟩
    tm := fun t d ht => by
      obtain ⟨y, hy, hry⟩ := h.tm t d ht
      exact ⟨y, hy, RepD.mono hkp (fun i => (get i bo).isSome = true) hg1 d y (fun i hi => men_tm (hmen i hi) ht) hry⟩
    nt := h.nt
    df := by
      obtain ⟨rs, e1, e2, e3⟩ := h.df
      refine ⟨rs, e1, e2, fun r hr => ⟨?_, (e3 r hr).2⟩⟩
      have hr3 := (e3 r hr).1
      rw [hfr.keep r (lt_of_heap hr3) (fun ho => ?_)]
      · exact hr3
      · obtain ⟨k, x, h2, h3⟩ := ho
        obtain ⟨o, hc, ho⟩ := h.cells (ghd k x h2) h3
        rw [hr3] at hc; cases hc; cases ho
    fr := ⟨hfr.os.trans h.fr.os, hfr.tape.trans h.fr.tape, hfr.output.trans h.fr.output, Nat.le_trans h.fr.size hfr.size, fun b hb hO0 => by
      have hlt : b < w.heap.size := Nat.lt_of_lt_of_le hb h.fr.size
      rw [hfr.keep b hlt (fun ho => ?_)]
      · exact h.fr.keep b hb hO0
      · rcases (h.own b (hrow b ho)).2 with h3 | h3
        · exact hO0 h3
        · omega⟩
    nlt := h.nlt
    odis := h.odis
    laid := h.laid }
  refine core.putO (fun t ht => hdst t ht) ?_
  refine RepD.mono hkr (fun i => (get i bo).isSome = false) hg2 _ _ (fun i hi => hok.1 i ?_) hr
  cases hq : get i bo <;> simp_all
theorem Core.handRet [Lays] {nt : Nat} {tm : List (Nat × D)} {own hd bo : List (Nat × Blk)} (h : Core N O0 w0 ⟨nt, tm, hd ++ own⟩ G a w)
    (hdo : ∀ k x, get k own = some x → get k hd = none) (hbo1 : ∀ k x, get k bo = some x → get k own = none ∧ St.men k ⟨nt, tm, own⟩ = false)
    {w' : World} {G' : Gh} {r : D} {v : Value} {N' : Nat → Prop} (hN' : ∀ b, N b ∨ owned G own b → N' b)
    (hok : okRes r bo) (hheap : HeapOk (AvR N' G' bo) w' G' bo) (hr : RepD w' (AvR N' G' bo) G' r v) (hfr : Fr (owned G hd) w w')
    (hown : ∀ b, owned G' bo b → owned G hd b ∨ w.heap.size ≤ b) {dst : Option Tmp} (hdst : ∀ t, dst = some t → t < nt) :
    ∃ G'', Core N O0 w0 ((⟨nt, tm, bo ++ own⟩ : St).putO dst r) G'' (a.put dst v) w' := by
  refine ⟨G.join G' bo, ?_⟩
  have hbo : ∀ j x, get j own = some x → get j bo = none := fun j x hj => by
    cases hg : get j bo with
    | none => rfl
    | some y => rw [(hbo1 j y hg).1] at hj; cases hj
  have gown : ∀ j x, get j own = some x → get j (hd ++ own) = some x := fun j x hj => by rw [get_append, hdo j x hj]; exact hj
  have ghd : ∀ j x, get j hd = some x → get j (hd ++ own) = some x := fun j x hj => by rw [get_append, hj]
  have hget : ∀ j x, get j (bo ++ own) = some x → get j bo = some x ∨ (get j bo = none ∧ get j own = some x) := fun j x hj => by
    rw [get_append] at hj
    cases hg : get j bo with
    | none => rw [hg] at hj; exact .inr ⟨rfl, hj⟩
    | some y => rw [hg] at hj; exact .inl hj
  have hO : ∀ b, owned (G.join G' bo) (bo ++ own) b ↔ owned G' bo b ∨ owned G own b := by
    intro b
    constructor
    · rintro ⟨j, x, hj, hb⟩
      rcases hget j x hj with hg | ⟨hg, hj⟩
      · simp only [Gh.join, hg, Option.isSome_some, if_true] at hb; exact .inl ⟨j, x, hg, hb⟩
      · simp only [Gh.join, hg, Option.isSome_none, Bool.false_eq_true, if_false] at hb
        exact .inr ⟨j, x, hj, hb⟩
    · rintro (⟨j, x, hj, hb⟩ | ⟨j, x, hj, hb⟩)
      · exact ⟨j, x, by rw [get_append, hj], by simp only [Gh.join, hj, Option.isSome_some, if_true]; exact hb⟩
      · exact ⟨j, x, by rw [get_append, hbo j x hj]; exact hj, by simp only [Gh.join, hbo j x hj, Option.isSome_none, Bool.false_eq_true, if_false]; exact hb⟩
  have hmv : ∀ b, owned G own b → owned G (hd ++ own) b := fun b ⟨j, x, hj, hb⟩ => ⟨j, x, gown j x hj, hb⟩
  have hrow : ∀ b, owned G hd b → owned G (hd ++ own) b := fun b ⟨j, x, hj, hb⟩ => ⟨j, x, ghd j x hj, hb⟩
  have hdisj : ∀ b, owned G own b → ¬ owned G hd b := fun b ⟨j, x, hj, hb⟩ ⟨k, y, hk, hb2⟩ => by
    have e := h.inj j k x y b (gown j x hj) (ghd k y hk) hb hb2
    subst e
    rw [hdo j x hj] at hk; cases hk
  have hkp : Keeps w w' (Av N G (hd ++ own)) (Av N (G.join G' bo) (bo ++ own)) := {
    size := hfr.size
    av := fun bw b hb hA hA' => by
      rcases hA' with h2 | h2
      · rcases (hO b).1 h2 with h2 | h2
        · rcases hown b h2 with h3 | h3
          · exact hA (.inl (hrow b h3))
          · omega
        · exact hA (.inl (hmv b h2))
      · exact hA (.inr h2)
    cell := fun bw b hb hA o => cell?_of_heap (hfr.keep b hb (fun h2 => hA (.inl (hrow b h2)))) o }
  have hkr : Keeps w' w' (AvR N' G' bo) (Av N (G.join G' bo) (bo ++ own)) := {
    size := Nat.le_refl _
    av := fun bw b _ hA hA' => by
      rcases hA' with h2 | h2
      · rcases (hO b).1 h2 with h2 | h2
        · exact hA (.inr (.inl h2))
        · exact hA (.inr (.inr (hN' b (.inr h2))))
      · exact hA (.inr (.inr (hN' b (.inl h2.2))))
    cell := fun _ _ _ _ _ => rfl }
  have hg1 : ∀ j, ¬ (get j bo).isSome = true → (G.join G' bo).β j = G.β j ∧ (G.join G' bo).γ j = G.γ j := fun j hj => by
    simp only [Gh.join, hj, Bool.false_eq_true, if_false, and_self]
  have hg2 : ∀ j, ¬ (get j bo).isSome = false → (G.join G' bo).β j = G'.β j ∧ (G.join G' bo).γ j = G'.γ j := fun j hj => by
    have : (get j bo).isSome = true := by cases hq : (get j bo).isSome <;> simp_all
    simp only [Gh.join, this, if_true, and_self]
  have hmen : ∀ i, (get i bo).isSome = true → St.men i ⟨nt, tm, own⟩ = false := fun i hi => by
    obtain ⟨y, hy⟩ := Option.isSome_iff_exists.1 hi
    exact (hbo1 i y hy).2
  have core : Core N O0 w0 ⟨nt, tm, bo ++ own⟩ (G.join G' bo) a w' := {
    rep := fun j x hj => by
      rcases hget j x hj with hg | ⟨hg, hj'⟩
      · refine RepB.mono hkr (fun i => (get i bo).isSome = false) hg2 _ (by simp [hg]) (fun _ _ => rfl) (fun i hi => hok.2 j _ hg i ?_) (hheap.rep j _ hg)
        cases hq : get i bo <;> simp_all
      · refine RepB.mono hkp (fun i => (get i bo).isSome = true) hg1 x (by simp [hg]) (fun b hb => ?_) (fun i hi => men_bx (hmen i hi) hj') (h.rep j x (gown j x hj'))
        exact hfr.keep b (h.own b ⟨j, x, gown j x hj', hb⟩).1 (hdisj b ⟨j, x, hj', hb⟩)
    inj := fun i j x1 x2 b hi hj hbi' hbj => by
      rcases hget i x1 hi with hgi | ⟨hgi, hi⟩
      · rw [(hg2 i (by simp [hgi])).1] at hbi'
        rcases hget j x2 hj with hgj | ⟨hgj, hj⟩
        · rw [(hg2 j (by simp [hgj])).1] at hbj
          exact hheap.inj i j x1 x2 b hgi hgj hbi' hbj
        · rw [(hg1 j (by simp [hgj])).1] at hbj
          have ho : owned G own b := ⟨j, x2, hj, hbj⟩
          rcases hown b ⟨i, x1, hgi, hbi'⟩ with h3 | h3
          · exact absurd h3 (hdisj b ho)
          · have := (h.own b (hmv b ho)).1; omega
      · rw [(hg1 i (by simp [hgi])).1] at hbi'
        have ho : owned G own b := ⟨i, x1, hi, hbi'⟩
        rcases hget j x2 hj with hgj | ⟨hgj, hj⟩
        · rw [(hg2 j (by simp [hgj])).1] at hbj
          rcases hown b ⟨j, x2, hgj, hbj⟩ with h3 | h3
          · exact absurd h3 (hdisj b ho)
          · have := (h.own b (hmv b ho)).1; omega
        · rw [(hg1 j (by simp [hgj])).1] at hbj
          exact h.inj i j x1 x2 b (gown i x1 hi) (gown j x2 hj) hbi' hbj
    own := fun b hb => by
      rcases (hO b).1 hb with h2 | h2
      · refine ⟨hheap.lt b h2, ?_⟩
        rcases hown b h2 with h3 | h3
        · exact (h.own b (hrow b h3)).2
        · have := h.fr.size; exact .inr (by omega)
      · have := h.own b (hmv b h2)
        exact ⟨Nat.lt_of_lt_of_le this.1 hfr.size, this.2⟩
    tm := fun t d ht => by
      obtain ⟨y, hy, hry⟩ := h.tm t d ht
      exact ⟨y, hy, RepD.mono hkp (fun i => (get i bo).isSome = true) hg1 d y (fun i hi => men_tm (hmen i hi) ht) hry⟩
    nt := h.nt
    df := by
      obtain ⟨rs, e1, e2, e3⟩ := h.df
      refine ⟨rs, e1, e2, fun r hr => ⟨?_, (e3 r hr).2⟩⟩
      have hr3 := (e3 r hr).1
      rw [hfr.keep r (lt_of_heap hr3) (fun ho => ?_)]
      · exact hr3
      · obtain ⟨k, x, h2, h3⟩ := ho
        obtain ⟨o, hc, ho⟩ := h.cells (ghd k x h2) h3
        rw [hr3] at hc; cases hc; cases ho
    fr := ⟨hfr.os.trans h.fr.os, hfr.tape.trans h.fr.tape, hfr.output.trans h.fr.output, Nat.le_trans h.fr.size hfr.size, fun b hb hO0 => by
      have hlt : b < w.heap.size := Nat.lt_of_lt_of_le hb h.fr.size
      rw [hfr.keep b hlt (fun ho => ?_)]
      · exact h.fr.keep b hb hO0
      · rcases (h.own b (hrow b ho)).2 with h3 | h3
        · exact hO0 h3
        · omega⟩
    nlt := h.nlt
    odis := h.odis
    laid := h.laid }
  refine core.putO (fun t ht => hdst t ht) ?_
  refine RepD.mono hkr (fun i => (get i bo).isSome = false) hg2 _ _ (fun i hi => hok.1 i ?_) hr
  cases hq : get i bo <;> simp_all
end Go.Dw
end
