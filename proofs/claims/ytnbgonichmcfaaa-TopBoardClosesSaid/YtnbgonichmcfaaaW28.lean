/- Helpers of a proof. -/
import Derived.Test.YtnbgonichmcfaaaW27
set_option linter.unusedVariables false
set_option linter.unusedSimpArgs false
section
namespace Go.Dw
open Go.RowKit
variable {P : Program} {α ε : Type}
theorem get_last [Lays] {β : Type} (b : List (Nat × β)) (c : Nat × β) (k : Nat) (hc : c.1 = 999) (hb : get 999 b = none) : get k (b ++ [c]) = if k = 999 then some c.2 else get k b := by
  rw [get_append]
  by_cases e : k = 999
  · subst e; rw [hb]; simp [get, hc]
  · rw [if_neg e]
    cases hk : get k b with
    | some x => rfl
    | none => simp only [get]; rw [if_neg (by omega)]
def runIt (step : α → ε → Option Exit × α) : α → List ε → Option Exit × α
  | a, [] => (none, a)
  | a, e :: l => match step a e with
    | (none, a') => runIt step a' l
    | (some x, a') => (some x, a')
def runB {β : Type} (st : β → ε → Bool × β) : β → List ε → β
  | b, [] => b
  | b, e :: l => if (st b e).1 then runB st (st b e).2 l else (st b e).2
theorem runIt_ok {step : α → ε → Option Exit × α} (h : ∀ a e, okJ (step a e).1 = true) : ∀ (seq : List ε) (a : α), okJ (runIt step a seq).1 = true
  | [], a => rfl
  | e :: l, a => by
    simp only [runIt]
    have h1 := h a e
    rcases hs : step a e with ⟨o, a'⟩
    rw [hs] at h1
    cases o with
    | none => exact runIt_ok h l a'
    | some x => exact h1
theorem runB_it (step : α → ε → Option Exit × α) : ∀ (seq : List ε) (a : α), runB (fun (b : Option Exit × α) e => ((step b.2 e).1.isNone, step b.2 e)) (none, a) seq = runIt step a seq
  | [], a => rfl
  | e :: l, a => by
    simp only [runB, runIt]
    rcases hs : step a e with ⟨o, a'⟩
    cases o with
    | none => simp only [Option.isNone_none, if_true]; exact runB_it step l a'
    | some x => simp
structure HidOk (h : List (Nat × Blk)) : Prop where
  lo : ∀ k, k < 1000 → get k h = none
  men : ∀ k, k < 1000 → h.any (fun p => p.2.men k) = false
  nb : ∀ j x, get j h = some x → x.nb = true
  ok : ∀ j x, get j h = some x → ∀ k, get k h = none → x.men k = false
def ItC [Lays] (P : Program) (f : FuncId) (fs caps : List C) (en : ε → List D) (seq : List ε) : Prop :=
  ∀ (l : Nat) (β : Type) (H : β → List (Nat × Blk)) (st : β → ε → Bool × β) (live : β → Prop), (∀ b, HidOk (H b)) →
    (∀ b e, live b → e ∈ seq → YCall P l (en e) (H b) (bD (st b e).1) (H (st b e).2) ∧ ((st b e).1 = true → live (st b e).2)) →
    ∀ b0, live b0 → DCall P f (fs.map D.c ++ [.c (.fn (.yield l) [] [])] ++ caps.map D.c) (H b0) (.tup []) (H (runB st b0 seq))
theorem hid_ok [Lays] {l : Nat} {r : Loop} {v : Nat → Value} {tm : List (Nat × D)} {bx : List (Nat × Blk)} (h9 : get 999 bx = none)
    (hwf : ∀ k, get k bx = none → (∀ j x, get j bx = some x → x.men k = false) ∧ ∀ p ∈ tm, p.2.men k = false) (hnb : ∀ j x, get j bx = some x → x.nb = true) (hnt : ∀ p ∈ tm, p.2.nb = true) :
    HidOk (shl (bx ++ [recB l r v tm])) := by
  have g : ∀ k, get k (bx ++ [recB l r v tm]) = if k = 999 then some (recB l r v tm).2 else get k bx := fun k => get_last bx _ k rfl h9
  refine ⟨fun k hk => get_shl_lo hk _, fun k hk => ?_, fun j y hj => ?_, fun j y hj k hk => ?_⟩
  · simp only [shl, List.any_map, List.any_eq_false]
    intro p _
    simp [Function.comp, bmen_sh_lo hk p.2]
  · obtain ⟨k, x, rfl, hk, rfl⟩ := get_shl_some hj
    refine bnb_sh x ?_
    rw [g] at hk
    split at hk
    · cases hk
      simp only [recB, Blk.nb, List.all_eq_true]
      exact hnt
    · exact hnb k x hk
  · obtain ⟨j, x, rfl, hx, rfl⟩ := get_shl_some hj
    rcases Nat.lt_or_ge k 1000 with hlt | hge
    · exact bmen_sh_lo hlt x
    · obtain ⟨k, rfl⟩ : ∃ k', k = k' + 1000 := ⟨k - 1000, by omega⟩
      rw [get_shl, Option.map_eq_none_iff, g] at hk
      rw [bmen_sh]
      rw [g] at hx
      split at hk
      · cases hk
      · split at hx
        · cases hx
          simp only [recB, Blk.men, List.any_eq_false]
          intro p hp
          rw [(hwf k hk).2 p hp]; simp
        · exact (hwf k hk).1 j x hx
theorem run_enterLoop_inner (w : World) (fn : FuncId) (tmps : Array Value) (ps : Array Tmp) (assign body : Code) {l0 : Nat} {r0 : Loop} (h : w.heap[l0]? = some (.loop r0)) :
    (Instr.enterLoop fn tmps ps assign body (some l0)).run P w =
      .ok (w.heap.size, []) (w.alloc (.loop { state := .ready, pending := none, fn, tmps, params := ps, assign, body, defers := r0.defers })) := by
  unfold Instr.enterLoop
  simp only [Sem.run_bind, run_getLoop h, run_newObj_alloc, Result.andThen, Sem.run_pure]
theorem enter_any [Lays] (w : World) (fn : FuncId) (tmps : Array Value) (ps : Array Tmp) (assign body : Code) (rd : Option Nat) (h : ∀ l, rd = some l → ∃ r, w.heap[l]? = some (.loop r)) :
    ∃ (l : Nat) (mark : List Deferred) (w1 : World) (m : Nat), (Instr.enterLoop fn tmps ps assign body rd).run P w = .ok (l, mark) w1 ∧ w1.heap[l]? = some (.loop (RC.after ⟨fn, tmps, ps, assign, body, m⟩ none)) ∧ w.heap.size ≤ l ∧
      w.heap.size ≤ w1.heap.size ∧ (∀ b, b < w.heap.size → w1.heap[b]? = w.heap[b]?) ∧ w1.os = w.os ∧ w1.tape = w.tape ∧ w1.output = w.output ∧
      (mark = [] ∨ (mark = [{ target := .collected m, args := #[] }] ∧ w1.heap[m]? = some (.deferred (some [])) ∧ w.heap.size ≤ m ∧ m ≠ l)) := by
  cases rd with
  | none =>
    refine ⟨_, _, _, w.heap.size, run_enterLoop_outer fn tmps ps assign body, ?_, by omega, by simp; omega, fun b hb => ?_, rfl, rfl, rfl, .inr ⟨rfl, ?_, Nat.le_refl _, by omega⟩⟩
    · have := heap_alloc_new (w.alloc (.deferred (some []))) (.loop (RC.after ⟨fn, tmps, ps, assign, body, w.heap.size⟩ none))
      simpa [RC.after, RC.loop, jumpC] using this
    · rw [heap_alloc_lt _ _ (by simp; omega), heap_alloc_lt _ _ hb]
    · rw [heap_alloc_lt _ _ (by simp), heap_alloc_new]
  | some l0 =>
    obtain ⟨r0, h0⟩ := h l0 rfl
    refine ⟨_, _, _, r0.defers, run_enterLoop_inner w fn tmps ps assign body h0, ?_, Nat.le_refl _, by simp, fun b hb => ?_, rfl, rfl, rfl, .inl rfl⟩
    · have := heap_alloc_new w (.loop (RC.after ⟨fn, tmps, ps, assign, body, r0.defers⟩ none))
      simpa [RC.after, RC.loop, jumpC] using this
    · rw [heap_alloc_lt _ _ hb]
theorem nodup_get : ∀ {tm : List (Nat × D)}, (tm.map (·.1)).Nodup → ∀ p ∈ tm, get p.1 tm = some p.2
  | [], _, p, hp => by cases hp
  | q :: tm, h, p, hp => by
    simp only [List.map_cons, List.nodup_cons, List.mem_map, not_exists, not_and] at h
    simp only [get]
    rcases List.mem_cons.1 hp with rfl | hp
    · rw [if_pos rfl]
    · rw [if_neg (fun e => h.1 p hp e), nodup_get h.2 p hp]
theorem W.rng [Lays] {g : Operand} {ps : Array Tmp} {assign body : Code} {Q : Exit → St → Prop} {nt : Nat} {tm : List (Nat × D)} {bx0 : List (Nat × Blk)} {f : FuncId} {fs caps : List C} (hg : calleeD (St.op ⟨nt, tm, bx0⟩ g) = some (f, fs.map D.c, caps.map D.c))
    (hid : α → List (Nat × Blk)) (a0 : α) (hb0 : hid a0 = bx0) (step : α → ε → Option Exit × α) (en : ε → List D) (seq : List ε) (hit : ItC P f fs caps en seq) (hps : ∀ p ∈ ps.toList, p < nt) (hlen : ∀ e ∈ seq, ps.toList.length = (en e).length)
    (hcl : ∀ e ∈ seq, ∀ k, D.mens k (en e) = false) (nd : (tm.map (·.1)).Nodup) (h9 : ∀ a, get 999 (hid a) = none) (hwf : ∀ a k, get k (hid a) = none → (∀ j x, get j (hid a) = some x → x.men k = false) ∧ ∀ p ∈ tm, p.2.men k = false)
    (hnb : ∀ a j x, get j (hid a) = some x → x.nb = true) (hnt : ∀ p ∈ tm, p.2.nb = true) (hoj : ∀ a e, okJ (step a e).1 = true)
    (hbody : ∀ a, ∀ e ∈ seq, ∀ v, W P assign (fun x σ' => x = .normal ∧ W P body (roundQ nt v tm (step a e).1 (hid (step a e).2)) σ') ⟨nt, insPs ps.toList (en e) tm, hid a ++ [capB v tm]⟩)
    (hend : Q ((runIt step a0 seq).1.getD .normal) ⟨nt, tm, hid (runIt step a0 seq).2⟩) : W P (.rangeFunc g ps assign body) Q ⟨nt, tm, bx0⟩ := by
  intro N O0 w0 a w rd n Qm hi hq
  obtain ⟨G, hc⟩ := hi
  subst hb0
  refine wpIn_rangeFunc fun fn _ => ?_
  have hrd : ∀ l, rd.1 = some l → ∃ r, w.heap[l]? = some (.loop r) := fun l hl => by
    obtain ⟨r, hr, ho⟩ := rd.2 l hl
    exact ⟨r, by rw [hc.fr.keep l (lt_of_heap hr) ho]; exact hr⟩
  obtain ⟨l, mark, w1, m, he, hl1, hwl, hsz1, hk1, hos1, htp1, hou1, hmark⟩ := enter_any (P := P) w fn a.tmps ps assign body rd.1 hrd
  let r : RC := ⟨fn, a.tmps, ps, assign, body, m⟩
  let v : Nat → Value := fun t => a.tmps.getD t undef
  have hll1 := lt_of_heap hl1
  have htmv : ∀ t d, get t tm = some d → a.tmps[t]? = some (v t) ∧ RepD w (Av N G (hid a0)) G d (v t) := fun t d ht => by
    obtain ⟨y, hy, hr⟩ := hc.tm t d ht
    have : v t = y := by show a.tmps.getD t undef = y; rw [Array.getD_eq_getD_getElem?, hy]; rfl
    rw [this]; exact ⟨hy, hr⟩
  let H : Option Exit × α → List (Nat × Blk) := fun b => shl (hid b.2 ++ [recB l (r.after b.1) v tm])
  obtain ⟨hbd, _, hcall⟩ := hit l (Option Exit × α) H (fun b e => ((step b.2 e).1.isNone, step b.2 e)) (fun b => b.1 = none) (fun b => hid_ok (h9 b.2) (hwf b.2) (hnb b.2) hnt) (fun b e hb he => by
    obtain ⟨o, b2⟩ := b
    dsimp only at hb
    subst hb
    refine ⟨ycall_of (r := r) (nt := nt) hc.nt (hlen e he) hps (fun t d ht => ⟨get_mem ht, (htmv t d ht).1⟩) (hcl e he) (h9 _) (h9 _) (hwf _) (hwf _) (hnb _) hnt (hbody b2 e he), fun h => ?_⟩
    simpa using h) (none, a0) rfl
  rw [runB_it] at hcall
  have hget : ∀ (a : α) (r' : Loop) (k : Nat), get k (hid a ++ [recB l r' v tm]) = if k = 999 then some (recB l r' v tm).2 else get k (hid a) := fun a r' k => get_last (hid a) _ k rfl (h9 a)
  obtain ⟨Gi, hGi, hGi9⟩ : ∃ Gi : Gh, (∀ k, ¬ k = 999 → Gi.sh.β k = G.β k ∧ Gi.sh.γ k = G.γ k) ∧ Gi.sh.β 999 = some l := by
    refine ⟨⟨fun k => if k = 1999 then some l else G.β (k - 1000), fun k => G.γ (k - 1000)⟩, fun k hk => ?_, ?_⟩
    · simp only [Gh.sh, Nat.add_sub_cancel, and_true]
      rw [if_neg (by omega)]
    · simp [Gh.sh]
  have hownI : ∀ b, owned Gi (H (none, a0)) b → b = l ∨ owned G (hid a0) b := by
    intro b hb
    obtain ⟨k, x, hk, hb⟩ := owned_shl.1 hb
    rw [hget] at hk
    split at hk
    · rename_i e; subst e; rw [hGi9] at hb; cases hb; exact .inl rfl
    · rename_i e
      rw [(hGi k e).1] at hb
      exact .inr ⟨k, x, hk, hb⟩
  have hlo : ¬ owned G (hid a0) l := fun h => by have := (hc.own l h).1; omega
  have hkp1 : Keeps w w1 (Av N G (hid a0)) (Av N Gi (H (none, a0))) := {
    size := hsz1
    av := fun bw b hb hA hA' => by
      rcases hA' with h | h
      · rcases hownI b h with rfl | h
        · omega
        · exact hA (.inl h)
      · exact hA (.inr h)
    cell := fun _ b hb _ o => cell?_of_heap (hk1 b hb) o }
  have hm9 := hwf a0 999 (h9 a0)
  have hheap : HeapOk (Av N Gi (H (none, a0))) w1 Gi (H (none, a0)) := {
    rep := fun j y hj => by
      obtain ⟨k, x, rfl, hk, rfl⟩ := get_shl_some hj
      refine (RepB_sh x).2 ?_
      rw [hget] at hk
      split at hk
      · rename_i e; subst e; cases hk
        refine ⟨⟨hGi9, hl1⟩, fun p hp => ?_⟩
        exact RepD.mono hkp1 (fun k => k = 999) hGi p.2 _ (fun k hk => by subst hk; exact hm9.2 p hp) (htmv p.1 p.2 (nodup_get nd p hp)).2
      · rename_i e
        exact RepB.mono hkp1 (fun k => k = 999) hGi x e (fun b hb => hk1 b (hc.own b ⟨k, x, hk, hb⟩).1) (fun i hi => by subst hi; exact hm9.1 k x hk) (hc.rep k x hk)
    inj := fun j j' y y' b hj hj' hb hb' => by
      obtain ⟨k, x, rfl, hk, rfl⟩ := get_shl_some hj
      obtain ⟨k', x', rfl, hk', rfl⟩ := get_shl_some hj'
      rw [hget] at hk hk'
      have key : ∀ k x, (if k = 999 then some (recB l (r.after (none, a0).1) v tm).2 else get k (hid a0)) = some x → Gi.β (k + 1000) = some b → (k = 999 ∧ b = l) ∨ (get k (hid a0) = some x ∧ G.β k = some b) := by
        intro k x hk hb
        by_cases e : k = 999
        · left
          rw [← sh_β, e, hGi9] at hb
          cases hb; exact ⟨e, rfl⟩
        · rw [if_neg e] at hk
          exact .inr ⟨hk, by rw [← sh_β, (hGi k e).1] at hb; exact hb⟩
      rcases key k x hk hb with ⟨rfl, rfl⟩ | ⟨h1, h2⟩ <;> rcases key k' x' hk' hb' with ⟨rfl, h5⟩ | ⟨h3, h4⟩
      · rfl
      · exact absurd ⟨k', x', h3, h4⟩ hlo
      · subst h5; exact absurd ⟨k, x, h1, h2⟩ hlo
      · rw [hc.inj k k' x x' b h1 h3 h2 h4]
    lt := fun b hb => by
      rcases hownI b hb with rfl | h
      · exact hll1
      · have := (hc.own b h).1; omega
    laid := fun p hp => by
      obtain ⟨h1, h2, h3⟩ := hc.laidA p hp
      have h4 := hc.laidA.keep hsz1 (fun b hb _ => hk1 b hb) p hp
      refine ⟨h4.1, ?_, h4.2.2⟩
      rintro (h5 | h5)
      · rcases hownI _ h5 with h6 | h6
        · omega
        · exact h2 (.inr h6)
      · exact h2 (.inl h5.2) }
  have hgr := hc.op g
  obtain ⟨x1, x2, hgv, hf1', hf2'⟩ := callee_sound hg hgr
  have hf1 := RepDs.toVs hf1'
  have hf2 := RepDs.toVs hf2'
  have has : RepDs w1 (Av N Gi (H (none, a0))) Gi (fs.map D.c ++ [.c (.fn (.yield l) [] [])] ++ caps.map D.c) (x1.toList ++ [.func (.yield l) #[] #[]] ++ x2.toList) := by
    refine RepDs.append (RepDs.append (RepDs.ofVs (RepVs.mono hkp1 _ _ hf1)) ?_) (RepDs.ofVs (RepVs.mono hkp1 _ _ hf2))
    exact ⟨_, [], rfl, ⟨#[], #[], rfl, rfl, rfl⟩, rfl⟩
  have hNlt : ∀ b, N b → b < w.heap.size := fun b hb => Nat.lt_of_lt_of_le (hc.nlt b hb) hc.fr.size
  have hcalls := hcall N Gi w1 _ (fun b hb => Nat.lt_of_lt_of_le (hNlt b hb) hsz1) (fun b hb hn => by
    rcases hownI b hb with rfl | h
    · have := hNlt _ hn; omega
    · rcases (hc.own b h).2 with h3 | h3
      · exact hc.odis b h3 hn
      · have := hc.nlt b hn; omega) hheap has
  refine ⟨l, mark, w1, { target := .fn (.func f) x2, args := x1 ++ #[.func (.yield l) #[] #[]] }, w1, f, (x1.toList ++ [Value.func (.yield l) #[] #[]] ++ x2.toList : List Value).toArray, w1, he, ?_, (fun _ _ => trivial), ?_, (fun h => by cases h), ?_⟩
  · simp [resolve, hgv, Deferred.ofValue]
    rfl
  · simp only [invoke, run_callFunc hbd]
    congr 2
    apply Array.ext'
    simp
  refine CallsIn.mono (calls_Fx rd.1 (n - 1) hcalls) ?_
  rintro e w' ⟨G', v', rfl, hheap', _, hfr', hown'⟩
  have hjo := runIt_ok hoj seq a0
  rcases hrun : runIt step a0 seq with ⟨o, a'⟩
  rw [hrun] at hheap' hown' hend hjo
  dsimp only at hend hjo
  have hrec := (RepB_sh (k := 999) _).1 (hheap'.rep 1999 (recB l (r.after o) v tm).2.sh (by
    show get (999 + 1000) (shl _) = _
    rw [get_shl, hget, if_pos rfl]; rfl))
  obtain ⟨⟨hβ, hl'⟩, htv⟩ := hrec
  have hl' : w'.heap[l]? = some (.loop (r.after o)) := hl'
  have hst : (r.after o).state ≠ .busy := by
    simp only [RC.after, RC.loop]
    split <;> simp
  refine ⟨_, _, run_endLoop hl' hst, ?_⟩
  have hlw' : ∀ k x, get k (hid a') = some x → G'.sh.β k = some l → False := fun k x hk hb => by
    have e : k ≠ 999 := fun e => by subst e; rw [h9] at hk; cases hk
    have := hheap'.inj (k + 1000) 1999 x.sh (recB l (r.after o) v tm).2.sh l (by show get (k + 1000) (shl _) = _; rw [get_shl, hget, if_neg e, hk]; rfl) (by show get (999 + 1000) (shl _) = _; rw [get_shl, hget, if_pos rfl]; rfl) hb hβ
    omega
  have hoF : ∀ b, owned G'.sh (hid a') b → owned G' (H (o, a')) b := fun b ⟨k, x, hk, hb⟩ => by
    have e : k ≠ 999 := fun e => by subst e; rw [h9] at hk; cases hk
    exact owned_shl.2 ⟨k, x, by rw [hget, if_neg e]; exact hk, hb⟩
  have hkpR := keeps_rec (r' := { r.after o with state := .exhausted }) hl' (AvR N G' (H (o, a')))
  have hkpF : Keeps w' (w'.putObj l (.loop { r.after o with state := .exhausted })) (AvR N G' (H (o, a'))) (Av N G'.sh (hid a')) := {
    size := hkpR.size
    av := fun bw b _ hA hA' => by
      rcases hA' with h | h
      · exact hA (.inr (.inl (hoF b h)))
      · exact hA (.inr (.inr h.2))
    cell := hkpR.cell }
  have hkeep : ∀ b, b < w.heap.size → ¬ owned G (hid a0) b → (w'.putObj l (.loop { r.after o with state := .exhausted })).heap[b]? = w.heap[b]? := fun b hb ho => by
    rw [World.putObj_heap_other (by omega), hfr'.keep b (by omega) (fun h => by
      rcases hownI b h with rfl | h
      · omega
      · exact ho h), hk1 b hb]
  have hcF : Core N O0 w0 ⟨nt, tm, hid a'⟩ G'.sh { a with defers := mark ++ a.defers } (w'.putObj l (.loop { r.after o with state := .exhausted })) := {
    rep := fun k x hk => by
      have e : k ≠ 999 := fun e => by subst e; rw [h9] at hk; cases hk
      have h1 := (RepB_sh x).1 (hheap'.rep (k + 1000) x.sh (by show get (k + 1000) (shl _) = _; rw [get_shl, hget, if_neg e, hk]; rfl))
      exact RepB.mono hkpF (fun _ => False) (fun _ _ => ⟨rfl, rfl⟩) x (fun h => h) (fun b hb => World.putObj_heap_other (fun e2 => hlw' k x hk (by rw [← e2]; exact hb))) (fun _ h => h.elim) h1
    inj := fun k k' x x' b hk hk' hb hb' => by
      have e : k ≠ 999 := fun e => by subst e; rw [h9] at hk; cases hk
      have e' : k' ≠ 999 := fun e => by subst e; rw [h9] at hk'; cases hk'
      have := hheap'.inj (k + 1000) (k' + 1000) x.sh x'.sh b (by show get (k + 1000) (shl _) = _; rw [get_shl, hget, if_neg e, hk]; rfl) (by show get (k' + 1000) (shl _) = _; rw [get_shl, hget, if_neg e', hk']; rfl) hb hb'
      omega
    own := fun b hb => by
      have h1 := hoF b hb
      refine ⟨by rw [World.putObj_size]; exact hheap'.lt b h1, ?_⟩
      have hs := hc.fr.size
      rcases hown' b h1 with h2 | h2
      · rcases hownI b h2 with rfl | h3
        · exact .inr (by omega)
        · exact (hc.own b h3).2
      · exact .inr (by omega)
    tm := fun t d ht => ⟨v t, (htmv t d ht).1, RepD.keep hkpF d _ (htv (t, d) (get_mem ht))⟩
    nt := hc.nt
    df := by
      obtain ⟨rs, e1, e2, e3⟩ := hc.df
      have old : ∀ j ∈ rs, (w'.putObj l (.loop { r.after o with state := .exhausted })).heap[j]? = some (.deferred (some [])) ∧ w0.heap.size ≤ j := fun j hj => by
        have h3 := e3 j hj
        refine ⟨?_, h3.2⟩
        rw [hkeep j (lt_of_heap h3.1) (fun ho => ?_)]
        · exact h3.1
        · obtain ⟨k, x, hk, hb⟩ := ho
          obtain ⟨ob, h4, h5⟩ := hc.cells hk hb
          rw [h3.1] at h4; cases h4; cases h5
      rcases hmark with hm | ⟨hm, hm1, hm2, hm3⟩
      · exact ⟨rs, by rw [hm]; exact e1, e2, old⟩
      · refine ⟨m :: rs, by rw [hm, e1]; rfl, List.nodup_cons.2 ⟨fun hmr => ?_, e2⟩, fun j hj => ?_⟩
        · have := lt_of_heap (e3 m hmr).1; omega
        · rcases List.mem_cons.1 hj with rfl | hj
          · refine ⟨?_, by have := hc.fr.size; omega⟩
            rw [World.putObj_heap_other hm3, hfr'.keep j (lt_of_heap hm1) (fun h => ?_)]
            · exact hm1
            · rcases hownI j h with h | h
              · exact hm3 h
              · have := (hc.own j h).1; omega
          · exact old j hj
    fr := ⟨(hfr'.os.trans hos1).trans hc.fr.os, (hfr'.tape.trans htp1).trans hc.fr.tape, (hfr'.output.trans hou1).trans hc.fr.output, by rw [World.putObj_size]; have := hc.fr.size; have := hfr'.size; omega, fun b hb hO => by
      have hs := hc.fr.size
      rw [hkeep b (by omega) (fun h => ?_)]
      · exact hc.fr.keep b hb hO
      · rcases (hc.own b h).2 with h3 | h3
        · exact hO h3
        · omega⟩
    nlt := hc.nlt
    odis := hc.odis
    laid := hc.laid }
  have hpend : (r.after o).pending = jumpC o := rfl
  rw [hpend]
  cases o with
  | none => exact hq _ _ _ _ hend ⟨_, hcF⟩
  | some x =>
    cases x with
    | ret => exact wpIn_ret (hq _ _ _ _ hend ⟨_, hcF⟩)
    | exit i => exact wpIn_exit (hq _ _ _ _ hend ⟨_, hcF⟩)
    | normal => cases hjo
    | goto _ => cases hjo
    | panic _ => cases hjo
    | outgrown => cases hjo
theorem DW.rng [Lays] {g : Operand} {ps : List Tmp} {assign body : SC} {Q : Exit → St → Prop} {nt : Nat} {tm : List (Nat × D)} {bx0 : List (Nat × Blk)} {f : FuncId} {fs caps : List C} (hg : calleeD (St.op ⟨nt, tm, bx0⟩ g) = some (f, fs.map D.c, caps.map D.c))
    (hid : α → List (Nat × Blk)) (a0 : α) (hb0 : hid a0 = bx0) (step : α → ε → Option Exit × α) (en : ε → List D) (seq : List ε) (hit : ItC P f fs caps en seq) (hps : ∀ p ∈ ps, p < nt) (hlen : ∀ e ∈ seq, ps.length = (en e).length)
    (hcl : ∀ e ∈ seq, ∀ k, D.mens k (en e) = false) (nd : (tm.map (·.1)).Nodup) (h9 : ∀ a, get 999 (hid a) = none) (hwf : ∀ a k, get k (hid a) = none → (∀ j x, get j (hid a) = some x → x.men k = false) ∧ ∀ p ∈ tm, p.2.men k = false)
    (hnb : ∀ a j x, get j (hid a) = some x → x.nb = true) (hnt : ∀ p ∈ tm, p.2.nb = true) (hoj : ∀ a e, okJ (step a e).1 = true)
    (hbody : ∀ a, ∀ e ∈ seq, ∀ v, DW P assign (fun x σ' => x = .normal ∧ DW P body (roundQ nt v tm (step a e).1 (hid (step a e).2)) σ') ⟨nt, insPs ps (en e) tm, hid a ++ [capB v tm]⟩)
    (hend : Q ((runIt step a0 seq).1.getD .normal) ⟨nt, tm, hid (runIt step a0 seq).2⟩) : DW P (.rng g ps assign body) Q ⟨nt, tm, bx0⟩ := fun c hc => by
  cases c <;> simp only [toS, reduceCtorEq, SC.rng.injEq] at hc
  · (repeat' (split at hc)) <;> cases hc
  · obtain ⟨rfl, rfl, h1, h2⟩ := hc
    exact W.rng hg hid a0 hb0 step en seq hit hps hlen hcl nd h9 hwf hnb hnt hoj (fun a e he v => W.mono (hbody a e he v _ h1) (fun x σ' h => ⟨h.1, h.2 _ h2⟩)) hend
end Go.Dw
end
