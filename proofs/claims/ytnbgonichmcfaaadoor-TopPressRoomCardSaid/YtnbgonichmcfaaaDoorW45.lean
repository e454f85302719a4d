/- Helpers of a proof. -/
import Derived.Test.YtnbgonichmcfaaaDoorW44
set_option linter.unusedVariables false
set_option linter.unusedSimpArgs false
section
set_option linter.unusedSimpArgs false
namespace Go.Dw
open Go.RowKit
variable {P : Program} {α ε : Type}
theorem W.rngX [Lays] {g : Operand} {ps : Array Tmp} {assign body : Code} {Q : Exit → St → Prop} {nt : Nat} {tm : List (Nat × D)} {bx0 : List (Nat × Blk)} {f : FuncId} {fs caps : List D} (hg : calleeD (St.op ⟨nt, tm, bx0⟩ g) = some (f, fs, caps)) (hfc : ∀ k, D.mens k fs = false ∧ D.mens k caps = false)
    (hid : α → List (Nat × Blk)) (a0 : α) (hb0 : hid a0 = bx0) (step : α → ε → Option Exit × α) (en : ε → List D) (good : α → ε → Prop) (oE : Option Exit) (aE : α)
    (hit : ∀ (l : Nat) (r : RC) (v : Nat → Value), (∀ a e, good a e → YCall P l (en e) (shl (hid a ++ [recB l (r.after none) v tm])) (bD (step a e).1.isNone) (shl (hid (step a e).2 ++ [recB l (r.after (step a e).1) v tm]))) →
      DCall P f (fs ++ [.c (.fn (.yield l) [] [])] ++ caps) (shl (hid a0 ++ [recB l (r.after none) v tm])) (.tup []) (shl (hid aE ++ [recB l (r.after oE) v tm])))
    (hps : ∀ p ∈ ps.toList, p < nt) (hlen : ∀ a e, good a e → ps.toList.length = (en e).length)
    (hcl : ∀ a e, good a e → ∀ k, D.mens k (en e) = false) (nd : (tm.map (·.1)).Nodup) (h9 : ∀ a, get 999 (hid a) = none) (hwb : ∀ a, wfB tm (hid a) = true)
    (hnb : ∀ a j x, get j (hid a) = some x → x.nb = true) (hnt : ∀ p ∈ tm, p.2.nb = true) (hoj : okJ oE = true)
    (hbody : ∀ a e, good a e → ∀ v, W P assign (fun x σ' => x = .normal ∧ W P body (roundQ nt v tm (step a e).1 (hid (step a e).2)) σ') ⟨nt, insPs ps.toList (en e) tm, hid a ++ [capB v tm]⟩)
    (hend : Q (oE.getD .normal) ⟨nt, tm, hid aE⟩) : W P (.rangeFunc g ps assign body) Q ⟨nt, tm, bx0⟩ := by
  have hwf : ∀ a k, get k (hid a) = none → (∀ j x, get j (hid a) = some x → x.men k = false) ∧ ∀ p ∈ tm, p.2.men k = false := fun a => wf_of (hwb a)
  intro N O0 w0 a w rd n Qm hi hq
  obtain ⟨G, hc⟩ := hi
  subst hb0
  refine wpIn_rangeFunc fun fn _ => ?_
  have hrd : ∀ l, rd.1 = some l → ∃ r, w.heap[l]? = some (.loop r) := fun l hl => by
    obtain ⟨r, hr, ho⟩ := rd.2 l hl
    exact ⟨r, by rw [hc.fr.keep l (lt_of_heap hr) ho]; exact hr⟩
  obtain ⟨l, mark, w1, m, he, hl1, hwl, hsz1, hk1, hos1, htp1, hou1, hmark⟩ := enter_any (P := P) w fn a.tmps ps assign body rd.1 hrd
  let r : RC := ⟨fn, a.tmps, ps, assign, body, m⟩
  let v : Nat → Value := fun t => a.tmps.getD t undef
  have hll1 := lt_of_heap hl1
  have htmv : ∀ t d, get t tm = some d → a.tmps[t]? = some (v t) ∧ RepD w (Av N G (hid a0)) G d (v t) := fun t d ht => by
    obtain ⟨y, hy, hr⟩ := hc.tm t d ht
    have : v t = y := by show a.tmps.getD t undef = y; rw [Array.getD_eq_getD_getElem?, hy]; rfl
    rw [this]; exact ⟨hy, hr⟩
  let H : Option Exit × α → List (Nat × Blk) := fun b => shl (hid b.2 ++ [recB l (r.after b.1) v tm])
  obtain ⟨hbd, _, hcall⟩ := hit l r v (fun a e hge => ycall_of (r := r) (nt := nt) hc.nt (hlen a e hge) hps (fun t d ht => ⟨get_mem ht, (htmv t d ht).1⟩) (hcl a e hge) (h9 _) (h9 _) (hwf _) (hwf _) (hnb _) hnt (hbody a e hge))
  have hget : ∀ (a : α) (r' : Loop) (k : Nat), get k (hid a ++ [recB l r' v tm]) = if k = 999 then some (recB l r' v tm).2 else get k (hid a) := fun a r' k => get_last (hid a) _ k rfl (h9 a)
  obtain ⟨Gi, hGi, hGi9⟩ : ∃ Gi : Gh, (∀ k, ¬ k = 999 → Gi.sh.β k = G.β k ∧ Gi.sh.γ k = G.γ k) ∧ Gi.sh.β 999 = some l := by
    refine ⟨⟨fun k => if k = 1999 then some l else G.β (k - 1000), fun k => G.γ (k - 1000)⟩, fun k hk => ?_, ?_⟩
    · simp only [Gh.sh, Nat.add_sub_cancel, and_true]
      rw [if_neg (by omega)]
    · simp [Gh.sh]
  have hownI : ∀ b, owned Gi (H (none, a0)) b → b = l ∨ owned G (hid a0) b := by
    intro b hb
    obtain ⟨k, x, hk, hb⟩ := owned_shl.1 hb
    rw [hget] at hk
    split at hk
    · rename_i e; subst e; rw [hGi9] at hb; cases hb; exact .inl rfl
    · rename_i e
      rw [(hGi k e).1] at hb
      exact .inr ⟨k, x, hk, hb⟩
  have hlo : ¬ owned G (hid a0) l := fun h => by have := (hc.own l h).1; omega
  have hkp1 : Keeps w w1 (Av N G (hid a0)) (Av N Gi (H (none, a0))) := {
    size := hsz1
    av := fun bw b hb hA hA' => by
      rcases hA' with h | h
      · rcases hownI b h with rfl | h
        · omega
        · exact hA (.inl h)
      · exact hA (.inr h)
    cell := fun _ b hb _ o => cell?_of_heap (hk1 b hb) o }
  have hm9 := hwf a0 999 (h9 a0)
  have hheap : HeapOk (Av N Gi (H (none, a0))) w1 Gi (H (none, a0)) := {
    rep := fun j y hj => by
      obtain ⟨k, x, rfl, hk, rfl⟩ := get_shl_some hj
      refine (RepB_sh x).2 ?_
      rw [hget] at hk
      split at hk
      · rename_i e; subst e; cases hk
        refine ⟨⟨hGi9, hl1⟩, fun p hp => ?_⟩
        exact RepD.mono hkp1 (fun k => k = 999) hGi p.2 _ (fun k hk => by subst hk; exact hm9.2 p hp) (htmv p.1 p.2 (nodup_get nd p hp)).2
      · rename_i e
        exact RepB.mono hkp1 (fun k => k = 999) hGi x e (fun b hb => hk1 b (hc.own b ⟨k, x, hk, hb⟩).1) (fun i hi => by subst hi; exact hm9.1 k x hk) (hc.rep k x hk)
    inj := fun j j' y y' b hj hj' hb hb' => by
      obtain ⟨k, x, rfl, hk, rfl⟩ := get_shl_some hj
      obtain ⟨k', x', rfl, hk', rfl⟩ := get_shl_some hj'
      rw [hget] at hk hk'
      have key : ∀ k x, (if k = 999 then some (recB l (r.after (none, a0).1) v tm).2 else get k (hid a0)) = some x → Gi.β (k + 1000) = some b → (k = 999 ∧ b = l) ∨ (get k (hid a0) = some x ∧ G.β k = some b) := by
        intro k x hk hb
        by_cases e : k = 999
        · left
          rw [← sh_β, e, hGi9] at hb
          cases hb; exact ⟨e, rfl⟩
        · rw [if_neg e] at hk
          exact .inr ⟨hk, by rw [← sh_β, (hGi k e).1] at hb; exact hb⟩
      rcases key k x hk hb with ⟨rfl, rfl⟩ | ⟨h1, h2⟩ <;> rcases key k' x' hk' hb' with ⟨rfl, h5⟩ | ⟨h3, h4⟩
      · rfl
      · exact absurd ⟨k', x', h3, h4⟩ hlo
      · subst h5; exact absurd ⟨k, x, h1, h2⟩ hlo
      · rw [hc.inj k k' x x' b h1 h3 h2 h4]
    lt := fun b hb => by
      rcases hownI b hb with rfl | h
      · exact hll1
      · have := (hc.own b h).1; omega
    laid := fun p hp => by
      obtain ⟨h1, h2, h3⟩ := hc.laidA p hp
      have h4 := hc.laidA.keep hsz1 (fun b hb _ => hk1 b hb) p hp
      refine ⟨h4.1, ?_, h4.2.2⟩
      rintro (h5 | h5)
      · rcases hownI _ h5 with h6 | h6
        · omega
        · exact h2 (.inr h6)
      · exact h2 (.inl h5.2) }
  have hgr := hc.op g
  obtain ⟨x1, x2, hgv, hf1', hf2'⟩ := callee_sound hg hgr
  have has : RepDs w1 (Av N Gi (H (none, a0))) Gi (fs ++ [.c (.fn (.yield l) [] [])] ++ caps) (x1.toList ++ [.func (.yield l) #[] #[]] ++ x2.toList) := by
    refine RepDs.append (RepDs.append (RepDs.mono hkp1 (fun _ => True) (fun k h => absurd trivial h) _ _ (fun k _ => (hfc k).1) hf1') ?_) (RepDs.mono hkp1 (fun _ => True) (fun k h => absurd trivial h) _ _ (fun k _ => (hfc k).2) hf2')
    exact ⟨_, [], rfl, ⟨#[], #[], rfl, rfl, rfl⟩, rfl⟩
  have hNlt : ∀ b, N b → b < w.heap.size := fun b hb => Nat.lt_of_lt_of_le (hc.nlt b hb) hc.fr.size
  have hcalls := hcall N Gi w1 _ (fun b hb => Nat.lt_of_lt_of_le (hNlt b hb) hsz1) (fun b hb hn => by
    rcases hownI b hb with rfl | h
    · have := hNlt _ hn; omega
    · rcases (hc.own b h).2 with h3 | h3
      · exact hc.odis b h3 hn
      · have := hc.nlt b hn; omega) hheap has
  refine ⟨l, mark, w1, { target := .fn (.func f) x2, args := x1 ++ #[.func (.yield l) #[] #[]] }, w1, f, (x1.toList ++ [Value.func (.yield l) #[] #[]] ++ x2.toList : List Value).toArray, w1, he, ?_, (fun _ _ => trivial), ?_, (fun h => by cases h), ?_⟩
  · simp [resolve, hgv, Deferred.ofValue]
    rfl
  · simp only [invoke, run_callFunc hbd]
    congr 2
    apply Array.ext'
    simp
  refine CallsIn.mono (calls_Fx rd.1 (n - 1) hcalls) ?_
  rintro e w' ⟨G', v', rfl, hheap', _, hfr', hown'⟩
  have hjo := hoj
  obtain ⟨o, ho⟩ : ∃ o, oE = o := ⟨_, rfl⟩
  obtain ⟨a', ha'⟩ : ∃ a', aE = a' := ⟨_, rfl⟩
  rw [ho] at hjo
  rw [ho, ha'] at hheap' hown' hend
  have hrec := (RepB_sh (k := 999) _).1 (hheap'.rep 1999 (recB l (r.after o) v tm).2.sh (by
    show get (999 + 1000) (shl _) = _
    rw [get_shl, hget, if_pos rfl]; rfl))
  obtain ⟨⟨hβ, hl'⟩, htv⟩ := hrec
  have hl' : w'.heap[l]? = some (.loop (r.after o)) := hl'
  have hst : (r.after o).state ≠ .busy := by
    simp only [RC.after, RC.loop]
    split <;> simp
  refine ⟨_, _, run_endLoop hl' hst, ?_⟩
  have hlw' : ∀ k x, get k (hid a') = some x → G'.sh.β k = some l → False := fun k x hk hb => by
    have e : k ≠ 999 := fun e => by subst e; rw [h9] at hk; cases hk
    have := hheap'.inj (k + 1000) 1999 x.sh (recB l (r.after o) v tm).2.sh l (by show get (k + 1000) (shl _) = _; rw [get_shl, hget, if_neg e, hk]; rfl) (by show get (999 + 1000) (shl _) = _; rw [get_shl, hget, if_pos rfl]; rfl) hb hβ
    omega
  have hoF : ∀ b, owned G'.sh (hid a') b → owned G' (H (o, a')) b := fun b ⟨k, x, hk, hb⟩ => by
    have e : k ≠ 999 := fun e => by subst e; rw [h9] at hk; cases hk
    exact owned_shl.2 ⟨k, x, by rw [hget, if_neg e]; exact hk, hb⟩
  have hkpR := keeps_rec (r' := { r.after o with state := .exhausted }) hl' (AvR N G' (H (o, a')))
  have hkpF : Keeps w' (w'.putObj l (.loop { r.after o with state := .exhausted })) (AvR N G' (H (o, a'))) (Av N G'.sh (hid a')) := {
    size := hkpR.size
    av := fun bw b _ hA hA' => by
      rcases hA' with h | h
      · exact hA (.inr (.inl (hoF b h)))
      · exact hA (.inr (.inr h.2))
    cell := hkpR.cell }
  have hkeep : ∀ b, b < w.heap.size → ¬ owned G (hid a0) b → (w'.putObj l (.loop { r.after o with state := .exhausted })).heap[b]? = w.heap[b]? := fun b hb ho => by
    rw [World.putObj_heap_other (by omega), hfr'.keep b (by omega) (fun h => by
      rcases hownI b h with rfl | h
      · omega
      · exact ho h), hk1 b hb]
  have hcF : Core N O0 w0 ⟨nt, tm, hid a'⟩ G'.sh { a with defers := mark ++ a.defers } (w'.putObj l (.loop { r.after o with state := .exhausted })) := {
    rep := fun k x hk => by
      have e : k ≠ 999 := fun e => by subst e; rw [h9] at hk; cases hk
      have h1 := (RepB_sh x).1 (hheap'.rep (k + 1000) x.sh (by show get (k + 1000) (shl _) = _; rw [get_shl, hget, if_neg e, hk]; rfl))
      exact RepB.mono hkpF (fun _ => False) (fun _ _ => ⟨rfl, rfl⟩) x (fun h => h) (fun b hb => World.putObj_heap_other (fun e2 => hlw' k x hk (by rw [← e2]; exact hb))) (fun _ h => h.elim) h1
    inj := fun k k' x x' b hk hk' hb hb' => by
      have e : k ≠ 999 := fun e => by subst e; rw [h9] at hk; cases hk
      have e' : k' ≠ 999 := fun e => by subst e; rw [h9] at hk'; cases hk'
      have := hheap'.inj (k + 1000) (k' + 1000) x.sh x'.sh b (by show get (k + 1000) (shl _) = _; rw [get_shl, hget, if_neg e, hk]; rfl) (by show get (k' + 1000) (shl _) = _; rw [get_shl, hget, if_neg e', hk']; rfl) hb hb'
      omega
    own := fun b hb => by
      have h1 := hoF b hb
      refine ⟨by rw [World.putObj_size]; exact hheap'.lt b h1, ?_⟩
      have hs := hc.fr.size
      rcases hown' b h1 with h2 | h2
      · rcases hownI b h2 with rfl | h3
        · exact .inr (by omega)
        · exact (hc.own b h3).2
      · exact .inr (by omega)
    tm := fun t d ht => ⟨v t, (htmv t d ht).1, RepD.keep hkpF d _ (htv (t, d) (get_mem ht))⟩
    nt := hc.nt
    df := by
      obtain ⟨rs, e1, e2, e3⟩ := hc.df
      have old : ∀ j ∈ rs, (w'.putObj l (.loop { r.after o with state := .exhausted })).heap[j]? = some (.deferred (some [])) ∧ w0.heap.size ≤ j := fun j hj => by
        have h3 := e3 j hj
        refine ⟨?_, h3.2⟩
        rw [hkeep j (lt_of_heap h3.1) (fun ho => ?_)]
        · exact h3.1
        · obtain ⟨k, x, hk, hb⟩ := ho
          obtain ⟨ob, h4, h5⟩ := hc.cells hk hb
          rw [h3.1] at h4; cases h4; cases h5
      rcases hmark with hm | ⟨hm, hm1, hm2, hm3⟩
      · exact ⟨rs, by rw [hm]; exact e1, e2, old⟩
      · refine ⟨m :: rs, by rw [hm, e1]; rfl, List.nodup_cons.2 ⟨fun hmr => ?_, e2⟩, fun j hj => ?_⟩
        · have := lt_of_heap (e3 m hmr).1; omega
        · rcases List.mem_cons.1 hj with rfl | hj
          · refine ⟨?_, by have := hc.fr.size; omega⟩
            rw [World.putObj_heap_other hm3, hfr'.keep j (lt_of_heap hm1) (fun h => ?_)]
            · exact hm1
            · rcases hownI j h with h | h
              · exact hm3 h
              · have := (hc.own j h).1; omega
          · exact old j hj
    fr := ⟨(hfr'.os.trans hos1).trans hc.fr.os, (hfr'.tape.trans htp1).trans hc.fr.tape, (hfr'.output.trans hou1).trans hc.fr.output, by rw [World.putObj_size]; have := hc.fr.size; have := hfr'.size; omega, fun b hb hO => by
      have hs := hc.fr.size
      rw [hkeep b (by omega) (fun h => ?_)]
      · exact hc.fr.keep b hb hO
      · rcases (hc.own b h).2 with h3 | h3
        · exact hO h3
        · omega⟩
    nlt := hc.nlt
    odis := hc.odis
    laid := hc.laid }
  have hpend : (r.after o).pending = jumpC o := rfl
  rw [hpend]
  cases o with
  | none => exact hq _ _ _ _ hend ⟨_, hcF⟩
  | some x =>
    cases x with
    | ret => exact wpIn_ret (hq _ _ _ _ hend ⟨_, hcF⟩)
    | exit i => exact wpIn_exit (hq _ _ _ _ hend ⟨_, hcF⟩)
    | normal => cases hjo
    | goto _ => cases hjo
    | panic _ => cases hjo
    | outgrown => cases hjo
def pnC (n : Nat) : Option (List Int) → List D
  | some xs => xs.map dI
  | none => List.replicate n .top
def pnB (p n : Nat) (c : Option (List Int)) : Blk := .pbox p (pnC n c)
theorem pn_plain (n : Nat) (c : Option (List Int)) : ∀ d ∈ pnC n c, (∃ x, d = dI x) ∨ d = .top := by
  intro d hd
  cases c with
  | none => exact .inr (List.eq_of_mem_replicate hd)
  | some xs =>
    obtain ⟨x, _, rfl⟩ := List.mem_map.1 hd
    exact .inl ⟨x, rfl⟩
theorem pn_shs : ∀ l : List D, (∀ d ∈ l, (∃ x, d = dI x) ∨ d = .top) → D.shs l = l
  | [], _ => rfl
  | d :: l, h => by
    rw [D.shs, pn_shs l (fun x hx => h x (List.mem_cons_of_mem _ hx))]
    rcases h d (by simp) with ⟨x, rfl⟩ | rfl <;> rfl
theorem pn_sh [Lays] (p n : Nat) (c : Option (List Int)) : (pnB p n c).sh = pnB p n c := by
  show Blk.pbox p (D.shs (pnC n c)) = _
  rw [pn_shs _ (pn_plain n c)]; rfl
theorem pn_nbs : ∀ l : List D, (∀ d ∈ l, (∃ x, d = dI x) ∨ d = .top) → D.nbs l = true
  | [], _ => rfl
  | d :: l, h => by
    rw [D.nbs, pn_nbs l (fun x hx => h x (List.mem_cons_of_mem _ hx))]
    rcases h d (by simp) with ⟨x, rfl⟩ | rfl <;> rfl
theorem pn_keys (bx : List (Nat × Blk)) : ∀ l : List D, (∀ d ∈ l, (∃ x, d = dI x) ∨ d = .top) → D.keysIns bx l = true
  | [], _ => rfl
  | d :: l, h => by
    rw [D.keysIns, pn_keys bx l (fun x hx => h x (List.mem_cons_of_mem _ hx))]
    rcases h d (by simp) with ⟨x, rfl⟩ | rfl <;> rfl
theorem pn_mens (k : Nat) : ∀ l : List D, (∀ d ∈ l, (∃ x, d = dI x) ∨ d = .top) → D.mens k l = false
  | [], _ => rfl
  | d :: l, h => by
    rw [D.mens, pn_mens k l (fun x hx => h x (List.mem_cons_of_mem _ hx))]
    rcases h d (by simp) with ⟨x, rfl⟩ | rfl <;> rfl
def runC {β : Type} (st : β → ε → Bool × β) : β → List (ε × List Int) → List Int → List Int
  | _, [], c => c
  | b, e :: l, _ => if (st b e.1).1 then runC st (st b e.1).2 l e.2 else e.2
def ItP [Lays] (P : Program) (f : FuncId) (fs caps : List D) (en : ε → List D) (ok : ε → Prop) (p n : Nat) (xs0 : List Int) (seq : List (ε × List Int)) : Prop :=
  ∀ (l : Nat) (β : Type) (H : β → List (Nat × Blk)) (st : β → ε → Bool × β) (live : List ε → β → Prop), (∀ b, HidW (H b)) → (∀ b, get 1040 (H b) = none) → (∀ b c, HidW ((1040, pnB p n c) :: H b)) →
    (∀ b xs e t, live (e :: t) b → ok e → YCall P l (en e) ((1040, pnB p n (some xs)) :: H b) (bD (st b e).1) ((1040, pnB p n (some xs)) :: H (st b e).2) ∧ ((st b e).1 = true → live t (st b e).2)) →
    ∀ b0, live (seq.map (·.1)) b0 → DCall P f (fs ++ [.c (.fn (.yield l) [] [])] ++ caps) ((1040, pnB p n (some xs0)) :: H b0) (.tup []) ((1040, pnB p n (some (runC st b0 seq xs0))) :: H (runB st b0 (seq.map (·.1))))
theorem hidP_get [Lays] {p n : Nat} {c : Option (List Int)} {h : List (Nat × Blk)} {j : Nat} {x : Blk} (hj : get j ((40, pnB p n c) :: h) = some x) : x = pnB p n c ∨ get j h = some x := by
  simp only [get] at hj
  split at hj
  · cases hj; exact .inl rfl
  · exact .inr hj
theorem wf_pn [Lays] {tm : List (Nat × D)} {h : List (Nat × Blk)} (hw : wfB tm h = true) (p n : Nat) (c : Option (List Int)) : wfB tm ((40, pnB p n c) :: h) = true := by
  have hm : ∀ k, (get k h).isSome = true → (get k ((40, pnB p n c) :: h)).isSome = true := fun k hk => by
    simp only [get]
    split
    · rfl
    · exact hk
  simp only [wfB, Bool.and_eq_true, List.all_eq_true] at hw ⊢
  refine ⟨fun q hq => keysIn_mono hm _ (hw.1 q hq), fun q hq => ?_⟩
  rcases List.mem_cons.1 hq with rfl | hq
  · exact pn_keys _ _ (pn_plain n c)
  · exact bkeys_mono hm _ (hw.2 q hq)
theorem W.rngP [Lays] {g : Operand} {ps : Array Tmp} {assign body : Code} {Q : Exit → St → Prop} {nt : Nat} {tm : List (Nat × D)} {bx0 : List (Nat × Blk)} {f : FuncId} {fs caps : List D} (hg : calleeD (St.op ⟨nt, tm, bx0⟩ g) = some (f, fs, caps)) (hfc : ∀ k, D.mens k fs = false ∧ D.mens k caps = false)
    (p n : Nat) (xs0 : List Int) (hid : α → List (Nat × Blk)) (a0 : α) (hb0 : (40, pnB p n (some xs0)) :: hid a0 = bx0) (step : α → ε → Option Exit × α) (en : ε → List D) (ok : ε → Prop) (seq : List (ε × List Int)) (hit : ItP P f fs caps en ok p n xs0 seq) (inv : List ε → α → Prop) (hi0 : inv (seq.map (·.1)) a0) (hinv : ∀ a e t, inv (e :: t) a → ok e → (step a e).1 = none → inv t (step a e).2) (hps : ∀ p ∈ ps.toList, p < nt) (hlen : ∀ e, ok e → ps.toList.length = (en e).length)
    (hcl : ∀ e, ok e → ∀ k, D.mens k (en e) = false) (nd : (tm.map (·.1)).Nodup) (h9 : ∀ a, get 999 (hid a) = none) (h40 : ∀ a, get 40 (hid a) = none) (hwb : ∀ a, wfB tm (hid a) = true)
    (hnb : ∀ a j x, get j (hid a) = some x → x.nb = true) (hnt : ∀ p ∈ tm, p.2.nb = true) (hoj : ∀ a e, okJ (step a e).1 = true)
    (hbody : ∀ a e t, inv (e :: t) a → ∀ xs, ok e → ∀ v, W P assign (fun x σ' => x = .normal ∧ W P body (roundQ nt v tm (step a e).1 ((40, pnB p n (some xs)) :: hid (step a e).2)) σ') ⟨nt, insPs ps.toList (en e) tm, (40, pnB p n (some xs)) :: (hid a ++ [capB v tm])⟩)
    (hend : ∀ c, Q ((runIt step a0 (seq.map (·.1))).1.getD .normal) ⟨nt, tm, (40, pnB p n c) :: hid (runIt step a0 (seq.map (·.1))).2⟩) : W P (.rangeFunc g ps assign body) Q ⟨nt, tm, bx0⟩ := by
  have h9' : ∀ (a : α × Option (List Int)), get 999 ((40, pnB p n a.2) :: hid a.1) = none := fun a => by
    simp only [get]
    rw [if_neg (by decide)]
    exact h9 a.1
  have hnb' : ∀ (a : α × Option (List Int)) j x, get j ((40, pnB p n a.2) :: hid a.1) = some x → x.nb = true := fun a j x hj => by
    rcases hidP_get hj with rfl | h
    · exact pn_nbs _ (pn_plain n a.2)
    · exact hnb a.1 j x h
  refine W.rngX hg hfc (α := α × Option (List Int)) (fun a => (40, pnB p n a.2) :: hid a.1) (a0, some xs0) hb0 (fun a e => ((step a.1 e).1, ((step a.1 e).2, a.2))) en (fun a e => (∃ t, inv (e :: t) a.1) ∧ ok e ∧ ∃ xs, a.2 = some xs) (runIt step a0 (seq.map (·.1))).1 ((runIt step a0 (seq.map (·.1))).2, some (runC (fun (b : Option Exit × α) e => ((step b.2 e).1.isNone, step b.2 e)) (none, a0) seq xs0)) ?_ hps (fun a e h => hlen e h.2.1) (fun a e h => hcl e h.2.1) nd h9' (fun a => wf_pn (hwb a.1) p n a.2) hnb' hnt (runIt_ok hoj (seq.map (·.1)) a0) ?_ (hend _)
  · intro l r v hY
    have hsh : ∀ (c : Option (List Int)) (h : List (Nat × Blk)), shl ((40, pnB p n c) :: h) = (1040, pnB p n c) :: shl h := fun c h => by
      show (40 + 1000, (pnB p n c).sh) :: shl h = _
      rw [pn_sh]
    have hW := fun (b : Option Exit × α) => hid_w (l := l) (r := r.after b.1) (v := v) (h9 b.2) (hwb b.2) (hnb b.2) hnt
    have hW2 := fun (b : Option Exit × α) (c : Option (List Int)) => hid_w (l := l) (r := r.after b.1) (v := v) (h9' (b.2, c)) (wf_pn (hwb b.2) p n c) (hnb' (b.2, c)) hnt
    have h := hit l (Option Exit × α) (fun b => shl (hid b.2 ++ [recB l (r.after b.1) v tm])) (fun b e => ((step b.2 e).1.isNone, step b.2 e)) (fun t b => b.1 = none ∧ inv t b.2) hW (fun b => by
      show get (40 + 1000) (shl _) = none
      rw [get_shl, get_last (hid b.2) _ 40 rfl (h9 b.2), if_neg (by decide), h40]; rfl) (fun b c => by
      have := hW2 b c
      rw [List.cons_append, hsh] at this
      exact this) (fun b xs e t hb he => by
      obtain ⟨o, b2⟩ := b
      obtain ⟨hb1, hb2⟩ := hb
      dsimp only at hb1 hb2
      subst hb1
      have hy := hY (b2, some xs) e ⟨⟨t, hb2⟩, he, xs, rfl⟩
      simp only [List.cons_append, hsh] at hy
      refine ⟨hy, fun h => ?_⟩
      have h1 : (step b2 e).1 = none := by simpa using h
      exact ⟨h1, hinv b2 e t hb2 he h1⟩) (none, a0) ⟨rfl, hi0⟩
    rw [runB_it] at h
    simp only [List.cons_append, hsh]
    exact h
  · rintro ⟨a, c⟩ e ⟨⟨t, h1⟩, h2, xs, hc⟩ v
    dsimp only at hc
    subst hc
    exact hbody a e t h1 xs h2 v
theorem DW.rngP [Lays] {g : Operand} {ps : List Tmp} {assign body : SC} {Q : Exit → St → Prop} {nt : Nat} {tm : List (Nat × D)} {bx0 : List (Nat × Blk)} {f : FuncId} {fs caps : List D} (p n : Nat) (xs0 : List Int)
    (hid : α → List (Nat × Blk)) (a0 : α) (step : α → ε → Option Exit × α) (en : ε → List D) (ok : ε → Prop) (seq : List (ε × List Int)) (hit : ItP P f fs caps en ok p n xs0 seq) (inv : List ε → α → Prop) (hi0 : inv (seq.map (·.1)) a0) (hinv : ∀ a e t, inv (e :: t) a → ok e → (step a e).1 = none → inv t (step a e).2)
    (hg : calleeD (St.op ⟨nt, tm, bx0⟩ g) = some (f, fs, caps)) (hfc : ∀ k, D.mens k fs = false ∧ D.mens k caps = false) (hb0 : (40, pnB p n (some xs0)) :: hid a0 = bx0) (hps : ∀ p ∈ ps, p < nt) (hlen : ∀ e, ok e → ps.length = (en e).length)
    (hcl : ∀ e, ok e → ∀ k, D.mens k (en e) = false) (nd : (tm.map (·.1)).Nodup) (h9 : ∀ a, get 999 (hid a) = none) (h40 : ∀ a, get 40 (hid a) = none) (hwb : ∀ a, wfB tm (hid a) = true)
    (hnb : ∀ a, (hid a).all (fun p => p.2.nb) = true) (hnt : tm.all (fun p => p.2.nb) = true) (hoj : ∀ a e, okJ (step a e).1 = true)
    (hbody : ∀ a e t, inv (e :: t) a → ∀ xs, ok e → ∀ v, DW P assign (fun x σ' => x = .normal ∧ DW P body (roundQ nt v tm (step a e).1 ((40, pnB p n (some xs)) :: hid (step a e).2)) σ') ⟨nt, insPs ps (en e) tm, (40, pnB p n (some xs)) :: (hid a ++ [capB v tm])⟩)
    (hend : ∀ c, Q ((runIt step a0 (seq.map (·.1))).1.getD .normal) ⟨nt, tm, (40, pnB p n c) :: hid (runIt step a0 (seq.map (·.1))).2⟩) : DW P (.rng g ps assign body) Q ⟨nt, tm, bx0⟩ := fun c hc => by
  have hnb' : ∀ a j x, get j (hid a) = some x → x.nb = true := fun a j x hj => List.all_eq_true.1 (hnb a) _ (get_mem hj)
  have hnt' : ∀ p ∈ tm, p.2.nb = true := fun p hp => List.all_eq_true.1 hnt p hp
  cases c <;> simp only [toS, reduceCtorEq, SC.rng.injEq] at hc
  · (repeat' (split at hc)) <;> cases hc
  · obtain ⟨rfl, rfl, h1, h2⟩ := hc
    exact W.rngP hg hfc p n xs0 hid a0 hb0 step en ok seq hit inv hi0 hinv hps hlen hcl nd h9 h40 hwb hnb' hnt' hoj (fun a e t ha xs he v => W.mono (hbody a e t ha xs he v _ h1) (fun x σ' h => ⟨h.1, h.2 _ h2⟩)) hend
theorem pn_map (f : D → D) (hf : ∀ x, f (dI x) = dI x) (ht : f .top = .top) : ∀ l : List D, (∀ d ∈ l, (∃ x, d = dI x) ∨ d = .top) → l.map f = l
  | [], _ => rfl
  | d :: l, h => by
    rw [List.map_cons, pn_map f hf ht l (fun x hx => h x (List.mem_cons_of_mem _ hx))]
    rcases h d (by simp) with ⟨x, rfl⟩ | rfl
    · rw [hf]
    · rw [ht]
theorem pn_rels (k : Nat) (x : Blk) : ∀ l : List D, (∀ d ∈ l, (∃ x, d = dI x) ∨ d = .top) → relDs k x l = l
  | [], _ => rfl
  | d :: l, h => by
    rw [relDs, pn_rels k x l (fun x hx => h x (List.mem_cons_of_mem _ hx))]
    rcases h d (by simp) with ⟨x, rfl⟩ | rfl <;> rfl
theorem pnB_men [Lays] (j p n : Nat) (c : Option (List Int)) : Blk.men j (pnB p n c) = false := pn_mens j _ (pn_plain n c)
theorem pnB_keys [Lays] (bx : List (Nat × Blk)) (p n : Nat) (c : Option (List Int)) : Blk.keysIn bx (pnB p n c) = true := pn_keys bx _ (pn_plain n c)
theorem pnB_kill [Lays] (j p n : Nat) (c : Option (List Int)) : killB j (pnB p n c) = pnB p n c := congrArg (Blk.pbox p) (pn_map (killD j) (fun _ => rfl) rfl _ (pn_plain n c))
theorem pnB_rel [Lays] (j : Nat) (x : Blk) (p n : Nat) (c : Option (List Int)) : relB j x (pnB p n c) = pnB p n c := congrArg (Blk.pbox p) (pn_rels j x _ (pn_plain n c))
attribute [go_sem] pnB_men pnB_keys pnB_kill pnB_rel
end Go.Dw
end
