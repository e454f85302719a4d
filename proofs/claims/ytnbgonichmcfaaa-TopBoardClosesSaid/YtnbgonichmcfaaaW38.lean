/- Helpers of a proof. -/
import Derived.Test.YtnbgonichmcfaaaW37
set_option linter.unusedVariables false
set_option linter.unusedSimpArgs false
section
set_option linter.unusedSimpArgs false
namespace Go.Dw
open Go.RowKit
variable {P : Program} {α ε : Type}
mutual
theorem keysIn_sh [Lays] (bx : List (Nat × Blk)) : ∀ d : D, d.sh.keysIn (shl bx) = d.keysIn bx
  | .top => rfl
  | .c _ => rfl
  | .agg cs => keysIns_sh bx cs
  | .tup cs => keysIns_sh bx cs
  | .box k _ => by simp only [D.sh, D.keysIn, get_shl, Option.isSome_map]
  | .own k => by simp only [D.sh, D.keysIn, get_shl, Option.isSome_map]
  | .elo k _ _ _ => by simp only [D.sh, D.keysIn, get_shl, Option.isSome_map]
  | .win k _ _ _ => by simp only [D.sh, D.keysIn, get_shl, Option.isSome_map]
  | .hd k => by simp only [D.sh, D.keysIn, get_shl, Option.isSome_map]
  | .fn _ fs caps => by simp only [D.sh, D.keysIn, keysIns_sh bx fs, keysIns_sh bx caps]
theorem keysIns_sh [Lays] (bx : List (Nat × Blk)) : ∀ ds : List D, D.keysIns (shl bx) (D.shs ds) = D.keysIns bx ds
  | [] => rfl
  | d :: ds => by simp only [D.shs, D.keysIns, keysIn_sh bx d, keysIns_sh bx ds]
end
theorem bkeys_sh [Lays] (bx : List (Nat × Blk)) (x : Blk) : x.sh.keysIn (shl bx) = x.keysIn bx := by
  cases x with
  | box cs => exact keysIns_sh bx cs
  | map ks cs => exact keysIns_sh bx cs
  | pmap l ks cs => exact keysIns_sh bx cs
  | pbox l cs => exact keysIns_sh bx cs
  | row n es =>
    simp only [Blk.sh, Blk.keysIn, List.all_map]
    congr 1
    funext e
    exact keysIns_sh bx e
  | lp o v tm =>
    simp only [Blk.sh, Blk.keysIn, List.all_map]
    congr 1
    funext e
    exact keysIn_sh bx e.2
mutual
theorem keysIn_mono {bx bx' : List (Nat × Blk)} (hm : ∀ k, (get k bx).isSome = true → (get k bx').isSome = true) : ∀ d : D, d.keysIn bx = true → d.keysIn bx' = true
  | .top, _ => rfl
  | .c _, _ => rfl
  | .agg cs, h => keysIns_mono hm cs h
  | .tup cs, h => keysIns_mono hm cs h
  | .box k _, h => hm k h
  | .own k, h => hm k h
  | .elo k _ _ _, h => hm k h
  | .win k _ _ _, h => hm k h
  | .hd k, h => hm k h
  | .fn _ fs caps, h => by
    simp only [D.keysIn, Bool.and_eq_true] at h ⊢
    exact ⟨keysIns_mono hm fs h.1, keysIns_mono hm caps h.2⟩
theorem keysIns_mono {bx bx' : List (Nat × Blk)} (hm : ∀ k, (get k bx).isSome = true → (get k bx').isSome = true) : ∀ ds : List D, D.keysIns bx ds = true → D.keysIns bx' ds = true
  | [], _ => rfl
  | d :: ds, h => by
    simp only [D.keysIns, Bool.and_eq_true] at h ⊢
    exact ⟨keysIn_mono hm d h.1, keysIns_mono hm ds h.2⟩
end
theorem bkeys_mono [Lays] {bx bx' : List (Nat × Blk)} (hm : ∀ k, (get k bx).isSome = true → (get k bx').isSome = true) (x : Blk) (h : x.keysIn bx = true) : x.keysIn bx' = true := by
  cases x with
  | box cs => exact keysIns_mono hm cs h
  | map ks cs => exact keysIns_mono hm cs h
  | pmap l ks cs => exact keysIns_mono hm cs h
  | pbox l cs => exact keysIns_mono hm cs h
  | row n es =>
    simp only [Blk.keysIn, List.all_eq_true] at h ⊢
    exact fun e he => keysIns_mono hm e (h e he)
  | lp o v tm =>
    simp only [Blk.keysIn, List.all_eq_true] at h ⊢
    exact fun e he => keysIn_mono hm e.2 (h e he)
structure HidW (h : List (Nat × Blk)) : Prop extends HidOk h where
  keys : h.all (fun p => p.2.keysIn h) = true
theorem HidW.app [Lays] {h : List (Nat × Blk)} (hh : HidW h) (o : List (Nat × Blk)) : h.all (fun p => p.2.keysIn (o ++ h)) = true := by
  have := hh.keys
  simp only [List.all_eq_true] at this ⊢
  refine fun p hp => bkeys_mono (fun k hk => ?_) p.2 (this p hp)
  rw [get_app]
  cases get k o with
  | some x => rfl
  | none => exact hk
theorem HidW.app1 [Lays] {h : List (Nat × Blk)} (hh : HidW h) (p : Nat × Blk) : h.all (fun x => x.2.keysIn (p :: h)) = true := hh.app [p]
theorem HidW.app2 [Lays] {h : List (Nat × Blk)} (hh : HidW h) (p q : Nat × Blk) : h.all (fun x => x.2.keysIn (p :: q :: h)) = true := hh.app [p, q]
theorem HidW.end [Lays] {h : List (Nat × Blk)} (hh : HidW h) (o : List (Nat × Blk)) : h.all (fun p => p.2.keysIn (h ++ o)) = true := by
  have := hh.keys
  simp only [List.all_eq_true] at this ⊢
  refine fun p hp => bkeys_mono (fun k hk => ?_) p.2 (this p hp)
  rw [get_app]
  revert hk
  cases get k h <;> simp
theorem wf_of [Lays] {tm : List (Nat × D)} {bx : List (Nat × Blk)} (hwb : wfB tm bx = true) (k : Nat) (hk : get k bx = none) : (∀ j x, get j bx = some x → x.men k = false) ∧ ∀ p ∈ tm, p.2.men k = false := by
  have h := WF.of (nt := 0) hwb k hk
  simp only [St.men, Bool.or_eq_false_iff, List.any_eq_false] at h
  refine ⟨fun j x hj => ?_, fun p hp => ?_⟩
  · have := h.2 _ (get_mem hj)
    simpa using this
  · have := h.1 p hp
    simpa using this
theorem hid_w [Lays] {l : Nat} {r : Loop} {v : Nat → Value} {tm : List (Nat × D)} {bx : List (Nat × Blk)} (h9 : get 999 bx = none)
    (hwb : wfB tm bx = true) (hnb : ∀ j x, get j bx = some x → x.nb = true) (hnt : ∀ p ∈ tm, p.2.nb = true) :
    HidW (shl (bx ++ [recB l r v tm])) := by
  refine ⟨hid_ok h9 (wf_of hwb) hnb hnt, ?_⟩
  have hm : ∀ k, (get k bx).isSome = true → (get k (bx ++ [recB l r v tm])).isSome = true := fun k hk => by
    rw [get_app]
    revert hk
    cases get k bx <;> simp
  simp only [wfB, Bool.and_eq_true, List.all_eq_true] at hwb
  show ((bx ++ [recB l r v tm]).map fun p => (p.1 + 1000, p.2.sh)).all _ = true
  rw [List.all_map, List.all_eq_true]
  intro p hp
  simp only [Function.comp, bkeys_sh]
  rcases List.mem_append.1 hp with h | h
  · exact bkeys_mono hm p.2 (hwb.2 p h)
  · obtain rfl := List.mem_singleton.1 h
    simp only [recB, Blk.keysIn, List.all_eq_true]
    exact fun e he => keysIn_mono hm e.2 (hwb.1 e he)
def ItD [Lays] (P : Program) (f : FuncId) (fs caps : List D) (en : ε → List D) (ok : ε → Prop) (seq : List ε) : Prop :=
  ∀ (l : Nat) (β : Type) (H : β → List (Nat × Blk)) (st : β → ε → Bool × β) (live : β → Prop), (∀ b, HidW (H b)) →
    (∀ b e, live b → ok e → YCall P l (en e) (H b) (bD (st b e).1) (H (st b e).2) ∧ ((st b e).1 = true → live (st b e).2)) →
    ∀ b0, live b0 → DCall P f (fs ++ [.c (.fn (.yield l) [] [])] ++ caps) (H b0) (.tup []) (H (runB st b0 seq))
def ItB [Lays] (sq : Bool) (P : Program) (f : FuncId) (fs caps : List D) (en : ε → List D) (ok : ε → Prop) (seq : List ε) : Prop :=
  ∀ (l : Nat) (β : Type) (H : β → List (Nat × Blk)) (st : β → ε → Bool × β) (live : List ε → β → Prop), (sq = false → ∀ t t' b, live t b → live t' b) → (∀ b, HidW (H b)) →
    (∀ b e t, live (e :: t) b → ok e → YCall P l (en e) (H b) (bD (st b e).1) (H (st b e).2) ∧ ((st b e).1 = true → live t (st b e).2)) →
    ∀ b0, live seq b0 → DCall P f (fs ++ [.c (.fn (.yield l) [] [])] ++ caps) (H b0) (.tup []) (H (runB st b0 seq))
theorem ItD.toB [Lays] {P : Program} {f : FuncId} {fs caps : List D} {en : ε → List D} {ok : ε → Prop} {seq : List ε} (h : ItD P f fs caps en ok seq) : ItB false P f fs caps en ok seq := fun l β H st live hsq hW hY b0 hl =>
  h l β H st (live seq) hW (fun b e hb he => ⟨(hY b e seq (hsq rfl _ _ _ hb) he).1, fun hc => (hY b e seq (hsq rfl _ _ _ hb) he).2 hc⟩) b0 hl
theorem W.rngG [Lays] (sq : Bool) {g : Operand} {ps : Array Tmp} {assign body : Code} {Q : Exit → St → Prop} {nt : Nat} {tm : List (Nat × D)} {bx0 : List (Nat × Blk)} {f : FuncId} {fs caps : List D} (hg : calleeD (St.op ⟨nt, tm, bx0⟩ g) = some (f, fs, caps)) (hfc : ∀ k, D.mens k fs = false ∧ D.mens k caps = false)
    (hid : α → List (Nat × Blk)) (a0 : α) (hb0 : hid a0 = bx0) (step : α → ε → Option Exit × α) (en : ε → List D) (ok : ε → Prop) (seq : List ε) (hit : ItB sq P f fs caps en ok seq) (inv : List ε → α → Prop) (hsq : sq = false → ∀ t t' a, inv t a → inv t' a) (hi0 : inv seq a0) (hinv : ∀ a e t, inv (e :: t) a → ok e → (step a e).1 = none → inv t (step a e).2) (hps : ∀ p ∈ ps.toList, p < nt) (hlen : ∀ e, ok e → ps.toList.length = (en e).length)
    (hcl : ∀ e, ok e → ∀ k, D.mens k (en e) = false) (nd : (tm.map (·.1)).Nodup) (h9 : ∀ a, get 999 (hid a) = none) (hwb : ∀ a, wfB tm (hid a) = true)
    (hnb : ∀ a j x, get j (hid a) = some x → x.nb = true) (hnt : ∀ p ∈ tm, p.2.nb = true) (hoj : ∀ a e, okJ (step a e).1 = true)
    (hbody : ∀ a e t, inv (e :: t) a → ok e → ∀ v, W P assign (fun x σ' => x = .normal ∧ W P body (roundQ nt v tm (step a e).1 (hid (step a e).2)) σ') ⟨nt, insPs ps.toList (en e) tm, hid a ++ [capB v tm]⟩)
    (hend : Q ((runIt step a0 seq).1.getD .normal) ⟨nt, tm, hid (runIt step a0 seq).2⟩) : W P (.rangeFunc g ps assign body) Q ⟨nt, tm, bx0⟩ := by
  have hwf : ∀ a k, get k (hid a) = none → (∀ j x, get j (hid a) = some x → x.men k = false) ∧ ∀ p ∈ tm, p.2.men k = false := fun a => wf_of (hwb a)
  intro N O0 w0 a w rd n Qm hi hq
  obtain ⟨G, hc⟩ := hi
  subst hb0
  refine wpIn_rangeFunc fun fn _ => ?_
  have hrd : ∀ l, rd.1 = some l → ∃ r, w.heap[l]? = some (.loop r) := fun l hl => by
    obtain ⟨r, hr, ho⟩ := rd.2 l hl
    exact ⟨r, by rw [hc.fr.keep l (lt_of_heap hr) ho]; exact hr⟩
  obtain ⟨l, mark, w1, m, he, hl1, hwl, hsz1, hk1, hos1, htp1, hou1, hmark⟩ := enter_any (P := P) w fn a.tmps ps assign body rd.1 hrd
  let r : RC := ⟨fn, a.tmps, ps, assign, body, m⟩
  let v : Nat → Value := fun t => a.tmps.getD t undef
  have hll1 := lt_of_heap hl1
  have htmv : ∀ t d, get t tm = some d → a.tmps[t]? = some (v t) ∧ RepD w (Av N G (hid a0)) G d (v t) := fun t d ht => by
    obtain ⟨y, hy, hr⟩ := hc.tm t d ht
    have : v t = y := by show a.tmps.getD t undef = y; rw [Array.getD_eq_getD_getElem?, hy]; rfl
    rw [this]; exact ⟨hy, hr⟩
  let H : Option Exit × α → List (Nat × Blk) := fun b => shl (hid b.2 ++ [recB l (r.after b.1) v tm])
  obtain ⟨hbd, _, hcall⟩ := hit l (Option Exit × α) H (fun b e => ((step b.2 e).1.isNone, step b.2 e)) (fun t b => b.1 = none ∧ inv t b.2) (fun h t t' b hb => ⟨hb.1, hsq h t t' b.2 hb.2⟩) (fun b => hid_w (h9 b.2) (hwb b.2) (hnb b.2) hnt) (fun b e t hb he => by
    obtain ⟨o, b2⟩ := b
    obtain ⟨hb, hiv⟩ := hb
    dsimp only at hb hiv
    subst hb
    refine ⟨ycall_of (r := r) (nt := nt) hc.nt (hlen e he) hps (fun t d ht => ⟨get_mem ht, (htmv t d ht).1⟩) (hcl e he) (h9 _) (h9 _) (hwf _) (hwf _) (hnb _) hnt (hbody b2 e t hiv he), fun h => ?_⟩
    have h1 : (step b2 e).1 = none := by simpa using h
    exact ⟨h1, hinv b2 e t hiv he h1⟩) (none, a0) ⟨rfl, hi0⟩
  rw [runB_it] at hcall
  have hget : ∀ (a : α) (r' : Loop) (k : Nat), get k (hid a ++ [recB l r' v tm]) = if k = 999 then some (recB l r' v tm).2 else get k (hid a) := fun a r' k => get_last (hid a) _ k rfl (h9 a)
  obtain ⟨Gi, hGi, hGi9⟩ : ∃ Gi : Gh, (∀ k, ¬ k = 999 → Gi.sh.β k = G.β k ∧ Gi.sh.γ k = G.γ k) ∧ Gi.sh.β 999 = some l := by
    refine ⟨⟨fun k => if k = 1999 then some l else G.β (k - 1000), fun k => G.γ (k - 1000)⟩, fun k hk => ?_, ?_⟩
    · simp only [Gh.sh, Nat.add_sub_cancel, and_true]
      rw [if_neg (by omega)]
    · simp [Gh.sh]
  have hownI : ∀ b, owned Gi (H (none, a0)) b → b = l ∨ owned G (hid a0) b := by
    intro b hb
    obtain ⟨k, x, hk, hb⟩ := owned_shl.1 hb
    rw [hget] at hk
    split at hk
    · rename_i e; subst e; rw [hGi9] at hb; cases hb; exact .inl rfl
    · rename_i e
      rw [(hGi k e).1] at hb
      exact .inr ⟨k, x, hk, hb⟩
  have hlo : ¬ owned G (hid a0) l := fun h => by have := (hc.own l h).1; omega
  have hkp1 : Keeps w w1 (Av N G (hid a0)) (Av N Gi (H (none, a0))) := {
    size := hsz1
    av := fun bw b hb hA hA' => by
      rcases hA' with h | h
      · rcases hownI b h with rfl | h
        · omega
        · exact hA (.inl h)
      · exact hA (.inr h)
    cell := fun _ b hb _ o => cell?_of_heap (hk1 b hb) o }
  have hm9 := hwf a0 999 (h9 a0)
  have hheap : HeapOk (Av N Gi (H (none, a0))) w1 Gi (H (none, a0)) := {
    rep := fun j y hj => by
      obtain ⟨k, x, rfl, hk, rfl⟩ := get_shl_some hj
      refine (RepB_sh x).2 ?_
      rw [hget] at hk
      split at hk
      · rename_i e; subst e; cases hk
        refine ⟨⟨hGi9, hl1⟩, fun p hp => ?_⟩
        exact RepD.mono hkp1 (fun k => k = 999) hGi p.2 _ (fun k hk => by subst hk; exact hm9.2 p hp) (htmv p.1 p.2 (nodup_get nd p hp)).2
      · rename_i e
        exact RepB.mono hkp1 (fun k => k = 999) hGi x e (fun b hb => hk1 b (hc.own b ⟨k, x, hk, hb⟩).1) (fun i hi => by subst hi; exact hm9.1 k x hk) (hc.rep k x hk)
    inj := fun j j' y y' b hj hj' hb hb' => by
      obtain ⟨k, x, rfl, hk, rfl⟩ := get_shl_some hj
      obtain ⟨k', x', rfl, hk', rfl⟩ := get_shl_some hj'
      rw [hget] at hk hk'
      have key : ∀ k x, (if k = 999 then some (recB l (r.after (none, a0).1) v tm).2 else get k (hid a0)) = some x → Gi.β (k + 1000) = some b → (k = 999 ∧ b = l) ∨ (get k (hid a0) = some x ∧ G.β k = some b) := by
        intro k x hk hb
        by_cases e : k = 999
        · left
          rw [← sh_β, e, hGi9] at hb
          cases hb; exact ⟨e, rfl⟩
        · rw [if_neg e] at hk
          exact .inr ⟨hk, by rw [← sh_β, (hGi k e).1] at hb; exact hb⟩
      rcases key k x hk hb with ⟨rfl, rfl⟩ | ⟨h1, h2⟩ <;> rcases key k' x' hk' hb' with ⟨rfl, h5⟩ | ⟨h3, h4⟩
      · rfl
      · exact absurd ⟨k', x', h3, h4⟩ hlo
      · subst h5; exact absurd ⟨k, x, h1, h2⟩ hlo
      · rw [hc.inj k k' x x' b h1 h3 h2 h4]
    lt := fun b hb => by
      rcases hownI b hb with rfl | h
      · exact hll1
      · have := (hc.own b h).1; omega
    laid := fun p hp => by
      obtain ⟨h1, h2, h3⟩ := hc.laidA p hp
      have h4 := hc.laidA.keep hsz1 (fun b hb _ => hk1 b hb) p hp
      refine ⟨h4.1, ?_, h4.2.2⟩
      rintro (h5 | h5)
      · rcases hownI _ h5 with h6 | h6
        · omega
        · exact h2 (.inr h6)
      · exact h2 (.inl h5.2) }
  have hgr := hc.op g
  obtain ⟨x1, x2, hgv, hf1', hf2'⟩ := callee_sound hg hgr
  have has : RepDs w1 (Av N Gi (H (none, a0))) Gi (fs ++ [.c (.fn (.yield l) [] [])] ++ caps) (x1.toList ++ [.func (.yield l) #[] #[]] ++ x2.toList) := by
    refine RepDs.append (RepDs.append (RepDs.mono hkp1 (fun _ => True) (fun k h => absurd trivial h) _ _ (fun k _ => (hfc k).1) hf1') ?_) (RepDs.mono hkp1 (fun _ => True) (fun k h => absurd trivial h) _ _ (fun k _ => (hfc k).2) hf2')
    exact ⟨_, [], rfl, ⟨#[], #[], rfl, rfl, rfl⟩, rfl⟩
  have hNlt : ∀ b, N b → b < w.heap.size := fun b hb => Nat.lt_of_lt_of_le (hc.nlt b hb) hc.fr.size
  have hcalls := hcall N Gi w1 _ (fun b hb => Nat.lt_of_lt_of_le (hNlt b hb) hsz1) (fun b hb hn => by
    rcases hownI b hb with rfl | h
    · have := hNlt _ hn; omega
    · rcases (hc.own b h).2 with h3 | h3
      · exact hc.odis b h3 hn
      · have := hc.nlt b hn; omega) hheap has
  refine ⟨l, mark, w1, { target := .fn (.func f) x2, args := x1 ++ #[.func (.yield l) #[] #[]] }, w1, f, (x1.toList ++ [Value.func (.yield l) #[] #[]] ++ x2.toList : List Value).toArray, w1, he, ?_, (fun _ _ => trivial), ?_, (fun h => by cases h), ?_⟩
  · simp [resolve, hgv, Deferred.ofValue]
    rfl
  · simp only [invoke, run_callFunc hbd]
    congr 2
    apply Array.ext'
    simp
  refine CallsIn.mono (calls_Fx rd.1 (n - 1) hcalls) ?_
  rintro e w' ⟨G', v', rfl, hheap', _, hfr', hown'⟩
  have hjo := runIt_ok hoj seq a0
  rcases hrun : runIt step a0 seq with ⟨o, a'⟩
  rw [hrun] at hheap' hown' hend hjo
  dsimp only at hend hjo
  have hrec := (RepB_sh (k := 999) _).1 (hheap'.rep 1999 (recB l (r.after o) v tm).2.sh (by
    show get (999 + 1000) (shl _) = _
    rw [get_shl, hget, if_pos rfl]; rfl))
  obtain ⟨⟨hβ, hl'⟩, htv⟩ := hrec
  have hl' : w'.heap[l]? = some (.loop (r.after o)) := hl'
  have hst : (r.after o).state ≠ .busy := by
    simp only [RC.after, RC.loop]
    split <;> simp
  refine ⟨_, _, run_endLoop hl' hst, ?_⟩
  have hlw' : ∀ k x, get k (hid a') = some x → G'.sh.β k = some l → False := fun k x hk hb => by
    have e : k ≠ 999 := fun e => by subst e; rw [h9] at hk; cases hk
    have := hheap'.inj (k + 1000) 1999 x.sh (recB l (r.after o) v tm).2.sh l (by show get (k + 1000) (shl _) = _; rw [get_shl, hget, if_neg e, hk]; rfl) (by show get (999 + 1000) (shl _) = _; rw [get_shl, hget, if_pos rfl]; rfl) hb hβ
    omega
  have hoF : ∀ b, owned G'.sh (hid a') b → owned G' (H (o, a')) b := fun b ⟨k, x, hk, hb⟩ => by
    have e : k ≠ 999 := fun e => by subst e; rw [h9] at hk; cases hk
    exact owned_shl.2 ⟨k, x, by rw [hget, if_neg e]; exact hk, hb⟩
  have hkpR := keeps_rec (r' := { r.after o with state := .exhausted }) hl' (AvR N G' (H (o, a')))
  have hkpF : Keeps w' (w'.putObj l (.loop { r.after o with state := .exhausted })) (AvR N G' (H (o, a'))) (Av N G'.sh (hid a')) := {
    size := hkpR.size
    av := fun bw b _ hA hA' => by
      rcases hA' with h | h
      · exact hA (.inr (.inl (hoF b h)))
      · exact hA (.inr (.inr h.2))
    cell := hkpR.cell }
  have hkeep : ∀ b, b < w.heap.size → ¬ owned G (hid a0) b → (w'.putObj l (.loop { r.after o with state := .exhausted })).heap[b]? = w.heap[b]? := fun b hb ho => by
    rw [World.putObj_heap_other (by omega), hfr'.keep b (by omega) (fun h => by
      rcases hownI b h with rfl | h
      · omega
      · exact ho h), hk1 b hb]
  have hcF : Core N O0 w0 ⟨nt, tm, hid a'⟩ G'.sh { a with defers := mark ++ a.defers } (w'.putObj l (.loop { r.after o with state := .exhausted })) := {
    rep := fun k x hk => by
      have e : k ≠ 999 := fun e => by subst e; rw [h9] at hk; cases hk
      have h1 := (RepB_sh x).1 (hheap'.rep (k + 1000) x.sh (by show get (k + 1000) (shl _) = _; rw [get_shl, hget, if_neg e, hk]; rfl))
      exact RepB.mono hkpF (fun _ => False) (fun _ _ => ⟨rfl, rfl⟩) x (fun h => h) (fun b hb => World.putObj_heap_other (fun e2 => hlw' k x hk (by rw [← e2]; exact hb))) (fun _ h => h.elim) h1
    inj := fun k k' x x' b hk hk' hb hb' => by
      have e : k ≠ 999 := fun e => by subst e; rw [h9] at hk; cases hk
      have e' : k' ≠ 999 := fun e => by subst e; rw [h9] at hk'; cases hk'
      have := hheap'.inj (k + 1000) (k' + 1000) x.sh x'.sh b (by show get (k + 1000) (shl _) = _; rw [get_shl, hget, if_neg e, hk]; rfl) (by show get (k' + 1000) (shl _) = _; rw [get_shl, hget, if_neg e', hk']; rfl) hb hb'
      omega
    own := fun b hb => by
      have h1 := hoF b hb
      refine ⟨by rw [World.putObj_size]; exact hheap'.lt b h1, ?_⟩
      have hs := hc.fr.size
      rcases hown' b h1 with h2 | h2
      · rcases hownI b h2 with rfl | h3
        · exact .inr (by omega)
        · exact (hc.own b h3).2
      · exact .inr (by omega)
    tm := fun t d ht => ⟨v t, (htmv t d ht).1, RepD.keep hkpF d _ (htv (t, d) (get_mem ht))⟩
    nt := hc.nt
    df := by
      obtain ⟨rs, e1, e2, e3⟩ := hc.df
      have old : ∀ j ∈ rs, (w'.putObj l (.loop { r.after o with state := .exhausted })).heap[j]? = some (.deferred (some [])) ∧ w0.heap.size ≤ j := fun j hj => by
        have h3 := e3 j hj
        refine ⟨?_, h3.2⟩
        rw [hkeep j (lt_of_heap h3.1) (fun ho => ?_)]
        · exact h3.1
        · obtain ⟨k, x, hk, hb⟩ := ho
          obtain ⟨ob, h4, h5⟩ := hc.cells hk hb
          rw [h3.1] at h4; cases h4; cases h5
      rcases hmark with hm | ⟨hm, hm1, hm2, hm3⟩
      · exact ⟨rs, by rw [hm]; exact e1, e2, old⟩
      · refine ⟨m :: rs, by rw [hm, e1]; rfl, List.nodup_cons.2 ⟨fun hmr => ?_, e2⟩, fun j hj => ?_⟩
        · have := lt_of_heap (e3 m hmr).1; omega
        · rcases List.mem_cons.1 hj with rfl | hj
          · refine ⟨?_, by have := hc.fr.size; omega⟩
            rw [World.putObj_heap_other hm3, hfr'.keep j (lt_of_heap hm1) (fun h => ?_)]
            · exact hm1
            · rcases hownI j h with h | h
              · exact hm3 h
              · have := (hc.own j h).1; omega
          · exact old j hj
    fr := ⟨(hfr'.os.trans hos1).trans hc.fr.os, (hfr'.tape.trans htp1).trans hc.fr.tape, (hfr'.output.trans hou1).trans hc.fr.output, by rw [World.putObj_size]; have := hc.fr.size; have := hfr'.size; omega, fun b hb hO => by
      have hs := hc.fr.size
      rw [hkeep b (by omega) (fun h => ?_)]
      · exact hc.fr.keep b hb hO
      · rcases (hc.own b h).2 with h3 | h3
        · exact hO h3
        · omega⟩
    nlt := hc.nlt
    odis := hc.odis
    laid := hc.laid }
  have hpend : (r.after o).pending = jumpC o := rfl
  rw [hpend]
  cases o with
  | none => exact hq _ _ _ _ hend ⟨_, hcF⟩
  | some x =>
    cases x with
    | ret => exact wpIn_ret (hq _ _ _ _ hend ⟨_, hcF⟩)
    | exit i => exact wpIn_exit (hq _ _ _ _ hend ⟨_, hcF⟩)
    | normal => cases hjo
    | goto _ => cases hjo
    | panic _ => cases hjo
    | outgrown => cases hjo
theorem W.rngD [Lays] {g : Operand} {ps : Array Tmp} {assign body : Code} {Q : Exit → St → Prop} {nt : Nat} {tm : List (Nat × D)} {bx0 : List (Nat × Blk)} {f : FuncId} {fs caps : List D} (hg : calleeD (St.op ⟨nt, tm, bx0⟩ g) = some (f, fs, caps)) (hfc : ∀ k, D.mens k fs = false ∧ D.mens k caps = false)
    (hid : α → List (Nat × Blk)) (a0 : α) (hb0 : hid a0 = bx0) (step : α → ε → Option Exit × α) (en : ε → List D) (ok : ε → Prop) (seq : List ε) (hit : ItD P f fs caps en ok seq) (inv : α → Prop) (hi0 : inv a0) (hinv : ∀ a e, inv a → ok e → (step a e).1 = none → inv (step a e).2) (hps : ∀ p ∈ ps.toList, p < nt) (hlen : ∀ e, ok e → ps.toList.length = (en e).length)
    (hcl : ∀ e, ok e → ∀ k, D.mens k (en e) = false) (nd : (tm.map (·.1)).Nodup) (h9 : ∀ a, get 999 (hid a) = none) (hwb : ∀ a, wfB tm (hid a) = true)
    (hnb : ∀ a j x, get j (hid a) = some x → x.nb = true) (hnt : ∀ p ∈ tm, p.2.nb = true) (hoj : ∀ a e, okJ (step a e).1 = true)
    (hbody : ∀ a, inv a → ∀ e, ok e → ∀ v, W P assign (fun x σ' => x = .normal ∧ W P body (roundQ nt v tm (step a e).1 (hid (step a e).2)) σ') ⟨nt, insPs ps.toList (en e) tm, hid a ++ [capB v tm]⟩)
    (hend : Q ((runIt step a0 seq).1.getD .normal) ⟨nt, tm, hid (runIt step a0 seq).2⟩) : W P (.rangeFunc g ps assign body) Q ⟨nt, tm, bx0⟩ :=
  W.rngG false hg hfc hid a0 hb0 step en ok seq hit.toB (fun _ => inv) (fun _ _ _ _ h => h) hi0 (fun a e _ h => hinv a e h) hps hlen hcl nd h9 hwb hnb hnt hoj (fun a e _ ha he v => hbody a ha e he v) hend
theorem DW.rngD [Lays] {g : Operand} {ps : List Tmp} {assign body : SC} {Q : Exit → St → Prop} {nt : Nat} {tm : List (Nat × D)} {bx0 : List (Nat × Blk)} {f : FuncId} {fs caps : List D} (hg : calleeD (St.op ⟨nt, tm, bx0⟩ g) = some (f, fs, caps)) (hfc : ∀ k, D.mens k fs = false ∧ D.mens k caps = false)
    (hid : α → List (Nat × Blk)) (a0 : α) (hb0 : hid a0 = bx0) (step : α → ε → Option Exit × α) (en : ε → List D) (ok : ε → Prop) (seq : List ε) (hit : ItD P f fs caps en ok seq) (inv : α → Prop) (hi0 : inv a0) (hinv : ∀ a e, inv a → ok e → (step a e).1 = none → inv (step a e).2) (hps : ∀ p ∈ ps, p < nt) (hlen : ∀ e, ok e → ps.length = (en e).length)
    (hcl : ∀ e, ok e → ∀ k, D.mens k (en e) = false) (nd : (tm.map (·.1)).Nodup) (h9 : ∀ a, get 999 (hid a) = none) (hwb : ∀ a, wfB tm (hid a) = true)
    (hnb : ∀ a j x, get j (hid a) = some x → x.nb = true) (hnt : ∀ p ∈ tm, p.2.nb = true) (hoj : ∀ a e, okJ (step a e).1 = true)
    (hbody : ∀ a, inv a → ∀ e, ok e → ∀ v, DW P assign (fun x σ' => x = .normal ∧ DW P body (roundQ nt v tm (step a e).1 (hid (step a e).2)) σ') ⟨nt, insPs ps (en e) tm, hid a ++ [capB v tm]⟩)
    (hend : Q ((runIt step a0 seq).1.getD .normal) ⟨nt, tm, hid (runIt step a0 seq).2⟩) : DW P (.rng g ps assign body) Q ⟨nt, tm, bx0⟩ := fun c hc => by
  cases c <;> simp only [toS, reduceCtorEq, SC.rng.injEq] at hc
  · (repeat' (split at hc)) <;> cases hc
  · obtain ⟨rfl, rfl, h1, h2⟩ := hc
    exact W.rngD hg hfc hid a0 hb0 step en ok seq hit inv hi0 hinv hps hlen hcl nd h9 hwb hnb hnt hoj (fun a ha e he v => W.mono (hbody a ha e he v _ h1) (fun x σ' h => ⟨h.1, h.2 _ h2⟩)) hend
theorem DW.rngBD [Lays] {g : Operand} {ps : List Tmp} {assign body : SC} {Q : Exit → St → Prop} {nt : Nat} {tm : List (Nat × D)} {bx0 : List (Nat × Blk)} {f : FuncId} {fs caps : List D}
    (hid : α → List (Nat × Blk)) (a0 : α) (step : α → ε → Option Exit × α) (en : ε → List D) (ok : ε → Prop) (seq : List ε) (hit : ItD P f fs caps en ok seq) (inv : α → Prop) (hi0 : inv a0) (hinv : ∀ a e, inv a → ok e → (step a e).1 = none → inv (step a e).2)
    (hg : calleeD (St.op ⟨nt, tm, bx0⟩ g) = some (f, fs, caps)) (hfc : ∀ k, D.mens k fs = false ∧ D.mens k caps = false) (hb0 : hid a0 = bx0) (hps : ∀ p ∈ ps, p < nt) (hlen : ∀ e, ok e → ps.length = (en e).length)
    (hcl : ∀ e, ok e → ∀ k, D.mens k (en e) = false) (nd : (tm.map (·.1)).Nodup) (h9 : ∀ a, get 999 (hid a) = none) (hwb : ∀ a, wfB tm (hid a) = true)
    (hnb : ∀ a, (hid a).all (fun p => p.2.nb) = true) (hnt : tm.all (fun p => p.2.nb) = true) (hoj : ∀ a e, okJ (step a e).1 = true)
    (hbody : ∀ a, inv a → ∀ e, ok e → ∀ v, DW P assign (fun x σ' => x = .normal ∧ DW P body (roundQ nt v tm (step a e).1 (hid (step a e).2)) σ') ⟨nt, insPs ps (en e) tm, hid a ++ [capB v tm]⟩)
    (hend : Q ((runIt step a0 seq).1.getD .normal) ⟨nt, tm, hid (runIt step a0 seq).2⟩) : DW P (.rng g ps assign body) Q ⟨nt, tm, bx0⟩ := by
  refine DW.rngD hg hfc hid a0 hb0 step en ok seq hit inv hi0 hinv hps hlen hcl nd h9 hwb ?_ ?_ hoj hbody hend
  · intro a j x hj
    exact List.all_eq_true.1 (hnb a) _ (get_mem hj)
  · intro p hp
    exact List.all_eq_true.1 hnt p hp
theorem Ent.comm [Lays] {nt : Nat} {tm : List (Nat × D)} {o h : List (Nat × Blk)} (hh : HidOk h) (ho : o.all (fun p => Nat.blt p.1 1000) = true) : Ent ⟨nt, tm, h ++ o⟩ ⟨nt, tm, o ++ h⟩ ∧ Ent ⟨nt, tm, o ++ h⟩ ⟨nt, tm, h ++ o⟩ := by
  have key : ∀ k, get k (h ++ o) = get k (o ++ h) := by
    intro k
    rw [get_app, get_app]
    rcases Nat.lt_or_ge k 1000 with hk | hk
    · rw [hh.lo k hk]
      cases get k o <;> rfl
    · have : get k o = none := by
        cases hg : get k o with
        | none => rfl
        | some x =>
          have := List.all_eq_true.1 ho _ (get_mem hg)
          simp only [Nat.blt_eq] at this
          omega
      rw [this]
      cases get k h <;> rfl
  exact ⟨Ent.weak (fun _ _ h => ⟨_, h, .refl _⟩) (fun k x hk => ⟨x, by rw [key]; exact hk, .refl x⟩), Ent.weak (fun _ _ h => ⟨_, h, .refl _⟩) (fun k x hk => ⟨x, by rw [← key]; exact hk, .refl x⟩)⟩
theorem hid_get [Lays] {h : List (Nat × Blk)} (hh : HidOk h) (k : Nat) (hk : k < 1000) (o : List (Nat × Blk)) : get k (h ++ o) = get k o := by
  rw [get_app, hh.lo k hk]
theorem hid_ins {h : List (Nat × Blk)} (hh : HidOk h) (k : Nat) (hk : k < 1000) (x : Blk) (o : List (Nat × Blk)) : ins k x (h ++ o) = h ++ ins k x o := by
  have key : ∀ l : List (Nat × Blk), (∀ j, j < 1000 → get j l = none) → ins k x (l ++ o) = l ++ ins k x o := by
    intro l
    induction l with
    | nil => exact fun _ => rfl
    | cons p l ih =>
      intro hl
      have h1 : ¬ p.1 < 1000 := fun h => by
        have := hl p.1 h
        simp [get] at this
      have h2 : ∀ j, j < 1000 → get j l = none := fun j hj => by
        have := hl j hj
        rw [get, if_neg (by omega)] at this
        exact this
      simp only [List.cons_append, ins]
      rw [if_neg (by omega), if_neg (by omega), ih h2]
  exact key h hh.lo
theorem Ent.toH [Lays] {nt : Nat} {tm tm' : List (Nat × D)} {o o' h : List (Nat × Blk)} (hh : HidOk h) (ho : o.all (fun p => Nat.blt p.1 1000) = true) (ht : wkT tm tm') (hx : wkX o o') : Ent ⟨nt, tm, o ++ h⟩ ⟨nt, tm', o' ++ h⟩ := by
  refine Ent.weak (fun _ _ h => wkT_mem ht _ (get_mem h)) (fun k x hk => ?_)
  rw [get_app] at hk
  cases hg : get k o' with
  | some y =>
    rw [hg] at hk
    cases hk
    obtain ⟨d, h1, h2⟩ := wkX_mem hx _ (get_mem hg)
    exact ⟨d, by rw [get_app, h1], h2⟩
  | none =>
    rw [hg] at hk
    dsimp only at hk
    refine ⟨x, ?_, .refl x⟩
    rw [get_app]
    cases hgo : get k o with
    | none => exact hk
    | some y =>
      have := List.all_eq_true.1 ho _ (get_mem hgo)
      simp only [Nat.blt_eq] at this
      rw [hh.lo k this] at hk
      cases hk
theorem bm_lp (k : Nat) (o : Option (Nat × Loop)) (v : Nat → Value) (tm : List (Nat × D)) : Blk.men k (.lp o v tm) = tm.any (fun p => p.2.men k) := rfl
attribute [go_sem] bm_lp
end Go.Dw
end
