/- Helpers of a proof. -/
import Derived.Test.YtnbgonichmcfaaaW26
set_option linter.unusedVariables false
set_option linter.unusedSimpArgs false
section
namespace Go.Dw
open Go.RowKit
variable {P : Program}
theorem get_app [Lays] {α : Type} (k : Nat) (l1 l2 : List (Nat × α)) : get k (l1 ++ l2) = match get k l1 with | some x => some x | none => get k l2 := get_append k l2 l1
theorem sh_β (G : Gh) (k : Nat) : G.sh.β k = G.β (k + 1000) := rfl
def insPs : List Nat → List D → List (Nat × D) → List (Nat × D)
  | p :: ps, d :: ds, tm => insPs ps ds (ins p d tm)
  | _, _, tm => tm
def jumpC : Option Exit → Option Code
  | some .ret => some .ret
  | some (.exit i) => some (.exit i)
  | _ => none
def okJ : Option Exit → Bool
  | none => true
  | some .ret => true
  | some (.exit _) => true
  | _ => false
structure RC where
  fn : FuncId
  T : Array Value
  ps : Array Tmp
  assign : Code
  body : Code
  defers : Nat
def RC.loop (r : RC) (s : LoopState) (j : Option Code) : Loop := { state := s, pending := j, fn := r.fn, tmps := r.T, params := r.ps, assign := r.assign, body := r.body, defers := r.defers }
def RC.after (r : RC) (o : Option Exit) : Loop := r.loop (if o = none then .ready else .done) (jumpC o)
def capB (v : Nat → Value) (tm : List (Nat × D)) : Nat × Blk := (999, .lp none v tm)
def recB (l : Nat) (r : Loop) (v : Nat → Value) (tm : List (Nat × D)) : Nat × Blk := (999, .lp (some (l, r)) v tm)
def roundQ [Lays] (nt : Nat) (v : Nat → Value) (tm : List (Nat × D)) (o : Option Exit) (bx : List (Nat × Blk)) : Exit → St → Prop := fun e σ =>
  e = o.getD .normal ∧ okJ o = true ∧ Ent σ ⟨nt, [], bx ++ [capB v tm]⟩
theorem round_tmps [Lays] {w : World} {A : Bool → Nat → Prop} {G : Gh} : ∀ (ps : List Nat) (ds : List D) (vs : List Value) (tm : List (Nat × D)) (T : Array Value), RepDs w A G ds vs → ps.length = ds.length → (∀ p ∈ ps, p < T.size) →
    (∀ t d, get t tm = some d → ∃ y, T[t]? = some y ∧ RepD w A G d y) →
    (∀ t d, get t (insPs ps ds tm) = some d → ∃ y, ((ps.zip vs).foldl (fun (tmps : Array Value) (p : Nat × Value) => tmps.setIfInBounds p.1 p.2) T)[t]? = some y ∧ RepD w A G d y)
  | [], ds, vs, tm, T, _, _, _, h => by
    cases ds <;> simpa [insPs] using h
  | p :: ps, [], vs, tm, T, _, hl, _, _ => by simp at hl
  | p :: ps, d0 :: ds, vs, tm, T, hr, hl, hp, h => by
    obtain ⟨y0, ys, rfl, h1, h2⟩ := hr
    simp only [insPs, List.zip_cons_cons, List.foldl_cons]
    refine round_tmps ps ds ys (ins p d0 tm) (T.setIfInBounds p y0) h2 (by simpa using hl) (fun q hq => by simpa using hp q (by simp [hq])) ?_
    intro t d ht
    rw [get_ins] at ht
    rw [Array.getElem?_setIfInBounds]
    split at ht
    · rename_i e
      cases ht; subst e
      have := hp t (by simp)
      exact ⟨y0, by simp [this], h1⟩
    · rename_i e
      rw [if_neg (fun e' => e e'.symm)]
      exact h t d ht
theorem round_size : ∀ (l : List (Nat × Value)) (T : Array Value), (l.foldl (fun (tmps : Array Value) (p : Nat × Value) => tmps.setIfInBounds p.1 p.2) T).size = T.size
  | [], T => rfl
  | p :: l, T => by simp only [List.foldl_cons, round_size l, Array.size_setIfInBounds]
theorem cell?_loop {w : World} {l : Nat} {r : Loop} (h : w.heap[l]? = some (.loop r)) (o : Nat) : w.cell? ⟨l, o, none⟩ = none := by
  simp [World.cell?, h]
theorem keeps_rec [Lays] {w : World} {l : Nat} {r r' : Loop} (h : w.heap[l]? = some (.loop r)) (A : Bool → Nat → Prop) : Keeps w (w.putObj l (.loop r')) A A where
  size := by simp
  av := fun _ _ _ h => h
  cell := fun _ b _ _ o => by
    by_cases e : b = l
    · subst e
      rw [cell?_loop h, cell?_loop (World.putObj_heap_same (lt_of_heap h))]
    · exact cell?_of_heap (World.putObj_heap_other e) o
theorem ycall_of [Lays] {l nt : Nat} {r : RC} {v : Nat → Value} {tm : List (Nat × D)} {ds : List D} {bx bx' : List (Nat × Blk)} {o : Option Exit}
    (hsz : r.T.size = nt) (hlen : r.ps.toList.length = ds.length) (hps : ∀ p ∈ r.ps.toList, p < nt) (htm : ∀ t d, get t tm = some d → (t, d) ∈ tm ∧ r.T[t]? = some (v t))
    (hds : ∀ k, D.mens k ds = false) (h9 : get 999 bx = none) (h9' : get 999 bx' = none) (hwf : ∀ k, get k bx = none → (∀ j x, get j bx = some x → x.men k = false) ∧ ∀ p ∈ tm, p.2.men k = false)
    (hwf' : ∀ k, get k bx' = none → (∀ j x, get j bx' = some x → x.men k = false) ∧ ∀ p ∈ tm, p.2.men k = false) (hnb' : ∀ j x, get j bx' = some x → x.nb = true) (hnt : ∀ p ∈ tm, p.2.nb = true)
    (hbody : ∀ v, W P r.assign (fun x σ' => x = .normal ∧ W P r.body (roundQ nt v tm o bx') σ') ⟨nt, insPs r.ps.toList ds tm, bx ++ [capB v tm]⟩) :
    YCall P l ds (shl (bx ++ [recB l (r.after none) v tm])) (bD o.isNone) (shl (bx' ++ [recB l (r.after o) v tm])) := by
  have hget : ∀ (b : List (Nat × Blk)) (c : Nat × Blk) (k : Nat), c.1 = 999 → get 999 b = none → get k (b ++ [c]) = if k = 999 then some c.2 else get k b := by
    intro b c k hc hb
    rw [get_app]
    by_cases e : k = 999
    · subst e; rw [hb]; simp [get, hc]
    · rw [if_neg e]
      cases hk : get k b with
      | some x => rfl
      | none => simp only [get]; rw [if_neg (by omega)]
  have g1 := fun k => hget bx (recB l (r.after none) v tm) k rfl h9
  have g2 := fun k => hget bx' (recB l (r.after o) v tm) k rfl h9'
  have g3 := fun k => hget bx (capB v tm) k rfl h9
  have g4 := fun k => hget bx' (capB v tm) k rfl h9'
  have hok : okRes (bD o.isNone) (shl (bx' ++ [recB l (r.after o) v tm])) := by
    refine ⟨fun _ _ => rfl, fun j y hj k hk => ?_⟩
    obtain ⟨j, x, rfl, hx, rfl⟩ := get_shl_some hj
    rcases Nat.lt_or_ge k 1000 with hlt | hge
    · exact bmen_sh_lo hlt x
    · obtain ⟨k, rfl⟩ : ∃ k', k = k' + 1000 := ⟨k - 1000, by omega⟩
      rw [get_shl, Option.map_eq_none_iff, g2] at hk
      rw [bmen_sh]
      rw [g2] at hx
      split at hk
      · cases hk
      · split at hx
        · cases hx
          simp only [recB, Blk.men, List.any_eq_false]
          intro p hp
          rw [(hwf' k hk).2 p hp]; simp
        · exact (hwf' k hk).1 j x hx
  refine ⟨hok, fun N G w vs hN hdis hheap has => ?_⟩
  have hrec0 := hheap.rep 1999 _ (by rw [show (1999 : Nat) = 999 + 1000 from rfl, get_shl, g1, if_pos rfl]; rfl)
  have hrec := (RepB_sh (k := 999) _).1 hrec0
  obtain ⟨⟨hβ, hl⟩, htv⟩ := hrec
  have hlr : w.heap[l]? = some (.loop (r.after none)) := hl
  have hllt := lt_of_heap hlr
  have hownl : owned G (shl (bx ++ [recB l (r.after none) v tm])) l := owned_shl.2 ⟨999, _, by rw [g1, if_pos rfl], hβ⟩
  have hvl : vs.length = ds.length := has.length
  refine ⟨r.fn, _, r.assign, r.body, run_yield hlr (by have h1 := hlen; simp at h1; simp [RC.after, RC.loop]; omega), fun rd n => ?_⟩
  refine roundIn_of_wpIn trivial ?_
  show r.assign.wpIn (Fx (some l)) n P _ _ w
  let G1 : Gh := G.sh.set 999 none undef
  let N1 : Nat → Prop := fun b => N b ∨ b = l
  let O1 : Nat → Prop := owned G1 (bx ++ [capB v tm])
  have hO1 : ∀ b, O1 b → owned G (shl (bx ++ [recB l (r.after none) v tm])) b ∧ b ≠ l := by
    rintro b ⟨k, x, hk, hb⟩
    rw [g3] at hk
    have hk9 : k ≠ 999 := fun e => by subst e; simp [G1, Gh.set] at hb
    rw [if_neg hk9] at hk
    have hb' : G.sh.β k = some b := by simpa [G1, Gh.set, hk9] using hb
    refine ⟨owned_shl.2 ⟨k, x, by rw [g1, if_neg hk9]; exact hk, hb'⟩, ?_⟩
    rintro rfl
    have := hheap.inj (k + 1000) 1999 x.sh _ b (by rw [get_shl, g1, if_neg hk9, hk]; rfl) (by rw [show (1999 : Nat) = 999 + 1000 from rfl, get_shl, g1, if_pos rfl]; rfl) hb' hβ
    omega
  have hkp1 : Keeps w w (Av N G (shl (bx ++ [recB l (r.after none) v tm]))) (Av N1 G1 (bx ++ [capB v tm])) := {
    size := Nat.le_refl _
    av := fun bw b _ hA hA' => by
      rcases hA' with h | ⟨hf, h | h⟩
      · exact hA (.inl (hO1 b h).1)
      · exact hA (.inr ⟨hf, h⟩)
      · subst h; exact hA (.inl hownl)
    cell := fun _ _ _ _ _ => rfl }
  have hGo : ∀ k, ¬ k = 999 → G1.β k = G.sh.β k ∧ G1.γ k = G.sh.γ k := Gh.set_other G.sh 999 none undef
  have hm9 := hwf 999 h9
  have hm9' := hwf' 999 h9'
  have htmr : ∀ p ∈ tm, RepD w (Av N1 G1 (bx ++ [capB v tm])) G1 p.2 (v p.1) := fun p hp => RepD.mono hkp1 (fun k => k = 999) hGo p.2 _ (fun k hk => by subst hk; exact hm9.2 p hp) (htv p hp)
  have hargs : RepDs w (Av N1 G1 (bx ++ [capB v tm])) G1 ds vs := RepDs.mono hkp1 (fun _ => True) (fun k hk => absurd trivial hk) ds vs (fun k _ => hds k) has
  have htmps := round_tmps r.ps.toList ds vs tm r.T hargs hlen (fun p hp => by rw [hsz]; exact hps p hp) (fun t d ht => by
    obtain ⟨h1, h2⟩ := htm t d ht
    exact ⟨v t, h2, htmr _ h1⟩)
  have hcore : Core N1 O1 w ⟨nt, insPs r.ps.toList ds tm, bx ++ [capB v tm]⟩ G1 { tmps := (r.ps.zip vs.toArray).foldl (fun tmps (t, a) => tmps.setIfInBounds t a) r.T, defers := [] } w := {
    rep := fun k x hk => by
      dsimp only at hk ⊢
      rw [g3] at hk
      split at hk
      · rename_i e; cases hk; subst e
        exact ⟨by simp [G1, Gh.set], htmr⟩
      · rename_i e
        have h1 := (RepB_sh x).1 (hheap.rep (k + 1000) x.sh (by rw [get_shl, g1, if_neg e, hk]; rfl))
        exact RepB.mono hkp1 (fun k => k = 999) hGo x e (fun _ _ => rfl) (fun j hj => by subst hj; exact hm9.1 k x hk) h1
    inj := fun k k' x x' b hk hk' hb hb' => by
      dsimp only at hk hk'
      rw [g3] at hk hk'
      have e1 : k ≠ 999 := fun e => by subst e; simp [G1, Gh.set] at hb
      have e2 : k' ≠ 999 := fun e => by subst e; simp [G1, Gh.set] at hb'
      rw [if_neg e1] at hk; rw [if_neg e2] at hk'
      rw [(hGo k e1).1] at hb; rw [(hGo k' e2).1] at hb'
      have := hheap.inj (k + 1000) (k' + 1000) x.sh x'.sh b (by rw [get_shl, g1, if_neg e1, hk]; rfl) (by rw [get_shl, g1, if_neg e2, hk']; rfl) hb hb'
      omega
    own := fun b hb => ⟨hheap.lt b (hO1 b hb).1, .inl hb⟩
    tm := fun t d ht => by
      obtain ⟨y, hy, hr⟩ := htmps t d ht
      refine ⟨y, ?_, hr⟩
      rw [← hy]
      simp only [← Array.foldl_toList, Array.toList_zip]
    nt := by
      have := round_size (r.ps.toList.zip vs) r.T
      simp only [← Array.foldl_toList, Array.toList_zip]
      rw [hsz] at this
      exact this
    df := ⟨[], rfl, List.nodup_nil, by simp⟩
    fr := ⟨rfl, rfl, rfl, Nat.le_refl _, fun _ _ _ => rfl⟩
    nlt := fun b hb => by
      rcases hb with h | rfl
      · exact hN b h
      · exact hllt
    odis := fun b hb hn => by
      rcases hn with h | h
      · exact hdis b (hO1 b hb).1 h
      · exact (hO1 b hb).2 h
    laid := hheap.laid.sub (fun b hb => by
      rcases hb with (h | rfl) | h
      · exact .inr ⟨rfl, h⟩
      · exact .inl hownl
      · exact .inl (hO1 b h).1) }
  have hnl : ¬ O1 l := fun h => (hO1 l h).2 rfl
  refine hbody v N1 O1 w _ w ⟨some l, fun j hj => by cases hj; exact ⟨_, hlr, hnl⟩⟩ n _ ⟨G1, hcore⟩ ?_
  rintro e σ' a' w' ⟨rfl, hW⟩ ⟨G2, hc2⟩
  have hl' : w'.heap[l]? = some (.loop (r.after none)) := by rw [hc2.fr.keep l hllt hnl]; exact hlr
  let busy : Loop := r.loop .busy none
  refine ⟨w'.putObj l (.loop busy), run_beginRound hl' rfl, ?_⟩
  show r.body.wpIn (Fx (some l)) n P _ _ _
  have hnl2 : ¬ owned G2 σ'.bx l := fun h => by
    rcases (hc2.own l h).2 with h | h
    · exact hnl h
    · omega
  have hkp2 := keeps_rec (r' := busy) hl' (Av N1 G2 σ'.bx)
  have hc3 : Core N1 O1 (w.putObj l (.loop busy)) σ' G2 a' (w'.putObj l (.loop busy)) := {
    rep := fun k x hk => RepB.mono hkp2 (fun _ => False) (fun _ _ => ⟨rfl, rfl⟩) x (fun h => h) (fun b hb => World.putObj_heap_other (fun e => hnl2 ⟨k, x, hk, by rw [← e]; exact hb⟩)) (fun _ h => h.elim) (hc2.rep k x hk)
    inj := hc2.inj
    own := fun b hb => by have := hc2.own b hb; simpa using this
    tm := fun t d ht => let ⟨y, hy, hr⟩ := hc2.tm t d ht; ⟨y, hy, RepD.keep hkp2 d y hr⟩
    nt := hc2.nt
    df := by
      obtain ⟨rs, h1, h2, h3⟩ := hc2.df
      refine ⟨rs, h1, h2, fun j hj => ?_⟩
      have := h3 j hj
      have hne : j ≠ l := fun e => by omega
      rw [World.putObj_heap_other hne]
      simpa using this
    fr := ⟨hc2.fr.os, hc2.fr.tape, hc2.fr.output, by simpa using hc2.fr.size, fun b hb hO => by
      by_cases e : b = l
      · subst e
        rw [World.putObj_heap_same (lt_of_heap hl'), World.putObj_heap_same hllt]
      · rw [World.putObj_heap_other e, World.putObj_heap_other e]
        exact hc2.fr.keep b (by simpa using hb) hO⟩
    nlt := fun b hb => by simpa using hc2.nlt b hb
    odis := hc2.odis
    laid := hc2.laid.keep (by simp) (fun b _ hn => World.putObj_heap_other (fun e => hn (.inl (.inr e)))) }
  refine hW N1 O1 (w.putObj l (.loop busy)) a' _ ⟨some l, fun j hj => by cases hj; exact ⟨_, World.putObj_heap_same hllt, hnl⟩⟩ n _ ⟨G2, hc3⟩ ?_
  rintro e σ'' a'' w3 ⟨he, hoj, hent⟩ hi3
  obtain ⟨G3, hc4⟩ := hent _ _ _ _ _ hi3
  have hl3 : w3.heap[l]? = some (.loop busy) := by rw [hc4.fr.keep l (by simpa using hllt) hnl]; exact World.putObj_heap_same hllt
  have hsz3 : w.heap.size ≤ w3.heap.size := by have := hc4.fr.size; simpa using this
  have hjn : (jumpC o).isNone = o.isNone := by
    cases o with
    | none => rfl
    | some e => cases e <;> first | rfl | (cases hoj; done)
  have fin : ∃ (v1 : Value) (w4 : World), (Instr.endRound l (jumpC o)).run P w3 = .ok v1 w4 ∧ ∃ G' v2, Ending.returned v1 = .returned v2 ∧ HeapOk (AvR N G' (shl (bx' ++ [recB l (r.after o) v tm]))) w4 G' (shl (bx' ++ [recB l (r.after o) v tm])) ∧
      RepD w4 (AvR N G' (shl (bx' ++ [recB l (r.after o) v tm]))) G' (bD o.isNone) v2 ∧ Fr (owned G (shl (bx ++ [recB l (r.after none) v tm]))) w w4 ∧ (∀ b, owned G' (shl (bx' ++ [recB l (r.after o) v tm])) b → owned G (shl (bx ++ [recB l (r.after none) v tm])) b ∨ w.heap.size ≤ b) := by
    refine ⟨_, _, run_endRound (jumpC o) hl3, ?_⟩
    have erec : ({ busy with state := if (jumpC o).isNone then .ready else .done, pending := jumpC o } : Loop) = r.after o := by
      rw [hjn]
      simp only [busy, RC.loop, RC.after]
      cases o <;> rfl
    rw [erec]
    have hdx : ∀ k x, get k bx' = some x → k ≠ 999 ∧ get k (bx' ++ [capB v tm]) = some x := fun k x hk => by
      have : k ≠ 999 := fun e => by subst e; rw [h9'] at hk; cases hk
      exact ⟨this, by rw [g4, if_neg this]; exact hk⟩
    obtain ⟨G', hG', hG9⟩ : ∃ G' : Gh, (∀ k, ¬ k = 999 → G'.sh.β k = G3.β k ∧ G'.sh.γ k = G3.γ k) ∧ G'.sh.β 999 = some l := by
      refine ⟨⟨fun k => if k = 1999 then some l else G3.β (k - 1000), fun k => G3.γ (k - 1000)⟩, fun k hk => ?_, ?_⟩
      · simp only [Gh.sh, Nat.add_sub_cancel, and_true]
        rw [if_neg (by omega)]
      · simp [Gh.sh]
    have hown' : ∀ b, owned G' (shl (bx' ++ [recB l (r.after o) v tm])) b → b = l ∨ owned G3 (bx' ++ [capB v tm]) b := by
      intro b hb
      obtain ⟨k, x, hk, hb⟩ := owned_shl.1 hb
      rw [g2] at hk
      split at hk
      · rename_i e; subst e; rw [hG9] at hb; cases hb; exact .inl rfl
      · rename_i e
        rw [(hG' k e).1] at hb
        exact .inr ⟨k, x, by rw [g4, if_neg e]; exact hk, hb⟩
    have hl3o : ¬ owned G3 (bx' ++ [capB v tm]) l := fun h => by
      rcases (hc4.own l h).2 with h | h
      · exact hnl h
      · have : w.heap.size ≤ l := by simpa using h
        omega
    have hkp4 := keeps_rec (r' := r.after o) hl3 (Av N1 G3 (bx' ++ [capB v tm]))
    have hAf : ∀ b, ¬ Av N1 G3 (bx' ++ [capB v tm]) false b → ¬ AvR N G' (shl (bx' ++ [recB l (r.after o) v tm])) false b := fun b hA hA' => by
      rcases hA' with h | h | h
      · cases h
      · rcases hown' b h with rfl | h
        · exact hA (.inr ⟨rfl, .inr rfl⟩)
        · exact hA (.inl h)
      · exact hA (.inr ⟨rfl, .inl h⟩)
    have hid : ∀ (A : Bool → Nat → Prop) (w : World), Keeps w w A A := fun A w => Keeps.refl w A
    refine ⟨G', _, rfl, ?_, by rw [hjn]; exact ⟨rfl, rfl⟩, ?_, ?_⟩
    · exact {
        rep := fun j y hj => by
          obtain ⟨k, x, rfl, hk, rfl⟩ := get_shl_some hj
          refine (RepB_sh x).2 ?_
          rw [g2] at hk
          split at hk
          · rename_i e; subst e; cases hk
            refine ⟨⟨hG9, World.putObj_heap_same (lt_of_heap hl3)⟩, fun p hp => ?_⟩
            have hcap := hc4.rep 999 _ (by dsimp only; rw [g4, if_pos rfl])
            have h1 := RepD.nb hAf p.2 _ (hnt p hp) (RepD.keep hkp4 p.2 _ (hcap.2 p hp))
            exact RepD.mono (hid _ _) (fun k => k = 999) hG' p.2 _ (fun k hk => by subst hk; exact hm9'.2 p hp) h1
          · rename_i e
            have h1 := hc4.rep k x (by dsimp only; rw [g4, if_neg e]; exact hk)
            have h2 : RepB (w3.putObj l (.loop (r.after o))) (Av N1 G3 (bx' ++ [capB v tm])) G3 k x := RepB.mono hkp4 (fun _ => False) (fun _ _ => ⟨rfl, rfl⟩) x (fun h => h) (fun b hb => World.putObj_heap_other (fun e2 => hl3o ⟨k, x, by rw [g4, if_neg e]; exact hk, by rw [← e2]; exact hb⟩)) (fun _ h => h.elim) h1
            have h3 := RepB.nb hAf x (hnb' k x hk) h2
            exact RepB.mono (hid _ _) (fun k => k = 999) hG' x e (fun _ _ => rfl) (fun i hi => by subst hi; exact hm9'.1 k x hk) h3
        inj := fun j j' y y' b hj hj' hb hb' => by
          obtain ⟨k, x, rfl, hk, rfl⟩ := get_shl_some hj
          obtain ⟨k', x', rfl, hk', rfl⟩ := get_shl_some hj'
          rw [g2] at hk hk'
          have key : ∀ k x, (if k = 999 then some (recB l (r.after o) v tm).2 else get k bx') = some x → G'.β (k + 1000) = some b → (k = 999 ∧ b = l) ∨ (k ≠ 999 ∧ get k (bx' ++ [capB v tm]) = some x ∧ G3.β k = some b) := by
            intro k x hk hb
            by_cases e : k = 999
            · left
              rw [← sh_β, e, hG9] at hb
              cases hb; exact ⟨e, rfl⟩
            · rw [if_neg e] at hk
              exact .inr ⟨e, by rw [g4, if_neg e]; exact hk, by rw [← sh_β, (hG' k e).1] at hb; exact hb⟩
          rcases key k x hk hb with ⟨rfl, rfl⟩ | ⟨e1, h1, h2⟩ <;> rcases key k' x' hk' hb' with ⟨rfl, h5⟩ | ⟨e3, h3, h4⟩
          · rfl
          · exact absurd ⟨k', x', h3, h4⟩ hl3o
          · subst h5; exact absurd ⟨k, x, h1, h2⟩ hl3o
          · rw [hc4.inj k k' x x' b h1 h3 h2 h4]
        lt := fun b hb => by
          rw [World.putObj_size]
          rcases hown' b hb with rfl | h
          · omega
          · exact (hc4.own b h).1
        laid := (hc4.laidA.keep (by rw [World.putObj_size]; exact Nat.le_refl _) (fun b _ hn => World.putObj_heap_other (fun e => hn (.inl (.inr e))))).sub (fun b hb => by
          rcases hb with h | h | h
          · cases h
          · rcases hown' b h with rfl | h
            · exact .inl (.inr rfl)
            · exact .inr h
          · exact .inl (.inl h)) }
    · refine ⟨hc4.fr.os, hc4.fr.tape, hc4.fr.output, by rw [World.putObj_size]; exact hsz3, fun b hb hO => ?_⟩
      have hne : b ≠ l := fun e => hO (by rw [e]; exact hownl)
      rw [World.putObj_heap_other hne, hc4.fr.keep b (by simpa using hb) (fun h => hO (hO1 b h).1), World.putObj_heap_other hne]
    · intro b hb
      rcases hown' b hb with rfl | h
      · exact .inl hownl
      · rcases (hc4.own b h).2 with h | h
        · exact .inl (hO1 b h).1
        · exact .inr (by simpa using h)
  cases o with
  | none => subst he; exact fin
  | some x =>
    cases x with
    | ret => subst he; exact fin
    | exit i => subst he; exact fin
    | normal => cases hoj
    | goto _ => cases hoj
    | panic _ => cases hoj
    | outgrown => cases hoj
end Go.Dw
end
