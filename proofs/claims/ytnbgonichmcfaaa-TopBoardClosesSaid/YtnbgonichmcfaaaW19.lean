/- Helpers of a proof. -/
import Derived.Test.YtnbgonichmcfaaaW18
set_option linter.unusedVariables false
set_option linter.unusedSimpArgs false
section
set_option linter.unusedSimpArgs false
namespace Go.Dw
open Go.RowKit
variable {P : Program} {σ σ' : St}
theorem map_kill_of {k : Nat} : ∀ {ds : List D}, D.mens k ds = false → ds.map (killD k) = ds
  | [], _ => rfl
  | d :: ds, h => by
    simp only [D.mens, Bool.or_eq_false_iff] at h
    rw [List.map_cons, killD_of h.1, map_kill_of h.2]
theorem killB_of {k : Nat} {x : Blk} (h : x.men k = false) : killB k x = x := by
  cases x with
  | box cs => exact congrArg Blk.box (map_kill_of h)
  | map ks ds => exact congrArg (Blk.map ks) (map_kill_of h)
  | pmap l ks ds => exact congrArg (Blk.pmap l ks) (map_kill_of h)
  | pbox l ds => exact congrArg (Blk.pbox l) (map_kill_of h)
  | row n es =>
    simp only [Blk.men, List.any_eq_false] at h
    refine congrArg (Blk.row n) ?_
    have : ∀ l : List (List D), (∀ e ∈ l, ¬ D.mens k e = true) → l.map (·.map (killD k)) = l := by
      intro l
      induction l with
      | nil => intro _; rfl
      | cons e l ih =>
        intro hl
        rw [List.map_cons, ih fun x hx => hl x (by simp [hx]), map_kill_of (by simpa using hl e (by simp))]
    exact this es h
  | lp o v tm =>
    simp only [Blk.men, List.any_eq_false] at h
    refine congrArg (Blk.lp o v) ?_
    have : ∀ l : List (Nat × D), (∀ p ∈ l, ¬ p.2.men k = true) → (l.map fun p => (p.1, killD k p.2)) = l := by
      intro l
      induction l with
      | nil => intro _; rfl
      | cons e l ih =>
        intro hl
        rw [List.map_cons, ih fun x hx => hl x (by simp [hx]), killD_of (by simpa using hl e (by simp))]
    exact this tm h
theorem bx_kill_of {k : Nat} : ∀ {bx : List (Nat × Blk)}, (∀ p ∈ bx, p.2.men k = false) → (bx.map fun p => (p.1, killB k p.2)) = bx
  | [], _ => rfl
  | p :: l, h => by
    rw [List.map_cons, bx_kill_of fun q hq => h q (by simp [hq]), killB_of (h p (by simp))]
theorem ins_map {α : Type} (f : α → α) (k : Nat) (x : α) : ∀ l : List (Nat × α), (ins k x l).map (fun p => (p.1, f p.2)) = ins k (f x) (l.map fun p => (p.1, f p.2))
  | [] => rfl
  | p :: l => by
    simp only [ins, List.map_cons]
    split
    · rfl
    · split
      · rfl
      · rw [List.map_cons, ins_map f k x l]
theorem pkey_row {f : Blk → Bool} (hf : ∀ n es, f (.row n es) = false) {k n n' : Nat} {es es' : List (List D)} : ∀ {bx : List (Nat × Blk)}, get k bx = some (.row n es) → pkey f (ins k (.row n' es') bx) = pkey f bx
  | [], h => by cases h
  | p :: r, h => by
    simp only [get] at h
    simp only [ins]
    split
    · simp only [pkey, hf, Bool.false_eq_true, if_false]
    · split at h
      · rename_i h1 h2
        rw [if_pos h2]
        have : f p.2 = false := by rw [Option.some.inj h]; exact hf n es
        simp only [pkey, hf, this, Bool.false_eq_true, if_false]
      · rename_i h1 h2
        rw [if_neg h2]
        simp only [pkey]
        rw [pkey_row hf h]
structure AppO (o : Oper) (s x : Operand) (st xt : TypeId) (kd : Nat) : Prop where
  op : ∃ c : Call, o.op = .call c ∧ c.callee = .builtin .append ∧ c.args = #[s, x] ∧ c.argTypes = #[st, xt]
  dst : o.dst = some kd
  guard : o.guard = none
structure AppE (P : Program) (σ : St) (s x : Operand) (st xt : TypeId) (k0 n : Nat) (es xs : List (List D)) [Lays] : Prop where
  row : get k0 σ.bx = some (.row n es)
  own : σ.op s = .own k0
  ty : ∃ e e' ti, elemI P st = some e ∧ elemI P xt = some e' ∧ tyI P e = some ti ∧ n = ti.size ∧ (es.length + xs.length) * ti.bytes ≤ 2 ^ 44
  src : srcD σ n (σ.op x) = some xs
  ok : xs.flatten.all cellOK = true
  men : Blk.men k0 (.row n (es ++ xs)) = false
  len : es.length + xs.length ≤ 2 ^ 44
def appS (σ : St) (kd k0 n : Nat) (es : List (List D)) : St := ((σ.kill k0).putB k0 (.row n es)).put kd (.own k0)
theorem app_split [Lays] {o : Oper} {s x : Operand} {st xt : TypeId} {kd k0 : Nat} {dr : Bool} (ho : AppO o s x st xt kd) (hs : σ.op s = .own k0) (h : OpTo P dr o σ σ') : kd < σ.nt ∧ ∃ n es xs, AppE P σ s x st xt k0 n es xs ∧ σ' = appS σ kd k0 n (es ++ xs) := by
  obtain ⟨⟨c, hop, hcal, hargs, htys⟩, hdst, _⟩ := ho
  obtain ⟨hd, h⟩ := h
  rw [hop] at h
  dsimp only at h
  rw [hcal] at h
  obtain ⟨k, s', x', st', xt', len, bytes, h1, h2, h3, h4, h5, h6⟩ := h
  rw [hdst] at h1; cases h1
  rw [hargs] at h2; cases h2
  rw [htys] at h3; cases h3
  refine ⟨hd kd hdst, ?_⟩
  rw [hs] at h4
  unfold appD at h4
  split at h4
  · rename_i e e' he he'
    split at h4
    · rename_i ti hti
      split at h4
      · rename_i xs hxs
        split at h4
        · rename_i hok
          dsimp only at h4
          split at h4
          · rename_i n es hrow
            split at h4
            · rename_i hc
              cases h4
              exact ⟨n, es, xs, ⟨hrow, hs, ⟨e, e', ti, he, he', hti, hc.1, h5⟩, by rw [hc.1]; exact hxs, hok, hc.2, h6⟩, rfl⟩
            · cases h4
          · cases h4
        · cases h4
      · cases h4
    · cases h4
  · cases h4
theorem app_join [Lays] {o : Oper} {s x : Operand} {st xt : TypeId} {kd k0 n : Nat} {es xs : List (List D)} {dr : Bool} (ho : AppO o s x st xt kd) (hd : kd < σ.nt) (h : AppE P σ s x st xt k0 n es xs) : OpTo P dr o σ (appS σ kd k0 n (es ++ xs)) := by
  obtain ⟨⟨c, hop, hcal, hargs, htys⟩, hdst, _⟩ := ho
  obtain ⟨e, e', ti, he, he', hti, hn, hb⟩ := h.ty
  refine ⟨fun t ht => by rw [hdst] at ht; cases ht; exact hd, ?_⟩
  rw [hop]
  dsimp only
  rw [hcal]
  refine ⟨kd, s, x, st, xt, es.length + xs.length, ti.bytes, hdst, hargs, htys, ?_, hb, h.len⟩
  have hsrc := h.src
  rw [hn] at hsrc
  unfold appD
  simp only [he, he', hti, hsrc, h.ok, if_true, h.own, h.row]
  rw [if_pos ⟨hn, h.men⟩]
  rfl
theorem get_mem' {α : Type} {k : Nat} {x : α} : ∀ {l : List (Nat × α)}, get k l = some x → (k, x) ∈ l
  | [], h => by cases h
  | p :: l, h => by
    simp only [get] at h
    split at h
    · rename_i e; cases h; subst e; simp
    · exact List.mem_cons_of_mem _ (get_mem' h)
section
variable [Lays] {k0 : Nat}
theorem q_forget {o : Oper} {d : D} {nb : Option Blk} (ha : ∀ p ∈ σ.bx, p.2.men k0 = false) (hop : ∀ x ∈ o.op.operands.toList, (σ.op x).men k0 = false) (h : QOp P o σ d nb) : QOp P o (σ.kill k0) d nb := by
  have hbx : (σ.kill k0).bx = σ.bx := bx_kill_of ha
  refine QOp_congr (σ := σ) (σ2 := σ.kill k0) rfl ⟨fun l => by rw [hbx], fun l => by rw [hbx]⟩ (fun x hx => ?_) (fun x hx k hk => ⟨by rw [hbx], fun n es hg j hj => by rw [hbx]⟩) h
  cases x with
  | tmp t =>
    have := hop _ hx
    simp only [St.op, St.kill, get_map] at this ⊢
    cases hg : get t σ.tm with
    | none => rfl
    | some d =>
      rw [hg] at this
      simp only [Option.map_some, Option.getD_some] at this ⊢
      exact killD_of this
  | _ => rfl
theorem q_men {o : Oper} {d : D} {nb : Option Blk} (ha : ∀ p ∈ σ.bx, p.2.men k0 = false) (hop : ∀ x ∈ o.op.operands.toList, (σ.op x).men k0 = false) (hd : o.dst ≠ some k0) (h : QOp P o σ d nb) : d.men k0 = false ∧ ∀ x, nb = some x → x.men k0 = false :=
  QOp_men (q_forget ha hop h) hd (kill_men σ k0)
theorem app_op {kd n : Nat} {es : List (List D)} {x : Operand} (hm : (σ.op x).men k0 = false) (hx : x ≠ .tmp kd) : (appS σ kd k0 n es).op x = σ.op x := by
  cases x with
  | tmp t =>
    have hne : t ≠ kd := fun e => hx (by rw [e])
    simp only [appS, St.op, St.put, St.putB, St.kill, get_ins, if_neg hne, get_map] at hm ⊢
    cases hg : get t σ.tm with
    | none => rfl
    | some d =>
      rw [hg] at hm
      simp only [Option.map_some, Option.getD_some] at hm ⊢
      exact killD_of hm
  | _ => rfl
omit [Lays] in
theorem app_bx {kd n : Nat} {es : List (List D)} (ha : ∀ p ∈ σ.bx, p.2.men k0 = false) : (appS σ kd k0 n es).bx = ins k0 (.row n es) σ.bx := by
  show ins k0 _ ((σ.kill k0).bx) = _
  rw [show (σ.kill k0).bx = σ.bx from bx_kill_of ha]
omit [Lays] in
theorem app_pin {kd n n0 : Nat} {es es0 : List (List D)} (ha : ∀ p ∈ σ.bx, p.2.men k0 = false) (hr : get k0 σ.bx = some (.row n0 es0)) : PinS (appS σ kd k0 n es) σ := by
  have h1 : ∀ l, pkey (Blk.pinB l) (appS σ kd k0 n es).bx = pkey (Blk.pinB l) σ.bx := fun l => by
    rw [app_bx ha]; exact pkey_row (fun _ _ => rfl) hr
  have h2 : ∀ l, pkey (Blk.pinM l) (appS σ kd k0 n es).bx = pkey (Blk.pinM l) σ.bx := fun l => by
    rw [app_bx ha]; exact pkey_row (fun _ _ => rfl) hr
  refine ⟨fun l => ?_, fun l => ?_⟩
  · unfold pget
    rw [h1]
    cases pkey (Blk.pinB l) σ.bx with
    | none => rfl
    | some k =>
      simp only [app_bx ha, get_ins]
      by_cases e : k = k0
      · subst e; simp only [if_true, hr]
      · simp only [if_neg e]
  · unfold mget
    rw [h2]
    cases pkey (Blk.pinM l) σ.bx with
    | none => rfl
    | some k =>
      simp only [app_bx ha, get_ins]
      by_cases e : k = k0
      · subst e; simp only [if_true, hr]
      · simp only [if_neg e]
theorem app_back {o : Oper} {d : D} {nb : Option Blk} {kd n n0 : Nat} {es es0 : List (List D)} (ha : ∀ p ∈ σ.bx, p.2.men k0 = false) (hr : get k0 σ.bx = some (.row n0 es0)) (hop : ∀ x ∈ o.op.operands.toList, (σ.op x).men k0 = false ∧ x ≠ .tmp kd) (h : QOp P o (appS σ kd k0 n es) d nb) : QOp P o σ d nb := by
  refine QOp_congr (σ := appS σ kd k0 n es) rfl (app_pin ha hr) (fun x hx => (app_op (hop x hx).1 (hop x hx).2).symm) (fun x hx k hk => ?_) h
  rw [app_op (hop x hx).1 (hop x hx).2] at hk
  have hk0 : k ≠ k0 := fun e => by rw [e, (hop x hx).1] at hk; cases hk
  refine ⟨by rw [app_bx ha, get_ins, if_neg hk0], fun m fs hg j hj => ?_⟩
  rw [app_bx ha, get_ins, if_neg hk0] at hg
  have hj0 : j ≠ k0 := fun e => by
    have := ha _ (get_mem' hg)
    rw [e] at hj
    rw [show Blk.men k0 (.row m fs) = fs.any (D.mens k0) from rfl] at this
    rw [this] at hj; cases hj
  rw [app_bx ha, get_ins, if_neg hj0]
omit [Lays] in
theorem app_comm {o : Option Tmp} {d : D} {nb : Option Blk} {kd n : Nat} {es : List (List D)} (hd : d.men k0 = false) (hnb : ∀ x, nb = some x → x.men k0 = false) (ho : ∀ t, o = some t → t ≠ kd) (hk : nb ≠ none → ∀ t, o = some t → t ≠ k0) : appS (applyE σ o d nb) kd k0 n es = applyE (appS σ kd k0 n es) o d nb := by
  cases o with
  | none => rfl
  | some t =>
    have h1 := ho t rfl
    cases nb with
    | none =>
      simp only [applyE, appS, St.put, St.putB, St.kill, ins_map, killD_of hd, St.mk.injEq, true_and, and_true]
      exact ins_comm kd t _ _ (fun e => h1 e.symm) _
    | some x =>
      have h2 := hk (by simp) t rfl
      simp only [applyE, appS, St.put, St.putB, St.kill, ins_map, killD_of hd, killB_of (hnb x rfl), St.mk.injEq, true_and]
      exact ⟨ins_comm kd t _ _ (fun e => h1 e.symm) _, ins_comm k0 t _ _ (fun e => h2 e.symm) _⟩
structure FreeA (ops : List Oper) (listed : Array Bool) (j : Nat) (oj : Oper) (i : Nat) (oi : Oper) (k0 : Nat) (σ : St) : Prop where
  comm : commO ops.toArray oi = true
  apart : oi.apart ops.toArray oj = true
  guard : oi.guard = none
  dst : oi.dst ≠ some k0
  men : ∀ x ∈ oi.op.operands.toList, (σ.op x).men k0 = false
theorem anyD_app {ops : List Oper} {Q : St → Prop} {j : Nat} {oj : Oper} {s x : Operand} {st xt : TypeId} {kd : Nat} (hj : ops[j]? = some oj) (ho : AppO oj s x st xt kd) : ∀ (fuel : Nat) (listed : Array Bool) (σ : St), WF σ → Closed ops.toArray listed → σ.op s = .own k0 → (∀ p ∈ σ.bx, p.2.men k0 = false) →
    (∀ i oi, ops[i]? = some oi → i ≠ j → listed.getD i true = false → ((Region.before ops.toArray).getD i 0).testBit j = false → FreeA ops listed j oj i oi k0 σ) → j ∈ Region.ready .any ops.toArray listed →
    StepD P ops oj (anyD P ops Q fuel (listed.setIfInBounds j true)) σ → anyD P ops Q (fuel + 1) listed σ := by
  intro fuel
  have hsl : ∀ x' ∈ [s, x], x' ∈ oj.op.operands.toList := by
    obtain ⟨⟨c, hop, hcal, hargs, _⟩, _, _⟩ := ho
    intro x' hx'
    rw [hop]
    exact mem_operands_call c (by rw [hargs]; exact hx')
  induction fuel with
  | zero =>
    intro listed σ hwf hcl hs ha hfree hr H
    refine ⟨fun h => (by rw [h] at hr; cases hr), fun i hi oi hoi => ?_⟩
    by_cases hij : i = j
    · subst hij; rw [hj] at hoi; cases hoi; exact H
    · have hir := ready_mono hi hij
      have : Region.ready .any ops.toArray (listed.setIfInBounds j true) = [] := by
        unfold StepD at H
        split at H
        · obtain ⟨σ', _, _, h3⟩ := H; exact h3.1
        · exact H.2.2.1
        · cases H
      rw [this] at hir
      cases hir
  | succ fuel ih =>
    intro listed σ hwf hcl hs ha hfree hr H
    refine ⟨fun h => (by rw [h] at hr; cases hr), fun i hi oi hoi => ?_⟩
    by_cases hij : i = j
    · subst hij; rw [hj] at hoi; cases hoi; exact H
    · have hun : listed.getD i true = false := (mem_ready.1 hi).1
      have hnb : ((Region.before ops.toArray).getD i 0).testBit j = false := by
        cases hq : ((Region.before ops.toArray).getD i 0).testBit j with
        | false => rfl
        | true =>
          have h1 := before_listed hcl hi hq
          have h0 := (mem_ready.1 hr).1
          rcases Nat.lt_or_ge j listed.size with h' | h'
          · simp [h'] at h0 h1; rw [h0] at h1; cases h1
          · simp [Array.getElem?_eq_none h'] at h1
      have F := hfree i oi hoi hij hun hnb
      obtain ⟨ha1, ha2, ha3⟩ := Oper.apart_spec F.apart
      have hwj : wantD ops oj σ = some true := by unfold wantD; rw [ho.guard]
      have hwi : ∀ τ, wantD ops oi τ = some true := fun τ => by unfold wantD; rw [F.guard]
      have H' := H
      unfold StepD at H'
      rw [hwj] at H'
      obtain ⟨σ1, hop1, hwf1, hK⟩ := H'
      obtain ⟨hkd, n, es, xs, hE, rfl⟩ := app_split ho hs hop1
      have hncom : commO ops.toArray oj = false := by
        obtain ⟨⟨c, hop, hcal, _, _⟩, _, _⟩ := ho
        obtain ⟨callee, args, tys⟩ := c
        dsimp only at hcal
        subst hcal
        unfold commO quietO
        rw [hop]
        rfl
      have hwf1 : WF (appS σ kd k0 n (es ++ xs)) := by
        rcases hwf1 with h | h
        · rw [hncom] at h; cases h
        · exact h
      have hi1 := hK.2 i (ready_mono hi hij) oi hoi
      obtain ⟨di, nbi, hdi, hfi, hK2⟩ := step_quiet F.comm hi1
      have hdi1 : QOp P oi (appS σ kd k0 n (es ++ xs)) di nbi := by
        rcases hdi with ⟨_, h⟩ | ⟨h, _⟩
        · exact h
        · rw [hwi] at h; cases h
      have hopx : ∀ x' ∈ oi.op.operands.toList, (σ.op x').men k0 = false ∧ x' ≠ .tmp kd := fun x' hx' => ⟨F.men x' hx', fun e => ha3 kd ho.dst (looks_operand (by rw [← e]; exact hx'))⟩
      have hdi0 := app_back ha hE.row hopx hdi1
      obtain ⟨hm1, hm2⟩ := q_men ha F.men F.dst hdi0
      have hfi0 : nbi ≠ none → ∀ k, oi.dst = some k → get k σ.bx = none := fun hn k hk => by
        have := hfi hn k hk
        rw [app_bx ha, get_ins] at this
        split at this
        · cases this
        · exact this
      have hq0 : QSt P ops oi σ di nbi := .inl ⟨hwi σ, hdi0⟩
      refine quiet_step F.comm hwf hq0 hfi0 ?_
      have hopk : ∀ x' ∈ [s, x], (applyE σ oi.dst di nbi).op x' = σ.op x' := fun x' hx' => applyE_op (fun t ht hxt => ha1 t ht (looks_operand (by rw [← hxt]; exact hsl x' hx')))
      have hdst0 : ∀ t, oi.dst = some t → t ≠ kd := fun t ht e => ha2 t ht (by rw [ho.dst, e])
      have hdstk : nbi ≠ none → ∀ t, oi.dst = some t → t ≠ k0 := fun _ t ht e => F.dst (by rw [ht, e])
      have hgk : ∀ k, (get k σ.bx).isSome = true → get k (applyE σ oi.dst di nbi).bx = get k σ.bx := fun k hk => by
        rw [get_applyE]
        cases hd : oi.dst with
        | none => rfl
        | some t =>
          cases hn : nbi with
          | none => rfl
          | some y =>
            dsimp only
            rw [if_neg]
            rintro rfl
            rw [hfi0 (by rw [hn]; simp) k hd] at hk; cases hk
      have hrow0 : get k0 (applyE σ oi.dst di nbi).bx = some (.row n es) := by rw [hgk k0 (by rw [hE.row]; rfl)]; exact hE.row
      have hsrc0 : srcD (applyE σ oi.dst di nbi) n ((applyE σ oi.dst di nbi).op x) = some xs := by
        rw [hopk x (by simp)]
        have hsr := hE.src
        cases hdx : σ.op x with
        | own k =>
          rw [hdx] at hsr
          simp only [srcD] at hsr ⊢
          have hk : (get k σ.bx).isSome = true := by
            cases hg : get k σ.bx with
            | none => rw [hg] at hsr; cases hsr
            | some y => rfl
          rw [hgk k hk]; exact hsr
        | c y =>
          rw [hdx] at hsr
          cases y with
          | v z => cases z with
            | slice a l _ => cases a with
              | none => cases l <;> exact hsr
              | some _ => exact hsr
            | _ => exact hsr
          | _ => exact hsr
        | _ => rw [hdx] at hsr; exact hsr
      have hE' : AppE P (applyE σ oi.dst di nbi) s x st xt k0 n es xs := ⟨hrow0, (hopk s (by simp)).trans hs, hE.ty, hsrc0, hE.ok, hE.men, hE.len⟩
      have hwf' := qst_wf hwf hq0
      have hcomm := app_comm (σ := σ) (k0 := k0) (o := oi.dst) (d := di) (nb := nbi) (kd := kd) (n := n) (es := es ++ xs) hm1 hm2 hdst0 hdstk
      refine ih (listed.setIfInBounds i true) _ hwf' (closed_set hcl hi) ((hopk s (by simp)).trans hs) ?_ ?_ (ready_mono hr (Ne.symm hij)) ?_
      · intro p hp
        have : ∀ q ∈ (applyE σ oi.dst di nbi).bx, q.2.men k0 = false := by
          cases hd : oi.dst with
          | none => exact ha
          | some t =>
            cases hn : nbi with
            | none => exact ha
            | some y =>
              intro q hq
              have hq : q ∈ ins t y σ.bx := hq
              have key : ∀ l : List (Nat × Blk), (∀ q ∈ l, q.2.men k0 = false) → ∀ q ∈ ins t y l, q.2.men k0 = false := by
                intro l
                induction l with
                | nil => intro _ q hq; simp [ins] at hq; subst hq; exact hm2 y hn
                | cons r l ih =>
                  intro hl q hq
                  simp only [ins] at hq
                  split at hq
                  · rcases List.mem_cons.1 hq with rfl | hq
                    · exact hm2 y hn
                    · exact hl q hq
                  · split at hq
                    · rcases List.mem_cons.1 hq with rfl | hq
                      · exact hm2 y hn
                      · exact hl q (by simp [hq])
                    · rcases List.mem_cons.1 hq with rfl | hq
                      · exact hl _ (by simp)
                      · exact ih (fun z hz => hl z (by simp [hz])) q hq
              exact key σ.bx ha q hq
        exact this p hp
      · intro m om hm hmj hunm hnbm
        have hunm' : listed.getD m true = false := by
          by_cases him : i = m
          · subst him; exact hun
          · rwa [getD_set_ne true him] at hunm
        have G := hfree m om hm hmj hunm' hnbm
        refine ⟨G.comm, G.apart, G.guard, G.dst, fun x' hx' => ?_⟩
        by_cases e : ∃ t, oi.dst = some t ∧ x' = .tmp t
        · obtain ⟨t, ht, rfl⟩ := e
          rw [ht]
          have : (applyE σ (some t) di nbi).op (.tmp t) = di := by
            cases nbi <;> simp only [applyE, St.op, St.put, St.putB, get_ins, if_true, Option.getD_some]
          rw [this]; exact hm1
        · rw [applyE_op (fun t ht hxt => e ⟨t, ht, hxt⟩)]
          exact G.men x' hx'
      · unfold StepD
        have hwj' : wantD ops oj (applyE σ oi.dst di nbi) = some true := by unfold wantD; rw [ho.guard]
        rw [hwj']
        have hnt : kd < (applyE σ oi.dst di nbi).nt := by rw [applyE_nt]; exact hkd
        refine ⟨_, app_join ho hnt hE', ?_, ?_⟩
        · rw [hcomm]; exact .inr (WF.applyE hwf1 hdi1)
        · rw [hcomm, Array.setIfInBounds_comm _ _ hij]
          exact hK2
structure AppC (P : Program) (σ : St) (s x : Operand) (st xt : TypeId) (bw : Bool) (n : Nat) (es ys : List (List C)) [Lays] : Prop where
  own : σ.op s = .c (.cl bw n es)
  ty : ∃ e e' ti, elemI P st = some e ∧ elemI P xt = some e' ∧ tyI P e = some ti ∧ n = ti.size ∧ (es.length + ys.length) * ti.bytes ≤ 2 ^ 44
  src : srcD σ n (σ.op x) = some (rowC ys)
  shut : shutEs (rowC ys) = some ys
  ok : (rowC ys).flatten.all cellOK = true
  pos : 0 < ys.length
  len : es.length + ys.length ≤ 2 ^ 44
omit [Lays] in
theorem rowC_len (ys : List (List C)) : (rowC ys).length = ys.length := by simp [rowC]
theorem appc_split {o : Oper} {s x : Operand} {st xt : TypeId} {kd : Nat} {dr bw : Bool} {n : Nat} {es : List (List C)} (ho : AppO o s x st xt kd) (hs : σ.op s = .c (.cl bw n es)) (h : OpTo P dr o σ σ') : kd < σ.nt ∧ ∃ ys, AppC P σ s x st xt bw n es ys ∧ σ' = σ.put kd (.c (.sl false n (es ++ ys))) := by
  obtain ⟨⟨c, hop, hcal, hargs, htys⟩, hdst, _⟩ := ho
  obtain ⟨hd, h⟩ := h
  rw [hop] at h
  dsimp only at h
  rw [hcal] at h
  obtain ⟨k, s', x', st', xt', len, bytes, h1, h2, h3, h4, h5, h6⟩ := h
  rw [hdst] at h1; cases h1
  rw [hargs] at h2; cases h2
  rw [htys] at h3; cases h3
  refine ⟨hd kd hdst, ?_⟩
  rw [hs] at h4
  unfold appD at h4
  split at h4
  · rename_i e e' he he'
    split at h4
    · rename_i ti hti
      split at h4
      · rename_i xs hxs
        split at h4
        · rename_i hok
          dsimp only at h4
          split at h4
          · rename_i ys hys
            have hxy := shutEs_spec hys
            subst hxy
            rw [rowC_len] at h4
            split at h4
            · rename_i hc
              cases h4
              exact ⟨ys, ⟨hs, ⟨e, e', ti, he, he', hti, hc.1, h5⟩, by rw [hc.1]; exact hxs, hys, hok, hc.2, h6⟩, rfl⟩
            · cases h4
          · cases h4
        · cases h4
      · cases h4
    · cases h4
  · cases h4
theorem appc_join {o : Oper} {s x : Operand} {st xt : TypeId} {kd n : Nat} {es ys : List (List C)} {dr bw : Bool} (ho : AppO o s x st xt kd) (hd : kd < σ.nt) (h : AppC P σ s x st xt bw n es ys) : OpTo P dr o σ (σ.put kd (.c (.sl false n (es ++ ys)))) := by
  obtain ⟨⟨c, hop, hcal, hargs, htys⟩, hdst, _⟩ := ho
  obtain ⟨e, e', ti, he, he', hti, hn, hb⟩ := h.ty
  refine ⟨fun t ht => by rw [hdst] at ht; cases ht; exact hd, ?_⟩
  rw [hop]
  dsimp only
  rw [hcal]
  refine ⟨kd, s, x, st, xt, es.length + ys.length, ti.bytes, hdst, hargs, htys, ?_, hb, h.len⟩
  have hsrc := h.src
  rw [hn] at hsrc
  unfold appD
  simp only [he, he', hti, hsrc, h.ok, if_true, h.own, h.shut, rowC_len]
  rw [if_pos ⟨hn, h.pos⟩]
theorem anyD_appc {ops : List Oper} {Q : St → Prop} {j : Nat} {oj : Oper} {s x : Operand} {st xt : TypeId} {kd : Nat} {bw : Bool} {n : Nat} {es : List (List C)} (hj : ops[j]? = some oj) (ho : AppO oj s x st xt kd) : ∀ (fuel : Nat) (listed : Array Bool) (σ : St), WF σ → Closed ops.toArray listed → σ.op s = .c (.cl bw n es) →
    (∀ i oi, ops[i]? = some oi → i ≠ j → listed.getD i true = false → ((Region.before ops.toArray).getD i 0).testBit j = false → commO ops.toArray oi = true ∧ oi.apart ops.toArray oj = true) → j ∈ Region.ready .any ops.toArray listed →
    StepD P ops oj (anyD P ops Q fuel (listed.setIfInBounds j true)) σ → anyD P ops Q (fuel + 1) listed σ := by
  intro fuel
  have hsl : ∀ x' ∈ [s, x], x' ∈ oj.op.operands.toList := by
    obtain ⟨⟨c, hop, hcal, hargs, _⟩, _, _⟩ := ho
    intro x' hx'
    rw [hop]
    exact mem_operands_call c (by rw [hargs]; exact hx')
  induction fuel with
  | zero =>
    intro listed σ hwf hcl hs hfree hr H
    refine ⟨fun h => (by rw [h] at hr; cases hr), fun i hi oi hoi => ?_⟩
    by_cases hij : i = j
    · subst hij; rw [hj] at hoi; cases hoi; exact H
    · have hir := ready_mono hi hij
      have : Region.ready .any ops.toArray (listed.setIfInBounds j true) = [] := by
        unfold StepD at H
        split at H
        · obtain ⟨σ', _, _, h3⟩ := H; exact h3.1
        · exact H.2.2.1
        · cases H
      rw [this] at hir
      cases hir
  | succ fuel ih =>
    intro listed σ hwf hcl hs hfree hr H
    refine ⟨fun h => (by rw [h] at hr; cases hr), fun i hi oi hoi => ?_⟩
    by_cases hij : i = j
    · subst hij; rw [hj] at hoi; cases hoi; exact H
    · have hun : listed.getD i true = false := (mem_ready.1 hi).1
      have hnb : ((Region.before ops.toArray).getD i 0).testBit j = false := by
        cases hq : ((Region.before ops.toArray).getD i 0).testBit j with
        | false => rfl
        | true =>
          have h1 := before_listed hcl hi hq
          have h0 := (mem_ready.1 hr).1
          rcases Nat.lt_or_ge j listed.size with h' | h'
          · simp [h'] at h0 h1; rw [h0] at h1; cases h1
          · simp [Array.getElem?_eq_none h'] at h1
      obtain ⟨hqi, hap⟩ := hfree i oi hoi hij hun hnb
      obtain ⟨ha1, ha2, ha3⟩ := Oper.apart_spec hap
      have hwj : ∀ τ, wantD ops oj τ = some true := fun τ => by unfold wantD; rw [ho.guard]
      have H' := H
      unfold StepD at H'
      rw [hwj] at H'
      obtain ⟨σ1, hop1, hwf1, hK⟩ := H'
      obtain ⟨hkd, ys, hE, rfl⟩ := appc_split ho hs hop1
      have hi1 := hK.2 i (ready_mono hi hij) oi hoi
      obtain ⟨di, nbi, hdi, hfi, hK2⟩ := step_quiet hqi hi1
      have hput : σ.put kd (.c (.sl false n (es ++ ys))) = applyE σ oj.dst (.c (.sl false n (es ++ ys))) none := by rw [ho.dst]; rfl
      rw [hput] at hdi hfi hK2
      have hdi' := (QSt.past (fun d hd => ha3 d hd) hwf (by simp) (by simp)).1 hdi
      have hfi' : nbi ≠ none → ∀ k, oi.dst = some k → get k σ.bx = none := fun hn k hk => by
        have := hfi hn k hk
        rw [get_applyE] at this
        rw [ho.dst] at this
        exact this
      refine quiet_step hqi hwf hdi' hfi' ?_
      have hwf' := qst_wf hwf hdi'
      have hopk : ∀ x' ∈ [s, x], (applyE σ oi.dst di nbi).op x' = σ.op x' := fun x' hx' => applyE_op (fun t ht hxt => ha1 t ht (looks_operand (by rw [← hxt]; exact hsl x' hx')))
      have hgk : ∀ k, (get k σ.bx).isSome = true → get k (applyE σ oi.dst di nbi).bx = get k σ.bx := fun k hk => by
        rw [get_applyE]
        cases hd : oi.dst with
        | none => rfl
        | some t =>
          cases hn : nbi with
          | none => rfl
          | some y =>
            dsimp only
            rw [if_neg]
            rintro rfl
            rw [hfi' (by rw [hn]; simp) k hd] at hk; cases hk
      have hsrc0 : srcD (applyE σ oi.dst di nbi) n ((applyE σ oi.dst di nbi).op x) = some (rowC ys) := by
        rw [hopk x (by simp)]
        have hsr := hE.src
        cases hdx : σ.op x with
        | own k =>
          rw [hdx] at hsr
          simp only [srcD] at hsr ⊢
          have hk : (get k σ.bx).isSome = true := by
            cases hg : get k σ.bx with
            | none => rw [hg] at hsr; cases hsr
            | some y => rfl
          rw [hgk k hk]; exact hsr
        | c y =>
          rw [hdx] at hsr
          cases y with
          | v z => cases z with
            | slice a l _ => cases a with
              | none => cases l <;> exact hsr
              | some _ => exact hsr
            | _ => exact hsr
          | _ => exact hsr
        | _ => rw [hdx] at hsr; exact hsr
      have hE' : AppC P (applyE σ oi.dst di nbi) s x st xt bw n es ys := ⟨(hopk s (by simp)).trans hs, hE.ty, hsrc0, hE.shut, hE.ok, hE.pos, hE.len⟩
      refine ih (listed.setIfInBounds i true) _ hwf' (closed_set hcl hi) ((hopk s (by simp)).trans hs) ?_ (ready_mono hr (Ne.symm hij)) ?_
      · intro m om hm hmj hunm hnbm
        refine hfree m om hm hmj ?_ hnbm
        by_cases him : i = m
        · subst him; exact hun
        · rwa [getD_set_ne true him] at hunm
      · unfold StepD
        rw [hwj]
        have hnt : kd < (applyE σ oi.dst di nbi).nt := by rw [applyE_nt]; exact hkd
        have hcm : (applyE σ oi.dst di nbi).put kd (.c (.sl false n (es ++ ys))) = applyE (applyE σ oj.dst (.c (.sl false n (es ++ ys))) none) oi.dst di nbi := by
          rw [applyE_comm (fun d h1 h2 => ha2 d h2 h1), ho.dst]
          rfl
        refine ⟨_, appc_join ho hnt hE', .inr (fun k hk => ?_), ?_⟩
        · exact men_put (hwf' k hk) rfl
        · rw [hcm, Array.setIfInBounds_comm _ _ hij]
          exact hK2
end
end Go.Dw
end
