/- Helpers of a proof. -/
import Derived.Test.YtnbgonichmcfaaaW17
set_option linter.unusedVariables false
set_option linter.unusedSimpArgs false
section
namespace Go.Dw
open Go.RowKit
variable {P : Program} {N O0 : Nat → Prop} {w0 : World} {σ σ' : St} {a : Act} {w : World}
def wantD (ops : List Oper) (o : Oper) (σ : St) : Option Bool :=
  match o.guard with
  | none => some true
  | some (g, want) => (guardD ops σ g).map (· == some want)
theorem commO_quiet {ops : Array Oper} {o : Oper} (h : commO ops o = true) : quietO o = true ∧ (!loudO ops o) = true := by
  simpa [commO] using h
def StepD [Lays] (P : Program) (ops : List Oper) (o : Oper) (K : St → Prop) (σ : St) : Prop :=
  match wantD ops o σ with
  | some true => ∃ σ', OpTo P (!loudO ops.toArray o) o σ σ' ∧ (commO ops.toArray o = true ∨ WF σ') ∧ K σ'
  | some false => (∀ t, o.dst = some t → t < σ.nt) ∧ (commO ops.toArray o = true ∨ WF (σ.putO o.dst (.tup []))) ∧ K (σ.putO o.dst (.tup []))
  | none => False
theorem StepD.mono [Lays] {ops : List Oper} {o : Oper} {K K' : St → Prop} (h : ∀ σ, K σ → K' σ) (hs : StepD P ops o K σ) : StepD P ops o K' σ := by
  unfold StepD at *
  split at hs
  · obtain ⟨σ', h1, h2, h3⟩ := hs; exact ⟨σ', h1, h2, h _ h3⟩
  · exact ⟨hs.1, hs.2.1, h _ hs.2.2⟩
  · cases hs
def QSt [Lays] (P : Program) (ops : List Oper) (o : Oper) (σ : St) (d : D) (nb : Option Blk) : Prop :=
  (wantD ops o σ = some true ∧ QOp P o σ d nb) ∨ (wantD ops o σ = some false ∧ (∀ t, o.dst = some t → t < σ.nt) ∧ d = .tup [] ∧ nb = none)
theorem step_quiet [Lays] {ops : List Oper} {o : Oper} {K : St → Prop} (hq : commO ops.toArray o = true) (h : StepD P ops o K σ) : ∃ d nb, QSt P ops o σ d nb ∧ (nb ≠ none → ∀ k, o.dst = some k → get k σ.bx = none) ∧ K (applyE σ o.dst d nb) := by
  unfold StepD at h
  split at h
  · rename_i hw
    obtain ⟨σ', h1, _, h3⟩ := h
    rw [(commO_quiet hq).2] at h1
    obtain ⟨d, nb, hd, rfl, hf⟩ := quiet_split h1 (commO_quiet hq).1
    exact ⟨d, nb, .inl ⟨hw, hd⟩, hf, h3⟩
  · rename_i hw
    refine ⟨.tup [], none, .inr ⟨hw, h.1, rfl, rfl⟩, by simp, ?_⟩
    have : applyE σ o.dst (.tup []) none = σ.putO o.dst (.tup []) := by cases o.dst <;> rfl
    rw [this]; exact h.2.2
  · cases h
theorem quiet_step [Lays] {ops : List Oper} {o : Oper} {K : St → Prop} (hq : commO ops.toArray o = true) (hw : WF σ) {d : D} {nb : Option Blk} (h : QSt P ops o σ d nb) (hf : nb ≠ none → ∀ k, o.dst = some k → get k σ.bx = none) (hK : K (applyE σ o.dst d nb)) : StepD P ops o K σ := by
  unfold StepD
  rcases h with ⟨h1, h2⟩ | ⟨h1, h2, rfl, rfl⟩
  · rw [h1]
    exact ⟨_, by rw [(commO_quiet hq).2]; exact quiet_join h2 (commO_quiet hq).1 (fun hn k hk => ⟨hf hn k hk, hw k (hf hn k hk)⟩), .inl hq, hK⟩
  · rw [h1]
    have : applyE σ o.dst (.tup []) none = σ.putO o.dst (.tup []) := by cases o.dst <;> rfl
    rw [this] at hK
    exact ⟨h2, .inl hq, hK⟩
theorem qst_wf [Lays] {ops : List Oper} {o : Oper} {d : D} {nb : Option Blk} (hw : WF σ) (h : QSt P ops o σ d nb) : WF (applyE σ o.dst d nb) := by
  rcases h with ⟨_, h⟩ | ⟨_, _, rfl, rfl⟩
  · exact WF.applyE hw h
  · intro k hk
    rw [get_applyE] at hk
    have hk' : get k σ.bx = none := by cases hd : o.dst <;> rw [hd] at hk <;> exact hk
    cases hd : o.dst with
    | none => exact hw k hk'
    | some j => exact men_put (hw k hk') rfl
theorem looks_operand {ops : Array Oper} {o : Oper} {t : Tmp} (h : .tmp t ∈ o.op.operands.toList) : t ∈ o.looksAt ops :=
  List.mem_append_left _ (List.mem_filterMap.2 ⟨.tmp t, by simpa using h, rfl⟩)
theorem QSt_unpin [Lays] {ops : List Oper} {o : Oper} {d : D} {nb : Option Blk} (h : QSt P ops o σ d nb) : ∀ x, nb = some x → x.unpin = true := by
  rcases h with ⟨_, h⟩ | ⟨_, _, _, h⟩
  · exact QOp_unpin h
  · intro x hx; rw [h] at hx; cases hx
theorem QSt.past [Lays] {ops : List Oper} {oi oj : Oper} (hap : ∀ d, oi.dst = some d → d ∉ oj.looksAt ops.toArray) {di dj : D} {nbi nbj : Option Blk} (hw : WF σ) (hfi : nbi ≠ none → ∀ k, oi.dst = some k → get k σ.bx = none) (hup : ∀ x, nbi = some x → x.unpin = true) :
    QSt P ops oj (applyE σ oi.dst di nbi) dj nbj ↔ QSt P ops oj σ dj nbj := by
  have hop : ∀ x ∈ oj.op.operands.toList, (applyE σ oi.dst di nbi).op x = σ.op x := fun x hx => applyE_op (fun t ht hxt => hap t ht (looks_operand (by rw [← hxt]; exact hx)))
  have hget : ∀ k, (σ.men k = true ∨ ∃ y, get k σ.bx = some y) → get k (applyE σ oi.dst di nbi).bx = get k σ.bx := fun k hk => by
    rw [get_applyE]
    cases hd : oi.dst with
    | none => rfl
    | some j =>
      cases hn : nbi with
      | none => rfl
      | some y =>
        dsimp only
        rw [if_neg]
        rintro rfl
        have hf := hfi (by rw [hn]; simp) k hd
        rcases hk with hk | ⟨z, hz⟩
        · rw [hw k hf] at hk; cases hk
        · rw [hf] at hz; cases hz
  have hpin : PinS σ (applyE σ oi.dst di nbi) := by
    cases hd : oi.dst with
    | none => exact ⟨fun _ => rfl, fun _ => rfl⟩
    | some j =>
      cases hn : nbi with
      | none => exact ⟨fun _ => rfl, fun _ => rfl⟩
      | some y => exact ⟨fun _ => pget_ins (hup y hn) (hfi (by rw [hn]; simp) j hd), fun _ => mget_ins (hup y hn) (hfi (by rw [hn]; simp) j hd)⟩
  have hpin' : PinS (applyE σ oi.dst di nbi) σ := ⟨fun l => (hpin.1 l).symm, fun l => (hpin.2 l).symm⟩
  have hmop : ∀ x k, (σ.op x).men k = true → σ.men k = true := fun x k hk => by
    cases hm : σ.men k with
    | true => rfl
    | false => rw [op_men hm x] at hk; cases hk
  have hrow : ∀ k n es, get k σ.bx = some (.row n es) → ∀ j, es.any (D.mens j) = true → σ.men j = true := fun k n es hg j hj => by
    cases hm : σ.men j with
    | true => rfl
    | false =>
      have : es.any (D.mens j) = false := men_bx hm hg
      rw [this] at hj; cases hj
  have hsame : ∀ x ∈ oj.op.operands.toList, Same σ (applyE σ oi.dst di nbi) (σ.op x) := fun x _ k hk =>
    ⟨hget k (.inl (hmop x k hk)), fun n es hg j hj => hget j (.inl (hrow k n es hg j hj))⟩
  have hsame' : ∀ x ∈ oj.op.operands.toList, Same (applyE σ oi.dst di nbi) σ ((applyE σ oi.dst di nbi).op x) := fun x hx k hk => by
    rw [hop x hx] at hk
    have h1 := hget k (.inl (hmop x k hk))
    refine ⟨h1.symm, fun n es hg j hj => ?_⟩
    rw [h1] at hg
    exact (hget j (.inl (hrow k n es hg j hj))).symm
  have hwant : wantD ops oj (applyE σ oi.dst di nbi) = wantD ops oj σ := by
    unfold wantD
    cases hg : oj.guard with
    | none => rfl
    | some gw =>
      obtain ⟨g, want⟩ := gw
      dsimp only
      congr 1
      unfold guardD
      cases ht : (ops[g]?).bind (·.dst) with
      | none => rfl
      | some t =>
        dsimp only
        rw [applyE_get]
        intro e
        refine hap t e ?_
        unfold Oper.looksAt
        refine List.mem_append_right _ ?_
        rw [hg]
        simpa using ht
  constructor
  · rintro (⟨h1, h2⟩ | ⟨h1, h2, h3, h4⟩)
    · exact .inl ⟨by rw [← hwant]; exact h1, QOp_congr (by rw [applyE_nt]) hpin' (fun x hx => (hop x hx).symm) hsame' h2⟩
    · exact .inr ⟨by rw [← hwant]; exact h1, fun t ht => by have := h2 t ht; rwa [applyE_nt] at this, h3, h4⟩
  · rintro (⟨h1, h2⟩ | ⟨h1, h2, h3, h4⟩)
    · exact .inl ⟨by rw [hwant]; exact h1, QOp_congr applyE_nt hpin hop hsame h2⟩
    · exact .inr ⟨by rw [hwant]; exact h1, fun t ht => by rw [applyE_nt]; exact h2 t ht, h3, h4⟩
theorem applyE_comm [Lays] {x y : Option Tmp} (hxy : ∀ d, x = some d → y ≠ some d) (d1 d2 : D) (n1 n2 : Option Blk) : applyE (applyE σ x d1 n1) y d2 n2 = applyE (applyE σ y d2 n2) x d1 n1 := by
  cases x with
  | none => cases y <;> rfl
  | some i =>
    cases y with
    | none => rfl
    | some j =>
      have hne : i ≠ j := fun e => hxy i rfl (by rw [e])
      cases n1 <;> cases n2 <;> simp only [applyE, St.put, St.putB, St.mk.injEq, true_and] <;>
        first
          | exact ⟨ins_comm j i d2 d1 (fun e => hne e.symm) _, trivial⟩
          | exact ⟨ins_comm j i d2 d1 (fun e => hne e.symm) _, rfl⟩
          | exact ⟨ins_comm j i d2 d1 (fun e => hne e.symm) _, ins_comm j i _ _ (fun e => hne e.symm) _⟩
def anyD [Lays] (P : Program) (ops : List Oper) (Q : St → Prop) : Nat → Array Bool → St → Prop
  | 0, listed, σ => Region.ready .any ops.toArray listed = [] ∧ Q σ
  | fuel + 1, listed, σ => (Region.ready .any ops.toArray listed = [] → Q σ) ∧
    ∀ i ∈ Region.ready .any ops.toArray listed, ∀ o, ops[i]? = some o → StepD P ops o (anyD P ops Q fuel (listed.setIfInBounds i true)) σ
theorem stepD_wp [Lays] (h : Inv N O0 w0 σ a w) {ops : List Oper} {o : Oper} {K : St → Prop} (ho : StepD P ops o K σ) (rd : Option Nat) (n : Nat) {K' : Act → World → Prop} {Q : Exit → Act → World → Prop}
    (hK : ∀ σ' a' w', K σ' → Inv N O0 w0 σ' a' w' → K' a' w') :
    if Region.wanted o (yielded ops.toArray a.tmps) then o.wpIn (Fx rd) n P a w K' Q else (∀ f, o.about P w a.eval = some f → (Fx rd).fn f) ∧ K' (a.put o.dst undef) w := by
  obtain ⟨G, h⟩ := h
  have hwant : ∀ b, wantD ops o σ = some b → Region.wanted o (yielded ops.toArray a.tmps) = b := by
    intro b hb
    unfold wantD at hb
    cases hg : o.guard with
    | none => rw [hg] at hb; cases hb; simp [Region.wanted, hg]
    | some gw =>
      obtain ⟨g, want⟩ := gw
      rw [hg] at hb
      simp only [Option.map_eq_some_iff] at hb
      obtain ⟨b', hb', rfl⟩ := hb
      have hy := guard_sound h hb'
      simp only [Region.wanted, hg, hy]
  unfold StepD at ho
  split at ho
  · rename_i hw
    obtain ⟨σ', h1, _, h3⟩ := ho
    rw [hwant _ hw]
    exact opTo_wp h h1 rd n (fun a' w' hi => hK σ' a' w' h3 hi)
  · rename_i hw
    rw [hwant _ hw]
    exact ⟨fun _ _ => trivial, hK _ _ _ ho.2.2 ⟨G, h.putO ho.1 ⟨#[], rfl, rfl⟩⟩⟩
  · cases ho
theorem anyD_wp [Lays] {ops : List Oper} {Q : St → Prop} (rd : Option Nat) (n : Nat) {Qm : Exit → Act → World → Prop} (hQ : ∀ σ' a' w', Q σ' → Inv N O0 w0 σ' a' w' → Qm .normal a' w') :
    ∀ (fuel : Nat) (listed : Array Bool) (σ : St) (a : Act) (w : World), Inv N O0 w0 σ a w → anyD P ops Q fuel listed σ → wpAnyIn (Fx rd) n P .any ops.toArray Qm fuel listed a w
  | 0, listed, σ, a, w, hi, h => ⟨h.1, hQ σ a w h.2 hi⟩
  | fuel + 1, listed, σ, a, w, hi, h => by
    refine ⟨fun hr => hQ σ a w (h.1 hr) hi, fun i hir => ?_⟩
    unfold wpOpIn
    obtain ⟨_, o, ho, _⟩ := mem_ready.1 hir
    have ho' : ops[i]? = some o := by simpa using ho
    rw [ho]
    exact stepD_wp hi (h.2 i hir o ho') rd n (fun σ' a' w' hk hi' => anyD_wp rd n hQ fuel _ σ' a' w' hi' hk)
def Closed (ops : Array Oper) (listed : Array Bool) : Prop := ∀ j o, ops[j]? = some o → listed.getD j false = true → ∀ e ∈ o.after, Region.binds .any e = true → listed.getD e.on false = true
theorem fold_bits (acc : Array Nat) (i : Nat) : ∀ (l : List Edge) (s : Nat), (l.foldl (fun s e => if Region.binds .any e then s ||| 2 ^ e.on ||| acc.getD e.on 0 else s) s).testBit i = true →
    s.testBit i = true ∨ ∃ e ∈ l, Region.binds .any e = true ∧ (e.on = i ∨ (acc.getD e.on 0).testBit i = true)
  | [], s, h => .inl h
  | e :: l, s, h => by
    simp only [List.foldl_cons] at h
    rcases fold_bits acc i l _ h with h1 | ⟨e', he', h1⟩
    · split at h1
      · rename_i hb
        simp only [Nat.testBit_or, Bool.or_eq_true, Nat.testBit_two_pow] at h1
        rcases h1 with (h1 | h1) | h1
        · exact .inl h1
        · exact .inr ⟨e, by simp, hb, .inl (by simpa using h1)⟩
        · exact .inr ⟨e, by simp, hb, .inr h1⟩
      · exact .inl h1
    · exact .inr ⟨e', by simp [he'], h1⟩
theorem before_spec [Lays] {ops : List Oper} {listed : Array Bool} (hc : Closed ops.toArray listed) : ∀ (l : List Oper) (done : List Oper) (acc : Array Nat), ops = done ++ l → acc.size = done.length →
    (∀ j i o, j < acc.size → ops[j]? = some o → (∀ e ∈ o.after, Region.binds .any e = true → listed.getD e.on false = true) → (acc.getD j 0).testBit i = true → listed.getD i false = true) →
    ∀ j i o, ops[j]? = some o → (∀ e ∈ o.after, Region.binds .any e = true → listed.getD e.on false = true) →
      ((l.foldl (fun (acc : Array Nat) o => acc.push (o.after.foldl (fun s e => if Region.binds .any e then s ||| 2 ^ e.on ||| acc.getD e.on 0 else s) 0)) acc).getD j 0).testBit i = true → listed.getD i false = true
  | [], done, acc, hops, hsz, hacc, j, i, o, ho, he, hb => by
    have hlt : j < acc.size := by
      have : j < ops.length := by
        rcases Nat.lt_or_ge j ops.length with h | h
        · exact h
        · rw [List.getElem?_eq_none h] at ho; cases ho
      rw [hsz]; simpa [hops] using this
    exact hacc j i o hlt ho he hb
  | x :: l, done, acc, hops, hsz, hacc, j, i, o, ho, he, hb => by
    simp only [List.foldl_cons] at hb
    refine before_spec hc l (done ++ [x]) _ (by simp [hops]) (by simp [hsz]) ?_ j i o ho he hb
    intro j' i' o' hlt ho' he' hb'
    simp only [Array.size_push] at hlt
    by_cases hj : j' < acc.size
    · refine hacc j' i' o' hj ho' he' ?_
      simpa [Array.getD, hj, Nat.lt_succ_of_lt hj, Array.getElem_push, hlt] using hb'
    · have hje : j' = acc.size := by omega
      subst hje
      have hox : o' = x := by
        rw [hops, hsz, List.getElem?_append_right (Nat.le_refl _)] at ho'
        simpa using ho'.symm
      subst hox
      have hb2 : (o'.after.toList.foldl (fun s e => if Region.binds .any e then s ||| 2 ^ e.on ||| acc.getD e.on 0 else s) 0).testBit i' = true := by
        simpa [Array.getD, Array.getElem_push] using hb'
      rcases fold_bits acc i' _ 0 hb2 with h1 | ⟨e, hem, heb, h1⟩
      · simp at h1
      · have hem' : e ∈ o'.after := by simpa using hem
        rcases h1 with rfl | h1
        · exact he' e hem' heb
        ·
          have hl := he' e hem' heb
          have hlt2 : e.on < acc.size := by
            rcases Nat.lt_or_ge e.on acc.size with h | h
            · exact h
            · have : acc.getD e.on 0 = 0 := by simp [Array.getD, Nat.not_lt.2 h]
              rw [this] at h1; simp at h1
          have hlt3 : e.on < ops.length := by rw [hops]; simp; omega
          exact hacc e.on i' ops[e.on] hlt2 (by simp [hlt3]) (fun e2 he2 hb3 => hc e.on ops[e.on] (by simp [hlt3]) hl e2 he2 hb3) h1
theorem before_listed [Lays] {ops : List Oper} {listed : Array Bool} (hc : Closed ops.toArray listed) {j i : Nat} (hj : j ∈ Region.ready .any ops.toArray listed) (hb : ((Region.before ops.toArray).getD j 0).testBit i = true) : listed.getD i false = true := by
  obtain ⟨_, o, ho, hall⟩ := mem_ready.1 hj
  refine before_spec hc ops [] #[] rfl rfl (fun j i o h => by simp at h) j i o (by simpa using ho) (fun e he hbd => ?_) ?_
  · have := hall e he hbd
    simpa using this
  · unfold Region.before at hb
    rw [← Array.foldl_toList] at hb
    simpa using hb
theorem closed_set {ops : List Oper} {listed : Array Bool} (hc : Closed ops.toArray listed) {i : Nat} (hi : i ∈ Region.ready .any ops.toArray listed) : Closed ops.toArray (listed.setIfInBounds i true) := by
  intro j o ho hl e he hb
  by_cases hji : j = i
  · subst hji
    obtain ⟨_, o', ho', hall⟩ := mem_ready.1 hi
    rw [ho] at ho'; cases ho'
    exact getD_set_true (hall e he hb)
  · have : listed.getD j false = true := by rwa [getD_set_ne false (fun e => hji e.symm)] at hl
    exact getD_set_true (hc j o ho this e he hb)
def FreeP (ops : List Oper) (listed : Array Bool) (i : Nat) (oi : Oper) : Prop :=
  ∀ j oj, ops[j]? = some oj → j ≠ i → listed.getD j true = false → ((Region.before ops.toArray).getD j 0).testBit i = false → commO ops.toArray oi = true ∧ commO ops.toArray oj = true ∧ oi.apart ops.toArray oj = true
theorem freeD_spec {ops : List Oper} {listed : Array Bool} {i : Nat} {oi : Oper} (hi : ops[i]? = some oi) (h : freeD ops.toArray (Region.before ops.toArray) listed i = true) : FreeP ops listed i oi := by
  intro j oj hj hne hun hb
  unfold freeD at h
  have hi' : ops.toArray[i]? = some oi := by simpa using hi
  rw [hi'] at h
  simp only [List.all_eq_true, List.mem_range] at h
  have hlt : j < ops.toArray.size := by
    rcases Nat.lt_or_ge j ops.toArray.size with h' | h'
    · exact h'
    · rw [List.getElem?_eq_none (by simpa using h')] at hj; cases hj
  have := h j hlt
  have hj' : ops.toArray[j]? = some oj := by simpa using hj
  rw [hj'] at this
  simp only [hun, hb, Bool.or_false, Bool.or_eq_true, Bool.and_eq_true, beq_iff_eq] at this
  rcases this with h1 | h1
  · exact absurd h1 hne
  · exact ⟨h1.1.1, h1.1.2, h1.2⟩
theorem anyD_first [Lays] {ops : List Oper} {Q : St → Prop} {i : Nat} {oi : Oper} (hi : ops[i]? = some oi) : ∀ (fuel : Nat) (listed : Array Bool) (σ : St), WF σ → Closed ops.toArray listed → FreeP ops listed i oi → i ∈ Region.ready .any ops.toArray listed →
    StepD P ops oi (anyD P ops Q fuel (listed.setIfInBounds i true)) σ → anyD P ops Q (fuel + 1) listed σ := by
  intro fuel
  induction fuel with
  | zero =>
    intro listed σ hwf hcl hfree hr H
    refine ⟨fun h => (by rw [h] at hr; cases hr), fun j hj oj hoj => ?_⟩
    by_cases hji : j = i
    · subst hji; rw [hi] at hoj; cases hoj; exact H
    ·
      have hjr := ready_mono hj hji
      have : Region.ready .any ops.toArray (listed.setIfInBounds i true) = [] := by
        unfold StepD at H
        split at H
        · obtain ⟨σ', _, _, h3⟩ := H; exact h3.1
        · exact H.2.2.1
        · cases H
      rw [this] at hjr
      cases hjr
  | succ fuel ih =>
    intro listed σ hwf hcl hfree hr H
    refine ⟨fun h => (by rw [h] at hr; cases hr), fun j hj oj hoj => ?_⟩
    by_cases hji : j = i
    · subst hji; rw [hi] at hoj; cases hoj; exact H
    · have hun : listed.getD j true = false := (mem_ready.1 hj).1
      have hnb : ((Region.before ops.toArray).getD j 0).testBit i = false := by
        cases hq : ((Region.before ops.toArray).getD j 0).testBit i with
        | false => rfl
        | true =>
          have h1 := before_listed hcl hj hq
          have h0 := (mem_ready.1 hr).1
          rcases Nat.lt_or_ge i listed.size with h' | h'
          · simp [h'] at h0 h1; rw [h0] at h1; cases h1
          · simp [Array.getElem?_eq_none h'] at h1
      obtain ⟨hqi, hqj, hap⟩ := hfree j oj hoj hji hun hnb
      obtain ⟨ha1, ha2, ha3⟩ := Oper.apart_spec hap
      obtain ⟨di, nbi, hdi, hfi, hK⟩ := step_quiet hqi H
      have hj1 := hK.2 j (ready_mono hj hji) oj hoj
      obtain ⟨dj, nbj, hdj, hfj, hK2⟩ := step_quiet hqj hj1
      have hdj' := (QSt.past ha1 hwf hfi (QSt_unpin hdi)).1 hdj
      have hfj' : nbj ≠ none → ∀ k, oj.dst = some k → get k σ.bx = none := fun hn k hk => by
        have := hfj hn k hk
        rw [get_applyE] at this
        cases hd : oi.dst with
        | none => rw [hd] at this; exact this
        | some l =>
          rw [hd] at this
          cases nbi with
          | none => exact this
          | some y =>
            dsimp only at this
            split at this
            · cases this
            · exact this
      have hdi' := (QSt.past ha3 hwf hfj' (QSt_unpin hdj') (di := dj) (nbi := nbj) (dj := di) (nbj := nbi)).2 hdi
      have hfi' : nbi ≠ none → ∀ k, oi.dst = some k → get k (applyE σ oj.dst dj nbj).bx = none := fun hn k hk => by
        rw [get_applyE]
        cases hd : oj.dst with
        | none => exact hfi hn k hk
        | some l =>
          cases nbj with
          | none => exact hfi hn k hk
          | some y =>
            dsimp only
            rw [if_neg]
            · exact hfi hn k hk
            · rintro rfl; exact ha2 k hk hd
      refine quiet_step hqj hwf hdj' hfj' ?_
      have hwf' := qst_wf hwf hdj'
      refine ih (listed.setIfInBounds j true) _ hwf' (closed_set hcl hj) ?_ (ready_mono hr (Ne.symm hji)) ?_
      · intro k ok hk hki hunk hnbk
        refine hfree k ok hk hki ?_ hnbk
        by_cases hjk : j = k
        · subst hjk; exact hun
        · rwa [getD_set_ne true hjk] at hunk
      · refine quiet_step hqi hwf' hdi' hfi' ?_
        rw [applyE_comm (fun d h1 h2 => ha2 d h2 h1), Array.setIfInBounds_comm _ _ hji]
        exact hK2
def opsQd [Lays] (P : Program) (ops : List Oper) (Q : St → Prop) : List Oper → St → Prop
  | [], σ => Q σ
  | o :: rest, σ => StepD P ops o (opsQd P ops Q rest) σ
theorem stepD_wf [Lays] {ops : List Oper} {o : Oper} {K : St → Prop} (hw : WF σ) (h : StepD P ops o K σ) : StepD P ops o (fun σ' => WF σ' ∧ K σ') σ := by
  by_cases hq : commO ops.toArray o = true
  · obtain ⟨d, nb, h1, h2, h3⟩ := step_quiet hq h
    exact quiet_step hq hw h1 h2 ⟨qst_wf hw h1, h3⟩
  · unfold StepD at *
    split at h
    · obtain ⟨σ', h1, h2, h3⟩ := h
      rcases h2 with h2 | h2
      · exact absurd h2 hq
      · exact ⟨σ', h1, .inr h2, h2, h3⟩
    · rcases h.2.1 with h2 | h2
      · exact absurd h2 hq
      · exact ⟨h.1, .inr h2, h2, h.2.2⟩
    · cases h
theorem anyD_lex [Lays] {ops : List Oper} {Q : St → Prop} : ∀ (l : List Oper) (k : Nat) (listed : Array Bool) (σ : St), (∀ j, l[j]? = ops[k + j]?) → WF σ → Closed ops.toArray listed →
    lexFromD ops.toArray (Region.before ops.toArray) l.length k listed = true → opsQd P ops Q l σ → anyD P ops Q l.length listed σ
  | [], _, listed, σ, _, _, _, hB, h => ⟨by simpa [lexFromD] using hB, h⟩
  | o :: l, k, listed, σ, hl, hw, hc, hB, h => by
    have h0 : ops[k]? = some o := by simpa using (hl 0).symm
    simp only [List.length_cons, lexFromD, Bool.and_eq_true] at hB
    obtain ⟨⟨hr, hf⟩, hB'⟩ := hB
    have hr' : k ∈ Region.ready .any ops.toArray listed := by simpa using hr
    refine anyD_first h0 l.length listed σ hw hc (freeD_spec h0 hf) hr' ?_
    refine StepD.mono (fun σ' h => ?_) (stepD_wf hw h)
    exact anyD_lex l (k + 1) _ σ' (fun j => by have := hl (j + 1); simpa [Nat.add_assoc, Nat.add_comm 1 j] using this) h.1 (closed_set hc hr') hB' h.2
theorem W.draw [Lays] {id : Nat} {ops : List Oper} {Q : Exit → St → Prop} (hm : P.follows .mixedOrders = true) (hB : lexD ops.toArray = true) (hw : WF σ) (h : opsQd P ops (Q .normal) ops σ) : W P (.region id ops.toArray true) Q σ := fun N O0 w0 a w rd n Qm hi hq => by
  refine wpIn_region_any hm ?_
  obtain ⟨G, hc⟩ := hi
  have hc0 : Closed ops.toArray (Array.replicate ops.toArray.size false) := by
    intro j o _ hl
    simp [Array.getD] at hl
  refine anyD_wp (Q := Q .normal) rd.1 n (fun σ' a' w' q hi' => hq _ _ _ _ q hi') _ _ σ _ _ ⟨G, hc.drew⟩ ?_
  have := anyD_lex (P := P) (Q := Q .normal) ops 0 (Array.replicate ops.toArray.size false) σ (by simp) hw hc0 (by simpa [lexD] using hB) h
  simpa using this
end Go.Dw
end
