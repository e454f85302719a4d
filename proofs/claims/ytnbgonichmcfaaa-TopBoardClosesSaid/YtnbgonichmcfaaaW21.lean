/- Helpers of a proof. -/
import Derived.Test.YtnbgonichmcfaaaW20
set_option linter.unusedVariables false
set_option linter.unusedSimpArgs false
section
namespace Go.Dw
open Go.RowKit
variable {P : Program} {σ σ' : St}
theorem opsS_mono [Lays] {dr : Bool} {Q Q' : St → Prop} (h : ∀ σ, Q σ → Q' σ) : ∀ (l : List SO) (σ : St), opsS P dr Q l σ → opsS P dr Q' l σ
  | [], σ, hs => h σ hs
  | s :: l, σ, hs => by
    unfold opsS at hs ⊢
    split at hs
    · obtain ⟨σ', h1, h2, h3⟩ := hs
      exact ⟨σ', h1, h2, opsS_mono h l σ' h3⟩
    · split at hs
      · split at hs
        · rename_i h0
          rw [if_pos h0]
          obtain ⟨σ', h1, h2, h3⟩ := hs
          exact ⟨σ', h1, h2, opsS_mono h l σ' h3⟩
        · rename_i h0
          rw [if_neg h0]
          exact ⟨hs.1, hs.2.1, opsS_mono h l _ hs.2.2⟩
      · cases hs
theorem opsQd_slim [Lays] {ops : List Oper} {Q : St → Prop} : ∀ (l : List Oper) (σ : St), l.any (loudO ops.toArray) = false → opsS P true Q (l.map (SO.of ops)) σ → opsQd P ops Q l σ
  | [], _, _, h => h
  | o :: l, σ, hnl, h => by
    simp only [List.any_cons, Bool.or_eq_false_iff] at hnl
    obtain ⟨hno, hnl⟩ := hnl
    have hco : quietO o = true → commO ops.toArray o = true := fun h => by rw [commO, h, hno]; rfl
    have hdr : (!loudO ops.toArray o) = true := by rw [hno]; rfl
    simp only [List.map_cons, opsS] at h
    show StepD P ops o (opsQd P ops Q l) σ
    unfold StepD wantD
    have hor : ∀ {s : SO} {σ' : St}, (quietS s = true → quietO o = true) → (true = false ∨ quietS s = true ∨ wfS σ') → (commO ops.toArray o = true ∨ WF σ') := by
      intro s σ' hs h
      rcases h with h | h | h
      · cases h
      · exact .inl (hco (hs h))
      · exact .inr (WF.ofS h)
    cases hgo : o.guard with
    | none =>
      have hof : SO.of ops o = ⟨o.dst, o.op, none⟩ := by simp only [SO.of, hgo]
      rw [hof] at h
      obtain ⟨σ', h1, h3, h2⟩ := h
      exact ⟨σ', by rw [hdr]; exact h1, hor (s := ⟨o.dst, o.op, none⟩) (fun h => h) h3, opsQd_slim l σ' hnl h2⟩
    | some gw =>
      obtain ⟨g, want⟩ := gw
      dsimp only
      unfold guardD
      cases ht : (ops[g]?).bind (·.dst) with
      | none =>
        have hof : SO.of ops o = ⟨o.dst, .ready 0, none⟩ := by simp only [SO.of, hgo, ht]
        rw [hof] at h
        obtain ⟨σ', ⟨_, d, hd, _⟩, _⟩ := h
        simp [SO.up, evP] at hd
      | some t =>
        have hof : SO.of ops o = ⟨o.dst, o.op, some (t, want)⟩ := by simp only [SO.of, hgo, ht]
        rw [hof] at h
        dsimp only at h ⊢
        split at h
        · rename_i b hb
          rw [hb]
          simp only [Option.map_some]
          by_cases e2 : b = some want
          · rw [if_pos e2] at h
            have : (b == some want) = true := by simp [e2]
            rw [this]
            obtain ⟨σ', h1, h3, h2⟩ := h
            exact ⟨σ', by rw [hdr]; exact h1, hor (s := ⟨o.dst, o.op, some (t, want)⟩) (fun h => h) h3, opsQd_slim l σ' hnl h2⟩
          · rw [if_neg e2] at h
            have : (b == some want) = false := by simp [e2]
            rw [this]
            exact ⟨h.1, hor (s := ⟨o.dst, o.op, some (t, want)⟩) (fun h => h) h.2.1, opsQd_slim l _ hnl h.2.2⟩
        · cases h
theorem DW.dreg [Lays] {ops : List SO} {Q : Exit → St → Prop} (hm : P.follows .mixedOrders = true) (hw : WF σ) (h : opsS P true (Q .normal) ops σ) : DW P (.reg true ops) Q σ := fun c hc => by
  obtain ⟨id, l, rfl, rfl, hl⟩ := toS_reg hc
  exact W.draw hm (hl rfl).1 hw (opsQd_slim l σ (hl rfl).2 h)
theorem opsQd_app [Lays] {ops : List Oper} {Q : St → Prop} : ∀ (a b : List Oper) (σ : St), opsQd P ops (opsQd P ops Q b) a σ → opsQd P ops Q (a ++ b) σ
  | [], _, _, h => h
  | _ :: a, b, _, h => StepD.mono (fun σ' h => opsQd_app a b σ' h) h
theorem loud_step [Lays] {ops : List Oper} {o : Oper} {K : St → Prop} (hl : loudO ops.toArray o = true) (h : opsS P false (fun σ' => wfS σ' ∧ K σ') [SO.of ops o] σ) : StepD P ops o K σ := by
  simp only [opsS] at h
  have hdr : (!loudO ops.toArray o) = false := by rw [hl]; rfl
  unfold StepD wantD
  cases hgo : o.guard with
  | none =>
    have hof : SO.of ops o = ⟨o.dst, o.op, none⟩ := by simp only [SO.of, hgo]
    rw [hof] at h
    obtain ⟨σ', h1, _, h2, h3⟩ := h
    exact ⟨σ', by rw [hdr]; exact h1, .inr (WF.ofS h2), h3⟩
  | some gw =>
    obtain ⟨g, want⟩ := gw
    dsimp only
    unfold guardD
    cases ht : (ops[g]?).bind (·.dst) with
    | none =>
      have hof : SO.of ops o = ⟨o.dst, .ready 0, none⟩ := by simp only [SO.of, hgo, ht]
      rw [hof] at h
      obtain ⟨σ', ⟨_, d, hd, _⟩, _⟩ := h
      simp [SO.up, evP] at hd
    | some t =>
      have hof : SO.of ops o = ⟨o.dst, o.op, some (t, want)⟩ := by simp only [SO.of, hgo, ht]
      rw [hof] at h
      dsimp only at h ⊢
      split at h
      · rename_i b hb
        rw [hb]
        simp only [Option.map_some]
        by_cases e2 : b = some want
        · rw [if_pos e2] at h
          have : (b == some want) = true := by simp [e2]
          rw [this]
          obtain ⟨σ', h1, _, h2, h3⟩ := h
          exact ⟨σ', by rw [hdr]; exact h1, .inr (WF.ofS h2), h3⟩
        · rw [if_neg e2] at h
          have : (b == some want) = false := by simp [e2]
          rw [this]
          exact ⟨h.1, .inr (WF.ofS h.2.2.1), h.2.2.2⟩
      · cases h
theorem DW.regL [Lays] {pre : List SO} {s : SO} {post : List SO} {Q : Exit → St → Prop} (hm : P.follows .mixedOrders = true) (hw : WF σ) (h : opsS P true (fun σ1 => opsS P false (fun σ2 => wfS σ2 ∧ opsS P true (Q .normal) post σ2) [s] σ1) pre σ) : DW P (.regL pre s post) Q σ := fun c hc => by
  obtain ⟨id, l, a, o, b, rfl, hl, hs, rfl, rfl, rfl⟩ := toS_regL hc
  obtain ⟨h1, h2, h3, h4⟩ := splitL_spec rfl hs
  simp only [List.nil_append] at h1
  refine W.draw hm hl hw ?_
  have key : opsQd P l (Q .normal) (a ++ o :: b) σ := by
    refine opsQd_app a (o :: b) σ (opsQd_slim a σ h2 (opsS_mono (fun σ1 h => ?_) _ σ h))
    exact loud_step h3 (opsS_mono (fun σ2 h => ⟨h.1, opsQd_slim b σ2 h4 h.2⟩) _ σ1 h)
  rw [← h1] at key
  exact key
def appKO (bx : List (Nat × Blk)) (tm : List (Nat × D)) (xs ds : List Tmp) : D → Prop
  | .own k => (bx.all (fun p => !p.2.men k) && xs.all (fun t => !((get t tm).getD .top).men k) && ds.all (fun d => !(d == k))) = true
  | .c (.cl _ _ _) => True
  | _ => False
def stoKO (bx : List (Nat × Blk)) (tm : List (Nat × D)) (xs ds : List Tmp) : D → Prop
  | .box k _ => (bx.all (fun p => !p.2.men k) && xs.all (fun t => !((get t tm).getD .top).men k) && ds.all (fun d => !(d == k))) = true
  | _ => False
def appOk [Lays] (σ : St) (s : SO) (xs ds : List Tmp) : Prop := match s.op with
  | .store _ x _ => stoKO σ.bx σ.tm xs ds (σ.op x)
  | .call c => match c.args.toList with
    | x :: _ => appKO σ.bx σ.tm xs ds (σ.op x)
    | [] => False
  | _ => False
def otS [Lays] (P : Program) (Q : St → Prop) : OT → St → Prop
  | .done, σ => Q σ
  | .op s t, σ => opsS P true (otS P Q t) [s] σ
  | .alt a b, σ => otS P Q a σ ∧ otS P Q b σ
  | .app s xs ds t, σ => appOk σ s xs ds ∧ opsS P true (otS P Q t) [s] σ
  | .lop s t, σ => opsS P false (fun σ' => wfS σ' ∧ otS P Q t σ') [s] σ
theorem otS_mono [Lays] {Q Q' : St → Prop} (h : ∀ σ, Q σ → Q' σ) : ∀ (t : OT) (σ : St), otS P Q t σ → otS P Q' t σ
  | .done, σ, hs => h σ hs
  | .op s t, σ, hs => opsS_mono (otS_mono h t) [s] σ hs
  | .alt a b, σ, hs => ⟨otS_mono h a σ hs.1, otS_mono h b σ hs.2⟩
  | .app _ _ _ t, σ, hs => ⟨hs.1, opsS_mono (otS_mono h t) _ σ hs.2⟩
  | .lop s t, σ, hs => opsS_mono (fun σ' q => ⟨q.1, otS_mono h t σ' q.2⟩) [s] σ hs
theorem altsOf_spec [Lays] {Q : St → Prop} : ∀ {l : List (Option OT)} {t : OT}, altsOf l = some t → otS P Q t σ → ∀ x ∈ l, ∃ t', x = some t' ∧ otS P Q t' σ
  | [], _, h, _, x, hx => by cases hx
  | [y], t, h, ho, x, hx => by
    simp only [altsOf] at h
    rcases List.mem_cons.1 hx with rfl | hx
    · exact ⟨t, h, ho⟩
    · cases hx
  | y :: z :: l, t, h, ho, x, hx => by
    simp only [altsOf] at h
    cases y with
    | none => cases h
    | some a =>
      cases hz : altsOf (z :: l) with
      | none => rw [hz] at h; cases h
      | some b =>
        rw [hz] at h
        cases h
        rcases List.mem_cons.1 hx with rfl | hx
        · exact ⟨a, rfl, ho.1⟩
        · exact altsOf_spec (l := z :: l) hz ho.2 x hx
theorem isApp_spec {o : Oper} (h : isApp o = true) : ∃ s x st xt kd, AppO o s x st xt kd := by
  unfold isApp at h
  split at h
  · rename_i args tys hop
    simp only [Bool.and_eq_true, beq_iff_eq, Option.isNone_iff_eq_none] at h
    obtain ⟨⟨⟨h1, h2⟩, h3⟩, h4⟩ := h
    obtain ⟨kd, hkd⟩ := Option.isSome_iff_exists.1 h3
    obtain ⟨la⟩ := args
    obtain ⟨lt⟩ := tys
    match la, lt with
    | [s, x], [st, xt] => exact ⟨s, x, st, xt, kd, ⟨⟨_, hop, rfl, rfl, rfl⟩, hkd, h4⟩⟩
    | [], _ => simp at h1
    | [_], _ => simp at h1
    | _ :: _ :: _ :: _, _ => simp at h1
    | [_, _], [] => simp at h2
    | [_, _], [_] => simp at h2
    | [_, _], _ :: _ :: _ :: _ => simp at h2
  · cases h
theorem isApp_loud {ops : Array Oper} {o : Oper} (h : isApp o = true) : loudO ops o = false := by
  obtain ⟨s, x, st, xt, kd, ⟨⟨c, hop, hcal, _⟩, _, _⟩⟩ := isApp_spec h
  have : isCall o.op = false := by
    rw [hop]; obtain ⟨cl, a, b⟩ := c; cases hcal; rfl
  rw [loudO, this]; rfl
theorem freeXO_cases {ops : Array Oper} {bf : Array Nat} {listed : Array Bool} {j : Nat} {r : List Tmp × List Tmp} (h : freeXO ops bf listed j = some r) : freeAO ops bf listed j = some r ∨ freeSO ops bf listed j = some r := by
  unfold freeXO at h
  split at h
  · rename_i h1; rw [← h]; exact .inl h1
  · exact .inr h
theorem isSto_spec {o : Oper} (h : isSto o = true) : ∃ ty x y, StoO o ty x y := by
  unfold isSto at h
  split at h
  · rename_i ty x y hop
    exact ⟨ty, x, y, hop, by simpa using h⟩
  · cases h
theorem isSto_loud {ops : Array Oper} {o : Oper} (h : isSto o = true) : loudO ops o = false := by
  obtain ⟨ty, x, y, hop, _⟩ := isSto_spec h
  have : isCall o.op = false := by rw [hop]; rfl
  rw [loudO, this]; rfl
theorem freeSO_sto {ops : List Oper} {bf : Array Nat} {listed : Array Bool} {j : Nat} {o : Oper} {r : List Tmp × List Tmp} (ho : ops[j]? = some o) (h : freeSO ops.toArray bf listed j = some r) : isSto o = true := by
  unfold freeSO at h
  have ho' : ops.toArray[j]? = some o := by simpa using ho
  rw [ho'] at h
  dsimp only at h
  split at h
  · rename_i hall
    simp only [Bool.and_eq_true] at hall
    exact hall.1.1
  · cases h
theorem anyD_stoS [Lays] {ops : List Oper} {Q : St → Prop} {j : Nat} {o : Oper} (ho : ops[j]? = some o) {fuel : Nat} {listed : Array Bool} {σ : St} (hw : WF σ) (hc : Closed ops.toArray listed) {xs ds : List Tmp}
    (hfa : freeSO ops.toArray (Region.before ops.toArray) listed j = some (xs, ds)) (hr : j ∈ Region.ready .any ops.toArray listed) (hok : appOk σ (SO.of ops o) xs ds)
    (hmem : ∀ i oi, ops[i]? = some oi → i ≠ j → listed.getD i true = false → ((Region.before ops.toArray).getD i 0).testBit j = false → oi ∈ othersA ops.toArray (Region.before ops.toArray) listed j) (H : StepD P ops o (anyD P ops Q fuel (listed.setIfInBounds j true)) σ) : anyD P ops Q (fuel + 1) listed σ := by
  unfold freeSO at hfa
  have ho' : ops.toArray[j]? = some o := by simpa using ho
  rw [ho'] at hfa
  dsimp only at hfa
  split at hfa
  · rename_i hall
    cases hfa
    simp only [Bool.and_eq_true] at hall
    obtain ⟨⟨hsto, _⟩, hall⟩ := hall
    obtain ⟨ty, x, y, hS⟩ := isSto_spec hsto
    have hsop : (SO.of ops o).op = o.op := by unfold SO.of; rw [hS.guard]
    have hok2 : stoKO σ.bx σ.tm ((othersA ops.toArray (Region.before ops.toArray) listed j).flatMap (fun oi => oi.op.operands.toList.filterMap tmpOf)) ((othersA ops.toArray (Region.before ops.toArray) listed j).filterMap (·.dst)) (σ.op x) := by
      unfold appOk at hok
      rw [hsop, hS.op] at hok
      exact hok
    cases hs : σ.op x with
    | box k off =>
      rw [hs] at hok2
      simp only [stoKO, Bool.and_eq_true, List.all_eq_true, Bool.not_eq_true'] at hok2
      obtain ⟨⟨h1, h2⟩, h3⟩ := hok2
      refine anyD_sto ho hS fuel listed σ hw hc hs (fun p hp => h1 p hp) (fun i oi hoi hij hun hnb => ?_) hr H
      have hm := hmem i oi hoi hij hun hnb
      have ha := List.all_eq_true.1 hall oi hm
      simp only [Bool.and_eq_true, Option.isNone_iff_eq_none, Bool.or_eq_true, Bool.not_eq_true'] at ha
      refine ⟨?_, ha.1.2, ha.2, fun e => ?_, fun z hz => ?_⟩
      · rcases ha.1.1 with h | h
        · exact .inl h
        · exact .inr ⟨h.2, isSto_spec h.1⟩
      · have := h3 k (List.mem_filterMap.2 ⟨oi, hm, e⟩)
        simp at this
      · cases z with
        | tmp t => exact h2 t (List.mem_flatMap.2 ⟨oi, hm, List.mem_filterMap.2 ⟨.tmp t, hz, rfl⟩⟩)
        | const v => simp only [St.op]; split <;> rfl
        | func f => rfl
        | global g => simp only [St.op]; split <;> rfl
    | _ => rw [hs] at hok2; exact hok2.elim
  · cases hfa
theorem anyD_appS [Lays] {ops : List Oper} {Q : St → Prop} {j : Nat} {o : Oper} (ho : ops[j]? = some o) {fuel : Nat} {listed : Array Bool} {σ : St} (hw : WF σ) (hc : Closed ops.toArray listed) {xs ds : List Tmp}
    (hfa : freeXO ops.toArray (Region.before ops.toArray) listed j = some (xs, ds)) (hr : j ∈ Region.ready .any ops.toArray listed) (hok : appOk σ (SO.of ops o) xs ds) (H : StepD P ops o (anyD P ops Q fuel (listed.setIfInBounds j true)) σ) : anyD P ops Q (fuel + 1) listed σ := by
  have hmem : ∀ i oi, ops[i]? = some oi → i ≠ j → listed.getD i true = false → ((Region.before ops.toArray).getD i 0).testBit j = false → oi ∈ othersA ops.toArray (Region.before ops.toArray) listed j := fun i oi hoi hij hun hnb => by
    unfold othersA
    rw [List.mem_filterMap]
    have hoi' : ops.toArray[i]? = some oi := by simpa using hoi
    refine ⟨i, ?_, ?_⟩
    · rw [List.mem_range]
      rcases Nat.lt_or_ge i ops.toArray.size with h | h
      · exact h
      · rw [Array.getElem?_eq_none h] at hoi'; cases hoi'
    · rw [hoi']
      dsimp only
      rw [if_neg (by simp only [Bool.or_eq_true, beq_iff_eq, hun, hnb]; simpa using hij)]
  rcases freeXO_cases hfa with hfa | hfa
  case' inr => exact anyD_stoS ho hw hc hfa hr hok hmem H
  unfold freeAO at hfa
  have ho' : ops.toArray[j]? = some o := by simpa using ho
  rw [ho'] at hfa
  dsimp only at hfa
  split at hfa
  · rename_i hall
    cases hfa
    simp only [Bool.and_eq_true] at hall
    obtain ⟨⟨happ, _⟩, hall⟩ := hall
    obtain ⟨s, x, st, xt, kd, hA⟩ := isApp_spec happ
    have hsop : (SO.of ops o).op = o.op := by unfold SO.of; rw [hA.guard]
    have hok2 : appKO σ.bx σ.tm ((othersA ops.toArray (Region.before ops.toArray) listed j).flatMap (fun oi => oi.op.operands.toList.filterMap tmpOf)) ((othersA ops.toArray (Region.before ops.toArray) listed j).filterMap (·.dst)) (σ.op s) := by
      obtain ⟨⟨c, hop, hcal, hargs, _⟩, _, _⟩ := hA
      unfold appOk at hok
      rw [hsop, hop] at hok
      dsimp only at hok
      rw [hargs] at hok
      exact hok
    cases hs : σ.op s with
    | own k =>
      rw [hs] at hok2
      simp only [appKO, Bool.and_eq_true, List.all_eq_true, Bool.not_eq_true'] at hok2
      obtain ⟨⟨h1, h2⟩, h3⟩ := hok2
      refine anyD_app ho hA fuel listed σ hw hc hs (fun p hp => h1 p hp) (fun i oi hoi hij hun hnb => ?_) hr H
      have hm := hmem i oi hoi hij hun hnb
      have ha := List.all_eq_true.1 hall oi hm
      simp only [Bool.and_eq_true, Option.isNone_iff_eq_none] at ha
      refine ⟨ha.1.1, ha.1.2, ha.2, fun e => ?_, fun y hy => ?_⟩
      · have := h3 k (List.mem_filterMap.2 ⟨oi, hm, e⟩)
        simp at this
      · cases y with
        | tmp t => exact h2 t (List.mem_flatMap.2 ⟨oi, hm, List.mem_filterMap.2 ⟨.tmp t, hy, rfl⟩⟩)
        | const v => simp only [St.op]; split <;> rfl
        | func f => rfl
        | global g => simp only [St.op]; split <;> rfl
    | c y =>
      rw [hs] at hok2
      cases y with
      | cl bw n es =>
        refine anyD_appc ho hA fuel listed σ hw hc hs (fun i oi hoi hij hun hnb => ?_) hr H
        have ha := List.all_eq_true.1 hall oi (hmem i oi hoi hij hun hnb)
        simp only [Bool.and_eq_true] at ha
        exact ⟨ha.1.1, ha.1.2⟩
      | _ => exact hok2.elim
    | _ => rw [hs] at hok2; exact hok2.elim
  · cases hfa
theorem freeAO_app {ops : List Oper} {bf : Array Nat} {listed : Array Bool} {j : Nat} {o : Oper} {r : List Tmp × List Tmp} (ho : ops[j]? = some o) (h : freeAO ops.toArray bf listed j = some r) : isApp o = true := by
  unfold freeAO at h
  have ho' : ops.toArray[j]? = some o := by simpa using ho
  rw [ho'] at h
  dsimp only at h
  split at h
  · rename_i hall
    simp only [Bool.and_eq_true] at hall
    exact hall.1.1
  · cases h
theorem freeXO_loud {ops : List Oper} {bf : Array Nat} {listed : Array Bool} {j : Nat} {o : Oper} {r : List Tmp × List Tmp} (ho : ops[j]? = some o) (h : freeXO ops.toArray bf listed j = some r) : loudO ops.toArray o = false := by
  rcases freeXO_cases h with h | h
  · exact isApp_loud (freeAO_app ho h)
  · exact isSto_loud (freeSO_sto ho h)
theorem anyD_ord [Lays] {ops : List Oper} {Q : St → Prop} : ∀ (fuel br : Nat) (listed : Array Bool) (σ : St) (t : OT), WF σ → Closed ops.toArray listed → ordT ops.toArray (Region.before ops.toArray) fuel br listed = some t →
    otS P Q t σ → anyD P ops Q fuel listed σ
  | 0, br, listed, σ, t, hw, hc, ht, h => by
    simp only [ordT] at ht
    split at ht
    · rename_i hr
      cases ht
      exact ⟨by simpa using hr, h⟩
    · cases ht
  | fuel + 1, br, listed, σ, t, hw, hc, ht, h => by
    have step : ∀ (i : Nat) (o : Oper) (br' : Nat) (t' : OT), i ∈ Region.ready .any ops.toArray listed → ops[i]? = some o → loudO ops.toArray o = false → ordT ops.toArray (Region.before ops.toArray) fuel br' (listed.setIfInBounds i true) = some t' →
        otS P Q (.op (SO.of ops o) t') σ → StepD P ops o (anyD P ops Q fuel (listed.setIfInBounds i true)) σ := by
      intro i o br' t' hi ho hnl ht' h'
      have h1 : StepD P ops o (otS P Q t') σ := opsQd_slim [o] σ (by simp [hnl]) h'
      exact StepD.mono (fun σ' hs => anyD_ord fuel br' _ σ' t' hs.1 (closed_set hc hi) ht' hs.2) (stepD_wf hw h1)
    have lstep : ∀ (i : Nat) (o : Oper) (br' : Nat) (t' : OT), i ∈ Region.ready .any ops.toArray listed → ops[i]? = some o → ordT ops.toArray (Region.before ops.toArray) fuel br' (listed.setIfInBounds i true) = some t' →
        otS P Q (otOp ops.toArray o t') σ → StepD P ops o (anyD P ops Q fuel (listed.setIfInBounds i true)) σ := by
      intro i o br' t' hi ho ht' h'
      unfold otOp at h'
      split at h'
      · rename_i hl
        have h1 : StepD P ops o (otS P Q t') σ := loud_step hl h'
        exact StepD.mono (fun σ' hs => anyD_ord fuel br' _ σ' t' hs.1 (closed_set hc hi) ht' hs.2) (stepD_wf hw h1)
      · rename_i hl
        exact step i o br' t' hi ho (by simpa using hl) ht' h'
    simp only [ordT] at ht
    split at ht
    · rename_i hr
      cases ht
      exact ⟨fun _ => h, fun i hi => by rw [hr] at hi; cases hi⟩
    · rename_i r rs hr
      split at ht
      · rename_i i hf
        have hmem := List.mem_of_find?_eq_some hf
        rw [← hr] at hmem
        split at ht
        · rename_i o ho
          obtain ⟨t', ht', rfl⟩ := Option.map_eq_some_iff.1 ht
          have ho' : ops[i]? = some o := by simpa using ho
          have hfr : freeD ops.toArray (Region.before ops.toArray) listed i = true := by simpa using List.find?_some hf
          exact anyD_first ho' fuel listed σ hw hc (freeD_spec ho' hfr) hmem (lstep i o br t' hmem ho' ht' (by simpa using h))
        · cases ht
      · split at ht
        · rename_i j hfj
          have hmem := List.mem_of_find?_eq_some hfj
          rw [← hr] at hmem
          split at ht
          · rename_i o xs ds ho hfa
            obtain ⟨t', ht', rfl⟩ := Option.map_eq_some_iff.1 ht
            have ho' : ops[j]? = some o := by simpa using ho
            obtain ⟨hok, h'⟩ := h
            exact anyD_appS ho' hw hc hfa hmem (by simpa using hok) (step j o br t' hmem ho' (freeXO_loud ho' hfa) ht' (show opsS P true (otS P Q t') [SO.of ops o] σ by simpa using h'))
          · cases ht
        · split at ht
          · cases ht
          · rename_i br'
            refine ⟨fun he => (by rw [hr] at he; cases he), fun i hi o ho => ?_⟩
            have hi' : i ∈ r :: rs := by rw [← hr]; exact hi
            obtain ⟨t', ht', h'⟩ := altsOf_spec ht h _ (List.mem_map.2 ⟨i, hi', rfl⟩)
            have ho2 : ops.toArray[i]? = some o := by simpa using ho
            rw [ho2] at ht'
            dsimp only at ht'
            obtain ⟨t2, ht2, rfl⟩ := Option.map_eq_some_iff.1 ht'
            exact lstep i o br' t2 hi ho ht2 (by simpa using h')
theorem toS_ord {t : OT} {c : Code} (h : toS c = .ord t) : ∃ (id : Nat) (l : List Oper), c = .region id l.toArray true ∧ ordD l.toArray = some t := by
  cases c <;> simp only [toS, reduceCtorEq] at h
  rename_i id o d
  split at h
  · rename_i hd
    simp only [Bool.and_eq_true] at hd
    obtain ⟨rfl, _⟩ := hd
    split at h
    · split at h
      · cases h
      · split at h
        · rename_i t' ht'
          cases h
          exact ⟨id, o.toList, by simp, by simpa using ht'⟩
        · cases h
    · split at h
      · rename_i t' ht'
        cases h
        exact ⟨id, o.toList, by simp, by simpa using ht'⟩
      · cases h
  · split at h
    · rename_i hd
      split at h
      · rename_i t' ht'
        cases h
        simp only [Bool.and_eq_true] at hd
        obtain ⟨rfl, _⟩ := hd
        exact ⟨id, o.toList, by simp, by simpa using ht'⟩
      · cases h
    · cases h
theorem DW.ord0 [Lays] {t : OT} {Q : Exit → St → Prop} (hm : P.follows .mixedOrders = true) (hw : WF σ) (h : otS P (Q .normal) t σ) : DW P (.ord t) Q σ := fun c hc => by
  obtain ⟨id, l, rfl, ht⟩ := toS_ord hc
  intro N O0 w0 a w rd n Qm hi hq
  refine wpIn_region_any hm ?_
  obtain ⟨G, hcr⟩ := hi
  have hc0 : Closed l.toArray (Array.replicate l.toArray.size false) := by
    intro j o _ hl
    simp [Array.getD] at hl
  refine anyD_wp (Q := Q .normal) rd.1 n (fun σ' a' w' q hi' => hq _ _ _ _ q hi') _ _ σ _ _ ⟨G, hcr.drew⟩ ?_
  have := anyD_ord (P := P) (Q := Q .normal) _ _ _ σ t hw hc0 ht h
  simpa using this
theorem DW.ord [Lays] {t : OT} {Q : Exit → St → Prop} (hm : P.follows .mixedOrders = true) (hw : WF σ) (σF : St) (h : otS P (fun σ' => σ' = σF) t σ) (hQ : Q .normal σF) : DW P (.ord t) Q σ :=
  DW.ord0 hm hw (otS_mono (fun σ' e => by rw [e]; exact hQ) t σ h)
theorem rowC_men [Lays] (k n : Nat) (es : List (List C)) : Blk.men k (.row n (rowC es)) = false := by
  simp only [Blk.men, rowC, List.any_eq_false, List.mem_map]
  rintro _ ⟨e, _, rfl⟩
  rw [mens_mapc]; simp
theorem keysIns_mapc (bx : List (Nat × Blk)) : ∀ cs : List C, D.keysIns bx (cs.map D.c) = true
  | [] => rfl
  | c :: cs => by simp [D.keysIns, D.keysIn, keysIns_mapc bx cs]
theorem rowC_keysIn [Lays] (bx : List (Nat × Blk)) (n : Nat) (es : List (List C)) : Blk.keysIn bx (.row n (rowC es)) = true := by
  simp only [Blk.keysIn, rowC, List.all_eq_true, List.mem_map]
  rintro _ ⟨e, _, rfl⟩
  exact keysIns_mapc bx e
theorem rowC_append (a b : List (List C)) : rowC a ++ rowC b = rowC (a ++ b) := by simp [rowC]
theorem rowC_length (a : List (List C)) : (rowC a).length = a.length := by simp [rowC]
theorem rowC_ok (a : List (List C)) : (rowC a).flatten.all cellOK = true := by
  simp only [rowC, List.all_eq_true, List.mem_flatten, List.mem_map]
  rintro d ⟨l, ⟨e, _, rfl⟩, hd⟩
  obtain ⟨c, _, rfl⟩ := List.mem_map.1 hd
  rfl
theorem closedEs_rowC : ∀ (es : List (List C)), closedEs (rowC es) = some es
  | [] => rfl
  | e :: es => by
    have h1 : ∀ e : List C, closedCs (e.map D.c) = some e := by
      intro e
      induction e with
      | nil => rfl
      | cons c e ih => simp only [List.map_cons, closedCs, ih, Option.map_some]
    show closedEs (e.map D.c :: rowC es) = _
    simp only [closedEs, h1, closedEs_rowC es]
theorem shutEs_rowC : ∀ (es : List (List C)), shutEs (rowC es) = some es
  | [] => rfl
  | e :: es => by
    have h1 : ∀ e : List C, shutCs (e.map D.c) = some e := by
      intro e
      induction e with
      | nil => rfl
      | cons c e ih => simp only [List.map_cons, shutCs, ih, Option.map_some]
    show shutEs (e.map D.c :: rowC es) = _
    simp only [shutEs, h1, shutEs_rowC es]
theorem rowC_get (es : List (List C)) (i : Nat) : (rowC es)[i]? = (es[i]?).map (·.map D.c) := by simp [rowC]
end Go.Dw
end
