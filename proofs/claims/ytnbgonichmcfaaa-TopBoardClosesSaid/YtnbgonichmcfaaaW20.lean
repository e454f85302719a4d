/- Helpers of a proof. -/
import Derived.Test.YtnbgonichmcfaaaW19
set_option linter.unusedVariables false
set_option linter.unusedSimpArgs false
section
set_option linter.unusedSimpArgs false
namespace Go.Dw
open Go.RowKit
variable {P : Program} {σ σ' : St}
structure StoO (o : Oper) (ty : TypeId) (x y : Operand) : Prop where
  op : o.op = .store ty x y
  guard : o.guard = none
theorem pkey_box {f : Blk → Bool} (hf : ∀ cs, f (.box cs) = false) {k : Nat} {cs cs' : List D} : ∀ {bx : List (Nat × Blk)}, get k bx = some (.box cs) → pkey f (ins k (.box cs') bx) = pkey f bx
  | [], h => by cases h
  | p :: r, h => by
    simp only [get] at h
    simp only [ins]
    split
    · simp only [pkey, hf, Bool.false_eq_true, if_false]
    · split at h
      · rename_i h1 h2
        rw [if_pos h2]
        have : f p.2 = false := by rw [Option.some.inj h]; exact hf cs
        simp only [pkey, hf, this, Bool.false_eq_true, if_false]
      · rename_i h1 h2
        rw [if_neg h2]
        simp only [pkey]
        rw [pkey_box hf h]
theorem pget_box {k : Nat} {cs cs' : List D} {bx : List (Nat × Blk)} (h : get k bx = some (.box cs)) (l : Nat) : pget l (ins k (.box cs') bx) = pget l bx := by
  unfold pget
  rw [pkey_box (fun _ => rfl) h]
  cases pkey (Blk.pinB l) bx with
  | none => rfl
  | some j =>
    simp only [get_ins]
    by_cases e : j = k
    · subst e; simp only [if_true, h]
    · simp only [if_neg e]
theorem mget_box {k : Nat} {cs cs' : List D} {bx : List (Nat × Blk)} (h : get k bx = some (.box cs)) (l : Nat) : mget l (ins k (.box cs') bx) = mget l bx := by
  unfold mget
  rw [pkey_box (fun _ => rfl) h]
  cases pkey (Blk.pinM l) bx with
  | none => rfl
  | some j =>
    simp only [get_ins]
    by_cases e : j = k
    · subst e; simp only [if_true, h]
    · simp only [if_neg e]
theorem ins_mem {k : Nat} {x : Blk} : ∀ {l : List (Nat × Blk)} {p : Nat × Blk}, p ∈ ins k x l → p = (k, x) ∨ p ∈ l
  | [], p, h => by simp [ins] at h; exact .inl h
  | r :: l, p, h => by
    simp only [ins] at h
    split at h
    · rcases List.mem_cons.1 h with rfl | h
      · exact .inl rfl
      · exact .inr h
    · split at h
      · rcases List.mem_cons.1 h with rfl | h
        · exact .inl rfl
        · exact .inr (by simp [h])
      · rcases List.mem_cons.1 h with rfl | h
        · exact .inr (by simp)
        · rcases ins_mem h with h | h
          · exact .inl h
          · exact .inr (by simp [h])
section
variable [Lays] {k0 : Nat}
theorem sto_split {o : Oper} {ty : TypeId} {x y : Operand} {off : Nat} {dr : Bool} (ho : StoO o ty x y) (hs : σ.op x = .box k0 off) (h : OpTo P dr o σ σ') : o.dst = none ∧ ∃ cs cs', get k0 σ.bx = some (.box cs) ∧ σ' = σ.putB k0 (.box cs') ∧ ∀ τ : St, get k0 τ.bx = some (.box cs) → τ.op x = .box k0 off → τ.op y = σ.op y → OpTo P dr o τ (τ.putB k0 (.box cs')) := by
  obtain ⟨hd, h⟩ := h
  rw [ho.op] at h
  obtain ⟨hdst, h⟩ := h
  refine ⟨hdst, ?_⟩
  unfold evS at h
  split at h
  · rename_i ti xs hti hxs
    split at h
    · rename_i hlen
      unfold storeAt at h
      split at h
      · rename_i hall
        rw [hs] at h
        dsimp only at h
        split at h
        · rename_i cs hcs
          split at h
          · rename_i hle
            cases h
            refine ⟨cs, _, hcs, rfl, fun τ h1 h2 h3 => ⟨fun t ht => (by rw [hdst] at ht; cases ht), ?_⟩⟩
            rw [ho.op]
            refine ⟨hdst, ?_⟩
            unfold evS
            rw [hti, h3, hxs]
            dsimp only
            rw [if_pos hlen, h2]
            unfold storeAt
            rw [if_pos hall]
            dsimp only
            rw [h1]
            dsimp only
            rw [if_pos hle]
          · cases h
        · cases h
      · cases h
    · cases h
  · cases h
omit [Lays] in
theorem mens_app {k : Nat} : ∀ {a b : List D}, D.mens k (a ++ b) = (D.mens k a || D.mens k b)
  | [], b => by simp [D.mens]
  | d :: a, b => by simp only [List.cons_append, D.mens, mens_app (a := a), Bool.or_assoc]
omit [Lays] in
theorem mens_sub {k : Nat} : ∀ {a b : List D}, a.Sublist b → D.mens k b = false → D.mens k a = false
  | _, _, .slnil, h => h
  | _, _, .cons _ hs, h => by
    simp only [D.mens, Bool.or_eq_false_iff] at h
    exact mens_sub hs h.2
  | _, _, .cons_cons _ hs, h => by
    simp only [D.mens, Bool.or_eq_false_iff] at h ⊢
    exact ⟨h.1, mens_sub hs h.2⟩
omit [Lays] in
theorem mens_setAt {k off : Nat} {cs xs : List D} (h1 : D.mens k cs = false) (h2 : D.mens k xs = false) : D.mens k (setAt cs off xs) = false := by
  unfold setAt
  rw [mens_app, mens_app, h2, mens_sub (List.take_sublist _ _) h1, mens_sub (List.drop_sublist _ _) h1]; rfl
omit [Lays] in
theorem cellsD_menS {k : Nat} {d : D} {xs : List D} (h : cellsD d = some xs) (hd : d.men k = false) : D.mens k xs = false := by
  unfold cellsD at h
  split at h
  · cases h; exact hd
  · split at h
    · cases h; simp only [D.mens, hd]; rfl
    · cases h
theorem sto_other {o : Oper} {ty : TypeId} {x y : Operand} {dr : Bool} {cs cs' : List D} {σ2 : St} (ho : StoO o ty x y) (ha : ∀ p ∈ σ.bx, p.2.men k0 = false) (hk : get k0 σ.bx = some (.box cs)) (hx : (σ.op x).men k0 = false) (hy : (σ.op y).men k0 = false) (h : OpTo P dr o (σ.putB k0 (.box cs')) σ2) :
    ∃ k B, k ≠ k0 ∧ (get k σ.bx).isSome = true ∧ B.men k0 = false ∧ OpTo P dr o σ (σ.putB k B) ∧ σ2 = (σ.putB k0 (.box cs')).putB k B := by
  obtain ⟨hd, h⟩ := h
  rw [ho.op] at h
  obtain ⟨hdst, h⟩ := h
  have hop : ∀ z, (σ.putB k0 (.box cs')).op z = σ.op z := fun z => by cases z <;> rfl
  have done : ∀ {τ}, evS P σ ty x y = some τ → OpTo P dr o σ τ := fun he => ⟨fun t ht => (by rw [hdst] at ht; cases ht), by rw [ho.op]; exact ⟨hdst, he⟩⟩
  unfold evS at h done
  rw [hop, hop] at h
  split at h
  · rename_i ti xs hti hxs
    rw [hti, hxs] at done
    dsimp only at done
    have hmx := cellsD_menS hxs hy
    split at h
    · rename_i hlen
      rw [if_pos hlen] at done
      unfold storeAt at h done
      split at h
      · rename_i hall
        rw [if_pos hall] at done
        split at h
        · rename_i k off hxd
          rw [hxd] at done hx
          dsimp only at done
          have hne : k ≠ k0 := fun e => by subst e; simp [D.men] at hx
          have hgk : get k (σ.putB k0 (.box cs')).bx = get k σ.bx := by show get k (ins _ _ _) = _; rw [get_ins, if_neg hne]
          rw [hgk] at h
          split at h
          · rename_i cs2 hcs2
            rw [hcs2] at done
            dsimp only at done
            split at h
            · rename_i hle
              rw [if_pos hle] at done
              cases h
              have hm := ha _ (get_mem' hcs2)
              exact ⟨k, .box (setAt cs2 off xs), hne, by rw [hcs2]; rfl, mens_setAt hm hmx, done rfl, rfl⟩
            · cases h
          · cases h
        · rename_i k n i off hxd
          rw [hxd] at done hx
          dsimp only at done
          have hne : k ≠ k0 := fun e => by subst e; simp [D.men] at hx
          have hgk : get k (σ.putB k0 (.box cs')).bx = get k σ.bx := by show get k (ins _ _ _) = _; rw [get_ins, if_neg hne]
          rw [hgk] at h
          split at h
          · rename_i n' es hes
            rw [hes] at done
            dsimp only at done
            split at h
            · rename_i hle
              rw [if_pos hle] at done
              split at h
              · rename_i e he
                rw [he] at done
                dsimp only at done
                cases h
                have hm := ha _ (get_mem' hes)
                refine ⟨k, _, hne, by rw [hes]; rfl, ?_, done rfl, rfl⟩
                simp only [Blk.men, List.any_eq_false] at hm ⊢
                intro f hf
                rcases List.mem_or_eq_of_mem_set hf with h1 | h1
                · exact hm f h1
                · rw [h1, mens_setAt (by simpa using hm e (List.mem_of_getElem? he)) hmx]; simp
              · cases h
            · cases h
          · cases h
        · rename_i l off hxd
          rw [hxd] at done
          dsimp only at done
          have hpg : pget l (σ.putB k0 (.box cs')).bx = pget l σ.bx := pget_box hk l
          rw [hpg] at h
          split at h
          · rename_i k cs2 hcs2
            rw [hcs2] at done
            dsimp only at done
            have hg := pget_spec hcs2
            have hne : k ≠ k0 := fun e => by subst e; rw [hk] at hg; cases hg
            split at h
            · rename_i hle
              rw [if_pos hle] at done
              cases h
              have hm := ha _ (get_mem' hg)
              exact ⟨k, .pbox l (setAt cs2 off xs), hne, by rw [hg]; rfl, mens_setAt hm hmx, done rfl, rfl⟩
            · cases h
          · cases h
        · cases h
      · cases h
    · cases h
  · cases h
structure FreeS (ops : List Oper) (oj : Oper) (oi : Oper) (k0 : Nat) (σ : St) : Prop where
  comm : commO ops.toArray oi = true ∨ (loudO ops.toArray oi = false ∧ ∃ ty x y, StoO oi ty x y)
  apart : oi.apart ops.toArray oj = true
  guard : oi.guard = none
  dst : oi.dst ≠ some k0
  men : ∀ x ∈ oi.op.operands.toList, (σ.op x).men k0 = false
theorem sto_back {o : Oper} {d : D} {nb : Option Blk} {cs cs' : List D} (ha : ∀ p ∈ σ.bx, p.2.men k0 = false) (hr : get k0 σ.bx = some (.box cs)) (hop : ∀ x ∈ o.op.operands.toList, (σ.op x).men k0 = false) (h : QOp P o (σ.putB k0 (.box cs')) d nb) : QOp P o σ d nb := by
  refine QOp_congr (σ := σ.putB k0 (.box cs')) rfl ⟨fun l => (pget_box hr l).symm, fun l => (mget_box hr l).symm⟩ (fun x _ => by cases x <;> rfl) (fun x hx k hk => ?_) h
  have hk : (σ.op x).men k = true := by
    have : (σ.putB k0 (.box cs')).op x = σ.op x := by cases x <;> rfl
    rwa [this] at hk
  have hk0 : k ≠ k0 := fun e => by rw [e, hop x hx] at hk; cases hk
  refine ⟨by show _ = get k (ins _ _ _); rw [get_ins, if_neg hk0], fun m fs hg j hj => ?_⟩
  have hg : get k σ.bx = some (.row m fs) := by
    have : get k (σ.putB k0 (.box cs')).bx = get k σ.bx := by show get k (ins _ _ _) = _; rw [get_ins, if_neg hk0]
    rwa [this] at hg
  have hj0 : j ≠ k0 := fun e => by
    have := ha _ (get_mem' hg)
    rw [e] at hj
    rw [show Blk.men k0 (.row m fs) = fs.any (D.mens k0) from rfl] at this
    rw [this] at hj; cases hj
  show _ = get j (ins _ _ _)
  rw [get_ins, if_neg hj0]
omit [Lays] in
theorem sto_comm {o : Option Tmp} {d : D} {nb : Option Blk} {B : Blk} (hk : nb ≠ none → ∀ t, o = some t → t ≠ k0) : (applyE σ o d nb).putB k0 B = applyE (σ.putB k0 B) o d nb := by
  cases o with
  | none => rfl
  | some t =>
    cases nb with
    | none => rfl
    | some x =>
      have h2 := hk (by simp) t rfl
      simp only [applyE, St.put, St.putB, St.mk.injEq, true_and]
      exact ins_comm k0 t _ _ (fun e => h2 e.symm) _
omit [Lays] in
theorem wf_sto {k : Nat} {B B0 : Blk} (hw : WF σ) (hk : (get k σ.bx).isSome = true) (hk0 : (get k0 σ.bx).isSome = true) (h : WF ((σ.putB k0 B0).putB k B)) : WF (σ.putB k B) := by
  intro j hj
  have hj : get j (ins k B σ.bx) = none := hj
  rw [get_ins] at hj
  split at hj
  · cases hj
  · rename_i hjk
    have h1 := hw j hj
    have hj0 : j ≠ k0 := fun e => by rw [e] at hj; rw [hj] at hk0; cases hk0
    have h2 := h j (by show get j (ins k B (ins k0 B0 σ.bx)) = none; rw [get_ins, if_neg hjk, get_ins, if_neg hj0]; exact hj)
    simp only [St.men, Bool.or_eq_false_iff] at h1 h2 ⊢
    refine ⟨h1.1, ?_⟩
    have h3 := h2.2
    rw [List.any_eq_false] at h3 ⊢
    intro p hp
    rcases ins_mem hp with rfl | hp
    · exact h3 (k, B) (get_mem' (show get k (ins k B (ins k0 B0 σ.bx)) = some B by rw [get_ins, if_pos rfl]))
    · have := h1.2
      rw [List.any_eq_false] at this
      exact this p hp
theorem anyD_sto {ops : List Oper} {Q : St → Prop} {j : Nat} {oj : Oper} {ty : TypeId} {x y : Operand} {off : Nat} (hj : ops[j]? = some oj) (ho : StoO oj ty x y) : ∀ (fuel : Nat) (listed : Array Bool) (σ : St), WF σ → Closed ops.toArray listed → σ.op x = .box k0 off → (∀ p ∈ σ.bx, p.2.men k0 = false) →
    (∀ i oi, ops[i]? = some oi → i ≠ j → listed.getD i true = false → ((Region.before ops.toArray).getD i 0).testBit j = false → FreeS ops oj oi k0 σ) → j ∈ Region.ready .any ops.toArray listed →
    StepD P ops oj (anyD P ops Q fuel (listed.setIfInBounds j true)) σ → anyD P ops Q (fuel + 1) listed σ := by
  intro fuel
  have hsl : ∀ x' ∈ [x, y], x' ∈ oj.op.operands.toList := by
    intro x' hx'
    rw [ho.op]
    simpa [Op.operands] using hx'
  have hncom : commO ops.toArray oj = false := by
    unfold commO quietO
    rw [ho.op]
    rfl
  induction fuel with
  | zero =>
    intro listed σ hwf hcl hs ha hfree hr H
    refine ⟨fun h => (by rw [h] at hr; cases hr), fun i hi oi hoi => ?_⟩
    by_cases hij : i = j
    · subst hij; rw [hj] at hoi; cases hoi; exact H
    · have hir := ready_mono hi hij
      have : Region.ready .any ops.toArray (listed.setIfInBounds j true) = [] := by
        unfold StepD at H
        split at H
        · obtain ⟨σ', _, _, h3⟩ := H; exact h3.1
        · exact H.2.2.1
        · cases H
      rw [this] at hir
      cases hir
  | succ fuel ih =>
    intro listed σ hwf hcl hs ha hfree hr H
    refine ⟨fun h => (by rw [h] at hr; cases hr), fun i hi oi hoi => ?_⟩
    by_cases hij : i = j
    · subst hij; rw [hj] at hoi; cases hoi; exact H
    · have hun : listed.getD i true = false := (mem_ready.1 hi).1
      have hnb : ((Region.before ops.toArray).getD i 0).testBit j = false := by
        cases hq : ((Region.before ops.toArray).getD i 0).testBit j with
        | false => rfl
        | true =>
          have h1 := before_listed hcl hi hq
          have h0 := (mem_ready.1 hr).1
          rcases Nat.lt_or_ge j listed.size with h' | h'
          · simp [h'] at h0 h1; rw [h0] at h1; cases h1
          · simp [Array.getElem?_eq_none h'] at h1
      have F := hfree i oi hoi hij hun hnb
      obtain ⟨ha1, ha2, ha3⟩ := Oper.apart_spec F.apart
      have hwj : ∀ τ, wantD ops oj τ = some true := fun τ => by unfold wantD; rw [ho.guard]
      have hwi : ∀ τ, wantD ops oi τ = some true := fun τ => by unfold wantD; rw [F.guard]
      have H' := H
      unfold StepD at H'
      rw [hwj] at H'
      obtain ⟨σ1, hop1, hwf1, hK⟩ := H'
      obtain ⟨hdj, cs, cs', hcs, rfl, hagain⟩ := sto_split ho hs hop1
      have hwf1 : WF (σ.putB k0 (.box cs')) := by
        rcases hwf1 with h | h
        · rw [hncom] at h; cases h
        · exact h
      have hi1 := hK.2 i (ready_mono hi hij) oi hoi
      have hunm : ∀ m, m ≠ i → (listed.setIfInBounds i true).getD m true = false → listed.getD m true = false := fun m him h => by
        rwa [getD_set_ne true (fun e => him e.symm)] at h
      rcases F.comm with hcm | ⟨hlo, tyi, xi, yi, hoS⟩
      · obtain ⟨di, nbi, hdi, hfi, hK2⟩ := step_quiet hcm hi1
        have hdi1 : QOp P oi (σ.putB k0 (.box cs')) di nbi := by
          rcases hdi with ⟨_, h⟩ | ⟨h, _⟩
          · exact h
          · rw [hwi] at h; cases h
        have hdi0 := sto_back ha hcs F.men hdi1
        obtain ⟨hm1, hm2⟩ := q_men ha F.men F.dst hdi0
        have hfi0 : nbi ≠ none → ∀ k, oi.dst = some k → get k σ.bx = none := fun hn k hk => by
          have : get k (ins k0 (.box cs') σ.bx) = none := hfi hn k hk
          rw [get_ins] at this
          split at this
          · cases this
          · exact this
        have hq0 : QSt P ops oi σ di nbi := .inl ⟨hwi σ, hdi0⟩
        refine quiet_step hcm hwf hq0 hfi0 ?_
        have hopk : ∀ x' ∈ [x, y], (applyE σ oi.dst di nbi).op x' = σ.op x' := fun x' hx' => applyE_op (fun t ht hxt => ha1 t ht (looks_operand (by rw [← hxt]; exact hsl x' hx')))
        have hdstk : nbi ≠ none → ∀ t, oi.dst = some t → t ≠ k0 := fun _ t ht e => F.dst (by rw [ht, e])
        have hrow0 : get k0 (applyE σ oi.dst di nbi).bx = some (.box cs) := by
          rw [get_applyE]
          cases hd : oi.dst with
          | none => exact hcs
          | some t =>
            cases hn : nbi with
            | none => exact hcs
            | some z =>
              dsimp only
              rw [if_neg (fun e => hdstk (by rw [hn]; simp) t hd e.symm)]
              exact hcs
        have hwf' := qst_wf hwf hq0
        have hcomm := sto_comm (σ := σ) (k0 := k0) (o := oi.dst) (d := di) (nb := nbi) (B := .box cs') hdstk
        refine ih (listed.setIfInBounds i true) _ hwf' (closed_set hcl hi) ((hopk x (by simp)).trans hs) ?_ ?_ (ready_mono hr (Ne.symm hij)) ?_
        · intro p hp
          cases hd : oi.dst with
          | none => rw [hd] at hp; exact ha p hp
          | some t =>
            cases hn : nbi with
            | none => rw [hd, hn] at hp; exact ha p hp
            | some z =>
              rw [hd, hn] at hp
              have hp : p ∈ ins t z σ.bx := hp
              rcases ins_mem hp with rfl | hp
              · exact hm2 z hn
              · exact ha p hp
        · intro m om hm hmj hunm' hnbm
          by_cases him : m = i
          · subst him
            rw [hoi] at hm; cases hm
            refine ⟨F.comm, F.apart, F.guard, F.dst, fun x' hx' => ?_⟩
            by_cases e : ∃ t, oi.dst = some t ∧ x' = .tmp t
            · obtain ⟨t, ht, rfl⟩ := e
              rw [ht]
              have : (applyE σ (some t) di nbi).op (.tmp t) = di := by
                cases nbi <;> simp only [applyE, St.op, St.put, St.putB, get_ins, if_true, Option.getD_some]
              rw [this]; exact hm1
            · rw [applyE_op (fun t ht hxt => e ⟨t, ht, hxt⟩)]
              exact F.men x' hx'
          · have G := hfree m om hm hmj (hunm m him hunm') hnbm
            refine ⟨G.comm, G.apart, G.guard, G.dst, fun x' hx' => ?_⟩
            by_cases e : ∃ t, oi.dst = some t ∧ x' = .tmp t
            · obtain ⟨t, ht, rfl⟩ := e
              rw [ht]
              have : (applyE σ (some t) di nbi).op (.tmp t) = di := by
                cases nbi <;> simp only [applyE, St.op, St.put, St.putB, get_ins, if_true, Option.getD_some]
              rw [this]; exact hm1
            · rw [applyE_op (fun t ht hxt => e ⟨t, ht, hxt⟩)]
              exact G.men x' hx'
        · unfold StepD
          rw [hwj]
          refine ⟨_, hagain _ hrow0 ((hopk x (by simp)).trans hs) (hopk y (by simp)), ?_, ?_⟩
          · rw [hcomm]; exact .inr (WF.applyE hwf1 hdi1)
          · rw [hcomm, Array.setIfInBounds_comm _ _ hij]
            exact hK2
      · have hxi : ∀ z ∈ [xi, yi], z ∈ oi.op.operands.toList := by
          intro z hz
          rw [hoS.op]
          simpa [Op.operands] using hz
        have hi2 := hi1
        unfold StepD at hi2
        rw [hwi] at hi2
        obtain ⟨σ2, hop2, hwf2, hK2⟩ := hi2
        obtain ⟨k, B, hne, hsome, hBm, hopi, rfl⟩ := sto_other hoS ha hcs (F.men xi (hxi xi (by simp))) (F.men yi (hxi yi (by simp))) hop2
        have hncomi : commO ops.toArray oi = false := by
          unfold commO quietO
          rw [hoS.op]
          rfl
        have hwf2 : WF ((σ.putB k0 (.box cs')).putB k B) := by
          rcases hwf2 with h | h
          · rw [hncomi] at h; cases h
          · exact h
        have hwfi : WF (σ.putB k B) := wf_sto hwf hsome (by rw [hcs]; rfl) hwf2
        unfold StepD
        rw [hwi]
        refine ⟨_, hopi, .inr hwfi, ?_⟩
        have hop : ∀ z, (σ.putB k B).op z = σ.op z := fun z => by cases z <;> rfl
        have hrow0 : get k0 (σ.putB k B).bx = some (.box cs) := by show get k0 (ins _ _ _) = _; rw [get_ins, if_neg (Ne.symm hne)]; exact hcs
        have hcomm : (σ.putB k B).putB k0 (.box cs') = (σ.putB k0 (.box cs')).putB k B := by
          simp only [St.putB, St.mk.injEq, true_and]
          exact ins_comm k0 k _ _ (Ne.symm hne) _
        refine ih (listed.setIfInBounds i true) _ hwfi (closed_set hcl hi) ((hop x).trans hs) ?_ ?_ (ready_mono hr (Ne.symm hij)) ?_
        · intro p hp
          rcases ins_mem hp with rfl | hp
          · exact hBm
          · exact ha p hp
        · intro m om hm hmj hunm' hnbm
          have G : FreeS ops oj om k0 σ := by
            by_cases him : m = i
            · subst him; rw [hoi] at hm; cases hm; exact F
            · exact hfree m om hm hmj (hunm m him hunm') hnbm
          exact ⟨G.comm, G.apart, G.guard, G.dst, fun x' hx' => by rw [hop]; exact G.men x' hx'⟩
        · unfold StepD
          rw [hwj]
          refine ⟨_, hagain _ hrow0 ((hop x).trans hs) (hop y), ?_, ?_⟩
          · rw [hcomm]; exact .inr hwf2
          · rw [hcomm, Array.setIfInBounds_comm _ _ hij]
            exact hK2
end
end Go.Dw
end
