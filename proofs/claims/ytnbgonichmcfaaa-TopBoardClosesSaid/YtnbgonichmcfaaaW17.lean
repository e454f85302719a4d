/- Helpers of a proof. -/
import Derived.Test.YtnbgonichmcfaaaW16
set_option linter.unusedVariables false
set_option linter.unusedSimpArgs false
section
namespace Go.Dw
open Go.RowKit
variable {P : Program} {N O0 : Nat → Prop} {w0 : World} {σ σ' : St} {a : Act} {w : World}
def QOp [Lays] (P : Program) (o : Oper) (σ : St) (d : D) (nb : Option Blk) : Prop :=
  (∀ t, o.dst = some t → t < σ.nt) ∧
  match o.op with
  | .call c => match c.callee with
    | .value f => ∃ g fs caps as bo, calleeD (σ.op f) = some (g, fs, caps) ∧ Clo σ none (fs ++ c.args.toList.map σ.op ++ caps) as ∧ DCall P g as [] d bo ∧ ((bo = [] ∧ nb = none) ∨ ∃ k x, o.dst = some k ∧ bo = [(k, x)] ∧ x.unpin = true ∧ nb = some x)
    | .builtin _ => evP P σ o.op = some d ∧ nb = none
    | _ => False
  | .alloc _ | .box _ _ | .buildSlice _ _ _ | .makeSlice _ _ _ | .makeMap _ _ => ∃ k x, o.dst = some k ∧ evA P σ k o.op = some (d, x) ∧ x.men k = false ∧ nb = some x
  | _ => evP P σ o.op = some d ∧ nb = none
def applyE (σ : St) (dst : Option Tmp) (d : D) (nb : Option Blk) : St :=
  match dst with
  | some k => match nb with
    | some x => (σ.putB k x).put k d
    | none => σ.put k d
  | none => σ
theorem quiet_split [Lays] {o : Oper} (h : OpTo P true o σ σ') (hq : quietO o = true) : ∃ d nb, QOp P o σ d nb ∧ σ' = applyE σ o.dst d nb ∧ (nb ≠ none → ∀ k, o.dst = some k → get k σ.bx = none) := by
  simp only [quietO, Bool.and_eq_true] at hq
  obtain ⟨hqk, hds⟩ := hq
  obtain ⟨k0, hk0⟩ := Option.isSome_iff_exists.1 hds
  obtain ⟨hdst, h⟩ := h
  unfold QOp
  split at h
  · rename_i hop; rw [hop] at hqk; cases hqk
  · rename_i c hop
    rw [hop] at hqk
    split at h
    · rename_i f hcal
      rcases h with h | ⟨h, _⟩
      case inr => cases h
      obtain ⟨σ0, h0, g, fs, caps, mv, as, r, bo, h1, h2, h3, h4, h5, h6⟩ := h
      obtain rfl : σ0 = σ := h0.elim id (fun h => by cases h.1)
      obtain ⟨rfl, hb⟩ := h5 rfl
      rcases hb with rfl | ⟨k, x, hk, rfl, hu⟩
      · refine ⟨r, none, ⟨hdst, ?_⟩, ?_, by simp⟩
        · rw [hop]; dsimp only; rw [hcal]
          exact ⟨g, fs, caps, as, [], h1, h2, h3, .inl ⟨rfl, rfl⟩⟩
        · rw [h6, hk0]; rfl
      · refine ⟨r, some x, ⟨hdst, ?_⟩, ?_, ?_⟩
        · rw [hop]; dsimp only; rw [hcal]
          exact ⟨g, fs, caps, as, [(k, x)], h1, h2, h3, .inr ⟨k, x, hk, rfl, hu, rfl⟩⟩
        · rw [h6, hk]; rfl
        · intro _ j hj
          rw [hk] at hj; cases hj
          exact h4.2.1
    · rename_i hcal
      obtain ⟨callee, args, tys⟩ := c
      dsimp only at hcal
      subst hcal
      cases hqk
    · rename_i hcal
      obtain ⟨callee, args, tys⟩ := c
      dsimp only at hcal
      subst hcal
      cases hqk
    · rename_i hcal
      obtain ⟨callee, args, tys⟩ := c
      dsimp only at hcal
      subst hcal
      cases hqk
    · rename_i b hne hne2 hne3 hcal
      obtain ⟨d, hd, he⟩ := h
      refine ⟨d, none, ⟨hdst, ?_⟩, by rw [he, hk0]; rfl, by simp⟩
      rw [hop] at hd ⊢
      dsimp only
      rw [hcal]
      exact ⟨hd, rfl⟩
    · cases h
  · rename_i hop; rw [hop] at hqk; cases hqk
  · rename_i hop; rw [hop] at hqk; cases hqk
  · rename_i hop
    obtain ⟨k, d, x, h1, h2, h3, h4, h5, h6⟩ := h
    refine ⟨d, some x, ⟨hdst, ?_⟩, by rw [h6, h1]; rfl, fun _ j hj => by rw [h1] at hj; cases hj; exact h3⟩
    rw [hop] at h2 ⊢
    exact ⟨k, x, h1, h2, h5, rfl⟩
  · rename_i hop
    obtain ⟨k, d, x, h1, h2, h3, h4, h5, h6⟩ := h
    refine ⟨d, some x, ⟨hdst, ?_⟩, by rw [h6, h1]; rfl, fun _ j hj => by rw [h1] at hj; cases hj; exact h3⟩
    rw [hop] at h2 ⊢
    exact ⟨k, x, h1, h2, h5, rfl⟩
  · rename_i hop
    obtain ⟨k, d, x, h1, h2, h3, h4, h5, h6⟩ := h
    refine ⟨d, some x, ⟨hdst, ?_⟩, by rw [h6, h1]; rfl, fun _ j hj => by rw [h1] at hj; cases hj; exact h3⟩
    rw [hop] at h2 ⊢
    exact ⟨k, x, h1, h2, h5, rfl⟩
  · rename_i hop
    obtain ⟨k, d, x, h1, h2, h3, h4, h5, h6⟩ := h
    refine ⟨d, some x, ⟨hdst, ?_⟩, by rw [h6, h1]; rfl, fun _ j hj => by rw [h1] at hj; cases hj; exact h3⟩
    rw [hop] at h2 ⊢
    exact ⟨k, x, h1, h2, h5, rfl⟩
  · rename_i hop
    obtain ⟨k, d, x, h1, h2, h3, h4, h5, h6⟩ := h
    refine ⟨d, some x, ⟨hdst, ?_⟩, by rw [h6, h1]; rfl, fun _ j hj => by rw [h1] at hj; cases hj; exact h3⟩
    rw [hop] at h2 ⊢
    exact ⟨k, x, h1, h2, h5, rfl⟩
  · rename_i x1 x2 x3 x4 x5 x6 x7 x8 x9
    obtain ⟨d, hd, he⟩ := h
    refine ⟨d, none, ⟨hdst, ?_⟩, by rw [he, hk0]; rfl, by simp⟩
    split
    · rename_i c hop; exact absurd hop (x2 c)
    · rename_i t hop; exact absurd hop (x5 t)
    · rename_i t y hop; exact absurd hop (x6 t y)
    · rename_i t l p hop; exact absurd hop (x7 t l p)
    · rename_i t l p hop; exact absurd hop (x8 t l p)
    · rename_i t r hop; exact absurd hop (x9 t r)
    · exact ⟨hd, rfl⟩
theorem quiet_join [Lays] {o : Oper} {d : D} {nb : Option Blk} (h : QOp P o σ d nb) (hq : quietO o = true) (hf : nb ≠ none → ∀ k, o.dst = some k → get k σ.bx = none ∧ σ.men k = false) : OpTo P true o σ (applyE σ o.dst d nb) := by
  simp only [quietO, Bool.and_eq_true] at hq
  obtain ⟨hqk, hds⟩ := hq
  obtain ⟨k0, hk0⟩ := Option.isSome_iff_exists.1 hds
  obtain ⟨hdst, h⟩ := h
  refine ⟨hdst, ?_⟩
  split at h
  · rename_i c hop
    rw [hop]
    dsimp only
    split at h
    · rename_i f hcal
      rw [hcal]
      obtain ⟨g, fs, caps, as, bo, h1, h2, h3, ⟨rfl, rfl⟩ | ⟨k, x, hk, rfl, hu, rfl⟩⟩ := h
      · exact .inl ⟨_, .inl rfl, g, fs, caps, none, as, d, [], h1, h2, h3, trivial, fun _ => ⟨rfl, .inl rfl⟩, by rw [hk0]; rfl⟩
      · obtain ⟨h4, h5⟩ := hf (by simp) k hk
        exact .inl ⟨_, .inl rfl, g, fs, caps, none, as, d, [(k, x)], h1, h2, h3, ⟨trivial, h4, h5, rfl⟩, fun _ => ⟨rfl, .inr ⟨k, x, hk, rfl, hu⟩⟩, by rw [hk]; rfl⟩
    · rename_i b hcal
      obtain ⟨hd, rfl⟩ := h
      rw [hcal]
      rw [hop] at hqk
      have hna : b ≠ .append := by
        rintro rfl
        obtain ⟨callee, args, tys⟩ := c
        dsimp only at hcal
        subst hcal
        cases hqk
      have hnc : b ≠ .clear := by
        rintro rfl
        obtain ⟨callee, args, tys⟩ := c
        dsimp only at hcal
        subst hcal
        cases hqk
      have hny : b ≠ .copy := by
        rintro rfl
        obtain ⟨callee, args, tys⟩ := c
        dsimp only at hcal
        subst hcal
        cases hqk
      have : ∃ d', evP P σ o.op = some d' ∧ applyE σ o.dst d none = σ.putO o.dst d' := ⟨d, hd, by rw [hk0]; rfl⟩
      rw [hop] at this
      cases b <;> first | exact absurd rfl hna | exact absurd rfl hnc | exact absurd rfl hny | exact this
    · cases h
  · rename_i hop
    rw [hop] at h ⊢
    obtain ⟨k, x, h1, h2, h3, rfl⟩ := h
    obtain ⟨h4, h5⟩ := hf (by simp) k h1
    exact ⟨k, d, x, h1, h2, h4, h5, h3, by rw [h1]; rfl⟩
  · rename_i hop
    rw [hop] at h ⊢
    obtain ⟨k, x, h1, h2, h3, rfl⟩ := h
    obtain ⟨h4, h5⟩ := hf (by simp) k h1
    exact ⟨k, d, x, h1, h2, h4, h5, h3, by rw [h1]; rfl⟩
  · rename_i hop
    rw [hop] at h ⊢
    obtain ⟨k, x, h1, h2, h3, rfl⟩ := h
    obtain ⟨h4, h5⟩ := hf (by simp) k h1
    exact ⟨k, d, x, h1, h2, h4, h5, h3, by rw [h1]; rfl⟩
  · rename_i hop
    rw [hop] at h ⊢
    obtain ⟨k, x, h1, h2, h3, rfl⟩ := h
    obtain ⟨h4, h5⟩ := hf (by simp) k h1
    exact ⟨k, d, x, h1, h2, h4, h5, h3, by rw [h1]; rfl⟩
  · rename_i hop
    rw [hop] at h ⊢
    obtain ⟨k, x, h1, h2, h3, rfl⟩ := h
    obtain ⟨h4, h5⟩ := hf (by simp) k h1
    exact ⟨k, d, x, h1, h2, h4, h5, h3, by rw [h1]; rfl⟩
  · rename_i x1 x2 x3 x4 x5 x6
    obtain ⟨hd, rfl⟩ := h
    have he : applyE σ o.dst d none = σ.putO o.dst d := by rw [hk0]; rfl
    rw [he]
    split
    · rename_i t x y hop; rw [hop] at hqk; cases hqk
    · rename_i c hop; exact absurd hop (x1 c)
    · rename_i t m k v hop; rw [hop] at hqk; cases hqk
    · rename_i t m k v hop; rw [hop] at hqk; cases hqk
    · rename_i t hop; exact absurd hop (x2 t)
    · rename_i t y hop; exact absurd hop (x3 t y)
    · rename_i t l p hop; exact absurd hop (x4 t l p)
    · rename_i t l p hop; exact absurd hop (x5 t l p)
    · rename_i t r hop; exact absurd hop (x6 t r)
    · exact ⟨d, hd, rfl⟩
theorem QOp_congr [Lays] {o : Oper} {σ2 : St} {d : D} {nb : Option Blk} (hnt : σ2.nt = σ.nt) (hp : PinS σ σ2) (ho : ∀ x ∈ o.op.operands.toList, σ2.op x = σ.op x) (hb : ∀ x ∈ o.op.operands.toList, Same σ σ2 (σ.op x)) (h : QOp P o σ d nb) : QOp P o σ2 d nb := by
  obtain ⟨hdst, h⟩ := h
  refine ⟨fun t ht => by rw [hnt]; exact hdst t ht, ?_⟩
  split at h
  · rename_i c hop
    split at h
    · rename_i f hcal
      obtain ⟨g, fs, caps, as, bo, h1, h2, h3⟩ := h
      have hf : f ∈ o.op.operands.toList := by rw [hop]; simp [Op.operands, Call.operands, hcal]
      have hargs : ∀ x ∈ c.args.toList, x ∈ o.op.operands.toList := fun x hx => by rw [hop]; exact mem_operands_call c hx
      refine ⟨g, fs, caps, as, bo, by rw [ho f hf]; exact h1, ?_, h3⟩
      rw [List.map_congr_left (fun x hx => ho x (hargs x hx))]
      · refine Clo_congr hp ?_ h2
        intro k hk
        rw [mens_append, mens_append, Bool.or_eq_true, Bool.or_eq_true] at hk
        have hcl : ∀ k, (D.mens k fs = true ∨ D.mens k caps = true) → (σ.op f).men k = true := by
          intro k hk
          unfold calleeD at h1
          split at h1
          · cases h1
            rcases hk with hk | hk <;> rw [mens_mapc] at hk <;> cases hk
          · rename_i g' fs' caps' hf'
            cases h1
            rw [hf']
            simp only [D.men, Bool.or_eq_true]
            exact hk
          · cases h1
        rcases hk with (hk | hk) | hk
        · exact hb f hf k (hcl k (.inl hk))
        · have : ∀ l : List Operand, (∀ x ∈ l, x ∈ o.op.operands.toList) → D.mens k (l.map σ.op) = true → SameK σ σ2 k := by
            intro l
            induction l with
            | nil => intro _ h; cases h
            | cons x l ih =>
              intro hl hm
              simp only [List.map_cons, D.mens, Bool.or_eq_true] at hm
              rcases hm with hm | hm
              · exact hb x (hl x (by simp)) k hm
              · exact ih (fun y hy => hl y (by simp [hy])) hm
          exact this _ hargs hk
        · exact hb f hf k (hcl k (.inr hk))
    · exact ⟨by rw [evP_congr hp ho hb]; exact h.1, h.2⟩
    · cases h
  · rename_i hop
    obtain ⟨k, x, h1, h2, h3, h4⟩ := h
    exact ⟨k, x, h1, by rw [← h2]; exact evA_congr k ho, h3, h4⟩
  · rename_i hop
    obtain ⟨k, x, h1, h2, h3, h4⟩ := h
    exact ⟨k, x, h1, by rw [← h2]; exact evA_congr k ho, h3, h4⟩
  · rename_i hop
    obtain ⟨k, x, h1, h2, h3, h4⟩ := h
    exact ⟨k, x, h1, by rw [← h2]; exact evA_congr k ho, h3, h4⟩
  · rename_i hop
    obtain ⟨k, x, h1, h2, h3, h4⟩ := h
    exact ⟨k, x, h1, by rw [← h2]; exact evA_congr k ho, h3, h4⟩
  · rename_i hop
    obtain ⟨k, x, h1, h2, h3, h4⟩ := h
    exact ⟨k, x, h1, by rw [← h2]; exact evA_congr k ho, h3, h4⟩
  · exact ⟨by rw [evP_congr hp ho hb]; exact h.1, h.2⟩
theorem QOp_men [Lays] {o : Oper} {d : D} {nb : Option Blk} {k : Nat} (h : QOp P o σ d nb) (hk : o.dst ≠ some k) (hm : σ.men k = false) : d.men k = false ∧ ∀ x, nb = some x → x.men k = false := by
  obtain ⟨hdst, h⟩ := h
  have al : ∀ {op : Op}, (∃ j x, o.dst = some j ∧ evA P σ j op = some (d, x) ∧ x.men j = false ∧ nb = some x) → d.men k = false ∧ ∀ x, nb = some x → x.men k = false := by
    rintro op ⟨j, x, h1, h2, h3, rfl⟩
    have := evA_men (k := k) hm (fun e => hk (by rw [h1, e])) h2
    exact ⟨this.1, fun y hy => by cases hy; exact this.2⟩
  split at h
  · split at h
    · obtain ⟨g, fs, caps, as, bo, h1, h2, ⟨hbd, hok, _⟩, ⟨rfl, rfl⟩ | ⟨j, x, hj, rfl, _, rfl⟩⟩ := h
      · exact ⟨hok.1 k rfl, by simp⟩
      · have hg : get k [(j, x)] = none := by
          simp only [get]
          rw [if_neg (fun e => hk (by rw [hj, e]))]
        refine ⟨hok.1 k hg, fun y hy => ?_⟩
        cases hy
        exact hok.2 j x (by simp [get]) k hg
    · exact ⟨evP_men hm h.1, by simp [h.2]⟩
    · cases h
  · exact al h
  · exact al h
  · exact al h
  · exact al h
  · exact al h
  · exact ⟨evP_men hm h.1, by simp [h.2]⟩
theorem QOp_unpin [Lays] {o : Oper} {d : D} {nb : Option Blk} (h : QOp P o σ d nb) : ∀ x, nb = some x → x.unpin = true := by
  obtain ⟨_, h⟩ := h
  have al : ∀ {op : Op}, (∃ j x, o.dst = some j ∧ evA P σ j op = some (d, x) ∧ x.men j = false ∧ nb = some x) → ∀ x, nb = some x → x.unpin = true := by
    rintro op ⟨j, x, h1, h2, h3, rfl⟩ y hy
    cases hy
    unfold evA at h2
    split at h2 <;> first | (cases h2; done) | skip
    all_goals (repeat' (split at h2))
    all_goals first | (cases h2; done) | (cases h2; rfl)
  split at h
  · split at h
    · obtain ⟨g, fs, caps, as, bo, h1, h2, _, ⟨rfl, rfl⟩ | ⟨j, x, hj, rfl, hu, rfl⟩⟩ := h
      · intro x hx; cases hx
      · intro y hy; cases hy; exact hu
    · intro x hx; rw [h.2] at hx; cases hx
    · cases h
  · exact al h
  · exact al h
  · exact al h
  · exact al h
  · exact al h
  · intro x hx; rw [h.2] at hx; cases hx
theorem men_put {k t : Nat} {d : D} (h : σ.men k = false) (hd : d.men k = false) : (σ.put t d).men k = false := by
  simp only [St.men, St.put, Bool.or_eq_false_iff, List.any_eq_false] at h ⊢
  refine ⟨?_, h.2⟩
  have : ∀ l : List (Nat × D), (∀ p ∈ l, ¬ p.2.men k = true) → ∀ p ∈ ins t d l, ¬ p.2.men k = true := by
    intro l
    induction l with
    | nil => intro _ p hp; simp [ins] at hp; subst hp; simpa using hd
    | cons q l ih =>
      intro hl p hp
      simp only [ins] at hp
      split at hp
      · rcases List.mem_cons.1 hp with rfl | hp
        · simpa using hd
        · exact hl p hp
      · split at hp
        · rcases List.mem_cons.1 hp with rfl | hp
          · simpa using hd
          · exact hl p (by simp [hp])
        · rcases List.mem_cons.1 hp with rfl | hp
          · exact hl _ (by simp)
          · exact ih (fun x hx => hl x (by simp [hx])) p hp
  exact this _ h.1
theorem men_putB {k j : Nat} {x : Blk} (h : σ.men k = false) (hx : x.men k = false) : (σ.putB j x).men k = false := by
  simp only [St.men, St.putB, Bool.or_eq_false_iff, List.any_eq_false] at h ⊢
  refine ⟨h.1, ?_⟩
  have : ∀ l : List (Nat × Blk), (∀ p ∈ l, ¬ p.2.men k = true) → ∀ p ∈ ins j x l, ¬ p.2.men k = true := by
    intro l
    induction l with
    | nil => intro _ p hp; simp [ins] at hp; subst hp; simpa using hx
    | cons q l ih =>
      intro hl p hp
      simp only [ins] at hp
      split at hp
      · rcases List.mem_cons.1 hp with rfl | hp
        · simpa using hx
        · exact hl p hp
      · split at hp
        · rcases List.mem_cons.1 hp with rfl | hp
          · simpa using hx
          · exact hl p (by simp [hp])
        · rcases List.mem_cons.1 hp with rfl | hp
          · exact hl _ (by simp)
          · exact ih (fun x hx => hl x (by simp [hx])) p hp
  exact this _ h.2
theorem get_applyE [Lays] {dst : Option Tmp} {d : D} {nb : Option Blk} (k : Nat) : get k (applyE σ dst d nb).bx = (match dst, nb with | some j, some x => if k = j then some x else get k σ.bx | _, _ => get k σ.bx) := by
  cases dst with
  | none => rfl
  | some j =>
    cases nb with
    | none => rfl
    | some x => simp only [applyE, St.put, St.putB, get_ins]
theorem applyE_nt {dst : Option Tmp} {d : D} {nb : Option Blk} : (applyE σ dst d nb).nt = σ.nt := by
  cases dst with
  | none => rfl
  | some j => cases nb <;> rfl
theorem applyE_op [Lays] {dst : Option Tmp} {d : D} {nb : Option Blk} {x : Operand} (h : ∀ t, dst = some t → x ≠ .tmp t) : (applyE σ dst d nb).op x = σ.op x := by
  cases dst with
  | none => rfl
  | some j =>
    have hx := h j rfl
    cases x with
    | tmp t =>
      have hne : t ≠ j := fun e => hx (by rw [e])
      cases nb <;> simp only [applyE, St.op, St.put, St.putB, get_ins, if_neg hne]
    | _ => cases nb <;> rfl
theorem applyE_get [Lays] {dst : Option Tmp} {d : D} {nb : Option Blk} {t : Nat} (h : dst ≠ some t) : get t (applyE σ dst d nb).tm = get t σ.tm := by
  cases dst with
  | none => rfl
  | some j =>
    have hne : t ≠ j := fun e => h (by rw [e])
    cases nb <;> simp only [applyE, St.put, St.putB, get_ins, if_neg hne]
theorem WF.applyE [Lays] {o : Oper} {d : D} {nb : Option Blk} (hw : WF σ) (h : QOp P o σ d nb) : WF (applyE σ o.dst d nb) := by
  intro k hk
  rw [get_applyE] at hk
  by_cases e : o.dst = some k
  ·
    cases hnb : nb with
    | some x => rw [e, hnb] at hk; simp at hk
    | none =>
      rw [hnb] at hk
      have hk' : get k σ.bx = none := by rw [e] at hk; exact hk
      have hm := hw k hk'
      have hdm : d.men k = false := by
        subst hnb
        obtain ⟨_, h⟩ := h
        split at h
        · split at h
          · obtain ⟨g, fs, caps, as, bo, h1, h2, ⟨hbd, hok, _⟩, ⟨rfl, _⟩ | ⟨j, x, hj, rfl, _, hq⟩⟩ := h
            · exact hok.1 k rfl
            · cases hq
          · exact evP_men hm h.1
          · cases h
        · obtain ⟨_, _, _, _, _, hq⟩ := h; cases hq
        · obtain ⟨_, _, _, _, _, hq⟩ := h; cases hq
        · obtain ⟨_, _, _, _, _, hq⟩ := h; cases hq
        · obtain ⟨_, _, _, _, _, hq⟩ := h; cases hq
        · obtain ⟨_, _, _, _, _, hq⟩ := h; cases hq
        · exact evP_men hm h.1
      rw [e]
      exact men_put hm hdm
  · have hk' : get k σ.bx = none := by
      cases hd : o.dst with
      | none => rw [hd] at hk; exact hk
      | some j =>
        rw [hd] at hk
        cases nb with
        | none => exact hk
        | some x =>
          dsimp only at hk
          split at hk
          · cases hk
          · exact hk
    have hm := hw k hk'
    obtain ⟨h1, h2⟩ := QOp_men h e hm
    cases hd : o.dst with
    | none => exact hm
    | some j =>
      cases hnb : nb with
      | none => exact men_put hm h1
      | some x => exact men_put (men_putB hm (h2 x hnb)) h1
end Go.Dw
end
