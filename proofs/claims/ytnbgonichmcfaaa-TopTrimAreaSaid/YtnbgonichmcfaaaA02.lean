/- Helpers of a proof. -/
import Derived.Test.YtnbgonichmcfaaaA01
set_option linter.unusedVariables false
set_option linter.unusedSimpArgs false
section
set_option linter.unusedSimpArgs false
set_option maxRecDepth 100000
namespace Go.Dw.Seat.Tr
open Go Go.Dw Go.IntWalk
structure WsOk (p : TPap) (l : List TOrd) (ws : List Int) : Prop where
 len : ws.length = l.length
 nn : ∀ n ∈ ws, 0 ≤ n
 pat : patB p l ws = true
structure PatsOk (p : TPap) (l : List TOrd) (T : List (List Int)) : Prop where
 asc : T.Pairwise fun a b => lexW a b = true
 ok : ∀ ws ∈ T, WsOk p l ws
theorem patB_b {p : TPap} {l : List TOrd} {ws : List Int} (h : patB p l ws = true) : (1 ≤ sumI ws ∧ sumI ws ≤ p.webs) ∧ usedI ws ≤ 2 ∧ p.tl ≤ trimI p l ws ∧ trimI p l ws ≤ p.th := by
 simpa [patB, and_assoc] using h
theorem trim_nn {p : TPap} (hp : p.ok) {l : List TOrd} {ws : List Int} (h : WsOk p l ws) : 0 ≤ trimI p l ws := by
 have := (patB_b h.pat).2.2
 have := hp.trim
 omega
theorem waste_nn {p : TPap} (hp : p.ok) {l : List TOrd} : ∀ {q : List TStp}, (∀ s ∈ q, WsOk p l s.ws ∧ 1 ≤ s.run) → 0 ≤ wasteF p l q
 | [], _ => Int.le_refl _
 | s :: q, h => by
  have h1 := waste_nn hp (q := q) (fun x hx => h x (by simp [hx]))
  obtain ⟨h2, h3⟩ := h s (by simp)
  have := Int.mul_nonneg (trim_nn hp h2) (show 0 ≤ s.run by omega)
  rw [wasteF]; omega
theorem leH_add : ∀ (l : List TOrd) (got ws : List Int) (r : Int), (∀ n ∈ ws, 0 ≤ n) → 0 ≤ r → leH l (addG got ws r) = true → leH l got = true
 | [], _, _, _, _, _, _ => by simp [leH]
 | _ :: _, [], _, _, _, _, _ => by simp [leH]
 | o :: l, g :: got, [], r, _, _, h => by rwa [addG] at h; all_goals simp
 | o :: l, g :: got, n :: ws, r, hn, hr, h => by
  rw [addG_cons] at h
  simp only [leH, Bool.and_eq_true, decide_eq_true_eq] at h ⊢
  have := Int.mul_nonneg (hn n (by simp)) hr
  exact ⟨by omega, leH_add l got ws r (fun m hm => hn m (by simp [hm])) hr h.2⟩
theorem leH_back {l : List TOrd} : ∀ {q : List TStp} {got : List Int}, (∀ s ∈ q, (∀ n ∈ s.ws, 0 ≤ n) ∧ 1 ≤ s.run) → leH l (gotF got q) = true → leH l got = true
 | [], _, _, h => h
 | s :: q, got, hq, h => by
  have h1 := leH_back (q := q) (got := addG got s.ws s.run) (fun x hx => hq x (by simp [hx])) h
  exact leH_add l got s.ws s.run (hq s (by simp)).1 (by have := (hq s (by simp)).2; omega) h1
theorem does_leH : ∀ {l : List TOrd} {got : List Int}, doesB l got = true → leH l got = true
 | [], _, _ => by simp [leH]
 | _ :: _, [], _ => by simp [leH]
 | o :: l, g :: got, h => by
  simp only [doesB, Bool.and_eq_true, decide_eq_true_eq] at h
  simp only [leH, Bool.and_eq_true, decide_eq_true_eq]
  exact ⟨h.1.2, does_leH h.2⟩
theorem gotF_len : ∀ (q : List TStp) (got : List Int), (gotF got q).length = got.length
 | [], _ => rfl
 | s :: q, got => by rw [gotF, gotF_len q, addG_len]
theorem room_lo : ∀ (l : List TOrd) (got ws : List Int) (lo hi : Int), 1 ≤ lo → 1 ≤ (roomF true l got ws lo hi).1
 | [], _, _, _, _, h => by simpa [roomF] using h
 | _ :: _, [], _, _, _, h => by simpa [roomF] using h
 | _ :: _, _ :: _, [], _, _, h => by simpa [roomF] using h
 | o :: l, g :: got, n :: ws, lo, hi, h => by
  simp only [roomF, Bool.true_and, if_true, decide_eq_true_eq]
  split
  ·exact room_lo l got ws _ _ (by unfold max2; split <;> omega)
  ·split
   ·exact Int.le_refl _
   ·exact room_lo l got ws _ _ h
theorem ext_head {T : List (List Int)} : ∀ {m : Nat} {q : List TStp}, Ext T (m + 1) q → ∃ ws r q', q = ⟨ws, r⟩ :: q' ∧ ws ∈ T := by
 induction T with
 | nil => intro m q h; cases h.1
 | cons ws T ih =>
  intro m q h
  rcases h with ⟨r, q', rfl, _, _⟩ | h
  ·exact ⟨ws, r, q', rfl, by simp⟩
  ·obtain ⟨ws', r, q', h1, h2⟩ := ih h
   exact ⟨ws', r, q', h1, by simp [h2]⟩
section
variable {p : TPap} {l : List TOrd}
theorem got_snoc (plan : List TStp) (ws : List Int) (r : Int) (got : List Int) : addG (gotF got plan) ws r = gotF got (plan ++ [⟨ws, r⟩]) := by rw [gotF_app]; rfl
theorem waste_snoc (plan : List TStp) (ws : List Int) (r : Int) : wasteF p l plan + trimI p l ws * r = wasteF p l (plan ++ [⟨ws, r⟩]) := by rw [wasteF_app]; simp [wasteF]
theorem runs_good {rec : List TStp → Int → List Int → Srch → Srch} {T : List (List Int)} {m : Nat}
  (hrec : ∀ plan S A, leH l (gotF (zeros l.length) plan) = true → Good p l S A → (∀ a q, A a → Ext T m q → ltP a (plan ++ q) = true) → Good p l (rec plan (wasteF p l plan) (gotF (zeros l.length) plan) S) (fun q => A q ∨ ∃ e, Ext T m e ∧ q = plan ++ e))
  (ws : List Int) (plan : List TStp) : ∀ (k : Nat) (r : Int) (S : Srch) (A : List TStp → Prop), (∀ r', r ≤ r' → r' < r + k → leH l (gotF (zeros l.length) (plan ++ [⟨ws, r'⟩])) = true) → Good p l S A →
   (∀ a r' e, A a → r ≤ r' → r' < r + k → Ext T m e → ltP a (plan ++ ⟨ws, r'⟩ :: e) = true) →
   Good p l (runF rec p l ws plan (wasteF p l plan) (gotF (zeros l.length) plan) k r S) (fun q => A q ∨ ∃ r' e, (r ≤ r' ∧ r' < r + k) ∧ Ext T m e ∧ q = plan ++ ⟨ws, r'⟩ :: e)
 | 0, r, S, A, _, h, _ => h.iff fun q => by
  constructor
  ·rintro (hq | ⟨r', e, hr, _⟩)
   ·exact hq
   ·omega
  ·exact .inl
 | k + 1, r, S, A, hle, h, hlt => by
  rw [runF, waste_snoc, got_snoc]
  have h1 := hrec (plan ++ [⟨ws, r⟩]) S A (hle r (Int.le_refl _) (by omega)) h (fun a q ha hq => by
   rw [List.append_assoc]
   exact hlt a r q ha (Int.le_refl _) (by omega) hq)
  have h2 := runs_good hrec ws plan k (r + 1) _ _ (fun r' h1 h2 => hle r' (by omega) (by omega)) h1 (fun a r' e ha hr1 hr2 he => by
   rcases ha with ha | ⟨e0, _, rfl⟩
   ·exact hlt a r' e ha (by omega) (by omega) he
   ·rw [List.append_assoc, ltP_app]
    show ltP (⟨ws, r⟩ :: e0) (⟨ws, r'⟩ :: e) = true
    simp only [ltP, if_true]
    rw [if_neg (by omega)]
    exact decide_eq_true (by omega))
  refine h2.iff fun q => ?_
  constructor
  ·rintro (hq | ⟨r', e, hr, he, rfl⟩)
   ·exact .inl (.inl hq)
   ·by_cases e1 : r' = r
    ·subst e1
     exact .inl (.inr ⟨e, he, by rw [List.append_assoc]; rfl⟩)
    ·exact .inr ⟨r', e, ⟨by omega, by omega⟩, he, rfl⟩
  ·rintro ((hq | ⟨e, he, rfl⟩) | ⟨r', e, hr, he, rfl⟩)
   ·exact .inl hq
   ·exact .inr ⟨r, e, ⟨by omega, by omega⟩, he, by rw [List.append_assoc]; rfl⟩
   ·exact .inr ⟨r', e, ⟨by omega, by omega⟩, he, rfl⟩
theorem ext_ok {T : List (List Int)} (hT : PatsOk p l T) {m : Nat} {q : List TStp} (h : Ext T m q) : ∀ s ∈ q, WsOk p l s.ws ∧ 1 ≤ s.run := fun s hs =>
 ⟨hT.ok _ ((ext_mem h).2 s hs).1, ((ext_mem h).2 s hs).2.1⟩
theorem not_does {plan e : List TStp} (h : leH l (gotF (zeros l.length) plan) ≠ true) (he : ∀ s ∈ e, WsOk p l s.ws ∧ 1 ≤ s.run) : doesP l (plan ++ e) ≠ true := fun hd => by
 unfold doesP at hd
 rw [gotF_app] at hd
 exact h (leH_back (fun s hs => ⟨(he s hs).1.nn, (he s hs).2⟩) (does_leH hd))
theorem loop_good (hp : p.ok) {m : Nat} {rec : List (List Int) → List TStp → Int → List Int → Srch → Srch}
  (hrec : ∀ T, PatsOk p l T → ∀ plan S A, leH l (gotF (zeros l.length) plan) = true → Good p l S A → (∀ a q, A a → Ext T m q → ltP a (plan ++ q) = true) → Good p l (rec T plan (wasteF p l plan) (gotF (zeros l.length) plan) S) (fun q => A q ∨ ∃ e, Ext T m e ∧ q = plan ++ e))
  (plan : List TStp) (hle : leH l (gotF (zeros l.length) plan) = true) : ∀ (T : List (List Int)) (S : Srch) (A : List TStp → Prop), PatsOk p l T → Good p l S A → (∀ a q, A a → Ext T (m + 1) q → ltP a (plan ++ q) = true) →
   Good p l (loopF rec (decide (m = 0)) p l plan (wasteF p l plan) (gotF (zeros l.length) plan) T S) (fun q => A q ∨ ∃ e, Ext T (m + 1) e ∧ q = plan ++ e)
 | [], S, A, _, h, _ => h.iff fun q => by
  constructor
  ·rintro (hq | ⟨e, he, _⟩)
   ·exact hq
   ·cases he.1
  ·exact .inl
 | ws :: T, S, A, hT, h, hlt => by
  obtain ⟨hs1, hs2⟩ := List.pairwise_cons.1 hT.asc
  have hT' : PatsOk p l T := ⟨hs2, fun w hw => hT.ok w (by simp [hw])⟩
  have hws := hT.ok ws (by simp)
  have hgl : (gotF (zeros l.length) plan).length = l.length := by rw [gotF_len]; simp [zeros]
  have hruns : Good p l (runF (rec T) p l ws plan (wasteF p l plan) (gotF (zeros l.length) plan) (cntF (decide (m = 0)) (roomF (decide (m = 0)) l (gotF (zeros l.length) plan) ws 1 30)) (roomF (decide (m = 0)) l (gotF (zeros l.length) plan) ws 1 30).1 S) (fun q => A q ∨ ∃ r' e, (1 ≤ r' ∧ r' ≤ 30) ∧ Ext T m e ∧ q = plan ++ ⟨ws, r'⟩ :: e) := by
   by_cases hm : m = 0
   ·subst hm
    rw [decide_eq_true rfl]
    have hr1 := fun r hr => room_one l (gotF (zeros l.length) plan) ws 1 30 r hgl hws.len hws.nn hle (Int.le_refl _) hr
    have hlo := room_lo l (gotF (zeros l.length) plan) ws 1 30 (Int.le_refl _)
    generalize roomF true l (gotF (zeros l.length) plan) ws 1 30 = R at *
    have hdoes : ∀ r, doesP l (plan ++ [⟨ws, r⟩]) = doesB l (addG (gotF (zeros l.length) plan) ws r) := fun r => by rw [got_snoc]; rfl
    unfold cntF
    rw [if_pos rfl]
    by_cases hR : R.1 ≤ R.2
    ·rw [if_pos hR]
     have hdL := ((hr1 R.1 hlo).1 ⟨Int.le_refl _, hR⟩)
     have h1 := runs_good (hrec T hT') ws plan 1 R.1 S A (fun r' a b => by
      obtain rfl : r' = R.1 := by omega
      rw [← got_snoc]
      exact does_leH hdL.2) h (fun a r' e ha hr1' hr2 he => hlt a _ ha (.inl ⟨r', e, rfl, by
       obtain rfl : r' = R.1 := by omega
       exact hdL.1, he⟩))
     have hL : ∃ r' e, (R.1 ≤ r' ∧ r' < R.1 + ((1 : Nat) : Int)) ∧ Ext T 0 e ∧ plan ++ [(⟨ws, R.1⟩ : TStp)] = plan ++ ⟨ws, r'⟩ :: e := ⟨R.1, [], ⟨Int.le_refl _, by omega⟩, ext_zero.2 rfl, rfl⟩
     have h2 := h1.add (B := fun q => ∃ r' e, (1 ≤ r' ∧ r' ≤ 30) ∧ Ext T 0 e ∧ q = plan ++ ⟨ws, r'⟩ :: e) (fun q hq hd => by
      obtain ⟨r', e, hr', he, rfl⟩ := hq
      obtain rfl := ext_zero.1 he
      rw [hdoes] at hd
      have hrr := (hr1 r' hr'.1).2 ⟨hr', hd⟩
      cases hf : (runF (rec T) p l ws plan (wasteF p l plan) (gotF (zeros l.length) plan) 1 R.1 S).found with
      | false =>
       have := h1.none hf _ (.inr hL)
       rw [hdoes, hdL.2] at this; cases this
      | true =>
       refine ⟨rfl, fun hb => ?_⟩
       obtain ⟨_, _, _, h4⟩ := h1.some hf
       have hbL := h4 _ (.inr hL) (by rw [hdoes]; exact hdL.2)
       by_cases e1 : r' = R.1
       ·rw [e1] at hb; exact hbL hb
       ·refine hbL (bef_trans ?_ hb)
        have ht := trim_nn hp hws
        have hm1 : trimI p l ws * R.1 ≤ trimI p l ws * r' := Int.mul_le_mul_of_nonneg_left hrr.1 ht
        have hlr : ltP (plan ++ [(⟨ws, R.1⟩ : TStp)]) (plan ++ [⟨ws, r'⟩]) = true := by
         rw [ltP_app]
         simp only [ltP, if_true]
         rw [if_neg (by omega)]
         exact decide_eq_true (by omega)
        rcases Int.lt_or_le (trimI p l ws * R.1) (trimI p l ws * r') with hc | hc
        ·exact .inl (by rw [← waste_snoc, ← waste_snoc]; omega)
        ·exact .inr ⟨by rw [← waste_snoc, ← waste_snoc]; omega, hlr⟩)
     refine h2.iff fun q => ?_
     constructor
     ·rintro (hq | hq)
      ·exact .inl (.inl hq)
      ·exact .inr hq
     ·rintro ((hq | ⟨r', e, hr, he, rfl⟩) | hq)
      ·exact .inl hq
      ·obtain rfl : r' = R.1 := by omega
       exact .inr ⟨R.1, e, hdL.1, he, rfl⟩
      ·exact .inr hq
    ·rw [if_neg hR]
     refine h.add fun q hq hd => ?_
     obtain ⟨r', e, hr', he, rfl⟩ := hq
     obtain rfl := ext_zero.1 he
     rw [hdoes] at hd
     have := (hr1 r' hr'.1).2 ⟨hr', hd⟩
     omega
   ·rw [decide_eq_false hm]
    have hr1 := fun r => room_more l (gotF (zeros l.length) plan) ws 1 30 r hgl hws.len hws.nn hle
    generalize roomF false l (gotF (zeros l.length) plan) ws 1 30 = R at *
    have e1 : R.1 = 1 := (hr1 0).1
    unfold cntF
    rw [if_neg (by decide), e1]
    have hcnt : ∀ r', 1 ≤ r' → (r' < 1 + ((R.2 - 1 + 1).toNat : Int) ↔ r' ≤ R.2) := fun r' h => by omega
    have h1 := runs_good (hrec T hT') ws plan (R.2 - 1 + 1).toNat 1 S A (fun r' a b => by
     rw [← got_snoc]
     exact ((hr1 r').2.1 ((hcnt r' a).1 b)).2) h (fun a r' e ha hr1' hr2 he => hlt a _ ha (.inl ⟨r', e, rfl, ⟨hr1', ((hr1 r').2.1 ((hcnt r' hr1').1 hr2)).1⟩, he⟩))
    have h2 := h1.add (B := fun q => ∃ r' e, (1 ≤ r' ∧ r' ≤ 30) ∧ ¬ r' ≤ R.2 ∧ Ext T m e ∧ q = plan ++ ⟨ws, r'⟩ :: e) (fun q hq hd => by
     obtain ⟨r', e, hr', hn, he, rfl⟩ := hq
     exfalso
     have h3 : leH l (gotF (zeros l.length) (plan ++ [⟨ws, r'⟩])) ≠ true := fun h4 => hn ((hr1 r').2.2 ⟨hr'.2, by rw [got_snoc]; exact h4⟩)
     have h5 := not_does (p := p) (e := e) h3 (ext_ok hT' he)
     rw [List.append_assoc] at h5
     exact h5 hd)
    refine h2.iff fun q => ?_
    constructor
    ·rintro (hq | ⟨r', e, hr, he, rfl⟩)
     ·exact .inl (.inl hq)
     ·by_cases hle2 : r' ≤ R.2
      ·exact .inl (.inr ⟨r', e, ⟨hr.1, (hcnt r' hr.1).2 hle2⟩, he, rfl⟩)
      ·exact .inr ⟨r', e, hr, hle2, he, rfl⟩
    ·rintro ((hq | ⟨r', e, hr, he, rfl⟩) | ⟨r', e, hr, _, he, rfl⟩)
     ·exact .inl hq
     ·exact .inr ⟨r', e, ⟨hr.1, ((hr1 r').2.1 ((hcnt r' hr.1).1 hr.2)).1⟩, he, rfl⟩
     ·exact .inr ⟨r', e, hr, he, rfl⟩
  rw [loopF]
  have h3 := loop_good hp hrec plan hle T _ _ hT' hruns (fun a q ha hq => by
   rcases ha with ha | ⟨r', e, _, _, rfl⟩
   ·exact hlt a q ha (.inr hq)
   ·obtain ⟨ws', r2, q', rfl, hmem⟩ := ext_head hq
    have hlx := hs1 ws' hmem
    rw [ltP_app]
    simp only [ltP]
    rw [if_neg (fun e => by rw [e, lexW_irr] at hlx; cases hlx)]
    exact hlx)
  refine h3.iff fun q => ?_
  constructor
  ·rintro (hq | ⟨e, he, rfl⟩)
   ·exact .inl (.inl hq)
   ·rcases he with ⟨r, q', rfl, hr, he⟩ | he
    ·exact .inl (.inr ⟨r, q', hr, he, rfl⟩)
    ·exact .inr ⟨e, he, rfl⟩
  ·rintro ((hq | ⟨r', e, hr, he, rfl⟩) | ⟨e, he, rfl⟩)
   ·exact .inl hq
   ·exact .inr ⟨_, .inl ⟨r', e, rfl, hr, he⟩, rfl⟩
   ·exact .inr ⟨e, .inr he, rfl⟩
theorem try_good (hp : p.ok) : ∀ (m : Nat) (T : List (List Int)), PatsOk p l T → ∀ plan S A, leH l (gotF (zeros l.length) plan) = true → Good p l S A → (∀ a q, A a → Ext T m q → ltP a (plan ++ q) = true) →
  Good p l (tryF p l m T plan (wasteF p l plan) (gotF (zeros l.length) plan) S) (fun q => A q ∨ ∃ e, Ext T m e ∧ q = plan ++ e)
 | 0, T, hT, plan, S, A, hle, h, hlt => by
  rw [tryF]
  refine (leaf_good h (fun a ha => by have := hlt a [] ha (ext_zero.2 rfl); rwa [List.append_nil] at this)).iff fun q => ?_
  constructor
  ·rintro (hq | ⟨e, he, rfl⟩)
   ·exact .inl hq
   ·obtain rfl := ext_zero.1 he
    exact .inr (List.append_nil _)
  ·rintro (hq | rfl)
   ·exact .inl hq
   ·exact .inr ⟨[], ext_zero.2 rfl, (List.append_nil _).symm⟩
 | m + 1, T, hT, plan, S, A, hle, h, hlt => by
  rw [tryF]
  cases hf : S.found && decide (S.waste ≤ wasteF p l plan) with
  | true =>
   rw [if_pos rfl]
   simp only [Bool.and_eq_true, decide_eq_true_eq] at hf
   obtain ⟨h1, h2, h3, h4⟩ := h.some hf.1
   refine h.add fun q hq hd => ⟨hf.1, fun hb => ?_⟩
   obtain ⟨e, he, rfl⟩ := hq
   have hw := waste_nn hp (ext_ok hT he)
   rcases hb with hb | ⟨_, hb⟩
   ·rw [wasteF_app] at hb; omega
   ·have := ltP_asym (hlt _ e h1 he)
    rw [hb] at this; cases this
  | false =>
   rw [if_neg (by decide)]
   exact loop_good hp (fun T hT => try_good hp m T hT) plan hle T S A hT h hlt
end
end Go.Dw.Seat.Tr
end
section
set_option linter.unusedSimpArgs false
set_option maxRecDepth 100000
namespace Go.Dw.Seat.Tr
open Go Go.Dw Go.IntWalk
theorem allW_spec : ∀ n, (allW n).Pairwise (fun a b => lexW a b = true) ∧ ∀ ws ∈ allW n, ws.length = n ∧ ∀ x ∈ ws, 0 ≤ x ∧ x ≤ 4
 | 0 => ⟨by simp [allW], fun ws h => by
  simp only [allW, List.mem_singleton] at h
  subst h; exact ⟨rfl, fun x hx => by cases hx⟩⟩
 | n + 1 => by
  obtain ⟨h1, h2⟩ := allW_spec n
  have hmem : ∀ d ws, ws ∈ (allW n).map (d :: ·) → ∃ t, t ∈ allW n ∧ ws = d :: t := fun d ws h => by
   obtain ⟨t, ht, rfl⟩ := List.mem_map.1 h
   exact ⟨t, ht, rfl⟩
  refine ⟨?_, fun ws h => ?_⟩
  ·rw [allW, List.pairwise_flatMap]
   refine ⟨fun d _ => ?_, ?_⟩
   ·rw [List.pairwise_map]
    exact h1.imp fun {a b} h => by rw [lexW, if_pos rfl]; exact h
   ·have key : ∀ d e : Int, d < e → ∀ x ∈ (allW n).map (d :: ·), ∀ y ∈ (allW n).map (e :: ·), lexW x y = true := fun d e hde x hx y hy => by
     obtain ⟨s, _, rfl⟩ := hmem d x hx
     obtain ⟨t, _, rfl⟩ := hmem e y hy
     rw [lexW, if_neg (by omega)]
     exact decide_eq_true hde
    have hp : ([0, 1, 2, 3, 4] : List Int).Pairwise (· < ·) := by decide
    exact hp.imp fun {a b} h => key a b h
  ·rw [allW, List.mem_flatMap] at h
   obtain ⟨d, hd, h⟩ := h
   obtain ⟨t, ht, rfl⟩ := hmem d ws h
   obtain ⟨h3, h4⟩ := h2 t ht
   refine ⟨by rw [List.length_cons, h3], fun x hx => ?_⟩
   rcases List.mem_cons.1 hx with rfl | hx
   ·simp only [List.mem_cons, List.not_mem_nil, or_false] at hd
    rcases hd with rfl | rfl | rfl | rfl | rfl <;> decide
   ·exact h4 x hx
theorem pats_ok (p : TPap) (l : List TOrd) : PatsOk p l (pats p l) := by
 obtain ⟨h1, h2⟩ := allW_spec l.length
 refine ⟨h1.filter _, fun ws h => ?_⟩
 obtain ⟨h3, h4⟩ := List.mem_filter.1 h
 exact ⟨(h2 ws h3).1, fun n hn => ((h2 ws h3).2 n hn).1, h4⟩
def srch (p : TPap) (l : List TOrd) (n : Nat) : Srch := tryF p l n (pats p l) [] 0 (zeros l.length) ⟨[], 0, false⟩
def planF (p : TPap) (l : List TOrd) : Option (List TStp × Int) := (List.range 4).findSome? fun n => if (srch p l n).found then some ((srch p l n).best, (srch p l n).waste) else none
structure PlanOk (p : TPap) (l : List TOrd) (q : List TStp) : Prop where
 len : q.length ≤ 3
 ext : Ext (pats p l) q.length q
 does : doesP l q = true
def Better (p : TPap) (l : List TOrd) (q b : List TStp) : Prop := q.length < b.length ∨ (q.length = b.length ∧ bef p l q b)
theorem zeros_le : ∀ (l : List TOrd), (∀ o ∈ l, o.ok) → leH l (zeros l.length) = true
 | [], _ => by simp [leH]
 | o :: l, h => by
  have := (h o (by simp)).need
  show leH (o :: l) ((0 : Int) :: zeros l.length) = true
  simp only [leH, Bool.and_eq_true, decide_eq_true_eq]
  exact ⟨by omega, zeros_le l fun x hx => h x (by simp [hx])⟩
theorem srch_good {p : TPap} (hp : p.ok) {l : List TOrd} (hl : ∀ o ∈ l, o.ok) (n : Nat) : Good p l (srch p l n) (fun q => Ext (pats p l) n q) := by
 have h := try_good hp n (pats p l) (pats_ok p l) [] ⟨[], 0, false⟩ (fun _ => False) (zeros_le l hl) ⟨fun _ _ h => h.elim, fun h => by cases h⟩ (fun _ _ h => h.elim)
 refine h.iff fun q => ?_
 constructor
 ·intro hq; exact .inr ⟨q, hq, rfl⟩
 ·rintro (hq | ⟨e, he, rfl⟩)
  ·exact hq.elim
  ·exact he
theorem plan_spec {p : TPap} (hp : p.ok) {l : List TOrd} (hl : ∀ o ∈ l, o.ok) : match planF p l with
  | none => ∀ q, ¬ PlanOk p l q
  | some (b, w) => PlanOk p l b ∧ w = wasteF p l b ∧ ∀ q, PlanOk p l q → ¬ Better p l q b := by
 have hg := fun n => srch_good hp hl n
 cases hF : planF p l with
 | none =>
  intro q hq
  have h1 := List.findSome?_eq_none_iff.1 hF q.length (List.mem_range.2 (by have := hq.len; omega))
  have h2 := (hg q.length).none (by
   cases hf : (srch p l q.length).found with
   | false => rfl
   | true => rw [hf] at h1; cases h1) q hq.ext
  rw [hq.does] at h2; cases h2
 | some x =>
  obtain ⟨b, w⟩ := x
  have key : ∀ n, (List.range n).findSome? (fun n => if (srch p l n).found then some ((srch p l n).best, (srch p l n).waste) else none) = some (b, w) → ∃ i, i < n ∧ (srch p l i).found = true ∧ (srch p l i).best = b ∧ (srch p l i).waste = w ∧ ∀ j, j < i → (srch p l j).found = false := by
   intro n
   induction n with
   | zero => intro h; cases h
   | succ n ih =>
    intro h
    rw [List.range_succ, List.findSome?_append] at h
    cases hr : (List.range n).findSome? (fun n => if (srch p l n).found then some ((srch p l n).best, (srch p l n).waste) else none) with
    | some y =>
     rw [hr] at h
     cases h
     obtain ⟨i, h1, h2⟩ := ih hr
     exact ⟨i, by omega, h2⟩
    | none =>
     rw [hr] at h
     simp only [Option.none_or, List.findSome?_cons, List.findSome?_nil] at h
     refine ⟨n, by omega, ?_⟩
     cases hf : (srch p l n).found with
     | false => rw [hf] at h; simp at h
     | true =>
      rw [hf] at h
      simp only [if_true, Option.some.injEq, Prod.mk.injEq] at h
      refine ⟨rfl, h.1, h.2, fun j hj => ?_⟩
      have := List.findSome?_eq_none_iff.1 hr j (List.mem_range.2 hj)
      cases hfj : (srch p l j).found with
      | false => rfl
      | true => rw [hfj] at this; cases this
  obtain ⟨i, hi, hf, rfl, rfl, hj⟩ := key 4 hF
  obtain ⟨h1, h2, h3, h4⟩ := (hg i).some hf
  have hlen := (ext_mem h1).1
  refine ⟨⟨by omega, by rw [hlen]; exact h1, h2⟩, h3, fun q hq hb => ?_⟩
  rcases hb with hb | ⟨hb1, hb2⟩
  ·have := (hg q.length).none (hj q.length (by omega)) q hq.ext
   rw [hq.does] at this; cases this
  ·have hx := hq.ext
   rw [hb1, hlen] at hx
   exact h4 q hx hq.does hb2
theorem plan_ws {p : TPap} {l : List TOrd} {q : List TStp} (h : PlanOk p l q) : ∀ s ∈ q, WsOk p l s.ws ∧ 1 ≤ s.run := ext_ok (pats_ok p l) h.ext
structure Good2 (p : TPap) (l : List TOrd) (b : Option (List TStp)) (A : List TStp → Prop) : Prop where
 none : b = none → ∀ q, A q → doesP l q = false
 some : ∀ x, b = some x → A x ∧ doesP l x = true ∧ ∀ q, A q → doesP l q = true → ¬ Better p l q x
theorem Good2.iff {p : TPap} {l : List TOrd} {S : Option (List TStp)} {A B : List TStp → Prop} (h : Good2 p l S A) (hB : ∀ q, B q ↔ A q) : Good2 p l S B := by
 have : B = A := funext fun q => propext (hB q)
 rw [this]; exact h
end Go.Dw.Seat.Tr
end
section
set_option linter.unusedSimpArgs false
set_option maxRecDepth 100000
namespace Go.Dw.Seat.Tr
open Go Go.Dw Go.Proofs Go.IntWalk
abbrev srC (p : TPap) (l : List TOrd) (P : List (List Int)) (S : Srch) : List D := [dI p.wide, dI p.tl, dI p.th, dI p.webs, .c (.sl false 3 (rows eO l)), dWs false P, dSt false S.best, dI S.waste, bD S.found]
abbrev srB (lm : Nat) (p : TPap) (l : List TOrd) (P : List (List Int)) (S : Srch) : Nat × Blk := (14, .pbox lm (srC p l P S))
abbrev srD (lm : Nat) : D := .c (.v (.pointer (some ⟨lm, 0, none⟩)))
theorem bm_pbox (k l : Nat) (ds : List D) : Blk.men k (.pbox l ds) = D.mens k ds := rfl
theorem bk_pbox (bx : List (Nat × Blk)) (l : Nat) (ds : List D) : Blk.keysIn bx (.pbox l ds) = D.keysIns bx ds := rfl
theorem killB_pbox (k l : Nat) (ds : List D) : killB k (.pbox l ds) = .pbox l (ds.map (killD k)) := rfl
attribute [go_sem] bm_pbox bk_pbox killB_pbox dWs srB srD srC
theorem srB_ok (r : D) (hr : ∀ k, r.men k = false) (lm : Nat) (p : TPap) (l : List TOrd) (P : List (List Int)) (S : Srch) : okRes r [srB lm p l P S] := by
 refine ⟨fun k _ => hr k, fun j x hj k hk => ?_⟩
 simp only [get] at hj
 split at hj
 ·cases hj; rfl
 ·cases hj
theorem srB_nb (lm : Nat) (p : TPap) (l : List TOrd) (P : List (List Int)) (S : Srch) {k : Nat} {x : Blk} (hk : get k [srB lm p l P S] = some x) : k = 14 ∧ x = .pbox lm (srC p l P S) ∧ x.nb = true := by
 simp only [get] at hk
 split at hk
 ·rename_i e; cases hk; exact ⟨e, rfl, by simp only [Blk.nb]; exact (by simp only [List.all_cons, List.all_nil, Blk.nb, rowC_nb, D.nb, D.nbs, C.nb, C.nbs, C.nbss, rows_nb eI_nb, Bool.and_true, Bool.not_false, Bool.and_self, bD, dI, iD, rows_nb eO_nb, rows_nb eSt_nb, rows_nb eWs_nb])⟩
 ·cases hk
theorem room_drop {one : Bool} {l : List TOrd} {got ws : List Int} {i : Nat} {o : TOrd} {g n : Int} (ho : l[i]? = some o) (hg : got[i]? = some g) (hn : ws[i]? = some n) (lo hi : Int) :
  roomF one (l.drop i) (got.drop i) (ws.drop i) lo hi = if 0 < n then roomF one (l.drop (i + 1)) (got.drop (i + 1)) (ws.drop (i + 1)) (if one then max2 lo ((o.lo - g + n - 1).tdiv n) else lo) (min2 hi ((o.hi - g).tdiv n))
  else if one && decide (g < o.lo) then (1, 0) else roomF one (l.drop (i + 1)) (got.drop (i + 1)) (ws.drop (i + 1)) lo hi := by
 obtain ⟨h1, e1⟩ := List.getElem?_eq_some_iff.1 ho
 obtain ⟨h2, e2⟩ := List.getElem?_eq_some_iff.1 hg
 obtain ⟨h3, e3⟩ := List.getElem?_eq_some_iff.1 hn
 rw [List.drop_eq_getElem_cons h1, List.drop_eq_getElem_cons h2, List.drop_eq_getElem_cons h3, e1, e2, e3, roomF]
theorem max2_eq (a b : Int) : max2 a b = max a b := by unfold max2; split <;> omega
theorem min2_eq (a b : Int) : min2 a b = min a b := by unfold min2; split <;> omega
theorem tdiv_b {a n : Int} (ha : -1000 ≤ a ∧ a ≤ 1000) (hn : 1 ≤ n ∧ n ≤ 4) : -1000 ≤ Int.tdiv a n ∧ Int.tdiv a n ≤ 1000 := by
 have key : ∀ c : Int, 0 ≤ c → c ≤ 1000 → 0 ≤ Int.tdiv c n ∧ Int.tdiv c n ≤ 1000 := fun c h1 h2 => by
  rw [Int.tdiv_eq_ediv_of_nonneg h1]
  exact ⟨Int.ediv_nonneg h1 (by omega), Int.le_trans (Int.ediv_le_self _ h1) h2⟩
 by_cases h : 0 ≤ a
 ·have := key a h ha.2
  omega
 ·have h2 := key (-a) (by omega) (by omega)
  have e : a = -(-a) := by omega
  rw [e, Int.neg_tdiv]
  omega
theorem roomF_nil (one : Bool) (got ws : List Int) (lo hi : Int) : roomF one [] got ws lo hi = (lo, hi) := by simp [roomF]
set_option maxHeartbeats 2000000 in
theorem trRoom (b1 b2 one : Bool) (lm : Nat) (p : TPap) (l : List TOrd) (hl : l.length ≤ 4) (ho : ∀ o ∈ l, o.ok) (P : List (List Int)) (S : Srch) (got : List Int) (hg : got.length = l.length) (hgb : ∀ v ∈ got, 0 ≤ v ∧ v ≤ 1000) (ws : List Int) (hw : Ws4 l ws) :
  DCall Try.prog 167 [srD lm, dIs b1 got, dIs b2 ws, bD one] [srB lm p l P S] (.agg [dI (roomF one l got ws 1 30).1, dI (roomF one l got ws 1 30).2]) [srB lm p l P S] := by
 have hwl := hw.len
 generalize hR : roomF one l got ws 1 30 = R
 refine DCall.of Try.func167 sf167 hb167 (Nat.le_of_ble_eq_true rfl) (srB_ok _ (fun _ => rfl) _ _ _ _ _) ?_
 simp only [s167, idxs, Nat.reduceAdd]
 repeat' (first|(with_reducible first|apply qA|apply qB|apply qC|apply qD|apply qE|apply qF)|(refine qL rfl (WF.of ?_) ?_; first|rfl|skip)|(simp (disch:=omega) only [go_sem, simprocAttr, qN, qO, qP, qQ])|exact qM rfl rfl rfl|(refine qG rfl ?_)|(refine qH rfl ?_)|(refine qI rfl ?_ ?_<;>intro hc<;>(try simp only [go_sem] at hc))|(refine qJ ?_ ?_<;>intro hc<;>(try simp only [hc])<;>(try simp only [go_sem] at hc)))
 refine DW.loop (ι := { y : Nat × Int × Int // y.1 ≤ ws.length ∧ roomF one (l.drop y.1) (got.drop y.1) (ws.drop y.1) y.2.1 y.2.2 = R ∧ (-10000 ≤ y.2.1 ∧ y.2.1 ≤ 10000) ∧ -10000 ≤ y.2.2 ∧ y.2.2 ≤ 10000 }) (fun y => ⟨77, [(16, dI y.1.1), (15, dI ws.length), (14, dIs b2 ws), (9, .box 9 0), (8, .box 8 0), (0, srD lm), (1, dIs b1 got), (3, bD one)], [srB lm p l P S, (9, .box [dI y.1.2.1, dI y.1.2.2]), (8, .box [dI 0, dI 0])]⟩) (fun y => ws.length - y.1.1) ⟨(0, 1, 30), Nat.zero_le _, hR, by decide, by decide⟩ ?_ ?_
 ·refine Ent.to ?_ ?_ <;> simp (disch:=omega) only [qR,qS,qTw,qU,get,Nat.reduceEqDiff,↓reduceIte,qV,qW,qX,qY,qZ,and_self,dI,i64_in,and_true,true_and,rA,rB,rC,rD]
  all_goals first | exact ⟨.refl _, .refl _⟩ | exact .refl _
 rintro ⟨⟨i, lo, hi⟩, hi1, hi2, hi3, hi4⟩
 dsimp only at hi1 hi2 hi3 hi4 ⊢
 rcases at_or ws i hi1 with ⟨n, hn, hlt, hd⟩ | ⟨he, hd⟩
 ·obtain ⟨o, hoi⟩ := getE (l := l) (i := i) (by omega)
  obtain ⟨g, hgi⟩ := getE (l := got) (i := i) (by omega)
  have hnb := hw.b n (List.mem_of_getElem? hn)
  have hob := (ho o (List.mem_of_getElem? hoi)).need
  have hgv := hgb g (List.mem_of_getElem? hgi)
  rw [room_drop hoi hgi hn] at hi2
  by_cases hnp : 0 < n
  ·have hdn : decide (0 < n) = true := decide_eq_true hnp
   have hnz : (n = 0) = False := eq_false (by omega)
   rw [if_pos hnp] at hi2
   have q1 := tdiv_b (a := o.hi - g) (n := n) (by omega) (by omega)
   have q2 := tdiv_b (a := o.lo - g + n - 1) (n := n) (by omega) (by omega)
   have em : (if Int.tdiv (o.hi - g) n < hi then Int.tdiv (o.hi - g) n else hi) = min2 hi (Int.tdiv (o.hi - g) n) := rfl
   have m2 : -10000 ≤ min2 hi (Int.tdiv (o.hi - g) n) ∧ min2 hi (Int.tdiv (o.hi - g) n) ≤ 10000 := by rw [min2_eq]; omega
   have ex : (if lo < Int.tdiv (o.lo - g + n - 1) n then Int.tdiv (o.lo - g + n - 1) n else lo) = max2 lo (Int.tdiv (o.lo - g + n - 1) n) := rfl
   have m1 : -10000 ≤ max2 lo (Int.tdiv (o.lo - g + n - 1) n) ∧ max2 lo (Int.tdiv (o.lo - g + n - 1) n) ≤ 10000 := by rw [max2_eq]; omega
   generalize hX : min2 hi (Int.tdiv (o.hi - g) n) = X at *
   generalize hY : max2 lo (Int.tdiv (o.lo - g + n - 1) n) = Y at *
   generalize hA : Int.tdiv (o.hi - g) n = A at *
   generalize hB : Int.tdiv (o.lo - g + n - 1) n = B at *
   cases one with
   | true =>
    rw [if_pos rfl] at hi2
    repeat' (first|(with_reducible first|apply qA|apply qB|apply qC|apply qD|apply qE|apply qF)|(refine qL rfl (WF.of ?_) ?_; first|rfl|skip)|(simp (disch:=omega) only [go_sem, simprocAttr, qN, qO, qP, qQ, hd, hn, hoi, hgi, hdn, hnz, hA, hB, em, ex, rF, rG])|exact qM rfl rfl rfl|(refine qG rfl ?_)|(refine qH rfl ?_)|(refine qI rfl ?_ ?_<;>intro hc<;>(try simp only [go_sem] at hc))|(refine qJ ?_ ?_<;>intro hc<;>(try simp only [hc])<;>(try simp only [go_sem] at hc)))
    refine ⟨⟨(i + 1, Y, X), hlt, hi2, m1, m2⟩, ?_, Ent.to ?_ ?_⟩ <;> first | (show _ < _; (try simp only); omega) | (simp (disch:=omega) only [qR,qS,qTw,qU,get,Nat.reduceEqDiff,↓reduceIte,qV,qW,qX,qY,qZ,and_self,dI,i64_in,and_true,true_and,rA,rB,rC,rD])
    all_goals first | exact ⟨.refl _, .refl _⟩ | exact .refl _
   | false =>
    rw [if_neg (by decide)] at hi2
    repeat' (first|(with_reducible first|apply qA|apply qB|apply qC|apply qD|apply qE|apply qF)|(refine qL rfl (WF.of ?_) ?_; first|rfl|skip)|(simp (disch:=omega) only [go_sem, simprocAttr, qN, qO, qP, qQ, hd, hn, hoi, hgi, hdn, hnz, hA, em, rF, rG])|exact qM rfl rfl rfl|(refine qG rfl ?_)|(refine qH rfl ?_)|(refine qI rfl ?_ ?_<;>intro hc<;>(try simp only [go_sem] at hc))|(refine qJ ?_ ?_<;>intro hc<;>(try simp only [hc])<;>(try simp only [go_sem] at hc)))
    refine ⟨⟨(i + 1, lo, X), hlt, hi2, hi3, m2⟩, ?_, Ent.to ?_ ?_⟩ <;> first | (show _ < _; (try simp only); omega) | (simp (disch:=omega) only [qR,qS,qTw,qU,get,Nat.reduceEqDiff,↓reduceIte,qV,qW,qX,qY,qZ,and_self,dI,i64_in,and_true,true_and,rA,rB,rC,rD])
    all_goals first | exact ⟨.refl _, .refl _⟩ | exact .refl _
  ·have hdn : decide (0 < n) = false := decide_eq_false hnp
   rw [if_neg hnp] at hi2
   cases one with
   | false =>
    rw [Bool.false_and, if_neg (by decide)] at hi2
    repeat' (first|(with_reducible first|apply qA|apply qB|apply qC|apply qD|apply qE|apply qF)|(refine qL rfl (WF.of ?_) ?_; first|rfl|skip)|(simp (disch:=omega) only [go_sem, simprocAttr, qN, qO, qP, qQ, hd, hn, hoi, hgi, hdn, rF, rG])|exact qM rfl rfl rfl|(refine qG rfl ?_)|(refine qH rfl ?_)|(refine qI rfl ?_ ?_<;>intro hc<;>(try simp only [go_sem] at hc))|(refine qJ ?_ ?_<;>intro hc<;>(try simp only [hc])<;>(try simp only [go_sem] at hc)))
    refine ⟨⟨(i + 1, lo, hi), hlt, hi2, hi3, hi4⟩, ?_, Ent.to ?_ ?_⟩ <;> first | (show _ < _; (try simp only); omega) | (simp (disch:=omega) only [qR,qS,qTw,qU,get,Nat.reduceEqDiff,↓reduceIte,qV,qW,qX,qY,qZ,and_self,dI,i64_in,and_true,true_and,rA,rB,rC,rD])
    all_goals first | exact ⟨.refl _, .refl _⟩ | exact .refl _
   | true =>
    rw [Bool.true_and] at hi2
    cases hgl : decide (g < o.lo) with
    | true =>
     rw [hgl, if_pos rfl] at hi2
     subst hi2
     repeat' (first|(with_reducible first|apply qA|apply qB|apply qC|apply qD|apply qE|apply qF)|(refine qL rfl (WF.of ?_) ?_; first|rfl|skip)|(simp (disch:=omega) only [go_sem, simprocAttr, qN, qO, qP, qQ, hd, hn, hoi, hgi, hdn, hgl, rF, rG])|exact qM rfl rfl rfl|(refine qG rfl ?_)|(refine qH rfl ?_)|(refine qI rfl ?_ ?_<;>intro hc<;>(try simp only [go_sem] at hc))|(refine qJ ?_ ?_<;>intro hc<;>(try simp only [hc])<;>(try simp only [go_sem] at hc)))
     exact retS_bs rfl rfl rfl (fun j x hj => by
      obtain ⟨rfl, rfl, hn⟩ := srB_nb lm p l P S hj
      exact ⟨rfl, hn⟩)
    | false =>
     rw [hgl, if_neg (by decide)] at hi2
     repeat' (first|(with_reducible first|apply qA|apply qB|apply qC|apply qD|apply qE|apply qF)|(refine qL rfl (WF.of ?_) ?_; first|rfl|skip)|(simp (disch:=omega) only [go_sem, simprocAttr, qN, qO, qP, qQ, hd, hn, hoi, hgi, hdn, hgl, rF, rG])|exact qM rfl rfl rfl|(refine qG rfl ?_)|(refine qH rfl ?_)|(refine qI rfl ?_ ?_<;>intro hc<;>(try simp only [go_sem] at hc))|(refine qJ ?_ ?_<;>intro hc<;>(try simp only [hc])<;>(try simp only [go_sem] at hc)))
     refine ⟨⟨(i + 1, lo, hi), hlt, hi2, hi3, hi4⟩, ?_, Ent.to ?_ ?_⟩ <;> first | (show _ < _; (try simp only); omega) | (simp (disch:=omega) only [qR,qS,qTw,qU,get,Nat.reduceEqDiff,↓reduceIte,qV,qW,qX,qY,qZ,and_self,dI,i64_in,and_true,true_and,rA,rB,rC,rD])
     all_goals first | exact ⟨.refl _, .refl _⟩ | exact .refl _
 ·have hl0 : l.drop i = [] := List.drop_eq_nil_of_le (by omega)
  rw [hl0, roomF_nil] at hi2
  subst hi2
  repeat' (first|(with_reducible first|apply qA|apply qB|apply qC|apply qD|apply qE|apply qF)|(refine qL rfl (WF.of ?_) ?_; first|rfl|skip)|(simp (disch:=omega) only [go_sem, simprocAttr, qN, qO, qP, qQ, hd])|exact qM rfl rfl rfl|(refine qG rfl ?_)|(refine qH rfl ?_)|(refine qI rfl ?_ ?_<;>intro hc<;>(try simp only [go_sem] at hc))|(refine qJ ?_ ?_<;>intro hc<;>(try simp only [hc])<;>(try simp only [go_sem] at hc)))
  exact retS_bs rfl rfl rfl (fun j x hj => by
   obtain ⟨rfl, rfl, hn⟩ := srB_nb lm p l P S hj
   exact ⟨rfl, hn⟩)
end Go.Dw.Seat.Tr
end
section
set_option linter.unusedSimpArgs false
set_option maxRecDepth 100000
namespace Go.Dw.Seat.Tr
open Go Go.Dw Go.Proofs Go.IntWalk
theorem wrong_does : ∀ (l : List TOrd) (g : List Int), g.length = l.length → decide (wrongI l g < 0) = doesB l g
 | l, g, h => by
  have key : ∀ (l : List TOrd) (g : List Int), g.length = l.length → (l.zip g).any wrO = !doesB l g := by
   intro l
   induction l with
   | nil => intro g _; simp [doesB]
   | cons o l ih =>
    intro g h
    cases g with
    | nil => cases h
    | cons v g =>
     rw [List.zip_cons_cons, List.any_cons, ih g (by simpa using h), doesB, wrO, wthn1]
     simp only [Bool.not_and]
  have h1 := key l g h
  have h2 := idxI_any wrO (l.zip g)
  rw [h1] at h2
  unfold wrongI
  cases hd : doesB l g <;> rw [hd] at h2 <;> simp at h2 ⊢ <;> omega
abbrev noneR : D := .tup []
def TryC (p : TPap) (l : List TOrd) (P : List (List Int)) (m : Nat) : Prop := ∀ (lm : Nat) (b2 : Bool) (i : Nat) (plan : List TStp) (waste : Int) (got : List Int) (S : Srch), i ≤ P.length → plan.length + m ≤ 3 → (0 ≤ waste ∧ waste ≤ 90000 * (plan.length : Int)) → got.length = l.length → (∀ v ∈ got, 0 ≤ v ∧ v ≤ 120 * (plan.length : Int)) →
 DCall Try.prog 152 [srD lm, dSt false plan, dI i, dI m, dI waste, dIs b2 got] [srB lm p l P S] noneR [srB lm p l P (tryF p l m (P.drop i) plan waste got S)]
set_option maxHeartbeats 2000000 in
theorem trTry0 (p : TPap) (l : List TOrd) (hl : l.length ≤ 4) (P : List (List Int)) : TryC p l P 0 := by
 intro lm b2 i plan waste got S hi hpl hw hg hgb
 have h1 := trWrong false b2 p l hl got hg
 have hwd := wrong_does l got hg
 have h2 := trCloneS false plan (by omega) 60
 refine DCall.of Try.func152 sf152 hb152 (Nat.le_of_ble_eq_true rfl) (srB_ok _ (fun _ => rfl) _ _ _ _ _) ?_
 simp only [s152, o152_0, o152_1, o152_2, o152_3, o152_4, o152_5, o152_6, o152_7, o152_8, o152_9, o152_10, o152_11, o152_12, o152_13, o152_14, o152_15, o152_16, o152_17, o152_18, o152_19, o152_20, o152_21, o152_22, o152_23, idxs, Nat.reduceAdd]
 have d0 : decide ((0 : Int) < ((0 : Nat) : Int)) = false := rfl
 have e0 : ((((0 : Nat) : Int)) == 0) = true := rfl
 rw [tryF, leafF]
 generalize wrongI l got = W at *
 obtain ⟨B, w, F⟩ := S
 dsimp only
 cases hd : doesB l got with
 | false =>
  rw [Bool.false_and, if_neg (by decide)]
  rw [hd] at hwd
  cases F with
  | false =>
   repeat' (first|(with_reducible first|apply qA|apply qB|apply qC|apply qD|apply qE|apply qF)|(refine DW.ord rfl (WF.of (by first|rfl|simp (disch:=omega) only [go_sem, simprocAttr, qN, qO, qP, qQ, d0, e0, hwd])) ?_ ?_ ?_; rotate_left)|rfl|(with_reducible refine And.intro ?_ ?_)|(simp (disch:=omega) only [go_sem, simprocAttr, qN, qO, qP, qQ, d0, e0, hwd])|exact qM rfl rfl rfl|(refine qG rfl ?_)|(refine qK (h1) (by decide) ?_)|(refine qH rfl ?_)|(refine qI rfl ?_ ?_<;>intro hc<;>(try simp only [go_sem] at hc))|(refine qJ ?_ ?_<;>intro hc<;>(try simp only [hc])<;>(try simp only [go_sem] at hc)))
   exact retS_bs rfl rfl rfl (fun j x hj => by
    obtain ⟨rfl, rfl, hn⟩ := srB_nb lm p l P ⟨B, w, false⟩ hj
    exact ⟨rfl, hn⟩)
  | true =>
   cases hx : decide (w ≤ waste) with
   | true =>
    repeat' (first|(with_reducible first|apply qA|apply qB|apply qC|apply qD|apply qE|apply qF)|(refine DW.ord rfl (WF.of (by first|rfl|simp (disch:=omega) only [go_sem, simprocAttr, qN, qO, qP, qQ, d0, e0, hwd, hx])) ?_ ?_ ?_; rotate_left)|rfl|(with_reducible refine And.intro ?_ ?_)|(simp (disch:=omega) only [go_sem, simprocAttr, qN, qO, qP, qQ, d0, e0, hwd, hx])|exact qM rfl rfl rfl|(refine qG rfl ?_)|(refine qK (h1) (by decide) ?_)|(refine qH rfl ?_)|(refine qI rfl ?_ ?_<;>intro hc<;>(try simp only [go_sem] at hc))|(refine qJ ?_ ?_<;>intro hc<;>(try simp only [hc])<;>(try simp only [go_sem] at hc)))
    exact retS_bs rfl rfl rfl (fun j x hj => by
     obtain ⟨rfl, rfl, hn⟩ := srB_nb lm p l P ⟨B, w, true⟩ hj
     exact ⟨rfl, hn⟩)
   | false =>
    repeat' (first|(with_reducible first|apply qA|apply qB|apply qC|apply qD|apply qE|apply qF)|(refine DW.ord rfl (WF.of (by first|rfl|simp (disch:=omega) only [go_sem, simprocAttr, qN, qO, qP, qQ, d0, e0, hwd, hx])) ?_ ?_ ?_; rotate_left)|rfl|(with_reducible refine And.intro ?_ ?_)|(simp (disch:=omega) only [go_sem, simprocAttr, qN, qO, qP, qQ, d0, e0, hwd, hx])|exact qM rfl rfl rfl|(refine qG rfl ?_)|(refine qK (h1) (by decide) ?_)|(refine qH rfl ?_)|(refine qI rfl ?_ ?_<;>intro hc<;>(try simp only [go_sem] at hc))|(refine qJ ?_ ?_<;>intro hc<;>(try simp only [hc])<;>(try simp only [go_sem] at hc)))
    exact retS_bs rfl rfl rfl (fun j x hj => by
     obtain ⟨rfl, rfl, hn⟩ := srB_nb lm p l P ⟨B, w, true⟩ hj
     exact ⟨rfl, hn⟩)
 | true =>
  rw [Bool.true_and]
  rw [hd] at hwd
  cases F with
  | false =>
   rw [Bool.not_false, Bool.true_or, if_pos rfl]
   repeat' (first|(with_reducible first|apply qA|apply qB|apply qC|apply qD|apply qE|apply qF)|(refine DW.ord rfl (WF.of (by first|rfl|simp (disch:=omega) only [go_sem, simprocAttr, qN, qO, qP, qQ, d0, e0, hwd])) ?_ ?_ ?_; rotate_left)|rfl|(with_reducible refine And.intro ?_ ?_)|(simp (disch:=omega) only [go_sem, simprocAttr, qN, qO, qP, qQ, d0, e0, hwd])|exact qM rfl rfl rfl|(refine qG rfl ?_)|(refine qK (h1) (by decide) ?_)|(refine qH rfl ?_)|(refine qI rfl ?_ ?_<;>intro hc<;>(try simp only [go_sem] at hc))|(refine qJ ?_ ?_<;>intro hc<;>(try simp only [hc])<;>(try simp only [go_sem] at hc)))
   (refine call_r (h2) (by decide) (by first | rfl | simp (disch:=omega) only [go_sem,simprocAttr,qN,qO,qP,qQ]) (by first | rfl | simp (disch:=omega) only [go_sem,simprocAttr,qN,qO,qP,qQ]) ?_; simp (disch:=omega) only [go_sem,simprocAttr,qN,qO,qP,qQ])
   repeat' (first|(with_reducible first|apply qA|apply qB|apply qC|apply qD|apply qE|apply qF)|(refine DW.ord rfl (WF.of (by first|rfl|simp (disch:=omega) only [go_sem, simprocAttr, qN, qO, qP, qQ])) ?_ ?_ ?_; rotate_left)|rfl|(with_reducible refine And.intro ?_ ?_)|(simp (disch:=omega) only [go_sem, simprocAttr, qN, qO, qP, qQ])|exact qM rfl rfl rfl|(refine qG rfl ?_)|(refine qH rfl ?_)|(refine qI rfl ?_ ?_<;>intro hc<;>(try simp only [go_sem] at hc))|(refine qJ ?_ ?_<;>intro hc<;>(try simp only [hc])<;>(try simp only [go_sem] at hc)))
   (refine retS_ent (Ent.rel 60 rfl) ?_; simp (disch:=omega) only [go_sem,simprocAttr,qN,qO,qP,qQ])
   exact retS_bs rfl rfl rfl (fun j x hj => by
    obtain ⟨rfl, rfl, hn⟩ := srB_nb lm p l P ⟨plan, waste, true⟩ hj
    exact ⟨rfl, hn⟩)
  | true =>
   rw [Bool.not_true, Bool.false_or]
   by_cases hx : waste < w
   ·have hx1 : decide (waste < w) = true := decide_eq_true hx
    have hx2 : decide (w ≤ waste) = false := decide_eq_false (by omega)
    rw [if_pos hx1]
    repeat' (first|(with_reducible first|apply qA|apply qB|apply qC|apply qD|apply qE|apply qF)|(refine DW.ord rfl (WF.of (by first|rfl|simp (disch:=omega) only [go_sem, simprocAttr, qN, qO, qP, qQ, d0, e0, hwd, hx1, hx2])) ?_ ?_ ?_; rotate_left)|rfl|(with_reducible refine And.intro ?_ ?_)|(simp (disch:=omega) only [go_sem, simprocAttr, qN, qO, qP, qQ, d0, e0, hwd, hx1, hx2])|exact qM rfl rfl rfl|(refine qG rfl ?_)|(refine qK (h1) (by decide) ?_)|(refine qH rfl ?_)|(refine qI rfl ?_ ?_<;>intro hc<;>(try simp only [go_sem] at hc))|(refine qJ ?_ ?_<;>intro hc<;>(try simp only [hc])<;>(try simp only [go_sem] at hc)))
    (refine call_r (h2) (by decide) (by first | rfl | simp (disch:=omega) only [go_sem,simprocAttr,qN,qO,qP,qQ]) (by first | rfl | simp (disch:=omega) only [go_sem,simprocAttr,qN,qO,qP,qQ]) ?_; simp (disch:=omega) only [go_sem,simprocAttr,qN,qO,qP,qQ])
    repeat' (first|(with_reducible first|apply qA|apply qB|apply qC|apply qD|apply qE|apply qF)|(refine DW.ord rfl (WF.of (by first|rfl|simp (disch:=omega) only [go_sem, simprocAttr, qN, qO, qP, qQ])) ?_ ?_ ?_; rotate_left)|rfl|(with_reducible refine And.intro ?_ ?_)|(simp (disch:=omega) only [go_sem, simprocAttr, qN, qO, qP, qQ])|exact qM rfl rfl rfl|(refine qG rfl ?_)|(refine qH rfl ?_)|(refine qI rfl ?_ ?_<;>intro hc<;>(try simp only [go_sem] at hc))|(refine qJ ?_ ?_<;>intro hc<;>(try simp only [hc])<;>(try simp only [go_sem] at hc)))
    (refine retS_ent (Ent.rel 60 rfl) ?_; simp (disch:=omega) only [go_sem,simprocAttr,qN,qO,qP,qQ])
    exact retS_bs rfl rfl rfl (fun j x hj => by
     obtain ⟨rfl, rfl, hn⟩ := srB_nb lm p l P ⟨plan, waste, true⟩ hj
     exact ⟨rfl, hn⟩)
   ·have hx1 : decide (waste < w) = false := decide_eq_false hx
    have hx2 : decide (w ≤ waste) = true := decide_eq_true (by omega)
    rw [if_neg (by rw [hx1]; decide)]
    repeat' (first|(with_reducible first|apply qA|apply qB|apply qC|apply qD|apply qE|apply qF)|(refine DW.ord rfl (WF.of (by first|rfl|simp (disch:=omega) only [go_sem, simprocAttr, qN, qO, qP, qQ, d0, e0, hwd, hx1, hx2])) ?_ ?_ ?_; rotate_left)|rfl|(with_reducible refine And.intro ?_ ?_)|(simp (disch:=omega) only [go_sem, simprocAttr, qN, qO, qP, qQ, d0, e0, hwd, hx1, hx2])|exact qM rfl rfl rfl|(refine qG rfl ?_)|(refine qK (h1) (by decide) ?_)|(refine qH rfl ?_)|(refine qI rfl ?_ ?_<;>intro hc<;>(try simp only [go_sem] at hc))|(refine qJ ?_ ?_<;>intro hc<;>(try simp only [hc])<;>(try simp only [go_sem] at hc)))
    exact retS_bs rfl rfl rfl (fun j x hj => by
     obtain ⟨rfl, rfl, hn⟩ := srB_nb lm p l P ⟨B, w, true⟩ hj
     exact ⟨rfl, hn⟩)
end Go.Dw.Seat.Tr
end
section
set_option linter.unusedSimpArgs false
set_option maxRecDepth 100000
namespace Go.Dw.Seat.Tr
open Go Go.Dw Go.Proofs Go.IntWalk
theorem sum_app : ∀ (a b : List Int), sumI (a ++ b) = sumI a + sumI b
 | [], b => by simp [sumI]
 | n :: a, b => by rw [List.cons_append, sumI, sumI, sum_app a b]; omega
theorem sum_nn : ∀ (a : List Int), (∀ n ∈ a, 0 ≤ n) → 0 ≤ sumI a
 | [], _ => by simp [sumI]
 | n :: a, h => by
  have h1 := h n (by simp)
  have h2 := sum_nn a (fun x hx => h x (by simp [hx]))
  rw [sumI]; omega
theorem pat_none (p : TPap) (l : List TOrd) (r : Nat) (ws : List Int) (hw : ∀ n ∈ ws, 0 ≤ n) (d : Int) (hd : p.webs < d) : (((allW r).map (d :: ·)).map (ws ++ ·)).filter (patB p l) = [] := by
 rw [List.filter_eq_nil_iff]
 intro w hm hp
 simp only [List.mem_map] at hm
 obtain ⟨t, ⟨u, hu, rfl⟩, rfl⟩ := hm
 have h1 := (patB_b hp).1.2
 rw [sum_app, sumI] at h1
 have h2 := sum_nn ws hw
 have h3 := sum_nn u (fun n hn => (((allW_spec r).2 u hu).2 n hn).1)
 omega
theorem patsX_pats (p : TPap) (hp : p.ok) (l : List TOrd) : ∀ (r : Nat) (ws : List Int), (∀ n ∈ ws, 0 ≤ n) → patsX p l r ws = ((allW r).map (ws ++ ·)).filter (patB p l)
 | 0, ws, _ => by
  simp only [patsX, allW, List.map_cons, List.map_nil, List.append_nil, List.filter_cons, List.filter_nil]
 | r + 1, ws, hw => by
  have hyes : ∀ d : Nat, patsX p l r (ws ++ [(d : Int)]) = (((allW r).map ((d : Int) :: ·)).map (ws ++ ·)).filter (patB p l) := fun d => by
   rw [patsX_pats p hp l r (ws ++ [(d : Int)]) (fun n hn => by
    simp only [List.mem_append, List.mem_singleton] at hn
    rcases hn with hn | rfl
    ·exact hw n hn
    ·omega), List.map_map]
   congr 2
   funext u
   simp
  have hno := pat_none p l r ws hw
  have hwb := hp.webs
  rw [patsX, allW, List.map_flatMap, List.filter_flatMap]
  simp only [hyes]
  generalize hG : (fun d : Int => (((allW r).map (d :: ·)).map (ws ++ ·)).filter (patB p l)) = G
  have hG' : ∀ d : Int, (((allW r).map (d :: ·)).map (ws ++ ·)).filter (patB p l) = G d := fun d => by rw [← hG]
  simp only [hG'] at hno ⊢
  have hc : p.webs = 1 ∨ p.webs = 2 ∨ p.webs = 3 ∨ p.webs = 4 := by omega
  rcases hc with e | e | e | e <;> rw [e] at hno ⊢
  ·simp [List.range_succ, hno 2 (by decide), hno 3 (by decide), hno 4 (by decide)]
  ·simp [List.range_succ, hno 3 (by decide), hno 4 (by decide)]
  ·simp [List.range_succ, hno 4 (by decide)]
  ·simp [List.range_succ]
theorem patsX_all (p : TPap) (hp : p.ok) (l : List TOrd) : patsX p l l.length [] = pats p l := by
 rw [patsX_pats p hp l l.length [] (by simp), pats]
 simp
end Go.Dw.Seat.Tr
end
section
set_option linter.unusedSimpArgs false
set_option maxRecDepth 100000
namespace Go.Dw.Seat.Tr
open Go Go.Dw Go.Proofs Go.IntWalk
theorem WsOk.ws4 {p : TPap} (hp : p.ok) {l : List TOrd} {ws : List Int} (h : WsOk p l ws) : Ws4 l ws := by
 refine ⟨h.len, fun n hn => ⟨h.nn n hn, ?_⟩⟩
 have h1 := (patB_b h.pat).1.2
 have h2 := hp.webs
 have : ∀ ws : List Int, (∀ n ∈ ws, 0 ≤ n) → ∀ n ∈ ws, n ≤ sumI ws := by
  intro ws
  induction ws with
  | nil => intro _ n hn; cases hn
  | cons a ws ih =>
   intro h n hn
   have h3 := sum_nn ws (fun x hx => h x (by simp [hx]))
   have h4 := h a (by simp)
   rw [sumI]
   rcases List.mem_cons.1 hn with rfl | hn
   ·omega
   ·have := ih (fun x hx => h x (by simp [hx])) n hn
    omega
 have := this ws h.nn n hn
 omega
theorem rows_snocS (q : List TStp) (ws : List Int) (r : Int) : rows eSt q ++ [[C.sl false 1 (rows eI ws), C.v (.int .i64 r)]] = rows eSt (q ++ [⟨ws, r⟩]) := by simp [rows, eSt]
theorem shut2 (ws : List Int) (r : Int) : shutEs [[D.c (.sl false 1 (rows eI ws)), D.c (.v (.int .i64 r))]] = some [[C.sl false 1 (rows eI ws), C.v (.int .i64 r)]] := rfl
theorem room_hi : ∀ (one : Bool) (l : List TOrd) (got ws : List Int) (lo hi : Int), 0 ≤ hi → (roomF one l got ws lo hi).2 ≤ hi
 | _, [], _, _, _, _, _ => by simp [roomF]
 | _, _ :: _, [], _, _, _, _ => by simp [roomF]
 | _, _ :: _, _ :: _, [], _, _, _ => by simp [roomF]
 | one, o :: l, g :: got, n :: ws, lo, hi, h => by
  have key : ∀ (l : List TOrd) (got ws : List Int) (lo hi' : Int), hi' ≤ hi → (roomF one l got ws lo hi').2 ≤ hi := by
   intro l
   induction l with
   | nil => intro got ws lo hi' h; simpa [roomF] using h
   | cons o l ih =>
    intro got ws lo hi' h'
    cases got with
    | nil => simpa [roomF] using h'
    | cons g got =>
     cases ws with
     | nil => simpa [roomF] using h'
     | cons n ws =>
      rw [roomF]
      split
      ·exact ih _ _ _ _ (by rw [min2_eq]; omega)
      ·split
       ·exact h
       ·exact ih _ _ _ _ h'
  exact key _ _ _ _ _ (Int.le_refl _)
theorem room_lo1 (one : Bool) (l : List TOrd) (got ws : List Int) (hi : Int) : 1 ≤ (roomF one l got ws 1 hi).1 := by
 cases one with
 | true => exact room_lo l got ws 1 hi (Int.le_refl _)
 | false =>
  have key : ∀ (l : List TOrd) (got ws : List Int) (hi : Int), 1 ≤ (roomF false l got ws 1 hi).1 := by
   intro l
   induction l with
   | nil => intro _ _ _; simp [roomF]
   | cons o l ih =>
    intro got ws hi
    cases got with
    | nil => simp [roomF]
    | cons g got =>
     cases ws with
     | nil => simp [roomF]
     | cons n ws =>
      rw [roomF]
      split
      ·exact ih _ _ _
      ·split
       ·exact Int.le_refl _
       ·exact ih _ _ _
  exact key _ _ _ _
theorem srRet (lm : Nat) (p : TPap) (l : List TOrd) (P : List (List Int)) (S : Srch) {σ : St} {e : Exit} (he : e = .ret ∨ e = .normal) (h : get 14 σ.bx = some (.pbox lm (srC p l P S))) : retS Try.prog [] noneR [srB lm p l P S] e σ :=
 ⟨he, σ, [], Ent.refl _, rfl, .refl _, rfl, fun j x hj => by
  obtain ⟨rfl, rfl, hn⟩ := srB_nb lm p l P S hj
  exact ⟨h, hn⟩⟩
set_option maxHeartbeats 4000000 in
theorem trTryS (p : TPap) (hp : p.ok) (l : List TOrd) (hl : l.length ≤ 4) (ho : ∀ o ∈ l, o.ok) (P : List (List Int)) (hP : ∀ ws ∈ P, WsOk p l ws) (hPl : P.length ≤ 625) (m : Nat) (ih : TryC p l P m) : TryC p l P (m + 1) := by
 intro lm b2 i plan waste got S hi hpl hw hg hgb
 refine DCall.of Try.func152 sf152 hb152 (Nat.le_of_ble_eq_true rfl) (srB_ok _ (fun _ => rfl) _ _ _ _ _) ?_
 simp only [s152, o152_0, o152_1, o152_2, o152_3, o152_4, o152_5, o152_6, o152_7, o152_8, o152_9, o152_10, o152_11, o152_12, o152_13, o152_14, o152_15, o152_16, o152_17, o152_18, o152_19, o152_20, o152_21, o152_22, o152_23, idxs, Nat.reduceAdd]
 obtain ⟨M, hM⟩ : ∃ M : Int, M = ((m + 1 : Nat) : Int) := ⟨_, rfl⟩
 rw [← hM]
 have d0 : decide ((0 : Int) < M) = true := decide_eq_true (by omega)
 have e0 : (M == 0) = false := by rw [beq_eq_false_iff_ne]; omega
 have sM : M - 1 = (m : Int) := by omega
 have e1 : (M == 1) = decide (m = 0) := by rw [Bool.eq_iff_iff, beq_iff_eq, decide_eq_true_eq]; omega
 rw [tryF]
 obtain ⟨B, w, F⟩ := S
 dsimp only
 cases hF : (F && decide (w ≤ waste)) with
 | true =>
  simp only [Bool.and_eq_true] at hF
  obtain ⟨rfl, hx⟩ := hF
  rw [if_pos rfl]
  repeat' (first|(with_reducible first|apply qA|apply qB|apply qC|apply qD|apply qE|apply qF)|(refine DW.ord rfl (WF.of (by first|rfl|simp (disch:=omega) only [go_sem, simprocAttr, qN, qO, qP, qQ, d0, hx])) ?_ ?_ ?_; rotate_left)|rfl|(with_reducible refine And.intro ?_ ?_)|(simp (disch:=omega) only [go_sem, simprocAttr, qN, qO, qP, qQ, d0, hx])|exact qM rfl rfl rfl|(refine qG rfl ?_)|(refine qH rfl ?_)|(refine qI rfl ?_ ?_<;>intro hc<;>(try simp only [go_sem] at hc))|(refine qJ ?_ ?_<;>intro hc<;>(try simp only [hc])<;>(try simp only [go_sem] at hc)))
  exact srRet lm p l P ⟨B, w, true⟩ (.inl rfl) rfl
 | false =>
  rw [if_neg (by decide)]
  generalize hR : loopF (tryF p l m) (decide (m = 0)) p l plan waste got (P.drop i) ⟨B, w, F⟩ = R
  have hcut : ∀ Q : Prop, (F = false → Q) → (F = true → decide (w ≤ waste) = false → Q) → Q := fun Q h1 h2 => by
   cases F with
   | false => exact h1 rfl
   | true => exact h2 rfl (by simpa using hF)
  refine DW.cut ⟨134, [(0, srD lm), (1, dSt false plan), (2, dI i), (3, dI M), (4, dI waste), (5, dIs b2 got)], [srB lm p l P ⟨B, w, F⟩]⟩ ?_ ?_
  ·refine hcut _ (fun hf => ?_) (fun hf hx => ?_)
   ·subst hf
    repeat' (first|(with_reducible first|apply qA|apply qB|apply qC|apply qD|apply qE|apply qF)|(refine DW.ord rfl (WF.of (by first|rfl|simp (disch:=omega) only [go_sem, simprocAttr, qN, qO, qP, qQ, d0])) ?_ ?_ ?_; rotate_left)|rfl|(with_reducible refine And.intro ?_ ?_)|(simp (disch:=omega) only [go_sem, simprocAttr, qN, qO, qP, qQ, d0])|exact qM rfl rfl rfl|(refine qG rfl ?_)|(refine qH rfl ?_)|(refine qI rfl ?_ ?_<;>intro hc<;>(try simp only [go_sem] at hc))|(refine qJ ?_ ?_<;>intro hc<;>(try simp only [hc])<;>(try simp only [go_sem] at hc)))
    refine Ent.to ?_ ?_ <;> simp (disch:=omega) only [qR,qS,qTw,qU,get,Nat.reduceEqDiff,↓reduceIte,qV,qW,qX,qY,qZ,and_self,dI,i64_in,and_true,true_and,rA,rB,rC,rD]
    all_goals first | exact ⟨.refl _, .refl _⟩ | exact .refl _
   ·subst hf
    repeat' (first|(with_reducible first|apply qA|apply qB|apply qC|apply qD|apply qE|apply qF)|(refine DW.ord rfl (WF.of (by first|rfl|simp (disch:=omega) only [go_sem, simprocAttr, qN, qO, qP, qQ, d0, hx])) ?_ ?_ ?_; rotate_left)|rfl|(with_reducible refine And.intro ?_ ?_)|(simp (disch:=omega) only [go_sem, simprocAttr, qN, qO, qP, qQ, d0, hx])|exact qM rfl rfl rfl|(refine qG rfl ?_)|(refine qH rfl ?_)|(refine qI rfl ?_ ?_<;>intro hc<;>(try simp only [go_sem] at hc))|(refine qJ ?_ ?_<;>intro hc<;>(try simp only [hc])<;>(try simp only [go_sem] at hc)))
    refine Ent.to ?_ ?_ <;> simp (disch:=omega) only [qR,qS,qTw,qU,get,Nat.reduceEqDiff,↓reduceIte,qV,qW,qX,qY,qZ,and_self,dI,i64_in,and_true,true_and,rA,rB,rC,rD]
    all_goals first | exact ⟨.refl _, .refl _⟩ | exact .refl _
  repeat' (first|(with_reducible first|apply qA|apply qB|apply qC|apply qD|apply qE|apply qF)|(refine DW.ord rfl (WF.of (by first|rfl|simp (disch:=omega) only [go_sem, simprocAttr, qN, qO, qP, qQ, e0])) ?_ ?_ ?_; rotate_left)|rfl|(with_reducible refine And.intro ?_ ?_)|(simp (disch:=omega) only [go_sem, simprocAttr, qN, qO, qP, qQ, e0])|exact qM rfl rfl rfl|(refine qG rfl ?_)|(refine qH rfl ?_)|(refine qI rfl ?_ ?_<;>intro hc<;>(try simp only [go_sem] at hc))|(refine qJ ?_ ?_<;>intro hc<;>(try simp only [hc])<;>(try simp only [go_sem] at hc)))
  refine DW.loop (ι := { y : Nat × Srch // y.1 ≤ P.length ∧ loopF (tryF p l m) (decide (m = 0)) p l plan waste got (P.drop y.1) y.2 = R }) (fun y => ⟨134, [(12, dI y.1.1), (0, srD lm), (1, dSt false plan), (3, dI M), (4, dI waste), (5, dIs b2 got)], [srB lm p l P y.1.2]⟩) (fun y => P.length - y.1.1) ⟨(i, ⟨B, w, F⟩), hi, hR⟩ ?_ ?_
  ·refine Ent.to ?_ ?_ <;> simp (disch:=omega) only [qR,qS,qTw,qU,get,Nat.reduceEqDiff,↓reduceIte,qV,qW,qX,qY,qZ,and_self,dI,i64_in,and_true,true_and,rA,rB,rC,rD]
   all_goals first | exact ⟨.refl _, .refl _⟩ | exact .refl _
  clear hR hcut hF
  rintro ⟨⟨j, S⟩, hj, hR⟩
  dsimp only at hj hR ⊢
  rcases at_or P j hj with ⟨ws, hws, hlt, hd⟩ | ⟨he, hd⟩
  case inr =>
   rw [List.drop_eq_nil_of_le (by omega), loopF] at hR
   subst hR
   repeat' (first|(with_reducible first|apply qA|apply qB|apply qC|apply qD|apply qE|apply qF)|(refine DW.ord rfl (WF.of (by first|rfl|simp (disch:=omega) only [go_sem, simprocAttr, qN, qO, qP, qQ, hd])) ?_ ?_ ?_; rotate_left)|rfl|(with_reducible refine And.intro ?_ ?_)|(simp (disch:=omega) only [go_sem, simprocAttr, qN, qO, qP, qQ, hd])|exact qM rfl rfl rfl|(refine qG rfl ?_)|(refine qH rfl ?_)|(refine qI rfl ?_ ?_<;>intro hc<;>(try simp only [go_sem] at hc))|(refine qJ ?_ ?_<;>intro hc<;>(try simp only [hc])<;>(try simp only [go_sem] at hc)))
   exact srRet lm p l P S (.inr rfl) rfl
  have hwo := hP ws (List.mem_of_getElem? hws)
  have hw4 := hwo.ws4 hp
  have hdr : P.drop j = ws :: P.drop (j + 1) := by rw [List.drop_eq_getElem_cons hlt, (List.getElem_eq_iff hlt).2 hws]
  rw [hdr, loopF] at hR
  have hroom := trRoom b2 false (decide (m = 0)) lm p l hl ho P S got hg (fun v hv => by have := hgb v hv; omega) ws hw4
  have hlo := room_lo1 (decide (m = 0)) l got ws 30
  have hhi := room_hi (decide (m = 0)) l got ws 1 30 (by decide)
  generalize roomF (decide (m = 0)) l got ws 1 30 = RM at *
  obtain ⟨lo, hi⟩ := RM
  dsimp only at hroom hlo hhi hR
  repeat' (first|(with_reducible first|apply qA|apply qB|apply qC|apply qD|apply qE|apply qF)|(refine DW.ord rfl (WF.of (by first|rfl|simp (disch:=omega) only [go_sem, simprocAttr, qN, qO, qP, qQ, hd, hws, e1, rF, rG])) ?_ ?_ ?_; rotate_left)|rfl|(with_reducible refine And.intro ?_ ?_)|(simp (disch:=omega) only [go_sem, simprocAttr, qN, qO, qP, qQ, hd, hws, e1, rF, rG])|exact qM rfl rfl rfl|(refine qG rfl ?_)|(refine qH rfl ?_)|(refine qI rfl ?_ ?_<;>intro hc<;>(try simp only [go_sem] at hc))|(refine qJ ?_ ?_<;>intro hc<;>(try simp only [hc])<;>(try simp only [go_sem] at hc)))
  refine call_hk 14 hroom rfl rfl rfl (by simp (disch:=omega) only [go_sem,simprocAttr,qN,qO,qP,qQ,del]) (by decide) ?_
  simp (disch:=omega) only [go_sem,simprocAttr,qN,qO,qP,qQ,rF,rG,del]
  repeat' (first|(with_reducible first|apply qA|apply qB|apply qC|apply qD|apply qE|apply qF)|(refine DW.ord rfl (WF.of (by first|rfl|simp (disch:=omega) only [go_sem, simprocAttr, qN, qO, qP, qQ, rF, rG])) ?_ ?_ ?_; rotate_left)|rfl|(with_reducible refine And.intro ?_ ?_)|(simp (disch:=omega) only [go_sem, simprocAttr, qN, qO, qP, qQ, rF, rG])|exact qM rfl rfl rfl|(refine qG rfl ?_)|(refine qH rfl ?_)|(refine qI rfl ?_ ?_<;>intro hc<;>(try simp only [go_sem] at hc))|(refine qJ ?_ ?_<;>intro hc<;>(try simp only [hc])<;>(try simp only [go_sem] at hc)))
  have hpb := patB_b hwo.pat
  have hpt := hp.trim
  have htr := trTrim false false p hp l hl ho ws hw4
  have hcl := trClipS plan
  generalize hT : trimI p l ws = T at *
  rcases m with _ | m
  ·
   rw [decide_eq_true rfl] at *
   refine DW.loop (ι := Unit) (fun _ => ⟨134, [(14, dI lo), (13, .box 13 0), (12, dI j), (0, srD lm), (1, dSt false plan), (3, dI M), (4, dI waste), (5, dIs b2 got)], [srB lm p l P S, (13, .box [dI lo, dI hi])]⟩) (fun _ => 0) () ?_ ?_
   ·refine Ent.to ?_ ?_ <;> simp (disch:=omega) only [qR,qS,qTw,qU,get,Nat.reduceEqDiff,↓reduceIte,qV,qW,qX,qY,qZ,and_self,dI,i64_in,and_true,true_and,rA,rB,rC,rD]
    all_goals first | exact ⟨.refl _, .refl _⟩ | exact .refl _
   rintro ⟨⟩
   by_cases hc : lo ≤ hi
   ·have hdc : decide (lo ≤ hi) = true := decide_eq_true hc
    have m1 : 0 ≤ T * lo := Int.mul_nonneg (by omega) (by omega)
    have m2 : T * lo ≤ 3000 * lo := Int.mul_le_mul_of_nonneg_right (by omega) (by omega)
    have had := trAdd b2 false got ws lo (fun v hv => by have := hgb v hv; omega) (by omega) (by have := hwo.len; omega) hw4.b (by omega)
    have hgb2 := addG_b hgb hw4.b (show 0 ≤ lo by omega)
    have hgl2 : (addG got ws lo).length = l.length := by rw [addG_len]; exact hg
    have w1 : IntKind.i64.wrap (T * lo) = T * lo := IntWalk.i64_in _ (by omega)
    have w2 : IntKind.i64.wrap (waste + T * lo) = waste + T * lo := IntWalk.i64_in _ (by omega)
    have hrec := ih lm false (j + 1) (plan ++ [⟨ws, lo⟩]) (waste + T * lo) (addG got ws lo) S hlt (by simp; omega) (by simp only [List.length_append, List.length_cons, List.length_nil, Int.natCast_add]; omega) hgl2 (fun v hv => by have := hgb2 v hv; simp only [List.length_append, List.length_cons, List.length_nil, Int.natCast_add]; omega)
    rw [cntF, if_pos rfl, if_pos hc] at hR
    simp only [runF] at hR
    rw [hT] at hR
    generalize addG got ws lo = G at *
    generalize tryF p l 0 (P.drop (j + 1)) (plan ++ [⟨ws, lo⟩]) (waste + T * lo) G S = S2 at *
    repeat' (first|(with_reducible first|apply qA|apply qB|apply qC|apply qD|apply qE|apply qF)|(refine DW.ord rfl (WF.of (by first|rfl|simp (disch:=omega) only [go_sem, simprocAttr, qN, qO, qP, qQ, hdc, hws, w1, w2, rows_snocS, sM, shut2, rF, rG])) ?_ ?_ ?_; rotate_left)|rfl|(with_reducible refine And.intro ?_ ?_)|(simp (disch:=omega) only [go_sem, simprocAttr, qN, qO, qP, qQ, hdc, hws, w1, w2, rows_snocS, sM, shut2, rF, rG])|exact qM rfl rfl rfl|(refine qG rfl ?_)|(refine qK (hcl) (by decide) ?_)|(refine qK (htr) (by decide) ?_)|(refine qK (had) (by decide) ?_)|(refine qH rfl ?_)|(refine qI rfl ?_ ?_<;>intro hc<;>(try simp only [go_sem] at hc))|(refine qJ ?_ ?_<;>intro hc<;>(try simp only [hc])<;>(try simp only [go_sem] at hc)))
    refine call_hk 14 hrec rfl rfl rfl (by simp (disch:=omega) only [go_sem,simprocAttr,qN,qO,qP,qQ,del]) (by decide) ?_
    simp (disch:=omega) only [go_sem,simprocAttr,qN,qO,qP,qQ,rF,rG,del]
    repeat' (first|(with_reducible first|apply qA|apply qB|apply qC|apply qD|apply qE|apply qF)|(refine DW.ord rfl (WF.of (by first|rfl|simp (disch:=omega) only [go_sem, simprocAttr, qN, qO, qP, qQ, e1, rF, rG])) ?_ ?_ ?_; rotate_left)|rfl|(with_reducible refine And.intro ?_ ?_)|(simp (disch:=omega) only [go_sem, simprocAttr, qN, qO, qP, qQ, e1, rF, rG])|exact qM rfl rfl rfl|(refine qG rfl ?_)|(refine qH rfl ?_)|(refine qI rfl ?_ ?_<;>intro hc<;>(try simp only [go_sem] at hc))|(refine qJ ?_ ?_<;>intro hc<;>(try simp only [hc])<;>(try simp only [go_sem] at hc)))
    refine ⟨⟨(j + 1, S2), hlt, hR⟩, ?_, Ent.to ?_ ?_⟩ <;> first | (show _ < _; (try simp only); omega) | (simp (disch:=omega) only [qR,qS,qTw,qU,get,Nat.reduceEqDiff,↓reduceIte,qV,qW,qX,qY,qZ,and_self,dI,i64_in,and_true,true_and,rA,rB,rC,rD])
    all_goals first | exact ⟨.refl _, .refl _⟩ | exact .refl _
   ·have hdc : decide (lo ≤ hi) = false := decide_eq_false hc
    rw [cntF, if_pos rfl, if_neg hc] at hR
    simp only [runF] at hR
    repeat' (first|(with_reducible first|apply qA|apply qB|apply qC|apply qD|apply qE|apply qF)|(refine DW.ord rfl (WF.of (by first|rfl|simp (disch:=omega) only [go_sem, simprocAttr, qN, qO, qP, qQ, hdc])) ?_ ?_ ?_; rotate_left)|rfl|(with_reducible refine And.intro ?_ ?_)|(simp (disch:=omega) only [go_sem, simprocAttr, qN, qO, qP, qQ, hdc])|exact qM rfl rfl rfl|(refine qG rfl ?_)|(refine qH rfl ?_)|(refine qI rfl ?_ ?_<;>intro hc<;>(try simp only [go_sem] at hc))|(refine qJ ?_ ?_<;>intro hc<;>(try simp only [hc])<;>(try simp only [go_sem] at hc)))
    refine ⟨⟨(j + 1, S), hlt, hR⟩, ?_, Ent.to ?_ ?_⟩ <;> first | (show _ < _; (try simp only); omega) | (simp (disch:=omega) only [qR,qS,qTw,qU,get,Nat.reduceEqDiff,↓reduceIte,qV,qW,qX,qY,qZ,and_self,dI,i64_in,and_true,true_and,rA,rB,rC,rD])
    all_goals first | exact ⟨.refl _, .refl _⟩ | exact .refl _
  ·
   rw [decide_eq_false (Nat.succ_ne_zero m)] at *
   rw [cntF, if_neg (by decide)] at hR
   refine DW.loop (ι := { y : Int × Srch // 1 ≤ y.1 ∧ loopF (tryF p l (m + 1)) false p l plan waste got (P.drop (j + 1)) (runF (tryF p l (m + 1) (P.drop (j + 1))) p l ws plan waste got (hi - y.1 + 1).toNat y.1 y.2) = R }) (fun y => ⟨134, [(14, dI y.1.1), (13, .box 13 0), (12, dI j), (0, srD lm), (1, dSt false plan), (3, dI M), (4, dI waste), (5, dIs b2 got)], [srB lm p l P y.1.2, (13, .box [dI lo, dI hi])]⟩) (fun y => (hi - y.1.1 + 1).toNat) ⟨(lo, S), hlo, hR⟩ ?_ ?_
   ·refine Ent.to ?_ ?_ <;> simp (disch:=omega) only [qR,qS,qTw,qU,get,Nat.reduceEqDiff,↓reduceIte,qV,qW,qX,qY,qZ,and_self,dI,i64_in,and_true,true_and,rA,rB,rC,rD]
    all_goals first | exact ⟨.refl _, .refl _⟩ | exact .refl _
   clear hR hroom
   rintro ⟨⟨r, S1⟩, hr, hR⟩
   dsimp only at hr hR ⊢
   by_cases hc : r ≤ hi
   ·have hdc : decide (r ≤ hi) = true := decide_eq_true hc
    have m1 : 0 ≤ T * r := Int.mul_nonneg (by omega) (by omega)
    have m2 : T * r ≤ 3000 * r := Int.mul_le_mul_of_nonneg_right (by omega) (by omega)
    have had := trAdd b2 false got ws r (fun v hv => by have := hgb v hv; omega) (by omega) (by have := hwo.len; omega) hw4.b (by omega)
    have hgb2 := addG_b hgb hw4.b (show 0 ≤ r by omega)
    have hgl2 : (addG got ws r).length = l.length := by rw [addG_len]; exact hg
    have w1 : IntKind.i64.wrap (T * r) = T * r := IntWalk.i64_in _ (by omega)
    have w2 : IntKind.i64.wrap (waste + T * r) = waste + T * r := IntWalk.i64_in _ (by omega)
    have hrec := ih lm false (j + 1) (plan ++ [⟨ws, r⟩]) (waste + T * r) (addG got ws r) S1 hlt (by simp; omega) (by simp only [List.length_append, List.length_cons, List.length_nil, Int.natCast_add]; omega) hgl2 (fun v hv => by have := hgb2 v hv; simp only [List.length_append, List.length_cons, List.length_nil, Int.natCast_add]; omega)
    have ec : (hi - r + 1).toNat = (hi - (r + 1) + 1).toNat + 1 := by omega
    rw [ec, runF, hT] at hR
    generalize addG got ws r = G at *
    generalize tryF p l (m + 1) (P.drop (j + 1)) (plan ++ [⟨ws, r⟩]) (waste + T * r) G S1 = S2 at *
    repeat' (first|(with_reducible first|apply qA|apply qB|apply qC|apply qD|apply qE|apply qF)|(refine DW.ord rfl (WF.of (by first|rfl|simp (disch:=omega) only [go_sem, simprocAttr, qN, qO, qP, qQ, hdc, hws, w1, w2, rows_snocS, sM, shut2, rF, rG])) ?_ ?_ ?_; rotate_left)|rfl|(with_reducible refine And.intro ?_ ?_)|(simp (disch:=omega) only [go_sem, simprocAttr, qN, qO, qP, qQ, hdc, hws, w1, w2, rows_snocS, sM, shut2, rF, rG])|exact qM rfl rfl rfl|(refine qG rfl ?_)|(refine qK (hcl) (by decide) ?_)|(refine qK (htr) (by decide) ?_)|(refine qK (had) (by decide) ?_)|(refine qH rfl ?_)|(refine qI rfl ?_ ?_<;>intro hc<;>(try simp only [go_sem] at hc))|(refine qJ ?_ ?_<;>intro hc<;>(try simp only [hc])<;>(try simp only [go_sem] at hc)))
    refine call_hk 14 hrec rfl rfl rfl (by simp (disch:=omega) only [go_sem,simprocAttr,qN,qO,qP,qQ,del]) (by decide) ?_
    simp (disch:=omega) only [go_sem,simprocAttr,qN,qO,qP,qQ,rF,rG,del]
    repeat' (first|(with_reducible first|apply qA|apply qB|apply qC|apply qD|apply qE|apply qF)|(refine DW.ord rfl (WF.of (by first|rfl|simp (disch:=omega) only [go_sem, simprocAttr, qN, qO, qP, qQ, e1, rF, rG])) ?_ ?_ ?_; rotate_left)|rfl|(with_reducible refine And.intro ?_ ?_)|(simp (disch:=omega) only [go_sem, simprocAttr, qN, qO, qP, qQ, e1, rF, rG])|exact qM rfl rfl rfl|(refine qG rfl ?_)|(refine qH rfl ?_)|(refine qI rfl ?_ ?_<;>intro hc<;>(try simp only [go_sem] at hc))|(refine qJ ?_ ?_<;>intro hc<;>(try simp only [hc])<;>(try simp only [go_sem] at hc)))
    refine ⟨⟨(r + 1, S2), by omega, hR⟩, ?_, Ent.to ?_ ?_⟩ <;> first | (show _ < _; (try simp only); omega) | (simp (disch:=omega) only [qR,qS,qTw,qU,get,Nat.reduceEqDiff,↓reduceIte,qV,qW,qX,qY,qZ,and_self,dI,i64_in,and_true,true_and,rA,rB,rC,rD])
    all_goals first | exact ⟨.refl _, .refl _⟩ | exact .refl _
   ·have hdc : decide (r ≤ hi) = false := decide_eq_false hc
    have ec : (hi - r + 1).toNat = 0 := by omega
    rw [ec, runF] at hR
    repeat' (first|(with_reducible first|apply qA|apply qB|apply qC|apply qD|apply qE|apply qF)|(refine DW.ord rfl (WF.of (by first|rfl|simp (disch:=omega) only [go_sem, simprocAttr, qN, qO, qP, qQ, hdc])) ?_ ?_ ?_; rotate_left)|rfl|(with_reducible refine And.intro ?_ ?_)|(simp (disch:=omega) only [go_sem, simprocAttr, qN, qO, qP, qQ, hdc])|exact qM rfl rfl rfl|(refine qG rfl ?_)|(refine qH rfl ?_)|(refine qI rfl ?_ ?_<;>intro hc<;>(try simp only [go_sem] at hc))|(refine qJ ?_ ?_<;>intro hc<;>(try simp only [hc])<;>(try simp only [go_sem] at hc)))
    refine ⟨⟨(j + 1, S1), hlt, hR⟩, ?_, Ent.to ?_ ?_⟩ <;> first | (show _ < _; (try simp only); omega) | (simp (disch:=omega) only [qR,qS,qTw,qU,get,Nat.reduceEqDiff,↓reduceIte,qV,qW,qX,qY,qZ,and_self,dI,i64_in,and_true,true_and,rA,rB,rC,rD])
    all_goals first | exact ⟨.refl _, .refl _⟩ | exact .refl _
theorem trTry (p : TPap) (hp : p.ok) (l : List TOrd) (hl : l.length ≤ 4) (ho : ∀ o ∈ l, o.ok) (P : List (List Int)) (hP : ∀ ws ∈ P, WsOk p l ws) (hPl : P.length ≤ 625) : ∀ m, TryC p l P m
 | 0 => trTry0 p l hl P
 | m + 1 => trTryS p hp l hl ho P hP hPl m (trTry p hp l hl ho P hP hPl m)
end Go.Dw.Seat.Tr
end
section
set_option linter.unusedSimpArgs false
set_option maxRecDepth 100000
namespace Go.Dw.Seat.Tr
open Go Go.Dw Go.Proofs Go.IntWalk
def planD (r : Option (List TStp × Int)) : D := match r with
 | some x => .tup [dSt false x.1, dI x.2, bD true]
 | none => .tup [.c (.v (.slice none 0 0)), dI 0, bD false]
set_option maxHeartbeats 2000000 in
theorem trPlanM (p : TPap) (hp : p.ok) (l : List TOrd) (hl : l.length ≤ 4) (ho : ∀ o ∈ l, o.ok) : DCall Try.prog 124 [macD false p l] [] (planD (planF p l)) [] := by
 have hall := trAll p hp l hl ho
 have hPl := patsX_len4 p hp l hl
 rw [patsX_all p hp l] at hall hPl
 have htry := trTry p hp l hl ho (pats p l) (pats_ok p l).ok hPl
 have hpf : planF p l = (List.range 4).findSome? fun n => if (srch p l n).found then some ((srch p l n).best, (srch p l n).waste) else none := rfl
 have hsr : ∀ n, srch p l n = tryF p l n ((pats p l).drop 0) [] 0 (zeros l.length) ⟨[], 0, false⟩ := fun n => rfl
 generalize pats p l = P at *
 generalize hR : planF p l = R at *
 refine DCall.of Try.func124 sf124 hb124 (Nat.le_of_ble_eq_true rfl) (okRes_nil fun _ => by rcases R with _ | ⟨q, w⟩ <;> rfl) ?_
 simp only [s124, idxs, Nat.reduceAdd]
 repeat' (first|(with_reducible first|apply qA|apply qB|apply qC|apply qD|apply qE|apply qF)|(refine qL rfl (WF.of ?_) ?_; first|rfl|skip)|(simp (disch:=omega) only [go_sem, simprocAttr, qN, qO, qP, qQ])|exact qM rfl rfl rfl|(refine qG rfl ?_)|(refine qH rfl ?_)|(refine qI rfl ?_ ?_<;>intro hc<;>(try simp only [go_sem] at hc))|(refine qJ ?_ ?_<;>intro hc<;>(try simp only [hc])<;>(try simp only [go_sem] at hc)))
 refine DW.loop (ι := { n : Nat // n ≤ 4 ∧ ((List.range 4).drop n).findSome? (fun n => if (srch p l n).found then some ((srch p l n).best, (srch p l n).waste) else none) = R }) (fun n => ⟨35, [(7, dI n.1), (1, .box 1 0)], [(1, .box [dI p.wide, dI p.tl, dI p.th, dI p.webs, .c (.sl false 3 (rows eO l))])]⟩) (fun n => 4 - n.1) ⟨0, Nat.zero_le _, hpf.symm⟩ ?_ ?_
 ·refine Ent.to ?_ ?_ <;> simp (disch:=omega) only [qR,qS,qTw,qU,get,Nat.reduceEqDiff,↓reduceIte,qV,qW,qX,qY,qZ,and_self,dI,i64_in,and_true,true_and,rA,rB,rC,rD]
  all_goals first | exact ⟨.refl _, .refl _⟩ | exact .refl _
 rintro ⟨n, hn, hf⟩
 dsimp only at hn hf ⊢
 by_cases h4 : n < 4
 ·have hd : decide ((n : Int) < 4) = true := decide_eq_true (by omega)
  have hdr : (List.range 4).drop n = n :: (List.range 4).drop (n + 1) := by
   rw [List.drop_eq_getElem_cons (by simpa using h4)]; simp
  rw [hdr, List.findSome?_cons] at hf
  have hs := hsr n
  repeat' (first|(with_reducible first|apply qA|apply qB|apply qC|apply qD|apply qE|apply qF)|(refine qL rfl (WF.of ?_) ?_; first|rfl|skip)|(simp (disch:=omega) only [go_sem, simprocAttr, qN, qO, qP, qQ, hd])|exact qM rfl rfl rfl|(refine qG rfl ?_)|(refine qH rfl ?_)|(refine qI rfl ?_ ?_<;>intro hc<;>(try simp only [go_sem] at hc))|(refine qJ ?_ ?_<;>intro hc<;>(try simp only [hc])<;>(try simp only [go_sem] at hc)))
  (refine call_c (hall) (by decide) ?_; simp (disch:=omega) only [go_sem,simprocAttr,qN,qO,qP,qQ])
  refine DW.ent (Ent.to (tm' := [(7, dI n), (6, .box 14 0), (5, dI n), (1, .box 1 0)]) (bx' := [(14, .box (srC p l P ⟨[], 0, false⟩)), (1, .box [dI p.wide, dI p.tl, dI p.th, dI p.webs, .c (.sl false 3 (rows eO l))])]) ?_ ?_) ?_
  ·simp (disch:=omega) only [qR,qS,qTw,qU,get,Nat.reduceEqDiff,↓reduceIte,qV,qW,qX,qY,qZ,and_self,dI,i64_in,and_true,true_and,rA,rB,rC,rD]
  ·simp (disch:=omega) only [qR,qS,qTw,qU,get,Nat.reduceEqDiff,↓reduceIte,qV,qW,qX,qY,qZ,and_self,dI,i64_in,and_true,true_and,rA,rB,rC,rD]
   exact .box (.cons (.refl _) (.cons (.refl _) (.cons (.refl _) (.cons (.refl _) (.cons (.refl _) (.cons (.refl _) (.cons (.nil _ _) (.cons (.refl _) (.cons (.refl _) .nil)))))))))
  refine DW.pin 14 rfl rfl fun lm => ?_
  simp (disch:=omega) only [go_sem,simprocAttr,qN,qO,qP,qQ,pinT,pinX,pinD,pinDs,pinB,pinO]
  have htn := DCall.weakA (l := [srD lm, .c (.v (.slice none 0 0)), dI (0 : Nat), dI n, dI 0, dIs true (zeros l.length)]) (htry n lm true 0 [] 0 (zeros l.length) ⟨[], 0, false⟩ (Nat.zero_le _) (by simp; omega) (by simp) (by simp [zeros]) (fun v hv => by have := List.eq_of_mem_replicate hv; subst this; simp)) (.cons (.inl rfl) (.cons (.inr ⟨_, _, rfl, rfl, .nil _ _⟩) (.cons (.inl rfl) (.cons (.inl rfl) (.cons (.inl rfl) (.cons (.inl rfl) .nil))))))
  rw [← hs] at htn
  generalize srch p l n = S at *
  obtain ⟨B, w, F⟩ := S
  repeat' (first|(with_reducible first|apply qA|apply qB|apply qC|apply qD|apply qE|apply qF)|(refine qL rfl (WF.of ?_) ?_; first|rfl|skip)|(simp (disch:=omega) only [go_sem, simprocAttr, qN, qO, qP, qQ])|exact qM rfl rfl rfl|(refine qG rfl ?_)|(refine qH rfl ?_)|(refine qI rfl ?_ ?_<;>intro hc<;>(try simp only [go_sem] at hc))|(refine qJ ?_ ?_<;>intro hc<;>(try simp only [hc])<;>(try simp only [go_sem] at hc)))
  refine call_hk 14 htn rfl rfl (by simp (disch:=omega) only [go_sem,simprocAttr,qN,qO,qP,qQ,del,zeros,rG]) (by simp (disch:=omega) only [go_sem,simprocAttr,qN,qO,qP,qQ,del]) (by decide) ?_
  simp (disch:=omega) only [go_sem,simprocAttr,qN,qO,qP,qQ,del]
  cases F with
  | true =>
   dsimp only at hf
   rw [if_pos rfl] at hf
   cases hf
   simp only [planD]
   repeat' (first|(with_reducible first|apply qA|apply qB|apply qC|apply qD|apply qE|apply qF)|(refine qL rfl (WF.of ?_) ?_; first|rfl|skip)|(simp (disch:=omega) only [go_sem, simprocAttr, qN, qO, qP, qQ])|exact qM rfl rfl rfl|(refine qG rfl ?_)|(refine qH rfl ?_)|(refine qI rfl ?_ ?_<;>intro hc<;>(try simp only [go_sem] at hc))|(refine qJ ?_ ?_<;>intro hc<;>(try simp only [hc])<;>(try simp only [go_sem] at hc)))
   refine retS_wk rfl ?_ (by simp only [Blk.nb, rowC_nb, D.nb, D.nbs, C.nb, C.nbs, C.nbss, rows_nb eI_nb, Bool.and_true, Bool.not_false, Bool.and_self, bD, dI, iD, rows_nb eO_nb, rows_nb eSt_nb, rows_nb eWs_nb]); exact .refl _
  | false =>
   dsimp only at hf
   rw [if_neg (by decide)] at hf
   repeat' (first|(with_reducible first|apply qA|apply qB|apply qC|apply qD|apply qE|apply qF)|(refine qL rfl (WF.of ?_) ?_; first|rfl|skip)|(simp (disch:=omega) only [go_sem, simprocAttr, qN, qO, qP, qQ])|exact qM rfl rfl rfl|(refine qG rfl ?_)|(refine qH rfl ?_)|(refine qI rfl ?_ ?_<;>intro hc<;>(try simp only [go_sem] at hc))|(refine qJ ?_ ?_<;>intro hc<;>(try simp only [hc])<;>(try simp only [go_sem] at hc)))
   refine ⟨⟨n + 1, by omega, hf⟩, ?_, Ent.to ?_ ?_⟩ <;> first | (show _ < _; (try simp only); omega) | (simp (disch:=omega) only [qR,qS,qTw,qU,get,Nat.reduceEqDiff,↓reduceIte,qV,qW,qX,qY,qZ,and_self,dI,i64_in,and_true,true_and,rA,rB,rC,rD])
   all_goals first | exact ⟨.refl _, .refl _⟩ | exact .refl _
 ·have hd : decide ((n : Int) < 4) = false := decide_eq_false (by omega)
  obtain rfl : n = 4 := by omega
  subst hf
  repeat' (first|(with_reducible first|apply qA|apply qB|apply qC|apply qD|apply qE|apply qF)|(refine qL rfl (WF.of ?_) ?_; first|rfl|skip)|(simp (disch:=omega) only [go_sem, simprocAttr, qN, qO, qP, qQ, hd])|exact qM rfl rfl rfl|(refine qG rfl ?_)|(refine qH rfl ?_)|(refine qI rfl ?_ ?_<;>intro hc<;>(try simp only [go_sem] at hc))|(refine qJ ?_ ?_<;>intro hc<;>(try simp only [hc])<;>(try simp only [go_sem] at hc)))
end Go.Dw.Seat.Tr
end
section
set_option linter.unusedSimpArgs false
set_option maxRecDepth 100000
namespace Go.Dw.Seat.Tr
open Go Go.Dw Go.Proofs Go.IntWalk
theorem rowC_snocS (q : List TStp) (s : TStp) : rowC (rows eSt q) ++ [[D.c (.sl false 1 (rows eI s.ws)), D.c (.v (.int .i64 s.run))]] = rowC (rows eSt (q ++ [s])) := by simp [rowC, rows, eSt]
set_option maxHeartbeats 2000000 in
theorem trOwn (b : Bool) (q : List TStp) (hq : q.length ≤ 1000) (hw : ∀ s ∈ q, s.ws.length ≤ 2 ^ 36) : DCall Try.prog 125 [dSt b q] [] (dSt false q) [] := by
 refine DCall.of Try.func125 sf125 hb125 (Nat.le_of_ble_eq_true rfl) (okRes_nil fun _ => rfl) ?_; simp only [s125, idxs, Nat.reduceAdd]
 repeat' (first|(with_reducible first|apply qA|apply qB|apply qC|apply qD|apply qE|apply qF)|(refine qL rfl (WF.of ?_) ?_; first|rfl|skip)|(simp (disch:=omega) only [go_sem, simprocAttr, qN, qO, qP, qQ])|exact qM rfl rfl rfl|(refine qG rfl ?_)|(refine qH rfl ?_)|(refine qI rfl ?_ ?_<;>intro hc<;>(try simp only [go_sem] at hc))|(refine qJ ?_ ?_<;>intro hc<;>(try simp only [hc])<;>(try simp only [go_sem] at hc)))
 refine DW.ent (Ent.adopt 2 19 2 rfl rfl rfl) ?_
 refine DW.loop (ι := { i : Nat // i ≤ q.length }) (fun i => ⟨22, [(7, dI i.1), (6, dI q.length), (5, dSt b q), (2, .own 19)], [(19, .row 2 (rowC (rows eSt (q.take i.1))))]⟩) (fun i => q.length - i.1) ⟨0, Nat.zero_le _⟩ ?_ ?_
 ·refine Ent.to ?_ ?_ <;> simp (disch:=omega) only [qR,qS,qTw,qU,get,Nat.reduceEqDiff,↓reduceIte,qV,qW,qX,qY,qZ,and_self,dI,i64_in,and_true,true_and,rA,rB,rC,rD,ins,Nat.reduceLT,List.take_zero]
  all_goals first | exact ⟨.refl _, .refl _⟩ | exact .refl _
 rintro ⟨i, hi⟩
 dsimp only
 rcases at_or q i hi with ⟨s, hs, hlt, hd⟩ | ⟨he, hd⟩
 ·have hc := c106 false s.ws (hw s (List.mem_of_getElem? hs)) 14
  have htk : q.take (i + 1) = q.take i ++ [s] := by rw [List.take_add_one, hs]; rfl
  have hlen : (q.take i).length ≤ 1000 := by rw [List.length_take]; omega
  generalize q.take i = Q at *
  repeat' (first|(with_reducible first|apply qA|apply qB|apply qC|apply qD|apply qE|apply qF)|(refine qL rfl (WF.of ?_) ?_; first|rfl|skip)|(simp (disch:=omega) only [go_sem, simprocAttr, qN, qO, qP, qQ, hd, hs, rF, rG])|exact qM rfl rfl rfl|(refine qG rfl ?_)|(refine qH rfl ?_)|(refine qI rfl ?_ ?_<;>intro hc<;>(try simp only [go_sem] at hc))|(refine qJ ?_ ?_<;>intro hc<;>(try simp only [hc])<;>(try simp only [go_sem] at hc)))
  (refine call_r (hc) (by decide) (by first | rfl | simp (disch:=omega) only [go_sem,simprocAttr,qN,qO,qP,qQ]) (by first | rfl | simp (disch:=omega) only [go_sem,simprocAttr,qN,qO,qP,qQ]) ?_; simp (disch:=omega) only [go_sem,simprocAttr,qN,qO,qP,qQ])
  repeat' (first|(with_reducible first|apply qA|apply qB|apply qC|apply qD|apply qE|apply qF)|(refine qL rfl (WF.of ?_) ?_; first|rfl|skip)|(simp (disch:=omega) only [go_sem, simprocAttr, qN, qO, qP, qQ])|exact qM rfl rfl rfl|(refine qG rfl ?_)|(refine qH rfl ?_)|(refine qI rfl ?_ ?_<;>intro hc<;>(try simp only [go_sem] at hc))|(refine qJ ?_ ?_<;>intro hc<;>(try simp only [hc])<;>(try simp only [go_sem] at hc)))
  refine ⟨⟨i + 1, hlt⟩, by (show _ < _; (try simp only); omega), (Ent.rel 14 rfl).trans ?_⟩; simp (disch:=omega) only [go_sem,simprocAttr,qN,qO,qP,qQ, htk,rowC_snocS]; refine Ent.to ?_ ?_ <;> (simp (disch:=omega) only [qR,qS,qTw,qU,get,Nat.reduceEqDiff,↓reduceIte,qV,qW,qX,qY,qZ,and_self,dI,i64_in,and_true,true_and,rA,rB,rC,rD, htk,rowC_snocS])
  all_goals first | exact ⟨.refl _, .refl _⟩ | exact .refl _ | skip
 ·subst he
  rw [List.take_length]
  repeat' (first|(with_reducible first|apply qA|apply qB|apply qC|apply qD|apply qE|apply qF)|(refine qL rfl (WF.of ?_) ?_; first|rfl|skip)|(simp (disch:=omega) only [go_sem, simprocAttr, qN, qO, qP, qQ, hd])|exact qM rfl rfl rfl|(refine qG rfl ?_)|(refine qH rfl ?_)|(refine qI rfl ?_ ?_<;>intro hc<;>(try simp only [go_sem] at hc))|(refine qJ ?_ ?_<;>intro hc<;>(try simp only [hc])<;>(try simp only [go_sem] at hc)))
  (refine retS_ent (Ent.rel 19 rfl) ?_; simp (disch:=omega) only [go_sem,simprocAttr,qN,qO,qP,qQ])
  refine retS_wk rfl ?_ (by simp only [Blk.nb, rowC_nb, D.nb, D.nbs, C.nb, C.nbs, C.nbss, rows_nb eI_nb, Bool.and_true, Bool.not_false, Bool.and_self, bD, dI, iD, rows_nb eO_nb, rows_nb eSt_nb, rows_nb eWs_nb]); exact .refl _
end Go.Dw.Seat.Tr
end
section
set_option linter.unusedSimpArgs false
set_option maxRecDepth 100000
namespace Go.Dw.Seat.Tr
open Go Go.Dw Go.Proofs Go.IntWalk
theorem planF_ok {p : TPap} (hp : p.ok) {l : List TOrd} (hl : ∀ o ∈ l, o.ok) {q : List TStp} {w : Int} (h : planF p l = some (q, w)) : PlanOk p l q ∧ w = wasteF p l q := by
 have := plan_spec hp hl
 rw [h] at this
 exact ⟨this.1, this.2.1⟩
theorem plan_len {p : TPap} {l : List TOrd} {q : List TStp} (h : PlanOk p l q) : q.length ≤ 3 := h.len
def planX (p : TPap) (l : List TOrd) : D := if openE p l = 0 then (match planF p l with
 | some x => .tup [dSt false x.1, dI 0]
 | none => .tup [.c (.v (.slice none 0 0)), dI 9]) else .tup [.c (.v (.slice none 0 0)), dI (openE p l)]
set_option maxHeartbeats 1000000 in
theorem trPlanX (p : TPap) (l : List TOrd) (hl : l.length ≤ 2 ^ 36) : DCall Try.prog 75 [papD p, .c (.sl false 3 (rows eO l))] [] (planX p l) [] := by
 unfold planX
 by_cases h : openE p l = 0
 ·obtain ⟨hp, hl4, ho⟩ := openE_ok h
  have h1 := trOpen p l h
  have h2 := trPlanM p hp l hl4 ho
  rw [if_pos h]
  cases hR : planF p l with
  | none =>
   rw [hR] at h2
   simp only [planD] at h2
   refine DCall.of Try.func75 sf75 hb75 (Nat.le_of_ble_eq_true rfl) (okRes_nil fun _ => rfl) ?_; simp only [s75, idxs, Nat.reduceAdd]
   repeat' (first|(with_reducible first|apply qA|apply qB|apply qC|apply qD|apply qE|apply qF)|(simp (disch:=omega) only [go_sem, simprocAttr, qN, qO, qP, qQ])|exact qM rfl rfl rfl|(refine qG rfl ?_)|(refine qK (h1) (by decide) ?_)|(refine qK (h2) (by decide) ?_)|(refine qH rfl ?_)|(refine qI rfl ?_ ?_<;>intro hc<;>(try simp only [go_sem] at hc))|(refine qJ ?_ ?_<;>intro hc<;>(try simp only [hc])<;>(try simp only [go_sem] at hc)))
  | some x =>
   obtain ⟨q, w⟩ := x
   have hq := planF_ok hp ho hR
   have hws := plan_ws hq.1
   have h3 := trOwn false q (by have := plan_len hq.1; omega) (fun s hs => by have := (hws s hs).1.len; omega)
   rw [hR] at h2
   simp only [planD] at h2
   refine DCall.of Try.func75 sf75 hb75 (Nat.le_of_ble_eq_true rfl) (okRes_nil fun _ => rfl) ?_; simp only [s75, idxs, Nat.reduceAdd]
   repeat' (first|(with_reducible first|apply qA|apply qB|apply qC|apply qD|apply qE|apply qF)|(simp (disch:=omega) only [go_sem, simprocAttr, qN, qO, qP, qQ])|exact qM rfl rfl rfl|(refine qG rfl ?_)|(refine qK (h1) (by decide) ?_)|(refine qK (h2) (by decide) ?_)|(refine qK (h3) (by decide) ?_)|(refine qH rfl ?_)|(refine qI rfl ?_ ?_<;>intro hc<;>(try simp only [go_sem] at hc))|(refine qJ ?_ ?_<;>intro hc<;>(try simp only [hc])<;>(try simp only [go_sem] at hc)))
   refine retS_wk rfl ?_ (by simp only [Blk.nb, rowC_nb, D.nb, D.nbs, C.nb, C.nbs, C.nbss, rows_nb eI_nb, Bool.and_true, Bool.not_false, Bool.and_self, bD, dI, iD, rows_nb eO_nb, rows_nb eSt_nb, rows_nb eWs_nb]); exact .refl _
 ·have h1 := trOpenE false p l hl h
  rw [if_neg h]
  generalize openE p l = e at *
  have hd : (e != 0) = true := by simpa using h
  refine DCall.of Try.func75 sf75 hb75 (Nat.le_of_ble_eq_true rfl) (okRes_nil fun _ => rfl) ?_; simp only [s75, idxs, Nat.reduceAdd]
  repeat' (first|(with_reducible first|apply qA|apply qB|apply qC|apply qD|apply qE|apply qF)|(simp (disch:=omega) only [go_sem, simprocAttr, qN, qO, qP, qQ, hd])|exact qM rfl rfl rfl|(refine qG rfl ?_)|(refine qK (h1) (by decide) ?_)|(refine qH rfl ?_)|(refine qI rfl ?_ ?_<;>intro hc<;>(try simp only [go_sem] at hc))|(refine qJ ?_ ?_<;>intro hc<;>(try simp only [hc])<;>(try simp only [go_sem] at hc)))
structure TOff where
 paper : Int
 setups : Int
 waste : Int
def eOf (o : TOff) : List C := [.v (.int .i64 o.paper), .v (.int .i64 o.setups), .v (.int .i64 o.waste)]
attribute [go_sem] eOf
def TOff.ok (o : TOff) : Prop := (0 ≤ o.paper ∧ o.paper ≤ 1000000000) ∧ (0 ≤ o.setups ∧ o.setups ≤ 1000000000) ∧ 0 ≤ o.waste ∧ o.waste ≤ 1000000000
end Go.Dw.Seat.Tr
end
section
set_option linter.unusedSimpArgs false
set_option maxRecDepth 100000
namespace Go.Dw.Seat.Tr
open Go Go.Dw Go.Proofs Go.IntWalk
def getX (p : TPap) (l : List TOrd) (q : List TStp) : (List Int × Int) ⊕ (Int × Int) := if openE p l = 0 then doesA p l q else .inr (0, openE p l)
set_option maxHeartbeats 1000000 in
theorem trGetX (p : TPap) (l : List TOrd) (hl : l.length ≤ 2 ^ 36) (q : List TStp) (hqw : ∀ s ∈ q, s.ws.length ≤ 2 ^ 36) : DCall Try.prog 28 [papD p, .c (.sl false 3 (rows eO l)), dSt false q] [] (doesD (getX p l q)) [] := by
 by_cases h : openE p l = 0
 ·obtain ⟨hp, hl4, ho⟩ := openE_ok h
  have h1 := trOpen p l h
  have h2 := trDoes p hp l hl4 ho q hqw
  rw [getX, if_pos h]
  generalize doesA p l q = R at *
  rcases R with ⟨g, w⟩ | ⟨i, e⟩ <;> simp only [doesD] at h2 ⊢
  ·refine DCall.of Try.func28 sf28 hb28 (Nat.le_of_ble_eq_true rfl) (okRes_nil fun _ => rfl) ?_; simp only [s28, idxs, Nat.reduceAdd]
   repeat' (first|(with_reducible first|apply qA|apply qB|apply qC|apply qD|apply qE|apply qF)|(simp (disch:=omega) only [go_sem, simprocAttr, qN, qO, qP, qQ])|exact qM rfl rfl rfl|(refine qG rfl ?_)|(refine qK (h1) (by decide) ?_)|(refine qK (h2) (by decide) ?_)|(refine qH rfl ?_)|(refine qI rfl ?_ ?_<;>intro hc<;>(try simp only [go_sem] at hc))|(refine qJ ?_ ?_<;>intro hc<;>(try simp only [hc])<;>(try simp only [go_sem] at hc)))
   refine retS_wk rfl ?_ (by simp only [Blk.nb, rowC_nb, D.nb, D.nbs, C.nb, C.nbs, C.nbss, rows_nb eI_nb, Bool.and_true, Bool.not_false, Bool.and_self, bD, dI, iD, rows_nb eO_nb, rows_nb eSt_nb]); exact .refl _
  ·refine DCall.of Try.func28 sf28 hb28 (Nat.le_of_ble_eq_true rfl) (okRes_nil fun _ => rfl) ?_; simp only [s28, idxs, Nat.reduceAdd]
   repeat' (first|(with_reducible first|apply qA|apply qB|apply qC|apply qD|apply qE|apply qF)|(simp (disch:=omega) only [go_sem, simprocAttr, qN, qO, qP, qQ])|exact qM rfl rfl rfl|(refine qG rfl ?_)|(refine qK (h1) (by decide) ?_)|(refine qK (h2) (by decide) ?_)|(refine qH rfl ?_)|(refine qI rfl ?_ ?_<;>intro hc<;>(try simp only [go_sem] at hc))|(refine qJ ?_ ?_<;>intro hc<;>(try simp only [hc])<;>(try simp only [go_sem] at hc)))
 ·have h1 := trOpenE false p l hl h
  rw [getX, if_neg h]
  simp only [doesD]
  generalize openE p l = e at *
  have hd : (e != 0) = true := by simpa using h
  refine DCall.of Try.func28 sf28 hb28 (Nat.le_of_ble_eq_true rfl) (okRes_nil fun _ => rfl) ?_; simp only [s28, idxs, Nat.reduceAdd]
  repeat' (first|(with_reducible first|apply qA|apply qB|apply qC|apply qD|apply qE|apply qF)|(simp (disch:=omega) only [go_sem, simprocAttr, qN, qO, qP, qQ, hd])|exact qM rfl rfl rfl|(refine qG rfl ?_)|(refine qK (h1) (by decide) ?_)|(refine qH rfl ?_)|(refine qI rfl ?_ ?_<;>intro hc<;>(try simp only [go_sem] at hc))|(refine qJ ?_ ?_<;>intro hc<;>(try simp only [hc])<;>(try simp only [go_sem] at hc)))
end Go.Dw.Seat.Tr
end
section
set_option linter.unusedSimpArgs false
set_option maxRecDepth 100000
namespace Go.Dw.Seat.Tr
open Go Go.Dw Go.Proofs Go.IntWalk
def eP (p : TPap) : List C := [.v (.int .i64 p.wide), .v (.int .i64 p.tl), .v (.int .i64 p.th), .v (.int .i64 p.webs)]
theorem eP_nb (v : TPap) : C.nbs (eP v) = true := rfl
attribute [go_sem] eP
end Go.Dw.Seat.Tr
end
section
set_option linter.unusedSimpArgs false
set_option maxRecDepth 100000
namespace Go.Dw.Seat.Tr
open Go Go.Dw Go.Proofs Go.IntWalk
theorem lexW_cmpT : ∀ {s t : List Int}, s.length = t.length → lexW s t = !decide (0 ≤ cmpL s t)
 | [], [], _ => rfl
 | a :: s, b :: t, h => by
  rw [lexW, cmpL]
  have ih := lexW_cmpT (s := s) (t := t) (by simpa using h)
  by_cases e : a = b
  ·subst e
   rw [if_pos rfl, if_pos (by unfold cmpI; rw [if_neg (by omega), if_neg (by omega)]), ih]
  ·rw [if_neg e]
   by_cases h1 : a < b
   ·have hc : cmpI a b = -1 := by unfold cmpI; rw [if_pos h1]
    rw [hc, if_neg (by decide), decide_eq_true h1]; rfl
   ·have hc : cmpI a b = 1 := by unfold cmpI; rw [if_neg h1, if_pos (by omega)]
    rw [hc, if_neg (by decide), decide_eq_false h1]; rfl
structure FineT (p : TPap) (l : List TOrd) (q : List TStp) : Prop where
 ok : ∀ s ∈ q, WsOk p l s.ws ∧ 1 ≤ s.run ∧ s.run ≤ 30
 asc : q.Pairwise fun a b => lexW a.ws b.ws = true
theorem stE_fineT {p : TPap} (hp : p.ok) {l : List TOrd} {s : TStp} (h : WsOk p l s.ws ∧ 1 ≤ s.run ∧ s.run ≤ 30) {pr : Option TStp} (hpr : ∀ w, pr = some w → w.ws.length = s.ws.length ∧ lexW w.ws s.ws = true) : stE p l pr s = 0 := by
 have h1 := websE_yes (h.1.ws4 hp) h.1.pat
 have h2 : wthn 1 30 [s.run] = true := wthn_yes (by simpa using h.2)
 unfold stE
 rw [if_neg (by simpa using h1), if_neg (by rw [h2]; decide), if_neg]
 cases pr with
 | none => simp
 | some w =>
  obtain ⟨g1, g2⟩ := hpr w rfl
  have := lexW_cmpT g1
  rw [g2] at this
  simpa using this.symm
theorem getR_fineT {p : TPap} (hp : p.ok) {l : List TOrd} : ∀ {q : List TStp} {pr : Option TStp} {G : List Int} {W : Int} {i : Nat}, FineT p l q → (∀ w, pr = some w → ∀ s ∈ q, w.ws.length = s.ws.length ∧ lexW w.ws s.ws = true) → getR p l pr G W i q = .inl (gotF G q, W + wasteF p l q)
 | [], _, G, W, i, _, _ => by rw [getR, gotF, wasteF, Int.add_zero]
 | s :: q, pr, G, W, i, h, hpr => by
  have h1 := stE_fineT hp (h.ok s (by simp)) (pr := pr) (fun w hw => hpr w hw s (by simp))
  obtain ⟨a1, a2⟩ := List.pairwise_cons.1 h.asc
  rw [getR, if_neg (by simpa using h1), getR_fineT hp (q := q) ⟨fun t ht => h.ok t (by simp [ht]), a2⟩ (fun w hw t ht => by
   cases hw
   exact ⟨by rw [(h.ok s (by simp)).1.len, (h.ok t (by simp [ht])).1.len], a1 t ht⟩), gotF, wasteF, Int.add_assoc]
theorem getX_fineT {p : TPap} (hp : p.ok) {l : List TOrd} (hl : l.length ≤ 4) (ho : ∀ o ∈ l, o.ok) {q : List TStp} (h : FineT p l q) (hq : q.length ≤ 3) (hd : doesP l q = true) : getX p l q = .inl (gotF (zeros l.length) q, wasteF p l q) := by
 have hw := wrong_does l (gotF (zeros l.length) q) (by rw [gotF_len]; simp [zeros])
 rw [show doesB l (gotF (zeros l.length) q) = true from hd, decide_eq_true_eq] at hw
 have hg : getA p l q = .inl (gotF (zeros l.length) q, wasteF p l q) := by
  unfold getA
  rw [if_neg (by omega), getR_fineT hp h (fun w hw => by cases hw), Int.zero_add]
 unfold getX
 rw [if_pos (openE_yes hp hl ho)]
 unfold doesA
 rw [hg]
 dsimp only
 rw [if_neg (by omega)]
def runI : List TStp → Int
 | [] => 0
 | s :: q => s.run + runI q
theorem dot_add : ∀ (G ws : List Int) (l : List TOrd) (r : Int), G.length = l.length → ws.length = l.length → dotI (addG G ws r) l = dotI G l + dotI ws l * r
 | [], [], [], _, _, _ => by simp [addG, dotI]
 | g :: G, n :: ws, o :: l, r, h1, h2 => by
  have ih := dot_add G ws l r (by simpa using h1) (by simpa using h2)
  rw [addG, dotI, dotI, dotI, ih, Int.add_mul, Int.add_mul, Int.mul_right_comm n r]
  omega
 | [], _ :: _, _, _, h1, h2 => by cases ‹List TOrd› <;> simp_all
 | _ :: _, [], _, _, h1, h2 => by cases ‹List TOrd› <;> simp_all
theorem area_law (p : TPap) (l : List TOrd) : ∀ (q : List TStp) (G : List Int), (∀ s ∈ q, s.ws.length = l.length) → G.length = l.length → dotI (gotF G q) l + wasteF p l q = dotI G l + p.wide * runI q
 | [], G, _, _ => by simp [gotF, wasteF, runI]
 | s :: q, G, h, hG => by
  have hs := h s (by simp)
  have ih := area_law p l q (addG G s.ws s.run) (fun t ht => h t (by simp [ht])) (by rw [addG_len]; exact hG)
  rw [gotF, wasteF, runI, Int.mul_add]
  rw [dot_add G s.ws l s.run hG hs] at ih
  have e : trimI p l s.ws * s.run = p.wide * s.run - dotI s.ws l * s.run := by unfold trimI; rw [Int.sub_mul]
  rw [e]
  omega
theorem waste_nnT {p : TPap} {l : List TOrd} : ∀ q : List TStp, (∀ s ∈ q, 0 ≤ trimI p l s.ws ∧ 1 ≤ s.run) → 0 ≤ wasteF p l q
 | [], _ => by simp [wasteF]
 | s :: q, h => by
  have hs := h s (by simp)
  have ih := waste_nnT q (fun t ht => h t (by simp [ht]))
  have := Int.mul_nonneg hs.1 (show 0 ≤ s.run by omega)
  rw [wasteF]
  omega
end Go.Dw.Seat.Tr
end
section
set_option linter.unusedSimpArgs false
set_option maxRecDepth 100000
namespace Go.Dw.Seat.Tr
open Go Go.Dw Go.Proofs Go.IntWalk
def rnA (x : ShY) : Int := 1 + ((x.s0 % 2 : Nat) : Int)
def rnB (x : ShY) : Int := 1 + ((x.s3 % 2 : Nat) : Int)
def rnR (x : ShY) : Int := 1 + ((x.s1 % 9 : Nat) : Int)
def rnS (x : ShY) : Int := 1 + ((x.s4 % 9 : Nat) : Int)
def rnL (x : ShY) (w2 : Int) : Int := 2900 - rnA x * w2
def rnM (x : ShY) (w0 w1 : Int) : Int := 2900 - w0 - rnB x * w1
def rnZ (x : ShY) : Int := ((x.t % 20 : Nat) : Int)
def rnG1 (x : ShY) : Int := rnB x * rnS x
def rnG2 (x : ShY) : Int := rnA x * rnR x
def rnP (x : ShY) (w0 w1 w2 : Int) : TPap := ⟨2900, min (rnL x w2) (rnM x w0 w1), max (rnL x w2 + rnZ x) (rnM x w0 w1 + rnZ x), 4⟩
def rnO (w g : Int) (s : Nat) : TOrd := ⟨w, max 0 (g - ((s % 2 : Nat) : Int)), g + ((s / 2 % 2 : Nat) : Int)⟩
def rnQ (x : ShY) : TStp := ⟨[0, 0, rnA x], rnR x⟩
def rnT (x : ShY) : TStp := ⟨[1, rnB x, 0], rnS x⟩
theorem pbSpan (a b : Int) : DCall Try.prog 67 [dI a, dI b] [] (.agg [dI a, dI b]) [] := by
 refine DCall.of Try.func67 sf67 hb67 (Nat.le_of_ble_eq_true rfl) (okRes_nil fun _ => rfl) ?_; simp only [s67, idxs, Nat.reduceAdd]
 repeat' (first|(with_reducible first|apply qA|apply qB|apply qC|apply qD|apply qE|apply qF)|(simp (disch:=omega) only [go_sem, simprocAttr, qN, qO, qP, qQ])|exact qM rfl rfl rfl|(refine qG rfl ?_)|(refine qH rfl ?_)|(refine qI rfl ?_ ?_<;>intro hc<;>(try simp only [go_sem] at hc))|(refine qJ ?_ ?_<;>intro hc<;>(try simp only [hc])<;>(try simp only [go_sem] at hc)))
theorem min_ifr (a b : Int) : (if b < a then b else a) = min a b := by split <;> omega
theorem max_ifr (a b : Int) : (if a < b then b else a) = max a b := by split <;> omega
theorem set_eIr (l : List Int) (i : Nat) (v : Int) : (rowC (rows eI l)).set i [D.c (.v (.int .i64 v))] = rowC (rows eI (l.set i v)) := by simp [rowC, rows, List.map_set, eI]
theorem set_eOr (l : List TOrd) (i : Nat) (w a b : Int) : (rowC (rows eO l)).set i [D.c (.v (.int .i64 w)), D.c (.v (.int .i64 a)), D.c (.v (.int .i64 b))] = rowC (rows eO (l.set i ⟨w, a, b⟩)) := by simp [rowC, rows, List.map_set, eO]
theorem snoc_eOr (l : List TOrd) (w : Int) : rowC (rows eO l) ++ [[D.c (.v (.int .i64 w)), D.c (.v (.int .i64 0)), D.c (.v (.int .i64 0))]] = rowC (rows eO (l ++ [⟨w, 0, 0⟩])) := by simp [rowC, rows, eO]
def rnW (w0 w1 w2 : Int) : Nat → List TOrd
 | 0 => []
 | 1 => [⟨w0, 0, 0⟩]
 | 2 => [⟨w0, 0, 0⟩, ⟨w1, 0, 0⟩]
 | _ => [⟨w0, 0, 0⟩, ⟨w1, 0, 0⟩, ⟨w2, 0, 0⟩]
def rnX (o0 o1 o2 : TOrd) (w1 w2 w0 : Int) : Nat → List TOrd
 | 0 => [⟨w0, 0, 0⟩, ⟨w1, 0, 0⟩, ⟨w2, 0, 0⟩]
 | 1 => [o0, ⟨w1, 0, 0⟩, ⟨w2, 0, 0⟩]
 | 2 => [o0, o1, ⟨w2, 0, 0⟩]
 | _ => [o0, o1, o2]
theorem rnW0 (w0 w1 w2 : Int) : rnW w0 w1 w2 0 = [] := rfl
theorem rnW1 (w0 w1 w2 : Int) : rnW w0 w1 w2 1 = [⟨w0, 0, 0⟩] := rfl
theorem rnW2 (w0 w1 w2 : Int) : rnW w0 w1 w2 2 = [⟨w0, 0, 0⟩, ⟨w1, 0, 0⟩] := rfl
theorem rnW3 (w0 w1 w2 : Int) : rnW w0 w1 w2 3 = [⟨w0, 0, 0⟩, ⟨w1, 0, 0⟩, ⟨w2, 0, 0⟩] := rfl
theorem rnX0 (o0 o1 o2 : TOrd) (w1 w2 w0 : Int) : rnX o0 o1 o2 w1 w2 w0 0 = [⟨w0, 0, 0⟩, ⟨w1, 0, 0⟩, ⟨w2, 0, 0⟩] := rfl
theorem rnX1 (o0 o1 o2 : TOrd) (w1 w2 w0 : Int) : rnX o0 o1 o2 w1 w2 w0 1 = [o0, ⟨w1, 0, 0⟩, ⟨w2, 0, 0⟩] := rfl
theorem rnX2 (o0 o1 o2 : TOrd) (w1 w2 w0 : Int) : rnX o0 o1 o2 w1 w2 w0 2 = [o0, o1, ⟨w2, 0, 0⟩] := rfl
theorem rnX3 (o0 o1 o2 : TOrd) (w1 w2 w0 : Int) : rnX o0 o1 o2 w1 w2 w0 3 = [o0, o1, o2] := rfl
def lf0 (l : Int) : Nat → Int
 | 3 => l
 | _ => 2900
def lf1 (w0 m : Int) : Nat → Int
 | 0 => 2900
 | 1 => 2900 - w0
 | _ => m
def gt0 (g2 : Int) : Nat → List Int
 | 3 => [0, 0, g2]
 | _ => [0, 0, 0]
def gt1 (g0 g1 g2 : Int) : Nat → List Int
 | 0 => [0, 0, g2]
 | 1 => [g0, 0, g2]
 | _ => [g0, g1, g2]
def bx2 (l z lo hi : Int) : Nat → List D
 | 0 => [dI 2900, dI 3000, dI 0, dI 4]
 | 1 => [dI 2900, dI l, dI (l + z), dI 4]
 | _ => [dI 2900, dI lo, dI hi, dI 4]
def gtK (g0 g1 g2 : Int) : Nat → List Int
 | 0 => [0, 0, 0]
 | 1 => [0, 0, g2]
 | _ => [g0, g1, g2]
theorem lf00 (l : Int) : lf0 l 0 = 2900 := rfl
theorem lf01 (l : Int) : lf0 l 1 = 2900 := rfl
theorem lf02 (l : Int) : lf0 l 2 = 2900 := rfl
theorem lf03 (l : Int) : lf0 l 3 = l := rfl
theorem lf10 (w0 m : Int) : lf1 w0 m 0 = 2900 := rfl
theorem lf11 (w0 m : Int) : lf1 w0 m 1 = 2900 - w0 := rfl
theorem lf12 (w0 m : Int) : lf1 w0 m 2 = m := rfl
theorem lf13 (w0 m : Int) : lf1 w0 m 3 = m := rfl
theorem gt00 (g2 : Int) : gt0 g2 0 = [0, 0, 0] := rfl
theorem gt01 (g2 : Int) : gt0 g2 1 = [0, 0, 0] := rfl
theorem gt02 (g2 : Int) : gt0 g2 2 = [0, 0, 0] := rfl
theorem gt03 (g2 : Int) : gt0 g2 3 = [0, 0, g2] := rfl
theorem gt10 (g0 g1 g2 : Int) : gt1 g0 g1 g2 0 = [0, 0, g2] := rfl
theorem gt11 (g0 g1 g2 : Int) : gt1 g0 g1 g2 1 = [g0, 0, g2] := rfl
theorem gt12 (g0 g1 g2 : Int) : gt1 g0 g1 g2 2 = [g0, g1, g2] := rfl
theorem gt13 (g0 g1 g2 : Int) : gt1 g0 g1 g2 3 = [g0, g1, g2] := rfl
theorem bx20 (l z lo hi : Int) : bx2 l z lo hi 0 = [dI 2900, dI 3000, dI 0, dI 4] := rfl
theorem bx21 (l z lo hi : Int) : bx2 l z lo hi 1 = [dI 2900, dI l, dI (l + z), dI 4] := rfl
theorem bx22 (l z lo hi : Int) : bx2 l z lo hi 2 = [dI 2900, dI lo, dI hi, dI 4] := rfl
theorem gtK0 (g0 g1 g2 : Int) : gtK g0 g1 g2 0 = [0, 0, 0] := rfl
theorem gtK1 (g0 g1 g2 : Int) : gtK g0 g1 g2 1 = [0, 0, g2] := rfl
theorem gtK2 (g0 g1 g2 : Int) : gtK g0 g1 g2 2 = [g0, g1, g2] := rfl
set_option maxHeartbeats 16000000 in
theorem trRun (x : ShY) (hx : x.ok) (w0 w1 w2 : Int) (h0 : 165 ≤ w0 ∧ w0 ≤ 707) (h1 : 165 ≤ w1 ∧ w1 ≤ 707) (h2 : 165 ≤ w2 ∧ w2 ≤ 707) : DCall Try.prog 27 [.agg (shL x), dIs false [w0, w1, w2]] [] (.tup [papD (rnP x w0 w1 w2), .c (.sl false 3 (rows eO [rnO w0 (rnS x) x.s6, rnO w1 (rnG1 x) x.s7, rnO w2 (rnG2 x) x.s8])), dSt false [rnQ x, rnT x]]) [] := by
 have e0 : (x.s0 : Int).tmod 2 = ((x.s0 % 2 : Nat) : Int) := tmodN x.s0 2
 have e1 : (x.s1 : Int).tmod 9 = ((x.s1 % 9 : Nat) : Int) := tmodN x.s1 9
 have e3 : (x.s3 : Int).tmod 2 = ((x.s3 % 2 : Nat) : Int) := tmodN x.s3 2
 have e4 : (x.s4 : Int).tmod 9 = ((x.s4 % 9 : Nat) : Int) := tmodN x.s4 9
 have et : (x.t : Int).tmod 20 = rnZ x := tmodN x.t 20
 have e6 : (x.s6 : Int).tmod 2 = ((x.s6 % 2 : Nat) : Int) := tmodN x.s6 2
 have e7 : (x.s7 : Int).tmod 2 = ((x.s7 % 2 : Nat) : Int) := tmodN x.s7 2
 have e8 : (x.s8 : Int).tmod 2 = ((x.s8 % 2 : Nat) : Int) := tmodN x.s8 2
 have d6 : (x.s6 : Int).tdiv 2 = ((x.s6 / 2 : Nat) : Int) := tdivN x.s6 2
 have f6 : ((x.s6 / 2 : Nat) : Int).tmod 2 = ((x.s6 / 2 % 2 : Nat) : Int) := tmodN _ 2
 have d7 : (x.s7 : Int).tdiv 2 = ((x.s7 / 2 : Nat) : Int) := tdivN x.s7 2
 have f7 : ((x.s7 / 2 : Nat) : Int).tmod 2 = ((x.s7 / 2 % 2 : Nat) : Int) := tmodN _ 2
 have d8 : (x.s8 : Int).tdiv 2 = ((x.s8 / 2 : Nat) : Int) := tdivN x.s8 2
 have f8 : ((x.s8 / 2 : Nat) : Int).tmod 2 = ((x.s8 / 2 % 2 : Nat) : Int) := tmodN _ 2
 have b0 : x.s0 % 2 < 2 := Nat.mod_lt _ (by decide)
 have b1 : x.s1 % 9 < 9 := Nat.mod_lt _ (by decide)
 have b3 : x.s3 % 2 < 2 := Nat.mod_lt _ (by decide)
 have b4 : x.s4 % 9 < 9 := Nat.mod_lt _ (by decide)
 have bt : x.t % 20 < 20 := Nat.mod_lt _ (by decide)
 have b6 : x.s6 % 2 < 2 := Nat.mod_lt _ (by decide)
 have b7 : x.s7 % 2 < 2 := Nat.mod_lt _ (by decide)
 have b8 : x.s8 % 2 < 2 := Nat.mod_lt _ (by decide)
 have c6 : x.s6 / 2 % 2 < 2 := Nat.mod_lt _ (by decide)
 have c7 : x.s7 / 2 % 2 < 2 := Nat.mod_lt _ (by decide)
 have c8 : x.s8 / 2 % 2 < 2 := Nat.mod_lt _ (by decide)
 have hA : 1 + ((x.s0 % 2 : Nat) : Int) = rnA x := rfl
 have hB : 1 + ((x.s3 % 2 : Nat) : Int) = rnB x := rfl
 have hR : 1 + ((x.s1 % 9 : Nat) : Int) = rnR x := rfl
 have hS : 1 + ((x.s4 % 9 : Nat) : Int) = rnS x := rfl
 have bA : 1 ≤ rnA x ∧ rnA x ≤ 2 := by rw [← hA]; omega
 have bB : 1 ≤ rnB x ∧ rnB x ≤ 2 := by rw [← hB]; omega
 have bR : 1 ≤ rnR x ∧ rnR x ≤ 9 := by rw [← hR]; omega
 have bS : 1 ≤ rnS x ∧ rnS x ≤ 9 := by rw [← hS]; omega
 have bZ : 0 ≤ rnZ x ∧ rnZ x ≤ 19 := by unfold rnZ; omega
 obtain ⟨-, -, -, kt, k0, k1, -, k3, k4, -, k6, k7, k8⟩ := hx
 have cs := pbSpan 3000 0
 unfold rnP rnO
 refine DCall.of Try.func27 sf27 hb27 (Nat.le_of_ble_eq_true rfl) (okRes_nil fun _ => rfl) ?_; simp only [s27, idxs, Nat.reduceAdd]
 repeat' (first|(with_reducible first|apply qA|apply qB|apply qC|apply qD|apply qE|apply qF)|(refine qL rfl (WF.of ?_) ?_; first|rfl|skip)|(simp (disch:=omega) only [go_sem, simprocAttr, qN, qO, qP, qQ, e0, e1, e3, e4, hA, hB, hR, hS])|exact qM rfl rfl rfl|(refine qG rfl ?_)|(refine qK (cs) (by decide) ?_)|(refine qH rfl ?_)|(refine qI rfl ?_ ?_<;>intro hc<;>(try simp only [go_sem] at hc))|(refine qJ ?_ ?_<;>intro hc<;>(try simp only [hc])<;>(try simp only [go_sem] at hc)))
 (refine DW.ent (Ent.rel 27 rfl) ?_; simp (disch:=omega) only [go_sem,simprocAttr,qN,qO,qP,qQ])
 (refine DW.ent (Ent.rel 43 rfl) ?_; simp (disch:=omega) only [go_sem,simprocAttr,qN,qO,qP,qQ])
 (refine DW.ent (Ent.rel 52 rfl) ?_; simp (disch:=omega) only [go_sem,simprocAttr,qN,qO,qP,qQ])
 clear cs e0 e1 e3 e4 hA hB hR hS b0 b1 b3 b4
 have p2 := mulB0 (a := rnA x) (b := w2) (A := 2) (B := 707) (by omega) (by omega)
 have p1 := mulB0 (a := rnB x) (b := w1) (A := 2) (B := 707) (by omega) (by omega)
 have g1b := mulB0 (a := rnB x) (b := rnS x) (A := 2) (B := 9) (by omega) (by omega)
 have g2b := mulB0 (a := rnA x) (b := rnR x) (A := 2) (B := 9) (by omega) (by omega)
 have hL : 2900 - rnA x * w2 = rnL x w2 := rfl
 have hM : 2900 - w0 - rnB x * w1 = rnM x w0 w1 := rfl
 have hg1 : rnB x * rnS x = rnG1 x := rfl
 have hg2 : rnA x * rnR x = rnG2 x := rfl
 rw [hg1] at g1b
 rw [hg2] at g2b
 have bL : 1486 ≤ rnL x w2 ∧ rnL x w2 ≤ 2900 := by rw [← hL]; omega
 have bM : 779 ≤ rnM x w0 w1 ∧ rnM x w0 w1 ≤ 2900 := by rw [← hM]; omega
 refine DW.ent (σ' := ⟨168, [(11, dI 0), (10, dSt false [rnQ x, rnT x]), (9, .own 19), (8, .own 18), (7, .box 7 0), (6, nilS), (5, nilS), (4, .box 4 0), (2, .box 2 0), (1, dIs false [w0, w1, w2])], [(19, .row 1 (rowC (rows eI [0, 0, 0]))), (18, .row 3 (rowC (rows eO (rnW w0 w1 w2 0)))), (7, .box [dI 2900, dI 3000, dI 0, dI 4]), (4, .box [dI 0, dI 0, dI 0, dI 0]), (2, .box (shL x))]⟩) (Ent.to ?_ ?_) ?_
 ·simp (disch:=omega) only [qR,qS,qTw,qU,get,Nat.reduceEqDiff,↓reduceIte,qV,qW,qX,qY,qZ,and_self,dI,i64_in,and_true,true_and,rA,rB,rC,rD]
  all_goals first | exact .refl _ | exact ⟨.refl _, .refl _⟩ | exact ⟨.refl _, .refl _, .refl _⟩ | exact ⟨.refl _, .refl _, .refl _, .refl _⟩
 ·simp (disch:=omega) only [qR,qS,qTw,qU,get,Nat.reduceEqDiff,↓reduceIte,qV,qW,qX,qY,qZ,and_self,dI,i64_in,and_true,true_and,rA,rB,rC,rD,rnW0]
  all_goals first | exact .refl _ | exact ⟨.refl _, .refl _⟩ | exact ⟨.refl _, .refl _, .refl _⟩ | exact ⟨.refl _, .refl _, .refl _, .refl _⟩
 generalize hq : rnQ x = q
 generalize ht : rnT x = t
 have hqd : q.ws = [0, 0, rnA x] := by rw [← hq]; rfl
 have htd : t.ws = [1, rnB x, 0] := by rw [← ht]; rfl
 have hqr : q.run = rnR x := by rw [← hq]; rfl
 have htr : t.run = rnS x := by rw [← ht]; rfl
 refine DW.loop (ι := { i : Nat // i ≤ 3 }) (fun i => ⟨168, [(11, dI i.1), (10, dSt false [q, t]), (9, .own 19), (8, .own 18), (7, .box 7 0), (6, nilS), (5, nilS), (4, .box 4 0), (2, .box 2 0), (1, dIs false [w0, w1, w2])], [(19, .row 1 (rowC (rows eI [0, 0, 0]))), (18, .row 3 (rowC (rows eO (rnW w0 w1 w2 i.1)))), (7, .box [dI 2900, dI 3000, dI 0, dI 4]), (4, .box [dI 0, dI 0, dI 0, dI 0]), (2, .box (shL x))]⟩) (fun i => 3 - i.1) ⟨0, by omega⟩ ?_ ?_
 ·refine Ent.to ?_ ?_ <;> simp (disch:=omega) only [qR,qS,qTw,qU,get,Nat.reduceEqDiff,↓reduceIte,qV,qW,qX,qY,qZ,and_self,dI,i64_in,and_true,true_and,rA,rB,rC,rD]
  all_goals first | exact .refl _ | exact ⟨.refl _, .refl _⟩ | exact ⟨.refl _, .refl _, .refl _⟩ | exact ⟨.refl _, .refl _, .refl _, .refl _⟩
 rintro ⟨i, hi⟩
 dsimp only
 rcases (by omega : i = 0 ∨ i = 1 ∨ i = 2 ∨ i = 3) with rfl | rfl | rfl | rfl
 ·repeat' (first|(with_reducible first|apply qA|apply qB|apply qC|apply qD|apply qE|apply qF)|(refine qL rfl (WF.of ?_) ?_; first|rfl|skip)|(simp (disch:=omega) only [go_sem, simprocAttr, qN, qO, qP, qQ, rnW0, snoc_eOr, rF, rG])|exact qM rfl rfl rfl|(refine qG rfl ?_)|(refine qH rfl ?_)|(refine qI rfl ?_ ?_<;>intro hc<;>(try simp only [go_sem] at hc))|(refine qJ ?_ ?_<;>intro hc<;>(try simp only [hc])<;>(try simp only [go_sem] at hc)))
  refine ⟨⟨1, by omega⟩, ?_, Ent.to ?_ ?_⟩ <;> first | (show _ < _; (try simp only); omega) | (simp (disch:=omega) only [qR,qS,qTw,qU,get,Nat.reduceEqDiff,↓reduceIte,qV,qW,qX,qY,qZ,and_self,dI,i64_in,and_true,true_and,rA,rB,rC,rD, rnW0,rnW1])
  all_goals first | exact .refl _ | exact ⟨.refl _, .refl _⟩ | exact ⟨.refl _, .refl _, .refl _⟩ | exact ⟨.refl _, .refl _, .refl _, .refl _⟩
 ·repeat' (first|(with_reducible first|apply qA|apply qB|apply qC|apply qD|apply qE|apply qF)|(refine qL rfl (WF.of ?_) ?_; first|rfl|skip)|(simp (disch:=omega) only [go_sem, simprocAttr, qN, qO, qP, qQ, rnW1, snoc_eOr, rF, rG])|exact qM rfl rfl rfl|(refine qG rfl ?_)|(refine qH rfl ?_)|(refine qI rfl ?_ ?_<;>intro hc<;>(try simp only [go_sem] at hc))|(refine qJ ?_ ?_<;>intro hc<;>(try simp only [hc])<;>(try simp only [go_sem] at hc)))
  refine ⟨⟨2, by omega⟩, ?_, Ent.to ?_ ?_⟩ <;> first | (show _ < _; (try simp only); omega) | (simp (disch:=omega) only [qR,qS,qTw,qU,get,Nat.reduceEqDiff,↓reduceIte,qV,qW,qX,qY,qZ,and_self,dI,i64_in,and_true,true_and,rA,rB,rC,rD, rnW1,rnW2])
  all_goals first | exact .refl _ | exact ⟨.refl _, .refl _⟩ | exact ⟨.refl _, .refl _, .refl _⟩ | exact ⟨.refl _, .refl _, .refl _, .refl _⟩
 ·repeat' (first|(with_reducible first|apply qA|apply qB|apply qC|apply qD|apply qE|apply qF)|(refine qL rfl (WF.of ?_) ?_; first|rfl|skip)|(simp (disch:=omega) only [go_sem, simprocAttr, qN, qO, qP, qQ, rnW2, snoc_eOr, rF, rG])|exact qM rfl rfl rfl|(refine qG rfl ?_)|(refine qH rfl ?_)|(refine qI rfl ?_ ?_<;>intro hc<;>(try simp only [go_sem] at hc))|(refine qJ ?_ ?_<;>intro hc<;>(try simp only [hc])<;>(try simp only [go_sem] at hc)))
  refine ⟨⟨3, by omega⟩, ?_, Ent.to ?_ ?_⟩ <;> first | (show _ < _; (try simp only); omega) | (simp (disch:=omega) only [qR,qS,qTw,qU,get,Nat.reduceEqDiff,↓reduceIte,qV,qW,qX,qY,qZ,and_self,dI,i64_in,and_true,true_and,rA,rB,rC,rD, rnW2,rnW3])
  all_goals first | exact .refl _ | exact ⟨.refl _, .refl _⟩ | exact ⟨.refl _, .refl _, .refl _⟩ | exact ⟨.refl _, .refl _, .refl _, .refl _⟩
 repeat' (first|(with_reducible first|apply qA|apply qB|apply qC|apply qD|apply qE|apply qF)|(refine qL rfl (WF.of ?_) ?_; first|rfl|skip)|(simp (disch:=omega) only [go_sem, simprocAttr, qN, qO, qP, qQ, rnW3])|exact qM rfl rfl rfl|(refine qG rfl ?_)|(refine qH rfl ?_)|(refine qI rfl ?_ ?_<;>intro hc<;>(try simp only [go_sem] at hc))|(refine qJ ?_ ?_<;>intro hc<;>(try simp only [hc])<;>(try simp only [go_sem] at hc)))
 have hg0 : 0 + rnS x = rnS x := Int.zero_add _
 generalize rnG1 x = g1 at *
 generalize rnG2 x = g2 at *
 generalize hg0' : rnS x = g0 at *
 generalize rnL x w2 = l at *
 generalize rnM x w0 w1 = m at *
 generalize rnZ x = z at *
 have lo1 : min 3000 l = l := by omega
 have lo2 : max 0 l = l := by omega
 have lo3 : max 0 (l + z) = l + z := by omega
 have lo4 : max 0 (min l m) = min l m := by omega
 have s1 := pbSpan l (l + z)
 have s2 := pbSpan (min l m) (max (l + z) (m + z))
 refine DW.loop (ι := { i : Nat // i ≤ 2 }) (fun i => ⟨168, [(12, dI i.1), (10, dSt false [q, t]), (9, .own 19), (8, .own 18), (7, .box 7 0), (6, nilS), (5, nilS), (4, .box 4 0), (2, .box 2 0), (1, dIs false [w0, w1, w2])], [(19, .row 1 (rowC (rows eI (gtK g0 g1 g2 i.1)))), (18, .row 3 (rowC (rows eO [⟨w0, 0, 0⟩, ⟨w1, 0, 0⟩, ⟨w2, 0, 0⟩]))), (7, .box (bx2 l z (min l m) (max (l + z) (m + z)) i.1)), (4, .box [dI 0, dI 0, dI 0, dI 0]), (2, .box (shL x))]⟩) (fun i => 2 - i.1) ⟨0, by omega⟩ ?_ ?_
 ·refine Ent.to ?_ ?_ <;> simp (disch:=omega) only [qR,qS,qTw,qU,get,Nat.reduceEqDiff,↓reduceIte,qV,qW,qX,qY,qZ,and_self,dI,i64_in,and_true,true_and,rA,rB,rC,rD,gtK0,bx20]
  all_goals first | exact .refl _ | exact ⟨.refl _, .refl _⟩ | exact ⟨.refl _, .refl _, .refl _⟩ | exact ⟨.refl _, .refl _, .refl _, .refl _⟩
 rintro ⟨i, hi⟩
 dsimp only
 rcases (by omega : i = 0 ∨ i = 1 ∨ i = 2) with rfl | rfl | rfl
 ·repeat' (first|(with_reducible first|apply qA|apply qB|apply qC|apply qD|apply qE|apply qF)|(refine qL rfl (WF.of ?_) ?_; first|rfl|skip)|(simp (disch:=omega) only [go_sem, simprocAttr, qN, qO, qP, qQ, gtK0, bx20])|exact qM rfl rfl rfl|(refine qG rfl ?_)|(refine qH rfl ?_)|(refine qI rfl ?_ ?_<;>intro hc<;>(try simp only [go_sem] at hc))|(refine qJ ?_ ?_<;>intro hc<;>(try simp only [hc])<;>(try simp only [go_sem] at hc)))
  refine DW.loop (ι := { i : Nat // i ≤ 3 }) (fun i => ⟨168, [(14, dI i.1), (13, dI (lf0 l i.1)), (12, dI 0), (10, dSt false [q, t]), (9, .own 19), (8, .own 18), (7, .box 7 0), (6, nilS), (5, nilS), (4, .box 4 0), (2, .box 2 0), (1, dIs false [w0, w1, w2])], [(19, .row 1 (rowC (rows eI (gt0 g2 i.1)))), (18, .row 3 (rowC (rows eO [⟨w0, 0, 0⟩, ⟨w1, 0, 0⟩, ⟨w2, 0, 0⟩]))), (7, .box [dI 2900, dI 3000, dI 0, dI 4]), (4, .box [dI 0, dI 0, dI 0, dI 0]), (2, .box (shL x))]⟩) (fun i => 3 - i.1) ⟨0, by omega⟩ ?_ ?_
  ·refine Ent.to ?_ ?_ <;> simp (disch:=omega) only [qR,qS,qTw,qU,get,Nat.reduceEqDiff,↓reduceIte,qV,qW,qX,qY,qZ,and_self,dI,i64_in,and_true,true_and,rA,rB,rC,rD,gt00,lf00,bx20]
   all_goals first | exact .refl _ | exact ⟨.refl _, .refl _⟩ | exact ⟨.refl _, .refl _, .refl _⟩ | exact ⟨.refl _, .refl _, .refl _, .refl _⟩
  rintro ⟨i, hi⟩
  dsimp only
  rcases (by omega : i = 0 ∨ i = 1 ∨ i = 2 ∨ i = 3) with rfl | rfl | rfl | rfl
  ·repeat' (first|(with_reducible first|apply qA|apply qB|apply qC|apply qD|apply qE|apply qF)|(refine qL rfl (WF.of ?_) ?_; first|rfl|skip)|(simp (disch:=omega) only [go_sem, simprocAttr, qN, qO, qP, qQ, gt00, lf00, hqd, hqr, Int.zero_mul, Int.one_mul, Int.sub_zero, Int.add_zero, Int.zero_add, rF, rG, hL, hM, hg1, hg2, hg0, set_eIr, List.set_cons_zero, List.set_cons_succ])|exact qM rfl rfl rfl|(refine qG rfl ?_)|(refine qH rfl ?_)|(refine qI rfl ?_ ?_<;>intro hc<;>(try simp only [go_sem] at hc))|(refine qJ ?_ ?_<;>intro hc<;>(try simp only [hc])<;>(try simp only [go_sem] at hc)))
   refine ⟨⟨1, by omega⟩, ?_, Ent.to ?_ ?_⟩ <;> first | (show _ < _; (try simp only); omega) | (simp (disch:=omega) only [qR,qS,qTw,qU,get,Nat.reduceEqDiff,↓reduceIte,qV,qW,qX,qY,qZ,and_self,dI,i64_in,and_true,true_and,rA,rB,rC,rD, gt00,gt01,lf00,lf01])
   all_goals first | exact .refl _ | exact ⟨.refl _, .refl _⟩ | exact ⟨.refl _, .refl _, .refl _⟩ | exact ⟨.refl _, .refl _, .refl _, .refl _⟩
  ·repeat' (first|(with_reducible first|apply qA|apply qB|apply qC|apply qD|apply qE|apply qF)|(refine qL rfl (WF.of ?_) ?_; first|rfl|skip)|(simp (disch:=omega) only [go_sem, simprocAttr, qN, qO, qP, qQ, gt01, lf01, hqd, hqr, Int.zero_mul, Int.one_mul, Int.sub_zero, Int.add_zero, Int.zero_add, rF, rG, hL, hM, hg1, hg2, hg0, set_eIr, List.set_cons_zero, List.set_cons_succ])|exact qM rfl rfl rfl|(refine qG rfl ?_)|(refine qH rfl ?_)|(refine qI rfl ?_ ?_<;>intro hc<;>(try simp only [go_sem] at hc))|(refine qJ ?_ ?_<;>intro hc<;>(try simp only [hc])<;>(try simp only [go_sem] at hc)))
   refine ⟨⟨2, by omega⟩, ?_, Ent.to ?_ ?_⟩ <;> first | (show _ < _; (try simp only); omega) | (simp (disch:=omega) only [qR,qS,qTw,qU,get,Nat.reduceEqDiff,↓reduceIte,qV,qW,qX,qY,qZ,and_self,dI,i64_in,and_true,true_and,rA,rB,rC,rD, gt01,gt02,lf01,lf02])
   all_goals first | exact .refl _ | exact ⟨.refl _, .refl _⟩ | exact ⟨.refl _, .refl _, .refl _⟩ | exact ⟨.refl _, .refl _, .refl _, .refl _⟩
  ·repeat' (first|(with_reducible first|apply qA|apply qB|apply qC|apply qD|apply qE|apply qF)|(refine qL rfl (WF.of ?_) ?_; first|rfl|skip)|(simp (disch:=omega) only [go_sem, simprocAttr, qN, qO, qP, qQ, gt02, lf02, hqd, hqr, Int.zero_mul, Int.one_mul, Int.sub_zero, Int.add_zero, Int.zero_add, rF, rG, hL, hM, hg1, hg2, hg0, set_eIr, List.set_cons_zero, List.set_cons_succ])|exact qM rfl rfl rfl|(refine qG rfl ?_)|(refine qH rfl ?_)|(refine qI rfl ?_ ?_<;>intro hc<;>(try simp only [go_sem] at hc))|(refine qJ ?_ ?_<;>intro hc<;>(try simp only [hc])<;>(try simp only [go_sem] at hc)))
   refine ⟨⟨3, by omega⟩, ?_, Ent.to ?_ ?_⟩ <;> first | (show _ < _; (try simp only); omega) | (simp (disch:=omega) only [qR,qS,qTw,qU,get,Nat.reduceEqDiff,↓reduceIte,qV,qW,qX,qY,qZ,and_self,dI,i64_in,and_true,true_and,rA,rB,rC,rD, gt02,gt03,lf02,lf03])
   all_goals first | exact .refl _ | exact ⟨.refl _, .refl _⟩ | exact ⟨.refl _, .refl _, .refl _⟩ | exact ⟨.refl _, .refl _, .refl _, .refl _⟩
  ·repeat' (first|(with_reducible first|apply qA|apply qB|apply qC|apply qD|apply qE|apply qF)|(refine qL rfl (WF.of ?_) ?_; first|rfl|skip)|(simp (disch:=omega) only [go_sem, simprocAttr, qN, qO, qP, qQ, gt03, lf03, bx20, et, min_ifr, max_ifr, lo1, lo2, lo3, lo4])|exact qM rfl rfl rfl|(refine qG rfl ?_)|(refine qK (s1) (by decide) ?_)|(refine qH rfl ?_)|(refine qI rfl ?_ ?_<;>intro hc<;>(try simp only [go_sem] at hc))|(refine qJ ?_ ?_<;>intro hc<;>(try simp only [hc])<;>(try simp only [go_sem] at hc)))
   refine ⟨⟨1, by omega⟩, ?_, Ent.to ?_ ?_⟩ <;> first | (show _ < _; (try simp only); omega) | (simp (disch:=omega) only [qR,qS,qTw,qU,get,Nat.reduceEqDiff,↓reduceIte,qV,qW,qX,qY,qZ,and_self,dI,i64_in,and_true,true_and,rA,rB,rC,rD, gt03,gtK1,bx21])
   all_goals first | exact .refl _ | exact ⟨.refl _, .refl _⟩ | exact ⟨.refl _, .refl _, .refl _⟩ | exact ⟨.refl _, .refl _, .refl _, .refl _⟩
 ·repeat' (first|(with_reducible first|apply qA|apply qB|apply qC|apply qD|apply qE|apply qF)|(refine qL rfl (WF.of ?_) ?_; first|rfl|skip)|(simp (disch:=omega) only [go_sem, simprocAttr, qN, qO, qP, qQ, gtK1, bx21])|exact qM rfl rfl rfl|(refine qG rfl ?_)|(refine qH rfl ?_)|(refine qI rfl ?_ ?_<;>intro hc<;>(try simp only [go_sem] at hc))|(refine qJ ?_ ?_<;>intro hc<;>(try simp only [hc])<;>(try simp only [go_sem] at hc)))
  refine DW.loop (ι := { i : Nat // i ≤ 3 }) (fun i => ⟨168, [(14, dI i.1), (13, dI (lf1 w0 m i.1)), (12, dI 1), (10, dSt false [q, t]), (9, .own 19), (8, .own 18), (7, .box 7 0), (6, nilS), (5, nilS), (4, .box 4 0), (2, .box 2 0), (1, dIs false [w0, w1, w2])], [(19, .row 1 (rowC (rows eI (gt1 g0 g1 g2 i.1)))), (18, .row 3 (rowC (rows eO [⟨w0, 0, 0⟩, ⟨w1, 0, 0⟩, ⟨w2, 0, 0⟩]))), (7, .box [dI 2900, dI l, dI (l + z), dI 4]), (4, .box [dI 0, dI 0, dI 0, dI 0]), (2, .box (shL x))]⟩) (fun i => 3 - i.1) ⟨0, by omega⟩ ?_ ?_
  ·refine Ent.to ?_ ?_ <;> simp (disch:=omega) only [qR,qS,qTw,qU,get,Nat.reduceEqDiff,↓reduceIte,qV,qW,qX,qY,qZ,and_self,dI,i64_in,and_true,true_and,rA,rB,rC,rD,gt10,lf10,bx21]
   all_goals first | exact .refl _ | exact ⟨.refl _, .refl _⟩ | exact ⟨.refl _, .refl _, .refl _⟩ | exact ⟨.refl _, .refl _, .refl _, .refl _⟩
  rintro ⟨i, hi⟩
  dsimp only
  rcases (by omega : i = 0 ∨ i = 1 ∨ i = 2 ∨ i = 3) with rfl | rfl | rfl | rfl
  ·repeat' (first|(with_reducible first|apply qA|apply qB|apply qC|apply qD|apply qE|apply qF)|(refine qL rfl (WF.of ?_) ?_; first|rfl|skip)|(simp (disch:=omega) only [go_sem, simprocAttr, qN, qO, qP, qQ, gt10, lf10, htd, htr, Int.zero_mul, Int.one_mul, Int.sub_zero, Int.add_zero, Int.zero_add, rF, rG, hL, hM, hg1, hg2, hg0, set_eIr, List.set_cons_zero, List.set_cons_succ])|exact qM rfl rfl rfl|(refine qG rfl ?_)|(refine qH rfl ?_)|(refine qI rfl ?_ ?_<;>intro hc<;>(try simp only [go_sem] at hc))|(refine qJ ?_ ?_<;>intro hc<;>(try simp only [hc])<;>(try simp only [go_sem] at hc)))
   refine ⟨⟨1, by omega⟩, ?_, Ent.to ?_ ?_⟩ <;> first | (show _ < _; (try simp only); omega) | (simp (disch:=omega) only [qR,qS,qTw,qU,get,Nat.reduceEqDiff,↓reduceIte,qV,qW,qX,qY,qZ,and_self,dI,i64_in,and_true,true_and,rA,rB,rC,rD, gt10,gt11,lf10,lf11])
   all_goals first | exact .refl _ | exact ⟨.refl _, .refl _⟩ | exact ⟨.refl _, .refl _, .refl _⟩ | exact ⟨.refl _, .refl _, .refl _, .refl _⟩
  ·repeat' (first|(with_reducible first|apply qA|apply qB|apply qC|apply qD|apply qE|apply qF)|(refine qL rfl (WF.of ?_) ?_; first|rfl|skip)|(simp (disch:=omega) only [go_sem, simprocAttr, qN, qO, qP, qQ, gt11, lf11, htd, htr, Int.zero_mul, Int.one_mul, Int.sub_zero, Int.add_zero, Int.zero_add, rF, rG, hL, hM, hg1, hg2, hg0, set_eIr, List.set_cons_zero, List.set_cons_succ])|exact qM rfl rfl rfl|(refine qG rfl ?_)|(refine qH rfl ?_)|(refine qI rfl ?_ ?_<;>intro hc<;>(try simp only [go_sem] at hc))|(refine qJ ?_ ?_<;>intro hc<;>(try simp only [hc])<;>(try simp only [go_sem] at hc)))
   refine ⟨⟨2, by omega⟩, ?_, Ent.to ?_ ?_⟩ <;> first | (show _ < _; (try simp only); omega) | (simp (disch:=omega) only [qR,qS,qTw,qU,get,Nat.reduceEqDiff,↓reduceIte,qV,qW,qX,qY,qZ,and_self,dI,i64_in,and_true,true_and,rA,rB,rC,rD, gt11,gt12,lf11,lf12])
   all_goals first | exact .refl _ | exact ⟨.refl _, .refl _⟩ | exact ⟨.refl _, .refl _, .refl _⟩ | exact ⟨.refl _, .refl _, .refl _, .refl _⟩
  ·repeat' (first|(with_reducible first|apply qA|apply qB|apply qC|apply qD|apply qE|apply qF)|(refine qL rfl (WF.of ?_) ?_; first|rfl|skip)|(simp (disch:=omega) only [go_sem, simprocAttr, qN, qO, qP, qQ, gt12, lf12, htd, htr, Int.zero_mul, Int.one_mul, Int.sub_zero, Int.add_zero, Int.zero_add, rF, rG, hL, hM, hg1, hg2, hg0, set_eIr, List.set_cons_zero, List.set_cons_succ])|exact qM rfl rfl rfl|(refine qG rfl ?_)|(refine qH rfl ?_)|(refine qI rfl ?_ ?_<;>intro hc<;>(try simp only [go_sem] at hc))|(refine qJ ?_ ?_<;>intro hc<;>(try simp only [hc])<;>(try simp only [go_sem] at hc)))
   refine ⟨⟨3, by omega⟩, ?_, Ent.to ?_ ?_⟩ <;> first | (show _ < _; (try simp only); omega) | (simp (disch:=omega) only [qR,qS,qTw,qU,get,Nat.reduceEqDiff,↓reduceIte,qV,qW,qX,qY,qZ,and_self,dI,i64_in,and_true,true_and,rA,rB,rC,rD, gt12,gt13,lf12,lf13])
   all_goals first | exact .refl _ | exact ⟨.refl _, .refl _⟩ | exact ⟨.refl _, .refl _, .refl _⟩ | exact ⟨.refl _, .refl _, .refl _, .refl _⟩
  ·repeat' (first|(with_reducible first|apply qA|apply qB|apply qC|apply qD|apply qE|apply qF)|(refine qL rfl (WF.of ?_) ?_; first|rfl|skip)|(simp (disch:=omega) only [go_sem, simprocAttr, qN, qO, qP, qQ, gt13, lf13, bx21, et, min_ifr, max_ifr, lo1, lo2, lo3, lo4])|exact qM rfl rfl rfl|(refine qG rfl ?_)|(refine qK (s2) (by decide) ?_)|(refine qH rfl ?_)|(refine qI rfl ?_ ?_<;>intro hc<;>(try simp only [go_sem] at hc))|(refine qJ ?_ ?_<;>intro hc<;>(try simp only [hc])<;>(try simp only [go_sem] at hc)))
   refine ⟨⟨2, by omega⟩, ?_, Ent.to ?_ ?_⟩ <;> first | (show _ < _; (try simp only); omega) | (simp (disch:=omega) only [qR,qS,qTw,qU,get,Nat.reduceEqDiff,↓reduceIte,qV,qW,qX,qY,qZ,and_self,dI,i64_in,and_true,true_and,rA,rB,rC,rD, gt13,gtK2,bx22])
   all_goals first | exact .refl _ | exact ⟨.refl _, .refl _⟩ | exact ⟨.refl _, .refl _, .refl _⟩ | exact ⟨.refl _, .refl _, .refl _, .refl _⟩
 repeat' (first|(with_reducible first|apply qA|apply qB|apply qC|apply qD|apply qE|apply qF)|(refine qL rfl (WF.of ?_) ?_; first|rfl|skip)|(simp (disch:=omega) only [go_sem, simprocAttr, qN, qO, qP, qQ, gtK2, bx22])|exact qM rfl rfl rfl|(refine qG rfl ?_)|(refine qH rfl ?_)|(refine qI rfl ?_ ?_<;>intro hc<;>(try simp only [go_sem] at hc))|(refine qJ ?_ ?_<;>intro hc<;>(try simp only [hc])<;>(try simp only [go_sem] at hc)))
 have t0 := pbSpan (max 0 (g0 - ((x.s6 % 2 : Nat) : Int))) (g0 + ((x.s6 / 2 % 2 : Nat) : Int))
 have t1 := pbSpan (max 0 (g1 - ((x.s7 % 2 : Nat) : Int))) (g1 + ((x.s7 / 2 % 2 : Nat) : Int))
 have t2 := pbSpan (max 0 (g2 - ((x.s8 % 2 : Nat) : Int))) (g2 + ((x.s8 / 2 % 2 : Nat) : Int))
 refine DW.loop (ι := { i : Nat // i ≤ 3 }) (fun i => ⟨168, [(15, dI i.1), (10, dSt false [q, t]), (9, .own 19), (8, .own 18), (7, .box 7 0), (6, nilS), (5, nilS), (4, .box 4 0), (2, .box 2 0), (1, dIs false [w0, w1, w2])], [(19, .row 1 (rowC (rows eI [g0, g1, g2]))), (18, .row 3 (rowC (rows eO (rnX ⟨w0, max 0 (g0 - ((x.s6 % 2 : Nat) : Int)), g0 + ((x.s6 / 2 % 2 : Nat) : Int)⟩ ⟨w1, max 0 (g1 - ((x.s7 % 2 : Nat) : Int)), g1 + ((x.s7 / 2 % 2 : Nat) : Int)⟩ ⟨w2, max 0 (g2 - ((x.s8 % 2 : Nat) : Int)), g2 + ((x.s8 / 2 % 2 : Nat) : Int)⟩ w1 w2 w0 i.1)))), (7, .box [dI 2900, dI (min l m), dI (max (l + z) (m + z)), dI 4]), (4, .box [dI 0, dI 0, dI 0, dI 0]), (2, .box (shL x))]⟩) (fun i => 3 - i.1) ⟨0, by omega⟩ ?_ ?_
 ·refine Ent.to ?_ ?_ <;> simp (disch:=omega) only [qR,qS,qTw,qU,get,Nat.reduceEqDiff,↓reduceIte,qV,qW,qX,qY,qZ,and_self,dI,i64_in,and_true,true_and,rA,rB,rC,rD,gtK2,bx22,rnX0]
  all_goals first | exact .refl _ | exact ⟨.refl _, .refl _⟩ | exact ⟨.refl _, .refl _, .refl _⟩ | exact ⟨.refl _, .refl _, .refl _, .refl _⟩
 rintro ⟨i, hi⟩
 dsimp only
 rcases (by omega : i = 0 ∨ i = 1 ∨ i = 2 ∨ i = 3) with rfl | rfl | rfl | rfl
 ·repeat' (first|(with_reducible first|apply qA|apply qB|apply qC|apply qD|apply qE|apply qF)|(refine qL rfl (WF.of ?_) ?_; first|rfl|skip)|(simp (disch:=omega) only [go_sem, simprocAttr, qN, qO, qP, qQ, rnX0, e6, d6, f6, min_ifr, max_ifr, set_eOr, List.set_cons_zero, List.set_cons_succ, rF, rG])|exact qM rfl rfl rfl|(refine qG rfl ?_)|(refine qK (t0) (by decide) ?_)|(refine qH rfl ?_)|(refine qI rfl ?_ ?_<;>intro hc<;>(try simp only [go_sem] at hc))|(refine qJ ?_ ?_<;>intro hc<;>(try simp only [hc])<;>(try simp only [go_sem] at hc)))
  refine ⟨⟨1, by omega⟩, ?_, Ent.to ?_ ?_⟩ <;> first | (show _ < _; (try simp only); omega) | (simp (disch:=omega) only [qR,qS,qTw,qU,get,Nat.reduceEqDiff,↓reduceIte,qV,qW,qX,qY,qZ,and_self,dI,i64_in,and_true,true_and,rA,rB,rC,rD, rnX0,rnX1])
  all_goals first | exact .refl _ | exact ⟨.refl _, .refl _⟩ | exact ⟨.refl _, .refl _, .refl _⟩ | exact ⟨.refl _, .refl _, .refl _, .refl _⟩
 ·repeat' (first|(with_reducible first|apply qA|apply qB|apply qC|apply qD|apply qE|apply qF)|(refine qL rfl (WF.of ?_) ?_; first|rfl|skip)|(simp (disch:=omega) only [go_sem, simprocAttr, qN, qO, qP, qQ, rnX1, e7, d7, f7, min_ifr, max_ifr, set_eOr, List.set_cons_zero, List.set_cons_succ, rF, rG])|exact qM rfl rfl rfl|(refine qG rfl ?_)|(refine qK (t1) (by decide) ?_)|(refine qH rfl ?_)|(refine qI rfl ?_ ?_<;>intro hc<;>(try simp only [go_sem] at hc))|(refine qJ ?_ ?_<;>intro hc<;>(try simp only [hc])<;>(try simp only [go_sem] at hc)))
  refine ⟨⟨2, by omega⟩, ?_, Ent.to ?_ ?_⟩ <;> first | (show _ < _; (try simp only); omega) | (simp (disch:=omega) only [qR,qS,qTw,qU,get,Nat.reduceEqDiff,↓reduceIte,qV,qW,qX,qY,qZ,and_self,dI,i64_in,and_true,true_and,rA,rB,rC,rD, rnX1,rnX2])
  all_goals first | exact .refl _ | exact ⟨.refl _, .refl _⟩ | exact ⟨.refl _, .refl _, .refl _⟩ | exact ⟨.refl _, .refl _, .refl _, .refl _⟩
 ·repeat' (first|(with_reducible first|apply qA|apply qB|apply qC|apply qD|apply qE|apply qF)|(refine qL rfl (WF.of ?_) ?_; first|rfl|skip)|(simp (disch:=omega) only [go_sem, simprocAttr, qN, qO, qP, qQ, rnX2, e8, d8, f8, min_ifr, max_ifr, set_eOr, List.set_cons_zero, List.set_cons_succ, rF, rG])|exact qM rfl rfl rfl|(refine qG rfl ?_)|(refine qK (t2) (by decide) ?_)|(refine qH rfl ?_)|(refine qI rfl ?_ ?_<;>intro hc<;>(try simp only [go_sem] at hc))|(refine qJ ?_ ?_<;>intro hc<;>(try simp only [hc])<;>(try simp only [go_sem] at hc)))
  refine ⟨⟨3, by omega⟩, ?_, Ent.to ?_ ?_⟩ <;> first | (show _ < _; (try simp only); omega) | (simp (disch:=omega) only [qR,qS,qTw,qU,get,Nat.reduceEqDiff,↓reduceIte,qV,qW,qX,qY,qZ,and_self,dI,i64_in,and_true,true_and,rA,rB,rC,rD, rnX2,rnX3])
  all_goals first | exact .refl _ | exact ⟨.refl _, .refl _⟩ | exact ⟨.refl _, .refl _, .refl _⟩ | exact ⟨.refl _, .refl _, .refl _, .refl _⟩
 repeat' (first|(with_reducible first|apply qA|apply qB|apply qC|apply qD|apply qE|apply qF)|(refine qL rfl (WF.of ?_) ?_; first|rfl|skip)|(simp (disch:=omega) only [go_sem, simprocAttr, qN, qO, qP, qQ, rnX3])|exact qM rfl rfl rfl|(refine qG rfl ?_)|(refine qH rfl ?_)|(refine qI rfl ?_ ?_<;>intro hc<;>(try simp only [go_sem] at hc))|(refine qJ ?_ ?_<;>intro hc<;>(try simp only [hc])<;>(try simp only [go_sem] at hc)))
 (refine retS_ent (Ent.rel 18 rfl) ?_; simp (disch:=omega) only [go_sem,simprocAttr,qN,qO,qP,qQ])
 refine retS_wk rfl ?_ (by simp only [Blk.nb, rowC_nb, D.nb, D.nbs, C.nb, C.nbs, C.nbss, rows_nb eI_nb, Bool.and_true, Bool.not_false, Bool.and_self, bD, dI, iD, rows_nb eBla_nb, rows_nb eI_nb, rows_nb eO_nb, rows_nb eSt_nb]); exact .refl _
end Go.Dw.Seat.Tr
end
section
set_option linter.unusedSimpArgs false
set_option maxRecDepth 100000
namespace Go.Dw.Seat.Tr
open Go Go.Dw Go.Proofs Go.IntWalk
def knN (s : Int × List Int) (w : Int) : Nat → Int × List Int
 | 0 => s
 | n + 1 => ((knN s w n).1 + w, (knN s w n).2 ++ [(knN s w n).1 + w])
def knS (x : Int) (l : List TOrd) (ws : List Int) : Nat → Int × List Int
 | 0 => (x, [x])
 | i + 1 => knN (knS x l ws i) ((l[i]?.map (·.w)).getD 0) ((ws[i]?).getD 0).toNat
def knvL (p : TPap) (l : List TOrd) (ws : List Int) : List Int := (knS (Int.tdiv (trimI p l ws) 2) l ws ws.length).2
structure KnOk (s : Int × List Int) (m : Nat) : Prop where
 x : 0 ≤ s.1 ∧ s.1 ≤ 3000 + 3000 * (m : Int)
 len : s.2.length = m + 1
theorem KnOk.n {s : Int × List Int} {m : Nat} (h : KnOk s m) {w : Int} (hw : 1 ≤ w ∧ w ≤ 3000) : ∀ n, KnOk (knN s w n) (m + n)
 | 0 => h
 | n + 1 => by
  have h2 := h.n hw n
  have := h2.x
  have := h2.len
  refine ⟨?_, ?_⟩
  ·simp only [knN]; omega
  ·simp only [knN, List.length_append, List.length_singleton]; omega
theorem knS_ok {x : Int} (hx : 0 ≤ x ∧ x ≤ 3000) {l : List TOrd} (ho : ∀ o ∈ l, o.ok) {ws : List Int} (hw : Ws4 l ws) : ∀ i, i ≤ ws.length → ∃ m, m ≤ 4 * i ∧ KnOk (knS x l ws i) m
 | 0, _ => ⟨0, Nat.le_refl _, ⟨by simp only [knS]; omega, rfl⟩⟩
 | i + 1, hi => by
  obtain ⟨m, hm, hk⟩ := knS_ok hx ho hw i (by omega)
  obtain ⟨n, hn⟩ := getE (l := ws) (i := i) (by omega)
  obtain ⟨o, hoi⟩ := getE (l := l) (i := i) (by have := hw.len; omega)
  have hnb := hw.b n (List.mem_of_getElem? hn)
  refine ⟨m + n.toNat, by omega, ?_⟩
  simp only [knS, hn, hoi, Option.map_some, Option.getD_some]
  exact hk.n (ho o (List.mem_of_getElem? hoi)).w n.toNat
theorem knS_step {x : Int} {l : List TOrd} {ws : List Int} {i : Nat} {n : Int} {o : TOrd} (hn : ws[i]? = some n) (ho : l[i]? = some o) : knS x l ws (i + 1) = knN (knS x l ws i) o.w n.toNat := by
 simp only [knS, hn, ho, Option.map_some, Option.getD_some]
def knvD (p : TPap) (l : List TOrd) (ws : List Int) : D := if owE p l ws = 0 then dIs false (knvL p l ws) else .c (.v (.slice none 0 0))
set_option maxHeartbeats 2000000 in
theorem trKnives (b2 : Bool) (p : TPap) (l : List TOrd) (hl : l.length ≤ 2 ^ 36) (ws : List Int) (hwl : ws.length ≤ 2 ^ 36) : DCall Try.prog 76 [papD p, .c (.sl false 3 (rows eO l)), dIs b2 ws] [] (.tup [knvD p l ws, dI (owE p l ws)]) [] := by
 have h1 := trOpenW b2 p l hl ws hwl
 by_cases h : owE p l ws = 0
 ·have ho : openE p l = 0 := by
   unfold owE at h
   split at h
   ·rename_i h2; exact absurd h h2
   ·rename_i h2; simpa using h2
  obtain ⟨hp, hl4, hor⟩ := openE_ok ho
  have hwe : websE p l ws = 0 := by
   unfold owE at h
   rwa [if_neg (by simpa using ho)] at h
  obtain ⟨hw, hpt⟩ := websE_ok hwe
  have h2 := trTrim false b2 p hp l hl4 hor ws hw
  have hwl4 := hw.len
  have htb : 0 ≤ trimI p l ws ∧ trimI p l ws ≤ 3000 := by
   simp only [patB, Bool.and_eq_true, decide_eq_true_eq] at hpt
   have := hp.trim
   omega
  have hx : 0 ≤ Int.tdiv (trimI p l ws) 2 ∧ Int.tdiv (trimI p l ws) 2 ≤ 3000 := by
   rw [Int.tdiv_eq_ediv_of_nonneg htb.1]; omega
  rw [if_pos ho, h] at h1
  rw [knvD, if_pos h, h, knvL]
  generalize trimI p l ws = t at *
  generalize hT : Int.tdiv t 2 = x at *
  clear h hpt hwe
  refine DCall.of Try.func76 sf76 hb76 (Nat.le_of_ble_eq_true rfl) (okRes_nil fun _ => rfl) ?_; simp only [s76, idxs, Nat.reduceAdd]
  repeat' (first|(with_reducible first|apply qA|apply qB|apply qC|apply qD|apply qE|apply qF)|(simp (disch:=omega) only [go_sem, simprocAttr, Blk.men, Blk.keysIn, hT])|exact qM rfl rfl rfl|(refine qG rfl ?_)|(refine qK (h1) (by decide) ?_)|(refine qK (h2) (by decide) ?_)|(refine qH rfl ?_)|(refine qI rfl ?_ ?_<;>intro hc<;>(try simp only [go_sem] at hc))|(refine qJ ?_ ?_<;>intro hc<;>(try simp only [hc])<;>(try simp only [go_sem] at hc)))
  refine DW.loop (ι := { i : Nat // i ≤ ws.length }) (fun i => ⟨54, [(32, dI i.1), (31, dI ws.length), (30, dIs b2 ws), (11, .own 29), (10, dI (knS x l ws i.1).1), (7, dI 0), (6, .c (.v (.slice none 0 0))), (1, .c (.sl false 3 (rows eO l)))], [(29, .row 1 (rowC (rows eI (knS x l ws i.1).2)))]⟩) (fun i => ws.length - i.1) ⟨0, Nat.zero_le _⟩ ?_ ?_
  ·refine Ent.to ?_ ?_ <;> simp (disch:=omega) only [qR,qS,qTw,qU,get,Nat.reduceEqDiff,↓reduceIte,qV,qW,qX,qY,qZ,and_self,dI,i64_in,and_true,true_and,rA,rB,rC,rD,knS]
   all_goals first | exact ⟨.refl _, .refl _⟩ | exact .refl _
  rintro ⟨i, hi⟩
  dsimp only
  obtain ⟨m, hm, hk⟩ := knS_ok hx hor hw i hi
  rcases at_or ws i hi with ⟨n, hn, hlt, hd⟩ | ⟨he, hd⟩
  ·obtain ⟨o, hoi⟩ := getE (l := l) (i := i) (by omega)
   have hob := (hor o (List.mem_of_getElem? hoi)).w
   have hnb := hw.b n (List.mem_of_getElem? hn)
   have hst := knS_step (x := x) hn hoi
   have hw4 : ws.length ≤ 4 := by omega
   generalize knS x l ws i = s at *
   repeat' (first|(with_reducible first|apply qA|apply qB|apply qC|apply qD|apply qE|apply qF)|(simp (disch:=omega) only [go_sem, simprocAttr, Blk.men, Blk.keysIn, hd, hn])|exact qM rfl rfl rfl|(refine qG rfl ?_)|(refine qH rfl ?_)|(refine qI rfl ?_ ?_<;>intro hc<;>(try simp only [go_sem] at hc))|(refine qJ ?_ ?_<;>intro hc<;>(try simp only [hc])<;>(try simp only [go_sem] at hc)))
   refine DW.loop (ι := { j : Nat // j ≤ n.toNat }) (fun j => ⟨54, [(38, dI j.1), (37, dI n), (32, dI i), (31, dI ws.length), (30, dIs b2 ws), (12, dI i), (11, .own 29), (10, dI (knN s o.w j.1).1), (7, dI 0), (6, .c (.v (.slice none 0 0))), (1, .c (.sl false 3 (rows eO l)))], [(29, .row 1 (rowC (rows eI (knN s o.w j.1).2)))]⟩) (fun j => n.toNat - j.1) ⟨0, Nat.zero_le _⟩ ?_ ?_
   ·refine Ent.to ?_ ?_ <;> simp (disch:=omega) only [qR,qS,qTw,qU,get,Nat.reduceEqDiff,↓reduceIte,qV,qW,qX,qY,qZ,and_self,dI,i64_in,and_true,true_and,rA,rB,rC,rD,knN]
    all_goals first | exact ⟨.refl _, .refl _⟩ | exact .refl _
   rintro ⟨j, hj⟩
   dsimp only
   have hkj := hk.n hob j
   have hxj := hkj.x
   have hlj := hkj.len
   by_cases hjn : j < n.toNat
   ·have hdj : decide ((j : Int) < n) = true := decide_eq_true (by omega)
    have e1 : (knN s o.w j).1 + o.w = (knN s o.w (j + 1)).1 := rfl
    have e2 : (knN s o.w j).2 ++ [(knN s o.w j).1 + o.w] = (knN s o.w (j + 1)).2 := rfl
    rw [e1] at e2
    have hb1 : 0 ≤ (knN s o.w (j + 1)).1 ∧ (knN s o.w (j + 1)).1 ≤ 1000000 := by rw [← e1]; omega
    repeat' (first|(with_reducible first|apply qA|apply qB|apply qC|apply qD|apply qE|apply qF)|(simp (disch:=omega) only [go_sem, simprocAttr, Blk.men, Blk.keysIn, hdj, hoi, rF, rG, e1])|exact qM rfl rfl rfl|(refine qG rfl ?_)|(refine qH rfl ?_)|(refine qI rfl ?_ ?_<;>intro hc<;>(try simp only [go_sem] at hc))|(refine qJ ?_ ?_<;>intro hc<;>(try simp only [hc])<;>(try simp only [go_sem] at hc)))
    refine ⟨⟨j + 1, by omega⟩, ?_, Ent.to ?_ ?_⟩ <;> first | (show _ < _; (try simp only); omega) | (simp (disch:=omega) only [qR,qS,qTw,qU,get,Nat.reduceEqDiff,↓reduceIte,qV,qW,qX,qY,qZ,and_self,dI,i64_in,and_true,true_and,rA,rB,rC,rD, e2])
    all_goals first | exact ⟨.refl _, .refl _⟩ | exact .refl _
   ·have hdj : decide ((j : Int) < n) = false := decide_eq_false (by omega)
    have hjn' : j = n.toNat := by omega
    subst hjn'
    repeat' (first|(with_reducible first|apply qA|apply qB|apply qC|apply qD|apply qE|apply qF)|(simp (disch:=omega) only [go_sem, simprocAttr, Blk.men, Blk.keysIn, hdj])|exact qM rfl rfl rfl|(refine qG rfl ?_)|(refine qH rfl ?_)|(refine qI rfl ?_ ?_<;>intro hc<;>(try simp only [go_sem] at hc))|(refine qJ ?_ ?_<;>intro hc<;>(try simp only [hc])<;>(try simp only [go_sem] at hc)))
    refine ⟨⟨i + 1, hlt⟩, ?_, Ent.to ?_ ?_⟩ <;> first | (show _ < _; (try simp only); omega) | (simp (disch:=omega) only [qR,qS,qTw,qU,get,Nat.reduceEqDiff,↓reduceIte,qV,qW,qX,qY,qZ,and_self,dI,i64_in,and_true,true_and,rA,rB,rC,rD, hst])
    all_goals first | exact ⟨.refl _, .refl _⟩ | exact .refl _
  ·subst he
   repeat' (first|(with_reducible first|apply qA|apply qB|apply qC|apply qD|apply qE|apply qF)|(simp (disch:=omega) only [go_sem, simprocAttr, Blk.men, Blk.keysIn, hd])|exact qM rfl rfl rfl|(refine qG rfl ?_)|(refine qH rfl ?_)|(refine qI rfl ?_ ?_<;>intro hc<;>(try simp only [go_sem] at hc))|(refine qJ ?_ ?_<;>intro hc<;>(try simp only [hc])<;>(try simp only [go_sem] at hc)))
   (refine retS_ent (Ent.rel 29 rfl) ?_; simp (disch:=omega) only [go_sem,simprocAttr,Blk.men,Blk.keysIn])
   refine retS_wk rfl ?_ (by simp only [Blk.nb, rowC_nb, D.nb, D.nbs, C.nb, C.nbs, C.nbss, rows_nb eI_nb, Bool.and_true, Bool.not_false, Bool.and_self, bD, dI, iD, rows_nb eO_nb]); exact .refl _
 ·rw [knvD, if_neg h]
  have hd : (owE p l ws != 0) = true := by simpa using h
  generalize owE p l ws = e at *
  by_cases ho : openE p l = 0
  ·rw [if_pos ho] at h1
   refine DCall.of Try.func76 sf76 hb76 (Nat.le_of_ble_eq_true rfl) (okRes_nil fun _ => rfl) ?_; simp only [s76, idxs, Nat.reduceAdd]
   repeat' (first|(with_reducible first|apply qA|apply qB|apply qC|apply qD|apply qE|apply qF)|(simp (disch:=omega) only [go_sem, simprocAttr, Blk.men, Blk.keysIn, hd])|exact qM rfl rfl rfl|(refine qG rfl ?_)|(refine qK (h1) (by decide) ?_)|(refine qH rfl ?_)|(refine qI rfl ?_ ?_<;>intro hc<;>(try simp only [go_sem] at hc))|(refine qJ ?_ ?_<;>intro hc<;>(try simp only [hc])<;>(try simp only [go_sem] at hc)))
  ·rw [if_neg ho] at h1
   refine DCall.of Try.func76 sf76 hb76 (Nat.le_of_ble_eq_true rfl) (okRes_nil fun _ => rfl) ?_; simp only [s76, idxs, Nat.reduceAdd]
   repeat' (first|(with_reducible first|apply qA|apply qB|apply qC|apply qD|apply qE|apply qF)|(simp (disch:=omega) only [go_sem, simprocAttr, Blk.men, Blk.keysIn, hd])|exact qM rfl rfl rfl|(refine qG rfl ?_)|(refine qK (h1) (by decide) ?_)|(refine qH rfl ?_)|(refine qI rfl ?_ ?_<;>intro hc<;>(try simp only [go_sem] at hc))|(refine qJ ?_ ?_<;>intro hc<;>(try simp only [hc])<;>(try simp only [go_sem] at hc)))
end Go.Dw.Seat.Tr
end
section
set_option linter.unusedSimpArgs false
set_option maxRecDepth 100000
namespace Go.Dw.Seat.Tr
open Go Go.Dw Go.Proofs Go.IntWalk
theorem pbOrders (b : Bool) (l : List TOrd) (hl : l.length ≤ 2 ^ 36) : DCall Try.prog 29 [.c (.sl b 3 (rows eO l))] [] (.c (.sl false 3 (rows eO l))) [] := by
 refine DCall.of Try.func29 sf29 hb29 (Nat.le_of_ble_eq_true rfl) (okRes_nil fun _ => rfl) ?_; simp only [s29, idxs, Nat.reduceAdd]
 repeat' (first|(with_reducible first|apply qA|apply qB|apply qC|apply qD|apply qE|apply qF)|(simp (disch:=omega) only [go_sem, simprocAttr, qN, qO, qP, qQ])|exact qM rfl rfl rfl|(refine qG rfl ?_)|(refine qH rfl ?_)|(refine qI rfl ?_ ?_<;>intro hc<;>(try simp only [go_sem] at hc))|(refine qJ ?_ ?_<;>intro hc<;>(try simp only [hc])<;>(try simp only [go_sem] at hc)))
 (refine retS_ent (Ent.rel 3 rfl) ?_; simp (disch:=omega) only [go_sem,simprocAttr,qN,qO,qP,qQ])
 refine retS_wk rfl ?_ (by simp only [Blk.nb, rowC_nb, D.nb, D.nbs, C.nb, C.nbs, C.nbss, rows_nb eI_nb, Bool.and_true, Bool.not_false, Bool.and_self, bD, dI, iD, rows_nb eO_nb, rows_nb eSt_nb, rows_nb eWs_nb, rows_nb eI_nb]); exact .refl _
theorem pbPlan (b : Bool) (q : List TStp) (hq : q.length ≤ 1000) (hw : ∀ s ∈ q, s.ws.length ≤ 1000) : DCall Try.prog 30 [dSt b q] [] (dSt false q) [] := by
 refine DCall.of Try.func30 sf30 hb30 (Nat.le_of_ble_eq_true rfl) (okRes_nil fun _ => rfl) ?_; simp only [s30, idxs, Nat.reduceAdd]
 repeat' (first|(with_reducible first|apply qA|apply qB|apply qC|apply qD|apply qE|apply qF)|(refine qL rfl (WF.of ?_) ?_; first|rfl|skip)|(simp (disch:=omega) only [go_sem, simprocAttr, qN, qO, qP, qQ])|exact qM rfl rfl rfl|(refine qG rfl ?_)|(refine qH rfl ?_)|(refine qI rfl ?_ ?_<;>intro hc<;>(try simp only [go_sem] at hc))|(refine qJ ?_ ?_<;>intro hc<;>(try simp only [hc])<;>(try simp only [go_sem] at hc)))
 refine DW.loop (ι := { i : Nat // i ≤ q.length }) (fun i => ⟨28, [(4, dI i.1), (3, .own 5), (0, dSt b q)], [(5, .row 2 (rowC (rows eSt (q.take i.1))))]⟩) (fun i => q.length - i.1) ⟨0, Nat.zero_le _⟩ ?_ ?_
 ·refine Ent.to ?_ ?_ <;> simp (disch:=omega) only [qR,qS,qTw,qU,get,Nat.reduceEqDiff,↓reduceIte,qV,qW,qX,qY,qZ,and_self,dI,i64_in,and_true,true_and,rA,rB,rC,rD,List.take_zero]
  all_goals first | exact ⟨.refl _, .refl _⟩ | exact .refl _
 rintro ⟨i, hi⟩
 dsimp only
 rcases at_or q i hi with ⟨s, hs, hlt, hd⟩ | ⟨he, hd⟩
 ·have hsw := hw s (List.mem_of_getElem? hs)
  have c1 := scInts false s.ws hsw
  have htk : q.take (i + 1) = q.take i ++ [s] := by rw [List.take_add_one, hs]; rfl
  have hlen : (q.take i).length ≤ 1000 := by rw [List.length_take]; omega
  generalize q.take i = Q at *
  repeat' (first|(with_reducible first|apply qA|apply qB|apply qC|apply qD|apply qE|apply qF)|(refine qL rfl (WF.of ?_) ?_; first|rfl|skip)|(simp (disch:=omega) only [go_sem, simprocAttr, qN, qO, qP, qQ, hd, hs, rF, rG])|exact qM rfl rfl rfl|(refine qG rfl ?_)|(refine qK (c1) (by decide) ?_)|(refine qH rfl ?_)|(refine qI rfl ?_ ?_<;>intro hc<;>(try simp only [go_sem] at hc))|(refine qJ ?_ ?_<;>intro hc<;>(try simp only [hc])<;>(try simp only [go_sem] at hc)))
  refine ⟨⟨i + 1, hlt⟩, ?_, Ent.to ?_ ?_⟩ <;> first | (show _ < _; (try simp only); omega) | (simp (disch:=omega) only [qR,qS,qTw,qU,get,Nat.reduceEqDiff,↓reduceIte,qV,qW,qX,qY,qZ,and_self,dI,i64_in,and_true,true_and,rA,rB,rC,rD, htk,rowC_snocS])
  all_goals first | exact ⟨.refl _, .refl _⟩ | exact .refl _ | skip
 ·subst he
  rw [List.take_length]
  repeat' (first|(with_reducible first|apply qA|apply qB|apply qC|apply qD|apply qE|apply qF)|(refine qL rfl (WF.of ?_) ?_; first|rfl|skip)|(simp (disch:=omega) only [go_sem, simprocAttr, qN, qO, qP, qQ, hd])|exact qM rfl rfl rfl|(refine qG rfl ?_)|(refine qH rfl ?_)|(refine qI rfl ?_ ?_<;>intro hc<;>(try simp only [go_sem] at hc))|(refine qJ ?_ ?_<;>intro hc<;>(try simp only [hc])<;>(try simp only [go_sem] at hc)))
  (refine retS_ent (Ent.rel 5 rfl) ?_; simp (disch:=omega) only [go_sem,simprocAttr,qN,qO,qP,qQ])
  refine retS_wk rfl ?_ (by simp only [Blk.nb, rowC_nb, D.nb, D.nbs, C.nb, C.nbs, C.nbss, rows_nb eI_nb, Bool.and_true, Bool.not_false, Bool.and_self, bD, dI, iD, rows_nb eO_nb, rows_nb eSt_nb, rows_nb eWs_nb, rows_nb eI_nb]); exact .refl _
theorem pbSame (p q : Bool) (a b : List Int) (ha : a.length ≤ 2 ^ 36) (hb : b.length ≤ 2 ^ 36) : DCall Try.prog 77 [.c (.sl p 1 (rows eI a)), .c (.sl q 1 (rows eI b))] [] (bD (decide (a = b))) [] := by
 refine DCall.of Try.func77 sf77 hb77 (Nat.le_of_ble_eq_true rfl) (okRes_nil fun _ => rfl) ?_; simp only [s77, idxs, Nat.reduceAdd]
 repeat' (first|(with_reducible first|apply qA|apply qB|apply qC|apply qD|apply qE|apply qF)|(refine qL rfl (WF.of ?_) ?_; first|rfl|skip)|(simp (disch:=omega) only [go_sem, simprocAttr, qN, qO, qP, qQ])|exact qM rfl rfl rfl|(refine qG rfl ?_)|(refine qH rfl ?_)|(refine qI rfl ?_ ?_<;>intro hc<;>(try simp only [go_sem] at hc))|(refine qJ ?_ ?_<;>intro hc<;>(try simp only [hc])<;>(try simp only [go_sem] at hc)))
 ·refine retS_of rfl ?_ rfl; simp only [oneD, St.op, get, Nat.reduceEqDiff, ↓reduceIte, Option.getD_some, bD, dI]
  have : a ≠ b := by rintro rfl; simp_all
  simp only [this, decide_false]
 refine DW.loop (ι := { i : Nat // i ≤ a.length ∧ ∀ j, j < i → a[j]? = b[j]? }) (fun i => ⟨26, [(5, dI i.1), (1, .c (.sl q 1 (rows eI b))), (0, .c (.sl p 1 (rows eI a)))], []⟩) (fun i => a.length - i.1) ⟨0, Nat.zero_le _, fun j h => by omega⟩ ?_ ?_
 ·refine Ent.to ?_ ?_ <;> simp (disch:=omega) only [qR,qS,qTw,qU,get,Nat.reduceEqDiff,↓reduceIte,qV,qW,qX,qY,qZ,and_self,dI,i64_in,and_true,true_and,rA,rB,rC,rD]
 rintro ⟨i, hi, hij⟩
 rcases at_or a i hi with ⟨v, hv, hlt, hd⟩ | ⟨he, hd⟩
 ·obtain ⟨u, hu⟩ : ∃ u, b[i]? = some u := getE (by omega)
  repeat' (first|(with_reducible first|apply qA|apply qB|apply qC|apply qD|apply qE|apply qF)|(refine qL rfl (WF.of ?_) ?_; first|rfl|skip)|(simp (disch:=omega) only [go_sem, simprocAttr, qN, qO, qP, qQ, hd, hv, hu])|exact qM rfl rfl rfl|(refine qG rfl ?_)|(refine qH rfl ?_)|(refine qI rfl ?_ ?_<;>intro hc<;>(try simp only [go_sem] at hc))|(refine qJ ?_ ?_<;>intro hc<;>(try simp only [hc])<;>(try simp only [go_sem] at hc)))
  ·refine retS_of rfl ?_ rfl; simp only [oneD, St.op, get, Nat.reduceEqDiff, ↓reduceIte, Option.getD_some, bD, dI]
   have : a ≠ b := by rintro rfl; simp_all
   simp only [this, decide_false]
  ·refine ⟨⟨i + 1, by omega, upto1 hij (by rw [hv, hu]; congr 1)⟩, ?_, Ent.to ?_ ?_⟩ <;> first | (show _ < _; (try simp only); omega) | (simp (disch:=omega) only [qR,qS,qTw,qU,get,Nat.reduceEqDiff,↓reduceIte,qV,qW,qX,qY,qZ,and_self,dI,i64_in,and_true,true_and,rA,rB,rC,rD])
 ·repeat' (first|(with_reducible first|apply qA|apply qB|apply qC|apply qD|apply qE|apply qF)|(refine qL rfl (WF.of ?_) ?_; first|rfl|skip)|(simp (disch:=omega) only [go_sem, simprocAttr, qN, qO, qP, qQ, hd])|exact qM rfl rfl rfl|(refine qG rfl ?_)|(refine qH rfl ?_)|(refine qI rfl ?_ ?_<;>intro hc<;>(try simp only [go_sem] at hc))|(refine qJ ?_ ?_<;>intro hc<;>(try simp only [hc])<;>(try simp only [go_sem] at hc)))
  refine retS_of rfl ?_ rfl; simp only [oneD, St.op, get, Nat.reduceEqDiff, ↓reduceIte, Option.getD_some, bD, dI]
  have : a = b := ext_upto (by omega) (he ▸ hij)
  simp only [this, decide_true]
end Go.Dw.Seat.Tr
end
section
set_option linter.unusedSimpArgs false
set_option maxRecDepth 100000
namespace Go.Dw.Seat.Tr
open Go Go.Dw Go.Proofs Go.IntWalk
def ptP : TPap := ⟨2500, 20, 400, 4⟩
def ptL : List TOrd := [⟨800, 10, 12⟩, ⟨700, 8, 9⟩, ⟨1200, 4, 4⟩]
def ptQ : List TStp := [⟨[0, 0, 2], 2⟩, ⟨[0, 3, 0], 1⟩, ⟨[2, 1, 0], 5⟩]
def qEqP (a b : List TStp) : Bool := a.map (·.ws) == b.map (·.ws) && a.map (·.run) == b.map (·.run)
theorem qEqP_eq : ∀ {a b : List TStp}, qEqP a b = true → a = b
 | [], [], _ => rfl
 | [], _ :: _, h => by simp [qEqP] at h
 | _ :: _, [], h => by simp [qEqP] at h
 | ⟨w, r⟩ :: a, ⟨w', r'⟩ :: b, h => by
  simp only [qEqP, List.map_cons, Bool.and_eq_true, beq_iff_eq, List.cons.injEq] at h
  obtain ⟨⟨rfl, h1⟩, rfl, h2⟩ := h
  rw [qEqP_eq (a := a) (b := b) (by simp [qEqP, h1, h2])]
theorem pt_plan : planX ptP ptL = .tup [dSt false ptQ, dI 0] := by
 have h : (match planF ptP ptL with | some x => qEqP x.1 ptQ | none => false) = true := by decide +kernel
 have ho : openE ptP ptL = 0 := by decide +kernel
 unfold planX
 rw [if_pos ho]
 cases hp : planF ptP ptL with
 | none => rw [hp] at h; cases h
 | some x =>
  rw [hp] at h
  dsimp only at h ⊢
  rw [qEqP_eq h]
theorem pt_knv : knvD ptP ptL [2, 1, 0] = dIs false [100, 900, 1700, 2400] ∧ owE ptP ptL [2, 1, 0] = 0 := by
 have h : knvL ptP ptL [2, 1, 0] = [100, 900, 1700, 2400] ∧ owE ptP ptL [2, 1, 0] = 0 := by decide +kernel
 refine ⟨?_, h.2⟩
 rw [knvD, if_pos h.2, h.1]
theorem pbTrim : DCall Try.prog 36 [] [] (bD true) [] := by
 have s1 := pbSpan 20 400
 have s2 := pbSpan 10 12
 have s3 := pbSpan 8 9
 have s4 := pbSpan 4 4
 have h1 := trPlanX ptP ptL (by decide)
 have h2 := trKnives true ptP ptL (by decide) [2, 1, 0] (by decide)
 rw [pt_plan] at h1
 rw [pt_knv.1, pt_knv.2] at h2
 simp only [ptP, ptL, ptQ] at h1 h2
 have e1 := pbSame false true [100, 900, 1700, 2400] [100, 900, 1700, 2400] (by decide) (by decide)
 rw [show decide (([100, 900, 1700, 2400] : List Int) = [100, 900, 1700, 2400]) = true from by decide] at e1
 refine DCall.of Try.func36 sf36 hb36 (Nat.le_of_ble_eq_true rfl) (okRes_nil fun _ => rfl) ?_; simp only [s36, idxs, Nat.reduceAdd]
 repeat' (first|(with_reducible first|apply qA|apply qB|apply qC|apply qD|apply qE|apply qF)|(simp (disch:=omega) only [go_sem, simprocAttr, qN, qO, qP, qQ])|exact qM rfl rfl rfl|(refine qG rfl ?_)|(refine qK (s1) (by decide) ?_)|(refine qK (s2) (by decide) ?_)|(refine qK (s3) (by decide) ?_)|(refine qK (s4) (by decide) ?_)|(refine qH rfl ?_)|(refine qI rfl ?_ ?_<;>intro hc<;>(try simp only [go_sem] at hc))|(refine qJ ?_ ?_<;>intro hc<;>(try simp only [hc])<;>(try simp only [go_sem] at hc)))
 refine call_e (Ent.rel 15 rfl) h1 (by rfl) (by rfl) (by decide) ?_
 simp (disch:=omega) only [go_sem,simprocAttr,qN,qO,qP,qQ]
 repeat' (first|(with_reducible first|apply qA|apply qB|apply qC|apply qD|apply qE|apply qF)|(simp (disch:=omega) only [go_sem, simprocAttr, qN, qO, qP, qQ])|exact qM rfl rfl rfl|(refine qG rfl ?_)|(refine qK (h2) (by decide) ?_)|(refine qK (e1) (by decide) ?_)|(refine qH rfl ?_)|(refine qI rfl ?_ ?_<;>intro hc<;>(try simp only [go_sem] at hc))|(refine qJ ?_ ?_<;>intro hc<;>(try simp only [hc])<;>(try simp only [go_sem] at hc)))
end Go.Dw.Seat.Tr
end
section
set_option linter.unusedSimpArgs false
set_option maxRecDepth 100000
namespace Go.Dw.Seat
open Go Go.Dw Go.Proofs Go.IntWalk
def enBack (e : (Int × Int) × Nat) : List D := [dI e.2, .agg ((eT e.1).map D.c)]
def enSp (e : Int × Int) : List D := [.agg [dI e.1, dI e.2]]
attribute [go_sem] enBack enSp
end Go.Dw.Seat
end
section
set_option linter.unusedSimpArgs false
set_option maxRecDepth 100000
namespace Go.Dw.Seat
open Go Go.Dw Go.Proofs Go.IntWalk
abbrev IMap := List (Nat × Int)
def iFind : IMap → Nat → Option Int
 | [], _ => none
 | p :: t, s => if s = p.1 then some p.2 else iFind t s
def iG (m : IMap) (s : Nat) : Int := (iFind m s).getD 0
def iUpd : IMap → Nat → Int → IMap
 | [], s, b => [(s, b)]
 | p :: t, s, b => if s = p.1 then (s, b) :: t else p :: iUpd t s b
def iMk (m : IMap) : List Value := m.map fun p => .int .i64 p.1
def iMd (m : IMap) : List D := m.map fun p => .c (.v (.int .i64 p.2))
theorem iK_ok (s : Nat) (m : IMap) : keysOK (.int .i64) (.int .i64 s) (iMk m) = true := by
 simp only [keysOK, KK.is, decide_true, Bool.true_and, iMk, List.all_map, List.all_eq_true]
 intro p _
 simp [KK.is]
theorem findL_iK (s : Nat) : ∀ (m : IMap) (n : Nat), (match iFind m s with
  | some b => ∃ i, findL (.int .i64 s) (iMk m) n = some (n + i) ∧ (iMd m)[i]? = some (dI b) ∧ ∀ c : Int, (iMk m).set i (.int .i64 s) = iMk (iUpd m s c) ∧ (iMd m).set i (dI c) = iMd (iUpd m s c)
  | none => findL (.int .i64 s) (iMk m) n = none ∧ ∀ c : Int, iMk m ++ [.int .i64 s] = iMk (iUpd m s c) ∧ iMd m ++ [dI c] = iMd (iUpd m s c))
 | [], n => ⟨rfl, fun c => ⟨rfl, rfl⟩⟩
 | p :: t, n => by
  have ih := findL_iK s t (n + 1)
  simp only [iFind, iUpd]
  by_cases h : s = p.1
  ·rw [if_pos h]
   have hk : keyEq (.int .i64 (s : Int)) (.int .i64 (p.1 : Int)) = true := by simp [keyEq, h]
   refine ⟨0, ?_, rfl, fun c => ?_⟩
   ·simp only [iMk, List.map_cons, findL, hk, if_true]; rfl
   ·simp only [if_pos h]
    exact ⟨rfl, rfl⟩
  ·rw [if_neg h]
   have hk : keyEq (.int .i64 (s : Int)) (.int .i64 (p.1 : Int)) = false := by simp [keyEq]; omega
   cases hf : iFind t s with
   | some b =>
    rw [hf] at ih
    obtain ⟨i, h1, h2, h3⟩ := ih
    refine ⟨i + 1, ?_, h2, fun c => ?_⟩
    ·have : n + (i + 1) = n + 1 + i := by omega
     rw [this]
     simpa only [iMk, List.map_cons, findL, hk, Bool.false_eq_true, if_false] using h1
    ·obtain ⟨h4, h5⟩ := h3 c
     simp only [if_neg h]
     exact ⟨by simpa [iMk] using h4, by simpa [iMd] using h5⟩
   | none =>
    rw [hf] at ih
    obtain ⟨h1, h3⟩ := ih
    refine ⟨by simpa only [iMk, List.map_cons, findL, hk, Bool.false_eq_true, if_false] using h1, fun c => ?_⟩
    obtain ⟨h4, h5⟩ := h3 c
    simp only [if_neg h]
    exact ⟨by simpa [iMk] using h4, by simpa [iMd] using h5⟩
theorem look_iK (s : Nat) (m : IMap) : lookIn (.c (.v (.int .i64 0))) (iMk m) (iMd m) (.int .i64 s) false = some (.c (.v (.int .i64 (iG m s)))) := by
 have h := findL_iK s m 0
 unfold lookIn iG
 cases hf : iFind m s with
 | some b =>
  rw [hf] at h
  obtain ⟨i, h1, h2, _⟩ := h
  rw [Nat.zero_add] at h1
  simp only [h1, h2, commaD, Bool.false_eq_true, if_false]; rfl
 | none =>
  rw [hf] at h
  simp only [h.1, commaD, Bool.false_eq_true, if_false]; rfl
theorem upd_iK (s : Nat) (m : IMap) (c : Int) : updK (iMk m) (iMd m) (.int .i64 s) (.c (.v (.int .i64 c))) = (iMk (iUpd m s c), iMd (iUpd m s c)) := by
 have h := findL_iK s m 0
 unfold updK
 cases hf : iFind m s with
 | some b =>
  rw [hf] at h
  obtain ⟨i, h1, h2, h3⟩ := h
  rw [Nat.zero_add] at h1
  simp only [h1, (h3 c).1]
  exact congrArg _ (h3 c).2
 | none =>
  rw [hf] at h
  simp only [h.1, (h.2 c).1]
  exact congrArg _ (h.2 c).2
theorem iFind_upd {s t : Nat} {c : Int} : ∀ (m : IMap), iFind (iUpd m s c) t = if t = s then some c else iFind m t
 | [] => by simp only [iUpd, iFind]
 | p :: m => by
  simp only [iUpd]
  by_cases h : s = p.1
  ·rw [if_pos h]
   simp only [iFind]
   by_cases h2 : t = s
   ·simp [h2]
   ·rw [if_neg h2, if_neg h2, if_neg (by omega)]
  ·rw [if_neg h]
   simp only [iFind, iFind_upd m]
   by_cases h2 : t = p.1
   ·rw [if_pos h2, if_pos h2, if_neg (by omega)]
   ·rw [if_neg h2, if_neg h2]
theorem iG_upd (s t : Nat) (c : Int) (m : IMap) : iG (iUpd m s c) t = if t = s then c else iG m t := by
 unfold iG
 rw [iFind_upd]
 split <;> rfl
theorem iD_nb (m : IMap) : D.nbs (iMd m) = true := by
 induction m with
 | nil => rfl
 | cons p m ih => simp only [iMd, List.map_cons, D.nbs, Bool.and_eq_true]; exact ⟨rfl, ih⟩
theorem iD_men (k : Nat) (m : IMap) : D.mens k (iMd m) = false := by
 induction m with
 | nil => rfl
 | cons p m ih => simpa [iMd, D.mens, D.men] using ih
theorem iD_keys (bx : List (Nat × Blk)) (m : IMap) : D.keysIns bx (iMd m) = true := by
 induction m with
 | nil => rfl
 | cons p m ih => simpa [iMd, D.keysIns, D.keysIn] using ih
theorem killB_iD [Lays] (k : Nat) (ks : List Value) (m : IMap) : killB k (.map ks (iMd m)) = .map ks (iMd m) := by
 show Blk.map ks ((iMd m).map (killD k)) = _
 rw [map_killD_of (iD_men k m)]
theorem rels_iD (k : Nat) (x : Blk) : ∀ m : IMap, relDs k x (iMd m) = iMd m
 | [] => rfl
 | p :: m => by
  have := rels_iD k x m
  simpa [iMd, relDs, relD] using this
theorem relB_iD [Lays] (k : Nat) (x : Blk) (ks : List Value) (m : IMap) : relB k x (.map ks (iMd m)) = .map ks (iMd m) := by
 show Blk.map ks (relDs k x (iMd m)) = _
 rw [rels_iD]
attribute [go_sem] killB_iD relB_iD iK_ok look_iK upd_iK iD_men iD_keys
def useM : IMap → List (Nat × Int) → IMap
 | m, [] => m
 | m, e :: l => useM (iUpd m e.1 (iG m e.1 + e.2)) l
def useN (l : List (Nat × Int)) (k : Nat) (n : Int) : Int := l.foldl (fun n e => if e.1 = k then n + e.2 else n) n
theorem useM_get (k : Nat) : ∀ (l : List (Nat × Int)) (m : IMap), iG (useM m l) k = useN l k (iG m k)
 | [], _ => rfl
 | e :: l, m => by
  rw [useM, useM_get k l, iG_upd]
  have e2 : useN (e :: l) k (iG m k) = useN l k (if e.1 = k then iG m k + e.2 else iG m k) := rfl
  rw [e2]
  by_cases h : k = e.1
  ·rw [if_pos h, if_pos h.symm, h]
  ·rw [if_neg h, if_neg (fun e => h e.symm)]
theorem useN_b (k : Nat) : ∀ (l : List (Nat × Int)) (n : Int), (∀ e ∈ l, 0 ≤ e.2 ∧ e.2 ≤ 200000000) → n ≤ useN l k n ∧ useN l k n ≤ n + 200000000 * (l.length : Int)
 | [], n, _ => ⟨Int.le_refl _, by simp [useN]⟩
 | e :: l, n, h => by
  have he := h e (by simp)
  have ih := useN_b k l (if e.1 = k then n + e.2 else n) (fun x hx => h x (by simp [hx]))
  have e2 : useN (e :: l) k n = useN l k (if e.1 = k then n + e.2 else n) := rfl
  rw [e2, List.length_cons, Int.natCast_add, Int.natCast_one, Int.mul_add]
  split at ih <;> rename_i hc
  ·rw [if_pos hc]; omega
  ·rw [if_neg hc]; omega
end Go.Dw.Seat
end
section
set_option linter.unusedSimpArgs false
set_option maxRecDepth 100000
namespace Go.Dw.Seat
open Go Go.Dw Go.Proofs Go.IntWalk
def eSp (s : Int × Int) : List C := [.v (.int .i64 s.1), .v (.int .i64 s.2)]
attribute [go_sem] eSp
def spM (s : Int × Int) : Prop := 0 ≤ s.1 ∧ s.1 ≤ s.2 ∧ s.2 ≤ 300
structure DSt where
 lo : Int
 hi : Int
 h : Int
structure DSt.ok (s : DSt) : Prop where
 r : spM (s.lo, s.hi)
 h : 0 ≤ s.h ∧ s.h ≤ 500
def eDs (s : DSt) : List C := [.v (.int .i64 s.lo), .v (.int .i64 s.hi), .v (.int .i64 s.h)]
attribute [go_sem] eDs
end Go.Dw.Seat
end
section
set_option linter.unusedSimpArgs false
set_option maxRecDepth 100000
namespace Go.Dw.Seat
open Go Go.Dw Go.Proofs Go.IntWalk
theorem dm_bm_pbox (k l : Nat) (ds : List D) : Blk.men k (.pbox l ds) = D.mens k ds := rfl
theorem dm_bk_pbox (bx : List (Nat × Blk)) (l : Nat) (ds : List D) : Blk.keysIn bx (.pbox l ds) = D.keysIns bx ds := rfl
theorem dm_killB_pbox (k l : Nat) (ds : List D) : killB k (.pbox l ds) = .pbox l (ds.map (killD k)) := rfl
attribute [go_sem] dm_bm_pbox dm_bk_pbox dm_killB_pbox
end Go.Dw.Seat
end
section
set_option linter.unusedSimpArgs false
set_option maxRecDepth 100000
namespace Go.Dw.Seat
open Go Go.Dw Go.Proofs Go.IntWalk
theorem bdRatio (n d : Nat) (hd : 0 < d) (hn : n ≤ 4000000000000000000) (hdd : d ≤ 4000000000000000000) : DCall Try.prog 73 [dI n, dI d] [] (.agg [dI ((n / Nat.gcd n d : Nat) : Int), dI ((d / Nat.gcd n d : Nat) : Int)]) [] := by
 have hg : 0 < Nat.gcd n d := Nat.gcd_pos_of_pos_right n hd
 obtain ⟨G, hG⟩ : ∃ G, Nat.gcd n d = G := ⟨_, rfl⟩
 rw [hG] at hg ⊢
 have hq1 : n / G ≤ n := Nat.div_le_self _ _
 have hq2 : d / G ≤ d := Nat.div_le_self _ _
 refine DCall.of Try.func73 sf73 hb73 (Nat.le_of_ble_eq_true rfl) (okRes_nil fun _ => rfl) ?_; simp only [s73, idxs, Nat.reduceAdd]
 repeat' (first|(with_reducible first|apply qA|apply qB|apply qC|apply qD|apply qE|apply qF)|(refine qL rfl (WF.of ?_) ?_; first|rfl|skip)|(simp (disch:=omega) only [go_sem, simprocAttr, Blk.men, Blk.keysIn])|exact qM rfl rfl rfl|(refine qG rfl ?_)|(refine qH rfl ?_)|(refine qI rfl ?_ ?_<;>intro hc<;>(try simp only [go_sem] at hc))|(refine qJ ?_ ?_<;>intro hc<;>(try simp only [hc])<;>(try simp only [go_sem] at hc)))
 refine DW.loop (ι := { y : Nat × Nat // Nat.gcd y.1 y.2 = G ∧ y.1 ≤ 4000000000000000000 ∧ y.2 ≤ 4000000000000000000 }) (fun y => ⟨24, [(6, dI y.1.2), (5, dI y.1.1), (4, .box 4 0), (0, dI n), (1, dI d)], [(4, .box [dI 0, dI 0])]⟩) (fun y => y.1.2) ⟨(n, d), hG, hn, hdd⟩ ?_ ?_
 ·refine Ent.to ?_ ?_ <;> simp (disch:=omega) only [qR,qS,qTw,qU,get,Nat.reduceEqDiff,↓reduceIte,qV,qW,qX,qY,qZ,and_self,dI,i64_in,and_true,true_and,rA,rB,rC,rD]
 rintro ⟨⟨a, b⟩, hab, ha, hb⟩
 dsimp only at hab ha hb ⊢
 rcases Nat.eq_zero_or_pos b with hz | hz
 ·subst hz
  have ha' : a = G := by rw [← hab]; simp
  subst ha'
  have hd0 : (((0 : Nat) : Int) != 0) = false := rfl
  have h0 : ((a : Int) = 0) = False := eq_false (by omega)
  have e1 := tdivN n a
  have e2 := tdivN d a
  have hw1 : IntKind.i64.wrap ((n / a : Nat) : Int) = ((n / a : Nat) : Int) := i64_in _ (by generalize n / a = q at *; omega)
  have hw2 : IntKind.i64.wrap ((d / a : Nat) : Int) = ((d / a : Nat) : Int) := i64_in _ (by generalize d / a = q at *; omega)
  repeat' (first|(with_reducible first|apply qA|apply qB|apply qC|apply qD|apply qE|apply qF)|(refine qL rfl (WF.of ?_) ?_; first|rfl|skip)|(simp (disch:=omega) only [go_sem, simprocAttr, Blk.men, Blk.keysIn, hd0, h0, e1, e2, hw1, hw2, rD])|exact qM rfl rfl rfl|(refine qG rfl ?_)|(refine qH rfl ?_)|(refine qI rfl ?_ ?_<;>intro hc<;>(try simp only [go_sem] at hc))|(refine qJ ?_ ?_<;>intro hc<;>(try simp only [hc])<;>(try simp only [go_sem] at hc)))
 ·have hd0 : ((b : Int) != 0) = true := by rw [bne_iff_ne]; omega
  have h0 : ((b : Int) = 0) = False := eq_false (by omega)
  have e1 := tmodN a b
  have hlt := Nat.mod_lt a hz
  have hg2 : Nat.gcd b (a % b) = G := by rw [← hab, Nat.gcd_comm a b, Nat.gcd_rec b a, Nat.gcd_comm]
  repeat' (first|(with_reducible first|apply qA|apply qB|apply qC|apply qD|apply qE|apply qF)|(refine qL rfl (WF.of ?_) ?_; first|rfl|skip)|(simp (disch:=omega) only [go_sem, simprocAttr, Blk.men, Blk.keysIn, hd0, h0, e1])|exact qM rfl rfl rfl|(refine qG rfl ?_)|(refine qH rfl ?_)|(refine qI rfl ?_ ?_<;>intro hc<;>(try simp only [go_sem] at hc))|(refine qJ ?_ ?_<;>intro hc<;>(try simp only [hc])<;>(try simp only [go_sem] at hc)))
  refine ⟨⟨(b, a % b), hg2, by dsimp only; omega, by dsimp only; omega⟩, ?_, Ent.to ?_ ?_⟩ <;> first | (show _ < _; (try simp only); omega) | (simp (disch:=omega) only [qR,qS,qTw,qU,get,Nat.reduceEqDiff,↓reduceIte,qV,qW,qX,qY,qZ,and_self,dI,i64_in,and_true,true_and,rA,rB,rC,rD])
def wNum (s : Sto) (m : Mak) : Nat := (sumI Pap.weight s m).toNat / Nat.gcd (sumI Pap.weight s m).toNat (wholeI s m).toNat
def wDen (s : Sto) (m : Mak) : Nat := (wholeI s m).toNat / Nat.gcd (sumI Pap.weight s m).toNat (wholeI s m).toNat
theorem bdWeigh (s : Sto) (m : Mak) (hs : s.ok) (h : m.ok s) : DCall Try.prog 74 [dSto s, dMak m] [] (.tup [.agg [dI (wNum s m), dI (wDen s m)], dI 0]) [] := by
 have h1 := bdNew s m hs h
 have h2 := bdSum s m hs h 123 [] rfl Pap.weight (weight_b hs) (fun p _ => bdWeight p)
 have hb := (sumI_b hs h Pap.weight (weight_b hs)).2
 have hw := wholeI_b hs h
 have h3 := bdRatio (sumI Pap.weight s m).toNat (wholeI s m).toNat (by omega) (by omega) (by omega)
 rw [Int.toNat_of_nonneg hb.1, Int.toNat_of_nonneg (by omega)] at h3
 refine DCall.of Try.func74 sf74 hb74 (Nat.le_of_ble_eq_true rfl) (okRes_nil fun _ => rfl) ?_; simp only [s74, idxs, Nat.reduceAdd]
 repeat' (first|(with_reducible first|apply qA|apply qB|apply qC|apply qD|apply qE|apply qF)|(refine qL rfl (WF.of ?_) ?_; first|rfl|skip)|(simp (disch:=omega) only [go_sem, simprocAttr, Blk.men, Blk.keysIn])|exact qM rfl rfl rfl|(refine qG rfl ?_)|(refine qK (h1) (by decide) ?_)|(refine qK (h2) (by decide) ?_)|(refine qK (h3) (by decide) ?_)|(refine qH rfl ?_)|(refine qI rfl ?_ ?_<;>intro hc<;>(try simp only [go_sem] at hc))|(refine qJ ?_ ?_<;>intro hc<;>(try simp only [hc])<;>(try simp only [go_sem] at hc)))
end Go.Dw.Seat
end
section
set_option linter.unusedSimpArgs false
set_option maxRecDepth 100000
namespace Go.Dw.Seat
open Go Go.Dw Go.Proofs Go.IntWalk
def eRt (p : Nat × Nat) : List C := [.v (.int .i64 p.1), .v (.int .i64 p.2)]
theorem eRt_nb (p : Nat × Nat) : C.nbs (eRt p) = true := rfl
attribute [go_sem] eRt
def useK (s : Sto) (m : Mak) (k : Nat) : Int := useN (layersL s m) k 0
def useNum (s : Sto) (m : Mak) (a : Int) (k : Nat) : Nat := (useK s m k * (papAt s k).weight * a).toNat
def useRat (s : Sto) (m : Mak) (a : Int) (k : Nat) : Nat × Nat := (useNum s m a k / Nat.gcd (useNum s m a k) (wholeI s m).toNat, (wholeI s m).toNat / Nat.gcd (useNum s m a k) (wholeI s m).toNat)
def useL (s : Sto) (m : Mak) (a : Int) (i : Nat) : List (Nat × Nat) := (List.range i).map (useRat s m a)
theorem rowC_snocRt (l : List (Nat × Nat)) (p : Nat × Nat) : rowC (rows eRt (l ++ [p])) = rowC (rows eRt l) ++ [[D.c (.v (.int .i64 p.1)), D.c (.v (.int .i64 p.2))]] := by simp [rowC, rows, eRt]
theorem useK_b {s : Sto} {m : Mak} (hs : s.ok) (h : m.ok s) (k : Nat) : 0 ≤ useK s m k ∧ useK s m k ≤ 1000000000 := by
 have := useN_b k (layersL s m) 0 (fun e he => (layers_ok hs h e he).2)
 have hn : (layersL s m).length ≤ 5 := by rw [layersL_len]; have := h.np; have := h.nf; omega
 unfold useK
 omega
def useS (M : IMap) (e : Nat × Int) : Option Exit × IMap := (none, iUpd M e.1 (IntKind.i64.wrap (iG M e.1 + e.2)))
theorem useS_run : ∀ (l : List (Nat × Int)) (M : IMap) (B : Int), (∀ e ∈ l, 0 ≤ e.2 ∧ e.2 ≤ 200000000) → (∀ k, 0 ≤ iG M k ∧ iG M k ≤ B) → B + 200000000 * (l.length : Int) ≤ 9000000000000000000 → runIt useS M l = (none, useM M l)
 | [], _, _, _, _, _ => rfl
 | e :: l, M, B, hl, hM, hB => by
  have he := hl e (by simp)
  have hk := hM e.1
  rw [List.length_cons, Int.natCast_add, Int.natCast_one, Int.mul_add] at hB
  have hw : IntKind.i64.wrap (iG M e.1 + e.2) = iG M e.1 + e.2 := i64_in _ (by omega)
  simp only [runIt, useS, hw, useM]
  refine useS_run l _ (B + 200000000) (fun x hx => hl x (by simp [hx])) (fun k => ?_) (by omega)
  have := hM k
  rw [iG_upd]
  split <;> omega
set_option maxHeartbeats 4000000 in
theorem bdUse (s : Sto) (m : Mak) (hs : s.ok) (h : m.ok s) (a : Int) (ha : 0 ≤ a ∧ a ≤ 1000000) : DCall Try.prog 32 [dSto s, dMak m, dI a] [] (.tup [.c (.sl false 2 (rows eRt (useL s m a s.papers.length))), dI 0]) [] := by
 have h1 := bdNew s m hs h
 have h2 := bdIn true 0 1000000 [a] (by simp) (by simp; omega)
 have hit := bdLayers s m hs h
 have hnp := hs.np
 have hw := wholeI_b hs h
 refine DCall.of Try.func32 sf32 hb32 (Nat.le_of_ble_eq_true rfl) (okRes_nil fun _ => rfl) ?_; simp only [s32, idxs, Nat.reduceAdd]
 repeat' (first|(with_reducible first|apply qA|apply qB|apply qC|apply qD|apply qE|apply qF)|(simp (disch:=omega) only [go_sem, simprocAttr, qN, qO, qP, qQ])|exact qM rfl rfl rfl|(refine qG rfl ?_)|(refine qK (h1) (by decide) ?_)|(refine qK (h2) (by decide) ?_)|(refine qH rfl ?_)|(refine qI rfl ?_ ?_<;>intro hc<;>(try simp only [go_sem] at hc))|(refine qJ ?_ ?_<;>intro hc<;>(try simp only [hc])<;>(try simp only [go_sem] at hc)))
 refine DW.ent (σ' := ⟨63, [(31, .fn (.func 72) [dShe s m (wholeI s m)] []), (9, .box 9 0), (8, .box 8 0), (6, .c (.v (.slice none 0 0))), (3, .box 3 0), (2, dI a)], [(29, .map (iMk []) (iMd [])), (9, .box [.hd 29]), (8, .box [.c (.sl false 1 (rows eI (nL m.papers))), .c (.sl false 1 (rows eI (nL m.flutes))), .c (.sl false 8 (rows eP s.papers)), .c (.sl false 4 (rows eF s.flutes)), dI (wholeI s m)]), (3, .box [.c (.sl false 8 (rows eP s.papers)), .c (.sl false 4 (rows eF s.flutes))])]⟩) (Ent.to ?_ ?_) ?_
 ·simp (disch:=omega) only [qR,qS,qTw,qU,get,Nat.reduceEqDiff,↓reduceIte,qV,qW,qX,qY,qZ,and_self,dI,i64_in,and_true,true_and,rA,rB,rC,rD]
 ·simp (disch:=omega) only [qR,qS,qTw,qU,get,Nat.reduceEqDiff,↓reduceIte,qV,qW,qX,qY,qZ,and_self,dI,i64_in,and_true,true_and,rA,rB,rC,rD,iMk,iMd,rG]
 refine DW.rngBD (fun M : IMap => [(29, .map (iMk M) (iMd M)), (9, .box [.hd 29]), (8, .box [.c (.sl false 1 (rows eI (nL m.papers))), .c (.sl false 1 (rows eI (nL m.flutes))), .c (.sl false 8 (rows eP s.papers)), .c (.sl false 4 (rows eF s.flutes)), dI (wholeI s m)]), (3, .box [.c (.sl false 8 (rows eP s.papers)), .c (.sl false 4 (rows eF s.flutes))])]) [] useS enLay (okLay s) (layersL s m) hit (fun _ => True) trivial (fun _ _ _ _ _ => trivial) rfl (fun _ => ⟨rfl, rfl⟩) rfl (by decide) (fun _ _ => rfl) (fun _ _ _ => rfl) (by simp only [List.map_cons, List.map_nil]; decide) (fun _ => rfl) (fun M => by show (_ && (D.keysIns _ (iMd M) && _)) = true; rw [iD_keys]; rfl) (fun M => by show (D.nbs (iMd M) && _) = true; rw [iD_nb, Bool.true_and]; exact (by simp only [List.all_cons, List.all_nil, Blk.nb, rowC_nb, D.nb, D.nbs, C.nb, C.nbs, C.nbss, rows_nb eI_nb, Bool.and_true, Bool.not_false, Bool.and_self, bD, dI, iD, rows_nb eP_nb, rows_nb eF_nb, rows_nb eRt_nb])) (by simp only [List.all_cons, List.all_nil, Blk.nb, rowC_nb, D.nb, D.nbs, C.nb, C.nbs, C.nbss, rows_nb eI_nb, Bool.and_true, Bool.not_false, Bool.and_self, bD, dI, iD, rows_nb eP_nb, rows_nb eF_nb, rows_nb eRt_nb]) (fun _ _ => rfl) ?_ ?_
 ·rintro M - ⟨k, parts⟩ he v
  have hS : useS M (k, parts) = (none, iUpd M k (IntKind.i64.wrap (iG M k + parts))) := rfl
  rw [hS]
  simp (disch:=omega) only [go_sem,simprocAttr,qN,qO,qP,qQ]
  repeat' (first|(with_reducible first|apply qA|apply qB|apply qC|apply qD|apply qE|apply qF)|(simp (disch:=omega) only [go_sem, simprocAttr, qN, qO, qP, qQ, rF, rG])|exact qM rfl rfl rfl|(refine qG rfl ?_)|(refine qH rfl ?_)|(refine qI rfl ?_ ?_<;>intro hc<;>(try simp only [go_sem] at hc))|(refine qJ ?_ ?_<;>intro hc<;>(try simp only [hc])<;>(try simp only [go_sem] at hc)))
  refine round_end rfl rfl (Ent.to ?_ ?_) <;> simp (disch:=omega) only [qR,qS,qTw,qU,get,Nat.reduceEqDiff,↓reduceIte,qV,qW,qX,qY,qZ,and_self,dI,i64_in,and_true,true_and,rA,rB,rC,rD,capB,List.cons_append,List.nil_append]
 ·rw [useS_run (layersL s m) [] 0 (fun e he => (layers_ok hs h e he).2) (fun k => by simp [iG, iFind]) (by rw [layersL_len]; have := h.np; have := h.nf; omega)]
  simp (disch:=omega) only [go_sem,simprocAttr,qN,qO,qP,qQ,Option.getD_none]
  repeat' (first|(with_reducible first|apply qA|apply qB|apply qC|apply qD|apply qE|apply qF)|(simp (disch:=omega) only [go_sem, simprocAttr, qN, qO, qP, qQ])|exact qM rfl rfl rfl|(refine qG rfl ?_)|(refine qH rfl ?_)|(refine qI rfl ?_ ?_<;>intro hc<;>(try simp only [go_sem] at hc))|(refine qJ ?_ ?_<;>intro hc<;>(try simp only [hc])<;>(try simp only [go_sem] at hc)))
  refine DW.ent (Ent.adopt 6 60 2 rfl rfl (by simp [menS, D.men, D.mens, Blk.men, iD_men])) ?_
  simp only [ins, Nat.reduceLT, Nat.reduceEqDiff, ↓reduceIte]
  refine DW.loop (ι := { i : Nat // i ≤ s.papers.length }) (fun i => ⟨63, [(42, dI i.1), (41, dI s.papers.length), (40, .c (.sl false 8 (rows eP s.papers))), (9, .box 9 0), (8, .box 8 0), (6, .own 60), (2, dI a)], [(60, .row 2 (rowC (rows eRt (useL s m a i.1)))), (29, .map (iMk (useM [] (layersL s m))) (iMd (useM [] (layersL s m)))), (9, .box [.hd 29]), (8, .box [.c (.sl false 1 (rows eI (nL m.papers))), .c (.sl false 1 (rows eI (nL m.flutes))), .c (.sl false 8 (rows eP s.papers)), .c (.sl false 4 (rows eF s.flutes)), dI (wholeI s m)])]⟩) (fun i => s.papers.length - i.1) ⟨0, Nat.zero_le _⟩ ?_ ?_
  ·refine Ent.to ?_ ?_ <;> simp (disch:=omega) only [qR,qS,qTw,qU,get,Nat.reduceEqDiff,↓reduceIte,qV,qW,qX,qY,qZ,and_self,dI,i64_in,and_true,true_and,rA,rB,rC,rD,useL,List.range_zero,rG]
   all_goals first | exact ⟨.refl _, .refl _⟩ | exact .refl _
  rintro ⟨i, hi⟩
  dsimp only
  rcases at_or s.papers i hi with ⟨p, hp, hlt, hd⟩ | ⟨he, hd⟩
  ·have hpa : papAt s i = p := by unfold papAt; rw [hp]; rfl
   have hpo := hs.papers p (List.mem_of_getElem? hp)
   have hub := useK_b hs h i
   have hg : iG (useM [] (layersL s m)) i = useK s m i := useM_get i (layersL s m) []
   have hx1 := mulB0 (a := useK s m i) (b := p.weight) (A := 1000000000) (B := 1000) hub (by have := hpo.weight; omega)
   have hx2 := mulB0 (a := useK s m i * p.weight) (b := a) (A := 1000000000000) (B := 1000000) (by omega) ha
   have hN : ((useNum s m a i : Nat) : Int) = useK s m i * p.weight * a := by
    unfold useNum
    rw [hpa, Int.toNat_of_nonneg (by omega)]
   have h3 := bdRatio (useNum s m a i) (wholeI s m).toNat (by omega) (by omega) (by omega)
   rw [hN, Int.toNat_of_nonneg (by omega)] at h3
   have hsn : useL s m a (i + 1) = useL s m a i ++ [useRat s m a i] := by unfold useL; rw [List.range_succ, List.map_append]; rfl
   have hrow := rowC_snocRt (useL s m a i) (useRat s m a i)
   rw [← hsn] at hrow
   simp only [useRat] at hrow
   have hul : (useL s m a i).length ≤ 8 := by unfold useL; rw [List.length_map, List.length_range]; omega
   clear hN hsn
   generalize useL s m a i = S at *
   generalize hS1 : useL s m a (i + 1) = S1 at *
   repeat' (first|(with_reducible first|apply qA|apply qB|apply qC|apply qD|apply qE|apply qF)|(simp (disch:=omega) only [go_sem, simprocAttr, qN, qO, qP, qQ, hd, hp, hg, hrow, rF, rG])|exact qM rfl rfl rfl|(refine qG rfl ?_)|(refine qK (h3) (by decide) ?_)|(refine qH rfl ?_)|(refine qI rfl ?_ ?_<;>intro hc<;>(try simp only [go_sem] at hc))|(refine qJ ?_ ?_<;>intro hc<;>(try simp only [hc])<;>(try simp only [go_sem] at hc)))
   refine ⟨⟨i + 1, hlt⟩, ?_, Ent.to ?_ ?_⟩ <;> first | (show _ < _; (try simp only); omega) | (simp (disch:=omega) only [qR,qS,qTw,qU,get,Nat.reduceEqDiff,↓reduceIte,qV,qW,qX,qY,qZ,and_self,dI,i64_in,and_true,true_and,rA,rB,rC,rD, hrow,hS1])
   all_goals first | exact ⟨.refl _, .refl _⟩ | exact .refl _
  ·subst he
   (refine DW.ent (Ent.rel 60 rfl) ?_; simp (disch:=omega) only [go_sem,simprocAttr,qN,qO,qP,qQ])
   repeat' (first|(with_reducible first|apply qA|apply qB|apply qC|apply qD|apply qE|apply qF)|(simp (disch:=omega) only [go_sem, simprocAttr, qN, qO, qP, qQ, hd])|exact qM rfl rfl rfl|(refine qG rfl ?_)|(refine qH rfl ?_)|(refine qI rfl ?_ ?_<;>intro hc<;>(try simp only [go_sem] at hc))|(refine qJ ?_ ?_<;>intro hc<;>(try simp only [hc])<;>(try simp only [go_sem] at hc)))
   refine retS_wk rfl ?_ (by simp only [Blk.nb, rowC_nb, D.nb, D.nbs, C.nb, C.nbs, C.nbss, rows_nb eI_nb, Bool.and_true, Bool.not_false, Bool.and_self, bD, dI, iD, rows_nb eP_nb, rows_nb eF_nb, rows_nb eRt_nb]); exact .refl _
end Go.Dw.Seat
end
section
set_option linter.unusedSimpArgs false
set_option maxRecDepth 100000
namespace Go.Dw.Seat
open Go Go.Dw Go.Proofs Go.IntWalk
theorem sw_mapc (i j : Nat) : ∀ l : List C, swDs i j (l.map D.c) = l.map D.c
 | [] => rfl
 | c :: l => by rw [List.map_cons, swDs, sw_mapc i j l]; rfl
theorem sw_rowC (i j : Nat) (es : List (List C)) : (rowC es).map (swDs i j) = rowC es := by
 simp only [rowC, List.map_map]
 exact List.map_congr_left (fun e _ => sw_mapc i j e)
theorem own1_ok (i : Nat) (s : Sto) : okRes (.agg [.own i, .c (.sl false 4 (rows eF s.flutes))]) [(i, .row 8 (rowC (rows eP s.papers)))] := by
 refine ⟨fun q hq => ?_, fun n x hi q hq => ?_⟩
 ·have h1 : q ≠ i := by rintro rfl; simp [get] at hq
  have h2 : i ≠ q := fun h => h1 h.symm
  simp only [D.men, D.mens, Bool.or_false, beq_eq_false_iff_ne, ne_eq]
  first | exact h1 | exact h2
 ·have := get_mem hi
  simp only [List.mem_cons, Prod.mk.injEq, List.not_mem_nil, or_false] at this
  obtain ⟨_, rfl⟩ := this
  exact rowC_men q 8 _
end Go.Dw.Seat
end
section
set_option linter.unusedSimpArgs false
set_option maxRecDepth 100000
namespace Go.Dw.Seat
open Go Go.Dw Go.Proofs Go.IntWalk
structure V4 where
 v0 : Nat
 v1 : Nat
 v2 : Nat
 v3 : Nat
structure V4.ok (v : V4) : Prop where
 v0 : v.v0 < 256
 v1 : v.v1 < 256
 v2 : v.v2 < 256
 v3 : v.v3 < 256
structure FoldY where
 p0 : V4
 p1 : V4
 p2 : V4
 f0 : V3
 f1 : V3
 bx : List Nat
structure FoldY.ok (x : FoldY) : Prop where
 p0 : x.p0.ok
 p1 : x.p1.ok
 p2 : x.p2.ok
 f0 : x.f0.ok
 f1 : x.f1.ok
 len : x.bx.length = 7
abbrev dV4 (v : V4) (r : List D) : List D := d8 v.v0 :: d8 v.v1 :: d8 v.v2 :: d8 v.v3 :: r
abbrev dV3 (v : V3) (r : List D) : List D := d8 v.v0 :: d8 v.v1 :: d8 v.v2 :: r
abbrev dFold (x : FoldY) : D := .agg (dV4 x.p0 (dV4 x.p1 (dV4 x.p2 (dV3 x.f0 (dV3 x.f1 (x.bx.map fun n => d8 n))))))
def pbPap (c : Int) (i : Nat) (v : V4) : Pap := ⟨1 + ((i % 2 : Nat) : Int), 80 + (v.v0 : Int), 100 + (v.v1 : Int), 100 + (v.v1 : Int) + ((v.v2 % 60 : Nat) : Int), ((v.v3 % 90 : Nat) : Int), ((v.v3 % 90 : Nat) : Int) + ((v.v2 % 20 : Nat) : Int), c * (v.v0 : Int), 5 * (v.v1 : Int)⟩
def pbFlu (v : V3) : Flu := ⟨2000 + 20 * (v.v0 : Int), 2000 + 20 * (v.v0 : Int) + ((2000 + 20 * (v.v0 : Int)) * (v.v2 : Int)).tdiv 400, 1000 + 8 * (v.v1 : Int), 1000 + 8 * (v.v1 : Int) + ((v.v2 % 200 : Nat) : Int)⟩
theorem pbPap_ok {c : Int} (hc : 0 ≤ c ∧ c ≤ 2000) {v : V4} (h : v.ok) (i : Nat) : (pbPap c i v).ok := by
 have h0 := h.v0
 have h1 := h.v1
 have h2 := h.v2
 have h3 := h.v3
 have m0 : i % 2 < 2 := Nat.mod_lt _ (by decide)
 have m1 : v.v2 % 60 < 60 := Nat.mod_lt _ (by decide)
 have m2 : v.v3 % 90 < 90 := Nat.mod_lt _ (by decide)
 have m3 : v.v2 % 20 < 20 := Nat.mod_lt _ (by decide)
 have m4 := mulB0 (a := c) (b := (v.v0 : Int)) (A := 2000) (B := 255) hc (by omega)
 unfold pbPap
 refine ⟨?_, ?_, ?_, ?_, ?_, ?_⟩
 all_goals dsimp only
 all_goals omega
theorem pbFlu_draw {v : V3} (h : v.ok) : (0 ≤ (2000 + 20 * (v.v0 : Int)) * (v.v2 : Int) ∧ (2000 + 20 * (v.v0 : Int)) * (v.v2 : Int) ≤ 2000000) ∧ 0 ≤ ((2000 + 20 * (v.v0 : Int)) * (v.v2 : Int)).tdiv 400 ∧ ((2000 + 20 * (v.v0 : Int)) * (v.v2 : Int)).tdiv 400 ≤ 2000 + 20 * (v.v0 : Int) := by
 have h0 := h.v0
 have h2 := h.v2
 have m := mulB0 (a := 2000 + 20 * (v.v0 : Int)) (b := (v.v2 : Int)) (A := 7100) (B := 255) (by omega) (by omega)
 have m2 : (2000 + 20 * (v.v0 : Int)) * (v.v2 : Int) ≤ (2000 + 20 * (v.v0 : Int)) * 255 := Int.mul_le_mul_of_nonneg_left (by omega) (by omega)
 rw [Int.tdiv_eq_ediv_of_nonneg m.1]
 generalize (2000 + 20 * (v.v0 : Int)) * (v.v2 : Int) = q at *
 omega
theorem pbFlu_ok {v : V3} (h : v.ok) : (pbFlu v).ok := by
 have h0 := h.v0
 have h1 := h.v1
 have h2 := h.v2
 have hd := pbFlu_draw h
 have m1 : v.v2 % 200 < 200 := Nat.mod_lt _ (by decide)
 unfold pbFlu
 refine ⟨?_, ?_, ?_⟩
 all_goals dsimp only
 all_goals omega
def pbPaps (c : Int) (x : FoldY) : List Pap := [pbPap c 0 x.p0, pbPap c 1 x.p1, pbPap c 2 x.p2]
def pbFlus (x : FoldY) : List Flu := [pbFlu x.f0, pbFlu x.f1]
def pbSto (c : Int) (x : FoldY) : Sto := ⟨pbPaps c x, pbFlus x⟩
theorem pbSto_ok {c : Int} (hc : 0 ≤ c ∧ c ≤ 2000) {x : FoldY} (h : x.ok) : (pbSto c x).ok := by
 refine ⟨by simp [pbSto, pbPaps], by simp [pbSto, pbFlus], fun p hp => ?_, fun f hf => ?_⟩
 ·simp only [pbSto, pbPaps, List.mem_cons, List.not_mem_nil, or_false] at hp
  rcases hp with rfl | rfl | rfl
  ·exact pbPap_ok hc h.p0 0
  ·exact pbPap_ok hc h.p1 1
  ·exact pbPap_ok hc h.p2 2
 ·simp only [pbSto, pbFlus, List.mem_cons, List.not_mem_nil, or_false] at hf
  rcases hf with rfl | rfl
  ·exact pbFlu_ok h.f0
  ·exact pbFlu_ok h.f1
def pbM : Mak := ⟨[0, 1, 2], [0]⟩
theorem pbM_ok (c : Int) (x : FoldY) : pbM.ok (pbSto c x) := by
 refine ⟨by decide, by decide, fun v hv => ?_, fun v hv => ?_, ?_⟩
 ·simp only [pbM, List.mem_cons, List.not_mem_nil, or_false] at hv
  show v < 3
  omega
 ·simp only [pbM, List.mem_cons, List.not_mem_nil, or_false] at hv
  show v < 2
  omega
 intro i n p h1 h2
 match i, h1 with
 | 0, h1 => cases h1; cases h2; rfl
 | 1, h1 => cases h1; cases h2; rfl
 | 2, h1 => cases h1; cases h2; rfl
 | i + 3, h1 => cases h1
theorem pbSpan (a b : Int) : DCall Try.prog 67 [dI a, dI b] [] (.agg [dI a, dI b]) [] := by
 refine DCall.of Try.func67 sf67 hb67 (Nat.le_of_ble_eq_true rfl) (okRes_nil fun _ => rfl) ?_; simp only [s67, idxs, Nat.reduceAdd]
 repeat' (first|(with_reducible first|apply qA|apply qB|apply qC|apply qD|apply qE|apply qF)|(simp (disch:=omega) only [go_sem, simprocAttr, qN, qO, qP, qQ])|exact qM rfl rfl rfl|(refine qG rfl ?_)|(refine qH rfl ?_)|(refine qI rfl ?_ ?_<;>intro hc<;>(try simp only [go_sem] at hc))|(refine qJ ?_ ?_<;>intro hc<;>(try simp only [hc])<;>(try simp only [go_sem] at hc)))
theorem pbSingle : DCall Try.prog 34 [] [] (dMak pbM) [] := by
 have n1 : nL pbM.papers = [0, 1, 2] := rfl
 have n2 : nL pbM.flutes = [0] := rfl
 unfold dMak
 rw [n1, n2]
 refine DCall.of Try.func34 sf34 hb34 (Nat.le_of_ble_eq_true rfl) (okRes_nil fun _ => rfl) ?_; simp only [s34, idxs, Nat.reduceAdd]
 repeat' (first|(with_reducible first|apply qA|apply qB|apply qC|apply qD|apply qE|apply qF)|(simp (disch:=omega) only [go_sem, simprocAttr, qN, qO, qP, qQ])|exact qM rfl rfl rfl|(refine qG rfl ?_)|(refine qH rfl ?_)|(refine qI rfl ?_ ?_<;>intro hc<;>(try simp only [go_sem] at hc))|(refine qJ ?_ ?_<;>intro hc<;>(try simp only [hc])<;>(try simp only [go_sem] at hc)))
 (refine retS_ent (Ent.rel 2 rfl) ?_; simp (disch:=omega) only [go_sem,simprocAttr,qN,qO,qP,qQ])
 (refine retS_ent (Ent.rel 1 rfl) ?_; simp (disch:=omega) only [go_sem,simprocAttr,qN,qO,qP,qQ])
 refine retS_wk rfl ?_ (by simp only [Blk.nb, rowC_nb, D.nb, D.nbs, C.nb, C.nbs, C.nbss, rows_nb eI_nb, Bool.and_true, Bool.not_false, Bool.and_self, bD, dI, iD, rows_nb eP_nb, rows_nb eF_nb]); exact .refl _
theorem pbOwn (b : Bool) (s : Sto) (h1 : s.papers.length ≤ 1000) (h2 : s.flutes.length ≤ 1000) : DCall Try.prog 33 [.agg [.c (.sl b 8 (rows eP s.papers)), .c (.sl b 4 (rows eF s.flutes))]] [] (dSto s) [] := by
 refine DCall.of Try.func33 sf33 hb33 (Nat.le_of_ble_eq_true rfl) (okRes_nil fun _ => rfl) ?_; simp only [s33, o33_0, o33_1, o33_2, o33_3, o33_4, o33_5, o33_6, o33_7, o33_8, o33_9, idxs, Nat.reduceAdd]
 repeat' (first|(with_reducible first|apply qA|apply qB|apply qC|apply qD|apply qE|apply qF)|(refine DW.ord rfl (WF.of (by first|rfl|simp (disch:=omega) only [go_sem, simprocAttr, qN, qO, qP, qQ])) ?_ ?_ ?_; rotate_left)|rfl|(with_reducible refine And.intro ?_ ?_)|(simp (disch:=omega) only [go_sem, simprocAttr, qN, qO, qP, qQ])|exact qM rfl rfl rfl|(refine qG rfl ?_)|(refine qH rfl ?_)|(refine qI rfl ?_ ?_<;>intro hc<;>(try simp only [go_sem] at hc))|(refine qJ ?_ ?_<;>intro hc<;>(try simp only [hc])<;>(try simp only [go_sem] at hc)))
 (refine retS_ent (Ent.rel 7 rfl) ?_; simp (disch:=omega) only [go_sem,simprocAttr,qN,qO,qP,qQ])
 (refine retS_ent (Ent.rel 3 rfl) ?_; simp (disch:=omega) only [go_sem,simprocAttr,qN,qO,qP,qQ])
 refine retS_wk rfl ?_ (by simp only [Blk.nb, rowC_nb, D.nb, D.nbs, C.nb, C.nbs, C.nbss, rows_nb eI_nb, Bool.and_true, Bool.not_false, Bool.and_self, bD, dI, iD, rows_nb eP_nb, rows_nb eF_nb]); exact .refl _
theorem exW : wNum exS exM = 580 ∧ wDen exS exM = 1 := ⟨by kernel_rfl, by kernel_rfl⟩
theorem pbBoard : DCall Try.prog 35 [] [] (bD true) [] := by
 have h1 := bdMeasure exS exM exS_ok exM_ok
 have h2 := bdWeigh exS exM exS_ok exM_ok
 obtain ⟨e1, e2, e3, e4, e5⟩ := exB
 rw [e1, e2, e3, e4] at h1
 rw [exW.1, exW.2] at h2
 have n1 : nL exM.papers = [0, 1, 0] := rfl
 have n2 : nL exM.flutes = [0] := rfl
 unfold dMak dSto at h1 h2
 rw [n1, n2] at h1 h2
 unfold exS at h1 h2
 have s1 := pbSpan 250 270
 have s2 := pbSpan 60 80
 have s3 := pbSpan 180 190
 have s4 := pbSpan 70 90
 have s5 := pbSpan 3600 3700
 have s6 := pbSpan 4100 4240
 refine DCall.of Try.func35 sf35 hb35 (Nat.le_of_ble_eq_true rfl) (okRes_nil fun _ => rfl) ?_; simp only [s35, idxs, Nat.reduceAdd]
 refine DW.seq (DW.reg ?_)
 simp (disch:=omega) only [go_sem,simprocAttr,qN,qO,qP,qQ]
 refine DW.seq (DW.reg ?_)
 simp (disch:=omega) only [go_sem,simprocAttr,qN,qO,qP,qQ]
 (refine call_c (s1) (by decide) ?_; simp (disch:=omega) only [go_sem,simprocAttr,qN,qO,qP,qQ])
 (refine call_c (s2) (by decide) ?_; simp (disch:=omega) only [go_sem,simprocAttr,qN,qO,qP,qQ])
 (refine call_c (s3) (by decide) ?_; simp (disch:=omega) only [go_sem,simprocAttr,qN,qO,qP,qQ])
 (refine call_c (s4) (by decide) ?_; simp (disch:=omega) only [go_sem,simprocAttr,qN,qO,qP,qQ])
 (refine call_c (s5) (by decide) ?_; simp (disch:=omega) only [go_sem,simprocAttr,qN,qO,qP,qQ])
 refine DW.seq (DW.reg ?_)
 simp (disch:=omega) only [go_sem,simprocAttr,qN,qO,qP,qQ]
 (refine DW.ent (Ent.rel 20 rfl) ?_; simp (disch:=omega) only [go_sem,simprocAttr,qN,qO,qP,qQ])
 (refine DW.ent (Ent.rel 19 rfl) ?_; simp (disch:=omega) only [go_sem,simprocAttr,qN,qO,qP,qQ])
 (refine DW.ent (Ent.rel 17 rfl) ?_; simp (disch:=omega) only [go_sem,simprocAttr,qN,qO,qP,qQ])
 (refine DW.ent (Ent.rel 14 rfl) ?_; simp (disch:=omega) only [go_sem,simprocAttr,qN,qO,qP,qQ])
 repeat' (first|(with_reducible first|apply qA|apply qB|apply qC|apply qD|apply qE|apply qF)|(refine qL rfl (WF.of ?_) ?_; first|rfl|skip)|(simp (disch:=omega) only [go_sem, simprocAttr, qN, qO, qP, qQ])|exact qM rfl rfl rfl|(refine qG rfl ?_)|(refine qK (h1) (by decide) ?_)|(refine qK (h2) (by decide) ?_)|(refine qK (s6) (by decide) ?_)|(refine qH rfl ?_)|(refine qI rfl ?_ ?_<;>intro hc<;>(try simp only [go_sem] at hc))|(refine qJ ?_ ?_<;>intro hc<;>(try simp only [hc])<;>(try simp only [go_sem] at hc)))
theorem t60 (m : Nat) : (m : Int).tmod 60 = ((m % 60 : Nat) : Int) := tmodN m 60
theorem t20 (m : Nat) : (m : Int).tmod 20 = ((m % 20 : Nat) : Int) := tmodN m 20
theorem t200 (m : Nat) : (m : Int).tmod 200 = ((m % 200 : Nat) : Int) := tmodN m 200
end Go.Dw.Seat
end
section
set_option linter.unusedSimpArgs false
set_option maxRecDepth 100000
namespace Go.Dw.Seat
open Go Go.Dw Go.Proofs Go.IntWalk
set_option maxHeartbeats 4000000 in
theorem pbStore (x : FoldY) (h : x.ok) : DCall Try.prog 31 [dFold x] [] (.agg [.own 65, .c (.sl false 4 (rows eF (pbSto 2000 x).flutes))]) [(65, .row 8 (rowC (rows eP (pbSto 2000 x).papers)))] := by
 obtain ⟨p0, p1, p2, f0, f1, bs⟩ := x
 obtain ⟨h0, h1, h2, h3, h4, hl⟩ := h
 dsimp only at h0 h1 h2 h3 h4 hl
 match bs, hl with
 | [b0, b1, b2, b3, b4, b5, b6], _ =>
 refine DCall.of Try.func31 sf31 hb31 (Nat.le_of_ble_eq_true rfl) (own1_ok 65 _) ?_
 simp only [s31, idxs, Nat.reduceAdd, dFold, dV4, dV3, List.map_cons, List.map_nil]
 repeat' (first|(with_reducible first|apply qA|apply qB|apply qC|apply qD|apply qE|apply qF)|(refine qL rfl (WF.of ?_) ?_; first|rfl|skip)|(simp (disch:=omega) only [go_sem, simprocAttr, qN, qO, qP, qQ])|exact qM rfl rfl rfl|(refine qG rfl ?_)|(refine qH rfl ?_)|(refine qI rfl ?_ ?_<;>intro hc<;>(try simp only [go_sem] at hc))|(refine qJ ?_ ?_<;>intro hc<;>(try simp only [hc])<;>(try simp only [go_sem] at hc)))
 (refine DW.ent (Ent.adoptB 3 0 65 8 rfl rfl rfl rfl) ?_; simp only [ins, Nat.reduceLT, Nat.reduceEqDiff, ↓reduceIte, List.set_cons_zero, List.set_cons_succ])
 (refine DW.ent (Ent.adoptB 3 1 106 4 rfl rfl rfl rfl) ?_; simp only [ins, Nat.reduceLT, Nat.reduceEqDiff, ↓reduceIte, List.set_cons_zero, List.set_cons_succ])
 obtain ⟨P0, hP0⟩ : ∃ P : Pap, P = pbPap 2000 0 p0 := ⟨_, rfl⟩
 obtain ⟨P1, hP1⟩ : ∃ P : Pap, P = pbPap 2000 1 p1 := ⟨_, rfl⟩
 obtain ⟨P2, hP2⟩ : ∃ P : Pap, P = pbPap 2000 2 p2 := ⟨_, rfl⟩
 obtain ⟨F0, hF0⟩ : ∃ F : Flu, F = pbFlu f0 := ⟨_, rfl⟩
 obtain ⟨F1, hF1⟩ : ∃ F : Flu, F = pbFlu f1 := ⟨_, rfl⟩
 have hPs : (pbSto 2000 ⟨p0, p1, p2, f0, f1, [b0, b1, b2, b3, b4, b5, b6]⟩).papers = [P0, P1, P2] := by rw [hP0, hP1, hP2]; rfl
 have hFs : (pbSto 2000 ⟨p0, p1, p2, f0, f1, [b0, b1, b2, b3, b4, b5, b6]⟩).flutes = [F0, F1] := by rw [hF0, hF1]; rfl
 rw [hPs, hFs]
 have hE0 : (⟨1, 80 + (p0.v0 : Int), 100 + (p0.v1 : Int), 100 + (p0.v1 : Int) + ((p0.v2 % 60 : Nat) : Int), ((p0.v3 % 90 : Nat) : Int), ((p0.v3 % 90 : Nat) : Int) + ((p0.v2 % 20 : Nat) : Int), 2000 * (p0.v0 : Int), 5 * (p0.v1 : Int)⟩ : Pap) = P0 := by rw [hP0]; rfl
 have hE1 : (⟨2, 80 + (p1.v0 : Int), 100 + (p1.v1 : Int), 100 + (p1.v1 : Int) + ((p1.v2 % 60 : Nat) : Int), ((p1.v3 % 90 : Nat) : Int), ((p1.v3 % 90 : Nat) : Int) + ((p1.v2 % 20 : Nat) : Int), 2000 * (p1.v0 : Int), 5 * (p1.v1 : Int)⟩ : Pap) = P1 := by rw [hP1]; rfl
 have hE2 : (⟨1, 80 + (p2.v0 : Int), 100 + (p2.v1 : Int), 100 + (p2.v1 : Int) + ((p2.v2 % 60 : Nat) : Int), ((p2.v3 % 90 : Nat) : Int), ((p2.v3 % 90 : Nat) : Int) + ((p2.v2 % 20 : Nat) : Int), 2000 * (p2.v0 : Int), 5 * (p2.v1 : Int)⟩ : Pap) = P2 := by rw [hP2]; rfl
 have hG0 : (⟨2000 + 20 * (f0.v0 : Int), 2000 + 20 * (f0.v0 : Int) + ((2000 + 20 * (f0.v0 : Int)) * (f0.v2 : Int)).tdiv 400, 1000 + 8 * (f0.v1 : Int), 1000 + 8 * (f0.v1 : Int) + ((f0.v2 % 200 : Nat) : Int)⟩ : Flu) = F0 := by rw [hF0]; rfl
 have hG1 : (⟨2000 + 20 * (f1.v0 : Int), 2000 + 20 * (f1.v0 : Int) + ((2000 + 20 * (f1.v0 : Int)) * (f1.v2 : Int)).tdiv 400, 1000 + 8 * (f1.v1 : Int), 1000 + 8 * (f1.v1 : Int) + ((f1.v2 % 200 : Nat) : Int)⟩ : Flu) = F1 := by rw [hF1]; rfl
 clear hPs hFs
 refine DW.loop (ι := { i : Nat // i ≤ 3 }) (fun i => ⟨109, [(4, dI i.1), (3, .box 3 0), (2, .box 2 0), (1, .box 1 0)], [(106, .row 4 []), (65, .row 8 (rowC (rows eP (List.take i.1 [P0, P1, P2])))), (3, .box [.own 65, .own 106]), (2, .box [.c (.v (.slice none 0 0)), .c (.v (.slice none 0 0))]), (1, .box [d8 p0.v0, d8 p0.v1, d8 p0.v2, d8 p0.v3, d8 p1.v0, d8 p1.v1, d8 p1.v2, d8 p1.v3, d8 p2.v0, d8 p2.v1, d8 p2.v2, d8 p2.v3, d8 f0.v0, d8 f0.v1, d8 f0.v2, d8 f1.v0, d8 f1.v1, d8 f1.v2, d8 b0, d8 b1, d8 b2, d8 b3, d8 b4, d8 b5, d8 b6])]⟩) (fun i => 3 - i.1) ⟨0, by omega⟩ ?_ ?_
 ·refine Ent.to ?_ ?_ <;> simp (disch:=omega) only [qR,qS,qTw,qU,get,Nat.reduceEqDiff,↓reduceIte,qV,qW,qX,qY,qZ,and_self,dI,i64_in,and_true,true_and,rA,rB,rC,rD]
  all_goals exact .refl _
 rintro ⟨i, hi⟩
 dsimp only
 rcases (by omega : i = 0 ∨ i = 1 ∨ i = 2 ∨ i = 3) with rfl | rfl | rfl | rfl
 ·have q0 := h0.v0
  have q1 := h0.v1
  have q2 := h0.v2
  have q3 := h0.v3
  have q4 : p0.v2 % 60 < 60 := Nat.mod_lt _ (by decide)
  have q5 : p0.v3 % 90 < 90 := Nat.mod_lt _ (by decide)
  have q6 : p0.v2 % 20 < 20 := Nat.mod_lt _ (by decide)
  have c1 := pbSpan (100 + (p0.v1 : Int)) (100 + (p0.v1 : Int) + ((p0.v2 % 60 : Nat) : Int))
  have c2 := pbSpan ((p0.v3 % 90 : Nat) : Int) (((p0.v3 % 90 : Nat) : Int) + ((p0.v2 % 20 : Nat) : Int))
  repeat' (first|(with_reducible first|apply qA|apply qB|apply qC|apply qD|apply qE|apply qF)|(refine qL rfl (WF.of ?_) ?_; first|rfl|skip)|(simp (disch:=omega) only [go_sem, simprocAttr, qN, qO, qP, qQ, t60, t90, t20, hE0])|exact qM rfl rfl rfl|(refine qG rfl ?_)|(refine qK (c1) (by decide) ?_)|(refine qK (c2) (by decide) ?_)|(refine qH rfl ?_)|(refine qI rfl ?_ ?_<;>intro hc<;>(try simp only [go_sem] at hc))|(refine qJ ?_ ?_<;>intro hc<;>(try simp only [hc])<;>(try simp only [go_sem] at hc)))
  refine ⟨⟨1, by omega⟩, ?_, Ent.to ?_ ?_⟩ <;> first | (show _ < _; (try simp only); omega) | (simp (disch:=omega) only [qR,qS,qTw,qU,get,Nat.reduceEqDiff,↓reduceIte,qV,qW,qX,qY,qZ,and_self,dI,i64_in,and_true,true_and,rA,rB,rC,rD, hE0])
  all_goals exact .refl _
 ·have q0 := h1.v0
  have q1 := h1.v1
  have q2 := h1.v2
  have q3 := h1.v3
  have q4 : p1.v2 % 60 < 60 := Nat.mod_lt _ (by decide)
  have q5 : p1.v3 % 90 < 90 := Nat.mod_lt _ (by decide)
  have q6 : p1.v2 % 20 < 20 := Nat.mod_lt _ (by decide)
  have c1 := pbSpan (100 + (p1.v1 : Int)) (100 + (p1.v1 : Int) + ((p1.v2 % 60 : Nat) : Int))
  have c2 := pbSpan ((p1.v3 % 90 : Nat) : Int) (((p1.v3 % 90 : Nat) : Int) + ((p1.v2 % 20 : Nat) : Int))
  repeat' (first|(with_reducible first|apply qA|apply qB|apply qC|apply qD|apply qE|apply qF)|(refine qL rfl (WF.of ?_) ?_; first|rfl|skip)|(simp (disch:=omega) only [go_sem, simprocAttr, qN, qO, qP, qQ, t60, t90, t20, hE1])|exact qM rfl rfl rfl|(refine qG rfl ?_)|(refine qK (c1) (by decide) ?_)|(refine qK (c2) (by decide) ?_)|(refine qH rfl ?_)|(refine qI rfl ?_ ?_<;>intro hc<;>(try simp only [go_sem] at hc))|(refine qJ ?_ ?_<;>intro hc<;>(try simp only [hc])<;>(try simp only [go_sem] at hc)))
  refine ⟨⟨2, by omega⟩, ?_, Ent.to ?_ ?_⟩ <;> first | (show _ < _; (try simp only); omega) | (simp (disch:=omega) only [qR,qS,qTw,qU,get,Nat.reduceEqDiff,↓reduceIte,qV,qW,qX,qY,qZ,and_self,dI,i64_in,and_true,true_and,rA,rB,rC,rD, hE1])
  all_goals exact .refl _
 ·have q0 := h2.v0
  have q1 := h2.v1
  have q2 := h2.v2
  have q3 := h2.v3
  have q4 : p2.v2 % 60 < 60 := Nat.mod_lt _ (by decide)
  have q5 : p2.v3 % 90 < 90 := Nat.mod_lt _ (by decide)
  have q6 : p2.v2 % 20 < 20 := Nat.mod_lt _ (by decide)
  have c1 := pbSpan (100 + (p2.v1 : Int)) (100 + (p2.v1 : Int) + ((p2.v2 % 60 : Nat) : Int))
  have c2 := pbSpan ((p2.v3 % 90 : Nat) : Int) (((p2.v3 % 90 : Nat) : Int) + ((p2.v2 % 20 : Nat) : Int))
  repeat' (first|(with_reducible first|apply qA|apply qB|apply qC|apply qD|apply qE|apply qF)|(refine qL rfl (WF.of ?_) ?_; first|rfl|skip)|(simp (disch:=omega) only [go_sem, simprocAttr, qN, qO, qP, qQ, t60, t90, t20, hE2])|exact qM rfl rfl rfl|(refine qG rfl ?_)|(refine qK (c1) (by decide) ?_)|(refine qK (c2) (by decide) ?_)|(refine qH rfl ?_)|(refine qI rfl ?_ ?_<;>intro hc<;>(try simp only [go_sem] at hc))|(refine qJ ?_ ?_<;>intro hc<;>(try simp only [hc])<;>(try simp only [go_sem] at hc)))
  refine ⟨⟨3, by omega⟩, ?_, Ent.to ?_ ?_⟩ <;> first | (show _ < _; (try simp only); omega) | (simp (disch:=omega) only [qR,qS,qTw,qU,get,Nat.reduceEqDiff,↓reduceIte,qV,qW,qX,qY,qZ,and_self,dI,i64_in,and_true,true_and,rA,rB,rC,rD, hE2])
  all_goals exact .refl _
 ·repeat' (first|(with_reducible first|apply qA|apply qB|apply qC|apply qD|apply qE|apply qF)|(refine qL rfl (WF.of ?_) ?_; first|rfl|skip)|(simp (disch:=omega) only [go_sem, simprocAttr, qN, qO, qP, qQ])|exact qM rfl rfl rfl|(refine qG rfl ?_)|(refine qH rfl ?_)|(refine qI rfl ?_ ?_<;>intro hc<;>(try simp only [go_sem] at hc))|(refine qJ ?_ ?_<;>intro hc<;>(try simp only [hc])<;>(try simp only [go_sem] at hc)))
  refine DW.loop (ι := { i : Nat // i ≤ 2 }) (fun i => ⟨109, [(7, dI i.1), (3, .box 3 0), (2, .box 2 0), (1, .box 1 0)], [(106, .row 4 (rowC (rows eF (List.take i.1 [F0, F1])))), (65, .row 8 (rowC (rows eP [P0, P1, P2]))), (3, .box [.own 65, .own 106]), (2, .box [.c (.v (.slice none 0 0)), .c (.v (.slice none 0 0))]), (1, .box [d8 p0.v0, d8 p0.v1, d8 p0.v2, d8 p0.v3, d8 p1.v0, d8 p1.v1, d8 p1.v2, d8 p1.v3, d8 p2.v0, d8 p2.v1, d8 p2.v2, d8 p2.v3, d8 f0.v0, d8 f0.v1, d8 f0.v2, d8 f1.v0, d8 f1.v1, d8 f1.v2, d8 b0, d8 b1, d8 b2, d8 b3, d8 b4, d8 b5, d8 b6])]⟩) (fun i => 2 - i.1) ⟨0, by omega⟩ ?_ ?_
  ·refine Ent.to ?_ ?_ <;> simp (disch:=omega) only [qR,qS,qTw,qU,get,Nat.reduceEqDiff,↓reduceIte,qV,qW,qX,qY,qZ,and_self,dI,i64_in,and_true,true_and,rA,rB,rC,rD]
   all_goals exact .refl _
  rintro ⟨i, hi⟩
  dsimp only
  rcases (by omega : i = 0 ∨ i = 1 ∨ i = 2) with rfl | rfl | rfl
  ·have q0 := h3.v0
   have q1 := h3.v1
   have q2 := h3.v2
   have q3 := pbFlu_draw h3
   have q4 : f0.v2 % 200 < 200 := Nat.mod_lt _ (by decide)
   have q5 : ((400 : Int) = 0) = False := by decide
   have c1 := pbSpan (1000 + 8 * (f0.v1 : Int)) (1000 + 8 * (f0.v1 : Int) + ((f0.v2 % 200 : Nat) : Int))
   repeat' (first|(with_reducible first|apply qA|apply qB|apply qC|apply qD|apply qE|apply qF)|(refine qL rfl (WF.of ?_) ?_; first|rfl|skip)|(simp (disch:=omega) only [go_sem, simprocAttr, qN, qO, qP, qQ, t200, q5, hG0])|exact qM rfl rfl rfl|(refine qG rfl ?_)|(refine qK (c1) (by decide) ?_)|(refine qH rfl ?_)|(refine qI rfl ?_ ?_<;>intro hc<;>(try simp only [go_sem] at hc))|(refine qJ ?_ ?_<;>intro hc<;>(try simp only [hc])<;>(try simp only [go_sem] at hc)))
   refine ⟨⟨1, by omega⟩, ?_, Ent.to ?_ ?_⟩ <;> first | (show _ < _; (try simp only); omega) | (simp (disch:=omega) only [qR,qS,qTw,qU,get,Nat.reduceEqDiff,↓reduceIte,qV,qW,qX,qY,qZ,and_self,dI,i64_in,and_true,true_and,rA,rB,rC,rD, hG0])
   all_goals exact .refl _
  ·have q0 := h4.v0
   have q1 := h4.v1
   have q2 := h4.v2
   have q3 := pbFlu_draw h4
   have q4 : f1.v2 % 200 < 200 := Nat.mod_lt _ (by decide)
   have q5 : ((400 : Int) = 0) = False := by decide
   have c1 := pbSpan (1000 + 8 * (f1.v1 : Int)) (1000 + 8 * (f1.v1 : Int) + ((f1.v2 % 200 : Nat) : Int))
   repeat' (first|(with_reducible first|apply qA|apply qB|apply qC|apply qD|apply qE|apply qF)|(refine qL rfl (WF.of ?_) ?_; first|rfl|skip)|(simp (disch:=omega) only [go_sem, simprocAttr, qN, qO, qP, qQ, t200, q5, hG1])|exact qM rfl rfl rfl|(refine qG rfl ?_)|(refine qK (c1) (by decide) ?_)|(refine qH rfl ?_)|(refine qI rfl ?_ ?_<;>intro hc<;>(try simp only [go_sem] at hc))|(refine qJ ?_ ?_<;>intro hc<;>(try simp only [hc])<;>(try simp only [go_sem] at hc)))
   refine ⟨⟨2, by omega⟩, ?_, Ent.to ?_ ?_⟩ <;> first | (show _ < _; (try simp only); omega) | (simp (disch:=omega) only [qR,qS,qTw,qU,get,Nat.reduceEqDiff,↓reduceIte,qV,qW,qX,qY,qZ,and_self,dI,i64_in,and_true,true_and,rA,rB,rC,rD, hG1])
   all_goals exact .refl _
  ·(refine DW.ent (Ent.rel 106 rfl) ?_; simp (disch:=omega) only [go_sem,simprocAttr,qN,qO,qP,qQ])
   repeat' (first|(with_reducible first|apply qA|apply qB|apply qC|apply qD|apply qE|apply qF)|(refine qL rfl (WF.of ?_) ?_; first|rfl|skip)|(simp (disch:=omega) only [go_sem, simprocAttr, qN, qO, qP, qQ])|exact qM rfl rfl rfl|(refine qG rfl ?_)|(refine qH rfl ?_)|(refine qI rfl ?_ ?_<;>intro hc<;>(try simp only [go_sem] at hc))|(refine qJ ?_ ?_<;>intro hc<;>(try simp only [hc])<;>(try simp only [go_sem] at hc)))
   refine retS_bs rfl rfl (by simp only [D.nb, D.nbs, C.nb, C.nbs, rows_nb eF_nb, Bool.and_true, Bool.not_false, Bool.and_self]) (get_all (p := fun k x => get k _ = some x ∧ x.nb = true) ?_)
   intro q hq
   simp only [List.mem_cons, List.not_mem_nil, or_false] at hq
   subst hq
   exact ⟨rfl, rowC_nb (n := 8) (rows_nb eP_nb [P0, P1, P2])⟩
theorem pbStoreP (x : FoldY) (h : x.ok) (k : Nat) : DCall Try.prog 31 [dFold x] [] (.agg [.own k, .c (.sl false 4 (rows eF (pbSto 2000 x).flutes))]) [(k, .row 8 (rowC (rows eP (pbSto 2000 x).papers)))] := by
 have e1 : swD 65 k (.agg [.own 65, .c (.sl false 4 (rows eF (pbSto 2000 x).flutes))]) = .agg [.own k, .c (.sl false 4 (rows eF (pbSto 2000 x).flutes))] := by
  simp [swD, swDs, swk]
 have e2 : swX 65 k [(65, .row 8 (rowC (rows eP (pbSto 2000 x).papers)))] = [(k, .row 8 (rowC (rows eP (pbSto 2000 x).papers)))] := by
  simp [swX, swB, swk, sw_rowC]
 have h1 := pbStore x h
 have := DCall.swap 65 k (by rw [e1, e2]; exact own1_ok k _) h1
 rwa [e1, e2] at this
end Go.Dw.Seat
end
section
set_option linter.unusedSimpArgs false
set_option maxRecDepth 100000
namespace Go.Dw.Seat
open Go Go.Dw Go.Proofs Go.IntWalk
def pbW (x : FoldY) : Int := 2000 + 20 * (x.f0.v0 : Int)
def pbD (x : FoldY) : Int := 2000 + 20 * (x.f0.v0 : Int) + ((2000 + 20 * (x.f0.v0 : Int)) * (x.f0.v2 : Int)).tdiv 400
theorem pb_whole (x : FoldY) : wholeI (pbSto 200 x) pbM = pbW x := Int.one_mul _
theorem pb_layers {x : FoldY} (h : x.ok) : layersL (pbSto 200 x) pbM = [(0, pbW x), (1, pbD x), (2, pbW x)] := by
 have e : partsAt (pbSto 200 x) pbM 1 = pbD x := by
  show (wholeI (pbSto 200 x) pbM).tdiv (pbW x) * pbD x = pbD x
  rw [pb_whole, Int.tdiv_self (by unfold pbW; omega), Int.one_mul]
 have e0 : layersL (pbSto 200 x) pbM = [(0, wholeI (pbSto 200 x) pbM), (1, partsAt (pbSto 200 x) pbM 1), (2, wholeI (pbSto 200 x) pbM)] := rfl
 rw [e0, e, pb_whole]
theorem pb_use {x : FoldY} (h : x.ok) : useK (pbSto 200 x) pbM 0 = pbW x ∧ useK (pbSto 200 x) pbM 1 = pbD x ∧ useK (pbSto 200 x) pbM 2 = pbW x := by
 unfold useK
 rw [pb_layers h]
 refine ⟨?_, ?_, ?_⟩ <;> simp [useN]
theorem pbD_b {x : FoldY} (h : x.ok) : pbW x ≤ pbD x ∧ pbD x ≤ 2 * pbW x := by
 have := pbFlu_draw h.f0
 unfold pbW pbD
 omega
theorem rat_law {N W : Nat} (hW : 0 < W) : (1 ≤ W / Nat.gcd N W) ∧ W % (W / Nat.gcd N W) = 0 ∧ W / (W / Nat.gcd N W) = Nat.gcd N W ∧ N / Nat.gcd N W * Nat.gcd N W = N := by
 have hg : 0 < Nat.gcd N W := Nat.gcd_pos_of_pos_right N hW
 obtain ⟨c, hc⟩ := Nat.gcd_dvd_right N W
 have h1 : W / Nat.gcd N W = c := Nat.div_eq_of_eq_mul_right hg hc
 have hc0 : 0 < c := by
  rcases Nat.eq_zero_or_pos c with h | h
  ·rw [h] at hc; omega
  ·exact h
 rw [h1]
 refine ⟨hc0, ?_, ?_, Nat.div_mul_cancel (Nat.gcd_dvd_left N W)⟩
 ·exact Nat.mod_eq_zero_of_dvd ⟨Nat.gcd N W, by rw [Nat.mul_comm]; exact hc⟩
 ·exact Nat.div_eq_of_eq_mul_left hc0 hc
end Go.Dw.Seat
end
section
set_option linter.unusedSimpArgs false
set_option maxRecDepth 100000
namespace Go.Dw.Seat
open Go Go.Dw Go.Proofs Go.IntWalk
structure RSt where
 num : Int
 den : Int
 tail : Int
 rolls : List (Int × Int)
structure RSt.ok (s : RSt) : Prop where
 den : 1 ≤ s.den ∧ s.den ≤ 10000
 num : s.den ≤ s.num ∧ s.num ≤ 2 * s.den
 tail : 0 ≤ s.tail ∧ s.tail ≤ 10000
 len : s.rolls.length ≤ 6
 rolls : ∀ r ∈ s.rolls, s.tail + 1 ≤ r.1 ∧ r.1 ≤ r.2 ∧ r.2 ≤ 10000000
end Go.Dw.Seat
end
section
set_option linter.unusedSimpArgs false
set_option maxRecDepth 100000
namespace Go.Dw.Seat
open Go Go.Dw Go.Proofs Go.IntWalk
def wTops (m : Nat) : List D := List.replicate m .top
structure M9 where
 a : Int
 b : Int
 c : Int
 d : Int
 e : Int
 f : Int
 g : Int
 h : Int
 i : Int
theorem wT_men (k m : Nat) : D.mens k (wTops m) = false := by
 induction m with
 | zero => rfl
 | succ m ih => exact ih
theorem wT_keys (bx : List (Nat × Blk)) (m : Nat) : D.keysIns bx (wTops m) = true := by
 induction m with
 | zero => rfl
 | succ m ih => exact ih
theorem wT_kill (k : Nat) : ∀ m : Nat, (wTops m).map (killD k) = wTops m := fun m => map_killD_of (wT_men k m)
attribute [go_sem] wT_men wT_keys wT_kill
def stp (M : M9) : Nat → Nat → Nat → M9
 | 0, 0, 0 => { M with a := if M.a + M.a < M.a then M.a + M.a else M.a }
 | 0, 0, 1 => { M with b := if M.a + M.b < M.b then M.a + M.b else M.b }
 | 0, 0, 2 => { M with c := if M.a + M.c < M.c then M.a + M.c else M.c }
 | 0, 1, 0 => { M with d := if M.d + M.a < M.d then M.d + M.a else M.d }
 | 0, 1, 1 => { M with e := if M.d + M.b < M.e then M.d + M.b else M.e }
 | 0, 1, 2 => { M with f := if M.d + M.c < M.f then M.d + M.c else M.f }
 | 0, 2, 0 => { M with g := if M.g + M.a < M.g then M.g + M.a else M.g }
 | 0, 2, 1 => { M with h := if M.g + M.b < M.h then M.g + M.b else M.h }
 | 0, 2, 2 => { M with i := if M.g + M.c < M.i then M.g + M.c else M.i }
 | 1, 0, 0 => { M with a := if M.b + M.d < M.a then M.b + M.d else M.a }
 | 1, 0, 1 => { M with b := if M.b + M.e < M.b then M.b + M.e else M.b }
 | 1, 0, 2 => { M with c := if M.b + M.f < M.c then M.b + M.f else M.c }
 | 1, 1, 0 => { M with d := if M.e + M.d < M.d then M.e + M.d else M.d }
 | 1, 1, 1 => { M with e := if M.e + M.e < M.e then M.e + M.e else M.e }
 | 1, 1, 2 => { M with f := if M.e + M.f < M.f then M.e + M.f else M.f }
 | 1, 2, 0 => { M with g := if M.h + M.d < M.g then M.h + M.d else M.g }
 | 1, 2, 1 => { M with h := if M.h + M.e < M.h then M.h + M.e else M.h }
 | 1, 2, 2 => { M with i := if M.h + M.f < M.i then M.h + M.f else M.i }
 | 2, 0, 0 => { M with a := if M.c + M.g < M.a then M.c + M.g else M.a }
 | 2, 0, 1 => { M with b := if M.c + M.h < M.b then M.c + M.h else M.b }
 | 2, 0, 2 => { M with c := if M.c + M.i < M.c then M.c + M.i else M.c }
 | 2, 1, 0 => { M with d := if M.f + M.g < M.d then M.f + M.g else M.d }
 | 2, 1, 1 => { M with e := if M.f + M.h < M.e then M.f + M.h else M.e }
 | 2, 1, 2 => { M with f := if M.f + M.i < M.f then M.f + M.i else M.f }
 | 2, 2, 0 => { M with g := if M.i + M.g < M.g then M.i + M.g else M.g }
 | 2, 2, 1 => { M with h := if M.i + M.h < M.h then M.i + M.h else M.h }
 | 2, 2, 2 => { M with i := if M.i + M.i < M.i then M.i + M.i else M.i }
 | _, _, _ => M
def bnd (x : Int) : Prop := -100000000000000 ≤ x ∧ x ≤ 100000000000000
structure M9.ok (M : M9) : Prop where
 a : bnd M.a
 b : bnd M.b
 c : bnd M.c
 d : bnd M.d
 e : bnd M.e
 f : bnd M.f
 g : bnd M.g
 h : bnd M.h
 i : bnd M.i
def M9.okB (M : M9) : Bool := [M.a, M.b, M.c, M.d, M.e, M.f, M.g, M.h, M.i].all fun x => decide (-100000000000000 ≤ x) && decide (x ≤ 100000000000000)
end Go.Dw.Seat
end
section
set_option linter.unusedSimpArgs false
set_option maxRecDepth 100000
namespace Go.Dw.Seat
open Go Go.Dw Go.Proofs Go.IntWalk
def eSn (x : Int × Int × Int) : List C := [.v (.int .i64 x.1), .v (.int .i64 x.2.1), .v (.int .i64 x.2.2)]
attribute [go_sem] eSn
end Go.Dw.Seat
end
section
set_option linter.unusedSimpArgs false
set_option maxRecDepth 100000
namespace Go.Dw.Seat
open Go Go.Dw Go.Proofs Go.IntWalk
theorem rat_factsT {s : Sto} {m : Mak} (hs : s.ok) (hm : m.ok s) {a : Int} {k : Nat} (h0 : 0 ≤ useK s m k * (papAt s k).weight * a) : ∃ (num den : Nat) (g : Int), useRat s m a k = (num, den) ∧ 1 ≤ den ∧ (wholeI s m).tmod (den : Int) = 0 ∧ (wholeI s m).tdiv (den : Int) = g ∧ 1 ≤ g ∧ (num : Int) * g = useK s m k * (papAt s k).weight * a := by
 have hWb := wholeI_b hs hm
 obtain ⟨W, hW⟩ : ∃ W : Nat, wholeI s m = (W : Int) := ⟨(wholeI s m).toNat, by omega⟩
 have hW0 : 0 < W := by omega
 obtain ⟨N, hN⟩ : ∃ N : Nat, useK s m k * (papAt s k).weight * a = (N : Int) := ⟨(useK s m k * (papAt s k).weight * a).toNat, by omega⟩
 have r := rat_law (N := N) hW0
 refine ⟨N / Nat.gcd N W, W / Nat.gcd N W, (Nat.gcd N W : Nat), ?_, r.1, ?_, ?_, ?_, ?_⟩
 ·unfold useRat useNum
  rw [hN, hW, Int.toNat_natCast, Int.toNat_natCast]
 ·rw [hW, tmodN, r.2.1]; rfl
 ·rw [hW, tdivN, r.2.2.1]
 ·have := Nat.gcd_pos_of_pos_right N hW0
  omega
 ·rw [hN, ← Int.natCast_mul, r.2.2.2]
def useA (s : Sto) (m : Mak) (a : Int) (k : Nat) : Int := useK s m k * (papAt s k).weight * a
end Go.Dw.Seat
end
section
set_option linter.unusedSimpArgs false
set_option maxRecDepth 100000
namespace Go.Dw.Seat.Tr
open Go Go.Dw Go.Proofs Go.IntWalk
structure RunT (x : ShY) (w0 w1 w2 : Int) (o0 o1 o2 : TOrd) (W : Int) : Prop where
 get : getX (rnP x w0 w1 w2) [o0, o1, o2] [rnQ x, rnT x] = .inl ([rnS x, rnG1 x, rnG2 x], W)
 bS : 1 ≤ rnS x ∧ rnS x ≤ 9
 bR : 1 ≤ rnR x ∧ rnR x ≤ 9
 b1 : 0 ≤ rnG1 x ∧ rnG1 x ≤ 18
 b2 : 0 ≤ rnG2 x ∧ rnG2 x ≤ 18
 area : w0 * rnS x + w1 * rnG1 x + w2 * rnG2 x + W = 2900 * (rnR x + rnS x)
 nn : 0 ≤ W
theorem run_top (x : ShY) (w0 w1 w2 : Int) (h0 : 165 ≤ w0 ∧ w0 ≤ 707) (h1 : 165 ≤ w1 ∧ w1 ≤ 707) (h2 : 165 ≤ w2 ∧ w2 ≤ 707) : ∃ W, RunT x w0 w1 w2 (rnO w0 (rnS x) x.s6) (rnO w1 (rnG1 x) x.s7) (rnO w2 (rnG2 x) x.s8) W := by
 have bA : 1 ≤ rnA x ∧ rnA x ≤ 2 := by unfold rnA; omega
 have bB : 1 ≤ rnB x ∧ rnB x ≤ 2 := by unfold rnB; omega
 have bR : 1 ≤ rnR x ∧ rnR x ≤ 9 := by unfold rnR; omega
 have bS : 1 ≤ rnS x ∧ rnS x ≤ 9 := by unfold rnS; omega
 have bZ : 0 ≤ rnZ x ∧ rnZ x ≤ 19 := by unfold rnZ; omega
 have p2 := mulB0 (a := rnA x) (b := w2) (A := 2) (B := 707) (by omega) (by omega)
 have p1 := mulB0 (a := rnB x) (b := w1) (A := 2) (B := 707) (by omega) (by omega)
 have g1b := mulB0 (a := rnB x) (b := rnS x) (A := 2) (B := 9) (by omega) (by omega)
 have g2b := mulB0 (a := rnA x) (b := rnR x) (A := 2) (B := 9) (by omega) (by omega)
 have hL : rnL x w2 = 2900 - rnA x * w2 := rfl
 have hM : rnM x w0 w1 = 2900 - w0 - rnB x * w1 := rfl
 have hg1 : rnB x * rnS x = rnG1 x := rfl
 have hg2 : rnA x * rnR x = rnG2 x := rfl
 rw [hg1] at g1b
 rw [hg2] at g2b
 have hp : (rnP x w0 w1 w2).ok := by
  refine ⟨?_, ?_, ?_⟩ <;> simp only [rnP] <;> omega
 have ho : ∀ {w g : Int} {s : Nat}, (165 ≤ w ∧ w ≤ 707) → (0 ≤ g ∧ g ≤ 18) → (rnO w g s).ok := by
  intro w g s hw hg
  have q0 : s % 2 < 2 := Nat.mod_lt _ (by decide)
  have q1 : s / 2 % 2 < 2 := Nat.mod_lt _ (by decide)
  refine ⟨?_, ?_⟩ <;> simp only [rnO] <;> omega
 have o0 := ho (s := x.s6) h0 (g := rnS x) (by omega)
 have o1 := ho (s := x.s7) h1 (g := rnG1 x) (by omega)
 have o2 := ho (s := x.s8) h2 (g := rnG2 x) (by omega)
 have hgot : gotF (zeros 3) [rnQ x, rnT x] = [rnS x, rnG1 x, rnG2 x] := by
  simp only [zeros, List.replicate, gotF, addG, rnQ, rnT, Int.zero_mul, Int.one_mul, Int.zero_add, Int.add_zero, hg1, hg2]
 have hdoes : doesP [rnO w0 (rnS x) x.s6, rnO w1 (rnG1 x) x.s7, rnO w2 (rnG2 x) x.s8] [rnQ x, rnT x] = true := by
  unfold doesP
  rw [show ([rnO w0 (rnS x) x.s6, rnO w1 (rnG1 x) x.s7, rnO w2 (rnG2 x) x.s8] : List TOrd).length = 3 from rfl, hgot]
  have key : ∀ {w g : Int} {s : Nat}, 0 ≤ g → (decide ((rnO w g s).lo ≤ g) && decide (g ≤ (rnO w g s).hi)) = true := by
   intro w g s hg
   rw [Bool.and_eq_true, decide_eq_true_eq, decide_eq_true_eq]
   simp only [rnO]
   omega
  simp only [doesB, key (show 0 ≤ rnS x by omega), key (show 0 ≤ rnG1 x by omega), key (show 0 ≤ rnG2 x by omega), Bool.and_self]
 have hfine : FineT (rnP x w0 w1 w2) [rnO w0 (rnS x) x.s6, rnO w1 (rnG1 x) x.s7, rnO w2 (rnG2 x) x.s8] [rnQ x, rnT x] := by
  refine ⟨fun s hs => ?_, ?_⟩
  ·simp only [List.mem_cons, List.not_mem_nil, or_false] at hs
   rcases hs with rfl | rfl
   ·refine ⟨⟨rfl, ?_, ?_⟩, ?_⟩
    ·simp only [rnQ, List.mem_cons, List.not_mem_nil, or_false]
     intro n hn; omega
    ·simp only [patB, rnQ, sumI, usedI, trimI, dotI, rnO, rnP, Bool.and_eq_true, decide_eq_true_eq, Int.zero_mul]
     have : (if 0 < rnA x then (1 : Int) else 0) = 1 := if_pos (by omega)
     rw [this]
     simp only [Int.lt_irrefl, if_false]
     omega
    ·show 1 ≤ rnR x ∧ rnR x ≤ 30
     omega
   ·refine ⟨⟨rfl, ?_, ?_⟩, ?_⟩
    ·simp only [rnT, List.mem_cons, List.not_mem_nil, or_false]
     intro n hn; omega
    ·simp only [patB, rnT, sumI, usedI, trimI, dotI, rnO, rnP, Bool.and_eq_true, decide_eq_true_eq, Int.zero_mul, Int.one_mul]
     have : (if 0 < rnB x then (1 : Int) else 0) = 1 := if_pos (by omega)
     rw [this]
     simp only [Int.lt_irrefl, if_false, show (0 : Int) < 1 from by decide, if_true]
     omega
    ·show 1 ≤ rnS x ∧ rnS x ≤ 30
     omega
  ·refine List.pairwise_cons.2 ⟨fun b hb => ?_, List.pairwise_singleton _ _⟩
   simp only [List.mem_cons, List.not_mem_nil, or_false] at hb
   subst hb
   rfl
 have hget := getX_fineT hp (l := [rnO w0 (rnS x) x.s6, rnO w1 (rnG1 x) x.s7, rnO w2 (rnG2 x) x.s8]) (by simp) (by
  intro o h
  simp only [List.mem_cons, List.not_mem_nil, or_false] at h
  rcases h with rfl | rfl | rfl <;> assumption) hfine (by simp) hdoes
 rw [show ([rnO w0 (rnS x) x.s6, rnO w1 (rnG1 x) x.s7, rnO w2 (rnG2 x) x.s8] : List TOrd).length = 3 from rfl, hgot] at hget
 have harea := area_law (rnP x w0 w1 w2) [rnO w0 (rnS x) x.s6, rnO w1 (rnG1 x) x.s7, rnO w2 (rnG2 x) x.s8] [rnQ x, rnT x] (zeros 3) (fun s hs => (hfine.ok s hs).1.len) rfl
 rw [hgot] at harea
 have hw := waste_nnT (p := rnP x w0 w1 w2) (l := [rnO w0 (rnS x) x.s6, rnO w1 (rnG1 x) x.s7, rnO w2 (rnG2 x) x.s8]) [rnQ x, rnT x] (fun s hs => ⟨trim_nn hp (hfine.ok s hs).1, (hfine.ok s hs).2.1⟩)
 refine ⟨_, hget, bS, bR, by omega, by omega, ?_, hw⟩
 generalize wasteF (rnP x w0 w1 w2) [rnO w0 (rnS x) x.s6, rnO w1 (rnG1 x) x.s7, rnO w2 (rnG2 x) x.s8] [rnQ x, rnT x] = W at *
 simp only [dotI, zeros, List.replicate, Int.zero_mul, Int.zero_add, Int.add_zero, runI, rnQ, rnT, rnP, rnO] at harea
 rw [Int.mul_comm w0, Int.mul_comm w1, Int.mul_comm w2]
 omega
end Go.Dw.Seat.Tr
namespace Go.Dw.Seat
open Go Go.Dw Go.Proofs Go.IntWalk
structure UseT (x : FoldY) (a : Int) (n0 d0 n1 d1 n2 d2 : Nat) (g0 g1 g2 u0 u1 u2 : Int) : Prop where
 l : useL (pbSto 2000 x) pbM a 3 = [(n0, d0), (n1, d1), (n2, d2)]
 p0 : 1 ≤ d0
 p1 : 1 ≤ d1
 p2 : 1 ≤ d2
 r0 : (pbW x).tmod (d0 : Int) = 0
 r1 : (pbW x).tmod (d1 : Int) = 0
 r2 : (pbW x).tmod (d2 : Int) = 0
 q0 : (pbW x).tdiv (d0 : Int) = g0
 q1 : (pbW x).tdiv (d1 : Int) = g1
 q2 : (pbW x).tdiv (d2 : Int) = g2
 m0 : (n0 : Int) * g0 = u0
 m1 : (n1 : Int) * g1 = u1
 m2 : (n2 : Int) * g2 = u2
 c0 : 0 ≤ g0 ∧ g0 ≤ 7100
 c1 : 0 ≤ g1 ∧ g1 ≤ 7100
 c2 : 0 ≤ g2 ∧ g2 ≤ 7100
 b0 : (n0 : Int) ≤ 1000000000000 ∧ 0 ≤ u0 ∧ u0 ≤ 1000000000000
 b1 : (n1 : Int) ≤ 1000000000000 ∧ 0 ≤ u1 ∧ u1 ≤ 1000000000000
 b2 : (n2 : Int) ≤ 1000000000000 ∧ 0 ≤ u2 ∧ u2 ≤ 1000000000000
theorem useT_b {x : FoldY} (h : x.ok) {a : Int} (ha : 0 ≤ a ∧ a ≤ 60000) {k : Nat} (hk : k < 3) : 0 ≤ useA (pbSto 2000 x) pbM a k ∧ useA (pbSto 2000 x) pbM a k ≤ 1000000000000 := by
 have hD := pbD_b h
 have hW : 2000 ≤ pbW x ∧ pbW x ≤ 7100 := by have := h.f0.v0; unfold pbW; omega
 have hu := pb_use h
 have hU : 0 ≤ useK (pbSto 2000 x) pbM k ∧ useK (pbSto 2000 x) pbM k ≤ 14200 := by
  have e : useK (pbSto 2000 x) pbM k = useK (pbSto 200 x) pbM k := rfl
  rw [e]
  rcases (by omega : k = 0 ∨ k = 1 ∨ k = 2) with rfl | rfl | rfl
  ·rw [hu.1]; omega
  ·rw [hu.2.1]; omega
  ·rw [hu.2.2]; omega
 have hw : 0 ≤ (papAt (pbSto 2000 x) k).weight ∧ (papAt (pbSto 2000 x) k).weight ≤ 335 := by
  have h0 := h.p0.v0
  have h1 := h.p1.v0
  have h2 := h.p2.v0
  rcases (by omega : k = 0 ∨ k = 1 ∨ k = 2) with rfl | rfl | rfl
  ·show 0 ≤ 80 + (x.p0.v0 : Int) ∧ 80 + (x.p0.v0 : Int) ≤ 335; omega
  ·show 0 ≤ 80 + (x.p1.v0 : Int) ∧ 80 + (x.p1.v0 : Int) ≤ 335; omega
  ·show 0 ≤ 80 + (x.p2.v0 : Int) ∧ 80 + (x.p2.v0 : Int) ≤ 335; omega
 have m1 := mulB0 (a := useK (pbSto 2000 x) pbM k) (b := (papAt (pbSto 2000 x) k).weight) (A := 14200) (B := 335) hU hw
 have m2 := mulB0 (a := useK (pbSto 2000 x) pbM k * (papAt (pbSto 2000 x) k).weight) (b := a) (A := 4757000) (B := 60000) (by omega) ha
 unfold useA
 omega
theorem useT_ex {x : FoldY} (h : x.ok) {a : Int} (ha : 0 ≤ a ∧ a ≤ 60000) : ∃ n0 d0 n1 d1 n2 d2 g0 g1 g2, UseT x a n0 d0 n1 d1 n2 d2 g0 g1 g2 (useA (pbSto 2000 x) pbM a 0) (useA (pbSto 2000 x) pbM a 1) (useA (pbSto 2000 x) pbM a 2) := by
 have hs := pbSto_ok (c := 2000) (by decide) h
 have hm := pbM_ok 2000 x
 have hw : wholeI (pbSto 2000 x) pbM = pbW x := pb_whole x
 have b0 := useT_b h ha (show 0 < 3 by decide)
 have b1 := useT_b h ha (show 1 < 3 by decide)
 have b2 := useT_b h ha (show 2 < 3 by decide)
 obtain ⟨n0, d0, g0, x0, y0, z0, v0, w0, t0⟩ := rat_factsT hs hm (a := a) (k := 0) b0.1
 obtain ⟨n1, d1, g1, x1, y1, z1, v1, w1, t1⟩ := rat_factsT hs hm (a := a) (k := 1) b1.1
 obtain ⟨n2, d2, g2, x2, y2, z2, v2, w2, t2⟩ := rat_factsT hs hm (a := a) (k := 2) b2.1
 have le : ∀ {n : Nat} {g u : Int}, 1 ≤ g → (n : Int) * g = u → (n : Int) ≤ u := fun {n g u} hg hu => by
  rw [← hu]
  have := Int.mul_le_mul_of_nonneg_left hg (show (0 : Int) ≤ (n : Int) by omega)
  omega
 rw [hw] at z0 v0 z1 v1 z2 v2
 have t0 : (n0 : Int) * g0 = useA (pbSto 2000 x) pbM a 0 := t0
 have t1 : (n1 : Int) * g1 = useA (pbSto 2000 x) pbM a 1 := t1
 have t2 : (n2 : Int) * g2 = useA (pbSto 2000 x) pbM a 2 := t2
 have hWb : 0 ≤ pbW x ∧ pbW x ≤ 7100 := by have := h.f0.v0; unfold pbW; omega
 have gb : ∀ {d : Nat} {g : Int}, (pbW x).tdiv (d : Int) = g → 0 ≤ g ∧ g ≤ 7100 := fun {d g} hg => by
  rw [← hg, Int.tdiv_eq_ediv_of_nonneg hWb.1]
  exact ⟨Int.ediv_nonneg hWb.1 (by omega), Int.le_trans (Int.ediv_le_self _ hWb.1) hWb.2⟩
 refine ⟨n0, d0, n1, d1, n2, d2, g0, g1, g2, ?_, y0, y1, y2, z0, z1, z2, v0, v1, v2, t0, t1, t2, gb v0, gb v1, gb v2, ?_, ?_, ?_⟩
 ·show [useRat (pbSto 2000 x) pbM a 0, useRat (pbSto 2000 x) pbM a 1, useRat (pbSto 2000 x) pbM a 2] = _
  rw [x0, x1, x2]
 ·have := le w0 t0; omega
 ·have := le w1 t1; omega
 ·have := le w2 t2; omega
theorem useA_add (s : Sto) (m : Mak) (a b : Int) (k : Nat) : useA s m a k + useA s m b k = useA s m (a + b) k := by
 unfold useA
 rw [Int.mul_add]
end Go.Dw.Seat
end
