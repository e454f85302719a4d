/- The law TrimMetres returns true for every input, and changes nothing that was there before: the full statement TrimMetresSaid, without conditions. -/
import Derived.Test.YtkhicfkfdmldkaaI02
set_option linter.unusedVariables false
set_option linter.unusedSimpArgs false
section
set_option linter.unusedSimpArgs false
set_option maxRecDepth 100000
namespace Go.Dw.Seat
open Go Go.Dw Go.Proofs Go.IntWalk
theorem eN_dU (x : List Nat) : (eN x).map D.c = x.map dU := by rw [eN, List.map_map]; rfl
theorem close_dU (σ : St) (o : Option Nat) : ∀ l : List Nat, closeDs σ o (l.map dU) = some (l.map dU)
  | [] => rfl
  | v :: l => by rw [List.map_cons, closeDs, close_dU σ o l]; rfl
theorem all30 {x : List Nat} (hx : x.length = 30) : List.take 30 (x.map dU) = x.map dU := List.take_of_length_le (by rw [List.length_map]; omega)
theorem gB_get2 {x : List Nat} {i : Nat} (hi : i < x.length) : (x.map dU)[i]? = some (dU (gB x i)) := cell_dU (by rw [gB, List.getD_eq_getElem?_getD, List.getElem?_eq_getElem hi]; rfl)
theorem laOwnO (l : List TOrd) (hl : l.length ≤ 2 ^ 36) (k : Nat) : DCall Try.prog 22 [.c (.sl false 3 (rows eO l))] [] (.own k) [(k, .row 3 (rowC (rows eO l)))] := by
  refine DCall.rename (k0 := 3) ?_ k
  refine DCall.of Try.func22 sf22 hb22 (Nat.le_of_ble_eq_true rfl) okRes_row ?_; simp only [s22, idxs, Nat.reduceAdd]
  repeat' (first
    | (with_reducible first | refine DW.seq ?_ | refine DW.block ?_ | refine DW.skip ?_ | refine DW.exit ?_ | refine DW.ret ?_ | refine DW.reg ?_)
    | (simp (disch := omega) only [go_sem, simprocAttr, bm_box, bm_row, bk_box, bk_row])
    | (exact retS_of rfl rfl rfl)
    | (refine DW.cond_tt rfl ?_)
    | (refine DW.cond_ff rfl ?_)
    | (refine DW.cond rfl ?_ ?_ <;> intro hc <;> (try simp only [go_sem] at hc))
    | (refine g_split ?_ ?_ <;> intro hc <;> (try simp only [hc]) <;> (try simp only [go_sem] at hc)))
  refine retS_row ?_ ?_ (rowC_nb (rows_nb eO_nb l)) <;> rfl
def mrN (f : TOrd → TOrd) (l : List TOrd) (k : Nat) : List TOrd := (l.take k).map f ++ l.drop k
theorem mrN_zero (f : TOrd → TOrd) (l : List TOrd) : mrN f l 0 = l := by simp [mrN]
theorem mrN_all (f : TOrd → TOrd) (l : List TOrd) : mrN f l l.length = l.map f := by simp [mrN]
theorem mrN_len (f : TOrd → TOrd) (l : List TOrd) (k : Nat) : (mrN f l k).length = l.length := by simp only [mrN, List.length_append, List.length_map, List.length_take, List.length_drop]; omega
theorem mrN_get {f : TOrd → TOrd} {l : List TOrd} {k : Nat} {o : TOrd} (h : l[k]? = some o) : (mrN f l k)[k]? = some o := by
  have hk := (List.getElem?_eq_some_iff.1 h).1
  have hl : ((l.take k).map f).length = k := by rw [List.length_map, List.length_take]; omega
  rw [mrN, List.getElem?_append_right (by omega), hl, Nat.sub_self, List.getElem?_drop, Nat.add_zero, h]
theorem mrN_set {f : TOrd → TOrd} {l : List TOrd} {k : Nat} {o : TOrd} (h : l[k]? = some o) : (mrN f l k).set k (f o) = mrN f l (k + 1) := by
  have hk := (List.getElem?_eq_some_iff.1 h).1
  have hl : ((l.take k).map f).length = k := by rw [List.length_map, List.length_take]; omega
  have hd : l.drop k = o :: l.drop (k + 1) := by rw [List.drop_eq_getElem_cons hk, (List.getElem_eq_iff hk).2 h]
  rw [mrN, hd, List.set_append, if_neg (by rw [hl]; omega), hl, Nat.sub_self, List.set_cons_zero, mrN, List.take_add_one, h, Option.toList_some, List.map_append, List.append_assoc]; rfl
set_option maxHeartbeats 8000000 in
theorem laMetres (x : List Nat) (hx : x.length = 30 ∧ AllLt 256 x) (w : List Nat) (hw : w.length = 2 ∧ AllLt 256 w) : DCall Try.prog 9 [.agg ((eN x).map D.c), .agg ((eN w).map D.c)] [] (bD true) [] := by
  rw [eN_dU, eN_dU]
  have hk := laKnown
  have hmd := made_good hx.2
  have c42 := laMade x hx.1 hx.2
  generalize mP x = p at *
  generalize mL x = l at *
  generalize mQ x = q at *
  have hl := hmd.ln
  have hl36 : l.length ≤ 2 ^ 36 := by omega
  have hql := hmd.len
  have hws : ∀ s ∈ q, s.ws.length ≤ 4 := fun s hs => by have := (hmd.fine.ok s hs).1.len; omega
  have hpl := fine_plan hmd.pok hmd.fine hmd.len hmd.does
  have c43 := laGives false false p hmd.pok l hl.2 hmd.lo q (by omega) hmd.fine
  have c22 := laOwn false l hl36
  have c23 := laPlans false q (by omega) (fun s hs => by have := hws s hs; omega)
  have c24 := trGetX p l hl36 q (fun s hs => by have := hws s hs; omega)
  rw [getX_fine hmd.pok hl.2 hmd.lo hmd.fine hmd.len hmd.does] at c24
  simp only [doesD] at c24
  have hgl : (gotF (zeros l.length) q).length = l.length := by rw [gotF_len]; simp [zeros]
  generalize gotF (zeros l.length) q = G at *
  have h30 := all30 hx.1
  have hx30 : (x.map dU).length = 30 := by rw [List.length_map]; exact hx.1
  have hp := hmd.pok
  have hwd := hmd.wide
  have hth := hmd.th
  have htm := hp.trim
  have hpw : 0 < p.wide - p.tl := by omega
  have hsp := plan_spec hp hmd.lo
  cases hP : planF p l with
  | none => rw [hP] at hsp; exact absurd hpl (hsp q)
  | some bw =>
  obtain ⟨b, wb⟩ := bw
  rw [hP] at hsp
  obtain ⟨hbo, hbw, hbb⟩ := hsp
  subst hbw
  have hbf := plan_fine hbo
  have hbl := best_le (hbb q hpl)
  have hbn := plan_len hbo
  have hbd := bound_le hp hmd.lo hpw hbo
  have hop := openE_yes hp hl.2 hmd.lo
  have c31 := trPlanX p l hl36
  rw [planX, if_pos hop, hP] at c31
  dsimp only at c31
  have c43b := laGives false false p hp l hl.2 hmd.lo b (by omega) hbf
  have c44 := laEnough false false l (gotF (zeros l.length) b) hl36 (by rw [gotF_len]; simp [zeros])
  rw [show doesB l (gotF (zeros l.length) b) = true from hbo.does] at c44
  have c32 := trBound p l hl36
  have hbE : boundE p l = 0 := by unfold boundE; rw [if_neg (by simpa using hop), if_neg (by omega)]
  unfold boundI at c32
  rw [hbE, if_pos rfl] at c32
  dsimp only at c32
  obtain ⟨b1, b2, b3⟩ := hbd
  generalize Int.tdiv (cntS l + 2 - 1) 2 = A1 at *
  generalize Int.tdiv (loS l + (p.wide - p.tl) - 1) (p.wide - p.tl) = A2 at *
  generalize p.tl * A2 = A3 at *
  have c22o := laOwnO l hl36 183
  have c36 := trAgainst p l hl36
  have hE : agE p l = 7 := by unfold agE; rw [if_neg (by simpa using hop), hP]; rfl
  rw [agD, hE, if_pos (by decide)] at c36
  have d1 : decide ((q.length : Int) < (b.length : Int)) = false := decide_eq_false (by omega)
  have d2 : ((b.length : Int) == (q.length : Int)) = false ∨ (((b.length : Int) == (q.length : Int)) = true ∧ decide (wasteF p l q < wasteF p l b) = false) := by
    rcases hbl with h | h
    · exact .inl (by rw [beq_eq_false_iff_ne]; omega)
    · exact .inr ⟨by rw [beq_iff_eq]; omega, decide_eq_false (by omega)⟩
  have e1 : decide ((b.length : Int) < A1) = false := decide_eq_false (by omega)
  have e2 : decide (runsI b < A2) = false := decide_eq_false (by omega)
  have e3 : decide (wasteF p l b < A3) = false := decide_eq_false (by omega)
  have e4 : decide (A1 < 0) = false := decide_eq_false (by omega)
  have e5 : decide (A2 < 0) = false := decide_eq_false (by omega)
  have e6 : decide (A3 < 0) = false := decide_eq_false (by omega)
  generalize gotF (zeros l.length) b = Gb at *
  have hw0 := gB_lt hw.2 0
  have hw1 := gB_lt hw.2 1
  have r0 := gB_get2 (x := w) (i := 0) (by omega)
  have r1 := gB_get2 (x := w) (i := 1) (by omega)
  have x0 : IntKind.i64.wrap ((gB w 0 : Nat) : Int) = ((gB w 0 : Nat) : Int) := IntWalk.i64_in _ (by omega)
  have x1 : IntKind.i64.wrap ((gB w 1 : Nat) : Int) = ((gB w 1 : Nat) : Int) := IntWalk.i64_in _ (by omega)
  obtain ⟨u, hu, hub⟩ : ∃ u : Int, Int.tmod ((gB w 0 : Nat) : Int) 3 = u ∧ (0 ≤ u ∧ u ≤ 2) := ⟨((gB w 0 % 3 : Nat) : Int), rfl, by omega⟩
  obtain ⟨s, hs, hsb⟩ : ∃ s : Int, Int.tdiv ((gB w 0 : Nat) : Int) 3 = s ∧ (0 ≤ s ∧ s ≤ 85) := ⟨((gB w 0 / 3 : Nat) : Int), rfl, by omega⟩
  have x2 : IntKind.i64.wrap s = s := IntWalk.i64_in _ (by omega)
  obtain ⟨v, hv, hvb⟩ : ∃ v : Int, Int.tmod s 2 = v ∧ (0 ≤ v ∧ v ≤ 1) := ⟨s % 2, Int.tmod_eq_emod_of_nonneg (by omega), by omega⟩
  obtain ⟨d, hdd, hdb⟩ : ∃ d : Int, Int.tmod ((gB w 1 : Nat) : Int) 40 = d ∧ (0 ≤ d ∧ d ≤ 39) := ⟨((gB w 1 % 40 : Nat) : Int), rfl, by omega⟩
  have x3 : IntKind.i64.wrap (p.th + d) = p.th + d := IntWalk.i64_in _ (by omega)
  have hp' : (⟨p.wide, p.tl, p.th + d, p.webs⟩ : TPap).ok := ⟨hp.wide, by dsimp only; omega, hp.webs⟩
  have hmo : ∀ o ∈ l.map (moreO u v), o.ok := fun o ho => by
    obtain ⟨o', ho', rfl⟩ := List.mem_map.1 ho
    have h1 := (hmd.lo o' ho')
    have h2 := hmd.hi98 o' ho'
    have h3 := h1.need
    exact ⟨h1.w, by simp only [moreO]; omega⟩
  have hpl2 := more_plan hmd.lo hub.1 hvb.1 hdb.1 hp' hbo
  have hwq := waste_eq (p := ⟨p.wide, p.tl, p.th + d, p.webs⟩) (p' := p) (l := l.map (moreO u v)) (l' := l) rfl (more_w u v l) b
  have hml : (l.map (moreO u v)).length = l.length := List.length_map _
  have hsp2 := plan_spec hp' hmo
  have c31b := trPlanX ⟨p.wide, p.tl, p.th + d, p.webs⟩ (l.map (moreO u v)) (by omega)
  have hop2 := openE_yes hp' (by omega) hmo
  rw [planX, if_pos hop2] at c31b
  cases hP2 : planF ⟨p.wide, p.tl, p.th + d, p.webs⟩ (l.map (moreO u v)) with
  | none => rw [hP2] at hsp2; exact absurd hpl2 (hsp2 b)
  | some cw =>
  obtain ⟨c, wc⟩ := cw
  rw [hP2] at hsp2 c31b
  dsimp only at c31b
  obtain ⟨hco, hcw, hcb⟩ := hsp2
  subst hcw
  have hcl := best_le (hcb b hpl2)
  rw [hwq] at hcl
  have hcn := plan_len hco
  have c43c := laGives false false ⟨p.wide, p.tl, p.th + d, p.webs⟩ hp' (l.map (moreO u v)) (by omega) hmo c (by omega) (plan_fine hco)
  have c44c := laEnough false false (l.map (moreO u v)) (gotF (zeros (l.map (moreO u v)).length) c) (by omega) (by rw [gotF_len]; simp [zeros])
  rw [show doesB (l.map (moreO u v)) (gotF (zeros (l.map (moreO u v)).length) c) = true from hco.does] at c44c
  generalize gotF (zeros (l.map (moreO u v)).length) c = Gc at *
  have f1 : decide ((c.length : Int) < (b.length : Int)) = true ∨ (decide ((c.length : Int) < (b.length : Int)) = false ∧ ((c.length : Int) == (b.length : Int)) = true ∧ decide (wasteF ⟨p.wide, p.tl, p.th + d, p.webs⟩ (l.map (moreO u v)) c ≤ wasteF p l b) = true) := by
    rcases hcl with h | h
    · exact .inl (decide_eq_true (by omega))
    · exact .inr ⟨decide_eq_false (by omega), by rw [beq_iff_eq]; omega, decide_eq_true h.2⟩
  generalize wasteF ⟨p.wide, p.tl, p.th + d, p.webs⟩ (l.map (moreO u v)) c = Wc at *
  generalize wasteF p l b = Wb at *
  generalize runsI b = Rb at *
  generalize runsI c = Rc at *
  refine DCall.of Try.func9 sf9 hb9 (Nat.le_of_ble_eq_true rfl) (okRes_nil fun _ => rfl) ?_; simp only [s9, idxs, Nat.reduceAdd]
  repeat' (first
    | (with_reducible first | refine DW.seq ?_ | refine DW.block ?_ | refine DW.skip ?_ | refine DW.exit ?_ | refine DW.ret ?_ | refine DW.reg ?_)
    | (refine DW.dreg rfl (WF.of ?_) ?_; first | rfl | skip)
    | (simp (disch := omega) only [go_sem, simprocAttr, bm_box, bm_row, bk_box, bk_row, h30, hx30, List.drop_zero, close_dU])
    | (exact retS_of rfl rfl rfl)
    | (refine DW.cond_tt rfl ?_)
    | (refine call_c (c42) (by decide) ?_)
    | (refine call_c (c43) (by decide) ?_)
    | (refine call_c (c22) (by decide) ?_)
    | (refine call_c (c23) (by decide) ?_)
    | (refine call_c (c24) (by decide) ?_)
    | (refine DW.cond_ff rfl ?_)
    | (refine DW.cond rfl ?_ ?_ <;> intro hc <;> (try simp only [go_sem] at hc))
    | (refine g_split ?_ ?_ <;> intro hc <;> (try simp only [hc]) <;> (try simp only [go_sem] at hc)))
  refine DW.loop (ι := { i : Nat // i ≤ G.length }) (fun i => ⟨288, [(16, dI i.1), (12, dIs false G), (9, dI (wasteF p l q)), (8, dIs false G), (7, dSt false q), (6, .c (.sl false 3 (rows eO l))), (5, .box 5 0), (3, .box 3 0)], [(5, .box [dI p.wide, dI p.tl, dI p.th, dI p.webs]), (3, shB w)]⟩) (fun i => G.length - i.1) ⟨0, Nat.zero_le _⟩ ?_ ?_
  · refine Ent.to ?_ ?_ <;> simp (disch := omega) only [wkT_cons, wkX_cons, wkT_nil, wkX_nil, get, Nat.reduceEqDiff, ↓reduceIte, ex_some, wk_self, wk_top, wk_nil, wkB_self, and_self, dI, i64_in, and_true, true_and, Int.natCast_add, Int.natCast_one, Int.ofNat_zero, Int.natCast_zero]
    all_goals first | exact ⟨.refl _, .refl _, .refl _⟩ | exact ⟨.refl _, .refl _⟩ | exact .refl _
  rintro ⟨i, hi⟩
  dsimp only
  rcases at_or G i hi with ⟨v', hv', hlt, hd⟩ | ⟨he, hd⟩
  · repeat' (first
    | (with_reducible first | refine DW.seq ?_ | refine DW.block ?_ | refine DW.skip ?_ | refine DW.exit ?_ | refine DW.ret ?_ | refine DW.reg ?_)
    | (refine DW.dreg rfl (WF.of ?_) ?_; first | rfl | skip)
    | (simp (disch := omega) only [go_sem, simprocAttr, bm_box, bm_row, bk_box, bk_row, hd, hv'])
    | (exact retS_of rfl rfl rfl)
    | (refine DW.cond_tt rfl ?_)
    | (refine DW.cond_ff rfl ?_)
    | (refine DW.cond rfl ?_ ?_ <;> intro hc <;> (try simp only [go_sem] at hc))
    | (refine g_split ?_ ?_ <;> intro hc <;> (try simp only [hc]) <;> (try simp only [go_sem] at hc)))
    refine ⟨⟨i + 1, hlt⟩, ?_, Ent.to ?_ ?_⟩ <;> first | (show _ < _; (try simp only); omega) | (simp (disch := omega) only [wkT_cons, wkX_cons, wkT_nil, wkX_nil, get, Nat.reduceEqDiff, ↓reduceIte, ex_some, wk_self, wk_top, wk_nil, wkB_self, and_self, dI, i64_in, and_true, true_and, Int.natCast_add, Int.natCast_one, Int.ofNat_zero, Int.natCast_zero])
    all_goals first | exact ⟨.refl _, .refl _, .refl _⟩ | exact ⟨.refl _, .refl _⟩ | exact .refl _
  rcases d2 with d2 | ⟨d2, d3⟩
  case' inl =>
    have d3 := d2
  all_goals
    repeat' (first
    | (with_reducible first | refine DW.seq ?_ | refine DW.block ?_ | refine DW.skip ?_ | refine DW.exit ?_ | refine DW.ret ?_ | refine DW.reg ?_)
    | (refine DW.dreg rfl (WF.of ?_) ?_; first | rfl | skip)
    | (simp (disch := omega) only [go_sem, simprocAttr, bm_box, bm_row, bk_box, bk_row, hd, d1, d2, d3, e1, e2, e3, e4, e5, e6])
    | (exact retS_of rfl rfl rfl)
    | (refine DW.cond_tt rfl ?_)
    | (refine call_c (c22) (by decide) ?_)
    | (refine call_c (c31) (by decide) ?_)
    | (refine call_c (c43b) (by decide) ?_)
    | (refine call_c (c44) (by decide) ?_)
    | (refine DW.cond_ff rfl ?_)
    | (refine DW.cond rfl ?_ ?_ <;> intro hc <;> (try simp only [go_sem] at hc))
    | (refine g_split ?_ ?_ <;> intro hc <;> (try simp only [hc]) <;> (try simp only [go_sem] at hc)))
    repeat' (first
    | (with_reducible first | refine DW.seq ?_ | refine DW.block ?_ | refine DW.skip ?_ | refine DW.exit ?_ | refine DW.ret ?_ | refine DW.reg ?_)
    | (refine DW.dreg rfl (WF.of ?_) ?_; first | rfl | skip)
    | (simp (disch := omega) only [go_sem, simprocAttr, bm_box, bm_row, bk_box, bk_row, hd, d1, d2, d3, e1, e2, e3, e4, e5, e6])
    | (exact retS_of rfl rfl rfl)
    | (refine DW.cond_tt rfl ?_)
    | (refine call_c (c32) (by decide) ?_)
    | (refine DW.cond_ff rfl ?_)
    | (refine DW.cond rfl ?_ ?_ <;> intro hc <;> (try simp only [go_sem] at hc))
    | (refine g_split ?_ ?_ <;> intro hc <;> (try simp only [hc]) <;> (try simp only [go_sem] at hc)))
    (refine call_r (laOwnO l hl36 183) (by decide) (by first | rfl | simp (disch := omega) only [go_sem, simprocAttr, bm_box, bm_row, bk_box, bk_row]) (by first | rfl | simp (disch := omega) only [go_sem, simprocAttr, bm_box, bm_row, bk_box, bk_row]) ?_; simp (disch := omega) only [go_sem, simprocAttr, bm_box, bm_row, bk_box, bk_row])
    repeat' (first
    | (with_reducible first | refine DW.seq ?_ | refine DW.block ?_ | refine DW.skip ?_ | refine DW.exit ?_ | refine DW.ret ?_ | refine DW.reg ?_)
    | (refine DW.dreg rfl (WF.of ?_) ?_; first | rfl | skip)
    | (simp (disch := omega) only [go_sem, simprocAttr, bm_box, bm_row, bk_box, bk_row])
    | (exact retS_of rfl rfl rfl)
    | (refine DW.cond_tt rfl ?_)
    | (refine DW.cond_ff rfl ?_)
    | (refine DW.cond rfl ?_ ?_ <;> intro hc <;> (try simp only [go_sem] at hc))
    | (refine g_split ?_ ?_ <;> intro hc <;> (try simp only [hc]) <;> (try simp only [go_sem] at hc)))
    refine DW.loop (ι := { k : Nat // k ≤ l.length }) (fun k => ⟨288, [(29, dI k.1), (28, .box 28 0), (27, .own 183), (20, dI Wb), (17, dSt false b), (6, .c (.sl false 3 (rows eO l))), (5, .box 5 0), (3, .box 3 0)], [(183, .row 3 (rowC (rows eO (mrN (moreO u v) l k.1)))), (28, .box [dI p.wide, dI p.tl, dI p.th, dI p.webs]), (5, .box [dI p.wide, dI p.tl, dI p.th, dI p.webs]), (3, shB w)]⟩) (fun k => l.length - k.1) ⟨0, Nat.zero_le _⟩ ?_ ?_
    · refine Ent.to ?_ ?_ <;> simp (disch := omega) only [wkT_cons, wkX_cons, wkT_nil, wkX_nil, get, Nat.reduceEqDiff, ↓reduceIte, ex_some, wk_self, wk_top, wk_nil, wkB_self, and_self, dI, i64_in, and_true, true_and, Int.natCast_add, Int.natCast_one, Int.ofNat_zero, Int.natCast_zero, mrN_zero]
      all_goals first | exact ⟨.refl _, .refl _, .refl _⟩ | exact ⟨.refl _, .refl _⟩ | exact .refl _
    rintro ⟨k, hkk⟩
    dsimp only
    have hll := mrN_len (moreO u v) l k
    rcases at_or l k hkk with ⟨o, ho, hltk, hdk⟩ | ⟨hek, hdk⟩
    · have hob := hmd.lo o (List.mem_of_getElem? ho)
      have hon := hob.need
      have hmg := mrN_get (f := moreO u v) ho
      have hkl : (k < l.length) = True := eq_true hltk
      have y1 : IntKind.i64.wrap (o.lo - u) = o.lo - u := IntWalk.i64_in _ (by omega)
      have y2 : IntKind.i64.wrap (o.hi + v) = o.hi + v := IntWalk.i64_in _ (by omega)
      have c41 := laSpan (max 0 (o.lo - u)) (o.hi + v)
      have hsk : (rowC (rows eO (mrN (moreO u v) l k))).set k [dI o.w, dI (max 0 (o.lo - u)), dI (o.hi + v)] = rowC (rows eO (mrN (moreO u v) l (k + 1))) := by
        rw [← mrN_set ho, rows, rows, List.map_set, rowC, rowC, List.map_set]
        rfl
      repeat' (first
    | (with_reducible first | refine DW.seq ?_ | refine DW.block ?_ | refine DW.skip ?_ | refine DW.exit ?_ | refine DW.ret ?_ | refine DW.reg ?_)
    | (refine DW.dreg rfl (WF.of ?_) ?_; first | rfl | skip)
    | (simp (disch := omega) only [go_sem, simprocAttr, bm_box, bm_row, bk_box, bk_row, hdk, hll, hkl, hmg, und5, r0, x0, hu, hs, x2, hv, y1, y2, hsk, min_if, max_if, List.map_cons, List.map_nil])
    | (exact retS_of rfl rfl rfl)
    | (refine DW.cond_tt rfl ?_)
    | (refine call_c (c41) (by decide) ?_)
    | (refine DW.cond_ff rfl ?_)
    | (refine DW.cond rfl ?_ ?_ <;> intro hc <;> (try simp only [go_sem] at hc))
    | (refine g_split ?_ ?_ <;> intro hc <;> (try simp only [hc]) <;> (try simp only [go_sem] at hc)))
      refine ⟨⟨k + 1, hltk⟩, ?_, Ent.to ?_ ?_⟩ <;> first | (show _ < _; (try simp only); omega) | (simp (disch := omega) only [wkT_cons, wkX_cons, wkT_nil, wkX_nil, get, Nat.reduceEqDiff, ↓reduceIte, ex_some, wk_self, wk_top, wk_nil, wkB_self, and_self, dI, i64_in, and_true, true_and, Int.natCast_add, Int.natCast_one, Int.ofNat_zero, Int.natCast_zero])
      all_goals first | exact ⟨.refl _, .refl _, .refl _⟩ | exact ⟨.refl _, .refl _⟩ | exact .refl _
    · subst hek
      rw [mrN_all]
      rw [mrN_all] at hll
      (refine DW.ent (Ent.rel 183 rfl) ?_; simp (disch := omega) only [go_sem, simprocAttr, bm_box, bm_row, bk_box, bk_row])
      rcases f1 with f1 | ⟨f1, f2, f3⟩
      · repeat' (first
    | (with_reducible first | refine DW.seq ?_ | refine DW.block ?_ | refine DW.skip ?_ | refine DW.exit ?_ | refine DW.ret ?_ | refine DW.reg ?_)
    | (refine DW.dreg rfl (WF.of ?_) ?_; first | rfl | skip)
    | (simp (disch := omega) only [go_sem, simprocAttr, bm_box, bm_row, bk_box, bk_row, hdk, hml, und5, r1, x1, hdd, x3, f1])
    | (exact retS_of rfl rfl rfl)
    | (refine DW.cond_tt rfl ?_)
    | (refine call_c (c31b) (by decide) ?_)
    | (refine call_c (c43c) (by decide) ?_)
    | (refine call_c (c22) (by decide) ?_)
    | (refine call_c (c36) (by decide) ?_)
    | (refine call_c (c44c) (by decide) ?_)
    | (refine call_c (hk) (by decide) ?_)
    | (refine DW.cond_ff rfl ?_)
    | (refine DW.cond rfl ?_ ?_ <;> intro hc <;> (try simp only [go_sem] at hc))
    | (refine g_split ?_ ?_ <;> intro hc <;> (try simp only [hc]) <;> (try simp only [go_sem] at hc)))
      · repeat' (first
    | (with_reducible first | refine DW.seq ?_ | refine DW.block ?_ | refine DW.skip ?_ | refine DW.exit ?_ | refine DW.ret ?_ | refine DW.reg ?_)
    | (refine DW.dreg rfl (WF.of ?_) ?_; first | rfl | skip)
    | (simp (disch := omega) only [go_sem, simprocAttr, bm_box, bm_row, bk_box, bk_row, hdk, hml, und5, r1, x1, hdd, x3, f1, f2, f3])
    | (exact retS_of rfl rfl rfl)
    | (refine DW.cond_tt rfl ?_)
    | (refine call_c (c31b) (by decide) ?_)
    | (refine call_c (c43c) (by decide) ?_)
    | (refine call_c (c22) (by decide) ?_)
    | (refine call_c (c36) (by decide) ?_)
    | (refine call_c (c44c) (by decide) ?_)
    | (refine call_c (hk) (by decide) ?_)
    | (refine DW.cond_ff rfl ?_)
    | (refine DW.cond rfl ?_ ?_ <;> intro hc <;> (try simp only [go_sem] at hc))
    | (refine g_split ?_ ?_ <;> intro hc <;> (try simp only [hc]) <;> (try simp only [go_sem] at hc)))
end Go.Dw.Seat
end
section
set_option linter.unusedSimpArgs false
set_option maxRecDepth 100000
namespace Go.Dw.Seat
open Go Go.Dw Go.Proofs Go.ChangeShapes Go.WideShapes Go.ChangeAt Go.RowKit
set_option maxHeartbeats 800000 in
theorem trimMetresLifted (os : Os) (started : os.Started) (H : Type) (enc : TypeId × Value → H) :
    ReturnsInHanded {} Try.checked os 9 .any (Ytkhicfkfdmldkaa.Rows.trimMetresSpec.pre6 enc Try.prog Try.f9 Ytkhicfkfdmldkaa.Rows.trimMetresRow.domain false) (Ytkhicfkfdmldkaa.Rows.trimMetresSpec.post enc Try.prog Try.f9 false true false false) := by
  refine returnsInHanded_of_change (C := Try.checked) tOwn started (by kernel_rfl) Try.func9
    (ChangeSpec.witness6 (enc := enc) (C := Try.checked) false ⟨#[], #[.agg #[.int .u8 0, .int .u8 0, .int .u8 0, .int .u8 0, .int .u8 0, .int .u8 0, .int .u8 0, .int .u8 0, .int .u8 0, .int .u8 0, .int .u8 0, .int .u8 0, .int .u8 0, .int .u8 0, .int .u8 0, .int .u8 0, .int .u8 0, .int .u8 0, .int .u8 0, .int .u8 0, .int .u8 0, .int .u8 0, .int .u8 0, .int .u8 0, .int .u8 0, .int .u8 0, .int .u8 0, .int .u8 0, .int .u8 0, .int .u8 0], .agg #[.int .u8 0, .int .u8 0]], []⟩ 8 (by kernel_rfl) (by kernel_rfl) (by kernel_rfl) (by kernel_rfl)) ?_
  intro W base args ds gs before hval0 hW _ _
  have hval : ∀ (j : Nat) t v, Try.f9.params[j]? = some t → args[j]? = some v → Value.okWide Try.prog W .any base t v := hval0
  have hW' : DataW.Whole enc Try.prog Try.f9.params.toList [] false W args.toList ds gs before := hW
  obtain ⟨p, q, hA, hV, rfl, hfz, hnd⟩ := hW
  have hA : DataW.TrodAll enc Try.prog W 0 (fun _ => true) true [78, 75] args.toList ds p := hA
  obtain ⟨rfl, rfl⟩ := trodVars_none hV
  obtain ⟨v0, vs0, d0, ds0, p0, q0, hargs, rfl, rfl, h0, r0⟩ := trodAll_cons hA
  obtain ⟨v1, vs1, d1, ds1, p1, q1, rfl, rfl, rfl, h1, r1⟩ := trodAll_cons r0
  obtain ⟨rfl, rfl, rfl⟩ := trodAll_nil r1
  obtain rfl : args = #[v0, v1] := by cases args; simp_all
  obtain ⟨f0, hu0, _⟩ := structIs_spec u78
  obtain ⟨c0, rfl, _⟩ := okWide_struct hu0 (hval 0 78 v0 rfl rfl)
  obtain ⟨c1, rfl, _⟩ := okWide_array u75 (hval 1 75 v1 rfl rfl)
  obtain ⟨fu0, h0⟩ := h0
  obtain ⟨fu1, h1⟩ := h1
  obtain ⟨s0, ho0, e0⟩ := rd_Shift h0
  have hr0 : RepVs W A0 (eN s0) c0.toList := by
    have e : c0.toList = bV s0 := by simpa [Value.cells] using e0
    rw [e]; exact rep_bytes s0
  obtain ⟨s1, ho1, e1⟩ := rd_A2 h1
  have hr1 : RepVs W A0 (eN s1) c1.toList := by
    have e : c1.toList = bV s1 := by simpa [Value.cells] using e1
    rw [e]; exact rep_bytes s1
  refine ((laMetres s0 ho0 s1 ho1).calls (W := W) (vs := [.agg c0, .agg c1]) (laid0 W) (fun G => ?_)).mono ?_
  · exact ⟨_, _, rfl, ⟨c0, rfl, RepDs.ofVs hr0⟩, _, _, rfl, ⟨c1, rfl, RepDs.ofVs hr1⟩, rfl⟩
  · rintro e W' ⟨v, rfl, ⟨G', A', hr⟩, hb⟩
    obtain ⟨rfl, _⟩ := hr
    exact ⟨_, rfl, post_true tLaid (by decide +kernel) hW' hb rfl rfl u4 rfl rfl rfl⟩
theorem trimMetresHolds : Ytkhicfkfdmldkaa.Rows.trimMetresRow.holds Ytkhicfkfdmldkaa.Try.pinned (OpenSpec.ofChange Ytkhicfkfdmldkaa.Rows.trimMetresSpec) :=
  OpenClaim.holds_of_wide 9 Try.f9 rfl rfl rfl rfl rfl rfl rfl ⟨rfl, rfl, rfl, rfl, rfl⟩ rfl rfl rfl rfl rfl (by kernel_rfl) Try.func9 (by kernel_rfl)
    (of_decide_eq_true (by kernel_rfl)) (by unfold Func.isWrapper; first | (rw [if_pos (by decide +kernel)]; kernel_rfl) | (rw [if_neg (by decide +kernel)]; exact ⟨rfl, rfl⟩))
    (fun os started H enc _ => trimMetresLifted os started H enc)
end Go.Dw.Seat
namespace Go.Proofs.Ytkhicfkfdmldkaa
theorem trimMetresSaid : Rows.TrimMetresSaid := Go.Dw.Seat.trimMetresHolds
end Go.Proofs.Ytkhicfkfdmldkaa
end
