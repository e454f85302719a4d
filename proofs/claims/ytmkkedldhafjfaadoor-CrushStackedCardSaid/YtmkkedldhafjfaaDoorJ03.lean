/- The law CrushStacked returns true for every input, and changes nothing that was there before: the full statement CrushStackedCardSaid, without conditions. -/
import Derived.Test.YtmkkedldhafjfaaDoorJ02
import Derived.Test.YtmkkedldhafjfaaDoorCards
import Derived.SevenTiedAt
set_option linter.unusedVariables false
set_option linter.unusedSimpArgs false
section
set_option linter.unusedSimpArgs false
set_option maxRecDepth 100000
namespace Go.Dw.Seat
open Go Go.Dw Go.Proofs Go.IntWalk
def rgL : Nat → List Nat
  | 0 => []
  | i + 1 => rgL i ++ [i]
theorem rgL_eq : ∀ n, rgL n = List.range n
  | 0 => rfl
  | n + 1 => by rw [rgL, rgL_eq n, List.range_succ]
theorem nL_take (l : List Nat) (k : Nat) : (nL l).take k = nL (l.take k) := by simp [nL, List.map_take]
theorem nL_drop (l : List Nat) (k : Nat) : (nL l).drop k = nL (l.drop k) := by simp [nL, List.map_drop]
theorem nL_app (a b : List Nat) : nL a ++ nL b = nL (a ++ b) := by simp [nL]
theorem rows_app {α : Type} (f : α → List C) (a b : List α) : rows f a ++ rows f b = rows f (a ++ b) := by simp [rows]
theorem rowC_app (a b : List (List C)) : rowC a ++ rowC b = rowC (a ++ b) := by simp [rowC]
structure MixOk (n : Nat) (L A : List Nat) : Prop where
  nodup : (A ++ L).Nodup
  lt : ∀ e ∈ A ++ L, e < n
  len : A.length + L.length = n
theorem MixOk.step {n : Nat} {L A : List Nat} (h : MixOk n L A) {k x : Nat} (hx : L[k]? = some x) : MixOk n (L.take k ++ L.drop (k + 1)) (A ++ [x]) := by
  have hk := (List.getElem?_eq_some_iff.1 hx).1
  have hp : L = L.take k ++ x :: L.drop (k + 1) := by
    have := drop_cons hx
    rw [← this, List.take_append_drop]
  have hperm : ((A ++ [x]) ++ (L.take k ++ L.drop (k + 1))).Perm (A ++ L) := by
    rw [List.append_assoc]
    refine List.Perm.append_left A ?_
    show (x :: (L.take k ++ L.drop (k + 1))).Perm L
    rw (config := { occs := .pos [3] }) [hp]
    exact List.perm_middle.symm
  refine ⟨hperm.nodup_iff.2 h.nodup, fun e he => h.lt e (hperm.mem_iff.1 he), ?_⟩
  have := hperm.length_eq
  have h3 := h.len
  simp only [List.length_append] at this ⊢
  simp only [List.length_append, List.length_cons, List.length_nil] at this ⊢
  omega
set_option maxHeartbeats 8000000 in
theorem laStacked (x : PileB) (h : x.ok) (mix : List Nat) (hml : mix.length ≤ maxLen) (hmb : AllLt 256 mix) (days : Nat) (hdays : days < 256) : DCall Tryd.prog 14 [.agg ((cPileB false x).map D.c), .c (.sl false 1 (rows (e1 .u8) mix)), .c (.v (.int .u8 days))] [] (bD true) [] := by
  have hk := laKnown
  have hpile := laPile x h 8 (by decide)
  have hlo := pileL_ok h (minN x.boxes 8)
  have hll : (pileL x (minN x.boxes 8)).length ≤ 8 := by rw [pileL_len]; unfold minN; split <;> omega
  have htb := stL_ok h (n := minN x.steps 6) (by unfold minN; split <;> omega) (days := (days : Int)) (by omega)
  have htl := htb.len
  simp only [List.map_cons, List.map_nil] at hpile
  generalize pileL x (minN x.boxes 8) = l at *
  generalize stL x (minN x.steps 6) = t at *
  have hbx := laBoxesC false l (by omega)
  have hsx := laStepsC false t (by omega)
  obtain ⟨s0, hs0, hst0, hm0⟩ := most_set l (lastI days t 0) (by omega)
  have hp := pow_le10 (n := l.length) (by omega)
  have hmo := crMost l hlo (by omega) t days htb
  have hmf := most_full l (lastI days t 0) (by omega)
  have hole : ∀ A : List Nat, (∀ e ∈ A, e < l.length) → A.Nodup → failN (lastI days t 0) (pickL l A) = none → A.length ≤ (mostI l (lastI days t 0)).length := fun A => order_le (by omega)
  have hofu : ∀ A : List Nat, (∀ e ∈ A, e < l.length) → A.Nodup → failN (lastI days t 0) (pickL l A) = none → A.length = l.length → stO l (lastI days t 0) (2 ^ l.length - 1) A := fun A => order_full (by omega)
  have hss := some_stand (by omega) hst0
  have hmn := bits_nodup s0
  have hml0 := bits_le (by omega) hs0
  have hmlt : ∀ e ∈ bitsL s0, e < l.length := inB_of (by omega) hs0
  rw [hm0, nL_length] at hmf
  rw [hm0] at hmo hole
  have hole2 : ∀ A : List Nat, (∀ e ∈ A, e < l.length) → A.Nodup → failN (lastI days t 0) (pickL l A) = none → A.length ≤ (bitsL s0).length := fun A h1 h2 h3 => by have := hole A h1 h2 h3; rwa [nL_length] at this
  clear hole
  have hpm := laPicked false false l (by omega) (bitsL s0) hmlt hmn (by omega)
  have hpl : (pickL l (bitsL s0)).length = (bitsL s0).length := by simp [pickL]
  rw [← hpl] at hss
  have hos := crOrder (pickL l (bitsL s0)) (fun b hb => by obtain ⟨e, _, rfl⟩ := List.mem_map.1 hb; exact pk_ok hlo e) (by omega) t days htb hss
  have hpkok : ∀ o : List Nat, ∀ b ∈ pickL l o, b.ok := fun o b hb => by obtain ⟨e, _, rfl⟩ := List.mem_map.1 hb; exact pk_ok hlo e
  have hpkl : ∀ o : List Nat, (pickL l o).length = o.length := fun o => by simp [pickL]
  have hfa : ∀ o : List Nat, o.length ≤ 8 → DCall Tryd.prog 36 [.c (.sl false 4 (rows eLd (pickL l o))), .c (.sl false 2 (rows eK t)), dI days] [] (.tup [dI (fallR (pickL l o) days t).1, dI (fallR (pickL l o) days t).2.1, dI (fallR (pickL l o) days t).2.2]) [] := fun o ho => crFall (pickL l o) (hpkok o) (by rw [hpkl]; omega) t days htb
  have hfi : ∀ o : List Nat, (fallR (pickL l o) days t).2.2 = if failN (lastI days t 0) (pickL l o) = none then 7 else 0 := fun o => fallR_iff (hpkok o) htb
  clear hss hpl hst0 hm0 hs0 hp
  generalize hms : bitsL s0 = ms at *
  clear hms
  generalize ordI (pickL l ms) _ _ _ = so at *
  have hmsl := nL_length ms
  have c1 : decide ((l.length : Int) < (ms.length : Int)) = false := by rw [decide_eq_false_iff_not]; omega
  cases hst : stI l (lastI days t 0) (2 ^ l.length - 1) with
  | false =>
    rw [hst] at hmf
    have hne : ms.length ≠ l.length := fun e => by have := hmf.2.1 e; cases this
    have c2 : ((ms.length : Int) == (l.length : Int)) = false := by rw [beq_eq_false_iff_ne]; omega
    have hord := crOrderN l hlo (by omega) t days htb hst
    have hnofull : ∀ A, ¬ stO l (lastI days t 0) (2 ^ l.length - 1) A := fun A hA => by rw [stI_of (by have := pow_le10 (n := l.length) (by omega); omega) hA] at hst; cases hst
    clear hmf
    refine DCall.of Tryd.func14 sf14 hb14 (Nat.le_of_ble_eq_true rfl) (okRes_nil fun _ => rfl) ?_; simp only [s14, idxs, Nat.reduceAdd]
    repeat' (first
    | (with_reducible refine DW.seq ?_)
    | (with_reducible refine DW.block ?_)
    | (with_reducible refine DW.skip ?_)
    | (with_reducible refine DW.exit ?_)
    | (with_reducible refine DW.ret ?_)
    | (with_reducible refine DW.reg ?_)
    | (refine DW.dreg rfl (WF.of (by first | rfl | simp (disch := omega) only [go_sem, Nat.reduceLT, Nat.reduceLeDiff, Nat.reduceAdd, Nat.reduceMul, Nat.reduceEqDiff, ↓reduceIte, reduceCtorEq, Nat.reduceBEq, Nat.reduceBNe, Nat.reducePow, Int.reduceLE, Int.reduceLT, Int.reduceNeg, Int.reduceToNat, Int.reduceEq, Int.reduceAdd, Int.reduceSub, Int.reduceMul, Int.reduceBEq, Int.reduceBNe, bm_box, bm_row, bk_box, bk_row, List.map_cons, List.map_nil, ud5, c1, c2, hmsl])) ?_)
    | (simp (disch := omega) only [go_sem, Nat.reduceLT, Nat.reduceLeDiff, Nat.reduceAdd, Nat.reduceMul, Nat.reduceEqDiff, ↓reduceIte, reduceCtorEq, Nat.reduceBEq, Nat.reduceBNe, Nat.reducePow, Int.reduceLE, Int.reduceLT, Int.reduceNeg, Int.reduceToNat, Int.reduceEq, Int.reduceAdd, Int.reduceSub, Int.reduceMul, Int.reduceBEq, Int.reduceBNe, bm_box, bm_row, bk_box, bk_row, List.map_cons, List.map_nil, ud5, c1, c2, hmsl])
    | (exact retS_of rfl rfl rfl)
    | (refine DW.cond_tt rfl ?_)
    | (refine call_c (hpile) (by decide) ?_)
    | (refine call_c (hbx) (by decide) ?_)
    | (refine call_c (hsx) (by decide) ?_)
    | (refine call_c (hord) (by decide) ?_)
    | (refine call_c (hmo) (by decide) ?_)
    | (refine call_c (hpm) (by decide) ?_)
    | (refine call_c (hos) (by decide) ?_)
    | (refine DW.cond_ff rfl ?_)
    | (refine DW.cond rfl ?_ ?_ <;> intro hc <;> (try simp only [go_sem] at hc))
    | (refine g_split ?_ ?_ <;> intro hc <;> (try simp only [hc]) <;> (try simp only [go_sem] at hc)))
    clear hpile hord hmo hpm hos c1 c2 h
    refine DW.loop (ι := { i : Nat // i ≤ l.length }) (fun i => ⟨222, [(24, dI i.1), (22, .own 132), (11, dIs false (nL ms)), (8, .c (.sl false 2 (rows eK t))), (7, .c (.sl false 4 (rows eLd l))), (2, .c (.v (.int .u8 days))), (1, .c (.sl false 1 (rows (e1 .u8) mix)))], [(132, .row 1 (rowC (rows eI (nL (rgL i.1)))))]⟩) (fun i => l.length - i.1) ⟨0, Nat.zero_le _⟩ ?_ ?_
    · refine Ent.to ?_ ?_ <;> simp (disch := omega) only [wkT_cons, wkX_cons, wkT_nil, wkX_nil, get, Nat.reduceEqDiff, ↓reduceIte, ex_some, wk_self, wk_top, wk_nil, wkB_self, and_self, dI, i64_in, and_true, true_and, Int.natCast_add, Int.natCast_one, Int.ofNat_zero, Int.natCast_zero, rgL, nL, List.map_nil]
      all_goals first | exact ⟨.refl _, .refl _⟩ | exact .refl _
    rintro ⟨i, hi⟩
    dsimp only
    have hrl : (nL (rgL i)).length = i := by rw [nL_length, rgL_eq, List.length_range]
    rcases Nat.lt_or_ge i l.length with hlt | hge
    · have hd : decide ((i : Int) < (l.length : Int)) = true := by rw [decide_eq_true_eq]; omega
      have hs : nL (rgL (i + 1)) = nL (rgL i) ++ [(i : Int)] := by rw [rgL, nL_snoc]
      generalize nL (rgL i) = R at *
      repeat' (first
    | (with_reducible refine DW.seq ?_)
    | (with_reducible refine DW.block ?_)
    | (with_reducible refine DW.skip ?_)
    | (with_reducible refine DW.exit ?_)
    | (with_reducible refine DW.ret ?_)
    | (with_reducible refine DW.reg ?_)
    | (refine DW.dreg rfl (WF.of (by first | rfl | simp (disch := omega) only [go_sem, Nat.reduceLT, Nat.reduceLeDiff, Nat.reduceAdd, Nat.reduceMul, Nat.reduceEqDiff, ↓reduceIte, reduceCtorEq, Nat.reduceBEq, Nat.reduceBNe, Nat.reducePow, Int.reduceLE, Int.reduceLT, Int.reduceNeg, Int.reduceToNat, Int.reduceEq, Int.reduceAdd, Int.reduceSub, Int.reduceMul, Int.reduceBEq, Int.reduceBNe, bm_box, bm_row, bk_box, bk_row, hd, List.map_cons, List.map_nil, rowC_snocI])) ?_)
    | (simp (disch := omega) only [go_sem, Nat.reduceLT, Nat.reduceLeDiff, Nat.reduceAdd, Nat.reduceMul, Nat.reduceEqDiff, ↓reduceIte, reduceCtorEq, Nat.reduceBEq, Nat.reduceBNe, Nat.reducePow, Int.reduceLE, Int.reduceLT, Int.reduceNeg, Int.reduceToNat, Int.reduceEq, Int.reduceAdd, Int.reduceSub, Int.reduceMul, Int.reduceBEq, Int.reduceBNe, bm_box, bm_row, bk_box, bk_row, hd, List.map_cons, List.map_nil, rowC_snocI])
    | (exact retS_of rfl rfl rfl)
    | (refine DW.cond_tt rfl ?_)
    | (refine DW.cond_ff rfl ?_)
    | (refine DW.cond rfl ?_ ?_ <;> intro hc <;> (try simp only [go_sem] at hc))
    | (refine g_split ?_ ?_ <;> intro hc <;> (try simp only [hc]) <;> (try simp only [go_sem] at hc)))
      refine ⟨⟨i + 1, hlt⟩, ?_, Ent.to ?_ ?_⟩ <;> first | (show _ < _; (try simp only); omega) | (simp (disch := omega) only [wkT_cons, wkX_cons, wkT_nil, wkX_nil, get, Nat.reduceEqDiff, ↓reduceIte, ex_some, wk_self, wk_top, wk_nil, wkB_self, and_self, dI, i64_in, and_true, true_and, Int.natCast_add, Int.natCast_one, Int.ofNat_zero, Int.natCast_zero,  hs])
      all_goals first | exact ⟨.refl _, .refl _⟩ | exact .refl _
    obtain rfl : i = l.length := by omega
    have hd : decide ((l.length : Int) < (l.length : Int)) = false := by rw [decide_eq_false_iff_not]; omega
    (refine DW.ent (Ent.rel 132 rfl) ?_; simp (disch := omega) only [go_sem, Nat.reduceLT, Nat.reduceLeDiff, Nat.reduceAdd, Nat.reduceMul, Nat.reduceEqDiff, ↓reduceIte, reduceCtorEq, Nat.reduceBEq, Nat.reduceBNe, Nat.reducePow, Int.reduceLE, Int.reduceLT, Int.reduceNeg, Int.reduceToNat, Int.reduceEq, Int.reduceAdd, Int.reduceSub, Int.reduceMul, Int.reduceBEq, Int.reduceBNe, bm_box, bm_row, bk_box, bk_row])
    repeat' (first
    | (with_reducible refine DW.seq ?_)
    | (with_reducible refine DW.block ?_)
    | (with_reducible refine DW.skip ?_)
    | (with_reducible refine DW.exit ?_)
    | (with_reducible refine DW.ret ?_)
    | (with_reducible refine DW.reg ?_)
    | (refine DW.dreg rfl (WF.of (by first | rfl | simp (disch := omega) only [go_sem, Nat.reduceLT, Nat.reduceLeDiff, Nat.reduceAdd, Nat.reduceMul, Nat.reduceEqDiff, ↓reduceIte, reduceCtorEq, Nat.reduceBEq, Nat.reduceBNe, Nat.reducePow, Int.reduceLE, Int.reduceLT, Int.reduceNeg, Int.reduceToNat, Int.reduceEq, Int.reduceAdd, Int.reduceSub, Int.reduceMul, Int.reduceBEq, Int.reduceBNe, bm_box, bm_row, bk_box, bk_row, hd])) ?_)
    | (simp (disch := omega) only [go_sem, Nat.reduceLT, Nat.reduceLeDiff, Nat.reduceAdd, Nat.reduceMul, Nat.reduceEqDiff, ↓reduceIte, reduceCtorEq, Nat.reduceBEq, Nat.reduceBNe, Nat.reducePow, Int.reduceLE, Int.reduceLT, Int.reduceNeg, Int.reduceToNat, Int.reduceEq, Int.reduceAdd, Int.reduceSub, Int.reduceMul, Int.reduceBEq, Int.reduceBNe, bm_box, bm_row, bk_box, bk_row, hd])
    | (exact retS_of rfl rfl rfl)
    | (refine DW.cond_tt rfl ?_)
    | (refine DW.cond_ff rfl ?_)
    | (refine DW.cond rfl ?_ ?_ <;> intro hc <;> (try simp only [go_sem] at hc))
    | (refine g_split ?_ ?_ <;> intro hc <;> (try simp only [hc]) <;> (try simp only [go_sem] at hc)))
    have hmix0 : MixOk l.length (rgL l.length) [] := ⟨by rw [List.nil_append, rgL_eq]; exact List.nodup_range, fun e he => by rw [List.nil_append, rgL_eq] at he; exact List.mem_range.1 he, by rw [rgL_eq]; simp⟩
    generalize rgL l.length = L0 at *
    refine DW.loop (ι := { y : List Nat × List Nat // MixOk l.length y.1 y.2 }) (fun y => ⟨222, [(26, dI y.1.2.length), (25, .own 144), (22, dIs false (nL y.1.1)), (11, dIs false (nL ms)), (8, .c (.sl false 2 (rows eK t))), (7, .c (.sl false 4 (rows eLd l))), (2, .c (.v (.int .u8 days))), (1, .c (.sl false 1 (rows (e1 .u8) mix)))], [(144, .row 1 (rowC (rows eI (nL y.1.2))))]⟩) (fun y => y.1.1.length) ⟨(L0, []), hmix0⟩ ?_ ?_
    · refine Ent.to ?_ ?_ <;> simp (disch := omega) only [wkT_cons, wkX_cons, wkT_nil, wkX_nil, get, Nat.reduceEqDiff, ↓reduceIte, ex_some, wk_self, wk_top, wk_nil, wkB_self, and_self, dI, i64_in, and_true, true_and, Int.natCast_add, Int.natCast_one, Int.ofNat_zero, Int.natCast_zero, nL, List.map_nil, List.length_nil]
      all_goals first | exact ⟨.refl _, .refl _⟩ | exact .refl _
    rintro ⟨⟨L, A⟩, hM⟩
    dsimp only at hM ⊢
    have hMl := hM.len
    have hLl := nL_length L
    have hAl := nL_length A
    by_cases h0 : 0 < L.length
    · have hd2 : decide ((0 : Int) < (L.length : Int)) = true := by rw [decide_eq_true_eq]; omega
      obtain ⟨v, hv, hby⟩ := laByte false mix hmb hml A.length (by omega)
      have hz : ((L.length : Int) = 0) = False := eq_false (by omega)
      have ht : ((v : Int)).tmod (L.length : Int) = ((v % L.length : Nat) : Int) := tmodN v L.length
      have hjl : v % L.length < L.length := Nat.mod_lt _ h0
      generalize v % L.length = j at *
      obtain ⟨w, hw⟩ := getE (l := L) (i := j) hjl
      have hx : (nL L)[j]? = some (w : Int) := by rw [nL_get, hw]; rfl
      have hM2 := hM.step hw
      have hin := laInts false (nL (L.take j)) (by rw [nL_length, List.length_take]; omega) 166
      have hs2 : ((A ++ [w]).length : Int) = (A.length : Int) + 1 := by simp
      have hs3 : nL (A ++ [w]) = nL A ++ [(w : Int)] := (nL_snoc A w).symm
      have hlen2 : (L.take j ++ L.drop (j + 1)).length < L.length := by simp only [List.length_append, List.length_take, List.length_drop]; omega
      repeat' (first
    | (with_reducible refine DW.seq ?_)
    | (with_reducible refine DW.block ?_)
    | (with_reducible refine DW.skip ?_)
    | (with_reducible refine DW.exit ?_)
    | (with_reducible refine DW.ret ?_)
    | (with_reducible refine DW.reg ?_)
    | (refine DW.dreg rfl (WF.of (by first | rfl | simp (disch := omega) only [go_sem, Nat.reduceLT, Nat.reduceLeDiff, Nat.reduceAdd, Nat.reduceMul, Nat.reduceEqDiff, ↓reduceIte, reduceCtorEq, Nat.reduceBEq, Nat.reduceBNe, Nat.reducePow, Int.reduceLE, Int.reduceLT, Int.reduceNeg, Int.reduceToNat, Int.reduceEq, Int.reduceAdd, Int.reduceSub, Int.reduceMul, Int.reduceBEq, Int.reduceBNe, bm_box, bm_row, bk_box, bk_row, hd2, hLl, hz, ht, hx, nL_take, List.map_cons, List.map_nil, rowC_snocI])) ?_)
    | (simp (disch := omega) only [go_sem, Nat.reduceLT, Nat.reduceLeDiff, Nat.reduceAdd, Nat.reduceMul, Nat.reduceEqDiff, ↓reduceIte, reduceCtorEq, Nat.reduceBEq, Nat.reduceBNe, Nat.reducePow, Int.reduceLE, Int.reduceLT, Int.reduceNeg, Int.reduceToNat, Int.reduceEq, Int.reduceAdd, Int.reduceSub, Int.reduceMul, Int.reduceBEq, Int.reduceBNe, bm_box, bm_row, bk_box, bk_row, hd2, hLl, hz, ht, hx, nL_take, List.map_cons, List.map_nil, rowC_snocI])
    | (exact retS_of rfl rfl rfl)
    | (refine DW.cond_tt rfl ?_)
    | (refine call_c (hby) (by decide) ?_)
    | (refine DW.cond_ff rfl ?_)
    | (refine DW.cond rfl ?_ ?_ <;> intro hc <;> (try simp only [go_sem] at hc))
    | (refine g_split ?_ ?_ <;> intro hc <;> (try simp only [hc]) <;> (try simp only [go_sem] at hc)))
      (refine call_r (hin) (by decide) (by first | rfl | simp (disch := omega) only [go_sem, Nat.reduceLT, Nat.reduceLeDiff, Nat.reduceAdd, Nat.reduceMul, Nat.reduceEqDiff, ↓reduceIte, reduceCtorEq, Nat.reduceBEq, Nat.reduceBNe, Nat.reducePow, Int.reduceLE, Int.reduceLT, Int.reduceNeg, Int.reduceToNat, Int.reduceEq, Int.reduceAdd, Int.reduceSub, Int.reduceMul, Int.reduceBEq, Int.reduceBNe, bm_box, bm_row, bk_box, bk_row]) (by first | rfl | simp (disch := omega) only [go_sem, Nat.reduceLT, Nat.reduceLeDiff, Nat.reduceAdd, Nat.reduceMul, Nat.reduceEqDiff, ↓reduceIte, reduceCtorEq, Nat.reduceBEq, Nat.reduceBNe, Nat.reducePow, Int.reduceLE, Int.reduceLT, Int.reduceNeg, Int.reduceToNat, Int.reduceEq, Int.reduceAdd, Int.reduceSub, Int.reduceMul, Int.reduceBEq, Int.reduceBNe, bm_box, bm_row, bk_box, bk_row]) ?_; simp (disch := omega) only [go_sem, Nat.reduceLT, Nat.reduceLeDiff, Nat.reduceAdd, Nat.reduceMul, Nat.reduceEqDiff, ↓reduceIte, reduceCtorEq, Nat.reduceBEq, Nat.reduceBNe, Nat.reducePow, Int.reduceLE, Int.reduceLT, Int.reduceNeg, Int.reduceToNat, Int.reduceEq, Int.reduceAdd, Int.reduceSub, Int.reduceMul, Int.reduceBEq, Int.reduceBNe, bm_box, bm_row, bk_box, bk_row])
      repeat' (first
    | (with_reducible refine DW.seq ?_)
    | (with_reducible refine DW.block ?_)
    | (with_reducible refine DW.skip ?_)
    | (with_reducible refine DW.exit ?_)
    | (with_reducible refine DW.ret ?_)
    | (with_reducible refine DW.reg ?_)
    | (refine DW.dreg rfl (WF.of (by first | rfl | simp (disch := omega) only [go_sem, Nat.reduceLT, Nat.reduceLeDiff, Nat.reduceAdd, Nat.reduceMul, Nat.reduceEqDiff, ↓reduceIte, reduceCtorEq, Nat.reduceBEq, Nat.reduceBNe, Nat.reducePow, Int.reduceLE, Int.reduceLT, Int.reduceNeg, Int.reduceToNat, Int.reduceEq, Int.reduceAdd, Int.reduceSub, Int.reduceMul, Int.reduceBEq, Int.reduceBNe, bm_box, bm_row, bk_box, bk_row, nL_drop, nL_take, List.take_length, rowC_app, rows_app, nL_app, List.length_take, List.length_drop])) ?_)
    | (simp (disch := omega) only [go_sem, Nat.reduceLT, Nat.reduceLeDiff, Nat.reduceAdd, Nat.reduceMul, Nat.reduceEqDiff, ↓reduceIte, reduceCtorEq, Nat.reduceBEq, Nat.reduceBNe, Nat.reducePow, Int.reduceLE, Int.reduceLT, Int.reduceNeg, Int.reduceToNat, Int.reduceEq, Int.reduceAdd, Int.reduceSub, Int.reduceMul, Int.reduceBEq, Int.reduceBNe, bm_box, bm_row, bk_box, bk_row, nL_drop, nL_take, List.take_length, rowC_app, rows_app, nL_app, List.length_take, List.length_drop])
    | (exact retS_of rfl rfl rfl)
    | (refine DW.cond_tt rfl ?_)
    | (refine DW.cond_ff rfl ?_)
    | (refine DW.cond rfl ?_ ?_ <;> intro hc <;> (try simp only [go_sem] at hc))
    | (refine g_split ?_ ?_ <;> intro hc <;> (try simp only [hc]) <;> (try simp only [go_sem] at hc)))
      refine ⟨⟨(L.take j ++ L.drop (j + 1), A ++ [w]), hM2⟩, by (show _ < _; (try simp only); omega), (Ent.rel 166 rfl).trans ?_⟩; simp (disch := omega) only [go_sem, Nat.reduceLT, Nat.reduceLeDiff, Nat.reduceAdd, Nat.reduceMul, Nat.reduceEqDiff, ↓reduceIte, reduceCtorEq, Nat.reduceBEq, Nat.reduceBNe, Nat.reducePow, Int.reduceLE, Int.reduceLT, Int.reduceNeg, Int.reduceToNat, Int.reduceEq, Int.reduceAdd, Int.reduceSub, Int.reduceMul, Int.reduceBEq, Int.reduceBNe, bm_box, bm_row, bk_box, bk_row,  hs2]; refine Ent.to ?_ ?_ <;> (simp (disch := omega) only [wkT_cons, wkX_cons, wkT_nil, wkX_nil, get, Nat.reduceEqDiff, ↓reduceIte, ex_some, wk_self, wk_top, wk_nil, wkB_self, and_self, dI, i64_in, and_true, true_and, Int.natCast_add, Int.natCast_one, Int.ofNat_zero, Int.natCast_zero,  hs2])
      all_goals first | exact ⟨.refl _, .refl _⟩ | exact .refl _
    have hd2 : decide ((0 : Int) < (L.length : Int)) = false := by rw [decide_eq_false_iff_not]; omega
    have hAn : A.Nodup := (List.nodup_append.1 hM.nodup).1
    have hAlt : ∀ e ∈ A, e < l.length := fun e he => hM.lt e (List.mem_append.2 (.inl he))
    have hAL : A.length = l.length := by omega
    (refine DW.ent (Ent.rel 144 rfl) ?_; simp (disch := omega) only [go_sem, Nat.reduceLT, Nat.reduceLeDiff, Nat.reduceAdd, Nat.reduceMul, Nat.reduceEqDiff, ↓reduceIte, reduceCtorEq, Nat.reduceBEq, Nat.reduceBNe, Nat.reducePow, Int.reduceLE, Int.reduceLT, Int.reduceNeg, Int.reduceToNat, Int.reduceEq, Int.reduceAdd, Int.reduceSub, Int.reduceMul, Int.reduceBEq, Int.reduceBNe, bm_box, bm_row, bk_box, bk_row])
    repeat' (first
    | (with_reducible refine DW.seq ?_)
    | (with_reducible refine DW.block ?_)
    | (with_reducible refine DW.skip ?_)
    | (with_reducible refine DW.exit ?_)
    | (with_reducible refine DW.ret ?_)
    | (with_reducible refine DW.reg ?_)
    | (refine DW.dreg rfl (WF.of (by first | rfl | simp (disch := omega) only [go_sem, Nat.reduceLT, Nat.reduceLeDiff, Nat.reduceAdd, Nat.reduceMul, Nat.reduceEqDiff, ↓reduceIte, reduceCtorEq, Nat.reduceBEq, Nat.reduceBNe, Nat.reducePow, Int.reduceLE, Int.reduceLT, Int.reduceNeg, Int.reduceToNat, Int.reduceEq, Int.reduceAdd, Int.reduceSub, Int.reduceMul, Int.reduceBEq, Int.reduceBNe, bm_box, bm_row, bk_box, bk_row, hd2, hLl])) ?_)
    | (simp (disch := omega) only [go_sem, Nat.reduceLT, Nat.reduceLeDiff, Nat.reduceAdd, Nat.reduceMul, Nat.reduceEqDiff, ↓reduceIte, reduceCtorEq, Nat.reduceBEq, Nat.reduceBNe, Nat.reducePow, Int.reduceLE, Int.reduceLT, Int.reduceNeg, Int.reduceToNat, Int.reduceEq, Int.reduceAdd, Int.reduceSub, Int.reduceMul, Int.reduceBEq, Int.reduceBNe, bm_box, bm_row, bk_box, bk_row, hd2, hLl])
    | (exact retS_of rfl rfl rfl)
    | (refine DW.cond_tt rfl ?_)
    | (refine DW.cond_ff rfl ?_)
    | (refine DW.cond rfl ?_ ?_ <;> intro hc <;> (try simp only [go_sem] at hc))
    | (refine g_split ?_ ?_ <;> intro hc <;> (try simp only [hc]) <;> (try simp only [go_sem] at hc)))
    refine DW.loop (ι := { j : Nat // 1 ≤ j ∧ j ≤ l.length + 1 }) (fun j => ⟨222, [(28, dI j.1), (25, dIs false (nL A)), (11, dIs false (nL ms)), (8, .c (.sl false 2 (rows eK t))), (7, .c (.sl false 4 (rows eLd l))), (2, .c (.v (.int .u8 days)))], []⟩) (fun j => l.length + 1 - j.1) ⟨1, by omega, by omega⟩ ?_ ?_
    · refine Ent.to ?_ ?_ <;> simp (disch := omega) only [wkT_cons, wkX_cons, wkT_nil, wkX_nil, get, Nat.reduceEqDiff, ↓reduceIte, ex_some, wk_self, wk_top, wk_nil, wkB_self, and_self, dI, i64_in, and_true, true_and, Int.natCast_add, Int.natCast_one, Int.ofNat_zero, Int.natCast_zero]
      all_goals first | exact ⟨.refl _, .refl _⟩ | exact .refl _
    rintro ⟨j, hj1, hj2⟩
    dsimp only
    by_cases hjl : j ≤ l.length
    · have hd : decide ((j : Int) ≤ (A.length : Int)) = true := by rw [decide_eq_true_eq]; omega
      have htl2 : (A.take j).length = j := by rw [List.length_take]; omega
      have htn : (A.take j).Nodup := List.Nodup.sublist (List.take_sublist _ _) hAn
      have htlt : ∀ e ∈ A.take j, e < l.length := fun e he => hAlt e (List.mem_of_mem_take he)
      have hpj := laPicked false false l (by omega) (A.take j) htlt htn (by omega)
      have hfj := hfa (A.take j) (by omega)
      have hR := hfi (A.take j)
      generalize (fallR (pickL l (A.take j)) days t).1 = q1' at *
      generalize (fallR (pickL l (A.take j)) days t).2.1 = q2' at *
      generalize (fallR (pickL l (A.take j)) days t).2.2 = q3 at *
      by_cases hf : failN (lastI days t 0) (pickL l (A.take j)) = none
      · rw [if_pos hf] at hR
        have hle := hole2 (A.take j) htlt htn hf
        have g1 : decide ((ms.length : Int) < (j : Int)) = false := by rw [decide_eq_false_iff_not]; omega
        by_cases hjn : j = l.length
        · have g2 : ((j : Int) == (l.length : Int)) = true := by rw [hjn]; simp
          exact absurd (hofu A hAlt hAn (by rw [List.take_of_length_le (by omega)] at hf; exact hf) (by omega)) (hnofull A)
        · have g2 : ((j : Int) == (l.length : Int)) = false := by rw [beq_eq_false_iff_ne]; omega
          repeat' (first
    | (with_reducible refine DW.seq ?_)
    | (with_reducible refine DW.block ?_)
    | (with_reducible refine DW.skip ?_)
    | (with_reducible refine DW.exit ?_)
    | (with_reducible refine DW.ret ?_)
    | (with_reducible refine DW.reg ?_)
    | (refine DW.dreg rfl (WF.of (by first | rfl | simp (disch := omega) only [go_sem, Nat.reduceLT, Nat.reduceLeDiff, Nat.reduceAdd, Nat.reduceMul, Nat.reduceEqDiff, ↓reduceIte, reduceCtorEq, Nat.reduceBEq, Nat.reduceBNe, Nat.reducePow, Int.reduceLE, Int.reduceLT, Int.reduceNeg, Int.reduceToNat, Int.reduceEq, Int.reduceAdd, Int.reduceSub, Int.reduceMul, Int.reduceBEq, Int.reduceBNe, bm_box, bm_row, bk_box, bk_row, hd, nL_length, nL_take, ud5, hR, g1, g2, hmsl])) ?_)
    | (simp (disch := omega) only [go_sem, Nat.reduceLT, Nat.reduceLeDiff, Nat.reduceAdd, Nat.reduceMul, Nat.reduceEqDiff, ↓reduceIte, reduceCtorEq, Nat.reduceBEq, Nat.reduceBNe, Nat.reducePow, Int.reduceLE, Int.reduceLT, Int.reduceNeg, Int.reduceToNat, Int.reduceEq, Int.reduceAdd, Int.reduceSub, Int.reduceMul, Int.reduceBEq, Int.reduceBNe, bm_box, bm_row, bk_box, bk_row, hd, nL_length, nL_take, ud5, hR, g1, g2, hmsl])
    | (exact retS_of rfl rfl rfl)
    | (refine DW.cond_tt rfl ?_)
    | (refine call_c (hpj) (by decide) ?_)
    | (refine call_c (hsx) (by decide) ?_)
    | (refine call_c (hfj) (by decide) ?_)
    | (refine DW.cond_ff rfl ?_)
    | (refine DW.cond rfl ?_ ?_ <;> intro hc <;> (try simp only [go_sem] at hc))
    | (refine g_split ?_ ?_ <;> intro hc <;> (try simp only [hc]) <;> (try simp only [go_sem] at hc)))
          refine ⟨⟨j + 1, by omega, by omega⟩, ?_, Ent.to ?_ ?_⟩ <;> first | (show _ < _; (try simp only); omega) | (simp (disch := omega) only [wkT_cons, wkX_cons, wkT_nil, wkX_nil, get, Nat.reduceEqDiff, ↓reduceIte, ex_some, wk_self, wk_top, wk_nil, wkB_self, and_self, dI, i64_in, and_true, true_and, Int.natCast_add, Int.natCast_one, Int.ofNat_zero, Int.natCast_zero])
      · rw [if_neg hf] at hR
        repeat' (first
    | (with_reducible refine DW.seq ?_)
    | (with_reducible refine DW.block ?_)
    | (with_reducible refine DW.skip ?_)
    | (with_reducible refine DW.exit ?_)
    | (with_reducible refine DW.ret ?_)
    | (with_reducible refine DW.reg ?_)
    | (refine DW.dreg rfl (WF.of (by first | rfl | simp (disch := omega) only [go_sem, Nat.reduceLT, Nat.reduceLeDiff, Nat.reduceAdd, Nat.reduceMul, Nat.reduceEqDiff, ↓reduceIte, reduceCtorEq, Nat.reduceBEq, Nat.reduceBNe, Nat.reducePow, Int.reduceLE, Int.reduceLT, Int.reduceNeg, Int.reduceToNat, Int.reduceEq, Int.reduceAdd, Int.reduceSub, Int.reduceMul, Int.reduceBEq, Int.reduceBNe, bm_box, bm_row, bk_box, bk_row, hd, nL_length, nL_take, ud5, hR, hmsl])) ?_)
    | (simp (disch := omega) only [go_sem, Nat.reduceLT, Nat.reduceLeDiff, Nat.reduceAdd, Nat.reduceMul, Nat.reduceEqDiff, ↓reduceIte, reduceCtorEq, Nat.reduceBEq, Nat.reduceBNe, Nat.reducePow, Int.reduceLE, Int.reduceLT, Int.reduceNeg, Int.reduceToNat, Int.reduceEq, Int.reduceAdd, Int.reduceSub, Int.reduceMul, Int.reduceBEq, Int.reduceBNe, bm_box, bm_row, bk_box, bk_row, hd, nL_length, nL_take, ud5, hR, hmsl])
    | (exact retS_of rfl rfl rfl)
    | (refine DW.cond_tt rfl ?_)
    | (refine call_c (hpj) (by decide) ?_)
    | (refine call_c (hsx) (by decide) ?_)
    | (refine call_c (hfj) (by decide) ?_)
    | (refine DW.cond_ff rfl ?_)
    | (refine DW.cond rfl ?_ ?_ <;> intro hc <;> (try simp only [go_sem] at hc))
    | (refine g_split ?_ ?_ <;> intro hc <;> (try simp only [hc]) <;> (try simp only [go_sem] at hc)))
        refine ⟨⟨j + 1, by omega, by omega⟩, ?_, Ent.to ?_ ?_⟩ <;> first | (show _ < _; (try simp only); omega) | (simp (disch := omega) only [wkT_cons, wkX_cons, wkT_nil, wkX_nil, get, Nat.reduceEqDiff, ↓reduceIte, ex_some, wk_self, wk_top, wk_nil, wkB_self, and_self, dI, i64_in, and_true, true_and, Int.natCast_add, Int.natCast_one, Int.ofNat_zero, Int.natCast_zero])
    · have hd : decide ((j : Int) ≤ (A.length : Int)) = false := by rw [decide_eq_false_iff_not]; omega
      repeat' (first
    | (with_reducible refine DW.seq ?_)
    | (with_reducible refine DW.block ?_)
    | (with_reducible refine DW.skip ?_)
    | (with_reducible refine DW.exit ?_)
    | (with_reducible refine DW.ret ?_)
    | (with_reducible refine DW.reg ?_)
    | (refine DW.dreg rfl (WF.of (by first | rfl | simp (disch := omega) only [go_sem, Nat.reduceLT, Nat.reduceLeDiff, Nat.reduceAdd, Nat.reduceMul, Nat.reduceEqDiff, ↓reduceIte, reduceCtorEq, Nat.reduceBEq, Nat.reduceBNe, Nat.reducePow, Int.reduceLE, Int.reduceLT, Int.reduceNeg, Int.reduceToNat, Int.reduceEq, Int.reduceAdd, Int.reduceSub, Int.reduceMul, Int.reduceBEq, Int.reduceBNe, bm_box, bm_row, bk_box, bk_row, hd, nL_length])) ?_)
    | (simp (disch := omega) only [go_sem, Nat.reduceLT, Nat.reduceLeDiff, Nat.reduceAdd, Nat.reduceMul, Nat.reduceEqDiff, ↓reduceIte, reduceCtorEq, Nat.reduceBEq, Nat.reduceBNe, Nat.reducePow, Int.reduceLE, Int.reduceLT, Int.reduceNeg, Int.reduceToNat, Int.reduceEq, Int.reduceAdd, Int.reduceSub, Int.reduceMul, Int.reduceBEq, Int.reduceBNe, bm_box, bm_row, bk_box, bk_row, hd, nL_length])
    | (exact retS_of rfl rfl rfl)
    | (refine DW.cond_tt rfl ?_)
    | (refine call_c (hk) (by decide) ?_)
    | (refine DW.cond_ff rfl ?_)
    | (refine DW.cond rfl ?_ ?_ <;> intro hc <;> (try simp only [go_sem] at hc))
    | (refine g_split ?_ ?_ <;> intro hc <;> (try simp only [hc]) <;> (try simp only [go_sem] at hc)))
  | true =>
    rw [hst] at hmf
    have heq : ms.length = l.length := hmf.2.2 rfl
    have c2 : ((ms.length : Int) == (l.length : Int)) = true := by rw [beq_iff_eq]; omega
    have hord := crOrder l hlo (by omega) t days htb hst
    obtain ⟨oo, ho1, ho2, ho3⟩ := ord_spec l (lastI days t 0) (2 ^ l.length - 1) (2 ^ l.length - 1) (2 ^ l.length - 1) (Nat.le_refl _) (by have := pow_le10 (n := l.length) (by omega); omega) (Nat.le_refl _) hst
    rw [ho1] at hord
    have hok := stO_ok (by have := pow_le10 (n := l.length) (by omega); omega) ho2
    have hool : oo.length = l.length := by rw [hok.len, full_len (by omega)]
    have hnol := nL_length oo
    have hpo := laPicked false false l (by omega) oo (fun e he => by have := (hok.mem e).1 he; rw [full_bits (by omega)] at this; exact List.mem_range.1 this) hok.nodup (by omega)
    have hfo := hfa oo (by omega)
    have hf7 := hfi oo
    rw [hok.fail, if_pos rfl] at hf7
    rw [hf7] at hfo
    generalize (fallR (pickL l oo) days t).1 = q1 at *
    generalize (fallR (pickL l oo) days t).2.1 = q2 at *
    have c3 : ((oo.length : Int) != (l.length : Int)) = false := by rw [hool]; simp
    clear hmf
    refine DCall.of Tryd.func14 sf14 hb14 (Nat.le_of_ble_eq_true rfl) (okRes_nil fun _ => rfl) ?_; simp only [s14, idxs, Nat.reduceAdd]
    repeat' (first
    | (with_reducible refine DW.seq ?_)
    | (with_reducible refine DW.block ?_)
    | (with_reducible refine DW.skip ?_)
    | (with_reducible refine DW.exit ?_)
    | (with_reducible refine DW.ret ?_)
    | (with_reducible refine DW.reg ?_)
    | (refine DW.dreg rfl (WF.of (by first | rfl | simp (disch := omega) only [go_sem, Nat.reduceLT, Nat.reduceLeDiff, Nat.reduceAdd, Nat.reduceMul, Nat.reduceEqDiff, ↓reduceIte, reduceCtorEq, Nat.reduceBEq, Nat.reduceBNe, Nat.reducePow, Int.reduceLE, Int.reduceLT, Int.reduceNeg, Int.reduceToNat, Int.reduceEq, Int.reduceAdd, Int.reduceSub, Int.reduceMul, Int.reduceBEq, Int.reduceBNe, bm_box, bm_row, bk_box, bk_row, List.map_cons, List.map_nil, ud5, c1, c2, hmsl, hnol, c3])) ?_)
    | (simp (disch := omega) only [go_sem, Nat.reduceLT, Nat.reduceLeDiff, Nat.reduceAdd, Nat.reduceMul, Nat.reduceEqDiff, ↓reduceIte, reduceCtorEq, Nat.reduceBEq, Nat.reduceBNe, Nat.reducePow, Int.reduceLE, Int.reduceLT, Int.reduceNeg, Int.reduceToNat, Int.reduceEq, Int.reduceAdd, Int.reduceSub, Int.reduceMul, Int.reduceBEq, Int.reduceBNe, bm_box, bm_row, bk_box, bk_row, List.map_cons, List.map_nil, ud5, c1, c2, hmsl, hnol, c3])
    | (exact retS_of rfl rfl rfl)
    | (refine DW.cond_tt rfl ?_)
    | (refine call_c (hpile) (by decide) ?_)
    | (refine call_c (hbx) (by decide) ?_)
    | (refine call_c (hsx) (by decide) ?_)
    | (refine call_c (hord) (by decide) ?_)
    | (refine call_c (hmo) (by decide) ?_)
    | (refine call_c (hpm) (by decide) ?_)
    | (refine call_c (hos) (by decide) ?_)
    | (refine call_c (hpo) (by decide) ?_)
    | (refine call_c (hfo) (by decide) ?_)
    | (refine DW.cond_ff rfl ?_)
    | (refine DW.cond rfl ?_ ?_ <;> intro hc <;> (try simp only [go_sem] at hc))
    | (refine g_split ?_ ?_ <;> intro hc <;> (try simp only [hc]) <;> (try simp only [go_sem] at hc)))
    clear hpile hord hmo hpm hos c1 c2 h hpo hfo hf7 c3
    refine DW.loop (ι := { i : Nat // i ≤ l.length }) (fun i => ⟨222, [(24, dI i.1), (22, .own 132), (11, dIs false (nL ms)), (9, dIs false (nL oo)), (8, .c (.sl false 2 (rows eK t))), (7, .c (.sl false 4 (rows eLd l))), (2, .c (.v (.int .u8 days))), (1, .c (.sl false 1 (rows (e1 .u8) mix)))], [(132, .row 1 (rowC (rows eI (nL (rgL i.1)))))]⟩) (fun i => l.length - i.1) ⟨0, Nat.zero_le _⟩ ?_ ?_
    · refine Ent.to ?_ ?_ <;> simp (disch := omega) only [wkT_cons, wkX_cons, wkT_nil, wkX_nil, get, Nat.reduceEqDiff, ↓reduceIte, ex_some, wk_self, wk_top, wk_nil, wkB_self, and_self, dI, i64_in, and_true, true_and, Int.natCast_add, Int.natCast_one, Int.ofNat_zero, Int.natCast_zero, rgL, nL, List.map_nil]
      all_goals first | exact ⟨.refl _, .refl _⟩ | exact .refl _
    rintro ⟨i, hi⟩
    dsimp only
    have hrl : (nL (rgL i)).length = i := by rw [nL_length, rgL_eq, List.length_range]
    rcases Nat.lt_or_ge i l.length with hlt | hge
    · have hd : decide ((i : Int) < (l.length : Int)) = true := by rw [decide_eq_true_eq]; omega
      have hs : nL (rgL (i + 1)) = nL (rgL i) ++ [(i : Int)] := by rw [rgL, nL_snoc]
      generalize nL (rgL i) = R at *
      repeat' (first
    | (with_reducible refine DW.seq ?_)
    | (with_reducible refine DW.block ?_)
    | (with_reducible refine DW.skip ?_)
    | (with_reducible refine DW.exit ?_)
    | (with_reducible refine DW.ret ?_)
    | (with_reducible refine DW.reg ?_)
    | (refine DW.dreg rfl (WF.of (by first | rfl | simp (disch := omega) only [go_sem, Nat.reduceLT, Nat.reduceLeDiff, Nat.reduceAdd, Nat.reduceMul, Nat.reduceEqDiff, ↓reduceIte, reduceCtorEq, Nat.reduceBEq, Nat.reduceBNe, Nat.reducePow, Int.reduceLE, Int.reduceLT, Int.reduceNeg, Int.reduceToNat, Int.reduceEq, Int.reduceAdd, Int.reduceSub, Int.reduceMul, Int.reduceBEq, Int.reduceBNe, bm_box, bm_row, bk_box, bk_row, hd, List.map_cons, List.map_nil, rowC_snocI])) ?_)
    | (simp (disch := omega) only [go_sem, Nat.reduceLT, Nat.reduceLeDiff, Nat.reduceAdd, Nat.reduceMul, Nat.reduceEqDiff, ↓reduceIte, reduceCtorEq, Nat.reduceBEq, Nat.reduceBNe, Nat.reducePow, Int.reduceLE, Int.reduceLT, Int.reduceNeg, Int.reduceToNat, Int.reduceEq, Int.reduceAdd, Int.reduceSub, Int.reduceMul, Int.reduceBEq, Int.reduceBNe, bm_box, bm_row, bk_box, bk_row, hd, List.map_cons, List.map_nil, rowC_snocI])
    | (exact retS_of rfl rfl rfl)
    | (refine DW.cond_tt rfl ?_)
    | (refine DW.cond_ff rfl ?_)
    | (refine DW.cond rfl ?_ ?_ <;> intro hc <;> (try simp only [go_sem] at hc))
    | (refine g_split ?_ ?_ <;> intro hc <;> (try simp only [hc]) <;> (try simp only [go_sem] at hc)))
      refine ⟨⟨i + 1, hlt⟩, ?_, Ent.to ?_ ?_⟩ <;> first | (show _ < _; (try simp only); omega) | (simp (disch := omega) only [wkT_cons, wkX_cons, wkT_nil, wkX_nil, get, Nat.reduceEqDiff, ↓reduceIte, ex_some, wk_self, wk_top, wk_nil, wkB_self, and_self, dI, i64_in, and_true, true_and, Int.natCast_add, Int.natCast_one, Int.ofNat_zero, Int.natCast_zero,  hs])
      all_goals first | exact ⟨.refl _, .refl _⟩ | exact .refl _
    obtain rfl : i = l.length := by omega
    have hd : decide ((l.length : Int) < (l.length : Int)) = false := by rw [decide_eq_false_iff_not]; omega
    (refine DW.ent (Ent.rel 132 rfl) ?_; simp (disch := omega) only [go_sem, Nat.reduceLT, Nat.reduceLeDiff, Nat.reduceAdd, Nat.reduceMul, Nat.reduceEqDiff, ↓reduceIte, reduceCtorEq, Nat.reduceBEq, Nat.reduceBNe, Nat.reducePow, Int.reduceLE, Int.reduceLT, Int.reduceNeg, Int.reduceToNat, Int.reduceEq, Int.reduceAdd, Int.reduceSub, Int.reduceMul, Int.reduceBEq, Int.reduceBNe, bm_box, bm_row, bk_box, bk_row])
    repeat' (first
    | (with_reducible refine DW.seq ?_)
    | (with_reducible refine DW.block ?_)
    | (with_reducible refine DW.skip ?_)
    | (with_reducible refine DW.exit ?_)
    | (with_reducible refine DW.ret ?_)
    | (with_reducible refine DW.reg ?_)
    | (refine DW.dreg rfl (WF.of (by first | rfl | simp (disch := omega) only [go_sem, Nat.reduceLT, Nat.reduceLeDiff, Nat.reduceAdd, Nat.reduceMul, Nat.reduceEqDiff, ↓reduceIte, reduceCtorEq, Nat.reduceBEq, Nat.reduceBNe, Nat.reducePow, Int.reduceLE, Int.reduceLT, Int.reduceNeg, Int.reduceToNat, Int.reduceEq, Int.reduceAdd, Int.reduceSub, Int.reduceMul, Int.reduceBEq, Int.reduceBNe, bm_box, bm_row, bk_box, bk_row, hd])) ?_)
    | (simp (disch := omega) only [go_sem, Nat.reduceLT, Nat.reduceLeDiff, Nat.reduceAdd, Nat.reduceMul, Nat.reduceEqDiff, ↓reduceIte, reduceCtorEq, Nat.reduceBEq, Nat.reduceBNe, Nat.reducePow, Int.reduceLE, Int.reduceLT, Int.reduceNeg, Int.reduceToNat, Int.reduceEq, Int.reduceAdd, Int.reduceSub, Int.reduceMul, Int.reduceBEq, Int.reduceBNe, bm_box, bm_row, bk_box, bk_row, hd])
    | (exact retS_of rfl rfl rfl)
    | (refine DW.cond_tt rfl ?_)
    | (refine DW.cond_ff rfl ?_)
    | (refine DW.cond rfl ?_ ?_ <;> intro hc <;> (try simp only [go_sem] at hc))
    | (refine g_split ?_ ?_ <;> intro hc <;> (try simp only [hc]) <;> (try simp only [go_sem] at hc)))
    have hmix0 : MixOk l.length (rgL l.length) [] := ⟨by rw [List.nil_append, rgL_eq]; exact List.nodup_range, fun e he => by rw [List.nil_append, rgL_eq] at he; exact List.mem_range.1 he, by rw [rgL_eq]; simp⟩
    generalize rgL l.length = L0 at *
    refine DW.loop (ι := { y : List Nat × List Nat // MixOk l.length y.1 y.2 }) (fun y => ⟨222, [(26, dI y.1.2.length), (25, .own 144), (22, dIs false (nL y.1.1)), (11, dIs false (nL ms)), (9, dIs false (nL oo)), (8, .c (.sl false 2 (rows eK t))), (7, .c (.sl false 4 (rows eLd l))), (2, .c (.v (.int .u8 days))), (1, .c (.sl false 1 (rows (e1 .u8) mix)))], [(144, .row 1 (rowC (rows eI (nL y.1.2))))]⟩) (fun y => y.1.1.length) ⟨(L0, []), hmix0⟩ ?_ ?_
    · refine Ent.to ?_ ?_ <;> simp (disch := omega) only [wkT_cons, wkX_cons, wkT_nil, wkX_nil, get, Nat.reduceEqDiff, ↓reduceIte, ex_some, wk_self, wk_top, wk_nil, wkB_self, and_self, dI, i64_in, and_true, true_and, Int.natCast_add, Int.natCast_one, Int.ofNat_zero, Int.natCast_zero, nL, List.map_nil, List.length_nil]
      all_goals first | exact ⟨.refl _, .refl _⟩ | exact .refl _
    rintro ⟨⟨L, A⟩, hM⟩
    dsimp only at hM ⊢
    have hMl := hM.len
    have hLl := nL_length L
    have hAl := nL_length A
    by_cases h0 : 0 < L.length
    · have hd2 : decide ((0 : Int) < (L.length : Int)) = true := by rw [decide_eq_true_eq]; omega
      obtain ⟨v, hv, hby⟩ := laByte false mix hmb hml A.length (by omega)
      have hz : ((L.length : Int) = 0) = False := eq_false (by omega)
      have ht : ((v : Int)).tmod (L.length : Int) = ((v % L.length : Nat) : Int) := tmodN v L.length
      have hjl : v % L.length < L.length := Nat.mod_lt _ h0
      generalize v % L.length = j at *
      obtain ⟨w, hw⟩ := getE (l := L) (i := j) hjl
      have hx : (nL L)[j]? = some (w : Int) := by rw [nL_get, hw]; rfl
      have hM2 := hM.step hw
      have hin := laInts false (nL (L.take j)) (by rw [nL_length, List.length_take]; omega) 166
      have hs2 : ((A ++ [w]).length : Int) = (A.length : Int) + 1 := by simp
      have hs3 : nL (A ++ [w]) = nL A ++ [(w : Int)] := (nL_snoc A w).symm
      have hlen2 : (L.take j ++ L.drop (j + 1)).length < L.length := by simp only [List.length_append, List.length_take, List.length_drop]; omega
      repeat' (first
    | (with_reducible refine DW.seq ?_)
    | (with_reducible refine DW.block ?_)
    | (with_reducible refine DW.skip ?_)
    | (with_reducible refine DW.exit ?_)
    | (with_reducible refine DW.ret ?_)
    | (with_reducible refine DW.reg ?_)
    | (refine DW.dreg rfl (WF.of (by first | rfl | simp (disch := omega) only [go_sem, Nat.reduceLT, Nat.reduceLeDiff, Nat.reduceAdd, Nat.reduceMul, Nat.reduceEqDiff, ↓reduceIte, reduceCtorEq, Nat.reduceBEq, Nat.reduceBNe, Nat.reducePow, Int.reduceLE, Int.reduceLT, Int.reduceNeg, Int.reduceToNat, Int.reduceEq, Int.reduceAdd, Int.reduceSub, Int.reduceMul, Int.reduceBEq, Int.reduceBNe, bm_box, bm_row, bk_box, bk_row, hd2, hLl, hz, ht, hx, nL_take, List.map_cons, List.map_nil, rowC_snocI])) ?_)
    | (simp (disch := omega) only [go_sem, Nat.reduceLT, Nat.reduceLeDiff, Nat.reduceAdd, Nat.reduceMul, Nat.reduceEqDiff, ↓reduceIte, reduceCtorEq, Nat.reduceBEq, Nat.reduceBNe, Nat.reducePow, Int.reduceLE, Int.reduceLT, Int.reduceNeg, Int.reduceToNat, Int.reduceEq, Int.reduceAdd, Int.reduceSub, Int.reduceMul, Int.reduceBEq, Int.reduceBNe, bm_box, bm_row, bk_box, bk_row, hd2, hLl, hz, ht, hx, nL_take, List.map_cons, List.map_nil, rowC_snocI])
    | (exact retS_of rfl rfl rfl)
    | (refine DW.cond_tt rfl ?_)
    | (refine call_c (hby) (by decide) ?_)
    | (refine DW.cond_ff rfl ?_)
    | (refine DW.cond rfl ?_ ?_ <;> intro hc <;> (try simp only [go_sem] at hc))
    | (refine g_split ?_ ?_ <;> intro hc <;> (try simp only [hc]) <;> (try simp only [go_sem] at hc)))
      (refine call_r (hin) (by decide) (by first | rfl | simp (disch := omega) only [go_sem, Nat.reduceLT, Nat.reduceLeDiff, Nat.reduceAdd, Nat.reduceMul, Nat.reduceEqDiff, ↓reduceIte, reduceCtorEq, Nat.reduceBEq, Nat.reduceBNe, Nat.reducePow, Int.reduceLE, Int.reduceLT, Int.reduceNeg, Int.reduceToNat, Int.reduceEq, Int.reduceAdd, Int.reduceSub, Int.reduceMul, Int.reduceBEq, Int.reduceBNe, bm_box, bm_row, bk_box, bk_row]) (by first | rfl | simp (disch := omega) only [go_sem, Nat.reduceLT, Nat.reduceLeDiff, Nat.reduceAdd, Nat.reduceMul, Nat.reduceEqDiff, ↓reduceIte, reduceCtorEq, Nat.reduceBEq, Nat.reduceBNe, Nat.reducePow, Int.reduceLE, Int.reduceLT, Int.reduceNeg, Int.reduceToNat, Int.reduceEq, Int.reduceAdd, Int.reduceSub, Int.reduceMul, Int.reduceBEq, Int.reduceBNe, bm_box, bm_row, bk_box, bk_row]) ?_; simp (disch := omega) only [go_sem, Nat.reduceLT, Nat.reduceLeDiff, Nat.reduceAdd, Nat.reduceMul, Nat.reduceEqDiff, ↓reduceIte, reduceCtorEq, Nat.reduceBEq, Nat.reduceBNe, Nat.reducePow, Int.reduceLE, Int.reduceLT, Int.reduceNeg, Int.reduceToNat, Int.reduceEq, Int.reduceAdd, Int.reduceSub, Int.reduceMul, Int.reduceBEq, Int.reduceBNe, bm_box, bm_row, bk_box, bk_row])
      repeat' (first
    | (with_reducible refine DW.seq ?_)
    | (with_reducible refine DW.block ?_)
    | (with_reducible refine DW.skip ?_)
    | (with_reducible refine DW.exit ?_)
    | (with_reducible refine DW.ret ?_)
    | (with_reducible refine DW.reg ?_)
    | (refine DW.dreg rfl (WF.of (by first | rfl | simp (disch := omega) only [go_sem, Nat.reduceLT, Nat.reduceLeDiff, Nat.reduceAdd, Nat.reduceMul, Nat.reduceEqDiff, ↓reduceIte, reduceCtorEq, Nat.reduceBEq, Nat.reduceBNe, Nat.reducePow, Int.reduceLE, Int.reduceLT, Int.reduceNeg, Int.reduceToNat, Int.reduceEq, Int.reduceAdd, Int.reduceSub, Int.reduceMul, Int.reduceBEq, Int.reduceBNe, bm_box, bm_row, bk_box, bk_row, nL_drop, nL_take, List.take_length, rowC_app, rows_app, nL_app, List.length_take, List.length_drop])) ?_)
    | (simp (disch := omega) only [go_sem, Nat.reduceLT, Nat.reduceLeDiff, Nat.reduceAdd, Nat.reduceMul, Nat.reduceEqDiff, ↓reduceIte, reduceCtorEq, Nat.reduceBEq, Nat.reduceBNe, Nat.reducePow, Int.reduceLE, Int.reduceLT, Int.reduceNeg, Int.reduceToNat, Int.reduceEq, Int.reduceAdd, Int.reduceSub, Int.reduceMul, Int.reduceBEq, Int.reduceBNe, bm_box, bm_row, bk_box, bk_row, nL_drop, nL_take, List.take_length, rowC_app, rows_app, nL_app, List.length_take, List.length_drop])
    | (exact retS_of rfl rfl rfl)
    | (refine DW.cond_tt rfl ?_)
    | (refine DW.cond_ff rfl ?_)
    | (refine DW.cond rfl ?_ ?_ <;> intro hc <;> (try simp only [go_sem] at hc))
    | (refine g_split ?_ ?_ <;> intro hc <;> (try simp only [hc]) <;> (try simp only [go_sem] at hc)))
      refine ⟨⟨(L.take j ++ L.drop (j + 1), A ++ [w]), hM2⟩, by (show _ < _; (try simp only); omega), (Ent.rel 166 rfl).trans ?_⟩; simp (disch := omega) only [go_sem, Nat.reduceLT, Nat.reduceLeDiff, Nat.reduceAdd, Nat.reduceMul, Nat.reduceEqDiff, ↓reduceIte, reduceCtorEq, Nat.reduceBEq, Nat.reduceBNe, Nat.reducePow, Int.reduceLE, Int.reduceLT, Int.reduceNeg, Int.reduceToNat, Int.reduceEq, Int.reduceAdd, Int.reduceSub, Int.reduceMul, Int.reduceBEq, Int.reduceBNe, bm_box, bm_row, bk_box, bk_row,  hs2]; refine Ent.to ?_ ?_ <;> (simp (disch := omega) only [wkT_cons, wkX_cons, wkT_nil, wkX_nil, get, Nat.reduceEqDiff, ↓reduceIte, ex_some, wk_self, wk_top, wk_nil, wkB_self, and_self, dI, i64_in, and_true, true_and, Int.natCast_add, Int.natCast_one, Int.ofNat_zero, Int.natCast_zero,  hs2])
      all_goals first | exact ⟨.refl _, .refl _⟩ | exact .refl _
    have hd2 : decide ((0 : Int) < (L.length : Int)) = false := by rw [decide_eq_false_iff_not]; omega
    have hAn : A.Nodup := (List.nodup_append.1 hM.nodup).1
    have hAlt : ∀ e ∈ A, e < l.length := fun e he => hM.lt e (List.mem_append.2 (.inl he))
    have hAL : A.length = l.length := by omega
    (refine DW.ent (Ent.rel 144 rfl) ?_; simp (disch := omega) only [go_sem, Nat.reduceLT, Nat.reduceLeDiff, Nat.reduceAdd, Nat.reduceMul, Nat.reduceEqDiff, ↓reduceIte, reduceCtorEq, Nat.reduceBEq, Nat.reduceBNe, Nat.reducePow, Int.reduceLE, Int.reduceLT, Int.reduceNeg, Int.reduceToNat, Int.reduceEq, Int.reduceAdd, Int.reduceSub, Int.reduceMul, Int.reduceBEq, Int.reduceBNe, bm_box, bm_row, bk_box, bk_row])
    repeat' (first
    | (with_reducible refine DW.seq ?_)
    | (with_reducible refine DW.block ?_)
    | (with_reducible refine DW.skip ?_)
    | (with_reducible refine DW.exit ?_)
    | (with_reducible refine DW.ret ?_)
    | (with_reducible refine DW.reg ?_)
    | (refine DW.dreg rfl (WF.of (by first | rfl | simp (disch := omega) only [go_sem, Nat.reduceLT, Nat.reduceLeDiff, Nat.reduceAdd, Nat.reduceMul, Nat.reduceEqDiff, ↓reduceIte, reduceCtorEq, Nat.reduceBEq, Nat.reduceBNe, Nat.reducePow, Int.reduceLE, Int.reduceLT, Int.reduceNeg, Int.reduceToNat, Int.reduceEq, Int.reduceAdd, Int.reduceSub, Int.reduceMul, Int.reduceBEq, Int.reduceBNe, bm_box, bm_row, bk_box, bk_row, hd2, hLl])) ?_)
    | (simp (disch := omega) only [go_sem, Nat.reduceLT, Nat.reduceLeDiff, Nat.reduceAdd, Nat.reduceMul, Nat.reduceEqDiff, ↓reduceIte, reduceCtorEq, Nat.reduceBEq, Nat.reduceBNe, Nat.reducePow, Int.reduceLE, Int.reduceLT, Int.reduceNeg, Int.reduceToNat, Int.reduceEq, Int.reduceAdd, Int.reduceSub, Int.reduceMul, Int.reduceBEq, Int.reduceBNe, bm_box, bm_row, bk_box, bk_row, hd2, hLl])
    | (exact retS_of rfl rfl rfl)
    | (refine DW.cond_tt rfl ?_)
    | (refine DW.cond_ff rfl ?_)
    | (refine DW.cond rfl ?_ ?_ <;> intro hc <;> (try simp only [go_sem] at hc))
    | (refine g_split ?_ ?_ <;> intro hc <;> (try simp only [hc]) <;> (try simp only [go_sem] at hc)))
    refine DW.loop (ι := { j : Nat // 1 ≤ j ∧ j ≤ l.length + 1 }) (fun j => ⟨222, [(28, dI j.1), (25, dIs false (nL A)), (11, dIs false (nL ms)), (9, dIs false (nL oo)), (8, .c (.sl false 2 (rows eK t))), (7, .c (.sl false 4 (rows eLd l))), (2, .c (.v (.int .u8 days)))], []⟩) (fun j => l.length + 1 - j.1) ⟨1, by omega, by omega⟩ ?_ ?_
    · refine Ent.to ?_ ?_ <;> simp (disch := omega) only [wkT_cons, wkX_cons, wkT_nil, wkX_nil, get, Nat.reduceEqDiff, ↓reduceIte, ex_some, wk_self, wk_top, wk_nil, wkB_self, and_self, dI, i64_in, and_true, true_and, Int.natCast_add, Int.natCast_one, Int.ofNat_zero, Int.natCast_zero]
      all_goals first | exact ⟨.refl _, .refl _⟩ | exact .refl _
    rintro ⟨j, hj1, hj2⟩
    dsimp only
    by_cases hjl : j ≤ l.length
    · have hd : decide ((j : Int) ≤ (A.length : Int)) = true := by rw [decide_eq_true_eq]; omega
      have htl2 : (A.take j).length = j := by rw [List.length_take]; omega
      have htn : (A.take j).Nodup := List.Nodup.sublist (List.take_sublist _ _) hAn
      have htlt : ∀ e ∈ A.take j, e < l.length := fun e he => hAlt e (List.mem_of_mem_take he)
      have hpj := laPicked false false l (by omega) (A.take j) htlt htn (by omega)
      have hfj := hfa (A.take j) (by omega)
      have hR := hfi (A.take j)
      generalize (fallR (pickL l (A.take j)) days t).1 = q1' at *
      generalize (fallR (pickL l (A.take j)) days t).2.1 = q2' at *
      generalize (fallR (pickL l (A.take j)) days t).2.2 = q3 at *
      by_cases hf : failN (lastI days t 0) (pickL l (A.take j)) = none
      · rw [if_pos hf] at hR
        have hle := hole2 (A.take j) htlt htn hf
        have g1 : decide ((ms.length : Int) < (j : Int)) = false := by rw [decide_eq_false_iff_not]; omega
        by_cases hjn : j = l.length
        · have g2 : ((j : Int) == (l.length : Int)) = true := by rw [hjn]; simp
          have hlx := ho3 A (hofu A hAlt hAn (by rw [List.take_of_length_le (by omega)] at hf; exact hf) (by omega))
          have hsm := laSmaller false false (nL A) (nL oo) (by rw [nL_length]; omega) (by rw [nL_length]; omega)
          rw [hlx] at hsm
          repeat' (first
    | (with_reducible refine DW.seq ?_)
    | (with_reducible refine DW.block ?_)
    | (with_reducible refine DW.skip ?_)
    | (with_reducible refine DW.exit ?_)
    | (with_reducible refine DW.ret ?_)
    | (with_reducible refine DW.reg ?_)
    | (refine DW.dreg rfl (WF.of (by first | rfl | simp (disch := omega) only [go_sem, Nat.reduceLT, Nat.reduceLeDiff, Nat.reduceAdd, Nat.reduceMul, Nat.reduceEqDiff, ↓reduceIte, reduceCtorEq, Nat.reduceBEq, Nat.reduceBNe, Nat.reducePow, Int.reduceLE, Int.reduceLT, Int.reduceNeg, Int.reduceToNat, Int.reduceEq, Int.reduceAdd, Int.reduceSub, Int.reduceMul, Int.reduceBEq, Int.reduceBNe, bm_box, bm_row, bk_box, bk_row, hd, nL_length, nL_take, ud5, hR, g1, g2, hmsl])) ?_)
    | (simp (disch := omega) only [go_sem, Nat.reduceLT, Nat.reduceLeDiff, Nat.reduceAdd, Nat.reduceMul, Nat.reduceEqDiff, ↓reduceIte, reduceCtorEq, Nat.reduceBEq, Nat.reduceBNe, Nat.reducePow, Int.reduceLE, Int.reduceLT, Int.reduceNeg, Int.reduceToNat, Int.reduceEq, Int.reduceAdd, Int.reduceSub, Int.reduceMul, Int.reduceBEq, Int.reduceBNe, bm_box, bm_row, bk_box, bk_row, hd, nL_length, nL_take, ud5, hR, g1, g2, hmsl])
    | (exact retS_of rfl rfl rfl)
    | (refine DW.cond_tt rfl ?_)
    | (refine call_c (hpj) (by decide) ?_)
    | (refine call_c (hsx) (by decide) ?_)
    | (refine call_c (hfj) (by decide) ?_)
    | (refine call_c (hsm) (by decide) ?_)
    | (refine DW.cond_ff rfl ?_)
    | (refine DW.cond rfl ?_ ?_ <;> intro hc <;> (try simp only [go_sem] at hc))
    | (refine g_split ?_ ?_ <;> intro hc <;> (try simp only [hc]) <;> (try simp only [go_sem] at hc)))
          refine ⟨⟨j + 1, by omega, by omega⟩, ?_, Ent.to ?_ ?_⟩ <;> first | (show _ < _; (try simp only); omega) | (simp (disch := omega) only [wkT_cons, wkX_cons, wkT_nil, wkX_nil, get, Nat.reduceEqDiff, ↓reduceIte, ex_some, wk_self, wk_top, wk_nil, wkB_self, and_self, dI, i64_in, and_true, true_and, Int.natCast_add, Int.natCast_one, Int.ofNat_zero, Int.natCast_zero])
        · have g2 : ((j : Int) == (l.length : Int)) = false := by rw [beq_eq_false_iff_ne]; omega
          repeat' (first
    | (with_reducible refine DW.seq ?_)
    | (with_reducible refine DW.block ?_)
    | (with_reducible refine DW.skip ?_)
    | (with_reducible refine DW.exit ?_)
    | (with_reducible refine DW.ret ?_)
    | (with_reducible refine DW.reg ?_)
    | (refine DW.dreg rfl (WF.of (by first | rfl | simp (disch := omega) only [go_sem, Nat.reduceLT, Nat.reduceLeDiff, Nat.reduceAdd, Nat.reduceMul, Nat.reduceEqDiff, ↓reduceIte, reduceCtorEq, Nat.reduceBEq, Nat.reduceBNe, Nat.reducePow, Int.reduceLE, Int.reduceLT, Int.reduceNeg, Int.reduceToNat, Int.reduceEq, Int.reduceAdd, Int.reduceSub, Int.reduceMul, Int.reduceBEq, Int.reduceBNe, bm_box, bm_row, bk_box, bk_row, hd, nL_length, nL_take, ud5, hR, g1, g2, hmsl])) ?_)
    | (simp (disch := omega) only [go_sem, Nat.reduceLT, Nat.reduceLeDiff, Nat.reduceAdd, Nat.reduceMul, Nat.reduceEqDiff, ↓reduceIte, reduceCtorEq, Nat.reduceBEq, Nat.reduceBNe, Nat.reducePow, Int.reduceLE, Int.reduceLT, Int.reduceNeg, Int.reduceToNat, Int.reduceEq, Int.reduceAdd, Int.reduceSub, Int.reduceMul, Int.reduceBEq, Int.reduceBNe, bm_box, bm_row, bk_box, bk_row, hd, nL_length, nL_take, ud5, hR, g1, g2, hmsl])
    | (exact retS_of rfl rfl rfl)
    | (refine DW.cond_tt rfl ?_)
    | (refine call_c (hpj) (by decide) ?_)
    | (refine call_c (hsx) (by decide) ?_)
    | (refine call_c (hfj) (by decide) ?_)
    | (refine DW.cond_ff rfl ?_)
    | (refine DW.cond rfl ?_ ?_ <;> intro hc <;> (try simp only [go_sem] at hc))
    | (refine g_split ?_ ?_ <;> intro hc <;> (try simp only [hc]) <;> (try simp only [go_sem] at hc)))
          refine ⟨⟨j + 1, by omega, by omega⟩, ?_, Ent.to ?_ ?_⟩ <;> first | (show _ < _; (try simp only); omega) | (simp (disch := omega) only [wkT_cons, wkX_cons, wkT_nil, wkX_nil, get, Nat.reduceEqDiff, ↓reduceIte, ex_some, wk_self, wk_top, wk_nil, wkB_self, and_self, dI, i64_in, and_true, true_and, Int.natCast_add, Int.natCast_one, Int.ofNat_zero, Int.natCast_zero])
      · rw [if_neg hf] at hR
        repeat' (first
    | (with_reducible refine DW.seq ?_)
    | (with_reducible refine DW.block ?_)
    | (with_reducible refine DW.skip ?_)
    | (with_reducible refine DW.exit ?_)
    | (with_reducible refine DW.ret ?_)
    | (with_reducible refine DW.reg ?_)
    | (refine DW.dreg rfl (WF.of (by first | rfl | simp (disch := omega) only [go_sem, Nat.reduceLT, Nat.reduceLeDiff, Nat.reduceAdd, Nat.reduceMul, Nat.reduceEqDiff, ↓reduceIte, reduceCtorEq, Nat.reduceBEq, Nat.reduceBNe, Nat.reducePow, Int.reduceLE, Int.reduceLT, Int.reduceNeg, Int.reduceToNat, Int.reduceEq, Int.reduceAdd, Int.reduceSub, Int.reduceMul, Int.reduceBEq, Int.reduceBNe, bm_box, bm_row, bk_box, bk_row, hd, nL_length, nL_take, ud5, hR, hmsl])) ?_)
    | (simp (disch := omega) only [go_sem, Nat.reduceLT, Nat.reduceLeDiff, Nat.reduceAdd, Nat.reduceMul, Nat.reduceEqDiff, ↓reduceIte, reduceCtorEq, Nat.reduceBEq, Nat.reduceBNe, Nat.reducePow, Int.reduceLE, Int.reduceLT, Int.reduceNeg, Int.reduceToNat, Int.reduceEq, Int.reduceAdd, Int.reduceSub, Int.reduceMul, Int.reduceBEq, Int.reduceBNe, bm_box, bm_row, bk_box, bk_row, hd, nL_length, nL_take, ud5, hR, hmsl])
    | (exact retS_of rfl rfl rfl)
    | (refine DW.cond_tt rfl ?_)
    | (refine call_c (hpj) (by decide) ?_)
    | (refine call_c (hsx) (by decide) ?_)
    | (refine call_c (hfj) (by decide) ?_)
    | (refine DW.cond_ff rfl ?_)
    | (refine DW.cond rfl ?_ ?_ <;> intro hc <;> (try simp only [go_sem] at hc))
    | (refine g_split ?_ ?_ <;> intro hc <;> (try simp only [hc]) <;> (try simp only [go_sem] at hc)))
        refine ⟨⟨j + 1, by omega, by omega⟩, ?_, Ent.to ?_ ?_⟩ <;> first | (show _ < _; (try simp only); omega) | (simp (disch := omega) only [wkT_cons, wkX_cons, wkT_nil, wkX_nil, get, Nat.reduceEqDiff, ↓reduceIte, ex_some, wk_self, wk_top, wk_nil, wkB_self, and_self, dI, i64_in, and_true, true_and, Int.natCast_add, Int.natCast_one, Int.ofNat_zero, Int.natCast_zero])
    · have hd : decide ((j : Int) ≤ (A.length : Int)) = false := by rw [decide_eq_false_iff_not]; omega
      repeat' (first
    | (with_reducible refine DW.seq ?_)
    | (with_reducible refine DW.block ?_)
    | (with_reducible refine DW.skip ?_)
    | (with_reducible refine DW.exit ?_)
    | (with_reducible refine DW.ret ?_)
    | (with_reducible refine DW.reg ?_)
    | (refine DW.dreg rfl (WF.of (by first | rfl | simp (disch := omega) only [go_sem, Nat.reduceLT, Nat.reduceLeDiff, Nat.reduceAdd, Nat.reduceMul, Nat.reduceEqDiff, ↓reduceIte, reduceCtorEq, Nat.reduceBEq, Nat.reduceBNe, Nat.reducePow, Int.reduceLE, Int.reduceLT, Int.reduceNeg, Int.reduceToNat, Int.reduceEq, Int.reduceAdd, Int.reduceSub, Int.reduceMul, Int.reduceBEq, Int.reduceBNe, bm_box, bm_row, bk_box, bk_row, hd, nL_length])) ?_)
    | (simp (disch := omega) only [go_sem, Nat.reduceLT, Nat.reduceLeDiff, Nat.reduceAdd, Nat.reduceMul, Nat.reduceEqDiff, ↓reduceIte, reduceCtorEq, Nat.reduceBEq, Nat.reduceBNe, Nat.reducePow, Int.reduceLE, Int.reduceLT, Int.reduceNeg, Int.reduceToNat, Int.reduceEq, Int.reduceAdd, Int.reduceSub, Int.reduceMul, Int.reduceBEq, Int.reduceBNe, bm_box, bm_row, bk_box, bk_row, hd, nL_length])
    | (exact retS_of rfl rfl rfl)
    | (refine DW.cond_tt rfl ?_)
    | (refine call_c (hk) (by decide) ?_)
    | (refine DW.cond_ff rfl ?_)
    | (refine DW.cond rfl ?_ ?_ <;> intro hc <;> (try simp only [go_sem] at hc))
    | (refine g_split ?_ ?_ <;> intro hc <;> (try simp only [hc]) <;> (try simp only [go_sem] at hc)))
end Go.Dw.Seat
end
section
set_option linter.unusedSimpArgs false
set_option maxRecDepth 100000
namespace Go.Dw.Seat
open Go Go.Dw Go.Proofs Go.ChangeShapes Go.WideShapes Go.ChangeAt Go.RowKit
set_option maxHeartbeats 800000 in
theorem crushStackedLifted (os : Os) (started : os.Started) (H : Type) (enc : TypeId × Value → H) :
    ReturnsInHanded {} Tryd.checked os 14 .any (fun w args => (YtmkkedldhafjfaaDoor.Rows.crushStackedSpec.pre enc Tryd.prog Tryd.f14 [] false w args ∧ laidMetH Tryd.prog laid2 w) ∧ sizedMet enc Tryd.prog Tryd.f14 (OpenSpec.ofChange YtmkkedldhafjfaaDoor.Rows.crushStackedSpec) false w args) (YtmkkedldhafjfaaDoor.Rows.crushStackedSpec.post enc Tryd.prog Tryd.f14 false true false false) := by
  refine returnsInHanded_of_change_and (C := Tryd.checked) (X := fun w _ => laidMetH Tryd.prog laid2 w) (fun _ _ _ hh h => h.of_heap hh) tOwn started (by kernel_rfl) Tryd.func14
    (ChangeSpec.witness_shaped (enc := enc) (C := Tryd.checked) (os := os) (X := fun w _ => laidMetH Tryd.prog laid2 w) false (World.doorLaid Tryd.prog 400 os) #[.agg #[.slice none 0 0, .slice none 0 0], .slice none 0 0, .int .u8 0] 8 rfl (World.shaped_of_RefB (by kernel_rfl) (by kernel_rfl)) (by kernel_rfl) (by kernel_rfl) (by kernel_rfl) (door_met os _)) ?_
  intro W base args ds gs before hval0 hW _ _ hL _
  have hval : ∀ (j : Nat) t v, Tryd.f14.params[j]? = some t → args[j]? = some v → Value.okWide Tryd.prog W .any base t v := hval0
  have hW' : DataW.Whole enc Tryd.prog Tryd.f14.params.toList [] false W args.toList ds gs before := hW
  obtain ⟨p, q, hA, hV, rfl, hfz, hnd⟩ := hW
  have hA : DataW.TrodAll enc Tryd.prog W 0 (fun _ => true) true [105, 93, 5] args.toList ds p := hA
  obtain ⟨rfl, rfl⟩ := trodVars_none hV
  obtain ⟨v0, vs0, d0, ds0, p0, q0, hargs, rfl, rfl, h0, r0⟩ := trodAll_cons hA
  obtain ⟨v1, vs1, d1, ds1, p1, q1, rfl, rfl, rfl, h1, r1⟩ := trodAll_cons r0
  obtain ⟨v2, vs2, d2, ds2, p2, q2, rfl, rfl, rfl, h2, r2⟩ := trodAll_cons r1
  obtain ⟨rfl, rfl, rfl⟩ := trodAll_nil r2
  obtain rfl : args = #[v0, v1, v2] := by cases args; simp_all
  obtain ⟨f0, hu0, _⟩ := structIs_spec u105
  obtain ⟨c0, rfl, _⟩ := okWide_struct hu0 (hval 0 105 v0 rfl rfl)
  obtain ⟨a1, l1, k1, rfl⟩ := okWide_slice u93 (hval 1 93 v1 rfl rfl)
  obtain ⟨n2, rfl⟩ := okWide_int und5 (hval 2 5 v2 rfl rfl)
  obtain ⟨fu0, h0⟩ := h0
  obtain ⟨fu1, h1⟩ := h1
  obtain ⟨fu2, h2⟩ := h2
  obtain ⟨s0, ho0, hr0⟩ := rd_PileB h0
  have hr0 : RepVs W A0 (cPileB false s0) c0.toList := by simpa [Value.cells] using hr0
  obtain ⟨s1, sv1, e1, hs1, hl1, ho1⟩ := rd_Us h1
  have e1 : sv1 = Value.slice a1 l1 k1 := by simpa [Value.cells] using e1.symm
  subst e1
  obtain ⟨s2, e2, ho2⟩ := rd_U8 h2
  have e2 : n2 = s2 := by simpa [Value.cells] using e2
  subst e2
  refine ((laStacked s0 ho0 s1 hl1 ho1 s2 ho2).calls (W := W) (vs := [.agg c0, .slice a1 l1 k1, .int .u8 s2]) (laid_of hL) (fun G => ?_)).mono ?_
  · exact ⟨_, _, rfl, ⟨c0, rfl, RepDs.ofVs hr0⟩, _, _, rfl, hs1, _, _, rfl, ⟨rfl, rfl⟩, rfl⟩
  · rintro e W' ⟨v, rfl, ⟨G', A', hr⟩, hb⟩
    obtain ⟨rfl, _⟩ := hr
    exact ⟨_, rfl, post_true tLaid (by decide +kernel) hW' hb rfl rfl u4 rfl rfl rfl⟩
theorem crushStackedHolds : YtmkkedldhafjfaaDoor.Rows.crushStackedRow.holds YtmkkedldhafjfaaDoor.Tryd.pinned (OpenSpec.ofChange YtmkkedldhafjfaaDoor.Rows.crushStackedSpec) :=
  OpenClaim.holds_of_wide 14 Tryd.f14 rfl rfl rfl rfl rfl rfl rfl ⟨rfl, rfl, rfl, rfl, rfl⟩ rfl rfl rfl rfl rfl (by kernel_rfl) Tryd.func14 (by kernel_rfl)
    (of_decide_eq_true (by kernel_rfl)) (by unfold Func.isWrapper; first | (rw [if_pos (by decide +kernel)]; kernel_rfl) | (rw [if_neg (by decide +kernel)]; exact ⟨rfl, rfl⟩))
    (fun os started H enc _ => crushStackedLifted os started H enc)
theorem crushStackedCard : Claim7.holds YtmkkedldhafjfaaDoor.Tryd.pinned (.plain (OpenSpec.ofChange YtmkkedldhafjfaaDoor.Rows.crushStackedSpec)) YtmkkedldhafjfaaDoor.Rows.crushStackedCard :=
  Claim7.holds_tied_plain_at .later [] [.data, .data] true YtmkkedldhafjfaaDoor.Rows.crushStackedCard.stood.harness false
    crushStackedHolds (fun _ h => by cases h) (by kernel_rfl) (fun _ h => by cases h) YtmkkedldhafjfaaDoor.crushStacked_row_tie rfl ⟨rfl, rfl⟩ (by kernel_rfl) rfl
    (fun f fn hf hfn => by
      obtain rfl : f = 14 := Option.some.inj ((show Tryd.prog.funcNamed YtmkkedldhafjfaaDoor.Rows.crushStackedRow.func = some 14 by kernel_rfl).symm.trans hf) |>.symm
      obtain rfl : fn = Tryd.f14 := (Option.some.inj (Tryd.func14.symm.trans hfn)).symm
      refine ⟨by kernel_rfl, fun j t ht => ?_⟩
      have hm : t ∈ Tryd.f14.params.toList := by simpa using Array.mem_of_getElem? ht
      have hall : (Tryd.f14.params.toList.all fun u => !Tryd.prog.wantsStandIn u) = true := by kernel_rfl
      exact (show Tryd.prog.wantsStandIn t = false by simpa using List.all_eq_true.1 hall t hm))
    (by kernel_rfl)
end Go.Dw.Seat
namespace Go.Proofs.YtmkkedldhafjfaaDoor
theorem crushStackedCardSaid : Rows.CrushStackedCardSaid := Go.Dw.Seat.crushStackedCard
end Go.Proofs.YtmkkedldhafjfaaDoor
end
