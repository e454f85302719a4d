/- The law TopPressTests returns true for every rule, every room and all tests in bytes, and changes nothing that was there before: the full statement TopPressTestsSaid, without conditions.
   The walk of each function is in the texts before; that a lot whose tests must all be long enough says which boxes open is a plain law. -/
import Derived.Test.YtmbgogijhpommaaA01
import Derived.Test.YtmbgogijhpommaaRows
import Derived.ProofKit
import Derived.OpenShut
set_option linter.unusedVariables false
set_option linter.unusedSimpArgs false
section
set_option linter.unusedSimpArgs false
set_option maxRecDepth 100000
namespace Go.Dw.Seat
open Go Go.Dw Go.Proofs Go.IntWalk
def lookOkI (x : Plan) (l : Look) : Bool := wthn 0 1000 [l.box] && wthn 0 ((x.noz.length : Int) - 1) [l.noz] && wthn 0 (x.steps - 1) [l.step]
theorem c114 (p b : Bool) (x : Plan) (l : Look) (hp : x.noz.length ≤ 2 ^ 36) (hst : 1 ≤ x.steps ∧ x.steps ≤ 16) : DCall Try.prog 162 [.agg ((eL l).map D.c), .c (.ro p [.v (.int .i64 x.steps), .sl b 1 (rows eI x.noz)] 0)] [] (bD (!lookOkI x l)) [] := by
  cases h1 : wthn 0 1000 [l.box] with
  | false =>
    have hr : (!lookOkI x l) = true := by simp [lookOkI, h1]
    rw [hr]
    refine DCall.of Try.func162 sf162 hb162 (Nat.le_of_ble_eq_true rfl) (okRes_nil fun _ => rfl) ?_; simp only [s162, idxs, Nat.reduceAdd]
    repeat' (first
    | (with_reducible refine DW.seq ?_)
    | (with_reducible refine DW.block ?_)
    | (with_reducible refine DW.skip ?_)
    | (with_reducible refine DW.exit ?_)
    | (with_reducible refine DW.ret ?_)
    | (with_reducible refine DW.reg ?_)
    | (simp (disch := omega) only [go_sem, Nat.reduceLT, Nat.reduceLeDiff, Nat.reduceAdd, Nat.reduceMul, Nat.reduceEqDiff, ↓reduceIte, reduceCtorEq, Nat.reduceBEq, Nat.reduceBNe, Nat.reducePow, Int.reduceLE, Int.reduceLT, Int.reduceNeg, Int.reduceToNat, Int.reduceEq, Int.reduceAdd, Int.reduceSub, Int.reduceMul, Int.reduceBEq, Int.reduceBNe, Blk.men, Blk.keysIn, h1])
    | (exact retS_of rfl rfl rfl)
    | (refine DW.cond_tt rfl ?_)
    | (refine call_c (c93 true [l.box] (by simp)) (by decide) ?_)
    | (refine DW.cond_ff rfl ?_)
    | (refine DW.cond rfl ?_ ?_ <;> intro hc <;> (try simp only [go_sem] at hc))
    | (refine g_split ?_ ?_ <;> intro hc <;> (try simp only [hc]) <;> (try simp only [go_sem] at hc)))
  | true =>
    cases h2 : wthn 0 ((x.noz.length : Int) - 1) [l.noz] with
    | false =>
      have hr : (!lookOkI x l) = true := by simp [lookOkI, h1, h2]
      rw [hr]
      refine DCall.of Try.func162 sf162 hb162 (Nat.le_of_ble_eq_true rfl) (okRes_nil fun _ => rfl) ?_; simp only [s162, idxs, Nat.reduceAdd]
      repeat' (first
    | (with_reducible refine DW.seq ?_)
    | (with_reducible refine DW.block ?_)
    | (with_reducible refine DW.skip ?_)
    | (with_reducible refine DW.exit ?_)
    | (with_reducible refine DW.ret ?_)
    | (with_reducible refine DW.reg ?_)
    | (simp (disch := omega) only [go_sem, Nat.reduceLT, Nat.reduceLeDiff, Nat.reduceAdd, Nat.reduceMul, Nat.reduceEqDiff, ↓reduceIte, reduceCtorEq, Nat.reduceBEq, Nat.reduceBNe, Nat.reducePow, Int.reduceLE, Int.reduceLT, Int.reduceNeg, Int.reduceToNat, Int.reduceEq, Int.reduceAdd, Int.reduceSub, Int.reduceMul, Int.reduceBEq, Int.reduceBNe, Blk.men, Blk.keysIn, h1, h2])
    | (exact retS_of rfl rfl rfl)
    | (refine DW.cond_tt rfl ?_)
    | (refine call_c (c93 true [l.box] (by simp)) (by decide) ?_)
    | (refine call_c (c115 b x l.noz hp) (by decide) ?_)
    | (refine DW.cond_ff rfl ?_)
    | (refine DW.cond rfl ?_ ?_ <;> intro hc <;> (try simp only [go_sem] at hc))
    | (refine g_split ?_ ?_ <;> intro hc <;> (try simp only [hc]) <;> (try simp only [go_sem] at hc)))
    | true =>
      have hr : (!lookOkI x l) = !wthn 0 (x.steps - 1) [l.step] := by simp [lookOkI, h1, h2]
      rw [hr]
      refine DCall.of Try.func162 sf162 hb162 (Nat.le_of_ble_eq_true rfl) (okRes_nil fun _ => rfl) ?_; simp only [s162, idxs, Nat.reduceAdd]
      repeat' (first
    | (with_reducible refine DW.seq ?_)
    | (with_reducible refine DW.block ?_)
    | (with_reducible refine DW.skip ?_)
    | (with_reducible refine DW.exit ?_)
    | (with_reducible refine DW.ret ?_)
    | (with_reducible refine DW.reg ?_)
    | (simp (disch := omega) only [go_sem, Nat.reduceLT, Nat.reduceLeDiff, Nat.reduceAdd, Nat.reduceMul, Nat.reduceEqDiff, ↓reduceIte, reduceCtorEq, Nat.reduceBEq, Nat.reduceBNe, Nat.reducePow, Int.reduceLE, Int.reduceLT, Int.reduceNeg, Int.reduceToNat, Int.reduceEq, Int.reduceAdd, Int.reduceSub, Int.reduceMul, Int.reduceBEq, Int.reduceBNe, Blk.men, Blk.keysIn, h1, h2])
    | (exact retS_of rfl rfl rfl)
    | (refine DW.cond_tt rfl ?_)
    | (refine call_c (c93 true [l.box] (by simp)) (by decide) ?_)
    | (refine call_c (c115 b x l.noz hp) (by decide) ?_)
    | (refine call_c (c88 true 0 (x.steps - 1) [l.step] (by simp)) (by decide) ?_)
    | (refine DW.cond_ff rfl ?_)
    | (refine DW.cond rfl ?_ ?_ <;> intro hc <;> (try simp only [go_sem] at hc))
    | (refine g_split ?_ ?_ <;> intro hc <;> (try simp only [hc]) <;> (try simp only [go_sem] at hc)))
def fromsOk (froms : List Int) : Bool := srt froms && decide ((cpt froms).length = froms.length)
def lkErr (x : Plan) (froms : List Int) (looks : List Look) : Int :=
  if 5 < froms.length ∨ 40 < looks.length then 5 else if wthn 0 1000 froms = false ∨ fromsOk froms = false then 4 else if looks.any (fun l => !lookOkI x l) then 6 else 0
theorem c94 (b b1 b2 : Bool) (x : Plan) (froms : List Int) (looks : List Look) (hp : x.noz.length ≤ 2 ^ 36) (hst : 1 ≤ x.steps ∧ x.steps ≤ 16) (hf : froms.length ≤ 2 ^ 36) (hl : looks.length ≤ 2 ^ 36) :
    DCall Try.prog 141 [dP b x, dIs b1 froms, dLs b2 looks] [] (dI (lkErr x froms looks)) [] := by
  refine DCall.of Try.func141 sf141 hb141 (Nat.le_of_ble_eq_true rfl) (okRes_nil fun _ => rfl) ?_; simp only [s141, idxs, Nat.reduceAdd]
  refine DW.seq (DW.reg ?_); simp (disch := omega) only [go_sem, Nat.reduceLT, Nat.reduceLeDiff, Nat.reduceAdd, Nat.reduceMul, Nat.reduceEqDiff, ↓reduceIte, reduceCtorEq, Nat.reduceBEq, Nat.reduceBNe, Nat.reducePow, Int.reduceLE, Int.reduceLT, Int.reduceNeg, Int.reduceToNat, Int.reduceEq, Int.reduceAdd, Int.reduceSub, Int.reduceMul, Int.reduceBEq, Int.reduceBNe, Blk.men, Blk.keysIn]
  refine DW.seq (DW.reg ?_); simp (disch := omega) only [go_sem, Nat.reduceLT, Nat.reduceLeDiff, Nat.reduceAdd, Nat.reduceMul, Nat.reduceEqDiff, ↓reduceIte, reduceCtorEq, Nat.reduceBEq, Nat.reduceBNe, Nat.reducePow, Int.reduceLE, Int.reduceLT, Int.reduceNeg, Int.reduceToNat, Int.reduceEq, Int.reduceAdd, Int.reduceSub, Int.reduceMul, Int.reduceBEq, Int.reduceBNe, Blk.men, Blk.keysIn]
  refine DW.cut ⟨38, [(8, bD (fromsOk froms)), (7, .fn (.func 162) [] [.box 3 0]), (1, dIs b1 froms), (2, dLs b2 looks)], [(3, .box [dI x.steps, .c (.sl b 1 (rows eI x.noz))])]⟩ ?_ ?_
  · cases hs : srt froms with
    | false =>
      have hr : fromsOk froms = false := by simp [fromsOk, hs]
      rw [hr]
      repeat' (first
    | (with_reducible refine DW.seq ?_)
    | (with_reducible refine DW.block ?_)
    | (with_reducible refine DW.skip ?_)
    | (with_reducible refine DW.exit ?_)
    | (with_reducible refine DW.ret ?_)
    | (with_reducible refine DW.reg ?_)
    | (simp (disch := omega) only [go_sem, Nat.reduceLT, Nat.reduceLeDiff, Nat.reduceAdd, Nat.reduceMul, Nat.reduceEqDiff, ↓reduceIte, reduceCtorEq, Nat.reduceBEq, Nat.reduceBNe, Nat.reducePow, Int.reduceLE, Int.reduceLT, Int.reduceNeg, Int.reduceToNat, Int.reduceEq, Int.reduceAdd, Int.reduceSub, Int.reduceMul, Int.reduceBEq, Int.reduceBNe, Blk.men, Blk.keysIn, hs])
    | (exact retS_of rfl rfl rfl)
    | (refine DW.cond_tt rfl ?_)
    | (refine call_c (c116 b1 froms hf) (by decide) ?_)
    | (refine DW.cond_ff rfl ?_)
    | (refine DW.cond rfl ?_ ?_ <;> intro hc <;> (try simp only [go_sem] at hc))
    | (refine g_split ?_ ?_ <;> intro hc <;> (try simp only [hc]) <;> (try simp only [go_sem] at hc)))
      refine Ent.to ?_ ?_ <;> simp (disch := omega) only [wkT_cons, wkX_cons, wkT_nil, wkX_nil, get, Nat.reduceEqDiff, ↓reduceIte, ex_some, wk_self, wk_top, wk_nil, wkB_self, and_self, dI, i64_in, and_true, true_and, Int.natCast_add, Int.natCast_one, Int.ofNat_zero, Int.natCast_zero]
    | true =>
      have hr : fromsOk froms = decide ((cpt froms).length = froms.length) := by simp [fromsOk, hs]
      rw [hr]
      have hc117 := ((c117 froms hf).rekey (fun _ => rfl) 14).rename 15
      have hb : (((cpt froms).length : Int) == (froms.length : Int)) = decide ((cpt froms).length = froms.length) := by rw [Bool.eq_iff_iff, beq_iff_eq, decide_eq_true_eq]; omega
      repeat' (first
    | (with_reducible refine DW.seq ?_)
    | (with_reducible refine DW.block ?_)
    | (with_reducible refine DW.skip ?_)
    | (with_reducible refine DW.exit ?_)
    | (with_reducible refine DW.ret ?_)
    | (with_reducible refine DW.reg ?_)
    | (simp (disch := omega) only [go_sem, Nat.reduceLT, Nat.reduceLeDiff, Nat.reduceAdd, Nat.reduceMul, Nat.reduceEqDiff, ↓reduceIte, reduceCtorEq, Nat.reduceBEq, Nat.reduceBNe, Nat.reducePow, Int.reduceLE, Int.reduceLT, Int.reduceNeg, Int.reduceToNat, Int.reduceEq, Int.reduceAdd, Int.reduceSub, Int.reduceMul, Int.reduceBEq, Int.reduceBNe, Blk.men, Blk.keysIn, hs])
    | (exact retS_of rfl rfl rfl)
    | (refine DW.cond_tt rfl ?_)
    | (refine call_c (c116 b1 froms hf) (by decide) ?_)
    | (refine DW.cond_ff rfl ?_)
    | (refine DW.cond rfl ?_ ?_ <;> intro hc <;> (try simp only [go_sem] at hc))
    | (refine g_split ?_ ?_ <;> intro hc <;> (try simp only [hc]) <;> (try simp only [go_sem] at hc)))
      (refine call_r (c106 b1 froms hf 14) (by decide) (by first | rfl | simp (disch := omega) only [go_sem, Nat.reduceLT, Nat.reduceLeDiff, Nat.reduceAdd, Nat.reduceMul, Nat.reduceEqDiff, ↓reduceIte, reduceCtorEq, Nat.reduceBEq, Nat.reduceBNe, Nat.reducePow, Int.reduceLE, Int.reduceLT, Int.reduceNeg, Int.reduceToNat, Int.reduceEq, Int.reduceAdd, Int.reduceSub, Int.reduceMul, Int.reduceBEq, Int.reduceBNe, Blk.men, Blk.keysIn]) (by first | rfl | simp (disch := omega) only [go_sem, Nat.reduceLT, Nat.reduceLeDiff, Nat.reduceAdd, Nat.reduceMul, Nat.reduceEqDiff, ↓reduceIte, reduceCtorEq, Nat.reduceBEq, Nat.reduceBNe, Nat.reducePow, Int.reduceLE, Int.reduceLT, Int.reduceNeg, Int.reduceToNat, Int.reduceEq, Int.reduceAdd, Int.reduceSub, Int.reduceMul, Int.reduceBEq, Int.reduceBNe, Blk.men, Blk.keysIn]) ?_; simp (disch := omega) only [go_sem, Nat.reduceLT, Nat.reduceLeDiff, Nat.reduceAdd, Nat.reduceMul, Nat.reduceEqDiff, ↓reduceIte, reduceCtorEq, Nat.reduceBEq, Nat.reduceBNe, Nat.reducePow, Int.reduceLE, Int.reduceLT, Int.reduceNeg, Int.reduceToNat, Int.reduceEq, Int.reduceAdd, Int.reduceSub, Int.reduceMul, Int.reduceBEq, Int.reduceBNe, Blk.men, Blk.keysIn])
      refine call_m 14 hc117 rfl rfl rfl (by decide) rfl (by rfl) ?_
      simp (disch := omega) only [go_sem, Nat.reduceLT, Nat.reduceLeDiff, Nat.reduceAdd, Nat.reduceMul, Nat.reduceEqDiff, ↓reduceIte, reduceCtorEq, Nat.reduceBEq, Nat.reduceBNe, Nat.reducePow, Int.reduceLE, Int.reduceLT, Int.reduceNeg, Int.reduceToNat, Int.reduceEq, Int.reduceAdd, Int.reduceSub, Int.reduceMul, Int.reduceBEq, Int.reduceBNe, Blk.men, Blk.keysIn, hb]
      refine Ent.to ?_ ?_ <;> simp (disch := omega) only [wkT_cons, wkX_cons, wkT_nil, wkX_nil, get, Nat.reduceEqDiff, ↓reduceIte, ex_some, wk_self, wk_top, wk_nil, wkB_self, and_self, dI, i64_in, and_true, true_and, Int.natCast_add, Int.natCast_one, Int.ofNat_zero, Int.natCast_zero]
  · have d1 : decide (5 < (froms.length : Int)) = decide (5 < froms.length) := by rw [Bool.eq_iff_iff, decide_eq_true_eq, decide_eq_true_eq]; omega
    have d2 : decide (40 < (looks.length : Int)) = decide (40 < looks.length) := by rw [Bool.eq_iff_iff, decide_eq_true_eq, decide_eq_true_eq]; omega
    cases e1 : decide (5 < froms.length) with
    | true =>
      have hr : lkErr x froms looks = 5 := by simp only [decide_eq_true_eq] at e1; simp [lkErr, e1]
      rw [hr]
      repeat' (first
    | (with_reducible refine DW.seq ?_)
    | (with_reducible refine DW.block ?_)
    | (with_reducible refine DW.skip ?_)
    | (with_reducible refine DW.exit ?_)
    | (with_reducible refine DW.ret ?_)
    | (with_reducible refine DW.reg ?_)
    | (simp (disch := omega) only [go_sem, Nat.reduceLT, Nat.reduceLeDiff, Nat.reduceAdd, Nat.reduceMul, Nat.reduceEqDiff, ↓reduceIte, reduceCtorEq, Nat.reduceBEq, Nat.reduceBNe, Nat.reducePow, Int.reduceLE, Int.reduceLT, Int.reduceNeg, Int.reduceToNat, Int.reduceEq, Int.reduceAdd, Int.reduceSub, Int.reduceMul, Int.reduceBEq, Int.reduceBNe, Blk.men, Blk.keysIn, d1, e1])
    | (exact retS_of rfl rfl rfl)
    | (refine DW.cond_tt rfl ?_)
    | (refine DW.cond_ff rfl ?_)
    | (refine DW.cond rfl ?_ ?_ <;> intro hc <;> (try simp only [go_sem] at hc))
    | (refine g_split ?_ ?_ <;> intro hc <;> (try simp only [hc]) <;> (try simp only [go_sem] at hc)))
    | false =>
    cases e2 : decide (40 < looks.length) with
    | true =>
      have hr : lkErr x froms looks = 5 := by simp only [decide_eq_true_eq] at e2; simp [lkErr, e2]
      rw [hr]
      repeat' (first
    | (with_reducible refine DW.seq ?_)
    | (with_reducible refine DW.block ?_)
    | (with_reducible refine DW.skip ?_)
    | (with_reducible refine DW.exit ?_)
    | (with_reducible refine DW.ret ?_)
    | (with_reducible refine DW.reg ?_)
    | (simp (disch := omega) only [go_sem, Nat.reduceLT, Nat.reduceLeDiff, Nat.reduceAdd, Nat.reduceMul, Nat.reduceEqDiff, ↓reduceIte, reduceCtorEq, Nat.reduceBEq, Nat.reduceBNe, Nat.reducePow, Int.reduceLE, Int.reduceLT, Int.reduceNeg, Int.reduceToNat, Int.reduceEq, Int.reduceAdd, Int.reduceSub, Int.reduceMul, Int.reduceBEq, Int.reduceBNe, Blk.men, Blk.keysIn, d1, e1, d2, e2])
    | (exact retS_of rfl rfl rfl)
    | (refine DW.cond_tt rfl ?_)
    | (refine DW.cond_ff rfl ?_)
    | (refine DW.cond rfl ?_ ?_ <;> intro hc <;> (try simp only [go_sem] at hc))
    | (refine g_split ?_ ?_ <;> intro hc <;> (try simp only [hc]) <;> (try simp only [go_sem] at hc)))
    | false =>
    have hn : ¬ (5 < froms.length ∨ 40 < looks.length) := by simp at e1 e2; omega
    cases e3 : wthn 0 1000 froms with
    | false =>
      have hr : lkErr x froms looks = 4 := by simp only [lkErr, hn, if_false, e3, true_or, if_true]
      rw [hr]
      repeat' (first
    | (with_reducible refine DW.seq ?_)
    | (with_reducible refine DW.block ?_)
    | (with_reducible refine DW.skip ?_)
    | (with_reducible refine DW.exit ?_)
    | (with_reducible refine DW.ret ?_)
    | (with_reducible refine DW.reg ?_)
    | (simp (disch := omega) only [go_sem, Nat.reduceLT, Nat.reduceLeDiff, Nat.reduceAdd, Nat.reduceMul, Nat.reduceEqDiff, ↓reduceIte, reduceCtorEq, Nat.reduceBEq, Nat.reduceBNe, Nat.reducePow, Int.reduceLE, Int.reduceLT, Int.reduceNeg, Int.reduceToNat, Int.reduceEq, Int.reduceAdd, Int.reduceSub, Int.reduceMul, Int.reduceBEq, Int.reduceBNe, Blk.men, Blk.keysIn, d1, e1, d2, e2, e3])
    | (exact retS_of rfl rfl rfl)
    | (refine DW.cond_tt rfl ?_)
    | (refine call_c (c93 b1 froms hf) (by decide) ?_)
    | (refine DW.cond_ff rfl ?_)
    | (refine DW.cond rfl ?_ ?_ <;> intro hc <;> (try simp only [go_sem] at hc))
    | (refine g_split ?_ ?_ <;> intro hc <;> (try simp only [hc]) <;> (try simp only [go_sem] at hc)))
    | true =>
    cases e4 : fromsOk froms with
    | false =>
      have hr : lkErr x froms looks = 4 := by simp only [lkErr, hn, if_false, e4, or_true, if_true]
      rw [hr]
      repeat' (first
    | (with_reducible refine DW.seq ?_)
    | (with_reducible refine DW.block ?_)
    | (with_reducible refine DW.skip ?_)
    | (with_reducible refine DW.exit ?_)
    | (with_reducible refine DW.ret ?_)
    | (with_reducible refine DW.reg ?_)
    | (simp (disch := omega) only [go_sem, Nat.reduceLT, Nat.reduceLeDiff, Nat.reduceAdd, Nat.reduceMul, Nat.reduceEqDiff, ↓reduceIte, reduceCtorEq, Nat.reduceBEq, Nat.reduceBNe, Nat.reducePow, Int.reduceLE, Int.reduceLT, Int.reduceNeg, Int.reduceToNat, Int.reduceEq, Int.reduceAdd, Int.reduceSub, Int.reduceMul, Int.reduceBEq, Int.reduceBNe, Blk.men, Blk.keysIn, d1, e1, d2, e2, e3, e4])
    | (exact retS_of rfl rfl rfl)
    | (refine DW.cond_tt rfl ?_)
    | (refine call_c (c93 b1 froms hf) (by decide) ?_)
    | (refine DW.cond_ff rfl ?_)
    | (refine DW.cond rfl ?_ ?_ <;> intro hc <;> (try simp only [go_sem] at hc))
    | (refine g_split ?_ ?_ <;> intro hc <;> (try simp only [hc]) <;> (try simp only [go_sem] at hc)))
    | true =>
    have hn2 : ¬ (wthn 0 1000 froms = false ∨ fromsOk froms = false) := by simp [e3, e4]
    have h98 := c98 b2 looks hl 162 [] [.ro true [.v (.int .i64 x.steps), .sl b 1 (rows eI x.noz)] 0] (fun l => !lookOkI x l) (fun l _ => c114 true b x l hp hst)
    cases e5 : looks.any (fun l => !lookOkI x l) with
    | true =>
      have hr : lkErr x froms looks = 6 := by simp only [lkErr, hn, hn2, if_false, e5, if_true]
      rw [hr]
      repeat' (first
    | (with_reducible refine DW.seq ?_)
    | (with_reducible refine DW.block ?_)
    | (with_reducible refine DW.skip ?_)
    | (with_reducible refine DW.exit ?_)
    | (with_reducible refine DW.ret ?_)
    | (with_reducible refine DW.reg ?_)
    | (simp (disch := omega) only [go_sem, Nat.reduceLT, Nat.reduceLeDiff, Nat.reduceAdd, Nat.reduceMul, Nat.reduceEqDiff, ↓reduceIte, reduceCtorEq, Nat.reduceBEq, Nat.reduceBNe, Nat.reducePow, Int.reduceLE, Int.reduceLT, Int.reduceNeg, Int.reduceToNat, Int.reduceEq, Int.reduceAdd, Int.reduceSub, Int.reduceMul, Int.reduceBEq, Int.reduceBNe, Blk.men, Blk.keysIn, d1, e1, d2, e2, e3, e4, e5])
    | (exact retS_of rfl rfl rfl)
    | (refine DW.cond_tt rfl ?_)
    | (refine call_c (c93 b1 froms hf) (by decide) ?_)
    | (refine call_c (h98) (by decide) ?_)
    | (refine DW.cond_ff rfl ?_)
    | (refine DW.cond rfl ?_ ?_ <;> intro hc <;> (try simp only [go_sem] at hc))
    | (refine g_split ?_ ?_ <;> intro hc <;> (try simp only [hc]) <;> (try simp only [go_sem] at hc)))
    | false =>
      have hr : lkErr x froms looks = 0 := by simp only [lkErr, hn, hn2, if_false, e5, Bool.false_eq_true]
      rw [hr]
      repeat' (first
    | (with_reducible refine DW.seq ?_)
    | (with_reducible refine DW.block ?_)
    | (with_reducible refine DW.skip ?_)
    | (with_reducible refine DW.exit ?_)
    | (with_reducible refine DW.ret ?_)
    | (with_reducible refine DW.reg ?_)
    | (simp (disch := omega) only [go_sem, Nat.reduceLT, Nat.reduceLeDiff, Nat.reduceAdd, Nat.reduceMul, Nat.reduceEqDiff, ↓reduceIte, reduceCtorEq, Nat.reduceBEq, Nat.reduceBNe, Nat.reducePow, Int.reduceLE, Int.reduceLT, Int.reduceNeg, Int.reduceToNat, Int.reduceEq, Int.reduceAdd, Int.reduceSub, Int.reduceMul, Int.reduceBEq, Int.reduceBNe, Blk.men, Blk.keysIn, d1, e1, d2, e2, e3, e4, e5])
    | (exact retS_of rfl rfl rfl)
    | (refine DW.cond_tt rfl ?_)
    | (refine call_c (c93 b1 froms hf) (by decide) ?_)
    | (refine call_c (h98) (by decide) ?_)
    | (refine DW.cond_ff rfl ?_)
    | (refine DW.cond rfl ?_ ?_ <;> intro hc <;> (try simp only [go_sem] at hc))
    | (refine g_split ?_ ?_ <;> intro hc <;> (try simp only [hc]) <;> (try simp only [go_sem] at hc)))
end Go.Dw.Seat
end
section
set_option linter.unusedSimpArgs false
set_option maxRecDepth 100000
namespace Go.Dw.Seat
open Go Go.Dw Go.Proofs Go.IntWalk
def missN (st : Nat) (noz : List Nat) (s : List Cause) (l : Look) : Bool := hasN st noz s l.box l.noz.toNat l.step.toNat != l.glue
def validL (st n : Nat) (l : Look) : Prop := (0 ≤ l.noz ∧ l.noz < n) ∧ (0 ≤ l.step ∧ l.step < st)
def validS (n : Nat) (s : List Cause) : Prop := s.length ≤ 2 ∧ ∀ c ∈ s, 0 ≤ c.noz ∧ c.noz < n
theorem c99 (p b q : Bool) (st : Nat) (noz : List Nat) (s : List Cause) (l : Look) (hst : st ≤ 16) (hn : ∀ v ∈ noz, v < 2 ^ st) (hl : noz.length ≤ 1000) (hs : validS noz.length s) (hv : validL st noz.length l) :
    DCall Try.prog 146 [.agg ((eL l).map D.c), .c (.ro p [.v (.int .i64 st), .sl b 1 (rows eI (nL noz))] 0), .c (.ro q [.sl false 3 (rows eC s)] 0)] [] (bD (missN st noz s l)) [] := by
  obtain ⟨⟨h1, h2⟩, h3, h4⟩ := hv
  obtain ⟨box, z, t, g⟩ := l
  dsimp only at h1 h2 h3 h4
  obtain ⟨z, rfl⟩ := Int.eq_ofNat_of_zero_le h1
  obtain ⟨t, rfl⟩ := Int.eq_ofNat_of_zero_le h3
  simp only [missN, Int.toNat_natCast]
  refine DCall.of Try.func146 sf146 hb146 (Nat.le_of_ble_eq_true rfl) (okRes_nil fun _ => rfl) ?_; simp only [s146, idxs, Nat.reduceAdd]
  repeat' (first
    | (with_reducible refine DW.seq ?_)
    | (with_reducible refine DW.block ?_)
    | (with_reducible refine DW.skip ?_)
    | (with_reducible refine DW.exit ?_)
    | (with_reducible refine DW.ret ?_)
    | (with_reducible refine DW.reg ?_)
    | (refine DW.dreg rfl (WF.of (by first | rfl | simp (disch := omega) only [go_sem, Nat.reduceLT, Nat.reduceLeDiff, Nat.reduceAdd, Nat.reduceMul, Nat.reduceEqDiff, ↓reduceIte, reduceCtorEq, Nat.reduceBEq, Nat.reduceBNe, Nat.reducePow, Int.reduceLE, Int.reduceLT, Int.reduceNeg, Int.reduceToNat, Int.reduceEq, Int.reduceAdd, Int.reduceSub, Int.reduceMul, Int.reduceBEq, Int.reduceBNe, Blk.men, Blk.keysIn])) ?_)
    | (simp (disch := omega) only [go_sem, Nat.reduceLT, Nat.reduceLeDiff, Nat.reduceAdd, Nat.reduceMul, Nat.reduceEqDiff, ↓reduceIte, reduceCtorEq, Nat.reduceBEq, Nat.reduceBNe, Nat.reducePow, Int.reduceLE, Int.reduceLT, Int.reduceNeg, Int.reduceToNat, Int.reduceEq, Int.reduceAdd, Int.reduceSub, Int.reduceMul, Int.reduceBEq, Int.reduceBNe, Blk.men, Blk.keysIn])
    | (exact retS_of rfl rfl rfl)
    | (refine DW.cond_tt rfl ?_)
    | (refine call_c (c75 b false st noz s box z t hst hn hl (by have := hs.1; omega) hs.2 (by omega) (by omega)) (by decide) ?_)
    | (refine DW.cond_ff rfl ?_)
    | (refine DW.cond rfl ?_ ?_ <;> intro hc <;> (try simp only [go_sem] at hc))
    | (refine g_split ?_ ?_ <;> intro hc <;> (try simp only [hc]) <;> (try simp only [go_sem] at hc)))
theorem c97 (p q b b2 : Bool) (st : Nat) (noz : List Nat) (s : List Cause) (ls : List Look) (hst : st ≤ 16) (hn : ∀ v ∈ noz, v < 2 ^ st) (hl : noz.length ≤ 1000) (hs : validS noz.length s) (hls : ls.length ≤ 2 ^ 36) (hv : ∀ l ∈ ls, validL st noz.length l) :
    DCall Try.prog 144 [.c (.sl false 3 (rows eC s)), .c (.ro q [.sl b2 4 (rows eL ls)] 0), .c (.ro p [.v (.int .i64 st), .sl b 1 (rows eI (nL noz))] 0)] [] (bD (ls.any (missN st noz s))) [] := by
  refine DCall.of Try.func144 sf144 hb144 (Nat.le_of_ble_eq_true rfl) (okRes_nil fun _ => rfl) ?_; simp only [s144, idxs, Nat.reduceAdd]
  repeat' (first
    | (with_reducible refine DW.seq ?_)
    | (with_reducible refine DW.block ?_)
    | (with_reducible refine DW.skip ?_)
    | (with_reducible refine DW.exit ?_)
    | (with_reducible refine DW.ret ?_)
    | (with_reducible refine DW.reg ?_)
    | (simp (disch := omega) only [go_sem, Nat.reduceLT, Nat.reduceLeDiff, Nat.reduceAdd, Nat.reduceMul, Nat.reduceEqDiff, ↓reduceIte, reduceCtorEq, Nat.reduceBEq, Nat.reduceBNe, Nat.reducePow, Int.reduceLE, Int.reduceLT, Int.reduceNeg, Int.reduceToNat, Int.reduceEq, Int.reduceAdd, Int.reduceSub, Int.reduceMul, Int.reduceBEq, Int.reduceBNe, Blk.men, Blk.keysIn])
    | (exact retS_of rfl rfl rfl)
    | (refine DW.cond_tt rfl ?_)
    | (refine call_c (c98 b2 ls hls 146 [] [.ro p [.v (.int .i64 st), .sl b 1 (rows eI (nL noz))] 0, .ro true [.sl false 3 (rows eC s)] 0] (missN st noz s) (fun l hm => c99 p b true st noz s l hst hn hl hs (hv l hm))) (by decide) ?_)
    | (refine DW.cond_ff rfl ?_)
    | (refine DW.cond rfl ?_ ?_ <;> intro hc <;> (try simp only [go_sem] at hc))
    | (refine g_split ?_ ?_ <;> intro hc <;> (try simp only [hc]) <;> (try simp only [go_sem] at hc)))
theorem mem_pairsTo {all : List Cause} {s : List Cause} : ∀ {i : Nat}, s ∈ pairsTo all i → ∃ a b, s = [a, b] ∧ a ∈ all ∧ b ∈ all ∧ a.noz < b.noz := by
  intro i h
  simp only [pairsTo, List.mem_flatMap, List.mem_range] at h
  obtain ⟨j, _, h⟩ := h
  split at h
  · rename_i a ha
    simp only [pairsOf, List.mem_map, List.mem_filter, decide_eq_true_eq] at h
    obtain ⟨b, ⟨hb, hlt⟩, rfl⟩ := h
    exact ⟨a, b, rfl, List.mem_of_getElem? ha, List.mem_of_mem_drop hb, hlt⟩
  · cases h
theorem mem_statesOf {all : List Cause} {s : List Cause} (h : s ∈ statesOf all) : s = [] ∨ (∃ a ∈ all, s = [a]) ∨ ∃ a b, s = [a, b] ∧ a ∈ all ∧ b ∈ all ∧ a.noz < b.noz := by
  simp only [statesOf, List.cons_append, List.mem_cons, List.mem_append, List.mem_map] at h
  rcases h with h | ⟨a, ha, rfl⟩ | h
  · exact .inl h
  · exact .inr (.inl ⟨a, ha, rfl⟩)
  · exact .inr (.inr (mem_pairsTo h))
theorem mem_causesN {n : Nat} {froms : List Int} {c : Cause} (h : c ∈ causesN n froms) : (0 ≤ c.noz ∧ c.noz < n) ∧ (1 ≤ c.kind ∧ c.kind ≤ 4) ∧ c.frm ∈ froms := by
  simp only [causesN, causesZ, causesK, List.mem_flatMap, List.mem_range, List.mem_map] at h
  obtain ⟨z, hz, k, hk, f, hf, rfl⟩ := h
  exact ⟨⟨by simp, by simpa using hz⟩, ⟨by simp; omega, by simp; omega⟩, hf⟩
theorem valid_statesOf {n : Nat} {froms : List Int} {s : List Cause} (h : s ∈ statesOf (causesN n froms)) : validS n s := by
  rcases mem_statesOf h with rfl | ⟨a, ha, rfl⟩ | ⟨a, b, rfl, ha, hb, _⟩
  · exact ⟨by simp, by simp⟩
  · exact ⟨by simp, fun c hc => by simp at hc; subst hc; exact (mem_causesN ha).1⟩
  · exact ⟨by simp, fun c hc => by simp at hc; rcases hc with rfl | rfl; exact (mem_causesN ha).1; exact (mem_causesN hb).1⟩
def explX (x : Plan) (froms : List Int) (looks : List Look) : List (List Cause) := (statesOf (causesN x.noz.length froms)).filter fun s => !(looks.any (missN x.steps.toNat (x.noz.map Int.toNat) s))
def exErr (x : Plan) (froms : List Int) (looks : List Look) : Int :=
  if openErr x = 0 then (if lkErr x froms looks = 0 then (if (explX x froms looks).length = 0 then 9 else 0) else lkErr x froms looks) else openErr x
def exOut (x : Plan) (froms : List Int) (looks : List Look) : List (List Cause) := if exErr x froms looks = 0 then explX x froms looks else []
theorem wthn_iff1 {a b n : Int} : wthn a b [n] = true ↔ a ≤ n ∧ n ≤ b := by simp [wthn]
theorem lkErr_zero {x : Plan} {froms : List Int} {looks : List Look} (h : lkErr x froms looks = 0) : (froms.length ≤ 5 ∧ looks.length ≤ 40) ∧ (wthn 0 1000 froms = true ∧ fromsOk froms = true) ∧ ∀ l ∈ looks, lookOkI x l = true := by
  unfold lkErr at h
  split at h
  · cases h
  · rename_i h1
    split at h
    · cases h
    · rename_i h2
      split at h
      · cases h
      · rename_i h3
        simp only [not_or, Bool.not_eq_false] at h2
        exact ⟨by omega, h2, by simpa using h3⟩
theorem valid_look {st : Nat} {noz : List Nat} {l : Look} (h : lookOkI ⟨st, nL noz⟩ l = true) : validL st noz.length l := by
  simp only [lookOkI, Bool.and_eq_true, wthn_iff1, nL_length] at h
  exact ⟨⟨h.1.2.1, by omega⟩, h.2.1, by omega⟩
theorem c65 (b1 b2 : Bool) (x : Plan) (froms : List Int) (looks : List Look) (hp : x.noz.length ≤ 2 ^ 36) (hf : froms.length ≤ 2 ^ 36) (hl : looks.length ≤ 2 ^ 36) :
    DCall Try.prog 112 [dP false x, dIs b1 froms, dLs b2 looks] [] (.tup [dP false (opened x), dSs false (exOut x froms looks), dI (exErr x froms looks)]) [] := by
  by_cases ho : openErr x = 0
  · have hoo : opened x = x := if_pos ho
    have h78 := c78 x hp
    rw [hoo, ho] at h78
    rw [hoo]
    obtain ⟨st, noz, rfl, hst, hn, hv⟩ := openErr_zero ho
    have h94 := c94 false b1 b2 ⟨st, nL noz⟩ froms looks hp ⟨by simp; omega, by simp; omega⟩ hf hl
    by_cases hk : lkErr ⟨st, nL noz⟩ froms looks = 0
    · rw [hk] at h94
      obtain ⟨⟨hf5, hl40⟩, _, hlk⟩ := lkErr_zero hk
      have hcl : (causesN (nL noz).length froms).length ≤ 200000 := by
        rw [causesN_length, nL_length]
        have : noz.length * (4 * froms.length) ≤ 6 * 20 := Nat.mul_le_mul hn.2 (by omega)
        omega
      have h96 := (c96 false b1 st (nL noz) froms (by rw [nL_length]; omega) (by omega) hcl).rename 29
      have hsl : (statesOf (causesN (nL noz).length froms)).length ≤ 2 ^ 36 := by
        simp only [statesOf, List.cons_append, List.length_cons, List.length_append, List.length_map]
        have h1 := pairsTo_len (causesN (nL noz).length froms) (causesN (nL noz).length froms).length
        have h2 : (causesN (nL noz).length froms).length * (causesN (nL noz).length froms).length ≤ 200000 * 200000 := Nat.mul_le_mul hcl hcl
        omega
      have h95 := ((c95 (statesOf (causesN (nL noz).length froms)) hsl 144 [] [.ro true [.sl b2 4 (rows eL looks)] 0, .ro true [.v (.int .i64 st), .sl false 1 (rows eI (nL noz))] 0] (fun s => looks.any (missN st noz s)) (fun s hs =>
        c97 true true false b2 st noz s looks hst.2 hv (by omega) (by have := valid_statesOf hs; rwa [nL_length] at this) (by omega) (fun l hm => valid_look (hlk l hm)))).rekey (fun _ => rfl) 29).rename 31
      have hX : explX ⟨st, nL noz⟩ froms looks = (statesOf (causesN (nL noz).length froms)).filter fun s => !(looks.any (missN st noz s)) := by
        simp only [explX, nL_toNat, Int.toNat_natCast]
      rw [← hX] at h95
      generalize hE : explX ⟨st, nL noz⟩ froms looks = ex at *
      rw [nL_length] at h96 h95
      refine DCall.of Try.func112 sf112 hb112 (Nat.le_of_ble_eq_true rfl) (okRes_nil fun _ => rfl) ?_; simp only [s112, idxs, Nat.reduceAdd]
      repeat' (first
    | (with_reducible refine DW.seq ?_)
    | (with_reducible refine DW.block ?_)
    | (with_reducible refine DW.skip ?_)
    | (with_reducible refine DW.exit ?_)
    | (with_reducible refine DW.ret ?_)
    | (with_reducible refine DW.reg ?_)
    | (simp (disch := omega) only [go_sem, Nat.reduceLT, Nat.reduceLeDiff, Nat.reduceAdd, Nat.reduceMul, Nat.reduceEqDiff, ↓reduceIte, reduceCtorEq, Nat.reduceBEq, Nat.reduceBNe, Nat.reducePow, Int.reduceLE, Int.reduceLT, Int.reduceNeg, Int.reduceToNat, Int.reduceEq, Int.reduceAdd, Int.reduceSub, Int.reduceMul, Int.reduceBEq, Int.reduceBNe, Blk.men, Blk.keysIn])
    | (exact retS_of rfl rfl rfl)
    | (refine DW.cond_tt rfl ?_)
    | (refine call_c (h78) (by decide) ?_)
    | (refine call_c (h94) (by decide) ?_)
    | (refine DW.cond_ff rfl ?_)
    | (refine DW.cond rfl ?_ ?_ <;> intro hc <;> (try simp only [go_sem] at hc))
    | (refine g_split ?_ ?_ <;> intro hc <;> (try simp only [hc]) <;> (try simp only [go_sem] at hc)))
      (refine call_r (h96) (by decide) (by first | rfl | simp (disch := omega) only [go_sem, Nat.reduceLT, Nat.reduceLeDiff, Nat.reduceAdd, Nat.reduceMul, Nat.reduceEqDiff, ↓reduceIte, reduceCtorEq, Nat.reduceBEq, Nat.reduceBNe, Nat.reducePow, Int.reduceLE, Int.reduceLT, Int.reduceNeg, Int.reduceToNat, Int.reduceEq, Int.reduceAdd, Int.reduceSub, Int.reduceMul, Int.reduceBEq, Int.reduceBNe, Blk.men, Blk.keysIn]) (by first | rfl | simp (disch := omega) only [go_sem, Nat.reduceLT, Nat.reduceLeDiff, Nat.reduceAdd, Nat.reduceMul, Nat.reduceEqDiff, ↓reduceIte, reduceCtorEq, Nat.reduceBEq, Nat.reduceBNe, Nat.reducePow, Int.reduceLE, Int.reduceLT, Int.reduceNeg, Int.reduceToNat, Int.reduceEq, Int.reduceAdd, Int.reduceSub, Int.reduceMul, Int.reduceBEq, Int.reduceBNe, Blk.men, Blk.keysIn]) ?_; simp (disch := omega) only [go_sem, Nat.reduceLT, Nat.reduceLeDiff, Nat.reduceAdd, Nat.reduceMul, Nat.reduceEqDiff, ↓reduceIte, reduceCtorEq, Nat.reduceBEq, Nat.reduceBNe, Nat.reducePow, Int.reduceLE, Int.reduceLT, Int.reduceNeg, Int.reduceToNat, Int.reduceEq, Int.reduceAdd, Int.reduceSub, Int.reduceMul, Int.reduceBEq, Int.reduceBNe, Blk.men, Blk.keysIn])
      refine call_m 29 h95 rfl rfl rfl (by decide) rfl (by rfl) ?_
      simp (disch := omega) only [go_sem, Nat.reduceLT, Nat.reduceLeDiff, Nat.reduceAdd, Nat.reduceMul, Nat.reduceEqDiff, ↓reduceIte, reduceCtorEq, Nat.reduceBEq, Nat.reduceBNe, Nat.reducePow, Int.reduceLE, Int.reduceLT, Int.reduceNeg, Int.reduceToNat, Int.reduceEq, Int.reduceAdd, Int.reduceSub, Int.reduceMul, Int.reduceBEq, Int.reduceBNe, Blk.men, Blk.keysIn]
      (refine DW.ent (Ent.rel 31 rfl) ?_; simp (disch := omega) only [go_sem, Nat.reduceLT, Nat.reduceLeDiff, Nat.reduceAdd, Nat.reduceMul, Nat.reduceEqDiff, ↓reduceIte, reduceCtorEq, Nat.reduceBEq, Nat.reduceBNe, Nat.reducePow, Int.reduceLE, Int.reduceLT, Int.reduceNeg, Int.reduceToNat, Int.reduceEq, Int.reduceAdd, Int.reduceSub, Int.reduceMul, Int.reduceBEq, Int.reduceBNe, Blk.men, Blk.keysIn])
      have hee : exErr ⟨st, nL noz⟩ froms looks = if ex.length = 0 then 9 else 0 := by simp only [exErr, ho, hk, hE, if_true]
      have heo : exOut ⟨st, nL noz⟩ froms looks = if ex.length = 0 then [] else ex := by
        simp only [exOut, hee, hE]
        split <;> simp_all
      by_cases h0 : ex.length = 0
      · rw [hee, heo, if_pos h0, if_pos h0]
        have hb : ((ex.length : Int) == 0) = true := by rw [beq_iff_eq]; omega
        repeat' (first
    | (with_reducible refine DW.seq ?_)
    | (with_reducible refine DW.block ?_)
    | (with_reducible refine DW.skip ?_)
    | (with_reducible refine DW.exit ?_)
    | (with_reducible refine DW.ret ?_)
    | (with_reducible refine DW.reg ?_)
    | (simp (disch := omega) only [go_sem, Nat.reduceLT, Nat.reduceLeDiff, Nat.reduceAdd, Nat.reduceMul, Nat.reduceEqDiff, ↓reduceIte, reduceCtorEq, Nat.reduceBEq, Nat.reduceBNe, Nat.reducePow, Int.reduceLE, Int.reduceLT, Int.reduceNeg, Int.reduceToNat, Int.reduceEq, Int.reduceAdd, Int.reduceSub, Int.reduceMul, Int.reduceBEq, Int.reduceBNe, Blk.men, Blk.keysIn, hb])
    | (exact retS_of rfl rfl rfl)
    | (refine DW.cond_tt rfl ?_)
    | (refine DW.cond_ff rfl ?_)
    | (refine DW.cond rfl ?_ ?_ <;> intro hc <;> (try simp only [go_sem] at hc))
    | (refine g_split ?_ ?_ <;> intro hc <;> (try simp only [hc]) <;> (try simp only [go_sem] at hc)))
        refine retS_wk rfl ?_ (by simp only [Blk.nb, rowC_nb, D.nb, D.nbs, C.nb, C.nbs, C.nbss, rows_nb eI_nb, rows_nb eC_nb, rows_nb eL_nb, rows_nb eR_nb, rows_nb eS_nb, rows_nb eG_nb, Bool.and_true, Bool.not_false, Bool.and_self, bD, dI, iD]); exact .tup (.cons (.refl _) (.cons (.nil false 1) (.cons (.refl _) .nil)))
      · rw [hee, heo, if_neg h0, if_neg h0]
        have hb : ((ex.length : Int) == 0) = false := by rw [beq_eq_false_iff_ne]; omega
        repeat' (first
    | (with_reducible refine DW.seq ?_)
    | (with_reducible refine DW.block ?_)
    | (with_reducible refine DW.skip ?_)
    | (with_reducible refine DW.exit ?_)
    | (with_reducible refine DW.ret ?_)
    | (with_reducible refine DW.reg ?_)
    | (simp (disch := omega) only [go_sem, Nat.reduceLT, Nat.reduceLeDiff, Nat.reduceAdd, Nat.reduceMul, Nat.reduceEqDiff, ↓reduceIte, reduceCtorEq, Nat.reduceBEq, Nat.reduceBNe, Nat.reducePow, Int.reduceLE, Int.reduceLT, Int.reduceNeg, Int.reduceToNat, Int.reduceEq, Int.reduceAdd, Int.reduceSub, Int.reduceMul, Int.reduceBEq, Int.reduceBNe, Blk.men, Blk.keysIn, hb])
    | (exact retS_of rfl rfl rfl)
    | (refine DW.cond_tt rfl ?_)
    | (refine DW.cond_ff rfl ?_)
    | (refine DW.cond rfl ?_ ?_ <;> intro hc <;> (try simp only [go_sem] at hc))
    | (refine g_split ?_ ?_ <;> intro hc <;> (try simp only [hc]) <;> (try simp only [go_sem] at hc)))
        refine retS_wk rfl ?_ (by simp only [Blk.nb, rowC_nb, D.nb, D.nbs, C.nb, C.nbs, C.nbss, rows_nb eI_nb, rows_nb eC_nb, rows_nb eL_nb, rows_nb eR_nb, rows_nb eS_nb, rows_nb eG_nb, Bool.and_true, Bool.not_false, Bool.and_self, bD, dI, iD]); exact .refl _
    · have hee : exErr ⟨st, nL noz⟩ froms looks = lkErr ⟨st, nL noz⟩ froms looks := by simp only [exErr, ho, hk, if_true, if_false]
      have heo : exOut ⟨st, nL noz⟩ froms looks = [] := by simp only [exOut, hee, hk, if_false]
      rw [hee, heo]
      generalize lkErr ⟨st, nL noz⟩ froms looks = e at *
      have hb : (e != 0) = true := by simpa using hk
      refine DCall.of Try.func112 sf112 hb112 (Nat.le_of_ble_eq_true rfl) (okRes_nil fun _ => rfl) ?_; simp only [s112, idxs, Nat.reduceAdd]
      repeat' (first
    | (with_reducible refine DW.seq ?_)
    | (with_reducible refine DW.block ?_)
    | (with_reducible refine DW.skip ?_)
    | (with_reducible refine DW.exit ?_)
    | (with_reducible refine DW.ret ?_)
    | (with_reducible refine DW.reg ?_)
    | (simp (disch := omega) only [go_sem, Nat.reduceLT, Nat.reduceLeDiff, Nat.reduceAdd, Nat.reduceMul, Nat.reduceEqDiff, ↓reduceIte, reduceCtorEq, Nat.reduceBEq, Nat.reduceBNe, Nat.reducePow, Int.reduceLE, Int.reduceLT, Int.reduceNeg, Int.reduceToNat, Int.reduceEq, Int.reduceAdd, Int.reduceSub, Int.reduceMul, Int.reduceBEq, Int.reduceBNe, Blk.men, Blk.keysIn, hb])
    | (exact retS_of rfl rfl rfl)
    | (refine DW.cond_tt rfl ?_)
    | (refine call_c (h78) (by decide) ?_)
    | (refine call_c (h94) (by decide) ?_)
    | (refine DW.cond_ff rfl ?_)
    | (refine DW.cond rfl ?_ ?_ <;> intro hc <;> (try simp only [go_sem] at hc))
    | (refine g_split ?_ ?_ <;> intro hc <;> (try simp only [hc]) <;> (try simp only [go_sem] at hc)))
      refine retS_wk rfl ?_ (by simp only [Blk.nb, rowC_nb, D.nb, D.nbs, C.nb, C.nbs, C.nbss, rows_nb eI_nb, rows_nb eC_nb, rows_nb eL_nb, rows_nb eR_nb, rows_nb eS_nb, rows_nb eG_nb, Bool.and_true, Bool.not_false, Bool.and_self, bD, dI, iD]); exact .tup (.cons (.refl _) (.cons (.nil false 1) (.cons (.refl _) .nil)))
  · have hee : exErr x froms looks = openErr x := by simp only [exErr, ho, if_false]
    have heo : exOut x froms looks = [] := by simp only [exOut, hee, ho, if_false]
    have h78 := c78 x hp
    rw [hee, heo]
    generalize openErr x = e at *
    generalize opened x = y at *
    have hb : (e != 0) = true := by simpa using ho
    refine DCall.of Try.func112 sf112 hb112 (Nat.le_of_ble_eq_true rfl) (okRes_nil fun _ => rfl) ?_; simp only [s112, idxs, Nat.reduceAdd]
    repeat' (first
    | (with_reducible refine DW.seq ?_)
    | (with_reducible refine DW.block ?_)
    | (with_reducible refine DW.skip ?_)
    | (with_reducible refine DW.exit ?_)
    | (with_reducible refine DW.ret ?_)
    | (with_reducible refine DW.reg ?_)
    | (simp (disch := omega) only [go_sem, Nat.reduceLT, Nat.reduceLeDiff, Nat.reduceAdd, Nat.reduceMul, Nat.reduceEqDiff, ↓reduceIte, reduceCtorEq, Nat.reduceBEq, Nat.reduceBNe, Nat.reducePow, Int.reduceLE, Int.reduceLT, Int.reduceNeg, Int.reduceToNat, Int.reduceEq, Int.reduceAdd, Int.reduceSub, Int.reduceMul, Int.reduceBEq, Int.reduceBNe, Blk.men, Blk.keysIn, hb])
    | (exact retS_of rfl rfl rfl)
    | (refine DW.cond_tt rfl ?_)
    | (refine call_c (h78) (by decide) ?_)
    | (refine DW.cond_ff rfl ?_)
    | (refine DW.cond rfl ?_ ?_ <;> intro hc <;> (try simp only [go_sem] at hc))
    | (refine g_split ?_ ?_ <;> intro hc <;> (try simp only [hc]) <;> (try simp only [go_sem] at hc)))
    refine retS_wk rfl ?_ (by simp only [Blk.nb, rowC_nb, D.nb, D.nbs, C.nb, C.nbs, C.nbss, rows_nb eI_nb, rows_nb eC_nb, rows_nb eL_nb, rows_nb eR_nb, rows_nb eS_nb, rows_nb eG_nb, Bool.and_true, Bool.not_false, Bool.and_self, bD, dI, iD]); exact .tup (.cons (.refl _) (.cons (.nil false 1) (.cons (.refl _) .nil)))
end Go.Dw.Seat
end
section
set_option linter.unusedSimpArgs false
set_option maxRecDepth 100000
namespace Go.Dw.Seat
open Go Go.Dw Go.Proofs Go.IntWalk
theorem exErr_zero {x : Plan} {froms : List Int} {looks : List Look} (h : exErr x froms looks = 0) : openErr x = 0 ∧ lkErr x froms looks = 0 ∧ exOut x froms looks = explX x froms looks ∧ 0 < (exOut x froms looks).length := by
  have h' := h
  unfold exErr at h'
  split at h'
  · rename_i h1
    split at h'
    · rename_i h2
      split at h'
      · cases h'
      · rename_i h3
        have h4 : exOut x froms looks = explX x froms looks := if_pos h
        exact ⟨h1, h2, h4, by rw [h4]; omega⟩
    · contradiction
  · contradiction
theorem c18 (b1 b2 : Bool) (x : Plan) (froms : List Int) (looks : List Look) (hp : x.noz.length ≤ 2 ^ 36) (hf : froms.length ≤ 2 ^ 36) (hl : looks.length ≤ 2 ^ 36) :
    DCall Try.prog 68 [dP false x, dIs b1 froms, dLs b2 looks] [] (.tup [dI (exOut x froms looks).length, dCs false ((exOut x froms looks).headD []), dI (exErr x froms looks)]) [] := by
  have h65 := c65 b1 b2 x froms looks hp hf hl
  by_cases h : exErr x froms looks = 0
  · obtain ⟨_, _, _, hlen⟩ := exErr_zero h
    rw [h] at h65 ⊢
    generalize exOut x froms looks = out at *
    generalize opened x = y at *
    cases out with
    | nil => simp at hlen
    | cons s ss =>
      have h0 : (s :: ss)[0]? = some s := rfl
      refine DCall.of Try.func68 sf68 hb68 (Nat.le_of_ble_eq_true rfl) (okRes_nil fun _ => rfl) ?_; simp only [s68, idxs, Nat.reduceAdd]
      repeat' (first
    | (with_reducible refine DW.seq ?_)
    | (with_reducible refine DW.block ?_)
    | (with_reducible refine DW.skip ?_)
    | (with_reducible refine DW.exit ?_)
    | (with_reducible refine DW.ret ?_)
    | (with_reducible refine DW.reg ?_)
    | (refine DW.dreg rfl (WF.of (by first | rfl | simp (disch := omega) only [go_sem, Nat.reduceLT, Nat.reduceLeDiff, Nat.reduceAdd, Nat.reduceMul, Nat.reduceEqDiff, ↓reduceIte, reduceCtorEq, Nat.reduceBEq, Nat.reduceBNe, Nat.reducePow, Int.reduceLE, Int.reduceLT, Int.reduceNeg, Int.reduceToNat, Int.reduceEq, Int.reduceAdd, Int.reduceSub, Int.reduceMul, Int.reduceBEq, Int.reduceBNe, Blk.men, Blk.keysIn, h0])) ?_)
    | (simp (disch := omega) only [go_sem, Nat.reduceLT, Nat.reduceLeDiff, Nat.reduceAdd, Nat.reduceMul, Nat.reduceEqDiff, ↓reduceIte, reduceCtorEq, Nat.reduceBEq, Nat.reduceBNe, Nat.reducePow, Int.reduceLE, Int.reduceLT, Int.reduceNeg, Int.reduceToNat, Int.reduceEq, Int.reduceAdd, Int.reduceSub, Int.reduceMul, Int.reduceBEq, Int.reduceBNe, Blk.men, Blk.keysIn, h0])
    | (exact retS_of rfl rfl rfl)
    | (refine DW.cond_tt rfl ?_)
    | (refine call_c (h65) (by decide) ?_)
    | (refine DW.cond_ff rfl ?_)
    | (refine DW.cond rfl ?_ ?_ <;> intro hc <;> (try simp only [go_sem] at hc))
    | (refine g_split ?_ ?_ <;> intro hc <;> (try simp only [hc]) <;> (try simp only [go_sem] at hc)))
      simp only [List.headD_cons]
      refine retS_wk rfl ?_ (by simp only [Blk.nb, rowC_nb, D.nb, D.nbs, C.nb, C.nbs, C.nbss, rows_nb eI_nb, rows_nb eC_nb, rows_nb eL_nb, rows_nb eR_nb, rows_nb eS_nb, rows_nb eG_nb, Bool.and_true, Bool.not_false, Bool.and_self, bD, dI, iD]); exact .refl _
  · have ho : exOut x froms looks = [] := if_neg h
    rw [ho] at h65 ⊢
    generalize exErr x froms looks = e at *
    generalize opened x = y at *
    have hb : (e != 0) = true := by simpa using h
    refine DCall.of Try.func68 sf68 hb68 (Nat.le_of_ble_eq_true rfl) (okRes_nil fun _ => rfl) ?_; simp only [s68, idxs, Nat.reduceAdd]
    repeat' (first
    | (with_reducible refine DW.seq ?_)
    | (with_reducible refine DW.block ?_)
    | (with_reducible refine DW.skip ?_)
    | (with_reducible refine DW.exit ?_)
    | (with_reducible refine DW.ret ?_)
    | (with_reducible refine DW.reg ?_)
    | (refine DW.dreg rfl (WF.of (by first | rfl | simp (disch := omega) only [go_sem, Nat.reduceLT, Nat.reduceLeDiff, Nat.reduceAdd, Nat.reduceMul, Nat.reduceEqDiff, ↓reduceIte, reduceCtorEq, Nat.reduceBEq, Nat.reduceBNe, Nat.reducePow, Int.reduceLE, Int.reduceLT, Int.reduceNeg, Int.reduceToNat, Int.reduceEq, Int.reduceAdd, Int.reduceSub, Int.reduceMul, Int.reduceBEq, Int.reduceBNe, Blk.men, Blk.keysIn, hb])) ?_)
    | (simp (disch := omega) only [go_sem, Nat.reduceLT, Nat.reduceLeDiff, Nat.reduceAdd, Nat.reduceMul, Nat.reduceEqDiff, ↓reduceIte, reduceCtorEq, Nat.reduceBEq, Nat.reduceBNe, Nat.reducePow, Int.reduceLE, Int.reduceLT, Int.reduceNeg, Int.reduceToNat, Int.reduceEq, Int.reduceAdd, Int.reduceSub, Int.reduceMul, Int.reduceBEq, Int.reduceBNe, Blk.men, Blk.keysIn, hb])
    | (exact retS_of rfl rfl rfl)
    | (refine DW.cond_tt rfl ?_)
    | (refine call_c (h65) (by decide) ?_)
    | (refine DW.cond_ff rfl ?_)
    | (refine DW.cond rfl ?_ ?_ <;> intro hc <;> (try simp only [go_sem] at hc))
    | (refine g_split ?_ ?_ <;> intro hc <;> (try simp only [hc]) <;> (try simp only [go_sem] at hc)))
    refine retS_wk rfl ?_ (by simp only [Blk.nb, rowC_nb, D.nb, D.nbs, C.nb, C.nbs, C.nbss, rows_nb eI_nb, rows_nb eC_nb, rows_nb eL_nb, rows_nb eR_nb, rows_nb eS_nb, rows_nb eG_nb, Bool.and_true, Bool.not_false, Bool.and_self, bD, dI, iD]); exact .tup (.cons (.refl _) (.cons (.nil false 3) (.cons (.refl _) .nil)))
end Go.Dw.Seat
end
section
set_option linter.unusedSimpArgs false
set_option maxRecDepth 100000
namespace Go.Dw.Seat
open Go Go.Dw Go.Proofs Go.IntWalk
structure Spot where
  box : Nat
  noz : Nat
  step : Nat
def enSpot (s : Spot) : List D := [.agg [dI s.box, dI s.noz, dI s.step]]
end Go.Dw.Seat
end
section
set_option linter.unusedSimpArgs false
set_option maxRecDepth 100000
namespace Go.Dw.Seat
open Go Go.Dw Go.Proofs Go.IntWalk
attribute [go_sem] enSpot
end Go.Dw.Seat
end
section
set_option linter.unusedSimpArgs false
set_option maxRecDepth 100000
namespace Go.Dw.Seat
open Go Go.Dw Go.Proofs Go.IntWalk
def eGb (b : Bool) (s : List Int) : List C := [.sl b 1 (rows eI s)]
attribute [go_sem] eGb
end Go.Dw.Seat
end
section
set_option linter.unusedSimpArgs false
set_option maxRecDepth 100000
namespace Go.Dw.Seat
open Go Go.Dw Go.Proofs Go.IntWalk
theorem c84 (r : Room) : DCall Try.prog 70 [.agg ((eR r).map D.c)] [] (bD (!roomOk r)) [] := by
  refine DCall.of Try.func70 sf70 hb70 (Nat.le_of_ble_eq_true rfl) (okRes_nil fun _ => rfl) ?_; simp only [s70, idxs, Nat.reduceAdd]
  repeat' (first
    | (with_reducible refine DW.seq ?_)
    | (with_reducible refine DW.block ?_)
    | (with_reducible refine DW.skip ?_)
    | (with_reducible refine DW.exit ?_)
    | (with_reducible refine DW.ret ?_)
    | (with_reducible refine DW.reg ?_)
    | (simp (disch := omega) only [go_sem, Nat.reduceLT, Nat.reduceLeDiff, Nat.reduceAdd, Nat.reduceMul, Nat.reduceEqDiff, ↓reduceIte, reduceCtorEq, Nat.reduceBEq, Nat.reduceBNe, Nat.reducePow, Int.reduceLE, Int.reduceLT, Int.reduceNeg, Int.reduceToNat, Int.reduceEq, Int.reduceAdd, Int.reduceSub, Int.reduceMul, Int.reduceBEq, Int.reduceBNe, Blk.men, Blk.keysIn, List.map_cons, List.map_nil])
    | (exact retS_of rfl rfl rfl)
    | (refine DW.cond_tt rfl ?_)
    | (refine call_c (c85 r) (by decide) ?_)
    | (refine DW.cond_ff rfl ?_)
    | (refine DW.cond rfl ?_ ?_ <;> intro hc <;> (try simp only [go_sem] at hc))
    | (refine g_split ?_ ?_ <;> intro hc <;> (try simp only [hc]) <;> (try simp only [go_sem] at hc)))
def opErr (r : Rule) (rooms : List Room) (mins : List Int) : Int :=
  if ruleOk r = false then 2 else if 50 < (rooms.length : Int) then 5 else if (mins.length : Int) ≠ rooms.length then 4 else if (rooms.any fun m => !roomOk m) = true then 3 else if wthn 0 2400 mins = false then 3 else 0
def opF (f : Room → Int) (rooms : List Room) (mins : List Int) (n : Nat) : List Nat := (List.range n).filter fun i => decide (mins.getD i 0 < f (rooms.getD i ⟨0, 0, 0, 0⟩))
theorem opF_succ {f : Room → Int} {rooms : List Room} {mins : List Int} {n : Nat} {m : Room} {v : Int} (hm : rooms[n]? = some m) (hv : mins[n]? = some v) :
    opF f rooms mins (n + 1) = opF f rooms mins n ++ (if decide (v < f m) then [n] else []) := by
  unfold opF
  rw [filter_range]
  simp only [List.getD, hm, hv, Option.getD_some]
theorem opF_len (f : Room → Int) (rooms : List Room) (mins : List Int) (n : Nat) : (opF f rooms mins n).length ≤ n := by
  refine Nat.le_trans (List.length_filter_le _ _) (by simp)
def opOut (f : Room → Int) (r : Rule) (rooms : List Room) (mins : List Int) : List Nat := if opErr r rooms mins = 0 then opF f rooms mins rooms.length else []
theorem c39 (b b2 : Bool) (r : Rule) (rooms : List Room) (mins : List Int) (hl : rooms.length ≤ 2 ^ 36) (hm : mins.length ≤ 2 ^ 36) :
    DCall Try.prog 39 [dR r, .c (.sl b 4 (rows eR rooms)), dIs b2 mins] [] (.tup [dIs false (nL (opOut (pressLo r) r rooms mins)), dIs false (nL (opOut (pressHi r) r rooms mins)), dI (opErr r rooms mins)]) [] := by
  have hfn := c87 b rooms hl 70 [] [] (fun m => !roomOk m) (fun m _ => c84 m)
  have h88 := c88 b2 0 2400 mins hm
  have fin : ∀ {e : Int}, opErr r rooms mins = e → e ≠ 0 → (∀ f, opOut f r rooms mins = []) := fun h1 h2 f => by
    simp only [opOut]; rw [if_neg (by rw [h1]; exact h2)]
  cases hr : ruleOk r with
  | false =>
    have he : opErr r rooms mins = 2 := by simp only [opErr, hr, if_true]
    rw [he, fin he (by decide), fin he (by decide)]
    refine DCall.of Try.func39 sf39 hb39 (Nat.le_of_ble_eq_true rfl) (okRes_nil fun _ => rfl) ?_; simp only [s39, idxs, Nat.reduceAdd]
    repeat' (first
    | (with_reducible refine DW.seq ?_)
    | (with_reducible refine DW.block ?_)
    | (with_reducible refine DW.skip ?_)
    | (with_reducible refine DW.exit ?_)
    | (with_reducible refine DW.ret ?_)
    | (with_reducible refine DW.reg ?_)
    | (refine DW.dreg rfl (WF.of (by first | rfl | simp (disch := omega) only [go_sem, Nat.reduceLT, Nat.reduceLeDiff, Nat.reduceAdd, Nat.reduceMul, Nat.reduceEqDiff, ↓reduceIte, reduceCtorEq, Nat.reduceBEq, Nat.reduceBNe, Nat.reducePow, Int.reduceLE, Int.reduceLT, Int.reduceNeg, Int.reduceToNat, Int.reduceEq, Int.reduceAdd, Int.reduceSub, Int.reduceMul, Int.reduceBEq, Int.reduceBNe, Blk.men, Blk.keysIn, hr])) ?_)
    | (simp (disch := omega) only [go_sem, Nat.reduceLT, Nat.reduceLeDiff, Nat.reduceAdd, Nat.reduceMul, Nat.reduceEqDiff, ↓reduceIte, reduceCtorEq, Nat.reduceBEq, Nat.reduceBNe, Nat.reducePow, Int.reduceLE, Int.reduceLT, Int.reduceNeg, Int.reduceToNat, Int.reduceEq, Int.reduceAdd, Int.reduceSub, Int.reduceMul, Int.reduceBEq, Int.reduceBNe, Blk.men, Blk.keysIn, hr])
    | (exact retS_of rfl rfl rfl)
    | (refine DW.cond_tt rfl ?_)
    | (refine call_c (c86 r) (by decide) ?_)
    | (refine DW.cond_ff rfl ?_)
    | (refine DW.cond rfl ?_ ?_ <;> intro hc <;> (try simp only [go_sem] at hc))
    | (refine g_split ?_ ?_ <;> intro hc <;> (try simp only [hc]) <;> (try simp only [go_sem] at hc)))
    refine retS_wk rfl ?_ (by simp only [Blk.nb, rowC_nb, D.nb, D.nbs, C.nb, C.nbs, C.nbss, rows_nb eI_nb, rows_nb eC_nb, rows_nb eL_nb, rows_nb eR_nb, rows_nb eS_nb, rows_nb eG_nb, Bool.and_true, Bool.not_false, Bool.and_self, bD, dI, iD]); exact .tup (.cons (.nil _ _) (.cons (.nil _ _) (.cons (.refl _) .nil)))
  | true =>
  by_cases h50 : 50 < (rooms.length : Int)
  · have he : opErr r rooms mins = 5 := by simp only [opErr, hr, h50, if_true, if_false, Bool.true_eq_false]
    have hd : decide ((50 : Int) < (rooms.length : Int)) = true := decide_eq_true h50
    rw [he, fin he (by decide), fin he (by decide)]
    refine DCall.of Try.func39 sf39 hb39 (Nat.le_of_ble_eq_true rfl) (okRes_nil fun _ => rfl) ?_; simp only [s39, idxs, Nat.reduceAdd]
    repeat' (first
    | (with_reducible refine DW.seq ?_)
    | (with_reducible refine DW.block ?_)
    | (with_reducible refine DW.skip ?_)
    | (with_reducible refine DW.exit ?_)
    | (with_reducible refine DW.ret ?_)
    | (with_reducible refine DW.reg ?_)
    | (refine DW.dreg rfl (WF.of (by first | rfl | simp (disch := omega) only [go_sem, Nat.reduceLT, Nat.reduceLeDiff, Nat.reduceAdd, Nat.reduceMul, Nat.reduceEqDiff, ↓reduceIte, reduceCtorEq, Nat.reduceBEq, Nat.reduceBNe, Nat.reducePow, Int.reduceLE, Int.reduceLT, Int.reduceNeg, Int.reduceToNat, Int.reduceEq, Int.reduceAdd, Int.reduceSub, Int.reduceMul, Int.reduceBEq, Int.reduceBNe, Blk.men, Blk.keysIn, hr, hd])) ?_)
    | (simp (disch := omega) only [go_sem, Nat.reduceLT, Nat.reduceLeDiff, Nat.reduceAdd, Nat.reduceMul, Nat.reduceEqDiff, ↓reduceIte, reduceCtorEq, Nat.reduceBEq, Nat.reduceBNe, Nat.reducePow, Int.reduceLE, Int.reduceLT, Int.reduceNeg, Int.reduceToNat, Int.reduceEq, Int.reduceAdd, Int.reduceSub, Int.reduceMul, Int.reduceBEq, Int.reduceBNe, Blk.men, Blk.keysIn, hr, hd])
    | (exact retS_of rfl rfl rfl)
    | (refine DW.cond_tt rfl ?_)
    | (refine call_c (c86 r) (by decide) ?_)
    | (refine DW.cond_ff rfl ?_)
    | (refine DW.cond rfl ?_ ?_ <;> intro hc <;> (try simp only [go_sem] at hc))
    | (refine g_split ?_ ?_ <;> intro hc <;> (try simp only [hc]) <;> (try simp only [go_sem] at hc)))
    refine retS_wk rfl ?_ (by simp only [Blk.nb, rowC_nb, D.nb, D.nbs, C.nb, C.nbs, C.nbss, rows_nb eI_nb, rows_nb eC_nb, rows_nb eL_nb, rows_nb eR_nb, rows_nb eS_nb, rows_nb eG_nb, Bool.and_true, Bool.not_false, Bool.and_self, bD, dI, iD]); exact .tup (.cons (.nil _ _) (.cons (.nil _ _) (.cons (.refl _) .nil)))
  have hd : decide ((50 : Int) < (rooms.length : Int)) = false := decide_eq_false h50
  by_cases hne : (mins.length : Int) = rooms.length
  case neg =>
    have he : opErr r rooms mins = 4 := by simp only [opErr, hr, h50, hne, if_true, if_false, Bool.true_eq_false, ne_eq, not_false_eq_true]
    have hd2 : ((mins.length : Int) != (rooms.length : Int)) = true := by simpa using hne
    rw [he, fin he (by decide), fin he (by decide)]
    refine DCall.of Try.func39 sf39 hb39 (Nat.le_of_ble_eq_true rfl) (okRes_nil fun _ => rfl) ?_; simp only [s39, idxs, Nat.reduceAdd]
    repeat' (first
    | (with_reducible refine DW.seq ?_)
    | (with_reducible refine DW.block ?_)
    | (with_reducible refine DW.skip ?_)
    | (with_reducible refine DW.exit ?_)
    | (with_reducible refine DW.ret ?_)
    | (with_reducible refine DW.reg ?_)
    | (refine DW.dreg rfl (WF.of (by first | rfl | simp (disch := omega) only [go_sem, Nat.reduceLT, Nat.reduceLeDiff, Nat.reduceAdd, Nat.reduceMul, Nat.reduceEqDiff, ↓reduceIte, reduceCtorEq, Nat.reduceBEq, Nat.reduceBNe, Nat.reducePow, Int.reduceLE, Int.reduceLT, Int.reduceNeg, Int.reduceToNat, Int.reduceEq, Int.reduceAdd, Int.reduceSub, Int.reduceMul, Int.reduceBEq, Int.reduceBNe, Blk.men, Blk.keysIn, hr, hd, hd2])) ?_)
    | (simp (disch := omega) only [go_sem, Nat.reduceLT, Nat.reduceLeDiff, Nat.reduceAdd, Nat.reduceMul, Nat.reduceEqDiff, ↓reduceIte, reduceCtorEq, Nat.reduceBEq, Nat.reduceBNe, Nat.reducePow, Int.reduceLE, Int.reduceLT, Int.reduceNeg, Int.reduceToNat, Int.reduceEq, Int.reduceAdd, Int.reduceSub, Int.reduceMul, Int.reduceBEq, Int.reduceBNe, Blk.men, Blk.keysIn, hr, hd, hd2])
    | (exact retS_of rfl rfl rfl)
    | (refine DW.cond_tt rfl ?_)
    | (refine call_c (c86 r) (by decide) ?_)
    | (refine DW.cond_ff rfl ?_)
    | (refine DW.cond rfl ?_ ?_ <;> intro hc <;> (try simp only [go_sem] at hc))
    | (refine g_split ?_ ?_ <;> intro hc <;> (try simp only [hc]) <;> (try simp only [go_sem] at hc)))
    refine retS_wk rfl ?_ (by simp only [Blk.nb, rowC_nb, D.nb, D.nbs, C.nb, C.nbs, C.nbss, rows_nb eI_nb, rows_nb eC_nb, rows_nb eL_nb, rows_nb eR_nb, rows_nb eS_nb, rows_nb eG_nb, Bool.and_true, Bool.not_false, Bool.and_self, bD, dI, iD]); exact .tup (.cons (.nil _ _) (.cons (.nil _ _) (.cons (.refl _) .nil)))
  have hd2 : ((mins.length : Int) != (rooms.length : Int)) = false := by simpa using hne
  cases ha : rooms.any fun m => !roomOk m with
  | true =>
    have he : opErr r rooms mins = 3 := by simp only [opErr, hr, h50, hne, ha, if_true, if_false, Bool.true_eq_false, ne_eq, not_true_eq_false]
    rw [ha] at hfn
    rw [he, fin he (by decide), fin he (by decide)]
    refine DCall.of Try.func39 sf39 hb39 (Nat.le_of_ble_eq_true rfl) (okRes_nil fun _ => rfl) ?_; simp only [s39, idxs, Nat.reduceAdd]
    repeat' (first
    | (with_reducible refine DW.seq ?_)
    | (with_reducible refine DW.block ?_)
    | (with_reducible refine DW.skip ?_)
    | (with_reducible refine DW.exit ?_)
    | (with_reducible refine DW.ret ?_)
    | (with_reducible refine DW.reg ?_)
    | (refine DW.dreg rfl (WF.of (by first | rfl | simp (disch := omega) only [go_sem, Nat.reduceLT, Nat.reduceLeDiff, Nat.reduceAdd, Nat.reduceMul, Nat.reduceEqDiff, ↓reduceIte, reduceCtorEq, Nat.reduceBEq, Nat.reduceBNe, Nat.reducePow, Int.reduceLE, Int.reduceLT, Int.reduceNeg, Int.reduceToNat, Int.reduceEq, Int.reduceAdd, Int.reduceSub, Int.reduceMul, Int.reduceBEq, Int.reduceBNe, Blk.men, Blk.keysIn, hr, hd, hd2])) ?_)
    | (simp (disch := omega) only [go_sem, Nat.reduceLT, Nat.reduceLeDiff, Nat.reduceAdd, Nat.reduceMul, Nat.reduceEqDiff, ↓reduceIte, reduceCtorEq, Nat.reduceBEq, Nat.reduceBNe, Nat.reducePow, Int.reduceLE, Int.reduceLT, Int.reduceNeg, Int.reduceToNat, Int.reduceEq, Int.reduceAdd, Int.reduceSub, Int.reduceMul, Int.reduceBEq, Int.reduceBNe, Blk.men, Blk.keysIn, hr, hd, hd2])
    | (exact retS_of rfl rfl rfl)
    | (refine DW.cond_tt rfl ?_)
    | (refine call_c (c86 r) (by decide) ?_)
    | (refine call_c (hfn) (by decide) ?_)
    | (refine DW.cond_ff rfl ?_)
    | (refine DW.cond rfl ?_ ?_ <;> intro hc <;> (try simp only [go_sem] at hc))
    | (refine g_split ?_ ?_ <;> intro hc <;> (try simp only [hc]) <;> (try simp only [go_sem] at hc)))
    refine retS_wk rfl ?_ (by simp only [Blk.nb, rowC_nb, D.nb, D.nbs, C.nb, C.nbs, C.nbss, rows_nb eI_nb, rows_nb eC_nb, rows_nb eL_nb, rows_nb eR_nb, rows_nb eS_nb, rows_nb eG_nb, Bool.and_true, Bool.not_false, Bool.and_self, bD, dI, iD]); exact .tup (.cons (.nil _ _) (.cons (.nil _ _) (.cons (.refl _) .nil)))
  | false =>
  rw [ha] at hfn
  cases hw : wthn 0 2400 mins with
  | false =>
    have he : opErr r rooms mins = 3 := by simp only [opErr, hr, h50, hne, ha, hw, if_true, if_false, Bool.true_eq_false, Bool.false_eq_true, ne_eq, not_true_eq_false]
    rw [hw] at h88
    rw [he, fin he (by decide), fin he (by decide)]
    refine DCall.of Try.func39 sf39 hb39 (Nat.le_of_ble_eq_true rfl) (okRes_nil fun _ => rfl) ?_; simp only [s39, idxs, Nat.reduceAdd]
    repeat' (first
    | (with_reducible refine DW.seq ?_)
    | (with_reducible refine DW.block ?_)
    | (with_reducible refine DW.skip ?_)
    | (with_reducible refine DW.exit ?_)
    | (with_reducible refine DW.ret ?_)
    | (with_reducible refine DW.reg ?_)
    | (refine DW.dreg rfl (WF.of (by first | rfl | simp (disch := omega) only [go_sem, Nat.reduceLT, Nat.reduceLeDiff, Nat.reduceAdd, Nat.reduceMul, Nat.reduceEqDiff, ↓reduceIte, reduceCtorEq, Nat.reduceBEq, Nat.reduceBNe, Nat.reducePow, Int.reduceLE, Int.reduceLT, Int.reduceNeg, Int.reduceToNat, Int.reduceEq, Int.reduceAdd, Int.reduceSub, Int.reduceMul, Int.reduceBEq, Int.reduceBNe, Blk.men, Blk.keysIn, hr, hd, hd2])) ?_)
    | (simp (disch := omega) only [go_sem, Nat.reduceLT, Nat.reduceLeDiff, Nat.reduceAdd, Nat.reduceMul, Nat.reduceEqDiff, ↓reduceIte, reduceCtorEq, Nat.reduceBEq, Nat.reduceBNe, Nat.reducePow, Int.reduceLE, Int.reduceLT, Int.reduceNeg, Int.reduceToNat, Int.reduceEq, Int.reduceAdd, Int.reduceSub, Int.reduceMul, Int.reduceBEq, Int.reduceBNe, Blk.men, Blk.keysIn, hr, hd, hd2])
    | (exact retS_of rfl rfl rfl)
    | (refine DW.cond_tt rfl ?_)
    | (refine call_c (c86 r) (by decide) ?_)
    | (refine call_c (hfn) (by decide) ?_)
    | (refine call_c (h88) (by decide) ?_)
    | (refine DW.cond_ff rfl ?_)
    | (refine DW.cond rfl ?_ ?_ <;> intro hc <;> (try simp only [go_sem] at hc))
    | (refine g_split ?_ ?_ <;> intro hc <;> (try simp only [hc]) <;> (try simp only [go_sem] at hc)))
    refine retS_wk rfl ?_ (by simp only [Blk.nb, rowC_nb, D.nb, D.nbs, C.nb, C.nbs, C.nbss, rows_nb eI_nb, rows_nb eC_nb, rows_nb eL_nb, rows_nb eR_nb, rows_nb eS_nb, rows_nb eG_nb, Bool.and_true, Bool.not_false, Bool.and_self, bD, dI, iD]); exact .tup (.cons (.nil _ _) (.cons (.nil _ _) (.cons (.refl _) .nil)))
  | true =>
    have he : opErr r rooms mins = 0 := by simp only [opErr, hr, h50, hne, ha, hw, if_true, if_false, Bool.true_eq_false, Bool.false_eq_true, ne_eq, not_true_eq_false]
    have ho : ∀ f, opOut f r rooms mins = opF f rooms mins rooms.length := fun f => by simp only [opOut, he, if_true]
    rw [hw] at h88
    rw [he, ho, ho]
    refine DCall.of Try.func39 sf39 hb39 (Nat.le_of_ble_eq_true rfl) (okRes_nil fun _ => rfl) ?_; simp only [s39, idxs, Nat.reduceAdd]
    repeat' (first
    | (with_reducible refine DW.seq ?_)
    | (with_reducible refine DW.block ?_)
    | (with_reducible refine DW.skip ?_)
    | (with_reducible refine DW.exit ?_)
    | (with_reducible refine DW.ret ?_)
    | (with_reducible refine DW.reg ?_)
    | (refine DW.dreg rfl (WF.of (by first | rfl | simp (disch := omega) only [go_sem, Nat.reduceLT, Nat.reduceLeDiff, Nat.reduceAdd, Nat.reduceMul, Nat.reduceEqDiff, ↓reduceIte, reduceCtorEq, Nat.reduceBEq, Nat.reduceBNe, Nat.reducePow, Int.reduceLE, Int.reduceLT, Int.reduceNeg, Int.reduceToNat, Int.reduceEq, Int.reduceAdd, Int.reduceSub, Int.reduceMul, Int.reduceBEq, Int.reduceBNe, Blk.men, Blk.keysIn, hr, hd, hd2])) ?_)
    | (simp (disch := omega) only [go_sem, Nat.reduceLT, Nat.reduceLeDiff, Nat.reduceAdd, Nat.reduceMul, Nat.reduceEqDiff, ↓reduceIte, reduceCtorEq, Nat.reduceBEq, Nat.reduceBNe, Nat.reducePow, Int.reduceLE, Int.reduceLT, Int.reduceNeg, Int.reduceToNat, Int.reduceEq, Int.reduceAdd, Int.reduceSub, Int.reduceMul, Int.reduceBEq, Int.reduceBNe, Blk.men, Blk.keysIn, hr, hd, hd2])
    | (exact retS_of rfl rfl rfl)
    | (refine DW.cond_tt rfl ?_)
    | (refine call_c (c86 r) (by decide) ?_)
    | (refine call_c (hfn) (by decide) ?_)
    | (refine call_c (h88) (by decide) ?_)
    | (refine DW.cond_ff rfl ?_)
    | (refine DW.cond rfl ?_ ?_ <;> intro hc <;> (try simp only [go_sem] at hc))
    | (refine g_split ?_ ?_ <;> intro hc <;> (try simp only [hc]) <;> (try simp only [go_sem] at hc)))
    refine DW.ent (Ent.adopt 6 55 1 rfl rfl rfl) ?_
    simp (disch := omega) only [go_sem, Nat.reduceLT, Nat.reduceLeDiff, Nat.reduceAdd, Nat.reduceMul, Nat.reduceEqDiff, ↓reduceIte, reduceCtorEq, Nat.reduceBEq, Nat.reduceBNe, Nat.reducePow, Int.reduceLE, Int.reduceLT, Int.reduceNeg, Int.reduceToNat, Int.reduceEq, Int.reduceAdd, Int.reduceSub, Int.reduceMul, Int.reduceBEq, Int.reduceBNe, Blk.men, Blk.keysIn]
    refine DW.ent (Ent.adopt 7 66 1 rfl rfl rfl) ?_
    simp (disch := omega) only [go_sem, Nat.reduceLT, Nat.reduceLeDiff, Nat.reduceAdd, Nat.reduceMul, Nat.reduceEqDiff, ↓reduceIte, reduceCtorEq, Nat.reduceBEq, Nat.reduceBNe, Nat.reducePow, Int.reduceLE, Int.reduceLT, Int.reduceNeg, Int.reduceToNat, Int.reduceEq, Int.reduceAdd, Int.reduceSub, Int.reduceMul, Int.reduceBEq, Int.reduceBNe, Blk.men, Blk.keysIn]
    refine DW.loop (ι := { i : Nat // i ≤ rooms.length }) (fun i => ⟨70, [(36, dI i.1), (35, dI rooms.length), (34, .c (.sl b 4 (rows eR rooms))), (7, .own 66), (6, .own 55), (3, .box 3 0), (2, dIs b2 mins)],
      [(66, .row 1 (rowC (rows eI (nL (opF (pressHi r) rooms mins i.1))))), (55, .row 1 (rowC (rows eI (nL (opF (pressLo r) rooms mins i.1))))), (3, .box [dI r.mins, dI r.deg, dI r.damp])]⟩) (fun i => rooms.length - i.1) ⟨0, Nat.zero_le _⟩ ?_ ?_
    · refine Ent.to ?_ ?_ <;> simp (disch := omega) only [wkT_cons, wkX_cons, wkT_nil, wkX_nil, get, Nat.reduceEqDiff, ↓reduceIte, ex_some, wk_self, wk_top, wk_nil, wkB_self, and_self, dI, i64_in, and_true, true_and, Int.natCast_add, Int.natCast_one, Int.ofNat_zero, Int.natCast_zero]
      exact ⟨.refl _, .refl _⟩
    rintro ⟨i, hi⟩
    dsimp only
    rcases at_or rooms i hi with ⟨m, hm0, hlt, hdd⟩ | ⟨hend, hdd⟩
    · obtain ⟨v, hv⟩ := getE (l := mins) (i := i) (by omega)
      have hok : roomOk m = true := by
        have := List.any_eq_false.1 ha m (List.mem_of_getElem? hm0)
        simpa using this
      have h89 := c89 r m hr hok
      have hl1 := opF_succ (f := pressLo r) hm0 hv
      have hl2 := opF_succ (f := pressHi r) hm0 hv
      have hn1 := opF_len (pressLo r) rooms mins i
      have hn2 := opF_len (pressHi r) rooms mins i
      generalize opF (pressLo r) rooms mins i = a at *
      generalize opF (pressHi r) rooms mins i = c at *
      generalize pressLo r m = lo at *
      generalize pressHi r m = hi' at *
      have hal : (nL a).length + 1 ≤ 17592186044416 := by rw [nL_length]; omega
      have hcl : (nL c).length + 1 ≤ 17592186044416 := by rw [nL_length]; omega
      have hil : (i < mins.length) = True := eq_true (by omega)
      cases h1 : decide (v < lo) with
      | false =>
        simp only [h1, Bool.false_eq_true, if_false, List.append_nil] at hl1
        cases h2 : decide (v < hi') with
        | false =>
          simp only [h2, Bool.false_eq_true, if_false, List.append_nil] at hl2
          repeat' (first
    | (with_reducible refine DW.seq ?_)
    | (with_reducible refine DW.block ?_)
    | (with_reducible refine DW.skip ?_)
    | (with_reducible refine DW.exit ?_)
    | (with_reducible refine DW.ret ?_)
    | (with_reducible refine DW.reg ?_)
    | (refine DW.dreg rfl (WF.of (by first | rfl | simp (disch := omega) only [go_sem, Nat.reduceLT, Nat.reduceLeDiff, Nat.reduceAdd, Nat.reduceMul, Nat.reduceEqDiff, ↓reduceIte, reduceCtorEq, Nat.reduceBEq, Nat.reduceBNe, Nat.reducePow, Int.reduceLE, Int.reduceLT, Int.reduceNeg, Int.reduceToNat, Int.reduceEq, Int.reduceAdd, Int.reduceSub, Int.reduceMul, Int.reduceBEq, Int.reduceBNe, Blk.men, Blk.keysIn, hdd, hm0, hv, hil, h1, h2])) ?_)
    | (simp (disch := omega) only [go_sem, Nat.reduceLT, Nat.reduceLeDiff, Nat.reduceAdd, Nat.reduceMul, Nat.reduceEqDiff, ↓reduceIte, reduceCtorEq, Nat.reduceBEq, Nat.reduceBNe, Nat.reducePow, Int.reduceLE, Int.reduceLT, Int.reduceNeg, Int.reduceToNat, Int.reduceEq, Int.reduceAdd, Int.reduceSub, Int.reduceMul, Int.reduceBEq, Int.reduceBNe, Blk.men, Blk.keysIn, hdd, hm0, hv, hil, h1, h2])
    | (exact retS_of rfl rfl rfl)
    | (refine DW.cond_tt rfl ?_)
    | (refine call_c (h89) (by decide) ?_)
    | (refine call_c (c90 _ _) (by decide) ?_)
    | (refine DW.cond_ff rfl ?_)
    | (refine DW.cond rfl ?_ ?_ <;> intro hc <;> (try simp only [go_sem] at hc))
    | (refine g_split ?_ ?_ <;> intro hc <;> (try simp only [hc]) <;> (try simp only [go_sem] at hc)))
          refine ⟨⟨i + 1, hlt⟩, ?_, Ent.to ?_ ?_⟩ <;> first | (show _ < _; (try simp only); omega) | (simp (disch := omega) only [wkT_cons, wkX_cons, wkT_nil, wkX_nil, get, Nat.reduceEqDiff, ↓reduceIte, ex_some, wk_self, wk_top, wk_nil, wkB_self, and_self, dI, i64_in, and_true, true_and, Int.natCast_add, Int.natCast_one, Int.ofNat_zero, Int.natCast_zero,  hl1, hl2])
        | true =>
          simp only [h2, if_true] at hl2
          repeat' (first
    | (with_reducible refine DW.seq ?_)
    | (with_reducible refine DW.block ?_)
    | (with_reducible refine DW.skip ?_)
    | (with_reducible refine DW.exit ?_)
    | (with_reducible refine DW.ret ?_)
    | (with_reducible refine DW.reg ?_)
    | (refine DW.dreg rfl (WF.of (by first | rfl | simp (disch := omega) only [go_sem, Nat.reduceLT, Nat.reduceLeDiff, Nat.reduceAdd, Nat.reduceMul, Nat.reduceEqDiff, ↓reduceIte, reduceCtorEq, Nat.reduceBEq, Nat.reduceBNe, Nat.reducePow, Int.reduceLE, Int.reduceLT, Int.reduceNeg, Int.reduceToNat, Int.reduceEq, Int.reduceAdd, Int.reduceSub, Int.reduceMul, Int.reduceBEq, Int.reduceBNe, Blk.men, Blk.keysIn, hdd, hm0, hv, hil, h1, h2])) ?_)
    | (simp (disch := omega) only [go_sem, Nat.reduceLT, Nat.reduceLeDiff, Nat.reduceAdd, Nat.reduceMul, Nat.reduceEqDiff, ↓reduceIte, reduceCtorEq, Nat.reduceBEq, Nat.reduceBNe, Nat.reducePow, Int.reduceLE, Int.reduceLT, Int.reduceNeg, Int.reduceToNat, Int.reduceEq, Int.reduceAdd, Int.reduceSub, Int.reduceMul, Int.reduceBEq, Int.reduceBNe, Blk.men, Blk.keysIn, hdd, hm0, hv, hil, h1, h2])
    | (exact retS_of rfl rfl rfl)
    | (refine DW.cond_tt rfl ?_)
    | (refine call_c (h89) (by decide) ?_)
    | (refine call_c (c90 _ _) (by decide) ?_)
    | (refine DW.cond_ff rfl ?_)
    | (refine DW.cond rfl ?_ ?_ <;> intro hc <;> (try simp only [go_sem] at hc))
    | (refine g_split ?_ ?_ <;> intro hc <;> (try simp only [hc]) <;> (try simp only [go_sem] at hc)))
          refine ⟨⟨i + 1, hlt⟩, ?_, Ent.to ?_ ?_⟩ <;> first | (show _ < _; (try simp only); omega) | (simp (disch := omega) only [wkT_cons, wkX_cons, wkT_nil, wkX_nil, get, Nat.reduceEqDiff, ↓reduceIte, ex_some, wk_self, wk_top, wk_nil, wkB_self, and_self, dI, i64_in, and_true, true_and, Int.natCast_add, Int.natCast_one, Int.ofNat_zero, Int.natCast_zero,  hl1, hl2, ← nL_snoc])
      | true =>
        simp only [h1, if_true] at hl1
        cases h2 : decide (v < hi') with
        | false =>
          simp only [h2, Bool.false_eq_true, if_false, List.append_nil] at hl2
          repeat' (first
    | (with_reducible refine DW.seq ?_)
    | (with_reducible refine DW.block ?_)
    | (with_reducible refine DW.skip ?_)
    | (with_reducible refine DW.exit ?_)
    | (with_reducible refine DW.ret ?_)
    | (with_reducible refine DW.reg ?_)
    | (refine DW.dreg rfl (WF.of (by first | rfl | simp (disch := omega) only [go_sem, Nat.reduceLT, Nat.reduceLeDiff, Nat.reduceAdd, Nat.reduceMul, Nat.reduceEqDiff, ↓reduceIte, reduceCtorEq, Nat.reduceBEq, Nat.reduceBNe, Nat.reducePow, Int.reduceLE, Int.reduceLT, Int.reduceNeg, Int.reduceToNat, Int.reduceEq, Int.reduceAdd, Int.reduceSub, Int.reduceMul, Int.reduceBEq, Int.reduceBNe, Blk.men, Blk.keysIn, hdd, hm0, hv, hil, h1, h2])) ?_)
    | (simp (disch := omega) only [go_sem, Nat.reduceLT, Nat.reduceLeDiff, Nat.reduceAdd, Nat.reduceMul, Nat.reduceEqDiff, ↓reduceIte, reduceCtorEq, Nat.reduceBEq, Nat.reduceBNe, Nat.reducePow, Int.reduceLE, Int.reduceLT, Int.reduceNeg, Int.reduceToNat, Int.reduceEq, Int.reduceAdd, Int.reduceSub, Int.reduceMul, Int.reduceBEq, Int.reduceBNe, Blk.men, Blk.keysIn, hdd, hm0, hv, hil, h1, h2])
    | (exact retS_of rfl rfl rfl)
    | (refine DW.cond_tt rfl ?_)
    | (refine call_c (h89) (by decide) ?_)
    | (refine call_c (c90 _ _) (by decide) ?_)
    | (refine DW.cond_ff rfl ?_)
    | (refine DW.cond rfl ?_ ?_ <;> intro hc <;> (try simp only [go_sem] at hc))
    | (refine g_split ?_ ?_ <;> intro hc <;> (try simp only [hc]) <;> (try simp only [go_sem] at hc)))
          refine ⟨⟨i + 1, hlt⟩, ?_, Ent.to ?_ ?_⟩ <;> first | (show _ < _; (try simp only); omega) | (simp (disch := omega) only [wkT_cons, wkX_cons, wkT_nil, wkX_nil, get, Nat.reduceEqDiff, ↓reduceIte, ex_some, wk_self, wk_top, wk_nil, wkB_self, and_self, dI, i64_in, and_true, true_and, Int.natCast_add, Int.natCast_one, Int.ofNat_zero, Int.natCast_zero,  hl1, hl2, ← nL_snoc])
        | true =>
          simp only [h2, if_true] at hl2
          repeat' (first
    | (with_reducible refine DW.seq ?_)
    | (with_reducible refine DW.block ?_)
    | (with_reducible refine DW.skip ?_)
    | (with_reducible refine DW.exit ?_)
    | (with_reducible refine DW.ret ?_)
    | (with_reducible refine DW.reg ?_)
    | (refine DW.dreg rfl (WF.of (by first | rfl | simp (disch := omega) only [go_sem, Nat.reduceLT, Nat.reduceLeDiff, Nat.reduceAdd, Nat.reduceMul, Nat.reduceEqDiff, ↓reduceIte, reduceCtorEq, Nat.reduceBEq, Nat.reduceBNe, Nat.reducePow, Int.reduceLE, Int.reduceLT, Int.reduceNeg, Int.reduceToNat, Int.reduceEq, Int.reduceAdd, Int.reduceSub, Int.reduceMul, Int.reduceBEq, Int.reduceBNe, Blk.men, Blk.keysIn, hdd, hm0, hv, hil, h1, h2])) ?_)
    | (simp (disch := omega) only [go_sem, Nat.reduceLT, Nat.reduceLeDiff, Nat.reduceAdd, Nat.reduceMul, Nat.reduceEqDiff, ↓reduceIte, reduceCtorEq, Nat.reduceBEq, Nat.reduceBNe, Nat.reducePow, Int.reduceLE, Int.reduceLT, Int.reduceNeg, Int.reduceToNat, Int.reduceEq, Int.reduceAdd, Int.reduceSub, Int.reduceMul, Int.reduceBEq, Int.reduceBNe, Blk.men, Blk.keysIn, hdd, hm0, hv, hil, h1, h2])
    | (exact retS_of rfl rfl rfl)
    | (refine DW.cond_tt rfl ?_)
    | (refine call_c (h89) (by decide) ?_)
    | (refine call_c (c90 _ _) (by decide) ?_)
    | (refine DW.cond_ff rfl ?_)
    | (refine DW.cond rfl ?_ ?_ <;> intro hc <;> (try simp only [go_sem] at hc))
    | (refine g_split ?_ ?_ <;> intro hc <;> (try simp only [hc]) <;> (try simp only [go_sem] at hc)))
          refine ⟨⟨i + 1, hlt⟩, ?_, Ent.to ?_ ?_⟩ <;> first | (show _ < _; (try simp only); omega) | (simp (disch := omega) only [wkT_cons, wkX_cons, wkT_nil, wkX_nil, get, Nat.reduceEqDiff, ↓reduceIte, ex_some, wk_self, wk_top, wk_nil, wkB_self, and_self, dI, i64_in, and_true, true_and, Int.natCast_add, Int.natCast_one, Int.ofNat_zero, Int.natCast_zero,  hl1, hl2, ← nL_snoc])
    · repeat' (first
    | (with_reducible refine DW.seq ?_)
    | (with_reducible refine DW.block ?_)
    | (with_reducible refine DW.skip ?_)
    | (with_reducible refine DW.exit ?_)
    | (with_reducible refine DW.ret ?_)
    | (with_reducible refine DW.reg ?_)
    | (refine DW.dreg rfl (WF.of (by first | rfl | simp (disch := omega) only [go_sem, Nat.reduceLT, Nat.reduceLeDiff, Nat.reduceAdd, Nat.reduceMul, Nat.reduceEqDiff, ↓reduceIte, reduceCtorEq, Nat.reduceBEq, Nat.reduceBNe, Nat.reducePow, Int.reduceLE, Int.reduceLT, Int.reduceNeg, Int.reduceToNat, Int.reduceEq, Int.reduceAdd, Int.reduceSub, Int.reduceMul, Int.reduceBEq, Int.reduceBNe, Blk.men, Blk.keysIn, hdd])) ?_)
    | (simp (disch := omega) only [go_sem, Nat.reduceLT, Nat.reduceLeDiff, Nat.reduceAdd, Nat.reduceMul, Nat.reduceEqDiff, ↓reduceIte, reduceCtorEq, Nat.reduceBEq, Nat.reduceBNe, Nat.reducePow, Int.reduceLE, Int.reduceLT, Int.reduceNeg, Int.reduceToNat, Int.reduceEq, Int.reduceAdd, Int.reduceSub, Int.reduceMul, Int.reduceBEq, Int.reduceBNe, Blk.men, Blk.keysIn, hdd])
    | (exact retS_of rfl rfl rfl)
    | (refine DW.cond_tt rfl ?_)
    | (refine DW.cond_ff rfl ?_)
    | (refine DW.cond rfl ?_ ?_ <;> intro hc <;> (try simp only [go_sem] at hc))
    | (refine g_split ?_ ?_ <;> intro hc <;> (try simp only [hc]) <;> (try simp only [go_sem] at hc)))
      subst hend
      (refine retS_ent (Ent.rel 66 rfl) ?_; simp (disch := omega) only [go_sem, Nat.reduceLT, Nat.reduceLeDiff, Nat.reduceAdd, Nat.reduceMul, Nat.reduceEqDiff, ↓reduceIte, reduceCtorEq, Nat.reduceBEq, Nat.reduceBNe, Nat.reducePow, Int.reduceLE, Int.reduceLT, Int.reduceNeg, Int.reduceToNat, Int.reduceEq, Int.reduceAdd, Int.reduceSub, Int.reduceMul, Int.reduceBEq, Int.reduceBNe, Blk.men, Blk.keysIn])
      (refine retS_ent (Ent.rel 55 rfl) ?_; simp (disch := omega) only [go_sem, Nat.reduceLT, Nat.reduceLeDiff, Nat.reduceAdd, Nat.reduceMul, Nat.reduceEqDiff, ↓reduceIte, reduceCtorEq, Nat.reduceBEq, Nat.reduceBNe, Nat.reducePow, Int.reduceLE, Int.reduceLT, Int.reduceNeg, Int.reduceToNat, Int.reduceEq, Int.reduceAdd, Int.reduceSub, Int.reduceMul, Int.reduceBEq, Int.reduceBNe, Blk.men, Blk.keysIn])
      refine retS_wk rfl ?_ (by simp only [Blk.nb, rowC_nb, D.nb, D.nbs, C.nb, C.nbs, C.nbss, rows_nb eI_nb, rows_nb eC_nb, rows_nb eL_nb, rows_nb eR_nb, rows_nb eS_nb, rows_nb eG_nb, Bool.and_true, Bool.not_false, Bool.and_self, bD, dI, iD]); exact .refl _
end Go.Dw.Seat
end
section
set_option linter.unusedSimpArgs false
namespace Go.Dw.Seat
open Go Go.Dw
theorem time_mono {r : Rule} {w d w' d' : Int} (hr : ruleOk r = true) (hw : w' ≤ w) (hd : d ≤ d') : timeI r w d ≤ timeI r w' d' := by
  obtain ⟨r1, r2, r3⟩ := ruleOk_in hr
  have h1 : r.deg * w' ≤ r.deg * w := Int.mul_le_mul_of_nonneg_left hw r2.1
  have h2 : r.damp * d ≤ r.damp * d' := Int.mul_le_mul_of_nonneg_left hd r3.1
  have h3 : r.mins * (1000 - r.deg * w + r.damp * d) ≤ r.mins * (1000 - r.deg * w' + r.damp * d') := Int.mul_le_mul_of_nonneg_left (by omega) (by omega)
  unfold timeI
  generalize r.mins * (1000 - r.deg * w + r.damp * d) = n at *
  generalize r.mins * (1000 - r.deg * w' + r.damp * d') = m at *
  omega
theorem time_in {r : Rule} {w d : Int} (hr : ruleOk r = true) (hw : 0 ≤ w ∧ w ≤ 30) (hd : 0 ≤ d ∧ d ≤ 100) : 0 ≤ timeI r w d ∧ timeI r w d ≤ 2000 := by
  obtain ⟨r1, r2, r3⟩ := ruleOk_in hr
  have e1 := mulB r2 hw
  have e2 := mulB r3 hd
  have e3 := mulB (show 0 ≤ r.mins ∧ r.mins ≤ 600 by omega) (show 0 ≤ 1000 - r.deg * w + r.damp * d ∧ 1000 - r.deg * w + r.damp * d ≤ 3000 by omega)
  unfold timeI
  generalize r.mins * (1000 - r.deg * w + r.damp * d) = n at *
  omega
end Go.Dw.Seat
end
section
set_option linter.unusedSimpArgs false
set_option maxRecDepth 100000
namespace Go.Dw.Seat
open Go Go.Dw Go.Proofs Go.IntWalk
theorem crW1 (n lo hi : Int) (p q : Bool) : DCall Try.prog 91 [dI n, .c (.ro p [.v (.int .i64 lo)] 0), .c (.ro q [.v (.int .i64 hi)] 0)] [] (bD (decide (n < lo) || decide (hi < n))) [] := by
  refine DCall.of Try.func91 sf91 hb91 (Nat.le_of_ble_eq_true rfl) (okRes_nil fun _ => rfl) ?_; simp only [s91, idxs, Nat.reduceAdd]
  repeat' (first
    | (with_reducible refine DW.seq ?_)
    | (with_reducible refine DW.block ?_)
    | (with_reducible refine DW.skip ?_)
    | (with_reducible refine DW.exit ?_)
    | (with_reducible refine DW.ret ?_)
    | (with_reducible refine DW.reg ?_)
    | (simp (disch := omega) only [go_sem, Nat.reduceLT, Nat.reduceLeDiff, Nat.reduceAdd, Nat.reduceMul, Nat.reduceEqDiff, ↓reduceIte, reduceCtorEq, Nat.reduceBEq, Nat.reduceBNe, Nat.reducePow, Int.reduceLE, Int.reduceLT, Int.reduceNeg, Int.reduceToNat, Int.reduceEq, Int.reduceAdd, Int.reduceSub, Int.reduceMul, Int.reduceBEq, Int.reduceBNe, Blk.men, Blk.keysIn])
    | (exact retS_of rfl rfl rfl)
    | (refine DW.cond_tt rfl ?_)
    | (refine DW.cond_ff rfl ?_)
    | (refine DW.cond rfl ?_ ?_ <;> intro hc <;> (try simp only [go_sem] at hc))
    | (refine g_split ?_ ?_ <;> intro hc <;> (try simp only [hc]) <;> (try simp only [go_sem] at hc)))
theorem crWithin (b : Bool) (lo hi : Int) (l : List Int) (hl : l.length ≤ 2 ^ 36) : DCall Try.prog 52 [dI lo, dI hi, dIs b l] [] (bD (wthn lo hi l)) [] := by
  refine DCall.of Try.func52 sf52 hb52 (Nat.le_of_ble_eq_true rfl) (okRes_nil fun _ => rfl) ?_; simp only [s52, idxs, Nat.reduceAdd]
  repeat' (first
    | (with_reducible refine DW.seq ?_)
    | (with_reducible refine DW.block ?_)
    | (with_reducible refine DW.skip ?_)
    | (with_reducible refine DW.exit ?_)
    | (with_reducible refine DW.ret ?_)
    | (with_reducible refine DW.reg ?_)
    | (simp (disch := omega) only [go_sem, Nat.reduceLT, Nat.reduceLeDiff, Nat.reduceAdd, Nat.reduceMul, Nat.reduceEqDiff, ↓reduceIte, reduceCtorEq, Nat.reduceBEq, Nat.reduceBNe, Nat.reducePow, Int.reduceLE, Int.reduceLT, Int.reduceNeg, Int.reduceToNat, Int.reduceEq, Int.reduceAdd, Int.reduceSub, Int.reduceMul, Int.reduceBEq, Int.reduceBNe, Blk.men, Blk.keysIn])
    | (exact retS_of rfl rfl rfl)
    | (refine DW.cond_tt rfl ?_)
    | (refine DW.cond_ff rfl ?_)
    | (refine DW.cond rfl ?_ ?_ <;> intro hc <;> (try simp only [go_sem] at hc))
    | (refine g_split ?_ ?_ <;> intro hc <;> (try simp only [hc]) <;> (try simp only [go_sem] at hc)))
  (refine call_c (c110 b l hl 91 [] [.ro true [.v (.int .i64 lo)] 0, .ro true [.v (.int .i64 hi)] 0] (fun n => decide (n < lo) || decide (hi < n)) (fun x _ => crW1 x lo hi true true)) (by decide) ?_; simp (disch := omega) only [go_sem, Nat.reduceLT, Nat.reduceLeDiff, Nat.reduceAdd, Nat.reduceMul, Nat.reduceEqDiff, ↓reduceIte, reduceCtorEq, Nat.reduceBEq, Nat.reduceBNe, Nat.reducePow, Int.reduceLE, Int.reduceLT, Int.reduceNeg, Int.reduceToNat, Int.reduceEq, Int.reduceAdd, Int.reduceSub, Int.reduceMul, Int.reduceBEq, Int.reduceBNe, Blk.men, Blk.keysIn])
  repeat' (first
    | (with_reducible refine DW.seq ?_)
    | (with_reducible refine DW.block ?_)
    | (with_reducible refine DW.skip ?_)
    | (with_reducible refine DW.exit ?_)
    | (with_reducible refine DW.ret ?_)
    | (with_reducible refine DW.reg ?_)
    | (simp (disch := omega) only [go_sem, Nat.reduceLT, Nat.reduceLeDiff, Nat.reduceAdd, Nat.reduceMul, Nat.reduceEqDiff, ↓reduceIte, reduceCtorEq, Nat.reduceBEq, Nat.reduceBNe, Nat.reducePow, Int.reduceLE, Int.reduceLT, Int.reduceNeg, Int.reduceToNat, Int.reduceEq, Int.reduceAdd, Int.reduceSub, Int.reduceMul, Int.reduceBEq, Int.reduceBNe, Blk.men, Blk.keysIn])
    | (exact retS_of rfl rfl rfl)
    | (refine DW.cond_tt rfl ?_)
    | (refine DW.cond_ff rfl ?_)
    | (refine DW.cond rfl ?_ ?_ <;> intro hc <;> (try simp only [go_sem] at hc))
    | (refine g_split ?_ ?_ <;> intro hc <;> (try simp only [hc]) <;> (try simp only [go_sem] at hc)))
structure CR where
  tests : Int
  mean : Int
  low : Int
  bad : Int
abbrev dCR (r : CR) : D := .agg [dI r.tests, dI r.mean, dI r.low, dI r.bad]
structure CLot where
  off : Int
  made : Int
  ws : Int
  wb : Int
  bs : Int
  bb : Int
abbrev dLot (r : CR) (l : CLot) : D := .agg [dI r.tests, dI r.mean, dI r.low, dI r.bad, dI l.off, dI l.made, dI l.ws, dI l.wb, dI l.bs, dI l.bb]
attribute [go_sem] dCR dLot
structure CRok (r : CR) (rs : List Int) (off : Int) : Prop where
  tests : 1 ≤ r.tests ∧ r.tests ≤ 20
  mean : 0 ≤ r.mean ∧ r.mean ≤ 100000
  low : 0 ≤ r.low ∧ r.low ≤ 100000
  bad : 0 ≤ r.bad ∧ r.bad ≤ r.tests
  off : 0 ≤ off ∧ off ≤ 1000
  len : rs.length ≤ r.tests
  rs : ∀ x ∈ rs, 0 ≤ x ∧ x ≤ 100000
theorem wthn_yes {lo hi : Int} {l : List Int} (h : ∀ v ∈ l, lo ≤ v ∧ v ≤ hi) : wthn lo hi l = true := by
  simp only [wthn, Bool.not_eq_true', List.any_eq_false, Bool.or_eq_true, decide_eq_true_eq]
  intro v hv
  have := h v hv
  omega
theorem crRule (b : Bool) (r : CR) (rs : List Int) (off : Int) (h : CRok r rs off) : DCall Try.prog 41 [dCR r, dIs b rs, dI off] [] (dI 0) [] := by
  have hlen := h.len
  have ht := h.tests
  have h1 := crWithin true 1 20 [r.tests] (by simp)
  have h2 := crWithin true 0 100000 [r.mean, r.low] (by simp)
  have h3 := crWithin true 0 r.tests [r.bad] (by simp)
  have h4 := crWithin true 0 1000 [off] (by simp)
  have h5 := crWithin b 0 100000 rs (by omega)
  rw [wthn_yes (by have := h.tests; simpa using this)] at h1
  rw [wthn_yes (by have h1 := h.mean; have h2 := h.low; simp; omega)] at h2
  rw [wthn_yes (by have := h.bad; simpa using this)] at h3
  rw [wthn_yes (by have := h.off; simpa using this)] at h4
  rw [wthn_yes h.rs] at h5
  have hd : decide (r.tests < (rs.length : Int)) = false := by rw [decide_eq_false_iff_not]; omega
  refine DCall.of Try.func41 sf41 hb41 (Nat.le_of_ble_eq_true rfl) (okRes_nil fun _ => rfl) ?_; simp only [s41, idxs, Nat.reduceAdd]
  repeat' (first
    | (with_reducible refine DW.seq ?_)
    | (with_reducible refine DW.block ?_)
    | (with_reducible refine DW.skip ?_)
    | (with_reducible refine DW.exit ?_)
    | (with_reducible refine DW.ret ?_)
    | (with_reducible refine DW.reg ?_)
    | (simp (disch := omega) only [go_sem, Nat.reduceLT, Nat.reduceLeDiff, Nat.reduceAdd, Nat.reduceMul, Nat.reduceEqDiff, ↓reduceIte, reduceCtorEq, Nat.reduceBEq, Nat.reduceBNe, Nat.reducePow, Int.reduceLE, Int.reduceLT, Int.reduceNeg, Int.reduceToNat, Int.reduceEq, Int.reduceAdd, Int.reduceSub, Int.reduceMul, Int.reduceBEq, Int.reduceBNe, Blk.men, Blk.keysIn, hd])
    | (exact retS_of rfl rfl rfl)
    | (refine DW.cond_tt rfl ?_)
    | (refine call_c (h1) (by decide) ?_)
    | (refine call_c (h2) (by decide) ?_)
    | (refine call_c (h3) (by decide) ?_)
    | (refine call_c (h4) (by decide) ?_)
    | (refine call_c (h5) (by decide) ?_)
    | (refine DW.cond_ff rfl ?_)
    | (refine DW.cond rfl ?_ ?_ <;> intro hc <;> (try simp only [go_sem] at hc))
    | (refine g_split ?_ ?_ <;> intro hc <;> (try simp only [hc]) <;> (try simp only [go_sem] at hc)))
def lowT (off x : Int) : Int := if 0 < x - off then x - off else 0
def highT (off x : Int) : Int := if x + off < 100000 then x + off else 100000
theorem crTruth (off x : Int) (h1 : 0 ≤ off ∧ off ≤ 1000) (h2 : 0 ≤ x ∧ x ≤ 100000) : DCall Try.prog 117 [dI off, dI x] [] (.agg [dI (lowT off x), dI (highT off x)]) [] := by
  refine DCall.of Try.func117 sf117 hb117 (Nat.le_of_ble_eq_true rfl) (okRes_nil fun _ => rfl) ?_; simp only [s117, idxs, Nat.reduceAdd]
  repeat' (first
    | (with_reducible refine DW.seq ?_)
    | (with_reducible refine DW.block ?_)
    | (with_reducible refine DW.skip ?_)
    | (with_reducible refine DW.exit ?_)
    | (with_reducible refine DW.ret ?_)
    | (with_reducible refine DW.reg ?_)
    | (simp (disch := omega) only [go_sem, Nat.reduceLT, Nat.reduceLeDiff, Nat.reduceAdd, Nat.reduceMul, Nat.reduceEqDiff, ↓reduceIte, reduceCtorEq, Nat.reduceBEq, Nat.reduceBNe, Nat.reducePow, Int.reduceLE, Int.reduceLT, Int.reduceNeg, Int.reduceToNat, Int.reduceEq, Int.reduceAdd, Int.reduceSub, Int.reduceMul, Int.reduceBEq, Int.reduceBNe, Blk.men, Blk.keysIn])
    | (exact retS_of rfl rfl rfl)
    | (refine DW.cond_tt rfl ?_)
    | (refine DW.cond_ff rfl ?_)
    | (refine DW.cond rfl ?_ ?_ <;> intro hc <;> (try simp only [go_sem] at hc))
    | (refine g_split ?_ ?_ <;> intro hc <;> (try simp only [hc]) <;> (try simp only [go_sem] at hc)))
theorem crWith (s b t low : Int) (h1 : 0 ≤ s ∧ s ≤ 1099511627776) (h2 : 0 ≤ b ∧ b ≤ 1099511627776) (h3 : 0 ≤ t ∧ t ≤ 1099511627776) :
    DCall Try.prog 118 [.agg [dI s, dI b], dI t, dI low] [] (.agg [dI (s + t), dI (if t < low then b + 1 else b)]) [] := by
  by_cases h : t < low
  · have hd : decide (t < low) = true := decide_eq_true h
    rw [if_pos h]
    refine DCall.of Try.func118 sf118 hb118 (Nat.le_of_ble_eq_true rfl) (okRes_nil fun _ => rfl) ?_; simp only [s118, idxs, Nat.reduceAdd]
    repeat' (first
    | (with_reducible refine DW.seq ?_)
    | (with_reducible refine DW.block ?_)
    | (with_reducible refine DW.skip ?_)
    | (with_reducible refine DW.exit ?_)
    | (with_reducible refine DW.ret ?_)
    | (with_reducible refine DW.reg ?_)
    | (simp (disch := omega) only [go_sem, Nat.reduceLT, Nat.reduceLeDiff, Nat.reduceAdd, Nat.reduceMul, Nat.reduceEqDiff, ↓reduceIte, reduceCtorEq, Nat.reduceBEq, Nat.reduceBNe, Nat.reducePow, Int.reduceLE, Int.reduceLT, Int.reduceNeg, Int.reduceToNat, Int.reduceEq, Int.reduceAdd, Int.reduceSub, Int.reduceMul, Int.reduceBEq, Int.reduceBNe, Blk.men, Blk.keysIn, hd])
    | (exact retS_of rfl rfl rfl)
    | (refine DW.cond_tt rfl ?_)
    | (refine DW.cond_ff rfl ?_)
    | (refine DW.cond rfl ?_ ?_ <;> intro hc <;> (try simp only [go_sem] at hc))
    | (refine g_split ?_ ?_ <;> intro hc <;> (try simp only [hc]) <;> (try simp only [go_sem] at hc)))
  · have hd : decide (t < low) = false := decide_eq_false h
    rw [if_neg h]
    refine DCall.of Try.func118 sf118 hb118 (Nat.le_of_ble_eq_true rfl) (okRes_nil fun _ => rfl) ?_; simp only [s118, idxs, Nat.reduceAdd]
    repeat' (first
    | (with_reducible refine DW.seq ?_)
    | (with_reducible refine DW.block ?_)
    | (with_reducible refine DW.skip ?_)
    | (with_reducible refine DW.exit ?_)
    | (with_reducible refine DW.ret ?_)
    | (with_reducible refine DW.reg ?_)
    | (simp (disch := omega) only [go_sem, Nat.reduceLT, Nat.reduceLeDiff, Nat.reduceAdd, Nat.reduceMul, Nat.reduceEqDiff, ↓reduceIte, reduceCtorEq, Nat.reduceBEq, Nat.reduceBNe, Nat.reducePow, Int.reduceLE, Int.reduceLT, Int.reduceNeg, Int.reduceToNat, Int.reduceEq, Int.reduceAdd, Int.reduceSub, Int.reduceMul, Int.reduceBEq, Int.reduceBNe, Blk.men, Blk.keysIn, hd])
    | (exact retS_of rfl rfl rfl)
    | (refine DW.cond_tt rfl ?_)
    | (refine DW.cond_ff rfl ?_)
    | (refine DW.cond rfl ?_ ?_ <;> intro hc <;> (try simp only [go_sem] at hc))
    | (refine g_split ?_ ?_ <;> intro hc <;> (try simp only [hc]) <;> (try simp only [go_sem] at hc)))
def CLot.after (r : CR) (l : CLot) (x : Int) : CLot :=
  ⟨l.off, l.made + 1, l.ws + lowT l.off x, if lowT l.off x < r.low then l.wb + 1 else l.wb, l.bs + highT l.off x, if highT l.off x < r.low then l.bb + 1 else l.bb⟩
structure CLot.ok (l : CLot) : Prop where
  off : 0 ≤ l.off ∧ l.off ≤ 1000
  made : 0 ≤ l.made ∧ l.made ≤ 100
  ws : 0 ≤ l.ws ∧ l.ws ≤ 100000 * l.made
  wb : 0 ≤ l.wb ∧ l.wb ≤ l.made
  bs : 0 ≤ l.bs ∧ l.bs ≤ 100000 * l.made
  bb : 0 ≤ l.bb ∧ l.bb ≤ l.made
theorem lowT_in {off x : Int} (h1 : 0 ≤ off) (h2 : 0 ≤ x ∧ x ≤ 100000) : 0 ≤ lowT off x ∧ lowT off x ≤ 100000 := by
  unfold lowT; split <;> omega
theorem highT_in {off x : Int} (h1 : 0 ≤ off) (h2 : 0 ≤ x ∧ x ≤ 100000) : 0 ≤ highT off x ∧ highT off x ≤ 100000 := by
  unfold highT; split <;> omega
theorem CLot.ok_after {r : CR} {l : CLot} {x : Int} (h : l.ok) (hm : l.made < 100) (hx : 0 ≤ x ∧ x ≤ 100000) : (l.after r x).ok := by
  have h1 := lowT_in h.off.1 hx
  have h2 := highT_in h.off.1 hx
  have h3 := h.made
  have h4 := h.ws
  have h5 := h.wb
  have h6 := h.bs
  have h7 := h.bb
  refine ⟨h.off, ?_, ?_, ?_, ?_, ?_⟩ <;> simp only [CLot.after] <;> (try split) <;> omega
theorem crAfter (r : CR) (l : CLot) (x : Int) (h : l.ok) (hx : 0 ≤ x ∧ x ≤ 100000) : DCall Try.prog 75 [dLot r l, dI x] [] (dLot r (l.after r x)) [] := by
  have h1 := lowT_in h.off.1 hx
  have h2 := highT_in h.off.1 hx
  have h3 := h.made
  have h4 := h.ws
  have h5 := h.wb
  have h6 := h.bs
  have h7 := h.bb
  refine DCall.of Try.func75 sf75 hb75 (Nat.le_of_ble_eq_true rfl) (okRes_nil fun _ => rfl) ?_; simp only [s75, idxs, Nat.reduceAdd]
  repeat' (first
    | (with_reducible refine DW.seq ?_)
    | (with_reducible refine DW.block ?_)
    | (with_reducible refine DW.skip ?_)
    | (with_reducible refine DW.exit ?_)
    | (with_reducible refine DW.ret ?_)
    | (with_reducible refine DW.reg ?_)
    | (refine DW.dreg rfl (WF.of (by first | rfl | simp (disch := omega) only [go_sem, Nat.reduceLT, Nat.reduceLeDiff, Nat.reduceAdd, Nat.reduceMul, Nat.reduceEqDiff, ↓reduceIte, reduceCtorEq, Nat.reduceBEq, Nat.reduceBNe, Nat.reducePow, Int.reduceLE, Int.reduceLT, Int.reduceNeg, Int.reduceToNat, Int.reduceEq, Int.reduceAdd, Int.reduceSub, Int.reduceMul, Int.reduceBEq, Int.reduceBNe, Blk.men, Blk.keysIn])) ?_)
    | (simp (disch := omega) only [go_sem, Nat.reduceLT, Nat.reduceLeDiff, Nat.reduceAdd, Nat.reduceMul, Nat.reduceEqDiff, ↓reduceIte, reduceCtorEq, Nat.reduceBEq, Nat.reduceBNe, Nat.reducePow, Int.reduceLE, Int.reduceLT, Int.reduceNeg, Int.reduceToNat, Int.reduceEq, Int.reduceAdd, Int.reduceSub, Int.reduceMul, Int.reduceBEq, Int.reduceBNe, Blk.men, Blk.keysIn])
    | (exact retS_of rfl rfl rfl)
    | (refine DW.cond_tt rfl ?_)
    | (refine call_c (crTruth l.off x h.off hx) (by decide) ?_)
    | (refine call_c (crWith l.ws l.wb (lowT l.off x) r.low (by omega) (by omega) (by omega)) (by decide) ?_)
    | (refine call_c (crWith l.bs l.bb (highT l.off x) r.low (by omega) (by omega) (by omega)) (by decide) ?_)
    | (refine DW.cond_ff rfl ?_)
    | (refine DW.cond rfl ?_ ?_ <;> intro hc <;> (try simp only [go_sem] at hc))
    | (refine g_split ?_ ?_ <;> intro hc <;> (try simp only [hc]) <;> (try simp only [go_sem] at hc)))
def CLot.new (off : Int) : CLot := ⟨off, 0, 0, 0, 0, 0⟩
def lotOf (r : CR) (off : Int) (rs : List Int) : CLot := rs.foldl (CLot.after r) (CLot.new off)
theorem lotOf_snoc (r : CR) (off : Int) (rs : List Int) (x : Int) : lotOf r off (rs ++ [x]) = (lotOf r off rs).after r x := by simp [lotOf, List.foldl_append]
theorem lotOf_take {r : CR} {off : Int} {rs : List Int} {i : Nat} {x : Int} (h : rs[i]? = some x) : lotOf r off (rs.take (i + 1)) = (lotOf r off (rs.take i)).after r x := by
  rw [List.take_add_one, h]; exact lotOf_snoc r off _ x
theorem fold_made (r : CR) : ∀ (rs : List Int) (l : CLot), (rs.foldl (CLot.after r) l).made = l.made + rs.length ∧ (rs.foldl (CLot.after r) l).off = l.off
  | [], l => by simp
  | x :: rs, l => by
    have ih := fold_made r rs (l.after r x)
    rw [List.foldl_cons, ih.1, ih.2]
    refine ⟨?_, rfl⟩
    show l.made + 1 + (rs.length : Int) = l.made + ((rs.length + 1 : Nat) : Int)
    omega
theorem lotOf_made (r : CR) (off : Int) (rs : List Int) : (lotOf r off rs).made = rs.length ∧ (lotOf r off rs).off = off := by
  have := fold_made r rs (CLot.new off)
  unfold lotOf
  rw [this.1, this.2]
  simp [CLot.new]
theorem fold_ok (r : CR) : ∀ (rs : List Int) (l : CLot), l.ok → l.made + rs.length ≤ 100 → (∀ x ∈ rs, 0 ≤ x ∧ x ≤ 100000) → (rs.foldl (CLot.after r) l).ok
  | [], l, h, _, _ => h
  | x :: rs, l, h, h1, h2 => by
    rw [List.foldl_cons]
    rw [List.length_cons] at h1
    refine fold_ok r rs _ (CLot.ok_after h (by omega) (h2 x (by simp))) ?_ (fun y hy => h2 y (by simp [hy]))
    simp only [CLot.after]; omega
theorem lotOf_ok {r : CR} {off : Int} (ho : 0 ≤ off ∧ off ≤ 1000) (rs : List Int) (h1 : rs.length ≤ 100) (h2 : ∀ x ∈ rs, 0 ≤ x ∧ x ≤ 100000) : (lotOf r off rs).ok :=
  fold_ok r rs (CLot.new off) ⟨ho, by simp [CLot.new], by simp [CLot.new], by simp [CLot.new], by simp [CLot.new], by simp [CLot.new]⟩ (by show (0 : Int) + (rs.length : Int) ≤ 100; omega) h2
theorem crNew (b : Bool) (r : CR) (rs : List Int) (off : Int) (h : CRok r rs off) : DCall Try.prog 42 [dCR r, dIs b rs, dI off] [] (dLot r (lotOf r off rs)) [] := by
  have hlen := h.len
  have ht := h.tests
  have hl20 : rs.length ≤ 20 := by omega
  refine DCall.of Try.func42 sf42 hb42 (Nat.le_of_ble_eq_true rfl) (okRes_nil fun _ => rfl) ?_; simp only [s42, idxs, Nat.reduceAdd]
  repeat' (first
    | (with_reducible refine DW.seq ?_)
    | (with_reducible refine DW.block ?_)
    | (with_reducible refine DW.skip ?_)
    | (with_reducible refine DW.exit ?_)
    | (with_reducible refine DW.ret ?_)
    | (with_reducible refine DW.reg ?_)
    | (simp (disch := omega) only [go_sem, Nat.reduceLT, Nat.reduceLeDiff, Nat.reduceAdd, Nat.reduceMul, Nat.reduceEqDiff, ↓reduceIte, reduceCtorEq, Nat.reduceBEq, Nat.reduceBNe, Nat.reducePow, Int.reduceLE, Int.reduceLT, Int.reduceNeg, Int.reduceToNat, Int.reduceEq, Int.reduceAdd, Int.reduceSub, Int.reduceMul, Int.reduceBEq, Int.reduceBNe, Blk.men, Blk.keysIn])
    | (exact retS_of rfl rfl rfl)
    | (refine DW.cond_tt rfl ?_)
    | (refine DW.cond_ff rfl ?_)
    | (refine DW.cond rfl ?_ ?_ <;> intro hc <;> (try simp only [go_sem] at hc))
    | (refine g_split ?_ ?_ <;> intro hc <;> (try simp only [hc]) <;> (try simp only [go_sem] at hc)))
  refine DW.loop (ι := { i : Nat // i ≤ rs.length }) (fun i => ⟨24, [(15, dI i.1), (14, dI rs.length), (13, dIs b rs), (7, .box 7 0), (6, .box 6 0)], [(7, .box [dI r.tests, dI r.mean, dI r.low, dI r.bad, dI (lotOf r off (rs.take i.1)).off, dI (lotOf r off (rs.take i.1)).made, dI (lotOf r off (rs.take i.1)).ws, dI (lotOf r off (rs.take i.1)).wb, dI (lotOf r off (rs.take i.1)).bs, dI (lotOf r off (rs.take i.1)).bb]), (6, .box [dI 0, dI 0, dI 0, dI 0, dI 0, dI 0, dI 0, dI 0, dI 0, dI 0])]⟩) (fun i => rs.length - i.1) ⟨0, Nat.zero_le _⟩ ?_ ?_
  · refine Ent.to ?_ ?_ <;> simp (disch := omega) only [wkT_cons, wkX_cons, wkT_nil, wkX_nil, get, Nat.reduceEqDiff, ↓reduceIte, ex_some, wk_self, wk_top, wk_nil, wkB_self, and_self, dI, i64_in, and_true, true_and, Int.natCast_add, Int.natCast_one, Int.ofNat_zero, Int.natCast_zero, List.take_zero, lotOf, List.foldl_nil, CLot.new]
    all_goals exact .refl _
  rintro ⟨i, hi⟩
  rcases at_or rs i hi with ⟨x, hx, hlt, hd⟩ | ⟨hend, hd⟩
  · have hs := lotOf_take (r := r) (off := off) hx
    have hok := lotOf_ok (r := r) h.off (rs.take i) (by rw [List.length_take]; omega) (fun y hy => h.rs y (List.mem_of_mem_take hy))
    generalize lotOf r off (rs.take i) = l at *
    repeat' (first
    | (with_reducible refine DW.seq ?_)
    | (with_reducible refine DW.block ?_)
    | (with_reducible refine DW.skip ?_)
    | (with_reducible refine DW.exit ?_)
    | (with_reducible refine DW.ret ?_)
    | (with_reducible refine DW.reg ?_)
    | (simp (disch := omega) only [go_sem, Nat.reduceLT, Nat.reduceLeDiff, Nat.reduceAdd, Nat.reduceMul, Nat.reduceEqDiff, ↓reduceIte, reduceCtorEq, Nat.reduceBEq, Nat.reduceBNe, Nat.reducePow, Int.reduceLE, Int.reduceLT, Int.reduceNeg, Int.reduceToNat, Int.reduceEq, Int.reduceAdd, Int.reduceSub, Int.reduceMul, Int.reduceBEq, Int.reduceBNe, Blk.men, Blk.keysIn, hd, hx])
    | (exact retS_of rfl rfl rfl)
    | (refine DW.cond_tt rfl ?_)
    | (refine call_c (crAfter r l x hok (h.rs x (List.mem_of_getElem? hx))) (by decide) ?_)
    | (refine DW.cond_ff rfl ?_)
    | (refine DW.cond rfl ?_ ?_ <;> intro hc <;> (try simp only [go_sem] at hc))
    | (refine g_split ?_ ?_ <;> intro hc <;> (try simp only [hc]) <;> (try simp only [go_sem] at hc)))
    refine ⟨⟨i + 1, hlt⟩, ?_, Ent.to ?_ ?_⟩ <;> first | (show _ < _; (try simp only); omega) | (simp (disch := omega) only [wkT_cons, wkX_cons, wkT_nil, wkX_nil, get, Nat.reduceEqDiff, ↓reduceIte, ex_some, wk_self, wk_top, wk_nil, wkB_self, and_self, dI, i64_in, and_true, true_and, Int.natCast_add, Int.natCast_one, Int.ofNat_zero, Int.natCast_zero,  hs])
    all_goals exact .refl _
  · rw [List.take_of_length_le (by omega : rs.length ≤ i)]
    generalize lotOf r off rs = l at *
    repeat' (first
    | (with_reducible refine DW.seq ?_)
    | (with_reducible refine DW.block ?_)
    | (with_reducible refine DW.skip ?_)
    | (with_reducible refine DW.exit ?_)
    | (with_reducible refine DW.ret ?_)
    | (with_reducible refine DW.reg ?_)
    | (simp (disch := omega) only [go_sem, Nat.reduceLT, Nat.reduceLeDiff, Nat.reduceAdd, Nat.reduceMul, Nat.reduceEqDiff, ↓reduceIte, reduceCtorEq, Nat.reduceBEq, Nat.reduceBNe, Nat.reducePow, Int.reduceLE, Int.reduceLT, Int.reduceNeg, Int.reduceToNat, Int.reduceEq, Int.reduceAdd, Int.reduceSub, Int.reduceMul, Int.reduceBEq, Int.reduceBNe, Blk.men, Blk.keysIn, hd])
    | (exact retS_of rfl rfl rfl)
    | (refine DW.cond_tt rfl ?_)
    | (refine DW.cond_ff rfl ?_)
    | (refine DW.cond rfl ?_ ?_ <;> intro hc <;> (try simp only [go_sem] at hc))
    | (refine g_split ?_ ?_ <;> intro hc <;> (try simp only [hc]) <;> (try simp only [go_sem] at hc)))
end Go.Dw.Seat
end
section
set_option linter.unusedSimpArgs false
set_option maxRecDepth 100000
namespace Go.Dw.Seat
open Go Go.Dw Go.Proofs Go.IntWalk
def badOf (b rest low : Int) (i : Nat) : Int := if rest < low then b + (i : Nat) else b
def passI (r : CR) (made s b rest : Int) : Bool := decide (r.tests * r.mean ≤ s + ((r.tests - made).toNat : Int) * rest) && decide (badOf b rest r.low (r.tests - made).toNat ≤ r.bad)
theorem mulB0 {a b A B : Int} (ha : 0 ≤ a ∧ a ≤ A) (hb : 0 ≤ b ∧ b ≤ B) : 0 ≤ a * b ∧ a * b ≤ A * B := by
  refine ⟨Int.mul_nonneg ha.1 hb.1, ?_⟩
  exact Int.le_trans (Int.mul_le_mul_of_nonneg_right ha.2 hb.1) (Int.mul_le_mul_of_nonneg_left hb.2 (Int.le_trans ha.1 ha.2))
theorem crPasses (r : CR) (l : CLot) (s b rest : Int) (ht : 1 ≤ r.tests ∧ r.tests ≤ 20) (hm : 0 ≤ r.mean ∧ r.mean ≤ 100000) (hmade : 0 ≤ l.made ∧ l.made ≤ r.tests) (hs : 0 ≤ s ∧ s ≤ 100000000) (hb : 0 ≤ b ∧ b ≤ 100) (hr : 0 ≤ rest ∧ rest ≤ 100000) :
    DCall Try.prog 76 [dLot r l, .agg [dI s, dI b], dI rest] [] (bD (passI r l.made s b rest)) [] := by
  obtain ⟨k, hk⟩ : ∃ k : Nat, (r.tests - l.made).toNat = k := ⟨_, rfl⟩
  have hkI : r.tests - l.made = (k : Int) := by omega
  have hmul := mulB0 (a := r.tests) (b := r.mean) (A := 20) (B := 100000) (by omega) hm
  have hkr := mulB0 (a := (k : Int)) (b := rest) (A := 20) (B := 100000) (by omega) hr
  have hp : passI r l.made s b rest = (decide (r.tests * r.mean ≤ s + (k : Int) * rest) && decide (badOf b rest r.low k ≤ r.bad)) := by rw [passI, hk]
  rw [hp]
  generalize htm : r.tests * r.mean = tm at *
  refine DCall.of Try.func76 sf76 hb76 (Nat.le_of_ble_eq_true rfl) (okRes_nil fun _ => rfl) ?_; simp only [s76, idxs, Nat.reduceAdd]
  repeat' (first
    | (with_reducible refine DW.seq ?_)
    | (with_reducible refine DW.block ?_)
    | (with_reducible refine DW.skip ?_)
    | (with_reducible refine DW.exit ?_)
    | (with_reducible refine DW.ret ?_)
    | (with_reducible refine DW.reg ?_)
    | (simp (disch := omega) only [go_sem, Nat.reduceLT, Nat.reduceLeDiff, Nat.reduceAdd, Nat.reduceMul, Nat.reduceEqDiff, ↓reduceIte, reduceCtorEq, Nat.reduceBEq, Nat.reduceBNe, Nat.reducePow, Int.reduceLE, Int.reduceLT, Int.reduceNeg, Int.reduceToNat, Int.reduceEq, Int.reduceAdd, Int.reduceSub, Int.reduceMul, Int.reduceBEq, Int.reduceBNe, Blk.men, Blk.keysIn, hkI])
    | (exact retS_of rfl rfl rfl)
    | (refine DW.cond_tt rfl ?_)
    | (refine DW.cond_ff rfl ?_)
    | (refine DW.cond rfl ?_ ?_ <;> intro hc <;> (try simp only [go_sem] at hc))
    | (refine g_split ?_ ?_ <;> intro hc <;> (try simp only [hc]) <;> (try simp only [go_sem] at hc)))
  refine DW.loop (ι := { i : Nat // i ≤ k }) (fun i => ⟨40, [(13, dI i.1), (12, dI k), (4, .box 4 0), (3, .box 3 0), (2, dI rest)], [(4, .box [dI (s + (i.1 : Int) * rest), dI (badOf b rest r.low i.1)]), (3, .box [dI r.tests, dI r.mean, dI r.low, dI r.bad, dI l.off, dI l.made, dI l.ws, dI l.wb, dI l.bs, dI l.bb])]⟩) (fun i => k - i.1) ⟨0, Nat.zero_le _⟩ ?_ ?_
  · refine Ent.to ?_ ?_ <;> simp (disch := omega) only [wkT_cons, wkX_cons, wkT_nil, wkX_nil, get, Nat.reduceEqDiff, ↓reduceIte, ex_some, wk_self, wk_top, wk_nil, wkB_self, and_self, dI, i64_in, and_true, true_and, Int.natCast_add, Int.natCast_one, Int.ofNat_zero, Int.natCast_zero, Int.zero_mul, Int.add_zero, badOf, ite_self]
    all_goals exact .refl _
  rintro ⟨i, hi⟩
  have hir := mulB0 (a := (i : Int)) (b := rest) (A := 20) (B := 100000) (by omega) hr
  have hbi : 0 ≤ badOf b rest r.low i ∧ badOf b rest r.low i ≤ 200 := by unfold badOf; split <;> omega
  have hnext : badOf b rest r.low (i + 1) = if rest < r.low then badOf b rest r.low i + 1 else badOf b rest r.low i := by unfold badOf; split <;> omega
  have hadd : s + ((i + 1 : Nat) : Int) * rest = s + (i : Int) * rest + rest := by rw [Int.natCast_add, Int.add_mul]; omega
  rcases Nat.lt_or_ge i k with hlt | hge
  · have hd : decide ((i : Int) < (k : Int)) = true := by rw [decide_eq_true_eq]; omega
    have hw := crWith (s + (i : Int) * rest) (badOf b rest r.low i) rest r.low (by omega) (by omega) (by omega)
    rw [← hnext, ← hadd] at hw
    generalize s + (i : Int) * rest = si at *
    generalize hj1 : s + ((i + 1 : Nat) : Int) * rest = sj at *
    generalize hj2 : badOf b rest r.low (i + 1) = bj at *
    rw [Int.natCast_add, Int.natCast_one] at hj1
    repeat' (first
    | (with_reducible refine DW.seq ?_)
    | (with_reducible refine DW.block ?_)
    | (with_reducible refine DW.skip ?_)
    | (with_reducible refine DW.exit ?_)
    | (with_reducible refine DW.ret ?_)
    | (with_reducible refine DW.reg ?_)
    | (simp (disch := omega) only [go_sem, Nat.reduceLT, Nat.reduceLeDiff, Nat.reduceAdd, Nat.reduceMul, Nat.reduceEqDiff, ↓reduceIte, reduceCtorEq, Nat.reduceBEq, Nat.reduceBNe, Nat.reducePow, Int.reduceLE, Int.reduceLT, Int.reduceNeg, Int.reduceToNat, Int.reduceEq, Int.reduceAdd, Int.reduceSub, Int.reduceMul, Int.reduceBEq, Int.reduceBNe, Blk.men, Blk.keysIn, hd])
    | (exact retS_of rfl rfl rfl)
    | (refine DW.cond_tt rfl ?_)
    | (refine call_c (hw) (by decide) ?_)
    | (refine DW.cond_ff rfl ?_)
    | (refine DW.cond rfl ?_ ?_ <;> intro hc <;> (try simp only [go_sem] at hc))
    | (refine g_split ?_ ?_ <;> intro hc <;> (try simp only [hc]) <;> (try simp only [go_sem] at hc)))
    refine ⟨⟨i + 1, hlt⟩, ?_, Ent.to ?_ ?_⟩ <;> first | (show _ < _; (try simp only); omega) | (simp (disch := omega) only [wkT_cons, wkX_cons, wkT_nil, wkX_nil, get, Nat.reduceEqDiff, ↓reduceIte, ex_some, wk_self, wk_top, wk_nil, wkB_self, and_self, dI, i64_in, and_true, true_and, Int.natCast_add, Int.natCast_one, Int.ofNat_zero, Int.natCast_zero,  hj1, hj2])
    all_goals exact .refl _
  · obtain rfl : i = k := by omega
    have hd : decide ((i : Int) < (i : Int)) = false := by rw [decide_eq_false_iff_not]; omega
    generalize s + (i : Int) * rest = si at *
    generalize badOf b rest r.low i = bi at *
    cases h1 : decide (tm ≤ si) <;> repeat' (first
    | (with_reducible refine DW.seq ?_)
    | (with_reducible refine DW.block ?_)
    | (with_reducible refine DW.skip ?_)
    | (with_reducible refine DW.exit ?_)
    | (with_reducible refine DW.ret ?_)
    | (with_reducible refine DW.reg ?_)
    | (simp (disch := omega) only [go_sem, Nat.reduceLT, Nat.reduceLeDiff, Nat.reduceAdd, Nat.reduceMul, Nat.reduceEqDiff, ↓reduceIte, reduceCtorEq, Nat.reduceBEq, Nat.reduceBNe, Nat.reducePow, Int.reduceLE, Int.reduceLT, Int.reduceNeg, Int.reduceToNat, Int.reduceEq, Int.reduceAdd, Int.reduceSub, Int.reduceMul, Int.reduceBEq, Int.reduceBNe, Blk.men, Blk.keysIn, hd, htm, h1, Bool.true_and, Bool.false_and])
    | (exact retS_of rfl rfl rfl)
    | (refine DW.cond_tt rfl ?_)
    | (refine DW.cond_ff rfl ?_)
    | (refine DW.cond rfl ?_ ?_ <;> intro hc <;> (try simp only [go_sem] at hc))
    | (refine g_split ?_ ?_ <;> intro hc <;> (try simp only [hc]) <;> (try simp only [go_sem] at hc)))
def stateI (r : CR) (l : CLot) : Int := if passI r l.made l.ws l.wb 0 then 1 else if passI r l.made l.bs l.bb 100000 then 3 else 2
theorem crState (r : CR) (l : CLot) (h : l.ok) (ht : 1 ≤ r.tests ∧ r.tests ≤ 20) (hm : 0 ≤ r.mean ∧ r.mean ≤ 100000) (hmade : l.made ≤ r.tests) : DCall Try.prog 43 [dLot r l] [] (dI (stateI r l)) [] := by
  have h3 := h.made
  have h4 := h.ws
  have h5 := h.wb
  have h6 := h.bs
  have h7 := h.bb
  have hw := crPasses r l l.ws l.wb 0 ht hm ⟨h3.1, hmade⟩ (by omega) (by omega) (by omega)
  have hb := crPasses r l l.bs l.bb 100000 ht hm ⟨h3.1, hmade⟩ (by omega) (by omega) (by omega)
  unfold stateI
  cases h1 : passI r l.made l.ws l.wb 0 with
  | true =>
    rw [h1] at hw
    refine DCall.of Try.func43 sf43 hb43 (Nat.le_of_ble_eq_true rfl) (okRes_nil fun _ => rfl) ?_; simp only [s43, idxs, Nat.reduceAdd]
    repeat' (first
    | (with_reducible refine DW.seq ?_)
    | (with_reducible refine DW.block ?_)
    | (with_reducible refine DW.skip ?_)
    | (with_reducible refine DW.exit ?_)
    | (with_reducible refine DW.ret ?_)
    | (with_reducible refine DW.reg ?_)
    | (simp (disch := omega) only [go_sem, Nat.reduceLT, Nat.reduceLeDiff, Nat.reduceAdd, Nat.reduceMul, Nat.reduceEqDiff, ↓reduceIte, reduceCtorEq, Nat.reduceBEq, Nat.reduceBNe, Nat.reducePow, Int.reduceLE, Int.reduceLT, Int.reduceNeg, Int.reduceToNat, Int.reduceEq, Int.reduceAdd, Int.reduceSub, Int.reduceMul, Int.reduceBEq, Int.reduceBNe, Blk.men, Blk.keysIn])
    | (exact retS_of rfl rfl rfl)
    | (refine DW.cond_tt rfl ?_)
    | (refine call_c (hw) (by decide) ?_)
    | (refine DW.cond_ff rfl ?_)
    | (refine DW.cond rfl ?_ ?_ <;> intro hc <;> (try simp only [go_sem] at hc))
    | (refine g_split ?_ ?_ <;> intro hc <;> (try simp only [hc]) <;> (try simp only [go_sem] at hc)))
  | false =>
    rw [h1] at hw
    cases h2 : passI r l.made l.bs l.bb 100000 with
    | true =>
      rw [h2] at hb
      refine DCall.of Try.func43 sf43 hb43 (Nat.le_of_ble_eq_true rfl) (okRes_nil fun _ => rfl) ?_; simp only [s43, idxs, Nat.reduceAdd]
      repeat' (first
    | (with_reducible refine DW.seq ?_)
    | (with_reducible refine DW.block ?_)
    | (with_reducible refine DW.skip ?_)
    | (with_reducible refine DW.exit ?_)
    | (with_reducible refine DW.ret ?_)
    | (with_reducible refine DW.reg ?_)
    | (simp (disch := omega) only [go_sem, Nat.reduceLT, Nat.reduceLeDiff, Nat.reduceAdd, Nat.reduceMul, Nat.reduceEqDiff, ↓reduceIte, reduceCtorEq, Nat.reduceBEq, Nat.reduceBNe, Nat.reducePow, Int.reduceLE, Int.reduceLT, Int.reduceNeg, Int.reduceToNat, Int.reduceEq, Int.reduceAdd, Int.reduceSub, Int.reduceMul, Int.reduceBEq, Int.reduceBNe, Blk.men, Blk.keysIn])
    | (exact retS_of rfl rfl rfl)
    | (refine DW.cond_tt rfl ?_)
    | (refine call_c (hw) (by decide) ?_)
    | (refine call_c (hb) (by decide) ?_)
    | (refine DW.cond_ff rfl ?_)
    | (refine DW.cond rfl ?_ ?_ <;> intro hc <;> (try simp only [go_sem] at hc))
    | (refine g_split ?_ ?_ <;> intro hc <;> (try simp only [hc]) <;> (try simp only [go_sem] at hc)))
    | false =>
      rw [h2] at hb
      refine DCall.of Try.func43 sf43 hb43 (Nat.le_of_ble_eq_true rfl) (okRes_nil fun _ => rfl) ?_; simp only [s43, idxs, Nat.reduceAdd]
      repeat' (first
    | (with_reducible refine DW.seq ?_)
    | (with_reducible refine DW.block ?_)
    | (with_reducible refine DW.skip ?_)
    | (with_reducible refine DW.exit ?_)
    | (with_reducible refine DW.ret ?_)
    | (with_reducible refine DW.reg ?_)
    | (simp (disch := omega) only [go_sem, Nat.reduceLT, Nat.reduceLeDiff, Nat.reduceAdd, Nat.reduceMul, Nat.reduceEqDiff, ↓reduceIte, reduceCtorEq, Nat.reduceBEq, Nat.reduceBNe, Nat.reducePow, Int.reduceLE, Int.reduceLT, Int.reduceNeg, Int.reduceToNat, Int.reduceEq, Int.reduceAdd, Int.reduceSub, Int.reduceMul, Int.reduceBEq, Int.reduceBNe, Blk.men, Blk.keysIn])
    | (exact retS_of rfl rfl rfl)
    | (refine DW.cond_tt rfl ?_)
    | (refine call_c (hw) (by decide) ?_)
    | (refine call_c (hb) (by decide) ?_)
    | (refine DW.cond_ff rfl ?_)
    | (refine DW.cond rfl ?_ ?_ <;> intro hc <;> (try simp only [go_sem] at hc))
    | (refine g_split ?_ ?_ <;> intro hc <;> (try simp only [hc]) <;> (try simp only [go_sem] at hc)))
theorem crDecide (b : Bool) (r : CR) (rs : List Int) (off : Int) (h : CRok r rs off) : DCall Try.prog 10 [dCR r, dIs b rs, dI off] [] (.tup [dI (stateI r (lotOf r off rs)), dI 0]) [] := by
  have hlen := h.len
  have ht := h.tests
  have hm := (lotOf_made r off rs).1
  have hok := lotOf_ok (r := r) h.off rs (by omega) h.rs
  have h1 := crRule b r rs off h
  have h2 := crNew b r rs off h
  have h3 := crState r (lotOf r off rs) hok h.tests h.mean (by omega)
  refine DCall.of Try.func10 sf10 hb10 (Nat.le_of_ble_eq_true rfl) (okRes_nil fun _ => rfl) ?_; simp only [s10, idxs, Nat.reduceAdd]
  repeat' (first
    | (with_reducible refine DW.seq ?_)
    | (with_reducible refine DW.block ?_)
    | (with_reducible refine DW.skip ?_)
    | (with_reducible refine DW.exit ?_)
    | (with_reducible refine DW.ret ?_)
    | (with_reducible refine DW.reg ?_)
    | (simp (disch := omega) only [go_sem, Nat.reduceLT, Nat.reduceLeDiff, Nat.reduceAdd, Nat.reduceMul, Nat.reduceEqDiff, ↓reduceIte, reduceCtorEq, Nat.reduceBEq, Nat.reduceBNe, Nat.reducePow, Int.reduceLE, Int.reduceLT, Int.reduceNeg, Int.reduceToNat, Int.reduceEq, Int.reduceAdd, Int.reduceSub, Int.reduceMul, Int.reduceBEq, Int.reduceBNe, Blk.men, Blk.keysIn])
    | (exact retS_of rfl rfl rfl)
    | (refine DW.cond_tt rfl ?_)
    | (refine call_c (h1) (by decide) ?_)
    | (refine call_c (h2) (by decide) ?_)
    | (refine call_c (h3) (by decide) ?_)
    | (refine DW.cond_ff rfl ?_)
    | (refine DW.cond rfl ?_ ?_ <;> intro hc <;> (try simp only [go_sem] at hc))
    | (refine g_split ?_ ?_ <;> intro hc <;> (try simp only [hc]) <;> (try simp only [go_sem] at hc)))
end Go.Dw.Seat
end
section
set_option linter.unusedSimpArgs false
set_option maxRecDepth 100000
namespace Go.Dw.Seat
open Go Go.Dw Go.Proofs Go.IntWalk
theorem tpSame (p q : Bool) (a b : List Int) (ha : a.length ≤ 2 ^ 36) (hb : b.length ≤ 2 ^ 36) : DCall Try.prog 69 [.c (.sl p 1 (rows eI a)), .c (.sl q 1 (rows eI b))] [] (bD (decide (a = b))) [] := by
  refine DCall.of Try.func69 sf69 hb69 (Nat.le_of_ble_eq_true rfl) (okRes_nil fun _ => rfl) ?_; simp only [s69, idxs, Nat.reduceAdd]
  repeat' (first
    | (with_reducible refine DW.seq ?_)
    | (with_reducible refine DW.block ?_)
    | (with_reducible refine DW.skip ?_)
    | (with_reducible refine DW.exit ?_)
    | (with_reducible refine DW.ret ?_)
    | (with_reducible refine DW.reg ?_)
    | (refine DW.dreg rfl (WF.of (by first | rfl | simp (disch := omega) only [go_sem, Nat.reduceLT, Nat.reduceLeDiff, Nat.reduceAdd, Nat.reduceMul, Nat.reduceEqDiff, ↓reduceIte, reduceCtorEq, Nat.reduceBEq, Nat.reduceBNe, Nat.reducePow, Int.reduceLE, Int.reduceLT, Int.reduceNeg, Int.reduceToNat, Int.reduceEq, Int.reduceAdd, Int.reduceSub, Int.reduceMul, Int.reduceBEq, Int.reduceBNe, Blk.men, Blk.keysIn])) ?_)
    | (simp (disch := omega) only [go_sem, Nat.reduceLT, Nat.reduceLeDiff, Nat.reduceAdd, Nat.reduceMul, Nat.reduceEqDiff, ↓reduceIte, reduceCtorEq, Nat.reduceBEq, Nat.reduceBNe, Nat.reducePow, Int.reduceLE, Int.reduceLT, Int.reduceNeg, Int.reduceToNat, Int.reduceEq, Int.reduceAdd, Int.reduceSub, Int.reduceMul, Int.reduceBEq, Int.reduceBNe, Blk.men, Blk.keysIn])
    | (exact retS_of rfl rfl rfl)
    | (refine DW.cond_tt rfl ?_)
    | (refine DW.cond_ff rfl ?_)
    | (refine DW.cond rfl ?_ ?_ <;> intro hc <;> (try simp only [go_sem] at hc))
    | (refine g_split ?_ ?_ <;> intro hc <;> (try simp only [hc]) <;> (try simp only [go_sem] at hc)))
  · refine retS_of rfl ?_ rfl; simp only [oneD, St.op, get, Nat.reduceEqDiff, ↓reduceIte, Option.getD_some, bD, dI]
    have : a ≠ b := by rintro rfl; simp_all
    simp only [this, decide_false]
  refine DW.loop (ι := { i : Nat // i ≤ a.length ∧ ∀ j, j < i → a[j]? = b[j]? }) (fun i => ⟨26, [(5, dI i.1), (1, .c (.sl q 1 (rows eI b))), (0, .c (.sl p 1 (rows eI a)))], []⟩) (fun i => a.length - i.1) ⟨0, Nat.zero_le _, fun j h => by omega⟩ ?_ ?_
  · refine Ent.to ?_ ?_ <;> simp (disch := omega) only [wkT_cons, wkX_cons, wkT_nil, wkX_nil, get, Nat.reduceEqDiff, ↓reduceIte, ex_some, wk_self, wk_top, wk_nil, wkB_self, and_self, dI, i64_in, and_true, true_and, Int.natCast_add, Int.natCast_one, Int.ofNat_zero, Int.natCast_zero]
  rintro ⟨i, hi, hij⟩
  rcases at_or a i hi with ⟨v, hv, hlt, hd⟩ | ⟨he, hd⟩
  · obtain ⟨u, hu⟩ : ∃ u, b[i]? = some u := getE (by omega)
    repeat' (first
    | (with_reducible refine DW.seq ?_)
    | (with_reducible refine DW.block ?_)
    | (with_reducible refine DW.skip ?_)
    | (with_reducible refine DW.exit ?_)
    | (with_reducible refine DW.ret ?_)
    | (with_reducible refine DW.reg ?_)
    | (refine DW.dreg rfl (WF.of (by first | rfl | simp (disch := omega) only [go_sem, Nat.reduceLT, Nat.reduceLeDiff, Nat.reduceAdd, Nat.reduceMul, Nat.reduceEqDiff, ↓reduceIte, reduceCtorEq, Nat.reduceBEq, Nat.reduceBNe, Nat.reducePow, Int.reduceLE, Int.reduceLT, Int.reduceNeg, Int.reduceToNat, Int.reduceEq, Int.reduceAdd, Int.reduceSub, Int.reduceMul, Int.reduceBEq, Int.reduceBNe, Blk.men, Blk.keysIn, hd, hv, hu])) ?_)
    | (simp (disch := omega) only [go_sem, Nat.reduceLT, Nat.reduceLeDiff, Nat.reduceAdd, Nat.reduceMul, Nat.reduceEqDiff, ↓reduceIte, reduceCtorEq, Nat.reduceBEq, Nat.reduceBNe, Nat.reducePow, Int.reduceLE, Int.reduceLT, Int.reduceNeg, Int.reduceToNat, Int.reduceEq, Int.reduceAdd, Int.reduceSub, Int.reduceMul, Int.reduceBEq, Int.reduceBNe, Blk.men, Blk.keysIn, hd, hv, hu])
    | (exact retS_of rfl rfl rfl)
    | (refine DW.cond_tt rfl ?_)
    | (refine DW.cond_ff rfl ?_)
    | (refine DW.cond rfl ?_ ?_ <;> intro hc <;> (try simp only [go_sem] at hc))
    | (refine g_split ?_ ?_ <;> intro hc <;> (try simp only [hc]) <;> (try simp only [go_sem] at hc)))
    · refine retS_of rfl ?_ rfl; simp only [oneD, St.op, get, Nat.reduceEqDiff, ↓reduceIte, Option.getD_some, bD, dI]
      have : a ≠ b := by rintro rfl; simp_all
      simp only [this, decide_false]
    · refine ⟨⟨i + 1, by omega, upto1 hij (by rw [hv, hu]; congr 1)⟩, ?_, Ent.to ?_ ?_⟩ <;> first | (show _ < _; (try simp only); omega) | (simp (disch := omega) only [wkT_cons, wkX_cons, wkT_nil, wkX_nil, get, Nat.reduceEqDiff, ↓reduceIte, ex_some, wk_self, wk_top, wk_nil, wkB_self, and_self, dI, i64_in, and_true, true_and, Int.natCast_add, Int.natCast_one, Int.ofNat_zero, Int.natCast_zero])
  · repeat' (first
    | (with_reducible refine DW.seq ?_)
    | (with_reducible refine DW.block ?_)
    | (with_reducible refine DW.skip ?_)
    | (with_reducible refine DW.exit ?_)
    | (with_reducible refine DW.ret ?_)
    | (with_reducible refine DW.reg ?_)
    | (refine DW.dreg rfl (WF.of (by first | rfl | simp (disch := omega) only [go_sem, Nat.reduceLT, Nat.reduceLeDiff, Nat.reduceAdd, Nat.reduceMul, Nat.reduceEqDiff, ↓reduceIte, reduceCtorEq, Nat.reduceBEq, Nat.reduceBNe, Nat.reducePow, Int.reduceLE, Int.reduceLT, Int.reduceNeg, Int.reduceToNat, Int.reduceEq, Int.reduceAdd, Int.reduceSub, Int.reduceMul, Int.reduceBEq, Int.reduceBNe, Blk.men, Blk.keysIn, hd])) ?_)
    | (simp (disch := omega) only [go_sem, Nat.reduceLT, Nat.reduceLeDiff, Nat.reduceAdd, Nat.reduceMul, Nat.reduceEqDiff, ↓reduceIte, reduceCtorEq, Nat.reduceBEq, Nat.reduceBNe, Nat.reducePow, Int.reduceLE, Int.reduceLT, Int.reduceNeg, Int.reduceToNat, Int.reduceEq, Int.reduceAdd, Int.reduceSub, Int.reduceMul, Int.reduceBEq, Int.reduceBNe, Blk.men, Blk.keysIn, hd])
    | (exact retS_of rfl rfl rfl)
    | (refine DW.cond_tt rfl ?_)
    | (refine DW.cond_ff rfl ?_)
    | (refine DW.cond rfl ?_ ?_ <;> intro hc <;> (try simp only [go_sem] at hc))
    | (refine g_split ?_ ?_ <;> intro hc <;> (try simp only [hc]) <;> (try simp only [go_sem] at hc)))
    refine retS_of rfl ?_ rfl; simp only [oneD, St.op, get, Nat.reduceEqDiff, ↓reduceIte, Option.getD_some, bD, dI]
    have : a = b := ext_upto (by omega) (he ▸ hij)
    simp only [this, decide_true]
theorem tpInts (b : Bool) (l : List Int) (hl : l.length ≤ 2 ^ 36) : DCall Try.prog 11 [dIs b l] [] (dIs false l) [] := by
  refine DCall.of Try.func11 sf11 hb11 (Nat.le_of_ble_eq_true rfl) (okRes_nil fun _ => rfl) ?_; simp only [s11, idxs, Nat.reduceAdd]
  repeat' (first
    | (with_reducible refine DW.seq ?_)
    | (with_reducible refine DW.block ?_)
    | (with_reducible refine DW.skip ?_)
    | (with_reducible refine DW.exit ?_)
    | (with_reducible refine DW.ret ?_)
    | (with_reducible refine DW.reg ?_)
    | (simp (disch := omega) only [go_sem, Nat.reduceLT, Nat.reduceLeDiff, Nat.reduceAdd, Nat.reduceMul, Nat.reduceEqDiff, ↓reduceIte, reduceCtorEq, Nat.reduceBEq, Nat.reduceBNe, Nat.reducePow, Int.reduceLE, Int.reduceLT, Int.reduceNeg, Int.reduceToNat, Int.reduceEq, Int.reduceAdd, Int.reduceSub, Int.reduceMul, Int.reduceBEq, Int.reduceBNe, Blk.men, Blk.keysIn])
    | (exact retS_of rfl rfl rfl)
    | (refine DW.cond_tt rfl ?_)
    | (refine DW.cond_ff rfl ?_)
    | (refine DW.cond rfl ?_ ?_ <;> intro hc <;> (try simp only [go_sem] at hc))
    | (refine g_split ?_ ?_ <;> intro hc <;> (try simp only [hc]) <;> (try simp only [go_sem] at hc)))
  (refine retS_ent (Ent.rel 3 rfl) ?_; simp (disch := omega) only [go_sem, Nat.reduceLT, Nat.reduceLeDiff, Nat.reduceAdd, Nat.reduceMul, Nat.reduceEqDiff, ↓reduceIte, reduceCtorEq, Nat.reduceBEq, Nat.reduceBNe, Nat.reducePow, Int.reduceLE, Int.reduceLT, Int.reduceNeg, Int.reduceToNat, Int.reduceEq, Int.reduceAdd, Int.reduceSub, Int.reduceMul, Int.reduceBEq, Int.reduceBNe, Blk.men, Blk.keysIn])
  refine retS_wk rfl ?_ (by simp only [Blk.nb, rowC_nb, D.nb, D.nbs, C.nb, C.nbs, C.nbss, rows_nb eI_nb, rows_nb eC_nb, rows_nb eL_nb, rows_nb eR_nb, rows_nb eS_nb, rows_nb eG_nb, Bool.and_true, Bool.not_false, Bool.and_self, bD, dI, iD]); exact .refl _
theorem tpSpan (a b : Int) : DCall Try.prog 36 [dI a, dI b] [] (.agg [dI a, dI b]) [] := by
  refine DCall.of Try.func36 sf36 hb36 (Nat.le_of_ble_eq_true rfl) (okRes_nil fun _ => rfl) ?_; simp only [s36, idxs, Nat.reduceAdd]
  repeat' (first
    | (with_reducible refine DW.seq ?_)
    | (with_reducible refine DW.block ?_)
    | (with_reducible refine DW.skip ?_)
    | (with_reducible refine DW.exit ?_)
    | (with_reducible refine DW.ret ?_)
    | (with_reducible refine DW.reg ?_)
    | (simp (disch := omega) only [go_sem, Nat.reduceLT, Nat.reduceLeDiff, Nat.reduceAdd, Nat.reduceMul, Nat.reduceEqDiff, ↓reduceIte, reduceCtorEq, Nat.reduceBEq, Nat.reduceBNe, Nat.reducePow, Int.reduceLE, Int.reduceLT, Int.reduceNeg, Int.reduceToNat, Int.reduceEq, Int.reduceAdd, Int.reduceSub, Int.reduceMul, Int.reduceBEq, Int.reduceBNe, Blk.men, Blk.keysIn])
    | (exact retS_of rfl rfl rfl)
    | (refine DW.cond_tt rfl ?_)
    | (refine DW.cond_ff rfl ?_)
    | (refine DW.cond rfl ?_ ?_ <;> intro hc <;> (try simp only [go_sem] at hc))
    | (refine g_split ?_ ?_ <;> intro hc <;> (try simp only [hc]) <;> (try simp only [go_sem] at hc)))
theorem kg1 : boxOut ⟨6, [14, 18]⟩ [⟨0, 2, 0⟩] 5 = [30, 18] ∧ boxErr ⟨6, [14, 18]⟩ [⟨0, 2, 0⟩] 5 = 0 := ⟨by kernel_rfl, by kernel_rfl⟩
theorem kg3 : (exOut ⟨6, [14, 18]⟩ [0] []).length = 25 ∧ exErr ⟨6, [14, 18]⟩ [0] [] = 0 := ⟨by kernel_rfl, by kernel_rfl⟩
set_option maxHeartbeats 800000 in
theorem tpGlue : DCall Try.prog 38 [] [] (bD true) [] := by
  have h55a := c55 true ⟨6, [14, 18]⟩ [⟨0, 2, 0⟩] 5 (by decide) (by decide)
  rw [kg1.1, kg1.2] at h55a
  have h18a := (c18 true true ⟨6, [14, 18]⟩ [0] [] (by decide) (by decide) (by decide)).weakA (l := [dP false ⟨6, [14, 18]⟩, dIs true [0], .c (.v (.slice none 0 0))])
    (.cons (.inl rfl) (.cons (.inl rfl) (.cons (.inr ⟨_, _, rfl, rfl, .nil true 4⟩) .nil)))
  rw [kg3.1, kg3.2] at h18a
  have e1 := tpSame false true (nL [30, 18]) [30, 18] (by decide) (by decide)
  rw [show decide (nL [30, 18] = [30, 18]) = true from by decide] at e1
  refine DCall.of Try.func38 sf38 hb38 (Nat.le_of_ble_eq_true rfl) (okRes_nil fun _ => rfl) ?_; simp only [s38, idxs, Nat.reduceAdd]
  refine DW.seq (DW.reg ?_)
  simp (disch := omega) only [go_sem, Nat.reduceLT, Nat.reduceLeDiff, Nat.reduceAdd, Nat.reduceMul, Nat.reduceEqDiff, ↓reduceIte, reduceCtorEq, Nat.reduceBEq, Nat.reduceBNe, Nat.reducePow, Int.reduceLE, Int.reduceLT, Int.reduceNeg, Int.reduceToNat, Int.reduceEq, Int.reduceAdd, Int.reduceSub, Int.reduceMul, Int.reduceBEq, Int.reduceBNe, Blk.men, Blk.keysIn]
  refine DW.seq (DW.reg ?_)
  simp (disch := omega) only [go_sem, Nat.reduceLT, Nat.reduceLeDiff, Nat.reduceAdd, Nat.reduceMul, Nat.reduceEqDiff, ↓reduceIte, reduceCtorEq, Nat.reduceBEq, Nat.reduceBNe, Nat.reducePow, Int.reduceLE, Int.reduceLT, Int.reduceNeg, Int.reduceToNat, Int.reduceEq, Int.reduceAdd, Int.reduceSub, Int.reduceMul, Int.reduceBEq, Int.reduceBNe, Blk.men, Blk.keysIn]
  (refine DW.ent (Ent.rel 7 rfl) ?_; simp (disch := omega) only [go_sem, Nat.reduceLT, Nat.reduceLeDiff, Nat.reduceAdd, Nat.reduceMul, Nat.reduceEqDiff, ↓reduceIte, reduceCtorEq, Nat.reduceBEq, Nat.reduceBNe, Nat.reducePow, Int.reduceLE, Int.reduceLT, Int.reduceNeg, Int.reduceToNat, Int.reduceEq, Int.reduceAdd, Int.reduceSub, Int.reduceMul, Int.reduceBEq, Int.reduceBNe, Blk.men, Blk.keysIn])
  repeat' (first
    | (with_reducible refine DW.seq ?_)
    | (with_reducible refine DW.block ?_)
    | (with_reducible refine DW.skip ?_)
    | (with_reducible refine DW.exit ?_)
    | (with_reducible refine DW.ret ?_)
    | (with_reducible refine DW.reg ?_)
    | (simp (disch := omega) only [go_sem, Nat.reduceLT, Nat.reduceLeDiff, Nat.reduceAdd, Nat.reduceMul, Nat.reduceEqDiff, ↓reduceIte, reduceCtorEq, Nat.reduceBEq, Nat.reduceBNe, Nat.reducePow, Int.reduceLE, Int.reduceLT, Int.reduceNeg, Int.reduceToNat, Int.reduceEq, Int.reduceAdd, Int.reduceSub, Int.reduceMul, Int.reduceBEq, Int.reduceBNe, Blk.men, Blk.keysIn])
    | (exact retS_of rfl rfl rfl)
    | (refine DW.cond_tt rfl ?_)
    | (refine call_c (h55a) (by decide) ?_)
    | (refine call_c (h18a) (by decide) ?_)
    | (refine call_c (e1) (by decide) ?_)
    | (refine DW.cond_ff rfl ?_)
    | (refine DW.cond rfl ?_ ?_ <;> intro hc <;> (try simp only [go_sem] at hc))
    | (refine g_split ?_ ?_ <;> intro hc <;> (try simp only [hc]) <;> (try simp only [go_sem] at hc)))
end Go.Dw.Seat
end
section
set_option linter.unusedSimpArgs false
namespace Go.Dw.Seat
open Go Go.Dw
structure B2 where
  v0 : Nat
  v1 : Nat
structure B2.ok (v : B2) : Prop where
  v0 : v.v0 < 256
  v1 : v.v1 < 256
def pressR (a b c : Nat) : Rule := ⟨1 + (a : Int), ((b % 21 : Nat) : Int), ((c % 21 : Nat) : Int)⟩
def roomR (a b c d : Nat) : Room := ⟨((a % 20 : Nat) : Int), ((a % 20 : Nat) : Int) + ((b % 10 : Nat) : Int), ((c % 60 : Nat) : Int), ((c % 60 : Nat) : Int) + ((d % 40 : Nat) : Int)⟩
def mx0 (x : Int) : Int := if 0 < x then x else 0
def tI (H : Int) (v : B2) : Int := mx0 (H + ((v.v0 % 40 : Nat) : Int) - 10)
def rdI (H : Int) (o : Nat) (v : B2) : Int := mx0 (tI H v + ((v.v1 % (2 * o + 1) : Nat) : Int) - (o : Int))
def truthsTo (H : Int) (l : List B2) (i : Nat) : List Int := (l.take i).map (tI H)
def readsTo (H : Int) (o : Nat) (l : List B2) (i : Nat) : List Int := (l.take i).map (rdI H o)
theorem ok_of {m : Room} (h : (0 ≤ m.wl ∧ m.wl ≤ m.wh ∧ m.wh ≤ 30) ∧ (0 ≤ m.dl ∧ m.dl ≤ m.dh ∧ m.dh ≤ 100)) : roomOk m = true := by
  have e : ∀ lo hi : Int, wthn 0 30 [lo, hi] = (wthn 0 30 [lo] && wthn 0 30 [hi]) := fun lo hi => by simp [wthn]
  have e' : ∀ lo hi : Int, wthn 0 100 [lo, hi] = (wthn 0 100 [lo] && wthn 0 100 [hi]) := fun lo hi => by simp [wthn]
  have w1 : ∀ a b n : Int, wthn a b [n] = true ↔ a ≤ n ∧ n ≤ b := fun a b n => by simp [wthn]
  simp only [roomOk, spanOk, e, e', Bool.and_eq_true, w1, decide_eq_true_eq]
  omega
theorem pressR_ok (a b c : Nat) (ha : a < 256) : ruleOk (pressR a b c) = true := by
  have h1 : b % 21 < 21 := Nat.mod_lt _ (by decide)
  have h2 : c % 21 < 21 := Nat.mod_lt _ (by decide)
  have e : ∀ lo hi : Int, wthn 0 20 [lo, hi] = (wthn 0 20 [lo] && wthn 0 20 [hi]) := fun lo hi => by simp [wthn]
  have w1 : ∀ a b n : Int, wthn a b [n] = true ↔ a ≤ n ∧ n ≤ b := fun a b n => by simp [wthn]
  simp only [ruleOk, pressR, e, Bool.and_eq_true, w1]
  omega
theorem roomR_in (a b c d : Nat) : (0 ≤ (roomR a b c d).wl ∧ (roomR a b c d).wl ≤ (roomR a b c d).wh ∧ (roomR a b c d).wh ≤ 28) ∧ (0 ≤ (roomR a b c d).dl ∧ (roomR a b c d).dl ≤ (roomR a b c d).dh ∧ (roomR a b c d).dh ≤ 98) := by
  have h1 : a % 20 < 20 := Nat.mod_lt _ (by decide)
  have h2 : b % 10 < 10 := Nat.mod_lt _ (by decide)
  have h3 : c % 60 < 60 := Nat.mod_lt _ (by decide)
  have h4 : d % 40 < 40 := Nat.mod_lt _ (by decide)
  simp only [roomR]; omega
theorem time_pos {r : Rule} {w d : Int} (hr : ruleOk r = true) (hw : 0 ≤ w ∧ w ≤ 30) (hd : 0 ≤ d ∧ d ≤ 100) : 1 ≤ timeI r w d := by
  obtain ⟨r1, r2, r3⟩ := ruleOk_in hr
  have e1 := mulB r2 hw
  have e2 := mulB r3 hd
  have e3 : 1 * 1 ≤ r.mins * (1000 - r.deg * w + r.damp * d) := Int.mul_le_mul r1.1 (by omega) (by decide) (by omega)
  unfold timeI
  generalize r.mins * (1000 - r.deg * w + r.damp * d) = n at *
  omega
theorem tI_in {H : Int} (v : B2) (hH : 1 ≤ H ∧ H ≤ 2000) : 0 ≤ tI H v ∧ tI H v ≤ 2100 := by
  have h : v.v0 % 40 < 40 := Nat.mod_lt _ (by decide)
  unfold tI mx0; split <;> omega
theorem rdI_in {H : Int} {o : Nat} (v : B2) (hH : 1 ≤ H ∧ H ≤ 2000) (ho : o < 5) : (0 ≤ rdI H o v ∧ rdI H o v ≤ 2200) ∧ lowT (o : Int) (rdI H o v) ≤ tI H v ∧ tI H v ≤ highT (o : Int) (rdI H o v) := by
  have h := tI_in v hH
  have h2 : v.v1 % (2 * o + 1) < 2 * o + 1 := Nat.mod_lt _ (by omega)
  unfold rdI mx0 lowT highT
  generalize tI H v = t at *
  generalize v.v1 % (2 * o + 1) = m at *
  refine ⟨⟨?_, ?_⟩, ?_, ?_⟩ <;> repeat' split
  all_goals omega
theorem fold_wb (r : CR) : ∀ (rs : List Int) (l : CLot), (rs.foldl (CLot.after r) l).wb = l.wb + (rs.countP fun x => decide (lowT l.off x < r.low) : Nat) ∧ (rs.foldl (CLot.after r) l).bb = l.bb + (rs.countP fun x => decide (highT l.off x < r.low) : Nat)
  | [], l => by simp
  | x :: rs, l => by
    have ih := fold_wb r rs (l.after r x)
    have ho : (l.after r x).off = l.off := rfl
    rw [List.foldl_cons, ih.1, ih.2, ho, List.countP_cons, List.countP_cons]
    simp only [CLot.after, decide_eq_true_eq]
    constructor
    · split <;> simp <;> omega
    · split <;> simp <;> omega
theorem pos_sum {r : CR} {off : Int} {rs : List Int} (ho : 0 ≤ off ∧ off ≤ 1000) (h1 : rs.length ≤ 100) (h2 : ∀ x ∈ rs, 0 ≤ x ∧ x ≤ 100000) : 0 ≤ (lotOf r off rs).ws ∧ 0 ≤ (lotOf r off rs).bs := ⟨(lotOf_ok ho rs h1 h2).ws.1, (lotOf_ok ho rs h1 h2).bs.1⟩
theorem state_all {n : Nat} {L off : Int} {rs : List Int} (hl : rs.length = n) (ho : 0 ≤ off ∧ off ≤ 1000) (h1 : n ≤ 20) (h2 : ∀ x ∈ rs, 0 ≤ x ∧ x ≤ 100000) :
    (stateI ⟨n, 0, L, 0⟩ (lotOf ⟨n, 0, L, 0⟩ off rs) = 1 → ∀ x ∈ rs, L ≤ lowT off x) ∧ (stateI ⟨n, 0, L, 0⟩ (lotOf ⟨n, 0, L, 0⟩ off rs) = 2 → ∃ x ∈ rs, highT off x < L) := by
  have hm := lotOf_made ⟨n, 0, L, 0⟩ off rs
  have hk : ((n : Int) - (lotOf ⟨n, 0, L, 0⟩ off rs).made).toNat = 0 := by rw [hm.1]; omega
  have hp := pos_sum (r := ⟨n, 0, L, 0⟩) ho (by omega) h2
  have hw := fold_wb ⟨n, 0, L, 0⟩ rs (CLot.new off)
  have e1 : (lotOf ⟨n, 0, L, 0⟩ off rs).wb = (rs.countP fun x => decide (lowT off x < L) : Nat) := hw.1.trans (Int.zero_add _)
  have e2 : (lotOf ⟨n, 0, L, 0⟩ off rs).bb = (rs.countP fun x => decide (highT off x < L) : Nat) := hw.2.trans (Int.zero_add _)
  have q : ∀ (s b rest : Int), 0 ≤ s → passI ⟨n, 0, L, 0⟩ (lotOf ⟨n, 0, L, 0⟩ off rs).made s b rest = decide (b ≤ 0) := fun s b rest hs => by
    have hb0 : badOf b rest L 0 = b := by unfold badOf; split <;> simp
    simp only [passI, hk, hb0, Int.mul_zero, Int.ofNat_zero, Int.natCast_zero, Int.zero_mul, Int.add_zero, hs, decide_true, Bool.true_and]
  unfold stateI
  rw [q _ _ _ hp.1, q _ _ _ hp.2, e1, e2]
  constructor
  · intro h x hx
    have h0 : (rs.countP fun x => decide (lowT off x < L)) = 0 := by
      split at h
      · rename_i h3; simp at h3; exact List.countP_eq_zero.2 (fun a ha => by have := h3 a ha; simp; exact this)
      · split at h <;> cases h
    have := List.countP_eq_zero.1 h0 x hx
    simp at this
    exact this
  · intro h
    have h0 : 0 < (rs.countP fun x => decide (highT off x < L)) := by
      split at h
      · cases h
      · split at h
        · cases h
        · rename_i h3
          rcases Nat.eq_zero_or_pos (rs.countP fun x => decide (highT off x < L)) with h4 | h4
          · rw [h4] at h3; simp at h3
          · exact h4
    obtain ⟨x, hx, hp⟩ := List.countP_pos_iff.1 h0
    exact ⟨x, hx, by simpa using hp⟩
end Go.Dw.Seat
end
section
set_option linter.unusedSimpArgs false
namespace Go.Dw.Seat
open Go Go.Dw
theorem op_len (f : Room → Int) (m : Room) (mins : List Int) (n : Nat) (hl : mins.length = n) : ∀ i, i ≤ n → (opF f (List.replicate n m) mins i).length = (mins.take i).countP fun t => decide (t < f m)
  | 0, _ => by simp [opF]
  | i + 1, hi => by
    obtain ⟨v, hv⟩ : ∃ v, mins[i]? = some v := ⟨mins[i]'(by omega), by simp⟩
    have hm : (List.replicate n m)[i]? = some m := by rw [List.getElem?_replicate, if_pos (by omega)]
    rw [opF_succ hm hv, List.length_append, op_len f m mins n hl i (by omega), List.take_add_one, hv, List.countP_append]
    congr 1
    cases h : decide (v < f m) <;> simp [h]
theorem op_all (f : Room → Int) (m : Room) (mins : List Int) (n : Nat) (hl : mins.length = n) : (opF f (List.replicate n m) mins n).length = mins.countP fun t => decide (t < f m) := by
  rw [op_len f m mins n hl n (Nat.le_refl _), List.take_of_length_le (by omega)]
theorem count_le {mins : List Int} {a b : Int} (h : a ≤ b) : (mins.countP fun t => decide (t < a)) ≤ mins.countP fun t => decide (t < b) := by
  refine List.countP_mono_left (fun t _ ht => ?_)
  simp only [decide_eq_true_eq] at ht ⊢
  omega
theorem openErr_zero' {r : Rule} {m : Room} {mins : List Int} {n : Nat} (hr : ruleOk r = true) (hm : roomOk m = true) (hl : mins.length = n) (hn : n ≤ 50) (hw : wthn 0 2400 mins = true) : opErr r (List.replicate n m) mins = 0 := by
  have e1 : ¬ 50 < ((List.replicate n m).length : Int) := by rw [List.length_replicate]; omega
  have e2 : ¬ ((mins.length : Int) ≠ ((List.replicate n m).length : Int)) := by rw [List.length_replicate, hl]; simp
  have e3 : (List.replicate n m).any (fun m => !roomOk m) = false := by
    rw [List.any_eq_false]
    intro a ha
    rw [List.eq_of_mem_replicate ha, hm]; simp
  simp only [opErr, hr, if_neg e1, if_neg e2, e3, hw, Bool.true_eq_false, Bool.false_eq_true, if_false]
theorem truths_wthn {H : Int} (l : List B2) (i : Nat) (hH : 1 ≤ H ∧ H ≤ 2000) : wthn 0 2400 (truthsTo H l i) = true := by
  refine wthn_yes (fun v hv => ?_)
  obtain ⟨x, _, rfl⟩ := List.mem_map.1 hv
  have := tI_in x hH
  omega
theorem reads_in {H : Int} {o : Nat} (l : List B2) (i : Nat) (hH : 1 ≤ H ∧ H ≤ 2000) (ho : o < 5) : ∀ x ∈ readsTo H o l i, 0 ≤ x ∧ x ≤ 100000 := fun x hx => by
  obtain ⟨v, _, rfl⟩ := List.mem_map.1 hx
  have := (rdI_in v hH ho).1
  omega
theorem press_state {H : Int} {o : Nat} (l : List B2) (n : Nat) (hH : 1 ≤ H ∧ H ≤ 2000) (ho : o < 5) (hn : n ≤ 20) (hl : (readsTo H o l n).length = n) :
    (stateI ⟨n, 0, H, 0⟩ (lotOf ⟨n, 0, H, 0⟩ (o : Int) (readsTo H o l n)) = 1 → (truthsTo H l n).countP (fun t => decide (t < H)) = 0) ∧
    (stateI ⟨n, 0, H, 0⟩ (lotOf ⟨n, 0, H, 0⟩ (o : Int) (readsTo H o l n)) = 2 → 0 < (truthsTo H l n).countP (fun t => decide (t < H))) := by
  obtain ⟨h1, h2⟩ := state_all (L := H) (off := (o : Int)) hl (by omega) hn (reads_in l n hH ho)
  constructor
  · intro h
    rw [List.countP_eq_zero]
    intro t ht
    obtain ⟨v, hv, rfl⟩ := List.mem_map.1 ht
    have := h1 h (rdI H o v) (List.mem_map.2 ⟨v, hv, rfl⟩)
    have := (rdI_in v hH ho).2.1
    simp; omega
  · intro h
    obtain ⟨x, hx, hlt⟩ := h2 h
    obtain ⟨v, hv, rfl⟩ := List.mem_map.1 hx
    have := (rdI_in v hH ho).2.2
    exact List.countP_pos_iff.2 ⟨tI H v, List.mem_map.2 ⟨v, hv, rfl⟩, by simp; omega⟩
end Go.Dw.Seat
end
section
set_option linter.unusedSimpArgs false
set_option maxRecDepth 100000
namespace Go.Dw.Seat
open Go Go.Dw Go.Proofs Go.IntWalk
theorem ud5 : Try.prog.underlying 5 = some (.int .u8) := by kernel_rfl
def eV2 (v : B2) : List C := [.v (.int .u8 v.v0), .v (.int .u8 v.v1)]
abbrev d8 (n : Nat) : D := .c (.v (.int .u8 n))
theorem snocR (l : List Room) (a b c d : Int) : rowC (rows eR l) ++ [[D.c (.v (.int .i64 a)), D.c (.v (.int .i64 b)), D.c (.v (.int .i64 c)), D.c (.v (.int .i64 d))]] = rowC (rows eR (l ++ [⟨a, b, c, d⟩])) := by simp [rowC, rows, eR]
attribute [go_sem] ud5 eV2 d8 snocR
theorem tmodN (m k : Nat) : (m : Int).tmod (k : Int) = ((m % k : Nat) : Int) := by
  rw [Int.tmod_eq_emod_of_nonneg (by omega)]; simp
theorem tm21 (m : Nat) : (m : Int).tmod 21 = ((m % 21 : Nat) : Int) := tmodN m 21
theorem tm20 (m : Nat) : (m : Int).tmod 20 = ((m % 20 : Nat) : Int) := tmodN m 20
theorem tm10 (m : Nat) : (m : Int).tmod 10 = ((m % 10 : Nat) : Int) := tmodN m 10
theorem tm60 (m : Nat) : (m : Int).tmod 60 = ((m % 60 : Nat) : Int) := tmodN m 60
theorem tm40 (m : Nat) : (m : Int).tmod 40 = ((m % 40 : Nat) : Int) := tmodN m 40
theorem tm5 (m : Nat) : (m : Int).tmod 5 = ((m % 5 : Nat) : Int) := tmodN m 5
theorem count_take {l : List Int} {j : Nat} {t : Int} (H : Int) (h : l[j]? = some t) : (l.take (j + 1)).countP (fun t => decide (t < H)) = (l.take j).countP (fun t => decide (t < H)) + (if decide (t < H) then 1 else 0) := by
  rw [List.take_add_one, h, Option.toList_some, List.countP_append, List.countP_cons, List.countP_nil, Nat.zero_add]
theorem pressErr0 {r : Rule} {m : Room} (hr : ruleOk r = true) (hm : roomOk m = true) : DCall Try.prog 37 [dR r, .agg ((eR m).map D.c)] [] (.tup [.agg [dI (pressLo r m), dI (pressHi r m)], dI 0]) [] := by
  have h := c41 r m
  have h0 : pressErr r m = 0 := by simp [pressErr, hr, hm]
  rw [h0, if_pos rfl, if_pos rfl] at h
  exact h
set_option maxHeartbeats 1600000 in
theorem tpPress (b : Bool) (a0 a1 a2 m0 m1 m2 m3 : Nat) (tests : List B2) (h0 : a0 < 256) (h1 : a1 < 256) (h2 : a2 < 256) (h3 : m0 < 256) (h4 : m1 < 256) (h5 : m2 < 256) (h6 : m3 < 256) (ht : ∀ v ∈ tests, v.ok) :
    DCall Try.prog 7 [.agg [d8 a0, d8 a1, d8 a2], .agg [d8 m0, d8 m1, d8 m2, d8 m3], .c (.sl b 2 (rows eV2 tests))] [] (bD true) [] := by
  have q1 : a1 % 21 < 21 := Nat.mod_lt _ (by decide)
  have q2 : a2 % 21 < 21 := Nat.mod_lt _ (by decide)
  have q3 : m0 % 20 < 20 := Nat.mod_lt _ (by decide)
  have q4 : m1 % 10 < 10 := Nat.mod_lt _ (by decide)
  have q5 : m2 % 60 < 60 := Nat.mod_lt _ (by decide)
  have q6 : m3 % 40 < 40 := Nat.mod_lt _ (by decide)
  have hr := pressR_ok a0 a1 a2 h0
  have hin := roomR_in m0 m1 m2 m3
  have hm := ok_of (m := roomR m0 m1 m2 m3) (by omega)
  have h41 := pressErr0 hr hm
  have hlo1 : 1 ≤ pressLo (pressR a0 a1 a2) (roomR m0 m1 m2 m3) := time_pos hr (by omega) (by omega)
  have hhi2 : pressHi (pressR a0 a1 a2) (roomR m0 m1 m2 m3) ≤ 2000 := (time_in hr (by omega) (by omega)).2
  have hlh : pressLo (pressR a0 a1 a2) (roomR m0 m1 m2 m3) ≤ pressHi (pressR a0 a1 a2) (roomR m0 m1 m2 m3) := time_mono hr (by omega) (by omega)
  have hs1 := tpSpan ((m0 % 20 : Nat) : Int) (((m0 % 20 : Nat) : Int) + ((m1 % 10 : Nat) : Int))
  have hs2 := tpSpan ((m2 % 60 : Nat) : Int) (((m2 % 60 : Nat) : Int) + ((m3 % 40 : Nat) : Int))
  obtain ⟨N, hN⟩ : ∃ N : Nat, N = min 12 tests.length := ⟨_, rfl⟩
  have hmin : (if (tests.length : Int) < 12 then (tests.length : Int) else 12) = (N : Int) := by split <;> omega
  have hmin2 : (if (12 : Int) < (tests.length : Int) then (12 : Int) else (tests.length : Int)) = (N : Int) := by split <;> omega
  have d1 : decide (pressLo (pressR a0 a1 a2) (roomR m0 m1 m2 m3) < 1) = false := by rw [decide_eq_false_iff_not]; omega
  have d2 : decide (2000 < pressHi (pressR a0 a1 a2) (roomR m0 m1 m2 m3)) = false := by rw [decide_eq_false_iff_not]; omega
  have d3 : decide (pressHi (pressR a0 a1 a2) (roomR m0 m1 m2 m3) < pressLo (pressR a0 a1 a2) (roomR m0 m1 m2 m3)) = false := by rw [decide_eq_false_iff_not]; omega
  by_cases hN0 : N = 0
  · have hl0 : tests.length = 0 := by omega
    rw [hN0] at hmin hmin2
    refine DCall.of Try.func7 sf7 hb7 (Nat.le_of_ble_eq_true rfl) (okRes_nil fun _ => rfl) ?_; simp only [s7, idxs, Nat.reduceAdd]
    repeat' (first
    | (with_reducible refine DW.seq ?_)
    | (with_reducible refine DW.block ?_)
    | (with_reducible refine DW.skip ?_)
    | (with_reducible refine DW.exit ?_)
    | (with_reducible refine DW.ret ?_)
    | (with_reducible refine DW.reg ?_)
    | (refine DW.dreg rfl (WF.of (by first | rfl | simp (disch := omega) only [go_sem, Nat.reduceLT, Nat.reduceLeDiff, Nat.reduceAdd, Nat.reduceMul, Nat.reduceEqDiff, ↓reduceIte, reduceCtorEq, Nat.reduceBEq, Nat.reduceBNe, Nat.reducePow, Int.reduceLE, Int.reduceLT, Int.reduceNeg, Int.reduceToNat, Int.reduceEq, Int.reduceAdd, Int.reduceSub, Int.reduceMul, Int.reduceBEq, Int.reduceBNe, Blk.men, Blk.keysIn, tm21, tm20, tm10, tm60, tm40, hmin, hmin2, d1, d2, d3])) ?_)
    | (refine DW.ord rfl (WF.of (by first | rfl | simp (disch := omega) only [go_sem, Nat.reduceLT, Nat.reduceLeDiff, Nat.reduceAdd, Nat.reduceMul, Nat.reduceEqDiff, ↓reduceIte, reduceCtorEq, Nat.reduceBEq, Nat.reduceBNe, Nat.reducePow, Int.reduceLE, Int.reduceLT, Int.reduceNeg, Int.reduceToNat, Int.reduceEq, Int.reduceAdd, Int.reduceSub, Int.reduceMul, Int.reduceBEq, Int.reduceBNe, Blk.men, Blk.keysIn, tm21, tm20, tm10, tm60, tm40, hmin, hmin2, d1, d2, d3])) ?_ ?_ ?_; rotate_left)
    | rfl
    | (with_reducible refine And.intro ?_ ?_)
    | (simp (disch := omega) only [go_sem, Nat.reduceLT, Nat.reduceLeDiff, Nat.reduceAdd, Nat.reduceMul, Nat.reduceEqDiff, ↓reduceIte, reduceCtorEq, Nat.reduceBEq, Nat.reduceBNe, Nat.reducePow, Int.reduceLE, Int.reduceLT, Int.reduceNeg, Int.reduceToNat, Int.reduceEq, Int.reduceAdd, Int.reduceSub, Int.reduceMul, Int.reduceBEq, Int.reduceBNe, Blk.men, Blk.keysIn, tm21, tm20, tm10, tm60, tm40, hmin, hmin2, d1, d2, d3])
    | (exact retS_of rfl rfl rfl)
    | (refine DW.cond_tt rfl ?_)
    | (refine call_c (hs1) (by decide) ?_)
    | (refine call_c (hs2) (by decide) ?_)
    | (refine call_c (h41) (by decide) ?_)
    | (refine call_c (tpGlue) (by decide) ?_)
    | (refine DW.cond_ff rfl ?_)
    | (refine DW.cond rfl ?_ ?_ <;> intro hc <;> (try simp only [go_sem] at hc))
    | (refine g_split ?_ ?_ <;> intro hc <;> (try simp only [hc]) <;> (try simp only [go_sem] at hc)))
  · obtain ⟨w0, hw0⟩ := getE (l := tests) (i := 0) (by omega)
    have hw0o := (ht w0 (List.mem_of_getElem? hw0)).v1
    obtain ⟨o, ho⟩ : ∃ o : Nat, o = w0.v1 % 5 := ⟨_, rfl⟩
    have ho5 : o < 5 := by have : w0.v1 % 5 < 5 := Nat.mod_lt _ (by decide); omega
    have hoI : (w0.v1 : Int).tmod 5 = (o : Int) := by rw [tm5, ho]
    have hH : 1 ≤ pressHi (pressR a0 a1 a2) (roomR m0 m1 m2 m3) ∧ pressHi (pressR a0 a1 a2) (roomR m0 m1 m2 m3) ≤ 2000 := by omega
    have hNe : ((N : Int) == 0) = false := by rw [beq_eq_false_iff_ne]; omega
    have hM : roomR m0 m1 m2 m3 = ⟨((m0 % 20 : Nat) : Int), ((m0 % 20 : Nat) : Int) + ((m1 % 10 : Nat) : Int), ((m2 % 60 : Nat) : Int), ((m2 % 60 : Nat) : Int) + ((m3 % 40 : Nat) : Int)⟩ := rfl
    have hR : pressR a0 a1 a2 = ⟨1 + (a0 : Int), ((a1 % 21 : Nat) : Int), ((a2 % 21 : Nat) : Int)⟩ := rfl
    obtain ⟨L, hL⟩ : ∃ L, L = pressLo (pressR a0 a1 a2) (roomR m0 m1 m2 m3) := ⟨_, rfl⟩
    obtain ⟨H, hHe⟩ : ∃ H, H = pressHi (pressR a0 a1 a2) (roomR m0 m1 m2 m3) := ⟨_, rfl⟩
    have htl : (truthsTo H tests N).length = N := by simp [truthsTo]; omega
    have hrl : (readsTo H o tests N).length = N := by simp [readsTo]; omega
    rw [← hHe] at hH
    have hcd := crDecide false ⟨N, 0, H, 0⟩ (readsTo H o tests N) (o : Int) ⟨by simp only; omega, by simp, by simp only; omega, by simp, by omega, by simp only; omega, reads_in tests N hH ho5⟩
    have hin1 := tpInts true (readsTo H o tests N) (by omega)
    have hin2 := tpInts true (truthsTo H tests N) (by omega)
    have h39 := c39 true false (pressR a0 a1 a2) (List.replicate N (roomR m0 m1 m2 m3)) (truthsTo H tests N) (by rw [List.length_replicate]; omega) (by omega)
    have he0 := openErr_zero' hr hm htl (by omega) (truths_wthn tests N hH)
    have hoo : ∀ f, opOut f (pressR a0 a1 a2) (List.replicate N (roomR m0 m1 m2 m3)) (truthsTo H tests N) = opF f (List.replicate N (roomR m0 m1 m2 m3)) (truthsTo H tests N) N := fun f => by
      rw [opOut, if_pos he0, List.length_replicate]
    rw [he0, hoo, hoo] at h39
    have hA := op_all (pressLo (pressR a0 a1 a2)) (roomR m0 m1 m2 m3) (truthsTo H tests N) N htl
    have hB := op_all (pressHi (pressR a0 a1 a2)) (roomR m0 m1 m2 m3) (truthsTo H tests N) N htl
    rw [← hL] at hA
    rw [← hHe] at hB
    have hAB := count_le (mins := truthsTo H tests N) (a := L) (b := H) (by omega)
    have hBN : (truthsTo H tests N).countP (fun t => decide (t < H)) ≤ N := by have := List.countP_le_length (p := fun t => decide (t < H)) (l := truthsTo H tests N); omega
    have hps := press_state tests N hH ho5 (by omega) hrl
    rw [← hL, ← hHe] at h41 d3
    rw [← hL] at d1 hlo1
    rw [← hHe] at d2
    clear hlh hhi2 hs1 hs2 he0 hoo hL hHe
    have hs1 := tpSpan ((m0 % 20 : Nat) : Int) (((m0 % 20 : Nat) : Int) + ((m1 % 10 : Nat) : Int))
    have hs2 := tpSpan ((m2 % 60 : Nat) : Int) (((m2 % 60 : Nat) : Int) + ((m3 % 40 : Nat) : Int))
    generalize stateI ⟨N, 0, H, 0⟩ (lotOf ⟨N, 0, H, 0⟩ (o : Int) (readsTo H o tests N)) = st at *
    generalize opF (pressLo (pressR a0 a1 a2)) (List.replicate N (roomR m0 m1 m2 m3)) (truthsTo H tests N) N = A at *
    generalize opF (pressHi (pressR a0 a1 a2)) (List.replicate N (roomR m0 m1 m2 m3)) (truthsTo H tests N) N = B at *
    refine DCall.of Try.func7 sf7 hb7 (Nat.le_of_ble_eq_true rfl) (okRes_nil fun _ => rfl) ?_; simp only [s7, idxs, Nat.reduceAdd]
    repeat' (first
    | (with_reducible refine DW.seq ?_)
    | (with_reducible refine DW.block ?_)
    | (with_reducible refine DW.skip ?_)
    | (with_reducible refine DW.exit ?_)
    | (with_reducible refine DW.ret ?_)
    | (with_reducible refine DW.reg ?_)
    | (refine DW.dreg rfl (WF.of (by first | rfl | simp (disch := omega) only [go_sem, Nat.reduceLT, Nat.reduceLeDiff, Nat.reduceAdd, Nat.reduceMul, Nat.reduceEqDiff, ↓reduceIte, reduceCtorEq, Nat.reduceBEq, Nat.reduceBNe, Nat.reducePow, Int.reduceLE, Int.reduceLT, Int.reduceNeg, Int.reduceToNat, Int.reduceEq, Int.reduceAdd, Int.reduceSub, Int.reduceMul, Int.reduceBEq, Int.reduceBNe, Blk.men, Blk.keysIn, tm21, tm20, tm10, tm60, tm40, hmin, hmin2, d1, d2, d3, hNe, hw0, hoI])) ?_)
    | (refine DW.ord rfl (WF.of (by first | rfl | simp (disch := omega) only [go_sem, Nat.reduceLT, Nat.reduceLeDiff, Nat.reduceAdd, Nat.reduceMul, Nat.reduceEqDiff, ↓reduceIte, reduceCtorEq, Nat.reduceBEq, Nat.reduceBNe, Nat.reducePow, Int.reduceLE, Int.reduceLT, Int.reduceNeg, Int.reduceToNat, Int.reduceEq, Int.reduceAdd, Int.reduceSub, Int.reduceMul, Int.reduceBEq, Int.reduceBNe, Blk.men, Blk.keysIn, tm21, tm20, tm10, tm60, tm40, hmin, hmin2, d1, d2, d3, hNe, hw0, hoI])) ?_ ?_ ?_; rotate_left)
    | rfl
    | (with_reducible refine And.intro ?_ ?_)
    | (simp (disch := omega) only [go_sem, Nat.reduceLT, Nat.reduceLeDiff, Nat.reduceAdd, Nat.reduceMul, Nat.reduceEqDiff, ↓reduceIte, reduceCtorEq, Nat.reduceBEq, Nat.reduceBNe, Nat.reducePow, Int.reduceLE, Int.reduceLT, Int.reduceNeg, Int.reduceToNat, Int.reduceEq, Int.reduceAdd, Int.reduceSub, Int.reduceMul, Int.reduceBEq, Int.reduceBNe, Blk.men, Blk.keysIn, tm21, tm20, tm10, tm60, tm40, hmin, hmin2, d1, d2, d3, hNe, hw0, hoI])
    | (exact retS_of rfl rfl rfl)
    | (refine DW.cond_tt rfl ?_)
    | (refine call_c (hs1) (by decide) ?_)
    | (refine call_c (hs2) (by decide) ?_)
    | (refine call_c (h41) (by decide) ?_)
    | (refine DW.cond_ff rfl ?_)
    | (refine DW.cond rfl ?_ ?_ <;> intro hc <;> (try simp only [go_sem] at hc))
    | (refine g_split ?_ ?_ <;> intro hc <;> (try simp only [hc]) <;> (try simp only [go_sem] at hc)))
    refine DW.loop (ι := { i : Nat // i ≤ N }) (fun i => ⟨226, [(16, dI i.1), (15, .own 106), (14, .own 105), (13, .own 104), (12, dI o), (11, dI N), (9, .box 9 0), (8, .box 8 0), (7, .box 7 0), (2, .c (.sl b 2 (rows eV2 tests)))],
      [(106, .row 4 (rowC (rows eR (List.replicate i.1 (roomR m0 m1 m2 m3))))), (105, .row 1 (rowC (rows eI (truthsTo H tests i.1)))), (104, .row 1 (rowC (rows eI (readsTo H o tests i.1)))), (9, .box [dI L, dI H]), (8, .box [dI ((m0 % 20 : Nat) : Int), dI (((m0 % 20 : Nat) : Int) + ((m1 % 10 : Nat) : Int)), dI ((m2 % 60 : Nat) : Int), dI (((m2 % 60 : Nat) : Int) + ((m3 % 40 : Nat) : Int))]), (7, .box [dI (1 + (a0 : Int)), dI ((a1 % 21 : Nat) : Int), dI ((a2 % 21 : Nat) : Int)])]⟩) (fun i => N - i.1) ⟨0, Nat.zero_le _⟩ ?_ ?_
    · refine Ent.to ?_ ?_ <;> simp (disch := omega) only [wkT_cons, wkX_cons, wkT_nil, wkX_nil, get, Nat.reduceEqDiff, ↓reduceIte, ex_some, wk_self, wk_top, wk_nil, wkB_self, and_self, dI, i64_in, and_true, true_and, Int.natCast_add, Int.natCast_one, Int.ofNat_zero, Int.natCast_zero]
      exact ⟨.refl _, .refl _, .refl _⟩
    rintro ⟨i, hi⟩
    rcases Nat.lt_or_ge i N with hlt | hge
    · have hd : decide ((i : Int) < (N : Int)) = true := by rw [decide_eq_true_eq]; omega
      obtain ⟨v, hv⟩ := getE (l := tests) (i := i) (by omega)
      have hv0 := (ht v (List.mem_of_getElem? hv)).v0
      have hv1 := (ht v (List.mem_of_getElem? hv)).v1
      have p0 : v.v0 % 40 < 40 := Nat.mod_lt _ (by decide)
      have p1 : v.v1 % (2 * o + 1) < 2 * o + 1 := Nat.mod_lt _ (by omega)
      have hrem : (v.v1 : Int).tmod (2 * (o : Int) + 1) = ((v.v1 % (2 * o + 1) : Nat) : Int) := by
        have := tmodN v.v1 (2 * o + 1)
        rwa [show (((2 * o + 1 : Nat)) : Int) = 2 * (o : Int) + 1 by omega] at this
      have hne : (2 * (o : Int) + 1 = 0) = False := eq_false (by omega)
      have s1 : truthsTo H tests (i + 1) = truthsTo H tests i ++ [tI H v] := by rw [truthsTo, map_take hv]; rfl
      have s2 : readsTo H o tests (i + 1) = readsTo H o tests i ++ [rdI H o v] := by rw [readsTo, map_take hv]; rfl
      have s3 : List.replicate (i + 1) (roomR m0 m1 m2 m3) = List.replicate i (roomR m0 m1 m2 m3) ++ [⟨((m0 % 20 : Nat) : Int), ((m0 % 20 : Nat) : Int) + ((m1 % 10 : Nat) : Int), ((m2 % 60 : Nat) : Int), ((m2 % 60 : Nat) : Int) + ((m3 % 40 : Nat) : Int)⟩] := by rw [List.replicate_succ']; rfl
      have l1 : (truthsTo H tests i).length ≤ 12 := by simp [truthsTo]; omega
      have l2 : (readsTo H o tests i).length ≤ 12 := by simp [readsTo]; omega
      have l3 : (List.replicate i (roomR m0 m1 m2 m3)).length ≤ 12 := by rw [List.length_replicate]; omega
      have ti := tI_in v hH
      have ht1 : (if 0 < H + ((v.v0 % 40 : Nat) : Int) - 10 then H + ((v.v0 % 40 : Nat) : Int) - 10 else 0) = tI H v := rfl
      have hr1 : (if 0 < tI H v + ((v.v1 % (2 * o + 1) : Nat) : Int) - (o : Int) then tI H v + ((v.v1 % (2 * o + 1) : Nat) : Int) - (o : Int) else 0) = rdI H o v := rfl
      generalize truthsTo H tests i = ta at *
      generalize readsTo H o tests i = ra at *
      generalize List.replicate i (roomR m0 m1 m2 m3) = rr at *
      repeat' (first
    | (with_reducible refine DW.seq ?_)
    | (with_reducible refine DW.block ?_)
    | (with_reducible refine DW.skip ?_)
    | (with_reducible refine DW.exit ?_)
    | (with_reducible refine DW.ret ?_)
    | (with_reducible refine DW.reg ?_)
    | (refine DW.dreg rfl (WF.of (by first | rfl | simp (disch := omega) only [go_sem, Nat.reduceLT, Nat.reduceLeDiff, Nat.reduceAdd, Nat.reduceMul, Nat.reduceEqDiff, ↓reduceIte, reduceCtorEq, Nat.reduceBEq, Nat.reduceBNe, Nat.reducePow, Int.reduceLE, Int.reduceLT, Int.reduceNeg, Int.reduceToNat, Int.reduceEq, Int.reduceAdd, Int.reduceSub, Int.reduceMul, Int.reduceBEq, Int.reduceBNe, Blk.men, Blk.keysIn, hd, hv, tm40, hrem, hne, ht1, hr1])) ?_)
    | (refine DW.ord rfl (WF.of (by first | rfl | simp (disch := omega) only [go_sem, Nat.reduceLT, Nat.reduceLeDiff, Nat.reduceAdd, Nat.reduceMul, Nat.reduceEqDiff, ↓reduceIte, reduceCtorEq, Nat.reduceBEq, Nat.reduceBNe, Nat.reducePow, Int.reduceLE, Int.reduceLT, Int.reduceNeg, Int.reduceToNat, Int.reduceEq, Int.reduceAdd, Int.reduceSub, Int.reduceMul, Int.reduceBEq, Int.reduceBNe, Blk.men, Blk.keysIn, hd, hv, tm40, hrem, hne, ht1, hr1])) ?_ ?_ ?_; rotate_left)
    | rfl
    | (with_reducible refine And.intro ?_ ?_)
    | (simp (disch := omega) only [go_sem, Nat.reduceLT, Nat.reduceLeDiff, Nat.reduceAdd, Nat.reduceMul, Nat.reduceEqDiff, ↓reduceIte, reduceCtorEq, Nat.reduceBEq, Nat.reduceBNe, Nat.reducePow, Int.reduceLE, Int.reduceLT, Int.reduceNeg, Int.reduceToNat, Int.reduceEq, Int.reduceAdd, Int.reduceSub, Int.reduceMul, Int.reduceBEq, Int.reduceBNe, Blk.men, Blk.keysIn, hd, hv, tm40, hrem, hne, ht1, hr1])
    | (exact retS_of rfl rfl rfl)
    | (refine DW.cond_tt rfl ?_)
    | (refine DW.cond_ff rfl ?_)
    | (refine DW.cond rfl ?_ ?_ <;> intro hc <;> (try simp only [go_sem] at hc))
    | (refine g_split ?_ ?_ <;> intro hc <;> (try simp only [hc]) <;> (try simp only [go_sem] at hc)))
      refine ⟨⟨i + 1, hlt⟩, ?_, Ent.to ?_ ?_⟩ <;> first | (show _ < _; (try simp only); omega) | (simp (disch := omega) only [wkT_cons, wkX_cons, wkT_nil, wkX_nil, get, Nat.reduceEqDiff, ↓reduceIte, ex_some, wk_self, wk_top, wk_nil, wkB_self, and_self, dI, i64_in, and_true, true_and, Int.natCast_add, Int.natCast_one, Int.ofNat_zero, Int.natCast_zero,  s1, s2, s3])
      all_goals exact .refl _
    · obtain rfl : i = N := by omega
      have hd : decide ((i : Int) < (i : Int)) = false := by rw [decide_eq_false_iff_not]; omega
      have c1 : decide ((B.length : Int) < (A.length : Int)) = false := by rw [decide_eq_false_iff_not]; omega
      have c2 : decide ((i : Int) < (B.length : Int)) = false := by rw [decide_eq_false_iff_not]; omega
      have hcs : (st = 1 ∧ decide ((0 : Int) < (B.length : Int)) = false) ∨ (st = 2 ∧ ((B.length : Int) == 0) = false) ∨ ((st == 1) = false ∧ (st == 2) = false) := by
        by_cases h1 : st = 1
        · exact .inl ⟨h1, by rw [decide_eq_false_iff_not]; have := hps.1 h1; omega⟩
        · by_cases h2 : st = 2
          · exact .inr (.inl ⟨h2, by rw [beq_eq_false_iff_ne]; have := hps.2 h2; omega⟩)
          · exact .inr (.inr ⟨beq_eq_false_iff_ne.2 h1, beq_eq_false_iff_ne.2 h2⟩)
      have hfin : ∀ j, j ≤ i → ((truthsTo H tests i).take j).countP (fun t => decide (t < H)) ≤ 12 := fun j hj => by
        have := List.countP_le_length (p := fun t => decide (t < H)) (l := (truthsTo H tests i).take j)
        rw [List.length_take] at this; omega
      generalize truthsTo H tests i = ta at *
      generalize readsTo H o tests i = ra at *
      generalize List.replicate i (roomR m0 m1 m2 m3) = rr at *
      clear hps
      rcases hcs with ⟨rfl, x1⟩ | ⟨rfl, x1⟩ | ⟨x1, x2⟩
      · repeat' (first
    | (with_reducible refine DW.seq ?_)
    | (with_reducible refine DW.block ?_)
    | (with_reducible refine DW.skip ?_)
    | (with_reducible refine DW.exit ?_)
    | (with_reducible refine DW.ret ?_)
    | (with_reducible refine DW.reg ?_)
    | (refine DW.dreg rfl (WF.of (by first | rfl | simp (disch := omega) only [go_sem, Nat.reduceLT, Nat.reduceLeDiff, Nat.reduceAdd, Nat.reduceMul, Nat.reduceEqDiff, ↓reduceIte, reduceCtorEq, Nat.reduceBEq, Nat.reduceBNe, Nat.reducePow, Int.reduceLE, Int.reduceLT, Int.reduceNeg, Int.reduceToNat, Int.reduceEq, Int.reduceAdd, Int.reduceSub, Int.reduceMul, Int.reduceBEq, Int.reduceBNe, Blk.men, Blk.keysIn, hd, c1, c2, x1])) ?_)
    | (refine DW.ord rfl (WF.of (by first | rfl | simp (disch := omega) only [go_sem, Nat.reduceLT, Nat.reduceLeDiff, Nat.reduceAdd, Nat.reduceMul, Nat.reduceEqDiff, ↓reduceIte, reduceCtorEq, Nat.reduceBEq, Nat.reduceBNe, Nat.reducePow, Int.reduceLE, Int.reduceLT, Int.reduceNeg, Int.reduceToNat, Int.reduceEq, Int.reduceAdd, Int.reduceSub, Int.reduceMul, Int.reduceBEq, Int.reduceBNe, Blk.men, Blk.keysIn, hd, c1, c2, x1])) ?_ ?_ ?_; rotate_left)
    | rfl
    | (with_reducible refine And.intro ?_ ?_)
    | (simp (disch := omega) only [go_sem, Nat.reduceLT, Nat.reduceLeDiff, Nat.reduceAdd, Nat.reduceMul, Nat.reduceEqDiff, ↓reduceIte, reduceCtorEq, Nat.reduceBEq, Nat.reduceBNe, Nat.reducePow, Int.reduceLE, Int.reduceLT, Int.reduceNeg, Int.reduceToNat, Int.reduceEq, Int.reduceAdd, Int.reduceSub, Int.reduceMul, Int.reduceBEq, Int.reduceBNe, Blk.men, Blk.keysIn, hd, c1, c2, x1])
    | (exact retS_of rfl rfl rfl)
    | (refine DW.cond_tt rfl ?_)
    | (refine call_c (hcd) (by decide) ?_)
    | (refine call_c (hin1) (by decide) ?_)
    | (refine call_c (hin2) (by decide) ?_)
    | (refine call_c (h39) (by decide) ?_)
    | (refine DW.cond_ff rfl ?_)
    | (refine DW.cond rfl ?_ ?_ <;> intro hc <;> (try simp only [go_sem] at hc))
    | (refine g_split ?_ ?_ <;> intro hc <;> (try simp only [hc]) <;> (try simp only [go_sem] at hc)))
        refine DW.loop (ι := { j : Nat // j ≤ i }) (fun j => ⟨226, [(24, dI j.1), (23, dI ((ta.take j.1).countP (fun t => decide (t < H)) : Nat)), (21, dIs false (nL B)), (14, .own 105), (11, dI i), (9, .box 9 0)], [(105, .row 1 (rowC (rows eI ta))), (9, .box [dI L, dI H])]⟩) (fun j => i - j.1) ⟨0, Nat.zero_le _⟩ ?_ ?_
        · refine Ent.to ?_ ?_ <;> simp (disch := omega) only [wkT_cons, wkX_cons, wkT_nil, wkX_nil, get, Nat.reduceEqDiff, ↓reduceIte, ex_some, wk_self, wk_top, wk_nil, wkB_self, and_self, dI, i64_in, and_true, true_and, Int.natCast_add, Int.natCast_one, Int.ofNat_zero, Int.natCast_zero, List.take_zero, List.countP_nil]
          all_goals exact .refl _
        rintro ⟨j, hj⟩
        rcases Nat.lt_or_ge j i with hjl | hjg
        · have y0 : decide ((j : Int) < (i : Int)) = true := by rw [decide_eq_true_eq]; omega
          obtain ⟨t, htj⟩ := getE (l := ta) (i := j) (by omega)
          have hin : (j < ta.length) = True := eq_true (by omega)
          have hc1 : (ta.take (j + 1)).countP (fun t => decide (t < H)) = (ta.take j).countP (fun t => decide (t < H)) + (if decide (t < H) then 1 else 0) := count_take H htj
          have hcl := hfin j (by omega)
          generalize (ta.take j).countP (fun t => decide (t < H)) = cc at *
          cases y1 : decide (t < H) with
          | true =>
            rw [y1, if_pos rfl] at hc1
            repeat' (first
    | (with_reducible refine DW.seq ?_)
    | (with_reducible refine DW.block ?_)
    | (with_reducible refine DW.skip ?_)
    | (with_reducible refine DW.exit ?_)
    | (with_reducible refine DW.ret ?_)
    | (with_reducible refine DW.reg ?_)
    | (refine DW.dreg rfl (WF.of (by first | rfl | simp (disch := omega) only [go_sem, Nat.reduceLT, Nat.reduceLeDiff, Nat.reduceAdd, Nat.reduceMul, Nat.reduceEqDiff, ↓reduceIte, reduceCtorEq, Nat.reduceBEq, Nat.reduceBNe, Nat.reducePow, Int.reduceLE, Int.reduceLT, Int.reduceNeg, Int.reduceToNat, Int.reduceEq, Int.reduceAdd, Int.reduceSub, Int.reduceMul, Int.reduceBEq, Int.reduceBNe, Blk.men, Blk.keysIn, y0, htj, hin, y1])) ?_)
    | (refine DW.ord rfl (WF.of (by first | rfl | simp (disch := omega) only [go_sem, Nat.reduceLT, Nat.reduceLeDiff, Nat.reduceAdd, Nat.reduceMul, Nat.reduceEqDiff, ↓reduceIte, reduceCtorEq, Nat.reduceBEq, Nat.reduceBNe, Nat.reducePow, Int.reduceLE, Int.reduceLT, Int.reduceNeg, Int.reduceToNat, Int.reduceEq, Int.reduceAdd, Int.reduceSub, Int.reduceMul, Int.reduceBEq, Int.reduceBNe, Blk.men, Blk.keysIn, y0, htj, hin, y1])) ?_ ?_ ?_; rotate_left)
    | rfl
    | (with_reducible refine And.intro ?_ ?_)
    | (simp (disch := omega) only [go_sem, Nat.reduceLT, Nat.reduceLeDiff, Nat.reduceAdd, Nat.reduceMul, Nat.reduceEqDiff, ↓reduceIte, reduceCtorEq, Nat.reduceBEq, Nat.reduceBNe, Nat.reducePow, Int.reduceLE, Int.reduceLT, Int.reduceNeg, Int.reduceToNat, Int.reduceEq, Int.reduceAdd, Int.reduceSub, Int.reduceMul, Int.reduceBEq, Int.reduceBNe, Blk.men, Blk.keysIn, y0, htj, hin, y1])
    | (exact retS_of rfl rfl rfl)
    | (refine DW.cond_tt rfl ?_)
    | (refine DW.cond_ff rfl ?_)
    | (refine DW.cond rfl ?_ ?_ <;> intro hc <;> (try simp only [go_sem] at hc))
    | (refine g_split ?_ ?_ <;> intro hc <;> (try simp only [hc]) <;> (try simp only [go_sem] at hc)))
            refine ⟨⟨j + 1, hjl⟩, ?_, Ent.to ?_ ?_⟩ <;> first | (show _ < _; (try simp only); omega) | (simp (disch := omega) only [wkT_cons, wkX_cons, wkT_nil, wkX_nil, get, Nat.reduceEqDiff, ↓reduceIte, ex_some, wk_self, wk_top, wk_nil, wkB_self, and_self, dI, i64_in, and_true, true_and, Int.natCast_add, Int.natCast_one, Int.ofNat_zero, Int.natCast_zero,  hc1])
            all_goals exact .refl _
          | false =>
            rw [y1, if_neg (by decide)] at hc1
            repeat' (first
    | (with_reducible refine DW.seq ?_)
    | (with_reducible refine DW.block ?_)
    | (with_reducible refine DW.skip ?_)
    | (with_reducible refine DW.exit ?_)
    | (with_reducible refine DW.ret ?_)
    | (with_reducible refine DW.reg ?_)
    | (refine DW.dreg rfl (WF.of (by first | rfl | simp (disch := omega) only [go_sem, Nat.reduceLT, Nat.reduceLeDiff, Nat.reduceAdd, Nat.reduceMul, Nat.reduceEqDiff, ↓reduceIte, reduceCtorEq, Nat.reduceBEq, Nat.reduceBNe, Nat.reducePow, Int.reduceLE, Int.reduceLT, Int.reduceNeg, Int.reduceToNat, Int.reduceEq, Int.reduceAdd, Int.reduceSub, Int.reduceMul, Int.reduceBEq, Int.reduceBNe, Blk.men, Blk.keysIn, y0, htj, hin, y1])) ?_)
    | (refine DW.ord rfl (WF.of (by first | rfl | simp (disch := omega) only [go_sem, Nat.reduceLT, Nat.reduceLeDiff, Nat.reduceAdd, Nat.reduceMul, Nat.reduceEqDiff, ↓reduceIte, reduceCtorEq, Nat.reduceBEq, Nat.reduceBNe, Nat.reducePow, Int.reduceLE, Int.reduceLT, Int.reduceNeg, Int.reduceToNat, Int.reduceEq, Int.reduceAdd, Int.reduceSub, Int.reduceMul, Int.reduceBEq, Int.reduceBNe, Blk.men, Blk.keysIn, y0, htj, hin, y1])) ?_ ?_ ?_; rotate_left)
    | rfl
    | (with_reducible refine And.intro ?_ ?_)
    | (simp (disch := omega) only [go_sem, Nat.reduceLT, Nat.reduceLeDiff, Nat.reduceAdd, Nat.reduceMul, Nat.reduceEqDiff, ↓reduceIte, reduceCtorEq, Nat.reduceBEq, Nat.reduceBNe, Nat.reducePow, Int.reduceLE, Int.reduceLT, Int.reduceNeg, Int.reduceToNat, Int.reduceEq, Int.reduceAdd, Int.reduceSub, Int.reduceMul, Int.reduceBEq, Int.reduceBNe, Blk.men, Blk.keysIn, y0, htj, hin, y1])
    | (exact retS_of rfl rfl rfl)
    | (refine DW.cond_tt rfl ?_)
    | (refine DW.cond_ff rfl ?_)
    | (refine DW.cond rfl ?_ ?_ <;> intro hc <;> (try simp only [go_sem] at hc))
    | (refine g_split ?_ ?_ <;> intro hc <;> (try simp only [hc]) <;> (try simp only [go_sem] at hc)))
            refine ⟨⟨j + 1, hjl⟩, ?_, Ent.to ?_ ?_⟩ <;> first | (show _ < _; (try simp only); omega) | (simp (disch := omega) only [wkT_cons, wkX_cons, wkT_nil, wkX_nil, get, Nat.reduceEqDiff, ↓reduceIte, ex_some, wk_self, wk_top, wk_nil, wkB_self, and_self, dI, i64_in, and_true, true_and, Int.natCast_add, Int.natCast_one, Int.ofNat_zero, Int.natCast_zero,  hc1, Nat.add_zero])
            all_goals exact .refl _
        · have y0 : decide ((j : Int) < (i : Int)) = false := by rw [decide_eq_false_iff_not]; omega
          have hcB : (ta.take j).countP (fun t => decide (t < H)) = B.length := by rw [List.take_of_length_le (by omega), hB]
          rw [hcB]
          have yb : ((B.length : Int) == (B.length : Int)) = true := beq_self_eq_true _
          repeat' (first
    | (with_reducible refine DW.seq ?_)
    | (with_reducible refine DW.block ?_)
    | (with_reducible refine DW.skip ?_)
    | (with_reducible refine DW.exit ?_)
    | (with_reducible refine DW.ret ?_)
    | (with_reducible refine DW.reg ?_)
    | (refine DW.dreg rfl (WF.of (by first | rfl | simp (disch := omega) only [go_sem, Nat.reduceLT, Nat.reduceLeDiff, Nat.reduceAdd, Nat.reduceMul, Nat.reduceEqDiff, ↓reduceIte, reduceCtorEq, Nat.reduceBEq, Nat.reduceBNe, Nat.reducePow, Int.reduceLE, Int.reduceLT, Int.reduceNeg, Int.reduceToNat, Int.reduceEq, Int.reduceAdd, Int.reduceSub, Int.reduceMul, Int.reduceBEq, Int.reduceBNe, Blk.men, Blk.keysIn, y0, yb])) ?_)
    | (refine DW.ord rfl (WF.of (by first | rfl | simp (disch := omega) only [go_sem, Nat.reduceLT, Nat.reduceLeDiff, Nat.reduceAdd, Nat.reduceMul, Nat.reduceEqDiff, ↓reduceIte, reduceCtorEq, Nat.reduceBEq, Nat.reduceBNe, Nat.reducePow, Int.reduceLE, Int.reduceLT, Int.reduceNeg, Int.reduceToNat, Int.reduceEq, Int.reduceAdd, Int.reduceSub, Int.reduceMul, Int.reduceBEq, Int.reduceBNe, Blk.men, Blk.keysIn, y0, yb])) ?_ ?_ ?_; rotate_left)
    | rfl
    | (with_reducible refine And.intro ?_ ?_)
    | (simp (disch := omega) only [go_sem, Nat.reduceLT, Nat.reduceLeDiff, Nat.reduceAdd, Nat.reduceMul, Nat.reduceEqDiff, ↓reduceIte, reduceCtorEq, Nat.reduceBEq, Nat.reduceBNe, Nat.reducePow, Int.reduceLE, Int.reduceLT, Int.reduceNeg, Int.reduceToNat, Int.reduceEq, Int.reduceAdd, Int.reduceSub, Int.reduceMul, Int.reduceBEq, Int.reduceBNe, Blk.men, Blk.keysIn, y0, yb])
    | (exact retS_of rfl rfl rfl)
    | (refine DW.cond_tt rfl ?_)
    | (refine call_c (tpGlue) (by decide) ?_)
    | (refine DW.cond_ff rfl ?_)
    | (refine DW.cond rfl ?_ ?_ <;> intro hc <;> (try simp only [go_sem] at hc))
    | (refine g_split ?_ ?_ <;> intro hc <;> (try simp only [hc]) <;> (try simp only [go_sem] at hc)))
      · repeat' (first
    | (with_reducible refine DW.seq ?_)
    | (with_reducible refine DW.block ?_)
    | (with_reducible refine DW.skip ?_)
    | (with_reducible refine DW.exit ?_)
    | (with_reducible refine DW.ret ?_)
    | (with_reducible refine DW.reg ?_)
    | (refine DW.dreg rfl (WF.of (by first | rfl | simp (disch := omega) only [go_sem, Nat.reduceLT, Nat.reduceLeDiff, Nat.reduceAdd, Nat.reduceMul, Nat.reduceEqDiff, ↓reduceIte, reduceCtorEq, Nat.reduceBEq, Nat.reduceBNe, Nat.reducePow, Int.reduceLE, Int.reduceLT, Int.reduceNeg, Int.reduceToNat, Int.reduceEq, Int.reduceAdd, Int.reduceSub, Int.reduceMul, Int.reduceBEq, Int.reduceBNe, Blk.men, Blk.keysIn, hd, c1, c2, x1])) ?_)
    | (refine DW.ord rfl (WF.of (by first | rfl | simp (disch := omega) only [go_sem, Nat.reduceLT, Nat.reduceLeDiff, Nat.reduceAdd, Nat.reduceMul, Nat.reduceEqDiff, ↓reduceIte, reduceCtorEq, Nat.reduceBEq, Nat.reduceBNe, Nat.reducePow, Int.reduceLE, Int.reduceLT, Int.reduceNeg, Int.reduceToNat, Int.reduceEq, Int.reduceAdd, Int.reduceSub, Int.reduceMul, Int.reduceBEq, Int.reduceBNe, Blk.men, Blk.keysIn, hd, c1, c2, x1])) ?_ ?_ ?_; rotate_left)
    | rfl
    | (with_reducible refine And.intro ?_ ?_)
    | (simp (disch := omega) only [go_sem, Nat.reduceLT, Nat.reduceLeDiff, Nat.reduceAdd, Nat.reduceMul, Nat.reduceEqDiff, ↓reduceIte, reduceCtorEq, Nat.reduceBEq, Nat.reduceBNe, Nat.reducePow, Int.reduceLE, Int.reduceLT, Int.reduceNeg, Int.reduceToNat, Int.reduceEq, Int.reduceAdd, Int.reduceSub, Int.reduceMul, Int.reduceBEq, Int.reduceBNe, Blk.men, Blk.keysIn, hd, c1, c2, x1])
    | (exact retS_of rfl rfl rfl)
    | (refine DW.cond_tt rfl ?_)
    | (refine call_c (hcd) (by decide) ?_)
    | (refine call_c (hin1) (by decide) ?_)
    | (refine call_c (hin2) (by decide) ?_)
    | (refine call_c (h39) (by decide) ?_)
    | (refine DW.cond_ff rfl ?_)
    | (refine DW.cond rfl ?_ ?_ <;> intro hc <;> (try simp only [go_sem] at hc))
    | (refine g_split ?_ ?_ <;> intro hc <;> (try simp only [hc]) <;> (try simp only [go_sem] at hc)))
        refine DW.loop (ι := { j : Nat // j ≤ i }) (fun j => ⟨226, [(24, dI j.1), (23, dI ((ta.take j.1).countP (fun t => decide (t < H)) : Nat)), (21, dIs false (nL B)), (14, .own 105), (11, dI i), (9, .box 9 0)], [(105, .row 1 (rowC (rows eI ta))), (9, .box [dI L, dI H])]⟩) (fun j => i - j.1) ⟨0, Nat.zero_le _⟩ ?_ ?_
        · refine Ent.to ?_ ?_ <;> simp (disch := omega) only [wkT_cons, wkX_cons, wkT_nil, wkX_nil, get, Nat.reduceEqDiff, ↓reduceIte, ex_some, wk_self, wk_top, wk_nil, wkB_self, and_self, dI, i64_in, and_true, true_and, Int.natCast_add, Int.natCast_one, Int.ofNat_zero, Int.natCast_zero, List.take_zero, List.countP_nil]
          all_goals exact .refl _
        rintro ⟨j, hj⟩
        rcases Nat.lt_or_ge j i with hjl | hjg
        · have y0 : decide ((j : Int) < (i : Int)) = true := by rw [decide_eq_true_eq]; omega
          obtain ⟨t, htj⟩ := getE (l := ta) (i := j) (by omega)
          have hin : (j < ta.length) = True := eq_true (by omega)
          have hc1 : (ta.take (j + 1)).countP (fun t => decide (t < H)) = (ta.take j).countP (fun t => decide (t < H)) + (if decide (t < H) then 1 else 0) := count_take H htj
          have hcl := hfin j (by omega)
          generalize (ta.take j).countP (fun t => decide (t < H)) = cc at *
          cases y1 : decide (t < H) with
          | true =>
            rw [y1, if_pos rfl] at hc1
            repeat' (first
    | (with_reducible refine DW.seq ?_)
    | (with_reducible refine DW.block ?_)
    | (with_reducible refine DW.skip ?_)
    | (with_reducible refine DW.exit ?_)
    | (with_reducible refine DW.ret ?_)
    | (with_reducible refine DW.reg ?_)
    | (refine DW.dreg rfl (WF.of (by first | rfl | simp (disch := omega) only [go_sem, Nat.reduceLT, Nat.reduceLeDiff, Nat.reduceAdd, Nat.reduceMul, Nat.reduceEqDiff, ↓reduceIte, reduceCtorEq, Nat.reduceBEq, Nat.reduceBNe, Nat.reducePow, Int.reduceLE, Int.reduceLT, Int.reduceNeg, Int.reduceToNat, Int.reduceEq, Int.reduceAdd, Int.reduceSub, Int.reduceMul, Int.reduceBEq, Int.reduceBNe, Blk.men, Blk.keysIn, y0, htj, hin, y1])) ?_)
    | (refine DW.ord rfl (WF.of (by first | rfl | simp (disch := omega) only [go_sem, Nat.reduceLT, Nat.reduceLeDiff, Nat.reduceAdd, Nat.reduceMul, Nat.reduceEqDiff, ↓reduceIte, reduceCtorEq, Nat.reduceBEq, Nat.reduceBNe, Nat.reducePow, Int.reduceLE, Int.reduceLT, Int.reduceNeg, Int.reduceToNat, Int.reduceEq, Int.reduceAdd, Int.reduceSub, Int.reduceMul, Int.reduceBEq, Int.reduceBNe, Blk.men, Blk.keysIn, y0, htj, hin, y1])) ?_ ?_ ?_; rotate_left)
    | rfl
    | (with_reducible refine And.intro ?_ ?_)
    | (simp (disch := omega) only [go_sem, Nat.reduceLT, Nat.reduceLeDiff, Nat.reduceAdd, Nat.reduceMul, Nat.reduceEqDiff, ↓reduceIte, reduceCtorEq, Nat.reduceBEq, Nat.reduceBNe, Nat.reducePow, Int.reduceLE, Int.reduceLT, Int.reduceNeg, Int.reduceToNat, Int.reduceEq, Int.reduceAdd, Int.reduceSub, Int.reduceMul, Int.reduceBEq, Int.reduceBNe, Blk.men, Blk.keysIn, y0, htj, hin, y1])
    | (exact retS_of rfl rfl rfl)
    | (refine DW.cond_tt rfl ?_)
    | (refine DW.cond_ff rfl ?_)
    | (refine DW.cond rfl ?_ ?_ <;> intro hc <;> (try simp only [go_sem] at hc))
    | (refine g_split ?_ ?_ <;> intro hc <;> (try simp only [hc]) <;> (try simp only [go_sem] at hc)))
            refine ⟨⟨j + 1, hjl⟩, ?_, Ent.to ?_ ?_⟩ <;> first | (show _ < _; (try simp only); omega) | (simp (disch := omega) only [wkT_cons, wkX_cons, wkT_nil, wkX_nil, get, Nat.reduceEqDiff, ↓reduceIte, ex_some, wk_self, wk_top, wk_nil, wkB_self, and_self, dI, i64_in, and_true, true_and, Int.natCast_add, Int.natCast_one, Int.ofNat_zero, Int.natCast_zero,  hc1])
            all_goals exact .refl _
          | false =>
            rw [y1, if_neg (by decide)] at hc1
            repeat' (first
    | (with_reducible refine DW.seq ?_)
    | (with_reducible refine DW.block ?_)
    | (with_reducible refine DW.skip ?_)
    | (with_reducible refine DW.exit ?_)
    | (with_reducible refine DW.ret ?_)
    | (with_reducible refine DW.reg ?_)
    | (refine DW.dreg rfl (WF.of (by first | rfl | simp (disch := omega) only [go_sem, Nat.reduceLT, Nat.reduceLeDiff, Nat.reduceAdd, Nat.reduceMul, Nat.reduceEqDiff, ↓reduceIte, reduceCtorEq, Nat.reduceBEq, Nat.reduceBNe, Nat.reducePow, Int.reduceLE, Int.reduceLT, Int.reduceNeg, Int.reduceToNat, Int.reduceEq, Int.reduceAdd, Int.reduceSub, Int.reduceMul, Int.reduceBEq, Int.reduceBNe, Blk.men, Blk.keysIn, y0, htj, hin, y1])) ?_)
    | (refine DW.ord rfl (WF.of (by first | rfl | simp (disch := omega) only [go_sem, Nat.reduceLT, Nat.reduceLeDiff, Nat.reduceAdd, Nat.reduceMul, Nat.reduceEqDiff, ↓reduceIte, reduceCtorEq, Nat.reduceBEq, Nat.reduceBNe, Nat.reducePow, Int.reduceLE, Int.reduceLT, Int.reduceNeg, Int.reduceToNat, Int.reduceEq, Int.reduceAdd, Int.reduceSub, Int.reduceMul, Int.reduceBEq, Int.reduceBNe, Blk.men, Blk.keysIn, y0, htj, hin, y1])) ?_ ?_ ?_; rotate_left)
    | rfl
    | (with_reducible refine And.intro ?_ ?_)
    | (simp (disch := omega) only [go_sem, Nat.reduceLT, Nat.reduceLeDiff, Nat.reduceAdd, Nat.reduceMul, Nat.reduceEqDiff, ↓reduceIte, reduceCtorEq, Nat.reduceBEq, Nat.reduceBNe, Nat.reducePow, Int.reduceLE, Int.reduceLT, Int.reduceNeg, Int.reduceToNat, Int.reduceEq, Int.reduceAdd, Int.reduceSub, Int.reduceMul, Int.reduceBEq, Int.reduceBNe, Blk.men, Blk.keysIn, y0, htj, hin, y1])
    | (exact retS_of rfl rfl rfl)
    | (refine DW.cond_tt rfl ?_)
    | (refine DW.cond_ff rfl ?_)
    | (refine DW.cond rfl ?_ ?_ <;> intro hc <;> (try simp only [go_sem] at hc))
    | (refine g_split ?_ ?_ <;> intro hc <;> (try simp only [hc]) <;> (try simp only [go_sem] at hc)))
            refine ⟨⟨j + 1, hjl⟩, ?_, Ent.to ?_ ?_⟩ <;> first | (show _ < _; (try simp only); omega) | (simp (disch := omega) only [wkT_cons, wkX_cons, wkT_nil, wkX_nil, get, Nat.reduceEqDiff, ↓reduceIte, ex_some, wk_self, wk_top, wk_nil, wkB_self, and_self, dI, i64_in, and_true, true_and, Int.natCast_add, Int.natCast_one, Int.ofNat_zero, Int.natCast_zero,  hc1, Nat.add_zero])
            all_goals exact .refl _
        · have y0 : decide ((j : Int) < (i : Int)) = false := by rw [decide_eq_false_iff_not]; omega
          have hcB : (ta.take j).countP (fun t => decide (t < H)) = B.length := by rw [List.take_of_length_le (by omega), hB]
          rw [hcB]
          have yb : ((B.length : Int) == (B.length : Int)) = true := beq_self_eq_true _
          repeat' (first
    | (with_reducible refine DW.seq ?_)
    | (with_reducible refine DW.block ?_)
    | (with_reducible refine DW.skip ?_)
    | (with_reducible refine DW.exit ?_)
    | (with_reducible refine DW.ret ?_)
    | (with_reducible refine DW.reg ?_)
    | (refine DW.dreg rfl (WF.of (by first | rfl | simp (disch := omega) only [go_sem, Nat.reduceLT, Nat.reduceLeDiff, Nat.reduceAdd, Nat.reduceMul, Nat.reduceEqDiff, ↓reduceIte, reduceCtorEq, Nat.reduceBEq, Nat.reduceBNe, Nat.reducePow, Int.reduceLE, Int.reduceLT, Int.reduceNeg, Int.reduceToNat, Int.reduceEq, Int.reduceAdd, Int.reduceSub, Int.reduceMul, Int.reduceBEq, Int.reduceBNe, Blk.men, Blk.keysIn, y0, yb])) ?_)
    | (refine DW.ord rfl (WF.of (by first | rfl | simp (disch := omega) only [go_sem, Nat.reduceLT, Nat.reduceLeDiff, Nat.reduceAdd, Nat.reduceMul, Nat.reduceEqDiff, ↓reduceIte, reduceCtorEq, Nat.reduceBEq, Nat.reduceBNe, Nat.reducePow, Int.reduceLE, Int.reduceLT, Int.reduceNeg, Int.reduceToNat, Int.reduceEq, Int.reduceAdd, Int.reduceSub, Int.reduceMul, Int.reduceBEq, Int.reduceBNe, Blk.men, Blk.keysIn, y0, yb])) ?_ ?_ ?_; rotate_left)
    | rfl
    | (with_reducible refine And.intro ?_ ?_)
    | (simp (disch := omega) only [go_sem, Nat.reduceLT, Nat.reduceLeDiff, Nat.reduceAdd, Nat.reduceMul, Nat.reduceEqDiff, ↓reduceIte, reduceCtorEq, Nat.reduceBEq, Nat.reduceBNe, Nat.reducePow, Int.reduceLE, Int.reduceLT, Int.reduceNeg, Int.reduceToNat, Int.reduceEq, Int.reduceAdd, Int.reduceSub, Int.reduceMul, Int.reduceBEq, Int.reduceBNe, Blk.men, Blk.keysIn, y0, yb])
    | (exact retS_of rfl rfl rfl)
    | (refine DW.cond_tt rfl ?_)
    | (refine call_c (tpGlue) (by decide) ?_)
    | (refine DW.cond_ff rfl ?_)
    | (refine DW.cond rfl ?_ ?_ <;> intro hc <;> (try simp only [go_sem] at hc))
    | (refine g_split ?_ ?_ <;> intro hc <;> (try simp only [hc]) <;> (try simp only [go_sem] at hc)))
      · repeat' (first
    | (with_reducible refine DW.seq ?_)
    | (with_reducible refine DW.block ?_)
    | (with_reducible refine DW.skip ?_)
    | (with_reducible refine DW.exit ?_)
    | (with_reducible refine DW.ret ?_)
    | (with_reducible refine DW.reg ?_)
    | (refine DW.dreg rfl (WF.of (by first | rfl | simp (disch := omega) only [go_sem, Nat.reduceLT, Nat.reduceLeDiff, Nat.reduceAdd, Nat.reduceMul, Nat.reduceEqDiff, ↓reduceIte, reduceCtorEq, Nat.reduceBEq, Nat.reduceBNe, Nat.reducePow, Int.reduceLE, Int.reduceLT, Int.reduceNeg, Int.reduceToNat, Int.reduceEq, Int.reduceAdd, Int.reduceSub, Int.reduceMul, Int.reduceBEq, Int.reduceBNe, Blk.men, Blk.keysIn, hd, c1, c2, x1, x2])) ?_)
    | (refine DW.ord rfl (WF.of (by first | rfl | simp (disch := omega) only [go_sem, Nat.reduceLT, Nat.reduceLeDiff, Nat.reduceAdd, Nat.reduceMul, Nat.reduceEqDiff, ↓reduceIte, reduceCtorEq, Nat.reduceBEq, Nat.reduceBNe, Nat.reducePow, Int.reduceLE, Int.reduceLT, Int.reduceNeg, Int.reduceToNat, Int.reduceEq, Int.reduceAdd, Int.reduceSub, Int.reduceMul, Int.reduceBEq, Int.reduceBNe, Blk.men, Blk.keysIn, hd, c1, c2, x1, x2])) ?_ ?_ ?_; rotate_left)
    | rfl
    | (with_reducible refine And.intro ?_ ?_)
    | (simp (disch := omega) only [go_sem, Nat.reduceLT, Nat.reduceLeDiff, Nat.reduceAdd, Nat.reduceMul, Nat.reduceEqDiff, ↓reduceIte, reduceCtorEq, Nat.reduceBEq, Nat.reduceBNe, Nat.reducePow, Int.reduceLE, Int.reduceLT, Int.reduceNeg, Int.reduceToNat, Int.reduceEq, Int.reduceAdd, Int.reduceSub, Int.reduceMul, Int.reduceBEq, Int.reduceBNe, Blk.men, Blk.keysIn, hd, c1, c2, x1, x2])
    | (exact retS_of rfl rfl rfl)
    | (refine DW.cond_tt rfl ?_)
    | (refine call_c (hcd) (by decide) ?_)
    | (refine call_c (hin1) (by decide) ?_)
    | (refine call_c (hin2) (by decide) ?_)
    | (refine call_c (h39) (by decide) ?_)
    | (refine DW.cond_ff rfl ?_)
    | (refine DW.cond rfl ?_ ?_ <;> intro hc <;> (try simp only [go_sem] at hc))
    | (refine g_split ?_ ?_ <;> intro hc <;> (try simp only [hc]) <;> (try simp only [go_sem] at hc)))
        refine DW.loop (ι := { j : Nat // j ≤ i }) (fun j => ⟨226, [(24, dI j.1), (23, dI ((ta.take j.1).countP (fun t => decide (t < H)) : Nat)), (21, dIs false (nL B)), (14, .own 105), (11, dI i), (9, .box 9 0)], [(105, .row 1 (rowC (rows eI ta))), (9, .box [dI L, dI H])]⟩) (fun j => i - j.1) ⟨0, Nat.zero_le _⟩ ?_ ?_
        · refine Ent.to ?_ ?_ <;> simp (disch := omega) only [wkT_cons, wkX_cons, wkT_nil, wkX_nil, get, Nat.reduceEqDiff, ↓reduceIte, ex_some, wk_self, wk_top, wk_nil, wkB_self, and_self, dI, i64_in, and_true, true_and, Int.natCast_add, Int.natCast_one, Int.ofNat_zero, Int.natCast_zero, List.take_zero, List.countP_nil]
          all_goals exact .refl _
        rintro ⟨j, hj⟩
        rcases Nat.lt_or_ge j i with hjl | hjg
        · have y0 : decide ((j : Int) < (i : Int)) = true := by rw [decide_eq_true_eq]; omega
          obtain ⟨t, htj⟩ := getE (l := ta) (i := j) (by omega)
          have hin : (j < ta.length) = True := eq_true (by omega)
          have hc1 : (ta.take (j + 1)).countP (fun t => decide (t < H)) = (ta.take j).countP (fun t => decide (t < H)) + (if decide (t < H) then 1 else 0) := count_take H htj
          have hcl := hfin j (by omega)
          generalize (ta.take j).countP (fun t => decide (t < H)) = cc at *
          cases y1 : decide (t < H) with
          | true =>
            rw [y1, if_pos rfl] at hc1
            repeat' (first
    | (with_reducible refine DW.seq ?_)
    | (with_reducible refine DW.block ?_)
    | (with_reducible refine DW.skip ?_)
    | (with_reducible refine DW.exit ?_)
    | (with_reducible refine DW.ret ?_)
    | (with_reducible refine DW.reg ?_)
    | (refine DW.dreg rfl (WF.of (by first | rfl | simp (disch := omega) only [go_sem, Nat.reduceLT, Nat.reduceLeDiff, Nat.reduceAdd, Nat.reduceMul, Nat.reduceEqDiff, ↓reduceIte, reduceCtorEq, Nat.reduceBEq, Nat.reduceBNe, Nat.reducePow, Int.reduceLE, Int.reduceLT, Int.reduceNeg, Int.reduceToNat, Int.reduceEq, Int.reduceAdd, Int.reduceSub, Int.reduceMul, Int.reduceBEq, Int.reduceBNe, Blk.men, Blk.keysIn, y0, htj, hin, y1])) ?_)
    | (refine DW.ord rfl (WF.of (by first | rfl | simp (disch := omega) only [go_sem, Nat.reduceLT, Nat.reduceLeDiff, Nat.reduceAdd, Nat.reduceMul, Nat.reduceEqDiff, ↓reduceIte, reduceCtorEq, Nat.reduceBEq, Nat.reduceBNe, Nat.reducePow, Int.reduceLE, Int.reduceLT, Int.reduceNeg, Int.reduceToNat, Int.reduceEq, Int.reduceAdd, Int.reduceSub, Int.reduceMul, Int.reduceBEq, Int.reduceBNe, Blk.men, Blk.keysIn, y0, htj, hin, y1])) ?_ ?_ ?_; rotate_left)
    | rfl
    | (with_reducible refine And.intro ?_ ?_)
    | (simp (disch := omega) only [go_sem, Nat.reduceLT, Nat.reduceLeDiff, Nat.reduceAdd, Nat.reduceMul, Nat.reduceEqDiff, ↓reduceIte, reduceCtorEq, Nat.reduceBEq, Nat.reduceBNe, Nat.reducePow, Int.reduceLE, Int.reduceLT, Int.reduceNeg, Int.reduceToNat, Int.reduceEq, Int.reduceAdd, Int.reduceSub, Int.reduceMul, Int.reduceBEq, Int.reduceBNe, Blk.men, Blk.keysIn, y0, htj, hin, y1])
    | (exact retS_of rfl rfl rfl)
    | (refine DW.cond_tt rfl ?_)
    | (refine DW.cond_ff rfl ?_)
    | (refine DW.cond rfl ?_ ?_ <;> intro hc <;> (try simp only [go_sem] at hc))
    | (refine g_split ?_ ?_ <;> intro hc <;> (try simp only [hc]) <;> (try simp only [go_sem] at hc)))
            refine ⟨⟨j + 1, hjl⟩, ?_, Ent.to ?_ ?_⟩ <;> first | (show _ < _; (try simp only); omega) | (simp (disch := omega) only [wkT_cons, wkX_cons, wkT_nil, wkX_nil, get, Nat.reduceEqDiff, ↓reduceIte, ex_some, wk_self, wk_top, wk_nil, wkB_self, and_self, dI, i64_in, and_true, true_and, Int.natCast_add, Int.natCast_one, Int.ofNat_zero, Int.natCast_zero,  hc1])
            all_goals exact .refl _
          | false =>
            rw [y1, if_neg (by decide)] at hc1
            repeat' (first
    | (with_reducible refine DW.seq ?_)
    | (with_reducible refine DW.block ?_)
    | (with_reducible refine DW.skip ?_)
    | (with_reducible refine DW.exit ?_)
    | (with_reducible refine DW.ret ?_)
    | (with_reducible refine DW.reg ?_)
    | (refine DW.dreg rfl (WF.of (by first | rfl | simp (disch := omega) only [go_sem, Nat.reduceLT, Nat.reduceLeDiff, Nat.reduceAdd, Nat.reduceMul, Nat.reduceEqDiff, ↓reduceIte, reduceCtorEq, Nat.reduceBEq, Nat.reduceBNe, Nat.reducePow, Int.reduceLE, Int.reduceLT, Int.reduceNeg, Int.reduceToNat, Int.reduceEq, Int.reduceAdd, Int.reduceSub, Int.reduceMul, Int.reduceBEq, Int.reduceBNe, Blk.men, Blk.keysIn, y0, htj, hin, y1])) ?_)
    | (refine DW.ord rfl (WF.of (by first | rfl | simp (disch := omega) only [go_sem, Nat.reduceLT, Nat.reduceLeDiff, Nat.reduceAdd, Nat.reduceMul, Nat.reduceEqDiff, ↓reduceIte, reduceCtorEq, Nat.reduceBEq, Nat.reduceBNe, Nat.reducePow, Int.reduceLE, Int.reduceLT, Int.reduceNeg, Int.reduceToNat, Int.reduceEq, Int.reduceAdd, Int.reduceSub, Int.reduceMul, Int.reduceBEq, Int.reduceBNe, Blk.men, Blk.keysIn, y0, htj, hin, y1])) ?_ ?_ ?_; rotate_left)
    | rfl
    | (with_reducible refine And.intro ?_ ?_)
    | (simp (disch := omega) only [go_sem, Nat.reduceLT, Nat.reduceLeDiff, Nat.reduceAdd, Nat.reduceMul, Nat.reduceEqDiff, ↓reduceIte, reduceCtorEq, Nat.reduceBEq, Nat.reduceBNe, Nat.reducePow, Int.reduceLE, Int.reduceLT, Int.reduceNeg, Int.reduceToNat, Int.reduceEq, Int.reduceAdd, Int.reduceSub, Int.reduceMul, Int.reduceBEq, Int.reduceBNe, Blk.men, Blk.keysIn, y0, htj, hin, y1])
    | (exact retS_of rfl rfl rfl)
    | (refine DW.cond_tt rfl ?_)
    | (refine DW.cond_ff rfl ?_)
    | (refine DW.cond rfl ?_ ?_ <;> intro hc <;> (try simp only [go_sem] at hc))
    | (refine g_split ?_ ?_ <;> intro hc <;> (try simp only [hc]) <;> (try simp only [go_sem] at hc)))
            refine ⟨⟨j + 1, hjl⟩, ?_, Ent.to ?_ ?_⟩ <;> first | (show _ < _; (try simp only); omega) | (simp (disch := omega) only [wkT_cons, wkX_cons, wkT_nil, wkX_nil, get, Nat.reduceEqDiff, ↓reduceIte, ex_some, wk_self, wk_top, wk_nil, wkB_self, and_self, dI, i64_in, and_true, true_and, Int.natCast_add, Int.natCast_one, Int.ofNat_zero, Int.natCast_zero,  hc1, Nat.add_zero])
            all_goals exact .refl _
        · have y0 : decide ((j : Int) < (i : Int)) = false := by rw [decide_eq_false_iff_not]; omega
          have hcB : (ta.take j).countP (fun t => decide (t < H)) = B.length := by rw [List.take_of_length_le (by omega), hB]
          rw [hcB]
          have yb : ((B.length : Int) == (B.length : Int)) = true := beq_self_eq_true _
          repeat' (first
    | (with_reducible refine DW.seq ?_)
    | (with_reducible refine DW.block ?_)
    | (with_reducible refine DW.skip ?_)
    | (with_reducible refine DW.exit ?_)
    | (with_reducible refine DW.ret ?_)
    | (with_reducible refine DW.reg ?_)
    | (refine DW.dreg rfl (WF.of (by first | rfl | simp (disch := omega) only [go_sem, Nat.reduceLT, Nat.reduceLeDiff, Nat.reduceAdd, Nat.reduceMul, Nat.reduceEqDiff, ↓reduceIte, reduceCtorEq, Nat.reduceBEq, Nat.reduceBNe, Nat.reducePow, Int.reduceLE, Int.reduceLT, Int.reduceNeg, Int.reduceToNat, Int.reduceEq, Int.reduceAdd, Int.reduceSub, Int.reduceMul, Int.reduceBEq, Int.reduceBNe, Blk.men, Blk.keysIn, y0, yb])) ?_)
    | (refine DW.ord rfl (WF.of (by first | rfl | simp (disch := omega) only [go_sem, Nat.reduceLT, Nat.reduceLeDiff, Nat.reduceAdd, Nat.reduceMul, Nat.reduceEqDiff, ↓reduceIte, reduceCtorEq, Nat.reduceBEq, Nat.reduceBNe, Nat.reducePow, Int.reduceLE, Int.reduceLT, Int.reduceNeg, Int.reduceToNat, Int.reduceEq, Int.reduceAdd, Int.reduceSub, Int.reduceMul, Int.reduceBEq, Int.reduceBNe, Blk.men, Blk.keysIn, y0, yb])) ?_ ?_ ?_; rotate_left)
    | rfl
    | (with_reducible refine And.intro ?_ ?_)
    | (simp (disch := omega) only [go_sem, Nat.reduceLT, Nat.reduceLeDiff, Nat.reduceAdd, Nat.reduceMul, Nat.reduceEqDiff, ↓reduceIte, reduceCtorEq, Nat.reduceBEq, Nat.reduceBNe, Nat.reducePow, Int.reduceLE, Int.reduceLT, Int.reduceNeg, Int.reduceToNat, Int.reduceEq, Int.reduceAdd, Int.reduceSub, Int.reduceMul, Int.reduceBEq, Int.reduceBNe, Blk.men, Blk.keysIn, y0, yb])
    | (exact retS_of rfl rfl rfl)
    | (refine DW.cond_tt rfl ?_)
    | (refine call_c (tpGlue) (by decide) ?_)
    | (refine DW.cond_ff rfl ?_)
    | (refine DW.cond rfl ?_ ?_ <;> intro hc <;> (try simp only [go_sem] at hc))
    | (refine g_split ?_ ?_ <;> intro hc <;> (try simp only [hc]) <;> (try simp only [go_sem] at hc)))
end Go.Dw.Seat
end
section
set_option linter.unusedSimpArgs false
set_option maxRecDepth 100000
namespace Go.Dw.Seat
open Go Go.Dw Go.Proofs Go.ChangeShapes Go.WideShapes Go.ChangeAt Go.RowKit
theorem tOwn : ownKnob Try.prog.godebug = none := by kernel_rfl
theorem tLaid : laidOutB Try.prog = true := by kernel_rfl
theorem u4 : Try.prog.underlying 4 = some .bool := by kernel_rfl
theorem uA3 : Try.prog.underlying 98 = some (.array 3 5) := by kernel_rfl
theorem uA4 : Try.prog.underlying 23 = some (.array 4 5) := by kernel_rfl
theorem uA2 : Try.prog.underlying 24 = some (.array 2 5) := by kernel_rfl
theorem uV2 : Try.prog.underlying 99 = some (.slice 24) := by kernel_rfl
theorem cells5 : Try.prog.cellsOf 5 = 1 := by kernel_rfl
theorem cellsA3 : Try.prog.cellsOf 98 = 3 := by kernel_rfl
theorem cellsA4 : Try.prog.cellsOf 23 = 4 := by kernel_rfl
theorem cellsA2 : Try.prog.cellsOf 24 = 2 := by kernel_rfl
section
variable {H : Type} {enc : TypeId × Value → H} {w : World} {base : Nat} {spare : Nat → Bool} {held : Bool} {fuel : Nat} {cs : List Value} {x : DataW H × List MemPlace}
theorem wf8 {n : Int} (h : (Lit.int .u8 n).wf = true) : ∃ v : Nat, n = v ∧ v < 256 := by
  have e1 : IntKind.min .u8 = 0 := by decide
  have e2 : IntKind.max .u8 = 255 := by decide
  simp only [Lit.wf, e1, e2, Bool.and_eq_true, decide_eq_true_eq] at h
  exact ⟨n.toNat, by omega, by omega⟩
theorem rd_U8 (h : DataW.trod enc Try.prog w base spare held fuel 5 cs = some x) : ∃ v : Nat, cs = [.int .u8 v] ∧ v < 256 := by
  obtain ⟨n, e, hw⟩ := rd_int ud5 h
  obtain ⟨v, rfl, hv⟩ := wf8 hw
  exact ⟨v, e, hv⟩
theorem rd_A3 (h : DataW.trod enc Try.prog w base spare held fuel 98 cs = some x) : ∃ a b c : Nat, a < 256 ∧ b < 256 ∧ c < 256 ∧ cs = [.int .u8 a, .int .u8 b, .int .u8 c] := by
  obtain ⟨hl, m, hf⟩ := rd_array uA3 h
  rw [cellsA3] at hl
  obtain ⟨y0, h0⟩ := hf 0 (by decide)
  obtain ⟨y1, h1⟩ := hf 1 (by decide)
  obtain ⟨y2, h2⟩ := hf 2 (by decide)
  rw [cells5] at h0 h1 h2
  match cs, hl with
  | [a, b, c], _ =>
    obtain ⟨n0, e0, p0⟩ := rd_U8 h0
    obtain ⟨n1, e1, p1⟩ := rd_U8 h1
    obtain ⟨n2, e2, p2⟩ := rd_U8 h2
    simp at e0 e1 e2
    subst e0; subst e1; subst e2
    exact ⟨n0, n1, n2, p0, p1, p2, rfl⟩
theorem rd_A4 (h : DataW.trod enc Try.prog w base spare held fuel 23 cs = some x) : ∃ a b c d : Nat, a < 256 ∧ b < 256 ∧ c < 256 ∧ d < 256 ∧ cs = [.int .u8 a, .int .u8 b, .int .u8 c, .int .u8 d] := by
  obtain ⟨hl, m, hf⟩ := rd_array uA4 h
  rw [cellsA4] at hl
  obtain ⟨y0, h0⟩ := hf 0 (by decide)
  obtain ⟨y1, h1⟩ := hf 1 (by decide)
  obtain ⟨y2, h2⟩ := hf 2 (by decide)
  obtain ⟨y3, h3⟩ := hf 3 (by decide)
  rw [cells5] at h0 h1 h2 h3
  match cs, hl with
  | [a, b, c, d], _ =>
    obtain ⟨n0, e0, p0⟩ := rd_U8 h0
    obtain ⟨n1, e1, p1⟩ := rd_U8 h1
    obtain ⟨n2, e2, p2⟩ := rd_U8 h2
    obtain ⟨n3, e3, p3⟩ := rd_U8 h3
    simp at e0 e1 e2 e3
    subst e0; subst e1; subst e2; subst e3
    exact ⟨n0, n1, n2, n3, p0, p1, p2, p3, rfl⟩
theorem rd_A2 (h : DataW.trod enc Try.prog w base spare held fuel 24 cs = some x) : ∃ v : {v : B2 // v.ok}, RepVs w A0 (eV2 v.1) cs := by
  obtain ⟨hl, m, hf⟩ := rd_array uA2 h
  rw [cellsA2] at hl
  obtain ⟨y0, h0⟩ := hf 0 (by decide)
  obtain ⟨y1, h1⟩ := hf 1 (by decide)
  rw [cells5] at h0 h1
  match cs, hl with
  | [a, b], _ =>
    obtain ⟨n0, e0, p0⟩ := rd_U8 h0
    obtain ⟨n1, e1, p1⟩ := rd_U8 h1
    simp at e0 e1
    subst e0; subst e1
    exact ⟨⟨⟨n0, n1⟩, ⟨p0, p1⟩⟩, _, _, rfl, ⟨rfl, rfl⟩, _, _, rfl, ⟨rfl, rfl⟩, rfl⟩
theorem rd_V2 (h : DataW.trod enc Try.prog w base spare held fuel 99 cs = some x) : ∃ (l : List B2) (v : Value), cs = [v] ∧ RepC w A0 (.sl false 2 (rows eV2 l)) v ∧ l.length ≤ maxLen ∧ ∀ v ∈ l, v.ok := by
  obtain ⟨l, v, e, hr, hm, _⟩ := rd_slice (f := fun v : {v : B2 // v.ok} => eV2 v.1) uV2 cellsA2 (by decide) (fun _ => rfl) (fun _ _ _ h => rd_A2 h) h
  refine ⟨l.map (·.1), v, e, ?_, by simpa using hm, fun u hu => ?_⟩
  · have : rows eV2 (l.map (·.1)) = rows (fun v : {v : B2 // v.ok} => eV2 v.1) l := by simp [rows, Function.comp_def]
    rw [this]; exact hr
  · obtain ⟨a, _, rfl⟩ := List.mem_map.1 hu
    exact a.2
end
set_option maxHeartbeats 800000 in
theorem topPressTestsLifted (os : Os) (started : os.Started) (H : Type) (enc : TypeId × Value → H) :
    ReturnsInHanded {} Try.checked os 7 .any (Ytmbgogijhpommaa.Rows.topPressTestsSpec.pre6 enc Try.prog Try.f7 Ytmbgogijhpommaa.Rows.topPressTestsRow.domain false) (Ytmbgogijhpommaa.Rows.topPressTestsSpec.post enc Try.prog Try.f7 false true false false) := by
  refine returnsInHanded_of_change (C := Try.checked) tOwn started (by kernel_rfl) Try.func7
    (ChangeSpec.witness6 (enc := enc) (C := Try.checked) false ⟨#[], #[.agg #[.int .u8 0, .int .u8 0, .int .u8 0], .agg #[.int .u8 0, .int .u8 0, .int .u8 0, .int .u8 0], .slice none 0 0], []⟩ 8 (by kernel_rfl) (by kernel_rfl) (by kernel_rfl) (by kernel_rfl)) ?_
  intro W base args ds gs before hval0 hW _ _
  have hval : ∀ (j : Nat) t v, Try.f7.params[j]? = some t → args[j]? = some v → Value.okWide Try.prog W .any base t v := hval0
  have hW' : DataW.Whole enc Try.prog Try.f7.params.toList [] false W args.toList ds gs before := hW
  obtain ⟨p, q, hA, hV, rfl, hfz, hnd⟩ := hW
  have hA : DataW.TrodAll enc Try.prog W 0 (fun _ => true) true [98, 23, 99] args.toList ds p := hA
  obtain ⟨rfl, rfl⟩ := trodVars_none hV
  obtain ⟨v0, vs0, d0, ds0, p0, q0, hargs, rfl, rfl, h0, r0⟩ := trodAll_cons hA
  obtain ⟨v1, vs1, d1, ds1, p1, q1, rfl, rfl, rfl, h1, r1⟩ := trodAll_cons r0
  obtain ⟨v2, vs2, d2, ds2, p2, q2, rfl, rfl, rfl, h2, r2⟩ := trodAll_cons r1
  obtain ⟨rfl, rfl, rfl⟩ := trodAll_nil r2
  obtain rfl : args = #[v0, v1, v2] := by cases args; simp_all
  obtain ⟨c0, rfl, _⟩ := okWide_array uA3 (hval 0 98 v0 rfl rfl)
  obtain ⟨c1, rfl, _⟩ := okWide_array uA4 (hval 1 23 v1 rfl rfl)
  obtain ⟨a2, l2, k2, rfl⟩ := okWide_slice uV2 (hval 2 99 v2 rfl rfl)
  obtain ⟨fu0, h0⟩ := h0
  obtain ⟨fu1, h1⟩ := h1
  obtain ⟨fu2, h2⟩ := h2
  obtain ⟨ra, rb, rc, g0, g1, g2, e0⟩ := rd_A3 h0
  have hr0 : RepVs W A0 [.v (.int .u8 ra), .v (.int .u8 rb), .v (.int .u8 rc)] c0.toList := by
    have e : c0.toList = [.int .u8 ra, .int .u8 rb, .int .u8 rc] := by simpa [Value.cells] using e0
    rw [e]; exact ⟨_, _, rfl, ⟨rfl, rfl⟩, _, _, rfl, ⟨rfl, rfl⟩, _, _, rfl, ⟨rfl, rfl⟩, rfl⟩
  obtain ⟨ma, mb, mc, md, ka, kb, kc, kd, e1⟩ := rd_A4 h1
  have hr1 : RepVs W A0 [.v (.int .u8 ma), .v (.int .u8 mb), .v (.int .u8 mc), .v (.int .u8 md)] c1.toList := by
    have e : c1.toList = [.int .u8 ma, .int .u8 mb, .int .u8 mc, .int .u8 md] := by simpa [Value.cells] using e1
    rw [e]; exact ⟨_, _, rfl, ⟨rfl, rfl⟩, _, _, rfl, ⟨rfl, rfl⟩, _, _, rfl, ⟨rfl, rfl⟩, _, _, rfl, ⟨rfl, rfl⟩, rfl⟩
  obtain ⟨bs, bv, e2, hbs, hbl, hbo⟩ := rd_V2 h2
  have e2 : bv = Value.slice a2 l2 k2 := by simpa [Value.cells] using e2.symm
  subst e2
  refine ((tpPress false ra rb rc ma mb mc md bs g0 g1 g2 ka kb kc kd hbo).calls (W := W) (vs := [.agg c0, .agg c1, .slice a2 l2 k2]) (fun G => ?_)).mono ?_
  · exact ⟨_, _, rfl, ⟨c0, rfl, RepDs.ofVs hr0⟩, _, _, rfl, ⟨c1, rfl, RepDs.ofVs hr1⟩, _, _, rfl, hbs, rfl⟩
  · rintro e W' ⟨v, rfl, ⟨G', A', hr⟩, hb⟩
    obtain ⟨rfl, _⟩ := hr
    exact ⟨_, rfl, post_true tLaid (by decide +kernel) hW' hb rfl rfl u4 rfl rfl rfl⟩
theorem topPressTestsHolds : Ytmbgogijhpommaa.Rows.topPressTestsRow.holds Ytmbgogijhpommaa.Try.pinned (OpenSpec.ofChange Ytmbgogijhpommaa.Rows.topPressTestsSpec) :=
  OpenClaim.holds_of_wide 7 Try.f7 rfl rfl rfl rfl rfl rfl rfl ⟨rfl, rfl, rfl, rfl, rfl⟩ rfl rfl rfl rfl rfl (by kernel_rfl) Try.func7 (by kernel_rfl)
    (of_decide_eq_true (by kernel_rfl)) (by unfold Func.isWrapper; first | (rw [if_pos (by decide +kernel)]; kernel_rfl) | (rw [if_neg (by decide +kernel)]; exact ⟨rfl, rfl⟩))
    (fun os started H enc _ => topPressTestsLifted os started H enc)
end Go.Dw.Seat
namespace Go.Proofs.Ytmbgogijhpommaa
theorem topPressTestsSaid : Rows.TopPressTestsSaid := Go.Dw.Seat.topPressTestsHolds
end Go.Proofs.Ytmbgogijhpommaa
end
