/- The law TrimChanges returns true for every input, and changes nothing that was there before: the full statement TrimChangesSaid, without conditions. -/
import Derived.Test.YtkhicfkfdmldkaaB02
import Derived.Test.YtkhicfkfdmldkaaRows
import Derived.ProofKit
import Derived.OpenShut
set_option linter.unusedVariables false
set_option linter.unusedSimpArgs false
section
set_option linter.unusedSimpArgs false
set_option maxRecDepth 100000
namespace Go.Dw.Seat
open Go Go.Dw Go.Proofs Go.IntWalk
theorem sameY {R : Bool} {α : Type} {s t : List α} (h : s = t) (hR : R = true) : (R = true ↔ s = t) := by simp [h, hR]
set_option maxHeartbeats 8000000 in
theorem laKnown : DCall Try.prog 15 [] [] (bD true) [] := by
  have p2 := laPaper 200
  have p4 := laPaper 400
  have po := laOrders
  have e2 := ex_open 200 (by decide)
  have e4 := ex_open 400 (by decide)
  have c1 := trPatternsX (exP 200) exO (by decide)
  rw [patsD, if_pos e2, e2, show patsX (exP 200) exO exO.length [] = exA from rfl] at c1
  have c2 := trPlanX (exP 200) exO (by decide)
  rw [planX, if_pos e2, ex_plan] at c2
  dsimp only at c2
  have c3 := trAgainst (exP 200) exO (by decide)
  have a3 : agE (exP 200) exO = 0 := by unfold agE; rw [if_neg (by simpa using e2), ex_plan]; rfl
  have a4 : agD (exP 200) exO = dIs false [1] := by
    rw [agD, a3, if_neg (by decide)]
    have h := ex_ag
    have hne := badsF_ne (p := exP 200) (l := exO) (by decide) ex_plan
    rw [show (2 ^ exO.length) = 8 from rfl] at hne ⊢
    cases hb : badsF (exP 200) exO 8 with
    | nil => exact absurd hb hne
    | cons x t =>
      rw [hb] at h
      dsimp only at h ⊢
      rw [h]
  rw [a3, a4] at c3
  have c4 := trPlanX (exP 400) exO (by decide)
  rw [planX, if_pos e4, ex_plan4] at c4
  dsimp only at c4
  have c5 := trGetX (exP 400) exO (by decide) exQ (by decide)
  rw [ex_get] at c5
  simp only [doesD] at c5
  have c6 := trBound (exP 400) exO (by decide)
  rw [ex_bnd.1, ex_bnd.2] at c6
  have c7 := trKnives true (exP 400) exO (by decide) [2, 1, 0] (by decide)
  rw [knvD, if_pos ex_knv.2, ex_knv.1, ex_knv.2] at c7
  have c8 := trChangeX true true [100, 900, 1700, 2400] [50, 1250, 2450] (by decide) (by decide)
  rw [chgI, if_pos ex_chE, ex_chE, show edI [100, 900, 1700, 2400] [50, 1250, 2450] ([100, 900, 1700, 2400] : List Int).length ([50, 1250, 2450] : List Int).length = 950 from ex_ch] at c8
  have c9 := trSheets 1000 1 10
  rw [ex_sh.1, ex_sh.2] at c9
  have c10 := trChoose true [exP 200, exP 400] (by decide) exO (by decide)
  rw [ex_cho.1, ex_cho.2] at c10
  have s1 := laSetup 2 [0, 0, 2]
  have s2 := laSetup 1 [0, 3, 0]
  have s3 := laSetup 5 [2, 1, 0]
  have i1 := reInts false true [0, 0, 2] [0, 0, 2] (by decide) (by decide)
  have i2 := reInts false true [1] [1] (by decide) (by decide)
  have i3 := reInts false true [10, 8, 4] [10, 8, 4] (by decide) (by decide)
  have i4 := reInts false true [100, 900, 1700, 2400] [100, 900, 1700, 2400] (by decide) (by decide)
  rw [decide_eq_true rfl] at i1 i2 i3 i4
  have i5 := reSame false true exQ exQ (by decide) (by decide) (by decide) (by decide) true (sameY rfl rfl)
  have l1 := laSpan 99 101
  have hl := ex_all
  have h0 := ex_all0
  generalize exA = A at *
  clear e2 e4 a3 a4
  have dl : ((A.length : Int) != 3) = false := by rw [hl]; rfl
  have d0 : decide ((0 : Int) < (A.length : Int)) = true := by rw [hl]; rfl
  refine DCall.of Try.func15 sf15 hb15 (Nat.le_of_ble_eq_true rfl) (okRes_nil fun _ => rfl) ?_; simp only [s15, Mv, Sg, Ld, Fa, Xt, Ix, Ln, Cl, Oo, Og, idxs, Nat.reduceAdd]
  repeat' (first
    | (with_reducible first | refine DW.seq ?_ | refine DW.block ?_ | refine DW.skip ?_ | refine DW.exit ?_ | refine DW.ret ?_ | refine DW.reg ?_)
    | (refine DW.dreg rfl (WF.of ?_) ?_; first | rfl | skip)
    | (simp (disch := omega) only [go_sem, Nat.reduceLT, Nat.reduceLeDiff, Nat.reduceAdd, Nat.reduceMul, Nat.reduceEqDiff, ↓reduceIte, reduceCtorEq, Nat.reduceBEq, Nat.reduceBNe, Nat.reducePow, Int.reduceLE, Int.reduceLT, Int.reduceNeg, Int.reduceToNat, Int.reduceEq, Int.reduceAdd, Int.reduceSub, Int.reduceMul, Int.reduceBEq, Int.reduceBNe, bm_box, bm_row, bk_box, bk_row])
    | (exact retS_of rfl rfl rfl)
    | (refine DW.cond_tt rfl ?_)
    | (refine call_c (p2) (by decide) ?_)
    | (refine call_c (p4) (by decide) ?_)
    | (refine call_c (po) (by decide) ?_)
    | (refine call_c (c1) (by decide) ?_)
    | (refine call_c (c2) (by decide) ?_)
    | (refine call_c (c3) (by decide) ?_)
    | (refine call_c (c4) (by decide) ?_)
    | (refine DW.cond_ff rfl ?_)
    | (refine DW.cond rfl ?_ ?_ <;> intro hc <;> (try simp only [go_sem] at hc))
    | (refine g_split ?_ ?_ <;> intro hc <;> (try simp only [hc]) <;> (try simp only [go_sem] at hc)))
  refine call_rel 52 rfl ?_
  simp (disch := omega) only [go_sem, Nat.reduceLT, Nat.reduceLeDiff, Nat.reduceAdd, Nat.reduceMul, Nat.reduceEqDiff, ↓reduceIte, reduceCtorEq, Nat.reduceBEq, Nat.reduceBNe, Nat.reducePow, Int.reduceLE, Int.reduceLT, Int.reduceNeg, Int.reduceToNat, Int.reduceEq, Int.reduceAdd, Int.reduceSub, Int.reduceMul, Int.reduceBEq, Int.reduceBNe, bm_box, bm_row, bk_box, bk_row]
  refine opsN.c s1 rfl rfl (by decide) ?_
  simp (disch := omega) only [go_sem, Nat.reduceLT, Nat.reduceLeDiff, Nat.reduceAdd, Nat.reduceMul, Nat.reduceEqDiff, ↓reduceIte, reduceCtorEq, Nat.reduceBEq, Nat.reduceBNe, Nat.reducePow, Int.reduceLE, Int.reduceLT, Int.reduceNeg, Int.reduceToNat, Int.reduceEq, Int.reduceAdd, Int.reduceSub, Int.reduceMul, Int.reduceBEq, Int.reduceBNe, bm_box, bm_row, bk_box, bk_row]
  repeat' (first
    | (with_reducible first | refine DW.seq ?_ | refine DW.block ?_ | refine DW.skip ?_ | refine DW.exit ?_ | refine DW.ret ?_ | refine DW.reg ?_)
    | (refine DW.dreg rfl (WF.of ?_) ?_; first | rfl | skip)
    | (simp (disch := omega) only [go_sem, Nat.reduceLT, Nat.reduceLeDiff, Nat.reduceAdd, Nat.reduceMul, Nat.reduceEqDiff, ↓reduceIte, reduceCtorEq, Nat.reduceBEq, Nat.reduceBNe, Nat.reducePow, Int.reduceLE, Int.reduceLT, Int.reduceNeg, Int.reduceToNat, Int.reduceEq, Int.reduceAdd, Int.reduceSub, Int.reduceMul, Int.reduceBEq, Int.reduceBNe, bm_box, bm_row, bk_box, bk_row, dl, d0, h0])
    | (exact retS_of rfl rfl rfl)
    | (refine DW.cond_tt rfl ?_)
    | (refine call_c (p2) (by decide) ?_)
    | (refine call_c (p4) (by decide) ?_)
    | (refine call_c (po) (by decide) ?_)
    | (refine call_c (c6) (by decide) ?_)
    | (refine call_c (c7) (by decide) ?_)
    | (refine call_c (c8) (by decide) ?_)
    | (refine call_c (c9) (by decide) ?_)
    | (refine call_c (c10) (by decide) ?_)
    | (refine call_c (i1) (by decide) ?_)
    | (refine call_c (i2) (by decide) ?_)
    | (refine call_c (i3) (by decide) ?_)
    | (refine call_c (i4) (by decide) ?_)
    | (refine call_c (i5) (by decide) ?_)
    | (refine call_c (l1) (by decide) ?_)
    | (refine DW.cond_ff rfl ?_)
    | (refine DW.cond rfl ?_ ?_ <;> intro hc <;> (try simp only [go_sem] at hc))
    | (refine g_split ?_ ?_ <;> intro hc <;> (try simp only [hc]) <;> (try simp only [go_sem] at hc)))
  refine call_rel 54 rfl ?_
  simp (disch := omega) only [go_sem, Nat.reduceLT, Nat.reduceLeDiff, Nat.reduceAdd, Nat.reduceMul, Nat.reduceEqDiff, ↓reduceIte, reduceCtorEq, Nat.reduceBEq, Nat.reduceBNe, Nat.reducePow, Int.reduceLE, Int.reduceLT, Int.reduceNeg, Int.reduceToNat, Int.reduceEq, Int.reduceAdd, Int.reduceSub, Int.reduceMul, Int.reduceBEq, Int.reduceBNe, bm_box, bm_row, bk_box, bk_row]
  refine opsN.c s2 rfl rfl (by decide) ?_
  simp (disch := omega) only [go_sem, Nat.reduceLT, Nat.reduceLeDiff, Nat.reduceAdd, Nat.reduceMul, Nat.reduceEqDiff, ↓reduceIte, reduceCtorEq, Nat.reduceBEq, Nat.reduceBNe, Nat.reducePow, Int.reduceLE, Int.reduceLT, Int.reduceNeg, Int.reduceToNat, Int.reduceEq, Int.reduceAdd, Int.reduceSub, Int.reduceMul, Int.reduceBEq, Int.reduceBNe, bm_box, bm_row, bk_box, bk_row]
  repeat' (first
    | (with_reducible first | refine DW.seq ?_ | refine DW.block ?_ | refine DW.skip ?_ | refine DW.exit ?_ | refine DW.ret ?_ | refine DW.reg ?_)
    | (refine DW.dreg rfl (WF.of ?_) ?_; first | rfl | skip)
    | (simp (disch := omega) only [go_sem, Nat.reduceLT, Nat.reduceLeDiff, Nat.reduceAdd, Nat.reduceMul, Nat.reduceEqDiff, ↓reduceIte, reduceCtorEq, Nat.reduceBEq, Nat.reduceBNe, Nat.reducePow, Int.reduceLE, Int.reduceLT, Int.reduceNeg, Int.reduceToNat, Int.reduceEq, Int.reduceAdd, Int.reduceSub, Int.reduceMul, Int.reduceBEq, Int.reduceBNe, bm_box, bm_row, bk_box, bk_row, dl, d0, h0])
    | (exact retS_of rfl rfl rfl)
    | (refine DW.cond_tt rfl ?_)
    | (refine call_c (p2) (by decide) ?_)
    | (refine call_c (p4) (by decide) ?_)
    | (refine call_c (po) (by decide) ?_)
    | (refine call_c (c6) (by decide) ?_)
    | (refine call_c (c7) (by decide) ?_)
    | (refine call_c (c8) (by decide) ?_)
    | (refine call_c (c9) (by decide) ?_)
    | (refine call_c (c10) (by decide) ?_)
    | (refine call_c (i1) (by decide) ?_)
    | (refine call_c (i2) (by decide) ?_)
    | (refine call_c (i3) (by decide) ?_)
    | (refine call_c (i4) (by decide) ?_)
    | (refine call_c (i5) (by decide) ?_)
    | (refine call_c (l1) (by decide) ?_)
    | (refine DW.cond_ff rfl ?_)
    | (refine DW.cond rfl ?_ ?_ <;> intro hc <;> (try simp only [go_sem] at hc))
    | (refine g_split ?_ ?_ <;> intro hc <;> (try simp only [hc]) <;> (try simp only [go_sem] at hc)))
  refine call_rel 56 rfl ?_
  simp (disch := omega) only [go_sem, Nat.reduceLT, Nat.reduceLeDiff, Nat.reduceAdd, Nat.reduceMul, Nat.reduceEqDiff, ↓reduceIte, reduceCtorEq, Nat.reduceBEq, Nat.reduceBNe, Nat.reducePow, Int.reduceLE, Int.reduceLT, Int.reduceNeg, Int.reduceToNat, Int.reduceEq, Int.reduceAdd, Int.reduceSub, Int.reduceMul, Int.reduceBEq, Int.reduceBNe, bm_box, bm_row, bk_box, bk_row]
  refine opsN.c s3 rfl rfl (by decide) ?_
  simp (disch := omega) only [go_sem, Nat.reduceLT, Nat.reduceLeDiff, Nat.reduceAdd, Nat.reduceMul, Nat.reduceEqDiff, ↓reduceIte, reduceCtorEq, Nat.reduceBEq, Nat.reduceBNe, Nat.reducePow, Int.reduceLE, Int.reduceLT, Int.reduceNeg, Int.reduceToNat, Int.reduceEq, Int.reduceAdd, Int.reduceSub, Int.reduceMul, Int.reduceBEq, Int.reduceBNe, bm_box, bm_row, bk_box, bk_row]
  repeat' (first
    | (with_reducible first | refine DW.seq ?_ | refine DW.block ?_ | refine DW.skip ?_ | refine DW.exit ?_ | refine DW.ret ?_ | refine DW.reg ?_)
    | (refine DW.dreg rfl (WF.of ?_) ?_; first | rfl | skip)
    | (simp (disch := omega) only [go_sem, Nat.reduceLT, Nat.reduceLeDiff, Nat.reduceAdd, Nat.reduceMul, Nat.reduceEqDiff, ↓reduceIte, reduceCtorEq, Nat.reduceBEq, Nat.reduceBNe, Nat.reducePow, Int.reduceLE, Int.reduceLT, Int.reduceNeg, Int.reduceToNat, Int.reduceEq, Int.reduceAdd, Int.reduceSub, Int.reduceMul, Int.reduceBEq, Int.reduceBNe, bm_box, bm_row, bk_box, bk_row, dl, d0, h0])
    | (exact retS_of rfl rfl rfl)
    | (refine DW.cond_tt rfl ?_)
    | (refine call_c (p2) (by decide) ?_)
    | (refine call_c (p4) (by decide) ?_)
    | (refine call_c (po) (by decide) ?_)
    | (refine call_c (c6) (by decide) ?_)
    | (refine call_c (c7) (by decide) ?_)
    | (refine call_c (c8) (by decide) ?_)
    | (refine call_c (c9) (by decide) ?_)
    | (refine call_c (c10) (by decide) ?_)
    | (refine call_c (i1) (by decide) ?_)
    | (refine call_c (i2) (by decide) ?_)
    | (refine call_c (i3) (by decide) ?_)
    | (refine call_c (i4) (by decide) ?_)
    | (refine call_c (i5) (by decide) ?_)
    | (refine call_c (l1) (by decide) ?_)
    | (refine DW.cond_ff rfl ?_)
    | (refine DW.cond rfl ?_ ?_ <;> intro hc <;> (try simp only [go_sem] at hc))
    | (refine g_split ?_ ?_ <;> intro hc <;> (try simp only [hc]) <;> (try simp only [go_sem] at hc)))
  refine call_rel 58 rfl ?_
  simp (disch := omega) only [go_sem, Nat.reduceLT, Nat.reduceLeDiff, Nat.reduceAdd, Nat.reduceMul, Nat.reduceEqDiff, ↓reduceIte, reduceCtorEq, Nat.reduceBEq, Nat.reduceBNe, Nat.reducePow, Int.reduceLE, Int.reduceLT, Int.reduceNeg, Int.reduceToNat, Int.reduceEq, Int.reduceAdd, Int.reduceSub, Int.reduceMul, Int.reduceBEq, Int.reduceBNe, bm_box, bm_row, bk_box, bk_row]
  refine opsN.c c5 rfl rfl (by decide) ?_
  simp (disch := omega) only [go_sem, Nat.reduceLT, Nat.reduceLeDiff, Nat.reduceAdd, Nat.reduceMul, Nat.reduceEqDiff, ↓reduceIte, reduceCtorEq, Nat.reduceBEq, Nat.reduceBNe, Nat.reducePow, Int.reduceLE, Int.reduceLT, Int.reduceNeg, Int.reduceToNat, Int.reduceEq, Int.reduceAdd, Int.reduceSub, Int.reduceMul, Int.reduceBEq, Int.reduceBNe, bm_box, bm_row, bk_box, bk_row]
  repeat' (first
    | (with_reducible first | refine DW.seq ?_ | refine DW.block ?_ | refine DW.skip ?_ | refine DW.exit ?_ | refine DW.ret ?_ | refine DW.reg ?_)
    | (refine DW.dreg rfl (WF.of ?_) ?_; first | rfl | skip)
    | (simp (disch := omega) only [go_sem, Nat.reduceLT, Nat.reduceLeDiff, Nat.reduceAdd, Nat.reduceMul, Nat.reduceEqDiff, ↓reduceIte, reduceCtorEq, Nat.reduceBEq, Nat.reduceBNe, Nat.reducePow, Int.reduceLE, Int.reduceLT, Int.reduceNeg, Int.reduceToNat, Int.reduceEq, Int.reduceAdd, Int.reduceSub, Int.reduceMul, Int.reduceBEq, Int.reduceBNe, bm_box, bm_row, bk_box, bk_row, dl, d0, h0])
    | (exact retS_of rfl rfl rfl)
    | (refine DW.cond_tt rfl ?_)
    | (refine call_c (p2) (by decide) ?_)
    | (refine call_c (p4) (by decide) ?_)
    | (refine call_c (po) (by decide) ?_)
    | (refine call_c (c6) (by decide) ?_)
    | (refine call_c (c7) (by decide) ?_)
    | (refine call_c (c8) (by decide) ?_)
    | (refine call_c (c9) (by decide) ?_)
    | (refine call_c (c10) (by decide) ?_)
    | (refine call_c (i1) (by decide) ?_)
    | (refine call_c (i2) (by decide) ?_)
    | (refine call_c (i3) (by decide) ?_)
    | (refine call_c (i4) (by decide) ?_)
    | (refine call_c (i5) (by decide) ?_)
    | (refine call_c (l1) (by decide) ?_)
    | (refine DW.cond_ff rfl ?_)
    | (refine DW.cond rfl ?_ ?_ <;> intro hc <;> (try simp only [go_sem] at hc))
    | (refine g_split ?_ ?_ <;> intro hc <;> (try simp only [hc]) <;> (try simp only [go_sem] at hc)))
  refine call_rel 154 rfl ?_
  simp (disch := omega) only [go_sem, Nat.reduceLT, Nat.reduceLeDiff, Nat.reduceAdd, Nat.reduceMul, Nat.reduceEqDiff, ↓reduceIte, reduceCtorEq, Nat.reduceBEq, Nat.reduceBNe, Nat.reducePow, Int.reduceLE, Int.reduceLT, Int.reduceNeg, Int.reduceToNat, Int.reduceEq, Int.reduceAdd, Int.reduceSub, Int.reduceMul, Int.reduceBEq, Int.reduceBNe, bm_box, bm_row, bk_box, bk_row]
  refine opsN.c s1 rfl rfl (by decide) ?_
  simp (disch := omega) only [go_sem, Nat.reduceLT, Nat.reduceLeDiff, Nat.reduceAdd, Nat.reduceMul, Nat.reduceEqDiff, ↓reduceIte, reduceCtorEq, Nat.reduceBEq, Nat.reduceBNe, Nat.reducePow, Int.reduceLE, Int.reduceLT, Int.reduceNeg, Int.reduceToNat, Int.reduceEq, Int.reduceAdd, Int.reduceSub, Int.reduceMul, Int.reduceBEq, Int.reduceBNe, bm_box, bm_row, bk_box, bk_row]
  repeat' (first
    | (with_reducible first | refine DW.seq ?_ | refine DW.block ?_ | refine DW.skip ?_ | refine DW.exit ?_ | refine DW.ret ?_ | refine DW.reg ?_)
    | (refine DW.dreg rfl (WF.of ?_) ?_; first | rfl | skip)
    | (simp (disch := omega) only [go_sem, Nat.reduceLT, Nat.reduceLeDiff, Nat.reduceAdd, Nat.reduceMul, Nat.reduceEqDiff, ↓reduceIte, reduceCtorEq, Nat.reduceBEq, Nat.reduceBNe, Nat.reducePow, Int.reduceLE, Int.reduceLT, Int.reduceNeg, Int.reduceToNat, Int.reduceEq, Int.reduceAdd, Int.reduceSub, Int.reduceMul, Int.reduceBEq, Int.reduceBNe, bm_box, bm_row, bk_box, bk_row, dl, d0, h0])
    | (exact retS_of rfl rfl rfl)
    | (refine DW.cond_tt rfl ?_)
    | (refine call_c (p2) (by decide) ?_)
    | (refine call_c (p4) (by decide) ?_)
    | (refine call_c (po) (by decide) ?_)
    | (refine call_c (c6) (by decide) ?_)
    | (refine call_c (c7) (by decide) ?_)
    | (refine call_c (c8) (by decide) ?_)
    | (refine call_c (c9) (by decide) ?_)
    | (refine call_c (c10) (by decide) ?_)
    | (refine call_c (i1) (by decide) ?_)
    | (refine call_c (i2) (by decide) ?_)
    | (refine call_c (i3) (by decide) ?_)
    | (refine call_c (i4) (by decide) ?_)
    | (refine call_c (i5) (by decide) ?_)
    | (refine call_c (l1) (by decide) ?_)
    | (refine DW.cond_ff rfl ?_)
    | (refine DW.cond rfl ?_ ?_ <;> intro hc <;> (try simp only [go_sem] at hc))
    | (refine g_split ?_ ?_ <;> intro hc <;> (try simp only [hc]) <;> (try simp only [go_sem] at hc)))
  refine call_rel 156 rfl ?_
  simp (disch := omega) only [go_sem, Nat.reduceLT, Nat.reduceLeDiff, Nat.reduceAdd, Nat.reduceMul, Nat.reduceEqDiff, ↓reduceIte, reduceCtorEq, Nat.reduceBEq, Nat.reduceBNe, Nat.reducePow, Int.reduceLE, Int.reduceLT, Int.reduceNeg, Int.reduceToNat, Int.reduceEq, Int.reduceAdd, Int.reduceSub, Int.reduceMul, Int.reduceBEq, Int.reduceBNe, bm_box, bm_row, bk_box, bk_row]
  refine opsN.c s2 rfl rfl (by decide) ?_
  simp (disch := omega) only [go_sem, Nat.reduceLT, Nat.reduceLeDiff, Nat.reduceAdd, Nat.reduceMul, Nat.reduceEqDiff, ↓reduceIte, reduceCtorEq, Nat.reduceBEq, Nat.reduceBNe, Nat.reducePow, Int.reduceLE, Int.reduceLT, Int.reduceNeg, Int.reduceToNat, Int.reduceEq, Int.reduceAdd, Int.reduceSub, Int.reduceMul, Int.reduceBEq, Int.reduceBNe, bm_box, bm_row, bk_box, bk_row]
  repeat' (first
    | (with_reducible first | refine DW.seq ?_ | refine DW.block ?_ | refine DW.skip ?_ | refine DW.exit ?_ | refine DW.ret ?_ | refine DW.reg ?_)
    | (refine DW.dreg rfl (WF.of ?_) ?_; first | rfl | skip)
    | (simp (disch := omega) only [go_sem, Nat.reduceLT, Nat.reduceLeDiff, Nat.reduceAdd, Nat.reduceMul, Nat.reduceEqDiff, ↓reduceIte, reduceCtorEq, Nat.reduceBEq, Nat.reduceBNe, Nat.reducePow, Int.reduceLE, Int.reduceLT, Int.reduceNeg, Int.reduceToNat, Int.reduceEq, Int.reduceAdd, Int.reduceSub, Int.reduceMul, Int.reduceBEq, Int.reduceBNe, bm_box, bm_row, bk_box, bk_row, dl, d0, h0])
    | (exact retS_of rfl rfl rfl)
    | (refine DW.cond_tt rfl ?_)
    | (refine call_c (p2) (by decide) ?_)
    | (refine call_c (p4) (by decide) ?_)
    | (refine call_c (po) (by decide) ?_)
    | (refine call_c (c6) (by decide) ?_)
    | (refine call_c (c7) (by decide) ?_)
    | (refine call_c (c8) (by decide) ?_)
    | (refine call_c (c9) (by decide) ?_)
    | (refine call_c (c10) (by decide) ?_)
    | (refine call_c (i1) (by decide) ?_)
    | (refine call_c (i2) (by decide) ?_)
    | (refine call_c (i3) (by decide) ?_)
    | (refine call_c (i4) (by decide) ?_)
    | (refine call_c (i5) (by decide) ?_)
    | (refine call_c (l1) (by decide) ?_)
    | (refine DW.cond_ff rfl ?_)
    | (refine DW.cond rfl ?_ ?_ <;> intro hc <;> (try simp only [go_sem] at hc))
    | (refine g_split ?_ ?_ <;> intro hc <;> (try simp only [hc]) <;> (try simp only [go_sem] at hc)))
  refine call_rel 158 rfl ?_
  simp (disch := omega) only [go_sem, Nat.reduceLT, Nat.reduceLeDiff, Nat.reduceAdd, Nat.reduceMul, Nat.reduceEqDiff, ↓reduceIte, reduceCtorEq, Nat.reduceBEq, Nat.reduceBNe, Nat.reducePow, Int.reduceLE, Int.reduceLT, Int.reduceNeg, Int.reduceToNat, Int.reduceEq, Int.reduceAdd, Int.reduceSub, Int.reduceMul, Int.reduceBEq, Int.reduceBNe, bm_box, bm_row, bk_box, bk_row]
  refine opsN.c s3 rfl rfl (by decide) ?_
  simp (disch := omega) only [go_sem, Nat.reduceLT, Nat.reduceLeDiff, Nat.reduceAdd, Nat.reduceMul, Nat.reduceEqDiff, ↓reduceIte, reduceCtorEq, Nat.reduceBEq, Nat.reduceBNe, Nat.reducePow, Int.reduceLE, Int.reduceLT, Int.reduceNeg, Int.reduceToNat, Int.reduceEq, Int.reduceAdd, Int.reduceSub, Int.reduceMul, Int.reduceBEq, Int.reduceBNe, bm_box, bm_row, bk_box, bk_row]
  repeat' (first
    | (with_reducible first | refine DW.seq ?_ | refine DW.block ?_ | refine DW.skip ?_ | refine DW.exit ?_ | refine DW.ret ?_ | refine DW.reg ?_)
    | (refine DW.dreg rfl (WF.of ?_) ?_; first | rfl | skip)
    | (simp (disch := omega) only [go_sem, Nat.reduceLT, Nat.reduceLeDiff, Nat.reduceAdd, Nat.reduceMul, Nat.reduceEqDiff, ↓reduceIte, reduceCtorEq, Nat.reduceBEq, Nat.reduceBNe, Nat.reducePow, Int.reduceLE, Int.reduceLT, Int.reduceNeg, Int.reduceToNat, Int.reduceEq, Int.reduceAdd, Int.reduceSub, Int.reduceMul, Int.reduceBEq, Int.reduceBNe, bm_box, bm_row, bk_box, bk_row, dl, d0, h0])
    | (exact retS_of rfl rfl rfl)
    | (refine DW.cond_tt rfl ?_)
    | (refine call_c (p2) (by decide) ?_)
    | (refine call_c (p4) (by decide) ?_)
    | (refine call_c (po) (by decide) ?_)
    | (refine call_c (c6) (by decide) ?_)
    | (refine call_c (c7) (by decide) ?_)
    | (refine call_c (c8) (by decide) ?_)
    | (refine call_c (c9) (by decide) ?_)
    | (refine call_c (c10) (by decide) ?_)
    | (refine call_c (i1) (by decide) ?_)
    | (refine call_c (i2) (by decide) ?_)
    | (refine call_c (i3) (by decide) ?_)
    | (refine call_c (i4) (by decide) ?_)
    | (refine call_c (i5) (by decide) ?_)
    | (refine call_c (l1) (by decide) ?_)
    | (refine DW.cond_ff rfl ?_)
    | (refine DW.cond rfl ?_ ?_ <;> intro hc <;> (try simp only [go_sem] at hc))
    | (refine g_split ?_ ?_ <;> intro hc <;> (try simp only [hc]) <;> (try simp only [go_sem] at hc)))
end Go.Dw.Seat
end
section
set_option linter.unusedSimpArgs false
set_option maxRecDepth 100000
namespace Go.Dw.Seat
open Go Go.Dw Go.Proofs Go.IntWalk
def absI (a : Int) : Int := max a (-a)
inductive Way : List Int → List Int → Int → Prop
  | nil : Way [] [] 0
  | both (x y : Int) {s t : List Int} {c : Int} (h : Way s t c) : Way (x :: s) (y :: t) (absI (x - y) + c)
  | left (x : Int) {s t : List Int} {c : Int} (h : Way s t c) : Way (x :: s) t (500 + c)
  | right (y : Int) {s t : List Int} {c : Int} (h : Way s t c) : Way s (y :: t) (500 + c)
theorem Way.cast {s t : List Int} {c d : Int} (h : Way s t c) (e : c = d) : Way s t d := e ▸ h
theorem way_parkL : ∀ s : List Int, Way s [] (500 * (s.length : Int))
  | [] => .nil
  | x :: s => ((way_parkL s).left x).cast (by simp only [List.length_cons, Int.natCast_add, Int.natCast_one]; omega)
theorem way_parkR : ∀ t : List Int, Way [] t (500 * (t.length : Int))
  | [] => .nil
  | x :: t => ((way_parkR t).right x).cast (by simp only [List.length_cons, Int.natCast_add, Int.natCast_one]; omega)
theorem way_ch : ∀ (n : Nat) (s t : List Int), s.length + t.length ≤ n → Way s t (chF s t)
  | n, [], t, _ => by rw [chF_nil_l]; exact way_parkR t
  | n, x :: s, [], _ => by rw [chF_nil_r]; exact way_parkL (x :: s)
  | 0, x :: s, y :: t, h => by simp at h
  | n + 1, x :: s, y :: t, h => by
    simp only [List.length_cons] at h
    have h1 := way_ch n s t (by omega)
    have h2 := way_ch n s (y :: t) (by simp only [List.length_cons]; omega)
    have h3 := way_ch n (x :: s) t (by simp only [List.length_cons]; omega)
    rw [chF_cons]
    generalize chF s t = A at *
    generalize chF s (y :: t) = B at *
    generalize chF (x :: s) t = C at *
    by_cases c1 : 500 + B ≤ max (x - y) (-(x - y)) + A ∧ 500 + B ≤ 500 + C
    · exact (h2.left x).cast (by omega)
    · by_cases c2 : 500 + C ≤ max (x - y) (-(x - y)) + A ∧ 500 + C ≤ 500 + B
      · exact (h3.right y).cast (by omega)
      · exact (h1.both x y).cast (by unfold absI; omega)
theorem ch_le {s t : List Int} {c : Int} (h : Way s t c) : chF s t ≤ c := by
  induction h with
  | nil => rw [chF_nil_l]; simp
  | both x y h ih => rw [chF_cons]; unfold absI; omega
  | @left x s t c h ih =>
    cases t with
    | nil => rw [chF_nil_r] at ih ⊢; simp only [List.length_cons, Int.natCast_add, Int.natCast_one]; omega
    | cons y t => rw [chF_cons]; omega
  | @right y s t c h ih =>
    cases s with
    | nil => rw [chF_nil_l] at ih ⊢; simp only [List.length_cons, Int.natCast_add, Int.natCast_one]; omega
    | cons x s => rw [chF_cons]; omega
theorem way_app {s t s' t' : List Int} {c c' : Int} (h : Way s t c) (h' : Way s' t' c') : Way (s ++ s') (t ++ t') (c + c') := by
  induction h with
  | nil => exact h'.cast (by omega)
  | both x y h ih => exact (ih.both x y).cast (by omega)
  | left x h ih => exact (ih.left x).cast (by omega)
  | right y h ih => exact (ih.right y).cast (by omega)
theorem way_rev {s t : List Int} {c : Int} (h : Way s t c) : Way s.reverse t.reverse c := by
  induction h with
  | nil => exact .nil
  | both x y h ih =>
    rw [List.reverse_cons, List.reverse_cons]
    exact (way_app ih (Way.both x y .nil)).cast (by omega)
  | left x h ih =>
    rw [List.reverse_cons]
    have := way_app ih (Way.left x .nil)
    rw [List.append_nil] at this
    exact this.cast (by omega)
  | right y h ih =>
    rw [List.reverse_cons]
    have := way_app ih (Way.right y .nil)
    rw [List.append_nil] at this
    exact this.cast (by omega)
theorem ch_rev (s t : List Int) : chF s.reverse t.reverse = chF s t := by
  have h1 := ch_le (way_rev (way_ch _ s t (Nat.le_refl _)))
  have h2 := ch_le (way_rev (way_ch _ s.reverse t.reverse (Nat.le_refl _)))
  rw [List.reverse_reverse, List.reverse_reverse] at h2
  omega
theorem ed_ch (s t : List Int) : ∀ (a b : Nat), a ≤ s.length → b ≤ t.length → edI s t a b = chF (s.take a).reverse (t.take b).reverse
  | 0, b, _, hb => by rw [edI, List.take_zero, List.reverse_nil, chF_nil_l, List.length_reverse, List.length_take]; omega
  | a + 1, 0, ha, _ => by rw [edI, List.take_zero, List.reverse_nil, chF_nil_r, List.length_reverse, List.length_take]; omega
  | a + 1, b + 1, ha, hb => by
    obtain ⟨x, hx⟩ := getE (l := s) (i := a) (by omega)
    obtain ⟨y, hy⟩ := getE (l := t) (i := b) (by omega)
    have e1 : (s.take (a + 1)).reverse = x :: (s.take a).reverse := by rw [List.take_add_one, hx]; simp
    have e2 : (t.take (b + 1)).reverse = y :: (t.take b).reverse := by rw [List.take_add_one, hy]; simp
    have i1 := ed_ch s t a b (by omega) (by omega)
    have i2 := ed_ch s t a (b + 1) (by omega) hb
    have i3 := ed_ch s t (a + 1) b ha (by omega)
    rw [e2] at i2
    rw [e1] at i3
    rw [e1, e2, chF_cons, edI, i1, i2, i3]
    simp only [atI, hx, hy, Option.getD_some]
    omega
termination_by a b => (a, b)
theorem ed_all (s t : List Int) : edI s t s.length t.length = chF s t := by
  rw [ed_ch s t _ _ (Nat.le_refl _) (Nat.le_refl _), List.take_length, List.take_length, ch_rev]
theorem sta_some : ∀ (l : List Int) (a : Int) (k : Nat), staB (some a) l = (l.all (fun v => inI v 0 3000) && (srt (a :: l) && (dupAt (a :: l) k).isNone))
  | [], a, k => rfl
  | b :: l, a, k => by
    rw [staB_cons, sta_some l b (k + 1)]
    simp only [List.all_cons, srt, dupAt]
    by_cases h : b = a
    · subst h
      simp
    · rw [if_neg h]
      have : (!decide (b ≤ a)) = decide (a ≤ b) := by
        rw [Bool.eq_iff_iff]
        simp only [Bool.not_eq_true', decide_eq_false_iff_not, decide_eq_true_eq]
        omega
      rw [this]
      cases inI b 0 3000 <;> cases decide (a ≤ b) <;> simp
theorem wthn_all_eq (l : List Int) : wthn 0 3000 l = l.all (fun v => inI v 0 3000) := by
  rw [Bool.eq_iff_iff]
  constructor
  · intro h
    rw [List.all_eq_true]
    intro v hv
    have := wthn_all h v hv
    simp [inI]; omega
  · intro h
    rw [List.all_eq_true] at h
    exact wthn_yes (fun v hv => by have := h v hv; simpa [inI] using this)
theorem kn_sta (l : List Int) : knOk l = staB none l := by
  rw [knOk, show decide ((cpt l).length = l.length) = (dupAt l 0).isNone from by
    rw [Bool.eq_iff_iff, decide_eq_true_eq, cpt_len, Option.isNone_iff_eq_none], wthn_all_eq]
  cases l with
  | nil => rfl
  | cons a l =>
    rw [staB_cons, sta_some l a 0, List.all_cons]
    simp only [Bool.not_false, Bool.and_true, Bool.and_assoc]
end Go.Dw.Seat
end
section
set_option linter.unusedSimpArgs false
set_option maxRecDepth 100000
namespace Go.Dw.Seat
open Go Go.Dw Go.Proofs Go.IntWalk
theorem sta_b {l : List Int} (h : staB none l = true) : ∀ v ∈ l, 0 ≤ v ∧ v ≤ 3000 := by
  rw [← kn_sta] at h
  simp only [knOk, Bool.and_eq_true] at h
  exact wthn_all h.1
set_option maxHeartbeats 4000000 in
theorem laChanges (s : List Int) (hsm : s.length ≤ maxLen) (t : List Int) (htm : t.length ≤ maxLen) : DCall Try.prog 3 [dIs false s, dIs false t] [] (bD true) [] := by
  have hk := laKnown
  by_cases s20 : (20 : Int) < (s.length : Int)
  · have d1 : decide ((20 : Int) < (s.length : Int)) = true := decide_eq_true s20
    refine DCall.of Try.func3 sf3 hb3 (Nat.le_of_ble_eq_true rfl) (okRes_nil fun _ => rfl) ?_; simp only [s3, Mv, Sg, Ld, Fa, Xt, Ix, Ln, Cl, Oo, Og, idxs, Nat.reduceAdd]
    repeat' (first
    | (with_reducible first | refine DW.seq ?_ | refine DW.block ?_ | refine DW.skip ?_ | refine DW.exit ?_ | refine DW.ret ?_ | refine DW.reg ?_)
    | (simp (disch := omega) only [go_sem, Nat.reduceLT, Nat.reduceLeDiff, Nat.reduceAdd, Nat.reduceMul, Nat.reduceEqDiff, ↓reduceIte, reduceCtorEq, Nat.reduceBEq, Nat.reduceBNe, Nat.reducePow, Int.reduceLE, Int.reduceLT, Int.reduceNeg, Int.reduceToNat, Int.reduceEq, Int.reduceAdd, Int.reduceSub, Int.reduceMul, Int.reduceBEq, Int.reduceBNe, bm_box, bm_row, bk_box, bk_row, d1])
    | (exact retS_of rfl rfl rfl)
    | (refine DW.cond_tt rfl ?_)
    | (refine call_c (hk) (by decide) ?_)
    | (refine DW.cond_ff rfl ?_)
    | (refine DW.cond rfl ?_ ?_ <;> intro hc <;> (try simp only [go_sem] at hc))
    | (refine g_split ?_ ?_ <;> intro hc <;> (try simp only [hc]) <;> (try simp only [go_sem] at hc)))
  have d1 : decide ((20 : Int) < (s.length : Int)) = false := decide_eq_false s20
  by_cases t20 : (20 : Int) < (t.length : Int)
  · have d2 : decide ((20 : Int) < (t.length : Int)) = true := decide_eq_true t20
    refine DCall.of Try.func3 sf3 hb3 (Nat.le_of_ble_eq_true rfl) (okRes_nil fun _ => rfl) ?_; simp only [s3, Mv, Sg, Ld, Fa, Xt, Ix, Ln, Cl, Oo, Og, idxs, Nat.reduceAdd]
    repeat' (first
    | (with_reducible first | refine DW.seq ?_ | refine DW.block ?_ | refine DW.skip ?_ | refine DW.exit ?_ | refine DW.ret ?_ | refine DW.reg ?_)
    | (simp (disch := omega) only [go_sem, Nat.reduceLT, Nat.reduceLeDiff, Nat.reduceAdd, Nat.reduceMul, Nat.reduceEqDiff, ↓reduceIte, reduceCtorEq, Nat.reduceBEq, Nat.reduceBNe, Nat.reducePow, Int.reduceLE, Int.reduceLT, Int.reduceNeg, Int.reduceToNat, Int.reduceEq, Int.reduceAdd, Int.reduceSub, Int.reduceMul, Int.reduceBEq, Int.reduceBNe, bm_box, bm_row, bk_box, bk_row, d1, d2])
    | (exact retS_of rfl rfl rfl)
    | (refine DW.cond_tt rfl ?_)
    | (refine call_c (hk) (by decide) ?_)
    | (refine DW.cond_ff rfl ?_)
    | (refine DW.cond rfl ?_ ?_ <;> intro hc <;> (try simp only [go_sem] at hc))
    | (refine g_split ?_ ?_ <;> intro hc <;> (try simp only [hc]) <;> (try simp only [go_sem] at hc)))
  have d2 : decide ((20 : Int) < (t.length : Int)) = false := decide_eq_false t20
  have hs : s.length ≤ 2 ^ 36 := by omega
  have ht : t.length ≤ 2 ^ 36 := by omega
  have c1 := laInts false s hs
  have c2 := laInts false t ht
  have c3 := trChangeX false false s t hs ht
  have i1 := reInts false false s s hs hs
  have i2 := reInts false false t t ht ht
  rw [decide_eq_true rfl] at i1 i2
  have st1 := reStand false s hs
  have st2 := reStand false t ht
  by_cases hlong : 10 < s.length ∨ 10 < t.length
  · have hE : chgE s t = 5 := by unfold chgE; rw [if_pos hlong]
    rw [chgI, hE, if_neg (by decide)] at c3
    by_cases s10 : 10 < s.length
    · have e1 : decide ((10 : Int) < (s.length : Int)) = true := decide_eq_true (by omega)
      refine DCall.of Try.func3 sf3 hb3 (Nat.le_of_ble_eq_true rfl) (okRes_nil fun _ => rfl) ?_; simp only [s3, Mv, Sg, Ld, Fa, Xt, Ix, Ln, Cl, Oo, Og, idxs, Nat.reduceAdd]
      repeat' (first
    | (with_reducible first | refine DW.seq ?_ | refine DW.block ?_ | refine DW.skip ?_ | refine DW.exit ?_ | refine DW.ret ?_ | refine DW.reg ?_)
    | (simp (disch := omega) only [go_sem, Nat.reduceLT, Nat.reduceLeDiff, Nat.reduceAdd, Nat.reduceMul, Nat.reduceEqDiff, ↓reduceIte, reduceCtorEq, Nat.reduceBEq, Nat.reduceBNe, Nat.reducePow, Int.reduceLE, Int.reduceLT, Int.reduceNeg, Int.reduceToNat, Int.reduceEq, Int.reduceAdd, Int.reduceSub, Int.reduceMul, Int.reduceBEq, Int.reduceBNe, bm_box, bm_row, bk_box, bk_row, d1, d2, e1])
    | (exact retS_of rfl rfl rfl)
    | (refine DW.cond_tt rfl ?_)
    | (refine call_c (hk) (by decide) ?_)
    | (refine call_c (c1) (by decide) ?_)
    | (refine call_c (c2) (by decide) ?_)
    | (refine call_c (c3) (by decide) ?_)
    | (refine call_c (i1) (by decide) ?_)
    | (refine call_c (i2) (by decide) ?_)
    | (refine DW.cond_ff rfl ?_)
    | (refine DW.cond rfl ?_ ?_ <;> intro hc <;> (try simp only [go_sem] at hc))
    | (refine g_split ?_ ?_ <;> intro hc <;> (try simp only [hc]) <;> (try simp only [go_sem] at hc)))
    · have e1 : decide ((10 : Int) < (s.length : Int)) = false := decide_eq_false (by omega)
      have e2 : decide ((10 : Int) < (t.length : Int)) = true := decide_eq_true (by omega)
      refine DCall.of Try.func3 sf3 hb3 (Nat.le_of_ble_eq_true rfl) (okRes_nil fun _ => rfl) ?_; simp only [s3, Mv, Sg, Ld, Fa, Xt, Ix, Ln, Cl, Oo, Og, idxs, Nat.reduceAdd]
      repeat' (first
    | (with_reducible first | refine DW.seq ?_ | refine DW.block ?_ | refine DW.skip ?_ | refine DW.exit ?_ | refine DW.ret ?_ | refine DW.reg ?_)
    | (simp (disch := omega) only [go_sem, Nat.reduceLT, Nat.reduceLeDiff, Nat.reduceAdd, Nat.reduceMul, Nat.reduceEqDiff, ↓reduceIte, reduceCtorEq, Nat.reduceBEq, Nat.reduceBNe, Nat.reducePow, Int.reduceLE, Int.reduceLT, Int.reduceNeg, Int.reduceToNat, Int.reduceEq, Int.reduceAdd, Int.reduceSub, Int.reduceMul, Int.reduceBEq, Int.reduceBNe, bm_box, bm_row, bk_box, bk_row, d1, d2, e1, e2])
    | (exact retS_of rfl rfl rfl)
    | (refine DW.cond_tt rfl ?_)
    | (refine call_c (hk) (by decide) ?_)
    | (refine call_c (c1) (by decide) ?_)
    | (refine call_c (c2) (by decide) ?_)
    | (refine call_c (c3) (by decide) ?_)
    | (refine call_c (i1) (by decide) ?_)
    | (refine call_c (i2) (by decide) ?_)
    | (refine DW.cond_ff rfl ?_)
    | (refine DW.cond rfl ?_ ?_ <;> intro hc <;> (try simp only [go_sem] at hc))
    | (refine g_split ?_ ?_ <;> intro hc <;> (try simp only [hc]) <;> (try simp only [go_sem] at hc)))
  have e1 : decide ((10 : Int) < (s.length : Int)) = false := decide_eq_false (by omega)
  have e2 : decide ((10 : Int) < (t.length : Int)) = false := decide_eq_false (by omega)
  by_cases h12 : (12 : Int) < (s.length : Int) + (t.length : Int)
  · have e3 : decide ((12 : Int) < (s.length : Int) + (t.length : Int)) = true := decide_eq_true h12
    refine DCall.of Try.func3 sf3 hb3 (Nat.le_of_ble_eq_true rfl) (okRes_nil fun _ => rfl) ?_; simp only [s3, Mv, Sg, Ld, Fa, Xt, Ix, Ln, Cl, Oo, Og, idxs, Nat.reduceAdd]
    repeat' (first
    | (with_reducible first | refine DW.seq ?_ | refine DW.block ?_ | refine DW.skip ?_ | refine DW.exit ?_ | refine DW.ret ?_ | refine DW.reg ?_)
    | (simp (disch := omega) only [go_sem, Nat.reduceLT, Nat.reduceLeDiff, Nat.reduceAdd, Nat.reduceMul, Nat.reduceEqDiff, ↓reduceIte, reduceCtorEq, Nat.reduceBEq, Nat.reduceBNe, Nat.reducePow, Int.reduceLE, Int.reduceLT, Int.reduceNeg, Int.reduceToNat, Int.reduceEq, Int.reduceAdd, Int.reduceSub, Int.reduceMul, Int.reduceBEq, Int.reduceBNe, bm_box, bm_row, bk_box, bk_row, d1, d2, e1, e2, e3])
    | (exact retS_of rfl rfl rfl)
    | (refine DW.cond_tt rfl ?_)
    | (refine call_c (hk) (by decide) ?_)
    | (refine DW.cond_ff rfl ?_)
    | (refine DW.cond rfl ?_ ?_ <;> intro hc <;> (try simp only [go_sem] at hc))
    | (refine g_split ?_ ?_ <;> intro hc <;> (try simp only [hc]) <;> (try simp only [go_sem] at hc)))
  have e3 : decide ((12 : Int) < (s.length : Int) + (t.length : Int)) = false := decide_eq_false h12
  cases k1 : staB none s with
  | false =>
    rw [k1] at st1
    have hE : chgE s t = 4 := by unfold chgE; rw [if_neg hlong, if_pos (.inl (by rw [kn_sta]; exact k1))]
    rw [chgI, hE, if_neg (by decide)] at c3
    refine DCall.of Try.func3 sf3 hb3 (Nat.le_of_ble_eq_true rfl) (okRes_nil fun _ => rfl) ?_; simp only [s3, Mv, Sg, Ld, Fa, Xt, Ix, Ln, Cl, Oo, Og, idxs, Nat.reduceAdd]
    repeat' (first
    | (with_reducible first | refine DW.seq ?_ | refine DW.block ?_ | refine DW.skip ?_ | refine DW.exit ?_ | refine DW.ret ?_ | refine DW.reg ?_)
    | (simp (disch := omega) only [go_sem, Nat.reduceLT, Nat.reduceLeDiff, Nat.reduceAdd, Nat.reduceMul, Nat.reduceEqDiff, ↓reduceIte, reduceCtorEq, Nat.reduceBEq, Nat.reduceBNe, Nat.reducePow, Int.reduceLE, Int.reduceLT, Int.reduceNeg, Int.reduceToNat, Int.reduceEq, Int.reduceAdd, Int.reduceSub, Int.reduceMul, Int.reduceBEq, Int.reduceBNe, bm_box, bm_row, bk_box, bk_row, d1, d2, e1, e2, e3])
    | (exact retS_of rfl rfl rfl)
    | (refine DW.cond_tt rfl ?_)
    | (refine call_c (hk) (by decide) ?_)
    | (refine call_c (c1) (by decide) ?_)
    | (refine call_c (c2) (by decide) ?_)
    | (refine call_c (c3) (by decide) ?_)
    | (refine call_c (i1) (by decide) ?_)
    | (refine call_c (i2) (by decide) ?_)
    | (refine call_c (st1) (by decide) ?_)
    | (refine DW.cond_ff rfl ?_)
    | (refine DW.cond rfl ?_ ?_ <;> intro hc <;> (try simp only [go_sem] at hc))
    | (refine g_split ?_ ?_ <;> intro hc <;> (try simp only [hc]) <;> (try simp only [go_sem] at hc)))
  | true =>
    rw [k1] at st1
    cases k2 : staB none t with
    | false =>
      rw [k2] at st2
      have hE : chgE s t = 4 := by unfold chgE; rw [if_neg hlong, if_pos (.inr (by rw [kn_sta]; exact k2))]
      rw [chgI, hE, if_neg (by decide)] at c3
      refine DCall.of Try.func3 sf3 hb3 (Nat.le_of_ble_eq_true rfl) (okRes_nil fun _ => rfl) ?_; simp only [s3, Mv, Sg, Ld, Fa, Xt, Ix, Ln, Cl, Oo, Og, idxs, Nat.reduceAdd]
      repeat' (first
    | (with_reducible first | refine DW.seq ?_ | refine DW.block ?_ | refine DW.skip ?_ | refine DW.exit ?_ | refine DW.ret ?_ | refine DW.reg ?_)
    | (simp (disch := omega) only [go_sem, Nat.reduceLT, Nat.reduceLeDiff, Nat.reduceAdd, Nat.reduceMul, Nat.reduceEqDiff, ↓reduceIte, reduceCtorEq, Nat.reduceBEq, Nat.reduceBNe, Nat.reducePow, Int.reduceLE, Int.reduceLT, Int.reduceNeg, Int.reduceToNat, Int.reduceEq, Int.reduceAdd, Int.reduceSub, Int.reduceMul, Int.reduceBEq, Int.reduceBNe, bm_box, bm_row, bk_box, bk_row, d1, d2, e1, e2, e3])
    | (exact retS_of rfl rfl rfl)
    | (refine DW.cond_tt rfl ?_)
    | (refine call_c (hk) (by decide) ?_)
    | (refine call_c (c1) (by decide) ?_)
    | (refine call_c (c2) (by decide) ?_)
    | (refine call_c (c3) (by decide) ?_)
    | (refine call_c (i1) (by decide) ?_)
    | (refine call_c (i2) (by decide) ?_)
    | (refine call_c (st1) (by decide) ?_)
    | (refine call_c (st2) (by decide) ?_)
    | (refine DW.cond_ff rfl ?_)
    | (refine DW.cond rfl ?_ ?_ <;> intro hc <;> (try simp only [go_sem] at hc))
    | (refine g_split ?_ ?_ <;> intro hc <;> (try simp only [hc]) <;> (try simp only [go_sem] at hc)))
    | true =>
      rw [k2] at st2
      have hE : chgE s t = 0 := by unfold chgE; rw [if_neg hlong, if_neg (by rw [kn_sta, kn_sta, k1, k2]; simp)]
      rw [chgI, hE, if_pos rfl, ed_all] at c3
      have c4 := reChange (s.length + t.length) false false s t (Nat.le_refl _) (by omega) (sta_b k1) (sta_b k2)
      generalize chF s t = C at *
      refine DCall.of Try.func3 sf3 hb3 (Nat.le_of_ble_eq_true rfl) (okRes_nil fun _ => rfl) ?_; simp only [s3, Mv, Sg, Ld, Fa, Xt, Ix, Ln, Cl, Oo, Og, idxs, Nat.reduceAdd]
      repeat' (first
    | (with_reducible first | refine DW.seq ?_ | refine DW.block ?_ | refine DW.skip ?_ | refine DW.exit ?_ | refine DW.ret ?_ | refine DW.reg ?_)
    | (simp (disch := omega) only [go_sem, Nat.reduceLT, Nat.reduceLeDiff, Nat.reduceAdd, Nat.reduceMul, Nat.reduceEqDiff, ↓reduceIte, reduceCtorEq, Nat.reduceBEq, Nat.reduceBNe, Nat.reducePow, Int.reduceLE, Int.reduceLT, Int.reduceNeg, Int.reduceToNat, Int.reduceEq, Int.reduceAdd, Int.reduceSub, Int.reduceMul, Int.reduceBEq, Int.reduceBNe, bm_box, bm_row, bk_box, bk_row, d1, d2, e1, e2, e3])
    | (exact retS_of rfl rfl rfl)
    | (refine DW.cond_tt rfl ?_)
    | (refine call_c (hk) (by decide) ?_)
    | (refine call_c (c1) (by decide) ?_)
    | (refine call_c (c2) (by decide) ?_)
    | (refine call_c (c3) (by decide) ?_)
    | (refine call_c (i1) (by decide) ?_)
    | (refine call_c (i2) (by decide) ?_)
    | (refine call_c (st1) (by decide) ?_)
    | (refine call_c (st2) (by decide) ?_)
    | (refine call_c (c4) (by decide) ?_)
    | (refine DW.cond_ff rfl ?_)
    | (refine DW.cond rfl ?_ ?_ <;> intro hc <;> (try simp only [go_sem] at hc))
    | (refine g_split ?_ ?_ <;> intro hc <;> (try simp only [hc]) <;> (try simp only [go_sem] at hc)))
end Go.Dw.Seat
end
section
set_option linter.unusedSimpArgs false
set_option maxRecDepth 100000
namespace Go.Dw.Seat
open Go Go.Dw Go.Proofs Go.ChangeShapes Go.WideShapes Go.ChangeAt Go.RowKit
theorem tOwn : ownKnob Try.prog.godebug = none := by kernel_rfl
theorem tLaid : laidOutB Try.prog = true := by kernel_rfl
theorem u3 : Try.prog.underlying 3 = some (.int .i64) := by kernel_rfl
theorem u4 : Try.prog.underlying 4 = some .bool := by kernel_rfl
theorem u22 : Try.prog.underlying 22 = some (.slice 3) := by kernel_rfl
theorem u32 : structIs Try.prog 32 [(3, 0), (3, 1)] = true := by kernel_rfl
theorem cl3 : Try.prog.cellsOf 3 = 1 := by kernel_rfl
def e1 (n : Nat) : List C := [.v (.int .u8 n)]
section
variable {H : Type} {enc : TypeId × Value → H} {w : World} {base : Nat} {spare : Nat → Bool} {held : Bool} {fuel : Nat} {cs : List Value} {x : DataW H × List MemPlace}
theorem rd_Ints (h : DataW.trod enc Try.prog w base spare held fuel 22 cs = some x) : ∃ (l : List Int) (v : Value), cs = [v] ∧ RepC w A0 (.sl false 1 (rows eI l)) v ∧ l.length ≤ maxLen := by
  obtain ⟨l, v, e', hr, hm, _⟩ := rd_slice (f := eI) u22 cl3 (by decide) (fun _ => rfl) (fun m cs x h => by
    obtain ⟨n, rfl, _⟩ := rd_int u3 h
    exact ⟨n, _, _, rfl, ⟨rfl, rfl⟩, rfl⟩) h
  exact ⟨l, v, e', hr, hm⟩
def stpsOk (l : List TStp) : Prop := ∀ s ∈ l, s.ws.length ≤ maxLen
structure TBrk where
  plan : List TStp
  at' : Int
  done : Int
def TBrk.ok (x : TBrk) : Prop := x.plan.length ≤ maxLen ∧ stpsOk x.plan
end
end Go.Dw.Seat
end
section
set_option linter.unusedSimpArgs false
set_option maxRecDepth 100000
namespace Go.Dw.Seat
open Go Go.Dw Go.Proofs Go.ChangeShapes Go.WideShapes Go.ChangeAt Go.RowKit
set_option maxHeartbeats 800000 in
theorem trimChangesLifted (os : Os) (started : os.Started) (H : Type) (enc : TypeId × Value → H) :
    ReturnsInHanded {} Try.checked os 3 .any (Ytkhicfkfdmldkaa.Rows.trimChangesSpec.pre6 enc Try.prog Try.f3 Ytkhicfkfdmldkaa.Rows.trimChangesRow.domain false) (Ytkhicfkfdmldkaa.Rows.trimChangesSpec.post enc Try.prog Try.f3 false true false false) := by
  refine returnsInHanded_of_change (C := Try.checked) tOwn started (by kernel_rfl) Try.func3
    (ChangeSpec.witness6 (enc := enc) (C := Try.checked) false ⟨#[], #[.slice none 0 0, .slice none 0 0], []⟩ 8 (by kernel_rfl) (by kernel_rfl) (by kernel_rfl) (by kernel_rfl)) ?_
  intro W base args ds gs before hval0 hW _ _
  have hval : ∀ (j : Nat) t v, Try.f3.params[j]? = some t → args[j]? = some v → Value.okWide Try.prog W .any base t v := hval0
  have hW' : DataW.Whole enc Try.prog Try.f3.params.toList [] false W args.toList ds gs before := hW
  obtain ⟨p, q, hA, hV, rfl, hfz, hnd⟩ := hW
  have hA : DataW.TrodAll enc Try.prog W 0 (fun _ => true) true [22, 22] args.toList ds p := hA
  obtain ⟨rfl, rfl⟩ := trodVars_none hV
  obtain ⟨v0, vs0, d0, ds0, p0, q0, hargs, rfl, rfl, h0, r0⟩ := trodAll_cons hA
  obtain ⟨v1, vs1, d1, ds1, p1, q1, rfl, rfl, rfl, h1, r1⟩ := trodAll_cons r0
  obtain ⟨rfl, rfl, rfl⟩ := trodAll_nil r1
  obtain rfl : args = #[v0, v1] := by cases args; simp_all
  obtain ⟨a0, l0, k0, rfl⟩ := okWide_slice u22 (hval 0 22 v0 rfl rfl)
  obtain ⟨a1, l1, k1, rfl⟩ := okWide_slice u22 (hval 1 22 v1 rfl rfl)
  obtain ⟨fu0, h0⟩ := h0
  obtain ⟨fu1, h1⟩ := h1
  obtain ⟨s0, sv0, e0, hs0, hl0⟩ := rd_Ints h0
  have e0 : sv0 = Value.slice a0 l0 k0 := by simpa [Value.cells] using e0.symm
  subst e0
  obtain ⟨s1, sv1, e1, hs1, hl1⟩ := rd_Ints h1
  have e1 : sv1 = Value.slice a1 l1 k1 := by simpa [Value.cells] using e1.symm
  subst e1
  refine ((laChanges s0 hl0 s1 hl1).calls (W := W) (vs := [.slice a0 l0 k0, .slice a1 l1 k1]) (laid0 W) (fun G => ?_)).mono ?_
  · exact ⟨_, _, rfl, hs0, _, _, rfl, hs1, rfl⟩
  · rintro e W' ⟨v, rfl, ⟨G', A', hr⟩, hb⟩
    obtain ⟨rfl, _⟩ := hr
    exact ⟨_, rfl, post_true tLaid (by decide +kernel) hW' hb rfl rfl u4 rfl rfl rfl⟩
theorem trimChangesHolds : Ytkhicfkfdmldkaa.Rows.trimChangesRow.holds Ytkhicfkfdmldkaa.Try.pinned (OpenSpec.ofChange Ytkhicfkfdmldkaa.Rows.trimChangesSpec) :=
  OpenClaim.holds_of_wide 3 Try.f3 rfl rfl rfl rfl rfl rfl rfl ⟨rfl, rfl, rfl, rfl, rfl⟩ rfl rfl rfl rfl rfl (by kernel_rfl) Try.func3 (by kernel_rfl)
    (of_decide_eq_true (by kernel_rfl)) (by unfold Func.isWrapper; first | (rw [if_pos (by decide +kernel)]; kernel_rfl) | (rw [if_neg (by decide +kernel)]; exact ⟨rfl, rfl⟩))
    (fun os started H enc _ => trimChangesLifted os started H enc)
end Go.Dw.Seat
namespace Go.Proofs.Ytkhicfkfdmldkaa
theorem trimChangesSaid : Rows.TrimChangesSaid := Go.Dw.Seat.trimChangesHolds
end Go.Proofs.Ytkhicfkfdmldkaa
end
