/- The law TrimSheets returns true for every input, and changes nothing that was there before: the full statement TrimSheetsSaid, without conditions. -/
import Derived.Test.YtkhicfkfdmldkaaA02
import Derived.Test.YtkhicfkfdmldkaaRows
import Derived.ProofKit
import Derived.OpenShut
set_option linter.unusedVariables false
set_option linter.unusedSimpArgs false
section
set_option linter.unusedSimpArgs false
set_option maxRecDepth 100000
namespace Go.Dw.Seat
open Go Go.Dw Go.Proofs Go.IntWalk
theorem sameY {R : Bool} {α : Type} {s t : List α} (h : s = t) (hR : R = true) : (R = true ↔ s = t) := by simp [h, hR]
set_option maxHeartbeats 8000000 in
theorem laKnown : DCall Try.prog 15 [] [] (bD true) [] := by
  have p2 := laPaper 200
  have p4 := laPaper 400
  have po := laOrders
  have e2 := ex_open 200 (by decide)
  have e4 := ex_open 400 (by decide)
  have c1 := trPatternsX (exP 200) exO (by decide)
  rw [patsD, if_pos e2, e2, show patsX (exP 200) exO exO.length [] = exA from rfl] at c1
  have c2 := trPlanX (exP 200) exO (by decide)
  rw [planX, if_pos e2, ex_plan] at c2
  dsimp only at c2
  have c3 := trAgainst (exP 200) exO (by decide)
  have a3 : agE (exP 200) exO = 0 := by unfold agE; rw [if_neg (by simpa using e2), ex_plan]; rfl
  have a4 : agD (exP 200) exO = dIs false [1] := by
    rw [agD, a3, if_neg (by decide)]
    have h := ex_ag
    have hne := badsF_ne (p := exP 200) (l := exO) (by decide) ex_plan
    rw [show (2 ^ exO.length) = 8 from rfl] at hne ⊢
    cases hb : badsF (exP 200) exO 8 with
    | nil => exact absurd hb hne
    | cons x t =>
      rw [hb] at h
      dsimp only at h ⊢
      rw [h]
  rw [a3, a4] at c3
  have c4 := trPlanX (exP 400) exO (by decide)
  rw [planX, if_pos e4, ex_plan4] at c4
  dsimp only at c4
  have c5 := trGetX (exP 400) exO (by decide) exQ (by decide)
  rw [ex_get] at c5
  simp only [doesD] at c5
  have c6 := trBound (exP 400) exO (by decide)
  rw [ex_bnd.1, ex_bnd.2] at c6
  have c7 := trKnives true (exP 400) exO (by decide) [2, 1, 0] (by decide)
  rw [knvD, if_pos ex_knv.2, ex_knv.1, ex_knv.2] at c7
  have c8 := trChangeX true true [100, 900, 1700, 2400] [50, 1250, 2450] (by decide) (by decide)
  rw [chgI, if_pos ex_chE, ex_chE, show edI [100, 900, 1700, 2400] [50, 1250, 2450] ([100, 900, 1700, 2400] : List Int).length ([50, 1250, 2450] : List Int).length = 950 from ex_ch] at c8
  have c9 := trSheets 1000 1 10
  rw [ex_sh.1, ex_sh.2] at c9
  have c10 := trChoose true [exP 200, exP 400] (by decide) exO (by decide)
  rw [ex_cho.1, ex_cho.2] at c10
  have s1 := laSetup 2 [0, 0, 2]
  have s2 := laSetup 1 [0, 3, 0]
  have s3 := laSetup 5 [2, 1, 0]
  have i1 := reInts false true [0, 0, 2] [0, 0, 2] (by decide) (by decide)
  have i2 := reInts false true [1] [1] (by decide) (by decide)
  have i3 := reInts false true [10, 8, 4] [10, 8, 4] (by decide) (by decide)
  have i4 := reInts false true [100, 900, 1700, 2400] [100, 900, 1700, 2400] (by decide) (by decide)
  rw [decide_eq_true rfl] at i1 i2 i3 i4
  have i5 := reSame false true exQ exQ (by decide) (by decide) (by decide) (by decide) true (sameY rfl rfl)
  have l1 := laSpan 99 101
  have hl := ex_all
  have h0 := ex_all0
  generalize exA = A at *
  clear e2 e4 a3 a4
  have dl : ((A.length : Int) != 3) = false := by rw [hl]; rfl
  have d0 : decide ((0 : Int) < (A.length : Int)) = true := by rw [hl]; rfl
  refine DCall.of Try.func15 sf15 hb15 (Nat.le_of_ble_eq_true rfl) (okRes_nil fun _ => rfl) ?_; simp only [s15, Mv, Sg, Ld, Fa, Xt, Ix, Ln, Cl, Oo, Og, idxs, Nat.reduceAdd]
  repeat' (first
    | (with_reducible first | refine DW.seq ?_ | refine DW.block ?_ | refine DW.skip ?_ | refine DW.exit ?_ | refine DW.ret ?_ | refine DW.reg ?_)
    | (refine DW.dreg rfl (WF.of ?_) ?_; first | rfl | skip)
    | (simp (disch := omega) only [go_sem, Nat.reduceLT, Nat.reduceLeDiff, Nat.reduceAdd, Nat.reduceMul, Nat.reduceEqDiff, ↓reduceIte, reduceCtorEq, Nat.reduceBEq, Nat.reduceBNe, Nat.reducePow, Int.reduceLE, Int.reduceLT, Int.reduceNeg, Int.reduceToNat, Int.reduceEq, Int.reduceAdd, Int.reduceSub, Int.reduceMul, Int.reduceBEq, Int.reduceBNe, bm_box, bm_row, bk_box, bk_row])
    | (exact retS_of rfl rfl rfl)
    | (refine DW.cond_tt rfl ?_)
    | (refine call_c (p2) (by decide) ?_)
    | (refine call_c (p4) (by decide) ?_)
    | (refine call_c (po) (by decide) ?_)
    | (refine call_c (c1) (by decide) ?_)
    | (refine call_c (c2) (by decide) ?_)
    | (refine call_c (c3) (by decide) ?_)
    | (refine call_c (c4) (by decide) ?_)
    | (refine DW.cond_ff rfl ?_)
    | (refine DW.cond rfl ?_ ?_ <;> intro hc <;> (try simp only [go_sem] at hc))
    | (refine g_split ?_ ?_ <;> intro hc <;> (try simp only [hc]) <;> (try simp only [go_sem] at hc)))
  refine call_rel 52 rfl ?_
  simp (disch := omega) only [go_sem, Nat.reduceLT, Nat.reduceLeDiff, Nat.reduceAdd, Nat.reduceMul, Nat.reduceEqDiff, ↓reduceIte, reduceCtorEq, Nat.reduceBEq, Nat.reduceBNe, Nat.reducePow, Int.reduceLE, Int.reduceLT, Int.reduceNeg, Int.reduceToNat, Int.reduceEq, Int.reduceAdd, Int.reduceSub, Int.reduceMul, Int.reduceBEq, Int.reduceBNe, bm_box, bm_row, bk_box, bk_row]
  refine opsN.c s1 rfl rfl (by decide) ?_
  simp (disch := omega) only [go_sem, Nat.reduceLT, Nat.reduceLeDiff, Nat.reduceAdd, Nat.reduceMul, Nat.reduceEqDiff, ↓reduceIte, reduceCtorEq, Nat.reduceBEq, Nat.reduceBNe, Nat.reducePow, Int.reduceLE, Int.reduceLT, Int.reduceNeg, Int.reduceToNat, Int.reduceEq, Int.reduceAdd, Int.reduceSub, Int.reduceMul, Int.reduceBEq, Int.reduceBNe, bm_box, bm_row, bk_box, bk_row]
  repeat' (first
    | (with_reducible first | refine DW.seq ?_ | refine DW.block ?_ | refine DW.skip ?_ | refine DW.exit ?_ | refine DW.ret ?_ | refine DW.reg ?_)
    | (refine DW.dreg rfl (WF.of ?_) ?_; first | rfl | skip)
    | (simp (disch := omega) only [go_sem, Nat.reduceLT, Nat.reduceLeDiff, Nat.reduceAdd, Nat.reduceMul, Nat.reduceEqDiff, ↓reduceIte, reduceCtorEq, Nat.reduceBEq, Nat.reduceBNe, Nat.reducePow, Int.reduceLE, Int.reduceLT, Int.reduceNeg, Int.reduceToNat, Int.reduceEq, Int.reduceAdd, Int.reduceSub, Int.reduceMul, Int.reduceBEq, Int.reduceBNe, bm_box, bm_row, bk_box, bk_row, dl, d0, h0])
    | (exact retS_of rfl rfl rfl)
    | (refine DW.cond_tt rfl ?_)
    | (refine call_c (p2) (by decide) ?_)
    | (refine call_c (p4) (by decide) ?_)
    | (refine call_c (po) (by decide) ?_)
    | (refine call_c (c6) (by decide) ?_)
    | (refine call_c (c7) (by decide) ?_)
    | (refine call_c (c8) (by decide) ?_)
    | (refine call_c (c9) (by decide) ?_)
    | (refine call_c (c10) (by decide) ?_)
    | (refine call_c (i1) (by decide) ?_)
    | (refine call_c (i2) (by decide) ?_)
    | (refine call_c (i3) (by decide) ?_)
    | (refine call_c (i4) (by decide) ?_)
    | (refine call_c (i5) (by decide) ?_)
    | (refine call_c (l1) (by decide) ?_)
    | (refine DW.cond_ff rfl ?_)
    | (refine DW.cond rfl ?_ ?_ <;> intro hc <;> (try simp only [go_sem] at hc))
    | (refine g_split ?_ ?_ <;> intro hc <;> (try simp only [hc]) <;> (try simp only [go_sem] at hc)))
  refine call_rel 54 rfl ?_
  simp (disch := omega) only [go_sem, Nat.reduceLT, Nat.reduceLeDiff, Nat.reduceAdd, Nat.reduceMul, Nat.reduceEqDiff, ↓reduceIte, reduceCtorEq, Nat.reduceBEq, Nat.reduceBNe, Nat.reducePow, Int.reduceLE, Int.reduceLT, Int.reduceNeg, Int.reduceToNat, Int.reduceEq, Int.reduceAdd, Int.reduceSub, Int.reduceMul, Int.reduceBEq, Int.reduceBNe, bm_box, bm_row, bk_box, bk_row]
  refine opsN.c s2 rfl rfl (by decide) ?_
  simp (disch := omega) only [go_sem, Nat.reduceLT, Nat.reduceLeDiff, Nat.reduceAdd, Nat.reduceMul, Nat.reduceEqDiff, ↓reduceIte, reduceCtorEq, Nat.reduceBEq, Nat.reduceBNe, Nat.reducePow, Int.reduceLE, Int.reduceLT, Int.reduceNeg, Int.reduceToNat, Int.reduceEq, Int.reduceAdd, Int.reduceSub, Int.reduceMul, Int.reduceBEq, Int.reduceBNe, bm_box, bm_row, bk_box, bk_row]
  repeat' (first
    | (with_reducible first | refine DW.seq ?_ | refine DW.block ?_ | refine DW.skip ?_ | refine DW.exit ?_ | refine DW.ret ?_ | refine DW.reg ?_)
    | (refine DW.dreg rfl (WF.of ?_) ?_; first | rfl | skip)
    | (simp (disch := omega) only [go_sem, Nat.reduceLT, Nat.reduceLeDiff, Nat.reduceAdd, Nat.reduceMul, Nat.reduceEqDiff, ↓reduceIte, reduceCtorEq, Nat.reduceBEq, Nat.reduceBNe, Nat.reducePow, Int.reduceLE, Int.reduceLT, Int.reduceNeg, Int.reduceToNat, Int.reduceEq, Int.reduceAdd, Int.reduceSub, Int.reduceMul, Int.reduceBEq, Int.reduceBNe, bm_box, bm_row, bk_box, bk_row, dl, d0, h0])
    | (exact retS_of rfl rfl rfl)
    | (refine DW.cond_tt rfl ?_)
    | (refine call_c (p2) (by decide) ?_)
    | (refine call_c (p4) (by decide) ?_)
    | (refine call_c (po) (by decide) ?_)
    | (refine call_c (c6) (by decide) ?_)
    | (refine call_c (c7) (by decide) ?_)
    | (refine call_c (c8) (by decide) ?_)
    | (refine call_c (c9) (by decide) ?_)
    | (refine call_c (c10) (by decide) ?_)
    | (refine call_c (i1) (by decide) ?_)
    | (refine call_c (i2) (by decide) ?_)
    | (refine call_c (i3) (by decide) ?_)
    | (refine call_c (i4) (by decide) ?_)
    | (refine call_c (i5) (by decide) ?_)
    | (refine call_c (l1) (by decide) ?_)
    | (refine DW.cond_ff rfl ?_)
    | (refine DW.cond rfl ?_ ?_ <;> intro hc <;> (try simp only [go_sem] at hc))
    | (refine g_split ?_ ?_ <;> intro hc <;> (try simp only [hc]) <;> (try simp only [go_sem] at hc)))
  refine call_rel 56 rfl ?_
  simp (disch := omega) only [go_sem, Nat.reduceLT, Nat.reduceLeDiff, Nat.reduceAdd, Nat.reduceMul, Nat.reduceEqDiff, ↓reduceIte, reduceCtorEq, Nat.reduceBEq, Nat.reduceBNe, Nat.reducePow, Int.reduceLE, Int.reduceLT, Int.reduceNeg, Int.reduceToNat, Int.reduceEq, Int.reduceAdd, Int.reduceSub, Int.reduceMul, Int.reduceBEq, Int.reduceBNe, bm_box, bm_row, bk_box, bk_row]
  refine opsN.c s3 rfl rfl (by decide) ?_
  simp (disch := omega) only [go_sem, Nat.reduceLT, Nat.reduceLeDiff, Nat.reduceAdd, Nat.reduceMul, Nat.reduceEqDiff, ↓reduceIte, reduceCtorEq, Nat.reduceBEq, Nat.reduceBNe, Nat.reducePow, Int.reduceLE, Int.reduceLT, Int.reduceNeg, Int.reduceToNat, Int.reduceEq, Int.reduceAdd, Int.reduceSub, Int.reduceMul, Int.reduceBEq, Int.reduceBNe, bm_box, bm_row, bk_box, bk_row]
  repeat' (first
    | (with_reducible first | refine DW.seq ?_ | refine DW.block ?_ | refine DW.skip ?_ | refine DW.exit ?_ | refine DW.ret ?_ | refine DW.reg ?_)
    | (refine DW.dreg rfl (WF.of ?_) ?_; first | rfl | skip)
    | (simp (disch := omega) only [go_sem, Nat.reduceLT, Nat.reduceLeDiff, Nat.reduceAdd, Nat.reduceMul, Nat.reduceEqDiff, ↓reduceIte, reduceCtorEq, Nat.reduceBEq, Nat.reduceBNe, Nat.reducePow, Int.reduceLE, Int.reduceLT, Int.reduceNeg, Int.reduceToNat, Int.reduceEq, Int.reduceAdd, Int.reduceSub, Int.reduceMul, Int.reduceBEq, Int.reduceBNe, bm_box, bm_row, bk_box, bk_row, dl, d0, h0])
    | (exact retS_of rfl rfl rfl)
    | (refine DW.cond_tt rfl ?_)
    | (refine call_c (p2) (by decide) ?_)
    | (refine call_c (p4) (by decide) ?_)
    | (refine call_c (po) (by decide) ?_)
    | (refine call_c (c6) (by decide) ?_)
    | (refine call_c (c7) (by decide) ?_)
    | (refine call_c (c8) (by decide) ?_)
    | (refine call_c (c9) (by decide) ?_)
    | (refine call_c (c10) (by decide) ?_)
    | (refine call_c (i1) (by decide) ?_)
    | (refine call_c (i2) (by decide) ?_)
    | (refine call_c (i3) (by decide) ?_)
    | (refine call_c (i4) (by decide) ?_)
    | (refine call_c (i5) (by decide) ?_)
    | (refine call_c (l1) (by decide) ?_)
    | (refine DW.cond_ff rfl ?_)
    | (refine DW.cond rfl ?_ ?_ <;> intro hc <;> (try simp only [go_sem] at hc))
    | (refine g_split ?_ ?_ <;> intro hc <;> (try simp only [hc]) <;> (try simp only [go_sem] at hc)))
  refine call_rel 58 rfl ?_
  simp (disch := omega) only [go_sem, Nat.reduceLT, Nat.reduceLeDiff, Nat.reduceAdd, Nat.reduceMul, Nat.reduceEqDiff, ↓reduceIte, reduceCtorEq, Nat.reduceBEq, Nat.reduceBNe, Nat.reducePow, Int.reduceLE, Int.reduceLT, Int.reduceNeg, Int.reduceToNat, Int.reduceEq, Int.reduceAdd, Int.reduceSub, Int.reduceMul, Int.reduceBEq, Int.reduceBNe, bm_box, bm_row, bk_box, bk_row]
  refine opsN.c c5 rfl rfl (by decide) ?_
  simp (disch := omega) only [go_sem, Nat.reduceLT, Nat.reduceLeDiff, Nat.reduceAdd, Nat.reduceMul, Nat.reduceEqDiff, ↓reduceIte, reduceCtorEq, Nat.reduceBEq, Nat.reduceBNe, Nat.reducePow, Int.reduceLE, Int.reduceLT, Int.reduceNeg, Int.reduceToNat, Int.reduceEq, Int.reduceAdd, Int.reduceSub, Int.reduceMul, Int.reduceBEq, Int.reduceBNe, bm_box, bm_row, bk_box, bk_row]
  repeat' (first
    | (with_reducible first | refine DW.seq ?_ | refine DW.block ?_ | refine DW.skip ?_ | refine DW.exit ?_ | refine DW.ret ?_ | refine DW.reg ?_)
    | (refine DW.dreg rfl (WF.of ?_) ?_; first | rfl | skip)
    | (simp (disch := omega) only [go_sem, Nat.reduceLT, Nat.reduceLeDiff, Nat.reduceAdd, Nat.reduceMul, Nat.reduceEqDiff, ↓reduceIte, reduceCtorEq, Nat.reduceBEq, Nat.reduceBNe, Nat.reducePow, Int.reduceLE, Int.reduceLT, Int.reduceNeg, Int.reduceToNat, Int.reduceEq, Int.reduceAdd, Int.reduceSub, Int.reduceMul, Int.reduceBEq, Int.reduceBNe, bm_box, bm_row, bk_box, bk_row, dl, d0, h0])
    | (exact retS_of rfl rfl rfl)
    | (refine DW.cond_tt rfl ?_)
    | (refine call_c (p2) (by decide) ?_)
    | (refine call_c (p4) (by decide) ?_)
    | (refine call_c (po) (by decide) ?_)
    | (refine call_c (c6) (by decide) ?_)
    | (refine call_c (c7) (by decide) ?_)
    | (refine call_c (c8) (by decide) ?_)
    | (refine call_c (c9) (by decide) ?_)
    | (refine call_c (c10) (by decide) ?_)
    | (refine call_c (i1) (by decide) ?_)
    | (refine call_c (i2) (by decide) ?_)
    | (refine call_c (i3) (by decide) ?_)
    | (refine call_c (i4) (by decide) ?_)
    | (refine call_c (i5) (by decide) ?_)
    | (refine call_c (l1) (by decide) ?_)
    | (refine DW.cond_ff rfl ?_)
    | (refine DW.cond rfl ?_ ?_ <;> intro hc <;> (try simp only [go_sem] at hc))
    | (refine g_split ?_ ?_ <;> intro hc <;> (try simp only [hc]) <;> (try simp only [go_sem] at hc)))
  refine call_rel 154 rfl ?_
  simp (disch := omega) only [go_sem, Nat.reduceLT, Nat.reduceLeDiff, Nat.reduceAdd, Nat.reduceMul, Nat.reduceEqDiff, ↓reduceIte, reduceCtorEq, Nat.reduceBEq, Nat.reduceBNe, Nat.reducePow, Int.reduceLE, Int.reduceLT, Int.reduceNeg, Int.reduceToNat, Int.reduceEq, Int.reduceAdd, Int.reduceSub, Int.reduceMul, Int.reduceBEq, Int.reduceBNe, bm_box, bm_row, bk_box, bk_row]
  refine opsN.c s1 rfl rfl (by decide) ?_
  simp (disch := omega) only [go_sem, Nat.reduceLT, Nat.reduceLeDiff, Nat.reduceAdd, Nat.reduceMul, Nat.reduceEqDiff, ↓reduceIte, reduceCtorEq, Nat.reduceBEq, Nat.reduceBNe, Nat.reducePow, Int.reduceLE, Int.reduceLT, Int.reduceNeg, Int.reduceToNat, Int.reduceEq, Int.reduceAdd, Int.reduceSub, Int.reduceMul, Int.reduceBEq, Int.reduceBNe, bm_box, bm_row, bk_box, bk_row]
  repeat' (first
    | (with_reducible first | refine DW.seq ?_ | refine DW.block ?_ | refine DW.skip ?_ | refine DW.exit ?_ | refine DW.ret ?_ | refine DW.reg ?_)
    | (refine DW.dreg rfl (WF.of ?_) ?_; first | rfl | skip)
    | (simp (disch := omega) only [go_sem, Nat.reduceLT, Nat.reduceLeDiff, Nat.reduceAdd, Nat.reduceMul, Nat.reduceEqDiff, ↓reduceIte, reduceCtorEq, Nat.reduceBEq, Nat.reduceBNe, Nat.reducePow, Int.reduceLE, Int.reduceLT, Int.reduceNeg, Int.reduceToNat, Int.reduceEq, Int.reduceAdd, Int.reduceSub, Int.reduceMul, Int.reduceBEq, Int.reduceBNe, bm_box, bm_row, bk_box, bk_row, dl, d0, h0])
    | (exact retS_of rfl rfl rfl)
    | (refine DW.cond_tt rfl ?_)
    | (refine call_c (p2) (by decide) ?_)
    | (refine call_c (p4) (by decide) ?_)
    | (refine call_c (po) (by decide) ?_)
    | (refine call_c (c6) (by decide) ?_)
    | (refine call_c (c7) (by decide) ?_)
    | (refine call_c (c8) (by decide) ?_)
    | (refine call_c (c9) (by decide) ?_)
    | (refine call_c (c10) (by decide) ?_)
    | (refine call_c (i1) (by decide) ?_)
    | (refine call_c (i2) (by decide) ?_)
    | (refine call_c (i3) (by decide) ?_)
    | (refine call_c (i4) (by decide) ?_)
    | (refine call_c (i5) (by decide) ?_)
    | (refine call_c (l1) (by decide) ?_)
    | (refine DW.cond_ff rfl ?_)
    | (refine DW.cond rfl ?_ ?_ <;> intro hc <;> (try simp only [go_sem] at hc))
    | (refine g_split ?_ ?_ <;> intro hc <;> (try simp only [hc]) <;> (try simp only [go_sem] at hc)))
  refine call_rel 156 rfl ?_
  simp (disch := omega) only [go_sem, Nat.reduceLT, Nat.reduceLeDiff, Nat.reduceAdd, Nat.reduceMul, Nat.reduceEqDiff, ↓reduceIte, reduceCtorEq, Nat.reduceBEq, Nat.reduceBNe, Nat.reducePow, Int.reduceLE, Int.reduceLT, Int.reduceNeg, Int.reduceToNat, Int.reduceEq, Int.reduceAdd, Int.reduceSub, Int.reduceMul, Int.reduceBEq, Int.reduceBNe, bm_box, bm_row, bk_box, bk_row]
  refine opsN.c s2 rfl rfl (by decide) ?_
  simp (disch := omega) only [go_sem, Nat.reduceLT, Nat.reduceLeDiff, Nat.reduceAdd, Nat.reduceMul, Nat.reduceEqDiff, ↓reduceIte, reduceCtorEq, Nat.reduceBEq, Nat.reduceBNe, Nat.reducePow, Int.reduceLE, Int.reduceLT, Int.reduceNeg, Int.reduceToNat, Int.reduceEq, Int.reduceAdd, Int.reduceSub, Int.reduceMul, Int.reduceBEq, Int.reduceBNe, bm_box, bm_row, bk_box, bk_row]
  repeat' (first
    | (with_reducible first | refine DW.seq ?_ | refine DW.block ?_ | refine DW.skip ?_ | refine DW.exit ?_ | refine DW.ret ?_ | refine DW.reg ?_)
    | (refine DW.dreg rfl (WF.of ?_) ?_; first | rfl | skip)
    | (simp (disch := omega) only [go_sem, Nat.reduceLT, Nat.reduceLeDiff, Nat.reduceAdd, Nat.reduceMul, Nat.reduceEqDiff, ↓reduceIte, reduceCtorEq, Nat.reduceBEq, Nat.reduceBNe, Nat.reducePow, Int.reduceLE, Int.reduceLT, Int.reduceNeg, Int.reduceToNat, Int.reduceEq, Int.reduceAdd, Int.reduceSub, Int.reduceMul, Int.reduceBEq, Int.reduceBNe, bm_box, bm_row, bk_box, bk_row, dl, d0, h0])
    | (exact retS_of rfl rfl rfl)
    | (refine DW.cond_tt rfl ?_)
    | (refine call_c (p2) (by decide) ?_)
    | (refine call_c (p4) (by decide) ?_)
    | (refine call_c (po) (by decide) ?_)
    | (refine call_c (c6) (by decide) ?_)
    | (refine call_c (c7) (by decide) ?_)
    | (refine call_c (c8) (by decide) ?_)
    | (refine call_c (c9) (by decide) ?_)
    | (refine call_c (c10) (by decide) ?_)
    | (refine call_c (i1) (by decide) ?_)
    | (refine call_c (i2) (by decide) ?_)
    | (refine call_c (i3) (by decide) ?_)
    | (refine call_c (i4) (by decide) ?_)
    | (refine call_c (i5) (by decide) ?_)
    | (refine call_c (l1) (by decide) ?_)
    | (refine DW.cond_ff rfl ?_)
    | (refine DW.cond rfl ?_ ?_ <;> intro hc <;> (try simp only [go_sem] at hc))
    | (refine g_split ?_ ?_ <;> intro hc <;> (try simp only [hc]) <;> (try simp only [go_sem] at hc)))
  refine call_rel 158 rfl ?_
  simp (disch := omega) only [go_sem, Nat.reduceLT, Nat.reduceLeDiff, Nat.reduceAdd, Nat.reduceMul, Nat.reduceEqDiff, ↓reduceIte, reduceCtorEq, Nat.reduceBEq, Nat.reduceBNe, Nat.reducePow, Int.reduceLE, Int.reduceLT, Int.reduceNeg, Int.reduceToNat, Int.reduceEq, Int.reduceAdd, Int.reduceSub, Int.reduceMul, Int.reduceBEq, Int.reduceBNe, bm_box, bm_row, bk_box, bk_row]
  refine opsN.c s3 rfl rfl (by decide) ?_
  simp (disch := omega) only [go_sem, Nat.reduceLT, Nat.reduceLeDiff, Nat.reduceAdd, Nat.reduceMul, Nat.reduceEqDiff, ↓reduceIte, reduceCtorEq, Nat.reduceBEq, Nat.reduceBNe, Nat.reducePow, Int.reduceLE, Int.reduceLT, Int.reduceNeg, Int.reduceToNat, Int.reduceEq, Int.reduceAdd, Int.reduceSub, Int.reduceMul, Int.reduceBEq, Int.reduceBNe, bm_box, bm_row, bk_box, bk_row]
  repeat' (first
    | (with_reducible first | refine DW.seq ?_ | refine DW.block ?_ | refine DW.skip ?_ | refine DW.exit ?_ | refine DW.ret ?_ | refine DW.reg ?_)
    | (refine DW.dreg rfl (WF.of ?_) ?_; first | rfl | skip)
    | (simp (disch := omega) only [go_sem, Nat.reduceLT, Nat.reduceLeDiff, Nat.reduceAdd, Nat.reduceMul, Nat.reduceEqDiff, ↓reduceIte, reduceCtorEq, Nat.reduceBEq, Nat.reduceBNe, Nat.reducePow, Int.reduceLE, Int.reduceLT, Int.reduceNeg, Int.reduceToNat, Int.reduceEq, Int.reduceAdd, Int.reduceSub, Int.reduceMul, Int.reduceBEq, Int.reduceBNe, bm_box, bm_row, bk_box, bk_row, dl, d0, h0])
    | (exact retS_of rfl rfl rfl)
    | (refine DW.cond_tt rfl ?_)
    | (refine call_c (p2) (by decide) ?_)
    | (refine call_c (p4) (by decide) ?_)
    | (refine call_c (po) (by decide) ?_)
    | (refine call_c (c6) (by decide) ?_)
    | (refine call_c (c7) (by decide) ?_)
    | (refine call_c (c8) (by decide) ?_)
    | (refine call_c (c9) (by decide) ?_)
    | (refine call_c (c10) (by decide) ?_)
    | (refine call_c (i1) (by decide) ?_)
    | (refine call_c (i2) (by decide) ?_)
    | (refine call_c (i3) (by decide) ?_)
    | (refine call_c (i4) (by decide) ?_)
    | (refine call_c (i5) (by decide) ?_)
    | (refine call_c (l1) (by decide) ?_)
    | (refine DW.cond_ff rfl ?_)
    | (refine DW.cond rfl ?_ ?_ <;> intro hc <;> (try simp only [go_sem] at hc))
    | (refine g_split ?_ ?_ <;> intro hc <;> (try simp only [hc]) <;> (try simp only [go_sem] at hc)))
end Go.Dw.Seat
end
section
set_option linter.unusedSimpArgs false
set_option maxRecDepth 100000
namespace Go.Dw.Seat
open Go Go.Dw Go.Proofs Go.IntWalk
def shtF (m n : Int) : Int := Int.tdiv (m * 100000) n
theorem shtF_anti {m a b : Int} (hm : 0 ≤ m) (ha : 1 ≤ a) (hab : a ≤ b) : shtF m b ≤ shtF m a := by
  unfold shtF
  rw [Int.tdiv_eq_ediv_of_nonneg (by omega), Int.tdiv_eq_ediv_of_nonneg (by omega)]
  have h0 : 0 ≤ m * 100000 / b := Int.ediv_nonneg (by omega) (by omega)
  rw [Int.le_ediv_iff_mul_le (by omega)]
  have h1 : m * 100000 / b * b ≤ m * 100000 := Int.ediv_mul_le _ (by omega)
  have h2 : m * 100000 / b * a ≤ m * 100000 / b * b := Int.mul_le_mul_of_nonneg_left hab h0
  omega
theorem shtF_b {m n : Int} (hm : 0 ≤ m ∧ m ≤ 30) (hn : 1 ≤ n) : 0 ≤ shtF m n ∧ shtF m n ≤ 3000000 := by
  unfold shtF
  rw [Int.tdiv_eq_ediv_of_nonneg (by omega)]
  exact ⟨Int.ediv_nonneg (by omega) (by omega), Int.le_trans (Int.ediv_le_self _ (by omega)) (by omega)⟩
set_option maxHeartbeats 4000000 in
theorem laSheets (x m o : Int) : DCall Try.prog 8 [dI x, dI m, dI o] [] (bD true) [] := by
  have hk := laKnown
  have h0 := trSheets x m o
  have i1 := reIn x 100 5000
  have i2 := reIn m 0 30
  have i3 := reIn o 0 20
  rw [inI_w] at i1 i2 i3
  cases e1 : wthn 100 5000 [x] <;> rw [e1] at i1
  · have hE : sheetsE x m o = 2 := if_pos e1
    rw [sheetsI, hE, if_neg (by decide)] at h0
    refine DCall.of Try.func8 sf8 hb8 (Nat.le_of_ble_eq_true rfl) (okRes_nil fun _ => rfl) ?_; simp only [s8, Mv, Sg, Ld, Fa, Xt, Ix, Ln, Cl, Oo, Og, idxs, Nat.reduceAdd]
    repeat' (first
    | (with_reducible first | refine DW.seq ?_ | refine DW.block ?_ | refine DW.skip ?_ | refine DW.exit ?_ | refine DW.ret ?_ | refine DW.reg ?_)
    | (refine DW.dreg rfl (WF.of ?_) ?_; first | rfl | skip)
    | (simp (disch := omega) only [go_sem, Nat.reduceLT, Nat.reduceLeDiff, Nat.reduceAdd, Nat.reduceMul, Nat.reduceEqDiff, ↓reduceIte, reduceCtorEq, Nat.reduceBEq, Nat.reduceBNe, Nat.reducePow, Int.reduceLE, Int.reduceLT, Int.reduceNeg, Int.reduceToNat, Int.reduceEq, Int.reduceAdd, Int.reduceSub, Int.reduceMul, Int.reduceBEq, Int.reduceBNe, Blk.men, Blk.keysIn])
    | (exact retS_of rfl rfl rfl)
    | (refine DW.cond_tt rfl ?_)
    | (refine call_c (h0) (by decide) ?_)
    | (refine call_c (i1) (by decide) ?_)
    | (refine call_c (hk) (by decide) ?_)
    | (refine DW.cond_ff rfl ?_)
    | (refine DW.cond rfl ?_ ?_ <;> intro hc <;> (try simp only [go_sem] at hc))
    | (refine g_split ?_ ?_ <;> intro hc <;> (try simp only [hc]) <;> (try simp only [go_sem] at hc)))
  cases e2 : wthn 0 30 [m] <;> rw [e2] at i2
  · have hE : sheetsE x m o = 3 := by unfold sheetsE; rw [e1, e2]; rfl
    rw [sheetsI, hE, if_neg (by decide)] at h0
    refine DCall.of Try.func8 sf8 hb8 (Nat.le_of_ble_eq_true rfl) (okRes_nil fun _ => rfl) ?_; simp only [s8, Mv, Sg, Ld, Fa, Xt, Ix, Ln, Cl, Oo, Og, idxs, Nat.reduceAdd]
    repeat' (first
    | (with_reducible first | refine DW.seq ?_ | refine DW.block ?_ | refine DW.skip ?_ | refine DW.exit ?_ | refine DW.ret ?_ | refine DW.reg ?_)
    | (refine DW.dreg rfl (WF.of ?_) ?_; first | rfl | skip)
    | (simp (disch := omega) only [go_sem, Nat.reduceLT, Nat.reduceLeDiff, Nat.reduceAdd, Nat.reduceMul, Nat.reduceEqDiff, ↓reduceIte, reduceCtorEq, Nat.reduceBEq, Nat.reduceBNe, Nat.reducePow, Int.reduceLE, Int.reduceLT, Int.reduceNeg, Int.reduceToNat, Int.reduceEq, Int.reduceAdd, Int.reduceSub, Int.reduceMul, Int.reduceBEq, Int.reduceBNe, Blk.men, Blk.keysIn])
    | (exact retS_of rfl rfl rfl)
    | (refine DW.cond_tt rfl ?_)
    | (refine call_c (h0) (by decide) ?_)
    | (refine call_c (i1) (by decide) ?_)
    | (refine call_c (i2) (by decide) ?_)
    | (refine call_c (hk) (by decide) ?_)
    | (refine DW.cond_ff rfl ?_)
    | (refine DW.cond rfl ?_ ?_ <;> intro hc <;> (try simp only [go_sem] at hc))
    | (refine g_split ?_ ?_ <;> intro hc <;> (try simp only [hc]) <;> (try simp only [go_sem] at hc)))
  cases e3 : wthn 0 20 [o] <;> rw [e3] at i3
  · have hE : sheetsE x m o = 3 := by unfold sheetsE; rw [e1, e2, e3]; rfl
    rw [sheetsI, hE, if_neg (by decide)] at h0
    refine DCall.of Try.func8 sf8 hb8 (Nat.le_of_ble_eq_true rfl) (okRes_nil fun _ => rfl) ?_; simp only [s8, Mv, Sg, Ld, Fa, Xt, Ix, Ln, Cl, Oo, Og, idxs, Nat.reduceAdd]
    repeat' (first
    | (with_reducible first | refine DW.seq ?_ | refine DW.block ?_ | refine DW.skip ?_ | refine DW.exit ?_ | refine DW.ret ?_ | refine DW.reg ?_)
    | (refine DW.dreg rfl (WF.of ?_) ?_; first | rfl | skip)
    | (simp (disch := omega) only [go_sem, Nat.reduceLT, Nat.reduceLeDiff, Nat.reduceAdd, Nat.reduceMul, Nat.reduceEqDiff, ↓reduceIte, reduceCtorEq, Nat.reduceBEq, Nat.reduceBNe, Nat.reducePow, Int.reduceLE, Int.reduceLT, Int.reduceNeg, Int.reduceToNat, Int.reduceEq, Int.reduceAdd, Int.reduceSub, Int.reduceMul, Int.reduceBEq, Int.reduceBNe, Blk.men, Blk.keysIn])
    | (exact retS_of rfl rfl rfl)
    | (refine DW.cond_tt rfl ?_)
    | (refine call_c (h0) (by decide) ?_)
    | (refine call_c (i1) (by decide) ?_)
    | (refine call_c (i2) (by decide) ?_)
    | (refine call_c (i3) (by decide) ?_)
    | (refine call_c (hk) (by decide) ?_)
    | (refine DW.cond_ff rfl ?_)
    | (refine DW.cond rfl ?_ ?_ <;> intro hc <;> (try simp only [go_sem] at hc))
    | (refine g_split ?_ ?_ <;> intro hc <;> (try simp only [hc]) <;> (try simp only [go_sem] at hc)))
  have hE : sheetsE x m o = 0 := by unfold sheetsE; rw [e1, e2, e3]; rfl
  rw [sheetsI, hE, if_pos rfl] at h0
  have b1 := wthn_one e1
  have b2 := wthn_one e2
  have b3 := wthn_one e3
  have l1 := laSpan (shtF m (x + o)) (shtF m (x - o))
  have hb1 := shtF_b b2 (n := x + o) (by omega)
  have hb2 := shtF_b b2 (n := x - o) (by omega)
  have hE1 : Int.tdiv (m * 100000) (x + o) = shtF m (x + o) := rfl
  have hE2 : Int.tdiv (m * 100000) (x - o) = shtF m (x - o) := rfl
  rw [hE1, hE2] at h0
  obtain ⟨B, hB⟩ : ∃ B, B = shtF m (x - o) := ⟨_, rfl⟩
  obtain ⟨A, hA⟩ : ∃ A, A = shtF m (x + o) := ⟨_, rfl⟩
  rw [← hA, ← hB] at h0 l1
  refine DCall.of Try.func8 sf8 hb8 (Nat.le_of_ble_eq_true rfl) (okRes_nil fun _ => rfl) ?_; simp only [s8, Mv, Sg, Ld, Fa, Xt, Ix, Ln, Cl, Oo, Og, idxs, Nat.reduceAdd]
  repeat' (first
    | (with_reducible first | refine DW.seq ?_ | refine DW.block ?_ | refine DW.skip ?_ | refine DW.exit ?_ | refine DW.ret ?_ | refine DW.reg ?_)
    | (refine DW.dreg rfl (WF.of ?_) ?_; first | rfl | skip)
    | (simp (disch := omega) only [go_sem, Nat.reduceLT, Nat.reduceLeDiff, Nat.reduceAdd, Nat.reduceMul, Nat.reduceEqDiff, ↓reduceIte, reduceCtorEq, Nat.reduceBEq, Nat.reduceBNe, Nat.reducePow, Int.reduceLE, Int.reduceLT, Int.reduceNeg, Int.reduceToNat, Int.reduceEq, Int.reduceAdd, Int.reduceSub, Int.reduceMul, Int.reduceBEq, Int.reduceBNe, Blk.men, Blk.keysIn])
    | (exact retS_of rfl rfl rfl)
    | (refine DW.cond_tt rfl ?_)
    | (refine call_c (h0) (by decide) ?_)
    | (refine call_c (i1) (by decide) ?_)
    | (refine call_c (i2) (by decide) ?_)
    | (refine call_c (i3) (by decide) ?_)
    | (refine DW.cond_ff rfl ?_)
    | (refine DW.cond rfl ?_ ?_ <;> intro hc <;> (try simp only [go_sem] at hc))
    | (refine g_split ?_ ?_ <;> intro hc <;> (try simp only [hc]) <;> (try simp only [go_sem] at hc)))
  refine DW.loop (ι := { y : Nat × Int × Int // (y.1 : Int) ≤ 2 * o + 1 ∧ y.2.1 = (if y.1 = 0 then 1099511627776 else shtF m (x - o + y.1 - 1)) ∧ y.2.2 = (if y.1 = 0 then -1 else B) }) (fun y => ⟨78, [(12, dI (x - o + (y.1.1 : Int))), (11, dI y.1.2.2), (10, dI y.1.2.1), (8, dI 0), (7, .box 7 0), (0, dI x), (1, dI m), (2, dI o)], [(7, .box [dI A, dI B])]⟩) (fun y => (2 * o + 1 - y.1.1).toNat) ⟨(0, 1099511627776, -1), by simp; omega, rfl, rfl⟩ ?_ ?_
  · refine Ent.to ?_ ?_ <;> simp (disch := omega) only [wkT_cons, wkX_cons, wkT_nil, wkX_nil, get, Nat.reduceEqDiff, ↓reduceIte, ex_some, wk_self, wk_top, wk_nil, wkB_self, and_self, dI, i64_in, and_true, true_and, Int.natCast_add, Int.natCast_one, Int.ofNat_zero, Int.natCast_zero, Int.add_zero]
    all_goals first | exact ⟨.refl _, .refl _⟩ | exact .refl _
  rintro ⟨⟨n, u, v⟩, hn, hu, hv⟩
  dsimp only at hn hu hv ⊢
  have hxn : 80 ≤ x - o + (n : Int) ∧ x - o + (n : Int) ≤ 10000 := by omega
  have hs := reSheets (x - o + n) m (by omega) b2
  have hfb := shtF_b b2 (n := x - o + n) (by omega)
  have hsE : Int.tdiv (m * 100000) (x - o + n) = shtF m (x - o + n) := rfl
  rw [hsE] at hs
  have hle : shtF m (x - o + n) ≤ B := by rw [hB]; exact shtF_anti b2.1 (by omega) (by omega)
  have hub : 0 ≤ u ∧ u ≤ 1099511627776 := by
    rw [hu]
    split
    · omega
    · have := shtF_b b2 (n := x - o + n - 1) (by omega)
      omega
  by_cases hc : (n : Int) ≤ 2 * o
  · have hd : decide (x - o + (n : Int) ≤ x + o) = true := decide_eq_true (by omega)
    have hmin : (if shtF m (x - o + n) < u then shtF m (x - o + n) else u) = shtF m (x - o + n) := by
      rw [hu]
      rcases Nat.eq_zero_or_pos n with e | e
      · subst e
        rw [if_pos (show (0 : Nat) = 0 from rfl), if_pos (by omega)]
      · rw [if_neg (show ¬ n = 0 by omega)]
        have := shtF_anti (m := m) (a := x - o + n - 1) (b := x - o + n) b2.1 (by omega) (by omega)
        split <;> omega
    have hmax : (if v < shtF m (x - o + n) then shtF m (x - o + n) else v) = B := by
      rw [hv]
      rcases Nat.eq_zero_or_pos n with e | e
      · subst e
        rw [if_pos (show (0 : Nat) = 0 from rfl), if_pos (by omega), hB]
        congr 1; omega
      · rw [if_neg (show ¬ n = 0 by omega)]
        split <;> omega
    have hnx : shtF m (x - o + n) = (if n + 1 = 0 then 1099511627776 else shtF m (x - o + ((n + 1 : Nat) : Int) - 1)) := by
      rw [if_neg (by omega)]
      congr 1; omega
    have hnv : B = (if n + 1 = 0 then -1 else B) := by rw [if_neg (by omega)]
    have hn1 : x - o + (n : Int) + 1 = x - o + ((n : Int) + 1) := by omega
    generalize shtF m (x - o + n) = F at *
    repeat' (first
    | (with_reducible first | refine DW.seq ?_ | refine DW.block ?_ | refine DW.skip ?_ | refine DW.exit ?_ | refine DW.ret ?_ | refine DW.reg ?_)
    | (refine DW.dreg rfl (WF.of ?_) ?_; first | rfl | skip)
    | (simp (disch := omega) only [go_sem, Nat.reduceLT, Nat.reduceLeDiff, Nat.reduceAdd, Nat.reduceMul, Nat.reduceEqDiff, ↓reduceIte, reduceCtorEq, Nat.reduceBEq, Nat.reduceBNe, Nat.reducePow, Int.reduceLE, Int.reduceLT, Int.reduceNeg, Int.reduceToNat, Int.reduceEq, Int.reduceAdd, Int.reduceSub, Int.reduceMul, Int.reduceBEq, Int.reduceBNe, Blk.men, Blk.keysIn, hd, hmin, hmax])
    | (exact retS_of rfl rfl rfl)
    | (refine DW.cond_tt rfl ?_)
    | (refine call_c (hs) (by decide) ?_)
    | (refine DW.cond_ff rfl ?_)
    | (refine DW.cond rfl ?_ ?_ <;> intro hc <;> (try simp only [go_sem] at hc))
    | (refine g_split ?_ ?_ <;> intro hc <;> (try simp only [hc]) <;> (try simp only [go_sem] at hc)))
    refine ⟨⟨(n + 1, F, B), by dsimp only; omega, hnx, hnv⟩, ?_, Ent.to ?_ ?_⟩ <;> first | (show _ < _; (try simp only); omega) | (simp (disch := omega) only [wkT_cons, wkX_cons, wkT_nil, wkX_nil, get, Nat.reduceEqDiff, ↓reduceIte, ex_some, wk_self, wk_top, wk_nil, wkB_self, and_self, dI, i64_in, and_true, true_and, Int.natCast_add, Int.natCast_one, Int.ofNat_zero, Int.natCast_zero,  hn1])
    all_goals first | exact ⟨.refl _, .refl _⟩ | exact .refl _ | skip
  · have hd : decide (x - o + (n : Int) ≤ x + o) = false := decide_eq_false (by omega)
    have hue : u = A := by
      rw [hu, if_neg (show ¬ n = 0 by omega), hA]
      congr 1; omega
    have hve : v = B := by rw [hv, if_neg (show ¬ n = 0 by omega)]
    rw [← hue, ← hve] at l1
    have q1 : (A == u && B == v) = true := by rw [hue, hve]; simp
    repeat' (first
    | (with_reducible first | refine DW.seq ?_ | refine DW.block ?_ | refine DW.skip ?_ | refine DW.exit ?_ | refine DW.ret ?_ | refine DW.reg ?_)
    | (refine DW.dreg rfl (WF.of ?_) ?_; first | rfl | skip)
    | (simp (disch := omega) only [go_sem, Nat.reduceLT, Nat.reduceLeDiff, Nat.reduceAdd, Nat.reduceMul, Nat.reduceEqDiff, ↓reduceIte, reduceCtorEq, Nat.reduceBEq, Nat.reduceBNe, Nat.reducePow, Int.reduceLE, Int.reduceLT, Int.reduceNeg, Int.reduceToNat, Int.reduceEq, Int.reduceAdd, Int.reduceSub, Int.reduceMul, Int.reduceBEq, Int.reduceBNe, Blk.men, Blk.keysIn, hd, q1])
    | (exact retS_of rfl rfl rfl)
    | (refine DW.cond_tt rfl ?_)
    | (refine call_c (l1) (by decide) ?_)
    | (refine call_c (hk) (by decide) ?_)
    | (refine DW.cond_ff rfl ?_)
    | (refine DW.cond rfl ?_ ?_ <;> intro hc <;> (try simp only [go_sem] at hc))
    | (refine g_split ?_ ?_ <;> intro hc <;> (try simp only [hc]) <;> (try simp only [go_sem] at hc)))
end Go.Dw.Seat
end
section
set_option linter.unusedSimpArgs false
set_option maxRecDepth 100000
namespace Go.Dw.Seat
open Go Go.Dw Go.Proofs Go.ChangeShapes Go.WideShapes Go.ChangeAt Go.RowKit
theorem tOwn : ownKnob Try.prog.godebug = none := by kernel_rfl
theorem tLaid : laidOutB Try.prog = true := by kernel_rfl
theorem u3 : Try.prog.underlying 3 = some (.int .i64) := by kernel_rfl
theorem u4 : Try.prog.underlying 4 = some .bool := by kernel_rfl
theorem u32 : structIs Try.prog 32 [(3, 0), (3, 1)] = true := by kernel_rfl
def e1 (n : Nat) : List C := [.v (.int .u8 n)]
section
variable {H : Type} {enc : TypeId × Value → H} {w : World} {base : Nat} {spare : Nat → Bool} {held : Bool} {fuel : Nat} {cs : List Value} {x : DataW H × List MemPlace}
def stpsOk (l : List TStp) : Prop := ∀ s ∈ l, s.ws.length ≤ maxLen
structure TBrk where
  plan : List TStp
  at' : Int
  done : Int
def TBrk.ok (x : TBrk) : Prop := x.plan.length ≤ maxLen ∧ stpsOk x.plan
end
end Go.Dw.Seat
end
section
set_option linter.unusedSimpArgs false
set_option maxRecDepth 100000
namespace Go.Dw.Seat
open Go Go.Dw Go.Proofs Go.ChangeShapes Go.WideShapes Go.ChangeAt Go.RowKit
set_option maxHeartbeats 800000 in
theorem trimSheetsLifted (os : Os) (started : os.Started) (H : Type) (enc : TypeId × Value → H) :
    ReturnsInHanded {} Try.checked os 8 .any (Ytkhicfkfdmldkaa.Rows.trimSheetsSpec.pre6 enc Try.prog Try.f8 Ytkhicfkfdmldkaa.Rows.trimSheetsRow.domain false) (Ytkhicfkfdmldkaa.Rows.trimSheetsSpec.post enc Try.prog Try.f8 false true false false) := by
  refine returnsInHanded_of_change (C := Try.checked) tOwn started (by kernel_rfl) Try.func8
    (ChangeSpec.witness6 (enc := enc) (C := Try.checked) false ⟨#[], #[.int .i64 0, .int .i64 0, .int .i64 0], []⟩ 8 (by kernel_rfl) (by kernel_rfl) (by kernel_rfl) (by kernel_rfl)) ?_
  intro W base args ds gs before hval0 hW _ _
  have hval : ∀ (j : Nat) t v, Try.f8.params[j]? = some t → args[j]? = some v → Value.okWide Try.prog W .any base t v := hval0
  have hW' : DataW.Whole enc Try.prog Try.f8.params.toList [] false W args.toList ds gs before := hW
  obtain ⟨p, q, hA, hV, rfl, hfz, hnd⟩ := hW
  have hA : DataW.TrodAll enc Try.prog W 0 (fun _ => true) true [3, 3, 3] args.toList ds p := hA
  obtain ⟨rfl, rfl⟩ := trodVars_none hV
  obtain ⟨v0, vs0, d0, ds0, p0, q0, hargs, rfl, rfl, h0, r0⟩ := trodAll_cons hA
  obtain ⟨v1, vs1, d1, ds1, p1, q1, rfl, rfl, rfl, h1, r1⟩ := trodAll_cons r0
  obtain ⟨v2, vs2, d2, ds2, p2, q2, rfl, rfl, rfl, h2, r2⟩ := trodAll_cons r1
  obtain ⟨rfl, rfl, rfl⟩ := trodAll_nil r2
  obtain rfl : args = #[v0, v1, v2] := by cases args; simp_all
  obtain ⟨s0, rfl⟩ := okWide_int u3 (hval 0 3 v0 rfl rfl)
  obtain ⟨s1, rfl⟩ := okWide_int u3 (hval 1 3 v1 rfl rfl)
  obtain ⟨s2, rfl⟩ := okWide_int u3 (hval 2 3 v2 rfl rfl)
  refine ((laSheets s0  s1  s2 ).calls (W := W) (vs := [.int .i64 s0, .int .i64 s1, .int .i64 s2]) (laid0 W) (fun G => ?_)).mono ?_
  · exact ⟨_, _, rfl, ⟨rfl, rfl⟩, _, _, rfl, ⟨rfl, rfl⟩, _, _, rfl, ⟨rfl, rfl⟩, rfl⟩
  · rintro e W' ⟨v, rfl, ⟨G', A', hr⟩, hb⟩
    obtain ⟨rfl, _⟩ := hr
    exact ⟨_, rfl, post_true tLaid (by decide +kernel) hW' hb rfl rfl u4 rfl rfl rfl⟩
theorem trimSheetsHolds : Ytkhicfkfdmldkaa.Rows.trimSheetsRow.holds Ytkhicfkfdmldkaa.Try.pinned (OpenSpec.ofChange Ytkhicfkfdmldkaa.Rows.trimSheetsSpec) :=
  OpenClaim.holds_of_wide 8 Try.f8 rfl rfl rfl rfl rfl rfl rfl ⟨rfl, rfl, rfl, rfl, rfl⟩ rfl rfl rfl rfl rfl (by kernel_rfl) Try.func8 (by kernel_rfl)
    (of_decide_eq_true (by kernel_rfl)) (by unfold Func.isWrapper; first | (rw [if_pos (by decide +kernel)]; kernel_rfl) | (rw [if_neg (by decide +kernel)]; exact ⟨rfl, rfl⟩))
    (fun os started H enc _ => trimSheetsLifted os started H enc)
end Go.Dw.Seat
namespace Go.Proofs.Ytkhicfkfdmldkaa
theorem trimSheetsSaid : Rows.TrimSheetsSaid := Go.Dw.Seat.trimSheetsHolds
end Go.Proofs.Ytkhicfkfdmldkaa
end
