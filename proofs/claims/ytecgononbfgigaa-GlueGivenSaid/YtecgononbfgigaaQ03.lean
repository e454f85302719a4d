/- The law GlueGiven returns true for every line in bytes and every box, and changes nothing that was there before: the full statement GlueGivenSaid, without conditions.
   The walk of each function is in the texts before; that the bits of the box are what the causes make of what is told is a plain law. -/
import Derived.Test.YtecgononbfgigaaQ02
import Derived.Test.YtecgononbfgigaaRows
import Derived.ProofKit
import Derived.OpenShut
set_option linter.unusedVariables false
set_option linter.unusedSimpArgs false
section
set_option linter.unusedSimpArgs false
set_option maxRecDepth 100000
namespace Go.Dw.Seat
open Go Go.Dw Go.Proofs Go.IntWalk
theorem c84 (r : Room) : DCall Try.prog 84 [.agg ((eR r).map D.c)] [] (bD (!roomOk r)) [] := by
  refine DCall.of Try.func84 sf84 hb84 (Nat.le_of_ble_eq_true rfl) (okRes_nil fun _ => rfl) ?_; simp only [s84, idxs, Nat.reduceAdd]
  repeat' (first
    | (with_reducible refine DW.seq ?_)
    | (with_reducible refine DW.block ?_)
    | (with_reducible refine DW.skip ?_)
    | (with_reducible refine DW.exit ?_)
    | (with_reducible refine DW.ret ?_)
    | (with_reducible refine DW.reg ?_)
    | (simp (disch := omega) only [go_sem, Nat.reduceLT, Nat.reduceLeDiff, Nat.reduceAdd, Nat.reduceMul, Nat.reduceEqDiff, ↓reduceIte, reduceCtorEq, Nat.reduceBEq, Nat.reduceBNe, Nat.reducePow, Int.reduceLE, Int.reduceLT, Int.reduceNeg, Int.reduceToNat, Int.reduceEq, Int.reduceAdd, Int.reduceSub, Int.reduceMul, Int.reduceBEq, Int.reduceBNe, Blk.men, Blk.keysIn, List.map_cons, List.map_nil])
    | (exact retS_of rfl rfl rfl)
    | (refine DW.cond_tt rfl ?_)
    | (refine call_c (c85 r) (by decide) ?_)
    | (refine DW.cond_ff rfl ?_)
    | (refine DW.cond rfl ?_ ?_ <;> intro hc <;> (try simp only [go_sem] at hc))
    | (refine g_split ?_ ?_ <;> intro hc <;> (try simp only [hc]) <;> (try simp only [go_sem] at hc)))
def opErr (r : Rule) (rooms : List Room) (mins : List Int) : Int :=
  if ruleOk r = false then 2 else if 50 < (rooms.length : Int) then 5 else if (mins.length : Int) ≠ rooms.length then 4 else if (rooms.any fun m => !roomOk m) = true then 3 else if wthn 0 2400 mins = false then 3 else 0
def opF (f : Room → Int) (rooms : List Room) (mins : List Int) (n : Nat) : List Nat := (List.range n).filter fun i => decide (mins.getD i 0 < f (rooms.getD i ⟨0, 0, 0, 0⟩))
theorem opF_succ {f : Room → Int} {rooms : List Room} {mins : List Int} {n : Nat} {m : Room} {v : Int} (hm : rooms[n]? = some m) (hv : mins[n]? = some v) :
    opF f rooms mins (n + 1) = opF f rooms mins n ++ (if decide (v < f m) then [n] else []) := by
  unfold opF
  rw [filter_range]
  simp only [List.getD, hm, hv, Option.getD_some]
theorem opF_len (f : Room → Int) (rooms : List Room) (mins : List Int) (n : Nat) : (opF f rooms mins n).length ≤ n := by
  refine Nat.le_trans (List.length_filter_le _ _) (by simp)
def opOut (f : Room → Int) (r : Rule) (rooms : List Room) (mins : List Int) : List Nat := if opErr r rooms mins = 0 then opF f rooms mins rooms.length else []
theorem c39 (b b2 : Bool) (r : Rule) (rooms : List Room) (mins : List Int) (hl : rooms.length ≤ 2 ^ 36) (hm : mins.length ≤ 2 ^ 36) :
    DCall Try.prog 39 [dR r, .c (.sl b 4 (rows eR rooms)), dIs b2 mins] [] (.tup [dIs false (nL (opOut (pressLo r) r rooms mins)), dIs false (nL (opOut (pressHi r) r rooms mins)), dI (opErr r rooms mins)]) [] := by
  have hfn := c87 b rooms hl 84 [] [] (fun m => !roomOk m) (fun m _ => c84 m)
  have h88 := c88 b2 0 2400 mins hm
  have fin : ∀ {e : Int}, opErr r rooms mins = e → e ≠ 0 → (∀ f, opOut f r rooms mins = []) := fun h1 h2 f => by
    simp only [opOut]; rw [if_neg (by rw [h1]; exact h2)]
  cases hr : ruleOk r with
  | false =>
    have he : opErr r rooms mins = 2 := by simp only [opErr, hr, if_true]
    rw [he, fin he (by decide), fin he (by decide)]
    refine DCall.of Try.func39 sf39 hb39 (Nat.le_of_ble_eq_true rfl) (okRes_nil fun _ => rfl) ?_; simp only [s39, idxs, Nat.reduceAdd]
    repeat' (first
    | (with_reducible refine DW.seq ?_)
    | (with_reducible refine DW.block ?_)
    | (with_reducible refine DW.skip ?_)
    | (with_reducible refine DW.exit ?_)
    | (with_reducible refine DW.ret ?_)
    | (with_reducible refine DW.reg ?_)
    | (refine DW.dreg rfl (WF.of (by first | rfl | simp (disch := omega) only [go_sem, Nat.reduceLT, Nat.reduceLeDiff, Nat.reduceAdd, Nat.reduceMul, Nat.reduceEqDiff, ↓reduceIte, reduceCtorEq, Nat.reduceBEq, Nat.reduceBNe, Nat.reducePow, Int.reduceLE, Int.reduceLT, Int.reduceNeg, Int.reduceToNat, Int.reduceEq, Int.reduceAdd, Int.reduceSub, Int.reduceMul, Int.reduceBEq, Int.reduceBNe, Blk.men, Blk.keysIn, hr])) ?_)
    | (simp (disch := omega) only [go_sem, Nat.reduceLT, Nat.reduceLeDiff, Nat.reduceAdd, Nat.reduceMul, Nat.reduceEqDiff, ↓reduceIte, reduceCtorEq, Nat.reduceBEq, Nat.reduceBNe, Nat.reducePow, Int.reduceLE, Int.reduceLT, Int.reduceNeg, Int.reduceToNat, Int.reduceEq, Int.reduceAdd, Int.reduceSub, Int.reduceMul, Int.reduceBEq, Int.reduceBNe, Blk.men, Blk.keysIn, hr])
    | (exact retS_of rfl rfl rfl)
    | (refine DW.cond_tt rfl ?_)
    | (refine call_c (c86 r) (by decide) ?_)
    | (refine DW.cond_ff rfl ?_)
    | (refine DW.cond rfl ?_ ?_ <;> intro hc <;> (try simp only [go_sem] at hc))
    | (refine g_split ?_ ?_ <;> intro hc <;> (try simp only [hc]) <;> (try simp only [go_sem] at hc)))
    refine retS_wk rfl ?_ (by simp only [Blk.nb, rowC_nb, D.nb, D.nbs, C.nb, C.nbs, C.nbss, rows_nb eI_nb, rows_nb eC_nb, rows_nb eL_nb, rows_nb eR_nb, rows_nb eS_nb, rows_nb eG_nb, Bool.and_true, Bool.not_false, Bool.and_self, bD, dI, iD]); exact .tup (.cons (.nil _ _) (.cons (.nil _ _) (.cons (.refl _) .nil)))
  | true =>
  by_cases h50 : 50 < (rooms.length : Int)
  · have he : opErr r rooms mins = 5 := by simp only [opErr, hr, h50, if_true, if_false, Bool.true_eq_false]
    have hd : decide ((50 : Int) < (rooms.length : Int)) = true := decide_eq_true h50
    rw [he, fin he (by decide), fin he (by decide)]
    refine DCall.of Try.func39 sf39 hb39 (Nat.le_of_ble_eq_true rfl) (okRes_nil fun _ => rfl) ?_; simp only [s39, idxs, Nat.reduceAdd]
    repeat' (first
    | (with_reducible refine DW.seq ?_)
    | (with_reducible refine DW.block ?_)
    | (with_reducible refine DW.skip ?_)
    | (with_reducible refine DW.exit ?_)
    | (with_reducible refine DW.ret ?_)
    | (with_reducible refine DW.reg ?_)
    | (refine DW.dreg rfl (WF.of (by first | rfl | simp (disch := omega) only [go_sem, Nat.reduceLT, Nat.reduceLeDiff, Nat.reduceAdd, Nat.reduceMul, Nat.reduceEqDiff, ↓reduceIte, reduceCtorEq, Nat.reduceBEq, Nat.reduceBNe, Nat.reducePow, Int.reduceLE, Int.reduceLT, Int.reduceNeg, Int.reduceToNat, Int.reduceEq, Int.reduceAdd, Int.reduceSub, Int.reduceMul, Int.reduceBEq, Int.reduceBNe, Blk.men, Blk.keysIn, hr, hd])) ?_)
    | (simp (disch := omega) only [go_sem, Nat.reduceLT, Nat.reduceLeDiff, Nat.reduceAdd, Nat.reduceMul, Nat.reduceEqDiff, ↓reduceIte, reduceCtorEq, Nat.reduceBEq, Nat.reduceBNe, Nat.reducePow, Int.reduceLE, Int.reduceLT, Int.reduceNeg, Int.reduceToNat, Int.reduceEq, Int.reduceAdd, Int.reduceSub, Int.reduceMul, Int.reduceBEq, Int.reduceBNe, Blk.men, Blk.keysIn, hr, hd])
    | (exact retS_of rfl rfl rfl)
    | (refine DW.cond_tt rfl ?_)
    | (refine call_c (c86 r) (by decide) ?_)
    | (refine DW.cond_ff rfl ?_)
    | (refine DW.cond rfl ?_ ?_ <;> intro hc <;> (try simp only [go_sem] at hc))
    | (refine g_split ?_ ?_ <;> intro hc <;> (try simp only [hc]) <;> (try simp only [go_sem] at hc)))
    refine retS_wk rfl ?_ (by simp only [Blk.nb, rowC_nb, D.nb, D.nbs, C.nb, C.nbs, C.nbss, rows_nb eI_nb, rows_nb eC_nb, rows_nb eL_nb, rows_nb eR_nb, rows_nb eS_nb, rows_nb eG_nb, Bool.and_true, Bool.not_false, Bool.and_self, bD, dI, iD]); exact .tup (.cons (.nil _ _) (.cons (.nil _ _) (.cons (.refl _) .nil)))
  have hd : decide ((50 : Int) < (rooms.length : Int)) = false := decide_eq_false h50
  by_cases hne : (mins.length : Int) = rooms.length
  case neg =>
    have he : opErr r rooms mins = 4 := by simp only [opErr, hr, h50, hne, if_true, if_false, Bool.true_eq_false, ne_eq, not_false_eq_true]
    have hd2 : ((mins.length : Int) != (rooms.length : Int)) = true := by simpa using hne
    rw [he, fin he (by decide), fin he (by decide)]
    refine DCall.of Try.func39 sf39 hb39 (Nat.le_of_ble_eq_true rfl) (okRes_nil fun _ => rfl) ?_; simp only [s39, idxs, Nat.reduceAdd]
    repeat' (first
    | (with_reducible refine DW.seq ?_)
    | (with_reducible refine DW.block ?_)
    | (with_reducible refine DW.skip ?_)
    | (with_reducible refine DW.exit ?_)
    | (with_reducible refine DW.ret ?_)
    | (with_reducible refine DW.reg ?_)
    | (refine DW.dreg rfl (WF.of (by first | rfl | simp (disch := omega) only [go_sem, Nat.reduceLT, Nat.reduceLeDiff, Nat.reduceAdd, Nat.reduceMul, Nat.reduceEqDiff, ↓reduceIte, reduceCtorEq, Nat.reduceBEq, Nat.reduceBNe, Nat.reducePow, Int.reduceLE, Int.reduceLT, Int.reduceNeg, Int.reduceToNat, Int.reduceEq, Int.reduceAdd, Int.reduceSub, Int.reduceMul, Int.reduceBEq, Int.reduceBNe, Blk.men, Blk.keysIn, hr, hd, hd2])) ?_)
    | (simp (disch := omega) only [go_sem, Nat.reduceLT, Nat.reduceLeDiff, Nat.reduceAdd, Nat.reduceMul, Nat.reduceEqDiff, ↓reduceIte, reduceCtorEq, Nat.reduceBEq, Nat.reduceBNe, Nat.reducePow, Int.reduceLE, Int.reduceLT, Int.reduceNeg, Int.reduceToNat, Int.reduceEq, Int.reduceAdd, Int.reduceSub, Int.reduceMul, Int.reduceBEq, Int.reduceBNe, Blk.men, Blk.keysIn, hr, hd, hd2])
    | (exact retS_of rfl rfl rfl)
    | (refine DW.cond_tt rfl ?_)
    | (refine call_c (c86 r) (by decide) ?_)
    | (refine DW.cond_ff rfl ?_)
    | (refine DW.cond rfl ?_ ?_ <;> intro hc <;> (try simp only [go_sem] at hc))
    | (refine g_split ?_ ?_ <;> intro hc <;> (try simp only [hc]) <;> (try simp only [go_sem] at hc)))
    refine retS_wk rfl ?_ (by simp only [Blk.nb, rowC_nb, D.nb, D.nbs, C.nb, C.nbs, C.nbss, rows_nb eI_nb, rows_nb eC_nb, rows_nb eL_nb, rows_nb eR_nb, rows_nb eS_nb, rows_nb eG_nb, Bool.and_true, Bool.not_false, Bool.and_self, bD, dI, iD]); exact .tup (.cons (.nil _ _) (.cons (.nil _ _) (.cons (.refl _) .nil)))
  have hd2 : ((mins.length : Int) != (rooms.length : Int)) = false := by simpa using hne
  cases ha : rooms.any fun m => !roomOk m with
  | true =>
    have he : opErr r rooms mins = 3 := by simp only [opErr, hr, h50, hne, ha, if_true, if_false, Bool.true_eq_false, ne_eq, not_true_eq_false]
    rw [ha] at hfn
    rw [he, fin he (by decide), fin he (by decide)]
    refine DCall.of Try.func39 sf39 hb39 (Nat.le_of_ble_eq_true rfl) (okRes_nil fun _ => rfl) ?_; simp only [s39, idxs, Nat.reduceAdd]
    repeat' (first
    | (with_reducible refine DW.seq ?_)
    | (with_reducible refine DW.block ?_)
    | (with_reducible refine DW.skip ?_)
    | (with_reducible refine DW.exit ?_)
    | (with_reducible refine DW.ret ?_)
    | (with_reducible refine DW.reg ?_)
    | (refine DW.dreg rfl (WF.of (by first | rfl | simp (disch := omega) only [go_sem, Nat.reduceLT, Nat.reduceLeDiff, Nat.reduceAdd, Nat.reduceMul, Nat.reduceEqDiff, ↓reduceIte, reduceCtorEq, Nat.reduceBEq, Nat.reduceBNe, Nat.reducePow, Int.reduceLE, Int.reduceLT, Int.reduceNeg, Int.reduceToNat, Int.reduceEq, Int.reduceAdd, Int.reduceSub, Int.reduceMul, Int.reduceBEq, Int.reduceBNe, Blk.men, Blk.keysIn, hr, hd, hd2])) ?_)
    | (simp (disch := omega) only [go_sem, Nat.reduceLT, Nat.reduceLeDiff, Nat.reduceAdd, Nat.reduceMul, Nat.reduceEqDiff, ↓reduceIte, reduceCtorEq, Nat.reduceBEq, Nat.reduceBNe, Nat.reducePow, Int.reduceLE, Int.reduceLT, Int.reduceNeg, Int.reduceToNat, Int.reduceEq, Int.reduceAdd, Int.reduceSub, Int.reduceMul, Int.reduceBEq, Int.reduceBNe, Blk.men, Blk.keysIn, hr, hd, hd2])
    | (exact retS_of rfl rfl rfl)
    | (refine DW.cond_tt rfl ?_)
    | (refine call_c (c86 r) (by decide) ?_)
    | (refine call_c (hfn) (by decide) ?_)
    | (refine DW.cond_ff rfl ?_)
    | (refine DW.cond rfl ?_ ?_ <;> intro hc <;> (try simp only [go_sem] at hc))
    | (refine g_split ?_ ?_ <;> intro hc <;> (try simp only [hc]) <;> (try simp only [go_sem] at hc)))
    refine retS_wk rfl ?_ (by simp only [Blk.nb, rowC_nb, D.nb, D.nbs, C.nb, C.nbs, C.nbss, rows_nb eI_nb, rows_nb eC_nb, rows_nb eL_nb, rows_nb eR_nb, rows_nb eS_nb, rows_nb eG_nb, Bool.and_true, Bool.not_false, Bool.and_self, bD, dI, iD]); exact .tup (.cons (.nil _ _) (.cons (.nil _ _) (.cons (.refl _) .nil)))
  | false =>
  rw [ha] at hfn
  cases hw : wthn 0 2400 mins with
  | false =>
    have he : opErr r rooms mins = 3 := by simp only [opErr, hr, h50, hne, ha, hw, if_true, if_false, Bool.true_eq_false, Bool.false_eq_true, ne_eq, not_true_eq_false]
    rw [hw] at h88
    rw [he, fin he (by decide), fin he (by decide)]
    refine DCall.of Try.func39 sf39 hb39 (Nat.le_of_ble_eq_true rfl) (okRes_nil fun _ => rfl) ?_; simp only [s39, idxs, Nat.reduceAdd]
    repeat' (first
    | (with_reducible refine DW.seq ?_)
    | (with_reducible refine DW.block ?_)
    | (with_reducible refine DW.skip ?_)
    | (with_reducible refine DW.exit ?_)
    | (with_reducible refine DW.ret ?_)
    | (with_reducible refine DW.reg ?_)
    | (refine DW.dreg rfl (WF.of (by first | rfl | simp (disch := omega) only [go_sem, Nat.reduceLT, Nat.reduceLeDiff, Nat.reduceAdd, Nat.reduceMul, Nat.reduceEqDiff, ↓reduceIte, reduceCtorEq, Nat.reduceBEq, Nat.reduceBNe, Nat.reducePow, Int.reduceLE, Int.reduceLT, Int.reduceNeg, Int.reduceToNat, Int.reduceEq, Int.reduceAdd, Int.reduceSub, Int.reduceMul, Int.reduceBEq, Int.reduceBNe, Blk.men, Blk.keysIn, hr, hd, hd2])) ?_)
    | (simp (disch := omega) only [go_sem, Nat.reduceLT, Nat.reduceLeDiff, Nat.reduceAdd, Nat.reduceMul, Nat.reduceEqDiff, ↓reduceIte, reduceCtorEq, Nat.reduceBEq, Nat.reduceBNe, Nat.reducePow, Int.reduceLE, Int.reduceLT, Int.reduceNeg, Int.reduceToNat, Int.reduceEq, Int.reduceAdd, Int.reduceSub, Int.reduceMul, Int.reduceBEq, Int.reduceBNe, Blk.men, Blk.keysIn, hr, hd, hd2])
    | (exact retS_of rfl rfl rfl)
    | (refine DW.cond_tt rfl ?_)
    | (refine call_c (c86 r) (by decide) ?_)
    | (refine call_c (hfn) (by decide) ?_)
    | (refine call_c (h88) (by decide) ?_)
    | (refine DW.cond_ff rfl ?_)
    | (refine DW.cond rfl ?_ ?_ <;> intro hc <;> (try simp only [go_sem] at hc))
    | (refine g_split ?_ ?_ <;> intro hc <;> (try simp only [hc]) <;> (try simp only [go_sem] at hc)))
    refine retS_wk rfl ?_ (by simp only [Blk.nb, rowC_nb, D.nb, D.nbs, C.nb, C.nbs, C.nbss, rows_nb eI_nb, rows_nb eC_nb, rows_nb eL_nb, rows_nb eR_nb, rows_nb eS_nb, rows_nb eG_nb, Bool.and_true, Bool.not_false, Bool.and_self, bD, dI, iD]); exact .tup (.cons (.nil _ _) (.cons (.nil _ _) (.cons (.refl _) .nil)))
  | true =>
    have he : opErr r rooms mins = 0 := by simp only [opErr, hr, h50, hne, ha, hw, if_true, if_false, Bool.true_eq_false, Bool.false_eq_true, ne_eq, not_true_eq_false]
    have ho : ∀ f, opOut f r rooms mins = opF f rooms mins rooms.length := fun f => by simp only [opOut, he, if_true]
    rw [hw] at h88
    rw [he, ho, ho]
    refine DCall.of Try.func39 sf39 hb39 (Nat.le_of_ble_eq_true rfl) (okRes_nil fun _ => rfl) ?_; simp only [s39, idxs, Nat.reduceAdd]
    repeat' (first
    | (with_reducible refine DW.seq ?_)
    | (with_reducible refine DW.block ?_)
    | (with_reducible refine DW.skip ?_)
    | (with_reducible refine DW.exit ?_)
    | (with_reducible refine DW.ret ?_)
    | (with_reducible refine DW.reg ?_)
    | (refine DW.dreg rfl (WF.of (by first | rfl | simp (disch := omega) only [go_sem, Nat.reduceLT, Nat.reduceLeDiff, Nat.reduceAdd, Nat.reduceMul, Nat.reduceEqDiff, ↓reduceIte, reduceCtorEq, Nat.reduceBEq, Nat.reduceBNe, Nat.reducePow, Int.reduceLE, Int.reduceLT, Int.reduceNeg, Int.reduceToNat, Int.reduceEq, Int.reduceAdd, Int.reduceSub, Int.reduceMul, Int.reduceBEq, Int.reduceBNe, Blk.men, Blk.keysIn, hr, hd, hd2])) ?_)
    | (simp (disch := omega) only [go_sem, Nat.reduceLT, Nat.reduceLeDiff, Nat.reduceAdd, Nat.reduceMul, Nat.reduceEqDiff, ↓reduceIte, reduceCtorEq, Nat.reduceBEq, Nat.reduceBNe, Nat.reducePow, Int.reduceLE, Int.reduceLT, Int.reduceNeg, Int.reduceToNat, Int.reduceEq, Int.reduceAdd, Int.reduceSub, Int.reduceMul, Int.reduceBEq, Int.reduceBNe, Blk.men, Blk.keysIn, hr, hd, hd2])
    | (exact retS_of rfl rfl rfl)
    | (refine DW.cond_tt rfl ?_)
    | (refine call_c (c86 r) (by decide) ?_)
    | (refine call_c (hfn) (by decide) ?_)
    | (refine call_c (h88) (by decide) ?_)
    | (refine DW.cond_ff rfl ?_)
    | (refine DW.cond rfl ?_ ?_ <;> intro hc <;> (try simp only [go_sem] at hc))
    | (refine g_split ?_ ?_ <;> intro hc <;> (try simp only [hc]) <;> (try simp only [go_sem] at hc)))
    refine DW.ent (Ent.adopt 6 55 1 rfl rfl rfl) ?_
    simp (disch := omega) only [go_sem, Nat.reduceLT, Nat.reduceLeDiff, Nat.reduceAdd, Nat.reduceMul, Nat.reduceEqDiff, ↓reduceIte, reduceCtorEq, Nat.reduceBEq, Nat.reduceBNe, Nat.reducePow, Int.reduceLE, Int.reduceLT, Int.reduceNeg, Int.reduceToNat, Int.reduceEq, Int.reduceAdd, Int.reduceSub, Int.reduceMul, Int.reduceBEq, Int.reduceBNe, Blk.men, Blk.keysIn]
    refine DW.ent (Ent.adopt 7 66 1 rfl rfl rfl) ?_
    simp (disch := omega) only [go_sem, Nat.reduceLT, Nat.reduceLeDiff, Nat.reduceAdd, Nat.reduceMul, Nat.reduceEqDiff, ↓reduceIte, reduceCtorEq, Nat.reduceBEq, Nat.reduceBNe, Nat.reducePow, Int.reduceLE, Int.reduceLT, Int.reduceNeg, Int.reduceToNat, Int.reduceEq, Int.reduceAdd, Int.reduceSub, Int.reduceMul, Int.reduceBEq, Int.reduceBNe, Blk.men, Blk.keysIn]
    refine DW.loop (ι := { i : Nat // i ≤ rooms.length }) (fun i => ⟨70, [(36, dI i.1), (35, dI rooms.length), (34, .c (.sl b 4 (rows eR rooms))), (7, .own 66), (6, .own 55), (3, .box 3 0), (2, dIs b2 mins)],
      [(66, .row 1 (rowC (rows eI (nL (opF (pressHi r) rooms mins i.1))))), (55, .row 1 (rowC (rows eI (nL (opF (pressLo r) rooms mins i.1))))), (3, .box [dI r.mins, dI r.deg, dI r.damp])]⟩) (fun i => rooms.length - i.1) ⟨0, Nat.zero_le _⟩ ?_ ?_
    · refine Ent.to ?_ ?_ <;> simp (disch := omega) only [wkT_cons, wkX_cons, wkT_nil, wkX_nil, get, Nat.reduceEqDiff, ↓reduceIte, ex_some, wk_self, wk_top, wk_nil, wkB_self, and_self, dI, i64_in, and_true, true_and, Int.natCast_add, Int.natCast_one, Int.ofNat_zero, Int.natCast_zero]
      exact ⟨.refl _, .refl _⟩
    rintro ⟨i, hi⟩
    dsimp only
    rcases at_or rooms i hi with ⟨m, hm0, hlt, hdd⟩ | ⟨hend, hdd⟩
    · obtain ⟨v, hv⟩ := getE (l := mins) (i := i) (by omega)
      have hok : roomOk m = true := by
        have := List.any_eq_false.1 ha m (List.mem_of_getElem? hm0)
        simpa using this
      have h89 := c89 r m hr hok
      have hl1 := opF_succ (f := pressLo r) hm0 hv
      have hl2 := opF_succ (f := pressHi r) hm0 hv
      have hn1 := opF_len (pressLo r) rooms mins i
      have hn2 := opF_len (pressHi r) rooms mins i
      generalize opF (pressLo r) rooms mins i = a at *
      generalize opF (pressHi r) rooms mins i = c at *
      generalize pressLo r m = lo at *
      generalize pressHi r m = hi' at *
      have hal : (nL a).length + 1 ≤ 17592186044416 := by rw [nL_length]; omega
      have hcl : (nL c).length + 1 ≤ 17592186044416 := by rw [nL_length]; omega
      have hil : (i < mins.length) = True := eq_true (by omega)
      cases h1 : decide (v < lo) with
      | false =>
        simp only [h1, Bool.false_eq_true, if_false, List.append_nil] at hl1
        cases h2 : decide (v < hi') with
        | false =>
          simp only [h2, Bool.false_eq_true, if_false, List.append_nil] at hl2
          repeat' (first
    | (with_reducible refine DW.seq ?_)
    | (with_reducible refine DW.block ?_)
    | (with_reducible refine DW.skip ?_)
    | (with_reducible refine DW.exit ?_)
    | (with_reducible refine DW.ret ?_)
    | (with_reducible refine DW.reg ?_)
    | (refine DW.dreg rfl (WF.of (by first | rfl | simp (disch := omega) only [go_sem, Nat.reduceLT, Nat.reduceLeDiff, Nat.reduceAdd, Nat.reduceMul, Nat.reduceEqDiff, ↓reduceIte, reduceCtorEq, Nat.reduceBEq, Nat.reduceBNe, Nat.reducePow, Int.reduceLE, Int.reduceLT, Int.reduceNeg, Int.reduceToNat, Int.reduceEq, Int.reduceAdd, Int.reduceSub, Int.reduceMul, Int.reduceBEq, Int.reduceBNe, Blk.men, Blk.keysIn, hdd, hm0, hv, hil, h1, h2])) ?_)
    | (simp (disch := omega) only [go_sem, Nat.reduceLT, Nat.reduceLeDiff, Nat.reduceAdd, Nat.reduceMul, Nat.reduceEqDiff, ↓reduceIte, reduceCtorEq, Nat.reduceBEq, Nat.reduceBNe, Nat.reducePow, Int.reduceLE, Int.reduceLT, Int.reduceNeg, Int.reduceToNat, Int.reduceEq, Int.reduceAdd, Int.reduceSub, Int.reduceMul, Int.reduceBEq, Int.reduceBNe, Blk.men, Blk.keysIn, hdd, hm0, hv, hil, h1, h2])
    | (exact retS_of rfl rfl rfl)
    | (refine DW.cond_tt rfl ?_)
    | (refine call_c (h89) (by decide) ?_)
    | (refine call_c (c90 _ _) (by decide) ?_)
    | (refine DW.cond_ff rfl ?_)
    | (refine DW.cond rfl ?_ ?_ <;> intro hc <;> (try simp only [go_sem] at hc))
    | (refine g_split ?_ ?_ <;> intro hc <;> (try simp only [hc]) <;> (try simp only [go_sem] at hc)))
          refine ⟨⟨i + 1, hlt⟩, ?_, Ent.to ?_ ?_⟩ <;> first | (show _ < _; (try simp only); omega) | (simp (disch := omega) only [wkT_cons, wkX_cons, wkT_nil, wkX_nil, get, Nat.reduceEqDiff, ↓reduceIte, ex_some, wk_self, wk_top, wk_nil, wkB_self, and_self, dI, i64_in, and_true, true_and, Int.natCast_add, Int.natCast_one, Int.ofNat_zero, Int.natCast_zero,  hl1, hl2])
        | true =>
          simp only [h2, if_true] at hl2
          repeat' (first
    | (with_reducible refine DW.seq ?_)
    | (with_reducible refine DW.block ?_)
    | (with_reducible refine DW.skip ?_)
    | (with_reducible refine DW.exit ?_)
    | (with_reducible refine DW.ret ?_)
    | (with_reducible refine DW.reg ?_)
    | (refine DW.dreg rfl (WF.of (by first | rfl | simp (disch := omega) only [go_sem, Nat.reduceLT, Nat.reduceLeDiff, Nat.reduceAdd, Nat.reduceMul, Nat.reduceEqDiff, ↓reduceIte, reduceCtorEq, Nat.reduceBEq, Nat.reduceBNe, Nat.reducePow, Int.reduceLE, Int.reduceLT, Int.reduceNeg, Int.reduceToNat, Int.reduceEq, Int.reduceAdd, Int.reduceSub, Int.reduceMul, Int.reduceBEq, Int.reduceBNe, Blk.men, Blk.keysIn, hdd, hm0, hv, hil, h1, h2])) ?_)
    | (simp (disch := omega) only [go_sem, Nat.reduceLT, Nat.reduceLeDiff, Nat.reduceAdd, Nat.reduceMul, Nat.reduceEqDiff, ↓reduceIte, reduceCtorEq, Nat.reduceBEq, Nat.reduceBNe, Nat.reducePow, Int.reduceLE, Int.reduceLT, Int.reduceNeg, Int.reduceToNat, Int.reduceEq, Int.reduceAdd, Int.reduceSub, Int.reduceMul, Int.reduceBEq, Int.reduceBNe, Blk.men, Blk.keysIn, hdd, hm0, hv, hil, h1, h2])
    | (exact retS_of rfl rfl rfl)
    | (refine DW.cond_tt rfl ?_)
    | (refine call_c (h89) (by decide) ?_)
    | (refine call_c (c90 _ _) (by decide) ?_)
    | (refine DW.cond_ff rfl ?_)
    | (refine DW.cond rfl ?_ ?_ <;> intro hc <;> (try simp only [go_sem] at hc))
    | (refine g_split ?_ ?_ <;> intro hc <;> (try simp only [hc]) <;> (try simp only [go_sem] at hc)))
          refine ⟨⟨i + 1, hlt⟩, ?_, Ent.to ?_ ?_⟩ <;> first | (show _ < _; (try simp only); omega) | (simp (disch := omega) only [wkT_cons, wkX_cons, wkT_nil, wkX_nil, get, Nat.reduceEqDiff, ↓reduceIte, ex_some, wk_self, wk_top, wk_nil, wkB_self, and_self, dI, i64_in, and_true, true_and, Int.natCast_add, Int.natCast_one, Int.ofNat_zero, Int.natCast_zero,  hl1, hl2, ← nL_snoc])
      | true =>
        simp only [h1, if_true] at hl1
        cases h2 : decide (v < hi') with
        | false =>
          simp only [h2, Bool.false_eq_true, if_false, List.append_nil] at hl2
          repeat' (first
    | (with_reducible refine DW.seq ?_)
    | (with_reducible refine DW.block ?_)
    | (with_reducible refine DW.skip ?_)
    | (with_reducible refine DW.exit ?_)
    | (with_reducible refine DW.ret ?_)
    | (with_reducible refine DW.reg ?_)
    | (refine DW.dreg rfl (WF.of (by first | rfl | simp (disch := omega) only [go_sem, Nat.reduceLT, Nat.reduceLeDiff, Nat.reduceAdd, Nat.reduceMul, Nat.reduceEqDiff, ↓reduceIte, reduceCtorEq, Nat.reduceBEq, Nat.reduceBNe, Nat.reducePow, Int.reduceLE, Int.reduceLT, Int.reduceNeg, Int.reduceToNat, Int.reduceEq, Int.reduceAdd, Int.reduceSub, Int.reduceMul, Int.reduceBEq, Int.reduceBNe, Blk.men, Blk.keysIn, hdd, hm0, hv, hil, h1, h2])) ?_)
    | (simp (disch := omega) only [go_sem, Nat.reduceLT, Nat.reduceLeDiff, Nat.reduceAdd, Nat.reduceMul, Nat.reduceEqDiff, ↓reduceIte, reduceCtorEq, Nat.reduceBEq, Nat.reduceBNe, Nat.reducePow, Int.reduceLE, Int.reduceLT, Int.reduceNeg, Int.reduceToNat, Int.reduceEq, Int.reduceAdd, Int.reduceSub, Int.reduceMul, Int.reduceBEq, Int.reduceBNe, Blk.men, Blk.keysIn, hdd, hm0, hv, hil, h1, h2])
    | (exact retS_of rfl rfl rfl)
    | (refine DW.cond_tt rfl ?_)
    | (refine call_c (h89) (by decide) ?_)
    | (refine call_c (c90 _ _) (by decide) ?_)
    | (refine DW.cond_ff rfl ?_)
    | (refine DW.cond rfl ?_ ?_ <;> intro hc <;> (try simp only [go_sem] at hc))
    | (refine g_split ?_ ?_ <;> intro hc <;> (try simp only [hc]) <;> (try simp only [go_sem] at hc)))
          refine ⟨⟨i + 1, hlt⟩, ?_, Ent.to ?_ ?_⟩ <;> first | (show _ < _; (try simp only); omega) | (simp (disch := omega) only [wkT_cons, wkX_cons, wkT_nil, wkX_nil, get, Nat.reduceEqDiff, ↓reduceIte, ex_some, wk_self, wk_top, wk_nil, wkB_self, and_self, dI, i64_in, and_true, true_and, Int.natCast_add, Int.natCast_one, Int.ofNat_zero, Int.natCast_zero,  hl1, hl2, ← nL_snoc])
        | true =>
          simp only [h2, if_true] at hl2
          repeat' (first
    | (with_reducible refine DW.seq ?_)
    | (with_reducible refine DW.block ?_)
    | (with_reducible refine DW.skip ?_)
    | (with_reducible refine DW.exit ?_)
    | (with_reducible refine DW.ret ?_)
    | (with_reducible refine DW.reg ?_)
    | (refine DW.dreg rfl (WF.of (by first | rfl | simp (disch := omega) only [go_sem, Nat.reduceLT, Nat.reduceLeDiff, Nat.reduceAdd, Nat.reduceMul, Nat.reduceEqDiff, ↓reduceIte, reduceCtorEq, Nat.reduceBEq, Nat.reduceBNe, Nat.reducePow, Int.reduceLE, Int.reduceLT, Int.reduceNeg, Int.reduceToNat, Int.reduceEq, Int.reduceAdd, Int.reduceSub, Int.reduceMul, Int.reduceBEq, Int.reduceBNe, Blk.men, Blk.keysIn, hdd, hm0, hv, hil, h1, h2])) ?_)
    | (simp (disch := omega) only [go_sem, Nat.reduceLT, Nat.reduceLeDiff, Nat.reduceAdd, Nat.reduceMul, Nat.reduceEqDiff, ↓reduceIte, reduceCtorEq, Nat.reduceBEq, Nat.reduceBNe, Nat.reducePow, Int.reduceLE, Int.reduceLT, Int.reduceNeg, Int.reduceToNat, Int.reduceEq, Int.reduceAdd, Int.reduceSub, Int.reduceMul, Int.reduceBEq, Int.reduceBNe, Blk.men, Blk.keysIn, hdd, hm0, hv, hil, h1, h2])
    | (exact retS_of rfl rfl rfl)
    | (refine DW.cond_tt rfl ?_)
    | (refine call_c (h89) (by decide) ?_)
    | (refine call_c (c90 _ _) (by decide) ?_)
    | (refine DW.cond_ff rfl ?_)
    | (refine DW.cond rfl ?_ ?_ <;> intro hc <;> (try simp only [go_sem] at hc))
    | (refine g_split ?_ ?_ <;> intro hc <;> (try simp only [hc]) <;> (try simp only [go_sem] at hc)))
          refine ⟨⟨i + 1, hlt⟩, ?_, Ent.to ?_ ?_⟩ <;> first | (show _ < _; (try simp only); omega) | (simp (disch := omega) only [wkT_cons, wkX_cons, wkT_nil, wkX_nil, get, Nat.reduceEqDiff, ↓reduceIte, ex_some, wk_self, wk_top, wk_nil, wkB_self, and_self, dI, i64_in, and_true, true_and, Int.natCast_add, Int.natCast_one, Int.ofNat_zero, Int.natCast_zero,  hl1, hl2, ← nL_snoc])
    · repeat' (first
    | (with_reducible refine DW.seq ?_)
    | (with_reducible refine DW.block ?_)
    | (with_reducible refine DW.skip ?_)
    | (with_reducible refine DW.exit ?_)
    | (with_reducible refine DW.ret ?_)
    | (with_reducible refine DW.reg ?_)
    | (refine DW.dreg rfl (WF.of (by first | rfl | simp (disch := omega) only [go_sem, Nat.reduceLT, Nat.reduceLeDiff, Nat.reduceAdd, Nat.reduceMul, Nat.reduceEqDiff, ↓reduceIte, reduceCtorEq, Nat.reduceBEq, Nat.reduceBNe, Nat.reducePow, Int.reduceLE, Int.reduceLT, Int.reduceNeg, Int.reduceToNat, Int.reduceEq, Int.reduceAdd, Int.reduceSub, Int.reduceMul, Int.reduceBEq, Int.reduceBNe, Blk.men, Blk.keysIn, hdd])) ?_)
    | (simp (disch := omega) only [go_sem, Nat.reduceLT, Nat.reduceLeDiff, Nat.reduceAdd, Nat.reduceMul, Nat.reduceEqDiff, ↓reduceIte, reduceCtorEq, Nat.reduceBEq, Nat.reduceBNe, Nat.reducePow, Int.reduceLE, Int.reduceLT, Int.reduceNeg, Int.reduceToNat, Int.reduceEq, Int.reduceAdd, Int.reduceSub, Int.reduceMul, Int.reduceBEq, Int.reduceBNe, Blk.men, Blk.keysIn, hdd])
    | (exact retS_of rfl rfl rfl)
    | (refine DW.cond_tt rfl ?_)
    | (refine DW.cond_ff rfl ?_)
    | (refine DW.cond rfl ?_ ?_ <;> intro hc <;> (try simp only [go_sem] at hc))
    | (refine g_split ?_ ?_ <;> intro hc <;> (try simp only [hc]) <;> (try simp only [go_sem] at hc)))
      subst hend
      (refine retS_ent (Ent.rel 66 rfl) ?_; simp (disch := omega) only [go_sem, Nat.reduceLT, Nat.reduceLeDiff, Nat.reduceAdd, Nat.reduceMul, Nat.reduceEqDiff, ↓reduceIte, reduceCtorEq, Nat.reduceBEq, Nat.reduceBNe, Nat.reducePow, Int.reduceLE, Int.reduceLT, Int.reduceNeg, Int.reduceToNat, Int.reduceEq, Int.reduceAdd, Int.reduceSub, Int.reduceMul, Int.reduceBEq, Int.reduceBNe, Blk.men, Blk.keysIn])
      (refine retS_ent (Ent.rel 55 rfl) ?_; simp (disch := omega) only [go_sem, Nat.reduceLT, Nat.reduceLeDiff, Nat.reduceAdd, Nat.reduceMul, Nat.reduceEqDiff, ↓reduceIte, reduceCtorEq, Nat.reduceBEq, Nat.reduceBNe, Nat.reducePow, Int.reduceLE, Int.reduceLT, Int.reduceNeg, Int.reduceToNat, Int.reduceEq, Int.reduceAdd, Int.reduceSub, Int.reduceMul, Int.reduceBEq, Int.reduceBNe, Blk.men, Blk.keysIn])
      refine retS_wk rfl ?_ (by simp only [Blk.nb, rowC_nb, D.nb, D.nbs, C.nb, C.nbs, C.nbss, rows_nb eI_nb, rows_nb eC_nb, rows_nb eL_nb, rows_nb eR_nb, rows_nb eS_nb, rows_nb eG_nb, Bool.and_true, Bool.not_false, Bool.and_self, bD, dI, iD]); exact .refl _
end Go.Dw.Seat
end
section
set_option linter.unusedSimpArgs false
set_option maxRecDepth 100000
namespace Go.Dw.Seat
open Go Go.Dw Go.Proofs Go.IntWalk
def prJ (cs : List Cause) (a : Cause) (j : Nat) : List (List Cause) := ((cs.take j).filter fun c => decide (a.noz < c.noz)).map fun c => [a, c]
def prI (cs : List Cause) (i : Nat) : List (List Cause) := (cs.take i).flatMap fun a => prJ cs a cs.length
theorem prI_succ {cs : List Cause} {a : Cause} {i : Nat} (h : cs[i]? = some a) : prI cs (i + 1) = prI cs i ++ prJ cs a cs.length := by
  simp only [prI, List.take_add_one, h, List.flatMap_append, Option.toList_some, List.flatMap_cons, List.flatMap_nil, List.append_nil]
end Go.Dw.Seat
end
section
set_option linter.unusedSimpArgs false
namespace Go.Dw.Seat
open Go Go.Dw
theorem causes_asc (froms : List Int) (n : Nat) : (causesN n froms).Pairwise (fun a b => a.noz ≤ b.noz) := by
  have hz : ∀ z c, c ∈ causesZ froms z → c.noz = (z : Nat) := by
    intro z c hc
    simp only [causesZ, causesK, List.mem_flatMap, List.mem_map] at hc
    obtain ⟨k, _, f, _, rfl⟩ := hc
    rfl
  rw [causesN, List.pairwise_flatMap]
  constructor
  · intro z _
    rw [List.pairwise_iff_forall_sublist]
    intro a b hab
    have ha := hab.subset (show a ∈ [a, b] by simp)
    have hb := hab.subset (show b ∈ [a, b] by simp)
    rw [hz z a ha, hz z b hb]; exact Int.le_refl _
  · refine List.Pairwise.imp ?_ List.pairwise_lt_range
    intro z z' hlt a ha b hb
    rw [hz z a ha, hz z' b hb]; omega
theorem prJ_pairs {cs : List Cause} (hp : cs.Pairwise (fun a b => a.noz ≤ b.noz)) {i : Nat} {a : Cause} (h : cs[i]? = some a) : prJ cs a cs.length = pairsOf a (cs.drop (i + 1)) := by
  obtain ⟨hi, ha⟩ := List.getElem?_eq_some_iff.1 h
  have hn : (cs.take (i + 1)).filter (fun c => decide (a.noz < c.noz)) = [] := by
    rw [List.filter_eq_nil_iff]
    intro c hc
    obtain ⟨j, hj, rfl⟩ := List.mem_take_iff_getElem.1 hc
    rw [List.pairwise_iff_getElem] at hp
    simp only [decide_eq_true_eq, Int.not_lt]
    rcases Nat.lt_or_ge j i with h1 | h1
    · have := hp j i (by omega) hi h1
      rwa [ha] at this
    · have : j = i := by omega
      subst this; rw [ha]; exact Int.le_refl _
  have hs : cs.filter (fun c => decide (a.noz < c.noz)) = (cs.drop (i + 1)).filter (fun c => decide (a.noz < c.noz)) := by
    conv => lhs; rw [← List.take_append_drop (i + 1) cs]
    rw [List.filter_append, hn, List.nil_append]
  simp only [prJ, pairsOf, List.take_length, hs]
theorem prI_pairs {cs : List Cause} (hp : cs.Pairwise (fun a b => a.noz ≤ b.noz)) : ∀ i, i ≤ cs.length → prI cs i = pairsTo cs i
  | 0, _ => by simp [prI, pairsTo]
  | i + 1, hi => by
    obtain ⟨a, ha⟩ := getE (l := cs) (i := i) (by omega)
    rw [prI_succ ha, pairsTo_succ ha, prI_pairs hp i (by omega), prJ_pairs hp ha]
theorem states_pair {n : Nat} {froms : List Int} {s : List Cause} (h : s ∈ statesOf (causesN n froms)) : s.Pairwise (fun a b => a.noz ≠ b.noz) := by
  rcases mem_statesOf h with rfl | ⟨a, ha, rfl⟩ | ⟨a, b, rfl, ha, hb, hlt⟩
  · exact .nil
  · exact List.pairwise_singleton _ _
  · simp; omega
end Go.Dw.Seat
end
section
set_option linter.unusedSimpArgs false
set_option maxRecDepth 100000
namespace Go.Dw.Seat
open Go Go.Dw Go.Proofs Go.IntWalk
theorem c36b (p q p' q' : Bool) (a b : List (List Int)) (ha : a.length ≤ 2 ^ 36) (hb : b.length ≤ 2 ^ 36) (ha' : ∀ x ∈ a, x.length ≤ 2 ^ 36) (hb' : ∀ x ∈ b, x.length ≤ 2 ^ 36) : DCall Try.prog 36 [.c (.sl p 1 (rows (eGb p') a)), .c (.sl q 1 (rows (eGb q') b))] [] (bD (decide (a = b))) [] := by
  refine DCall.of Try.func36 sf36 hb36 (Nat.le_of_ble_eq_true rfl) (okRes_nil fun _ => rfl) ?_; simp only [s36, idxs, Nat.reduceAdd]
  repeat' (first
    | (with_reducible refine DW.seq ?_)
    | (with_reducible refine DW.block ?_)
    | (with_reducible refine DW.skip ?_)
    | (with_reducible refine DW.exit ?_)
    | (with_reducible refine DW.ret ?_)
    | (with_reducible refine DW.reg ?_)
    | (refine DW.dreg rfl (WF.of (by first | rfl | simp (disch := omega) only [go_sem, Nat.reduceLT, Nat.reduceLeDiff, Nat.reduceAdd, Nat.reduceMul, Nat.reduceEqDiff, ↓reduceIte, reduceCtorEq, Nat.reduceBEq, Nat.reduceBNe, Nat.reducePow, Int.reduceLE, Int.reduceLT, Int.reduceNeg, Int.reduceToNat, Int.reduceEq, Int.reduceAdd, Int.reduceSub, Int.reduceMul, Int.reduceBEq, Int.reduceBNe, Blk.men, Blk.keysIn])) ?_)
    | (simp (disch := omega) only [go_sem, Nat.reduceLT, Nat.reduceLeDiff, Nat.reduceAdd, Nat.reduceMul, Nat.reduceEqDiff, ↓reduceIte, reduceCtorEq, Nat.reduceBEq, Nat.reduceBNe, Nat.reducePow, Int.reduceLE, Int.reduceLT, Int.reduceNeg, Int.reduceToNat, Int.reduceEq, Int.reduceAdd, Int.reduceSub, Int.reduceMul, Int.reduceBEq, Int.reduceBNe, Blk.men, Blk.keysIn])
    | (exact retS_of rfl rfl rfl)
    | (refine DW.cond_tt rfl ?_)
    | (refine DW.cond_ff rfl ?_)
    | (refine DW.cond rfl ?_ ?_ <;> intro hc <;> (try simp only [go_sem] at hc))
    | (refine g_split ?_ ?_ <;> intro hc <;> (try simp only [hc]) <;> (try simp only [go_sem] at hc)))
  · refine retS_of rfl ?_ rfl; simp only [oneD, St.op, get, Nat.reduceEqDiff, ↓reduceIte, Option.getD_some, bD, dI]
    have : a ≠ b := by rintro rfl; simp_all
    simp only [this, decide_false]
  refine DW.loop (ι := { i : Nat // i ≤ a.length ∧ ∀ j, j < i → a[j]? = b[j]? }) (fun i => ⟨27, [(5, dI i.1), (1, .c (.sl q 1 (rows (eGb q') b))), (0, .c (.sl p 1 (rows (eGb p') a)))], []⟩) (fun i => a.length - i.1) ⟨0, Nat.zero_le _, fun j h => by omega⟩ ?_ ?_
  · refine Ent.to ?_ ?_ <;> simp (disch := omega) only [wkT_cons, wkX_cons, wkT_nil, wkX_nil, get, Nat.reduceEqDiff, ↓reduceIte, ex_some, wk_self, wk_top, wk_nil, wkB_self, and_self, dI, i64_in, and_true, true_and, Int.natCast_add, Int.natCast_one, Int.ofNat_zero, Int.natCast_zero]
  rintro ⟨i, hi, hij⟩
  rcases at_or a i hi with ⟨v, hv, hlt, hd⟩ | ⟨he, hd⟩
  · obtain ⟨u, hu⟩ : ∃ u, b[i]? = some u := getE (by omega)
    repeat' (first
    | (with_reducible refine DW.seq ?_)
    | (with_reducible refine DW.block ?_)
    | (with_reducible refine DW.skip ?_)
    | (with_reducible refine DW.exit ?_)
    | (with_reducible refine DW.ret ?_)
    | (with_reducible refine DW.reg ?_)
    | (refine DW.dreg rfl (WF.of (by first | rfl | simp (disch := omega) only [go_sem, Nat.reduceLT, Nat.reduceLeDiff, Nat.reduceAdd, Nat.reduceMul, Nat.reduceEqDiff, ↓reduceIte, reduceCtorEq, Nat.reduceBEq, Nat.reduceBNe, Nat.reducePow, Int.reduceLE, Int.reduceLT, Int.reduceNeg, Int.reduceToNat, Int.reduceEq, Int.reduceAdd, Int.reduceSub, Int.reduceMul, Int.reduceBEq, Int.reduceBNe, Blk.men, Blk.keysIn, hd, hv, hu])) ?_)
    | (simp (disch := omega) only [go_sem, Nat.reduceLT, Nat.reduceLeDiff, Nat.reduceAdd, Nat.reduceMul, Nat.reduceEqDiff, ↓reduceIte, reduceCtorEq, Nat.reduceBEq, Nat.reduceBNe, Nat.reducePow, Int.reduceLE, Int.reduceLT, Int.reduceNeg, Int.reduceToNat, Int.reduceEq, Int.reduceAdd, Int.reduceSub, Int.reduceMul, Int.reduceBEq, Int.reduceBNe, Blk.men, Blk.keysIn, hd, hv, hu])
    | (exact retS_of rfl rfl rfl)
    | (refine DW.cond_tt rfl ?_)
    | (refine DW.cond_ff rfl ?_)
    | (refine DW.cond rfl ?_ ?_ <;> intro hc <;> (try simp only [go_sem] at hc))
    | (refine g_split ?_ ?_ <;> intro hc <;> (try simp only [hc]) <;> (try simp only [go_sem] at hc)))
    (refine call_c (c21 p' q' v u (ha' v (List.mem_of_getElem? hv)) (hb' u (List.mem_of_getElem? hu))) (by decide) ?_; simp (disch := omega) only [go_sem, Nat.reduceLT, Nat.reduceLeDiff, Nat.reduceAdd, Nat.reduceMul, Nat.reduceEqDiff, ↓reduceIte, reduceCtorEq, Nat.reduceBEq, Nat.reduceBNe, Nat.reducePow, Int.reduceLE, Int.reduceLT, Int.reduceNeg, Int.reduceToNat, Int.reduceEq, Int.reduceAdd, Int.reduceSub, Int.reduceMul, Int.reduceBEq, Int.reduceBNe, Blk.men, Blk.keysIn])
    repeat' (first
    | (with_reducible refine DW.seq ?_)
    | (with_reducible refine DW.block ?_)
    | (with_reducible refine DW.skip ?_)
    | (with_reducible refine DW.exit ?_)
    | (with_reducible refine DW.ret ?_)
    | (with_reducible refine DW.reg ?_)
    | (refine DW.dreg rfl (WF.of (by first | rfl | simp (disch := omega) only [go_sem, Nat.reduceLT, Nat.reduceLeDiff, Nat.reduceAdd, Nat.reduceMul, Nat.reduceEqDiff, ↓reduceIte, reduceCtorEq, Nat.reduceBEq, Nat.reduceBNe, Nat.reducePow, Int.reduceLE, Int.reduceLT, Int.reduceNeg, Int.reduceToNat, Int.reduceEq, Int.reduceAdd, Int.reduceSub, Int.reduceMul, Int.reduceBEq, Int.reduceBNe, Blk.men, Blk.keysIn])) ?_)
    | (simp (disch := omega) only [go_sem, Nat.reduceLT, Nat.reduceLeDiff, Nat.reduceAdd, Nat.reduceMul, Nat.reduceEqDiff, ↓reduceIte, reduceCtorEq, Nat.reduceBEq, Nat.reduceBNe, Nat.reducePow, Int.reduceLE, Int.reduceLT, Int.reduceNeg, Int.reduceToNat, Int.reduceEq, Int.reduceAdd, Int.reduceSub, Int.reduceMul, Int.reduceBEq, Int.reduceBNe, Blk.men, Blk.keysIn])
    | (exact retS_of rfl rfl rfl)
    | (refine DW.cond_tt rfl ?_)
    | (refine DW.cond_ff rfl ?_)
    | (refine DW.cond rfl ?_ ?_ <;> intro hc <;> (try simp only [go_sem] at hc))
    | (refine g_split ?_ ?_ <;> intro hc <;> (try simp only [hc]) <;> (try simp only [go_sem] at hc)))
    · refine retS_of rfl ?_ rfl; simp only [oneD, St.op, get, Nat.reduceEqDiff, ↓reduceIte, Option.getD_some, bD, dI]
      have : a ≠ b := by rintro rfl; simp_all
      simp only [this, decide_false]
    · refine ⟨⟨i + 1, by omega, upto1 hij (by rw [hv, hu]; congr 1)⟩, ?_, Ent.to ?_ ?_⟩ <;> first | (show _ < _; (try simp only); omega) | (simp (disch := omega) only [wkT_cons, wkX_cons, wkT_nil, wkX_nil, get, Nat.reduceEqDiff, ↓reduceIte, ex_some, wk_self, wk_top, wk_nil, wkB_self, and_self, dI, i64_in, and_true, true_and, Int.natCast_add, Int.natCast_one, Int.ofNat_zero, Int.natCast_zero])
  · repeat' (first
    | (with_reducible refine DW.seq ?_)
    | (with_reducible refine DW.block ?_)
    | (with_reducible refine DW.skip ?_)
    | (with_reducible refine DW.exit ?_)
    | (with_reducible refine DW.ret ?_)
    | (with_reducible refine DW.reg ?_)
    | (refine DW.dreg rfl (WF.of (by first | rfl | simp (disch := omega) only [go_sem, Nat.reduceLT, Nat.reduceLeDiff, Nat.reduceAdd, Nat.reduceMul, Nat.reduceEqDiff, ↓reduceIte, reduceCtorEq, Nat.reduceBEq, Nat.reduceBNe, Nat.reducePow, Int.reduceLE, Int.reduceLT, Int.reduceNeg, Int.reduceToNat, Int.reduceEq, Int.reduceAdd, Int.reduceSub, Int.reduceMul, Int.reduceBEq, Int.reduceBNe, Blk.men, Blk.keysIn, hd])) ?_)
    | (simp (disch := omega) only [go_sem, Nat.reduceLT, Nat.reduceLeDiff, Nat.reduceAdd, Nat.reduceMul, Nat.reduceEqDiff, ↓reduceIte, reduceCtorEq, Nat.reduceBEq, Nat.reduceBNe, Nat.reducePow, Int.reduceLE, Int.reduceLT, Int.reduceNeg, Int.reduceToNat, Int.reduceEq, Int.reduceAdd, Int.reduceSub, Int.reduceMul, Int.reduceBEq, Int.reduceBNe, Blk.men, Blk.keysIn, hd])
    | (exact retS_of rfl rfl rfl)
    | (refine DW.cond_tt rfl ?_)
    | (refine DW.cond_ff rfl ?_)
    | (refine DW.cond rfl ?_ ?_ <;> intro hc <;> (try simp only [go_sem] at hc))
    | (refine g_split ?_ ?_ <;> intro hc <;> (try simp only [hc]) <;> (try simp only [go_sem] at hc)))
    refine retS_of rfl ?_ rfl; simp only [oneD, St.op, get, Nat.reduceEqDiff, ↓reduceIte, Option.getD_some, bD, dI]
    have : a = b := ext_upto (by omega) (he ▸ hij)
    simp only [this, decide_true]
theorem k1 : boxOut ⟨6, [14, 18]⟩ [⟨0, 2, 0⟩, ⟨1, 2, 5⟩] 5 = [30, 54] ∧ boxErr ⟨6, [14, 18]⟩ [⟨0, 2, 0⟩, ⟨1, 2, 5⟩] 5 = 0 := ⟨by kernel_rfl, by kernel_rfl⟩
theorem k2 : boxOut ⟨6, [14, 18]⟩ [⟨0, 1, 3⟩, ⟨1, 3, 0⟩] 2 = [14, 0] ∧ boxErr ⟨6, [14, 18]⟩ [⟨0, 1, 3⟩, ⟨1, 3, 0⟩] 2 = 0 := ⟨by kernel_rfl, by kernel_rfl⟩
theorem k3 : (exOut ⟨6, [14, 18]⟩ [0] []).length = 25 ∧ exErr ⟨6, [14, 18]⟩ [0] [] = 0 := ⟨by kernel_rfl, by kernel_rfl⟩
theorem k4 : (exOut ⟨6, [14, 18]⟩ [0] [⟨0, 0, 1, false⟩]).length = 10 ∧ exErr ⟨6, [14, 18]⟩ [0] [⟨0, 0, 1, false⟩] = 0 ∧ (exOut ⟨6, [14, 18]⟩ [0] [⟨0, 0, 1, false⟩]).headD [] = [⟨0, 1, 0⟩] := ⟨by kernel_rfl, by kernel_rfl, by kernel_rfl⟩
theorem k5 : sureOut ⟨6, [14, 18]⟩ [0] [⟨0, 0, 1, false⟩] = [0] := by kernel_rfl
theorem k6 : nxAt ⟨6, [14, 18]⟩ [0] [⟨0, 0, 1, false⟩] 1 = ⟨0, 0, 2, false⟩ ∧ nxMost ⟨6, [14, 18]⟩ [0] [⟨0, 0, 1, false⟩] 1 = 5 ∧ nxErr ⟨6, [14, 18]⟩ [0] [⟨0, 0, 1, false⟩] 1 = 0 := ⟨by kernel_rfl, by kernel_rfl, by kernel_rfl⟩
theorem k7 : pressErr ⟨60, 10, 5⟩ ⟨0, 10, 20, 40⟩ = 0 ∧ pressLo ⟨60, 10, 5⟩ ⟨0, 10, 20, 40⟩ = 60 ∧ pressHi ⟨60, 10, 5⟩ ⟨0, 10, 20, 40⟩ = 72 := ⟨by kernel_rfl, by kernel_rfl, by kernel_rfl⟩
def kRooms : List Room := [⟨0, 10, 20, 40⟩, ⟨0, 10, 20, 40⟩, ⟨0, 10, 20, 40⟩, ⟨0, 10, 20, 40⟩]
theorem k8 : opOut (pressLo ⟨60, 10, 5⟩) ⟨60, 10, 5⟩ kRooms [59, 60, 71, 72] = [0] ∧ opOut (pressHi ⟨60, 10, 5⟩) ⟨60, 10, 5⟩ kRooms [59, 60, 71, 72] = [0, 1, 2] ∧ opErr ⟨60, 10, 5⟩ kRooms [59, 60, 71, 72] = 0 := ⟨by kernel_rfl, by kernel_rfl, by kernel_rfl⟩
theorem k9 : alOut ⟨6, [14, 18]⟩ [[], [⟨0, 4, 0⟩], [⟨0, 4, 2⟩]] 1 = [[0, 1, 2]] ∧ alErr ⟨6, [14, 18]⟩ [[], [⟨0, 4, 0⟩], [⟨0, 4, 2⟩]] 1 = 0 := ⟨by kernel_rfl, by kernel_rfl⟩
theorem k10 : apAt ⟨6, [14, 18]⟩ [⟨0, 4, 0⟩] [] 2 = ⟨1, 0, 1, false⟩ ∧ apErr ⟨6, [14, 18]⟩ [⟨0, 4, 0⟩] [] 2 = 0 := ⟨by kernel_rfl, by kernel_rfl⟩
end Go.Dw.Seat
end
section
set_option linter.unusedSimpArgs false
set_option maxRecDepth 100000
namespace Go.Dw.Seat
open Go Go.Dw Go.Proofs Go.IntWalk
set_option maxHeartbeats 4000000 in
theorem c15 : DCall Try.prog 15 [] [] (bD true) [] := by
  have h55a := c55 true ⟨6, [14, 18]⟩ [⟨0, 2, 0⟩, ⟨1, 2, 5⟩] 5 (by decide) (by decide)
  rw [k1.1, k1.2] at h55a
  have h55b := c55 true ⟨6, [14, 18]⟩ [⟨0, 1, 3⟩, ⟨1, 3, 0⟩] 2 (by decide) (by decide)
  rw [k2.1, k2.2] at h55b
  have h18a := (c18 true true ⟨6, [14, 18]⟩ [0] [] (by decide) (by decide) (by decide)).weakA (l := [dP false ⟨6, [14, 18]⟩, dIs true [0], .c (.v (.slice none 0 0))])
    (.cons (.inl rfl) (.cons (.inl rfl) (.cons (.inr ⟨_, _, rfl, rfl, .nil true 4⟩) .nil)))
  rw [k3.1, k3.2] at h18a
  have h18b := c18 true true ⟨6, [14, 18]⟩ [0] [⟨0, 0, 1, false⟩] (by decide) (by decide) (by decide)
  rw [k4.1, k4.2.1, k4.2.2] at h18b
  have h19 := c19 true true ⟨6, [14, 18]⟩ [0] [⟨0, 0, 1, false⟩] (by decide) (by decide) (by decide)
  rw [k5, k4.2.1] at h19
  have h26 := c26 true true ⟨6, [14, 18]⟩ [0] [⟨0, 0, 1, false⟩] 1 (by decide) (by decide) (by decide)
  rw [k6.1, k6.2.1, k6.2.2] at h26
  have h41 := c41 ⟨60, 10, 5⟩ ⟨0, 10, 20, 40⟩
  simp only [k7.1, k7.2.1, k7.2.2, if_true] at h41
  have h39 := c39 true true ⟨60, 10, 5⟩ kRooms [59, 60, 71, 72] (by decide) (by decide)
  rw [k8.1, k8.2.1, k8.2.2] at h39
  have h35 := (c35 true true ⟨6, [14, 18]⟩ [[], [⟨0, 4, 0⟩], [⟨0, 4, 2⟩]] 1 (by decide) (by decide) (by decide)).weakA (l := [dP false ⟨6, [14, 18]⟩, .c (.sl true 1 [[.v (.slice none 0 0)], [.sl true 3 (rows eC [⟨0, 4, 0⟩])], [.sl true 3 (rows eC [⟨0, 4, 2⟩])]]), dI 1])
    (.cons (.inl rfl) (.cons (.inr ⟨_, _, rfl, rfl, .sl (.cons (.cons (.nil true 3) .nil) (.cons (.cons (.refl _) .nil) (.cons (.cons (.refl _) .nil) .nil)))⟩) (.cons (.inl rfl) .nil)))
  rw [k9.1, k9.2] at h35
  have h30 := (c30 ⟨6, [14, 18]⟩ [⟨0, 4, 0⟩] [] 2 (by decide) (by decide) (by decide)).weakA (l := [dP false ⟨6, [14, 18]⟩, dCs false [⟨0, 4, 0⟩], .c (.v (.slice none 0 0)), dI 2])
    (.cons (.inl rfl) (.cons (.inl rfl) (.cons (.inr ⟨_, _, rfl, rfl, .nil false 3⟩) (.cons (.inl rfl) .nil))))
  rw [k10.1, k10.2] at h30
  have e1 := c21 false true (nL [30, 54]) [30, 54] (by decide) (by decide)
  rw [show decide (nL [30, 54] = [30, 54]) = true from by decide] at e1
  have e2 := c21 false true (nL [14, 0]) [14, 0] (by decide) (by decide)
  rw [show decide (nL [14, 0] = [14, 0]) = true from by decide] at e2
  have e3 := c24 false true [⟨0, 1, 0⟩] [⟨0, 1, 0⟩] (by decide) (by decide)
  rw [show decide (([⟨0, 1, 0⟩] : List Cause) = [⟨0, 1, 0⟩]) = true from by decide] at e3
  have e4 := c21 false true (nL [0]) [0] (by decide) (by decide)
  rw [show decide (nL [0] = [0]) = true from by decide] at e4
  have e5 := c21 false true (nL [0, 1, 2]) [0, 1, 2] (by decide) (by decide)
  rw [show decide (nL [0, 1, 2] = [0, 1, 2]) = true from by decide] at e5
  have e6 := c36b false true false true [[0, 1, 2]] [[0, 1, 2]] (by decide) (by decide) (by decide) (by decide)
  rw [show decide (([[0, 1, 2]] : List (List Int)) = [[0, 1, 2]]) = true from by decide] at e6
  refine DCall.of Try.func15 sf15 hb15 (Nat.le_of_ble_eq_true rfl) (okRes_nil fun _ => rfl) ?_; simp only [s15, idxs, Nat.reduceAdd]
  repeat' (first
    | (with_reducible refine DW.seq ?_)
    | (with_reducible refine DW.block ?_)
    | (with_reducible refine DW.skip ?_)
    | (with_reducible refine DW.exit ?_)
    | (with_reducible refine DW.ret ?_)
    | (with_reducible refine DW.reg ?_)
    | (refine DW.dreg rfl (WF.of (by first | rfl | simp (disch := omega) only [go_sem, Nat.reduceLT, Nat.reduceLeDiff, Nat.reduceAdd, Nat.reduceMul, Nat.reduceEqDiff, ↓reduceIte, reduceCtorEq, Nat.reduceBEq, Nat.reduceBNe, Nat.reducePow, Int.reduceLE, Int.reduceLT, Int.reduceNeg, Int.reduceToNat, Int.reduceEq, Int.reduceAdd, Int.reduceSub, Int.reduceMul, Int.reduceBEq, Int.reduceBNe, Blk.men, Blk.keysIn])) ?_)
    | (simp (disch := omega) only [go_sem, Nat.reduceLT, Nat.reduceLeDiff, Nat.reduceAdd, Nat.reduceMul, Nat.reduceEqDiff, ↓reduceIte, reduceCtorEq, Nat.reduceBEq, Nat.reduceBNe, Nat.reducePow, Int.reduceLE, Int.reduceLT, Int.reduceNeg, Int.reduceToNat, Int.reduceEq, Int.reduceAdd, Int.reduceSub, Int.reduceMul, Int.reduceBEq, Int.reduceBNe, Blk.men, Blk.keysIn])
    | (exact retS_of rfl rfl rfl)
    | (refine DW.cond_tt rfl ?_)
    | (refine call_c (c54 _ _ _ _) (by decide) ?_)
    | (refine call_c (c62) (by decide) ?_)
    | (refine call_c (c63 _ _ _) (by decide) ?_)
    | (refine call_c (c64) (by decide) ?_)
    | (refine call_c (h55a) (by decide) ?_)
    | (refine call_c (h55b) (by decide) ?_)
    | (refine call_c (h18a) (by decide) ?_)
    | (refine call_c (h18b) (by decide) ?_)
    | (refine call_c (h19) (by decide) ?_)
    | (refine call_c (h26) (by decide) ?_)
    | (refine call_c (h41) (by decide) ?_)
    | (refine call_c (h39) (by decide) ?_)
    | (refine call_c (e1) (by decide) ?_)
    | (refine call_c (e2) (by decide) ?_)
    | (refine call_c (e3) (by decide) ?_)
    | (refine call_c (e4) (by decide) ?_)
    | (refine call_c (e5) (by decide) ?_)
    | (refine DW.cond_ff rfl ?_)
    | (refine DW.cond rfl ?_ ?_ <;> intro hc <;> (try simp only [go_sem] at hc))
    | (refine g_split ?_ ?_ <;> intro hc <;> (try simp only [hc]) <;> (try simp only [go_sem] at hc)))
  refine call_n h35 rfl ?_ (by decide) ?_
  · simp (disch := omega) only [go_sem, Nat.reduceLT, Nat.reduceLeDiff, Nat.reduceAdd, Nat.reduceMul, Nat.reduceEqDiff, ↓reduceIte, reduceCtorEq, Nat.reduceBEq, Nat.reduceBNe, Nat.reducePow, Int.reduceLE, Int.reduceLT, Int.reduceNeg, Int.reduceToNat, Int.reduceEq, Int.reduceAdd, Int.reduceSub, Int.reduceMul, Int.reduceBEq, Int.reduceBNe, Blk.men, Blk.keysIn, closeE1, closeCs1, closeC1, closedEs, closedCs, rows]
  simp (disch := omega) only [go_sem, Nat.reduceLT, Nat.reduceLeDiff, Nat.reduceAdd, Nat.reduceMul, Nat.reduceEqDiff, ↓reduceIte, reduceCtorEq, Nat.reduceBEq, Nat.reduceBNe, Nat.reducePow, Int.reduceLE, Int.reduceLT, Int.reduceNeg, Int.reduceToNat, Int.reduceEq, Int.reduceAdd, Int.reduceSub, Int.reduceMul, Int.reduceBEq, Int.reduceBNe, Blk.men, Blk.keysIn]
  repeat' (first
    | (with_reducible refine DW.seq ?_)
    | (with_reducible refine DW.block ?_)
    | (with_reducible refine DW.skip ?_)
    | (with_reducible refine DW.exit ?_)
    | (with_reducible refine DW.ret ?_)
    | (with_reducible refine DW.reg ?_)
    | (refine DW.dreg rfl (WF.of (by first | rfl | simp (disch := omega) only [go_sem, Nat.reduceLT, Nat.reduceLeDiff, Nat.reduceAdd, Nat.reduceMul, Nat.reduceEqDiff, ↓reduceIte, reduceCtorEq, Nat.reduceBEq, Nat.reduceBNe, Nat.reducePow, Int.reduceLE, Int.reduceLT, Int.reduceNeg, Int.reduceToNat, Int.reduceEq, Int.reduceAdd, Int.reduceSub, Int.reduceMul, Int.reduceBEq, Int.reduceBNe, Blk.men, Blk.keysIn])) ?_)
    | (simp (disch := omega) only [go_sem, Nat.reduceLT, Nat.reduceLeDiff, Nat.reduceAdd, Nat.reduceMul, Nat.reduceEqDiff, ↓reduceIte, reduceCtorEq, Nat.reduceBEq, Nat.reduceBNe, Nat.reducePow, Int.reduceLE, Int.reduceLT, Int.reduceNeg, Int.reduceToNat, Int.reduceEq, Int.reduceAdd, Int.reduceSub, Int.reduceMul, Int.reduceBEq, Int.reduceBNe, Blk.men, Blk.keysIn])
    | (exact retS_of rfl rfl rfl)
    | (refine DW.cond_tt rfl ?_)
    | (refine call_c (c54 _ _ _ _) (by decide) ?_)
    | (refine call_c (c62) (by decide) ?_)
    | (refine call_c (c63 _ _ _) (by decide) ?_)
    | (refine call_c (c64) (by decide) ?_)
    | (refine call_c (e1) (by decide) ?_)
    | (refine call_c (e2) (by decide) ?_)
    | (refine call_c (e3) (by decide) ?_)
    | (refine call_c (e4) (by decide) ?_)
    | (refine call_c (e5) (by decide) ?_)
    | (refine DW.cond_ff rfl ?_)
    | (refine DW.cond rfl ?_ ?_ <;> intro hc <;> (try simp only [go_sem] at hc))
    | (refine g_split ?_ ?_ <;> intro hc <;> (try simp only [hc]) <;> (try simp only [go_sem] at hc)))
  refine call_e (Ent.rel 105 rfl) h30 rfl rfl (by decide) ?_
  simp (disch := omega) only [go_sem, Nat.reduceLT, Nat.reduceLeDiff, Nat.reduceAdd, Nat.reduceMul, Nat.reduceEqDiff, ↓reduceIte, reduceCtorEq, Nat.reduceBEq, Nat.reduceBNe, Nat.reducePow, Int.reduceLE, Int.reduceLT, Int.reduceNeg, Int.reduceToNat, Int.reduceEq, Int.reduceAdd, Int.reduceSub, Int.reduceMul, Int.reduceBEq, Int.reduceBNe, Blk.men, Blk.keysIn]
  repeat' (first
    | (with_reducible refine DW.seq ?_)
    | (with_reducible refine DW.block ?_)
    | (with_reducible refine DW.skip ?_)
    | (with_reducible refine DW.exit ?_)
    | (with_reducible refine DW.ret ?_)
    | (with_reducible refine DW.reg ?_)
    | (refine DW.dreg rfl (WF.of (by first | rfl | simp (disch := omega) only [go_sem, Nat.reduceLT, Nat.reduceLeDiff, Nat.reduceAdd, Nat.reduceMul, Nat.reduceEqDiff, ↓reduceIte, reduceCtorEq, Nat.reduceBEq, Nat.reduceBNe, Nat.reducePow, Int.reduceLE, Int.reduceLT, Int.reduceNeg, Int.reduceToNat, Int.reduceEq, Int.reduceAdd, Int.reduceSub, Int.reduceMul, Int.reduceBEq, Int.reduceBNe, Blk.men, Blk.keysIn])) ?_)
    | (simp (disch := omega) only [go_sem, Nat.reduceLT, Nat.reduceLeDiff, Nat.reduceAdd, Nat.reduceMul, Nat.reduceEqDiff, ↓reduceIte, reduceCtorEq, Nat.reduceBEq, Nat.reduceBNe, Nat.reducePow, Int.reduceLE, Int.reduceLT, Int.reduceNeg, Int.reduceToNat, Int.reduceEq, Int.reduceAdd, Int.reduceSub, Int.reduceMul, Int.reduceBEq, Int.reduceBNe, Blk.men, Blk.keysIn])
    | (exact retS_of rfl rfl rfl)
    | (refine DW.cond_tt rfl ?_)
    | (refine call_c (c54 _ _ _ _) (by decide) ?_)
    | (refine call_c (c62) (by decide) ?_)
    | (refine call_c (c63 _ _ _) (by decide) ?_)
    | (refine call_c (c64) (by decide) ?_)
    | (refine call_c (e1) (by decide) ?_)
    | (refine call_c (e2) (by decide) ?_)
    | (refine call_c (e3) (by decide) ?_)
    | (refine call_c (e4) (by decide) ?_)
    | (refine call_c (e5) (by decide) ?_)
    | (refine DW.cond_ff rfl ?_)
    | (refine DW.cond rfl ?_ ?_ <;> intro hc <;> (try simp only [go_sem] at hc))
    | (refine g_split ?_ ?_ <;> intro hc <;> (try simp only [hc]) <;> (try simp only [go_sem] at hc)))
  refine call_n e6 rfl ?_ (by decide) ?_
  · simp (disch := omega) only [go_sem, Nat.reduceLT, Nat.reduceLeDiff, Nat.reduceAdd, Nat.reduceMul, Nat.reduceEqDiff, ↓reduceIte, reduceCtorEq, Nat.reduceBEq, Nat.reduceBNe, Nat.reducePow, Int.reduceLE, Int.reduceLT, Int.reduceNeg, Int.reduceToNat, Int.reduceEq, Int.reduceAdd, Int.reduceSub, Int.reduceMul, Int.reduceBEq, Int.reduceBNe, Blk.men, Blk.keysIn, closeE1, closeCs1, closeC1, closedEs, closedCs, rows]
  simp (disch := omega) only [go_sem, Nat.reduceLT, Nat.reduceLeDiff, Nat.reduceAdd, Nat.reduceMul, Nat.reduceEqDiff, ↓reduceIte, reduceCtorEq, Nat.reduceBEq, Nat.reduceBNe, Nat.reducePow, Int.reduceLE, Int.reduceLT, Int.reduceNeg, Int.reduceToNat, Int.reduceEq, Int.reduceAdd, Int.reduceSub, Int.reduceMul, Int.reduceBEq, Int.reduceBNe, Blk.men, Blk.keysIn]
  repeat' (first
    | (with_reducible refine DW.seq ?_)
    | (with_reducible refine DW.block ?_)
    | (with_reducible refine DW.skip ?_)
    | (with_reducible refine DW.exit ?_)
    | (with_reducible refine DW.ret ?_)
    | (with_reducible refine DW.reg ?_)
    | (refine DW.dreg rfl (WF.of (by first | rfl | simp (disch := omega) only [go_sem, Nat.reduceLT, Nat.reduceLeDiff, Nat.reduceAdd, Nat.reduceMul, Nat.reduceEqDiff, ↓reduceIte, reduceCtorEq, Nat.reduceBEq, Nat.reduceBNe, Nat.reducePow, Int.reduceLE, Int.reduceLT, Int.reduceNeg, Int.reduceToNat, Int.reduceEq, Int.reduceAdd, Int.reduceSub, Int.reduceMul, Int.reduceBEq, Int.reduceBNe, Blk.men, Blk.keysIn])) ?_)
    | (simp (disch := omega) only [go_sem, Nat.reduceLT, Nat.reduceLeDiff, Nat.reduceAdd, Nat.reduceMul, Nat.reduceEqDiff, ↓reduceIte, reduceCtorEq, Nat.reduceBEq, Nat.reduceBNe, Nat.reducePow, Int.reduceLE, Int.reduceLT, Int.reduceNeg, Int.reduceToNat, Int.reduceEq, Int.reduceAdd, Int.reduceSub, Int.reduceMul, Int.reduceBEq, Int.reduceBNe, Blk.men, Blk.keysIn])
    | (exact retS_of rfl rfl rfl)
    | (refine DW.cond_tt rfl ?_)
    | (refine call_c (c54 _ _ _ _) (by decide) ?_)
    | (refine DW.cond_ff rfl ?_)
    | (refine DW.cond rfl ?_ ?_ <;> intro hc <;> (try simp only [go_sem] at hc))
    | (refine g_split ?_ ?_ <;> intro hc <;> (try simp only [hc]) <;> (try simp only [go_sem] at hc)))
end Go.Dw.Seat
end
section
set_option linter.unusedSimpArgs false
set_option maxRecDepth 100000
namespace Go.Dw.Seat
open Go Go.Dw Go.Proofs Go.ChangeShapes Go.WideShapes Go.ChangeAt Go.RowKit
theorem tOwn : ownKnob Try.prog.godebug = none := by kernel_rfl
theorem tLaid : laidOutB Try.prog = true := by kernel_rfl
theorem u4 : Try.prog.underlying 4 = some .bool := by kernel_rfl
theorem u32 : Try.prog.underlying 32 = some (.slice 104) := by kernel_rfl
section
variable {H : Type} {enc : TypeId × Value → H} {w : World} {base : Nat} {spare : Nat → Bool} {held : Bool} {fuel : Nat} {cs : List Value} {x : DataW H × List MemPlace}
end
end Go.Dw.Seat
namespace Go.Proofs.Ytecgononbfgigaa
end Go.Proofs.Ytecgononbfgigaa
end
section
set_option linter.unusedSimpArgs false
set_option maxRecDepth 100000
namespace Go.Dw.Seat
open Go Go.Dw Go.Proofs Go.IntWalk
theorem und5 : Try.prog.underlying 5 = some (.int .u8) := by kernel_rfl
theorem und116 : Try.prog.underlying 116 = some (.int .u16) := by kernel_rfl
attribute [go_sem] und5 und116
structure Line where
  steps : Nat
  noz : List Nat
  f0 : Nat
  f1 : Nat
  f2 : Nat
  a0 : Nat
  a1 : Nat
  a2 : Nat
  b0 : Nat
  b1 : Nat
  b2 : Nat
  many : Nat
def eU (v : Nat) : List C := [.v (.int .u16 v)]
abbrev d8 (n : Nat) : D := .c (.v (.int .u8 n))
abbrev dL (b : Bool) (x : Line) : D := .agg [d8 x.steps, .c (.sl b 1 (rows eU x.noz)), d8 x.f0, d8 x.f1, d8 x.f2, d8 x.a0, d8 x.a1, d8 x.a2, d8 x.b0, d8 x.b1, d8 x.b2, d8 x.many]
attribute [go_sem] d8 dL eU
structure Line.ok (x : Line) : Prop where
  steps : x.steps < 256
  noz : ∀ v ∈ x.noz, v < 65536
  f0 : x.f0 < 256
  f1 : x.f1 < 256
  f2 : x.f2 < 256
  a0 : x.a0 < 256
  a1 : x.a1 < 256
  a2 : x.a2 < 256
  b0 : x.b0 < 256
  b1 : x.b1 < 256
  b2 : x.b2 < 256
  many : x.many < 256
theorem tmod_nat (m k : Nat) : (m : Int).tmod (k : Int) = ((m % k : Nat) : Int) := by
  rw [Int.tmod_eq_emod_of_nonneg (by omega)]; simp
theorem tmod3 (m : Nat) : (m : Int).tmod 3 = ((m % 3 : Nat) : Int) := tmod_nat m 3
theorem tmod4 (m : Nat) : (m : Int).tmod 4 = ((m % 4 : Nat) : Int) := tmod_nat m 4
theorem tmod9 (m : Nat) : (m : Int).tmod 9 = ((m % 9 : Nat) : Int) := tmod_nat m 9
theorem tmod15 (m : Nat) : (m : Int).tmod 15 = ((m % 15 : Nat) : Int) := tmod_nat m 15
def Line.g0 (x : Line) : Nat := x.f0 % 3
def Line.g1 (x : Line) : Nat := x.g0 + 1 + x.f1 % 3
def Line.g2 (x : Line) : Nat := x.g1 + 1 + x.f2 % 3
def fromsN (x : Line) : List Nat := [x.g0, x.g1, x.g2]
def atI (x : Line) : Nat → Int
  | 0 => -1
  | 1 => x.g0
  | 2 => x.g1
  | _ => x.g2
def frI (x : Line) : Nat → List Nat
  | 0 => []
  | 1 => [x.g0]
  | 2 => [x.g0, x.g1]
  | _ => [x.g0, x.g1, x.g2]
theorem c45 (b : Bool) (x : Line) (hx : x.ok) : DCall Try.prog 45 [dL b x] [] (dIs false (nL (fromsN x))) [] := by
  have h0 := hx.f0
  have h1 := hx.f1
  have h2 := hx.f2
  have m0 : x.f0 % 3 < 3 := Nat.mod_lt _ (by decide)
  have m1 : x.f1 % 3 < 3 := Nat.mod_lt _ (by decide)
  have m2 : x.f2 % 3 < 3 := Nat.mod_lt _ (by decide)
  have e0 : (-1 : Int) + (1 + ((x.f0 % 3 : Nat) : Int)) = (x.g0 : Nat) := by simp only [Line.g0]; omega
  have e1 : ((x.g0 : Nat) : Int) + (1 + ((x.f1 % 3 : Nat) : Int)) = (x.g1 : Nat) := by simp only [Line.g1]; omega
  have e2 : ((x.g1 : Nat) : Int) + (1 + ((x.f2 % 3 : Nat) : Int)) = (x.g2 : Nat) := by simp only [Line.g2]; omega
  have b0 : x.g0 < 10 := by simp only [Line.g0]; omega
  have b1 : x.g1 < 20 := by simp only [Line.g1]; omega
  have b2 : x.g2 < 30 := by simp only [Line.g2]; omega
  refine DCall.of Try.func45 sf45 hb45 (Nat.le_of_ble_eq_true rfl) (okRes_nil fun _ => rfl) ?_; simp only [s45, idxs, Nat.reduceAdd]
  repeat' (first
    | (with_reducible refine DW.seq ?_)
    | (with_reducible refine DW.block ?_)
    | (with_reducible refine DW.skip ?_)
    | (with_reducible refine DW.exit ?_)
    | (with_reducible refine DW.ret ?_)
    | (with_reducible refine DW.reg ?_)
    | (simp (disch := omega) only [go_sem, Nat.reduceLT, Nat.reduceLeDiff, Nat.reduceAdd, Nat.reduceMul, Nat.reduceEqDiff, ↓reduceIte, reduceCtorEq, Nat.reduceBEq, Nat.reduceBNe, Nat.reducePow, Int.reduceLE, Int.reduceLT, Int.reduceNeg, Int.reduceToNat, Int.reduceEq, Int.reduceAdd, Int.reduceSub, Int.reduceMul, Int.reduceBEq, Int.reduceBNe, Blk.men, Blk.keysIn])
    | (exact retS_of rfl rfl rfl)
    | (refine DW.cond_tt rfl ?_)
    | (refine DW.cond_ff rfl ?_)
    | (refine DW.cond rfl ?_ ?_ <;> intro hc <;> (try simp only [go_sem] at hc))
    | (refine g_split ?_ ?_ <;> intro hc <;> (try simp only [hc]) <;> (try simp only [go_sem] at hc)))
  refine DW.loop (ι := { i : Nat // i ≤ 3 }) (fun i => ⟨25, [(5, dI i.1), (4, dI (atI x i.1)), (3, .own 6), (1, .box 1 0)], [(6, .row 1 (rowC (rows eI (nL (frI x i.1))))),
    (1, .box [d8 x.steps, .c (.sl b 1 (rows eU x.noz)), d8 x.f0, d8 x.f1, d8 x.f2, d8 x.a0, d8 x.a1, d8 x.a2, d8 x.b0, d8 x.b1, d8 x.b2, d8 x.many])]⟩) (fun i => 3 - i.1) ⟨0, Nat.zero_le _⟩ ?_ ?_
  · refine Ent.to ?_ ?_ <;> simp (disch := omega) only [wkT_cons, wkX_cons, wkT_nil, wkX_nil, get, Nat.reduceEqDiff, ↓reduceIte, ex_some, wk_self, wk_top, wk_nil, wkB_self, and_self, dI, i64_in, and_true, true_and, Int.natCast_add, Int.natCast_one, Int.ofNat_zero, Int.natCast_zero, atI, d8]
    all_goals exact .refl _
  rintro ⟨i, hi⟩
  match i, hi with
  | 0, _ =>
    have r0 : nL (frI x 0) = [] := rfl
    have r1 : nL (frI x (0 + 1)) = [] ++ [((x.g0 : Nat) : Int)] := rfl
    repeat' (first
    | (with_reducible refine DW.seq ?_)
    | (with_reducible refine DW.block ?_)
    | (with_reducible refine DW.skip ?_)
    | (with_reducible refine DW.exit ?_)
    | (with_reducible refine DW.ret ?_)
    | (with_reducible refine DW.reg ?_)
    | (simp (disch := omega) only [go_sem, Nat.reduceLT, Nat.reduceLeDiff, Nat.reduceAdd, Nat.reduceMul, Nat.reduceEqDiff, ↓reduceIte, reduceCtorEq, Nat.reduceBEq, Nat.reduceBNe, Nat.reducePow, Int.reduceLE, Int.reduceLT, Int.reduceNeg, Int.reduceToNat, Int.reduceEq, Int.reduceAdd, Int.reduceSub, Int.reduceMul, Int.reduceBEq, Int.reduceBNe, Blk.men, Blk.keysIn, atI, r0, tmod3, e0])
    | (exact retS_of rfl rfl rfl)
    | (refine DW.cond_tt rfl ?_)
    | (refine DW.cond_ff rfl ?_)
    | (refine DW.cond rfl ?_ ?_ <;> intro hc <;> (try simp only [go_sem] at hc))
    | (refine g_split ?_ ?_ <;> intro hc <;> (try simp only [hc]) <;> (try simp only [go_sem] at hc)))
    refine ⟨⟨1, by omega⟩, ?_, Ent.to ?_ ?_⟩ <;> first | (show _ < _; (try simp only); omega) | (simp (disch := omega) only [wkT_cons, wkX_cons, wkT_nil, wkX_nil, get, Nat.reduceEqDiff, ↓reduceIte, ex_some, wk_self, wk_top, wk_nil, wkB_self, and_self, dI, i64_in, and_true, true_and, Int.natCast_add, Int.natCast_one, Int.ofNat_zero, Int.natCast_zero,  atI, r1, d8])
    all_goals exact .refl _
  | 1, _ =>
    have r0 : nL (frI x 1) = [((x.g0 : Nat) : Int)] := rfl
    repeat' (first
    | (with_reducible refine DW.seq ?_)
    | (with_reducible refine DW.block ?_)
    | (with_reducible refine DW.skip ?_)
    | (with_reducible refine DW.exit ?_)
    | (with_reducible refine DW.ret ?_)
    | (with_reducible refine DW.reg ?_)
    | (simp (disch := omega) only [go_sem, Nat.reduceLT, Nat.reduceLeDiff, Nat.reduceAdd, Nat.reduceMul, Nat.reduceEqDiff, ↓reduceIte, reduceCtorEq, Nat.reduceBEq, Nat.reduceBNe, Nat.reducePow, Int.reduceLE, Int.reduceLT, Int.reduceNeg, Int.reduceToNat, Int.reduceEq, Int.reduceAdd, Int.reduceSub, Int.reduceMul, Int.reduceBEq, Int.reduceBNe, Blk.men, Blk.keysIn, atI, r0, tmod3, e1])
    | (exact retS_of rfl rfl rfl)
    | (refine DW.cond_tt rfl ?_)
    | (refine DW.cond_ff rfl ?_)
    | (refine DW.cond rfl ?_ ?_ <;> intro hc <;> (try simp only [go_sem] at hc))
    | (refine g_split ?_ ?_ <;> intro hc <;> (try simp only [hc]) <;> (try simp only [go_sem] at hc)))
    refine ⟨⟨2, by omega⟩, ?_, Ent.to ?_ ?_⟩ <;> first | (show _ < _; (try simp only); omega) | (simp (disch := omega) only [wkT_cons, wkX_cons, wkT_nil, wkX_nil, get, Nat.reduceEqDiff, ↓reduceIte, ex_some, wk_self, wk_top, wk_nil, wkB_self, and_self, dI, i64_in, and_true, true_and, Int.natCast_add, Int.natCast_one, Int.ofNat_zero, Int.natCast_zero,  atI, d8])
    all_goals exact .refl _
  | 2, _ =>
    have r0 : nL (frI x 2) = [((x.g0 : Nat) : Int), ((x.g1 : Nat) : Int)] := rfl
    repeat' (first
    | (with_reducible refine DW.seq ?_)
    | (with_reducible refine DW.block ?_)
    | (with_reducible refine DW.skip ?_)
    | (with_reducible refine DW.exit ?_)
    | (with_reducible refine DW.ret ?_)
    | (with_reducible refine DW.reg ?_)
    | (simp (disch := omega) only [go_sem, Nat.reduceLT, Nat.reduceLeDiff, Nat.reduceAdd, Nat.reduceMul, Nat.reduceEqDiff, ↓reduceIte, reduceCtorEq, Nat.reduceBEq, Nat.reduceBNe, Nat.reducePow, Int.reduceLE, Int.reduceLT, Int.reduceNeg, Int.reduceToNat, Int.reduceEq, Int.reduceAdd, Int.reduceSub, Int.reduceMul, Int.reduceBEq, Int.reduceBNe, Blk.men, Blk.keysIn, atI, r0, tmod3, e2])
    | (exact retS_of rfl rfl rfl)
    | (refine DW.cond_tt rfl ?_)
    | (refine DW.cond_ff rfl ?_)
    | (refine DW.cond rfl ?_ ?_ <;> intro hc <;> (try simp only [go_sem] at hc))
    | (refine g_split ?_ ?_ <;> intro hc <;> (try simp only [hc]) <;> (try simp only [go_sem] at hc)))
    refine ⟨⟨3, by omega⟩, ?_, Ent.to ?_ ?_⟩ <;> first | (show _ < _; (try simp only); omega) | (simp (disch := omega) only [wkT_cons, wkX_cons, wkT_nil, wkX_nil, get, Nat.reduceEqDiff, ↓reduceIte, ex_some, wk_self, wk_top, wk_nil, wkB_self, and_self, dI, i64_in, and_true, true_and, Int.natCast_add, Int.natCast_one, Int.ofNat_zero, Int.natCast_zero,  atI, d8])
    all_goals exact .refl _
  | 3, _ =>
    repeat' (first
    | (with_reducible refine DW.seq ?_)
    | (with_reducible refine DW.block ?_)
    | (with_reducible refine DW.skip ?_)
    | (with_reducible refine DW.exit ?_)
    | (with_reducible refine DW.ret ?_)
    | (with_reducible refine DW.reg ?_)
    | (simp (disch := omega) only [go_sem, Nat.reduceLT, Nat.reduceLeDiff, Nat.reduceAdd, Nat.reduceMul, Nat.reduceEqDiff, ↓reduceIte, reduceCtorEq, Nat.reduceBEq, Nat.reduceBNe, Nat.reducePow, Int.reduceLE, Int.reduceLT, Int.reduceNeg, Int.reduceToNat, Int.reduceEq, Int.reduceAdd, Int.reduceSub, Int.reduceMul, Int.reduceBEq, Int.reduceBNe, Blk.men, Blk.keysIn, atI])
    | (exact retS_of rfl rfl rfl)
    | (refine DW.cond_tt rfl ?_)
    | (refine DW.cond_ff rfl ?_)
    | (refine DW.cond rfl ?_ ?_ <;> intro hc <;> (try simp only [go_sem] at hc))
    | (refine g_split ?_ ?_ <;> intro hc <;> (try simp only [hc]) <;> (try simp only [go_sem] at hc)))
    (refine retS_ent (Ent.rel 6 rfl) ?_; simp (disch := omega) only [go_sem, Nat.reduceLT, Nat.reduceLeDiff, Nat.reduceAdd, Nat.reduceMul, Nat.reduceEqDiff, ↓reduceIte, reduceCtorEq, Nat.reduceBEq, Nat.reduceBNe, Nat.reducePow, Int.reduceLE, Int.reduceLT, Int.reduceNeg, Int.reduceToNat, Int.reduceEq, Int.reduceAdd, Int.reduceSub, Int.reduceMul, Int.reduceBEq, Int.reduceBNe, Blk.men, Blk.keysIn])
    refine retS_wk rfl ?_ (by simp only [Blk.nb, rowC_nb, D.nb, D.nbs, C.nb, C.nbs, C.nbss, rows_nb eI_nb, rows_nb eC_nb, rows_nb eL_nb, rows_nb eR_nb, rows_nb eS_nb, rows_nb eG_nb, Bool.and_true, Bool.not_false, Bool.and_self, bD, dI, iD]); exact .refl _
end Go.Dw.Seat
end
section
set_option linter.unusedSimpArgs false
namespace Go.Dw.Seat
open Go Go.Dw
def Line.st (x : Line) : Nat := 2 + x.steps % 9
def nozP (x : Line) : List Nat := if x.noz = [] then [0] else (x.noz.take 4).map fun v => v % 2 ^ x.st
abbrev planN (x : Line) : Plan := ⟨x.st, nL (nozP x)⟩
theorem Line.st_in (x : Line) : 2 ≤ x.st ∧ x.st ≤ 10 := by
  have : x.steps % 9 < 9 := Nat.mod_lt _ (by decide)
  unfold Line.st; omega
theorem nozP_len (x : Line) : 1 ≤ (nozP x).length ∧ (nozP x).length ≤ 4 := by
  unfold nozP
  split
  · simp
  · rename_i h
    have : x.noz.length ≠ 0 := fun e => h (List.eq_nil_of_length_eq_zero e)
    simp; omega
theorem nozP_lt (x : Line) : ∀ v ∈ nozP x, v < 2 ^ x.st := by
  have hp : 0 < 2 ^ x.st := Nat.two_pow_pos _
  intro v hv
  unfold nozP at hv
  split at hv
  · simp at hv; omega
  · obtain ⟨u, _, rfl⟩ := List.mem_map.1 hv
    exact Nat.mod_lt _ hp
def Line.n (x : Line) : Nat := (nozP x).length
def causeN (x : Line) (a b c : Nat) : Cause := ⟨((a % (nozP x).length : Nat) : Int), ((1 + b % 4 : Nat) : Int), (((fromsN x).getD (c % 3) 0 : Nat) : Int)⟩
def Line.c0 (x : Line) : Cause := causeN x x.a0 x.a1 x.a2
def Line.c1 (x : Line) : Cause := causeN x x.b0 x.b1 x.b2
def two (a b : Cause) : List Cause := if a.noz < b.noz then [a, b] else if b.noz < a.noz then [b, a] else [a]
def truthTo (x : Line) : Nat → List Cause
  | 0 => []
  | 1 => [x.c0]
  | _ => two x.c0 x.c1
def truthN (x : Line) : List Cause := truthTo x (x.many % 3)
theorem causeN_mem (x : Line) (a b c : Nat) : causeN x a b c ∈ causesN (nozP x).length (nL (fromsN x)) := by
  have h1 : a % (nozP x).length < (nozP x).length := Nat.mod_lt _ (nozP_len x).1
  have h2 : b % 4 < 4 := Nat.mod_lt _ (by decide)
  have h3 : c % 3 < 3 := Nat.mod_lt _ (by decide)
  simp only [causesN, causesZ, causesK, List.mem_flatMap, List.mem_range, List.mem_map]
  refine ⟨a % (nozP x).length, h1, b % 4, h2, (((fromsN x).getD (c % 3) 0 : Nat) : Int), ?_, ?_⟩
  · generalize c % 3 = k at *
    simp only [fromsN, nL]
    match k, h3 with
    | 0, _ => simp
    | 1, _ => simp
    | 2, _ => simp
  · simp only [causeN]; congr 1; omega
theorem mem_pairsTo' {all : List Cause} (hp : all.Pairwise (fun a b => a.noz ≤ b.noz)) {a b : Cause} (ha : a ∈ all) (hb : b ∈ all) (h : a.noz < b.noz) : [a, b] ∈ pairsTo all all.length := by
  rw [← prI_pairs hp _ (Nat.le_refl _), prI, List.take_length]
  refine List.mem_flatMap.2 ⟨a, ha, ?_⟩
  rw [prJ, List.take_length]
  exact List.mem_map.2 ⟨b, List.mem_filter.2 ⟨hb, by simpa using h⟩, rfl⟩
theorem two_mem {n : Nat} {froms : List Int} {a b : Cause} (ha : a ∈ causesN n froms) (hb : b ∈ causesN n froms) : two a b ∈ statesOf (causesN n froms) := by
  unfold two
  simp only [statesOf, List.cons_append, List.mem_cons, List.mem_append, List.mem_map]
  split
  · exact .inr (.inr (mem_pairsTo' (causes_asc froms n) ha hb (by assumption)))
  · split
    · exact .inr (.inr (mem_pairsTo' (causes_asc froms n) hb ha (by assumption)))
    · exact .inr (.inl ⟨a, ha, rfl⟩)
theorem truthN_mem (x : Line) : truthN x ∈ statesOf (causesN (nozP x).length (nL (fromsN x))) := by
  unfold truthN
  have h0 : x.c0 ∈ causesN (nozP x).length (nL (fromsN x)) := causeN_mem x _ _ _
  have h1 : x.c1 ∈ causesN (nozP x).length (nL (fromsN x)) := causeN_mem x _ _ _
  match x.many % 3 with
  | 0 => simp [truthTo, statesOf]
  | 1 => simp [truthTo, statesOf, h0]
  | _ + 2 => exact two_mem h0 h1
structure B3 where
  v0 : Nat
  v1 : Nat
  v2 : Nat
structure B3.ok (v : B3) : Prop where
  v0 : v.v0 < 256
  v1 : v.v1 < 256
  v2 : v.v2 < 256
theorem gives_none {st v : Nat} {box : Int} {z : Nat} {step : Int} : ∀ (s : List Cause) (now : Bool), (∀ c ∈ s, c.noz ≠ z) → s.foldl (gStep st v box z step) now = now
  | [], _, _ => rfl
  | c :: s, now, h => by
    have h1 : gStep st v box z step now c = now := if_neg (fun e => h c (by simp) e.1)
    rw [List.foldl_cons, h1]
    exact gives_none s now (fun c hc => h c (by simp [hc]))
theorem gives_kind {st v : Nat} {box : Int} {z : Nat} {step : Int} : ∀ (s : List Cause), s.Pairwise (fun a b => a.noz ≠ b.noz) →
    givesL st v s box z step = glueB (kindOf s box z) box (toldN st v step) (toldN st v (step - 1))
  | [], _ => by simp [givesL, kindOf, glueB]
  | c :: s, hp => by
    rw [List.pairwise_cons] at hp
    by_cases hm : c.noz = z ∧ c.frm ≤ box
    · have hno : ∀ d ∈ s, d.noz ≠ z := fun d hd e => hp.1 d hd (by rw [hm.1, e])
      have hk : kindOf (c :: s) box z = c.kind := by
        have : kindStep box z 0 c = c.kind := if_pos hm
        rw [kindOf, List.foldl_cons, this, kind_none s _ hno]
      have hg : givesL st v (c :: s) box z step = gStep st v box z step (toldN st v step) c := by
        rw [givesL, List.foldl_cons, gives_none s _ hno]
      rw [hk, hg, gStep, if_pos hm, glueB]
      repeat' split
      all_goals first | rfl | (congr 1)
    · have h1 : gStep st v box z step (toldN st v step) c = toldN st v step := if_neg hm
      have h2 : kindStep box z 0 c = 0 := if_neg hm
      have hk : kindOf (c :: s) box z = kindOf s box z := by rw [kindOf, List.foldl_cons, h2]; rfl
      have hg : givesL st v (c :: s) box z step = givesL st v s box z step := by rw [givesL, List.foldl_cons, h1]; rfl
      rw [hk, hg, gives_kind s hp.2]
theorem planN_open (x : Line) : openErr (planN x) = 0 := by
  have h1 := x.st_in
  have h2 := nozP_len x
  have h3 := nozP_lt x
  have e1 : wthn 1 16 [(x.st : Int)] = true := by rw [wthn_iff1]; omega
  have e2 : wthn 0 (2 ^ x.st - 1) (nL (nozP x)) = true := by
    simp only [wthn, Bool.not_eq_true', List.any_eq_false, Bool.or_eq_true, decide_eq_true_eq, nL, List.mem_map]
    rintro _ ⟨v, hv, rfl⟩
    have := h3 v hv
    have : (v : Int) < (2 : Int) ^ x.st := by exact_mod_cast this
    omega
  have e3 : ¬ 6 < (nL (nozP x)).length := by rw [nL_length]; omega
  have e4 : ¬ (nL (nozP x)).length = 0 := by rw [nL_length]; omega
  simp only [openErr, planN, e1, if_neg e3, if_neg e4, Int.toNat_natCast, e2, Bool.true_eq_false, if_false]
theorem froms_in (x : Line) : wthn 0 1000 (nL (fromsN x)) = true := by
  have m0 : x.f0 % 3 < 3 := Nat.mod_lt _ (by decide)
  have m1 : x.f1 % 3 < 3 := Nat.mod_lt _ (by decide)
  have m2 : x.f2 % 3 < 3 := Nat.mod_lt _ (by decide)
  simp [wthn, fromsN, nL, Line.g1, Line.g2, Line.g0]; omega
end Go.Dw.Seat
end
section
set_option linter.unusedSimpArgs false
set_option maxRecDepth 100000
namespace Go.Dw.Seat
open Go Go.Dw Go.Proofs Go.IntWalk
abbrev bxL (b : Bool) (x : Line) : Blk := .box [d8 x.steps, .c (.sl b 1 (rows eU x.noz)), d8 x.f0, d8 x.f1, d8 x.f2, d8 x.a0, d8 x.a1, d8 x.a2, d8 x.b0, d8 x.b1, d8 x.b2, d8 x.many]
attribute [go_sem] bxL
def mk44 (b : Bool) (x : Line) : Nat → St
  | 0 => ⟨50, [(4, dI 0), (3, .box 3 0), (2, .box 2 0), (1, .box 1 0)], [(3, .box [dI x.st, .c (.v (.slice none 0 0))]), (2, .box [dI 0, .c (.v (.slice none 0 0))]), (1, bxL b x)]⟩
  | j + 1 => ⟨50, [(4, dI ((j + 1 : Nat) : Int)), (3, .box 3 0), (2, .box 2 0), (1, .box 1 0)], [(47, .row 1 (rowC (rows eI (nL ((nozP x).take (j + 1)))))), (3, .box [dI x.st, .own 47]), (2, .box [dI 0, .c (.v (.slice none 0 0))]), (1, bxL b x)]⟩
theorem c44 (b : Bool) (x : Line) (hx : x.ok) : DCall Try.prog 44 [dL b x] [] (dP false (planN x)) [] := by
  have h0 := hx.steps
  have hst := x.st_in
  have hln := nozP_len x
  have m0 : x.steps % 9 < 9 := Nat.mod_lt _ (by decide)
  have e0 : (2 : Int) + ((x.steps % 9 : Nat) : Int) = (x.st : Nat) := by simp only [Line.st]; omega
  have hpw : 2 ^ x.st ≤ 2 ^ 10 := Nat.pow_le_pow_right (by decide) hst.2
  have hp0 : 0 < 2 ^ x.st := Nat.two_pow_pos _
  have hshl : shlI .i64 1 (x.st : Nat) = ((2 ^ x.st : Nat) : Int) := one_shl x.st (by omega)
  have hp2 : ((2 ^ x.st : Nat) : Int) ≤ 1024 := by have : 2 ^ x.st ≤ 1024 := hpw; omega
  have hp3 : ((2 ^ x.st : Nat) : Int) ≠ 0 := by omega
  have htm : ∀ v : Nat, (v : Int).tmod ((2 ^ x.st : Nat) : Int) = ((v % 2 ^ x.st : Nat) : Int) := fun v => tmod_nat v _
  refine DCall.of Try.func44 sf44 hb44 (Nat.le_of_ble_eq_true rfl) (okRes_nil fun _ => rfl) ?_; simp only [s44, idxs, Nat.reduceAdd]
  repeat' (first
    | (with_reducible refine DW.seq ?_)
    | (with_reducible refine DW.block ?_)
    | (with_reducible refine DW.skip ?_)
    | (with_reducible refine DW.exit ?_)
    | (with_reducible refine DW.ret ?_)
    | (with_reducible refine DW.reg ?_)
    | (refine DW.dreg rfl (WF.of (by first | rfl | simp (disch := omega) only [go_sem, Nat.reduceLT, Nat.reduceLeDiff, Nat.reduceAdd, Nat.reduceMul, Nat.reduceEqDiff, ↓reduceIte, reduceCtorEq, Nat.reduceBEq, Nat.reduceBNe, Nat.reducePow, Int.reduceLE, Int.reduceLT, Int.reduceNeg, Int.reduceToNat, Int.reduceEq, Int.reduceAdd, Int.reduceSub, Int.reduceMul, Int.reduceBEq, Int.reduceBNe, Blk.men, Blk.keysIn, tmod9, e0])) ?_)
    | (simp (disch := omega) only [go_sem, Nat.reduceLT, Nat.reduceLeDiff, Nat.reduceAdd, Nat.reduceMul, Nat.reduceEqDiff, ↓reduceIte, reduceCtorEq, Nat.reduceBEq, Nat.reduceBNe, Nat.reducePow, Int.reduceLE, Int.reduceLT, Int.reduceNeg, Int.reduceToNat, Int.reduceEq, Int.reduceAdd, Int.reduceSub, Int.reduceMul, Int.reduceBEq, Int.reduceBNe, Blk.men, Blk.keysIn, tmod9, e0])
    | (exact retS_of rfl rfl rfl)
    | (refine DW.cond_tt rfl ?_)
    | (refine DW.cond_ff rfl ?_)
    | (refine DW.cond rfl ?_ ?_ <;> intro hc <;> (try simp only [go_sem] at hc))
    | (refine g_split ?_ ?_ <;> intro hc <;> (try simp only [hc]) <;> (try simp only [go_sem] at hc)))
  refine DW.loop (ι := { i : Nat // i ≤ (nozP x).length }) (fun i => mk44 b x i.1) (fun i => (nozP x).length - i.1) ⟨0, Nat.zero_le _⟩ ?_ ?_
  · refine Ent.to ?_ ?_ <;> simp (disch := omega) only [wkT_cons, wkX_cons, wkT_nil, wkX_nil, get, Nat.reduceEqDiff, ↓reduceIte, ex_some, wk_self, wk_top, wk_nil, wkB_self, and_self, dI, i64_in, and_true, true_and, Int.natCast_add, Int.natCast_one, Int.ofNat_zero, Int.natCast_zero, mk44, d8]
    all_goals exact .refl _
  rintro ⟨i, hi⟩
  match i, hi with
  | 0, _ =>
    simp only [mk44]
    rcases at_or x.noz 0 (Nat.zero_le _) with ⟨v, hg, hlt, hd⟩ | ⟨hend, hd⟩
    · have hv := hx.noz v (List.mem_of_getElem? hg)
      have hm : v % 2 ^ x.st < 2 ^ x.st := Nat.mod_lt _ hp0
      have hz : nL ((nozP x).take (0 + 1)) = [((v % 2 ^ x.st : Nat) : Int)] := by
        cases h : x.noz with
        | nil => simp [h] at hg
        | cons u l => simp [h] at hg; simp [nozP, h, nL, hg]
      have hd' : decide ((0 : Int) < (x.noz.length : Int)) = true := hd
      repeat' (first
    | (with_reducible refine DW.seq ?_)
    | (with_reducible refine DW.block ?_)
    | (with_reducible refine DW.skip ?_)
    | (with_reducible refine DW.exit ?_)
    | (with_reducible refine DW.ret ?_)
    | (with_reducible refine DW.reg ?_)
    | (refine DW.dreg rfl (WF.of (by first | rfl | simp (disch := omega) only [go_sem, Nat.reduceLT, Nat.reduceLeDiff, Nat.reduceAdd, Nat.reduceMul, Nat.reduceEqDiff, ↓reduceIte, reduceCtorEq, Nat.reduceBEq, Nat.reduceBNe, Nat.reducePow, Int.reduceLE, Int.reduceLT, Int.reduceNeg, Int.reduceToNat, Int.reduceEq, Int.reduceAdd, Int.reduceSub, Int.reduceMul, Int.reduceBEq, Int.reduceBNe, Blk.men, Blk.keysIn, hd', hg, hshl, htm, hp3, St.men, Int.ofNat_zero])) ?_)
    | (simp (disch := omega) only [go_sem, Nat.reduceLT, Nat.reduceLeDiff, Nat.reduceAdd, Nat.reduceMul, Nat.reduceEqDiff, ↓reduceIte, reduceCtorEq, Nat.reduceBEq, Nat.reduceBNe, Nat.reducePow, Int.reduceLE, Int.reduceLT, Int.reduceNeg, Int.reduceToNat, Int.reduceEq, Int.reduceAdd, Int.reduceSub, Int.reduceMul, Int.reduceBEq, Int.reduceBNe, Blk.men, Blk.keysIn, hd', hg, hshl, htm, hp3, St.men, Int.ofNat_zero])
    | (exact retS_of rfl rfl rfl)
    | (refine DW.cond_tt rfl ?_)
    | (refine DW.cond_ff rfl ?_)
    | (refine DW.cond rfl ?_ ?_ <;> intro hc <;> (try simp only [go_sem] at hc))
    | (refine g_split ?_ ?_ <;> intro hc <;> (try simp only [hc]) <;> (try simp only [go_sem] at hc)))
      refine ⟨⟨1, hln.1⟩, ?_, Ent.to ?_ ?_⟩ <;> first | (show _ < _; (try simp only); omega) | (simp (disch := omega) only [wkT_cons, wkX_cons, wkT_nil, wkX_nil, get, Nat.reduceEqDiff, ↓reduceIte, ex_some, wk_self, wk_top, wk_nil, wkB_self, and_self, dI, i64_in, and_true, true_and, Int.natCast_add, Int.natCast_one, Int.ofNat_zero, Int.natCast_zero,  mk44, hz, d8, bxL])
      all_goals exact .refl _
    · have hz : nL ((nozP x).take (0 + 1)) = [0] := by
        have : x.noz = [] := List.eq_nil_of_length_eq_zero hend.symm
        simp [nozP, this, nL]
      have hd' : decide ((0 : Int) < (x.noz.length : Int)) = false := hd
      repeat' (first
    | (with_reducible refine DW.seq ?_)
    | (with_reducible refine DW.block ?_)
    | (with_reducible refine DW.skip ?_)
    | (with_reducible refine DW.exit ?_)
    | (with_reducible refine DW.ret ?_)
    | (with_reducible refine DW.reg ?_)
    | (refine DW.dreg rfl (WF.of (by first | rfl | simp (disch := omega) only [go_sem, Nat.reduceLT, Nat.reduceLeDiff, Nat.reduceAdd, Nat.reduceMul, Nat.reduceEqDiff, ↓reduceIte, reduceCtorEq, Nat.reduceBEq, Nat.reduceBNe, Nat.reducePow, Int.reduceLE, Int.reduceLT, Int.reduceNeg, Int.reduceToNat, Int.reduceEq, Int.reduceAdd, Int.reduceSub, Int.reduceMul, Int.reduceBEq, Int.reduceBNe, Blk.men, Blk.keysIn, hd', St.men, Int.ofNat_zero])) ?_)
    | (simp (disch := omega) only [go_sem, Nat.reduceLT, Nat.reduceLeDiff, Nat.reduceAdd, Nat.reduceMul, Nat.reduceEqDiff, ↓reduceIte, reduceCtorEq, Nat.reduceBEq, Nat.reduceBNe, Nat.reducePow, Int.reduceLE, Int.reduceLT, Int.reduceNeg, Int.reduceToNat, Int.reduceEq, Int.reduceAdd, Int.reduceSub, Int.reduceMul, Int.reduceBEq, Int.reduceBNe, Blk.men, Blk.keysIn, hd', St.men, Int.ofNat_zero])
    | (exact retS_of rfl rfl rfl)
    | (refine DW.cond_tt rfl ?_)
    | (refine DW.cond_ff rfl ?_)
    | (refine DW.cond rfl ?_ ?_ <;> intro hc <;> (try simp only [go_sem] at hc))
    | (refine g_split ?_ ?_ <;> intro hc <;> (try simp only [hc]) <;> (try simp only [go_sem] at hc)))
      refine ⟨⟨1, hln.1⟩, ?_, Ent.to ?_ ?_⟩ <;> first | (show _ < _; (try simp only); omega) | (simp (disch := omega) only [wkT_cons, wkX_cons, wkT_nil, wkX_nil, get, Nat.reduceEqDiff, ↓reduceIte, ex_some, wk_self, wk_top, wk_nil, wkB_self, and_self, dI, i64_in, and_true, true_and, Int.natCast_add, Int.natCast_one, Int.ofNat_zero, Int.natCast_zero,  mk44, hz, d8, bxL])
      all_goals exact .refl _
  | j + 1, hj =>
    simp only [mk44]
    have hj0 : (((j + 1 : Nat) : Int) == 0) = false := by rw [beq_eq_false_iff_ne]; omega
    rcases Nat.lt_or_ge (j + 1) (nozP x).length with hlt | hge
    · have hlx : j + 1 < x.noz.length ∧ j + 1 < 4 := by
        unfold nozP at hlt
        split at hlt
        · simp at hlt
        · simp at hlt; omega
      have hd : decide (((j + 1 : Nat) : Int) < (x.noz.length : Int)) = true := by rw [decide_eq_true_eq]; omega
      have hd4 : decide (((j + 1 : Nat) : Int) < 4) = true := by rw [decide_eq_true_eq]; omega
      obtain ⟨v, hg⟩ := getE (l := x.noz) (i := j + 1) hlx.1
      have hv := hx.noz v (List.mem_of_getElem? hg)
      have hm : v % 2 ^ x.st < 2 ^ x.st := Nat.mod_lt _ hp0
      have hne : x.noz ≠ [] := fun e => by simp [e] at hg
      have hpg : (nozP x)[j + 1]? = some (v % 2 ^ x.st) := by
        rw [nozP, if_neg hne, List.getElem?_map, List.getElem?_take, if_pos hlx.2, hg]; rfl
      have hz : nL ((nozP x).take (j + 1 + 1)) = nL ((nozP x).take (j + 1)) ++ [((v % 2 ^ x.st : Nat) : Int)] := by
        rw [List.take_add_one, hpg]; simp [nL]
      have hlen : (nL ((nozP x).take (j + 1))).length ≤ 4 := by rw [nL_length, List.length_take]; omega
      generalize hl0 : nL ((nozP x).take (j + 1)) = l0 at *
      repeat' (first
    | (with_reducible refine DW.seq ?_)
    | (with_reducible refine DW.block ?_)
    | (with_reducible refine DW.skip ?_)
    | (with_reducible refine DW.exit ?_)
    | (with_reducible refine DW.ret ?_)
    | (with_reducible refine DW.reg ?_)
    | (refine DW.dreg rfl (WF.of (by first | rfl | simp (disch := omega) only [go_sem, Nat.reduceLT, Nat.reduceLeDiff, Nat.reduceAdd, Nat.reduceMul, Nat.reduceEqDiff, ↓reduceIte, reduceCtorEq, Nat.reduceBEq, Nat.reduceBNe, Nat.reducePow, Int.reduceLE, Int.reduceLT, Int.reduceNeg, Int.reduceToNat, Int.reduceEq, Int.reduceAdd, Int.reduceSub, Int.reduceMul, Int.reduceBEq, Int.reduceBNe, Blk.men, Blk.keysIn, hj0, hd, hd4, hg, hshl, htm, hp3])) ?_)
    | (simp (disch := omega) only [go_sem, Nat.reduceLT, Nat.reduceLeDiff, Nat.reduceAdd, Nat.reduceMul, Nat.reduceEqDiff, ↓reduceIte, reduceCtorEq, Nat.reduceBEq, Nat.reduceBNe, Nat.reducePow, Int.reduceLE, Int.reduceLT, Int.reduceNeg, Int.reduceToNat, Int.reduceEq, Int.reduceAdd, Int.reduceSub, Int.reduceMul, Int.reduceBEq, Int.reduceBNe, Blk.men, Blk.keysIn, hj0, hd, hd4, hg, hshl, htm, hp3])
    | (exact retS_of rfl rfl rfl)
    | (refine DW.cond_tt rfl ?_)
    | (refine DW.cond_ff rfl ?_)
    | (refine DW.cond rfl ?_ ?_ <;> intro hc <;> (try simp only [go_sem] at hc))
    | (refine g_split ?_ ?_ <;> intro hc <;> (try simp only [hc]) <;> (try simp only [go_sem] at hc)))
      refine ⟨⟨j + 1 + 1, hlt⟩, ?_, Ent.to ?_ ?_⟩ <;> first | (show _ < _; (try simp only); omega) | (simp (disch := omega) only [wkT_cons, wkX_cons, wkT_nil, wkX_nil, get, Nat.reduceEqDiff, ↓reduceIte, ex_some, wk_self, wk_top, wk_nil, wkB_self, and_self, dI, i64_in, and_true, true_and, Int.natCast_add, Int.natCast_one, Int.ofNat_zero, Int.natCast_zero,  mk44, hz, d8, bxL])
      all_goals exact .refl _
    · have hend : j + 1 = (nozP x).length := by omega
      have hl0 : (nozP x).take (j + 1) = nozP x := List.take_of_length_le hge
      have hex : ¬ (j + 1 < x.noz.length ∧ j + 1 < 4) := by
        rintro ⟨h1, h2⟩
        unfold nozP at hge
        split at hge
        · rename_i h; simp [h] at h1
        · simp at hge; omega
      rw [hl0]
      rcases Nat.lt_or_ge (j + 1) x.noz.length with h1 | h1
      · have hd : decide (((j + 1 : Nat) : Int) < (x.noz.length : Int)) = true := by rw [decide_eq_true_eq]; omega
        have hd4 : decide (((j + 1 : Nat) : Int) < 4) = false := by rw [decide_eq_false_iff_not]; omega
        repeat' (first
    | (with_reducible refine DW.seq ?_)
    | (with_reducible refine DW.block ?_)
    | (with_reducible refine DW.skip ?_)
    | (with_reducible refine DW.exit ?_)
    | (with_reducible refine DW.ret ?_)
    | (with_reducible refine DW.reg ?_)
    | (refine DW.dreg rfl (WF.of (by first | rfl | simp (disch := omega) only [go_sem, Nat.reduceLT, Nat.reduceLeDiff, Nat.reduceAdd, Nat.reduceMul, Nat.reduceEqDiff, ↓reduceIte, reduceCtorEq, Nat.reduceBEq, Nat.reduceBNe, Nat.reducePow, Int.reduceLE, Int.reduceLT, Int.reduceNeg, Int.reduceToNat, Int.reduceEq, Int.reduceAdd, Int.reduceSub, Int.reduceMul, Int.reduceBEq, Int.reduceBNe, Blk.men, Blk.keysIn, hj0, hd, hd4])) ?_)
    | (simp (disch := omega) only [go_sem, Nat.reduceLT, Nat.reduceLeDiff, Nat.reduceAdd, Nat.reduceMul, Nat.reduceEqDiff, ↓reduceIte, reduceCtorEq, Nat.reduceBEq, Nat.reduceBNe, Nat.reducePow, Int.reduceLE, Int.reduceLT, Int.reduceNeg, Int.reduceToNat, Int.reduceEq, Int.reduceAdd, Int.reduceSub, Int.reduceMul, Int.reduceBEq, Int.reduceBNe, Blk.men, Blk.keysIn, hj0, hd, hd4])
    | (exact retS_of rfl rfl rfl)
    | (refine DW.cond_tt rfl ?_)
    | (refine DW.cond_ff rfl ?_)
    | (refine DW.cond rfl ?_ ?_ <;> intro hc <;> (try simp only [go_sem] at hc))
    | (refine g_split ?_ ?_ <;> intro hc <;> (try simp only [hc]) <;> (try simp only [go_sem] at hc)))
        (refine retS_ent (Ent.rel 47 rfl) ?_; simp (disch := omega) only [go_sem, Nat.reduceLT, Nat.reduceLeDiff, Nat.reduceAdd, Nat.reduceMul, Nat.reduceEqDiff, ↓reduceIte, reduceCtorEq, Nat.reduceBEq, Nat.reduceBNe, Nat.reducePow, Int.reduceLE, Int.reduceLT, Int.reduceNeg, Int.reduceToNat, Int.reduceEq, Int.reduceAdd, Int.reduceSub, Int.reduceMul, Int.reduceBEq, Int.reduceBNe, Blk.men, Blk.keysIn])
        refine retS_wk rfl ?_ (by simp only [Blk.nb, rowC_nb, D.nb, D.nbs, C.nb, C.nbs, C.nbss, rows_nb eI_nb, rows_nb eC_nb, rows_nb eL_nb, rows_nb eR_nb, rows_nb eS_nb, rows_nb eG_nb, Bool.and_true, Bool.not_false, Bool.and_self, bD, dI, iD]); exact .agg (.cons (.refl _) (.cons (.refl _) .nil))
      · have hd : decide (((j + 1 : Nat) : Int) < (x.noz.length : Int)) = false := by rw [decide_eq_false_iff_not]; omega
        repeat' (first
    | (with_reducible refine DW.seq ?_)
    | (with_reducible refine DW.block ?_)
    | (with_reducible refine DW.skip ?_)
    | (with_reducible refine DW.exit ?_)
    | (with_reducible refine DW.ret ?_)
    | (with_reducible refine DW.reg ?_)
    | (refine DW.dreg rfl (WF.of (by first | rfl | simp (disch := omega) only [go_sem, Nat.reduceLT, Nat.reduceLeDiff, Nat.reduceAdd, Nat.reduceMul, Nat.reduceEqDiff, ↓reduceIte, reduceCtorEq, Nat.reduceBEq, Nat.reduceBNe, Nat.reducePow, Int.reduceLE, Int.reduceLT, Int.reduceNeg, Int.reduceToNat, Int.reduceEq, Int.reduceAdd, Int.reduceSub, Int.reduceMul, Int.reduceBEq, Int.reduceBNe, Blk.men, Blk.keysIn, hj0, hd])) ?_)
    | (simp (disch := omega) only [go_sem, Nat.reduceLT, Nat.reduceLeDiff, Nat.reduceAdd, Nat.reduceMul, Nat.reduceEqDiff, ↓reduceIte, reduceCtorEq, Nat.reduceBEq, Nat.reduceBNe, Nat.reducePow, Int.reduceLE, Int.reduceLT, Int.reduceNeg, Int.reduceToNat, Int.reduceEq, Int.reduceAdd, Int.reduceSub, Int.reduceMul, Int.reduceBEq, Int.reduceBNe, Blk.men, Blk.keysIn, hj0, hd])
    | (exact retS_of rfl rfl rfl)
    | (refine DW.cond_tt rfl ?_)
    | (refine DW.cond_ff rfl ?_)
    | (refine DW.cond rfl ?_ ?_ <;> intro hc <;> (try simp only [go_sem] at hc))
    | (refine g_split ?_ ?_ <;> intro hc <;> (try simp only [hc]) <;> (try simp only [go_sem] at hc)))
        (refine retS_ent (Ent.rel 47 rfl) ?_; simp (disch := omega) only [go_sem, Nat.reduceLT, Nat.reduceLeDiff, Nat.reduceAdd, Nat.reduceMul, Nat.reduceEqDiff, ↓reduceIte, reduceCtorEq, Nat.reduceBEq, Nat.reduceBNe, Nat.reducePow, Int.reduceLE, Int.reduceLT, Int.reduceNeg, Int.reduceToNat, Int.reduceEq, Int.reduceAdd, Int.reduceSub, Int.reduceMul, Int.reduceBEq, Int.reduceBNe, Blk.men, Blk.keysIn])
        refine retS_wk rfl ?_ (by simp only [Blk.nb, rowC_nb, D.nb, D.nbs, C.nb, C.nbs, C.nbss, rows_nb eI_nb, rows_nb eC_nb, rows_nb eL_nb, rows_nb eR_nb, rows_nb eS_nb, rows_nb eG_nb, Bool.and_true, Bool.not_false, Bool.and_self, bD, dI, iD]); exact .agg (.cons (.refl _) (.cons (.refl _) .nil))
end Go.Dw.Seat
end
section
set_option linter.unusedSimpArgs false
set_option maxRecDepth 100000
namespace Go.Dw.Seat
open Go Go.Dw Go.Proofs Go.IntWalk
abbrev bxP (b : Bool) (x : Line) : Blk := .box [dI x.st, dIs b (nL (nozP x))]
attribute [go_sem] bxP
def mk46 (b b' : Bool) (x : Line) : Nat → St
  | 0 => ⟨76, [(7, dI 0), (6, dIs false (nL (fromsN x))), (5, .own 10), (3, .box 3 0), (2, .box 2 0)], [(10, .row 3 (rowC (rows eC []))), (3, bxP b' x), (2, bxL b x)]⟩
  | 1 => ⟨76, [(7, dI 1), (6, dIs false (nL (fromsN x))), (5, .own 10), (3, .box 3 0), (2, .box 2 0)], [(10, .row 3 (rowC (rows eC [x.c0]))), (3, bxP b' x), (2, bxL b x)]⟩
  | _ => ⟨76, [(7, dI 2), (6, dIs false (nL (fromsN x))), (5, dCs false (two x.c0 x.c1)), (3, .box 3 0), (2, .box 2 0)], [(3, bxP b' x), (2, bxL b x)]⟩
theorem froms_get (x : Line) (c : Nat) : (nL (fromsN x))[c % 3]? = some ((((fromsN x).getD (c % 3) 0 : Nat)) : Int) := by
  have h3 : c % 3 < 3 := Nat.mod_lt _ (by decide)
  generalize c % 3 = k at *
  simp only [fromsN, nL]
  match k, h3 with
  | 0, _ => simp
  | 1, _ => simp
  | 2, _ => simp
theorem c46 (b b' : Bool) (x : Line) (hx : x.ok) : DCall Try.prog 46 [dL b x, dP b' (planN x)] [] (dCs false (truthN x)) [] := by
  have h0 := hx.a0
  have h1 := hx.a1
  have h2 := hx.a2
  have h3 := hx.b0
  have h4 := hx.b1
  have h5 := hx.b2
  have h6 := hx.many
  have hln := nozP_len x
  have hm3 : x.many % 3 < 3 := Nat.mod_lt _ (by decide)
  have htm : ∀ v : Nat, (v : Int).tmod ((nozP x).length : Int) = ((v % (nozP x).length : Nat) : Int) := fun v => tmod_nat v _
  have hne : (((nozP x).length : Int) = 0) = False := eq_false (by omega)
  have p0 : x.a0 % (nozP x).length < (nozP x).length := Nat.mod_lt _ hln.1
  have p1 : x.a1 % 4 < 4 := Nat.mod_lt _ (by decide)
  have p2 : x.a2 % 3 < 3 := Nat.mod_lt _ (by decide)
  have p3 : x.b0 % (nozP x).length < (nozP x).length := Nat.mod_lt _ hln.1
  have p4 : x.b1 % 4 < 4 := Nat.mod_lt _ (by decide)
  have p5 : x.b2 % 3 < 3 := Nat.mod_lt _ (by decide)
  have g0 := froms_get x x.a2
  have g1 := froms_get x x.b2
  have e0 : ((x.a0 % (nozP x).length : Nat) : Int) = x.c0.noz := rfl
  have e1 : (1 : Int) + ((x.a1 % 4 : Nat) : Int) = x.c0.kind := by simp [Line.c0, causeN]
  have e2 : (((fromsN x).getD (x.a2 % 3) 0 : Nat) : Int) = x.c0.frm := rfl
  have e3 : ((x.b0 % (nozP x).length : Nat) : Int) = x.c1.noz := rfl
  have e4 : (1 : Int) + ((x.b1 % 4 : Nat) : Int) = x.c1.kind := by simp [Line.c1, causeN]
  have e5 : (((fromsN x).getD (x.b2 % 3) 0 : Nat) : Int) = x.c1.frm := rfl
  have hml : ((x.many : Int).tmod 3) = ((x.many % 3 : Nat) : Int) := tmod3 _
  refine DCall.of Try.func46 sf46 hb46 (Nat.le_of_ble_eq_true rfl) (okRes_nil fun _ => rfl) ?_; simp only [s46, idxs, Nat.reduceAdd]
  repeat' (first
    | (with_reducible refine DW.seq ?_)
    | (with_reducible refine DW.block ?_)
    | (with_reducible refine DW.skip ?_)
    | (with_reducible refine DW.exit ?_)
    | (with_reducible refine DW.ret ?_)
    | (with_reducible refine DW.reg ?_)
    | (refine DW.dreg rfl (WF.of (by first | rfl | simp (disch := omega) only [go_sem, Nat.reduceLT, Nat.reduceLeDiff, Nat.reduceAdd, Nat.reduceMul, Nat.reduceEqDiff, ↓reduceIte, reduceCtorEq, Nat.reduceBEq, Nat.reduceBNe, Nat.reducePow, Int.reduceLE, Int.reduceLT, Int.reduceNeg, Int.reduceToNat, Int.reduceEq, Int.reduceAdd, Int.reduceSub, Int.reduceMul, Int.reduceBEq, Int.reduceBNe, Blk.men, Blk.keysIn])) ?_)
    | (simp (disch := omega) only [go_sem, Nat.reduceLT, Nat.reduceLeDiff, Nat.reduceAdd, Nat.reduceMul, Nat.reduceEqDiff, ↓reduceIte, reduceCtorEq, Nat.reduceBEq, Nat.reduceBNe, Nat.reducePow, Int.reduceLE, Int.reduceLT, Int.reduceNeg, Int.reduceToNat, Int.reduceEq, Int.reduceAdd, Int.reduceSub, Int.reduceMul, Int.reduceBEq, Int.reduceBNe, Blk.men, Blk.keysIn])
    | (exact retS_of rfl rfl rfl)
    | (refine DW.cond_tt rfl ?_)
    | (refine call_c (c45 b x hx) (by decide) ?_)
    | (refine DW.cond_ff rfl ?_)
    | (refine DW.cond rfl ?_ ?_ <;> intro hc <;> (try simp only [go_sem] at hc))
    | (refine g_split ?_ ?_ <;> intro hc <;> (try simp only [hc]) <;> (try simp only [go_sem] at hc)))
  unfold truthN
  generalize x.many % 3 = m at *
  refine DW.loop (ι := { i : Nat // i ≤ m }) (fun i => mk46 b b' x i.1) (fun i => m - i.1) ⟨0, Nat.zero_le _⟩ ?_ ?_
  · refine Ent.to ?_ ?_ <;> simp (disch := omega) only [wkT_cons, wkX_cons, wkT_nil, wkX_nil, get, Nat.reduceEqDiff, ↓reduceIte, ex_some, wk_self, wk_top, wk_nil, wkB_self, and_self, dI, i64_in, and_true, true_and, Int.natCast_add, Int.natCast_one, Int.ofNat_zero, Int.natCast_zero, mk46, d8]
    all_goals exact .refl _
  rintro ⟨i, hi⟩
  match i, hi with
  | 0, _ =>
    simp only [mk46]
    rcases Nat.eq_zero_or_pos m with h | h
    · subst h
      repeat' (first
    | (with_reducible refine DW.seq ?_)
    | (with_reducible refine DW.block ?_)
    | (with_reducible refine DW.skip ?_)
    | (with_reducible refine DW.exit ?_)
    | (with_reducible refine DW.ret ?_)
    | (with_reducible refine DW.reg ?_)
    | (refine DW.dreg rfl (WF.of (by first | rfl | simp (disch := omega) only [go_sem, Nat.reduceLT, Nat.reduceLeDiff, Nat.reduceAdd, Nat.reduceMul, Nat.reduceEqDiff, ↓reduceIte, reduceCtorEq, Nat.reduceBEq, Nat.reduceBNe, Nat.reducePow, Int.reduceLE, Int.reduceLT, Int.reduceNeg, Int.reduceToNat, Int.reduceEq, Int.reduceAdd, Int.reduceSub, Int.reduceMul, Int.reduceBEq, Int.reduceBNe, Blk.men, Blk.keysIn, hml])) ?_)
    | (simp (disch := omega) only [go_sem, Nat.reduceLT, Nat.reduceLeDiff, Nat.reduceAdd, Nat.reduceMul, Nat.reduceEqDiff, ↓reduceIte, reduceCtorEq, Nat.reduceBEq, Nat.reduceBNe, Nat.reducePow, Int.reduceLE, Int.reduceLT, Int.reduceNeg, Int.reduceToNat, Int.reduceEq, Int.reduceAdd, Int.reduceSub, Int.reduceMul, Int.reduceBEq, Int.reduceBNe, Blk.men, Blk.keysIn, hml])
    | (exact retS_of rfl rfl rfl)
    | (refine DW.cond_tt rfl ?_)
    | (refine DW.cond_ff rfl ?_)
    | (refine DW.cond rfl ?_ ?_ <;> intro hc <;> (try simp only [go_sem] at hc))
    | (refine g_split ?_ ?_ <;> intro hc <;> (try simp only [hc]) <;> (try simp only [go_sem] at hc)))
      (refine retS_ent (Ent.rel 10 rfl) ?_; simp (disch := omega) only [go_sem, Nat.reduceLT, Nat.reduceLeDiff, Nat.reduceAdd, Nat.reduceMul, Nat.reduceEqDiff, ↓reduceIte, reduceCtorEq, Nat.reduceBEq, Nat.reduceBNe, Nat.reducePow, Int.reduceLE, Int.reduceLT, Int.reduceNeg, Int.reduceToNat, Int.reduceEq, Int.reduceAdd, Int.reduceSub, Int.reduceMul, Int.reduceBEq, Int.reduceBNe, Blk.men, Blk.keysIn])
      refine retS_wk rfl ?_ (by simp only [Blk.nb, rowC_nb, D.nb, D.nbs, C.nb, C.nbs, C.nbss, rows_nb eI_nb, rows_nb eC_nb, rows_nb eL_nb, rows_nb eR_nb, rows_nb eS_nb, rows_nb eG_nb, Bool.and_true, Bool.not_false, Bool.and_self, bD, dI, iD]); exact .refl _
    · have hd : decide ((0 : Int) < (m : Int)) = true := by rw [decide_eq_true_eq]; omega
      repeat' (first
    | (with_reducible refine DW.seq ?_)
    | (with_reducible refine DW.block ?_)
    | (with_reducible refine DW.skip ?_)
    | (with_reducible refine DW.exit ?_)
    | (with_reducible refine DW.ret ?_)
    | (with_reducible refine DW.reg ?_)
    | (refine DW.dreg rfl (WF.of (by first | rfl | simp (disch := omega) only [go_sem, Nat.reduceLT, Nat.reduceLeDiff, Nat.reduceAdd, Nat.reduceMul, Nat.reduceEqDiff, ↓reduceIte, reduceCtorEq, Nat.reduceBEq, Nat.reduceBNe, Nat.reducePow, Int.reduceLE, Int.reduceLT, Int.reduceNeg, Int.reduceToNat, Int.reduceEq, Int.reduceAdd, Int.reduceSub, Int.reduceMul, Int.reduceBEq, Int.reduceBNe, Blk.men, Blk.keysIn, hml, hd, htm, hne, tmod4, tmod3, g0, e0, e1, e2])) ?_)
    | (simp (disch := omega) only [go_sem, Nat.reduceLT, Nat.reduceLeDiff, Nat.reduceAdd, Nat.reduceMul, Nat.reduceEqDiff, ↓reduceIte, reduceCtorEq, Nat.reduceBEq, Nat.reduceBNe, Nat.reducePow, Int.reduceLE, Int.reduceLT, Int.reduceNeg, Int.reduceToNat, Int.reduceEq, Int.reduceAdd, Int.reduceSub, Int.reduceMul, Int.reduceBEq, Int.reduceBNe, Blk.men, Blk.keysIn, hml, hd, htm, hne, tmod4, tmod3, g0, e0, e1, e2])
    | (exact retS_of rfl rfl rfl)
    | (refine DW.cond_tt rfl ?_)
    | (refine call_c (c63 _ _ _) (by decide) ?_)
    | (refine DW.cond_ff rfl ?_)
    | (refine DW.cond rfl ?_ ?_ <;> intro hc <;> (try simp only [go_sem] at hc))
    | (refine g_split ?_ ?_ <;> intro hc <;> (try simp only [hc]) <;> (try simp only [go_sem] at hc)))
      refine ⟨⟨1, h⟩, ?_, Ent.to ?_ ?_⟩ <;> first | (show _ < _; (try simp only); omega) | (simp (disch := omega) only [wkT_cons, wkX_cons, wkT_nil, wkX_nil, get, Nat.reduceEqDiff, ↓reduceIte, ex_some, wk_self, wk_top, wk_nil, wkB_self, and_self, dI, i64_in, and_true, true_and, Int.natCast_add, Int.natCast_one, Int.ofNat_zero, Int.natCast_zero,  mk46, d8, bxL, bxP])
      all_goals exact .refl _
  | 1, h =>
    simp only [mk46]
    rcases Nat.lt_or_ge 1 m with hm | hm
    · have hd : decide ((1 : Int) < (m : Int)) = true := by rw [decide_eq_true_eq]; omega
      rcases Int.lt_or_le x.c0.noz x.c1.noz with hc | hc
      · have d1 : decide (x.c0.noz < x.c1.noz) = true := by rw [decide_eq_true_eq]; exact hc
        have ht : two x.c0 x.c1 = [x.c0, x.c1] := if_pos hc
        repeat' (first
    | (with_reducible refine DW.seq ?_)
    | (with_reducible refine DW.block ?_)
    | (with_reducible refine DW.skip ?_)
    | (with_reducible refine DW.exit ?_)
    | (with_reducible refine DW.ret ?_)
    | (with_reducible refine DW.reg ?_)
    | (refine DW.dreg rfl (WF.of (by first | rfl | simp (disch := omega) only [go_sem, Nat.reduceLT, Nat.reduceLeDiff, Nat.reduceAdd, Nat.reduceMul, Nat.reduceEqDiff, ↓reduceIte, reduceCtorEq, Nat.reduceBEq, Nat.reduceBNe, Nat.reducePow, Int.reduceLE, Int.reduceLT, Int.reduceNeg, Int.reduceToNat, Int.reduceEq, Int.reduceAdd, Int.reduceSub, Int.reduceMul, Int.reduceBEq, Int.reduceBNe, Blk.men, Blk.keysIn, hml, hd, htm, hne, tmod4, tmod3, g1, e3, e4, e5, d1])) ?_)
    | (simp (disch := omega) only [go_sem, Nat.reduceLT, Nat.reduceLeDiff, Nat.reduceAdd, Nat.reduceMul, Nat.reduceEqDiff, ↓reduceIte, reduceCtorEq, Nat.reduceBEq, Nat.reduceBNe, Nat.reducePow, Int.reduceLE, Int.reduceLT, Int.reduceNeg, Int.reduceToNat, Int.reduceEq, Int.reduceAdd, Int.reduceSub, Int.reduceMul, Int.reduceBEq, Int.reduceBNe, Blk.men, Blk.keysIn, hml, hd, htm, hne, tmod4, tmod3, g1, e3, e4, e5, d1])
    | (exact retS_of rfl rfl rfl)
    | (refine DW.cond_tt rfl ?_)
    | (refine call_c (c63 _ _ _) (by decide) ?_)
    | (refine DW.cond_ff rfl ?_)
    | (refine DW.cond rfl ?_ ?_ <;> intro hc <;> (try simp only [go_sem] at hc))
    | (refine g_split ?_ ?_ <;> intro hc <;> (try simp only [hc]) <;> (try simp only [go_sem] at hc)))
        refine ⟨⟨2, by omega⟩, by (show _ < _; (try simp only); omega), (Ent.rel 10 rfl).trans ?_⟩; simp (disch := omega) only [go_sem, Nat.reduceLT, Nat.reduceLeDiff, Nat.reduceAdd, Nat.reduceMul, Nat.reduceEqDiff, ↓reduceIte, reduceCtorEq, Nat.reduceBEq, Nat.reduceBNe, Nat.reducePow, Int.reduceLE, Int.reduceLT, Int.reduceNeg, Int.reduceToNat, Int.reduceEq, Int.reduceAdd, Int.reduceSub, Int.reduceMul, Int.reduceBEq, Int.reduceBNe, Blk.men, Blk.keysIn,  mk46, ht, d8, bxL, bxP]; refine Ent.to ?_ ?_ <;> (simp (disch := omega) only [wkT_cons, wkX_cons, wkT_nil, wkX_nil, get, Nat.reduceEqDiff, ↓reduceIte, ex_some, wk_self, wk_top, wk_nil, wkB_self, and_self, dI, i64_in, and_true, true_and, Int.natCast_add, Int.natCast_one, Int.ofNat_zero, Int.natCast_zero,  mk46, ht, d8, bxL, bxP])
        all_goals exact .refl _
      · have d1 : decide (x.c0.noz < x.c1.noz) = false := by rw [decide_eq_false_iff_not]; omega
        rcases Int.lt_or_le x.c1.noz x.c0.noz with hc' | hc'
        · have d2 : decide (x.c1.noz < x.c0.noz) = true := by rw [decide_eq_true_eq]; exact hc'
          have ht : two x.c0 x.c1 = [x.c1, x.c0] := by rw [two, if_neg (by omega), if_pos hc']
          repeat' (first
    | (with_reducible refine DW.seq ?_)
    | (with_reducible refine DW.block ?_)
    | (with_reducible refine DW.skip ?_)
    | (with_reducible refine DW.exit ?_)
    | (with_reducible refine DW.ret ?_)
    | (with_reducible refine DW.reg ?_)
    | (refine DW.dreg rfl (WF.of (by first | rfl | simp (disch := omega) only [go_sem, Nat.reduceLT, Nat.reduceLeDiff, Nat.reduceAdd, Nat.reduceMul, Nat.reduceEqDiff, ↓reduceIte, reduceCtorEq, Nat.reduceBEq, Nat.reduceBNe, Nat.reducePow, Int.reduceLE, Int.reduceLT, Int.reduceNeg, Int.reduceToNat, Int.reduceEq, Int.reduceAdd, Int.reduceSub, Int.reduceMul, Int.reduceBEq, Int.reduceBNe, Blk.men, Blk.keysIn, hml, hd, htm, hne, tmod4, tmod3, g1, e3, e4, e5, d1, d2])) ?_)
    | (simp (disch := omega) only [go_sem, Nat.reduceLT, Nat.reduceLeDiff, Nat.reduceAdd, Nat.reduceMul, Nat.reduceEqDiff, ↓reduceIte, reduceCtorEq, Nat.reduceBEq, Nat.reduceBNe, Nat.reducePow, Int.reduceLE, Int.reduceLT, Int.reduceNeg, Int.reduceToNat, Int.reduceEq, Int.reduceAdd, Int.reduceSub, Int.reduceMul, Int.reduceBEq, Int.reduceBNe, Blk.men, Blk.keysIn, hml, hd, htm, hne, tmod4, tmod3, g1, e3, e4, e5, d1, d2])
    | (exact retS_of rfl rfl rfl)
    | (refine DW.cond_tt rfl ?_)
    | (refine call_c (c63 _ _ _) (by decide) ?_)
    | (refine DW.cond_ff rfl ?_)
    | (refine DW.cond rfl ?_ ?_ <;> intro hc <;> (try simp only [go_sem] at hc))
    | (refine g_split ?_ ?_ <;> intro hc <;> (try simp only [hc]) <;> (try simp only [go_sem] at hc)))
          refine ⟨⟨2, by omega⟩, by (show _ < _; (try simp only); omega), (Ent.rel 74 rfl).trans ?_⟩; simp (disch := omega) only [go_sem, Nat.reduceLT, Nat.reduceLeDiff, Nat.reduceAdd, Nat.reduceMul, Nat.reduceEqDiff, ↓reduceIte, reduceCtorEq, Nat.reduceBEq, Nat.reduceBNe, Nat.reducePow, Int.reduceLE, Int.reduceLT, Int.reduceNeg, Int.reduceToNat, Int.reduceEq, Int.reduceAdd, Int.reduceSub, Int.reduceMul, Int.reduceBEq, Int.reduceBNe, Blk.men, Blk.keysIn,  mk46, ht, d8, bxL, bxP]; refine Ent.to ?_ ?_ <;> (simp (disch := omega) only [wkT_cons, wkX_cons, wkT_nil, wkX_nil, get, Nat.reduceEqDiff, ↓reduceIte, ex_some, wk_self, wk_top, wk_nil, wkB_self, and_self, dI, i64_in, and_true, true_and, Int.natCast_add, Int.natCast_one, Int.ofNat_zero, Int.natCast_zero,  mk46, ht, d8, bxL, bxP])
          all_goals exact .refl _
        · have d2 : decide (x.c1.noz < x.c0.noz) = false := by rw [decide_eq_false_iff_not]; omega
          have ht : two x.c0 x.c1 = [x.c0] := by rw [two, if_neg (by omega), if_neg (by omega)]
          repeat' (first
    | (with_reducible refine DW.seq ?_)
    | (with_reducible refine DW.block ?_)
    | (with_reducible refine DW.skip ?_)
    | (with_reducible refine DW.exit ?_)
    | (with_reducible refine DW.ret ?_)
    | (with_reducible refine DW.reg ?_)
    | (refine DW.dreg rfl (WF.of (by first | rfl | simp (disch := omega) only [go_sem, Nat.reduceLT, Nat.reduceLeDiff, Nat.reduceAdd, Nat.reduceMul, Nat.reduceEqDiff, ↓reduceIte, reduceCtorEq, Nat.reduceBEq, Nat.reduceBNe, Nat.reducePow, Int.reduceLE, Int.reduceLT, Int.reduceNeg, Int.reduceToNat, Int.reduceEq, Int.reduceAdd, Int.reduceSub, Int.reduceMul, Int.reduceBEq, Int.reduceBNe, Blk.men, Blk.keysIn, hml, hd, htm, hne, tmod4, tmod3, g1, e3, e4, e5, d1, d2])) ?_)
    | (simp (disch := omega) only [go_sem, Nat.reduceLT, Nat.reduceLeDiff, Nat.reduceAdd, Nat.reduceMul, Nat.reduceEqDiff, ↓reduceIte, reduceCtorEq, Nat.reduceBEq, Nat.reduceBNe, Nat.reducePow, Int.reduceLE, Int.reduceLT, Int.reduceNeg, Int.reduceToNat, Int.reduceEq, Int.reduceAdd, Int.reduceSub, Int.reduceMul, Int.reduceBEq, Int.reduceBNe, Blk.men, Blk.keysIn, hml, hd, htm, hne, tmod4, tmod3, g1, e3, e4, e5, d1, d2])
    | (exact retS_of rfl rfl rfl)
    | (refine DW.cond_tt rfl ?_)
    | (refine call_c (c63 _ _ _) (by decide) ?_)
    | (refine DW.cond_ff rfl ?_)
    | (refine DW.cond rfl ?_ ?_ <;> intro hc <;> (try simp only [go_sem] at hc))
    | (refine g_split ?_ ?_ <;> intro hc <;> (try simp only [hc]) <;> (try simp only [go_sem] at hc)))
          refine ⟨⟨2, by omega⟩, by (show _ < _; (try simp only); omega), (Ent.rel 10 rfl).trans ?_⟩; simp (disch := omega) only [go_sem, Nat.reduceLT, Nat.reduceLeDiff, Nat.reduceAdd, Nat.reduceMul, Nat.reduceEqDiff, ↓reduceIte, reduceCtorEq, Nat.reduceBEq, Nat.reduceBNe, Nat.reducePow, Int.reduceLE, Int.reduceLT, Int.reduceNeg, Int.reduceToNat, Int.reduceEq, Int.reduceAdd, Int.reduceSub, Int.reduceMul, Int.reduceBEq, Int.reduceBNe, Blk.men, Blk.keysIn,  mk46, ht, d8, bxL, bxP]; refine Ent.to ?_ ?_ <;> (simp (disch := omega) only [wkT_cons, wkX_cons, wkT_nil, wkX_nil, get, Nat.reduceEqDiff, ↓reduceIte, ex_some, wk_self, wk_top, wk_nil, wkB_self, and_self, dI, i64_in, and_true, true_and, Int.natCast_add, Int.natCast_one, Int.ofNat_zero, Int.natCast_zero,  mk46, ht, d8, bxL, bxP])
          all_goals exact .refl _
    · obtain rfl : m = 1 := by omega
      repeat' (first
    | (with_reducible refine DW.seq ?_)
    | (with_reducible refine DW.block ?_)
    | (with_reducible refine DW.skip ?_)
    | (with_reducible refine DW.exit ?_)
    | (with_reducible refine DW.ret ?_)
    | (with_reducible refine DW.reg ?_)
    | (refine DW.dreg rfl (WF.of (by first | rfl | simp (disch := omega) only [go_sem, Nat.reduceLT, Nat.reduceLeDiff, Nat.reduceAdd, Nat.reduceMul, Nat.reduceEqDiff, ↓reduceIte, reduceCtorEq, Nat.reduceBEq, Nat.reduceBNe, Nat.reducePow, Int.reduceLE, Int.reduceLT, Int.reduceNeg, Int.reduceToNat, Int.reduceEq, Int.reduceAdd, Int.reduceSub, Int.reduceMul, Int.reduceBEq, Int.reduceBNe, Blk.men, Blk.keysIn, hml])) ?_)
    | (simp (disch := omega) only [go_sem, Nat.reduceLT, Nat.reduceLeDiff, Nat.reduceAdd, Nat.reduceMul, Nat.reduceEqDiff, ↓reduceIte, reduceCtorEq, Nat.reduceBEq, Nat.reduceBNe, Nat.reducePow, Int.reduceLE, Int.reduceLT, Int.reduceNeg, Int.reduceToNat, Int.reduceEq, Int.reduceAdd, Int.reduceSub, Int.reduceMul, Int.reduceBEq, Int.reduceBNe, Blk.men, Blk.keysIn, hml])
    | (exact retS_of rfl rfl rfl)
    | (refine DW.cond_tt rfl ?_)
    | (refine DW.cond_ff rfl ?_)
    | (refine DW.cond rfl ?_ ?_ <;> intro hc <;> (try simp only [go_sem] at hc))
    | (refine g_split ?_ ?_ <;> intro hc <;> (try simp only [hc]) <;> (try simp only [go_sem] at hc)))
      (refine retS_ent (Ent.rel 10 rfl) ?_; simp (disch := omega) only [go_sem, Nat.reduceLT, Nat.reduceLeDiff, Nat.reduceAdd, Nat.reduceMul, Nat.reduceEqDiff, ↓reduceIte, reduceCtorEq, Nat.reduceBEq, Nat.reduceBNe, Nat.reducePow, Int.reduceLE, Int.reduceLT, Int.reduceNeg, Int.reduceToNat, Int.reduceEq, Int.reduceAdd, Int.reduceSub, Int.reduceMul, Int.reduceBEq, Int.reduceBNe, Blk.men, Blk.keysIn])
      refine retS_wk rfl ?_ (by simp only [Blk.nb, rowC_nb, D.nb, D.nbs, C.nb, C.nbs, C.nbss, rows_nb eI_nb, rows_nb eC_nb, rows_nb eL_nb, rows_nb eR_nb, rows_nb eS_nb, rows_nb eG_nb, Bool.and_true, Bool.not_false, Bool.and_self, bD, dI, iD]); exact .refl _
  | 2, h =>
    obtain rfl : m = 2 := by omega
    simp only [mk46]
    repeat' (first
    | (with_reducible refine DW.seq ?_)
    | (with_reducible refine DW.block ?_)
    | (with_reducible refine DW.skip ?_)
    | (with_reducible refine DW.exit ?_)
    | (with_reducible refine DW.ret ?_)
    | (with_reducible refine DW.reg ?_)
    | (refine DW.dreg rfl (WF.of (by first | rfl | simp (disch := omega) only [go_sem, Nat.reduceLT, Nat.reduceLeDiff, Nat.reduceAdd, Nat.reduceMul, Nat.reduceEqDiff, ↓reduceIte, reduceCtorEq, Nat.reduceBEq, Nat.reduceBNe, Nat.reducePow, Int.reduceLE, Int.reduceLT, Int.reduceNeg, Int.reduceToNat, Int.reduceEq, Int.reduceAdd, Int.reduceSub, Int.reduceMul, Int.reduceBEq, Int.reduceBNe, Blk.men, Blk.keysIn, hml])) ?_)
    | (simp (disch := omega) only [go_sem, Nat.reduceLT, Nat.reduceLeDiff, Nat.reduceAdd, Nat.reduceMul, Nat.reduceEqDiff, ↓reduceIte, reduceCtorEq, Nat.reduceBEq, Nat.reduceBNe, Nat.reducePow, Int.reduceLE, Int.reduceLT, Int.reduceNeg, Int.reduceToNat, Int.reduceEq, Int.reduceAdd, Int.reduceSub, Int.reduceMul, Int.reduceBEq, Int.reduceBNe, Blk.men, Blk.keysIn, hml])
    | (exact retS_of rfl rfl rfl)
    | (refine DW.cond_tt rfl ?_)
    | (refine DW.cond_ff rfl ?_)
    | (refine DW.cond rfl ?_ ?_ <;> intro hc <;> (try simp only [go_sem] at hc))
    | (refine g_split ?_ ?_ <;> intro hc <;> (try simp only [hc]) <;> (try simp only [go_sem] at hc)))
    refine retS_wk rfl ?_ (by simp only [Blk.nb, rowC_nb, D.nb, D.nbs, C.nb, C.nbs, C.nbss, rows_nb eI_nb, rows_nb eC_nb, rows_nb eL_nb, rows_nb eR_nb, rows_nb eS_nb, rows_nb eG_nb, Bool.and_true, Bool.not_false, Bool.and_self, bD, dI, iD]); exact .refl _
  | i + 3, h => exact absurd h (by omega)
end Go.Dw.Seat
end
section
set_option linter.unusedSimpArgs false
set_option maxRecDepth 100000
namespace Go.Dw.Seat
open Go Go.Dw Go.Proofs Go.IntWalk
def eV (v : B3) : List C := [.v (.int .u8 v.v0), .v (.int .u8 v.v1), .v (.int .u8 v.v2)]
attribute [go_sem] eV
abbrev dV (b : Bool) (l : List B3) : D := .c (.sl b 3 (rows eV l))
attribute [go_sem] dV
end Go.Dw.Seat
end
section
set_option linter.unusedSimpArgs false
namespace Go.Dw.Seat
open Go Go.Dw
theorem truthN_len (x : Line) : (truthN x).length ≤ 2 := (valid_statesOf (truthN_mem x)).1
end Go.Dw.Seat
end
section
set_option linter.unusedSimpArgs false
set_option maxRecDepth 100000
namespace Go.Dw.Seat
open Go Go.Dw Go.Proofs Go.ChangeShapes Go.WideShapes Go.ChangeAt Go.RowKit
theorem u89 : Try.prog.underlying 89 = some (.slice 116) := by kernel_rfl
theorem u90 : Try.prog.underlying 90 = some (.array 3 5) := by kernel_rfl
theorem u91 : Try.prog.underlying 91 = some (.array 2 90) := by kernel_rfl
theorem cells5 : Try.prog.cellsOf 5 = 1 := by kernel_rfl
theorem cells89 : Try.prog.cellsOf 89 = 1 := by kernel_rfl
theorem cells90 : Try.prog.cellsOf 90 = 3 := by kernel_rfl
theorem cells91 : Try.prog.cellsOf 91 = 6 := by kernel_rfl
theorem cells93 : Try.prog.cellsOf 93 = 12 := by kernel_rfl
theorem cells116 : Try.prog.cellsOf 116 = 1 := by kernel_rfl
theorem st93 : structIs Try.prog 93 [(5, 0), (89, 1), (90, 2), (91, 5), (5, 11)] = true := by kernel_rfl
section
variable {H : Type} {enc : TypeId × Value → H} {w : World} {base : Nat} {spare : Nat → Bool} {held : Bool} {fuel : Nat} {cs : List Value} {x : DataW H × List MemPlace}
theorem wf8 {n : Int} (h : (Lit.int .u8 n).wf = true) : ∃ v : Nat, n = v ∧ v < 256 := by
  have e1 : IntKind.min .u8 = 0 := by decide
  have e2 : IntKind.max .u8 = 255 := by decide
  simp only [Lit.wf, e1, e2, Bool.and_eq_true, decide_eq_true_eq] at h
  exact ⟨n.toNat, by omega, by omega⟩
theorem wf16 {n : Int} (h : (Lit.int .u16 n).wf = true) : ∃ v : Nat, n = v ∧ v < 65536 := by
  have e1 : IntKind.min .u16 = 0 := by decide
  have e2 : IntKind.max .u16 = 65535 := by decide
  simp only [Lit.wf, e1, e2, Bool.and_eq_true, decide_eq_true_eq] at h
  exact ⟨n.toNat, by omega, by omega⟩
theorem rd_U8 (h : DataW.trod enc Try.prog w base spare held fuel 5 cs = some x) : ∃ v : Nat, cs = [.int .u8 v] ∧ v < 256 := by
  obtain ⟨n, e, hw⟩ := rd_int und5 h
  obtain ⟨v, rfl, hv⟩ := wf8 hw
  exact ⟨v, e, hv⟩
theorem rd_U16 (h : DataW.trod enc Try.prog w base spare held fuel 116 cs = some x) : ∃ v : {v : Nat // v < 65536}, RepVs w A0 (eU v.1) cs := by
  obtain ⟨n, rfl, hw⟩ := rd_int und116 h
  obtain ⟨v, rfl, hv⟩ := wf16 hw
  exact ⟨⟨v, hv⟩, _, _, rfl, ⟨rfl, rfl⟩, rfl⟩
theorem rd_U16s (h : DataW.trod enc Try.prog w base spare held fuel 89 cs = some x) : ∃ (l : List Nat) (v : Value), cs = [v] ∧ RepC w A0 (.sl false 1 (rows eU l)) v ∧ l.length ≤ maxLen ∧ ∀ v ∈ l, v < 65536 := by
  obtain ⟨l, v, e, hr, hm, _⟩ := rd_slice (f := fun v : {v : Nat // v < 65536} => eU v.1) u89 cells116 (by decide) (fun _ => rfl) (fun _ _ _ h => rd_U16 h) h
  refine ⟨l.map (·.1), v, e, ?_, by simpa using hm, fun u hu => ?_⟩
  · have : rows eU (l.map (·.1)) = rows (fun v : {v : Nat // v < 65536} => eU v.1) l := by simp [rows, Function.comp_def]
    rw [this]; exact hr
  · obtain ⟨a, _, rfl⟩ := List.mem_map.1 hu
    exact a.2
theorem rd_B3 (h : DataW.trod enc Try.prog w base spare held fuel 90 cs = some x) : ∃ v : {v : B3 // v.ok}, cs = [.int .u8 v.1.v0, .int .u8 v.1.v1, .int .u8 v.1.v2] := by
  obtain ⟨hl, m, hf⟩ := rd_array u90 h
  rw [cells90] at hl
  obtain ⟨y0, h0⟩ := hf 0 (by decide)
  obtain ⟨y1, h1⟩ := hf 1 (by decide)
  obtain ⟨y2, h2⟩ := hf 2 (by decide)
  rw [cells5] at h0 h1 h2
  match cs, hl with
  | [a, b, c], _ =>
    obtain ⟨n0, e0, p0⟩ := rd_U8 h0
    obtain ⟨n1, e1, p1⟩ := rd_U8 h1
    obtain ⟨n2, e2, p2⟩ := rd_U8 h2
    simp at e0 e1 e2
    subst e0; subst e1; subst e2
    exact ⟨⟨⟨n0, n1, n2⟩, ⟨p0, p1, p2⟩⟩, rfl⟩
theorem rd_Line (h : DataW.trod enc Try.prog w base spare held fuel 93 cs = some x) : ∃ l : Line, l.ok ∧ RepVs w A0 [.v (.int .u8 l.steps), .sl false 1 (rows eU l.noz), .v (.int .u8 l.f0), .v (.int .u8 l.f1), .v (.int .u8 l.f2), .v (.int .u8 l.a0), .v (.int .u8 l.a1), .v (.int .u8 l.a2), .v (.int .u8 l.b0), .v (.int .u8 l.b1), .v (.int .u8 l.b2), .v (.int .u8 l.many)] cs := by
  obtain ⟨hl, m, hf⟩ := rd_struct st93 h
  rw [cells93] at hl
  obtain ⟨y0, h0⟩ := hf 0 5 0 rfl
  obtain ⟨y1, h1⟩ := hf 1 89 1 rfl
  obtain ⟨y2, h2⟩ := hf 2 90 2 rfl
  obtain ⟨y3, h3⟩ := hf 3 91 5 rfl
  obtain ⟨y4, h4⟩ := hf 4 5 11 rfl
  rw [cells5] at h0 h4
  rw [cells89] at h1
  rw [cells90] at h2
  rw [cells91] at h3
  obtain ⟨hl3, m3, hf3⟩ := rd_array u91 h3
  obtain ⟨z0, k0⟩ := hf3 0 (by decide)
  obtain ⟨z1, k1⟩ := hf3 1 (by decide)
  rw [cells90] at k0 k1
  match cs, hl with
  | [a, b, c, d, e, f, g, i, j, k, n, o], _ =>
    obtain ⟨n0, e0, p0⟩ := rd_U8 h0
    obtain ⟨l, v, e1, r1, _, p1⟩ := rd_U16s h1
    obtain ⟨v2, e2⟩ := rd_B3 h2
    obtain ⟨v3, e3⟩ := rd_B3 k0
    obtain ⟨v4, e4⟩ := rd_B3 k1
    obtain ⟨n5, e5, p5⟩ := rd_U8 h4
    simp at e0 e1 e2 e3 e4 e5
    obtain ⟨rfl, rfl, rfl⟩ := e2
    obtain ⟨rfl, rfl, rfl⟩ := e3
    obtain ⟨rfl, rfl, rfl⟩ := e4
    subst e0; subst e1; subst e5
    exact ⟨⟨n0, l, v2.1.v0, v2.1.v1, v2.1.v2, v3.1.v0, v3.1.v1, v3.1.v2, v4.1.v0, v4.1.v1, v4.1.v2, n5⟩,
      ⟨p0, p1, v2.2.v0, v2.2.v1, v2.2.v2, v3.2.v0, v3.2.v1, v3.2.v2, v4.2.v0, v4.2.v1, v4.2.v2, p5⟩,
      _, _, rfl, ⟨rfl, rfl⟩, _, _, rfl, r1, _, _, rfl, ⟨rfl, rfl⟩, _, _, rfl, ⟨rfl, rfl⟩, _, _, rfl, ⟨rfl, rfl⟩, _, _, rfl, ⟨rfl, rfl⟩, _, _, rfl, ⟨rfl, rfl⟩, _, _, rfl, ⟨rfl, rfl⟩, _, _, rfl, ⟨rfl, rfl⟩, _, _, rfl, ⟨rfl, rfl⟩, _, _, rfl, ⟨rfl, rfl⟩, _, _, rfl, ⟨rfl, rfl⟩, rfl⟩
end
end Go.Dw.Seat
end
section
set_option linter.unusedSimpArgs false
namespace Go.Dw.Seat
open Go Go.Dw
theorem andNot_zero (x y : Nat) (hx : x < 2 ^ 63) (hy : y < 2 ^ 63) (h : x &&& y = x) : andNotI .i64 (x : Int) (y : Int) = 0 := by
  have h1 : (BitVec.ofInt 64 (x : Int) &&& ~~~ BitVec.ofInt 64 (y : Int)) = 0#64 := by
    rw [ofInt_nat, ofInt_nat]
    have h2 : BitVec.ofNat 64 x = BitVec.ofNat 64 x &&& BitVec.ofNat 64 y := by
      apply BitVec.eq_of_toNat_eq
      rw [BitVec.toNat_and, BitVec.toNat_ofNat, BitVec.toNat_ofNat, Nat.mod_eq_of_lt (by omega), Nat.mod_eq_of_lt (by omega), h]
    rw [h2, BitVec.and_assoc, BitVec.and_not_self]
    simp
  show IntKind.i64.wrap ((BitVec.ofInt 64 (x : Int) &&& ~~~ BitVec.ofInt 64 (y : Int)).toNat : Int) = 0
  rw [h1]; rfl
theorem states_check {x : Line} {s : List Cause} (hs : s ∈ statesOf (causesN (nozP x).length (nL (fromsN x)))) : checkErr (planN x) s = 0 := by
  have hc : ∀ c ∈ causesN (nozP x).length (nL (fromsN x)), causeOk (planN x) c = true := fun c hc => by
    obtain ⟨h1, h2, h3⟩ := mem_causesN hc
    have hf : 0 ≤ c.frm ∧ c.frm ≤ 1000 := by
      have := froms_in x
      simp only [wthn, Bool.not_eq_true', List.any_eq_false, Bool.or_eq_true, decide_eq_true_eq] at this
      have := this _ h3
      omega
    simp only [causeOk, Bool.and_eq_true, wthn_iff1, nL_length]
    omega
  have hlen := (valid_statesOf hs).1
  have e1 : ¬ 2 < s.length := by omega
  have e2 : s.any (fun c => !causeOk (planN x) c) = false := by
    rw [List.any_eq_false]
    intro c hcs
    rcases mem_statesOf hs with rfl | ⟨a, ha, rfl⟩ | ⟨a, b, rfl, ha, hb, hlt⟩
    · cases hcs
    · simp at hcs; subst hcs; simp [hc c ha]
    · simp at hcs; rcases hcs with rfl | rfl
      · simp [hc c ha]
      · simp [hc c hb]
  have e3 : asc (s.map (·.noz)) = true := by
    rcases mem_statesOf hs with rfl | ⟨a, ha, rfl⟩ | ⟨a, b, rfl, ha, hb, hlt⟩
    · rfl
    · rfl
    · simp [asc, hlt]
  simp only [checkErr, if_neg e1, e2, e3, Bool.false_eq_true, if_false, if_true]
theorem st_one {x : Line} {s : List Cause} (hs : s ∈ statesOf (causesN (nozP x).length (nL (fromsN x)))) : stErr (planN x) [s] = 0 := by
  simp only [stErr, planN_open, if_true, firstErr, states_check hs, ne_eq, not_true, if_false]
theorem box_err {x : Line} {s : List Cause} (hs : s ∈ statesOf (causesN (nozP x).length (nL (fromsN x)))) (n : Nat) (hn : n ≤ 1000) : boxErr (planN x) s n = 0 := by
  have : wthn 0 1000 [(n : Int)] = true := by rw [wthn_iff1]; omega
  simp only [boxErr, st_one hs, this, if_true]
theorem box_out {x : Line} {s : List Cause} (hs : s ∈ statesOf (causesN (nozP x).length (nL (fromsN x)))) (n : Nat) (hn : n ≤ 1000) : boxOut (planN x) s n = boxN x.st (nozP x) s n := by
  have h1 : (planN x).steps.toNat = x.st := by simp [planN]
  have h2 : (planN x).noz.map Int.toNat = nozP x := nL_toNat _
  simp only [boxOut, box_err hs n hn, if_true, h1, h2]
theorem nil_state (x : Line) : ([] : List Cause) ∈ statesOf (causesN (nozP x).length (nL (fromsN x))) := by simp [statesOf]
theorem box_get {x : Line} {s : List Cause} (hs : s ∈ statesOf (causesN (nozP x).length (nL (fromsN x)))) (n : Nat) {z v : Nat} (hv : (nozP x)[z]? = some v) :
    (boxN x.st (nozP x) s n)[z]? = some (givesN x.st v (kindOf s n z) n) :=
  boxN_get s (nozP x) z v (states_pair hs) (fun c hc => ((valid_statesOf hs).2 c hc).1) hv
theorem given_bit {st v : Nat} {s : List Cause} (hp : s.Pairwise (fun a b => a.noz ≠ b.noz)) (n : Nat) {z t : Nat} (hv : v < 2 ^ st) (ht : t < st) :
    ((((givesN st v (kindOf s n z) n >>> t) % 2 : Nat) : Int) == 1) = givesL st v s n z t := by
  rw [gives_kind s hp, ← bits_gives hv (by omega)]
  have h1 : ∀ m : Nat, ((((m >>> t) % 2 : Nat) : Int) == 1) = m.testBit t := fun m => by
    rw [Nat.testBit_eq_decide_div_mod_eq, Nat.shiftRight_eq_div_pow, Bool.eq_iff_iff, beq_iff_eq, decide_eq_true_eq]; omega
  rw [h1, bitsN_test]; simp [ht]
theorem given_2 {st v : Nat} {n : Int} (hv : v < 2 ^ st) : v &&& givesN st v 2 n = v := by
  have : givesN st v 2 n = (v ||| (2 * v)) &&& (2 ^ st - 1) := rfl
  rw [this]
  apply Nat.eq_of_testBit_eq
  intro i
  by_cases hi : i < st
  · simp only [Nat.testBit_and, Nat.testBit_or, Nat.testBit_two_pow_sub_one, hi, decide_true, Bool.and_true]
    cases v.testBit i <;> rfl
  · have : v.testBit i = false := Nat.testBit_lt_two_pow (Nat.lt_of_lt_of_le hv (Nat.pow_le_pow_right (by decide) (by omega)))
    simp [Nat.testBit_and, this]
theorem given_more {st v : Nat} {k n : Int} (h : ¬ k = 0 ∧ ¬ k = 1 ∧ ¬ k = 2) : givesN st v k n &&& v = givesN st v k n := by
  unfold givesN
  rw [if_neg h.2.1, if_neg h.2.2]
  split
  · rw [Nat.and_assoc, Nat.and_comm (2 * v) v, ← Nat.and_assoc, Nat.and_self]
  · split
    · split
      · simp
      · simp
    · simp
end Go.Dw.Seat
end
section
set_option linter.unusedSimpArgs false
set_option maxRecDepth 100000
namespace Go.Dw.Seat
open Go Go.Dw Go.Proofs Go.IntWalk
set_option maxHeartbeats 1600000 in
theorem c11 (b : Bool) (x : Line) (box : Nat) (hx : x.ok) (hb : box < 256) :
    DCall Try.prog 11 [dL b x, d8 box] [] (bD true) [] := by
  have hln := nozP_len x
  have hst := x.st_in
  have hpl : (nL (nozP x)).length ≤ 2 ^ 36 := by rw [nL_length]; omega
  have hsl := truthN_len x
  have hss : (truthN x).length ≤ 2 ^ 36 := by omega
  have hmem := truthN_mem x
  have hn15 : box % 15 < 15 := Nat.mod_lt _ (by decide)
  have ht15 : (box : Int).tmod 15 = ((box % 15 : Nat) : Int) := tmod15 _
  have h55 := c55 false (planN x) (truthN x) ((box % 15 : Nat) : Int) hpl hss
  rw [box_err hmem _ (by omega), box_out hmem _ (by omega)] at h55
  have h55n := (c55 false (planN x) [] ((box % 15 : Nat) : Int) hpl (by simp)).weakA (l := [dP false (planN x), .c (.v (.slice none 0 0)), dI ((box % 15 : Nat) : Int)])
    (.cons (.inl rfl) (.cons (.inr ⟨_, _, rfl, rfl, .nil false 3⟩) (.cons (.inl rfl) .nil)))
  rw [box_err (nil_state x) _ (by omega), box_out (nil_state x) _ (by omega)] at h55n
  have hnil : boxN x.st (nozP x) [] ((box % 15 : Nat) : Int) = nozP x := rfl
  rw [hnil] at h55n
  have hget := fun z v hv => box_get hmem (box % 15) (z := z) (v := v) hv
  have hlen : (boxN x.st (nozP x) (truthN x) ((box % 15 : Nat) : Int)).length = (nozP x).length := by rw [boxN_length]
  have hpair := states_pair hmem
  have hb44 := c44 b x hx
  have hb46 := c46 b false x hx
  have hpw : 2 ^ x.st ≤ 2 ^ 10 := Nat.pow_le_pow_right (by decide) hst.2
  have hshl : shlI .i64 1 (x.st : Nat) = ((2 ^ x.st : Nat) : Int) := one_shl x.st (by omega)
  have hlt := nozP_lt x
  generalize boxN x.st (nozP x) (truthN x) ((box % 15 : Nat) : Int) = l at *
  generalize truthN x = s at *
  generalize box % 15 = n at *
  have hbne : (((nozP x).length : Int) != ((nozP x).length : Int)) = false := by rw [bne_eq_false_iff_eq]
  refine DCall.of Try.func11 sf11 hb11 (Nat.le_of_ble_eq_true rfl) (okRes_nil fun _ => rfl) ?_; simp only [s11, idxs, Nat.reduceAdd]
  repeat' (first
    | (with_reducible refine DW.seq ?_)
    | (with_reducible refine DW.block ?_)
    | (with_reducible refine DW.skip ?_)
    | (with_reducible refine DW.exit ?_)
    | (with_reducible refine DW.ret ?_)
    | (with_reducible refine DW.reg ?_)
    | (refine DW.dreg rfl (WF.of (by first | rfl | simp (disch := omega) only [go_sem, Nat.reduceLT, Nat.reduceLeDiff, Nat.reduceAdd, Nat.reduceMul, Nat.reduceEqDiff, ↓reduceIte, reduceCtorEq, Nat.reduceBEq, Nat.reduceBNe, Nat.reducePow, Int.reduceLE, Int.reduceLT, Int.reduceNeg, Int.reduceToNat, Int.reduceEq, Int.reduceAdd, Int.reduceSub, Int.reduceMul, Int.reduceBEq, Int.reduceBNe, Blk.men, Blk.keysIn, ht15, hlen, hbne])) ?_)
    | (simp (disch := omega) only [go_sem, Nat.reduceLT, Nat.reduceLeDiff, Nat.reduceAdd, Nat.reduceMul, Nat.reduceEqDiff, ↓reduceIte, reduceCtorEq, Nat.reduceBEq, Nat.reduceBNe, Nat.reducePow, Int.reduceLE, Int.reduceLT, Int.reduceNeg, Int.reduceToNat, Int.reduceEq, Int.reduceAdd, Int.reduceSub, Int.reduceMul, Int.reduceBEq, Int.reduceBNe, Blk.men, Blk.keysIn, ht15, hlen, hbne])
    | (exact retS_of rfl rfl rfl)
    | (refine DW.cond_tt rfl ?_)
    | (refine call_c (hb44) (by decide) ?_)
    | (refine call_c (hb46) (by decide) ?_)
    | (refine call_c (c16 false (planN x) hpl) (by decide) ?_)
    | (refine call_c (c29 false s hss) (by decide) ?_)
    | (refine call_c (h55) (by decide) ?_)
    | (refine call_c (h55n) (by decide) ?_)
    | (refine DW.cond_ff rfl ?_)
    | (refine DW.cond rfl ?_ ?_ <;> intro hc <;> (try simp only [go_sem] at hc))
    | (refine g_split ?_ ?_ <;> intro hc <;> (try simp only [hc]) <;> (try simp only [go_sem] at hc)))
  refine DW.loop (ι := { z : Nat // z ≤ (nozP x).length }) (fun z => ⟨181, [(12, dI z.1), (10, dIs false (nL (nozP x))), (8, dIs false (nL l)), (7, dCs false s), (6, dI n), (5, .box 5 0)], [(5, bxP false x)]⟩) (fun z => (nozP x).length - z.1) ⟨0, Nat.zero_le _⟩ ?_ ?_
  · refine Ent.to ?_ ?_ <;> simp (disch := omega) only [wkT_cons, wkX_cons, wkT_nil, wkX_nil, get, Nat.reduceEqDiff, ↓reduceIte, ex_some, wk_self, wk_top, wk_nil, wkB_self, and_self, dI, i64_in, and_true, true_and, Int.natCast_add, Int.natCast_one, Int.ofNat_zero, Int.natCast_zero, bxP]
    all_goals exact .refl _
  rintro ⟨z, hz⟩
  rcases at_or (nozP x) z hz with ⟨v, hv, hzl, hd⟩ | ⟨hend, hd⟩
  · have hvl := hlt v (List.mem_of_getElem? hv)
    have hlz := hget z v hv
    have hbits := fun t (ht : t < x.st) => given_bit hpair n (z := z) hvl ht
    have h53 := fun t (ht : t < x.st) => c53 false false x.st (nozP x) s (n : Int) z v (t : Int) (by omega) hv (by omega) hss (by omega)
    have hgl : givesN x.st v (kindOf s n z) n < 2 ^ x.st := givesN_lt hvl
    repeat' (first
    | (with_reducible refine DW.seq ?_)
    | (with_reducible refine DW.block ?_)
    | (with_reducible refine DW.skip ?_)
    | (with_reducible refine DW.exit ?_)
    | (with_reducible refine DW.ret ?_)
    | (with_reducible refine DW.reg ?_)
    | (refine DW.dreg rfl (WF.of (by first | rfl | simp (disch := omega) only [go_sem, Nat.reduceLT, Nat.reduceLeDiff, Nat.reduceAdd, Nat.reduceMul, Nat.reduceEqDiff, ↓reduceIte, reduceCtorEq, Nat.reduceBEq, Nat.reduceBNe, Nat.reducePow, Int.reduceLE, Int.reduceLT, Int.reduceNeg, Int.reduceToNat, Int.reduceEq, Int.reduceAdd, Int.reduceSub, Int.reduceMul, Int.reduceBEq, Int.reduceBNe, Blk.men, Blk.keysIn, hd])) ?_)
    | (simp (disch := omega) only [go_sem, Nat.reduceLT, Nat.reduceLeDiff, Nat.reduceAdd, Nat.reduceMul, Nat.reduceEqDiff, ↓reduceIte, reduceCtorEq, Nat.reduceBEq, Nat.reduceBNe, Nat.reducePow, Int.reduceLE, Int.reduceLT, Int.reduceNeg, Int.reduceToNat, Int.reduceEq, Int.reduceAdd, Int.reduceSub, Int.reduceMul, Int.reduceBEq, Int.reduceBNe, Blk.men, Blk.keysIn, hd])
    | (exact retS_of rfl rfl rfl)
    | (refine DW.cond_tt rfl ?_)
    | (refine DW.cond_ff rfl ?_)
    | (refine DW.cond rfl ?_ ?_ <;> intro hc <;> (try simp only [go_sem] at hc))
    | (refine g_split ?_ ?_ <;> intro hc <;> (try simp only [hc]) <;> (try simp only [go_sem] at hc)))
    refine DW.loop (ι := { i : Nat // i ≤ s.length }) (fun i => ⟨181, [(14, dI i.1), (13, dI (kindOf (s.take i.1) n z)), (12, dI z), (10, dIs false (nL (nozP x))), (8, dIs false (nL l)), (7, dCs false s), (6, dI n), (5, .box 5 0)], [(5, bxP false x)]⟩) (fun i => s.length - i.1) ⟨0, Nat.zero_le _⟩ ?_ ?_
    · refine Ent.to ?_ ?_ <;> simp (disch := omega) only [wkT_cons, wkX_cons, wkT_nil, wkX_nil, get, Nat.reduceEqDiff, ↓reduceIte, ex_some, wk_self, wk_top, wk_nil, wkB_self, and_self, dI, i64_in, and_true, true_and, Int.natCast_add, Int.natCast_one, Int.ofNat_zero, Int.natCast_zero, List.take_zero, kindOf, List.foldl_nil, bxP]
      all_goals exact .refl _
    rintro ⟨i, hi⟩
    rcases at_or s i hi with ⟨c, hc0, hilt, hid⟩ | ⟨hiend, hid⟩
    · have ht := kindOf_take (box := n) (z := z) hc0
      repeat' (first
    | (with_reducible refine DW.seq ?_)
    | (with_reducible refine DW.block ?_)
    | (with_reducible refine DW.skip ?_)
    | (with_reducible refine DW.exit ?_)
    | (with_reducible refine DW.ret ?_)
    | (with_reducible refine DW.reg ?_)
    | (refine DW.dreg rfl (WF.of (by first | rfl | simp (disch := omega) only [go_sem, Nat.reduceLT, Nat.reduceLeDiff, Nat.reduceAdd, Nat.reduceMul, Nat.reduceEqDiff, ↓reduceIte, reduceCtorEq, Nat.reduceBEq, Nat.reduceBNe, Nat.reducePow, Int.reduceLE, Int.reduceLT, Int.reduceNeg, Int.reduceToNat, Int.reduceEq, Int.reduceAdd, Int.reduceSub, Int.reduceMul, Int.reduceBEq, Int.reduceBNe, Blk.men, Blk.keysIn, hid, hc0])) ?_)
    | (simp (disch := omega) only [go_sem, Nat.reduceLT, Nat.reduceLeDiff, Nat.reduceAdd, Nat.reduceMul, Nat.reduceEqDiff, ↓reduceIte, reduceCtorEq, Nat.reduceBEq, Nat.reduceBNe, Nat.reducePow, Int.reduceLE, Int.reduceLT, Int.reduceNeg, Int.reduceToNat, Int.reduceEq, Int.reduceAdd, Int.reduceSub, Int.reduceMul, Int.reduceBEq, Int.reduceBNe, Blk.men, Blk.keysIn, hid, hc0])
    | (exact retS_of rfl rfl rfl)
    | (refine DW.cond_tt rfl ?_)
    | (refine DW.cond_ff rfl ?_)
    | (refine DW.cond rfl ?_ ?_ <;> intro hc <;> (try simp only [go_sem] at hc))
    | (refine g_split ?_ ?_ <;> intro hc <;> (try simp only [hc]) <;> (try simp only [go_sem] at hc)))
      · have hk : kindStep n z (kindOf (s.take i) n z) c = c.kind := if_pos ⟨by assumption, by assumption⟩
        refine ⟨⟨i + 1, hilt⟩, ?_, Ent.to ?_ ?_⟩ <;> first | (show _ < _; (try simp only); omega) | (simp (disch := omega) only [wkT_cons, wkX_cons, wkT_nil, wkX_nil, get, Nat.reduceEqDiff, ↓reduceIte, ex_some, wk_self, wk_top, wk_nil, wkB_self, and_self, dI, i64_in, and_true, true_and, Int.natCast_add, Int.natCast_one, Int.ofNat_zero, Int.natCast_zero,  ht, hk, bxP])
        all_goals exact .refl _
      · have hk : kindStep n z (kindOf (s.take i) n z) c = kindOf (s.take i) n z := if_neg (by omega)
        refine ⟨⟨i + 1, hilt⟩, ?_, Ent.to ?_ ?_⟩ <;> first | (show _ < _; (try simp only); omega) | (simp (disch := omega) only [wkT_cons, wkX_cons, wkT_nil, wkX_nil, get, Nat.reduceEqDiff, ↓reduceIte, ex_some, wk_self, wk_top, wk_nil, wkB_self, and_self, dI, i64_in, and_true, true_and, Int.natCast_add, Int.natCast_one, Int.ofNat_zero, Int.natCast_zero,  ht, hk, bxP])
        all_goals exact .refl _
      · have hk : kindStep n z (kindOf (s.take i) n z) c = kindOf (s.take i) n z := if_neg (by omega)
        refine ⟨⟨i + 1, hilt⟩, ?_, Ent.to ?_ ?_⟩ <;> first | (show _ < _; (try simp only); omega) | (simp (disch := omega) only [wkT_cons, wkX_cons, wkT_nil, wkX_nil, get, Nat.reduceEqDiff, ↓reduceIte, ex_some, wk_self, wk_top, wk_nil, wkB_self, and_self, dI, i64_in, and_true, true_and, Int.natCast_add, Int.natCast_one, Int.ofNat_zero, Int.natCast_zero,  ht, hk, bxP])
        all_goals exact .refl _
    · rw [List.take_of_length_le (by omega : s.length ≤ i)]
      have g0 : kindOf s n z = 0 → givesN x.st v (kindOf s n z) n = v := fun h => by rw [h, givesN_zero]
      have g1 : kindOf s n z = 1 → givesN x.st v (kindOf s n z) n = 0 := fun h => by rw [h]; rfl
      have g2 : kindOf s n z = 2 → v &&& givesN x.st v (kindOf s n z) n = v := fun h => by rw [h]; exact given_2 hvl
      have g3 : ¬ kindOf s n z = 0 ∧ ¬ kindOf s n z = 1 ∧ ¬ kindOf s n z = 2 → givesN x.st v (kindOf s n z) n &&& v = givesN x.st v (kindOf s n z) n := given_more
      generalize givesN x.st v (kindOf s n z) n = g at *
      generalize kindOf s n z = k at *
      have d1 : ((v : Int) != (v : Int)) = false := by rw [bne_eq_false_iff_eq]
      have d2 : decide ((g : Int) < 0) = false := by rw [decide_eq_false_iff_not]; omega
      have d3 : decide (((2 ^ x.st : Nat) : Int) ≤ (g : Int)) = false := by rw [decide_eq_false_iff_not]; omega
      have hv63 : v < 2 ^ 63 := Nat.lt_of_lt_of_le hvl (Nat.le_trans hpw (by decide))
      have hg63 : g < 2 ^ 63 := Nat.lt_of_lt_of_le hgl (Nat.le_trans hpw (by decide))
      have hg10 : g < 1024 := Nat.lt_of_lt_of_le hgl hpw
      have hk4 : (k = 0 ∧ ((g : Int) != (v : Int)) = false) ∨ (k = 1 ∧ ((g : Int) != 0) = false) ∨ (k = 2 ∧ andNotI .i64 (v : Int) (g : Int) = 0) ∨ ((k == 0) = false ∧ (k == 1) = false ∧ (k == 2) = false ∧ andNotI .i64 (g : Int) (v : Int) = 0) := by
        by_cases h0 : k = 0
        · exact .inl ⟨h0, by rw [bne_eq_false_iff_eq, g0 h0]⟩
        · by_cases h1 : k = 1
          · exact .inr (.inl ⟨h1, by rw [bne_eq_false_iff_eq, g1 h1]; rfl⟩)
          · by_cases h2 : k = 2
            · exact .inr (.inr (.inl ⟨h2, andNot_zero v g hv63 hg63 (g2 h2)⟩))
            · exact .inr (.inr (.inr ⟨beq_eq_false_iff_ne.2 h0, beq_eq_false_iff_ne.2 h1, beq_eq_false_iff_ne.2 h2, andNot_zero g v hg63 hv63 (g3 ⟨h0, h1, h2⟩)⟩))
      clear g0 g1 g2 g3
      rcases hk4 with h | h | h | h
      · obtain ⟨rfl, e⟩ := h
        repeat' (first
    | (with_reducible refine DW.seq ?_)
    | (with_reducible refine DW.block ?_)
    | (with_reducible refine DW.skip ?_)
    | (with_reducible refine DW.exit ?_)
    | (with_reducible refine DW.ret ?_)
    | (with_reducible refine DW.reg ?_)
    | (refine DW.dreg rfl (WF.of (by first | rfl | simp (disch := omega) only [go_sem, Nat.reduceLT, Nat.reduceLeDiff, Nat.reduceAdd, Nat.reduceMul, Nat.reduceEqDiff, ↓reduceIte, reduceCtorEq, Nat.reduceBEq, Nat.reduceBNe, Nat.reducePow, Int.reduceLE, Int.reduceLT, Int.reduceNeg, Int.reduceToNat, Int.reduceEq, Int.reduceAdd, Int.reduceSub, Int.reduceMul, Int.reduceBEq, Int.reduceBNe, Blk.men, Blk.keysIn, hid, hv, hlz, d1, d2, d3, hshl, e])) ?_)
    | (simp (disch := omega) only [go_sem, Nat.reduceLT, Nat.reduceLeDiff, Nat.reduceAdd, Nat.reduceMul, Nat.reduceEqDiff, ↓reduceIte, reduceCtorEq, Nat.reduceBEq, Nat.reduceBNe, Nat.reducePow, Int.reduceLE, Int.reduceLT, Int.reduceNeg, Int.reduceToNat, Int.reduceEq, Int.reduceAdd, Int.reduceSub, Int.reduceMul, Int.reduceBEq, Int.reduceBNe, Blk.men, Blk.keysIn, hid, hv, hlz, d1, d2, d3, hshl, e])
    | (exact retS_of rfl rfl rfl)
    | (refine DW.cond_tt rfl ?_)
    | (refine DW.cond_ff rfl ?_)
    | (refine DW.cond rfl ?_ ?_ <;> intro hc <;> (try simp only [go_sem] at hc))
    | (refine g_split ?_ ?_ <;> intro hc <;> (try simp only [hc]) <;> (try simp only [go_sem] at hc)))
        refine DW.loop (ι := { t : Nat // t ≤ x.st }) (fun t => ⟨181, [(16, dI t.1), (12, dI z), (10, dIs false (nL (nozP x))), (8, dIs false (nL l)), (7, dCs false s), (6, dI n), (5, .box 5 0)], [(5, bxP false x)]⟩) (fun t => x.st - t.1) ⟨0, Nat.zero_le _⟩ ?_ ?_
        · refine Ent.to ?_ ?_ <;> simp (disch := omega) only [wkT_cons, wkX_cons, wkT_nil, wkX_nil, get, Nat.reduceEqDiff, ↓reduceIte, ex_some, wk_self, wk_top, wk_nil, wkB_self, and_self, dI, i64_in, and_true, true_and, Int.natCast_add, Int.natCast_one, Int.ofNat_zero, Int.natCast_zero, bxP]
          all_goals exact .refl _
        rintro ⟨t, ht⟩
        rcases Nat.lt_or_ge t x.st with htl | htl
        · have q1 : decide ((t : Int) < (x.st : Int)) = true := by rw [decide_eq_true_eq]; omega
          have q2 := hbits t htl
          have q3 := h53 t htl
          have q4 : ((givesL x.st v s n z t) != (givesL x.st v s n z t)) = false := bne_self_eq_false _
          have q5 : (g >>> t) % 2 < 2 := Nat.mod_lt _ (by decide)
          have q6 : g >>> t ≤ g := by rw [Nat.shiftRight_eq_div_pow]; exact Nat.div_le_self _ _
          generalize givesL x.st v s n z t = q at *
          repeat' (first
    | (with_reducible refine DW.seq ?_)
    | (with_reducible refine DW.block ?_)
    | (with_reducible refine DW.skip ?_)
    | (with_reducible refine DW.exit ?_)
    | (with_reducible refine DW.ret ?_)
    | (with_reducible refine DW.reg ?_)
    | (refine DW.dreg rfl (WF.of (by first | rfl | simp (disch := omega) only [go_sem, Nat.reduceLT, Nat.reduceLeDiff, Nat.reduceAdd, Nat.reduceMul, Nat.reduceEqDiff, ↓reduceIte, reduceCtorEq, Nat.reduceBEq, Nat.reduceBNe, Nat.reducePow, Int.reduceLE, Int.reduceLT, Int.reduceNeg, Int.reduceToNat, Int.reduceEq, Int.reduceAdd, Int.reduceSub, Int.reduceMul, Int.reduceBEq, Int.reduceBNe, Blk.men, Blk.keysIn, q1, hlz, q2, q4])) ?_)
    | (simp (disch := omega) only [go_sem, Nat.reduceLT, Nat.reduceLeDiff, Nat.reduceAdd, Nat.reduceMul, Nat.reduceEqDiff, ↓reduceIte, reduceCtorEq, Nat.reduceBEq, Nat.reduceBNe, Nat.reducePow, Int.reduceLE, Int.reduceLT, Int.reduceNeg, Int.reduceToNat, Int.reduceEq, Int.reduceAdd, Int.reduceSub, Int.reduceMul, Int.reduceBEq, Int.reduceBNe, Blk.men, Blk.keysIn, q1, hlz, q2, q4])
    | (exact retS_of rfl rfl rfl)
    | (refine DW.cond_tt rfl ?_)
    | (refine call_c (q3) (by decide) ?_)
    | (refine DW.cond_ff rfl ?_)
    | (refine DW.cond rfl ?_ ?_ <;> intro hc <;> (try simp only [go_sem] at hc))
    | (refine g_split ?_ ?_ <;> intro hc <;> (try simp only [hc]) <;> (try simp only [go_sem] at hc)))
          refine ⟨⟨t + 1, htl⟩, ?_, Ent.to ?_ ?_⟩ <;> first | (show _ < _; (try simp only); omega) | (simp (disch := omega) only [wkT_cons, wkX_cons, wkT_nil, wkX_nil, get, Nat.reduceEqDiff, ↓reduceIte, ex_some, wk_self, wk_top, wk_nil, wkB_self, and_self, dI, i64_in, and_true, true_and, Int.natCast_add, Int.natCast_one, Int.ofNat_zero, Int.natCast_zero,  bxP])
          all_goals exact .refl _
        · have q1 : decide ((t : Int) < (x.st : Int)) = false := by rw [decide_eq_false_iff_not]; omega
          repeat' (first
    | (with_reducible refine DW.seq ?_)
    | (with_reducible refine DW.block ?_)
    | (with_reducible refine DW.skip ?_)
    | (with_reducible refine DW.exit ?_)
    | (with_reducible refine DW.ret ?_)
    | (with_reducible refine DW.reg ?_)
    | (refine DW.dreg rfl (WF.of (by first | rfl | simp (disch := omega) only [go_sem, Nat.reduceLT, Nat.reduceLeDiff, Nat.reduceAdd, Nat.reduceMul, Nat.reduceEqDiff, ↓reduceIte, reduceCtorEq, Nat.reduceBEq, Nat.reduceBNe, Nat.reducePow, Int.reduceLE, Int.reduceLT, Int.reduceNeg, Int.reduceToNat, Int.reduceEq, Int.reduceAdd, Int.reduceSub, Int.reduceMul, Int.reduceBEq, Int.reduceBNe, Blk.men, Blk.keysIn, q1])) ?_)
    | (simp (disch := omega) only [go_sem, Nat.reduceLT, Nat.reduceLeDiff, Nat.reduceAdd, Nat.reduceMul, Nat.reduceEqDiff, ↓reduceIte, reduceCtorEq, Nat.reduceBEq, Nat.reduceBNe, Nat.reducePow, Int.reduceLE, Int.reduceLT, Int.reduceNeg, Int.reduceToNat, Int.reduceEq, Int.reduceAdd, Int.reduceSub, Int.reduceMul, Int.reduceBEq, Int.reduceBNe, Blk.men, Blk.keysIn, q1])
    | (exact retS_of rfl rfl rfl)
    | (refine DW.cond_tt rfl ?_)
    | (refine DW.cond_ff rfl ?_)
    | (refine DW.cond rfl ?_ ?_ <;> intro hc <;> (try simp only [go_sem] at hc))
    | (refine g_split ?_ ?_ <;> intro hc <;> (try simp only [hc]) <;> (try simp only [go_sem] at hc)))
          refine ⟨⟨z + 1, hzl⟩, ?_, Ent.to ?_ ?_⟩ <;> first | (show _ < _; (try simp only); omega) | (simp (disch := omega) only [wkT_cons, wkX_cons, wkT_nil, wkX_nil, get, Nat.reduceEqDiff, ↓reduceIte, ex_some, wk_self, wk_top, wk_nil, wkB_self, and_self, dI, i64_in, and_true, true_and, Int.natCast_add, Int.natCast_one, Int.ofNat_zero, Int.natCast_zero,  bxP])
          all_goals exact .refl _
      · obtain ⟨rfl, e⟩ := h
        repeat' (first
    | (with_reducible refine DW.seq ?_)
    | (with_reducible refine DW.block ?_)
    | (with_reducible refine DW.skip ?_)
    | (with_reducible refine DW.exit ?_)
    | (with_reducible refine DW.ret ?_)
    | (with_reducible refine DW.reg ?_)
    | (refine DW.dreg rfl (WF.of (by first | rfl | simp (disch := omega) only [go_sem, Nat.reduceLT, Nat.reduceLeDiff, Nat.reduceAdd, Nat.reduceMul, Nat.reduceEqDiff, ↓reduceIte, reduceCtorEq, Nat.reduceBEq, Nat.reduceBNe, Nat.reducePow, Int.reduceLE, Int.reduceLT, Int.reduceNeg, Int.reduceToNat, Int.reduceEq, Int.reduceAdd, Int.reduceSub, Int.reduceMul, Int.reduceBEq, Int.reduceBNe, Blk.men, Blk.keysIn, hid, hv, hlz, d1, d2, d3, hshl, e])) ?_)
    | (simp (disch := omega) only [go_sem, Nat.reduceLT, Nat.reduceLeDiff, Nat.reduceAdd, Nat.reduceMul, Nat.reduceEqDiff, ↓reduceIte, reduceCtorEq, Nat.reduceBEq, Nat.reduceBNe, Nat.reducePow, Int.reduceLE, Int.reduceLT, Int.reduceNeg, Int.reduceToNat, Int.reduceEq, Int.reduceAdd, Int.reduceSub, Int.reduceMul, Int.reduceBEq, Int.reduceBNe, Blk.men, Blk.keysIn, hid, hv, hlz, d1, d2, d3, hshl, e])
    | (exact retS_of rfl rfl rfl)
    | (refine DW.cond_tt rfl ?_)
    | (refine DW.cond_ff rfl ?_)
    | (refine DW.cond rfl ?_ ?_ <;> intro hc <;> (try simp only [go_sem] at hc))
    | (refine g_split ?_ ?_ <;> intro hc <;> (try simp only [hc]) <;> (try simp only [go_sem] at hc)))
        refine DW.loop (ι := { t : Nat // t ≤ x.st }) (fun t => ⟨181, [(16, dI t.1), (12, dI z), (10, dIs false (nL (nozP x))), (8, dIs false (nL l)), (7, dCs false s), (6, dI n), (5, .box 5 0)], [(5, bxP false x)]⟩) (fun t => x.st - t.1) ⟨0, Nat.zero_le _⟩ ?_ ?_
        · refine Ent.to ?_ ?_ <;> simp (disch := omega) only [wkT_cons, wkX_cons, wkT_nil, wkX_nil, get, Nat.reduceEqDiff, ↓reduceIte, ex_some, wk_self, wk_top, wk_nil, wkB_self, and_self, dI, i64_in, and_true, true_and, Int.natCast_add, Int.natCast_one, Int.ofNat_zero, Int.natCast_zero, bxP]
          all_goals exact .refl _
        rintro ⟨t, ht⟩
        rcases Nat.lt_or_ge t x.st with htl | htl
        · have q1 : decide ((t : Int) < (x.st : Int)) = true := by rw [decide_eq_true_eq]; omega
          have q2 := hbits t htl
          have q3 := h53 t htl
          have q4 : ((givesL x.st v s n z t) != (givesL x.st v s n z t)) = false := bne_self_eq_false _
          have q5 : (g >>> t) % 2 < 2 := Nat.mod_lt _ (by decide)
          have q6 : g >>> t ≤ g := by rw [Nat.shiftRight_eq_div_pow]; exact Nat.div_le_self _ _
          generalize givesL x.st v s n z t = q at *
          repeat' (first
    | (with_reducible refine DW.seq ?_)
    | (with_reducible refine DW.block ?_)
    | (with_reducible refine DW.skip ?_)
    | (with_reducible refine DW.exit ?_)
    | (with_reducible refine DW.ret ?_)
    | (with_reducible refine DW.reg ?_)
    | (refine DW.dreg rfl (WF.of (by first | rfl | simp (disch := omega) only [go_sem, Nat.reduceLT, Nat.reduceLeDiff, Nat.reduceAdd, Nat.reduceMul, Nat.reduceEqDiff, ↓reduceIte, reduceCtorEq, Nat.reduceBEq, Nat.reduceBNe, Nat.reducePow, Int.reduceLE, Int.reduceLT, Int.reduceNeg, Int.reduceToNat, Int.reduceEq, Int.reduceAdd, Int.reduceSub, Int.reduceMul, Int.reduceBEq, Int.reduceBNe, Blk.men, Blk.keysIn, q1, hlz, q2, q4])) ?_)
    | (simp (disch := omega) only [go_sem, Nat.reduceLT, Nat.reduceLeDiff, Nat.reduceAdd, Nat.reduceMul, Nat.reduceEqDiff, ↓reduceIte, reduceCtorEq, Nat.reduceBEq, Nat.reduceBNe, Nat.reducePow, Int.reduceLE, Int.reduceLT, Int.reduceNeg, Int.reduceToNat, Int.reduceEq, Int.reduceAdd, Int.reduceSub, Int.reduceMul, Int.reduceBEq, Int.reduceBNe, Blk.men, Blk.keysIn, q1, hlz, q2, q4])
    | (exact retS_of rfl rfl rfl)
    | (refine DW.cond_tt rfl ?_)
    | (refine call_c (q3) (by decide) ?_)
    | (refine DW.cond_ff rfl ?_)
    | (refine DW.cond rfl ?_ ?_ <;> intro hc <;> (try simp only [go_sem] at hc))
    | (refine g_split ?_ ?_ <;> intro hc <;> (try simp only [hc]) <;> (try simp only [go_sem] at hc)))
          refine ⟨⟨t + 1, htl⟩, ?_, Ent.to ?_ ?_⟩ <;> first | (show _ < _; (try simp only); omega) | (simp (disch := omega) only [wkT_cons, wkX_cons, wkT_nil, wkX_nil, get, Nat.reduceEqDiff, ↓reduceIte, ex_some, wk_self, wk_top, wk_nil, wkB_self, and_self, dI, i64_in, and_true, true_and, Int.natCast_add, Int.natCast_one, Int.ofNat_zero, Int.natCast_zero,  bxP])
          all_goals exact .refl _
        · have q1 : decide ((t : Int) < (x.st : Int)) = false := by rw [decide_eq_false_iff_not]; omega
          repeat' (first
    | (with_reducible refine DW.seq ?_)
    | (with_reducible refine DW.block ?_)
    | (with_reducible refine DW.skip ?_)
    | (with_reducible refine DW.exit ?_)
    | (with_reducible refine DW.ret ?_)
    | (with_reducible refine DW.reg ?_)
    | (refine DW.dreg rfl (WF.of (by first | rfl | simp (disch := omega) only [go_sem, Nat.reduceLT, Nat.reduceLeDiff, Nat.reduceAdd, Nat.reduceMul, Nat.reduceEqDiff, ↓reduceIte, reduceCtorEq, Nat.reduceBEq, Nat.reduceBNe, Nat.reducePow, Int.reduceLE, Int.reduceLT, Int.reduceNeg, Int.reduceToNat, Int.reduceEq, Int.reduceAdd, Int.reduceSub, Int.reduceMul, Int.reduceBEq, Int.reduceBNe, Blk.men, Blk.keysIn, q1])) ?_)
    | (simp (disch := omega) only [go_sem, Nat.reduceLT, Nat.reduceLeDiff, Nat.reduceAdd, Nat.reduceMul, Nat.reduceEqDiff, ↓reduceIte, reduceCtorEq, Nat.reduceBEq, Nat.reduceBNe, Nat.reducePow, Int.reduceLE, Int.reduceLT, Int.reduceNeg, Int.reduceToNat, Int.reduceEq, Int.reduceAdd, Int.reduceSub, Int.reduceMul, Int.reduceBEq, Int.reduceBNe, Blk.men, Blk.keysIn, q1])
    | (exact retS_of rfl rfl rfl)
    | (refine DW.cond_tt rfl ?_)
    | (refine DW.cond_ff rfl ?_)
    | (refine DW.cond rfl ?_ ?_ <;> intro hc <;> (try simp only [go_sem] at hc))
    | (refine g_split ?_ ?_ <;> intro hc <;> (try simp only [hc]) <;> (try simp only [go_sem] at hc)))
          refine ⟨⟨z + 1, hzl⟩, ?_, Ent.to ?_ ?_⟩ <;> first | (show _ < _; (try simp only); omega) | (simp (disch := omega) only [wkT_cons, wkX_cons, wkT_nil, wkX_nil, get, Nat.reduceEqDiff, ↓reduceIte, ex_some, wk_self, wk_top, wk_nil, wkB_self, and_self, dI, i64_in, and_true, true_and, Int.natCast_add, Int.natCast_one, Int.ofNat_zero, Int.natCast_zero,  bxP])
          all_goals exact .refl _
      · obtain ⟨rfl, e⟩ := h
        repeat' (first
    | (with_reducible refine DW.seq ?_)
    | (with_reducible refine DW.block ?_)
    | (with_reducible refine DW.skip ?_)
    | (with_reducible refine DW.exit ?_)
    | (with_reducible refine DW.ret ?_)
    | (with_reducible refine DW.reg ?_)
    | (refine DW.dreg rfl (WF.of (by first | rfl | simp (disch := omega) only [go_sem, Nat.reduceLT, Nat.reduceLeDiff, Nat.reduceAdd, Nat.reduceMul, Nat.reduceEqDiff, ↓reduceIte, reduceCtorEq, Nat.reduceBEq, Nat.reduceBNe, Nat.reducePow, Int.reduceLE, Int.reduceLT, Int.reduceNeg, Int.reduceToNat, Int.reduceEq, Int.reduceAdd, Int.reduceSub, Int.reduceMul, Int.reduceBEq, Int.reduceBNe, Blk.men, Blk.keysIn, hid, hv, hlz, d1, d2, d3, hshl, e])) ?_)
    | (simp (disch := omega) only [go_sem, Nat.reduceLT, Nat.reduceLeDiff, Nat.reduceAdd, Nat.reduceMul, Nat.reduceEqDiff, ↓reduceIte, reduceCtorEq, Nat.reduceBEq, Nat.reduceBNe, Nat.reducePow, Int.reduceLE, Int.reduceLT, Int.reduceNeg, Int.reduceToNat, Int.reduceEq, Int.reduceAdd, Int.reduceSub, Int.reduceMul, Int.reduceBEq, Int.reduceBNe, Blk.men, Blk.keysIn, hid, hv, hlz, d1, d2, d3, hshl, e])
    | (exact retS_of rfl rfl rfl)
    | (refine DW.cond_tt rfl ?_)
    | (refine DW.cond_ff rfl ?_)
    | (refine DW.cond rfl ?_ ?_ <;> intro hc <;> (try simp only [go_sem] at hc))
    | (refine g_split ?_ ?_ <;> intro hc <;> (try simp only [hc]) <;> (try simp only [go_sem] at hc)))
        refine DW.loop (ι := { t : Nat // t ≤ x.st }) (fun t => ⟨181, [(16, dI t.1), (12, dI z), (10, dIs false (nL (nozP x))), (8, dIs false (nL l)), (7, dCs false s), (6, dI n), (5, .box 5 0)], [(5, bxP false x)]⟩) (fun t => x.st - t.1) ⟨0, Nat.zero_le _⟩ ?_ ?_
        · refine Ent.to ?_ ?_ <;> simp (disch := omega) only [wkT_cons, wkX_cons, wkT_nil, wkX_nil, get, Nat.reduceEqDiff, ↓reduceIte, ex_some, wk_self, wk_top, wk_nil, wkB_self, and_self, dI, i64_in, and_true, true_and, Int.natCast_add, Int.natCast_one, Int.ofNat_zero, Int.natCast_zero, bxP]
          all_goals exact .refl _
        rintro ⟨t, ht⟩
        rcases Nat.lt_or_ge t x.st with htl | htl
        · have q1 : decide ((t : Int) < (x.st : Int)) = true := by rw [decide_eq_true_eq]; omega
          have q2 := hbits t htl
          have q3 := h53 t htl
          have q4 : ((givesL x.st v s n z t) != (givesL x.st v s n z t)) = false := bne_self_eq_false _
          have q5 : (g >>> t) % 2 < 2 := Nat.mod_lt _ (by decide)
          have q6 : g >>> t ≤ g := by rw [Nat.shiftRight_eq_div_pow]; exact Nat.div_le_self _ _
          generalize givesL x.st v s n z t = q at *
          repeat' (first
    | (with_reducible refine DW.seq ?_)
    | (with_reducible refine DW.block ?_)
    | (with_reducible refine DW.skip ?_)
    | (with_reducible refine DW.exit ?_)
    | (with_reducible refine DW.ret ?_)
    | (with_reducible refine DW.reg ?_)
    | (refine DW.dreg rfl (WF.of (by first | rfl | simp (disch := omega) only [go_sem, Nat.reduceLT, Nat.reduceLeDiff, Nat.reduceAdd, Nat.reduceMul, Nat.reduceEqDiff, ↓reduceIte, reduceCtorEq, Nat.reduceBEq, Nat.reduceBNe, Nat.reducePow, Int.reduceLE, Int.reduceLT, Int.reduceNeg, Int.reduceToNat, Int.reduceEq, Int.reduceAdd, Int.reduceSub, Int.reduceMul, Int.reduceBEq, Int.reduceBNe, Blk.men, Blk.keysIn, q1, hlz, q2, q4])) ?_)
    | (simp (disch := omega) only [go_sem, Nat.reduceLT, Nat.reduceLeDiff, Nat.reduceAdd, Nat.reduceMul, Nat.reduceEqDiff, ↓reduceIte, reduceCtorEq, Nat.reduceBEq, Nat.reduceBNe, Nat.reducePow, Int.reduceLE, Int.reduceLT, Int.reduceNeg, Int.reduceToNat, Int.reduceEq, Int.reduceAdd, Int.reduceSub, Int.reduceMul, Int.reduceBEq, Int.reduceBNe, Blk.men, Blk.keysIn, q1, hlz, q2, q4])
    | (exact retS_of rfl rfl rfl)
    | (refine DW.cond_tt rfl ?_)
    | (refine call_c (q3) (by decide) ?_)
    | (refine DW.cond_ff rfl ?_)
    | (refine DW.cond rfl ?_ ?_ <;> intro hc <;> (try simp only [go_sem] at hc))
    | (refine g_split ?_ ?_ <;> intro hc <;> (try simp only [hc]) <;> (try simp only [go_sem] at hc)))
          refine ⟨⟨t + 1, htl⟩, ?_, Ent.to ?_ ?_⟩ <;> first | (show _ < _; (try simp only); omega) | (simp (disch := omega) only [wkT_cons, wkX_cons, wkT_nil, wkX_nil, get, Nat.reduceEqDiff, ↓reduceIte, ex_some, wk_self, wk_top, wk_nil, wkB_self, and_self, dI, i64_in, and_true, true_and, Int.natCast_add, Int.natCast_one, Int.ofNat_zero, Int.natCast_zero,  bxP])
          all_goals exact .refl _
        · have q1 : decide ((t : Int) < (x.st : Int)) = false := by rw [decide_eq_false_iff_not]; omega
          repeat' (first
    | (with_reducible refine DW.seq ?_)
    | (with_reducible refine DW.block ?_)
    | (with_reducible refine DW.skip ?_)
    | (with_reducible refine DW.exit ?_)
    | (with_reducible refine DW.ret ?_)
    | (with_reducible refine DW.reg ?_)
    | (refine DW.dreg rfl (WF.of (by first | rfl | simp (disch := omega) only [go_sem, Nat.reduceLT, Nat.reduceLeDiff, Nat.reduceAdd, Nat.reduceMul, Nat.reduceEqDiff, ↓reduceIte, reduceCtorEq, Nat.reduceBEq, Nat.reduceBNe, Nat.reducePow, Int.reduceLE, Int.reduceLT, Int.reduceNeg, Int.reduceToNat, Int.reduceEq, Int.reduceAdd, Int.reduceSub, Int.reduceMul, Int.reduceBEq, Int.reduceBNe, Blk.men, Blk.keysIn, q1])) ?_)
    | (simp (disch := omega) only [go_sem, Nat.reduceLT, Nat.reduceLeDiff, Nat.reduceAdd, Nat.reduceMul, Nat.reduceEqDiff, ↓reduceIte, reduceCtorEq, Nat.reduceBEq, Nat.reduceBNe, Nat.reducePow, Int.reduceLE, Int.reduceLT, Int.reduceNeg, Int.reduceToNat, Int.reduceEq, Int.reduceAdd, Int.reduceSub, Int.reduceMul, Int.reduceBEq, Int.reduceBNe, Blk.men, Blk.keysIn, q1])
    | (exact retS_of rfl rfl rfl)
    | (refine DW.cond_tt rfl ?_)
    | (refine DW.cond_ff rfl ?_)
    | (refine DW.cond rfl ?_ ?_ <;> intro hc <;> (try simp only [go_sem] at hc))
    | (refine g_split ?_ ?_ <;> intro hc <;> (try simp only [hc]) <;> (try simp only [go_sem] at hc)))
          refine ⟨⟨z + 1, hzl⟩, ?_, Ent.to ?_ ?_⟩ <;> first | (show _ < _; (try simp only); omega) | (simp (disch := omega) only [wkT_cons, wkX_cons, wkT_nil, wkX_nil, get, Nat.reduceEqDiff, ↓reduceIte, ex_some, wk_self, wk_top, wk_nil, wkB_self, and_self, dI, i64_in, and_true, true_and, Int.natCast_add, Int.natCast_one, Int.ofNat_zero, Int.natCast_zero,  bxP])
          all_goals exact .refl _
      · obtain ⟨e0, e1, e2, e⟩ := h
        repeat' (first
    | (with_reducible refine DW.seq ?_)
    | (with_reducible refine DW.block ?_)
    | (with_reducible refine DW.skip ?_)
    | (with_reducible refine DW.exit ?_)
    | (with_reducible refine DW.ret ?_)
    | (with_reducible refine DW.reg ?_)
    | (refine DW.dreg rfl (WF.of (by first | rfl | simp (disch := omega) only [go_sem, Nat.reduceLT, Nat.reduceLeDiff, Nat.reduceAdd, Nat.reduceMul, Nat.reduceEqDiff, ↓reduceIte, reduceCtorEq, Nat.reduceBEq, Nat.reduceBNe, Nat.reducePow, Int.reduceLE, Int.reduceLT, Int.reduceNeg, Int.reduceToNat, Int.reduceEq, Int.reduceAdd, Int.reduceSub, Int.reduceMul, Int.reduceBEq, Int.reduceBNe, Blk.men, Blk.keysIn, hid, hv, hlz, d1, d2, d3, hshl, e0, e1, e2, e])) ?_)
    | (simp (disch := omega) only [go_sem, Nat.reduceLT, Nat.reduceLeDiff, Nat.reduceAdd, Nat.reduceMul, Nat.reduceEqDiff, ↓reduceIte, reduceCtorEq, Nat.reduceBEq, Nat.reduceBNe, Nat.reducePow, Int.reduceLE, Int.reduceLT, Int.reduceNeg, Int.reduceToNat, Int.reduceEq, Int.reduceAdd, Int.reduceSub, Int.reduceMul, Int.reduceBEq, Int.reduceBNe, Blk.men, Blk.keysIn, hid, hv, hlz, d1, d2, d3, hshl, e0, e1, e2, e])
    | (exact retS_of rfl rfl rfl)
    | (refine DW.cond_tt rfl ?_)
    | (refine DW.cond_ff rfl ?_)
    | (refine DW.cond rfl ?_ ?_ <;> intro hc <;> (try simp only [go_sem] at hc))
    | (refine g_split ?_ ?_ <;> intro hc <;> (try simp only [hc]) <;> (try simp only [go_sem] at hc)))
        refine DW.loop (ι := { t : Nat // t ≤ x.st }) (fun t => ⟨181, [(16, dI t.1), (12, dI z), (10, dIs false (nL (nozP x))), (8, dIs false (nL l)), (7, dCs false s), (6, dI n), (5, .box 5 0)], [(5, bxP false x)]⟩) (fun t => x.st - t.1) ⟨0, Nat.zero_le _⟩ ?_ ?_
        · refine Ent.to ?_ ?_ <;> simp (disch := omega) only [wkT_cons, wkX_cons, wkT_nil, wkX_nil, get, Nat.reduceEqDiff, ↓reduceIte, ex_some, wk_self, wk_top, wk_nil, wkB_self, and_self, dI, i64_in, and_true, true_and, Int.natCast_add, Int.natCast_one, Int.ofNat_zero, Int.natCast_zero, bxP]
          all_goals exact .refl _
        rintro ⟨t, ht⟩
        rcases Nat.lt_or_ge t x.st with htl | htl
        · have q1 : decide ((t : Int) < (x.st : Int)) = true := by rw [decide_eq_true_eq]; omega
          have q2 := hbits t htl
          have q3 := h53 t htl
          have q4 : ((givesL x.st v s n z t) != (givesL x.st v s n z t)) = false := bne_self_eq_false _
          have q5 : (g >>> t) % 2 < 2 := Nat.mod_lt _ (by decide)
          have q6 : g >>> t ≤ g := by rw [Nat.shiftRight_eq_div_pow]; exact Nat.div_le_self _ _
          generalize givesL x.st v s n z t = q at *
          repeat' (first
    | (with_reducible refine DW.seq ?_)
    | (with_reducible refine DW.block ?_)
    | (with_reducible refine DW.skip ?_)
    | (with_reducible refine DW.exit ?_)
    | (with_reducible refine DW.ret ?_)
    | (with_reducible refine DW.reg ?_)
    | (refine DW.dreg rfl (WF.of (by first | rfl | simp (disch := omega) only [go_sem, Nat.reduceLT, Nat.reduceLeDiff, Nat.reduceAdd, Nat.reduceMul, Nat.reduceEqDiff, ↓reduceIte, reduceCtorEq, Nat.reduceBEq, Nat.reduceBNe, Nat.reducePow, Int.reduceLE, Int.reduceLT, Int.reduceNeg, Int.reduceToNat, Int.reduceEq, Int.reduceAdd, Int.reduceSub, Int.reduceMul, Int.reduceBEq, Int.reduceBNe, Blk.men, Blk.keysIn, q1, hlz, q2, q4])) ?_)
    | (simp (disch := omega) only [go_sem, Nat.reduceLT, Nat.reduceLeDiff, Nat.reduceAdd, Nat.reduceMul, Nat.reduceEqDiff, ↓reduceIte, reduceCtorEq, Nat.reduceBEq, Nat.reduceBNe, Nat.reducePow, Int.reduceLE, Int.reduceLT, Int.reduceNeg, Int.reduceToNat, Int.reduceEq, Int.reduceAdd, Int.reduceSub, Int.reduceMul, Int.reduceBEq, Int.reduceBNe, Blk.men, Blk.keysIn, q1, hlz, q2, q4])
    | (exact retS_of rfl rfl rfl)
    | (refine DW.cond_tt rfl ?_)
    | (refine call_c (q3) (by decide) ?_)
    | (refine DW.cond_ff rfl ?_)
    | (refine DW.cond rfl ?_ ?_ <;> intro hc <;> (try simp only [go_sem] at hc))
    | (refine g_split ?_ ?_ <;> intro hc <;> (try simp only [hc]) <;> (try simp only [go_sem] at hc)))
          refine ⟨⟨t + 1, htl⟩, ?_, Ent.to ?_ ?_⟩ <;> first | (show _ < _; (try simp only); omega) | (simp (disch := omega) only [wkT_cons, wkX_cons, wkT_nil, wkX_nil, get, Nat.reduceEqDiff, ↓reduceIte, ex_some, wk_self, wk_top, wk_nil, wkB_self, and_self, dI, i64_in, and_true, true_and, Int.natCast_add, Int.natCast_one, Int.ofNat_zero, Int.natCast_zero,  bxP])
          all_goals exact .refl _
        · have q1 : decide ((t : Int) < (x.st : Int)) = false := by rw [decide_eq_false_iff_not]; omega
          repeat' (first
    | (with_reducible refine DW.seq ?_)
    | (with_reducible refine DW.block ?_)
    | (with_reducible refine DW.skip ?_)
    | (with_reducible refine DW.exit ?_)
    | (with_reducible refine DW.ret ?_)
    | (with_reducible refine DW.reg ?_)
    | (refine DW.dreg rfl (WF.of (by first | rfl | simp (disch := omega) only [go_sem, Nat.reduceLT, Nat.reduceLeDiff, Nat.reduceAdd, Nat.reduceMul, Nat.reduceEqDiff, ↓reduceIte, reduceCtorEq, Nat.reduceBEq, Nat.reduceBNe, Nat.reducePow, Int.reduceLE, Int.reduceLT, Int.reduceNeg, Int.reduceToNat, Int.reduceEq, Int.reduceAdd, Int.reduceSub, Int.reduceMul, Int.reduceBEq, Int.reduceBNe, Blk.men, Blk.keysIn, q1])) ?_)
    | (simp (disch := omega) only [go_sem, Nat.reduceLT, Nat.reduceLeDiff, Nat.reduceAdd, Nat.reduceMul, Nat.reduceEqDiff, ↓reduceIte, reduceCtorEq, Nat.reduceBEq, Nat.reduceBNe, Nat.reducePow, Int.reduceLE, Int.reduceLT, Int.reduceNeg, Int.reduceToNat, Int.reduceEq, Int.reduceAdd, Int.reduceSub, Int.reduceMul, Int.reduceBEq, Int.reduceBNe, Blk.men, Blk.keysIn, q1])
    | (exact retS_of rfl rfl rfl)
    | (refine DW.cond_tt rfl ?_)
    | (refine DW.cond_ff rfl ?_)
    | (refine DW.cond rfl ?_ ?_ <;> intro hc <;> (try simp only [go_sem] at hc))
    | (refine g_split ?_ ?_ <;> intro hc <;> (try simp only [hc]) <;> (try simp only [go_sem] at hc)))
          refine ⟨⟨z + 1, hzl⟩, ?_, Ent.to ?_ ?_⟩ <;> first | (show _ < _; (try simp only); omega) | (simp (disch := omega) only [wkT_cons, wkX_cons, wkT_nil, wkX_nil, get, Nat.reduceEqDiff, ↓reduceIte, ex_some, wk_self, wk_top, wk_nil, wkB_self, and_self, dI, i64_in, and_true, true_and, Int.natCast_add, Int.natCast_one, Int.ofNat_zero, Int.natCast_zero,  bxP])
          all_goals exact .refl _
  · repeat' (first
    | (with_reducible refine DW.seq ?_)
    | (with_reducible refine DW.block ?_)
    | (with_reducible refine DW.skip ?_)
    | (with_reducible refine DW.exit ?_)
    | (with_reducible refine DW.ret ?_)
    | (with_reducible refine DW.reg ?_)
    | (refine DW.dreg rfl (WF.of (by first | rfl | simp (disch := omega) only [go_sem, Nat.reduceLT, Nat.reduceLeDiff, Nat.reduceAdd, Nat.reduceMul, Nat.reduceEqDiff, ↓reduceIte, reduceCtorEq, Nat.reduceBEq, Nat.reduceBNe, Nat.reducePow, Int.reduceLE, Int.reduceLT, Int.reduceNeg, Int.reduceToNat, Int.reduceEq, Int.reduceAdd, Int.reduceSub, Int.reduceMul, Int.reduceBEq, Int.reduceBNe, Blk.men, Blk.keysIn, hd])) ?_)
    | (simp (disch := omega) only [go_sem, Nat.reduceLT, Nat.reduceLeDiff, Nat.reduceAdd, Nat.reduceMul, Nat.reduceEqDiff, ↓reduceIte, reduceCtorEq, Nat.reduceBEq, Nat.reduceBNe, Nat.reducePow, Int.reduceLE, Int.reduceLT, Int.reduceNeg, Int.reduceToNat, Int.reduceEq, Int.reduceAdd, Int.reduceSub, Int.reduceMul, Int.reduceBEq, Int.reduceBNe, Blk.men, Blk.keysIn, hd])
    | (exact retS_of rfl rfl rfl)
    | (refine DW.cond_tt rfl ?_)
    | (refine call_c (c15) (by decide) ?_)
    | (refine DW.cond_ff rfl ?_)
    | (refine DW.cond rfl ?_ ?_ <;> intro hc <;> (try simp only [go_sem] at hc))
    | (refine g_split ?_ ?_ <;> intro hc <;> (try simp only [hc]) <;> (try simp only [go_sem] at hc)))
end Go.Dw.Seat
end
section
set_option linter.unusedSimpArgs false
set_option maxRecDepth 100000
namespace Go.Dw.Seat
open Go Go.Dw Go.Proofs Go.ChangeShapes Go.WideShapes Go.ChangeAt Go.RowKit
theorem givenLifted (os : Os) (started : os.Started) (H : Type) (enc : TypeId × Value → H) :
    ReturnsInHanded {} Try.checked os 11 .any (Ytecgononbfgigaa.Rows.glueGivenSpec.pre6 enc Try.prog Try.f11 Ytecgononbfgigaa.Rows.glueGivenRow.domain false) (Ytecgononbfgigaa.Rows.glueGivenSpec.post enc Try.prog Try.f11 false true false false) := by
  refine returnsInHanded_of_change (C := Try.checked) tOwn started (by kernel_rfl) Try.func11
    (ChangeSpec.witness6 (enc := enc) (C := Try.checked) false ⟨#[], #[.agg #[.int .u8 0, .slice none 0 0, .int .u8 0, .int .u8 0, .int .u8 0, .int .u8 0, .int .u8 0, .int .u8 0, .int .u8 0, .int .u8 0, .int .u8 0, .int .u8 0], .int .u8 0], []⟩ 8 (by kernel_rfl) (by kernel_rfl) (by kernel_rfl) (by kernel_rfl)) ?_
  intro W base args ds gs before hval0 hW _ _
  have hval : ∀ (j : Nat) t v, Try.f11.params[j]? = some t → args[j]? = some v → Value.okWide Try.prog W .any base t v := hval0
  have hW' : DataW.Whole enc Try.prog Try.f11.params.toList [] false W args.toList ds gs before := hW
  obtain ⟨p, q, hA, hV, rfl, hfz, hnd⟩ := hW
  have hA : DataW.TrodAll enc Try.prog W 0 (fun _ => true) true [93, 5] args.toList ds p := hA
  obtain ⟨rfl, rfl⟩ := trodVars_none hV
  obtain ⟨v0, vs0, d0, ds0, p0, q0, hargs, rfl, rfl, h0, r0⟩ := trodAll_cons hA
  obtain ⟨v1, vs1, d1, ds1, p1, q1, rfl, rfl, rfl, h1, r1⟩ := trodAll_cons r0
  obtain ⟨rfl, rfl, rfl⟩ := trodAll_nil r1
  obtain rfl : args = #[v0, v1] := by cases args; simp_all
  obtain ⟨f93, hu93, _⟩ := structIs_spec st93
  obtain ⟨c0, rfl, _⟩ := okWide_struct hu93 (hval 0 93 v0 rfl rfl)
  obtain ⟨n1, rfl⟩ := okWide_int und5 (hval 1 5 v1 rfl rfl)
  obtain ⟨fu0, h0⟩ := h0
  obtain ⟨fu1, h1⟩ := h1
  obtain ⟨ln, hlo, hln⟩ := rd_Line h0
  have hln : RepVs W A0 [.v (.int .u8 ln.steps), .sl false 1 (rows eU ln.noz), .v (.int .u8 ln.f0), .v (.int .u8 ln.f1), .v (.int .u8 ln.f2), .v (.int .u8 ln.a0), .v (.int .u8 ln.a1), .v (.int .u8 ln.a2), .v (.int .u8 ln.b0), .v (.int .u8 ln.b1), .v (.int .u8 ln.b2), .v (.int .u8 ln.many)] c0.toList := by simpa [Value.cells] using hln
  obtain ⟨b1, e1, hb1⟩ := rd_U8 h1
  have e1 : n1 = b1 := by simpa [Value.cells] using e1
  subst e1
  refine ((c11 false ln b1 hlo hb1).calls (W := W) (vs := [.agg c0, .int .u8 b1]) (fun G => ?_)).mono ?_
  · exact ⟨_, _, rfl, ⟨c0, rfl, RepDs.ofVs hln⟩, _, _, rfl, ⟨rfl, rfl⟩, rfl⟩
  · rintro e W' ⟨v, rfl, ⟨G', A', hr⟩, hb⟩
    obtain ⟨rfl, _⟩ := hr
    exact ⟨_, rfl, post_true tLaid (by decide +kernel) hW' hb rfl rfl u4 rfl rfl rfl⟩
theorem givenHolds : Ytecgononbfgigaa.Rows.glueGivenRow.holds Ytecgononbfgigaa.Try.pinned (OpenSpec.ofChange Ytecgononbfgigaa.Rows.glueGivenSpec) :=
  OpenClaim.holds_of_wide 11 Try.f11 rfl rfl rfl rfl rfl rfl rfl ⟨rfl, rfl, rfl, rfl, rfl⟩ rfl rfl rfl rfl rfl (by kernel_rfl) Try.func11 (by kernel_rfl)
    (of_decide_eq_true (by kernel_rfl)) (by unfold Func.isWrapper; first | (rw [if_pos (by decide +kernel)]; kernel_rfl) | (rw [if_neg (by decide +kernel)]; exact ⟨rfl, rfl⟩))
    (fun os started H enc _ => givenLifted os started H enc)
end Go.Dw.Seat
namespace Go.Proofs.Ytecgononbfgigaa
theorem givenSaid : Rows.GlueGivenSaid := Go.Dw.Seat.givenHolds
end Go.Proofs.Ytecgononbfgigaa
end
