/- The law GlueNext returns true for every line in bytes, all looks in bytes and one place more, and changes nothing that was there before: the full statement GlueNextSaid, without conditions.
   The walk of each function is in the texts before; that the next look leaves no more states than any other place does is a plain law. -/
import Derived.Test.YtecgononbfgigaaN02
import Derived.Test.YtecgononbfgigaaRows
import Derived.ProofKit
import Derived.OpenShut
set_option linter.unusedVariables false
set_option linter.unusedSimpArgs false
section
set_option linter.unusedSimpArgs false
set_option maxRecDepth 100000
namespace Go.Dw.Seat
open Go Go.Dw Go.Proofs Go.IntWalk
theorem c84 (r : Room) : DCall Try.prog 84 [.agg ((eR r).map D.c)] [] (bD (!roomOk r)) [] := by
  refine DCall.of Try.func84 sf84 hb84 (Nat.le_of_ble_eq_true rfl) (okRes_nil fun _ => rfl) ?_; simp only [s84, idxs, Nat.reduceAdd]
  repeat' (first
    | (with_reducible refine DW.seq ?_)
    | (with_reducible refine DW.block ?_)
    | (with_reducible refine DW.skip ?_)
    | (with_reducible refine DW.exit ?_)
    | (with_reducible refine DW.ret ?_)
    | (with_reducible refine DW.reg ?_)
    | (simp (disch := omega) only [go_sem, Nat.reduceLT, Nat.reduceLeDiff, Nat.reduceAdd, Nat.reduceMul, Nat.reduceEqDiff, ↓reduceIte, reduceCtorEq, Nat.reduceBEq, Nat.reduceBNe, Nat.reducePow, Int.reduceLE, Int.reduceLT, Int.reduceNeg, Int.reduceToNat, Int.reduceEq, Int.reduceAdd, Int.reduceSub, Int.reduceMul, Int.reduceBEq, Int.reduceBNe, Blk.men, Blk.keysIn, List.map_cons, List.map_nil])
    | (exact retS_of rfl rfl rfl)
    | (refine DW.cond_tt rfl ?_)
    | (refine call_c (c85 r) (by decide) ?_)
    | (refine DW.cond_ff rfl ?_)
    | (refine DW.cond rfl ?_ ?_ <;> intro hc <;> (try simp only [go_sem] at hc))
    | (refine g_split ?_ ?_ <;> intro hc <;> (try simp only [hc]) <;> (try simp only [go_sem] at hc)))
def opErr (r : Rule) (rooms : List Room) (mins : List Int) : Int :=
  if ruleOk r = false then 2 else if 50 < (rooms.length : Int) then 5 else if (mins.length : Int) ≠ rooms.length then 4 else if (rooms.any fun m => !roomOk m) = true then 3 else if wthn 0 2400 mins = false then 3 else 0
def opF (f : Room → Int) (rooms : List Room) (mins : List Int) (n : Nat) : List Nat := (List.range n).filter fun i => decide (mins.getD i 0 < f (rooms.getD i ⟨0, 0, 0, 0⟩))
theorem opF_succ {f : Room → Int} {rooms : List Room} {mins : List Int} {n : Nat} {m : Room} {v : Int} (hm : rooms[n]? = some m) (hv : mins[n]? = some v) :
    opF f rooms mins (n + 1) = opF f rooms mins n ++ (if decide (v < f m) then [n] else []) := by
  unfold opF
  rw [filter_range]
  simp only [List.getD, hm, hv, Option.getD_some]
theorem opF_len (f : Room → Int) (rooms : List Room) (mins : List Int) (n : Nat) : (opF f rooms mins n).length ≤ n := by
  refine Nat.le_trans (List.length_filter_le _ _) (by simp)
def opOut (f : Room → Int) (r : Rule) (rooms : List Room) (mins : List Int) : List Nat := if opErr r rooms mins = 0 then opF f rooms mins rooms.length else []
theorem c39 (b b2 : Bool) (r : Rule) (rooms : List Room) (mins : List Int) (hl : rooms.length ≤ 2 ^ 36) (hm : mins.length ≤ 2 ^ 36) :
    DCall Try.prog 39 [dR r, .c (.sl b 4 (rows eR rooms)), dIs b2 mins] [] (.tup [dIs false (nL (opOut (pressLo r) r rooms mins)), dIs false (nL (opOut (pressHi r) r rooms mins)), dI (opErr r rooms mins)]) [] := by
  have hfn := c87 b rooms hl 84 [] [] (fun m => !roomOk m) (fun m _ => c84 m)
  have h88 := c88 b2 0 2400 mins hm
  have fin : ∀ {e : Int}, opErr r rooms mins = e → e ≠ 0 → (∀ f, opOut f r rooms mins = []) := fun h1 h2 f => by
    simp only [opOut]; rw [if_neg (by rw [h1]; exact h2)]
  cases hr : ruleOk r with
  | false =>
    have he : opErr r rooms mins = 2 := by simp only [opErr, hr, if_true]
    rw [he, fin he (by decide), fin he (by decide)]
    refine DCall.of Try.func39 sf39 hb39 (Nat.le_of_ble_eq_true rfl) (okRes_nil fun _ => rfl) ?_; simp only [s39, idxs, Nat.reduceAdd]
    repeat' (first
    | (with_reducible refine DW.seq ?_)
    | (with_reducible refine DW.block ?_)
    | (with_reducible refine DW.skip ?_)
    | (with_reducible refine DW.exit ?_)
    | (with_reducible refine DW.ret ?_)
    | (with_reducible refine DW.reg ?_)
    | (refine DW.dreg rfl (WF.of (by first | rfl | simp (disch := omega) only [go_sem, Nat.reduceLT, Nat.reduceLeDiff, Nat.reduceAdd, Nat.reduceMul, Nat.reduceEqDiff, ↓reduceIte, reduceCtorEq, Nat.reduceBEq, Nat.reduceBNe, Nat.reducePow, Int.reduceLE, Int.reduceLT, Int.reduceNeg, Int.reduceToNat, Int.reduceEq, Int.reduceAdd, Int.reduceSub, Int.reduceMul, Int.reduceBEq, Int.reduceBNe, Blk.men, Blk.keysIn, hr])) ?_)
    | (simp (disch := omega) only [go_sem, Nat.reduceLT, Nat.reduceLeDiff, Nat.reduceAdd, Nat.reduceMul, Nat.reduceEqDiff, ↓reduceIte, reduceCtorEq, Nat.reduceBEq, Nat.reduceBNe, Nat.reducePow, Int.reduceLE, Int.reduceLT, Int.reduceNeg, Int.reduceToNat, Int.reduceEq, Int.reduceAdd, Int.reduceSub, Int.reduceMul, Int.reduceBEq, Int.reduceBNe, Blk.men, Blk.keysIn, hr])
    | (exact retS_of rfl rfl rfl)
    | (refine DW.cond_tt rfl ?_)
    | (refine call_c (c86 r) (by decide) ?_)
    | (refine DW.cond_ff rfl ?_)
    | (refine DW.cond rfl ?_ ?_ <;> intro hc <;> (try simp only [go_sem] at hc))
    | (refine g_split ?_ ?_ <;> intro hc <;> (try simp only [hc]) <;> (try simp only [go_sem] at hc)))
    refine retS_wk rfl ?_ (by simp only [Blk.nb, rowC_nb, D.nb, D.nbs, C.nb, C.nbs, C.nbss, rows_nb eI_nb, rows_nb eC_nb, rows_nb eL_nb, rows_nb eR_nb, rows_nb eS_nb, rows_nb eG_nb, Bool.and_true, Bool.not_false, Bool.and_self, bD, dI, iD]); exact .tup (.cons (.nil _ _) (.cons (.nil _ _) (.cons (.refl _) .nil)))
  | true =>
  by_cases h50 : 50 < (rooms.length : Int)
  · have he : opErr r rooms mins = 5 := by simp only [opErr, hr, h50, if_true, if_false, Bool.true_eq_false]
    have hd : decide ((50 : Int) < (rooms.length : Int)) = true := decide_eq_true h50
    rw [he, fin he (by decide), fin he (by decide)]
    refine DCall.of Try.func39 sf39 hb39 (Nat.le_of_ble_eq_true rfl) (okRes_nil fun _ => rfl) ?_; simp only [s39, idxs, Nat.reduceAdd]
    repeat' (first
    | (with_reducible refine DW.seq ?_)
    | (with_reducible refine DW.block ?_)
    | (with_reducible refine DW.skip ?_)
    | (with_reducible refine DW.exit ?_)
    | (with_reducible refine DW.ret ?_)
    | (with_reducible refine DW.reg ?_)
    | (refine DW.dreg rfl (WF.of (by first | rfl | simp (disch := omega) only [go_sem, Nat.reduceLT, Nat.reduceLeDiff, Nat.reduceAdd, Nat.reduceMul, Nat.reduceEqDiff, ↓reduceIte, reduceCtorEq, Nat.reduceBEq, Nat.reduceBNe, Nat.reducePow, Int.reduceLE, Int.reduceLT, Int.reduceNeg, Int.reduceToNat, Int.reduceEq, Int.reduceAdd, Int.reduceSub, Int.reduceMul, Int.reduceBEq, Int.reduceBNe, Blk.men, Blk.keysIn, hr, hd])) ?_)
    | (simp (disch := omega) only [go_sem, Nat.reduceLT, Nat.reduceLeDiff, Nat.reduceAdd, Nat.reduceMul, Nat.reduceEqDiff, ↓reduceIte, reduceCtorEq, Nat.reduceBEq, Nat.reduceBNe, Nat.reducePow, Int.reduceLE, Int.reduceLT, Int.reduceNeg, Int.reduceToNat, Int.reduceEq, Int.reduceAdd, Int.reduceSub, Int.reduceMul, Int.reduceBEq, Int.reduceBNe, Blk.men, Blk.keysIn, hr, hd])
    | (exact retS_of rfl rfl rfl)
    | (refine DW.cond_tt rfl ?_)
    | (refine call_c (c86 r) (by decide) ?_)
    | (refine DW.cond_ff rfl ?_)
    | (refine DW.cond rfl ?_ ?_ <;> intro hc <;> (try simp only [go_sem] at hc))
    | (refine g_split ?_ ?_ <;> intro hc <;> (try simp only [hc]) <;> (try simp only [go_sem] at hc)))
    refine retS_wk rfl ?_ (by simp only [Blk.nb, rowC_nb, D.nb, D.nbs, C.nb, C.nbs, C.nbss, rows_nb eI_nb, rows_nb eC_nb, rows_nb eL_nb, rows_nb eR_nb, rows_nb eS_nb, rows_nb eG_nb, Bool.and_true, Bool.not_false, Bool.and_self, bD, dI, iD]); exact .tup (.cons (.nil _ _) (.cons (.nil _ _) (.cons (.refl _) .nil)))
  have hd : decide ((50 : Int) < (rooms.length : Int)) = false := decide_eq_false h50
  by_cases hne : (mins.length : Int) = rooms.length
  case neg =>
    have he : opErr r rooms mins = 4 := by simp only [opErr, hr, h50, hne, if_true, if_false, Bool.true_eq_false, ne_eq, not_false_eq_true]
    have hd2 : ((mins.length : Int) != (rooms.length : Int)) = true := by simpa using hne
    rw [he, fin he (by decide), fin he (by decide)]
    refine DCall.of Try.func39 sf39 hb39 (Nat.le_of_ble_eq_true rfl) (okRes_nil fun _ => rfl) ?_; simp only [s39, idxs, Nat.reduceAdd]
    repeat' (first
    | (with_reducible refine DW.seq ?_)
    | (with_reducible refine DW.block ?_)
    | (with_reducible refine DW.skip ?_)
    | (with_reducible refine DW.exit ?_)
    | (with_reducible refine DW.ret ?_)
    | (with_reducible refine DW.reg ?_)
    | (refine DW.dreg rfl (WF.of (by first | rfl | simp (disch := omega) only [go_sem, Nat.reduceLT, Nat.reduceLeDiff, Nat.reduceAdd, Nat.reduceMul, Nat.reduceEqDiff, ↓reduceIte, reduceCtorEq, Nat.reduceBEq, Nat.reduceBNe, Nat.reducePow, Int.reduceLE, Int.reduceLT, Int.reduceNeg, Int.reduceToNat, Int.reduceEq, Int.reduceAdd, Int.reduceSub, Int.reduceMul, Int.reduceBEq, Int.reduceBNe, Blk.men, Blk.keysIn, hr, hd, hd2])) ?_)
    | (simp (disch := omega) only [go_sem, Nat.reduceLT, Nat.reduceLeDiff, Nat.reduceAdd, Nat.reduceMul, Nat.reduceEqDiff, ↓reduceIte, reduceCtorEq, Nat.reduceBEq, Nat.reduceBNe, Nat.reducePow, Int.reduceLE, Int.reduceLT, Int.reduceNeg, Int.reduceToNat, Int.reduceEq, Int.reduceAdd, Int.reduceSub, Int.reduceMul, Int.reduceBEq, Int.reduceBNe, Blk.men, Blk.keysIn, hr, hd, hd2])
    | (exact retS_of rfl rfl rfl)
    | (refine DW.cond_tt rfl ?_)
    | (refine call_c (c86 r) (by decide) ?_)
    | (refine DW.cond_ff rfl ?_)
    | (refine DW.cond rfl ?_ ?_ <;> intro hc <;> (try simp only [go_sem] at hc))
    | (refine g_split ?_ ?_ <;> intro hc <;> (try simp only [hc]) <;> (try simp only [go_sem] at hc)))
    refine retS_wk rfl ?_ (by simp only [Blk.nb, rowC_nb, D.nb, D.nbs, C.nb, C.nbs, C.nbss, rows_nb eI_nb, rows_nb eC_nb, rows_nb eL_nb, rows_nb eR_nb, rows_nb eS_nb, rows_nb eG_nb, Bool.and_true, Bool.not_false, Bool.and_self, bD, dI, iD]); exact .tup (.cons (.nil _ _) (.cons (.nil _ _) (.cons (.refl _) .nil)))
  have hd2 : ((mins.length : Int) != (rooms.length : Int)) = false := by simpa using hne
  cases ha : rooms.any fun m => !roomOk m with
  | true =>
    have he : opErr r rooms mins = 3 := by simp only [opErr, hr, h50, hne, ha, if_true, if_false, Bool.true_eq_false, ne_eq, not_true_eq_false]
    rw [ha] at hfn
    rw [he, fin he (by decide), fin he (by decide)]
    refine DCall.of Try.func39 sf39 hb39 (Nat.le_of_ble_eq_true rfl) (okRes_nil fun _ => rfl) ?_; simp only [s39, idxs, Nat.reduceAdd]
    repeat' (first
    | (with_reducible refine DW.seq ?_)
    | (with_reducible refine DW.block ?_)
    | (with_reducible refine DW.skip ?_)
    | (with_reducible refine DW.exit ?_)
    | (with_reducible refine DW.ret ?_)
    | (with_reducible refine DW.reg ?_)
    | (refine DW.dreg rfl (WF.of (by first | rfl | simp (disch := omega) only [go_sem, Nat.reduceLT, Nat.reduceLeDiff, Nat.reduceAdd, Nat.reduceMul, Nat.reduceEqDiff, ↓reduceIte, reduceCtorEq, Nat.reduceBEq, Nat.reduceBNe, Nat.reducePow, Int.reduceLE, Int.reduceLT, Int.reduceNeg, Int.reduceToNat, Int.reduceEq, Int.reduceAdd, Int.reduceSub, Int.reduceMul, Int.reduceBEq, Int.reduceBNe, Blk.men, Blk.keysIn, hr, hd, hd2])) ?_)
    | (simp (disch := omega) only [go_sem, Nat.reduceLT, Nat.reduceLeDiff, Nat.reduceAdd, Nat.reduceMul, Nat.reduceEqDiff, ↓reduceIte, reduceCtorEq, Nat.reduceBEq, Nat.reduceBNe, Nat.reducePow, Int.reduceLE, Int.reduceLT, Int.reduceNeg, Int.reduceToNat, Int.reduceEq, Int.reduceAdd, Int.reduceSub, Int.reduceMul, Int.reduceBEq, Int.reduceBNe, Blk.men, Blk.keysIn, hr, hd, hd2])
    | (exact retS_of rfl rfl rfl)
    | (refine DW.cond_tt rfl ?_)
    | (refine call_c (c86 r) (by decide) ?_)
    | (refine call_c (hfn) (by decide) ?_)
    | (refine DW.cond_ff rfl ?_)
    | (refine DW.cond rfl ?_ ?_ <;> intro hc <;> (try simp only [go_sem] at hc))
    | (refine g_split ?_ ?_ <;> intro hc <;> (try simp only [hc]) <;> (try simp only [go_sem] at hc)))
    refine retS_wk rfl ?_ (by simp only [Blk.nb, rowC_nb, D.nb, D.nbs, C.nb, C.nbs, C.nbss, rows_nb eI_nb, rows_nb eC_nb, rows_nb eL_nb, rows_nb eR_nb, rows_nb eS_nb, rows_nb eG_nb, Bool.and_true, Bool.not_false, Bool.and_self, bD, dI, iD]); exact .tup (.cons (.nil _ _) (.cons (.nil _ _) (.cons (.refl _) .nil)))
  | false =>
  rw [ha] at hfn
  cases hw : wthn 0 2400 mins with
  | false =>
    have he : opErr r rooms mins = 3 := by simp only [opErr, hr, h50, hne, ha, hw, if_true, if_false, Bool.true_eq_false, Bool.false_eq_true, ne_eq, not_true_eq_false]
    rw [hw] at h88
    rw [he, fin he (by decide), fin he (by decide)]
    refine DCall.of Try.func39 sf39 hb39 (Nat.le_of_ble_eq_true rfl) (okRes_nil fun _ => rfl) ?_; simp only [s39, idxs, Nat.reduceAdd]
    repeat' (first
    | (with_reducible refine DW.seq ?_)
    | (with_reducible refine DW.block ?_)
    | (with_reducible refine DW.skip ?_)
    | (with_reducible refine DW.exit ?_)
    | (with_reducible refine DW.ret ?_)
    | (with_reducible refine DW.reg ?_)
    | (refine DW.dreg rfl (WF.of (by first | rfl | simp (disch := omega) only [go_sem, Nat.reduceLT, Nat.reduceLeDiff, Nat.reduceAdd, Nat.reduceMul, Nat.reduceEqDiff, ↓reduceIte, reduceCtorEq, Nat.reduceBEq, Nat.reduceBNe, Nat.reducePow, Int.reduceLE, Int.reduceLT, Int.reduceNeg, Int.reduceToNat, Int.reduceEq, Int.reduceAdd, Int.reduceSub, Int.reduceMul, Int.reduceBEq, Int.reduceBNe, Blk.men, Blk.keysIn, hr, hd, hd2])) ?_)
    | (simp (disch := omega) only [go_sem, Nat.reduceLT, Nat.reduceLeDiff, Nat.reduceAdd, Nat.reduceMul, Nat.reduceEqDiff, ↓reduceIte, reduceCtorEq, Nat.reduceBEq, Nat.reduceBNe, Nat.reducePow, Int.reduceLE, Int.reduceLT, Int.reduceNeg, Int.reduceToNat, Int.reduceEq, Int.reduceAdd, Int.reduceSub, Int.reduceMul, Int.reduceBEq, Int.reduceBNe, Blk.men, Blk.keysIn, hr, hd, hd2])
    | (exact retS_of rfl rfl rfl)
    | (refine DW.cond_tt rfl ?_)
    | (refine call_c (c86 r) (by decide) ?_)
    | (refine call_c (hfn) (by decide) ?_)
    | (refine call_c (h88) (by decide) ?_)
    | (refine DW.cond_ff rfl ?_)
    | (refine DW.cond rfl ?_ ?_ <;> intro hc <;> (try simp only [go_sem] at hc))
    | (refine g_split ?_ ?_ <;> intro hc <;> (try simp only [hc]) <;> (try simp only [go_sem] at hc)))
    refine retS_wk rfl ?_ (by simp only [Blk.nb, rowC_nb, D.nb, D.nbs, C.nb, C.nbs, C.nbss, rows_nb eI_nb, rows_nb eC_nb, rows_nb eL_nb, rows_nb eR_nb, rows_nb eS_nb, rows_nb eG_nb, Bool.and_true, Bool.not_false, Bool.and_self, bD, dI, iD]); exact .tup (.cons (.nil _ _) (.cons (.nil _ _) (.cons (.refl _) .nil)))
  | true =>
    have he : opErr r rooms mins = 0 := by simp only [opErr, hr, h50, hne, ha, hw, if_true, if_false, Bool.true_eq_false, Bool.false_eq_true, ne_eq, not_true_eq_false]
    have ho : ∀ f, opOut f r rooms mins = opF f rooms mins rooms.length := fun f => by simp only [opOut, he, if_true]
    rw [hw] at h88
    rw [he, ho, ho]
    refine DCall.of Try.func39 sf39 hb39 (Nat.le_of_ble_eq_true rfl) (okRes_nil fun _ => rfl) ?_; simp only [s39, idxs, Nat.reduceAdd]
    repeat' (first
    | (with_reducible refine DW.seq ?_)
    | (with_reducible refine DW.block ?_)
    | (with_reducible refine DW.skip ?_)
    | (with_reducible refine DW.exit ?_)
    | (with_reducible refine DW.ret ?_)
    | (with_reducible refine DW.reg ?_)
    | (refine DW.dreg rfl (WF.of (by first | rfl | simp (disch := omega) only [go_sem, Nat.reduceLT, Nat.reduceLeDiff, Nat.reduceAdd, Nat.reduceMul, Nat.reduceEqDiff, ↓reduceIte, reduceCtorEq, Nat.reduceBEq, Nat.reduceBNe, Nat.reducePow, Int.reduceLE, Int.reduceLT, Int.reduceNeg, Int.reduceToNat, Int.reduceEq, Int.reduceAdd, Int.reduceSub, Int.reduceMul, Int.reduceBEq, Int.reduceBNe, Blk.men, Blk.keysIn, hr, hd, hd2])) ?_)
    | (simp (disch := omega) only [go_sem, Nat.reduceLT, Nat.reduceLeDiff, Nat.reduceAdd, Nat.reduceMul, Nat.reduceEqDiff, ↓reduceIte, reduceCtorEq, Nat.reduceBEq, Nat.reduceBNe, Nat.reducePow, Int.reduceLE, Int.reduceLT, Int.reduceNeg, Int.reduceToNat, Int.reduceEq, Int.reduceAdd, Int.reduceSub, Int.reduceMul, Int.reduceBEq, Int.reduceBNe, Blk.men, Blk.keysIn, hr, hd, hd2])
    | (exact retS_of rfl rfl rfl)
    | (refine DW.cond_tt rfl ?_)
    | (refine call_c (c86 r) (by decide) ?_)
    | (refine call_c (hfn) (by decide) ?_)
    | (refine call_c (h88) (by decide) ?_)
    | (refine DW.cond_ff rfl ?_)
    | (refine DW.cond rfl ?_ ?_ <;> intro hc <;> (try simp only [go_sem] at hc))
    | (refine g_split ?_ ?_ <;> intro hc <;> (try simp only [hc]) <;> (try simp only [go_sem] at hc)))
    refine DW.ent (Ent.adopt 6 55 1 rfl rfl rfl) ?_
    simp (disch := omega) only [go_sem, Nat.reduceLT, Nat.reduceLeDiff, Nat.reduceAdd, Nat.reduceMul, Nat.reduceEqDiff, ↓reduceIte, reduceCtorEq, Nat.reduceBEq, Nat.reduceBNe, Nat.reducePow, Int.reduceLE, Int.reduceLT, Int.reduceNeg, Int.reduceToNat, Int.reduceEq, Int.reduceAdd, Int.reduceSub, Int.reduceMul, Int.reduceBEq, Int.reduceBNe, Blk.men, Blk.keysIn]
    refine DW.ent (Ent.adopt 7 66 1 rfl rfl rfl) ?_
    simp (disch := omega) only [go_sem, Nat.reduceLT, Nat.reduceLeDiff, Nat.reduceAdd, Nat.reduceMul, Nat.reduceEqDiff, ↓reduceIte, reduceCtorEq, Nat.reduceBEq, Nat.reduceBNe, Nat.reducePow, Int.reduceLE, Int.reduceLT, Int.reduceNeg, Int.reduceToNat, Int.reduceEq, Int.reduceAdd, Int.reduceSub, Int.reduceMul, Int.reduceBEq, Int.reduceBNe, Blk.men, Blk.keysIn]
    refine DW.loop (ι := { i : Nat // i ≤ rooms.length }) (fun i => ⟨70, [(36, dI i.1), (35, dI rooms.length), (34, .c (.sl b 4 (rows eR rooms))), (7, .own 66), (6, .own 55), (3, .box 3 0), (2, dIs b2 mins)],
      [(66, .row 1 (rowC (rows eI (nL (opF (pressHi r) rooms mins i.1))))), (55, .row 1 (rowC (rows eI (nL (opF (pressLo r) rooms mins i.1))))), (3, .box [dI r.mins, dI r.deg, dI r.damp])]⟩) (fun i => rooms.length - i.1) ⟨0, Nat.zero_le _⟩ ?_ ?_
    · refine Ent.to ?_ ?_ <;> simp (disch := omega) only [wkT_cons, wkX_cons, wkT_nil, wkX_nil, get, Nat.reduceEqDiff, ↓reduceIte, ex_some, wk_self, wk_top, wk_nil, wkB_self, and_self, dI, i64_in, and_true, true_and, Int.natCast_add, Int.natCast_one, Int.ofNat_zero, Int.natCast_zero]
      exact ⟨.refl _, .refl _⟩
    rintro ⟨i, hi⟩
    dsimp only
    rcases at_or rooms i hi with ⟨m, hm0, hlt, hdd⟩ | ⟨hend, hdd⟩
    · obtain ⟨v, hv⟩ := getE (l := mins) (i := i) (by omega)
      have hok : roomOk m = true := by
        have := List.any_eq_false.1 ha m (List.mem_of_getElem? hm0)
        simpa using this
      have h89 := c89 r m hr hok
      have hl1 := opF_succ (f := pressLo r) hm0 hv
      have hl2 := opF_succ (f := pressHi r) hm0 hv
      have hn1 := opF_len (pressLo r) rooms mins i
      have hn2 := opF_len (pressHi r) rooms mins i
      generalize opF (pressLo r) rooms mins i = a at *
      generalize opF (pressHi r) rooms mins i = c at *
      generalize pressLo r m = lo at *
      generalize pressHi r m = hi' at *
      have hal : (nL a).length + 1 ≤ 17592186044416 := by rw [nL_length]; omega
      have hcl : (nL c).length + 1 ≤ 17592186044416 := by rw [nL_length]; omega
      have hil : (i < mins.length) = True := eq_true (by omega)
      cases h1 : decide (v < lo) with
      | false =>
        simp only [h1, Bool.false_eq_true, if_false, List.append_nil] at hl1
        cases h2 : decide (v < hi') with
        | false =>
          simp only [h2, Bool.false_eq_true, if_false, List.append_nil] at hl2
          repeat' (first
    | (with_reducible refine DW.seq ?_)
    | (with_reducible refine DW.block ?_)
    | (with_reducible refine DW.skip ?_)
    | (with_reducible refine DW.exit ?_)
    | (with_reducible refine DW.ret ?_)
    | (with_reducible refine DW.reg ?_)
    | (refine DW.dreg rfl (WF.of (by first | rfl | simp (disch := omega) only [go_sem, Nat.reduceLT, Nat.reduceLeDiff, Nat.reduceAdd, Nat.reduceMul, Nat.reduceEqDiff, ↓reduceIte, reduceCtorEq, Nat.reduceBEq, Nat.reduceBNe, Nat.reducePow, Int.reduceLE, Int.reduceLT, Int.reduceNeg, Int.reduceToNat, Int.reduceEq, Int.reduceAdd, Int.reduceSub, Int.reduceMul, Int.reduceBEq, Int.reduceBNe, Blk.men, Blk.keysIn, hdd, hm0, hv, hil, h1, h2])) ?_)
    | (simp (disch := omega) only [go_sem, Nat.reduceLT, Nat.reduceLeDiff, Nat.reduceAdd, Nat.reduceMul, Nat.reduceEqDiff, ↓reduceIte, reduceCtorEq, Nat.reduceBEq, Nat.reduceBNe, Nat.reducePow, Int.reduceLE, Int.reduceLT, Int.reduceNeg, Int.reduceToNat, Int.reduceEq, Int.reduceAdd, Int.reduceSub, Int.reduceMul, Int.reduceBEq, Int.reduceBNe, Blk.men, Blk.keysIn, hdd, hm0, hv, hil, h1, h2])
    | (exact retS_of rfl rfl rfl)
    | (refine DW.cond_tt rfl ?_)
    | (refine call_c (h89) (by decide) ?_)
    | (refine call_c (c90 _ _) (by decide) ?_)
    | (refine DW.cond_ff rfl ?_)
    | (refine DW.cond rfl ?_ ?_ <;> intro hc <;> (try simp only [go_sem] at hc))
    | (refine g_split ?_ ?_ <;> intro hc <;> (try simp only [hc]) <;> (try simp only [go_sem] at hc)))
          refine ⟨⟨i + 1, hlt⟩, ?_, Ent.to ?_ ?_⟩ <;> first | (show _ < _; (try simp only); omega) | (simp (disch := omega) only [wkT_cons, wkX_cons, wkT_nil, wkX_nil, get, Nat.reduceEqDiff, ↓reduceIte, ex_some, wk_self, wk_top, wk_nil, wkB_self, and_self, dI, i64_in, and_true, true_and, Int.natCast_add, Int.natCast_one, Int.ofNat_zero, Int.natCast_zero,  hl1, hl2])
        | true =>
          simp only [h2, if_true] at hl2
          repeat' (first
    | (with_reducible refine DW.seq ?_)
    | (with_reducible refine DW.block ?_)
    | (with_reducible refine DW.skip ?_)
    | (with_reducible refine DW.exit ?_)
    | (with_reducible refine DW.ret ?_)
    | (with_reducible refine DW.reg ?_)
    | (refine DW.dreg rfl (WF.of (by first | rfl | simp (disch := omega) only [go_sem, Nat.reduceLT, Nat.reduceLeDiff, Nat.reduceAdd, Nat.reduceMul, Nat.reduceEqDiff, ↓reduceIte, reduceCtorEq, Nat.reduceBEq, Nat.reduceBNe, Nat.reducePow, Int.reduceLE, Int.reduceLT, Int.reduceNeg, Int.reduceToNat, Int.reduceEq, Int.reduceAdd, Int.reduceSub, Int.reduceMul, Int.reduceBEq, Int.reduceBNe, Blk.men, Blk.keysIn, hdd, hm0, hv, hil, h1, h2])) ?_)
    | (simp (disch := omega) only [go_sem, Nat.reduceLT, Nat.reduceLeDiff, Nat.reduceAdd, Nat.reduceMul, Nat.reduceEqDiff, ↓reduceIte, reduceCtorEq, Nat.reduceBEq, Nat.reduceBNe, Nat.reducePow, Int.reduceLE, Int.reduceLT, Int.reduceNeg, Int.reduceToNat, Int.reduceEq, Int.reduceAdd, Int.reduceSub, Int.reduceMul, Int.reduceBEq, Int.reduceBNe, Blk.men, Blk.keysIn, hdd, hm0, hv, hil, h1, h2])
    | (exact retS_of rfl rfl rfl)
    | (refine DW.cond_tt rfl ?_)
    | (refine call_c (h89) (by decide) ?_)
    | (refine call_c (c90 _ _) (by decide) ?_)
    | (refine DW.cond_ff rfl ?_)
    | (refine DW.cond rfl ?_ ?_ <;> intro hc <;> (try simp only [go_sem] at hc))
    | (refine g_split ?_ ?_ <;> intro hc <;> (try simp only [hc]) <;> (try simp only [go_sem] at hc)))
          refine ⟨⟨i + 1, hlt⟩, ?_, Ent.to ?_ ?_⟩ <;> first | (show _ < _; (try simp only); omega) | (simp (disch := omega) only [wkT_cons, wkX_cons, wkT_nil, wkX_nil, get, Nat.reduceEqDiff, ↓reduceIte, ex_some, wk_self, wk_top, wk_nil, wkB_self, and_self, dI, i64_in, and_true, true_and, Int.natCast_add, Int.natCast_one, Int.ofNat_zero, Int.natCast_zero,  hl1, hl2, ← nL_snoc])
      | true =>
        simp only [h1, if_true] at hl1
        cases h2 : decide (v < hi') with
        | false =>
          simp only [h2, Bool.false_eq_true, if_false, List.append_nil] at hl2
          repeat' (first
    | (with_reducible refine DW.seq ?_)
    | (with_reducible refine DW.block ?_)
    | (with_reducible refine DW.skip ?_)
    | (with_reducible refine DW.exit ?_)
    | (with_reducible refine DW.ret ?_)
    | (with_reducible refine DW.reg ?_)
    | (refine DW.dreg rfl (WF.of (by first | rfl | simp (disch := omega) only [go_sem, Nat.reduceLT, Nat.reduceLeDiff, Nat.reduceAdd, Nat.reduceMul, Nat.reduceEqDiff, ↓reduceIte, reduceCtorEq, Nat.reduceBEq, Nat.reduceBNe, Nat.reducePow, Int.reduceLE, Int.reduceLT, Int.reduceNeg, Int.reduceToNat, Int.reduceEq, Int.reduceAdd, Int.reduceSub, Int.reduceMul, Int.reduceBEq, Int.reduceBNe, Blk.men, Blk.keysIn, hdd, hm0, hv, hil, h1, h2])) ?_)
    | (simp (disch := omega) only [go_sem, Nat.reduceLT, Nat.reduceLeDiff, Nat.reduceAdd, Nat.reduceMul, Nat.reduceEqDiff, ↓reduceIte, reduceCtorEq, Nat.reduceBEq, Nat.reduceBNe, Nat.reducePow, Int.reduceLE, Int.reduceLT, Int.reduceNeg, Int.reduceToNat, Int.reduceEq, Int.reduceAdd, Int.reduceSub, Int.reduceMul, Int.reduceBEq, Int.reduceBNe, Blk.men, Blk.keysIn, hdd, hm0, hv, hil, h1, h2])
    | (exact retS_of rfl rfl rfl)
    | (refine DW.cond_tt rfl ?_)
    | (refine call_c (h89) (by decide) ?_)
    | (refine call_c (c90 _ _) (by decide) ?_)
    | (refine DW.cond_ff rfl ?_)
    | (refine DW.cond rfl ?_ ?_ <;> intro hc <;> (try simp only [go_sem] at hc))
    | (refine g_split ?_ ?_ <;> intro hc <;> (try simp only [hc]) <;> (try simp only [go_sem] at hc)))
          refine ⟨⟨i + 1, hlt⟩, ?_, Ent.to ?_ ?_⟩ <;> first | (show _ < _; (try simp only); omega) | (simp (disch := omega) only [wkT_cons, wkX_cons, wkT_nil, wkX_nil, get, Nat.reduceEqDiff, ↓reduceIte, ex_some, wk_self, wk_top, wk_nil, wkB_self, and_self, dI, i64_in, and_true, true_and, Int.natCast_add, Int.natCast_one, Int.ofNat_zero, Int.natCast_zero,  hl1, hl2, ← nL_snoc])
        | true =>
          simp only [h2, if_true] at hl2
          repeat' (first
    | (with_reducible refine DW.seq ?_)
    | (with_reducible refine DW.block ?_)
    | (with_reducible refine DW.skip ?_)
    | (with_reducible refine DW.exit ?_)
    | (with_reducible refine DW.ret ?_)
    | (with_reducible refine DW.reg ?_)
    | (refine DW.dreg rfl (WF.of (by first | rfl | simp (disch := omega) only [go_sem, Nat.reduceLT, Nat.reduceLeDiff, Nat.reduceAdd, Nat.reduceMul, Nat.reduceEqDiff, ↓reduceIte, reduceCtorEq, Nat.reduceBEq, Nat.reduceBNe, Nat.reducePow, Int.reduceLE, Int.reduceLT, Int.reduceNeg, Int.reduceToNat, Int.reduceEq, Int.reduceAdd, Int.reduceSub, Int.reduceMul, Int.reduceBEq, Int.reduceBNe, Blk.men, Blk.keysIn, hdd, hm0, hv, hil, h1, h2])) ?_)
    | (simp (disch := omega) only [go_sem, Nat.reduceLT, Nat.reduceLeDiff, Nat.reduceAdd, Nat.reduceMul, Nat.reduceEqDiff, ↓reduceIte, reduceCtorEq, Nat.reduceBEq, Nat.reduceBNe, Nat.reducePow, Int.reduceLE, Int.reduceLT, Int.reduceNeg, Int.reduceToNat, Int.reduceEq, Int.reduceAdd, Int.reduceSub, Int.reduceMul, Int.reduceBEq, Int.reduceBNe, Blk.men, Blk.keysIn, hdd, hm0, hv, hil, h1, h2])
    | (exact retS_of rfl rfl rfl)
    | (refine DW.cond_tt rfl ?_)
    | (refine call_c (h89) (by decide) ?_)
    | (refine call_c (c90 _ _) (by decide) ?_)
    | (refine DW.cond_ff rfl ?_)
    | (refine DW.cond rfl ?_ ?_ <;> intro hc <;> (try simp only [go_sem] at hc))
    | (refine g_split ?_ ?_ <;> intro hc <;> (try simp only [hc]) <;> (try simp only [go_sem] at hc)))
          refine ⟨⟨i + 1, hlt⟩, ?_, Ent.to ?_ ?_⟩ <;> first | (show _ < _; (try simp only); omega) | (simp (disch := omega) only [wkT_cons, wkX_cons, wkT_nil, wkX_nil, get, Nat.reduceEqDiff, ↓reduceIte, ex_some, wk_self, wk_top, wk_nil, wkB_self, and_self, dI, i64_in, and_true, true_and, Int.natCast_add, Int.natCast_one, Int.ofNat_zero, Int.natCast_zero,  hl1, hl2, ← nL_snoc])
    · repeat' (first
    | (with_reducible refine DW.seq ?_)
    | (with_reducible refine DW.block ?_)
    | (with_reducible refine DW.skip ?_)
    | (with_reducible refine DW.exit ?_)
    | (with_reducible refine DW.ret ?_)
    | (with_reducible refine DW.reg ?_)
    | (refine DW.dreg rfl (WF.of (by first | rfl | simp (disch := omega) only [go_sem, Nat.reduceLT, Nat.reduceLeDiff, Nat.reduceAdd, Nat.reduceMul, Nat.reduceEqDiff, ↓reduceIte, reduceCtorEq, Nat.reduceBEq, Nat.reduceBNe, Nat.reducePow, Int.reduceLE, Int.reduceLT, Int.reduceNeg, Int.reduceToNat, Int.reduceEq, Int.reduceAdd, Int.reduceSub, Int.reduceMul, Int.reduceBEq, Int.reduceBNe, Blk.men, Blk.keysIn, hdd])) ?_)
    | (simp (disch := omega) only [go_sem, Nat.reduceLT, Nat.reduceLeDiff, Nat.reduceAdd, Nat.reduceMul, Nat.reduceEqDiff, ↓reduceIte, reduceCtorEq, Nat.reduceBEq, Nat.reduceBNe, Nat.reducePow, Int.reduceLE, Int.reduceLT, Int.reduceNeg, Int.reduceToNat, Int.reduceEq, Int.reduceAdd, Int.reduceSub, Int.reduceMul, Int.reduceBEq, Int.reduceBNe, Blk.men, Blk.keysIn, hdd])
    | (exact retS_of rfl rfl rfl)
    | (refine DW.cond_tt rfl ?_)
    | (refine DW.cond_ff rfl ?_)
    | (refine DW.cond rfl ?_ ?_ <;> intro hc <;> (try simp only [go_sem] at hc))
    | (refine g_split ?_ ?_ <;> intro hc <;> (try simp only [hc]) <;> (try simp only [go_sem] at hc)))
      subst hend
      (refine retS_ent (Ent.rel 66 rfl) ?_; simp (disch := omega) only [go_sem, Nat.reduceLT, Nat.reduceLeDiff, Nat.reduceAdd, Nat.reduceMul, Nat.reduceEqDiff, ↓reduceIte, reduceCtorEq, Nat.reduceBEq, Nat.reduceBNe, Nat.reducePow, Int.reduceLE, Int.reduceLT, Int.reduceNeg, Int.reduceToNat, Int.reduceEq, Int.reduceAdd, Int.reduceSub, Int.reduceMul, Int.reduceBEq, Int.reduceBNe, Blk.men, Blk.keysIn])
      (refine retS_ent (Ent.rel 55 rfl) ?_; simp (disch := omega) only [go_sem, Nat.reduceLT, Nat.reduceLeDiff, Nat.reduceAdd, Nat.reduceMul, Nat.reduceEqDiff, ↓reduceIte, reduceCtorEq, Nat.reduceBEq, Nat.reduceBNe, Nat.reducePow, Int.reduceLE, Int.reduceLT, Int.reduceNeg, Int.reduceToNat, Int.reduceEq, Int.reduceAdd, Int.reduceSub, Int.reduceMul, Int.reduceBEq, Int.reduceBNe, Blk.men, Blk.keysIn])
      refine retS_wk rfl ?_ (by simp only [Blk.nb, rowC_nb, D.nb, D.nbs, C.nb, C.nbs, C.nbss, rows_nb eI_nb, rows_nb eC_nb, rows_nb eL_nb, rows_nb eR_nb, rows_nb eS_nb, rows_nb eG_nb, Bool.and_true, Bool.not_false, Bool.and_self, bD, dI, iD]); exact .refl _
end Go.Dw.Seat
end
section
set_option linter.unusedSimpArgs false
set_option maxRecDepth 100000
namespace Go.Dw.Seat
open Go Go.Dw Go.Proofs Go.IntWalk
def csI (froms : List Int) (z k : Int) (i : Nat) : List Cause := (froms.take i).map fun f => ⟨z, k, f⟩
def csK (froms : List Int) (z : Int) (n : Nat) : List Cause := (List.range n).flatMap fun k => csI froms z ((k : Nat) + 1) froms.length
def csZ (froms : List Int) (n : Nat) : List Cause := (List.range n).flatMap fun z => csK froms (z : Nat) 4
def prJ (cs : List Cause) (a : Cause) (j : Nat) : List (List Cause) := ((cs.take j).filter fun c => decide (a.noz < c.noz)).map fun c => [a, c]
def prI (cs : List Cause) (i : Nat) : List (List Cause) := (cs.take i).flatMap fun a => prJ cs a cs.length
theorem prI_succ {cs : List Cause} {a : Cause} {i : Nat} (h : cs[i]? = some a) : prI cs (i + 1) = prI cs i ++ prJ cs a cs.length := by
  simp only [prI, List.take_add_one, h, List.flatMap_append, Option.toList_some, List.flatMap_cons, List.flatMap_nil, List.append_nil]
def allR (cs : List Cause) : List (List Cause) := ([] :: cs.map fun c => [c]) ++ prI cs cs.length
def stR (st : Nat) (noz : List Nat) (froms : List Int) (ls : List Look) : List (List Cause) := (allR (csZ froms noz.length)).filter fun s => explN st noz s ls
end Go.Dw.Seat
end
section
set_option linter.unusedSimpArgs false
namespace Go.Dw.Seat
open Go Go.Dw
theorem asc_srt : ∀ (l : List Int) (k : Nat), asc l = (srt l && (dupAt l k).isNone)
  | [], _ => rfl
  | [_], _ => rfl
  | a :: b :: l, k => by
    have ih := asc_srt (b :: l) (k + 1)
    simp only [asc, srt, dupAt, ih]
    by_cases h : b = a
    · subst h; simp
    · rw [if_neg h]
      have : decide (a < b) = decide (a ≤ b) := by
        rw [Bool.eq_iff_iff, decide_eq_true_eq, decide_eq_true_eq]; omega
      rw [this, Bool.and_assoc]
theorem fromsOk_eq (l : List Int) : fromsOk l = asc l := by
  rw [asc_srt l 0, fromsOk]
  congr 1
  rw [Bool.eq_iff_iff, decide_eq_true_eq, cpt_len, Option.isNone_iff_eq_none]
theorem causes_eq (froms : List Int) (n : Nat) : csZ froms n = causesN n froms := by
  simp only [csZ, causesN, csK, csI, List.take_length]
  rfl
theorem causes_asc (froms : List Int) (n : Nat) : (causesN n froms).Pairwise (fun a b => a.noz ≤ b.noz) := by
  have hz : ∀ z c, c ∈ causesZ froms z → c.noz = (z : Nat) := by
    intro z c hc
    simp only [causesZ, causesK, List.mem_flatMap, List.mem_map] at hc
    obtain ⟨k, _, f, _, rfl⟩ := hc
    rfl
  rw [causesN, List.pairwise_flatMap]
  constructor
  · intro z _
    rw [List.pairwise_iff_forall_sublist]
    intro a b hab
    have ha := hab.subset (show a ∈ [a, b] by simp)
    have hb := hab.subset (show b ∈ [a, b] by simp)
    rw [hz z a ha, hz z b hb]; exact Int.le_refl _
  · refine List.Pairwise.imp ?_ List.pairwise_lt_range
    intro z z' hlt a ha b hb
    rw [hz z a ha, hz z' b hb]; omega
theorem prJ_pairs {cs : List Cause} (hp : cs.Pairwise (fun a b => a.noz ≤ b.noz)) {i : Nat} {a : Cause} (h : cs[i]? = some a) : prJ cs a cs.length = pairsOf a (cs.drop (i + 1)) := by
  obtain ⟨hi, ha⟩ := List.getElem?_eq_some_iff.1 h
  have hn : (cs.take (i + 1)).filter (fun c => decide (a.noz < c.noz)) = [] := by
    rw [List.filter_eq_nil_iff]
    intro c hc
    obtain ⟨j, hj, rfl⟩ := List.mem_take_iff_getElem.1 hc
    rw [List.pairwise_iff_getElem] at hp
    simp only [decide_eq_true_eq, Int.not_lt]
    rcases Nat.lt_or_ge j i with h1 | h1
    · have := hp j i (by omega) hi h1
      rwa [ha] at this
    · have : j = i := by omega
      subst this; rw [ha]; exact Int.le_refl _
  have hs : cs.filter (fun c => decide (a.noz < c.noz)) = (cs.drop (i + 1)).filter (fun c => decide (a.noz < c.noz)) := by
    conv => lhs; rw [← List.take_append_drop (i + 1) cs]
    rw [List.filter_append, hn, List.nil_append]
  simp only [prJ, pairsOf, List.take_length, hs]
theorem prI_pairs {cs : List Cause} (hp : cs.Pairwise (fun a b => a.noz ≤ b.noz)) : ∀ i, i ≤ cs.length → prI cs i = pairsTo cs i
  | 0, _ => by simp [prI, pairsTo]
  | i + 1, hi => by
    obtain ⟨a, ha⟩ := getE (l := cs) (i := i) (by omega)
    rw [prI_succ ha, pairsTo_succ ha, prI_pairs hp i (by omega), prJ_pairs hp ha]
theorem states_eq (froms : List Int) (n : Nat) : allR (csZ froms n) = statesOf (causesN n froms) := by
  rw [causes_eq]
  simp only [allR, statesOf]
  rw [prI_pairs (causes_asc froms n) _ (Nat.le_refl _)]
theorem states_pair {n : Nat} {froms : List Int} {s : List Cause} (h : s ∈ statesOf (causesN n froms)) : s.Pairwise (fun a b => a.noz ≠ b.noz) := by
  rcases mem_statesOf h with rfl | ⟨a, ha, rfl⟩ | ⟨a, b, rfl, ha, hb, hlt⟩
  · exact .nil
  · exact List.pairwise_singleton _ _
  · simp; omega
theorem miss_eq {st : Nat} {noz : List Nat} {froms : List Int} {s : List Cause} {l : Look} (hv : ∀ v ∈ noz, v < 2 ^ st) (hs : s ∈ statesOf (causesN noz.length froms)) (hl : lookOkI ⟨st, nL noz⟩ l = true) :
    missN st noz s l = !fits st noz s l := by
  simp only [lookOkI, Bool.and_eq_true, wthn_iff1, nL_length] at hl
  obtain ⟨⟨h1, h2⟩, h3⟩ := hl
  have hvs := valid_statesOf hs
  unfold missN fits
  rw [hasN_eq hv h1.1 (states_pair hs) (fun c hc => (hvs.2 c hc).1) (by omega) (by omega)]
  rw [Int.toNat_of_nonneg h3.1]
  rfl
theorem explX_eq {st : Nat} {noz : List Nat} {froms : List Int} {looks : List Look} (hv : ∀ v ∈ noz, v < 2 ^ st) (hl : ∀ l ∈ looks, lookOkI ⟨st, nL noz⟩ l = true) :
    explX ⟨st, nL noz⟩ froms looks = stR st noz froms looks := by
  simp only [explX, stR, states_eq, nL_length, nL_toNat, Int.toNat_natCast]
  refine List.filter_congr (fun s hs => ?_)
  rw [explN, Bool.eq_iff_iff, Bool.not_eq_true', List.any_eq_false, List.all_eq_true]
  constructor
  · intro h l hm
    have := h l hm
    rw [miss_eq hv hs (hl l hm)] at this
    simpa using this
  · intro h l hm
    rw [miss_eq hv hs (hl l hm), h l hm]; simp
theorem countP_congr {α : Type} {p q : α → Bool} : ∀ {l : List α}, (∀ a ∈ l, p a = q a) → l.countP p = l.countP q
  | [], _ => rfl
  | a :: l, h => by
    rw [List.countP_cons, List.countP_cons, h a (by simp), countP_congr (fun b hb => h b (by simp [hb]))]
end Go.Dw.Seat
end
section
set_option linter.unusedSimpArgs false
set_option maxRecDepth 100000
namespace Go.Dw.Seat
open Go Go.Dw Go.Proofs Go.IntWalk
theorem c36b (p q p' q' : Bool) (a b : List (List Int)) (ha : a.length ≤ 2 ^ 36) (hb : b.length ≤ 2 ^ 36) (ha' : ∀ x ∈ a, x.length ≤ 2 ^ 36) (hb' : ∀ x ∈ b, x.length ≤ 2 ^ 36) : DCall Try.prog 36 [.c (.sl p 1 (rows (eGb p') a)), .c (.sl q 1 (rows (eGb q') b))] [] (bD (decide (a = b))) [] := by
  refine DCall.of Try.func36 sf36 hb36 (Nat.le_of_ble_eq_true rfl) (okRes_nil fun _ => rfl) ?_; simp only [s36, idxs, Nat.reduceAdd]
  repeat' (first
    | (with_reducible refine DW.seq ?_)
    | (with_reducible refine DW.block ?_)
    | (with_reducible refine DW.skip ?_)
    | (with_reducible refine DW.exit ?_)
    | (with_reducible refine DW.ret ?_)
    | (with_reducible refine DW.reg ?_)
    | (refine DW.dreg rfl (WF.of (by first | rfl | simp (disch := omega) only [go_sem, Nat.reduceLT, Nat.reduceLeDiff, Nat.reduceAdd, Nat.reduceMul, Nat.reduceEqDiff, ↓reduceIte, reduceCtorEq, Nat.reduceBEq, Nat.reduceBNe, Nat.reducePow, Int.reduceLE, Int.reduceLT, Int.reduceNeg, Int.reduceToNat, Int.reduceEq, Int.reduceAdd, Int.reduceSub, Int.reduceMul, Int.reduceBEq, Int.reduceBNe, Blk.men, Blk.keysIn])) ?_)
    | (simp (disch := omega) only [go_sem, Nat.reduceLT, Nat.reduceLeDiff, Nat.reduceAdd, Nat.reduceMul, Nat.reduceEqDiff, ↓reduceIte, reduceCtorEq, Nat.reduceBEq, Nat.reduceBNe, Nat.reducePow, Int.reduceLE, Int.reduceLT, Int.reduceNeg, Int.reduceToNat, Int.reduceEq, Int.reduceAdd, Int.reduceSub, Int.reduceMul, Int.reduceBEq, Int.reduceBNe, Blk.men, Blk.keysIn])
    | (exact retS_of rfl rfl rfl)
    | (refine DW.cond_tt rfl ?_)
    | (refine DW.cond_ff rfl ?_)
    | (refine DW.cond rfl ?_ ?_ <;> intro hc <;> (try simp only [go_sem] at hc))
    | (refine g_split ?_ ?_ <;> intro hc <;> (try simp only [hc]) <;> (try simp only [go_sem] at hc)))
  · refine retS_of rfl ?_ rfl; simp only [oneD, St.op, get, Nat.reduceEqDiff, ↓reduceIte, Option.getD_some, bD, dI]
    have : a ≠ b := by rintro rfl; simp_all
    simp only [this, decide_false]
  refine DW.loop (ι := { i : Nat // i ≤ a.length ∧ ∀ j, j < i → a[j]? = b[j]? }) (fun i => ⟨27, [(5, dI i.1), (1, .c (.sl q 1 (rows (eGb q') b))), (0, .c (.sl p 1 (rows (eGb p') a)))], []⟩) (fun i => a.length - i.1) ⟨0, Nat.zero_le _, fun j h => by omega⟩ ?_ ?_
  · refine Ent.to ?_ ?_ <;> simp (disch := omega) only [wkT_cons, wkX_cons, wkT_nil, wkX_nil, get, Nat.reduceEqDiff, ↓reduceIte, ex_some, wk_self, wk_top, wk_nil, wkB_self, and_self, dI, i64_in, and_true, true_and, Int.natCast_add, Int.natCast_one, Int.ofNat_zero, Int.natCast_zero]
  rintro ⟨i, hi, hij⟩
  rcases at_or a i hi with ⟨v, hv, hlt, hd⟩ | ⟨he, hd⟩
  · obtain ⟨u, hu⟩ : ∃ u, b[i]? = some u := getE (by omega)
    repeat' (first
    | (with_reducible refine DW.seq ?_)
    | (with_reducible refine DW.block ?_)
    | (with_reducible refine DW.skip ?_)
    | (with_reducible refine DW.exit ?_)
    | (with_reducible refine DW.ret ?_)
    | (with_reducible refine DW.reg ?_)
    | (refine DW.dreg rfl (WF.of (by first | rfl | simp (disch := omega) only [go_sem, Nat.reduceLT, Nat.reduceLeDiff, Nat.reduceAdd, Nat.reduceMul, Nat.reduceEqDiff, ↓reduceIte, reduceCtorEq, Nat.reduceBEq, Nat.reduceBNe, Nat.reducePow, Int.reduceLE, Int.reduceLT, Int.reduceNeg, Int.reduceToNat, Int.reduceEq, Int.reduceAdd, Int.reduceSub, Int.reduceMul, Int.reduceBEq, Int.reduceBNe, Blk.men, Blk.keysIn, hd, hv, hu])) ?_)
    | (simp (disch := omega) only [go_sem, Nat.reduceLT, Nat.reduceLeDiff, Nat.reduceAdd, Nat.reduceMul, Nat.reduceEqDiff, ↓reduceIte, reduceCtorEq, Nat.reduceBEq, Nat.reduceBNe, Nat.reducePow, Int.reduceLE, Int.reduceLT, Int.reduceNeg, Int.reduceToNat, Int.reduceEq, Int.reduceAdd, Int.reduceSub, Int.reduceMul, Int.reduceBEq, Int.reduceBNe, Blk.men, Blk.keysIn, hd, hv, hu])
    | (exact retS_of rfl rfl rfl)
    | (refine DW.cond_tt rfl ?_)
    | (refine DW.cond_ff rfl ?_)
    | (refine DW.cond rfl ?_ ?_ <;> intro hc <;> (try simp only [go_sem] at hc))
    | (refine g_split ?_ ?_ <;> intro hc <;> (try simp only [hc]) <;> (try simp only [go_sem] at hc)))
    (refine call_c (c21 p' q' v u (ha' v (List.mem_of_getElem? hv)) (hb' u (List.mem_of_getElem? hu))) (by decide) ?_; simp (disch := omega) only [go_sem, Nat.reduceLT, Nat.reduceLeDiff, Nat.reduceAdd, Nat.reduceMul, Nat.reduceEqDiff, ↓reduceIte, reduceCtorEq, Nat.reduceBEq, Nat.reduceBNe, Nat.reducePow, Int.reduceLE, Int.reduceLT, Int.reduceNeg, Int.reduceToNat, Int.reduceEq, Int.reduceAdd, Int.reduceSub, Int.reduceMul, Int.reduceBEq, Int.reduceBNe, Blk.men, Blk.keysIn])
    repeat' (first
    | (with_reducible refine DW.seq ?_)
    | (with_reducible refine DW.block ?_)
    | (with_reducible refine DW.skip ?_)
    | (with_reducible refine DW.exit ?_)
    | (with_reducible refine DW.ret ?_)
    | (with_reducible refine DW.reg ?_)
    | (refine DW.dreg rfl (WF.of (by first | rfl | simp (disch := omega) only [go_sem, Nat.reduceLT, Nat.reduceLeDiff, Nat.reduceAdd, Nat.reduceMul, Nat.reduceEqDiff, ↓reduceIte, reduceCtorEq, Nat.reduceBEq, Nat.reduceBNe, Nat.reducePow, Int.reduceLE, Int.reduceLT, Int.reduceNeg, Int.reduceToNat, Int.reduceEq, Int.reduceAdd, Int.reduceSub, Int.reduceMul, Int.reduceBEq, Int.reduceBNe, Blk.men, Blk.keysIn])) ?_)
    | (simp (disch := omega) only [go_sem, Nat.reduceLT, Nat.reduceLeDiff, Nat.reduceAdd, Nat.reduceMul, Nat.reduceEqDiff, ↓reduceIte, reduceCtorEq, Nat.reduceBEq, Nat.reduceBNe, Nat.reducePow, Int.reduceLE, Int.reduceLT, Int.reduceNeg, Int.reduceToNat, Int.reduceEq, Int.reduceAdd, Int.reduceSub, Int.reduceMul, Int.reduceBEq, Int.reduceBNe, Blk.men, Blk.keysIn])
    | (exact retS_of rfl rfl rfl)
    | (refine DW.cond_tt rfl ?_)
    | (refine DW.cond_ff rfl ?_)
    | (refine DW.cond rfl ?_ ?_ <;> intro hc <;> (try simp only [go_sem] at hc))
    | (refine g_split ?_ ?_ <;> intro hc <;> (try simp only [hc]) <;> (try simp only [go_sem] at hc)))
    · refine retS_of rfl ?_ rfl; simp only [oneD, St.op, get, Nat.reduceEqDiff, ↓reduceIte, Option.getD_some, bD, dI]
      have : a ≠ b := by rintro rfl; simp_all
      simp only [this, decide_false]
    · refine ⟨⟨i + 1, by omega, upto1 hij (by rw [hv, hu]; congr 1)⟩, ?_, Ent.to ?_ ?_⟩ <;> first | (show _ < _; (try simp only); omega) | (simp (disch := omega) only [wkT_cons, wkX_cons, wkT_nil, wkX_nil, get, Nat.reduceEqDiff, ↓reduceIte, ex_some, wk_self, wk_top, wk_nil, wkB_self, and_self, dI, i64_in, and_true, true_and, Int.natCast_add, Int.natCast_one, Int.ofNat_zero, Int.natCast_zero])
  · repeat' (first
    | (with_reducible refine DW.seq ?_)
    | (with_reducible refine DW.block ?_)
    | (with_reducible refine DW.skip ?_)
    | (with_reducible refine DW.exit ?_)
    | (with_reducible refine DW.ret ?_)
    | (with_reducible refine DW.reg ?_)
    | (refine DW.dreg rfl (WF.of (by first | rfl | simp (disch := omega) only [go_sem, Nat.reduceLT, Nat.reduceLeDiff, Nat.reduceAdd, Nat.reduceMul, Nat.reduceEqDiff, ↓reduceIte, reduceCtorEq, Nat.reduceBEq, Nat.reduceBNe, Nat.reducePow, Int.reduceLE, Int.reduceLT, Int.reduceNeg, Int.reduceToNat, Int.reduceEq, Int.reduceAdd, Int.reduceSub, Int.reduceMul, Int.reduceBEq, Int.reduceBNe, Blk.men, Blk.keysIn, hd])) ?_)
    | (simp (disch := omega) only [go_sem, Nat.reduceLT, Nat.reduceLeDiff, Nat.reduceAdd, Nat.reduceMul, Nat.reduceEqDiff, ↓reduceIte, reduceCtorEq, Nat.reduceBEq, Nat.reduceBNe, Nat.reducePow, Int.reduceLE, Int.reduceLT, Int.reduceNeg, Int.reduceToNat, Int.reduceEq, Int.reduceAdd, Int.reduceSub, Int.reduceMul, Int.reduceBEq, Int.reduceBNe, Blk.men, Blk.keysIn, hd])
    | (exact retS_of rfl rfl rfl)
    | (refine DW.cond_tt rfl ?_)
    | (refine DW.cond_ff rfl ?_)
    | (refine DW.cond rfl ?_ ?_ <;> intro hc <;> (try simp only [go_sem] at hc))
    | (refine g_split ?_ ?_ <;> intro hc <;> (try simp only [hc]) <;> (try simp only [go_sem] at hc)))
    refine retS_of rfl ?_ rfl; simp only [oneD, St.op, get, Nat.reduceEqDiff, ↓reduceIte, Option.getD_some, bD, dI]
    have : a = b := ext_upto (by omega) (he ▸ hij)
    simp only [this, decide_true]
theorem k1 : boxOut ⟨6, [14, 18]⟩ [⟨0, 2, 0⟩, ⟨1, 2, 5⟩] 5 = [30, 54] ∧ boxErr ⟨6, [14, 18]⟩ [⟨0, 2, 0⟩, ⟨1, 2, 5⟩] 5 = 0 := ⟨by kernel_rfl, by kernel_rfl⟩
theorem k2 : boxOut ⟨6, [14, 18]⟩ [⟨0, 1, 3⟩, ⟨1, 3, 0⟩] 2 = [14, 0] ∧ boxErr ⟨6, [14, 18]⟩ [⟨0, 1, 3⟩, ⟨1, 3, 0⟩] 2 = 0 := ⟨by kernel_rfl, by kernel_rfl⟩
theorem k3 : (exOut ⟨6, [14, 18]⟩ [0] []).length = 25 ∧ exErr ⟨6, [14, 18]⟩ [0] [] = 0 := ⟨by kernel_rfl, by kernel_rfl⟩
theorem k4 : (exOut ⟨6, [14, 18]⟩ [0] [⟨0, 0, 1, false⟩]).length = 10 ∧ exErr ⟨6, [14, 18]⟩ [0] [⟨0, 0, 1, false⟩] = 0 ∧ (exOut ⟨6, [14, 18]⟩ [0] [⟨0, 0, 1, false⟩]).headD [] = [⟨0, 1, 0⟩] := ⟨by kernel_rfl, by kernel_rfl, by kernel_rfl⟩
theorem k5 : sureOut ⟨6, [14, 18]⟩ [0] [⟨0, 0, 1, false⟩] = [0] := by kernel_rfl
theorem k6 : nxAt ⟨6, [14, 18]⟩ [0] [⟨0, 0, 1, false⟩] 1 = ⟨0, 0, 2, false⟩ ∧ nxMost ⟨6, [14, 18]⟩ [0] [⟨0, 0, 1, false⟩] 1 = 5 ∧ nxErr ⟨6, [14, 18]⟩ [0] [⟨0, 0, 1, false⟩] 1 = 0 := ⟨by kernel_rfl, by kernel_rfl, by kernel_rfl⟩
theorem k7 : pressErr ⟨60, 10, 5⟩ ⟨0, 10, 20, 40⟩ = 0 ∧ pressLo ⟨60, 10, 5⟩ ⟨0, 10, 20, 40⟩ = 60 ∧ pressHi ⟨60, 10, 5⟩ ⟨0, 10, 20, 40⟩ = 72 := ⟨by kernel_rfl, by kernel_rfl, by kernel_rfl⟩
def kRooms : List Room := [⟨0, 10, 20, 40⟩, ⟨0, 10, 20, 40⟩, ⟨0, 10, 20, 40⟩, ⟨0, 10, 20, 40⟩]
theorem k8 : opOut (pressLo ⟨60, 10, 5⟩) ⟨60, 10, 5⟩ kRooms [59, 60, 71, 72] = [0] ∧ opOut (pressHi ⟨60, 10, 5⟩) ⟨60, 10, 5⟩ kRooms [59, 60, 71, 72] = [0, 1, 2] ∧ opErr ⟨60, 10, 5⟩ kRooms [59, 60, 71, 72] = 0 := ⟨by kernel_rfl, by kernel_rfl, by kernel_rfl⟩
theorem k9 : alOut ⟨6, [14, 18]⟩ [[], [⟨0, 4, 0⟩], [⟨0, 4, 2⟩]] 1 = [[0, 1, 2]] ∧ alErr ⟨6, [14, 18]⟩ [[], [⟨0, 4, 0⟩], [⟨0, 4, 2⟩]] 1 = 0 := ⟨by kernel_rfl, by kernel_rfl⟩
theorem k10 : apAt ⟨6, [14, 18]⟩ [⟨0, 4, 0⟩] [] 2 = ⟨1, 0, 1, false⟩ ∧ apErr ⟨6, [14, 18]⟩ [⟨0, 4, 0⟩] [] 2 = 0 := ⟨by kernel_rfl, by kernel_rfl⟩
end Go.Dw.Seat
end
section
set_option linter.unusedSimpArgs false
set_option maxRecDepth 100000
namespace Go.Dw.Seat
open Go Go.Dw Go.Proofs Go.IntWalk
set_option maxHeartbeats 4000000 in
theorem c15 : DCall Try.prog 15 [] [] (bD true) [] := by
  have h55a := c55 true ⟨6, [14, 18]⟩ [⟨0, 2, 0⟩, ⟨1, 2, 5⟩] 5 (by decide) (by decide)
  rw [k1.1, k1.2] at h55a
  have h55b := c55 true ⟨6, [14, 18]⟩ [⟨0, 1, 3⟩, ⟨1, 3, 0⟩] 2 (by decide) (by decide)
  rw [k2.1, k2.2] at h55b
  have h18a := (c18 true true ⟨6, [14, 18]⟩ [0] [] (by decide) (by decide) (by decide)).weakA (l := [dP false ⟨6, [14, 18]⟩, dIs true [0], .c (.v (.slice none 0 0))])
    (.cons (.inl rfl) (.cons (.inl rfl) (.cons (.inr ⟨_, _, rfl, rfl, .nil true 4⟩) .nil)))
  rw [k3.1, k3.2] at h18a
  have h18b := c18 true true ⟨6, [14, 18]⟩ [0] [⟨0, 0, 1, false⟩] (by decide) (by decide) (by decide)
  rw [k4.1, k4.2.1, k4.2.2] at h18b
  have h19 := c19 true true ⟨6, [14, 18]⟩ [0] [⟨0, 0, 1, false⟩] (by decide) (by decide) (by decide)
  rw [k5, k4.2.1] at h19
  have h26 := c26 true true ⟨6, [14, 18]⟩ [0] [⟨0, 0, 1, false⟩] 1 (by decide) (by decide) (by decide)
  rw [k6.1, k6.2.1, k6.2.2] at h26
  have h41 := c41 ⟨60, 10, 5⟩ ⟨0, 10, 20, 40⟩
  simp only [k7.1, k7.2.1, k7.2.2, if_true] at h41
  have h39 := c39 true true ⟨60, 10, 5⟩ kRooms [59, 60, 71, 72] (by decide) (by decide)
  rw [k8.1, k8.2.1, k8.2.2] at h39
  have h35 := (c35 true true ⟨6, [14, 18]⟩ [[], [⟨0, 4, 0⟩], [⟨0, 4, 2⟩]] 1 (by decide) (by decide) (by decide)).weakA (l := [dP false ⟨6, [14, 18]⟩, .c (.sl true 1 [[.v (.slice none 0 0)], [.sl true 3 (rows eC [⟨0, 4, 0⟩])], [.sl true 3 (rows eC [⟨0, 4, 2⟩])]]), dI 1])
    (.cons (.inl rfl) (.cons (.inr ⟨_, _, rfl, rfl, .sl (.cons (.cons (.nil true 3) .nil) (.cons (.cons (.refl _) .nil) (.cons (.cons (.refl _) .nil) .nil)))⟩) (.cons (.inl rfl) .nil)))
  rw [k9.1, k9.2] at h35
  have h30 := (c30 ⟨6, [14, 18]⟩ [⟨0, 4, 0⟩] [] 2 (by decide) (by decide) (by decide)).weakA (l := [dP false ⟨6, [14, 18]⟩, dCs false [⟨0, 4, 0⟩], .c (.v (.slice none 0 0)), dI 2])
    (.cons (.inl rfl) (.cons (.inl rfl) (.cons (.inr ⟨_, _, rfl, rfl, .nil false 3⟩) (.cons (.inl rfl) .nil))))
  rw [k10.1, k10.2] at h30
  have e1 := c21 false true (nL [30, 54]) [30, 54] (by decide) (by decide)
  rw [show decide (nL [30, 54] = [30, 54]) = true from by decide] at e1
  have e2 := c21 false true (nL [14, 0]) [14, 0] (by decide) (by decide)
  rw [show decide (nL [14, 0] = [14, 0]) = true from by decide] at e2
  have e3 := c24 false true [⟨0, 1, 0⟩] [⟨0, 1, 0⟩] (by decide) (by decide)
  rw [show decide (([⟨0, 1, 0⟩] : List Cause) = [⟨0, 1, 0⟩]) = true from by decide] at e3
  have e4 := c21 false true (nL [0]) [0] (by decide) (by decide)
  rw [show decide (nL [0] = [0]) = true from by decide] at e4
  have e5 := c21 false true (nL [0, 1, 2]) [0, 1, 2] (by decide) (by decide)
  rw [show decide (nL [0, 1, 2] = [0, 1, 2]) = true from by decide] at e5
  have e6 := c36b false true false true [[0, 1, 2]] [[0, 1, 2]] (by decide) (by decide) (by decide) (by decide)
  rw [show decide (([[0, 1, 2]] : List (List Int)) = [[0, 1, 2]]) = true from by decide] at e6
  refine DCall.of Try.func15 sf15 hb15 (Nat.le_of_ble_eq_true rfl) (okRes_nil fun _ => rfl) ?_; simp only [s15, idxs, Nat.reduceAdd]
  repeat' (first
    | (with_reducible refine DW.seq ?_)
    | (with_reducible refine DW.block ?_)
    | (with_reducible refine DW.skip ?_)
    | (with_reducible refine DW.exit ?_)
    | (with_reducible refine DW.ret ?_)
    | (with_reducible refine DW.reg ?_)
    | (refine DW.dreg rfl (WF.of (by first | rfl | simp (disch := omega) only [go_sem, Nat.reduceLT, Nat.reduceLeDiff, Nat.reduceAdd, Nat.reduceMul, Nat.reduceEqDiff, ↓reduceIte, reduceCtorEq, Nat.reduceBEq, Nat.reduceBNe, Nat.reducePow, Int.reduceLE, Int.reduceLT, Int.reduceNeg, Int.reduceToNat, Int.reduceEq, Int.reduceAdd, Int.reduceSub, Int.reduceMul, Int.reduceBEq, Int.reduceBNe, Blk.men, Blk.keysIn])) ?_)
    | (simp (disch := omega) only [go_sem, Nat.reduceLT, Nat.reduceLeDiff, Nat.reduceAdd, Nat.reduceMul, Nat.reduceEqDiff, ↓reduceIte, reduceCtorEq, Nat.reduceBEq, Nat.reduceBNe, Nat.reducePow, Int.reduceLE, Int.reduceLT, Int.reduceNeg, Int.reduceToNat, Int.reduceEq, Int.reduceAdd, Int.reduceSub, Int.reduceMul, Int.reduceBEq, Int.reduceBNe, Blk.men, Blk.keysIn])
    | (exact retS_of rfl rfl rfl)
    | (refine DW.cond_tt rfl ?_)
    | (refine call_c (c54 _ _ _ _) (by decide) ?_)
    | (refine call_c (c62) (by decide) ?_)
    | (refine call_c (c63 _ _ _) (by decide) ?_)
    | (refine call_c (c64) (by decide) ?_)
    | (refine call_c (h55a) (by decide) ?_)
    | (refine call_c (h55b) (by decide) ?_)
    | (refine call_c (h18a) (by decide) ?_)
    | (refine call_c (h18b) (by decide) ?_)
    | (refine call_c (h19) (by decide) ?_)
    | (refine call_c (h26) (by decide) ?_)
    | (refine call_c (h41) (by decide) ?_)
    | (refine call_c (h39) (by decide) ?_)
    | (refine call_c (e1) (by decide) ?_)
    | (refine call_c (e2) (by decide) ?_)
    | (refine call_c (e3) (by decide) ?_)
    | (refine call_c (e4) (by decide) ?_)
    | (refine call_c (e5) (by decide) ?_)
    | (refine DW.cond_ff rfl ?_)
    | (refine DW.cond rfl ?_ ?_ <;> intro hc <;> (try simp only [go_sem] at hc))
    | (refine g_split ?_ ?_ <;> intro hc <;> (try simp only [hc]) <;> (try simp only [go_sem] at hc)))
  refine call_n h35 rfl ?_ (by decide) ?_
  · simp (disch := omega) only [go_sem, Nat.reduceLT, Nat.reduceLeDiff, Nat.reduceAdd, Nat.reduceMul, Nat.reduceEqDiff, ↓reduceIte, reduceCtorEq, Nat.reduceBEq, Nat.reduceBNe, Nat.reducePow, Int.reduceLE, Int.reduceLT, Int.reduceNeg, Int.reduceToNat, Int.reduceEq, Int.reduceAdd, Int.reduceSub, Int.reduceMul, Int.reduceBEq, Int.reduceBNe, Blk.men, Blk.keysIn, closeE1, closeCs1, closeC1, closedEs, closedCs, rows]
  simp (disch := omega) only [go_sem, Nat.reduceLT, Nat.reduceLeDiff, Nat.reduceAdd, Nat.reduceMul, Nat.reduceEqDiff, ↓reduceIte, reduceCtorEq, Nat.reduceBEq, Nat.reduceBNe, Nat.reducePow, Int.reduceLE, Int.reduceLT, Int.reduceNeg, Int.reduceToNat, Int.reduceEq, Int.reduceAdd, Int.reduceSub, Int.reduceMul, Int.reduceBEq, Int.reduceBNe, Blk.men, Blk.keysIn]
  repeat' (first
    | (with_reducible refine DW.seq ?_)
    | (with_reducible refine DW.block ?_)
    | (with_reducible refine DW.skip ?_)
    | (with_reducible refine DW.exit ?_)
    | (with_reducible refine DW.ret ?_)
    | (with_reducible refine DW.reg ?_)
    | (refine DW.dreg rfl (WF.of (by first | rfl | simp (disch := omega) only [go_sem, Nat.reduceLT, Nat.reduceLeDiff, Nat.reduceAdd, Nat.reduceMul, Nat.reduceEqDiff, ↓reduceIte, reduceCtorEq, Nat.reduceBEq, Nat.reduceBNe, Nat.reducePow, Int.reduceLE, Int.reduceLT, Int.reduceNeg, Int.reduceToNat, Int.reduceEq, Int.reduceAdd, Int.reduceSub, Int.reduceMul, Int.reduceBEq, Int.reduceBNe, Blk.men, Blk.keysIn])) ?_)
    | (simp (disch := omega) only [go_sem, Nat.reduceLT, Nat.reduceLeDiff, Nat.reduceAdd, Nat.reduceMul, Nat.reduceEqDiff, ↓reduceIte, reduceCtorEq, Nat.reduceBEq, Nat.reduceBNe, Nat.reducePow, Int.reduceLE, Int.reduceLT, Int.reduceNeg, Int.reduceToNat, Int.reduceEq, Int.reduceAdd, Int.reduceSub, Int.reduceMul, Int.reduceBEq, Int.reduceBNe, Blk.men, Blk.keysIn])
    | (exact retS_of rfl rfl rfl)
    | (refine DW.cond_tt rfl ?_)
    | (refine call_c (c54 _ _ _ _) (by decide) ?_)
    | (refine call_c (c62) (by decide) ?_)
    | (refine call_c (c63 _ _ _) (by decide) ?_)
    | (refine call_c (c64) (by decide) ?_)
    | (refine call_c (e1) (by decide) ?_)
    | (refine call_c (e2) (by decide) ?_)
    | (refine call_c (e3) (by decide) ?_)
    | (refine call_c (e4) (by decide) ?_)
    | (refine call_c (e5) (by decide) ?_)
    | (refine DW.cond_ff rfl ?_)
    | (refine DW.cond rfl ?_ ?_ <;> intro hc <;> (try simp only [go_sem] at hc))
    | (refine g_split ?_ ?_ <;> intro hc <;> (try simp only [hc]) <;> (try simp only [go_sem] at hc)))
  refine call_e (Ent.rel 105 rfl) h30 rfl rfl (by decide) ?_
  simp (disch := omega) only [go_sem, Nat.reduceLT, Nat.reduceLeDiff, Nat.reduceAdd, Nat.reduceMul, Nat.reduceEqDiff, ↓reduceIte, reduceCtorEq, Nat.reduceBEq, Nat.reduceBNe, Nat.reducePow, Int.reduceLE, Int.reduceLT, Int.reduceNeg, Int.reduceToNat, Int.reduceEq, Int.reduceAdd, Int.reduceSub, Int.reduceMul, Int.reduceBEq, Int.reduceBNe, Blk.men, Blk.keysIn]
  repeat' (first
    | (with_reducible refine DW.seq ?_)
    | (with_reducible refine DW.block ?_)
    | (with_reducible refine DW.skip ?_)
    | (with_reducible refine DW.exit ?_)
    | (with_reducible refine DW.ret ?_)
    | (with_reducible refine DW.reg ?_)
    | (refine DW.dreg rfl (WF.of (by first | rfl | simp (disch := omega) only [go_sem, Nat.reduceLT, Nat.reduceLeDiff, Nat.reduceAdd, Nat.reduceMul, Nat.reduceEqDiff, ↓reduceIte, reduceCtorEq, Nat.reduceBEq, Nat.reduceBNe, Nat.reducePow, Int.reduceLE, Int.reduceLT, Int.reduceNeg, Int.reduceToNat, Int.reduceEq, Int.reduceAdd, Int.reduceSub, Int.reduceMul, Int.reduceBEq, Int.reduceBNe, Blk.men, Blk.keysIn])) ?_)
    | (simp (disch := omega) only [go_sem, Nat.reduceLT, Nat.reduceLeDiff, Nat.reduceAdd, Nat.reduceMul, Nat.reduceEqDiff, ↓reduceIte, reduceCtorEq, Nat.reduceBEq, Nat.reduceBNe, Nat.reducePow, Int.reduceLE, Int.reduceLT, Int.reduceNeg, Int.reduceToNat, Int.reduceEq, Int.reduceAdd, Int.reduceSub, Int.reduceMul, Int.reduceBEq, Int.reduceBNe, Blk.men, Blk.keysIn])
    | (exact retS_of rfl rfl rfl)
    | (refine DW.cond_tt rfl ?_)
    | (refine call_c (c54 _ _ _ _) (by decide) ?_)
    | (refine call_c (c62) (by decide) ?_)
    | (refine call_c (c63 _ _ _) (by decide) ?_)
    | (refine call_c (c64) (by decide) ?_)
    | (refine call_c (e1) (by decide) ?_)
    | (refine call_c (e2) (by decide) ?_)
    | (refine call_c (e3) (by decide) ?_)
    | (refine call_c (e4) (by decide) ?_)
    | (refine call_c (e5) (by decide) ?_)
    | (refine DW.cond_ff rfl ?_)
    | (refine DW.cond rfl ?_ ?_ <;> intro hc <;> (try simp only [go_sem] at hc))
    | (refine g_split ?_ ?_ <;> intro hc <;> (try simp only [hc]) <;> (try simp only [go_sem] at hc)))
  refine call_n e6 rfl ?_ (by decide) ?_
  · simp (disch := omega) only [go_sem, Nat.reduceLT, Nat.reduceLeDiff, Nat.reduceAdd, Nat.reduceMul, Nat.reduceEqDiff, ↓reduceIte, reduceCtorEq, Nat.reduceBEq, Nat.reduceBNe, Nat.reducePow, Int.reduceLE, Int.reduceLT, Int.reduceNeg, Int.reduceToNat, Int.reduceEq, Int.reduceAdd, Int.reduceSub, Int.reduceMul, Int.reduceBEq, Int.reduceBNe, Blk.men, Blk.keysIn, closeE1, closeCs1, closeC1, closedEs, closedCs, rows]
  simp (disch := omega) only [go_sem, Nat.reduceLT, Nat.reduceLeDiff, Nat.reduceAdd, Nat.reduceMul, Nat.reduceEqDiff, ↓reduceIte, reduceCtorEq, Nat.reduceBEq, Nat.reduceBNe, Nat.reducePow, Int.reduceLE, Int.reduceLT, Int.reduceNeg, Int.reduceToNat, Int.reduceEq, Int.reduceAdd, Int.reduceSub, Int.reduceMul, Int.reduceBEq, Int.reduceBNe, Blk.men, Blk.keysIn]
  repeat' (first
    | (with_reducible refine DW.seq ?_)
    | (with_reducible refine DW.block ?_)
    | (with_reducible refine DW.skip ?_)
    | (with_reducible refine DW.exit ?_)
    | (with_reducible refine DW.ret ?_)
    | (with_reducible refine DW.reg ?_)
    | (refine DW.dreg rfl (WF.of (by first | rfl | simp (disch := omega) only [go_sem, Nat.reduceLT, Nat.reduceLeDiff, Nat.reduceAdd, Nat.reduceMul, Nat.reduceEqDiff, ↓reduceIte, reduceCtorEq, Nat.reduceBEq, Nat.reduceBNe, Nat.reducePow, Int.reduceLE, Int.reduceLT, Int.reduceNeg, Int.reduceToNat, Int.reduceEq, Int.reduceAdd, Int.reduceSub, Int.reduceMul, Int.reduceBEq, Int.reduceBNe, Blk.men, Blk.keysIn])) ?_)
    | (simp (disch := omega) only [go_sem, Nat.reduceLT, Nat.reduceLeDiff, Nat.reduceAdd, Nat.reduceMul, Nat.reduceEqDiff, ↓reduceIte, reduceCtorEq, Nat.reduceBEq, Nat.reduceBNe, Nat.reducePow, Int.reduceLE, Int.reduceLT, Int.reduceNeg, Int.reduceToNat, Int.reduceEq, Int.reduceAdd, Int.reduceSub, Int.reduceMul, Int.reduceBEq, Int.reduceBNe, Blk.men, Blk.keysIn])
    | (exact retS_of rfl rfl rfl)
    | (refine DW.cond_tt rfl ?_)
    | (refine call_c (c54 _ _ _ _) (by decide) ?_)
    | (refine DW.cond_ff rfl ?_)
    | (refine DW.cond rfl ?_ ?_ <;> intro hc <;> (try simp only [go_sem] at hc))
    | (refine g_split ?_ ?_ <;> intro hc <;> (try simp only [hc]) <;> (try simp only [go_sem] at hc)))
end Go.Dw.Seat
end
section
set_option linter.unusedSimpArgs false
set_option maxRecDepth 100000
namespace Go.Dw.Seat
open Go Go.Dw Go.Proofs Go.ChangeShapes Go.WideShapes Go.ChangeAt Go.RowKit
theorem tOwn : ownKnob Try.prog.godebug = none := by kernel_rfl
theorem tLaid : laidOutB Try.prog = true := by kernel_rfl
theorem u4 : Try.prog.underlying 4 = some .bool := by kernel_rfl
theorem u32 : Try.prog.underlying 32 = some (.slice 104) := by kernel_rfl
section
variable {H : Type} {enc : TypeId × Value → H} {w : World} {base : Nat} {spare : Nat → Bool} {held : Bool} {fuel : Nat} {cs : List Value} {x : DataW H × List MemPlace}
end
end Go.Dw.Seat
namespace Go.Proofs.Ytecgononbfgigaa
end Go.Proofs.Ytecgononbfgigaa
end
section
set_option linter.unusedSimpArgs false
set_option maxRecDepth 100000
namespace Go.Dw.Seat
open Go Go.Dw Go.Proofs Go.IntWalk
theorem und5 : Try.prog.underlying 5 = some (.int .u8) := by kernel_rfl
theorem und116 : Try.prog.underlying 116 = some (.int .u16) := by kernel_rfl
attribute [go_sem] und5 und116
structure Line where
  steps : Nat
  noz : List Nat
  f0 : Nat
  f1 : Nat
  f2 : Nat
  a0 : Nat
  a1 : Nat
  a2 : Nat
  b0 : Nat
  b1 : Nat
  b2 : Nat
  many : Nat
def eU (v : Nat) : List C := [.v (.int .u16 v)]
abbrev d8 (n : Nat) : D := .c (.v (.int .u8 n))
abbrev dL (b : Bool) (x : Line) : D := .agg [d8 x.steps, .c (.sl b 1 (rows eU x.noz)), d8 x.f0, d8 x.f1, d8 x.f2, d8 x.a0, d8 x.a1, d8 x.a2, d8 x.b0, d8 x.b1, d8 x.b2, d8 x.many]
attribute [go_sem] d8 dL eU
structure Line.ok (x : Line) : Prop where
  steps : x.steps < 256
  noz : ∀ v ∈ x.noz, v < 65536
  f0 : x.f0 < 256
  f1 : x.f1 < 256
  f2 : x.f2 < 256
  a0 : x.a0 < 256
  a1 : x.a1 < 256
  a2 : x.a2 < 256
  b0 : x.b0 < 256
  b1 : x.b1 < 256
  b2 : x.b2 < 256
  many : x.many < 256
theorem tmod_nat (m k : Nat) : (m : Int).tmod (k : Int) = ((m % k : Nat) : Int) := by
  rw [Int.tmod_eq_emod_of_nonneg (by omega)]; simp
theorem tmod3 (m : Nat) : (m : Int).tmod 3 = ((m % 3 : Nat) : Int) := tmod_nat m 3
theorem tmod4 (m : Nat) : (m : Int).tmod 4 = ((m % 4 : Nat) : Int) := tmod_nat m 4
theorem tmod9 (m : Nat) : (m : Int).tmod 9 = ((m % 9 : Nat) : Int) := tmod_nat m 9
theorem tmod12 (m : Nat) : (m : Int).tmod 12 = ((m % 12 : Nat) : Int) := tmod_nat m 12
def Line.g0 (x : Line) : Nat := x.f0 % 3
def Line.g1 (x : Line) : Nat := x.g0 + 1 + x.f1 % 3
def Line.g2 (x : Line) : Nat := x.g1 + 1 + x.f2 % 3
def fromsN (x : Line) : List Nat := [x.g0, x.g1, x.g2]
def atI (x : Line) : Nat → Int
  | 0 => -1
  | 1 => x.g0
  | 2 => x.g1
  | _ => x.g2
def frI (x : Line) : Nat → List Nat
  | 0 => []
  | 1 => [x.g0]
  | 2 => [x.g0, x.g1]
  | _ => [x.g0, x.g1, x.g2]
theorem c45 (b : Bool) (x : Line) (hx : x.ok) : DCall Try.prog 45 [dL b x] [] (dIs false (nL (fromsN x))) [] := by
  have h0 := hx.f0
  have h1 := hx.f1
  have h2 := hx.f2
  have m0 : x.f0 % 3 < 3 := Nat.mod_lt _ (by decide)
  have m1 : x.f1 % 3 < 3 := Nat.mod_lt _ (by decide)
  have m2 : x.f2 % 3 < 3 := Nat.mod_lt _ (by decide)
  have e0 : (-1 : Int) + (1 + ((x.f0 % 3 : Nat) : Int)) = (x.g0 : Nat) := by simp only [Line.g0]; omega
  have e1 : ((x.g0 : Nat) : Int) + (1 + ((x.f1 % 3 : Nat) : Int)) = (x.g1 : Nat) := by simp only [Line.g1]; omega
  have e2 : ((x.g1 : Nat) : Int) + (1 + ((x.f2 % 3 : Nat) : Int)) = (x.g2 : Nat) := by simp only [Line.g2]; omega
  have b0 : x.g0 < 10 := by simp only [Line.g0]; omega
  have b1 : x.g1 < 20 := by simp only [Line.g1]; omega
  have b2 : x.g2 < 30 := by simp only [Line.g2]; omega
  refine DCall.of Try.func45 sf45 hb45 (Nat.le_of_ble_eq_true rfl) (okRes_nil fun _ => rfl) ?_; simp only [s45, idxs, Nat.reduceAdd]
  repeat' (first
    | (with_reducible refine DW.seq ?_)
    | (with_reducible refine DW.block ?_)
    | (with_reducible refine DW.skip ?_)
    | (with_reducible refine DW.exit ?_)
    | (with_reducible refine DW.ret ?_)
    | (with_reducible refine DW.reg ?_)
    | (simp (disch := omega) only [go_sem, Nat.reduceLT, Nat.reduceLeDiff, Nat.reduceAdd, Nat.reduceMul, Nat.reduceEqDiff, ↓reduceIte, reduceCtorEq, Nat.reduceBEq, Nat.reduceBNe, Nat.reducePow, Int.reduceLE, Int.reduceLT, Int.reduceNeg, Int.reduceToNat, Int.reduceEq, Int.reduceAdd, Int.reduceSub, Int.reduceMul, Int.reduceBEq, Int.reduceBNe, Blk.men, Blk.keysIn])
    | (exact retS_of rfl rfl rfl)
    | (refine DW.cond_tt rfl ?_)
    | (refine DW.cond_ff rfl ?_)
    | (refine DW.cond rfl ?_ ?_ <;> intro hc <;> (try simp only [go_sem] at hc))
    | (refine g_split ?_ ?_ <;> intro hc <;> (try simp only [hc]) <;> (try simp only [go_sem] at hc)))
  refine DW.loop (ι := { i : Nat // i ≤ 3 }) (fun i => ⟨25, [(5, dI i.1), (4, dI (atI x i.1)), (3, .own 6), (1, .box 1 0)], [(6, .row 1 (rowC (rows eI (nL (frI x i.1))))),
    (1, .box [d8 x.steps, .c (.sl b 1 (rows eU x.noz)), d8 x.f0, d8 x.f1, d8 x.f2, d8 x.a0, d8 x.a1, d8 x.a2, d8 x.b0, d8 x.b1, d8 x.b2, d8 x.many])]⟩) (fun i => 3 - i.1) ⟨0, Nat.zero_le _⟩ ?_ ?_
  · refine Ent.to ?_ ?_ <;> simp (disch := omega) only [wkT_cons, wkX_cons, wkT_nil, wkX_nil, get, Nat.reduceEqDiff, ↓reduceIte, ex_some, wk_self, wk_top, wk_nil, wkB_self, and_self, dI, i64_in, and_true, true_and, Int.natCast_add, Int.natCast_one, Int.ofNat_zero, Int.natCast_zero, atI, d8]
    all_goals exact .refl _
  rintro ⟨i, hi⟩
  match i, hi with
  | 0, _ =>
    have r0 : nL (frI x 0) = [] := rfl
    have r1 : nL (frI x (0 + 1)) = [] ++ [((x.g0 : Nat) : Int)] := rfl
    repeat' (first
    | (with_reducible refine DW.seq ?_)
    | (with_reducible refine DW.block ?_)
    | (with_reducible refine DW.skip ?_)
    | (with_reducible refine DW.exit ?_)
    | (with_reducible refine DW.ret ?_)
    | (with_reducible refine DW.reg ?_)
    | (simp (disch := omega) only [go_sem, Nat.reduceLT, Nat.reduceLeDiff, Nat.reduceAdd, Nat.reduceMul, Nat.reduceEqDiff, ↓reduceIte, reduceCtorEq, Nat.reduceBEq, Nat.reduceBNe, Nat.reducePow, Int.reduceLE, Int.reduceLT, Int.reduceNeg, Int.reduceToNat, Int.reduceEq, Int.reduceAdd, Int.reduceSub, Int.reduceMul, Int.reduceBEq, Int.reduceBNe, Blk.men, Blk.keysIn, atI, r0, tmod3, e0])
    | (exact retS_of rfl rfl rfl)
    | (refine DW.cond_tt rfl ?_)
    | (refine DW.cond_ff rfl ?_)
    | (refine DW.cond rfl ?_ ?_ <;> intro hc <;> (try simp only [go_sem] at hc))
    | (refine g_split ?_ ?_ <;> intro hc <;> (try simp only [hc]) <;> (try simp only [go_sem] at hc)))
    refine ⟨⟨1, by omega⟩, ?_, Ent.to ?_ ?_⟩ <;> first | (show _ < _; (try simp only); omega) | (simp (disch := omega) only [wkT_cons, wkX_cons, wkT_nil, wkX_nil, get, Nat.reduceEqDiff, ↓reduceIte, ex_some, wk_self, wk_top, wk_nil, wkB_self, and_self, dI, i64_in, and_true, true_and, Int.natCast_add, Int.natCast_one, Int.ofNat_zero, Int.natCast_zero,  atI, r1, d8])
    all_goals exact .refl _
  | 1, _ =>
    have r0 : nL (frI x 1) = [((x.g0 : Nat) : Int)] := rfl
    repeat' (first
    | (with_reducible refine DW.seq ?_)
    | (with_reducible refine DW.block ?_)
    | (with_reducible refine DW.skip ?_)
    | (with_reducible refine DW.exit ?_)
    | (with_reducible refine DW.ret ?_)
    | (with_reducible refine DW.reg ?_)
    | (simp (disch := omega) only [go_sem, Nat.reduceLT, Nat.reduceLeDiff, Nat.reduceAdd, Nat.reduceMul, Nat.reduceEqDiff, ↓reduceIte, reduceCtorEq, Nat.reduceBEq, Nat.reduceBNe, Nat.reducePow, Int.reduceLE, Int.reduceLT, Int.reduceNeg, Int.reduceToNat, Int.reduceEq, Int.reduceAdd, Int.reduceSub, Int.reduceMul, Int.reduceBEq, Int.reduceBNe, Blk.men, Blk.keysIn, atI, r0, tmod3, e1])
    | (exact retS_of rfl rfl rfl)
    | (refine DW.cond_tt rfl ?_)
    | (refine DW.cond_ff rfl ?_)
    | (refine DW.cond rfl ?_ ?_ <;> intro hc <;> (try simp only [go_sem] at hc))
    | (refine g_split ?_ ?_ <;> intro hc <;> (try simp only [hc]) <;> (try simp only [go_sem] at hc)))
    refine ⟨⟨2, by omega⟩, ?_, Ent.to ?_ ?_⟩ <;> first | (show _ < _; (try simp only); omega) | (simp (disch := omega) only [wkT_cons, wkX_cons, wkT_nil, wkX_nil, get, Nat.reduceEqDiff, ↓reduceIte, ex_some, wk_self, wk_top, wk_nil, wkB_self, and_self, dI, i64_in, and_true, true_and, Int.natCast_add, Int.natCast_one, Int.ofNat_zero, Int.natCast_zero,  atI, d8])
    all_goals exact .refl _
  | 2, _ =>
    have r0 : nL (frI x 2) = [((x.g0 : Nat) : Int), ((x.g1 : Nat) : Int)] := rfl
    repeat' (first
    | (with_reducible refine DW.seq ?_)
    | (with_reducible refine DW.block ?_)
    | (with_reducible refine DW.skip ?_)
    | (with_reducible refine DW.exit ?_)
    | (with_reducible refine DW.ret ?_)
    | (with_reducible refine DW.reg ?_)
    | (simp (disch := omega) only [go_sem, Nat.reduceLT, Nat.reduceLeDiff, Nat.reduceAdd, Nat.reduceMul, Nat.reduceEqDiff, ↓reduceIte, reduceCtorEq, Nat.reduceBEq, Nat.reduceBNe, Nat.reducePow, Int.reduceLE, Int.reduceLT, Int.reduceNeg, Int.reduceToNat, Int.reduceEq, Int.reduceAdd, Int.reduceSub, Int.reduceMul, Int.reduceBEq, Int.reduceBNe, Blk.men, Blk.keysIn, atI, r0, tmod3, e2])
    | (exact retS_of rfl rfl rfl)
    | (refine DW.cond_tt rfl ?_)
    | (refine DW.cond_ff rfl ?_)
    | (refine DW.cond rfl ?_ ?_ <;> intro hc <;> (try simp only [go_sem] at hc))
    | (refine g_split ?_ ?_ <;> intro hc <;> (try simp only [hc]) <;> (try simp only [go_sem] at hc)))
    refine ⟨⟨3, by omega⟩, ?_, Ent.to ?_ ?_⟩ <;> first | (show _ < _; (try simp only); omega) | (simp (disch := omega) only [wkT_cons, wkX_cons, wkT_nil, wkX_nil, get, Nat.reduceEqDiff, ↓reduceIte, ex_some, wk_self, wk_top, wk_nil, wkB_self, and_self, dI, i64_in, and_true, true_and, Int.natCast_add, Int.natCast_one, Int.ofNat_zero, Int.natCast_zero,  atI, d8])
    all_goals exact .refl _
  | 3, _ =>
    repeat' (first
    | (with_reducible refine DW.seq ?_)
    | (with_reducible refine DW.block ?_)
    | (with_reducible refine DW.skip ?_)
    | (with_reducible refine DW.exit ?_)
    | (with_reducible refine DW.ret ?_)
    | (with_reducible refine DW.reg ?_)
    | (simp (disch := omega) only [go_sem, Nat.reduceLT, Nat.reduceLeDiff, Nat.reduceAdd, Nat.reduceMul, Nat.reduceEqDiff, ↓reduceIte, reduceCtorEq, Nat.reduceBEq, Nat.reduceBNe, Nat.reducePow, Int.reduceLE, Int.reduceLT, Int.reduceNeg, Int.reduceToNat, Int.reduceEq, Int.reduceAdd, Int.reduceSub, Int.reduceMul, Int.reduceBEq, Int.reduceBNe, Blk.men, Blk.keysIn, atI])
    | (exact retS_of rfl rfl rfl)
    | (refine DW.cond_tt rfl ?_)
    | (refine DW.cond_ff rfl ?_)
    | (refine DW.cond rfl ?_ ?_ <;> intro hc <;> (try simp only [go_sem] at hc))
    | (refine g_split ?_ ?_ <;> intro hc <;> (try simp only [hc]) <;> (try simp only [go_sem] at hc)))
    (refine retS_ent (Ent.rel 6 rfl) ?_; simp (disch := omega) only [go_sem, Nat.reduceLT, Nat.reduceLeDiff, Nat.reduceAdd, Nat.reduceMul, Nat.reduceEqDiff, ↓reduceIte, reduceCtorEq, Nat.reduceBEq, Nat.reduceBNe, Nat.reducePow, Int.reduceLE, Int.reduceLT, Int.reduceNeg, Int.reduceToNat, Int.reduceEq, Int.reduceAdd, Int.reduceSub, Int.reduceMul, Int.reduceBEq, Int.reduceBNe, Blk.men, Blk.keysIn])
    refine retS_wk rfl ?_ (by simp only [Blk.nb, rowC_nb, D.nb, D.nbs, C.nb, C.nbs, C.nbss, rows_nb eI_nb, rows_nb eC_nb, rows_nb eL_nb, rows_nb eR_nb, rows_nb eS_nb, rows_nb eG_nb, Bool.and_true, Bool.not_false, Bool.and_self, bD, dI, iD]); exact .refl _
end Go.Dw.Seat
end
section
set_option linter.unusedSimpArgs false
namespace Go.Dw.Seat
open Go Go.Dw
def Line.st (x : Line) : Nat := 2 + x.steps % 9
def nozP (x : Line) : List Nat := if x.noz = [] then [0] else (x.noz.take 4).map fun v => v % 2 ^ x.st
abbrev planN (x : Line) : Plan := ⟨x.st, nL (nozP x)⟩
theorem Line.st_in (x : Line) : 2 ≤ x.st ∧ x.st ≤ 10 := by
  have : x.steps % 9 < 9 := Nat.mod_lt _ (by decide)
  unfold Line.st; omega
theorem nozP_len (x : Line) : 1 ≤ (nozP x).length ∧ (nozP x).length ≤ 4 := by
  unfold nozP
  split
  · simp
  · rename_i h
    have : x.noz.length ≠ 0 := fun e => h (List.eq_nil_of_length_eq_zero e)
    simp; omega
theorem nozP_lt (x : Line) : ∀ v ∈ nozP x, v < 2 ^ x.st := by
  have hp : 0 < 2 ^ x.st := Nat.two_pow_pos _
  intro v hv
  unfold nozP at hv
  split at hv
  · simp at hv; omega
  · obtain ⟨u, _, rfl⟩ := List.mem_map.1 hv
    exact Nat.mod_lt _ hp
theorem nozP_16 (x : Line) : ∀ v ∈ nozP x, v < 2 ^ 16 := fun v hv =>
  Nat.lt_of_lt_of_le (nozP_lt x v hv) (Nat.pow_le_pow_right (by decide) (by have := x.st_in; omega))
def Line.n (x : Line) : Nat := (nozP x).length
def causeN (x : Line) (a b c : Nat) : Cause := ⟨((a % (nozP x).length : Nat) : Int), ((1 + b % 4 : Nat) : Int), (((fromsN x).getD (c % 3) 0 : Nat) : Int)⟩
def Line.c0 (x : Line) : Cause := causeN x x.a0 x.a1 x.a2
def Line.c1 (x : Line) : Cause := causeN x x.b0 x.b1 x.b2
def two (a b : Cause) : List Cause := if a.noz < b.noz then [a, b] else if b.noz < a.noz then [b, a] else [a]
def truthTo (x : Line) : Nat → List Cause
  | 0 => []
  | 1 => [x.c0]
  | _ => two x.c0 x.c1
def truthN (x : Line) : List Cause := truthTo x (x.many % 3)
theorem causeN_mem (x : Line) (a b c : Nat) : causeN x a b c ∈ causesN (nozP x).length (nL (fromsN x)) := by
  have h1 : a % (nozP x).length < (nozP x).length := Nat.mod_lt _ (nozP_len x).1
  have h2 : b % 4 < 4 := Nat.mod_lt _ (by decide)
  have h3 : c % 3 < 3 := Nat.mod_lt _ (by decide)
  simp only [causesN, causesZ, causesK, List.mem_flatMap, List.mem_range, List.mem_map]
  refine ⟨a % (nozP x).length, h1, b % 4, h2, (((fromsN x).getD (c % 3) 0 : Nat) : Int), ?_, ?_⟩
  · generalize c % 3 = k at *
    simp only [fromsN, nL]
    match k, h3 with
    | 0, _ => simp
    | 1, _ => simp
    | 2, _ => simp
  · simp only [causeN]; congr 1; omega
theorem mem_pairsTo' {all : List Cause} (hp : all.Pairwise (fun a b => a.noz ≤ b.noz)) {a b : Cause} (ha : a ∈ all) (hb : b ∈ all) (h : a.noz < b.noz) : [a, b] ∈ pairsTo all all.length := by
  rw [← prI_pairs hp _ (Nat.le_refl _), prI, List.take_length]
  refine List.mem_flatMap.2 ⟨a, ha, ?_⟩
  rw [prJ, List.take_length]
  exact List.mem_map.2 ⟨b, List.mem_filter.2 ⟨hb, by simpa using h⟩, rfl⟩
theorem two_mem {n : Nat} {froms : List Int} {a b : Cause} (ha : a ∈ causesN n froms) (hb : b ∈ causesN n froms) : two a b ∈ statesOf (causesN n froms) := by
  unfold two
  simp only [statesOf, List.cons_append, List.mem_cons, List.mem_append, List.mem_map]
  split
  · exact .inr (.inr (mem_pairsTo' (causes_asc froms n) ha hb (by assumption)))
  · split
    · exact .inr (.inr (mem_pairsTo' (causes_asc froms n) hb ha (by assumption)))
    · exact .inr (.inl ⟨a, ha, rfl⟩)
theorem truthN_mem (x : Line) : truthN x ∈ statesOf (causesN (nozP x).length (nL (fromsN x))) := by
  unfold truthN
  have h0 : x.c0 ∈ causesN (nozP x).length (nL (fromsN x)) := causeN_mem x _ _ _
  have h1 : x.c1 ∈ causesN (nozP x).length (nL (fromsN x)) := causeN_mem x _ _ _
  match x.many % 3 with
  | 0 => simp [truthTo, statesOf]
  | 1 => simp [truthTo, statesOf, h0]
  | _ + 2 => exact two_mem h0 h1
structure B3 where
  v0 : Nat
  v1 : Nat
  v2 : Nat
structure B3.ok (v : B3) : Prop where
  v0 : v.v0 < 256
  v1 : v.v1 < 256
  v2 : v.v2 < 256
def placeN (x : Line) (s : List Cause) (v : B3) : Look :=
  ⟨((v.v0 % 12 : Nat) : Int), ((v.v1 % (nozP x).length : Nat) : Int), ((v.v2 % x.st : Nat) : Int), givesL x.st ((nozP x).getD (v.v1 % (nozP x).length) 0) s ((v.v0 % 12 : Nat) : Int) (v.v1 % (nozP x).length) ((v.v2 % x.st : Nat) : Int)⟩
def seenN (x : Line) (s : List Cause) (by' : List B3) : List Look := (by'.take 30).map (placeN x s)
theorem gives_none {st v : Nat} {box : Int} {z : Nat} {step : Int} : ∀ (s : List Cause) (now : Bool), (∀ c ∈ s, c.noz ≠ z) → s.foldl (gStep st v box z step) now = now
  | [], _, _ => rfl
  | c :: s, now, h => by
    have h1 : gStep st v box z step now c = now := if_neg (fun e => h c (by simp) e.1)
    rw [List.foldl_cons, h1]
    exact gives_none s now (fun c hc => h c (by simp [hc]))
theorem gives_kind {st v : Nat} {box : Int} {z : Nat} {step : Int} : ∀ (s : List Cause), s.Pairwise (fun a b => a.noz ≠ b.noz) →
    givesL st v s box z step = glueB (kindOf s box z) box (toldN st v step) (toldN st v (step - 1))
  | [], _ => by simp [givesL, kindOf, glueB]
  | c :: s, hp => by
    rw [List.pairwise_cons] at hp
    by_cases hm : c.noz = z ∧ c.frm ≤ box
    · have hno : ∀ d ∈ s, d.noz ≠ z := fun d hd e => hp.1 d hd (by rw [hm.1, e])
      have hk : kindOf (c :: s) box z = c.kind := by
        have : kindStep box z 0 c = c.kind := if_pos hm
        rw [kindOf, List.foldl_cons, this, kind_none s _ hno]
      have hg : givesL st v (c :: s) box z step = gStep st v box z step (toldN st v step) c := by
        rw [givesL, List.foldl_cons, gives_none s _ hno]
      rw [hk, hg, gStep, if_pos hm, glueB]
      repeat' split
      all_goals first | rfl | (congr 1)
    · have h1 : gStep st v box z step (toldN st v step) c = toldN st v step := if_neg hm
      have h2 : kindStep box z 0 c = 0 := if_neg hm
      have hk : kindOf (c :: s) box z = kindOf s box z := by rw [kindOf, List.foldl_cons, h2]; rfl
      have hg : givesL st v (c :: s) box z step = givesL st v s box z step := by rw [givesL, List.foldl_cons, h1]; rfl
      rw [hk, hg, gives_kind s hp.2]
theorem givesL_glue {st : Nat} {noz : List Nat} {s : List Cause} {box : Int} {z : Nat} {step : Int} (hp : s.Pairwise (fun a b => a.noz ≠ b.noz)) : givesL st (noz.getD z 0) s box z step = glueN st noz s box z step := gives_kind s hp
theorem fitsL_eq {st : Nat} {noz : List Nat} {s : List Cause} (hp : s.Pairwise (fun a b => a.noz ≠ b.noz)) (l : Look) : fitsL st noz s l = fits st noz s l := by
  unfold fitsL fits
  rw [givesL_glue hp]
theorem place_fits (x : Line) (s : List Cause) (v : B3) : fitsL x.st (nozP x) s (placeN x s v) = true := by
  simp only [fitsL, placeN, Int.toNat_natCast, beq_self_eq_true]
theorem place_ok (x : Line) (s : List Cause) (v : B3) : lookOkI (planN x) (placeN x s v) = true := by
  have h0 : v.v0 % 12 < 12 := Nat.mod_lt _ (by decide)
  have h1 : v.v1 % (nozP x).length < (nozP x).length := Nat.mod_lt _ (nozP_len x).1
  have h2 : v.v2 % x.st < x.st := Nat.mod_lt _ (by have := x.st_in; omega)
  simp only [lookOkI, placeN, Bool.and_eq_true, wthn_iff1, nL_length]
  omega
theorem seen_ok {x : Line} {s : List Cause} {by' : List B3} : ∀ l ∈ seenN x s by', lookOkI (planN x) l = true := by
  intro l hl
  obtain ⟨v, _, rfl⟩ := List.mem_map.1 hl
  exact place_ok x s v
theorem seen_fits {x : Line} {s : List Cause} {by' : List B3} : ∀ l ∈ seenN x s by', fitsL x.st (nozP x) s l = true := by
  intro l hl
  obtain ⟨v, _, rfl⟩ := List.mem_map.1 hl
  exact place_fits x s v
theorem seen_len (x : Line) (s : List Cause) (by' : List B3) : (seenN x s by').length ≤ 30 := by simp [seenN]; omega
theorem planN_open (x : Line) : openErr (planN x) = 0 := by
  have h1 := x.st_in
  have h2 := nozP_len x
  have h3 := nozP_lt x
  have e1 : wthn 1 16 [(x.st : Int)] = true := by rw [wthn_iff1]; omega
  have e2 : wthn 0 (2 ^ x.st - 1) (nL (nozP x)) = true := by
    simp only [wthn, Bool.not_eq_true', List.any_eq_false, Bool.or_eq_true, decide_eq_true_eq, nL, List.mem_map]
    rintro _ ⟨v, hv, rfl⟩
    have := h3 v hv
    have : (v : Int) < (2 : Int) ^ x.st := by exact_mod_cast this
    omega
  have e3 : ¬ 6 < (nL (nozP x)).length := by rw [nL_length]; omega
  have e4 : ¬ (nL (nozP x)).length = 0 := by rw [nL_length]; omega
  simp only [openErr, planN, e1, if_neg e3, if_neg e4, Int.toNat_natCast, e2, Bool.true_eq_false, if_false]
theorem froms_asc (x : Line) : asc (nL (fromsN x)) = true := by
  have m0 : x.f0 % 3 < 3 := Nat.mod_lt _ (by decide)
  simp [fromsN, nL, asc, Line.g1, Line.g2]; omega
theorem froms_in (x : Line) : wthn 0 1000 (nL (fromsN x)) = true := by
  have m0 : x.f0 % 3 < 3 := Nat.mod_lt _ (by decide)
  have m1 : x.f1 % 3 < 3 := Nat.mod_lt _ (by decide)
  have m2 : x.f2 % 3 < 3 := Nat.mod_lt _ (by decide)
  simp [wthn, fromsN, nL, Line.g1, Line.g2, Line.g0]; omega
theorem lkErr_line (x : Line) {looks : List Look} (hl : looks.length ≤ 40) (hok : ∀ l ∈ looks, lookOkI (planN x) l = true) : lkErr (planN x) (nL (fromsN x)) looks = 0 := by
  have h1 : ¬(5 < (nL (fromsN x)).length ∨ 40 < looks.length) := by
    have : (nL (fromsN x)).length = 3 := by simp [fromsN, nL]
    omega
  have h2 : ¬(wthn 0 1000 (nL (fromsN x)) = false ∨ fromsOk (nL (fromsN x)) = false) := by
    rw [fromsOk_eq, froms_asc, froms_in]; simp
  have h3 : looks.any (fun l => !lookOkI (planN x) l) = false := by
    rw [List.any_eq_false]; intro l hm; simp [hok l hm]
  simp only [lkErr, if_neg h1, if_neg h2, h3, Bool.false_eq_true, if_false]
abbrev lineX (x : Line) (looks : List Look) : List (List Cause) := explX (planN x) (nL (fromsN x)) looks
theorem mem_lineX {x : Line} {looks : List Look} (hok : ∀ l ∈ looks, lookOkI (planN x) l = true) {s : List Cause} : s ∈ lineX x looks ↔ s ∈ statesOf (causesN (nozP x).length (nL (fromsN x))) ∧ ∀ l ∈ looks, fitsL x.st (nozP x) s l = true := by
  rw [lineX, planN, explX_eq (nozP_lt x) hok, stR, states_eq, List.mem_filter]
  constructor
  · rintro ⟨h1, h2⟩
    refine ⟨h1, fun l hl => ?_⟩
    rw [fitsL_eq (states_pair h1)]
    exact List.all_eq_true.1 h2 l hl
  · rintro ⟨h1, h2⟩
    refine ⟨h1, List.all_eq_true.2 fun l hl => ?_⟩
    rw [← fitsL_eq (states_pair h1)]
    exact h2 l hl
theorem exErr_line (x : Line) {looks : List Look} (hl : looks.length ≤ 40) (hok : ∀ l ∈ looks, lookOkI (planN x) l = true) : exErr (planN x) (nL (fromsN x)) looks = if (lineX x looks).length = 0 then 9 else 0 := by
  simp only [exErr, planN_open, lkErr_line x hl hok, if_true]
theorem exOut_line (x : Line) {looks : List Look} (hl : looks.length ≤ 40) (hok : ∀ l ∈ looks, lookOkI (planN x) l = true) : exOut (planN x) (nL (fromsN x)) looks = lineX x looks := by
  unfold exOut
  rw [exErr_line x hl hok]
  by_cases h : (lineX x looks).length = 0
  · rw [if_pos h, if_neg (by decide), List.eq_nil_of_length_eq_zero h]
  · rw [if_neg h]; simp
end Go.Dw.Seat
end
section
set_option linter.unusedSimpArgs false
set_option maxRecDepth 100000
namespace Go.Dw.Seat
open Go Go.Dw Go.Proofs Go.IntWalk
abbrev bxL (b : Bool) (x : Line) : Blk := .box [d8 x.steps, .c (.sl b 1 (rows eU x.noz)), d8 x.f0, d8 x.f1, d8 x.f2, d8 x.a0, d8 x.a1, d8 x.a2, d8 x.b0, d8 x.b1, d8 x.b2, d8 x.many]
attribute [go_sem] bxL
def mk44 (b : Bool) (x : Line) : Nat → St
  | 0 => ⟨50, [(4, dI 0), (3, .box 3 0), (2, .box 2 0), (1, .box 1 0)], [(3, .box [dI x.st, .c (.v (.slice none 0 0))]), (2, .box [dI 0, .c (.v (.slice none 0 0))]), (1, bxL b x)]⟩
  | j + 1 => ⟨50, [(4, dI ((j + 1 : Nat) : Int)), (3, .box 3 0), (2, .box 2 0), (1, .box 1 0)], [(47, .row 1 (rowC (rows eI (nL ((nozP x).take (j + 1)))))), (3, .box [dI x.st, .own 47]), (2, .box [dI 0, .c (.v (.slice none 0 0))]), (1, bxL b x)]⟩
theorem c44 (b : Bool) (x : Line) (hx : x.ok) : DCall Try.prog 44 [dL b x] [] (dP false (planN x)) [] := by
  have h0 := hx.steps
  have hst := x.st_in
  have hln := nozP_len x
  have m0 : x.steps % 9 < 9 := Nat.mod_lt _ (by decide)
  have e0 : (2 : Int) + ((x.steps % 9 : Nat) : Int) = (x.st : Nat) := by simp only [Line.st]; omega
  have hpw : 2 ^ x.st ≤ 2 ^ 10 := Nat.pow_le_pow_right (by decide) hst.2
  have hp0 : 0 < 2 ^ x.st := Nat.two_pow_pos _
  have hshl : shlI .i64 1 (x.st : Nat) = ((2 ^ x.st : Nat) : Int) := one_shl x.st (by omega)
  have hp2 : ((2 ^ x.st : Nat) : Int) ≤ 1024 := by have : 2 ^ x.st ≤ 1024 := hpw; omega
  have hp3 : ((2 ^ x.st : Nat) : Int) ≠ 0 := by omega
  have htm : ∀ v : Nat, (v : Int).tmod ((2 ^ x.st : Nat) : Int) = ((v % 2 ^ x.st : Nat) : Int) := fun v => tmod_nat v _
  refine DCall.of Try.func44 sf44 hb44 (Nat.le_of_ble_eq_true rfl) (okRes_nil fun _ => rfl) ?_; simp only [s44, idxs, Nat.reduceAdd]
  repeat' (first
    | (with_reducible refine DW.seq ?_)
    | (with_reducible refine DW.block ?_)
    | (with_reducible refine DW.skip ?_)
    | (with_reducible refine DW.exit ?_)
    | (with_reducible refine DW.ret ?_)
    | (with_reducible refine DW.reg ?_)
    | (refine DW.dreg rfl (WF.of (by first | rfl | simp (disch := omega) only [go_sem, Nat.reduceLT, Nat.reduceLeDiff, Nat.reduceAdd, Nat.reduceMul, Nat.reduceEqDiff, ↓reduceIte, reduceCtorEq, Nat.reduceBEq, Nat.reduceBNe, Nat.reducePow, Int.reduceLE, Int.reduceLT, Int.reduceNeg, Int.reduceToNat, Int.reduceEq, Int.reduceAdd, Int.reduceSub, Int.reduceMul, Int.reduceBEq, Int.reduceBNe, Blk.men, Blk.keysIn, tmod9, e0])) ?_)
    | (simp (disch := omega) only [go_sem, Nat.reduceLT, Nat.reduceLeDiff, Nat.reduceAdd, Nat.reduceMul, Nat.reduceEqDiff, ↓reduceIte, reduceCtorEq, Nat.reduceBEq, Nat.reduceBNe, Nat.reducePow, Int.reduceLE, Int.reduceLT, Int.reduceNeg, Int.reduceToNat, Int.reduceEq, Int.reduceAdd, Int.reduceSub, Int.reduceMul, Int.reduceBEq, Int.reduceBNe, Blk.men, Blk.keysIn, tmod9, e0])
    | (exact retS_of rfl rfl rfl)
    | (refine DW.cond_tt rfl ?_)
    | (refine DW.cond_ff rfl ?_)
    | (refine DW.cond rfl ?_ ?_ <;> intro hc <;> (try simp only [go_sem] at hc))
    | (refine g_split ?_ ?_ <;> intro hc <;> (try simp only [hc]) <;> (try simp only [go_sem] at hc)))
  refine DW.loop (ι := { i : Nat // i ≤ (nozP x).length }) (fun i => mk44 b x i.1) (fun i => (nozP x).length - i.1) ⟨0, Nat.zero_le _⟩ ?_ ?_
  · refine Ent.to ?_ ?_ <;> simp (disch := omega) only [wkT_cons, wkX_cons, wkT_nil, wkX_nil, get, Nat.reduceEqDiff, ↓reduceIte, ex_some, wk_self, wk_top, wk_nil, wkB_self, and_self, dI, i64_in, and_true, true_and, Int.natCast_add, Int.natCast_one, Int.ofNat_zero, Int.natCast_zero, mk44, d8]
    all_goals exact .refl _
  rintro ⟨i, hi⟩
  match i, hi with
  | 0, _ =>
    simp only [mk44]
    rcases at_or x.noz 0 (Nat.zero_le _) with ⟨v, hg, hlt, hd⟩ | ⟨hend, hd⟩
    · have hv := hx.noz v (List.mem_of_getElem? hg)
      have hm : v % 2 ^ x.st < 2 ^ x.st := Nat.mod_lt _ hp0
      have hz : nL ((nozP x).take (0 + 1)) = [((v % 2 ^ x.st : Nat) : Int)] := by
        cases h : x.noz with
        | nil => simp [h] at hg
        | cons u l => simp [h] at hg; simp [nozP, h, nL, hg]
      have hd' : decide ((0 : Int) < (x.noz.length : Int)) = true := hd
      repeat' (first
    | (with_reducible refine DW.seq ?_)
    | (with_reducible refine DW.block ?_)
    | (with_reducible refine DW.skip ?_)
    | (with_reducible refine DW.exit ?_)
    | (with_reducible refine DW.ret ?_)
    | (with_reducible refine DW.reg ?_)
    | (refine DW.dreg rfl (WF.of (by first | rfl | simp (disch := omega) only [go_sem, Nat.reduceLT, Nat.reduceLeDiff, Nat.reduceAdd, Nat.reduceMul, Nat.reduceEqDiff, ↓reduceIte, reduceCtorEq, Nat.reduceBEq, Nat.reduceBNe, Nat.reducePow, Int.reduceLE, Int.reduceLT, Int.reduceNeg, Int.reduceToNat, Int.reduceEq, Int.reduceAdd, Int.reduceSub, Int.reduceMul, Int.reduceBEq, Int.reduceBNe, Blk.men, Blk.keysIn, hd', hg, hshl, htm, hp3, St.men, Int.ofNat_zero])) ?_)
    | (simp (disch := omega) only [go_sem, Nat.reduceLT, Nat.reduceLeDiff, Nat.reduceAdd, Nat.reduceMul, Nat.reduceEqDiff, ↓reduceIte, reduceCtorEq, Nat.reduceBEq, Nat.reduceBNe, Nat.reducePow, Int.reduceLE, Int.reduceLT, Int.reduceNeg, Int.reduceToNat, Int.reduceEq, Int.reduceAdd, Int.reduceSub, Int.reduceMul, Int.reduceBEq, Int.reduceBNe, Blk.men, Blk.keysIn, hd', hg, hshl, htm, hp3, St.men, Int.ofNat_zero])
    | (exact retS_of rfl rfl rfl)
    | (refine DW.cond_tt rfl ?_)
    | (refine DW.cond_ff rfl ?_)
    | (refine DW.cond rfl ?_ ?_ <;> intro hc <;> (try simp only [go_sem] at hc))
    | (refine g_split ?_ ?_ <;> intro hc <;> (try simp only [hc]) <;> (try simp only [go_sem] at hc)))
      refine ⟨⟨1, hln.1⟩, ?_, Ent.to ?_ ?_⟩ <;> first | (show _ < _; (try simp only); omega) | (simp (disch := omega) only [wkT_cons, wkX_cons, wkT_nil, wkX_nil, get, Nat.reduceEqDiff, ↓reduceIte, ex_some, wk_self, wk_top, wk_nil, wkB_self, and_self, dI, i64_in, and_true, true_and, Int.natCast_add, Int.natCast_one, Int.ofNat_zero, Int.natCast_zero,  mk44, hz, d8, bxL])
      all_goals exact .refl _
    · have hz : nL ((nozP x).take (0 + 1)) = [0] := by
        have : x.noz = [] := List.eq_nil_of_length_eq_zero hend.symm
        simp [nozP, this, nL]
      have hd' : decide ((0 : Int) < (x.noz.length : Int)) = false := hd
      repeat' (first
    | (with_reducible refine DW.seq ?_)
    | (with_reducible refine DW.block ?_)
    | (with_reducible refine DW.skip ?_)
    | (with_reducible refine DW.exit ?_)
    | (with_reducible refine DW.ret ?_)
    | (with_reducible refine DW.reg ?_)
    | (refine DW.dreg rfl (WF.of (by first | rfl | simp (disch := omega) only [go_sem, Nat.reduceLT, Nat.reduceLeDiff, Nat.reduceAdd, Nat.reduceMul, Nat.reduceEqDiff, ↓reduceIte, reduceCtorEq, Nat.reduceBEq, Nat.reduceBNe, Nat.reducePow, Int.reduceLE, Int.reduceLT, Int.reduceNeg, Int.reduceToNat, Int.reduceEq, Int.reduceAdd, Int.reduceSub, Int.reduceMul, Int.reduceBEq, Int.reduceBNe, Blk.men, Blk.keysIn, hd', St.men, Int.ofNat_zero])) ?_)
    | (simp (disch := omega) only [go_sem, Nat.reduceLT, Nat.reduceLeDiff, Nat.reduceAdd, Nat.reduceMul, Nat.reduceEqDiff, ↓reduceIte, reduceCtorEq, Nat.reduceBEq, Nat.reduceBNe, Nat.reducePow, Int.reduceLE, Int.reduceLT, Int.reduceNeg, Int.reduceToNat, Int.reduceEq, Int.reduceAdd, Int.reduceSub, Int.reduceMul, Int.reduceBEq, Int.reduceBNe, Blk.men, Blk.keysIn, hd', St.men, Int.ofNat_zero])
    | (exact retS_of rfl rfl rfl)
    | (refine DW.cond_tt rfl ?_)
    | (refine DW.cond_ff rfl ?_)
    | (refine DW.cond rfl ?_ ?_ <;> intro hc <;> (try simp only [go_sem] at hc))
    | (refine g_split ?_ ?_ <;> intro hc <;> (try simp only [hc]) <;> (try simp only [go_sem] at hc)))
      refine ⟨⟨1, hln.1⟩, ?_, Ent.to ?_ ?_⟩ <;> first | (show _ < _; (try simp only); omega) | (simp (disch := omega) only [wkT_cons, wkX_cons, wkT_nil, wkX_nil, get, Nat.reduceEqDiff, ↓reduceIte, ex_some, wk_self, wk_top, wk_nil, wkB_self, and_self, dI, i64_in, and_true, true_and, Int.natCast_add, Int.natCast_one, Int.ofNat_zero, Int.natCast_zero,  mk44, hz, d8, bxL])
      all_goals exact .refl _
  | j + 1, hj =>
    simp only [mk44]
    have hj0 : (((j + 1 : Nat) : Int) == 0) = false := by rw [beq_eq_false_iff_ne]; omega
    rcases Nat.lt_or_ge (j + 1) (nozP x).length with hlt | hge
    · have hlx : j + 1 < x.noz.length ∧ j + 1 < 4 := by
        unfold nozP at hlt
        split at hlt
        · simp at hlt
        · simp at hlt; omega
      have hd : decide (((j + 1 : Nat) : Int) < (x.noz.length : Int)) = true := by rw [decide_eq_true_eq]; omega
      have hd4 : decide (((j + 1 : Nat) : Int) < 4) = true := by rw [decide_eq_true_eq]; omega
      obtain ⟨v, hg⟩ := getE (l := x.noz) (i := j + 1) hlx.1
      have hv := hx.noz v (List.mem_of_getElem? hg)
      have hm : v % 2 ^ x.st < 2 ^ x.st := Nat.mod_lt _ hp0
      have hne : x.noz ≠ [] := fun e => by simp [e] at hg
      have hpg : (nozP x)[j + 1]? = some (v % 2 ^ x.st) := by
        rw [nozP, if_neg hne, List.getElem?_map, List.getElem?_take, if_pos hlx.2, hg]; rfl
      have hz : nL ((nozP x).take (j + 1 + 1)) = nL ((nozP x).take (j + 1)) ++ [((v % 2 ^ x.st : Nat) : Int)] := by
        rw [List.take_add_one, hpg]; simp [nL]
      have hlen : (nL ((nozP x).take (j + 1))).length ≤ 4 := by rw [nL_length, List.length_take]; omega
      generalize hl0 : nL ((nozP x).take (j + 1)) = l0 at *
      repeat' (first
    | (with_reducible refine DW.seq ?_)
    | (with_reducible refine DW.block ?_)
    | (with_reducible refine DW.skip ?_)
    | (with_reducible refine DW.exit ?_)
    | (with_reducible refine DW.ret ?_)
    | (with_reducible refine DW.reg ?_)
    | (refine DW.dreg rfl (WF.of (by first | rfl | simp (disch := omega) only [go_sem, Nat.reduceLT, Nat.reduceLeDiff, Nat.reduceAdd, Nat.reduceMul, Nat.reduceEqDiff, ↓reduceIte, reduceCtorEq, Nat.reduceBEq, Nat.reduceBNe, Nat.reducePow, Int.reduceLE, Int.reduceLT, Int.reduceNeg, Int.reduceToNat, Int.reduceEq, Int.reduceAdd, Int.reduceSub, Int.reduceMul, Int.reduceBEq, Int.reduceBNe, Blk.men, Blk.keysIn, hj0, hd, hd4, hg, hshl, htm, hp3])) ?_)
    | (simp (disch := omega) only [go_sem, Nat.reduceLT, Nat.reduceLeDiff, Nat.reduceAdd, Nat.reduceMul, Nat.reduceEqDiff, ↓reduceIte, reduceCtorEq, Nat.reduceBEq, Nat.reduceBNe, Nat.reducePow, Int.reduceLE, Int.reduceLT, Int.reduceNeg, Int.reduceToNat, Int.reduceEq, Int.reduceAdd, Int.reduceSub, Int.reduceMul, Int.reduceBEq, Int.reduceBNe, Blk.men, Blk.keysIn, hj0, hd, hd4, hg, hshl, htm, hp3])
    | (exact retS_of rfl rfl rfl)
    | (refine DW.cond_tt rfl ?_)
    | (refine DW.cond_ff rfl ?_)
    | (refine DW.cond rfl ?_ ?_ <;> intro hc <;> (try simp only [go_sem] at hc))
    | (refine g_split ?_ ?_ <;> intro hc <;> (try simp only [hc]) <;> (try simp only [go_sem] at hc)))
      refine ⟨⟨j + 1 + 1, hlt⟩, ?_, Ent.to ?_ ?_⟩ <;> first | (show _ < _; (try simp only); omega) | (simp (disch := omega) only [wkT_cons, wkX_cons, wkT_nil, wkX_nil, get, Nat.reduceEqDiff, ↓reduceIte, ex_some, wk_self, wk_top, wk_nil, wkB_self, and_self, dI, i64_in, and_true, true_and, Int.natCast_add, Int.natCast_one, Int.ofNat_zero, Int.natCast_zero,  mk44, hz, d8, bxL])
      all_goals exact .refl _
    · have hend : j + 1 = (nozP x).length := by omega
      have hl0 : (nozP x).take (j + 1) = nozP x := List.take_of_length_le hge
      have hex : ¬ (j + 1 < x.noz.length ∧ j + 1 < 4) := by
        rintro ⟨h1, h2⟩
        unfold nozP at hge
        split at hge
        · rename_i h; simp [h] at h1
        · simp at hge; omega
      rw [hl0]
      rcases Nat.lt_or_ge (j + 1) x.noz.length with h1 | h1
      · have hd : decide (((j + 1 : Nat) : Int) < (x.noz.length : Int)) = true := by rw [decide_eq_true_eq]; omega
        have hd4 : decide (((j + 1 : Nat) : Int) < 4) = false := by rw [decide_eq_false_iff_not]; omega
        repeat' (first
    | (with_reducible refine DW.seq ?_)
    | (with_reducible refine DW.block ?_)
    | (with_reducible refine DW.skip ?_)
    | (with_reducible refine DW.exit ?_)
    | (with_reducible refine DW.ret ?_)
    | (with_reducible refine DW.reg ?_)
    | (refine DW.dreg rfl (WF.of (by first | rfl | simp (disch := omega) only [go_sem, Nat.reduceLT, Nat.reduceLeDiff, Nat.reduceAdd, Nat.reduceMul, Nat.reduceEqDiff, ↓reduceIte, reduceCtorEq, Nat.reduceBEq, Nat.reduceBNe, Nat.reducePow, Int.reduceLE, Int.reduceLT, Int.reduceNeg, Int.reduceToNat, Int.reduceEq, Int.reduceAdd, Int.reduceSub, Int.reduceMul, Int.reduceBEq, Int.reduceBNe, Blk.men, Blk.keysIn, hj0, hd, hd4])) ?_)
    | (simp (disch := omega) only [go_sem, Nat.reduceLT, Nat.reduceLeDiff, Nat.reduceAdd, Nat.reduceMul, Nat.reduceEqDiff, ↓reduceIte, reduceCtorEq, Nat.reduceBEq, Nat.reduceBNe, Nat.reducePow, Int.reduceLE, Int.reduceLT, Int.reduceNeg, Int.reduceToNat, Int.reduceEq, Int.reduceAdd, Int.reduceSub, Int.reduceMul, Int.reduceBEq, Int.reduceBNe, Blk.men, Blk.keysIn, hj0, hd, hd4])
    | (exact retS_of rfl rfl rfl)
    | (refine DW.cond_tt rfl ?_)
    | (refine DW.cond_ff rfl ?_)
    | (refine DW.cond rfl ?_ ?_ <;> intro hc <;> (try simp only [go_sem] at hc))
    | (refine g_split ?_ ?_ <;> intro hc <;> (try simp only [hc]) <;> (try simp only [go_sem] at hc)))
        (refine retS_ent (Ent.rel 47 rfl) ?_; simp (disch := omega) only [go_sem, Nat.reduceLT, Nat.reduceLeDiff, Nat.reduceAdd, Nat.reduceMul, Nat.reduceEqDiff, ↓reduceIte, reduceCtorEq, Nat.reduceBEq, Nat.reduceBNe, Nat.reducePow, Int.reduceLE, Int.reduceLT, Int.reduceNeg, Int.reduceToNat, Int.reduceEq, Int.reduceAdd, Int.reduceSub, Int.reduceMul, Int.reduceBEq, Int.reduceBNe, Blk.men, Blk.keysIn])
        refine retS_wk rfl ?_ (by simp only [Blk.nb, rowC_nb, D.nb, D.nbs, C.nb, C.nbs, C.nbss, rows_nb eI_nb, rows_nb eC_nb, rows_nb eL_nb, rows_nb eR_nb, rows_nb eS_nb, rows_nb eG_nb, Bool.and_true, Bool.not_false, Bool.and_self, bD, dI, iD]); exact .agg (.cons (.refl _) (.cons (.refl _) .nil))
      · have hd : decide (((j + 1 : Nat) : Int) < (x.noz.length : Int)) = false := by rw [decide_eq_false_iff_not]; omega
        repeat' (first
    | (with_reducible refine DW.seq ?_)
    | (with_reducible refine DW.block ?_)
    | (with_reducible refine DW.skip ?_)
    | (with_reducible refine DW.exit ?_)
    | (with_reducible refine DW.ret ?_)
    | (with_reducible refine DW.reg ?_)
    | (refine DW.dreg rfl (WF.of (by first | rfl | simp (disch := omega) only [go_sem, Nat.reduceLT, Nat.reduceLeDiff, Nat.reduceAdd, Nat.reduceMul, Nat.reduceEqDiff, ↓reduceIte, reduceCtorEq, Nat.reduceBEq, Nat.reduceBNe, Nat.reducePow, Int.reduceLE, Int.reduceLT, Int.reduceNeg, Int.reduceToNat, Int.reduceEq, Int.reduceAdd, Int.reduceSub, Int.reduceMul, Int.reduceBEq, Int.reduceBNe, Blk.men, Blk.keysIn, hj0, hd])) ?_)
    | (simp (disch := omega) only [go_sem, Nat.reduceLT, Nat.reduceLeDiff, Nat.reduceAdd, Nat.reduceMul, Nat.reduceEqDiff, ↓reduceIte, reduceCtorEq, Nat.reduceBEq, Nat.reduceBNe, Nat.reducePow, Int.reduceLE, Int.reduceLT, Int.reduceNeg, Int.reduceToNat, Int.reduceEq, Int.reduceAdd, Int.reduceSub, Int.reduceMul, Int.reduceBEq, Int.reduceBNe, Blk.men, Blk.keysIn, hj0, hd])
    | (exact retS_of rfl rfl rfl)
    | (refine DW.cond_tt rfl ?_)
    | (refine DW.cond_ff rfl ?_)
    | (refine DW.cond rfl ?_ ?_ <;> intro hc <;> (try simp only [go_sem] at hc))
    | (refine g_split ?_ ?_ <;> intro hc <;> (try simp only [hc]) <;> (try simp only [go_sem] at hc)))
        (refine retS_ent (Ent.rel 47 rfl) ?_; simp (disch := omega) only [go_sem, Nat.reduceLT, Nat.reduceLeDiff, Nat.reduceAdd, Nat.reduceMul, Nat.reduceEqDiff, ↓reduceIte, reduceCtorEq, Nat.reduceBEq, Nat.reduceBNe, Nat.reducePow, Int.reduceLE, Int.reduceLT, Int.reduceNeg, Int.reduceToNat, Int.reduceEq, Int.reduceAdd, Int.reduceSub, Int.reduceMul, Int.reduceBEq, Int.reduceBNe, Blk.men, Blk.keysIn])
        refine retS_wk rfl ?_ (by simp only [Blk.nb, rowC_nb, D.nb, D.nbs, C.nb, C.nbs, C.nbss, rows_nb eI_nb, rows_nb eC_nb, rows_nb eL_nb, rows_nb eR_nb, rows_nb eS_nb, rows_nb eG_nb, Bool.and_true, Bool.not_false, Bool.and_self, bD, dI, iD]); exact .agg (.cons (.refl _) (.cons (.refl _) .nil))
end Go.Dw.Seat
end
section
set_option linter.unusedSimpArgs false
set_option maxRecDepth 100000
namespace Go.Dw.Seat
open Go Go.Dw Go.Proofs Go.IntWalk
abbrev bxP (b : Bool) (x : Line) : Blk := .box [dI x.st, dIs b (nL (nozP x))]
attribute [go_sem] bxP
def mk46 (b b' : Bool) (x : Line) : Nat → St
  | 0 => ⟨76, [(7, dI 0), (6, dIs false (nL (fromsN x))), (5, .own 10), (3, .box 3 0), (2, .box 2 0)], [(10, .row 3 (rowC (rows eC []))), (3, bxP b' x), (2, bxL b x)]⟩
  | 1 => ⟨76, [(7, dI 1), (6, dIs false (nL (fromsN x))), (5, .own 10), (3, .box 3 0), (2, .box 2 0)], [(10, .row 3 (rowC (rows eC [x.c0]))), (3, bxP b' x), (2, bxL b x)]⟩
  | _ => ⟨76, [(7, dI 2), (6, dIs false (nL (fromsN x))), (5, dCs false (two x.c0 x.c1)), (3, .box 3 0), (2, .box 2 0)], [(3, bxP b' x), (2, bxL b x)]⟩
theorem froms_get (x : Line) (c : Nat) : (nL (fromsN x))[c % 3]? = some ((((fromsN x).getD (c % 3) 0 : Nat)) : Int) := by
  have h3 : c % 3 < 3 := Nat.mod_lt _ (by decide)
  generalize c % 3 = k at *
  simp only [fromsN, nL]
  match k, h3 with
  | 0, _ => simp
  | 1, _ => simp
  | 2, _ => simp
theorem c46 (b b' : Bool) (x : Line) (hx : x.ok) : DCall Try.prog 46 [dL b x, dP b' (planN x)] [] (dCs false (truthN x)) [] := by
  have h0 := hx.a0
  have h1 := hx.a1
  have h2 := hx.a2
  have h3 := hx.b0
  have h4 := hx.b1
  have h5 := hx.b2
  have h6 := hx.many
  have hln := nozP_len x
  have hm3 : x.many % 3 < 3 := Nat.mod_lt _ (by decide)
  have htm : ∀ v : Nat, (v : Int).tmod ((nozP x).length : Int) = ((v % (nozP x).length : Nat) : Int) := fun v => tmod_nat v _
  have hne : (((nozP x).length : Int) = 0) = False := eq_false (by omega)
  have p0 : x.a0 % (nozP x).length < (nozP x).length := Nat.mod_lt _ hln.1
  have p1 : x.a1 % 4 < 4 := Nat.mod_lt _ (by decide)
  have p2 : x.a2 % 3 < 3 := Nat.mod_lt _ (by decide)
  have p3 : x.b0 % (nozP x).length < (nozP x).length := Nat.mod_lt _ hln.1
  have p4 : x.b1 % 4 < 4 := Nat.mod_lt _ (by decide)
  have p5 : x.b2 % 3 < 3 := Nat.mod_lt _ (by decide)
  have g0 := froms_get x x.a2
  have g1 := froms_get x x.b2
  have e0 : ((x.a0 % (nozP x).length : Nat) : Int) = x.c0.noz := rfl
  have e1 : (1 : Int) + ((x.a1 % 4 : Nat) : Int) = x.c0.kind := by simp [Line.c0, causeN]
  have e2 : (((fromsN x).getD (x.a2 % 3) 0 : Nat) : Int) = x.c0.frm := rfl
  have e3 : ((x.b0 % (nozP x).length : Nat) : Int) = x.c1.noz := rfl
  have e4 : (1 : Int) + ((x.b1 % 4 : Nat) : Int) = x.c1.kind := by simp [Line.c1, causeN]
  have e5 : (((fromsN x).getD (x.b2 % 3) 0 : Nat) : Int) = x.c1.frm := rfl
  have hml : ((x.many : Int).tmod 3) = ((x.many % 3 : Nat) : Int) := tmod3 _
  refine DCall.of Try.func46 sf46 hb46 (Nat.le_of_ble_eq_true rfl) (okRes_nil fun _ => rfl) ?_; simp only [s46, idxs, Nat.reduceAdd]
  repeat' (first
    | (with_reducible refine DW.seq ?_)
    | (with_reducible refine DW.block ?_)
    | (with_reducible refine DW.skip ?_)
    | (with_reducible refine DW.exit ?_)
    | (with_reducible refine DW.ret ?_)
    | (with_reducible refine DW.reg ?_)
    | (refine DW.dreg rfl (WF.of (by first | rfl | simp (disch := omega) only [go_sem, Nat.reduceLT, Nat.reduceLeDiff, Nat.reduceAdd, Nat.reduceMul, Nat.reduceEqDiff, ↓reduceIte, reduceCtorEq, Nat.reduceBEq, Nat.reduceBNe, Nat.reducePow, Int.reduceLE, Int.reduceLT, Int.reduceNeg, Int.reduceToNat, Int.reduceEq, Int.reduceAdd, Int.reduceSub, Int.reduceMul, Int.reduceBEq, Int.reduceBNe, Blk.men, Blk.keysIn])) ?_)
    | (simp (disch := omega) only [go_sem, Nat.reduceLT, Nat.reduceLeDiff, Nat.reduceAdd, Nat.reduceMul, Nat.reduceEqDiff, ↓reduceIte, reduceCtorEq, Nat.reduceBEq, Nat.reduceBNe, Nat.reducePow, Int.reduceLE, Int.reduceLT, Int.reduceNeg, Int.reduceToNat, Int.reduceEq, Int.reduceAdd, Int.reduceSub, Int.reduceMul, Int.reduceBEq, Int.reduceBNe, Blk.men, Blk.keysIn])
    | (exact retS_of rfl rfl rfl)
    | (refine DW.cond_tt rfl ?_)
    | (refine call_c (c45 b x hx) (by decide) ?_)
    | (refine DW.cond_ff rfl ?_)
    | (refine DW.cond rfl ?_ ?_ <;> intro hc <;> (try simp only [go_sem] at hc))
    | (refine g_split ?_ ?_ <;> intro hc <;> (try simp only [hc]) <;> (try simp only [go_sem] at hc)))
  unfold truthN
  generalize x.many % 3 = m at *
  refine DW.loop (ι := { i : Nat // i ≤ m }) (fun i => mk46 b b' x i.1) (fun i => m - i.1) ⟨0, Nat.zero_le _⟩ ?_ ?_
  · refine Ent.to ?_ ?_ <;> simp (disch := omega) only [wkT_cons, wkX_cons, wkT_nil, wkX_nil, get, Nat.reduceEqDiff, ↓reduceIte, ex_some, wk_self, wk_top, wk_nil, wkB_self, and_self, dI, i64_in, and_true, true_and, Int.natCast_add, Int.natCast_one, Int.ofNat_zero, Int.natCast_zero, mk46, d8]
    all_goals exact .refl _
  rintro ⟨i, hi⟩
  match i, hi with
  | 0, _ =>
    simp only [mk46]
    rcases Nat.eq_zero_or_pos m with h | h
    · subst h
      repeat' (first
    | (with_reducible refine DW.seq ?_)
    | (with_reducible refine DW.block ?_)
    | (with_reducible refine DW.skip ?_)
    | (with_reducible refine DW.exit ?_)
    | (with_reducible refine DW.ret ?_)
    | (with_reducible refine DW.reg ?_)
    | (refine DW.dreg rfl (WF.of (by first | rfl | simp (disch := omega) only [go_sem, Nat.reduceLT, Nat.reduceLeDiff, Nat.reduceAdd, Nat.reduceMul, Nat.reduceEqDiff, ↓reduceIte, reduceCtorEq, Nat.reduceBEq, Nat.reduceBNe, Nat.reducePow, Int.reduceLE, Int.reduceLT, Int.reduceNeg, Int.reduceToNat, Int.reduceEq, Int.reduceAdd, Int.reduceSub, Int.reduceMul, Int.reduceBEq, Int.reduceBNe, Blk.men, Blk.keysIn, hml])) ?_)
    | (simp (disch := omega) only [go_sem, Nat.reduceLT, Nat.reduceLeDiff, Nat.reduceAdd, Nat.reduceMul, Nat.reduceEqDiff, ↓reduceIte, reduceCtorEq, Nat.reduceBEq, Nat.reduceBNe, Nat.reducePow, Int.reduceLE, Int.reduceLT, Int.reduceNeg, Int.reduceToNat, Int.reduceEq, Int.reduceAdd, Int.reduceSub, Int.reduceMul, Int.reduceBEq, Int.reduceBNe, Blk.men, Blk.keysIn, hml])
    | (exact retS_of rfl rfl rfl)
    | (refine DW.cond_tt rfl ?_)
    | (refine DW.cond_ff rfl ?_)
    | (refine DW.cond rfl ?_ ?_ <;> intro hc <;> (try simp only [go_sem] at hc))
    | (refine g_split ?_ ?_ <;> intro hc <;> (try simp only [hc]) <;> (try simp only [go_sem] at hc)))
      (refine retS_ent (Ent.rel 10 rfl) ?_; simp (disch := omega) only [go_sem, Nat.reduceLT, Nat.reduceLeDiff, Nat.reduceAdd, Nat.reduceMul, Nat.reduceEqDiff, ↓reduceIte, reduceCtorEq, Nat.reduceBEq, Nat.reduceBNe, Nat.reducePow, Int.reduceLE, Int.reduceLT, Int.reduceNeg, Int.reduceToNat, Int.reduceEq, Int.reduceAdd, Int.reduceSub, Int.reduceMul, Int.reduceBEq, Int.reduceBNe, Blk.men, Blk.keysIn])
      refine retS_wk rfl ?_ (by simp only [Blk.nb, rowC_nb, D.nb, D.nbs, C.nb, C.nbs, C.nbss, rows_nb eI_nb, rows_nb eC_nb, rows_nb eL_nb, rows_nb eR_nb, rows_nb eS_nb, rows_nb eG_nb, Bool.and_true, Bool.not_false, Bool.and_self, bD, dI, iD]); exact .refl _
    · have hd : decide ((0 : Int) < (m : Int)) = true := by rw [decide_eq_true_eq]; omega
      repeat' (first
    | (with_reducible refine DW.seq ?_)
    | (with_reducible refine DW.block ?_)
    | (with_reducible refine DW.skip ?_)
    | (with_reducible refine DW.exit ?_)
    | (with_reducible refine DW.ret ?_)
    | (with_reducible refine DW.reg ?_)
    | (refine DW.dreg rfl (WF.of (by first | rfl | simp (disch := omega) only [go_sem, Nat.reduceLT, Nat.reduceLeDiff, Nat.reduceAdd, Nat.reduceMul, Nat.reduceEqDiff, ↓reduceIte, reduceCtorEq, Nat.reduceBEq, Nat.reduceBNe, Nat.reducePow, Int.reduceLE, Int.reduceLT, Int.reduceNeg, Int.reduceToNat, Int.reduceEq, Int.reduceAdd, Int.reduceSub, Int.reduceMul, Int.reduceBEq, Int.reduceBNe, Blk.men, Blk.keysIn, hml, hd, htm, hne, tmod4, tmod3, g0, e0, e1, e2])) ?_)
    | (simp (disch := omega) only [go_sem, Nat.reduceLT, Nat.reduceLeDiff, Nat.reduceAdd, Nat.reduceMul, Nat.reduceEqDiff, ↓reduceIte, reduceCtorEq, Nat.reduceBEq, Nat.reduceBNe, Nat.reducePow, Int.reduceLE, Int.reduceLT, Int.reduceNeg, Int.reduceToNat, Int.reduceEq, Int.reduceAdd, Int.reduceSub, Int.reduceMul, Int.reduceBEq, Int.reduceBNe, Blk.men, Blk.keysIn, hml, hd, htm, hne, tmod4, tmod3, g0, e0, e1, e2])
    | (exact retS_of rfl rfl rfl)
    | (refine DW.cond_tt rfl ?_)
    | (refine call_c (c63 _ _ _) (by decide) ?_)
    | (refine DW.cond_ff rfl ?_)
    | (refine DW.cond rfl ?_ ?_ <;> intro hc <;> (try simp only [go_sem] at hc))
    | (refine g_split ?_ ?_ <;> intro hc <;> (try simp only [hc]) <;> (try simp only [go_sem] at hc)))
      refine ⟨⟨1, h⟩, ?_, Ent.to ?_ ?_⟩ <;> first | (show _ < _; (try simp only); omega) | (simp (disch := omega) only [wkT_cons, wkX_cons, wkT_nil, wkX_nil, get, Nat.reduceEqDiff, ↓reduceIte, ex_some, wk_self, wk_top, wk_nil, wkB_self, and_self, dI, i64_in, and_true, true_and, Int.natCast_add, Int.natCast_one, Int.ofNat_zero, Int.natCast_zero,  mk46, d8, bxL, bxP])
      all_goals exact .refl _
  | 1, h =>
    simp only [mk46]
    rcases Nat.lt_or_ge 1 m with hm | hm
    · have hd : decide ((1 : Int) < (m : Int)) = true := by rw [decide_eq_true_eq]; omega
      rcases Int.lt_or_le x.c0.noz x.c1.noz with hc | hc
      · have d1 : decide (x.c0.noz < x.c1.noz) = true := by rw [decide_eq_true_eq]; exact hc
        have ht : two x.c0 x.c1 = [x.c0, x.c1] := if_pos hc
        repeat' (first
    | (with_reducible refine DW.seq ?_)
    | (with_reducible refine DW.block ?_)
    | (with_reducible refine DW.skip ?_)
    | (with_reducible refine DW.exit ?_)
    | (with_reducible refine DW.ret ?_)
    | (with_reducible refine DW.reg ?_)
    | (refine DW.dreg rfl (WF.of (by first | rfl | simp (disch := omega) only [go_sem, Nat.reduceLT, Nat.reduceLeDiff, Nat.reduceAdd, Nat.reduceMul, Nat.reduceEqDiff, ↓reduceIte, reduceCtorEq, Nat.reduceBEq, Nat.reduceBNe, Nat.reducePow, Int.reduceLE, Int.reduceLT, Int.reduceNeg, Int.reduceToNat, Int.reduceEq, Int.reduceAdd, Int.reduceSub, Int.reduceMul, Int.reduceBEq, Int.reduceBNe, Blk.men, Blk.keysIn, hml, hd, htm, hne, tmod4, tmod3, g1, e3, e4, e5, d1])) ?_)
    | (simp (disch := omega) only [go_sem, Nat.reduceLT, Nat.reduceLeDiff, Nat.reduceAdd, Nat.reduceMul, Nat.reduceEqDiff, ↓reduceIte, reduceCtorEq, Nat.reduceBEq, Nat.reduceBNe, Nat.reducePow, Int.reduceLE, Int.reduceLT, Int.reduceNeg, Int.reduceToNat, Int.reduceEq, Int.reduceAdd, Int.reduceSub, Int.reduceMul, Int.reduceBEq, Int.reduceBNe, Blk.men, Blk.keysIn, hml, hd, htm, hne, tmod4, tmod3, g1, e3, e4, e5, d1])
    | (exact retS_of rfl rfl rfl)
    | (refine DW.cond_tt rfl ?_)
    | (refine call_c (c63 _ _ _) (by decide) ?_)
    | (refine DW.cond_ff rfl ?_)
    | (refine DW.cond rfl ?_ ?_ <;> intro hc <;> (try simp only [go_sem] at hc))
    | (refine g_split ?_ ?_ <;> intro hc <;> (try simp only [hc]) <;> (try simp only [go_sem] at hc)))
        refine ⟨⟨2, by omega⟩, by (show _ < _; (try simp only); omega), (Ent.rel 10 rfl).trans ?_⟩; simp (disch := omega) only [go_sem, Nat.reduceLT, Nat.reduceLeDiff, Nat.reduceAdd, Nat.reduceMul, Nat.reduceEqDiff, ↓reduceIte, reduceCtorEq, Nat.reduceBEq, Nat.reduceBNe, Nat.reducePow, Int.reduceLE, Int.reduceLT, Int.reduceNeg, Int.reduceToNat, Int.reduceEq, Int.reduceAdd, Int.reduceSub, Int.reduceMul, Int.reduceBEq, Int.reduceBNe, Blk.men, Blk.keysIn,  mk46, ht, d8, bxL, bxP]; refine Ent.to ?_ ?_ <;> (simp (disch := omega) only [wkT_cons, wkX_cons, wkT_nil, wkX_nil, get, Nat.reduceEqDiff, ↓reduceIte, ex_some, wk_self, wk_top, wk_nil, wkB_self, and_self, dI, i64_in, and_true, true_and, Int.natCast_add, Int.natCast_one, Int.ofNat_zero, Int.natCast_zero,  mk46, ht, d8, bxL, bxP])
        all_goals exact .refl _
      · have d1 : decide (x.c0.noz < x.c1.noz) = false := by rw [decide_eq_false_iff_not]; omega
        rcases Int.lt_or_le x.c1.noz x.c0.noz with hc' | hc'
        · have d2 : decide (x.c1.noz < x.c0.noz) = true := by rw [decide_eq_true_eq]; exact hc'
          have ht : two x.c0 x.c1 = [x.c1, x.c0] := by rw [two, if_neg (by omega), if_pos hc']
          repeat' (first
    | (with_reducible refine DW.seq ?_)
    | (with_reducible refine DW.block ?_)
    | (with_reducible refine DW.skip ?_)
    | (with_reducible refine DW.exit ?_)
    | (with_reducible refine DW.ret ?_)
    | (with_reducible refine DW.reg ?_)
    | (refine DW.dreg rfl (WF.of (by first | rfl | simp (disch := omega) only [go_sem, Nat.reduceLT, Nat.reduceLeDiff, Nat.reduceAdd, Nat.reduceMul, Nat.reduceEqDiff, ↓reduceIte, reduceCtorEq, Nat.reduceBEq, Nat.reduceBNe, Nat.reducePow, Int.reduceLE, Int.reduceLT, Int.reduceNeg, Int.reduceToNat, Int.reduceEq, Int.reduceAdd, Int.reduceSub, Int.reduceMul, Int.reduceBEq, Int.reduceBNe, Blk.men, Blk.keysIn, hml, hd, htm, hne, tmod4, tmod3, g1, e3, e4, e5, d1, d2])) ?_)
    | (simp (disch := omega) only [go_sem, Nat.reduceLT, Nat.reduceLeDiff, Nat.reduceAdd, Nat.reduceMul, Nat.reduceEqDiff, ↓reduceIte, reduceCtorEq, Nat.reduceBEq, Nat.reduceBNe, Nat.reducePow, Int.reduceLE, Int.reduceLT, Int.reduceNeg, Int.reduceToNat, Int.reduceEq, Int.reduceAdd, Int.reduceSub, Int.reduceMul, Int.reduceBEq, Int.reduceBNe, Blk.men, Blk.keysIn, hml, hd, htm, hne, tmod4, tmod3, g1, e3, e4, e5, d1, d2])
    | (exact retS_of rfl rfl rfl)
    | (refine DW.cond_tt rfl ?_)
    | (refine call_c (c63 _ _ _) (by decide) ?_)
    | (refine DW.cond_ff rfl ?_)
    | (refine DW.cond rfl ?_ ?_ <;> intro hc <;> (try simp only [go_sem] at hc))
    | (refine g_split ?_ ?_ <;> intro hc <;> (try simp only [hc]) <;> (try simp only [go_sem] at hc)))
          refine ⟨⟨2, by omega⟩, by (show _ < _; (try simp only); omega), (Ent.rel 74 rfl).trans ?_⟩; simp (disch := omega) only [go_sem, Nat.reduceLT, Nat.reduceLeDiff, Nat.reduceAdd, Nat.reduceMul, Nat.reduceEqDiff, ↓reduceIte, reduceCtorEq, Nat.reduceBEq, Nat.reduceBNe, Nat.reducePow, Int.reduceLE, Int.reduceLT, Int.reduceNeg, Int.reduceToNat, Int.reduceEq, Int.reduceAdd, Int.reduceSub, Int.reduceMul, Int.reduceBEq, Int.reduceBNe, Blk.men, Blk.keysIn,  mk46, ht, d8, bxL, bxP]; refine Ent.to ?_ ?_ <;> (simp (disch := omega) only [wkT_cons, wkX_cons, wkT_nil, wkX_nil, get, Nat.reduceEqDiff, ↓reduceIte, ex_some, wk_self, wk_top, wk_nil, wkB_self, and_self, dI, i64_in, and_true, true_and, Int.natCast_add, Int.natCast_one, Int.ofNat_zero, Int.natCast_zero,  mk46, ht, d8, bxL, bxP])
          all_goals exact .refl _
        · have d2 : decide (x.c1.noz < x.c0.noz) = false := by rw [decide_eq_false_iff_not]; omega
          have ht : two x.c0 x.c1 = [x.c0] := by rw [two, if_neg (by omega), if_neg (by omega)]
          repeat' (first
    | (with_reducible refine DW.seq ?_)
    | (with_reducible refine DW.block ?_)
    | (with_reducible refine DW.skip ?_)
    | (with_reducible refine DW.exit ?_)
    | (with_reducible refine DW.ret ?_)
    | (with_reducible refine DW.reg ?_)
    | (refine DW.dreg rfl (WF.of (by first | rfl | simp (disch := omega) only [go_sem, Nat.reduceLT, Nat.reduceLeDiff, Nat.reduceAdd, Nat.reduceMul, Nat.reduceEqDiff, ↓reduceIte, reduceCtorEq, Nat.reduceBEq, Nat.reduceBNe, Nat.reducePow, Int.reduceLE, Int.reduceLT, Int.reduceNeg, Int.reduceToNat, Int.reduceEq, Int.reduceAdd, Int.reduceSub, Int.reduceMul, Int.reduceBEq, Int.reduceBNe, Blk.men, Blk.keysIn, hml, hd, htm, hne, tmod4, tmod3, g1, e3, e4, e5, d1, d2])) ?_)
    | (simp (disch := omega) only [go_sem, Nat.reduceLT, Nat.reduceLeDiff, Nat.reduceAdd, Nat.reduceMul, Nat.reduceEqDiff, ↓reduceIte, reduceCtorEq, Nat.reduceBEq, Nat.reduceBNe, Nat.reducePow, Int.reduceLE, Int.reduceLT, Int.reduceNeg, Int.reduceToNat, Int.reduceEq, Int.reduceAdd, Int.reduceSub, Int.reduceMul, Int.reduceBEq, Int.reduceBNe, Blk.men, Blk.keysIn, hml, hd, htm, hne, tmod4, tmod3, g1, e3, e4, e5, d1, d2])
    | (exact retS_of rfl rfl rfl)
    | (refine DW.cond_tt rfl ?_)
    | (refine call_c (c63 _ _ _) (by decide) ?_)
    | (refine DW.cond_ff rfl ?_)
    | (refine DW.cond rfl ?_ ?_ <;> intro hc <;> (try simp only [go_sem] at hc))
    | (refine g_split ?_ ?_ <;> intro hc <;> (try simp only [hc]) <;> (try simp only [go_sem] at hc)))
          refine ⟨⟨2, by omega⟩, by (show _ < _; (try simp only); omega), (Ent.rel 10 rfl).trans ?_⟩; simp (disch := omega) only [go_sem, Nat.reduceLT, Nat.reduceLeDiff, Nat.reduceAdd, Nat.reduceMul, Nat.reduceEqDiff, ↓reduceIte, reduceCtorEq, Nat.reduceBEq, Nat.reduceBNe, Nat.reducePow, Int.reduceLE, Int.reduceLT, Int.reduceNeg, Int.reduceToNat, Int.reduceEq, Int.reduceAdd, Int.reduceSub, Int.reduceMul, Int.reduceBEq, Int.reduceBNe, Blk.men, Blk.keysIn,  mk46, ht, d8, bxL, bxP]; refine Ent.to ?_ ?_ <;> (simp (disch := omega) only [wkT_cons, wkX_cons, wkT_nil, wkX_nil, get, Nat.reduceEqDiff, ↓reduceIte, ex_some, wk_self, wk_top, wk_nil, wkB_self, and_self, dI, i64_in, and_true, true_and, Int.natCast_add, Int.natCast_one, Int.ofNat_zero, Int.natCast_zero,  mk46, ht, d8, bxL, bxP])
          all_goals exact .refl _
    · obtain rfl : m = 1 := by omega
      repeat' (first
    | (with_reducible refine DW.seq ?_)
    | (with_reducible refine DW.block ?_)
    | (with_reducible refine DW.skip ?_)
    | (with_reducible refine DW.exit ?_)
    | (with_reducible refine DW.ret ?_)
    | (with_reducible refine DW.reg ?_)
    | (refine DW.dreg rfl (WF.of (by first | rfl | simp (disch := omega) only [go_sem, Nat.reduceLT, Nat.reduceLeDiff, Nat.reduceAdd, Nat.reduceMul, Nat.reduceEqDiff, ↓reduceIte, reduceCtorEq, Nat.reduceBEq, Nat.reduceBNe, Nat.reducePow, Int.reduceLE, Int.reduceLT, Int.reduceNeg, Int.reduceToNat, Int.reduceEq, Int.reduceAdd, Int.reduceSub, Int.reduceMul, Int.reduceBEq, Int.reduceBNe, Blk.men, Blk.keysIn, hml])) ?_)
    | (simp (disch := omega) only [go_sem, Nat.reduceLT, Nat.reduceLeDiff, Nat.reduceAdd, Nat.reduceMul, Nat.reduceEqDiff, ↓reduceIte, reduceCtorEq, Nat.reduceBEq, Nat.reduceBNe, Nat.reducePow, Int.reduceLE, Int.reduceLT, Int.reduceNeg, Int.reduceToNat, Int.reduceEq, Int.reduceAdd, Int.reduceSub, Int.reduceMul, Int.reduceBEq, Int.reduceBNe, Blk.men, Blk.keysIn, hml])
    | (exact retS_of rfl rfl rfl)
    | (refine DW.cond_tt rfl ?_)
    | (refine DW.cond_ff rfl ?_)
    | (refine DW.cond rfl ?_ ?_ <;> intro hc <;> (try simp only [go_sem] at hc))
    | (refine g_split ?_ ?_ <;> intro hc <;> (try simp only [hc]) <;> (try simp only [go_sem] at hc)))
      (refine retS_ent (Ent.rel 10 rfl) ?_; simp (disch := omega) only [go_sem, Nat.reduceLT, Nat.reduceLeDiff, Nat.reduceAdd, Nat.reduceMul, Nat.reduceEqDiff, ↓reduceIte, reduceCtorEq, Nat.reduceBEq, Nat.reduceBNe, Nat.reducePow, Int.reduceLE, Int.reduceLT, Int.reduceNeg, Int.reduceToNat, Int.reduceEq, Int.reduceAdd, Int.reduceSub, Int.reduceMul, Int.reduceBEq, Int.reduceBNe, Blk.men, Blk.keysIn])
      refine retS_wk rfl ?_ (by simp only [Blk.nb, rowC_nb, D.nb, D.nbs, C.nb, C.nbs, C.nbss, rows_nb eI_nb, rows_nb eC_nb, rows_nb eL_nb, rows_nb eR_nb, rows_nb eS_nb, rows_nb eG_nb, Bool.and_true, Bool.not_false, Bool.and_self, bD, dI, iD]); exact .refl _
  | 2, h =>
    obtain rfl : m = 2 := by omega
    simp only [mk46]
    repeat' (first
    | (with_reducible refine DW.seq ?_)
    | (with_reducible refine DW.block ?_)
    | (with_reducible refine DW.skip ?_)
    | (with_reducible refine DW.exit ?_)
    | (with_reducible refine DW.ret ?_)
    | (with_reducible refine DW.reg ?_)
    | (refine DW.dreg rfl (WF.of (by first | rfl | simp (disch := omega) only [go_sem, Nat.reduceLT, Nat.reduceLeDiff, Nat.reduceAdd, Nat.reduceMul, Nat.reduceEqDiff, ↓reduceIte, reduceCtorEq, Nat.reduceBEq, Nat.reduceBNe, Nat.reducePow, Int.reduceLE, Int.reduceLT, Int.reduceNeg, Int.reduceToNat, Int.reduceEq, Int.reduceAdd, Int.reduceSub, Int.reduceMul, Int.reduceBEq, Int.reduceBNe, Blk.men, Blk.keysIn, hml])) ?_)
    | (simp (disch := omega) only [go_sem, Nat.reduceLT, Nat.reduceLeDiff, Nat.reduceAdd, Nat.reduceMul, Nat.reduceEqDiff, ↓reduceIte, reduceCtorEq, Nat.reduceBEq, Nat.reduceBNe, Nat.reducePow, Int.reduceLE, Int.reduceLT, Int.reduceNeg, Int.reduceToNat, Int.reduceEq, Int.reduceAdd, Int.reduceSub, Int.reduceMul, Int.reduceBEq, Int.reduceBNe, Blk.men, Blk.keysIn, hml])
    | (exact retS_of rfl rfl rfl)
    | (refine DW.cond_tt rfl ?_)
    | (refine DW.cond_ff rfl ?_)
    | (refine DW.cond rfl ?_ ?_ <;> intro hc <;> (try simp only [go_sem] at hc))
    | (refine g_split ?_ ?_ <;> intro hc <;> (try simp only [hc]) <;> (try simp only [go_sem] at hc)))
    refine retS_wk rfl ?_ (by simp only [Blk.nb, rowC_nb, D.nb, D.nbs, C.nb, C.nbs, C.nbss, rows_nb eI_nb, rows_nb eC_nb, rows_nb eL_nb, rows_nb eR_nb, rows_nb eS_nb, rows_nb eG_nb, Bool.and_true, Bool.not_false, Bool.and_self, bD, dI, iD]); exact .refl _
  | i + 3, h => exact absurd h (by omega)
end Go.Dw.Seat
end
section
set_option linter.unusedSimpArgs false
set_option maxRecDepth 100000
namespace Go.Dw.Seat
open Go Go.Dw Go.Proofs Go.IntWalk
def eV (v : B3) : List C := [.v (.int .u8 v.v0), .v (.int .u8 v.v1), .v (.int .u8 v.v2)]
attribute [go_sem] eV
abbrev dV (b : Bool) (l : List B3) : D := .c (.sl b 3 (rows eV l))
attribute [go_sem] dV
theorem c47 (b b' b2 : Bool) (x : Line) (s : List Cause) (by' : List B3) (hs : s.length ≤ 2 ^ 36) (hb : ∀ v ∈ by', v.ok) :
    DCall Try.prog 47 [dP b (planN x), dCs b' s, dV b2 by'] [] (dLs false (seenN x s by')) [] := by
  have hln := nozP_len x
  have hst := x.st_in
  have htm : ∀ v : Nat, (v : Int).tmod ((nozP x).length : Int) = ((v % (nozP x).length : Nat) : Int) := fun v => tmod_nat v _
  have htm2 : ∀ v : Nat, (v : Int).tmod (x.st : Int) = ((v % x.st : Nat) : Int) := fun v => tmod_nat v _
  have hne : (((nozP x).length : Int) = 0) = False := eq_false (by omega)
  have hne2 : ((x.st : Int) = 0) = False := eq_false (by omega)
  refine DCall.of Try.func47 sf47 hb47 (Nat.le_of_ble_eq_true rfl) (okRes_nil fun _ => rfl) ?_; simp only [s47, idxs, Nat.reduceAdd]
  repeat' (first
    | (with_reducible refine DW.seq ?_)
    | (with_reducible refine DW.block ?_)
    | (with_reducible refine DW.skip ?_)
    | (with_reducible refine DW.exit ?_)
    | (with_reducible refine DW.ret ?_)
    | (with_reducible refine DW.reg ?_)
    | (refine DW.dreg rfl (WF.of (by first | rfl | simp (disch := omega) only [go_sem, Nat.reduceLT, Nat.reduceLeDiff, Nat.reduceAdd, Nat.reduceMul, Nat.reduceEqDiff, ↓reduceIte, reduceCtorEq, Nat.reduceBEq, Nat.reduceBNe, Nat.reducePow, Int.reduceLE, Int.reduceLT, Int.reduceNeg, Int.reduceToNat, Int.reduceEq, Int.reduceAdd, Int.reduceSub, Int.reduceMul, Int.reduceBEq, Int.reduceBNe, Blk.men, Blk.keysIn])) ?_)
    | (simp (disch := omega) only [go_sem, Nat.reduceLT, Nat.reduceLeDiff, Nat.reduceAdd, Nat.reduceMul, Nat.reduceEqDiff, ↓reduceIte, reduceCtorEq, Nat.reduceBEq, Nat.reduceBNe, Nat.reducePow, Int.reduceLE, Int.reduceLT, Int.reduceNeg, Int.reduceToNat, Int.reduceEq, Int.reduceAdd, Int.reduceSub, Int.reduceMul, Int.reduceBEq, Int.reduceBNe, Blk.men, Blk.keysIn])
    | (exact retS_of rfl rfl rfl)
    | (refine DW.cond_tt rfl ?_)
    | (refine DW.cond_ff rfl ?_)
    | (refine DW.cond rfl ?_ ?_ <;> intro hc <;> (try simp only [go_sem] at hc))
    | (refine g_split ?_ ?_ <;> intro hc <;> (try simp only [hc]) <;> (try simp only [go_sem] at hc)))
  refine DW.loop (ι := { i : Nat // i ≤ by'.length ∧ i ≤ 30 }) (fun i => ⟨63, [(8, dI i.1), (7, .own 12), (3, .box 3 0), (2, dV b2 by'), (1, dCs b' s)], [(12, .row 4 (rowC (rows eL ((by'.take i.1).map (placeN x s))))), (3, bxP b x)]⟩) (fun i => 30 - i.1) ⟨0, Nat.zero_le _, by decide⟩ ?_ ?_
  · refine Ent.to ?_ ?_ <;> simp (disch := omega) only [wkT_cons, wkX_cons, wkT_nil, wkX_nil, get, Nat.reduceEqDiff, ↓reduceIte, ex_some, wk_self, wk_top, wk_nil, wkB_self, and_self, dI, i64_in, and_true, true_and, Int.natCast_add, Int.natCast_one, Int.ofNat_zero, Int.natCast_zero, List.take_zero, List.map_nil, bxP]
    all_goals exact .refl _
  rintro ⟨i, hi, hi30⟩
  have hlen : ((by'.take i).map (placeN x s)).length ≤ 30 := by rw [List.length_map, List.length_take]; omega
  rcases at_or by' i hi with ⟨v, hv, hlt, hd⟩ | ⟨hend, hd⟩
  · rcases Nat.lt_or_ge i 30 with h30 | h30
    · have hd3 : decide ((i : Int) < 30) = true := by rw [decide_eq_true_eq]; omega
      have hv0 := (hb v (List.mem_of_getElem? hv)).v0
      have hv1 := (hb v (List.mem_of_getElem? hv)).v1
      have hv2 := (hb v (List.mem_of_getElem? hv)).v2
      have p0 : v.v0 % 12 < 12 := Nat.mod_lt _ (by decide)
      have p1 : v.v1 % (nozP x).length < (nozP x).length := Nat.mod_lt _ hln.1
      have p2 : v.v2 % x.st < x.st := Nat.mod_lt _ (by omega)
      obtain ⟨u, hu⟩ := getE p1
      have hu16 := nozP_16 x u (List.mem_of_getElem? hu)
      have hpl : placeN x s v = ⟨((v.v0 % 12 : Nat) : Int), ((v.v1 % (nozP x).length : Nat) : Int), ((v.v2 % x.st : Nat) : Int), givesL x.st u s ((v.v0 % 12 : Nat) : Int) (v.v1 % (nozP x).length) ((v.v2 % x.st : Nat) : Int)⟩ := by
        simp only [placeN, List.getD, hu, Option.getD_some]
      have hmt := map_take (f := placeN x s) hv
      rw [hpl] at hmt
      have h53 := c53 b b' x.st (nozP x) s ((v.v0 % 12 : Nat) : Int) (v.v1 % (nozP x).length) u ((v.v2 % x.st : Nat) : Int) (by omega) hu hu16 hs (by omega)
      generalize (by'.take i).map (placeN x s) = a at *
      repeat' (first
    | (with_reducible refine DW.seq ?_)
    | (with_reducible refine DW.block ?_)
    | (with_reducible refine DW.skip ?_)
    | (with_reducible refine DW.exit ?_)
    | (with_reducible refine DW.ret ?_)
    | (with_reducible refine DW.reg ?_)
    | (refine DW.dreg rfl (WF.of (by first | rfl | simp (disch := omega) only [go_sem, Nat.reduceLT, Nat.reduceLeDiff, Nat.reduceAdd, Nat.reduceMul, Nat.reduceEqDiff, ↓reduceIte, reduceCtorEq, Nat.reduceBEq, Nat.reduceBNe, Nat.reducePow, Int.reduceLE, Int.reduceLT, Int.reduceNeg, Int.reduceToNat, Int.reduceEq, Int.reduceAdd, Int.reduceSub, Int.reduceMul, Int.reduceBEq, Int.reduceBNe, Blk.men, Blk.keysIn, hd, hd3, hv, htm, htm2, hne, hne2, tmod12])) ?_)
    | (simp (disch := omega) only [go_sem, Nat.reduceLT, Nat.reduceLeDiff, Nat.reduceAdd, Nat.reduceMul, Nat.reduceEqDiff, ↓reduceIte, reduceCtorEq, Nat.reduceBEq, Nat.reduceBNe, Nat.reducePow, Int.reduceLE, Int.reduceLT, Int.reduceNeg, Int.reduceToNat, Int.reduceEq, Int.reduceAdd, Int.reduceSub, Int.reduceMul, Int.reduceBEq, Int.reduceBNe, Blk.men, Blk.keysIn, hd, hd3, hv, htm, htm2, hne, hne2, tmod12])
    | (exact retS_of rfl rfl rfl)
    | (refine DW.cond_tt rfl ?_)
    | (refine call_c (h53) (by decide) ?_)
    | (refine call_c (c54 _ _ _ _) (by decide) ?_)
    | (refine DW.cond_ff rfl ?_)
    | (refine DW.cond rfl ?_ ?_ <;> intro hc <;> (try simp only [go_sem] at hc))
    | (refine g_split ?_ ?_ <;> intro hc <;> (try simp only [hc]) <;> (try simp only [go_sem] at hc)))
      refine ⟨⟨i + 1, hlt, by omega⟩, ?_, Ent.to ?_ ?_⟩ <;> first | (show _ < _; (try simp only); omega) | (simp (disch := omega) only [wkT_cons, wkX_cons, wkT_nil, wkX_nil, get, Nat.reduceEqDiff, ↓reduceIte, ex_some, wk_self, wk_top, wk_nil, wkB_self, and_self, dI, i64_in, and_true, true_and, Int.natCast_add, Int.natCast_one, Int.ofNat_zero, Int.natCast_zero,  hmt, bxP])
      all_goals exact .refl _
    · have hd3 : decide ((i : Int) < 30) = false := by rw [decide_eq_false_iff_not]; omega
      obtain rfl : i = 30 := by omega
      unfold seenN
      generalize (by'.take 30).map (placeN x s) = a at *
      have hd' : decide ((30 : Int) < (by'.length : Int)) = true := hd
      repeat' (first
    | (with_reducible refine DW.seq ?_)
    | (with_reducible refine DW.block ?_)
    | (with_reducible refine DW.skip ?_)
    | (with_reducible refine DW.exit ?_)
    | (with_reducible refine DW.ret ?_)
    | (with_reducible refine DW.reg ?_)
    | (refine DW.dreg rfl (WF.of (by first | rfl | simp (disch := omega) only [go_sem, Nat.reduceLT, Nat.reduceLeDiff, Nat.reduceAdd, Nat.reduceMul, Nat.reduceEqDiff, ↓reduceIte, reduceCtorEq, Nat.reduceBEq, Nat.reduceBNe, Nat.reducePow, Int.reduceLE, Int.reduceLT, Int.reduceNeg, Int.reduceToNat, Int.reduceEq, Int.reduceAdd, Int.reduceSub, Int.reduceMul, Int.reduceBEq, Int.reduceBNe, Blk.men, Blk.keysIn, hd'])) ?_)
    | (simp (disch := omega) only [go_sem, Nat.reduceLT, Nat.reduceLeDiff, Nat.reduceAdd, Nat.reduceMul, Nat.reduceEqDiff, ↓reduceIte, reduceCtorEq, Nat.reduceBEq, Nat.reduceBNe, Nat.reducePow, Int.reduceLE, Int.reduceLT, Int.reduceNeg, Int.reduceToNat, Int.reduceEq, Int.reduceAdd, Int.reduceSub, Int.reduceMul, Int.reduceBEq, Int.reduceBNe, Blk.men, Blk.keysIn, hd'])
    | (exact retS_of rfl rfl rfl)
    | (refine DW.cond_tt rfl ?_)
    | (refine DW.cond_ff rfl ?_)
    | (refine DW.cond rfl ?_ ?_ <;> intro hc <;> (try simp only [go_sem] at hc))
    | (refine g_split ?_ ?_ <;> intro hc <;> (try simp only [hc]) <;> (try simp only [go_sem] at hc)))
      (refine retS_ent (Ent.rel 12 rfl) ?_; simp (disch := omega) only [go_sem, Nat.reduceLT, Nat.reduceLeDiff, Nat.reduceAdd, Nat.reduceMul, Nat.reduceEqDiff, ↓reduceIte, reduceCtorEq, Nat.reduceBEq, Nat.reduceBNe, Nat.reducePow, Int.reduceLE, Int.reduceLT, Int.reduceNeg, Int.reduceToNat, Int.reduceEq, Int.reduceAdd, Int.reduceSub, Int.reduceMul, Int.reduceBEq, Int.reduceBNe, Blk.men, Blk.keysIn])
      refine retS_wk rfl ?_ (by simp only [Blk.nb, rowC_nb, D.nb, D.nbs, C.nb, C.nbs, C.nbss, rows_nb eI_nb, rows_nb eC_nb, rows_nb eL_nb, rows_nb eR_nb, rows_nb eS_nb, rows_nb eG_nb, Bool.and_true, Bool.not_false, Bool.and_self, bD, dI, iD]); exact .refl _
  · have hs : seenN x s by' = (by'.take i).map (placeN x s) := by
      rw [seenN, List.take_of_length_le (by omega : by'.length ≤ 30), List.take_of_length_le (by omega : by'.length ≤ i)]
    rw [hs]
    generalize (by'.take i).map (placeN x s) = a at *
    repeat' (first
    | (with_reducible refine DW.seq ?_)
    | (with_reducible refine DW.block ?_)
    | (with_reducible refine DW.skip ?_)
    | (with_reducible refine DW.exit ?_)
    | (with_reducible refine DW.ret ?_)
    | (with_reducible refine DW.reg ?_)
    | (refine DW.dreg rfl (WF.of (by first | rfl | simp (disch := omega) only [go_sem, Nat.reduceLT, Nat.reduceLeDiff, Nat.reduceAdd, Nat.reduceMul, Nat.reduceEqDiff, ↓reduceIte, reduceCtorEq, Nat.reduceBEq, Nat.reduceBNe, Nat.reducePow, Int.reduceLE, Int.reduceLT, Int.reduceNeg, Int.reduceToNat, Int.reduceEq, Int.reduceAdd, Int.reduceSub, Int.reduceMul, Int.reduceBEq, Int.reduceBNe, Blk.men, Blk.keysIn, hd])) ?_)
    | (simp (disch := omega) only [go_sem, Nat.reduceLT, Nat.reduceLeDiff, Nat.reduceAdd, Nat.reduceMul, Nat.reduceEqDiff, ↓reduceIte, reduceCtorEq, Nat.reduceBEq, Nat.reduceBNe, Nat.reducePow, Int.reduceLE, Int.reduceLT, Int.reduceNeg, Int.reduceToNat, Int.reduceEq, Int.reduceAdd, Int.reduceSub, Int.reduceMul, Int.reduceBEq, Int.reduceBNe, Blk.men, Blk.keysIn, hd])
    | (exact retS_of rfl rfl rfl)
    | (refine DW.cond_tt rfl ?_)
    | (refine DW.cond_ff rfl ?_)
    | (refine DW.cond rfl ?_ ?_ <;> intro hc <;> (try simp only [go_sem] at hc))
    | (refine g_split ?_ ?_ <;> intro hc <;> (try simp only [hc]) <;> (try simp only [go_sem] at hc)))
    (refine retS_ent (Ent.rel 12 rfl) ?_; simp (disch := omega) only [go_sem, Nat.reduceLT, Nat.reduceLeDiff, Nat.reduceAdd, Nat.reduceMul, Nat.reduceEqDiff, ↓reduceIte, reduceCtorEq, Nat.reduceBEq, Nat.reduceBNe, Nat.reducePow, Int.reduceLE, Int.reduceLT, Int.reduceNeg, Int.reduceToNat, Int.reduceEq, Int.reduceAdd, Int.reduceSub, Int.reduceMul, Int.reduceBEq, Int.reduceBNe, Blk.men, Blk.keysIn])
    refine retS_wk rfl ?_ (by simp only [Blk.nb, rowC_nb, D.nb, D.nbs, C.nb, C.nbs, C.nbss, rows_nb eI_nb, rows_nb eC_nb, rows_nb eL_nb, rows_nb eR_nb, rows_nb eS_nb, rows_nb eG_nb, Bool.and_true, Bool.not_false, Bool.and_self, bD, dI, iD]); exact .refl _
end Go.Dw.Seat
end
section
set_option linter.unusedSimpArgs false
namespace Go.Dw.Seat
open Go Go.Dw
theorem states_len_asc (all : List Cause) : (statesOf all).Pairwise (fun a b => a.length ≤ b.length) := by
  have hp : ∀ s ∈ pairsTo all all.length, s.length = 2 := fun s hs => by
    obtain ⟨a, b, rfl, _⟩ := mem_pairsTo hs; rfl
  have hq : ∀ s ∈ all.map (fun c => [c]), s.length = 1 := fun s hs => by
    obtain ⟨a, _, rfl⟩ := List.mem_map.1 hs; rfl
  simp only [statesOf, List.cons_append]
  refine List.pairwise_cons.2 ⟨fun s _ => Nat.zero_le _, List.pairwise_append.2 ⟨?_, ?_, ?_⟩⟩
  · rw [List.pairwise_iff_forall_sublist]
    intro a b h
    rw [hq a (h.subset (by simp)), hq b (h.subset (by simp))]; exact Nat.le_refl _
  · rw [List.pairwise_iff_forall_sublist]
    intro a b h
    rw [hp a (h.subset (by simp)), hp b (h.subset (by simp))]; exact Nat.le_refl _
  · intro a ha b hb
    rw [hq a ha, hp b hb]; decide
theorem head_le {α : Type} {r : α → α → Prop} (hr : ∀ a, r a a) {l : List α} (hp : l.Pairwise r) {d a : α} (ha : a ∈ l) : r (l.headD d) a := by
  cases l with
  | nil => cases ha
  | cons b l =>
    rw [List.pairwise_cons] at hp
    rcases List.mem_cons.1 ha with rfl | h
    · exact hr a
    · exact hp.1 a h
theorem head_mem {α : Type} {l : List α} {d a : α} (ha : a ∈ l) : l.headD d ∈ l := by
  cases l with
  | nil => cases ha
  | cons b l => simp
theorem lineX_sub (x : Line) (looks : List Look) : (lineX x looks).Sublist (statesOf (causesN (nozP x).length (nL (fromsN x)))) := by
  rw [lineX, explX, nL_length]; exact List.filter_sublist
theorem lineX_min {x : Line} {looks : List Look} {s : List Cause} (hs : s ∈ lineX x looks) : ((lineX x looks).headD []).length ≤ s.length :=
  head_le (r := fun a b : List Cause => a.length ≤ b.length) (fun _ => Nat.le_refl _) ((states_len_asc _).sublist (lineX_sub x looks)) hs
theorem states_right {n : Nat} {froms : List Int} {s : List Cause} (h : s ∈ statesOf (causesN n froms)) : rightP n s := by
  have hr : ∀ c ∈ causesN n froms, rightC n c := fun c hc => ⟨(mem_causesN hc).1, (mem_causesN hc).2.1⟩
  rcases mem_statesOf h with rfl | ⟨a, ha, rfl⟩ | ⟨a, b, rfl, ha, hb, hlt⟩
  · exact ⟨by simp, by simp, by simp⟩
  · exact ⟨by simpa using hr a ha, fun j u c h1 h2 => by simp at h2, by simp⟩
  · refine ⟨by simpa using ⟨hr a ha, hr b hb⟩, fun j u c h1 h2 => ?_, by simp⟩
    match j with
    | 0 => simp at h1 h2; subst h1; subst h2; exact hlt
    | j + 1 => simp at h2
theorem surely_asc (n : Nat) (ss : List (List Cause)) : (surelyN n ss).Pairwise (· < ·) := List.Pairwise.sublist List.filter_sublist List.pairwise_lt_range
theorem surely_mem {n z : Nat} {ss : List (List Cause)} (hz : z ∈ surelyN n ss) {s : List Cause} (hs : s ∈ ss) : s.any (fun c => c.noz == (z : Int)) = true := by
  have := List.all_eq_true.1 (List.mem_filter.1 hz).2 s hs
  simpa [wrongN] using this
theorem lineX_add (x : Line) {looks : List Look} (hok : ∀ l ∈ looks, lookOkI (planN x) l = true) {o : Look} (ho : lookOkI (planN x) o = true) : lineX x (looks ++ [o]) = (lineX x looks).filter (fun s => fitsL x.st (nozP x) s o) := by
  have hok' : ∀ l ∈ looks ++ [o], lookOkI (planN x) l = true := fun l hl => by
    rcases List.mem_append.1 hl with h | h
    · exact hok l h
    · rw [List.mem_singleton.1 h]; exact ho
  rw [lineX, lineX, planN, explX_eq (nozP_lt x) hok', explX_eq (nozP_lt x) hok, stR, stR, List.filter_filter, states_eq]
  refine List.filter_congr (fun s hs => ?_)
  rw [explN, explN, List.all_append, fitsL_eq (states_pair hs)]
  simp [Bool.and_comm]
theorem truth_in (x : Line) (by' : List B3) : truthN x ∈ lineX x (seenN x (truthN x) by') :=
  (mem_lineX seen_ok).2 ⟨truthN_mem x, seen_fits⟩
theorem truth_in2 (x : Line) (by' : List B3) (o : B3) : truthN x ∈ lineX x (seenN x (truthN x) by' ++ [placeN x (truthN x) o]) := by
  rw [lineX_add x seen_ok (place_ok x _ o)]
  exact List.mem_filter.2 ⟨truth_in x by', place_fits x _ o⟩
theorem app_ok {x : Line} {looks : List Look} (hok : ∀ l ∈ looks, lookOkI (planN x) l = true) {o : Look} (ho : lookOkI (planN x) o = true) : ∀ l ∈ looks ++ [o], lookOkI (planN x) l = true := fun l hl => by
  rcases List.mem_append.1 hl with h | h
  · exact hok l h
  · rw [List.mem_singleton.1 h]; exact ho
theorem len_pos {α : Type} {l : List α} {a : α} (h : a ∈ l) : 1 ≤ l.length := List.length_pos_iff.2 (List.ne_nil_of_mem h)
theorem exErr_one (x : Line) {looks : List Look} (hl : looks.length ≤ 40) (hok : ∀ l ∈ looks, lookOkI (planN x) l = true) {s : List Cause} (hs : s ∈ lineX x looks) : exErr (planN x) (nL (fromsN x)) looks = 0 := by
  rw [exErr_line x hl hok, if_neg (by have := len_pos hs; omega)]
theorem truthN_len (x : Line) : (truthN x).length ≤ 2 := (valid_statesOf (truthN_mem x)).1
theorem ok_looksOk {x : Line} {looks : List Look} (hok : ∀ l ∈ looks, lookOkI (planN x) l = true) : looksOk x.st (nozP x) looks := by
  intro l hl
  have := hok l hl
  simp only [lookOkI, planN, Bool.and_eq_true, wthn_iff1, nL_length] at this
  omega
end Go.Dw.Seat
end
section
set_option linter.unusedSimpArgs false
set_option maxRecDepth 100000
namespace Go.Dw.Seat
open Go Go.Dw Go.Proofs Go.IntWalk
theorem c48o (b : Bool) (l : List Look) (hl : l.length ≤ 2 ^ 36) (k : Nat) : DCall Try.prog 48 [dLs b l] [] (.own k) [(k, .row 4 (rowC (rows eL l)))] := by
  refine DCall.rename (k0 := 3) ?_ k
  refine DCall.of Try.func48 sf48 hb48 (Nat.le_of_ble_eq_true rfl) okRes_row ?_; simp only [s48, idxs, Nat.reduceAdd]
  repeat' (first
    | (with_reducible refine DW.seq ?_)
    | (with_reducible refine DW.block ?_)
    | (with_reducible refine DW.skip ?_)
    | (with_reducible refine DW.exit ?_)
    | (with_reducible refine DW.ret ?_)
    | (with_reducible refine DW.reg ?_)
    | (simp (disch := omega) only [go_sem, Nat.reduceLT, Nat.reduceLeDiff, Nat.reduceAdd, Nat.reduceMul, Nat.reduceEqDiff, ↓reduceIte, reduceCtorEq, Nat.reduceBEq, Nat.reduceBNe, Nat.reducePow, Int.reduceLE, Int.reduceLT, Int.reduceNeg, Int.reduceToNat, Int.reduceEq, Int.reduceAdd, Int.reduceSub, Int.reduceMul, Int.reduceBEq, Int.reduceBNe, Blk.men, Blk.keysIn])
    | (exact retS_of rfl rfl rfl)
    | (refine DW.cond_tt rfl ?_)
    | (refine DW.cond_ff rfl ?_)
    | (refine DW.cond rfl ?_ ?_ <;> intro hc <;> (try simp only [go_sem] at hc))
    | (refine g_split ?_ ?_ <;> intro hc <;> (try simp only [hc]) <;> (try simp only [go_sem] at hc)))
  refine retS_row ?_ ?_ (rowC_nb (rows_nb eL_nb l)) <;> rfl
open Classical in
theorem c8 (b b1 : Bool) (x : Line) (by' : List B3) (more : B3) (hx : x.ok) (hb : ∀ v ∈ by', v.ok) (hm : more.ok) :
    DCall Try.prog 8 [dL b x, dV b1 by', .agg [d8 more.v0, d8 more.v1, d8 more.v2]] [] (bD true) [] := by
  have hln := nozP_len x
  have hst := x.st_in
  have hpl : (nL (nozP x)).length ≤ 2 ^ 36 := by rw [nL_length]; omega
  have hfl : (nL (fromsN x)).length ≤ 2 ^ 36 := by simp [fromsN, nL]
  have hsl := truthN_len x
  have hss : (truthN x).length ≤ 2 ^ 36 := by omega
  have hll := seen_len x (truthN x) by'
  have hls : (seenN x (truthN x) by').length ≤ 2 ^ 36 := by omega
  have hok := seen_ok (x := x) (s := truthN x) (by' := by')
  have hin := truth_in x by'
  have h18 := c18 false false (planN x) (nL (fromsN x)) (seenN x (truthN x) by') hpl hfl hls
  have h19 := c19 false false (planN x) (nL (fromsN x)) (seenN x (truthN x) by') hpl hfl hls
  rw [exErr_one x (by omega) hok hin, exOut_line x (by omega) hok] at h18
  rw [exErr_one x (by omega) hok hin, sureOut, exErr_one x (by omega) hok hin, if_pos rfl, exOut_line x (by omega) hok] at h19
  have hmin := lineX_min hin
  have hfm := head_mem (d := []) hin
  have hfs := (mem_lineX hok).1 hfm
  have hright := states_right hfs.1
  have hfit : (seenN x (truthN x) by').all (fitsL x.st (nozP x) ((lineX x (seenN x (truthN x) by')).headD [])) = true := List.all_eq_true.2 hfs.2
  have hsa := surely_asc (planN x).noz.length (lineX x (seenN x (truthN x) by'))
  have hsm := fun z (hz : z ∈ surelyN (planN x).noz.length (lineX x (seenN x (truthN x) by'))) => surely_mem hz hin
  have hslen := surely_len (lineX x (seenN x (truthN x) by')) (planN x).noz.length
  have hpos := len_pos hin
  have h49 := c49 false false (planN x) ((lineX x (seenN x (truthN x) by')).headD []) hpl (by omega)
  have h50 := c50 false false false x.st (nozP x) ((lineX x (seenN x (truthN x) by')).headD []) (seenN x (truthN x) by') (by omega) (nozP_16 x) (by omega) hls (ok_looksOk hok)
  rw [hfit] at h50
  rw [decide_eq_true (by rw [nL_length]; exact hright)] at h49
  have hin2 := truth_in2 x by' more
  have hok2 := app_ok hok (place_ok x (truthN x) more)
  have hl2 : (seenN x (truthN x) by' ++ [placeN x (truthN x) more]).length ≤ 40 := by rw [List.length_append, List.length_singleton]; omega
  have h18b := c18 false true (planN x) (nL (fromsN x)) (seenN x (truthN x) by' ++ [placeN x (truthN x) more]) hpl hfl (by omega)
  rw [exErr_one x hl2 hok2 hin2, exOut_line x hl2 hok2] at h18b
  have hpos2 := len_pos hin2
  have hle : (lineX x (seenN x (truthN x) by' ++ [placeN x (truthN x) more])).length ≤ (lineX x (seenN x (truthN x) by')).length := by
    rw [lineX_add x hok (place_ok x _ more)]; exact List.length_filter_le _ _
  have h47b := c47 false false true x (truthN x) [more] hss (by simpa using hm)
  have hone : seenN x (truthN x) [more] = [placeN x (truthN x) more] := rfl
  rw [hone] at h47b
  have hb44 := c44 b x hx
  have hb46 := c46 b false x hx
  have hb47 := c47 false false b1 x (truthN x) by' hss hb
  generalize lineX x (seenN x (truthN x) by' ++ [placeN x (truthN x) more]) = X2 at *
  generalize lineX x (seenN x (truthN x) by') = X at *
  generalize placeN x (truthN x) more = o at *
  generalize hgl : seenN x (truthN x) by' = looks at *
  generalize truthN x = s at *
  generalize X.headD [] = first at *
  generalize surelyN (planN x).noz.length X = sur at *
  generalize X.length = m at *
  generalize X2.length = m2 at *
  have hsl4 : sur.length ≤ 4 := by have := hslen; rw [nL_length] at this; omega
  have d1 : decide ((m : Int) < 1) = false := by rw [decide_eq_false_iff_not]; omega
  have d2 : decide ((s.length : Int) < (first.length : Int)) = false := by rw [decide_eq_false_iff_not]; omega
  refine DCall.of Try.func8 sf8 hb8 (Nat.le_of_ble_eq_true rfl) (okRes_nil fun _ => rfl) ?_; simp only [s8, idxs, Nat.reduceAdd]
  repeat' (first
    | (with_reducible refine DW.seq ?_)
    | (with_reducible refine DW.block ?_)
    | (with_reducible refine DW.skip ?_)
    | (with_reducible refine DW.exit ?_)
    | (with_reducible refine DW.ret ?_)
    | (with_reducible refine DW.reg ?_)
    | (refine DW.dreg rfl (WF.of (by first | rfl | simp (disch := omega) only [go_sem, Nat.reduceLT, Nat.reduceLeDiff, Nat.reduceAdd, Nat.reduceMul, Nat.reduceEqDiff, ↓reduceIte, reduceCtorEq, Nat.reduceBEq, Nat.reduceBNe, Nat.reducePow, Int.reduceLE, Int.reduceLT, Int.reduceNeg, Int.reduceToNat, Int.reduceEq, Int.reduceAdd, Int.reduceSub, Int.reduceMul, Int.reduceBEq, Int.reduceBNe, Blk.men, Blk.keysIn, d1, d2])) ?_)
    | (simp (disch := omega) only [go_sem, Nat.reduceLT, Nat.reduceLeDiff, Nat.reduceAdd, Nat.reduceMul, Nat.reduceEqDiff, ↓reduceIte, reduceCtorEq, Nat.reduceBEq, Nat.reduceBNe, Nat.reducePow, Int.reduceLE, Int.reduceLT, Int.reduceNeg, Int.reduceToNat, Int.reduceEq, Int.reduceAdd, Int.reduceSub, Int.reduceMul, Int.reduceBEq, Int.reduceBNe, Blk.men, Blk.keysIn, d1, d2])
    | (exact retS_of rfl rfl rfl)
    | (refine DW.cond_tt rfl ?_)
    | (refine call_c (hb44) (by decide) ?_)
    | (refine call_c (c45 b x hx) (by decide) ?_)
    | (refine call_c (hb46) (by decide) ?_)
    | (refine call_c (hb47) (by decide) ?_)
    | (refine call_c (c16 false (planN x) hpl) (by decide) ?_)
    | (refine call_c (c38 false (nL (fromsN x)) hfl) (by decide) ?_)
    | (refine call_c (c48 false looks hls) (by decide) ?_)
    | (refine call_c (h18) (by decide) ?_)
    | (refine call_c (h19) (by decide) ?_)
    | (refine call_c (h49) (by decide) ?_)
    | (refine call_c (h50) (by decide) ?_)
    | (refine DW.cond_ff rfl ?_)
    | (refine DW.cond rfl ?_ ?_ <;> intro hc <;> (try simp only [go_sem] at hc))
    | (refine g_split ?_ ?_ <;> intro hc <;> (try simp only [hc]) <;> (try simp only [go_sem] at hc)))
  refine DW.loop (ι := { i : Nat // i ≤ sur.length }) (fun i => ⟨158, [(16, dI i.1), (14, dIs false (nL sur)), (11, dI m), (10, dLs false looks), (9, dCs false s), (8, dIs false (nL (fromsN x))), (7, .box 7 0), (5, .box 5 0)], [(7, bxP false x), (5, .box [d8 more.v0, d8 more.v1, d8 more.v2])]⟩) (fun i => sur.length - i.1) ⟨0, Nat.zero_le _⟩ ?_ ?_
  · refine Ent.to ?_ ?_ <;> simp (disch := omega) only [wkT_cons, wkX_cons, wkT_nil, wkX_nil, get, Nat.reduceEqDiff, ↓reduceIte, ex_some, wk_self, wk_top, wk_nil, wkB_self, and_self, dI, i64_in, and_true, true_and, Int.natCast_add, Int.natCast_one, Int.ofNat_zero, Int.natCast_zero, bxP, d8]
    all_goals exact .refl _
  rintro ⟨i, hi⟩
  rcases at_or (nL sur) i (by rw [nL_length]; exact hi) with ⟨v, hv, hlt, hd⟩ | ⟨hend, hd⟩
  · rw [nL_length] at hlt hd
    obtain ⟨z, hz⟩ := getE hlt
    obtain rfl : v = (z : Int) := by
      rw [nL, List.getElem?_map, hz] at hv; simpa using hv.symm
    have hany := hsm z (List.mem_of_getElem? hz)
    repeat' (first
    | (with_reducible refine DW.seq ?_)
    | (with_reducible refine DW.block ?_)
    | (with_reducible refine DW.skip ?_)
    | (with_reducible refine DW.exit ?_)
    | (with_reducible refine DW.ret ?_)
    | (with_reducible refine DW.reg ?_)
    | (refine DW.dreg rfl (WF.of (by first | rfl | simp (disch := omega) only [go_sem, Nat.reduceLT, Nat.reduceLeDiff, Nat.reduceAdd, Nat.reduceMul, Nat.reduceEqDiff, ↓reduceIte, reduceCtorEq, Nat.reduceBEq, Nat.reduceBNe, Nat.reducePow, Int.reduceLE, Int.reduceLT, Int.reduceNeg, Int.reduceToNat, Int.reduceEq, Int.reduceAdd, Int.reduceSub, Int.reduceMul, Int.reduceBEq, Int.reduceBNe, Blk.men, Blk.keysIn, hd])) ?_)
    | (simp (disch := omega) only [go_sem, Nat.reduceLT, Nat.reduceLeDiff, Nat.reduceAdd, Nat.reduceMul, Nat.reduceEqDiff, ↓reduceIte, reduceCtorEq, Nat.reduceBEq, Nat.reduceBNe, Nat.reducePow, Int.reduceLE, Int.reduceLT, Int.reduceNeg, Int.reduceToNat, Int.reduceEq, Int.reduceAdd, Int.reduceSub, Int.reduceMul, Int.reduceBEq, Int.reduceBNe, Blk.men, Blk.keysIn, hd])
    | (exact retS_of rfl rfl rfl)
    | (refine DW.cond_tt rfl ?_)
    | (refine DW.cond_ff rfl ?_)
    | (refine DW.cond rfl ?_ ?_ <;> intro hc <;> (try simp only [go_sem] at hc))
    | (refine g_split ?_ ?_ <;> intro hc <;> (try simp only [hc]) <;> (try simp only [go_sem] at hc)))
    refine DW.loop (ι := { k : Nat // k ≤ s.length }) (fun k => ⟨158, [(18, dI k.1), (17, bD ((s.take k.1).any fun c => c.noz == (z : Int))), (16, dI i), (14, dIs false (nL sur)), (11, dI m), (10, dLs false looks), (9, dCs false s), (8, dIs false (nL (fromsN x))), (7, .box 7 0), (5, .box 5 0)], [(7, bxP false x), (5, .box [d8 more.v0, d8 more.v1, d8 more.v2])]⟩) (fun k => s.length - k.1) ⟨0, Nat.zero_le _⟩ ?_ ?_
    · refine Ent.to ?_ ?_ <;> simp (disch := omega) only [wkT_cons, wkX_cons, wkT_nil, wkX_nil, get, Nat.reduceEqDiff, ↓reduceIte, ex_some, wk_self, wk_top, wk_nil, wkB_self, and_self, dI, i64_in, and_true, true_and, Int.natCast_add, Int.natCast_one, Int.ofNat_zero, Int.natCast_zero, bxP, d8, List.take_zero, List.any_nil, bD]
      all_goals exact .refl _
    rintro ⟨k, hk⟩
    rcases at_or s k hk with ⟨c, hc0, hklt, hkd⟩ | ⟨hkend, hkd⟩
    · have ht : (s.take (k + 1)).any (fun c => c.noz == (z : Int)) = ((s.take k).any (fun c => c.noz == (z : Int)) || c.noz == (z : Int)) := by
        rw [List.take_add_one, hc0, List.any_append]; simp
      generalize (s.take k).any (fun c => c.noz == (z : Int)) = now at *
      repeat' (first
    | (with_reducible refine DW.seq ?_)
    | (with_reducible refine DW.block ?_)
    | (with_reducible refine DW.skip ?_)
    | (with_reducible refine DW.exit ?_)
    | (with_reducible refine DW.ret ?_)
    | (with_reducible refine DW.reg ?_)
    | (refine DW.dreg rfl (WF.of (by first | rfl | simp (disch := omega) only [go_sem, Nat.reduceLT, Nat.reduceLeDiff, Nat.reduceAdd, Nat.reduceMul, Nat.reduceEqDiff, ↓reduceIte, reduceCtorEq, Nat.reduceBEq, Nat.reduceBNe, Nat.reducePow, Int.reduceLE, Int.reduceLT, Int.reduceNeg, Int.reduceToNat, Int.reduceEq, Int.reduceAdd, Int.reduceSub, Int.reduceMul, Int.reduceBEq, Int.reduceBNe, Blk.men, Blk.keysIn, hkd, hc0, hv])) ?_)
    | (simp (disch := omega) only [go_sem, Nat.reduceLT, Nat.reduceLeDiff, Nat.reduceAdd, Nat.reduceMul, Nat.reduceEqDiff, ↓reduceIte, reduceCtorEq, Nat.reduceBEq, Nat.reduceBNe, Nat.reducePow, Int.reduceLE, Int.reduceLT, Int.reduceNeg, Int.reduceToNat, Int.reduceEq, Int.reduceAdd, Int.reduceSub, Int.reduceMul, Int.reduceBEq, Int.reduceBNe, Blk.men, Blk.keysIn, hkd, hc0, hv])
    | (exact retS_of rfl rfl rfl)
    | (refine DW.cond_tt rfl ?_)
    | (refine DW.cond_ff rfl ?_)
    | (refine DW.cond rfl ?_ ?_ <;> intro hc <;> (try simp only [go_sem] at hc))
    | (refine g_split ?_ ?_ <;> intro hc <;> (try simp only [hc]) <;> (try simp only [go_sem] at hc)))
      all_goals refine ⟨⟨k + 1, hklt⟩, ?_, Ent.to ?_ ?_⟩ <;> first | (show _ < _; (try simp only); omega) | (simp (disch := omega) only [wkT_cons, wkX_cons, wkT_nil, wkX_nil, get, Nat.reduceEqDiff, ↓reduceIte, ex_some, wk_self, wk_top, wk_nil, wkB_self, and_self, dI, i64_in, and_true, true_and, Int.natCast_add, Int.natCast_one, Int.ofNat_zero, Int.natCast_zero,  ht, bD, bxP, d8])
      all_goals first | exact .refl _ | (refine Wk_eq (dB_eq ?_); simp_all) | skip
    · have ht : (s.take k).any (fun c => c.noz == (z : Int)) = true := by
        rw [List.take_of_length_le (by omega)]; exact hany
      rw [ht]
      cases i with
      | zero =>
        repeat' (first
    | (with_reducible refine DW.seq ?_)
    | (with_reducible refine DW.block ?_)
    | (with_reducible refine DW.skip ?_)
    | (with_reducible refine DW.exit ?_)
    | (with_reducible refine DW.ret ?_)
    | (with_reducible refine DW.reg ?_)
    | (refine DW.dreg rfl (WF.of (by first | rfl | simp (disch := omega) only [go_sem, Nat.reduceLT, Nat.reduceLeDiff, Nat.reduceAdd, Nat.reduceMul, Nat.reduceEqDiff, ↓reduceIte, reduceCtorEq, Nat.reduceBEq, Nat.reduceBNe, Nat.reducePow, Int.reduceLE, Int.reduceLT, Int.reduceNeg, Int.reduceToNat, Int.reduceEq, Int.reduceAdd, Int.reduceSub, Int.reduceMul, Int.reduceBEq, Int.reduceBNe, Blk.men, Blk.keysIn, hkd])) ?_)
    | (simp (disch := omega) only [go_sem, Nat.reduceLT, Nat.reduceLeDiff, Nat.reduceAdd, Nat.reduceMul, Nat.reduceEqDiff, ↓reduceIte, reduceCtorEq, Nat.reduceBEq, Nat.reduceBNe, Nat.reducePow, Int.reduceLE, Int.reduceLT, Int.reduceNeg, Int.reduceToNat, Int.reduceEq, Int.reduceAdd, Int.reduceSub, Int.reduceMul, Int.reduceBEq, Int.reduceBNe, Blk.men, Blk.keysIn, hkd])
    | (exact retS_of rfl rfl rfl)
    | (refine DW.cond_tt rfl ?_)
    | (refine DW.cond_ff rfl ?_)
    | (refine DW.cond rfl ?_ ?_ <;> intro hc <;> (try simp only [go_sem] at hc))
    | (refine g_split ?_ ?_ <;> intro hc <;> (try simp only [hc]) <;> (try simp only [go_sem] at hc)))
        refine ⟨⟨0 + 1, hlt⟩, ?_, Ent.to ?_ ?_⟩ <;> first | (show _ < _; (try simp only); omega) | (simp (disch := omega) only [wkT_cons, wkX_cons, wkT_nil, wkX_nil, get, Nat.reduceEqDiff, ↓reduceIte, ex_some, wk_self, wk_top, wk_nil, wkB_self, and_self, dI, i64_in, and_true, true_and, Int.natCast_add, Int.natCast_one, Int.ofNat_zero, Int.natCast_zero,  bxP, d8])
        all_goals exact .refl _
      | succ j =>
        obtain ⟨u, hu⟩ := getE (l := sur) (i := j) (by omega)
        have huv : (nL sur)[j]? = some (u : Int) := by rw [nL, List.getElem?_map, hu]; rfl
        have hlt2 : u < z := by
          have := List.pairwise_iff_getElem.1 hsa j (j + 1) (by omega) hlt (by omega)
          rw [List.getElem?_eq_some_iff] at hu hz
          obtain ⟨_, rfl⟩ := hu
          obtain ⟨_, rfl⟩ := hz
          exact this
        have d3 : decide ((0 : Int) < ((j + 1 : Nat) : Int)) = true := by rw [decide_eq_true_eq]; omega
        have d4 : decide ((z : Int) ≤ (u : Int)) = false := by rw [decide_eq_false_iff_not]; omega
        have hj1 : ((j + 1 : Nat) : Int) - 1 = (j : Int) := by omega
        repeat' (first
    | (with_reducible refine DW.seq ?_)
    | (with_reducible refine DW.block ?_)
    | (with_reducible refine DW.skip ?_)
    | (with_reducible refine DW.exit ?_)
    | (with_reducible refine DW.ret ?_)
    | (with_reducible refine DW.reg ?_)
    | (refine DW.dreg rfl (WF.of (by first | rfl | simp (disch := omega) only [go_sem, Nat.reduceLT, Nat.reduceLeDiff, Nat.reduceAdd, Nat.reduceMul, Nat.reduceEqDiff, ↓reduceIte, reduceCtorEq, Nat.reduceBEq, Nat.reduceBNe, Nat.reducePow, Int.reduceLE, Int.reduceLT, Int.reduceNeg, Int.reduceToNat, Int.reduceEq, Int.reduceAdd, Int.reduceSub, Int.reduceMul, Int.reduceBEq, Int.reduceBNe, Blk.men, Blk.keysIn, hkd, d3, hv, hj1, huv, d4])) ?_)
    | (simp (disch := omega) only [go_sem, Nat.reduceLT, Nat.reduceLeDiff, Nat.reduceAdd, Nat.reduceMul, Nat.reduceEqDiff, ↓reduceIte, reduceCtorEq, Nat.reduceBEq, Nat.reduceBNe, Nat.reducePow, Int.reduceLE, Int.reduceLT, Int.reduceNeg, Int.reduceToNat, Int.reduceEq, Int.reduceAdd, Int.reduceSub, Int.reduceMul, Int.reduceBEq, Int.reduceBNe, Blk.men, Blk.keysIn, hkd, d3, hv, hj1, huv, d4])
    | (exact retS_of rfl rfl rfl)
    | (refine DW.cond_tt rfl ?_)
    | (refine DW.cond_ff rfl ?_)
    | (refine DW.cond rfl ?_ ?_ <;> intro hc <;> (try simp only [go_sem] at hc))
    | (refine g_split ?_ ?_ <;> intro hc <;> (try simp only [hc]) <;> (try simp only [go_sem] at hc)))
        refine ⟨⟨j + 1 + 1, hlt⟩, ?_, Ent.to ?_ ?_⟩ <;> first | (show _ < _; (try simp only); omega) | (simp (disch := omega) only [wkT_cons, wkX_cons, wkT_nil, wkX_nil, get, Nat.reduceEqDiff, ↓reduceIte, ex_some, wk_self, wk_top, wk_nil, wkB_self, and_self, dI, i64_in, and_true, true_and, Int.natCast_add, Int.natCast_one, Int.ofNat_zero, Int.natCast_zero,  bxP, d8])
        all_goals exact .refl _
  · rw [nL_length] at hend hd
    have d5 : decide ((m2 : Int) ≤ (m : Int)) = true := by rw [decide_eq_true_eq]; omega
    have d6 : decide ((1 : Int) ≤ (m2 : Int)) = true := by rw [decide_eq_true_eq]; omega
    repeat' (first
    | (with_reducible refine DW.seq ?_)
    | (with_reducible refine DW.block ?_)
    | (with_reducible refine DW.skip ?_)
    | (with_reducible refine DW.exit ?_)
    | (with_reducible refine DW.ret ?_)
    | (with_reducible refine DW.reg ?_)
    | (refine DW.dreg rfl (WF.of (by first | rfl | simp (disch := omega) only [go_sem, Nat.reduceLT, Nat.reduceLeDiff, Nat.reduceAdd, Nat.reduceMul, Nat.reduceEqDiff, ↓reduceIte, reduceCtorEq, Nat.reduceBEq, Nat.reduceBNe, Nat.reducePow, Int.reduceLE, Int.reduceLT, Int.reduceNeg, Int.reduceToNat, Int.reduceEq, Int.reduceAdd, Int.reduceSub, Int.reduceMul, Int.reduceBEq, Int.reduceBNe, Blk.men, Blk.keysIn, hd])) ?_)
    | (simp (disch := omega) only [go_sem, Nat.reduceLT, Nat.reduceLeDiff, Nat.reduceAdd, Nat.reduceMul, Nat.reduceEqDiff, ↓reduceIte, reduceCtorEq, Nat.reduceBEq, Nat.reduceBNe, Nat.reducePow, Int.reduceLE, Int.reduceLT, Int.reduceNeg, Int.reduceToNat, Int.reduceEq, Int.reduceAdd, Int.reduceSub, Int.reduceMul, Int.reduceBEq, Int.reduceBNe, Blk.men, Blk.keysIn, hd])
    | (exact retS_of rfl rfl rfl)
    | (refine DW.cond_tt rfl ?_)
    | (refine call_c (c16 false (planN x) hpl) (by decide) ?_)
    | (refine call_c (c38 false (nL (fromsN x)) hfl) (by decide) ?_)
    | (refine DW.cond_ff rfl ?_)
    | (refine DW.cond rfl ?_ ?_ <;> intro hc <;> (try simp only [go_sem] at hc))
    | (refine g_split ?_ ?_ <;> intro hc <;> (try simp only [hc]) <;> (try simp only [go_sem] at hc)))
    (refine call_r (c48o false looks hls 133) (by decide) (by first | rfl | simp (disch := omega) only [go_sem, Nat.reduceLT, Nat.reduceLeDiff, Nat.reduceAdd, Nat.reduceMul, Nat.reduceEqDiff, ↓reduceIte, reduceCtorEq, Nat.reduceBEq, Nat.reduceBNe, Nat.reducePow, Int.reduceLE, Int.reduceLT, Int.reduceNeg, Int.reduceToNat, Int.reduceEq, Int.reduceAdd, Int.reduceSub, Int.reduceMul, Int.reduceBEq, Int.reduceBNe, Blk.men, Blk.keysIn]) (by first | rfl | simp (disch := omega) only [go_sem, Nat.reduceLT, Nat.reduceLeDiff, Nat.reduceAdd, Nat.reduceMul, Nat.reduceEqDiff, ↓reduceIte, reduceCtorEq, Nat.reduceBEq, Nat.reduceBNe, Nat.reducePow, Int.reduceLE, Int.reduceLT, Int.reduceNeg, Int.reduceToNat, Int.reduceEq, Int.reduceAdd, Int.reduceSub, Int.reduceMul, Int.reduceBEq, Int.reduceBNe, Blk.men, Blk.keysIn]) ?_; simp (disch := omega) only [go_sem, Nat.reduceLT, Nat.reduceLeDiff, Nat.reduceAdd, Nat.reduceMul, Nat.reduceEqDiff, ↓reduceIte, reduceCtorEq, Nat.reduceBEq, Nat.reduceBNe, Nat.reducePow, Int.reduceLE, Int.reduceLT, Int.reduceNeg, Int.reduceToNat, Int.reduceEq, Int.reduceAdd, Int.reduceSub, Int.reduceMul, Int.reduceBEq, Int.reduceBNe, Blk.men, Blk.keysIn])
    repeat' (first
    | (with_reducible refine DW.seq ?_)
    | (with_reducible refine DW.block ?_)
    | (with_reducible refine DW.skip ?_)
    | (with_reducible refine DW.exit ?_)
    | (with_reducible refine DW.ret ?_)
    | (with_reducible refine DW.reg ?_)
    | (refine DW.dreg rfl (WF.of (by first | rfl | simp (disch := omega) only [go_sem, Nat.reduceLT, Nat.reduceLeDiff, Nat.reduceAdd, Nat.reduceMul, Nat.reduceEqDiff, ↓reduceIte, reduceCtorEq, Nat.reduceBEq, Nat.reduceBNe, Nat.reducePow, Int.reduceLE, Int.reduceLT, Int.reduceNeg, Int.reduceToNat, Int.reduceEq, Int.reduceAdd, Int.reduceSub, Int.reduceMul, Int.reduceBEq, Int.reduceBNe, Blk.men, Blk.keysIn, d5, d6])) ?_)
    | (simp (disch := omega) only [go_sem, Nat.reduceLT, Nat.reduceLeDiff, Nat.reduceAdd, Nat.reduceMul, Nat.reduceEqDiff, ↓reduceIte, reduceCtorEq, Nat.reduceBEq, Nat.reduceBNe, Nat.reducePow, Int.reduceLE, Int.reduceLT, Int.reduceNeg, Int.reduceToNat, Int.reduceEq, Int.reduceAdd, Int.reduceSub, Int.reduceMul, Int.reduceBEq, Int.reduceBNe, Blk.men, Blk.keysIn, d5, d6])
    | (exact retS_of rfl rfl rfl)
    | (refine DW.cond_tt rfl ?_)
    | (refine call_c (h47b) (by decide) ?_)
    | (refine call_c (h18b) (by decide) ?_)
    | (refine call_c (c15) (by decide) ?_)
    | (refine DW.cond_ff rfl ?_)
    | (refine DW.cond rfl ?_ ?_ <;> intro hc <;> (try simp only [go_sem] at hc))
    | (refine g_split ?_ ?_ <;> intro hc <;> (try simp only [hc]) <;> (try simp only [go_sem] at hc)))
end Go.Dw.Seat
end
section
set_option linter.unusedSimpArgs false
set_option maxRecDepth 100000
namespace Go.Dw.Seat
open Go Go.Dw Go.Proofs Go.ChangeShapes Go.WideShapes Go.ChangeAt Go.RowKit
theorem u89 : Try.prog.underlying 89 = some (.slice 116) := by kernel_rfl
theorem u90 : Try.prog.underlying 90 = some (.array 3 5) := by kernel_rfl
theorem u91 : Try.prog.underlying 91 = some (.array 2 90) := by kernel_rfl
theorem u94 : Try.prog.underlying 94 = some (.slice 90) := by kernel_rfl
theorem cells5 : Try.prog.cellsOf 5 = 1 := by kernel_rfl
theorem cells89 : Try.prog.cellsOf 89 = 1 := by kernel_rfl
theorem cells90 : Try.prog.cellsOf 90 = 3 := by kernel_rfl
theorem cells91 : Try.prog.cellsOf 91 = 6 := by kernel_rfl
theorem cells93 : Try.prog.cellsOf 93 = 12 := by kernel_rfl
theorem cells116 : Try.prog.cellsOf 116 = 1 := by kernel_rfl
theorem st93 : structIs Try.prog 93 [(5, 0), (89, 1), (90, 2), (91, 5), (5, 11)] = true := by kernel_rfl
section
variable {H : Type} {enc : TypeId × Value → H} {w : World} {base : Nat} {spare : Nat → Bool} {held : Bool} {fuel : Nat} {cs : List Value} {x : DataW H × List MemPlace}
theorem wf8 {n : Int} (h : (Lit.int .u8 n).wf = true) : ∃ v : Nat, n = v ∧ v < 256 := by
  have e1 : IntKind.min .u8 = 0 := by decide
  have e2 : IntKind.max .u8 = 255 := by decide
  simp only [Lit.wf, e1, e2, Bool.and_eq_true, decide_eq_true_eq] at h
  exact ⟨n.toNat, by omega, by omega⟩
theorem wf16 {n : Int} (h : (Lit.int .u16 n).wf = true) : ∃ v : Nat, n = v ∧ v < 65536 := by
  have e1 : IntKind.min .u16 = 0 := by decide
  have e2 : IntKind.max .u16 = 65535 := by decide
  simp only [Lit.wf, e1, e2, Bool.and_eq_true, decide_eq_true_eq] at h
  exact ⟨n.toNat, by omega, by omega⟩
theorem rd_U8 (h : DataW.trod enc Try.prog w base spare held fuel 5 cs = some x) : ∃ v : Nat, cs = [.int .u8 v] ∧ v < 256 := by
  obtain ⟨n, e, hw⟩ := rd_int und5 h
  obtain ⟨v, rfl, hv⟩ := wf8 hw
  exact ⟨v, e, hv⟩
theorem rd_U16 (h : DataW.trod enc Try.prog w base spare held fuel 116 cs = some x) : ∃ v : {v : Nat // v < 65536}, RepVs w A0 (eU v.1) cs := by
  obtain ⟨n, rfl, hw⟩ := rd_int und116 h
  obtain ⟨v, rfl, hv⟩ := wf16 hw
  exact ⟨⟨v, hv⟩, _, _, rfl, ⟨rfl, rfl⟩, rfl⟩
theorem rd_U16s (h : DataW.trod enc Try.prog w base spare held fuel 89 cs = some x) : ∃ (l : List Nat) (v : Value), cs = [v] ∧ RepC w A0 (.sl false 1 (rows eU l)) v ∧ l.length ≤ maxLen ∧ ∀ v ∈ l, v < 65536 := by
  obtain ⟨l, v, e, hr, hm, _⟩ := rd_slice (f := fun v : {v : Nat // v < 65536} => eU v.1) u89 cells116 (by decide) (fun _ => rfl) (fun _ _ _ h => rd_U16 h) h
  refine ⟨l.map (·.1), v, e, ?_, by simpa using hm, fun u hu => ?_⟩
  · have : rows eU (l.map (·.1)) = rows (fun v : {v : Nat // v < 65536} => eU v.1) l := by simp [rows, Function.comp_def]
    rw [this]; exact hr
  · obtain ⟨a, _, rfl⟩ := List.mem_map.1 hu
    exact a.2
theorem rd_B3 (h : DataW.trod enc Try.prog w base spare held fuel 90 cs = some x) : ∃ v : {v : B3 // v.ok}, cs = [.int .u8 v.1.v0, .int .u8 v.1.v1, .int .u8 v.1.v2] := by
  obtain ⟨hl, m, hf⟩ := rd_array u90 h
  rw [cells90] at hl
  obtain ⟨y0, h0⟩ := hf 0 (by decide)
  obtain ⟨y1, h1⟩ := hf 1 (by decide)
  obtain ⟨y2, h2⟩ := hf 2 (by decide)
  rw [cells5] at h0 h1 h2
  match cs, hl with
  | [a, b, c], _ =>
    obtain ⟨n0, e0, p0⟩ := rd_U8 h0
    obtain ⟨n1, e1, p1⟩ := rd_U8 h1
    obtain ⟨n2, e2, p2⟩ := rd_U8 h2
    simp at e0 e1 e2
    subst e0; subst e1; subst e2
    exact ⟨⟨⟨n0, n1, n2⟩, ⟨p0, p1, p2⟩⟩, rfl⟩
theorem rep_B3 {A : Bool → Nat → Prop} (v : B3) : RepVs w A (eV v) [.int .u8 v.v0, .int .u8 v.v1, .int .u8 v.v2] := ⟨_, _, rfl, ⟨rfl, rfl⟩, _, _, rfl, ⟨rfl, rfl⟩, _, _, rfl, ⟨rfl, rfl⟩, rfl⟩
theorem rd_B3s (h : DataW.trod enc Try.prog w base spare held fuel 94 cs = some x) : ∃ (l : List B3) (v : Value), cs = [v] ∧ RepC w A0 (.sl false 3 (rows eV l)) v ∧ l.length ≤ maxLen ∧ ∀ v ∈ l, v.ok := by
  obtain ⟨l, v, e, hr, hm, _⟩ := rd_slice (f := fun v : {v : B3 // v.ok} => eV v.1) u94 cells90 (by decide) (fun _ => rfl) (fun _ _ _ h => by
    obtain ⟨v, rfl⟩ := rd_B3 h
    exact ⟨v, rep_B3 v.1⟩) h
  refine ⟨l.map (·.1), v, e, ?_, by simpa using hm, fun u hu => ?_⟩
  · have : rows eV (l.map (·.1)) = rows (fun v : {v : B3 // v.ok} => eV v.1) l := by simp [rows, Function.comp_def]
    rw [this]; exact hr
  · obtain ⟨a, _, rfl⟩ := List.mem_map.1 hu
    exact a.2
theorem rd_Line (h : DataW.trod enc Try.prog w base spare held fuel 93 cs = some x) : ∃ l : Line, l.ok ∧ RepVs w A0 [.v (.int .u8 l.steps), .sl false 1 (rows eU l.noz), .v (.int .u8 l.f0), .v (.int .u8 l.f1), .v (.int .u8 l.f2), .v (.int .u8 l.a0), .v (.int .u8 l.a1), .v (.int .u8 l.a2), .v (.int .u8 l.b0), .v (.int .u8 l.b1), .v (.int .u8 l.b2), .v (.int .u8 l.many)] cs := by
  obtain ⟨hl, m, hf⟩ := rd_struct st93 h
  rw [cells93] at hl
  obtain ⟨y0, h0⟩ := hf 0 5 0 rfl
  obtain ⟨y1, h1⟩ := hf 1 89 1 rfl
  obtain ⟨y2, h2⟩ := hf 2 90 2 rfl
  obtain ⟨y3, h3⟩ := hf 3 91 5 rfl
  obtain ⟨y4, h4⟩ := hf 4 5 11 rfl
  rw [cells5] at h0 h4
  rw [cells89] at h1
  rw [cells90] at h2
  rw [cells91] at h3
  obtain ⟨hl3, m3, hf3⟩ := rd_array u91 h3
  obtain ⟨z0, k0⟩ := hf3 0 (by decide)
  obtain ⟨z1, k1⟩ := hf3 1 (by decide)
  rw [cells90] at k0 k1
  match cs, hl with
  | [a, b, c, d, e, f, g, i, j, k, n, o], _ =>
    obtain ⟨n0, e0, p0⟩ := rd_U8 h0
    obtain ⟨l, v, e1, r1, _, p1⟩ := rd_U16s h1
    obtain ⟨v2, e2⟩ := rd_B3 h2
    obtain ⟨v3, e3⟩ := rd_B3 k0
    obtain ⟨v4, e4⟩ := rd_B3 k1
    obtain ⟨n5, e5, p5⟩ := rd_U8 h4
    simp at e0 e1 e2 e3 e4 e5
    obtain ⟨rfl, rfl, rfl⟩ := e2
    obtain ⟨rfl, rfl, rfl⟩ := e3
    obtain ⟨rfl, rfl, rfl⟩ := e4
    subst e0; subst e1; subst e5
    exact ⟨⟨n0, l, v2.1.v0, v2.1.v1, v2.1.v2, v3.1.v0, v3.1.v1, v3.1.v2, v4.1.v0, v4.1.v1, v4.1.v2, n5⟩,
      ⟨p0, p1, v2.2.v0, v2.2.v1, v2.2.v2, v3.2.v0, v3.2.v1, v3.2.v2, v4.2.v0, v4.2.v1, v4.2.v2, p5⟩,
      _, _, rfl, ⟨rfl, rfl⟩, _, _, rfl, r1, _, _, rfl, ⟨rfl, rfl⟩, _, _, rfl, ⟨rfl, rfl⟩, _, _, rfl, ⟨rfl, rfl⟩, _, _, rfl, ⟨rfl, rfl⟩, _, _, rfl, ⟨rfl, rfl⟩, _, _, rfl, ⟨rfl, rfl⟩, _, _, rfl, ⟨rfl, rfl⟩, _, _, rfl, ⟨rfl, rfl⟩, _, _, rfl, ⟨rfl, rfl⟩, _, _, rfl, ⟨rfl, rfl⟩, rfl⟩
end
end Go.Dw.Seat
end
section
set_option linter.unusedSimpArgs false
namespace Go.Dw.Seat
open Go Go.Dw
def leaveN (x : Line) (X : List (List Cause)) (o : Look) : Nat := X.countP (fun s => fitsL x.st (nozP x) s o)
theorem lineX_leave (x : Line) {looks : List Look} (hok : ∀ l ∈ looks, lookOkI (planN x) l = true) {o : Look} (ho : lookOkI (planN x) o = true) : (lineX x (looks ++ [o])).length = leaveN x (lineX x looks) o := by
  rw [lineX_add x hok ho, leaveN, List.countP_eq_length_filter]
def Look.flip (o : Look) : Look := ⟨o.box, o.noz, o.step, !o.glue⟩
theorem leave_flip (x : Line) (X : List (List Cause)) (o : Look) : leaveN x X o + leaveN x X o.flip = X.length := by
  rw [List.length_eq_countP_add_countP (fun s => fitsL x.st (nozP x) s o), leaveN, leaveN]
  congr 1
  refine countP_congr (fun s _ => ?_)
  simp only [fitsL, Look.flip]
  rcases Bool.eq_false_or_eq_true o.glue with h | h <;> rcases Bool.eq_false_or_eq_true (givesL x.st ((nozP x).getD o.noz.toNat 0) s o.box o.noz.toNat o.step) with h' | h' <;> simp [h, h']
theorem cnt_leave (x : Line) {X : List (List Cause)} (hX : ∀ s ∈ X, s ∈ statesOf (causesN (nozP x).length (nL (fromsN x)))) {s : Spot} (h1 : s.noz < (nozP x).length) (h2 : s.step < x.st) :
    cntS x.st (nozP x) X s = leaveN x X ⟨s.box, s.noz, s.step, true⟩ := by
  refine countP_congr (fun c hc => ?_)
  have hp := states_pair (hX c hc)
  have hv := valid_statesOf (hX c hc)
  simp only [fitsL, Int.toNat_natCast]
  rw [givesL_glue hp, ← hasN_eq (nozP_lt x) (by omega) hp (fun d hd => (hv.2 d hd).1) h1 h2]
  cases hasN x.st (nozP x) c s.box s.noz s.step <;> rfl
structure NxOk (st : Nat) (noz : List Nat) (X : List (List Cause)) (ss : List Spot) (y : Look × Int) : Prop where
  le : ∀ s ∈ ss, y.2 ≤ leftN (cntS st noz X s) X.length
  is : y = (⟨0, 0, 0, false⟩, (X.length : Int)) ∨ (y.2 < X.length ∧ ∃ s ∈ ss, y = (⟨s.box, s.noz, s.step, false⟩, leftN (cntS st noz X s) X.length))
theorem nx_run (st : Nat) (noz : List Nat) (X : List (List Cause)) : ∀ (ss0 ss : List Spot) (y : Look × Int), NxOk st noz X ss0 y → NxOk st noz X (ss0 ++ ss) (ss.foldl (nxS st noz X) y)
  | ss0, [], y, h => by simpa using h
  | ss0, s :: ss, y, h => by
    have : NxOk st noz X (ss0 ++ [s]) (nxS st noz X y s) := by
      have hle : y.2 ≤ X.length := by
        rcases h.is with e | ⟨e, _⟩
        · rw [e]; exact Int.le_refl _
        · omega
      unfold nxS
      split
      · rename_i hlt
        refine ⟨fun u hu => ?_, .inr ⟨by simp only; omega, s, by simp, rfl⟩⟩
        rcases List.mem_append.1 hu with h1 | h1
        · have := h.le u h1; simp only; omega
        · rw [List.mem_singleton.1 h1]; exact Int.le_refl _
      · rename_i hge
        refine ⟨fun u hu => ?_, ?_⟩
        · rcases List.mem_append.1 hu with h1 | h1
          · exact h.le u h1
          · rw [List.mem_singleton.1 h1]; omega
        · rcases h.is with e | ⟨e, u, hu, e2⟩
          · exact .inl e
          · exact .inr ⟨e, u, by simp [hu], e2⟩
    have h2 := nx_run st noz X (ss0 ++ [s]) ss _ this
    simpa using h2
theorem nx_ok (st : Nat) (noz : List Nat) (X : List (List Cause)) (boxes : Nat) : NxOk st noz X (spotsL boxes noz.length st) (nxF st noz X boxes) := by
  have := nx_run st noz X [] (spotsL boxes noz.length st) (⟨0, 0, 0, false⟩, (X.length : Int)) ⟨fun s h => (by cases h), .inl rfl⟩
  simpa [nxF] using this
theorem leftN_max (n m : Nat) (h : n ≤ m) : leftN (n : Nat) (m : Nat) = ((max n (m - n) : Nat) : Int) := by
  unfold leftN
  split <;> omega
structure NextOk (x : Line) (looks : List Look) (o : Look) (at' : Look) (most : Int) (e : Int) : Prop where
  none : e = 7 → at' = ⟨0, 0, 0, false⟩ ∧ most = 0 ∧ leaveN x (lineX x looks) o = (lineX x looks).length
  ok : e ≠ 7 → e = 0 ∧ (0 ≤ at'.box ∧ at'.box < 12) ∧ (0 ≤ at'.noz ∧ at'.noz < (nozP x).length) ∧ (0 ≤ at'.step ∧ at'.step < x.st) ∧ at'.glue = false ∧ ((max (leaveN x (lineX x looks) at') (leaveN x (lineX x looks) at'.flip) : Nat) : Int) = most ∧ most < (lineX x looks).length ∧ most ≤ ((max (leaveN x (lineX x looks) o) (leaveN x (lineX x looks) o.flip) : Nat) : Int)
theorem place_spot (x : Line) (s : List Cause) (v : B3) : ∃ p : Spot, p ∈ spotsL 12 (nozP x).length x.st ∧ (placeN x s v).box = (p.box : Int) ∧ (placeN x s v).noz = (p.noz : Int) ∧ (placeN x s v).step = (p.step : Int) := by
  have h0 : v.v0 % 12 < 12 := Nat.mod_lt _ (by decide)
  have h1 : v.v1 % (nozP x).length < (nozP x).length := Nat.mod_lt _ (nozP_len x).1
  have h2 : v.v2 % x.st < x.st := Nat.mod_lt _ (by have := x.st_in; omega)
  exact ⟨⟨v.v0 % 12, v.v1 % (nozP x).length, v.v2 % x.st⟩, mem_spots.2 ⟨h0, h1, h2⟩, rfl, rfl, rfl⟩
theorem max_leave (x : Line) {X : List (List Cause)} (hX : ∀ s ∈ X, s ∈ statesOf (causesN (nozP x).length (nL (fromsN x)))) {s : Spot} {boxes : Nat} (hs : s ∈ spotsL boxes (nozP x).length x.st) {o : Look} (h1 : o.box = (s.box : Int)) (h2 : o.noz = (s.noz : Int)) (h3 : o.step = (s.step : Int)) :
    leftN (cntS x.st (nozP x) X s) X.length = ((max (leaveN x X o) (leaveN x X o.flip) : Nat) : Int) := by
  obtain ⟨b1, b2, b3⟩ := mem_spots.1 hs
  have hc := cnt_leave x hX b2 b3
  have hf := leave_flip x X ⟨s.box, s.noz, s.step, true⟩
  have hcl : cntS x.st (nozP x) X s ≤ X.length := List.countP_le_length
  rw [leftN_max _ _ hcl, hc]
  obtain ⟨ob, on, os, og⟩ := o
  simp only at h1 h2 h3
  subst h1; subst h2; subst h3
  simp only [Look.flip] at hf ⊢
  cases og <;> simp only [Bool.not_true, Bool.not_false] at hf ⊢ <;> congr 1 <;> omega
theorem next_ok (x : Line) {looks : List Look} (hll : looks.length ≤ 40) (hok : ∀ l ∈ looks, lookOkI (planN x) l = true) {s : List Cause} (hs : s ∈ lineX x looks) (v : B3) :
    NextOk x looks (placeN x s v) (nxAt (planN x) (nL (fromsN x)) looks 12) (nxMost (planN x) (nL (fromsN x)) looks 12) (nxErr (planN x) (nL (fromsN x)) looks 12) := by
  have he := exErr_one x hll hok hs
  have ho := exOut_line x hll hok
  have hX : ∀ c ∈ lineX x looks, c ∈ statesOf (causesN (nozP x).length (nL (fromsN x))) := fun c hc => ((mem_lineX hok).1 hc).1
  have hw : wthn 1 20 [(12 : Int)] = true := by decide
  have hst : (planN x).steps.toNat = x.st := by simp [planN]
  have hnz : (planN x).noz.map Int.toNat = nozP x := nL_toNat _
  have hk := nx_ok x.st (nozP x) (lineX x looks) 12
  obtain ⟨p, hp, p1, p2, p3⟩ := place_spot x s v
  have hmo := max_leave x hX hp p1 p2 p3
  have hle := hk.le p hp
  rw [hmo] at hle
  have hfl := leave_flip x (lineX x looks) (placeN x s v)
  have hpos : 1 ≤ leaveN x (lineX x looks) (placeN x s v) := List.countP_pos_iff.2 ⟨s, hs, place_fits x s v⟩
  have e1 : nxErr (planN x) (nL (fromsN x)) looks 12 = if (nxF x.st (nozP x) (lineX x looks) 12).2 = ((lineX x looks).length : Int) then 7 else 0 := by
    simp only [nxErr, he, hw, if_true, hst, hnz, ho]; rfl
  have e2 : nxAt (planN x) (nL (fromsN x)) looks 12 = (nxF x.st (nozP x) (lineX x looks) 12).1 := by
    simp only [nxAt, he, hw, and_self, if_true, hst, hnz, ho]; rfl
  have e3 : nxMost (planN x) (nL (fromsN x)) looks 12 = if nxErr (planN x) (nL (fromsN x)) looks 12 = 0 then (nxF x.st (nozP x) (lineX x looks) 12).2 else 0 := by
    simp only [nxMost, hst, hnz, ho]; rfl
  rw [e3, e2, e1]
  generalize nxF x.st (nozP x) (lineX x looks) 12 = y at *
  generalize placeN x s v = o at *
  constructor
  · intro h7
    have hy : y.2 = ((lineX x looks).length : Int) := by
      split at h7
      · assumption
      · cases h7
    rw [if_pos hy, if_neg (by decide)]
    rcases hk.is with e | ⟨e, _⟩
    · refine ⟨by rw [e], rfl, ?_⟩
      rw [hy] at hle
      omega
    · omega
  · intro h7
    have hy : ¬ y.2 = ((lineX x looks).length : Int) := fun h => h7 (if_pos h)
    rw [if_neg hy, if_pos rfl]
    rcases hk.is with e | ⟨e, u, hu, e4⟩
    · exact absurd (by rw [e]) hy
    · obtain ⟨b1, b2, b3⟩ := mem_spots.1 hu
      have hm2 := max_leave x hX hu (o := y.1) (by rw [e4]) (by rw [e4]) (by rw [e4])
      have hy2 : y.2 = leftN (cntS x.st (nozP x) (lineX x looks) u) (lineX x looks).length := by rw [e4]
      rw [← hm2, ← hy2]
      refine ⟨rfl, ?_, ?_, ?_, ?_, rfl, e, hle⟩
      · rw [e4]; simp only; omega
      · rw [e4]; simp only; omega
      · rw [e4]; simp only; omega
      · rw [e4]
end Go.Dw.Seat
end
section
set_option linter.unusedSimpArgs false
set_option maxRecDepth 100000
namespace Go.Dw.Seat
open Go Go.Dw Go.Proofs Go.IntWalk
theorem c51 (p1 p2 p3 b1 b2 b3 : Bool) (x : Line) (looks : List Look) (o : Look) (hl : looks.length ≤ 30) (hok : ∀ l ∈ looks, lookOkI (planN x) l = true) (ho : lookOkI (planN x) o = true) :
    DCall Try.prog 51 [.agg ((eL o).map D.c), .c (.ro p1 [.v (.int .i64 x.st), .sl b1 1 (rows eI (nL (nozP x)))] 0), .c (.ro p2 [.sl b2 1 (rows eI (nL (fromsN x)))] 0), .c (.ro p3 [.sl b3 4 (rows eL looks)] 0)] [] (dI (leaveN x (lineX x looks) o)) [] := by
  have hln := nozP_len x
  have hpl : (nL (nozP x)).length ≤ 2 ^ 36 := by rw [nL_length]; omega
  have hfl : (nL (fromsN x)).length ≤ 2 ^ 36 := by simp [fromsN, nL]
  have hok2 := app_ok hok ho
  have hl2 : (looks ++ [o]).length ≤ 40 := by rw [List.length_append, List.length_singleton]; omega
  have h18 := c18 false true (planN x) (nL (fromsN x)) (looks ++ [o]) hpl hfl (by omega)
  have hlx := lineX_leave x hok ho
  have hle : leaveN x (lineX x looks) o ≤ (lineX x looks).length := List.countP_le_length
  rw [exErr_line x hl2 hok2, exOut_line x hl2 hok2, hlx] at h18
  generalize leaveN x (lineX x looks) o = m at *
  generalize lineX x (looks ++ [o]) = X at *
  by_cases hm : m = 0
  · subst hm
    rw [if_pos rfl] at h18
    refine DCall.of Try.func51 sf51 hb51 (Nat.le_of_ble_eq_true rfl) (okRes_nil fun _ => rfl) ?_; simp only [s51, idxs, Nat.reduceAdd]
    repeat' (first
    | (with_reducible refine DW.seq ?_)
    | (with_reducible refine DW.block ?_)
    | (with_reducible refine DW.skip ?_)
    | (with_reducible refine DW.exit ?_)
    | (with_reducible refine DW.ret ?_)
    | (with_reducible refine DW.reg ?_)
    | (refine DW.dreg rfl (WF.of (by first | rfl | simp (disch := omega) only [go_sem, Nat.reduceLT, Nat.reduceLeDiff, Nat.reduceAdd, Nat.reduceMul, Nat.reduceEqDiff, ↓reduceIte, reduceCtorEq, Nat.reduceBEq, Nat.reduceBNe, Nat.reducePow, Int.reduceLE, Int.reduceLT, Int.reduceNeg, Int.reduceToNat, Int.reduceEq, Int.reduceAdd, Int.reduceSub, Int.reduceMul, Int.reduceBEq, Int.reduceBNe, Blk.men, Blk.keysIn])) ?_)
    | (simp (disch := omega) only [go_sem, Nat.reduceLT, Nat.reduceLeDiff, Nat.reduceAdd, Nat.reduceMul, Nat.reduceEqDiff, ↓reduceIte, reduceCtorEq, Nat.reduceBEq, Nat.reduceBNe, Nat.reducePow, Int.reduceLE, Int.reduceLT, Int.reduceNeg, Int.reduceToNat, Int.reduceEq, Int.reduceAdd, Int.reduceSub, Int.reduceMul, Int.reduceBEq, Int.reduceBNe, Blk.men, Blk.keysIn])
    | (exact retS_of rfl rfl rfl)
    | (refine DW.cond_tt rfl ?_)
    | (refine call_c (c16 b1 (planN x) hpl) (by decide) ?_)
    | (refine call_c (c38 b2 (nL (fromsN x)) hfl) (by decide) ?_)
    | (refine DW.cond_ff rfl ?_)
    | (refine DW.cond rfl ?_ ?_ <;> intro hc <;> (try simp only [go_sem] at hc))
    | (refine g_split ?_ ?_ <;> intro hc <;> (try simp only [hc]) <;> (try simp only [go_sem] at hc)))
    (refine call_r (c48o b3 looks (by omega) 15) (by decide) (by first | rfl | simp (disch := omega) only [go_sem, Nat.reduceLT, Nat.reduceLeDiff, Nat.reduceAdd, Nat.reduceMul, Nat.reduceEqDiff, ↓reduceIte, reduceCtorEq, Nat.reduceBEq, Nat.reduceBNe, Nat.reducePow, Int.reduceLE, Int.reduceLT, Int.reduceNeg, Int.reduceToNat, Int.reduceEq, Int.reduceAdd, Int.reduceSub, Int.reduceMul, Int.reduceBEq, Int.reduceBNe, Blk.men, Blk.keysIn]) (by first | rfl | simp (disch := omega) only [go_sem, Nat.reduceLT, Nat.reduceLeDiff, Nat.reduceAdd, Nat.reduceMul, Nat.reduceEqDiff, ↓reduceIte, reduceCtorEq, Nat.reduceBEq, Nat.reduceBNe, Nat.reducePow, Int.reduceLE, Int.reduceLT, Int.reduceNeg, Int.reduceToNat, Int.reduceEq, Int.reduceAdd, Int.reduceSub, Int.reduceMul, Int.reduceBEq, Int.reduceBNe, Blk.men, Blk.keysIn]) ?_; simp (disch := omega) only [go_sem, Nat.reduceLT, Nat.reduceLeDiff, Nat.reduceAdd, Nat.reduceMul, Nat.reduceEqDiff, ↓reduceIte, reduceCtorEq, Nat.reduceBEq, Nat.reduceBNe, Nat.reducePow, Int.reduceLE, Int.reduceLT, Int.reduceNeg, Int.reduceToNat, Int.reduceEq, Int.reduceAdd, Int.reduceSub, Int.reduceMul, Int.reduceBEq, Int.reduceBNe, Blk.men, Blk.keysIn])
    repeat' (first
    | (with_reducible refine DW.seq ?_)
    | (with_reducible refine DW.block ?_)
    | (with_reducible refine DW.skip ?_)
    | (with_reducible refine DW.exit ?_)
    | (with_reducible refine DW.ret ?_)
    | (with_reducible refine DW.reg ?_)
    | (refine DW.dreg rfl (WF.of (by first | rfl | simp (disch := omega) only [go_sem, Nat.reduceLT, Nat.reduceLeDiff, Nat.reduceAdd, Nat.reduceMul, Nat.reduceEqDiff, ↓reduceIte, reduceCtorEq, Nat.reduceBEq, Nat.reduceBNe, Nat.reducePow, Int.reduceLE, Int.reduceLT, Int.reduceNeg, Int.reduceToNat, Int.reduceEq, Int.reduceAdd, Int.reduceSub, Int.reduceMul, Int.reduceBEq, Int.reduceBNe, Blk.men, Blk.keysIn])) ?_)
    | (simp (disch := omega) only [go_sem, Nat.reduceLT, Nat.reduceLeDiff, Nat.reduceAdd, Nat.reduceMul, Nat.reduceEqDiff, ↓reduceIte, reduceCtorEq, Nat.reduceBEq, Nat.reduceBNe, Nat.reducePow, Int.reduceLE, Int.reduceLT, Int.reduceNeg, Int.reduceToNat, Int.reduceEq, Int.reduceAdd, Int.reduceSub, Int.reduceMul, Int.reduceBEq, Int.reduceBNe, Blk.men, Blk.keysIn])
    | (exact retS_of rfl rfl rfl)
    | (refine DW.cond_tt rfl ?_)
    | (refine call_c (h18) (by decide) ?_)
    | (refine DW.cond_ff rfl ?_)
    | (refine DW.cond rfl ?_ ?_ <;> intro hc <;> (try simp only [go_sem] at hc))
    | (refine g_split ?_ ?_ <;> intro hc <;> (try simp only [hc]) <;> (try simp only [go_sem] at hc)))
  · rw [if_neg hm] at h18
    refine DCall.of Try.func51 sf51 hb51 (Nat.le_of_ble_eq_true rfl) (okRes_nil fun _ => rfl) ?_; simp only [s51, idxs, Nat.reduceAdd]
    repeat' (first
    | (with_reducible refine DW.seq ?_)
    | (with_reducible refine DW.block ?_)
    | (with_reducible refine DW.skip ?_)
    | (with_reducible refine DW.exit ?_)
    | (with_reducible refine DW.ret ?_)
    | (with_reducible refine DW.reg ?_)
    | (refine DW.dreg rfl (WF.of (by first | rfl | simp (disch := omega) only [go_sem, Nat.reduceLT, Nat.reduceLeDiff, Nat.reduceAdd, Nat.reduceMul, Nat.reduceEqDiff, ↓reduceIte, reduceCtorEq, Nat.reduceBEq, Nat.reduceBNe, Nat.reducePow, Int.reduceLE, Int.reduceLT, Int.reduceNeg, Int.reduceToNat, Int.reduceEq, Int.reduceAdd, Int.reduceSub, Int.reduceMul, Int.reduceBEq, Int.reduceBNe, Blk.men, Blk.keysIn])) ?_)
    | (simp (disch := omega) only [go_sem, Nat.reduceLT, Nat.reduceLeDiff, Nat.reduceAdd, Nat.reduceMul, Nat.reduceEqDiff, ↓reduceIte, reduceCtorEq, Nat.reduceBEq, Nat.reduceBNe, Nat.reducePow, Int.reduceLE, Int.reduceLT, Int.reduceNeg, Int.reduceToNat, Int.reduceEq, Int.reduceAdd, Int.reduceSub, Int.reduceMul, Int.reduceBEq, Int.reduceBNe, Blk.men, Blk.keysIn])
    | (exact retS_of rfl rfl rfl)
    | (refine DW.cond_tt rfl ?_)
    | (refine call_c (c16 b1 (planN x) hpl) (by decide) ?_)
    | (refine call_c (c38 b2 (nL (fromsN x)) hfl) (by decide) ?_)
    | (refine DW.cond_ff rfl ?_)
    | (refine DW.cond rfl ?_ ?_ <;> intro hc <;> (try simp only [go_sem] at hc))
    | (refine g_split ?_ ?_ <;> intro hc <;> (try simp only [hc]) <;> (try simp only [go_sem] at hc)))
    (refine call_r (c48o b3 looks (by omega) 15) (by decide) (by first | rfl | simp (disch := omega) only [go_sem, Nat.reduceLT, Nat.reduceLeDiff, Nat.reduceAdd, Nat.reduceMul, Nat.reduceEqDiff, ↓reduceIte, reduceCtorEq, Nat.reduceBEq, Nat.reduceBNe, Nat.reducePow, Int.reduceLE, Int.reduceLT, Int.reduceNeg, Int.reduceToNat, Int.reduceEq, Int.reduceAdd, Int.reduceSub, Int.reduceMul, Int.reduceBEq, Int.reduceBNe, Blk.men, Blk.keysIn]) (by first | rfl | simp (disch := omega) only [go_sem, Nat.reduceLT, Nat.reduceLeDiff, Nat.reduceAdd, Nat.reduceMul, Nat.reduceEqDiff, ↓reduceIte, reduceCtorEq, Nat.reduceBEq, Nat.reduceBNe, Nat.reducePow, Int.reduceLE, Int.reduceLT, Int.reduceNeg, Int.reduceToNat, Int.reduceEq, Int.reduceAdd, Int.reduceSub, Int.reduceMul, Int.reduceBEq, Int.reduceBNe, Blk.men, Blk.keysIn]) ?_; simp (disch := omega) only [go_sem, Nat.reduceLT, Nat.reduceLeDiff, Nat.reduceAdd, Nat.reduceMul, Nat.reduceEqDiff, ↓reduceIte, reduceCtorEq, Nat.reduceBEq, Nat.reduceBNe, Nat.reducePow, Int.reduceLE, Int.reduceLT, Int.reduceNeg, Int.reduceToNat, Int.reduceEq, Int.reduceAdd, Int.reduceSub, Int.reduceMul, Int.reduceBEq, Int.reduceBNe, Blk.men, Blk.keysIn])
    repeat' (first
    | (with_reducible refine DW.seq ?_)
    | (with_reducible refine DW.block ?_)
    | (with_reducible refine DW.skip ?_)
    | (with_reducible refine DW.exit ?_)
    | (with_reducible refine DW.ret ?_)
    | (with_reducible refine DW.reg ?_)
    | (refine DW.dreg rfl (WF.of (by first | rfl | simp (disch := omega) only [go_sem, Nat.reduceLT, Nat.reduceLeDiff, Nat.reduceAdd, Nat.reduceMul, Nat.reduceEqDiff, ↓reduceIte, reduceCtorEq, Nat.reduceBEq, Nat.reduceBNe, Nat.reducePow, Int.reduceLE, Int.reduceLT, Int.reduceNeg, Int.reduceToNat, Int.reduceEq, Int.reduceAdd, Int.reduceSub, Int.reduceMul, Int.reduceBEq, Int.reduceBNe, Blk.men, Blk.keysIn])) ?_)
    | (simp (disch := omega) only [go_sem, Nat.reduceLT, Nat.reduceLeDiff, Nat.reduceAdd, Nat.reduceMul, Nat.reduceEqDiff, ↓reduceIte, reduceCtorEq, Nat.reduceBEq, Nat.reduceBNe, Nat.reducePow, Int.reduceLE, Int.reduceLT, Int.reduceNeg, Int.reduceToNat, Int.reduceEq, Int.reduceAdd, Int.reduceSub, Int.reduceMul, Int.reduceBEq, Int.reduceBNe, Blk.men, Blk.keysIn])
    | (exact retS_of rfl rfl rfl)
    | (refine DW.cond_tt rfl ?_)
    | (refine call_c (h18) (by decide) ?_)
    | (refine DW.cond_ff rfl ?_)
    | (refine DW.cond rfl ?_ ?_ <;> intro hc <;> (try simp only [go_sem] at hc))
    | (refine g_split ?_ ?_ <;> intro hc <;> (try simp only [hc]) <;> (try simp only [go_sem] at hc)))
end Go.Dw.Seat
end
section
set_option linter.unusedSimpArgs false
set_option maxRecDepth 100000
namespace Go.Dw.Seat
open Go Go.Dw Go.Proofs Go.IntWalk
theorem c9a (b b1 : Bool) (x : Line) (by' : List B3) (other : B3) (hx : x.ok) (hb : ∀ v ∈ by', v.ok) (hm : other.ok) (h7 : nxErr (planN x) (nL (fromsN x)) (seenN x (truthN x) by') 12 = 7) :
    DCall Try.prog 9 [dL b x, dV b1 by', .agg [d8 other.v0, d8 other.v1, d8 other.v2]] [] (bD true) [] := by
  have hln := nozP_len x
  have hst := x.st_in
  have hpl : (nL (nozP x)).length ≤ 2 ^ 36 := by rw [nL_length]; omega
  have hfl : (nL (fromsN x)).length ≤ 2 ^ 36 := by simp [fromsN, nL]
  have hsl := truthN_len x
  have hss : (truthN x).length ≤ 2 ^ 36 := by omega
  have hll := seen_len x (truthN x) by'
  have hls : (seenN x (truthN x) by').length ≤ 2 ^ 36 := by omega
  have hok := seen_ok (x := x) (s := truthN x) (by' := by')
  have hin := truth_in x by'
  have h18 := c18 false false (planN x) (nL (fromsN x)) (seenN x (truthN x) by') hpl hfl hls
  have h26 := c26 false false (planN x) (nL (fromsN x)) (seenN x (truthN x) by') 12 hpl hfl hls
  have hxl := exOut_len (x := planN x) (froms := nL (fromsN x)) (looks := seenN x (truthN x) by')
  rw [exErr_one x (by omega) hok hin, exOut_line x (by omega) hok] at h18
  rw [exOut_line x (by omega) hok] at hxl
  have hnx := next_ok x (by omega) hok hin other
  have hpo := place_ok x (truthN x) other
  have hpof : lookOkI (planN x) (placeN x (truthN x) other).flip = true := hpo
  have h47b := c47 false false true x (truthN x) [other] hss (by simpa using hm)
  have hone : seenN x (truthN x) [other] = [placeN x (truthN x) other] := rfl
  rw [hone] at h47b
  have hb44 := c44 b x hx
  have hb46 := c46 b false x hx
  have hb47 := c47 false false b1 x (truthN x) by' hss hb
  have h51 := fun (p1 p2 p3 b1 b2 b3 : Bool) (o : Look) (ho : lookOkI (planN x) o = true) => c51 p1 p2 p3 b1 b2 b3 x (seenN x (truthN x) by') o hll hok ho
  have hfo := leave_flip x (lineX x (seenN x (truthN x) by')) (placeN x (truthN x) other)
  have hfa := leave_flip x (lineX x (seenN x (truthN x) by')) (nxAt (planN x) (nL (fromsN x)) (seenN x (truthN x) by') 12)
  obtain ⟨hn7, hn0⟩ := hnx
  generalize nxAt (planN x) (nL (fromsN x)) (seenN x (truthN x) by') 12 = ac at *
  generalize nxMost (planN x) (nL (fromsN x)) (seenN x (truthN x) by') 12 = most at *
  generalize nxErr (planN x) (nL (fromsN x)) (seenN x (truthN x) by') 12 = e at *
  generalize lineX x (seenN x (truthN x) by') = X at *
  generalize placeN x (truthN x) other = o at *
  generalize hgl : seenN x (truthN x) by' = looks at *
  generalize truthN x = s at *
  have h51o := h51 true true true false false false o hpo
  have h51f := h51 true true true false false false o.flip hpof
  obtain ⟨h1, h2, h3⟩ := hn7 h7
  subst h7
  subst h1
  subst h2
  generalize leaveN x X o = w1 at *
  generalize leaveN x X o.flip = w2 at *
  generalize X.length = m at *
  have d1 : (((w1 : Int) + (w2 : Int)) != (m : Int)) = false := by rw [bne_eq_false_iff_eq]; omega
  have d2 : ((w1 : Int) == (m : Int)) = true := by rw [beq_iff_eq]; omega
  refine DCall.of Try.func9 sf9 hb9 (Nat.le_of_ble_eq_true rfl) (okRes_nil fun _ => rfl) ?_; simp only [s9, idxs, Nat.reduceAdd]
  repeat' (first
    | (with_reducible refine DW.seq ?_)
    | (with_reducible refine DW.block ?_)
    | (with_reducible refine DW.skip ?_)
    | (with_reducible refine DW.exit ?_)
    | (with_reducible refine DW.ret ?_)
    | (with_reducible refine DW.reg ?_)
    | (refine DW.dreg rfl (WF.of (by first | rfl | simp (disch := omega) only [go_sem, Nat.reduceLT, Nat.reduceLeDiff, Nat.reduceAdd, Nat.reduceMul, Nat.reduceEqDiff, ↓reduceIte, reduceCtorEq, Nat.reduceBEq, Nat.reduceBNe, Nat.reducePow, Int.reduceLE, Int.reduceLT, Int.reduceNeg, Int.reduceToNat, Int.reduceEq, Int.reduceAdd, Int.reduceSub, Int.reduceMul, Int.reduceBEq, Int.reduceBNe, Blk.men, Blk.keysIn, d1, d2])) ?_)
    | (refine DW.ord rfl (WF.of (by first | rfl | simp (disch := omega) only [go_sem, Nat.reduceLT, Nat.reduceLeDiff, Nat.reduceAdd, Nat.reduceMul, Nat.reduceEqDiff, ↓reduceIte, reduceCtorEq, Nat.reduceBEq, Nat.reduceBNe, Nat.reducePow, Int.reduceLE, Int.reduceLT, Int.reduceNeg, Int.reduceToNat, Int.reduceEq, Int.reduceAdd, Int.reduceSub, Int.reduceMul, Int.reduceBEq, Int.reduceBNe, Blk.men, Blk.keysIn, d1, d2])) ?_ ?_ ?_; rotate_left)
    | rfl
    | (with_reducible refine And.intro ?_ ?_)
    | (simp (disch := omega) only [go_sem, Nat.reduceLT, Nat.reduceLeDiff, Nat.reduceAdd, Nat.reduceMul, Nat.reduceEqDiff, ↓reduceIte, reduceCtorEq, Nat.reduceBEq, Nat.reduceBNe, Nat.reducePow, Int.reduceLE, Int.reduceLT, Int.reduceNeg, Int.reduceToNat, Int.reduceEq, Int.reduceAdd, Int.reduceSub, Int.reduceMul, Int.reduceBEq, Int.reduceBNe, Blk.men, Blk.keysIn, d1, d2])
    | (exact retS_of rfl rfl rfl)
    | (refine DW.cond_tt rfl ?_)
    | (refine call_c (hb44) (by decide) ?_)
    | (refine call_c (c45 b x hx) (by decide) ?_)
    | (refine call_c (hb46) (by decide) ?_)
    | (refine call_c (hb47) (by decide) ?_)
    | (refine call_c (c16 false (planN x) hpl) (by decide) ?_)
    | (refine call_c (c38 false (nL (fromsN x)) hfl) (by decide) ?_)
    | (refine call_c (c48 false looks hls) (by decide) ?_)
    | (refine call_c (h18) (by decide) ?_)
    | (refine call_c (h26) (by decide) ?_)
    | (refine call_c (h47b) (by decide) ?_)
    | (refine call_c (h51o) (by decide) ?_)
    | (refine call_c (h51f) (by decide) ?_)
    | (refine call_c (c15) (by decide) ?_)
    | (refine DW.cond_ff rfl ?_)
    | (refine DW.cond rfl ?_ ?_ <;> intro hc <;> (try simp only [go_sem] at hc))
    | (refine g_split ?_ ?_ <;> intro hc <;> (try simp only [hc]) <;> (try simp only [go_sem] at hc)))
set_option maxHeartbeats 800000 in
theorem c9b (b b1 : Bool) (x : Line) (by' : List B3) (other : B3) (hx : x.ok) (hb : ∀ v ∈ by', v.ok) (hm : other.ok) (h7 : ¬ nxErr (planN x) (nL (fromsN x)) (seenN x (truthN x) by') 12 = 7) :
    DCall Try.prog 9 [dL b x, dV b1 by', .agg [d8 other.v0, d8 other.v1, d8 other.v2]] [] (bD true) [] := by
  have hln := nozP_len x
  have hst := x.st_in
  have hpl : (nL (nozP x)).length ≤ 2 ^ 36 := by rw [nL_length]; omega
  have hfl : (nL (fromsN x)).length ≤ 2 ^ 36 := by simp [fromsN, nL]
  have hsl := truthN_len x
  have hss : (truthN x).length ≤ 2 ^ 36 := by omega
  have hll := seen_len x (truthN x) by'
  have hls : (seenN x (truthN x) by').length ≤ 2 ^ 36 := by omega
  have hok := seen_ok (x := x) (s := truthN x) (by' := by')
  have hin := truth_in x by'
  have h18 := c18 false false (planN x) (nL (fromsN x)) (seenN x (truthN x) by') hpl hfl hls
  have h26 := c26 false false (planN x) (nL (fromsN x)) (seenN x (truthN x) by') 12 hpl hfl hls
  have hxl := exOut_len (x := planN x) (froms := nL (fromsN x)) (looks := seenN x (truthN x) by')
  rw [exErr_one x (by omega) hok hin, exOut_line x (by omega) hok] at h18
  rw [exOut_line x (by omega) hok] at hxl
  have hnx := next_ok x (by omega) hok hin other
  have hpo := place_ok x (truthN x) other
  have hpof : lookOkI (planN x) (placeN x (truthN x) other).flip = true := hpo
  have h47b := c47 false false true x (truthN x) [other] hss (by simpa using hm)
  have hone : seenN x (truthN x) [other] = [placeN x (truthN x) other] := rfl
  rw [hone] at h47b
  have hb44 := c44 b x hx
  have hb46 := c46 b false x hx
  have hb47 := c47 false false b1 x (truthN x) by' hss hb
  have h51 := fun (p1 p2 p3 b1 b2 b3 : Bool) (o : Look) (ho : lookOkI (planN x) o = true) => c51 p1 p2 p3 b1 b2 b3 x (seenN x (truthN x) by') o hll hok ho
  have hfo := leave_flip x (lineX x (seenN x (truthN x) by')) (placeN x (truthN x) other)
  have hfa := leave_flip x (lineX x (seenN x (truthN x) by')) (nxAt (planN x) (nL (fromsN x)) (seenN x (truthN x) by') 12)
  obtain ⟨hn7, hn0⟩ := hnx
  generalize nxAt (planN x) (nL (fromsN x)) (seenN x (truthN x) by') 12 = ac at *
  generalize nxMost (planN x) (nL (fromsN x)) (seenN x (truthN x) by') 12 = most at *
  generalize nxErr (planN x) (nL (fromsN x)) (seenN x (truthN x) by') 12 = e at *
  generalize lineX x (seenN x (truthN x) by') = X at *
  generalize placeN x (truthN x) other = o at *
  generalize hgl : seenN x (truthN x) by' = looks at *
  generalize truthN x = s at *
  have h51o := h51 true true true false false false o hpo
  have h51f := h51 true true true false false false o.flip hpof
  obtain ⟨h1, h2, h3, h4, h5, h6, h8, h9⟩ := hn0 h7
  subst h1
  obtain ⟨ab, an, as', ag⟩ := ac
  simp only at h2 h3 h4 h5
  subst h5
  have hao : lookOkI (planN x) ⟨ab, an, as', false⟩ = true := by
    simp only [lookOkI, Bool.and_eq_true, wthn_iff1, nL_length]; omega
  have haf : lookOkI (planN x) (Look.flip ⟨ab, an, as', false⟩) = true := hao
  have h51a := h51 true true true false false false _ hao
  have h51b := h51 true true true false false false _ haf
  simp only [Look.flip, Bool.not_false] at h51b h6 hfa
  generalize leaveN x X ⟨ab, an, as', false⟩ = y1 at *
  generalize leaveN x X ⟨ab, an, as', true⟩ = y2 at *
  generalize leaveN x X o = w1 at *
  generalize leaveN x X o.flip = w2 at *
  generalize X.length = m at *
  have d1 : (((w1 : Int) + (w2 : Int)) != (m : Int)) = false := by rw [bne_eq_false_iff_eq]; omega
  have d2 : (((y1 : Int) + (y2 : Int)) == (m : Int)) = true := by rw [beq_iff_eq]; omega
  have d3 : decide (ab < 0) = false := by rw [decide_eq_false_iff_not]; omega
  have d4 : decide (12 ≤ ab) = false := by rw [decide_eq_false_iff_not]; omega
  have d5 : decide (an < 0) = false := by rw [decide_eq_false_iff_not]; omega
  have d6 : decide (((nozP x).length : Int) ≤ an) = false := by rw [decide_eq_false_iff_not]; omega
  have d7 : decide (as' < 0) = false := by rw [decide_eq_false_iff_not]; omega
  have d8 : decide ((x.st : Int) ≤ as') = false := by rw [decide_eq_false_iff_not]; omega
  have d9 : decide (most < (m : Int)) = true := by rw [decide_eq_true_eq]; omega
  refine DCall.of Try.func9 sf9 hb9 (Nat.le_of_ble_eq_true rfl) (okRes_nil fun _ => rfl) ?_; simp only [s9, idxs, Nat.reduceAdd]
  repeat' (first
    | (with_reducible refine DW.seq ?_)
    | (with_reducible refine DW.block ?_)
    | (with_reducible refine DW.skip ?_)
    | (with_reducible refine DW.exit ?_)
    | (with_reducible refine DW.ret ?_)
    | (with_reducible refine DW.reg ?_)
    | (refine DW.dreg rfl (WF.of (by first | rfl | simp (disch := omega) only [go_sem, Nat.reduceLT, Nat.reduceLeDiff, Nat.reduceAdd, Nat.reduceMul, Nat.reduceEqDiff, ↓reduceIte, reduceCtorEq, Nat.reduceBEq, Nat.reduceBNe, Nat.reducePow, Int.reduceLE, Int.reduceLT, Int.reduceNeg, Int.reduceToNat, Int.reduceEq, Int.reduceAdd, Int.reduceSub, Int.reduceMul, Int.reduceBEq, Int.reduceBNe, Blk.men, Blk.keysIn])) ?_)
    | (refine DW.ord rfl (WF.of (by first | rfl | simp (disch := omega) only [go_sem, Nat.reduceLT, Nat.reduceLeDiff, Nat.reduceAdd, Nat.reduceMul, Nat.reduceEqDiff, ↓reduceIte, reduceCtorEq, Nat.reduceBEq, Nat.reduceBNe, Nat.reducePow, Int.reduceLE, Int.reduceLT, Int.reduceNeg, Int.reduceToNat, Int.reduceEq, Int.reduceAdd, Int.reduceSub, Int.reduceMul, Int.reduceBEq, Int.reduceBNe, Blk.men, Blk.keysIn])) ?_ ?_ ?_; rotate_left)
    | rfl
    | (with_reducible refine And.intro ?_ ?_)
    | (simp (disch := omega) only [go_sem, Nat.reduceLT, Nat.reduceLeDiff, Nat.reduceAdd, Nat.reduceMul, Nat.reduceEqDiff, ↓reduceIte, reduceCtorEq, Nat.reduceBEq, Nat.reduceBNe, Nat.reducePow, Int.reduceLE, Int.reduceLT, Int.reduceNeg, Int.reduceToNat, Int.reduceEq, Int.reduceAdd, Int.reduceSub, Int.reduceMul, Int.reduceBEq, Int.reduceBNe, Blk.men, Blk.keysIn])
    | (exact retS_of rfl rfl rfl)
    | (refine DW.cond_tt rfl ?_)
    | (refine call_c (hb44) (by decide) ?_)
    | (refine call_c (c45 b x hx) (by decide) ?_)
    | (refine call_c (hb46) (by decide) ?_)
    | (refine call_c (hb47) (by decide) ?_)
    | (refine DW.cond_ff rfl ?_)
    | (refine DW.cond rfl ?_ ?_ <;> intro hc <;> (try simp only [go_sem] at hc))
    | (refine g_split ?_ ?_ <;> intro hc <;> (try simp only [hc]) <;> (try simp only [go_sem] at hc)))
  repeat' (first
    | (with_reducible refine DW.seq ?_)
    | (with_reducible refine DW.block ?_)
    | (with_reducible refine DW.skip ?_)
    | (with_reducible refine DW.exit ?_)
    | (with_reducible refine DW.ret ?_)
    | (with_reducible refine DW.reg ?_)
    | (refine DW.dreg rfl (WF.of (by first | rfl | simp (disch := omega) only [go_sem, Nat.reduceLT, Nat.reduceLeDiff, Nat.reduceAdd, Nat.reduceMul, Nat.reduceEqDiff, ↓reduceIte, reduceCtorEq, Nat.reduceBEq, Nat.reduceBNe, Nat.reducePow, Int.reduceLE, Int.reduceLT, Int.reduceNeg, Int.reduceToNat, Int.reduceEq, Int.reduceAdd, Int.reduceSub, Int.reduceMul, Int.reduceBEq, Int.reduceBNe, Blk.men, Blk.keysIn])) ?_)
    | (refine DW.ord rfl (WF.of (by first | rfl | simp (disch := omega) only [go_sem, Nat.reduceLT, Nat.reduceLeDiff, Nat.reduceAdd, Nat.reduceMul, Nat.reduceEqDiff, ↓reduceIte, reduceCtorEq, Nat.reduceBEq, Nat.reduceBNe, Nat.reducePow, Int.reduceLE, Int.reduceLT, Int.reduceNeg, Int.reduceToNat, Int.reduceEq, Int.reduceAdd, Int.reduceSub, Int.reduceMul, Int.reduceBEq, Int.reduceBNe, Blk.men, Blk.keysIn])) ?_ ?_ ?_; rotate_left)
    | rfl
    | (with_reducible refine And.intro ?_ ?_)
    | (simp (disch := omega) only [go_sem, Nat.reduceLT, Nat.reduceLeDiff, Nat.reduceAdd, Nat.reduceMul, Nat.reduceEqDiff, ↓reduceIte, reduceCtorEq, Nat.reduceBEq, Nat.reduceBNe, Nat.reducePow, Int.reduceLE, Int.reduceLT, Int.reduceNeg, Int.reduceToNat, Int.reduceEq, Int.reduceAdd, Int.reduceSub, Int.reduceMul, Int.reduceBEq, Int.reduceBNe, Blk.men, Blk.keysIn])
    | (exact retS_of rfl rfl rfl)
    | (refine DW.cond_tt rfl ?_)
    | (refine call_c (c16 false (planN x) hpl) (by decide) ?_)
    | (refine call_c (c38 false (nL (fromsN x)) hfl) (by decide) ?_)
    | (refine call_c (c48 false looks hls) (by decide) ?_)
    | (refine call_c (h18) (by decide) ?_)
    | (refine call_c (h26) (by decide) ?_)
    | (refine DW.cond_ff rfl ?_)
    | (refine DW.cond rfl ?_ ?_ <;> intro hc <;> (try simp only [go_sem] at hc))
    | (refine g_split ?_ ?_ <;> intro hc <;> (try simp only [hc]) <;> (try simp only [go_sem] at hc)))
  repeat' (first
    | (with_reducible refine DW.seq ?_)
    | (with_reducible refine DW.block ?_)
    | (with_reducible refine DW.skip ?_)
    | (with_reducible refine DW.exit ?_)
    | (with_reducible refine DW.ret ?_)
    | (with_reducible refine DW.reg ?_)
    | (refine DW.dreg rfl (WF.of (by first | rfl | simp (disch := omega) only [go_sem, Nat.reduceLT, Nat.reduceLeDiff, Nat.reduceAdd, Nat.reduceMul, Nat.reduceEqDiff, ↓reduceIte, reduceCtorEq, Nat.reduceBEq, Nat.reduceBNe, Nat.reducePow, Int.reduceLE, Int.reduceLT, Int.reduceNeg, Int.reduceToNat, Int.reduceEq, Int.reduceAdd, Int.reduceSub, Int.reduceMul, Int.reduceBEq, Int.reduceBNe, Blk.men, Blk.keysIn])) ?_)
    | (refine DW.ord rfl (WF.of (by first | rfl | simp (disch := omega) only [go_sem, Nat.reduceLT, Nat.reduceLeDiff, Nat.reduceAdd, Nat.reduceMul, Nat.reduceEqDiff, ↓reduceIte, reduceCtorEq, Nat.reduceBEq, Nat.reduceBNe, Nat.reducePow, Int.reduceLE, Int.reduceLT, Int.reduceNeg, Int.reduceToNat, Int.reduceEq, Int.reduceAdd, Int.reduceSub, Int.reduceMul, Int.reduceBEq, Int.reduceBNe, Blk.men, Blk.keysIn])) ?_ ?_ ?_; rotate_left)
    | rfl
    | (with_reducible refine And.intro ?_ ?_)
    | (simp (disch := omega) only [go_sem, Nat.reduceLT, Nat.reduceLeDiff, Nat.reduceAdd, Nat.reduceMul, Nat.reduceEqDiff, ↓reduceIte, reduceCtorEq, Nat.reduceBEq, Nat.reduceBNe, Nat.reducePow, Int.reduceLE, Int.reduceLT, Int.reduceNeg, Int.reduceToNat, Int.reduceEq, Int.reduceAdd, Int.reduceSub, Int.reduceMul, Int.reduceBEq, Int.reduceBNe, Blk.men, Blk.keysIn])
    | (exact retS_of rfl rfl rfl)
    | (refine DW.cond_tt rfl ?_)
    | (refine call_c (h47b) (by decide) ?_)
    | (refine DW.cond_ff rfl ?_)
    | (refine DW.cond rfl ?_ ?_ <;> intro hc <;> (try simp only [go_sem] at hc))
    | (refine g_split ?_ ?_ <;> intro hc <;> (try simp only [hc]) <;> (try simp only [go_sem] at hc)))
  repeat' (first
    | (with_reducible refine DW.seq ?_)
    | (with_reducible refine DW.block ?_)
    | (with_reducible refine DW.skip ?_)
    | (with_reducible refine DW.exit ?_)
    | (with_reducible refine DW.ret ?_)
    | (with_reducible refine DW.reg ?_)
    | (refine DW.dreg rfl (WF.of (by first | rfl | simp (disch := omega) only [go_sem, Nat.reduceLT, Nat.reduceLeDiff, Nat.reduceAdd, Nat.reduceMul, Nat.reduceEqDiff, ↓reduceIte, reduceCtorEq, Nat.reduceBEq, Nat.reduceBNe, Nat.reducePow, Int.reduceLE, Int.reduceLT, Int.reduceNeg, Int.reduceToNat, Int.reduceEq, Int.reduceAdd, Int.reduceSub, Int.reduceMul, Int.reduceBEq, Int.reduceBNe, Blk.men, Blk.keysIn, d1, d3, d4, d5, d6, d7, d8])) ?_)
    | (refine DW.ord rfl (WF.of (by first | rfl | simp (disch := omega) only [go_sem, Nat.reduceLT, Nat.reduceLeDiff, Nat.reduceAdd, Nat.reduceMul, Nat.reduceEqDiff, ↓reduceIte, reduceCtorEq, Nat.reduceBEq, Nat.reduceBNe, Nat.reducePow, Int.reduceLE, Int.reduceLT, Int.reduceNeg, Int.reduceToNat, Int.reduceEq, Int.reduceAdd, Int.reduceSub, Int.reduceMul, Int.reduceBEq, Int.reduceBNe, Blk.men, Blk.keysIn, d1, d3, d4, d5, d6, d7, d8])) ?_ ?_ ?_; rotate_left)
    | rfl
    | (with_reducible refine And.intro ?_ ?_)
    | (simp (disch := omega) only [go_sem, Nat.reduceLT, Nat.reduceLeDiff, Nat.reduceAdd, Nat.reduceMul, Nat.reduceEqDiff, ↓reduceIte, reduceCtorEq, Nat.reduceBEq, Nat.reduceBNe, Nat.reducePow, Int.reduceLE, Int.reduceLT, Int.reduceNeg, Int.reduceToNat, Int.reduceEq, Int.reduceAdd, Int.reduceSub, Int.reduceMul, Int.reduceBEq, Int.reduceBNe, Blk.men, Blk.keysIn, d1, d3, d4, d5, d6, d7, d8])
    | (exact retS_of rfl rfl rfl)
    | (refine DW.cond_tt rfl ?_)
    | (refine call_c (h51o) (by decide) ?_)
    | (refine call_c (h51f) (by decide) ?_)
    | (refine DW.cond_ff rfl ?_)
    | (refine DW.cond rfl ?_ ?_ <;> intro hc <;> (try simp only [go_sem] at hc))
    | (refine g_split ?_ ?_ <;> intro hc <;> (try simp only [hc]) <;> (try simp only [go_sem] at hc)))
  have e1 : (if (y1 : Int) < (y2 : Int) then (y2 : Int) else (y1 : Int)) = most := by split <;> omega
  have e2 : decide (most ≤ if (w1 : Int) < (w2 : Int) then (w2 : Int) else (w1 : Int)) = true := by rw [decide_eq_true_eq]; split <;> omega
  have e3 : (most == most) = true := beq_self_eq_true most
  repeat' (first
    | (with_reducible refine DW.seq ?_)
    | (with_reducible refine DW.block ?_)
    | (with_reducible refine DW.skip ?_)
    | (with_reducible refine DW.exit ?_)
    | (with_reducible refine DW.ret ?_)
    | (with_reducible refine DW.reg ?_)
    | (refine DW.dreg rfl (WF.of (by first | rfl | simp (disch := omega) only [go_sem, Nat.reduceLT, Nat.reduceLeDiff, Nat.reduceAdd, Nat.reduceMul, Nat.reduceEqDiff, ↓reduceIte, reduceCtorEq, Nat.reduceBEq, Nat.reduceBNe, Nat.reducePow, Int.reduceLE, Int.reduceLT, Int.reduceNeg, Int.reduceToNat, Int.reduceEq, Int.reduceAdd, Int.reduceSub, Int.reduceMul, Int.reduceBEq, Int.reduceBNe, Blk.men, Blk.keysIn, d2, d9, e1, e2, e3])) ?_)
    | (refine DW.ord rfl (WF.of (by first | rfl | simp (disch := omega) only [go_sem, Nat.reduceLT, Nat.reduceLeDiff, Nat.reduceAdd, Nat.reduceMul, Nat.reduceEqDiff, ↓reduceIte, reduceCtorEq, Nat.reduceBEq, Nat.reduceBNe, Nat.reducePow, Int.reduceLE, Int.reduceLT, Int.reduceNeg, Int.reduceToNat, Int.reduceEq, Int.reduceAdd, Int.reduceSub, Int.reduceMul, Int.reduceBEq, Int.reduceBNe, Blk.men, Blk.keysIn, d2, d9, e1, e2, e3])) ?_ ?_ ?_; rotate_left)
    | rfl
    | (with_reducible refine And.intro ?_ ?_)
    | (simp (disch := omega) only [go_sem, Nat.reduceLT, Nat.reduceLeDiff, Nat.reduceAdd, Nat.reduceMul, Nat.reduceEqDiff, ↓reduceIte, reduceCtorEq, Nat.reduceBEq, Nat.reduceBNe, Nat.reducePow, Int.reduceLE, Int.reduceLT, Int.reduceNeg, Int.reduceToNat, Int.reduceEq, Int.reduceAdd, Int.reduceSub, Int.reduceMul, Int.reduceBEq, Int.reduceBNe, Blk.men, Blk.keysIn, d2, d9, e1, e2, e3])
    | (exact retS_of rfl rfl rfl)
    | (refine DW.cond_tt rfl ?_)
    | (refine call_c (h51a) (by decide) ?_)
    | (refine call_c (h51b) (by decide) ?_)
    | (refine call_c (c15) (by decide) ?_)
    | (refine DW.cond_ff rfl ?_)
    | (refine DW.cond rfl ?_ ?_ <;> intro hc <;> (try simp only [go_sem] at hc))
    | (refine g_split ?_ ?_ <;> intro hc <;> (try simp only [hc]) <;> (try simp only [go_sem] at hc)))
theorem c9 (b b1 : Bool) (x : Line) (by' : List B3) (other : B3) (hx : x.ok) (hb : ∀ v ∈ by', v.ok) (hm : other.ok) :
    DCall Try.prog 9 [dL b x, dV b1 by', .agg [d8 other.v0, d8 other.v1, d8 other.v2]] [] (bD true) [] := by
  by_cases h7 : nxErr (planN x) (nL (fromsN x)) (seenN x (truthN x) by') 12 = 7
  · exact c9a b b1 x by' other hx hb hm h7
  · exact c9b b b1 x by' other hx hb hm h7
end Go.Dw.Seat
end
section
set_option linter.unusedSimpArgs false
set_option maxRecDepth 100000
namespace Go.Dw.Seat
open Go Go.Dw Go.Proofs Go.ChangeShapes Go.WideShapes Go.ChangeAt Go.RowKit
theorem nextLifted (os : Os) (started : os.Started) (H : Type) (enc : TypeId × Value → H) :
    ReturnsInHanded {} Try.checked os 9 .any (Ytecgononbfgigaa.Rows.glueNextSpec.pre6 enc Try.prog Try.f9 Ytecgononbfgigaa.Rows.glueNextRow.domain false) (Ytecgononbfgigaa.Rows.glueNextSpec.post enc Try.prog Try.f9 false true false false) := by
  refine returnsInHanded_of_change (C := Try.checked) tOwn started (by kernel_rfl) Try.func9
    (ChangeSpec.witness6 (enc := enc) (C := Try.checked) false ⟨#[], #[.agg #[.int .u8 0, .slice none 0 0, .int .u8 0, .int .u8 0, .int .u8 0, .int .u8 0, .int .u8 0, .int .u8 0, .int .u8 0, .int .u8 0, .int .u8 0, .int .u8 0], .slice none 0 0, .agg #[.int .u8 0, .int .u8 0, .int .u8 0]], []⟩ 8 (by kernel_rfl) (by kernel_rfl) (by kernel_rfl) (by kernel_rfl)) ?_
  intro W base args ds gs before hval0 hW _ _
  have hval : ∀ (j : Nat) t v, Try.f9.params[j]? = some t → args[j]? = some v → Value.okWide Try.prog W .any base t v := hval0
  have hW' : DataW.Whole enc Try.prog Try.f9.params.toList [] false W args.toList ds gs before := hW
  obtain ⟨p, q, hA, hV, rfl, hfz, hnd⟩ := hW
  have hA : DataW.TrodAll enc Try.prog W 0 (fun _ => true) true [93, 94, 90] args.toList ds p := hA
  obtain ⟨rfl, rfl⟩ := trodVars_none hV
  obtain ⟨v0, vs0, d0, ds0, p0, q0, hargs, rfl, rfl, h0, r0⟩ := trodAll_cons hA
  obtain ⟨v1, vs1, d1, ds1, p1, q1, rfl, rfl, rfl, h1, r1⟩ := trodAll_cons r0
  obtain ⟨v2, vs2, d2, ds2, p2, q2, rfl, rfl, rfl, h2, r2⟩ := trodAll_cons r1
  obtain ⟨rfl, rfl, rfl⟩ := trodAll_nil r2
  obtain rfl : args = #[v0, v1, v2] := by cases args; simp_all
  obtain ⟨f93, hu93, _⟩ := structIs_spec st93
  obtain ⟨c0, rfl, _⟩ := okWide_struct hu93 (hval 0 93 v0 rfl rfl)
  obtain ⟨a1, l1, k1, rfl⟩ := okWide_slice u94 (hval 1 94 v1 rfl rfl)
  obtain ⟨c2, rfl, _⟩ := okWide_array u90 (hval 2 90 v2 rfl rfl)
  obtain ⟨fu0, h0⟩ := h0
  obtain ⟨fu1, h1⟩ := h1
  obtain ⟨fu2, h2⟩ := h2
  obtain ⟨ln, hlo, hln⟩ := rd_Line h0
  have hln : RepVs W A0 [.v (.int .u8 ln.steps), .sl false 1 (rows eU ln.noz), .v (.int .u8 ln.f0), .v (.int .u8 ln.f1), .v (.int .u8 ln.f2), .v (.int .u8 ln.a0), .v (.int .u8 ln.a1), .v (.int .u8 ln.a2), .v (.int .u8 ln.b0), .v (.int .u8 ln.b1), .v (.int .u8 ln.b2), .v (.int .u8 ln.many)] c0.toList := by simpa [Value.cells] using hln
  obtain ⟨bs, bv, e1, hbs, hbl, hbo⟩ := rd_B3s h1
  have e1 : bv = Value.slice a1 l1 k1 := by simpa [Value.cells] using e1.symm
  subst e1
  obtain ⟨mo, hmo⟩ := rd_B3 h2
  have hmv : RepVs W A0 (eV mo.1) c2.toList := by
    have e : c2.toList = [.int .u8 mo.1.v0, .int .u8 mo.1.v1, .int .u8 mo.1.v2] := by simpa [Value.cells] using hmo
    rw [e]; exact rep_B3 mo.1
  refine ((c9 false false ln bs mo.1 hlo hbo mo.2).calls (W := W) (vs := [.agg c0, .slice a1 l1 k1, .agg c2]) (fun G => ?_)).mono ?_
  · exact ⟨_, _, rfl, ⟨c0, rfl, RepDs.ofVs hln⟩, _, _, rfl, hbs, _, _, rfl, ⟨c2, rfl, RepDs.ofVs hmv⟩, rfl⟩
  · rintro e W' ⟨v, rfl, ⟨G', A', hr⟩, hb⟩
    obtain ⟨rfl, _⟩ := hr
    exact ⟨_, rfl, post_true tLaid (by decide +kernel) hW' hb rfl rfl u4 rfl rfl rfl⟩
theorem nextHolds : Ytecgononbfgigaa.Rows.glueNextRow.holds Ytecgononbfgigaa.Try.pinned (OpenSpec.ofChange Ytecgononbfgigaa.Rows.glueNextSpec) :=
  OpenClaim.holds_of_wide 9 Try.f9 rfl rfl rfl rfl rfl rfl rfl ⟨rfl, rfl, rfl, rfl, rfl⟩ rfl rfl rfl rfl rfl (by kernel_rfl) Try.func9 (by kernel_rfl)
    (of_decide_eq_true (by kernel_rfl)) (by unfold Func.isWrapper; first | (rw [if_pos (by decide +kernel)]; kernel_rfl) | (rw [if_neg (by decide +kernel)]; exact ⟨rfl, rfl⟩))
    (fun os started H enc _ => nextLifted os started H enc)
end Go.Dw.Seat
namespace Go.Proofs.Ytecgononbfgigaa
theorem nextSaid : Rows.GlueNextSaid := Go.Dw.Seat.nextHolds
end Go.Proofs.Ytecgononbfgigaa
end
