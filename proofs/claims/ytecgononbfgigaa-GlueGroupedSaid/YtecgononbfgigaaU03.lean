/- The law GlueGrouped returns true for every line in bytes, all other states in bytes and every number of boxes, and changes nothing that was there before: the full statement GlueGroupedSaid, without conditions.
   The walk of each function is in the texts before; that states are in one group just if no place tells them apart is a plain law. -/
import Derived.Test.YtecgononbfgigaaU02
import Derived.Test.YtecgononbfgigaaRows
import Derived.ProofKit
import Derived.OpenShut
set_option linter.unusedVariables false
set_option linter.unusedSimpArgs false
section
set_option linter.unusedSimpArgs false
set_option maxRecDepth 100000
namespace Go.Dw.Seat
open Go Go.Dw Go.Proofs Go.IntWalk
theorem c36b (p q p' q' : Bool) (a b : List (List Int)) (ha : a.length ≤ 2 ^ 36) (hb : b.length ≤ 2 ^ 36) (ha' : ∀ x ∈ a, x.length ≤ 2 ^ 36) (hb' : ∀ x ∈ b, x.length ≤ 2 ^ 36) : DCall Try.prog 36 [.c (.sl p 1 (rows (eGb p') a)), .c (.sl q 1 (rows (eGb q') b))] [] (bD (decide (a = b))) [] := by
  refine DCall.of Try.func36 sf36 hb36 (Nat.le_of_ble_eq_true rfl) (okRes_nil fun _ => rfl) ?_; simp only [s36, Mv, Sg, Ld, Fa, Xt, Ix, Ln, Cl, Oo, Og, idxs, Nat.reduceAdd]
  repeat' (first
    | (with_reducible refine DW.seq ?_)
    | (with_reducible refine DW.block ?_)
    | (with_reducible refine DW.skip ?_)
    | (with_reducible refine DW.exit ?_)
    | (with_reducible refine DW.ret ?_)
    | (with_reducible refine DW.reg ?_)
    | (refine DW.dreg rfl (WF.of (by first | rfl | simp (disch := omega) only [go_sem, Nat.reduceLT, Nat.reduceLeDiff, Nat.reduceAdd, Nat.reduceMul, Nat.reduceEqDiff, ↓reduceIte, reduceCtorEq, Nat.reduceBEq, Nat.reduceBNe, Nat.reducePow, Int.reduceLE, Int.reduceLT, Int.reduceNeg, Int.reduceToNat, Int.reduceEq, Int.reduceAdd, Int.reduceSub, Int.reduceMul, Int.reduceBEq, Int.reduceBNe, Blk.men, Blk.keysIn])) ?_)
    | (simp (disch := omega) only [go_sem, Nat.reduceLT, Nat.reduceLeDiff, Nat.reduceAdd, Nat.reduceMul, Nat.reduceEqDiff, ↓reduceIte, reduceCtorEq, Nat.reduceBEq, Nat.reduceBNe, Nat.reducePow, Int.reduceLE, Int.reduceLT, Int.reduceNeg, Int.reduceToNat, Int.reduceEq, Int.reduceAdd, Int.reduceSub, Int.reduceMul, Int.reduceBEq, Int.reduceBNe, Blk.men, Blk.keysIn])
    | (exact retS_of rfl rfl rfl)
    | (refine DW.cond_tt rfl ?_)
    | (refine DW.cond_ff rfl ?_)
    | (refine DW.cond rfl ?_ ?_ <;> intro hc <;> (try simp only [go_sem] at hc))
    | (refine g_split ?_ ?_ <;> intro hc <;> (try simp only [hc]) <;> (try simp only [go_sem] at hc)))
  · refine retS_of rfl ?_ rfl; simp only [oneD, St.op, get, Nat.reduceEqDiff, ↓reduceIte, Option.getD_some, bD, dI]
    have : a ≠ b := by rintro rfl; simp_all
    simp only [this, decide_false]
  refine DW.loop (ι := { i : Nat // i ≤ a.length ∧ ∀ j, j < i → a[j]? = b[j]? }) (fun i => ⟨27, [(5, dI i.1), (1, .c (.sl q 1 (rows (eGb q') b))), (0, .c (.sl p 1 (rows (eGb p') a)))], []⟩) (fun i => a.length - i.1) ⟨0, Nat.zero_le _, fun j h => by omega⟩ ?_ ?_
  · refine Ent.to ?_ ?_ <;> simp (disch := omega) only [wkT_cons, wkX_cons, wkT_nil, wkX_nil, get, Nat.reduceEqDiff, ↓reduceIte, ex_some, wk_self, wk_top, wk_nil, wkB_self, and_self, dI, i64_in, and_true, true_and, Int.natCast_add, Int.natCast_one, Int.ofNat_zero, Int.natCast_zero]
  rintro ⟨i, hi, hij⟩
  rcases at_or a i hi with ⟨v, hv, hlt, hd⟩ | ⟨he, hd⟩
  · obtain ⟨u, hu⟩ : ∃ u, b[i]? = some u := getE (by omega)
    repeat' (first
    | (with_reducible refine DW.seq ?_)
    | (with_reducible refine DW.block ?_)
    | (with_reducible refine DW.skip ?_)
    | (with_reducible refine DW.exit ?_)
    | (with_reducible refine DW.ret ?_)
    | (with_reducible refine DW.reg ?_)
    | (refine DW.dreg rfl (WF.of (by first | rfl | simp (disch := omega) only [go_sem, Nat.reduceLT, Nat.reduceLeDiff, Nat.reduceAdd, Nat.reduceMul, Nat.reduceEqDiff, ↓reduceIte, reduceCtorEq, Nat.reduceBEq, Nat.reduceBNe, Nat.reducePow, Int.reduceLE, Int.reduceLT, Int.reduceNeg, Int.reduceToNat, Int.reduceEq, Int.reduceAdd, Int.reduceSub, Int.reduceMul, Int.reduceBEq, Int.reduceBNe, Blk.men, Blk.keysIn, hd, hv, hu])) ?_)
    | (simp (disch := omega) only [go_sem, Nat.reduceLT, Nat.reduceLeDiff, Nat.reduceAdd, Nat.reduceMul, Nat.reduceEqDiff, ↓reduceIte, reduceCtorEq, Nat.reduceBEq, Nat.reduceBNe, Nat.reducePow, Int.reduceLE, Int.reduceLT, Int.reduceNeg, Int.reduceToNat, Int.reduceEq, Int.reduceAdd, Int.reduceSub, Int.reduceMul, Int.reduceBEq, Int.reduceBNe, Blk.men, Blk.keysIn, hd, hv, hu])
    | (exact retS_of rfl rfl rfl)
    | (refine DW.cond_tt rfl ?_)
    | (refine DW.cond_ff rfl ?_)
    | (refine DW.cond rfl ?_ ?_ <;> intro hc <;> (try simp only [go_sem] at hc))
    | (refine g_split ?_ ?_ <;> intro hc <;> (try simp only [hc]) <;> (try simp only [go_sem] at hc)))
    (refine call_c (c21 p' q' v u (ha' v (List.mem_of_getElem? hv)) (hb' u (List.mem_of_getElem? hu))) (by decide) ?_; simp (disch := omega) only [go_sem, Nat.reduceLT, Nat.reduceLeDiff, Nat.reduceAdd, Nat.reduceMul, Nat.reduceEqDiff, ↓reduceIte, reduceCtorEq, Nat.reduceBEq, Nat.reduceBNe, Nat.reducePow, Int.reduceLE, Int.reduceLT, Int.reduceNeg, Int.reduceToNat, Int.reduceEq, Int.reduceAdd, Int.reduceSub, Int.reduceMul, Int.reduceBEq, Int.reduceBNe, Blk.men, Blk.keysIn])
    repeat' (first
    | (with_reducible refine DW.seq ?_)
    | (with_reducible refine DW.block ?_)
    | (with_reducible refine DW.skip ?_)
    | (with_reducible refine DW.exit ?_)
    | (with_reducible refine DW.ret ?_)
    | (with_reducible refine DW.reg ?_)
    | (refine DW.dreg rfl (WF.of (by first | rfl | simp (disch := omega) only [go_sem, Nat.reduceLT, Nat.reduceLeDiff, Nat.reduceAdd, Nat.reduceMul, Nat.reduceEqDiff, ↓reduceIte, reduceCtorEq, Nat.reduceBEq, Nat.reduceBNe, Nat.reducePow, Int.reduceLE, Int.reduceLT, Int.reduceNeg, Int.reduceToNat, Int.reduceEq, Int.reduceAdd, Int.reduceSub, Int.reduceMul, Int.reduceBEq, Int.reduceBNe, Blk.men, Blk.keysIn])) ?_)
    | (simp (disch := omega) only [go_sem, Nat.reduceLT, Nat.reduceLeDiff, Nat.reduceAdd, Nat.reduceMul, Nat.reduceEqDiff, ↓reduceIte, reduceCtorEq, Nat.reduceBEq, Nat.reduceBNe, Nat.reducePow, Int.reduceLE, Int.reduceLT, Int.reduceNeg, Int.reduceToNat, Int.reduceEq, Int.reduceAdd, Int.reduceSub, Int.reduceMul, Int.reduceBEq, Int.reduceBNe, Blk.men, Blk.keysIn])
    | (exact retS_of rfl rfl rfl)
    | (refine DW.cond_tt rfl ?_)
    | (refine DW.cond_ff rfl ?_)
    | (refine DW.cond rfl ?_ ?_ <;> intro hc <;> (try simp only [go_sem] at hc))
    | (refine g_split ?_ ?_ <;> intro hc <;> (try simp only [hc]) <;> (try simp only [go_sem] at hc)))
    · refine retS_of rfl ?_ rfl; simp only [oneD, St.op, get, Nat.reduceEqDiff, ↓reduceIte, Option.getD_some, bD, dI]
      have : a ≠ b := by rintro rfl; simp_all
      simp only [this, decide_false]
    · refine ⟨⟨i + 1, by omega, upto1 hij (by rw [hv, hu]; congr 1)⟩, ?_, Ent.to ?_ ?_⟩ <;> first | (show _ < _; (try simp only); omega) | (simp (disch := omega) only [wkT_cons, wkX_cons, wkT_nil, wkX_nil, get, Nat.reduceEqDiff, ↓reduceIte, ex_some, wk_self, wk_top, wk_nil, wkB_self, and_self, dI, i64_in, and_true, true_and, Int.natCast_add, Int.natCast_one, Int.ofNat_zero, Int.natCast_zero])
  · repeat' (first
    | (with_reducible refine DW.seq ?_)
    | (with_reducible refine DW.block ?_)
    | (with_reducible refine DW.skip ?_)
    | (with_reducible refine DW.exit ?_)
    | (with_reducible refine DW.ret ?_)
    | (with_reducible refine DW.reg ?_)
    | (refine DW.dreg rfl (WF.of (by first | rfl | simp (disch := omega) only [go_sem, Nat.reduceLT, Nat.reduceLeDiff, Nat.reduceAdd, Nat.reduceMul, Nat.reduceEqDiff, ↓reduceIte, reduceCtorEq, Nat.reduceBEq, Nat.reduceBNe, Nat.reducePow, Int.reduceLE, Int.reduceLT, Int.reduceNeg, Int.reduceToNat, Int.reduceEq, Int.reduceAdd, Int.reduceSub, Int.reduceMul, Int.reduceBEq, Int.reduceBNe, Blk.men, Blk.keysIn, hd])) ?_)
    | (simp (disch := omega) only [go_sem, Nat.reduceLT, Nat.reduceLeDiff, Nat.reduceAdd, Nat.reduceMul, Nat.reduceEqDiff, ↓reduceIte, reduceCtorEq, Nat.reduceBEq, Nat.reduceBNe, Nat.reducePow, Int.reduceLE, Int.reduceLT, Int.reduceNeg, Int.reduceToNat, Int.reduceEq, Int.reduceAdd, Int.reduceSub, Int.reduceMul, Int.reduceBEq, Int.reduceBNe, Blk.men, Blk.keysIn, hd])
    | (exact retS_of rfl rfl rfl)
    | (refine DW.cond_tt rfl ?_)
    | (refine DW.cond_ff rfl ?_)
    | (refine DW.cond rfl ?_ ?_ <;> intro hc <;> (try simp only [go_sem] at hc))
    | (refine g_split ?_ ?_ <;> intro hc <;> (try simp only [hc]) <;> (try simp only [go_sem] at hc)))
    refine retS_of rfl ?_ rfl; simp only [oneD, St.op, get, Nat.reduceEqDiff, ↓reduceIte, Option.getD_some, bD, dI]
    have : a = b := ext_upto (by omega) (he ▸ hij)
    simp only [this, decide_true]
theorem k1 : boxOut ⟨6, [14, 18]⟩ [⟨0, 2, 0⟩, ⟨1, 2, 5⟩] 5 = [30, 54] ∧ boxErr ⟨6, [14, 18]⟩ [⟨0, 2, 0⟩, ⟨1, 2, 5⟩] 5 = 0 := ⟨by kernel_rfl, by kernel_rfl⟩
theorem k2 : boxOut ⟨6, [14, 18]⟩ [⟨0, 1, 3⟩, ⟨1, 3, 0⟩] 2 = [14, 0] ∧ boxErr ⟨6, [14, 18]⟩ [⟨0, 1, 3⟩, ⟨1, 3, 0⟩] 2 = 0 := ⟨by kernel_rfl, by kernel_rfl⟩
theorem k3 : (exOut ⟨6, [14, 18]⟩ [0] []).length = 25 ∧ exErr ⟨6, [14, 18]⟩ [0] [] = 0 := ⟨by kernel_rfl, by kernel_rfl⟩
theorem k4 : (exOut ⟨6, [14, 18]⟩ [0] [⟨0, 0, 1, false⟩]).length = 10 ∧ exErr ⟨6, [14, 18]⟩ [0] [⟨0, 0, 1, false⟩] = 0 ∧ (exOut ⟨6, [14, 18]⟩ [0] [⟨0, 0, 1, false⟩]).headD [] = [⟨0, 1, 0⟩] := ⟨by kernel_rfl, by kernel_rfl, by kernel_rfl⟩
theorem k5 : sureOut ⟨6, [14, 18]⟩ [0] [⟨0, 0, 1, false⟩] = [0] := by kernel_rfl
theorem k6 : nxAt ⟨6, [14, 18]⟩ [0] [⟨0, 0, 1, false⟩] 1 = ⟨0, 0, 2, false⟩ ∧ nxMost ⟨6, [14, 18]⟩ [0] [⟨0, 0, 1, false⟩] 1 = 5 ∧ nxErr ⟨6, [14, 18]⟩ [0] [⟨0, 0, 1, false⟩] 1 = 0 := ⟨by kernel_rfl, by kernel_rfl, by kernel_rfl⟩
theorem k7 : pressErr ⟨60, 10, 5⟩ ⟨0, 10, 20, 40⟩ = 0 ∧ pressLo ⟨60, 10, 5⟩ ⟨0, 10, 20, 40⟩ = 60 ∧ pressHi ⟨60, 10, 5⟩ ⟨0, 10, 20, 40⟩ = 72 := ⟨by kernel_rfl, by kernel_rfl, by kernel_rfl⟩
def kRooms : List Room := [⟨0, 10, 20, 40⟩, ⟨0, 10, 20, 40⟩, ⟨0, 10, 20, 40⟩, ⟨0, 10, 20, 40⟩]
theorem k8 : opOut (pressLo ⟨60, 10, 5⟩) ⟨60, 10, 5⟩ kRooms [59, 60, 71, 72] = [0] ∧ opOut (pressHi ⟨60, 10, 5⟩) ⟨60, 10, 5⟩ kRooms [59, 60, 71, 72] = [0, 1, 2] ∧ opErr ⟨60, 10, 5⟩ kRooms [59, 60, 71, 72] = 0 := ⟨by kernel_rfl, by kernel_rfl, by kernel_rfl⟩
theorem k9 : alOut ⟨6, [14, 18]⟩ [[], [⟨0, 4, 0⟩], [⟨0, 4, 2⟩]] 1 = [[0, 1, 2]] ∧ alErr ⟨6, [14, 18]⟩ [[], [⟨0, 4, 0⟩], [⟨0, 4, 2⟩]] 1 = 0 := ⟨by kernel_rfl, by kernel_rfl⟩
theorem k10 : apAt ⟨6, [14, 18]⟩ [⟨0, 4, 0⟩] [] 2 = ⟨1, 0, 1, false⟩ ∧ apErr ⟨6, [14, 18]⟩ [⟨0, 4, 0⟩] [] 2 = 0 := ⟨by kernel_rfl, by kernel_rfl⟩
end Go.Dw.Seat
end
section
set_option linter.unusedSimpArgs false
set_option maxRecDepth 100000
namespace Go.Dw.Seat
open Go Go.Dw Go.Proofs Go.IntWalk
set_option maxHeartbeats 4000000 in
theorem c15 : DCall Try.prog 15 [] [] (bD true) [] := by
  have h55a := c55 true ⟨6, [14, 18]⟩ [⟨0, 2, 0⟩, ⟨1, 2, 5⟩] 5 (by decide) (by decide)
  rw [k1.1, k1.2] at h55a
  have h55b := c55 true ⟨6, [14, 18]⟩ [⟨0, 1, 3⟩, ⟨1, 3, 0⟩] 2 (by decide) (by decide)
  rw [k2.1, k2.2] at h55b
  have h18a := (c18 true true ⟨6, [14, 18]⟩ [0] [] (by decide) (by decide) (by decide)).weakA (l := [dP false ⟨6, [14, 18]⟩, dIs true [0], .c (.v (.slice none 0 0))])
    (.cons (.inl rfl) (.cons (.inl rfl) (.cons (.inr ⟨_, _, rfl, rfl, .nil true 4⟩) .nil)))
  rw [k3.1, k3.2] at h18a
  have h18b := c18 true true ⟨6, [14, 18]⟩ [0] [⟨0, 0, 1, false⟩] (by decide) (by decide) (by decide)
  rw [k4.1, k4.2.1, k4.2.2] at h18b
  have h19 := c19 true true ⟨6, [14, 18]⟩ [0] [⟨0, 0, 1, false⟩] (by decide) (by decide) (by decide)
  rw [k5, k4.2.1] at h19
  have h26 := c26 true true ⟨6, [14, 18]⟩ [0] [⟨0, 0, 1, false⟩] 1 (by decide) (by decide) (by decide)
  rw [k6.1, k6.2.1, k6.2.2] at h26
  have h41 := c41 ⟨60, 10, 5⟩ ⟨0, 10, 20, 40⟩
  simp only [k7.1, k7.2.1, k7.2.2, if_true] at h41
  have h39 := c39 true true ⟨60, 10, 5⟩ kRooms [59, 60, 71, 72] (by decide) (by decide)
  rw [k8.1, k8.2.1, k8.2.2] at h39
  have h35 := (c35 true true ⟨6, [14, 18]⟩ [[], [⟨0, 4, 0⟩], [⟨0, 4, 2⟩]] 1 (by decide) (by decide) (by decide)).weakA (l := [dP false ⟨6, [14, 18]⟩, .c (.sl true 1 [[.v (.slice none 0 0)], [.sl true 3 (rows eC [⟨0, 4, 0⟩])], [.sl true 3 (rows eC [⟨0, 4, 2⟩])]]), dI 1])
    (.cons (.inl rfl) (.cons (.inr ⟨_, _, rfl, rfl, .sl (.cons (.cons (.nil true 3) .nil) (.cons (.cons (.refl _) .nil) (.cons (.cons (.refl _) .nil) .nil)))⟩) (.cons (.inl rfl) .nil)))
  rw [k9.1, k9.2] at h35
  have h30 := (c30 ⟨6, [14, 18]⟩ [⟨0, 4, 0⟩] [] 2 (by decide) (by decide) (by decide)).weakA (l := [dP false ⟨6, [14, 18]⟩, dCs false [⟨0, 4, 0⟩], .c (.v (.slice none 0 0)), dI 2])
    (.cons (.inl rfl) (.cons (.inl rfl) (.cons (.inr ⟨_, _, rfl, rfl, .nil false 3⟩) (.cons (.inl rfl) .nil))))
  rw [k10.1, k10.2] at h30
  have e1 := c21 false true (nL [30, 54]) [30, 54] (by decide) (by decide)
  rw [show decide (nL [30, 54] = [30, 54]) = true from by decide] at e1
  have e2 := c21 false true (nL [14, 0]) [14, 0] (by decide) (by decide)
  rw [show decide (nL [14, 0] = [14, 0]) = true from by decide] at e2
  have e3 := c24 false true [⟨0, 1, 0⟩] [⟨0, 1, 0⟩] (by decide) (by decide)
  rw [show decide (([⟨0, 1, 0⟩] : List Cause) = [⟨0, 1, 0⟩]) = true from by decide] at e3
  have e4 := c21 false true (nL [0]) [0] (by decide) (by decide)
  rw [show decide (nL [0] = [0]) = true from by decide] at e4
  have e5 := c21 false true (nL [0, 1, 2]) [0, 1, 2] (by decide) (by decide)
  rw [show decide (nL [0, 1, 2] = [0, 1, 2]) = true from by decide] at e5
  have e6 := c36b false true false true [[0, 1, 2]] [[0, 1, 2]] (by decide) (by decide) (by decide) (by decide)
  rw [show decide (([[0, 1, 2]] : List (List Int)) = [[0, 1, 2]]) = true from by decide] at e6
  refine DCall.of Try.func15 sf15 hb15 (Nat.le_of_ble_eq_true rfl) (okRes_nil fun _ => rfl) ?_; simp only [s15, Mv, Sg, Ld, Fa, Xt, Ix, Ln, Cl, Oo, Og, idxs, Nat.reduceAdd]
  repeat' (first
    | (with_reducible refine DW.seq ?_)
    | (with_reducible refine DW.block ?_)
    | (with_reducible refine DW.skip ?_)
    | (with_reducible refine DW.exit ?_)
    | (with_reducible refine DW.ret ?_)
    | (with_reducible refine DW.reg ?_)
    | (refine DW.dreg rfl (WF.of (by first | rfl | simp (disch := omega) only [go_sem, Nat.reduceLT, Nat.reduceLeDiff, Nat.reduceAdd, Nat.reduceMul, Nat.reduceEqDiff, ↓reduceIte, reduceCtorEq, Nat.reduceBEq, Nat.reduceBNe, Nat.reducePow, Int.reduceLE, Int.reduceLT, Int.reduceNeg, Int.reduceToNat, Int.reduceEq, Int.reduceAdd, Int.reduceSub, Int.reduceMul, Int.reduceBEq, Int.reduceBNe, Blk.men, Blk.keysIn])) ?_)
    | (simp (disch := omega) only [go_sem, Nat.reduceLT, Nat.reduceLeDiff, Nat.reduceAdd, Nat.reduceMul, Nat.reduceEqDiff, ↓reduceIte, reduceCtorEq, Nat.reduceBEq, Nat.reduceBNe, Nat.reducePow, Int.reduceLE, Int.reduceLT, Int.reduceNeg, Int.reduceToNat, Int.reduceEq, Int.reduceAdd, Int.reduceSub, Int.reduceMul, Int.reduceBEq, Int.reduceBNe, Blk.men, Blk.keysIn])
    | (exact retS_of rfl rfl rfl)
    | (refine DW.cond_tt rfl ?_)
    | (refine call_c (c54 _ _ _ _) (by decide) ?_)
    | (refine call_c (c62) (by decide) ?_)
    | (refine call_c (c63 _ _ _) (by decide) ?_)
    | (refine call_c (c64) (by decide) ?_)
    | (refine call_c (h55a) (by decide) ?_)
    | (refine call_c (h55b) (by decide) ?_)
    | (refine call_c (h18a) (by decide) ?_)
    | (refine call_c (h18b) (by decide) ?_)
    | (refine call_c (h19) (by decide) ?_)
    | (refine call_c (h26) (by decide) ?_)
    | (refine call_c (h41) (by decide) ?_)
    | (refine call_c (h39) (by decide) ?_)
    | (refine call_c (e1) (by decide) ?_)
    | (refine call_c (e2) (by decide) ?_)
    | (refine call_c (e3) (by decide) ?_)
    | (refine call_c (e4) (by decide) ?_)
    | (refine call_c (e5) (by decide) ?_)
    | (refine DW.cond_ff rfl ?_)
    | (refine DW.cond rfl ?_ ?_ <;> intro hc <;> (try simp only [go_sem] at hc))
    | (refine g_split ?_ ?_ <;> intro hc <;> (try simp only [hc]) <;> (try simp only [go_sem] at hc)))
  refine call_n h35 rfl ?_ (by decide) ?_
  · simp (disch := omega) only [go_sem, Nat.reduceLT, Nat.reduceLeDiff, Nat.reduceAdd, Nat.reduceMul, Nat.reduceEqDiff, ↓reduceIte, reduceCtorEq, Nat.reduceBEq, Nat.reduceBNe, Nat.reducePow, Int.reduceLE, Int.reduceLT, Int.reduceNeg, Int.reduceToNat, Int.reduceEq, Int.reduceAdd, Int.reduceSub, Int.reduceMul, Int.reduceBEq, Int.reduceBNe, Blk.men, Blk.keysIn, closeE1, closeCs1, closeC1, closedEs, closedCs, rows]
  simp (disch := omega) only [go_sem, Nat.reduceLT, Nat.reduceLeDiff, Nat.reduceAdd, Nat.reduceMul, Nat.reduceEqDiff, ↓reduceIte, reduceCtorEq, Nat.reduceBEq, Nat.reduceBNe, Nat.reducePow, Int.reduceLE, Int.reduceLT, Int.reduceNeg, Int.reduceToNat, Int.reduceEq, Int.reduceAdd, Int.reduceSub, Int.reduceMul, Int.reduceBEq, Int.reduceBNe, Blk.men, Blk.keysIn]
  repeat' (first
    | (with_reducible refine DW.seq ?_)
    | (with_reducible refine DW.block ?_)
    | (with_reducible refine DW.skip ?_)
    | (with_reducible refine DW.exit ?_)
    | (with_reducible refine DW.ret ?_)
    | (with_reducible refine DW.reg ?_)
    | (refine DW.dreg rfl (WF.of (by first | rfl | simp (disch := omega) only [go_sem, Nat.reduceLT, Nat.reduceLeDiff, Nat.reduceAdd, Nat.reduceMul, Nat.reduceEqDiff, ↓reduceIte, reduceCtorEq, Nat.reduceBEq, Nat.reduceBNe, Nat.reducePow, Int.reduceLE, Int.reduceLT, Int.reduceNeg, Int.reduceToNat, Int.reduceEq, Int.reduceAdd, Int.reduceSub, Int.reduceMul, Int.reduceBEq, Int.reduceBNe, Blk.men, Blk.keysIn])) ?_)
    | (simp (disch := omega) only [go_sem, Nat.reduceLT, Nat.reduceLeDiff, Nat.reduceAdd, Nat.reduceMul, Nat.reduceEqDiff, ↓reduceIte, reduceCtorEq, Nat.reduceBEq, Nat.reduceBNe, Nat.reducePow, Int.reduceLE, Int.reduceLT, Int.reduceNeg, Int.reduceToNat, Int.reduceEq, Int.reduceAdd, Int.reduceSub, Int.reduceMul, Int.reduceBEq, Int.reduceBNe, Blk.men, Blk.keysIn])
    | (exact retS_of rfl rfl rfl)
    | (refine DW.cond_tt rfl ?_)
    | (refine call_c (c54 _ _ _ _) (by decide) ?_)
    | (refine call_c (c62) (by decide) ?_)
    | (refine call_c (c63 _ _ _) (by decide) ?_)
    | (refine call_c (c64) (by decide) ?_)
    | (refine call_c (e1) (by decide) ?_)
    | (refine call_c (e2) (by decide) ?_)
    | (refine call_c (e3) (by decide) ?_)
    | (refine call_c (e4) (by decide) ?_)
    | (refine call_c (e5) (by decide) ?_)
    | (refine DW.cond_ff rfl ?_)
    | (refine DW.cond rfl ?_ ?_ <;> intro hc <;> (try simp only [go_sem] at hc))
    | (refine g_split ?_ ?_ <;> intro hc <;> (try simp only [hc]) <;> (try simp only [go_sem] at hc)))
  refine call_e (Ent.rel 105 rfl) h30 rfl rfl (by decide) ?_
  simp (disch := omega) only [go_sem, Nat.reduceLT, Nat.reduceLeDiff, Nat.reduceAdd, Nat.reduceMul, Nat.reduceEqDiff, ↓reduceIte, reduceCtorEq, Nat.reduceBEq, Nat.reduceBNe, Nat.reducePow, Int.reduceLE, Int.reduceLT, Int.reduceNeg, Int.reduceToNat, Int.reduceEq, Int.reduceAdd, Int.reduceSub, Int.reduceMul, Int.reduceBEq, Int.reduceBNe, Blk.men, Blk.keysIn]
  repeat' (first
    | (with_reducible refine DW.seq ?_)
    | (with_reducible refine DW.block ?_)
    | (with_reducible refine DW.skip ?_)
    | (with_reducible refine DW.exit ?_)
    | (with_reducible refine DW.ret ?_)
    | (with_reducible refine DW.reg ?_)
    | (refine DW.dreg rfl (WF.of (by first | rfl | simp (disch := omega) only [go_sem, Nat.reduceLT, Nat.reduceLeDiff, Nat.reduceAdd, Nat.reduceMul, Nat.reduceEqDiff, ↓reduceIte, reduceCtorEq, Nat.reduceBEq, Nat.reduceBNe, Nat.reducePow, Int.reduceLE, Int.reduceLT, Int.reduceNeg, Int.reduceToNat, Int.reduceEq, Int.reduceAdd, Int.reduceSub, Int.reduceMul, Int.reduceBEq, Int.reduceBNe, Blk.men, Blk.keysIn])) ?_)
    | (simp (disch := omega) only [go_sem, Nat.reduceLT, Nat.reduceLeDiff, Nat.reduceAdd, Nat.reduceMul, Nat.reduceEqDiff, ↓reduceIte, reduceCtorEq, Nat.reduceBEq, Nat.reduceBNe, Nat.reducePow, Int.reduceLE, Int.reduceLT, Int.reduceNeg, Int.reduceToNat, Int.reduceEq, Int.reduceAdd, Int.reduceSub, Int.reduceMul, Int.reduceBEq, Int.reduceBNe, Blk.men, Blk.keysIn])
    | (exact retS_of rfl rfl rfl)
    | (refine DW.cond_tt rfl ?_)
    | (refine call_c (c54 _ _ _ _) (by decide) ?_)
    | (refine call_c (c62) (by decide) ?_)
    | (refine call_c (c63 _ _ _) (by decide) ?_)
    | (refine call_c (c64) (by decide) ?_)
    | (refine call_c (e1) (by decide) ?_)
    | (refine call_c (e2) (by decide) ?_)
    | (refine call_c (e3) (by decide) ?_)
    | (refine call_c (e4) (by decide) ?_)
    | (refine call_c (e5) (by decide) ?_)
    | (refine DW.cond_ff rfl ?_)
    | (refine DW.cond rfl ?_ ?_ <;> intro hc <;> (try simp only [go_sem] at hc))
    | (refine g_split ?_ ?_ <;> intro hc <;> (try simp only [hc]) <;> (try simp only [go_sem] at hc)))
  refine call_n e6 rfl ?_ (by decide) ?_
  · simp (disch := omega) only [go_sem, Nat.reduceLT, Nat.reduceLeDiff, Nat.reduceAdd, Nat.reduceMul, Nat.reduceEqDiff, ↓reduceIte, reduceCtorEq, Nat.reduceBEq, Nat.reduceBNe, Nat.reducePow, Int.reduceLE, Int.reduceLT, Int.reduceNeg, Int.reduceToNat, Int.reduceEq, Int.reduceAdd, Int.reduceSub, Int.reduceMul, Int.reduceBEq, Int.reduceBNe, Blk.men, Blk.keysIn, closeE1, closeCs1, closeC1, closedEs, closedCs, rows]
  simp (disch := omega) only [go_sem, Nat.reduceLT, Nat.reduceLeDiff, Nat.reduceAdd, Nat.reduceMul, Nat.reduceEqDiff, ↓reduceIte, reduceCtorEq, Nat.reduceBEq, Nat.reduceBNe, Nat.reducePow, Int.reduceLE, Int.reduceLT, Int.reduceNeg, Int.reduceToNat, Int.reduceEq, Int.reduceAdd, Int.reduceSub, Int.reduceMul, Int.reduceBEq, Int.reduceBNe, Blk.men, Blk.keysIn]
  repeat' (first
    | (with_reducible refine DW.seq ?_)
    | (with_reducible refine DW.block ?_)
    | (with_reducible refine DW.skip ?_)
    | (with_reducible refine DW.exit ?_)
    | (with_reducible refine DW.ret ?_)
    | (with_reducible refine DW.reg ?_)
    | (refine DW.dreg rfl (WF.of (by first | rfl | simp (disch := omega) only [go_sem, Nat.reduceLT, Nat.reduceLeDiff, Nat.reduceAdd, Nat.reduceMul, Nat.reduceEqDiff, ↓reduceIte, reduceCtorEq, Nat.reduceBEq, Nat.reduceBNe, Nat.reducePow, Int.reduceLE, Int.reduceLT, Int.reduceNeg, Int.reduceToNat, Int.reduceEq, Int.reduceAdd, Int.reduceSub, Int.reduceMul, Int.reduceBEq, Int.reduceBNe, Blk.men, Blk.keysIn])) ?_)
    | (simp (disch := omega) only [go_sem, Nat.reduceLT, Nat.reduceLeDiff, Nat.reduceAdd, Nat.reduceMul, Nat.reduceEqDiff, ↓reduceIte, reduceCtorEq, Nat.reduceBEq, Nat.reduceBNe, Nat.reducePow, Int.reduceLE, Int.reduceLT, Int.reduceNeg, Int.reduceToNat, Int.reduceEq, Int.reduceAdd, Int.reduceSub, Int.reduceMul, Int.reduceBEq, Int.reduceBNe, Blk.men, Blk.keysIn])
    | (exact retS_of rfl rfl rfl)
    | (refine DW.cond_tt rfl ?_)
    | (refine call_c (c54 _ _ _ _) (by decide) ?_)
    | (refine DW.cond_ff rfl ?_)
    | (refine DW.cond rfl ?_ ?_ <;> intro hc <;> (try simp only [go_sem] at hc))
    | (refine g_split ?_ ?_ <;> intro hc <;> (try simp only [hc]) <;> (try simp only [go_sem] at hc)))
end Go.Dw.Seat
end
section
set_option linter.unusedSimpArgs false
set_option maxRecDepth 100000
namespace Go.Dw.Seat
open Go Go.Dw Go.Proofs Go.ChangeShapes Go.WideShapes Go.ChangeAt Go.RowKit
theorem tOwn : ownKnob Try.prog.godebug = none := by kernel_rfl
theorem tLaid : laidOutB Try.prog = true := by kernel_rfl
theorem u4 : Try.prog.underlying 4 = some .bool := by kernel_rfl
theorem u32 : Try.prog.underlying 32 = some (.slice 104) := by kernel_rfl
section
variable {H : Type} {enc : TypeId × Value → H} {w : World} {base : Nat} {spare : Nat → Bool} {held : Bool} {fuel : Nat} {cs : List Value} {x : DataW H × List MemPlace}
end
end Go.Dw.Seat
namespace Go.Proofs.Ytecgononbfgigaa
end Go.Proofs.Ytecgononbfgigaa
end
section
set_option linter.unusedSimpArgs false
set_option maxRecDepth 100000
namespace Go.Dw.Seat
open Go Go.Dw Go.Proofs Go.IntWalk
theorem und5 : Try.prog.underlying 5 = some (.int .u8) := by kernel_rfl
theorem und116 : Try.prog.underlying 116 = some (.int .u16) := by kernel_rfl
attribute [go_sem] und5 und116
structure Line where
  steps : Nat
  noz : List Nat
  f0 : Nat
  f1 : Nat
  f2 : Nat
  a0 : Nat
  a1 : Nat
  a2 : Nat
  b0 : Nat
  b1 : Nat
  b2 : Nat
  many : Nat
def eU (v : Nat) : List C := [.v (.int .u16 v)]
abbrev d8 (n : Nat) : D := .c (.v (.int .u8 n))
abbrev dL (b : Bool) (x : Line) : D := .agg [d8 x.steps, .c (.sl b 1 (rows eU x.noz)), d8 x.f0, d8 x.f1, d8 x.f2, d8 x.a0, d8 x.a1, d8 x.a2, d8 x.b0, d8 x.b1, d8 x.b2, d8 x.many]
attribute [go_sem] d8 dL eU
structure Line.ok (x : Line) : Prop where
  steps : x.steps < 256
  noz : ∀ v ∈ x.noz, v < 65536
  f0 : x.f0 < 256
  f1 : x.f1 < 256
  f2 : x.f2 < 256
  a0 : x.a0 < 256
  a1 : x.a1 < 256
  a2 : x.a2 < 256
  b0 : x.b0 < 256
  b1 : x.b1 < 256
  b2 : x.b2 < 256
  many : x.many < 256
theorem tmod_nat (m k : Nat) : (m : Int).tmod (k : Int) = ((m % k : Nat) : Int) := by
  rw [Int.tmod_eq_emod_of_nonneg (by omega)]; simp
theorem tmod3 (m : Nat) : (m : Int).tmod 3 = ((m % 3 : Nat) : Int) := tmod_nat m 3
theorem tmod4 (m : Nat) : (m : Int).tmod 4 = ((m % 4 : Nat) : Int) := tmod_nat m 4
theorem tmod9 (m : Nat) : (m : Int).tmod 9 = ((m % 9 : Nat) : Int) := tmod_nat m 9
def Line.g0 (x : Line) : Nat := x.f0 % 3
def Line.g1 (x : Line) : Nat := x.g0 + 1 + x.f1 % 3
def Line.g2 (x : Line) : Nat := x.g1 + 1 + x.f2 % 3
def fromsN (x : Line) : List Nat := [x.g0, x.g1, x.g2]
def atI (x : Line) : Nat → Int
  | 0 => -1
  | 1 => x.g0
  | 2 => x.g1
  | _ => x.g2
def frI (x : Line) : Nat → List Nat
  | 0 => []
  | 1 => [x.g0]
  | 2 => [x.g0, x.g1]
  | _ => [x.g0, x.g1, x.g2]
theorem c45 (b : Bool) (x : Line) (hx : x.ok) : DCall Try.prog 45 [dL b x] [] (dIs false (nL (fromsN x))) [] := by
  have h0 := hx.f0
  have h1 := hx.f1
  have h2 := hx.f2
  have m0 : x.f0 % 3 < 3 := Nat.mod_lt _ (by decide)
  have m1 : x.f1 % 3 < 3 := Nat.mod_lt _ (by decide)
  have m2 : x.f2 % 3 < 3 := Nat.mod_lt _ (by decide)
  have e0 : (-1 : Int) + (1 + ((x.f0 % 3 : Nat) : Int)) = (x.g0 : Nat) := by simp only [Line.g0]; omega
  have e1 : ((x.g0 : Nat) : Int) + (1 + ((x.f1 % 3 : Nat) : Int)) = (x.g1 : Nat) := by simp only [Line.g1]; omega
  have e2 : ((x.g1 : Nat) : Int) + (1 + ((x.f2 % 3 : Nat) : Int)) = (x.g2 : Nat) := by simp only [Line.g2]; omega
  have b0 : x.g0 < 10 := by simp only [Line.g0]; omega
  have b1 : x.g1 < 20 := by simp only [Line.g1]; omega
  have b2 : x.g2 < 30 := by simp only [Line.g2]; omega
  refine DCall.of Try.func45 sf45 hb45 (Nat.le_of_ble_eq_true rfl) (okRes_nil fun _ => rfl) ?_; simp only [s45, Mv, Sg, Ld, Fa, Xt, Ix, Ln, Cl, Oo, Og, idxs, Nat.reduceAdd]
  repeat' (first
    | (with_reducible refine DW.seq ?_)
    | (with_reducible refine DW.block ?_)
    | (with_reducible refine DW.skip ?_)
    | (with_reducible refine DW.exit ?_)
    | (with_reducible refine DW.ret ?_)
    | (with_reducible refine DW.reg ?_)
    | (simp (disch := omega) only [go_sem, Nat.reduceLT, Nat.reduceLeDiff, Nat.reduceAdd, Nat.reduceMul, Nat.reduceEqDiff, ↓reduceIte, reduceCtorEq, Nat.reduceBEq, Nat.reduceBNe, Nat.reducePow, Int.reduceLE, Int.reduceLT, Int.reduceNeg, Int.reduceToNat, Int.reduceEq, Int.reduceAdd, Int.reduceSub, Int.reduceMul, Int.reduceBEq, Int.reduceBNe, Blk.men, Blk.keysIn])
    | (exact retS_of rfl rfl rfl)
    | (refine DW.cond_tt rfl ?_)
    | (refine DW.cond_ff rfl ?_)
    | (refine DW.cond rfl ?_ ?_ <;> intro hc <;> (try simp only [go_sem] at hc))
    | (refine g_split ?_ ?_ <;> intro hc <;> (try simp only [hc]) <;> (try simp only [go_sem] at hc)))
  refine DW.loop (ι := { i : Nat // i ≤ 3 }) (fun i => ⟨25, [(5, dI i.1), (4, dI (atI x i.1)), (3, .own 6), (1, .box 1 0)], [(6, .row 1 (rowC (rows eI (nL (frI x i.1))))),
    (1, .box [d8 x.steps, .c (.sl b 1 (rows eU x.noz)), d8 x.f0, d8 x.f1, d8 x.f2, d8 x.a0, d8 x.a1, d8 x.a2, d8 x.b0, d8 x.b1, d8 x.b2, d8 x.many])]⟩) (fun i => 3 - i.1) ⟨0, Nat.zero_le _⟩ ?_ ?_
  · refine Ent.to ?_ ?_ <;> simp (disch := omega) only [wkT_cons, wkX_cons, wkT_nil, wkX_nil, get, Nat.reduceEqDiff, ↓reduceIte, ex_some, wk_self, wk_top, wk_nil, wkB_self, and_self, dI, i64_in, and_true, true_and, Int.natCast_add, Int.natCast_one, Int.ofNat_zero, Int.natCast_zero, atI, d8]
    all_goals exact .refl _
  rintro ⟨i, hi⟩
  match i, hi with
  | 0, _ =>
    have r0 : nL (frI x 0) = [] := rfl
    have r1 : nL (frI x (0 + 1)) = [] ++ [((x.g0 : Nat) : Int)] := rfl
    repeat' (first
    | (with_reducible refine DW.seq ?_)
    | (with_reducible refine DW.block ?_)
    | (with_reducible refine DW.skip ?_)
    | (with_reducible refine DW.exit ?_)
    | (with_reducible refine DW.ret ?_)
    | (with_reducible refine DW.reg ?_)
    | (simp (disch := omega) only [go_sem, Nat.reduceLT, Nat.reduceLeDiff, Nat.reduceAdd, Nat.reduceMul, Nat.reduceEqDiff, ↓reduceIte, reduceCtorEq, Nat.reduceBEq, Nat.reduceBNe, Nat.reducePow, Int.reduceLE, Int.reduceLT, Int.reduceNeg, Int.reduceToNat, Int.reduceEq, Int.reduceAdd, Int.reduceSub, Int.reduceMul, Int.reduceBEq, Int.reduceBNe, Blk.men, Blk.keysIn, atI, r0, tmod3, e0])
    | (exact retS_of rfl rfl rfl)
    | (refine DW.cond_tt rfl ?_)
    | (refine DW.cond_ff rfl ?_)
    | (refine DW.cond rfl ?_ ?_ <;> intro hc <;> (try simp only [go_sem] at hc))
    | (refine g_split ?_ ?_ <;> intro hc <;> (try simp only [hc]) <;> (try simp only [go_sem] at hc)))
    refine ⟨⟨1, by omega⟩, ?_, Ent.to ?_ ?_⟩ <;> first | (show _ < _; (try simp only); omega) | (simp (disch := omega) only [wkT_cons, wkX_cons, wkT_nil, wkX_nil, get, Nat.reduceEqDiff, ↓reduceIte, ex_some, wk_self, wk_top, wk_nil, wkB_self, and_self, dI, i64_in, and_true, true_and, Int.natCast_add, Int.natCast_one, Int.ofNat_zero, Int.natCast_zero,  atI, r1, d8])
    all_goals exact .refl _
  | 1, _ =>
    have r0 : nL (frI x 1) = [((x.g0 : Nat) : Int)] := rfl
    repeat' (first
    | (with_reducible refine DW.seq ?_)
    | (with_reducible refine DW.block ?_)
    | (with_reducible refine DW.skip ?_)
    | (with_reducible refine DW.exit ?_)
    | (with_reducible refine DW.ret ?_)
    | (with_reducible refine DW.reg ?_)
    | (simp (disch := omega) only [go_sem, Nat.reduceLT, Nat.reduceLeDiff, Nat.reduceAdd, Nat.reduceMul, Nat.reduceEqDiff, ↓reduceIte, reduceCtorEq, Nat.reduceBEq, Nat.reduceBNe, Nat.reducePow, Int.reduceLE, Int.reduceLT, Int.reduceNeg, Int.reduceToNat, Int.reduceEq, Int.reduceAdd, Int.reduceSub, Int.reduceMul, Int.reduceBEq, Int.reduceBNe, Blk.men, Blk.keysIn, atI, r0, tmod3, e1])
    | (exact retS_of rfl rfl rfl)
    | (refine DW.cond_tt rfl ?_)
    | (refine DW.cond_ff rfl ?_)
    | (refine DW.cond rfl ?_ ?_ <;> intro hc <;> (try simp only [go_sem] at hc))
    | (refine g_split ?_ ?_ <;> intro hc <;> (try simp only [hc]) <;> (try simp only [go_sem] at hc)))
    refine ⟨⟨2, by omega⟩, ?_, Ent.to ?_ ?_⟩ <;> first | (show _ < _; (try simp only); omega) | (simp (disch := omega) only [wkT_cons, wkX_cons, wkT_nil, wkX_nil, get, Nat.reduceEqDiff, ↓reduceIte, ex_some, wk_self, wk_top, wk_nil, wkB_self, and_self, dI, i64_in, and_true, true_and, Int.natCast_add, Int.natCast_one, Int.ofNat_zero, Int.natCast_zero,  atI, d8])
    all_goals exact .refl _
  | 2, _ =>
    have r0 : nL (frI x 2) = [((x.g0 : Nat) : Int), ((x.g1 : Nat) : Int)] := rfl
    repeat' (first
    | (with_reducible refine DW.seq ?_)
    | (with_reducible refine DW.block ?_)
    | (with_reducible refine DW.skip ?_)
    | (with_reducible refine DW.exit ?_)
    | (with_reducible refine DW.ret ?_)
    | (with_reducible refine DW.reg ?_)
    | (simp (disch := omega) only [go_sem, Nat.reduceLT, Nat.reduceLeDiff, Nat.reduceAdd, Nat.reduceMul, Nat.reduceEqDiff, ↓reduceIte, reduceCtorEq, Nat.reduceBEq, Nat.reduceBNe, Nat.reducePow, Int.reduceLE, Int.reduceLT, Int.reduceNeg, Int.reduceToNat, Int.reduceEq, Int.reduceAdd, Int.reduceSub, Int.reduceMul, Int.reduceBEq, Int.reduceBNe, Blk.men, Blk.keysIn, atI, r0, tmod3, e2])
    | (exact retS_of rfl rfl rfl)
    | (refine DW.cond_tt rfl ?_)
    | (refine DW.cond_ff rfl ?_)
    | (refine DW.cond rfl ?_ ?_ <;> intro hc <;> (try simp only [go_sem] at hc))
    | (refine g_split ?_ ?_ <;> intro hc <;> (try simp only [hc]) <;> (try simp only [go_sem] at hc)))
    refine ⟨⟨3, by omega⟩, ?_, Ent.to ?_ ?_⟩ <;> first | (show _ < _; (try simp only); omega) | (simp (disch := omega) only [wkT_cons, wkX_cons, wkT_nil, wkX_nil, get, Nat.reduceEqDiff, ↓reduceIte, ex_some, wk_self, wk_top, wk_nil, wkB_self, and_self, dI, i64_in, and_true, true_and, Int.natCast_add, Int.natCast_one, Int.ofNat_zero, Int.natCast_zero,  atI, d8])
    all_goals exact .refl _
  | 3, _ =>
    repeat' (first
    | (with_reducible refine DW.seq ?_)
    | (with_reducible refine DW.block ?_)
    | (with_reducible refine DW.skip ?_)
    | (with_reducible refine DW.exit ?_)
    | (with_reducible refine DW.ret ?_)
    | (with_reducible refine DW.reg ?_)
    | (simp (disch := omega) only [go_sem, Nat.reduceLT, Nat.reduceLeDiff, Nat.reduceAdd, Nat.reduceMul, Nat.reduceEqDiff, ↓reduceIte, reduceCtorEq, Nat.reduceBEq, Nat.reduceBNe, Nat.reducePow, Int.reduceLE, Int.reduceLT, Int.reduceNeg, Int.reduceToNat, Int.reduceEq, Int.reduceAdd, Int.reduceSub, Int.reduceMul, Int.reduceBEq, Int.reduceBNe, Blk.men, Blk.keysIn, atI])
    | (exact retS_of rfl rfl rfl)
    | (refine DW.cond_tt rfl ?_)
    | (refine DW.cond_ff rfl ?_)
    | (refine DW.cond rfl ?_ ?_ <;> intro hc <;> (try simp only [go_sem] at hc))
    | (refine g_split ?_ ?_ <;> intro hc <;> (try simp only [hc]) <;> (try simp only [go_sem] at hc)))
    (refine retS_ent (Ent.rel 6 rfl) ?_; simp (disch := omega) only [go_sem, Nat.reduceLT, Nat.reduceLeDiff, Nat.reduceAdd, Nat.reduceMul, Nat.reduceEqDiff, ↓reduceIte, reduceCtorEq, Nat.reduceBEq, Nat.reduceBNe, Nat.reducePow, Int.reduceLE, Int.reduceLT, Int.reduceNeg, Int.reduceToNat, Int.reduceEq, Int.reduceAdd, Int.reduceSub, Int.reduceMul, Int.reduceBEq, Int.reduceBNe, Blk.men, Blk.keysIn])
    refine retS_wk rfl ?_ (by simp only [Blk.nb, rowC_nb, D.nb, D.nbs, C.nb, C.nbs, C.nbss, rows_nb eI_nb, rows_nb eC_nb, rows_nb eL_nb, rows_nb eR_nb, rows_nb eS_nb, rows_nb eG_nb, Bool.and_true, Bool.not_false, Bool.and_self, bD, dI, iD]); exact .refl _
end Go.Dw.Seat
end
section
set_option linter.unusedSimpArgs false
namespace Go.Dw.Seat
open Go Go.Dw
def Line.st (x : Line) : Nat := 2 + x.steps % 9
def nozP (x : Line) : List Nat := if x.noz = [] then [0] else (x.noz.take 4).map fun v => v % 2 ^ x.st
abbrev planN (x : Line) : Plan := ⟨x.st, nL (nozP x)⟩
theorem Line.st_in (x : Line) : 2 ≤ x.st ∧ x.st ≤ 10 := by
  have : x.steps % 9 < 9 := Nat.mod_lt _ (by decide)
  unfold Line.st; omega
theorem nozP_len (x : Line) : 1 ≤ (nozP x).length ∧ (nozP x).length ≤ 4 := by
  unfold nozP
  split
  · simp
  · rename_i h
    have : x.noz.length ≠ 0 := fun e => h (List.eq_nil_of_length_eq_zero e)
    simp; omega
theorem nozP_lt (x : Line) : ∀ v ∈ nozP x, v < 2 ^ x.st := by
  have hp : 0 < 2 ^ x.st := Nat.two_pow_pos _
  intro v hv
  unfold nozP at hv
  split at hv
  · simp at hv; omega
  · obtain ⟨u, _, rfl⟩ := List.mem_map.1 hv
    exact Nat.mod_lt _ hp
theorem nozP_16 (x : Line) : ∀ v ∈ nozP x, v < 2 ^ 16 := fun v hv =>
  Nat.lt_of_lt_of_le (nozP_lt x v hv) (Nat.pow_le_pow_right (by decide) (by have := x.st_in; omega))
def Line.n (x : Line) : Nat := (nozP x).length
def causeN (x : Line) (a b c : Nat) : Cause := ⟨((a % (nozP x).length : Nat) : Int), ((1 + b % 4 : Nat) : Int), (((fromsN x).getD (c % 3) 0 : Nat) : Int)⟩
def Line.c0 (x : Line) : Cause := causeN x x.a0 x.a1 x.a2
def Line.c1 (x : Line) : Cause := causeN x x.b0 x.b1 x.b2
def two (a b : Cause) : List Cause := if a.noz < b.noz then [a, b] else if b.noz < a.noz then [b, a] else [a]
def truthTo (x : Line) : Nat → List Cause
  | 0 => []
  | 1 => [x.c0]
  | _ => two x.c0 x.c1
def truthN (x : Line) : List Cause := truthTo x (x.many % 3)
theorem causeN_mem (x : Line) (a b c : Nat) : causeN x a b c ∈ causesN (nozP x).length (nL (fromsN x)) := by
  have h1 : a % (nozP x).length < (nozP x).length := Nat.mod_lt _ (nozP_len x).1
  have h2 : b % 4 < 4 := Nat.mod_lt _ (by decide)
  have h3 : c % 3 < 3 := Nat.mod_lt _ (by decide)
  simp only [causesN, causesZ, causesK, List.mem_flatMap, List.mem_range, List.mem_map]
  refine ⟨a % (nozP x).length, h1, b % 4, h2, (((fromsN x).getD (c % 3) 0 : Nat) : Int), ?_, ?_⟩
  · generalize c % 3 = k at *
    simp only [fromsN, nL]
    match k, h3 with
    | 0, _ => simp
    | 1, _ => simp
    | 2, _ => simp
  · simp only [causeN]; congr 1; omega
theorem mem_pairsTo' {all : List Cause} (hp : all.Pairwise (fun a b => a.noz ≤ b.noz)) {a b : Cause} (ha : a ∈ all) (hb : b ∈ all) (h : a.noz < b.noz) : [a, b] ∈ pairsTo all all.length := by
  rw [← prI_pairs hp _ (Nat.le_refl _), prI, List.take_length]
  refine List.mem_flatMap.2 ⟨a, ha, ?_⟩
  rw [prJ, List.take_length]
  exact List.mem_map.2 ⟨b, List.mem_filter.2 ⟨hb, by simpa using h⟩, rfl⟩
theorem two_mem {n : Nat} {froms : List Int} {a b : Cause} (ha : a ∈ causesN n froms) (hb : b ∈ causesN n froms) : two a b ∈ statesOf (causesN n froms) := by
  unfold two
  simp only [statesOf, List.cons_append, List.mem_cons, List.mem_append, List.mem_map]
  split
  · exact .inr (.inr (mem_pairsTo' (causes_asc froms n) ha hb (by assumption)))
  · split
    · exact .inr (.inr (mem_pairsTo' (causes_asc froms n) hb ha (by assumption)))
    · exact .inr (.inl ⟨a, ha, rfl⟩)
theorem truthN_mem (x : Line) : truthN x ∈ statesOf (causesN (nozP x).length (nL (fromsN x))) := by
  unfold truthN
  have h0 : x.c0 ∈ causesN (nozP x).length (nL (fromsN x)) := causeN_mem x _ _ _
  have h1 : x.c1 ∈ causesN (nozP x).length (nL (fromsN x)) := causeN_mem x _ _ _
  match x.many % 3 with
  | 0 => simp [truthTo, statesOf]
  | 1 => simp [truthTo, statesOf, h0]
  | _ + 2 => exact two_mem h0 h1
structure B3 where
  v0 : Nat
  v1 : Nat
  v2 : Nat
structure B3.ok (v : B3) : Prop where
  v0 : v.v0 < 256
  v1 : v.v1 < 256
  v2 : v.v2 < 256
theorem gives_none {st v : Nat} {box : Int} {z : Nat} {step : Int} : ∀ (s : List Cause) (now : Bool), (∀ c ∈ s, c.noz ≠ z) → s.foldl (gStep st v box z step) now = now
  | [], _, _ => rfl
  | c :: s, now, h => by
    have h1 : gStep st v box z step now c = now := if_neg (fun e => h c (by simp) e.1)
    rw [List.foldl_cons, h1]
    exact gives_none s now (fun c hc => h c (by simp [hc]))
theorem gives_kind {st v : Nat} {box : Int} {z : Nat} {step : Int} : ∀ (s : List Cause), s.Pairwise (fun a b => a.noz ≠ b.noz) →
    givesL st v s box z step = glueB (kindOf s box z) box (toldN st v step) (toldN st v (step - 1))
  | [], _ => by simp [givesL, kindOf, glueB]
  | c :: s, hp => by
    rw [List.pairwise_cons] at hp
    by_cases hm : c.noz = z ∧ c.frm ≤ box
    · have hno : ∀ d ∈ s, d.noz ≠ z := fun d hd e => hp.1 d hd (by rw [hm.1, e])
      have hk : kindOf (c :: s) box z = c.kind := by
        have : kindStep box z 0 c = c.kind := if_pos hm
        rw [kindOf, List.foldl_cons, this, kind_none s _ hno]
      have hg : givesL st v (c :: s) box z step = gStep st v box z step (toldN st v step) c := by
        rw [givesL, List.foldl_cons, gives_none s _ hno]
      rw [hk, hg, gStep, if_pos hm, glueB]
      repeat' split
      all_goals first | rfl | (congr 1)
    · have h1 : gStep st v box z step (toldN st v step) c = toldN st v step := if_neg hm
      have h2 : kindStep box z 0 c = 0 := if_neg hm
      have hk : kindOf (c :: s) box z = kindOf s box z := by rw [kindOf, List.foldl_cons, h2]; rfl
      have hg : givesL st v (c :: s) box z step = givesL st v s box z step := by rw [givesL, List.foldl_cons, h1]; rfl
      rw [hk, hg, gives_kind s hp.2]
theorem givesL_glue {st : Nat} {noz : List Nat} {s : List Cause} {box : Int} {z : Nat} {step : Int} (hp : s.Pairwise (fun a b => a.noz ≠ b.noz)) : givesL st (noz.getD z 0) s box z step = glueN st noz s box z step := gives_kind s hp
theorem planN_open (x : Line) : openErr (planN x) = 0 := by
  have h1 := x.st_in
  have h2 := nozP_len x
  have h3 := nozP_lt x
  have e1 : wthn 1 16 [(x.st : Int)] = true := by rw [wthn_iff1]; omega
  have e2 : wthn 0 (2 ^ x.st - 1) (nL (nozP x)) = true := by
    simp only [wthn, Bool.not_eq_true', List.any_eq_false, Bool.or_eq_true, decide_eq_true_eq, nL, List.mem_map]
    rintro _ ⟨v, hv, rfl⟩
    have := h3 v hv
    have : (v : Int) < (2 : Int) ^ x.st := by exact_mod_cast this
    omega
  have e3 : ¬ 6 < (nL (nozP x)).length := by rw [nL_length]; omega
  have e4 : ¬ (nL (nozP x)).length = 0 := by rw [nL_length]; omega
  simp only [openErr, planN, e1, if_neg e3, if_neg e4, Int.toNat_natCast, e2, Bool.true_eq_false, if_false]
theorem froms_in (x : Line) : wthn 0 1000 (nL (fromsN x)) = true := by
  have m0 : x.f0 % 3 < 3 := Nat.mod_lt _ (by decide)
  have m1 : x.f1 % 3 < 3 := Nat.mod_lt _ (by decide)
  have m2 : x.f2 % 3 < 3 := Nat.mod_lt _ (by decide)
  simp [wthn, fromsN, nL, Line.g1, Line.g2, Line.g0]; omega
end Go.Dw.Seat
end
section
set_option linter.unusedSimpArgs false
set_option maxRecDepth 100000
namespace Go.Dw.Seat
open Go Go.Dw Go.Proofs Go.IntWalk
abbrev bxL (b : Bool) (x : Line) : Blk := .box [d8 x.steps, .c (.sl b 1 (rows eU x.noz)), d8 x.f0, d8 x.f1, d8 x.f2, d8 x.a0, d8 x.a1, d8 x.a2, d8 x.b0, d8 x.b1, d8 x.b2, d8 x.many]
attribute [go_sem] bxL
def mk44 (b : Bool) (x : Line) : Nat → St
  | 0 => ⟨50, [(4, dI 0), (3, .box 3 0), (2, .box 2 0), (1, .box 1 0)], [(3, .box [dI x.st, .c (.v (.slice none 0 0))]), (2, .box [dI 0, .c (.v (.slice none 0 0))]), (1, bxL b x)]⟩
  | j + 1 => ⟨50, [(4, dI ((j + 1 : Nat) : Int)), (3, .box 3 0), (2, .box 2 0), (1, .box 1 0)], [(47, .row 1 (rowC (rows eI (nL ((nozP x).take (j + 1)))))), (3, .box [dI x.st, .own 47]), (2, .box [dI 0, .c (.v (.slice none 0 0))]), (1, bxL b x)]⟩
theorem c44 (b : Bool) (x : Line) (hx : x.ok) : DCall Try.prog 44 [dL b x] [] (dP false (planN x)) [] := by
  have h0 := hx.steps
  have hst := x.st_in
  have hln := nozP_len x
  have m0 : x.steps % 9 < 9 := Nat.mod_lt _ (by decide)
  have e0 : (2 : Int) + ((x.steps % 9 : Nat) : Int) = (x.st : Nat) := by simp only [Line.st]; omega
  have hpw : 2 ^ x.st ≤ 2 ^ 10 := Nat.pow_le_pow_right (by decide) hst.2
  have hp0 : 0 < 2 ^ x.st := Nat.two_pow_pos _
  have hshl : shlI .i64 1 (x.st : Nat) = ((2 ^ x.st : Nat) : Int) := one_shl x.st (by omega)
  have hp2 : ((2 ^ x.st : Nat) : Int) ≤ 1024 := by have : 2 ^ x.st ≤ 1024 := hpw; omega
  have hp3 : ((2 ^ x.st : Nat) : Int) ≠ 0 := by omega
  have htm : ∀ v : Nat, (v : Int).tmod ((2 ^ x.st : Nat) : Int) = ((v % 2 ^ x.st : Nat) : Int) := fun v => tmod_nat v _
  refine DCall.of Try.func44 sf44 hb44 (Nat.le_of_ble_eq_true rfl) (okRes_nil fun _ => rfl) ?_; simp only [s44, Mv, Sg, Ld, Fa, Xt, Ix, Ln, Cl, Oo, Og, idxs, Nat.reduceAdd]
  repeat' (first
    | (with_reducible refine DW.seq ?_)
    | (with_reducible refine DW.block ?_)
    | (with_reducible refine DW.skip ?_)
    | (with_reducible refine DW.exit ?_)
    | (with_reducible refine DW.ret ?_)
    | (with_reducible refine DW.reg ?_)
    | (refine DW.dreg rfl (WF.of (by first | rfl | simp (disch := omega) only [go_sem, Nat.reduceLT, Nat.reduceLeDiff, Nat.reduceAdd, Nat.reduceMul, Nat.reduceEqDiff, ↓reduceIte, reduceCtorEq, Nat.reduceBEq, Nat.reduceBNe, Nat.reducePow, Int.reduceLE, Int.reduceLT, Int.reduceNeg, Int.reduceToNat, Int.reduceEq, Int.reduceAdd, Int.reduceSub, Int.reduceMul, Int.reduceBEq, Int.reduceBNe, Blk.men, Blk.keysIn, tmod9, e0])) ?_)
    | (simp (disch := omega) only [go_sem, Nat.reduceLT, Nat.reduceLeDiff, Nat.reduceAdd, Nat.reduceMul, Nat.reduceEqDiff, ↓reduceIte, reduceCtorEq, Nat.reduceBEq, Nat.reduceBNe, Nat.reducePow, Int.reduceLE, Int.reduceLT, Int.reduceNeg, Int.reduceToNat, Int.reduceEq, Int.reduceAdd, Int.reduceSub, Int.reduceMul, Int.reduceBEq, Int.reduceBNe, Blk.men, Blk.keysIn, tmod9, e0])
    | (exact retS_of rfl rfl rfl)
    | (refine DW.cond_tt rfl ?_)
    | (refine DW.cond_ff rfl ?_)
    | (refine DW.cond rfl ?_ ?_ <;> intro hc <;> (try simp only [go_sem] at hc))
    | (refine g_split ?_ ?_ <;> intro hc <;> (try simp only [hc]) <;> (try simp only [go_sem] at hc)))
  refine DW.loop (ι := { i : Nat // i ≤ (nozP x).length }) (fun i => mk44 b x i.1) (fun i => (nozP x).length - i.1) ⟨0, Nat.zero_le _⟩ ?_ ?_
  · refine Ent.to ?_ ?_ <;> simp (disch := omega) only [wkT_cons, wkX_cons, wkT_nil, wkX_nil, get, Nat.reduceEqDiff, ↓reduceIte, ex_some, wk_self, wk_top, wk_nil, wkB_self, and_self, dI, i64_in, and_true, true_and, Int.natCast_add, Int.natCast_one, Int.ofNat_zero, Int.natCast_zero, mk44, d8]
    all_goals exact .refl _
  rintro ⟨i, hi⟩
  match i, hi with
  | 0, _ =>
    simp only [mk44]
    rcases at_or x.noz 0 (Nat.zero_le _) with ⟨v, hg, hlt, hd⟩ | ⟨hend, hd⟩
    · have hv := hx.noz v (List.mem_of_getElem? hg)
      have hm : v % 2 ^ x.st < 2 ^ x.st := Nat.mod_lt _ hp0
      have hz : nL ((nozP x).take (0 + 1)) = [((v % 2 ^ x.st : Nat) : Int)] := by
        cases h : x.noz with
        | nil => simp [h] at hg
        | cons u l => simp [h] at hg; simp [nozP, h, nL, hg]
      have hd' : decide ((0 : Int) < (x.noz.length : Int)) = true := hd
      repeat' (first
    | (with_reducible refine DW.seq ?_)
    | (with_reducible refine DW.block ?_)
    | (with_reducible refine DW.skip ?_)
    | (with_reducible refine DW.exit ?_)
    | (with_reducible refine DW.ret ?_)
    | (with_reducible refine DW.reg ?_)
    | (refine DW.dreg rfl (WF.of (by first | rfl | simp (disch := omega) only [go_sem, Nat.reduceLT, Nat.reduceLeDiff, Nat.reduceAdd, Nat.reduceMul, Nat.reduceEqDiff, ↓reduceIte, reduceCtorEq, Nat.reduceBEq, Nat.reduceBNe, Nat.reducePow, Int.reduceLE, Int.reduceLT, Int.reduceNeg, Int.reduceToNat, Int.reduceEq, Int.reduceAdd, Int.reduceSub, Int.reduceMul, Int.reduceBEq, Int.reduceBNe, Blk.men, Blk.keysIn, hd', hg, hshl, htm, hp3, St.men, Int.ofNat_zero])) ?_)
    | (simp (disch := omega) only [go_sem, Nat.reduceLT, Nat.reduceLeDiff, Nat.reduceAdd, Nat.reduceMul, Nat.reduceEqDiff, ↓reduceIte, reduceCtorEq, Nat.reduceBEq, Nat.reduceBNe, Nat.reducePow, Int.reduceLE, Int.reduceLT, Int.reduceNeg, Int.reduceToNat, Int.reduceEq, Int.reduceAdd, Int.reduceSub, Int.reduceMul, Int.reduceBEq, Int.reduceBNe, Blk.men, Blk.keysIn, hd', hg, hshl, htm, hp3, St.men, Int.ofNat_zero])
    | (exact retS_of rfl rfl rfl)
    | (refine DW.cond_tt rfl ?_)
    | (refine DW.cond_ff rfl ?_)
    | (refine DW.cond rfl ?_ ?_ <;> intro hc <;> (try simp only [go_sem] at hc))
    | (refine g_split ?_ ?_ <;> intro hc <;> (try simp only [hc]) <;> (try simp only [go_sem] at hc)))
      refine ⟨⟨1, hln.1⟩, ?_, Ent.to ?_ ?_⟩ <;> first | (show _ < _; (try simp only); omega) | (simp (disch := omega) only [wkT_cons, wkX_cons, wkT_nil, wkX_nil, get, Nat.reduceEqDiff, ↓reduceIte, ex_some, wk_self, wk_top, wk_nil, wkB_self, and_self, dI, i64_in, and_true, true_and, Int.natCast_add, Int.natCast_one, Int.ofNat_zero, Int.natCast_zero,  mk44, hz, d8, bxL])
      all_goals exact .refl _
    · have hz : nL ((nozP x).take (0 + 1)) = [0] := by
        have : x.noz = [] := List.eq_nil_of_length_eq_zero hend.symm
        simp [nozP, this, nL]
      have hd' : decide ((0 : Int) < (x.noz.length : Int)) = false := hd
      repeat' (first
    | (with_reducible refine DW.seq ?_)
    | (with_reducible refine DW.block ?_)
    | (with_reducible refine DW.skip ?_)
    | (with_reducible refine DW.exit ?_)
    | (with_reducible refine DW.ret ?_)
    | (with_reducible refine DW.reg ?_)
    | (refine DW.dreg rfl (WF.of (by first | rfl | simp (disch := omega) only [go_sem, Nat.reduceLT, Nat.reduceLeDiff, Nat.reduceAdd, Nat.reduceMul, Nat.reduceEqDiff, ↓reduceIte, reduceCtorEq, Nat.reduceBEq, Nat.reduceBNe, Nat.reducePow, Int.reduceLE, Int.reduceLT, Int.reduceNeg, Int.reduceToNat, Int.reduceEq, Int.reduceAdd, Int.reduceSub, Int.reduceMul, Int.reduceBEq, Int.reduceBNe, Blk.men, Blk.keysIn, hd', St.men, Int.ofNat_zero])) ?_)
    | (simp (disch := omega) only [go_sem, Nat.reduceLT, Nat.reduceLeDiff, Nat.reduceAdd, Nat.reduceMul, Nat.reduceEqDiff, ↓reduceIte, reduceCtorEq, Nat.reduceBEq, Nat.reduceBNe, Nat.reducePow, Int.reduceLE, Int.reduceLT, Int.reduceNeg, Int.reduceToNat, Int.reduceEq, Int.reduceAdd, Int.reduceSub, Int.reduceMul, Int.reduceBEq, Int.reduceBNe, Blk.men, Blk.keysIn, hd', St.men, Int.ofNat_zero])
    | (exact retS_of rfl rfl rfl)
    | (refine DW.cond_tt rfl ?_)
    | (refine DW.cond_ff rfl ?_)
    | (refine DW.cond rfl ?_ ?_ <;> intro hc <;> (try simp only [go_sem] at hc))
    | (refine g_split ?_ ?_ <;> intro hc <;> (try simp only [hc]) <;> (try simp only [go_sem] at hc)))
      refine ⟨⟨1, hln.1⟩, ?_, Ent.to ?_ ?_⟩ <;> first | (show _ < _; (try simp only); omega) | (simp (disch := omega) only [wkT_cons, wkX_cons, wkT_nil, wkX_nil, get, Nat.reduceEqDiff, ↓reduceIte, ex_some, wk_self, wk_top, wk_nil, wkB_self, and_self, dI, i64_in, and_true, true_and, Int.natCast_add, Int.natCast_one, Int.ofNat_zero, Int.natCast_zero,  mk44, hz, d8, bxL])
      all_goals exact .refl _
  | j + 1, hj =>
    simp only [mk44]
    have hj0 : (((j + 1 : Nat) : Int) == 0) = false := by rw [beq_eq_false_iff_ne]; omega
    rcases Nat.lt_or_ge (j + 1) (nozP x).length with hlt | hge
    · have hlx : j + 1 < x.noz.length ∧ j + 1 < 4 := by
        unfold nozP at hlt
        split at hlt
        · simp at hlt
        · simp at hlt; omega
      have hd : decide (((j + 1 : Nat) : Int) < (x.noz.length : Int)) = true := by rw [decide_eq_true_eq]; omega
      have hd4 : decide (((j + 1 : Nat) : Int) < 4) = true := by rw [decide_eq_true_eq]; omega
      obtain ⟨v, hg⟩ := getE (l := x.noz) (i := j + 1) hlx.1
      have hv := hx.noz v (List.mem_of_getElem? hg)
      have hm : v % 2 ^ x.st < 2 ^ x.st := Nat.mod_lt _ hp0
      have hne : x.noz ≠ [] := fun e => by simp [e] at hg
      have hpg : (nozP x)[j + 1]? = some (v % 2 ^ x.st) := by
        rw [nozP, if_neg hne, List.getElem?_map, List.getElem?_take, if_pos hlx.2, hg]; rfl
      have hz : nL ((nozP x).take (j + 1 + 1)) = nL ((nozP x).take (j + 1)) ++ [((v % 2 ^ x.st : Nat) : Int)] := by
        rw [List.take_add_one, hpg]; simp [nL]
      have hlen : (nL ((nozP x).take (j + 1))).length ≤ 4 := by rw [nL_length, List.length_take]; omega
      generalize hl0 : nL ((nozP x).take (j + 1)) = l0 at *
      repeat' (first
    | (with_reducible refine DW.seq ?_)
    | (with_reducible refine DW.block ?_)
    | (with_reducible refine DW.skip ?_)
    | (with_reducible refine DW.exit ?_)
    | (with_reducible refine DW.ret ?_)
    | (with_reducible refine DW.reg ?_)
    | (refine DW.dreg rfl (WF.of (by first | rfl | simp (disch := omega) only [go_sem, Nat.reduceLT, Nat.reduceLeDiff, Nat.reduceAdd, Nat.reduceMul, Nat.reduceEqDiff, ↓reduceIte, reduceCtorEq, Nat.reduceBEq, Nat.reduceBNe, Nat.reducePow, Int.reduceLE, Int.reduceLT, Int.reduceNeg, Int.reduceToNat, Int.reduceEq, Int.reduceAdd, Int.reduceSub, Int.reduceMul, Int.reduceBEq, Int.reduceBNe, Blk.men, Blk.keysIn, hj0, hd, hd4, hg, hshl, htm, hp3])) ?_)
    | (simp (disch := omega) only [go_sem, Nat.reduceLT, Nat.reduceLeDiff, Nat.reduceAdd, Nat.reduceMul, Nat.reduceEqDiff, ↓reduceIte, reduceCtorEq, Nat.reduceBEq, Nat.reduceBNe, Nat.reducePow, Int.reduceLE, Int.reduceLT, Int.reduceNeg, Int.reduceToNat, Int.reduceEq, Int.reduceAdd, Int.reduceSub, Int.reduceMul, Int.reduceBEq, Int.reduceBNe, Blk.men, Blk.keysIn, hj0, hd, hd4, hg, hshl, htm, hp3])
    | (exact retS_of rfl rfl rfl)
    | (refine DW.cond_tt rfl ?_)
    | (refine DW.cond_ff rfl ?_)
    | (refine DW.cond rfl ?_ ?_ <;> intro hc <;> (try simp only [go_sem] at hc))
    | (refine g_split ?_ ?_ <;> intro hc <;> (try simp only [hc]) <;> (try simp only [go_sem] at hc)))
      refine ⟨⟨j + 1 + 1, hlt⟩, ?_, Ent.to ?_ ?_⟩ <;> first | (show _ < _; (try simp only); omega) | (simp (disch := omega) only [wkT_cons, wkX_cons, wkT_nil, wkX_nil, get, Nat.reduceEqDiff, ↓reduceIte, ex_some, wk_self, wk_top, wk_nil, wkB_self, and_self, dI, i64_in, and_true, true_and, Int.natCast_add, Int.natCast_one, Int.ofNat_zero, Int.natCast_zero,  mk44, hz, d8, bxL])
      all_goals exact .refl _
    · have hend : j + 1 = (nozP x).length := by omega
      have hl0 : (nozP x).take (j + 1) = nozP x := List.take_of_length_le hge
      have hex : ¬ (j + 1 < x.noz.length ∧ j + 1 < 4) := by
        rintro ⟨h1, h2⟩
        unfold nozP at hge
        split at hge
        · rename_i h; simp [h] at h1
        · simp at hge; omega
      rw [hl0]
      rcases Nat.lt_or_ge (j + 1) x.noz.length with h1 | h1
      · have hd : decide (((j + 1 : Nat) : Int) < (x.noz.length : Int)) = true := by rw [decide_eq_true_eq]; omega
        have hd4 : decide (((j + 1 : Nat) : Int) < 4) = false := by rw [decide_eq_false_iff_not]; omega
        repeat' (first
    | (with_reducible refine DW.seq ?_)
    | (with_reducible refine DW.block ?_)
    | (with_reducible refine DW.skip ?_)
    | (with_reducible refine DW.exit ?_)
    | (with_reducible refine DW.ret ?_)
    | (with_reducible refine DW.reg ?_)
    | (refine DW.dreg rfl (WF.of (by first | rfl | simp (disch := omega) only [go_sem, Nat.reduceLT, Nat.reduceLeDiff, Nat.reduceAdd, Nat.reduceMul, Nat.reduceEqDiff, ↓reduceIte, reduceCtorEq, Nat.reduceBEq, Nat.reduceBNe, Nat.reducePow, Int.reduceLE, Int.reduceLT, Int.reduceNeg, Int.reduceToNat, Int.reduceEq, Int.reduceAdd, Int.reduceSub, Int.reduceMul, Int.reduceBEq, Int.reduceBNe, Blk.men, Blk.keysIn, hj0, hd, hd4])) ?_)
    | (simp (disch := omega) only [go_sem, Nat.reduceLT, Nat.reduceLeDiff, Nat.reduceAdd, Nat.reduceMul, Nat.reduceEqDiff, ↓reduceIte, reduceCtorEq, Nat.reduceBEq, Nat.reduceBNe, Nat.reducePow, Int.reduceLE, Int.reduceLT, Int.reduceNeg, Int.reduceToNat, Int.reduceEq, Int.reduceAdd, Int.reduceSub, Int.reduceMul, Int.reduceBEq, Int.reduceBNe, Blk.men, Blk.keysIn, hj0, hd, hd4])
    | (exact retS_of rfl rfl rfl)
    | (refine DW.cond_tt rfl ?_)
    | (refine DW.cond_ff rfl ?_)
    | (refine DW.cond rfl ?_ ?_ <;> intro hc <;> (try simp only [go_sem] at hc))
    | (refine g_split ?_ ?_ <;> intro hc <;> (try simp only [hc]) <;> (try simp only [go_sem] at hc)))
        (refine retS_ent (Ent.rel 47 rfl) ?_; simp (disch := omega) only [go_sem, Nat.reduceLT, Nat.reduceLeDiff, Nat.reduceAdd, Nat.reduceMul, Nat.reduceEqDiff, ↓reduceIte, reduceCtorEq, Nat.reduceBEq, Nat.reduceBNe, Nat.reducePow, Int.reduceLE, Int.reduceLT, Int.reduceNeg, Int.reduceToNat, Int.reduceEq, Int.reduceAdd, Int.reduceSub, Int.reduceMul, Int.reduceBEq, Int.reduceBNe, Blk.men, Blk.keysIn])
        refine retS_wk rfl ?_ (by simp only [Blk.nb, rowC_nb, D.nb, D.nbs, C.nb, C.nbs, C.nbss, rows_nb eI_nb, rows_nb eC_nb, rows_nb eL_nb, rows_nb eR_nb, rows_nb eS_nb, rows_nb eG_nb, Bool.and_true, Bool.not_false, Bool.and_self, bD, dI, iD]); exact .agg (.cons (.refl _) (.cons (.refl _) .nil))
      · have hd : decide (((j + 1 : Nat) : Int) < (x.noz.length : Int)) = false := by rw [decide_eq_false_iff_not]; omega
        repeat' (first
    | (with_reducible refine DW.seq ?_)
    | (with_reducible refine DW.block ?_)
    | (with_reducible refine DW.skip ?_)
    | (with_reducible refine DW.exit ?_)
    | (with_reducible refine DW.ret ?_)
    | (with_reducible refine DW.reg ?_)
    | (refine DW.dreg rfl (WF.of (by first | rfl | simp (disch := omega) only [go_sem, Nat.reduceLT, Nat.reduceLeDiff, Nat.reduceAdd, Nat.reduceMul, Nat.reduceEqDiff, ↓reduceIte, reduceCtorEq, Nat.reduceBEq, Nat.reduceBNe, Nat.reducePow, Int.reduceLE, Int.reduceLT, Int.reduceNeg, Int.reduceToNat, Int.reduceEq, Int.reduceAdd, Int.reduceSub, Int.reduceMul, Int.reduceBEq, Int.reduceBNe, Blk.men, Blk.keysIn, hj0, hd])) ?_)
    | (simp (disch := omega) only [go_sem, Nat.reduceLT, Nat.reduceLeDiff, Nat.reduceAdd, Nat.reduceMul, Nat.reduceEqDiff, ↓reduceIte, reduceCtorEq, Nat.reduceBEq, Nat.reduceBNe, Nat.reducePow, Int.reduceLE, Int.reduceLT, Int.reduceNeg, Int.reduceToNat, Int.reduceEq, Int.reduceAdd, Int.reduceSub, Int.reduceMul, Int.reduceBEq, Int.reduceBNe, Blk.men, Blk.keysIn, hj0, hd])
    | (exact retS_of rfl rfl rfl)
    | (refine DW.cond_tt rfl ?_)
    | (refine DW.cond_ff rfl ?_)
    | (refine DW.cond rfl ?_ ?_ <;> intro hc <;> (try simp only [go_sem] at hc))
    | (refine g_split ?_ ?_ <;> intro hc <;> (try simp only [hc]) <;> (try simp only [go_sem] at hc)))
        (refine retS_ent (Ent.rel 47 rfl) ?_; simp (disch := omega) only [go_sem, Nat.reduceLT, Nat.reduceLeDiff, Nat.reduceAdd, Nat.reduceMul, Nat.reduceEqDiff, ↓reduceIte, reduceCtorEq, Nat.reduceBEq, Nat.reduceBNe, Nat.reducePow, Int.reduceLE, Int.reduceLT, Int.reduceNeg, Int.reduceToNat, Int.reduceEq, Int.reduceAdd, Int.reduceSub, Int.reduceMul, Int.reduceBEq, Int.reduceBNe, Blk.men, Blk.keysIn])
        refine retS_wk rfl ?_ (by simp only [Blk.nb, rowC_nb, D.nb, D.nbs, C.nb, C.nbs, C.nbss, rows_nb eI_nb, rows_nb eC_nb, rows_nb eL_nb, rows_nb eR_nb, rows_nb eS_nb, rows_nb eG_nb, Bool.and_true, Bool.not_false, Bool.and_self, bD, dI, iD]); exact .agg (.cons (.refl _) (.cons (.refl _) .nil))
end Go.Dw.Seat
end
section
set_option linter.unusedSimpArgs false
set_option maxRecDepth 100000
namespace Go.Dw.Seat
open Go Go.Dw Go.Proofs Go.IntWalk
abbrev bxP (b : Bool) (x : Line) : Blk := .box [dI x.st, dIs b (nL (nozP x))]
attribute [go_sem] bxP
def mk46 (b b' : Bool) (x : Line) : Nat → St
  | 0 => ⟨76, [(7, dI 0), (6, dIs false (nL (fromsN x))), (5, .own 10), (3, .box 3 0), (2, .box 2 0)], [(10, .row 3 (rowC (rows eC []))), (3, bxP b' x), (2, bxL b x)]⟩
  | 1 => ⟨76, [(7, dI 1), (6, dIs false (nL (fromsN x))), (5, .own 10), (3, .box 3 0), (2, .box 2 0)], [(10, .row 3 (rowC (rows eC [x.c0]))), (3, bxP b' x), (2, bxL b x)]⟩
  | _ => ⟨76, [(7, dI 2), (6, dIs false (nL (fromsN x))), (5, dCs false (two x.c0 x.c1)), (3, .box 3 0), (2, .box 2 0)], [(3, bxP b' x), (2, bxL b x)]⟩
theorem froms_get (x : Line) (c : Nat) : (nL (fromsN x))[c % 3]? = some ((((fromsN x).getD (c % 3) 0 : Nat)) : Int) := by
  have h3 : c % 3 < 3 := Nat.mod_lt _ (by decide)
  generalize c % 3 = k at *
  simp only [fromsN, nL]
  match k, h3 with
  | 0, _ => simp
  | 1, _ => simp
  | 2, _ => simp
theorem c46 (b b' : Bool) (x : Line) (hx : x.ok) : DCall Try.prog 46 [dL b x, dP b' (planN x)] [] (dCs false (truthN x)) [] := by
  have h0 := hx.a0
  have h1 := hx.a1
  have h2 := hx.a2
  have h3 := hx.b0
  have h4 := hx.b1
  have h5 := hx.b2
  have h6 := hx.many
  have hln := nozP_len x
  have hm3 : x.many % 3 < 3 := Nat.mod_lt _ (by decide)
  have htm : ∀ v : Nat, (v : Int).tmod ((nozP x).length : Int) = ((v % (nozP x).length : Nat) : Int) := fun v => tmod_nat v _
  have hne : (((nozP x).length : Int) = 0) = False := eq_false (by omega)
  have p0 : x.a0 % (nozP x).length < (nozP x).length := Nat.mod_lt _ hln.1
  have p1 : x.a1 % 4 < 4 := Nat.mod_lt _ (by decide)
  have p2 : x.a2 % 3 < 3 := Nat.mod_lt _ (by decide)
  have p3 : x.b0 % (nozP x).length < (nozP x).length := Nat.mod_lt _ hln.1
  have p4 : x.b1 % 4 < 4 := Nat.mod_lt _ (by decide)
  have p5 : x.b2 % 3 < 3 := Nat.mod_lt _ (by decide)
  have g0 := froms_get x x.a2
  have g1 := froms_get x x.b2
  have e0 : ((x.a0 % (nozP x).length : Nat) : Int) = x.c0.noz := rfl
  have e1 : (1 : Int) + ((x.a1 % 4 : Nat) : Int) = x.c0.kind := by simp [Line.c0, causeN]
  have e2 : (((fromsN x).getD (x.a2 % 3) 0 : Nat) : Int) = x.c0.frm := rfl
  have e3 : ((x.b0 % (nozP x).length : Nat) : Int) = x.c1.noz := rfl
  have e4 : (1 : Int) + ((x.b1 % 4 : Nat) : Int) = x.c1.kind := by simp [Line.c1, causeN]
  have e5 : (((fromsN x).getD (x.b2 % 3) 0 : Nat) : Int) = x.c1.frm := rfl
  have hml : ((x.many : Int).tmod 3) = ((x.many % 3 : Nat) : Int) := tmod3 _
  refine DCall.of Try.func46 sf46 hb46 (Nat.le_of_ble_eq_true rfl) (okRes_nil fun _ => rfl) ?_; simp only [s46, Mv, Sg, Ld, Fa, Xt, Ix, Ln, Cl, Oo, Og, idxs, Nat.reduceAdd]
  repeat' (first
    | (with_reducible refine DW.seq ?_)
    | (with_reducible refine DW.block ?_)
    | (with_reducible refine DW.skip ?_)
    | (with_reducible refine DW.exit ?_)
    | (with_reducible refine DW.ret ?_)
    | (with_reducible refine DW.reg ?_)
    | (refine DW.dreg rfl (WF.of (by first | rfl | simp (disch := omega) only [go_sem, Nat.reduceLT, Nat.reduceLeDiff, Nat.reduceAdd, Nat.reduceMul, Nat.reduceEqDiff, ↓reduceIte, reduceCtorEq, Nat.reduceBEq, Nat.reduceBNe, Nat.reducePow, Int.reduceLE, Int.reduceLT, Int.reduceNeg, Int.reduceToNat, Int.reduceEq, Int.reduceAdd, Int.reduceSub, Int.reduceMul, Int.reduceBEq, Int.reduceBNe, Blk.men, Blk.keysIn])) ?_)
    | (simp (disch := omega) only [go_sem, Nat.reduceLT, Nat.reduceLeDiff, Nat.reduceAdd, Nat.reduceMul, Nat.reduceEqDiff, ↓reduceIte, reduceCtorEq, Nat.reduceBEq, Nat.reduceBNe, Nat.reducePow, Int.reduceLE, Int.reduceLT, Int.reduceNeg, Int.reduceToNat, Int.reduceEq, Int.reduceAdd, Int.reduceSub, Int.reduceMul, Int.reduceBEq, Int.reduceBNe, Blk.men, Blk.keysIn])
    | (exact retS_of rfl rfl rfl)
    | (refine DW.cond_tt rfl ?_)
    | (refine call_c (c45 b x hx) (by decide) ?_)
    | (refine DW.cond_ff rfl ?_)
    | (refine DW.cond rfl ?_ ?_ <;> intro hc <;> (try simp only [go_sem] at hc))
    | (refine g_split ?_ ?_ <;> intro hc <;> (try simp only [hc]) <;> (try simp only [go_sem] at hc)))
  unfold truthN
  generalize x.many % 3 = m at *
  refine DW.loop (ι := { i : Nat // i ≤ m }) (fun i => mk46 b b' x i.1) (fun i => m - i.1) ⟨0, Nat.zero_le _⟩ ?_ ?_
  · refine Ent.to ?_ ?_ <;> simp (disch := omega) only [wkT_cons, wkX_cons, wkT_nil, wkX_nil, get, Nat.reduceEqDiff, ↓reduceIte, ex_some, wk_self, wk_top, wk_nil, wkB_self, and_self, dI, i64_in, and_true, true_and, Int.natCast_add, Int.natCast_one, Int.ofNat_zero, Int.natCast_zero, mk46, d8]
    all_goals exact .refl _
  rintro ⟨i, hi⟩
  match i, hi with
  | 0, _ =>
    simp only [mk46]
    rcases Nat.eq_zero_or_pos m with h | h
    · subst h
      repeat' (first
    | (with_reducible refine DW.seq ?_)
    | (with_reducible refine DW.block ?_)
    | (with_reducible refine DW.skip ?_)
    | (with_reducible refine DW.exit ?_)
    | (with_reducible refine DW.ret ?_)
    | (with_reducible refine DW.reg ?_)
    | (refine DW.dreg rfl (WF.of (by first | rfl | simp (disch := omega) only [go_sem, Nat.reduceLT, Nat.reduceLeDiff, Nat.reduceAdd, Nat.reduceMul, Nat.reduceEqDiff, ↓reduceIte, reduceCtorEq, Nat.reduceBEq, Nat.reduceBNe, Nat.reducePow, Int.reduceLE, Int.reduceLT, Int.reduceNeg, Int.reduceToNat, Int.reduceEq, Int.reduceAdd, Int.reduceSub, Int.reduceMul, Int.reduceBEq, Int.reduceBNe, Blk.men, Blk.keysIn, hml])) ?_)
    | (simp (disch := omega) only [go_sem, Nat.reduceLT, Nat.reduceLeDiff, Nat.reduceAdd, Nat.reduceMul, Nat.reduceEqDiff, ↓reduceIte, reduceCtorEq, Nat.reduceBEq, Nat.reduceBNe, Nat.reducePow, Int.reduceLE, Int.reduceLT, Int.reduceNeg, Int.reduceToNat, Int.reduceEq, Int.reduceAdd, Int.reduceSub, Int.reduceMul, Int.reduceBEq, Int.reduceBNe, Blk.men, Blk.keysIn, hml])
    | (exact retS_of rfl rfl rfl)
    | (refine DW.cond_tt rfl ?_)
    | (refine DW.cond_ff rfl ?_)
    | (refine DW.cond rfl ?_ ?_ <;> intro hc <;> (try simp only [go_sem] at hc))
    | (refine g_split ?_ ?_ <;> intro hc <;> (try simp only [hc]) <;> (try simp only [go_sem] at hc)))
      (refine retS_ent (Ent.rel 10 rfl) ?_; simp (disch := omega) only [go_sem, Nat.reduceLT, Nat.reduceLeDiff, Nat.reduceAdd, Nat.reduceMul, Nat.reduceEqDiff, ↓reduceIte, reduceCtorEq, Nat.reduceBEq, Nat.reduceBNe, Nat.reducePow, Int.reduceLE, Int.reduceLT, Int.reduceNeg, Int.reduceToNat, Int.reduceEq, Int.reduceAdd, Int.reduceSub, Int.reduceMul, Int.reduceBEq, Int.reduceBNe, Blk.men, Blk.keysIn])
      refine retS_wk rfl ?_ (by simp only [Blk.nb, rowC_nb, D.nb, D.nbs, C.nb, C.nbs, C.nbss, rows_nb eI_nb, rows_nb eC_nb, rows_nb eL_nb, rows_nb eR_nb, rows_nb eS_nb, rows_nb eG_nb, Bool.and_true, Bool.not_false, Bool.and_self, bD, dI, iD]); exact .refl _
    · have hd : decide ((0 : Int) < (m : Int)) = true := by rw [decide_eq_true_eq]; omega
      repeat' (first
    | (with_reducible refine DW.seq ?_)
    | (with_reducible refine DW.block ?_)
    | (with_reducible refine DW.skip ?_)
    | (with_reducible refine DW.exit ?_)
    | (with_reducible refine DW.ret ?_)
    | (with_reducible refine DW.reg ?_)
    | (refine DW.dreg rfl (WF.of (by first | rfl | simp (disch := omega) only [go_sem, Nat.reduceLT, Nat.reduceLeDiff, Nat.reduceAdd, Nat.reduceMul, Nat.reduceEqDiff, ↓reduceIte, reduceCtorEq, Nat.reduceBEq, Nat.reduceBNe, Nat.reducePow, Int.reduceLE, Int.reduceLT, Int.reduceNeg, Int.reduceToNat, Int.reduceEq, Int.reduceAdd, Int.reduceSub, Int.reduceMul, Int.reduceBEq, Int.reduceBNe, Blk.men, Blk.keysIn, hml, hd, htm, hne, tmod4, tmod3, g0, e0, e1, e2])) ?_)
    | (simp (disch := omega) only [go_sem, Nat.reduceLT, Nat.reduceLeDiff, Nat.reduceAdd, Nat.reduceMul, Nat.reduceEqDiff, ↓reduceIte, reduceCtorEq, Nat.reduceBEq, Nat.reduceBNe, Nat.reducePow, Int.reduceLE, Int.reduceLT, Int.reduceNeg, Int.reduceToNat, Int.reduceEq, Int.reduceAdd, Int.reduceSub, Int.reduceMul, Int.reduceBEq, Int.reduceBNe, Blk.men, Blk.keysIn, hml, hd, htm, hne, tmod4, tmod3, g0, e0, e1, e2])
    | (exact retS_of rfl rfl rfl)
    | (refine DW.cond_tt rfl ?_)
    | (refine call_c (c63 _ _ _) (by decide) ?_)
    | (refine DW.cond_ff rfl ?_)
    | (refine DW.cond rfl ?_ ?_ <;> intro hc <;> (try simp only [go_sem] at hc))
    | (refine g_split ?_ ?_ <;> intro hc <;> (try simp only [hc]) <;> (try simp only [go_sem] at hc)))
      refine ⟨⟨1, h⟩, ?_, Ent.to ?_ ?_⟩ <;> first | (show _ < _; (try simp only); omega) | (simp (disch := omega) only [wkT_cons, wkX_cons, wkT_nil, wkX_nil, get, Nat.reduceEqDiff, ↓reduceIte, ex_some, wk_self, wk_top, wk_nil, wkB_self, and_self, dI, i64_in, and_true, true_and, Int.natCast_add, Int.natCast_one, Int.ofNat_zero, Int.natCast_zero,  mk46, d8, bxL, bxP])
      all_goals exact .refl _
  | 1, h =>
    simp only [mk46]
    rcases Nat.lt_or_ge 1 m with hm | hm
    · have hd : decide ((1 : Int) < (m : Int)) = true := by rw [decide_eq_true_eq]; omega
      rcases Int.lt_or_le x.c0.noz x.c1.noz with hc | hc
      · have d1 : decide (x.c0.noz < x.c1.noz) = true := by rw [decide_eq_true_eq]; exact hc
        have ht : two x.c0 x.c1 = [x.c0, x.c1] := if_pos hc
        repeat' (first
    | (with_reducible refine DW.seq ?_)
    | (with_reducible refine DW.block ?_)
    | (with_reducible refine DW.skip ?_)
    | (with_reducible refine DW.exit ?_)
    | (with_reducible refine DW.ret ?_)
    | (with_reducible refine DW.reg ?_)
    | (refine DW.dreg rfl (WF.of (by first | rfl | simp (disch := omega) only [go_sem, Nat.reduceLT, Nat.reduceLeDiff, Nat.reduceAdd, Nat.reduceMul, Nat.reduceEqDiff, ↓reduceIte, reduceCtorEq, Nat.reduceBEq, Nat.reduceBNe, Nat.reducePow, Int.reduceLE, Int.reduceLT, Int.reduceNeg, Int.reduceToNat, Int.reduceEq, Int.reduceAdd, Int.reduceSub, Int.reduceMul, Int.reduceBEq, Int.reduceBNe, Blk.men, Blk.keysIn, hml, hd, htm, hne, tmod4, tmod3, g1, e3, e4, e5, d1])) ?_)
    | (simp (disch := omega) only [go_sem, Nat.reduceLT, Nat.reduceLeDiff, Nat.reduceAdd, Nat.reduceMul, Nat.reduceEqDiff, ↓reduceIte, reduceCtorEq, Nat.reduceBEq, Nat.reduceBNe, Nat.reducePow, Int.reduceLE, Int.reduceLT, Int.reduceNeg, Int.reduceToNat, Int.reduceEq, Int.reduceAdd, Int.reduceSub, Int.reduceMul, Int.reduceBEq, Int.reduceBNe, Blk.men, Blk.keysIn, hml, hd, htm, hne, tmod4, tmod3, g1, e3, e4, e5, d1])
    | (exact retS_of rfl rfl rfl)
    | (refine DW.cond_tt rfl ?_)
    | (refine call_c (c63 _ _ _) (by decide) ?_)
    | (refine DW.cond_ff rfl ?_)
    | (refine DW.cond rfl ?_ ?_ <;> intro hc <;> (try simp only [go_sem] at hc))
    | (refine g_split ?_ ?_ <;> intro hc <;> (try simp only [hc]) <;> (try simp only [go_sem] at hc)))
        refine ⟨⟨2, by omega⟩, by (show _ < _; (try simp only); omega), (Ent.rel 10 rfl).trans ?_⟩; simp (disch := omega) only [go_sem, Nat.reduceLT, Nat.reduceLeDiff, Nat.reduceAdd, Nat.reduceMul, Nat.reduceEqDiff, ↓reduceIte, reduceCtorEq, Nat.reduceBEq, Nat.reduceBNe, Nat.reducePow, Int.reduceLE, Int.reduceLT, Int.reduceNeg, Int.reduceToNat, Int.reduceEq, Int.reduceAdd, Int.reduceSub, Int.reduceMul, Int.reduceBEq, Int.reduceBNe, Blk.men, Blk.keysIn,  mk46, ht, d8, bxL, bxP]; refine Ent.to ?_ ?_ <;> (simp (disch := omega) only [wkT_cons, wkX_cons, wkT_nil, wkX_nil, get, Nat.reduceEqDiff, ↓reduceIte, ex_some, wk_self, wk_top, wk_nil, wkB_self, and_self, dI, i64_in, and_true, true_and, Int.natCast_add, Int.natCast_one, Int.ofNat_zero, Int.natCast_zero,  mk46, ht, d8, bxL, bxP])
        all_goals exact .refl _
      · have d1 : decide (x.c0.noz < x.c1.noz) = false := by rw [decide_eq_false_iff_not]; omega
        rcases Int.lt_or_le x.c1.noz x.c0.noz with hc' | hc'
        · have d2 : decide (x.c1.noz < x.c0.noz) = true := by rw [decide_eq_true_eq]; exact hc'
          have ht : two x.c0 x.c1 = [x.c1, x.c0] := by rw [two, if_neg (by omega), if_pos hc']
          repeat' (first
    | (with_reducible refine DW.seq ?_)
    | (with_reducible refine DW.block ?_)
    | (with_reducible refine DW.skip ?_)
    | (with_reducible refine DW.exit ?_)
    | (with_reducible refine DW.ret ?_)
    | (with_reducible refine DW.reg ?_)
    | (refine DW.dreg rfl (WF.of (by first | rfl | simp (disch := omega) only [go_sem, Nat.reduceLT, Nat.reduceLeDiff, Nat.reduceAdd, Nat.reduceMul, Nat.reduceEqDiff, ↓reduceIte, reduceCtorEq, Nat.reduceBEq, Nat.reduceBNe, Nat.reducePow, Int.reduceLE, Int.reduceLT, Int.reduceNeg, Int.reduceToNat, Int.reduceEq, Int.reduceAdd, Int.reduceSub, Int.reduceMul, Int.reduceBEq, Int.reduceBNe, Blk.men, Blk.keysIn, hml, hd, htm, hne, tmod4, tmod3, g1, e3, e4, e5, d1, d2])) ?_)
    | (simp (disch := omega) only [go_sem, Nat.reduceLT, Nat.reduceLeDiff, Nat.reduceAdd, Nat.reduceMul, Nat.reduceEqDiff, ↓reduceIte, reduceCtorEq, Nat.reduceBEq, Nat.reduceBNe, Nat.reducePow, Int.reduceLE, Int.reduceLT, Int.reduceNeg, Int.reduceToNat, Int.reduceEq, Int.reduceAdd, Int.reduceSub, Int.reduceMul, Int.reduceBEq, Int.reduceBNe, Blk.men, Blk.keysIn, hml, hd, htm, hne, tmod4, tmod3, g1, e3, e4, e5, d1, d2])
    | (exact retS_of rfl rfl rfl)
    | (refine DW.cond_tt rfl ?_)
    | (refine call_c (c63 _ _ _) (by decide) ?_)
    | (refine DW.cond_ff rfl ?_)
    | (refine DW.cond rfl ?_ ?_ <;> intro hc <;> (try simp only [go_sem] at hc))
    | (refine g_split ?_ ?_ <;> intro hc <;> (try simp only [hc]) <;> (try simp only [go_sem] at hc)))
          refine ⟨⟨2, by omega⟩, by (show _ < _; (try simp only); omega), (Ent.rel 74 rfl).trans ?_⟩; simp (disch := omega) only [go_sem, Nat.reduceLT, Nat.reduceLeDiff, Nat.reduceAdd, Nat.reduceMul, Nat.reduceEqDiff, ↓reduceIte, reduceCtorEq, Nat.reduceBEq, Nat.reduceBNe, Nat.reducePow, Int.reduceLE, Int.reduceLT, Int.reduceNeg, Int.reduceToNat, Int.reduceEq, Int.reduceAdd, Int.reduceSub, Int.reduceMul, Int.reduceBEq, Int.reduceBNe, Blk.men, Blk.keysIn,  mk46, ht, d8, bxL, bxP]; refine Ent.to ?_ ?_ <;> (simp (disch := omega) only [wkT_cons, wkX_cons, wkT_nil, wkX_nil, get, Nat.reduceEqDiff, ↓reduceIte, ex_some, wk_self, wk_top, wk_nil, wkB_self, and_self, dI, i64_in, and_true, true_and, Int.natCast_add, Int.natCast_one, Int.ofNat_zero, Int.natCast_zero,  mk46, ht, d8, bxL, bxP])
          all_goals exact .refl _
        · have d2 : decide (x.c1.noz < x.c0.noz) = false := by rw [decide_eq_false_iff_not]; omega
          have ht : two x.c0 x.c1 = [x.c0] := by rw [two, if_neg (by omega), if_neg (by omega)]
          repeat' (first
    | (with_reducible refine DW.seq ?_)
    | (with_reducible refine DW.block ?_)
    | (with_reducible refine DW.skip ?_)
    | (with_reducible refine DW.exit ?_)
    | (with_reducible refine DW.ret ?_)
    | (with_reducible refine DW.reg ?_)
    | (refine DW.dreg rfl (WF.of (by first | rfl | simp (disch := omega) only [go_sem, Nat.reduceLT, Nat.reduceLeDiff, Nat.reduceAdd, Nat.reduceMul, Nat.reduceEqDiff, ↓reduceIte, reduceCtorEq, Nat.reduceBEq, Nat.reduceBNe, Nat.reducePow, Int.reduceLE, Int.reduceLT, Int.reduceNeg, Int.reduceToNat, Int.reduceEq, Int.reduceAdd, Int.reduceSub, Int.reduceMul, Int.reduceBEq, Int.reduceBNe, Blk.men, Blk.keysIn, hml, hd, htm, hne, tmod4, tmod3, g1, e3, e4, e5, d1, d2])) ?_)
    | (simp (disch := omega) only [go_sem, Nat.reduceLT, Nat.reduceLeDiff, Nat.reduceAdd, Nat.reduceMul, Nat.reduceEqDiff, ↓reduceIte, reduceCtorEq, Nat.reduceBEq, Nat.reduceBNe, Nat.reducePow, Int.reduceLE, Int.reduceLT, Int.reduceNeg, Int.reduceToNat, Int.reduceEq, Int.reduceAdd, Int.reduceSub, Int.reduceMul, Int.reduceBEq, Int.reduceBNe, Blk.men, Blk.keysIn, hml, hd, htm, hne, tmod4, tmod3, g1, e3, e4, e5, d1, d2])
    | (exact retS_of rfl rfl rfl)
    | (refine DW.cond_tt rfl ?_)
    | (refine call_c (c63 _ _ _) (by decide) ?_)
    | (refine DW.cond_ff rfl ?_)
    | (refine DW.cond rfl ?_ ?_ <;> intro hc <;> (try simp only [go_sem] at hc))
    | (refine g_split ?_ ?_ <;> intro hc <;> (try simp only [hc]) <;> (try simp only [go_sem] at hc)))
          refine ⟨⟨2, by omega⟩, by (show _ < _; (try simp only); omega), (Ent.rel 10 rfl).trans ?_⟩; simp (disch := omega) only [go_sem, Nat.reduceLT, Nat.reduceLeDiff, Nat.reduceAdd, Nat.reduceMul, Nat.reduceEqDiff, ↓reduceIte, reduceCtorEq, Nat.reduceBEq, Nat.reduceBNe, Nat.reducePow, Int.reduceLE, Int.reduceLT, Int.reduceNeg, Int.reduceToNat, Int.reduceEq, Int.reduceAdd, Int.reduceSub, Int.reduceMul, Int.reduceBEq, Int.reduceBNe, Blk.men, Blk.keysIn,  mk46, ht, d8, bxL, bxP]; refine Ent.to ?_ ?_ <;> (simp (disch := omega) only [wkT_cons, wkX_cons, wkT_nil, wkX_nil, get, Nat.reduceEqDiff, ↓reduceIte, ex_some, wk_self, wk_top, wk_nil, wkB_self, and_self, dI, i64_in, and_true, true_and, Int.natCast_add, Int.natCast_one, Int.ofNat_zero, Int.natCast_zero,  mk46, ht, d8, bxL, bxP])
          all_goals exact .refl _
    · obtain rfl : m = 1 := by omega
      repeat' (first
    | (with_reducible refine DW.seq ?_)
    | (with_reducible refine DW.block ?_)
    | (with_reducible refine DW.skip ?_)
    | (with_reducible refine DW.exit ?_)
    | (with_reducible refine DW.ret ?_)
    | (with_reducible refine DW.reg ?_)
    | (refine DW.dreg rfl (WF.of (by first | rfl | simp (disch := omega) only [go_sem, Nat.reduceLT, Nat.reduceLeDiff, Nat.reduceAdd, Nat.reduceMul, Nat.reduceEqDiff, ↓reduceIte, reduceCtorEq, Nat.reduceBEq, Nat.reduceBNe, Nat.reducePow, Int.reduceLE, Int.reduceLT, Int.reduceNeg, Int.reduceToNat, Int.reduceEq, Int.reduceAdd, Int.reduceSub, Int.reduceMul, Int.reduceBEq, Int.reduceBNe, Blk.men, Blk.keysIn, hml])) ?_)
    | (simp (disch := omega) only [go_sem, Nat.reduceLT, Nat.reduceLeDiff, Nat.reduceAdd, Nat.reduceMul, Nat.reduceEqDiff, ↓reduceIte, reduceCtorEq, Nat.reduceBEq, Nat.reduceBNe, Nat.reducePow, Int.reduceLE, Int.reduceLT, Int.reduceNeg, Int.reduceToNat, Int.reduceEq, Int.reduceAdd, Int.reduceSub, Int.reduceMul, Int.reduceBEq, Int.reduceBNe, Blk.men, Blk.keysIn, hml])
    | (exact retS_of rfl rfl rfl)
    | (refine DW.cond_tt rfl ?_)
    | (refine DW.cond_ff rfl ?_)
    | (refine DW.cond rfl ?_ ?_ <;> intro hc <;> (try simp only [go_sem] at hc))
    | (refine g_split ?_ ?_ <;> intro hc <;> (try simp only [hc]) <;> (try simp only [go_sem] at hc)))
      (refine retS_ent (Ent.rel 10 rfl) ?_; simp (disch := omega) only [go_sem, Nat.reduceLT, Nat.reduceLeDiff, Nat.reduceAdd, Nat.reduceMul, Nat.reduceEqDiff, ↓reduceIte, reduceCtorEq, Nat.reduceBEq, Nat.reduceBNe, Nat.reducePow, Int.reduceLE, Int.reduceLT, Int.reduceNeg, Int.reduceToNat, Int.reduceEq, Int.reduceAdd, Int.reduceSub, Int.reduceMul, Int.reduceBEq, Int.reduceBNe, Blk.men, Blk.keysIn])
      refine retS_wk rfl ?_ (by simp only [Blk.nb, rowC_nb, D.nb, D.nbs, C.nb, C.nbs, C.nbss, rows_nb eI_nb, rows_nb eC_nb, rows_nb eL_nb, rows_nb eR_nb, rows_nb eS_nb, rows_nb eG_nb, Bool.and_true, Bool.not_false, Bool.and_self, bD, dI, iD]); exact .refl _
  | 2, h =>
    obtain rfl : m = 2 := by omega
    simp only [mk46]
    repeat' (first
    | (with_reducible refine DW.seq ?_)
    | (with_reducible refine DW.block ?_)
    | (with_reducible refine DW.skip ?_)
    | (with_reducible refine DW.exit ?_)
    | (with_reducible refine DW.ret ?_)
    | (with_reducible refine DW.reg ?_)
    | (refine DW.dreg rfl (WF.of (by first | rfl | simp (disch := omega) only [go_sem, Nat.reduceLT, Nat.reduceLeDiff, Nat.reduceAdd, Nat.reduceMul, Nat.reduceEqDiff, ↓reduceIte, reduceCtorEq, Nat.reduceBEq, Nat.reduceBNe, Nat.reducePow, Int.reduceLE, Int.reduceLT, Int.reduceNeg, Int.reduceToNat, Int.reduceEq, Int.reduceAdd, Int.reduceSub, Int.reduceMul, Int.reduceBEq, Int.reduceBNe, Blk.men, Blk.keysIn, hml])) ?_)
    | (simp (disch := omega) only [go_sem, Nat.reduceLT, Nat.reduceLeDiff, Nat.reduceAdd, Nat.reduceMul, Nat.reduceEqDiff, ↓reduceIte, reduceCtorEq, Nat.reduceBEq, Nat.reduceBNe, Nat.reducePow, Int.reduceLE, Int.reduceLT, Int.reduceNeg, Int.reduceToNat, Int.reduceEq, Int.reduceAdd, Int.reduceSub, Int.reduceMul, Int.reduceBEq, Int.reduceBNe, Blk.men, Blk.keysIn, hml])
    | (exact retS_of rfl rfl rfl)
    | (refine DW.cond_tt rfl ?_)
    | (refine DW.cond_ff rfl ?_)
    | (refine DW.cond rfl ?_ ?_ <;> intro hc <;> (try simp only [go_sem] at hc))
    | (refine g_split ?_ ?_ <;> intro hc <;> (try simp only [hc]) <;> (try simp only [go_sem] at hc)))
    refine retS_wk rfl ?_ (by simp only [Blk.nb, rowC_nb, D.nb, D.nbs, C.nb, C.nbs, C.nbss, rows_nb eI_nb, rows_nb eC_nb, rows_nb eL_nb, rows_nb eR_nb, rows_nb eS_nb, rows_nb eG_nb, Bool.and_true, Bool.not_false, Bool.and_self, bD, dI, iD]); exact .refl _
  | i + 3, h => exact absurd h (by omega)
end Go.Dw.Seat
end
section
set_option linter.unusedSimpArgs false
set_option maxRecDepth 100000
namespace Go.Dw.Seat
open Go Go.Dw Go.Proofs Go.IntWalk
def eV (v : B3) : List C := [.v (.int .u8 v.v0), .v (.int .u8 v.v1), .v (.int .u8 v.v2)]
attribute [go_sem] eV
abbrev dV (b : Bool) (l : List B3) : D := .c (.sl b 3 (rows eV l))
attribute [go_sem] dV
end Go.Dw.Seat
end
section
set_option linter.unusedSimpArgs false
set_option maxRecDepth 100000
namespace Go.Dw.Seat
open Go Go.Dw Go.Proofs Go.ChangeShapes Go.WideShapes Go.ChangeAt Go.RowKit
theorem u89 : Try.prog.underlying 89 = some (.slice 116) := by kernel_rfl
theorem u90 : Try.prog.underlying 90 = some (.array 3 5) := by kernel_rfl
theorem u91 : Try.prog.underlying 91 = some (.array 2 90) := by kernel_rfl
theorem cells5 : Try.prog.cellsOf 5 = 1 := by kernel_rfl
theorem cells89 : Try.prog.cellsOf 89 = 1 := by kernel_rfl
theorem cells90 : Try.prog.cellsOf 90 = 3 := by kernel_rfl
theorem cells91 : Try.prog.cellsOf 91 = 6 := by kernel_rfl
theorem cells93 : Try.prog.cellsOf 93 = 12 := by kernel_rfl
theorem cells116 : Try.prog.cellsOf 116 = 1 := by kernel_rfl
theorem st93 : structIs Try.prog 93 [(5, 0), (89, 1), (90, 2), (91, 5), (5, 11)] = true := by kernel_rfl
section
variable {H : Type} {enc : TypeId × Value → H} {w : World} {base : Nat} {spare : Nat → Bool} {held : Bool} {fuel : Nat} {cs : List Value} {x : DataW H × List MemPlace}
theorem wf8 {n : Int} (h : (Lit.int .u8 n).wf = true) : ∃ v : Nat, n = v ∧ v < 256 := by
  have e1 : IntKind.min .u8 = 0 := by decide
  have e2 : IntKind.max .u8 = 255 := by decide
  simp only [Lit.wf, e1, e2, Bool.and_eq_true, decide_eq_true_eq] at h
  exact ⟨n.toNat, by omega, by omega⟩
theorem wf16 {n : Int} (h : (Lit.int .u16 n).wf = true) : ∃ v : Nat, n = v ∧ v < 65536 := by
  have e1 : IntKind.min .u16 = 0 := by decide
  have e2 : IntKind.max .u16 = 65535 := by decide
  simp only [Lit.wf, e1, e2, Bool.and_eq_true, decide_eq_true_eq] at h
  exact ⟨n.toNat, by omega, by omega⟩
theorem rd_U8 (h : DataW.trod enc Try.prog w base spare held fuel 5 cs = some x) : ∃ v : Nat, cs = [.int .u8 v] ∧ v < 256 := by
  obtain ⟨n, e, hw⟩ := rd_int und5 h
  obtain ⟨v, rfl, hv⟩ := wf8 hw
  exact ⟨v, e, hv⟩
theorem rd_U16 (h : DataW.trod enc Try.prog w base spare held fuel 116 cs = some x) : ∃ v : {v : Nat // v < 65536}, RepVs w A0 (eU v.1) cs := by
  obtain ⟨n, rfl, hw⟩ := rd_int und116 h
  obtain ⟨v, rfl, hv⟩ := wf16 hw
  exact ⟨⟨v, hv⟩, _, _, rfl, ⟨rfl, rfl⟩, rfl⟩
theorem rd_U16s (h : DataW.trod enc Try.prog w base spare held fuel 89 cs = some x) : ∃ (l : List Nat) (v : Value), cs = [v] ∧ RepC w A0 (.sl false 1 (rows eU l)) v ∧ l.length ≤ maxLen ∧ ∀ v ∈ l, v < 65536 := by
  obtain ⟨l, v, e, hr, hm, _⟩ := rd_slice (f := fun v : {v : Nat // v < 65536} => eU v.1) u89 cells116 (by decide) (fun _ => rfl) (fun _ _ _ h => rd_U16 h) h
  refine ⟨l.map (·.1), v, e, ?_, by simpa using hm, fun u hu => ?_⟩
  · have : rows eU (l.map (·.1)) = rows (fun v : {v : Nat // v < 65536} => eU v.1) l := by simp [rows, Function.comp_def]
    rw [this]; exact hr
  · obtain ⟨a, _, rfl⟩ := List.mem_map.1 hu
    exact a.2
theorem rd_B3 (h : DataW.trod enc Try.prog w base spare held fuel 90 cs = some x) : ∃ v : {v : B3 // v.ok}, cs = [.int .u8 v.1.v0, .int .u8 v.1.v1, .int .u8 v.1.v2] := by
  obtain ⟨hl, m, hf⟩ := rd_array u90 h
  rw [cells90] at hl
  obtain ⟨y0, h0⟩ := hf 0 (by decide)
  obtain ⟨y1, h1⟩ := hf 1 (by decide)
  obtain ⟨y2, h2⟩ := hf 2 (by decide)
  rw [cells5] at h0 h1 h2
  match cs, hl with
  | [a, b, c], _ =>
    obtain ⟨n0, e0, p0⟩ := rd_U8 h0
    obtain ⟨n1, e1, p1⟩ := rd_U8 h1
    obtain ⟨n2, e2, p2⟩ := rd_U8 h2
    simp at e0 e1 e2
    subst e0; subst e1; subst e2
    exact ⟨⟨⟨n0, n1, n2⟩, ⟨p0, p1, p2⟩⟩, rfl⟩
theorem rd_Line (h : DataW.trod enc Try.prog w base spare held fuel 93 cs = some x) : ∃ l : Line, l.ok ∧ RepVs w A0 [.v (.int .u8 l.steps), .sl false 1 (rows eU l.noz), .v (.int .u8 l.f0), .v (.int .u8 l.f1), .v (.int .u8 l.f2), .v (.int .u8 l.a0), .v (.int .u8 l.a1), .v (.int .u8 l.a2), .v (.int .u8 l.b0), .v (.int .u8 l.b1), .v (.int .u8 l.b2), .v (.int .u8 l.many)] cs := by
  obtain ⟨hl, m, hf⟩ := rd_struct st93 h
  rw [cells93] at hl
  obtain ⟨y0, h0⟩ := hf 0 5 0 rfl
  obtain ⟨y1, h1⟩ := hf 1 89 1 rfl
  obtain ⟨y2, h2⟩ := hf 2 90 2 rfl
  obtain ⟨y3, h3⟩ := hf 3 91 5 rfl
  obtain ⟨y4, h4⟩ := hf 4 5 11 rfl
  rw [cells5] at h0 h4
  rw [cells89] at h1
  rw [cells90] at h2
  rw [cells91] at h3
  obtain ⟨hl3, m3, hf3⟩ := rd_array u91 h3
  obtain ⟨z0, k0⟩ := hf3 0 (by decide)
  obtain ⟨z1, k1⟩ := hf3 1 (by decide)
  rw [cells90] at k0 k1
  match cs, hl with
  | [a, b, c, d, e, f, g, i, j, k, n, o], _ =>
    obtain ⟨n0, e0, p0⟩ := rd_U8 h0
    obtain ⟨l, v, e1, r1, _, p1⟩ := rd_U16s h1
    obtain ⟨v2, e2⟩ := rd_B3 h2
    obtain ⟨v3, e3⟩ := rd_B3 k0
    obtain ⟨v4, e4⟩ := rd_B3 k1
    obtain ⟨n5, e5, p5⟩ := rd_U8 h4
    simp at e0 e1 e2 e3 e4 e5
    obtain ⟨rfl, rfl, rfl⟩ := e2
    obtain ⟨rfl, rfl, rfl⟩ := e3
    obtain ⟨rfl, rfl, rfl⟩ := e4
    subst e0; subst e1; subst e5
    exact ⟨⟨n0, l, v2.1.v0, v2.1.v1, v2.1.v2, v3.1.v0, v3.1.v1, v3.1.v2, v4.1.v0, v4.1.v1, v4.1.v2, n5⟩,
      ⟨p0, p1, v2.2.v0, v2.2.v1, v2.2.v2, v3.2.v0, v3.2.v1, v3.2.v2, v4.2.v0, v4.2.v1, v4.2.v2, p5⟩,
      _, _, rfl, ⟨rfl, rfl⟩, _, _, rfl, r1, _, _, rfl, ⟨rfl, rfl⟩, _, _, rfl, ⟨rfl, rfl⟩, _, _, rfl, ⟨rfl, rfl⟩, _, _, rfl, ⟨rfl, rfl⟩, _, _, rfl, ⟨rfl, rfl⟩, _, _, rfl, ⟨rfl, rfl⟩, _, _, rfl, ⟨rfl, rfl⟩, _, _, rfl, ⟨rfl, rfl⟩, _, _, rfl, ⟨rfl, rfl⟩, _, _, rfl, ⟨rfl, rfl⟩, rfl⟩
end
end Go.Dw.Seat
end
section
set_option linter.unusedSimpArgs false
namespace Go.Dw.Seat
open Go Go.Dw
theorem states_check {x : Line} {s : List Cause} (hs : s ∈ statesOf (causesN (nozP x).length (nL (fromsN x)))) : checkErr (planN x) s = 0 := by
  have hc : ∀ c ∈ causesN (nozP x).length (nL (fromsN x)), causeOk (planN x) c = true := fun c hc => by
    obtain ⟨h1, h2, h3⟩ := mem_causesN hc
    have hf : 0 ≤ c.frm ∧ c.frm ≤ 1000 := by
      have := froms_in x
      simp only [wthn, Bool.not_eq_true', List.any_eq_false, Bool.or_eq_true, decide_eq_true_eq] at this
      have := this _ h3
      omega
    simp only [causeOk, Bool.and_eq_true, wthn_iff1, nL_length]
    omega
  have hlen := (valid_statesOf hs).1
  have e1 : ¬ 2 < s.length := by omega
  have e2 : s.any (fun c => !causeOk (planN x) c) = false := by
    rw [List.any_eq_false]
    intro c hcs
    rcases mem_statesOf hs with rfl | ⟨a, ha, rfl⟩ | ⟨a, b, rfl, ha, hb, hlt⟩
    · cases hcs
    · simp at hcs; subst hcs; simp [hc c ha]
    · simp at hcs; rcases hcs with rfl | rfl
      · simp [hc c ha]
      · simp [hc c hb]
  have e3 : asc (s.map (·.noz)) = true := by
    rcases mem_statesOf hs with rfl | ⟨a, ha, rfl⟩ | ⟨a, b, rfl, ha, hb, hlt⟩
    · rfl
    · rfl
    · simp [asc, hlt]
  simp only [checkErr, if_neg e1, e2, e3, Bool.false_eq_true, if_false, if_true]
end Go.Dw.Seat
end
section
set_option linter.unusedSimpArgs false
namespace Go.Dw.Seat
open Go Go.Dw
structure B6 where
  v0 : Nat
  v1 : Nat
  v2 : Nat
  v3 : Nat
  v4 : Nat
  v5 : Nat
structure B6.ok (v : B6) : Prop where
  v0 : v.v0 < 256
  v1 : v.v1 < 256
  v2 : v.v2 < 256
  v3 : v.v3 < 256
  v4 : v.v4 < 256
  v5 : v.v5 < 256
structure Warm where
  mins : Nat
  r0 : Nat
  r1 : Nat
  rooms : List B6
  pr : List Nat
structure Warm.ok (w : Warm) : Prop where
  mins : w.mins < 65536
  r0 : w.r0 < 256
  r1 : w.r1 < 256
  rooms : ∀ v ∈ w.rooms, v.ok
  pr : ∀ v ∈ w.pr, v < 65536
def Warm.n (w : Warm) : Nat := min w.rooms.length 20
end Go.Dw.Seat
end
section
set_option linter.unusedSimpArgs false
set_option maxRecDepth 100000
namespace Go.Dw.Seat
open Go Go.Dw Go.Proofs Go.IntWalk
def eW (v : B6) : List C := [.v (.int .u8 v.v0), .v (.int .u8 v.v1), .v (.int .u8 v.v2), .v (.int .u8 v.v3), .v (.int .u8 v.v4), .v (.int .u8 v.v5)]
def eT (t : Int × Int) : List C := [.v (.int .i64 t.1), .v (.int .i64 t.2)]
abbrev d16 (n : Nat) : D := .c (.v (.int .u16 n))
abbrev dW (b b' : Bool) (w : Warm) : D := .agg [d16 w.mins, d8 w.r0, d8 w.r1, .c (.sl b 6 (rows eW w.rooms)), .c (.sl b' 1 (rows eU w.pr))]
abbrev bxW (b b' : Bool) (w : Warm) : Blk := .box [d16 w.mins, d8 w.r0, d8 w.r1, .c (.sl b 6 (rows eW w.rooms)), .c (.sl b' 1 (rows eU w.pr))]
def eB (b : Bool) : List C := [.v (.bool b)]
attribute [go_sem] eW eT eB d16 dW bxW
theorem snocR (l : List Room) (a b c d : Int) : rowC (rows eR l) ++ [[D.c (.v (.int .i64 a)), D.c (.v (.int .i64 b)), D.c (.v (.int .i64 c)), D.c (.v (.int .i64 d))]] = rowC (rows eR (l ++ [⟨a, b, c, d⟩])) := by simp [rowC, rows, eR]
theorem snocT (l : List (Int × Int)) (a b : Int) : rowC (rows eT l) ++ [[D.c (.v (.int .i64 a)), D.c (.v (.int .i64 b))]] = rowC (rows eT (l ++ [(a, b)])) := by simp [rowC, rows, eT]
attribute [go_sem] snocR snocT
end Go.Dw.Seat
end
section
set_option linter.unusedSimpArgs false
namespace Go.Dw.Seat
open Go Go.Dw
theorem idxOf_at {α : Type} {p : α → Bool} : ∀ {l : List α} {j : Nat} {a : α}, l[j]? = some a → p a = true → (∀ k, k < j → ∀ b, l[k]? = some b → p b = false) → idxOf p l = some j
  | [], _, _, h, _, _ => by simp at h
  | a :: l, 0, b, h, hb, _ => by
    simp at h; subst h
    simp [idxOf, hb]
  | a :: l, j + 1, b, h, hb, hk => by
    have h0 := hk 0 (by omega) a rfl
    have ih := idxOf_at (p := p) (l := l) (j := j) (a := b) (by simpa using h) hb (fun k hk' c hc => hk (k + 1) (by omega) c (by simpa using hc))
    simp [idxOf, h0, ih]
theorem idxOf_none {α : Type} {p : α → Bool} : ∀ {l : List α}, (∀ b ∈ l, p b = false) → idxOf p l = none
  | [], _ => rfl
  | a :: l, h => by
    have ih := idxOf_none (p := p) (l := l) (fun b hb => h b (by simp [hb]))
    simp [idxOf, h a (by simp), ih]
theorem idxOf_snoc {α : Type} {p : α → Bool} (x : α) : ∀ (l : List α), idxOf p (l ++ [x]) = match idxOf p l with
    | some k => some k
    | none => if p x then some l.length else none
  | [] => by simp [idxOf]
  | a :: l => by
    have ih := idxOf_snoc (p := p) x l
    simp only [List.cons_append, idxOf]
    split
    · rfl
    · rw [ih]
      cases idxOf p l with
      | some k => rfl
      | none =>
        simp only [Option.map_none, List.length_cons]
        split <;> rfl
theorem idxOf_true {α : Type} {p : α → Bool} : ∀ {l : List α} {j : Nat}, idxOf p l = some j → ∃ a, l[j]? = some a ∧ p a = true
  | [], _, h => by simp [idxOf] at h
  | a :: l, j, h => by
    simp only [idxOf] at h
    split at h
    · cases h; exact ⟨a, rfl, by assumption⟩
    · simp only [Option.map_eq_some_iff] at h
      obtain ⟨k, hk, rfl⟩ := h
      obtain ⟨b, hb, hp⟩ := idxOf_true hk
      exact ⟨b, by simpa using hb, hp⟩
theorem idxOf_false {α : Type} {p : α → Bool} : ∀ {l : List α}, idxOf p l = none → ∀ a ∈ l, p a = false
  | [], _, a, h => by cases h
  | b :: l, h, a, ha => by
    simp only [idxOf] at h
    split at h
    · cases h
    · rename_i hb
      rcases List.mem_cons.1 ha with rfl | h1
      · simpa using hb
      · exact idxOf_false (by simpa using h) a h1
structure GrOk {β : Type} (s : Nat → β) (n : Nat) (gs : List (List Int)) : Prop where
  ne : ∀ g ∈ gs, g ≠ []
  asc : ∀ g ∈ gs, g.Pairwise (· < ·)
  mem : ∀ g ∈ gs, ∀ v ∈ g, ∃ k : Nat, v = k ∧ k < n ∧ s k = s (g.headD 0).toNat
  heads : (gs.map (·.headD 0)).Pairwise (· < ·)
  diff : (gs.map fun g => s (g.headD 0).toNat).Pairwise (fun a b => a ≠ b)
  all : ∀ k : Nat, k < n → ∃ g ∈ gs, (k : Int) ∈ g
  len : gs.flatten.length = n
theorem set_self_map {α β : Type} (f : α → β) {l : List α} {k : Nat} {a b : α} (h : l[k]? = some a) (hf : f b = f a) : (l.set k b).map f = l.map f := by
  apply List.ext_getElem?
  intro i
  rw [List.getElem?_map, List.getElem?_map, List.getElem?_set]
  split
  · rename_i e
    subst e
    rw [h]
    split
    · simp [hf]
    · rename_i hn; exact absurd (List.getElem?_eq_some_iff.1 h).1 hn
  · rfl
theorem flatten_set_len {α : Type} : ∀ {l : List (List α)} {k : Nat} {g : List α} (x : α), l[k]? = some g → (l.set k (g ++ [x])).flatten.length = l.flatten.length + 1
  | [], _, _, _, h => by simp at h
  | a :: l, 0, g, x, h => by
    simp at h; subst h
    simp; omega
  | a :: l, k + 1, g, x, h => by
    have ih := flatten_set_len (l := l) (k := k) x (by simpa using h)
    simp only [List.set_cons_succ, List.flatten_cons, List.length_append, ih]; omega
theorem headD_app {g : List Int} (h : g ≠ []) (x : Int) : (g ++ [x]).headD 0 = g.headD 0 := by
  cases g with
  | nil => exact absurd rfl h
  | cons a g => rfl
theorem GrOk.step {β : Type} [DecidableEq β] {s : Nat → β} {n : Nat} {gs : List (List Int)} (h : GrOk s n gs) : GrOk s (n + 1) (alStep (fun x y => decide (s x.toNat = s y.toNat)) gs n) := by
  unfold alStep
  split
  · rename_i k hk
    obtain ⟨g, hg, hp⟩ := idxOf_true hk
    have hgm := List.mem_of_getElem? hg
    have hs : s (g.headD 0).toNat = s n := by simpa using hp
    have hne := h.ne g hgm
    have hh := headD_app hne (n : Int)
    rw [hg]
    simp only [Option.getD_some]
    have hmem : ∀ u ∈ gs.set k (g ++ [(n : Int)]), u ∈ gs ∨ u = g ++ [(n : Int)] := fun u hu => List.mem_or_eq_of_mem_set hu
    refine ⟨?_, ?_, ?_, ?_, ?_, ?_, ?_⟩
    · intro u hu
      rcases hmem u hu with h1 | rfl
      · exact h.ne u h1
      · simp
    · intro u hu
      rcases hmem u hu with h1 | rfl
      · exact h.asc u h1
      · refine List.pairwise_append.2 ⟨h.asc g hgm, List.pairwise_singleton _ _, fun a ha b hb => ?_⟩
        rw [List.mem_singleton.1 hb]
        obtain ⟨i, rfl, hi, _⟩ := h.mem g hgm a ha
        omega
    · intro u hu v hv
      rcases hmem u hu with h1 | rfl
      · obtain ⟨i, e1, e2, e3⟩ := h.mem u h1 v hv
        exact ⟨i, e1, by omega, e3⟩
      · rw [hh]
        rcases List.mem_append.1 hv with h1 | h1
        · obtain ⟨i, e1, e2, e3⟩ := h.mem g hgm v h1
          exact ⟨i, e1, by omega, e3⟩
        · exact ⟨n, List.mem_singleton.1 h1, by omega, hs.symm⟩
    · rw [set_self_map (fun g : List Int => g.headD 0) hg hh]; exact h.heads
    · rw [set_self_map (fun g : List Int => s (g.headD 0).toNat) hg (by rw [hh])]; exact h.diff
    · intro i hi
      have hin : g ++ [(n : Int)] ∈ gs.set k (g ++ [(n : Int)]) := List.mem_set (List.getElem?_eq_some_iff.1 hg).1 _
      rcases Nat.lt_or_ge i n with h1 | h1
      · obtain ⟨u, hu, hiu⟩ := h.all i h1
        by_cases he : u = g
        · subst he
          exact ⟨_, hin, by simp [hiu]⟩
        · obtain ⟨j, hj⟩ := List.getElem?_of_mem hu
          have hjk : k ≠ j := by
            rintro rfl
            rw [hg] at hj; cases hj; exact he rfl
          exact ⟨u, List.mem_of_getElem? (by rw [List.getElem?_set_ne hjk]; exact hj), hiu⟩
      · obtain rfl : i = n := by omega
        exact ⟨_, hin, by simp⟩
    · rw [flatten_set_len _ hg, h.len]
  · rename_i hk
    have hno := idxOf_false hk
    have hmem : ∀ u ∈ gs ++ [[(n : Int)]], u ∈ gs ∨ u = [(n : Int)] := fun u hu => by simpa using hu
    refine ⟨?_, ?_, ?_, ?_, ?_, ?_, ?_⟩
    · intro u hu
      rcases hmem u hu with h1 | rfl
      · exact h.ne u h1
      · simp
    · intro u hu
      rcases hmem u hu with h1 | rfl
      · exact h.asc u h1
      · exact List.pairwise_singleton _ _
    · intro u hu v hv
      rcases hmem u hu with h1 | rfl
      · obtain ⟨i, e1, e2, e3⟩ := h.mem u h1 v hv
        exact ⟨i, e1, by omega, e3⟩
      · exact ⟨n, List.mem_singleton.1 hv, by omega, by simp⟩
    · rw [List.map_append]
      refine List.pairwise_append.2 ⟨h.heads, List.pairwise_singleton _ _, fun a ha b hb => ?_⟩
      simp at hb; subst hb
      obtain ⟨g, hg, rfl⟩ := List.mem_map.1 ha
      have hgne := h.ne g hg
      have : g.headD 0 ∈ g := by
        cases g with
        | nil => exact absurd rfl hgne
        | cons a g => simp
      obtain ⟨i, e1, e2, _⟩ := h.mem g hg _ this
      rw [e1]; omega
    · rw [List.map_append]
      refine List.pairwise_append.2 ⟨h.diff, List.pairwise_singleton _ _, fun a ha b hb => ?_⟩
      simp at hb; subst hb
      obtain ⟨g, hg, rfl⟩ := List.mem_map.1 ha
      have := hno g hg
      simpa using this
    · intro i hi
      rcases Nat.lt_or_ge i n with h1 | h1
      · obtain ⟨u, hu, hiu⟩ := h.all i h1
        exact ⟨u, by simp [hu], hiu⟩
      · obtain rfl : i = n := by omega
        exact ⟨[(i : Int)], by simp, by simp⟩
    · simp [h.len]
theorem GrOk.alF {β : Type} [DecidableEq β] (s : Nat → β) : ∀ n, GrOk s n (alF (fun x y => decide (s x.toNat = s y.toNat)) n)
  | 0 => ⟨by simp [Seat.alF], by simp [Seat.alF], by simp [Seat.alF], by simp [Seat.alF], by simp [Seat.alF], by simp, by simp [Seat.alF]⟩
  | n + 1 => by rw [alF_succ]; exact (GrOk.alF s n).step
theorem GrOk.one {β : Type} {s : Nat → β} {n : Nat} {gs : List (List Int)} (h : GrOk s n gs) {j k : Nat} {g u : List Int} (hj : gs[j]? = some g) (hk : gs[k]? = some u) {v : Int} (hg : v ∈ g) (hu : v ∈ u) : j = k := by
  obtain ⟨i, rfl, _, e1⟩ := h.mem g (List.mem_of_getElem? hj) v hg
  obtain ⟨i', e, _, e2⟩ := h.mem u (List.mem_of_getElem? hk) _ hu
  have : i = i' := by omega
  subst this
  have hs : s (g.headD 0).toNat = s (u.headD 0).toNat := by rw [← e1, ← e2]
  have hd := h.diff
  rw [List.pairwise_iff_getElem] at hd
  have hjl := (List.getElem?_eq_some_iff.1 hj).1
  have hkl := (List.getElem?_eq_some_iff.1 hk).1
  have gj : gs[j] = g := (List.getElem?_eq_some_iff.1 hj).2
  have gk : gs[k] = u := (List.getElem?_eq_some_iff.1 hk).2
  rcases Nat.lt_trichotomy j k with h1 | h1 | h1
  · have := hd j k (by simpa using hjl) (by simpa using hkl) h1
    simp only [List.getElem_map, gj, gk] at this
    exact absurd hs this
  · exact h1
  · have := hd k j (by simpa using hkl) (by simpa using hjl) h1
    simp only [List.getElem_map, gj, gk] at this
    exact absurd hs.symm this
def grI (gs : List (List Int)) (i : Nat) : Int := match idxOf (fun g => decide ((i : Int) ∈ g)) gs with
  | some j => ((j + 1 : Nat) : Int)
  | none => 0
def outL (gs : List (List Int)) (many : Nat) : List Int := (List.range many).map (grI gs)
theorem outL_len (gs : List (List Int)) (many : Nat) : (outL gs many).length = many := by simp [outL]
theorem outL_get {gs : List (List Int)} {many i : Nat} (h : i < many) : (outL gs many)[i]? = some (grI gs i) := by simp [outL, h]
theorem grI_at {β : Type} {s : Nat → β} {n : Nat} {gs : List (List Int)} (h : GrOk s n gs) {j i : Nat} {g : List Int} (hj : gs[j]? = some g) (hi : (i : Int) ∈ g) : grI gs i = ((j + 1 : Nat) : Int) := by
  unfold grI
  rw [idxOf_at hj (by simpa using hi) (fun k hk b hb => by
    rw [decide_eq_false_iff_not]
    intro hib
    have := h.one hj hb hi hib
    omega)]
theorem grI_ok {β : Type} {s : Nat → β} {n : Nat} {gs : List (List Int)} (h : GrOk s n gs) {i : Nat} (hi : i < n) : 1 ≤ grI gs i ∧ grI gs i ≤ gs.length := by
  obtain ⟨g, hg, hig⟩ := h.all i hi
  obtain ⟨j, hj⟩ := List.getElem?_of_mem hg
  rw [grI_at h hj hig]
  have := (List.getElem?_eq_some_iff.1 hj).1
  omega
theorem grI_eq {β : Type} {s : Nat → β} {n : Nat} {gs : List (List Int)} (h : GrOk s n gs) {i k : Nat} (hi : i < n) (hk : k < n) : grI gs i = grI gs k ↔ s i = s k := by
  obtain ⟨g, hg, hig⟩ := h.all i hi
  obtain ⟨j, hj⟩ := List.getElem?_of_mem hg
  obtain ⟨u, hu, hku⟩ := h.all k hk
  obtain ⟨l, hl⟩ := List.getElem?_of_mem hu
  obtain ⟨i', e1, _, s1⟩ := h.mem g hg _ hig
  obtain ⟨k', e2, _, s2⟩ := h.mem u hu _ hku
  have : i = i' := by omega
  subst this
  have : k = k' := by omega
  subst this
  rw [grI_at h hj hig, grI_at h hl hku, s1, s2]
  constructor
  · intro e
    have : j = l := by omega
    subst this
    rw [hj] at hl; cases hl; rfl
  · intro e
    have hd := h.diff
    rw [List.pairwise_iff_getElem] at hd
    have hjl := (List.getElem?_eq_some_iff.1 hj).1
    have hll := (List.getElem?_eq_some_iff.1 hl).1
    have gj : gs[j] = g := (List.getElem?_eq_some_iff.1 hj).2
    have gl : gs[l] = u := (List.getElem?_eq_some_iff.1 hl).2
    rcases Nat.lt_trichotomy j l with h1 | h1 | h1
    · have := hd j l (by simpa using hjl) (by simpa using hll) h1
      simp only [List.getElem_map, gj, gl] at this
      exact absurd e this
    · rw [h1]
    · have := hd l j (by simpa using hll) (by simpa using hjl) h1
      simp only [List.getElem_map, gj, gl] at this
      exact absurd e.symm this
theorem outL_nil (many : Nat) : outL [] many = List.replicate many 0 := by
  simp only [outL]
  have : (fun i => grI [] i) = fun _ : Nat => (0 : Int) := by funext i; rfl
  rw [show (List.range many).map (grI []) = (List.range many).map (fun _ => (0 : Int)) from by rw [← this]]
  rw [List.map_const', List.length_range]
theorem outL_empty (l : List (List Int)) (many : Nat) : outL (l ++ [[]]) many = outL l many := by
  refine List.map_congr_left (fun i _ => ?_)
  unfold grI
  rw [idxOf_snoc]
  cases idxOf (fun g => decide ((i : Int) ∈ g)) l <;> simp
theorem outL_step {β : Type} {s : Nat → β} {n : Nat} {gs : List (List Int)} (h : GrOk s n gs) {j i k : Nat} {g : List Int} (hj : gs[j]? = some g) (hi : g[i]? = some (k : Int)) {many : Nat} (hk : k < many) :
    (outL (gs.take j ++ [g.take i]) many)[k]? = some 0 ∧ outL (gs.take j ++ [g.take (i + 1)]) many = (outL (gs.take j ++ [g.take i]) many).set k ((j : Int) + 1) := by
  have hkg : (k : Int) ∈ g := List.mem_of_getElem? hi
  have hpre : idxOf (fun g => decide ((k : Int) ∈ g)) (gs.take j) = none := by
    refine idxOf_none (fun b hb => ?_)
    rw [decide_eq_false_iff_not]
    intro hkb
    obtain ⟨l, hl⟩ := List.getElem?_of_mem hb
    have hlj : l < j := by
      have := (List.getElem?_eq_some_iff.1 hl).1
      rw [List.length_take] at this; omega
    rw [List.getElem?_take, if_pos hlj] at hl
    have := h.one hj hl hkg hkb
    omega
  have hlen : (gs.take j).length = j := by
    rw [List.length_take]
    have := (List.getElem?_eq_some_iff.1 hj).1
    omega
  have hnot : (k : Int) ∉ g.take i := by
    intro hm
    obtain ⟨l, hl⟩ := List.getElem?_of_mem hm
    have hli : l < i := by
      have := (List.getElem?_eq_some_iff.1 hl).1
      rw [List.length_take] at this; omega
    rw [List.getElem?_take, if_pos hli] at hl
    have ha := h.asc g (List.mem_of_getElem? hj)
    rw [List.pairwise_iff_getElem] at ha
    obtain ⟨h1, e1⟩ := List.getElem?_eq_some_iff.1 hl
    obtain ⟨h2, e2⟩ := List.getElem?_eq_some_iff.1 hi
    have := ha l i h1 h2 hli
    rw [e1, e2] at this
    omega
  have hval : grI (gs.take j ++ [g.take i]) k = 0 := by
    unfold grI
    rw [idxOf_snoc, hpre]
    simp [hnot]
  refine ⟨by rw [outL_get hk, hval], ?_⟩
  have hsucc : g.take (i + 1) = g.take i ++ [(k : Int)] := by rw [List.take_add_one, hi]; rfl
  apply List.ext_getElem?
  intro m
  rw [List.getElem?_set]
  by_cases hm : m < many
  · by_cases e : k = m
    · subst e
      rw [if_pos rfl, if_pos (by rw [outL_len]; exact hm), outL_get hm]
      unfold grI
      rw [idxOf_snoc, hpre, hsucc]
      simp [hlen]
    · rw [if_neg e, outL_get hm, outL_get hm]
      congr 1
      unfold grI
      rw [idxOf_snoc, idxOf_snoc, hsucc]
      have : ¬ ((m : Int) = (k : Int)) := fun e' => e (by omega)
      simp [this]
  · rw [List.getElem?_eq_none (by rw [outL_len]; omega)]
    split
    · rename_i e; subst e; rw [if_neg (by rw [outL_len]; omega)]
    · rw [List.getElem?_eq_none (by rw [outL_len]; omega)]
end Go.Dw.Seat
end
section
set_option linter.unusedSimpArgs false
namespace Go.Dw.Seat
open Go Go.Dw
def lineI (x : Line) (v : B6) : Line := { x with a0 := v.v0, a1 := v.v1, a2 := v.v2, b0 := v.v3, b1 := v.v4, b2 := v.v5, many := v.v0 }
theorem lineI_ok {x : Line} {v : B6} (hx : x.ok) (hv : v.ok) : (lineI x v).ok := ⟨hx.steps, hx.noz, hx.f0, hx.f1, hx.f2, hv.v0, hv.v1, hv.v2, hv.v3, hv.v4, hv.v5, hv.v0⟩
def truthsI (x : Line) (others : List B6) (i : Nat) : List (List Cause) := truthN x :: (others.take i).map fun v => truthN (lineI x v)
theorem truthsI_succ {x : Line} {others : List B6} {i : Nat} {v : B6} (h : others[i]? = some v) : truthsI x others (i + 1) = truthsI x others i ++ [truthN (lineI x v)] := by
  rw [truthsI, truthsI, List.take_add_one, h, List.map_append]; rfl
theorem truthsI_len (x : Line) (others : List B6) (i : Nat) : 1 ≤ (truthsI x others i).length ∧ (truthsI x others i).length ≤ i + 1 := by
  simp [truthsI]; omega
theorem truthsI_mem {x : Line} {others : List B6} {i : Nat} : ∀ s ∈ truthsI x others i, s ∈ statesOf (causesN (nozP x).length (nL (fromsN x))) := by
  intro s hs
  rcases List.mem_cons.1 hs with rfl | h
  · exact truthN_mem x
  · obtain ⟨v, _, rfl⟩ := List.mem_map.1 h
    exact truthN_mem (lineI x v)
theorem first_zero {p : Plan} : ∀ {ss : List (List Cause)}, (∀ s ∈ ss, checkErr p s = 0) → firstErr p ss = 0
  | [], _ => rfl
  | s :: ss, h => by
    simp only [firstErr, h s (by simp), ne_eq, not_true, if_false]
    exact first_zero (fun u hu => h u (by simp [hu]))
theorem st_all {x : Line} {ss : List (List Cause)} (h : ∀ s ∈ ss, s ∈ statesOf (causesN (nozP x).length (nL (fromsN x)))) : stErr (planN x) ss = 0 := by
  simp only [stErr, planN_open, if_true]
  exact first_zero (fun s hs => states_check (h s hs))
def sgN (x : Line) (ss : List (List Cause)) (n : Nat) (k : Nat) : List Nat := sigN x.st (nozP x) (ss.getD k []) n
theorem al_err {x : Line} {ss : List (List Cause)} (h : ∀ s ∈ ss, s ∈ statesOf (causesN (nozP x).length (nL (fromsN x)))) (hl : ss.length ≤ 30) (n : Nat) (hn : 1 ≤ n ∧ n ≤ 20) : alErr (planN x) ss n = 0 := by
  have h1 : ¬ 30 < (ss.length : Int) := by omega
  have h2 : wthn 1 20 [(n : Int)] = true := by rw [wthn_iff1]; omega
  simp only [alErr, planN_open, st_all h, if_neg h1, h2, if_true]
theorem al_out {x : Line} {ss : List (List Cause)} (h : ∀ s ∈ ss, s ∈ statesOf (causesN (nozP x).length (nL (fromsN x)))) (hl : ss.length ≤ 30) (n : Nat) (hn : 1 ≤ n ∧ n ≤ 20) :
    GrOk (sgN x ss n) ss.length (alOut (planN x) ss n) := by
  have h1 : (planN x).steps.toNat = x.st := by simp [planN]
  have h2 : (planN x).noz.map Int.toNat = nozP x := nL_toNat _
  have h3 : ((n : Nat) : Int).toNat = n := by simp
  have e : alOut (planN x) ss n = alF (fun a b => decide (sgN x ss n a.toNat = sgN x ss n b.toNat)) ss.length := by
    rw [alOut, if_pos (al_err h hl n hn), h1, h2, h3]; rfl
  rw [e]
  exact GrOk.alF (sgN x ss n) ss.length
theorem sg_apart {x : Line} {ss : List (List Cause)} (h : ∀ s ∈ ss, s ∈ statesOf (causesN (nozP x).length (nL (fromsN x)))) {i k n : Nat} {a b : List Cause} (hi : ss[i]? = some a) (hk : ss[k]? = some b) :
    decide (sgN x ss n i = sgN x ss n k) = !(apartN x.st (nozP x) a b n).isSome := by
  have ea : ss.getD i [] = a := by simp [List.getD, hi]
  have eb : ss.getD k [] = b := by simp [List.getD, hk]
  rw [sgN, sgN, ea, eb]
  exact sig_eq (nozP_lt x) (states_check (h a (List.mem_of_getElem? hi))) (states_check (h b (List.mem_of_getElem? hk)))
theorem sg_wide {x : Line} {ss : List (List Cause)} {i k n m : Nat} (hnm : n ≤ m) (h : sgN x ss m i = sgN x ss m k) : sgN x ss n i = sgN x ss n k := by
  unfold sgN sigN at h ⊢
  have hl : ∀ k' : Nat, (boxN x.st (nozP x) (ss.getD i []) (k' : Nat)).length = (boxN x.st (nozP x) (ss.getD k []) (k' : Nat)).length := fun k' => by rw [boxN_length, boxN_length]
  exact (flat_iff hl n).2 (fun j hj => (flat_iff hl m).1 h j (by omega))
theorem ap_st {x : Line} {a b : List Cause} (ha : a ∈ statesOf (causesN (nozP x).length (nL (fromsN x)))) (hb : b ∈ statesOf (causesN (nozP x).length (nL (fromsN x)))) : stErr (planN x) [a, b] = 0 :=
  st_all (x := x) (fun s hs => by simp at hs; rcases hs with rfl | rfl; exact ha; exact hb)
theorem ap_err {x : Line} {a b : List Cause} (ha : a ∈ statesOf (causesN (nozP x).length (nL (fromsN x)))) (hb : b ∈ statesOf (causesN (nozP x).length (nL (fromsN x)))) (n : Nat) (hn : 1 ≤ n ∧ n ≤ 20) :
    apErr (planN x) a b n = if (apartN x.st (nozP x) a b n).isSome then 0 else 7 := by
  have h1 : (planN x).steps.toNat = x.st := by simp [planN]
  have h2 : (planN x).noz.map Int.toNat = nozP x := nL_toNat _
  have h3 : ((n : Nat) : Int).toNat = n := by simp
  have h4 : wthn 1 20 [(n : Int)] = true := by rw [wthn_iff1]; omega
  rw [apErr, if_pos (ap_st ha hb), h4, if_pos rfl, h1, h2, h3, apart_eq n (nozP_lt x) (states_check ha) (states_check hb), Option.isSome_map]
theorem ap_at {x : Line} {a b : List Cause} (ha : a ∈ statesOf (causesN (nozP x).length (nL (fromsN x)))) (hb : b ∈ statesOf (causesN (nozP x).length (nL (fromsN x)))) (n : Nat) (hn : 1 ≤ n ∧ n ≤ 20) {l : Look} (hl : apartN x.st (nozP x) a b n = some l) :
    apAt (planN x) a b n = l := by
  have h1 : (planN x).steps.toNat = x.st := by simp [planN]
  have h2 : (planN x).noz.map Int.toNat = nozP x := nL_toNat _
  have h3 : ((n : Nat) : Int).toNat = n := by simp
  have h4 : wthn 1 20 [(n : Int)] = true := by rw [wthn_iff1]; omega
  rw [apart_eq n (nozP_lt x) (states_check ha) (states_check hb)] at hl
  rw [apAt, if_pos ⟨ap_st ha hb, h4⟩, h1, h2, h3]
  cases hx : apX x.st (nozP x) a b n with
  | none => rw [hx] at hl; cases hl
  | some s => rw [hx] at hl; simpa using hl
def sameN (x : Line) (a b : List Cause) (k z t : Nat) : Prop := givesL x.st ((nozP x).getD z 0) a k z t = givesL x.st ((nozP x).getD z 0) b k z t
theorem differ_same {x : Line} {a b : List Cause} (ha : a ∈ statesOf (causesN (nozP x).length (nL (fromsN x)))) (hb : b ∈ statesOf (causesN (nozP x).length (nL (fromsN x)))) {k z t : Nat} (h : sameN x a b k z t) : differ x.st (nozP x) a b k z t = none := by
  unfold sameN at h
  rw [givesL_glue (states_pair ha), givesL_glue (states_pair hb)] at h
  exact if_pos h
theorem differ_not {x : Line} {a b : List Cause} (ha : a ∈ statesOf (causesN (nozP x).length (nL (fromsN x)))) (hb : b ∈ statesOf (causesN (nozP x).length (nL (fromsN x)))) {k z t : Nat} (h : ¬ sameN x a b k z t) :
    differ x.st (nozP x) a b k z t = some ⟨k, z, t, givesL x.st ((nozP x).getD z 0) a k z t⟩ := by
  unfold sameN at h
  rw [givesL_glue (states_pair ha), givesL_glue (states_pair hb)] at h
  rw [givesL_glue (states_pair ha)]
  exact if_neg h
theorem apart_at {x : Line} {a b : List Cause} (ha : a ∈ statesOf (causesN (nozP x).length (nL (fromsN x)))) (hb : b ∈ statesOf (causesN (nozP x).length (nL (fromsN x)))) {n k z t : Nat} (hk : k < n) (hz : z < (nozP x).length) (ht : t < x.st)
    (h1 : ∀ k', k' < k → ∀ z', z' < (nozP x).length → ∀ t', t' < x.st → sameN x a b k' z' t') (h2 : ∀ z', z' < z → ∀ t', t' < x.st → sameN x a b k z' t') (h3 : ∀ t', t' < t → sameN x a b k z t') (hd : ¬ sameN x a b k z t) :
    apartN x.st (nozP x) a b n = some ⟨k, z, t, givesL x.st ((nozP x).getD z 0) a k z t⟩ := by
  unfold apartN firstAt
  refine firstIn_some (fun k' hk' => ?_) ?_ hk
  · exact firstIn_none (fun z' hz' => firstIn_none (fun t' ht' => differ_same ha hb (h1 k' hk' z' hz' t' ht')))
  · refine firstIn_some (fun z' hz' => ?_) ?_ hz
    · exact firstIn_none (fun t' ht' => differ_same ha hb (h2 z' hz' t' ht'))
    · exact firstIn_some (fun t' ht' => differ_same ha hb (h3 t' ht')) (differ_not ha hb hd) ht
end Go.Dw.Seat
end
section
set_option linter.unusedSimpArgs false
set_option maxRecDepth 100000
namespace Go.Dw.Seat
open Go Go.Dw Go.Proofs Go.IntWalk
def lastH (gs : List (List Int)) : Nat → Int
  | 0 => -1
  | j + 1 => (gs.getD j []).headD 0
theorem flat_take {gs : List (List Int)} {j : Nat} {g : List Int} (h : gs[j]? = some g) : (gs.take (j + 1)).flatten.length = (gs.take j).flatten.length + g.length := by
  rw [List.take_add_one, h, List.flatten_append]; simp
theorem flat_le {gs : List (List Int)} (j : Nat) : (gs.take j).flatten.length ≤ gs.flatten.length := by
  conv => rhs; rw [← List.take_append_drop j gs, List.flatten_append, List.length_append]
  omega
set_option maxHeartbeats 1600000 in
theorem c52 {β : Type} (s : Nat → β) (b : Bool) (gs : List (List Int)) (n : Nat) (hn : n ≤ 100) (hgl : gs.length ≤ n) (h : GrOk s n gs) :
    DCall Try.prog 52 [.c (.sl b 1 (rows eG gs)), dI n] [] (.tup [dIs false (outL gs n), bD true]) [] := by
  have hll := fun l => outL_len l n
  have hfl := h.len
  refine DCall.of Try.func52 sf52 hb52 (Nat.le_of_ble_eq_true rfl) (okRes_nil fun _ => rfl) ?_; simp only [s52, Mv, Sg, Ld, Fa, Xt, Ix, Ln, Cl, Oo, Og, idxs, Nat.reduceAdd]
  repeat' (first
    | (with_reducible refine DW.seq ?_)
    | (with_reducible refine DW.block ?_)
    | (with_reducible refine DW.skip ?_)
    | (with_reducible refine DW.exit ?_)
    | (with_reducible refine DW.ret ?_)
    | (with_reducible refine DW.reg ?_)
    | (simp (disch := omega) only [go_sem, Nat.reduceLT, Nat.reduceLeDiff, Nat.reduceAdd, Nat.reduceMul, Nat.reduceEqDiff, ↓reduceIte, reduceCtorEq, Nat.reduceBEq, Nat.reduceBNe, Nat.reducePow, Int.reduceLE, Int.reduceLT, Int.reduceNeg, Int.reduceToNat, Int.reduceEq, Int.reduceAdd, Int.reduceSub, Int.reduceMul, Int.reduceBEq, Int.reduceBNe, Blk.men, Blk.keysIn])
    | (exact retS_of rfl rfl rfl)
    | (refine DW.cond_tt rfl ?_)
    | (refine DW.cond_ff rfl ?_)
    | (refine DW.cond rfl ?_ ?_ <;> intro hc <;> (try simp only [go_sem] at hc))
    | (refine g_split ?_ ?_ <;> intro hc <;> (try simp only [hc]) <;> (try simp only [go_sem] at hc)))
  refine DW.loop (ι := { j : Nat // j ≤ gs.length }) (fun j => ⟨115, [(9, dI j.1), (8, dI (lastH gs j.1)), (7, dI ((gs.take j.1).flatten.length : Nat)), (6, .own 14), (1, dI n), (0, .c (.sl b 1 (rows eG gs)))],
    [(14, .row 1 (rowC (rows eI (outL (gs.take j.1) n))))]⟩) (fun j => gs.length - j.1) ⟨0, Nat.zero_le _⟩ ?_ ?_
  · refine Ent.to ?_ ?_ <;> simp (disch := omega) only [wkT_cons, wkX_cons, wkT_nil, wkX_nil, get, Nat.reduceEqDiff, ↓reduceIte, ex_some, wk_self, wk_top, wk_nil, wkB_self, and_self, dI, i64_in, and_true, true_and, Int.natCast_add, Int.natCast_one, Int.ofNat_zero, Int.natCast_zero, List.take_zero, outL_nil, lastH, List.flatten_nil, List.length_nil]
    all_goals exact .refl _
  rintro ⟨j, hj⟩
  rcases at_or gs j hj with ⟨g, hg, hlt, hd⟩ | ⟨hend, hd⟩
  · have hgm := List.mem_of_getElem? hg
    have hgne := h.ne g hgm
    obtain ⟨hd0, hg0⟩ := getE (l := g) (i := 0) (List.length_pos_iff.2 hgne)
    have hhd : g.headD 0 = hd0 := by
      cases g with
      | nil => exact absurd rfl hgne
      | cons a g => simpa using hg0
    obtain ⟨k0, e0, hk0, _⟩ := h.mem g hgm hd0 (List.mem_of_getElem? hg0)
    have hlast : lastH gs j < hd0 := by
      cases j with
      | zero => simp only [lastH]; omega
      | succ j =>
        obtain ⟨u, hu⟩ := getE (l := gs) (i := j) (by omega)
        have hp := h.heads
        rw [List.pairwise_iff_getElem] at hp
        have := hp j (j + 1) (by simp; omega) (by simp; omega) (by omega)
        simp only [List.getElem_map] at this
        simp only [lastH, List.getD, hu, Option.getD_some]
        rw [← hhd]
        rw [List.getElem?_eq_some_iff] at hu hg
        obtain ⟨_, rfl⟩ := hu
        obtain ⟨_, rfl⟩ := hg
        exact this
    have hlast1 : lastH gs (j + 1) = hd0 := by simp only [lastH, List.getD, hg, Option.getD_some]; exact hhd
    have hglen : g.length ≤ n := by
      have h1 := flat_take hg
      have h2 := flat_le (gs := gs) (j + 1)
      omega
    have htot : (gs.take j).flatten.length ≤ n := by have := flat_le (gs := gs) j; omega
    have htot1 := flat_take hg
    have d1 : ((g.length : Int) == 0) = false := by rw [beq_eq_false_iff_ne]; have := List.length_pos_iff.2 hgne; omega
    have d2 : decide (hd0 ≤ lastH gs j) = false := by rw [decide_eq_false_iff_not]; omega
    have hstart := outL_empty (gs.take j) n
    have hstep := fun i k hi hk => outL_step h (i := i) (k := k) (many := n) hg hi hk
    have hga := h.asc g hgm
    have hgmem := h.mem g hgm
    have htake : gs.take j ++ [g] = gs.take (j + 1) := by rw [List.take_add_one, hg]; rfl
    generalize hT : (gs.take j).flatten.length = T at *
    generalize lastH gs j = la at *
    repeat' (first
    | (with_reducible refine DW.seq ?_)
    | (with_reducible refine DW.block ?_)
    | (with_reducible refine DW.skip ?_)
    | (with_reducible refine DW.exit ?_)
    | (with_reducible refine DW.ret ?_)
    | (with_reducible refine DW.reg ?_)
    | (simp (disch := omega) only [go_sem, Nat.reduceLT, Nat.reduceLeDiff, Nat.reduceAdd, Nat.reduceMul, Nat.reduceEqDiff, ↓reduceIte, reduceCtorEq, Nat.reduceBEq, Nat.reduceBNe, Nat.reducePow, Int.reduceLE, Int.reduceLT, Int.reduceNeg, Int.reduceToNat, Int.reduceEq, Int.reduceAdd, Int.reduceSub, Int.reduceMul, Int.reduceBEq, Int.reduceBNe, Blk.men, Blk.keysIn, hd, hg, d1, hg0, d2])
    | (exact retS_of rfl rfl rfl)
    | (refine DW.cond_tt rfl ?_)
    | (refine DW.cond_ff rfl ?_)
    | (refine DW.cond rfl ?_ ?_ <;> intro hc <;> (try simp only [go_sem] at hc))
    | (refine g_split ?_ ?_ <;> intro hc <;> (try simp only [hc]) <;> (try simp only [go_sem] at hc)))
    refine DW.loop (ι := { i : Nat // i ≤ g.length }) (fun i => ⟨115, [(10, dI i.1), (9, dI j), (8, dI hd0), (7, dI ((T + i.1 : Nat) : Int)), (6, .own 14), (1, dI n), (0, .c (.sl b 1 (rows eG gs)))],
      [(14, .row 1 (rowC (rows eI (outL (gs.take j ++ [g.take i.1]) n))))]⟩) (fun i => g.length - i.1) ⟨0, Nat.zero_le _⟩ ?_ ?_
    · refine Ent.to ?_ ?_ <;> simp (disch := omega) only [wkT_cons, wkX_cons, wkT_nil, wkX_nil, get, Nat.reduceEqDiff, ↓reduceIte, ex_some, wk_self, wk_top, wk_nil, wkB_self, and_self, dI, i64_in, and_true, true_and, Int.natCast_add, Int.natCast_one, Int.ofNat_zero, Int.natCast_zero, List.take_zero, hstart, Nat.add_zero]
      all_goals exact .refl _
    rintro ⟨i, hi⟩
    rcases at_or g i hi with ⟨v, hv, hil, hid⟩ | ⟨hiend, hid⟩
    · obtain ⟨k, rfl, hk, _⟩ := hgmem v (List.mem_of_getElem? hv)
      obtain ⟨hz, hset⟩ := hstep i k hv hk
      have hin : (k < (outL (gs.take j ++ [g.take i]) n).length) = True := by rw [hll]; exact eq_true hk
      have q1 : decide ((k : Int) < 0) = false := by rw [decide_eq_false_iff_not]; omega
      have q2 : decide ((n : Int) ≤ (k : Int)) = false := by rw [decide_eq_false_iff_not]; omega
      generalize outL (gs.take j ++ [g.take i]) n = O at *
      cases i with
      | zero =>
        have hid' : decide ((0 : Int) < (g.length : Int)) = true := hid
        repeat' (first
    | (with_reducible refine DW.seq ?_)
    | (with_reducible refine DW.block ?_)
    | (with_reducible refine DW.skip ?_)
    | (with_reducible refine DW.exit ?_)
    | (with_reducible refine DW.ret ?_)
    | (with_reducible refine DW.reg ?_)
    | (simp (disch := omega) only [go_sem, Nat.reduceLT, Nat.reduceLeDiff, Nat.reduceAdd, Nat.reduceMul, Nat.reduceEqDiff, ↓reduceIte, reduceCtorEq, Nat.reduceBEq, Nat.reduceBNe, Nat.reducePow, Int.reduceLE, Int.reduceLT, Int.reduceNeg, Int.reduceToNat, Int.reduceEq, Int.reduceAdd, Int.reduceSub, Int.reduceMul, Int.reduceBEq, Int.reduceBNe, Blk.men, Blk.keysIn, hg, hid', hv, q1, q2, hz, hin, Int.zero_add])
    | (exact retS_of rfl rfl rfl)
    | (refine DW.cond_tt rfl ?_)
    | (refine DW.cond_ff rfl ?_)
    | (refine DW.cond rfl ?_ ?_ <;> intro hc <;> (try simp only [go_sem] at hc))
    | (refine g_split ?_ ?_ <;> intro hc <;> (try simp only [hc]) <;> (try simp only [go_sem] at hc)))
        refine ⟨⟨0 + 1, hil⟩, ?_, Ent.to ?_ ?_⟩ <;> first | (show _ < _; (try simp only); omega) | (simp (disch := omega) only [wkT_cons, wkX_cons, wkT_nil, wkX_nil, get, Nat.reduceEqDiff, ↓reduceIte, ex_some, wk_self, wk_top, wk_nil, wkB_self, and_self, dI, i64_in, and_true, true_and, Int.natCast_add, Int.natCast_one, Int.ofNat_zero, Int.natCast_zero,  hset, Nat.add_zero, Nat.zero_add])
        all_goals exact .refl _
      | succ l =>
        obtain ⟨u, hu⟩ := getE (l := g) (i := l) (by omega)
        have hlt2 : u < (k : Int) := by
          have := List.pairwise_iff_getElem.1 hga l (l + 1) (by omega) hil (by omega)
          rw [List.getElem?_eq_some_iff] at hu hv
          obtain ⟨_, rfl⟩ := hu
          obtain ⟨_, e⟩ := hv
          rw [e] at this
          exact this
        have q3 : decide ((0 : Int) < ((l + 1 : Nat) : Int)) = true := by rw [decide_eq_true_eq]; omega
        have q4 : decide ((k : Int) ≤ u) = false := by rw [decide_eq_false_iff_not]; omega
        have hl1 : ((l + 1 : Nat) : Int) - 1 = (l : Int) := by omega
        repeat' (first
    | (with_reducible refine DW.seq ?_)
    | (with_reducible refine DW.block ?_)
    | (with_reducible refine DW.skip ?_)
    | (with_reducible refine DW.exit ?_)
    | (with_reducible refine DW.ret ?_)
    | (with_reducible refine DW.reg ?_)
    | (simp (disch := omega) only [go_sem, Nat.reduceLT, Nat.reduceLeDiff, Nat.reduceAdd, Nat.reduceMul, Nat.reduceEqDiff, ↓reduceIte, reduceCtorEq, Nat.reduceBEq, Nat.reduceBNe, Nat.reducePow, Int.reduceLE, Int.reduceLT, Int.reduceNeg, Int.reduceToNat, Int.reduceEq, Int.reduceAdd, Int.reduceSub, Int.reduceMul, Int.reduceBEq, Int.reduceBNe, Blk.men, Blk.keysIn, hg, hid, hv, q1, q2, q3, hl1, hu, q4, hz, hin, Int.zero_add])
    | (exact retS_of rfl rfl rfl)
    | (refine DW.cond_tt rfl ?_)
    | (refine DW.cond_ff rfl ?_)
    | (refine DW.cond rfl ?_ ?_ <;> intro hc <;> (try simp only [go_sem] at hc))
    | (refine g_split ?_ ?_ <;> intro hc <;> (try simp only [hc]) <;> (try simp only [go_sem] at hc)))
        refine ⟨⟨l + 1 + 1, hil⟩, ?_, Ent.to ?_ ?_⟩ <;> first | (show _ < _; (try simp only); omega) | (simp (disch := omega) only [wkT_cons, wkX_cons, wkT_nil, wkX_nil, get, Nat.reduceEqDiff, ↓reduceIte, ex_some, wk_self, wk_top, wk_nil, wkB_self, and_self, dI, i64_in, and_true, true_and, Int.natCast_add, Int.natCast_one, Int.ofNat_zero, Int.natCast_zero,  hset, ← Int.add_assoc])
        all_goals exact .refl _
    · have hgt : g.take i = g := List.take_of_length_le (by omega)
      rw [hgt, htake]
      repeat' (first
    | (with_reducible refine DW.seq ?_)
    | (with_reducible refine DW.block ?_)
    | (with_reducible refine DW.skip ?_)
    | (with_reducible refine DW.exit ?_)
    | (with_reducible refine DW.ret ?_)
    | (with_reducible refine DW.reg ?_)
    | (simp (disch := omega) only [go_sem, Nat.reduceLT, Nat.reduceLeDiff, Nat.reduceAdd, Nat.reduceMul, Nat.reduceEqDiff, ↓reduceIte, reduceCtorEq, Nat.reduceBEq, Nat.reduceBNe, Nat.reducePow, Int.reduceLE, Int.reduceLT, Int.reduceNeg, Int.reduceToNat, Int.reduceEq, Int.reduceAdd, Int.reduceSub, Int.reduceMul, Int.reduceBEq, Int.reduceBNe, Blk.men, Blk.keysIn, hg, hid])
    | (exact retS_of rfl rfl rfl)
    | (refine DW.cond_tt rfl ?_)
    | (refine DW.cond_ff rfl ?_)
    | (refine DW.cond rfl ?_ ?_ <;> intro hc <;> (try simp only [go_sem] at hc))
    | (refine g_split ?_ ?_ <;> intro hc <;> (try simp only [hc]) <;> (try simp only [go_sem] at hc)))
      have hT1 : ((T + i : Nat) : Int) = ((gs.take (j + 1)).flatten.length : Nat) := by rw [htot1]; congr 1; omega
      refine ⟨⟨j + 1, hlt⟩, ?_, Ent.to ?_ ?_⟩ <;> first | (show _ < _; (try simp only); omega) | (simp (disch := omega) only [wkT_cons, wkX_cons, wkT_nil, wkX_nil, get, Nat.reduceEqDiff, ↓reduceIte, ex_some, wk_self, wk_top, wk_nil, wkB_self, and_self, dI, i64_in, and_true, true_and, Int.natCast_add, Int.natCast_one, Int.ofNat_zero, Int.natCast_zero,  hlast1, ← hT1])
      all_goals exact .refl _
  · have hgt : gs.take j = gs := List.take_of_length_le (by omega)
    rw [hgt, hfl]
    have hok := fun i (hi : i < n) => grI_ok h hi
    have hnn : ((n : Int) == (n : Int)) = true := beq_self_eq_true _
    repeat' (first
    | (with_reducible refine DW.seq ?_)
    | (with_reducible refine DW.block ?_)
    | (with_reducible refine DW.skip ?_)
    | (with_reducible refine DW.exit ?_)
    | (with_reducible refine DW.ret ?_)
    | (with_reducible refine DW.reg ?_)
    | (simp (disch := omega) only [go_sem, Nat.reduceLT, Nat.reduceLeDiff, Nat.reduceAdd, Nat.reduceMul, Nat.reduceEqDiff, ↓reduceIte, reduceCtorEq, Nat.reduceBEq, Nat.reduceBNe, Nat.reducePow, Int.reduceLE, Int.reduceLT, Int.reduceNeg, Int.reduceToNat, Int.reduceEq, Int.reduceAdd, Int.reduceSub, Int.reduceMul, Int.reduceBEq, Int.reduceBNe, Blk.men, Blk.keysIn, hd])
    | (exact retS_of rfl rfl rfl)
    | (refine DW.cond_tt rfl ?_)
    | (refine DW.cond_ff rfl ?_)
    | (refine DW.cond rfl ?_ ?_ <;> intro hc <;> (try simp only [go_sem] at hc))
    | (refine g_split ?_ ?_ <;> intro hc <;> (try simp only [hc]) <;> (try simp only [go_sem] at hc)))
    refine DW.loop (ι := { i : Nat // i ≤ n }) (fun i => ⟨115, [(12, dI i.1), (7, dI n), (6, .own 14), (1, dI n), (0, .c (.sl b 1 (rows eG gs)))], [(14, .row 1 (rowC (rows eI (outL gs n))))]⟩) (fun i => n - i.1) ⟨0, Nat.zero_le _⟩ ?_ ?_
    · refine Ent.to ?_ ?_ <;> simp (disch := omega) only [wkT_cons, wkX_cons, wkT_nil, wkX_nil, get, Nat.reduceEqDiff, ↓reduceIte, ex_some, wk_self, wk_top, wk_nil, wkB_self, and_self, dI, i64_in, and_true, true_and, Int.natCast_add, Int.natCast_one, Int.ofNat_zero, Int.natCast_zero]
      all_goals exact .refl _
    rintro ⟨i, hi⟩
    rcases Nat.lt_or_ge i n with hil | hil
    · have q0 : decide ((i : Int) < (n : Int)) = true := by rw [decide_eq_true_eq]; omega
      have hget := outL_get (gs := gs) hil
      obtain ⟨o1, o2⟩ := hok i hil
      have hin : (i < (outL gs n).length) = True := by rw [hll]; exact eq_true hil
      have q1 : decide (grI gs i < 1) = false := by rw [decide_eq_false_iff_not]; omega
      have q2 : decide ((gs.length : Int) < grI gs i) = false := by rw [decide_eq_false_iff_not]; omega
      repeat' (first
    | (with_reducible refine DW.seq ?_)
    | (with_reducible refine DW.block ?_)
    | (with_reducible refine DW.skip ?_)
    | (with_reducible refine DW.exit ?_)
    | (with_reducible refine DW.ret ?_)
    | (with_reducible refine DW.reg ?_)
    | (simp (disch := omega) only [go_sem, Nat.reduceLT, Nat.reduceLeDiff, Nat.reduceAdd, Nat.reduceMul, Nat.reduceEqDiff, ↓reduceIte, reduceCtorEq, Nat.reduceBEq, Nat.reduceBNe, Nat.reducePow, Int.reduceLE, Int.reduceLT, Int.reduceNeg, Int.reduceToNat, Int.reduceEq, Int.reduceAdd, Int.reduceSub, Int.reduceMul, Int.reduceBEq, Int.reduceBNe, Blk.men, Blk.keysIn, q0, hget, hin, q1, q2])
    | (exact retS_of rfl rfl rfl)
    | (refine DW.cond_tt rfl ?_)
    | (refine DW.cond_ff rfl ?_)
    | (refine DW.cond rfl ?_ ?_ <;> intro hc <;> (try simp only [go_sem] at hc))
    | (refine g_split ?_ ?_ <;> intro hc <;> (try simp only [hc]) <;> (try simp only [go_sem] at hc)))
      refine ⟨⟨i + 1, hil⟩, ?_, Ent.to ?_ ?_⟩ <;> first | (show _ < _; (try simp only); omega) | (simp (disch := omega) only [wkT_cons, wkX_cons, wkT_nil, wkX_nil, get, Nat.reduceEqDiff, ↓reduceIte, ex_some, wk_self, wk_top, wk_nil, wkB_self, and_self, dI, i64_in, and_true, true_and, Int.natCast_add, Int.natCast_one, Int.ofNat_zero, Int.natCast_zero])
      all_goals exact .refl _
    · have q0 : decide ((i : Int) < (n : Int)) = false := by rw [decide_eq_false_iff_not]; omega
      repeat' (first
    | (with_reducible refine DW.seq ?_)
    | (with_reducible refine DW.block ?_)
    | (with_reducible refine DW.skip ?_)
    | (with_reducible refine DW.exit ?_)
    | (with_reducible refine DW.ret ?_)
    | (with_reducible refine DW.reg ?_)
    | (simp (disch := omega) only [go_sem, Nat.reduceLT, Nat.reduceLeDiff, Nat.reduceAdd, Nat.reduceMul, Nat.reduceEqDiff, ↓reduceIte, reduceCtorEq, Nat.reduceBEq, Nat.reduceBNe, Nat.reducePow, Int.reduceLE, Int.reduceLT, Int.reduceNeg, Int.reduceToNat, Int.reduceEq, Int.reduceAdd, Int.reduceSub, Int.reduceMul, Int.reduceBEq, Int.reduceBNe, Blk.men, Blk.keysIn, q0, hnn])
    | (exact retS_of rfl rfl rfl)
    | (refine DW.cond_tt rfl ?_)
    | (refine DW.cond_ff rfl ?_)
    | (refine DW.cond rfl ?_ ?_ <;> intro hc <;> (try simp only [go_sem] at hc))
    | (refine g_split ?_ ?_ <;> intro hc <;> (try simp only [hc]) <;> (try simp only [go_sem] at hc)))
      (refine retS_ent (Ent.rel 14 rfl) ?_; simp (disch := omega) only [go_sem, Nat.reduceLT, Nat.reduceLeDiff, Nat.reduceAdd, Nat.reduceMul, Nat.reduceEqDiff, ↓reduceIte, reduceCtorEq, Nat.reduceBEq, Nat.reduceBNe, Nat.reducePow, Int.reduceLE, Int.reduceLT, Int.reduceNeg, Int.reduceToNat, Int.reduceEq, Int.reduceAdd, Int.reduceSub, Int.reduceMul, Int.reduceBEq, Int.reduceBNe, Blk.men, Blk.keysIn])
      refine retS_wk rfl ?_ (by simp only [Blk.nb, rowC_nb, D.nb, D.nbs, C.nb, C.nbs, C.nbss, rows_nb eI_nb, rows_nb eC_nb, rows_nb eL_nb, rows_nb eR_nb, rows_nb eS_nb, rows_nb eG_nb, Bool.and_true, Bool.not_false, Bool.and_self, bD, dI, iD]); exact .tup (.cons (.refl _) (.cons (.refl _) .nil))
end Go.Dw.Seat
end
section
set_option linter.unusedSimpArgs false
set_option maxRecDepth 100000
namespace Go.Dw.Seat
open Go Go.Dw Go.Proofs Go.IntWalk
theorem tmod8 (m : Nat) : (m : Int).tmod 8 = ((m % 8 : Nat) : Int) := tmod_nat m 8
abbrev bxY (b : Bool) (x : Line) (c : B6) (m : Nat) : Blk := .box [d8 x.steps, .c (.sl b 1 (rows eU x.noz)), d8 x.f0, d8 x.f1, d8 x.f2, d8 c.v0, d8 c.v1, d8 c.v2, d8 c.v3, d8 c.v4, d8 c.v5, d8 m]
attribute [go_sem] bxY
set_option maxHeartbeats 3200000 in
theorem c10 (b b1 : Bool) (x : Line) (others : List B6) (boxes : Nat) (hx : x.ok) (ho : ∀ v ∈ others, v.ok) (hbx : boxes < 256) :
    DCall Try.prog 10 [dL b x, .c (.sl b1 6 (rows eW others)), d8 boxes] [] (bD true) [] := by
  have hln := nozP_len x
  have hst := x.st_in
  have hpl : (nL (nozP x)).length ≤ 2 ^ 36 := by rw [nL_length]; omega
  have hb44 := c44 b x hx
  have hb46 := c46 b false x hx
  have hb8 : boxes % 8 < 8 := Nat.mod_lt _ (by decide)
  obtain ⟨n, hn⟩ : ∃ n : Nat, n = 1 + boxes % 8 := ⟨_, rfl⟩
  have hnI : (1 : Int) + ((boxes % 8 : Nat) : Int) = (n : Int) := by omega
  refine DCall.of Try.func10 sf10 hb10 (Nat.le_of_ble_eq_true rfl) (okRes_nil fun _ => rfl) ?_; simp only [s10, Mv, Sg, Ld, Fa, Xt, Ix, Ln, Cl, Oo, Og, idxs, Nat.reduceAdd]
  repeat' (first
    | (with_reducible refine DW.seq ?_)
    | (with_reducible refine DW.block ?_)
    | (with_reducible refine DW.skip ?_)
    | (with_reducible refine DW.exit ?_)
    | (with_reducible refine DW.ret ?_)
    | (with_reducible refine DW.reg ?_)
    | (refine DW.dreg rfl (WF.of (by first | rfl | simp (disch := omega) only [go_sem, Nat.reduceLT, Nat.reduceLeDiff, Nat.reduceAdd, Nat.reduceMul, Nat.reduceEqDiff, ↓reduceIte, reduceCtorEq, Nat.reduceBEq, Nat.reduceBNe, Nat.reducePow, Int.reduceLE, Int.reduceLT, Int.reduceNeg, Int.reduceToNat, Int.reduceEq, Int.reduceAdd, Int.reduceSub, Int.reduceMul, Int.reduceBEq, Int.reduceBNe, Blk.men, Blk.keysIn, tmod8, hnI])) ?_)
    | (refine DW.ord rfl (WF.of (by first | rfl | simp (disch := omega) only [go_sem, Nat.reduceLT, Nat.reduceLeDiff, Nat.reduceAdd, Nat.reduceMul, Nat.reduceEqDiff, ↓reduceIte, reduceCtorEq, Nat.reduceBEq, Nat.reduceBNe, Nat.reducePow, Int.reduceLE, Int.reduceLT, Int.reduceNeg, Int.reduceToNat, Int.reduceEq, Int.reduceAdd, Int.reduceSub, Int.reduceMul, Int.reduceBEq, Int.reduceBNe, Blk.men, Blk.keysIn, tmod8, hnI])) ?_ ?_ ?_; rotate_left)
    | rfl
    | (with_reducible refine And.intro ?_ ?_)
    | (simp (disch := omega) only [go_sem, Nat.reduceLT, Nat.reduceLeDiff, Nat.reduceAdd, Nat.reduceMul, Nat.reduceEqDiff, ↓reduceIte, reduceCtorEq, Nat.reduceBEq, Nat.reduceBNe, Nat.reducePow, Int.reduceLE, Int.reduceLT, Int.reduceNeg, Int.reduceToNat, Int.reduceEq, Int.reduceAdd, Int.reduceSub, Int.reduceMul, Int.reduceBEq, Int.reduceBNe, Blk.men, Blk.keysIn, tmod8, hnI])
    | (exact retS_of rfl rfl rfl)
    | (refine DW.cond_tt rfl ?_)
    | (refine call_c (hb44) (by decide) ?_)
    | (refine call_c (hb46) (by decide) ?_)
    | (refine DW.cond_ff rfl ?_)
    | (refine DW.cond rfl ?_ ?_ <;> intro hc <;> (try simp only [go_sem] at hc))
    | (refine g_split ?_ ?_ <;> intro hc <;> (try simp only [hc]) <;> (try simp only [go_sem] at hc)))
  obtain ⟨N, hN⟩ : ∃ N : Nat, N = min others.length 6 := ⟨_, rfl⟩
  refine DW.leave 0 ⟨240, [(9, dSs false (truthsI x others N)), (8, dI n), (7, .box 7 0)], [(7, bxP false x)]⟩ ?_ ?_
  · refine DW.loop (ι := { p : Nat × B6 × Nat // p.1 ≤ others.length ∧ p.1 ≤ 6 }) (fun p => ⟨240, [(10, dI p.1.1), (9, .own 37), (8, dI n), (7, .box 7 0), (3, .box 3 0), (1, .c (.sl b1 6 (rows eW others)))],
      [(37, .row 1 (rowC (rows (eSb false) (truthsI x others p.1.1)))), (7, bxP false x), (3, bxY b x p.1.2.1 p.1.2.2)]⟩) (fun p => 6 - p.1.1) ⟨(0, ⟨x.a0, x.a1, x.a2, x.b0, x.b1, x.b2⟩, x.many), Nat.zero_le _, Nat.zero_le _⟩ ?_ ?_
    · refine Ent.to ?_ ?_ <;> simp (disch := omega) only [wkT_cons, wkX_cons, wkT_nil, wkX_nil, get, Nat.reduceEqDiff, ↓reduceIte, ex_some, wk_self, wk_top, wk_nil, wkB_self, and_self, dI, i64_in, and_true, true_and, Int.natCast_add, Int.natCast_one, Int.ofNat_zero, Int.natCast_zero, bxP, bxY, bxL, d8]
      all_goals exact .refl _
    rintro ⟨⟨i, c, mm⟩, hi, hi6⟩
    simp only at hi hi6
    dsimp only
    rcases at_or others i hi with ⟨v, hv, hlt, hd⟩ | ⟨hend, hd⟩
    · rcases Nat.lt_or_ge i 6 with h6 | h6
      · have hd6 : decide ((i : Int) < 6) = true := by rw [decide_eq_true_eq]; omega
        have hvo := ho v (List.mem_of_getElem? hv)
        have h46 : DCall Try.prog 46 [dL b (lineI x v), dP false (planN x)] [] (dCs false (truthN (lineI x v))) [] := c46 b false (lineI x v) (lineI_ok hx hvo)
        have hs := truthsI_succ (x := x) hv
        have hsl := (truthsI_len x others i).2
        generalize truthsI x others i = ss at *
        generalize truthN (lineI x v) = tv at *
        repeat' (first
    | (with_reducible refine DW.seq ?_)
    | (with_reducible refine DW.block ?_)
    | (with_reducible refine DW.skip ?_)
    | (with_reducible refine DW.exit ?_)
    | (with_reducible refine DW.ret ?_)
    | (with_reducible refine DW.reg ?_)
    | (refine DW.dreg rfl (WF.of (by first | rfl | simp (disch := omega) only [go_sem, Nat.reduceLT, Nat.reduceLeDiff, Nat.reduceAdd, Nat.reduceMul, Nat.reduceEqDiff, ↓reduceIte, reduceCtorEq, Nat.reduceBEq, Nat.reduceBNe, Nat.reducePow, Int.reduceLE, Int.reduceLT, Int.reduceNeg, Int.reduceToNat, Int.reduceEq, Int.reduceAdd, Int.reduceSub, Int.reduceMul, Int.reduceBEq, Int.reduceBNe, Blk.men, Blk.keysIn, hd, hd6, hv])) ?_)
    | (refine DW.ord rfl (WF.of (by first | rfl | simp (disch := omega) only [go_sem, Nat.reduceLT, Nat.reduceLeDiff, Nat.reduceAdd, Nat.reduceMul, Nat.reduceEqDiff, ↓reduceIte, reduceCtorEq, Nat.reduceBEq, Nat.reduceBNe, Nat.reducePow, Int.reduceLE, Int.reduceLT, Int.reduceNeg, Int.reduceToNat, Int.reduceEq, Int.reduceAdd, Int.reduceSub, Int.reduceMul, Int.reduceBEq, Int.reduceBNe, Blk.men, Blk.keysIn, hd, hd6, hv])) ?_ ?_ ?_; rotate_left)
    | rfl
    | (with_reducible refine And.intro ?_ ?_)
    | (simp (disch := omega) only [go_sem, Nat.reduceLT, Nat.reduceLeDiff, Nat.reduceAdd, Nat.reduceMul, Nat.reduceEqDiff, ↓reduceIte, reduceCtorEq, Nat.reduceBEq, Nat.reduceBNe, Nat.reducePow, Int.reduceLE, Int.reduceLT, Int.reduceNeg, Int.reduceToNat, Int.reduceEq, Int.reduceAdd, Int.reduceSub, Int.reduceMul, Int.reduceBEq, Int.reduceBNe, Blk.men, Blk.keysIn, hd, hd6, hv])
    | (exact retS_of rfl rfl rfl)
    | (refine DW.cond_tt rfl ?_)
    | (refine call_c (h46) (by decide) ?_)
    | (refine DW.cond_ff rfl ?_)
    | (refine DW.cond rfl ?_ ?_ <;> intro hc <;> (try simp only [go_sem] at hc))
    | (refine g_split ?_ ?_ <;> intro hc <;> (try simp only [hc]) <;> (try simp only [go_sem] at hc)))
        refine ⟨⟨(i + 1, v, v.v0), hlt, by show i + 1 ≤ 6; omega⟩, ?_, Ent.to ?_ ?_⟩ <;> first | (show _ < _; (try simp only); omega) | (simp (disch := omega) only [wkT_cons, wkX_cons, wkT_nil, wkX_nil, get, Nat.reduceEqDiff, ↓reduceIte, ex_some, wk_self, wk_top, wk_nil, wkB_self, and_self, dI, i64_in, and_true, true_and, Int.natCast_add, Int.natCast_one, Int.ofNat_zero, Int.natCast_zero,  hs, bxP, bxY, d8])
        all_goals exact .refl _
      · have hd6 : decide ((i : Int) < 6) = false := by rw [decide_eq_false_iff_not]; omega
        obtain rfl : i = N := by omega
        generalize truthsI x others i = ss at *
        repeat' (first
    | (with_reducible refine DW.seq ?_)
    | (with_reducible refine DW.block ?_)
    | (with_reducible refine DW.skip ?_)
    | (with_reducible refine DW.exit ?_)
    | (with_reducible refine DW.ret ?_)
    | (with_reducible refine DW.reg ?_)
    | (refine DW.dreg rfl (WF.of (by first | rfl | simp (disch := omega) only [go_sem, Nat.reduceLT, Nat.reduceLeDiff, Nat.reduceAdd, Nat.reduceMul, Nat.reduceEqDiff, ↓reduceIte, reduceCtorEq, Nat.reduceBEq, Nat.reduceBNe, Nat.reducePow, Int.reduceLE, Int.reduceLT, Int.reduceNeg, Int.reduceToNat, Int.reduceEq, Int.reduceAdd, Int.reduceSub, Int.reduceMul, Int.reduceBEq, Int.reduceBNe, Blk.men, Blk.keysIn, hd, hd6])) ?_)
    | (refine DW.ord rfl (WF.of (by first | rfl | simp (disch := omega) only [go_sem, Nat.reduceLT, Nat.reduceLeDiff, Nat.reduceAdd, Nat.reduceMul, Nat.reduceEqDiff, ↓reduceIte, reduceCtorEq, Nat.reduceBEq, Nat.reduceBNe, Nat.reducePow, Int.reduceLE, Int.reduceLT, Int.reduceNeg, Int.reduceToNat, Int.reduceEq, Int.reduceAdd, Int.reduceSub, Int.reduceMul, Int.reduceBEq, Int.reduceBNe, Blk.men, Blk.keysIn, hd, hd6])) ?_ ?_ ?_; rotate_left)
    | rfl
    | (with_reducible refine And.intro ?_ ?_)
    | (simp (disch := omega) only [go_sem, Nat.reduceLT, Nat.reduceLeDiff, Nat.reduceAdd, Nat.reduceMul, Nat.reduceEqDiff, ↓reduceIte, reduceCtorEq, Nat.reduceBEq, Nat.reduceBNe, Nat.reducePow, Int.reduceLE, Int.reduceLT, Int.reduceNeg, Int.reduceToNat, Int.reduceEq, Int.reduceAdd, Int.reduceSub, Int.reduceMul, Int.reduceBEq, Int.reduceBNe, Blk.men, Blk.keysIn, hd, hd6])
    | (exact retS_of rfl rfl rfl)
    | (refine DW.cond_tt rfl ?_)
    | (refine DW.cond_ff rfl ?_)
    | (refine DW.cond rfl ?_ ?_ <;> intro hc <;> (try simp only [go_sem] at hc))
    | (refine g_split ?_ ?_ <;> intro hc <;> (try simp only [hc]) <;> (try simp only [go_sem] at hc)))
        refine (Ent.rel 37 rfl).trans ?_
        simp (disch := omega) only [go_sem, Nat.reduceLT, Nat.reduceLeDiff, Nat.reduceAdd, Nat.reduceMul, Nat.reduceEqDiff, ↓reduceIte, reduceCtorEq, Nat.reduceBEq, Nat.reduceBNe, Nat.reducePow, Int.reduceLE, Int.reduceLT, Int.reduceNeg, Int.reduceToNat, Int.reduceEq, Int.reduceAdd, Int.reduceSub, Int.reduceMul, Int.reduceBEq, Int.reduceBNe, Blk.men, Blk.keysIn]
        refine Ent.to ?_ ?_ <;> simp (disch := omega) only [wkT_cons, wkX_cons, wkT_nil, wkX_nil, get, Nat.reduceEqDiff, ↓reduceIte, ex_some, wk_self, wk_top, wk_nil, wkB_self, and_self, dI, i64_in, and_true, true_and, Int.natCast_add, Int.natCast_one, Int.ofNat_zero, Int.natCast_zero]
        all_goals exact .refl _
    · obtain rfl : i = N := by omega
      generalize truthsI x others i = ss at *
      repeat' (first
    | (with_reducible refine DW.seq ?_)
    | (with_reducible refine DW.block ?_)
    | (with_reducible refine DW.skip ?_)
    | (with_reducible refine DW.exit ?_)
    | (with_reducible refine DW.ret ?_)
    | (with_reducible refine DW.reg ?_)
    | (refine DW.dreg rfl (WF.of (by first | rfl | simp (disch := omega) only [go_sem, Nat.reduceLT, Nat.reduceLeDiff, Nat.reduceAdd, Nat.reduceMul, Nat.reduceEqDiff, ↓reduceIte, reduceCtorEq, Nat.reduceBEq, Nat.reduceBNe, Nat.reducePow, Int.reduceLE, Int.reduceLT, Int.reduceNeg, Int.reduceToNat, Int.reduceEq, Int.reduceAdd, Int.reduceSub, Int.reduceMul, Int.reduceBEq, Int.reduceBNe, Blk.men, Blk.keysIn, hd])) ?_)
    | (refine DW.ord rfl (WF.of (by first | rfl | simp (disch := omega) only [go_sem, Nat.reduceLT, Nat.reduceLeDiff, Nat.reduceAdd, Nat.reduceMul, Nat.reduceEqDiff, ↓reduceIte, reduceCtorEq, Nat.reduceBEq, Nat.reduceBNe, Nat.reducePow, Int.reduceLE, Int.reduceLT, Int.reduceNeg, Int.reduceToNat, Int.reduceEq, Int.reduceAdd, Int.reduceSub, Int.reduceMul, Int.reduceBEq, Int.reduceBNe, Blk.men, Blk.keysIn, hd])) ?_ ?_ ?_; rotate_left)
    | rfl
    | (with_reducible refine And.intro ?_ ?_)
    | (simp (disch := omega) only [go_sem, Nat.reduceLT, Nat.reduceLeDiff, Nat.reduceAdd, Nat.reduceMul, Nat.reduceEqDiff, ↓reduceIte, reduceCtorEq, Nat.reduceBEq, Nat.reduceBNe, Nat.reducePow, Int.reduceLE, Int.reduceLT, Int.reduceNeg, Int.reduceToNat, Int.reduceEq, Int.reduceAdd, Int.reduceSub, Int.reduceMul, Int.reduceBEq, Int.reduceBNe, Blk.men, Blk.keysIn, hd])
    | (exact retS_of rfl rfl rfl)
    | (refine DW.cond_tt rfl ?_)
    | (refine DW.cond_ff rfl ?_)
    | (refine DW.cond rfl ?_ ?_ <;> intro hc <;> (try simp only [go_sem] at hc))
    | (refine g_split ?_ ?_ <;> intro hc <;> (try simp only [hc]) <;> (try simp only [go_sem] at hc)))
      refine (Ent.rel 37 rfl).trans ?_
      simp (disch := omega) only [go_sem, Nat.reduceLT, Nat.reduceLeDiff, Nat.reduceAdd, Nat.reduceMul, Nat.reduceEqDiff, ↓reduceIte, reduceCtorEq, Nat.reduceBEq, Nat.reduceBNe, Nat.reducePow, Int.reduceLE, Int.reduceLT, Int.reduceNeg, Int.reduceToNat, Int.reduceEq, Int.reduceAdd, Int.reduceSub, Int.reduceMul, Int.reduceBEq, Int.reduceBNe, Blk.men, Blk.keysIn]
      refine Ent.to ?_ ?_ <;> simp (disch := omega) only [wkT_cons, wkX_cons, wkT_nil, wkX_nil, get, Nat.reduceEqDiff, ↓reduceIte, ex_some, wk_self, wk_top, wk_nil, wkB_self, and_self, dI, i64_in, and_true, true_and, Int.natCast_add, Int.natCast_one, Int.ofNat_zero, Int.natCast_zero]
      all_goals exact .refl _
  have hssl := truthsI_len x others N
  have hssm := truthsI_mem (x := x) (others := others) (i := N)
  generalize truthsI x others N = ss at *
  intro σ' he
  simp (disch := omega) only [go_sem, Nat.reduceLT, Nat.reduceLeDiff, Nat.reduceAdd, Nat.reduceMul, Nat.reduceEqDiff, ↓reduceIte, reduceCtorEq, Nat.reduceBEq, Nat.reduceBNe, Nat.reducePow, Int.reduceLE, Int.reduceLT, Int.reduceNeg, Int.reduceToNat, Int.reduceEq, Int.reduceAdd, Int.reduceSub, Int.reduceMul, Int.reduceBEq, Int.reduceBNe, Blk.men, Blk.keysIn]
  refine DW.ent he ?_
  clear he
  have hsl2 : ∀ s ∈ ss, s.length ≤ 2 ^ 36 := fun s hs => by have := (valid_statesOf (hssm s hs)).1; omega
  have hss36 : ss.length ≤ 2 ^ 36 := by omega
  have h34 := c34 false ss hss36 hsl2
  have h35a := c35 false false (planN x) ss (n : Int) hpl hss36 hsl2
  have h35b := c35 false false (planN x) ss ((n + 4 : Nat) : Int) hpl hss36 hsl2
  rw [al_err hssm (by omega) n (by omega)] at h35a
  rw [al_err hssm (by omega) (n + 4) (by omega)] at h35b
  have hga := al_out hssm (by omega) n (by omega)
  have hgw := al_out hssm (by omega) (n + 4) (by omega)
  have hal : (alOut (planN x) ss (n : Nat)).length ≤ ss.length := by
    rw [alOut, if_pos (al_err hssm (by omega) n (by omega))]; exact (alF_inv _ _).1
  have haw : (alOut (planN x) ss ((n + 4 : Nat) : Int)).length ≤ ss.length := by
    rw [alOut, if_pos (al_err hssm (by omega) (n + 4) (by omega))]; exact (alF_inv _ _).1
  have h52a := c52 (sgN x ss n) false (alOut (planN x) ss (n : Nat)) ss.length (by omega) hal hga
  have h52b := c52 (sgN x ss (n + 4)) false (alOut (planN x) ss ((n + 4 : Nat) : Int)) ss.length (by omega) haw hgw
  have hea := fun i k (hi : i < ss.length) (hk : k < ss.length) => grI_eq hga hi hk
  have hew := fun i k (hi : i < ss.length) (hk : k < ss.length) => grI_eq hgw hi hk
  clear hga hgw
  generalize alOut (planN x) ss (n : Nat) = ga at *
  generalize alOut (planN x) ss ((n + 4 : Nat) : Int) = gw at *
  have hoa := fun i (hi : i < ss.length) => outL_get (gs := ga) hi
  have how := fun i (hi : i < ss.length) => outL_get (gs := gw) hi
  have hn4 : ((n + 4 : Nat) : Int) = (n : Int) + 4 := by omega
  rw [hn4] at h35b
  generalize outL ga ss.length = oa at *
  generalize outL gw ss.length = ow at *
  repeat' (first
    | (with_reducible refine DW.seq ?_)
    | (with_reducible refine DW.block ?_)
    | (with_reducible refine DW.skip ?_)
    | (with_reducible refine DW.exit ?_)
    | (with_reducible refine DW.ret ?_)
    | (with_reducible refine DW.reg ?_)
    | (refine DW.dreg rfl (WF.of (by first | rfl | simp (disch := omega) only [go_sem, Nat.reduceLT, Nat.reduceLeDiff, Nat.reduceAdd, Nat.reduceMul, Nat.reduceEqDiff, ↓reduceIte, reduceCtorEq, Nat.reduceBEq, Nat.reduceBNe, Nat.reducePow, Int.reduceLE, Int.reduceLT, Int.reduceNeg, Int.reduceToNat, Int.reduceEq, Int.reduceAdd, Int.reduceSub, Int.reduceMul, Int.reduceBEq, Int.reduceBNe, Blk.men, Blk.keysIn])) ?_)
    | (refine DW.ord rfl (WF.of (by first | rfl | simp (disch := omega) only [go_sem, Nat.reduceLT, Nat.reduceLeDiff, Nat.reduceAdd, Nat.reduceMul, Nat.reduceEqDiff, ↓reduceIte, reduceCtorEq, Nat.reduceBEq, Nat.reduceBNe, Nat.reducePow, Int.reduceLE, Int.reduceLT, Int.reduceNeg, Int.reduceToNat, Int.reduceEq, Int.reduceAdd, Int.reduceSub, Int.reduceMul, Int.reduceBEq, Int.reduceBNe, Blk.men, Blk.keysIn])) ?_ ?_ ?_; rotate_left)
    | rfl
    | (with_reducible refine And.intro ?_ ?_)
    | (simp (disch := omega) only [go_sem, Nat.reduceLT, Nat.reduceLeDiff, Nat.reduceAdd, Nat.reduceMul, Nat.reduceEqDiff, ↓reduceIte, reduceCtorEq, Nat.reduceBEq, Nat.reduceBNe, Nat.reducePow, Int.reduceLE, Int.reduceLT, Int.reduceNeg, Int.reduceToNat, Int.reduceEq, Int.reduceAdd, Int.reduceSub, Int.reduceMul, Int.reduceBEq, Int.reduceBNe, Blk.men, Blk.keysIn])
    | (exact retS_of rfl rfl rfl)
    | (refine DW.cond_tt rfl ?_)
    | (refine call_c (c16 false (planN x) hpl) (by decide) ?_)
    | (refine call_c (h34) (by decide) ?_)
    | (refine call_c (h35a) (by decide) ?_)
    | (refine call_c (h35b) (by decide) ?_)
    | (refine call_c (h52a) (by decide) ?_)
    | (refine call_c (h52b) (by decide) ?_)
    | (refine DW.cond_ff rfl ?_)
    | (refine DW.cond rfl ?_ ?_ <;> intro hc <;> (try simp only [go_sem] at hc))
    | (refine g_split ?_ ?_ <;> intro hc <;> (try simp only [hc]) <;> (try simp only [go_sem] at hc)))
  refine DW.loop (ι := { i : Nat // i ≤ ss.length }) (fun i => ⟨240, [(19, dI i.1), (17, dIs false ow), (15, dIs false oa), (9, dSs false ss), (8, dI n), (7, .box 7 0)], [(7, bxP false x)]⟩) (fun i => ss.length - i.1) ⟨0, Nat.zero_le _⟩ ?_ ?_
  · refine Ent.to ?_ ?_ <;> simp (disch := omega) only [wkT_cons, wkX_cons, wkT_nil, wkX_nil, get, Nat.reduceEqDiff, ↓reduceIte, ex_some, wk_self, wk_top, wk_nil, wkB_self, and_self, dI, i64_in, and_true, true_and, Int.natCast_add, Int.natCast_one, Int.ofNat_zero, Int.natCast_zero, bxP]
    all_goals exact .refl _
  rintro ⟨i, hi⟩
  rcases at_or ss i hi with ⟨si, hi0, hil, hid⟩ | ⟨hiend, hid⟩
  · repeat' (first
    | (with_reducible refine DW.seq ?_)
    | (with_reducible refine DW.block ?_)
    | (with_reducible refine DW.skip ?_)
    | (with_reducible refine DW.exit ?_)
    | (with_reducible refine DW.ret ?_)
    | (with_reducible refine DW.reg ?_)
    | (refine DW.dreg rfl (WF.of (by first | rfl | simp (disch := omega) only [go_sem, Nat.reduceLT, Nat.reduceLeDiff, Nat.reduceAdd, Nat.reduceMul, Nat.reduceEqDiff, ↓reduceIte, reduceCtorEq, Nat.reduceBEq, Nat.reduceBNe, Nat.reducePow, Int.reduceLE, Int.reduceLT, Int.reduceNeg, Int.reduceToNat, Int.reduceEq, Int.reduceAdd, Int.reduceSub, Int.reduceMul, Int.reduceBEq, Int.reduceBNe, Blk.men, Blk.keysIn, hid])) ?_)
    | (refine DW.ord rfl (WF.of (by first | rfl | simp (disch := omega) only [go_sem, Nat.reduceLT, Nat.reduceLeDiff, Nat.reduceAdd, Nat.reduceMul, Nat.reduceEqDiff, ↓reduceIte, reduceCtorEq, Nat.reduceBEq, Nat.reduceBNe, Nat.reducePow, Int.reduceLE, Int.reduceLT, Int.reduceNeg, Int.reduceToNat, Int.reduceEq, Int.reduceAdd, Int.reduceSub, Int.reduceMul, Int.reduceBEq, Int.reduceBNe, Blk.men, Blk.keysIn, hid])) ?_ ?_ ?_; rotate_left)
    | rfl
    | (with_reducible refine And.intro ?_ ?_)
    | (simp (disch := omega) only [go_sem, Nat.reduceLT, Nat.reduceLeDiff, Nat.reduceAdd, Nat.reduceMul, Nat.reduceEqDiff, ↓reduceIte, reduceCtorEq, Nat.reduceBEq, Nat.reduceBNe, Nat.reducePow, Int.reduceLE, Int.reduceLT, Int.reduceNeg, Int.reduceToNat, Int.reduceEq, Int.reduceAdd, Int.reduceSub, Int.reduceMul, Int.reduceBEq, Int.reduceBNe, Blk.men, Blk.keysIn, hid])
    | (exact retS_of rfl rfl rfl)
    | (refine DW.cond_tt rfl ?_)
    | (refine DW.cond_ff rfl ?_)
    | (refine DW.cond rfl ?_ ?_ <;> intro hc <;> (try simp only [go_sem] at hc))
    | (refine g_split ?_ ?_ <;> intro hc <;> (try simp only [hc]) <;> (try simp only [go_sem] at hc)))
    refine DW.loop (ι := { k : Nat // k ≤ i }) (fun k => ⟨240, [(20, dI k.1), (19, dI i), (17, dIs false ow), (15, dIs false oa), (9, dSs false ss), (8, dI n), (7, .box 7 0)], [(7, bxP false x)]⟩) (fun k => i - k.1) ⟨0, Nat.zero_le _⟩ ?_ ?_
    · refine Ent.to ?_ ?_ <;> simp (disch := omega) only [wkT_cons, wkX_cons, wkT_nil, wkX_nil, get, Nat.reduceEqDiff, ↓reduceIte, ex_some, wk_self, wk_top, wk_nil, wkB_self, and_self, dI, i64_in, and_true, true_and, Int.natCast_add, Int.natCast_one, Int.ofNat_zero, Int.natCast_zero, bxP]
      all_goals exact .refl _
    rintro ⟨k, hk⟩
    rcases Nat.lt_or_ge k i with hki | hki
    · obtain ⟨sk, hk0⟩ := getE (l := ss) (i := k) (by omega)
      have hkd : decide ((k : Int) < (i : Int)) = true := by rw [decide_eq_true_eq]; omega
      have hsi := hssm si (List.mem_of_getElem? hi0)
      have hsk := hssm sk (List.mem_of_getElem? hk0)
      have hsi36 : si.length ≤ 2 ^ 36 := hsl2 si (List.mem_of_getElem? hi0)
      have hsk36 : sk.length ≤ 2 ^ 36 := hsl2 sk (List.mem_of_getElem? hk0)
      have h30 := c30 (planN x) sk si (n : Int) hpl hsk36 hsi36
      have hae := ap_err hsk hsi n (by omega)
      have hdiff : ∀ kk z t, kk < n → z < (nozP x).length → t < x.st → (∀ k', k' < kk → ∀ z', z' < (nozP x).length → ∀ t', t' < x.st → sameN x sk si k' z' t') → (∀ z', z' < z → ∀ t', t' < x.st → sameN x sk si kk z' t') → (∀ t', t' < t → sameN x sk si kk z t') → ¬ sameN x sk si kk z t →
          apErr (planN x) sk si n = 0 ∧ apAt (planN x) sk si n = ⟨kk, z, t, givesL x.st ((nozP x).getD z 0) sk kk z t⟩ := fun kk z t q1 q2 q3 q4 q5 q6 q7 => by
        have := apart_at hsk hsi q1 q2 q3 q4 q5 q6 q7
        exact ⟨by rw [hae, this]; rfl, ap_at hsk hsi n (by omega) this⟩
      have hcase : (apErr (planN x) sk si n = 7 ∧ (grI ga i == grI ga k) = true ∧ (grI ga i != grI ga k) = false) ∨ (apErr (planN x) sk si n = 0 ∧ (grI ga i == grI ga k) = false ∧ (grI ga i != grI ga k) = true ∧ (grI gw i == grI gw k) = false) := by
        have h1 := sg_apart hssm (n := n) hk0 hi0
        have h2 := hea i k hil (by omega)
        have h3 := hew i k hil (by omega)
        cases hap : (apartN x.st (nozP x) sk si n).isSome with
        | false =>
          rw [hap] at h1 hae
          have h4 : sgN x ss n k = sgN x ss n i := by simpa using h1
          have h5 := h2.2 h4.symm
          exact .inl ⟨hae, by rw [h5]; exact beq_self_eq_true _, by rw [h5]; exact bne_self_eq_false _⟩
        | true =>
          rw [hap] at h1 hae
          have h4 : ¬ sgN x ss n k = sgN x ss n i := by simpa using h1
          have h5 : ¬ grI ga i = grI ga k := fun h => h4 (h2.1 h).symm
          have h6 : ¬ grI gw i = grI gw k := fun h => h4 (sg_wide (m := n + 4) (by omega) (h3.1 h).symm)
          exact .inr ⟨hae, beq_eq_false_iff_ne.2 h5, bne_iff_ne.2 h5, beq_eq_false_iff_ne.2 h6⟩
      have ha1 := hoa i hil
      have ha2 := hoa k (by omega)
      have hw1 := how i hil
      have hw2 := how k (by omega)
      clear hae
      generalize apErr (planN x) sk si n = e at *
      generalize apAt (planN x) sk si n = ac at *
      rcases hcase with ⟨rfl, r1, r2⟩ | ⟨rfl, r1, r2, r3⟩
      · repeat' (first
    | (with_reducible refine DW.seq ?_)
    | (with_reducible refine DW.block ?_)
    | (with_reducible refine DW.skip ?_)
    | (with_reducible refine DW.exit ?_)
    | (with_reducible refine DW.ret ?_)
    | (with_reducible refine DW.reg ?_)
    | (refine DW.dreg rfl (WF.of (by first | rfl | simp (disch := omega) only [go_sem, Nat.reduceLT, Nat.reduceLeDiff, Nat.reduceAdd, Nat.reduceMul, Nat.reduceEqDiff, ↓reduceIte, reduceCtorEq, Nat.reduceBEq, Nat.reduceBNe, Nat.reducePow, Int.reduceLE, Int.reduceLT, Int.reduceNeg, Int.reduceToNat, Int.reduceEq, Int.reduceAdd, Int.reduceSub, Int.reduceMul, Int.reduceBEq, Int.reduceBNe, Blk.men, Blk.keysIn, hkd, hk0, hi0, ha1, ha2, r1, r2])) ?_)
    | (refine DW.ord rfl (WF.of (by first | rfl | simp (disch := omega) only [go_sem, Nat.reduceLT, Nat.reduceLeDiff, Nat.reduceAdd, Nat.reduceMul, Nat.reduceEqDiff, ↓reduceIte, reduceCtorEq, Nat.reduceBEq, Nat.reduceBNe, Nat.reducePow, Int.reduceLE, Int.reduceLT, Int.reduceNeg, Int.reduceToNat, Int.reduceEq, Int.reduceAdd, Int.reduceSub, Int.reduceMul, Int.reduceBEq, Int.reduceBNe, Blk.men, Blk.keysIn, hkd, hk0, hi0, ha1, ha2, r1, r2])) ?_ ?_ ?_; rotate_left)
    | rfl
    | (with_reducible refine And.intro ?_ ?_)
    | (simp (disch := omega) only [go_sem, Nat.reduceLT, Nat.reduceLeDiff, Nat.reduceAdd, Nat.reduceMul, Nat.reduceEqDiff, ↓reduceIte, reduceCtorEq, Nat.reduceBEq, Nat.reduceBNe, Nat.reducePow, Int.reduceLE, Int.reduceLT, Int.reduceNeg, Int.reduceToNat, Int.reduceEq, Int.reduceAdd, Int.reduceSub, Int.reduceMul, Int.reduceBEq, Int.reduceBNe, Blk.men, Blk.keysIn, hkd, hk0, hi0, ha1, ha2, r1, r2])
    | (exact retS_of rfl rfl rfl)
    | (refine DW.cond_tt rfl ?_)
    | (refine call_c (c16 false (planN x) hpl) (by decide) ?_)
    | (refine call_c (c29 false sk hsk36) (by decide) ?_)
    | (refine call_c (c29 false si hsi36) (by decide) ?_)
    | (refine call_c (h30) (by decide) ?_)
    | (refine DW.cond_ff rfl ?_)
    | (refine DW.cond rfl ?_ ?_ <;> intro hc <;> (try simp only [go_sem] at hc))
    | (refine g_split ?_ ?_ <;> intro hc <;> (try simp only [hc]) <;> (try simp only [go_sem] at hc)))
        refine DW.loop (ι := { p : Nat // p ≤ n + 1 ∧ (p ≤ n → ∀ k', k' < p → ∀ z', z' < (nozP x).length → ∀ t', t' < x.st → sameN x sk si k' z' t') }) (fun p => ⟨240, [(23, dI p.1), (22, dI 7), (21, .box 21 0), (20, dI k), (19, dI i), (17, dIs false ow), (15, dIs false oa), (9, dSs false ss), (8, dI n), (7, .box 7 0)], [(21, .box [dI ac.box, dI ac.noz, dI ac.step, bD ac.glue]), (7, bxP false x)]⟩) (fun p => n + 1 - p.1) ⟨0, Nat.zero_le _, fun _ k' hk' => absurd hk' (Nat.not_lt_zero _)⟩ ?_ ?_
        · refine Ent.to ?_ ?_ <;> simp (disch := omega) only [wkT_cons, wkX_cons, wkT_nil, wkX_nil, get, Nat.reduceEqDiff, ↓reduceIte, ex_some, wk_self, wk_top, wk_nil, wkB_self, and_self, dI, i64_in, and_true, true_and, Int.natCast_add, Int.natCast_one, Int.ofNat_zero, Int.natCast_zero, bxP, bD]
          all_goals exact .refl _
        rintro ⟨p, hp, hsame⟩
        rcases Nat.lt_or_ge p n with hpn | hpn
        · have hps := hsame (by omega)
          have p1 : decide ((p : Int) < (n : Int)) = true := by rw [decide_eq_true_eq]; omega
          repeat' (first
    | (with_reducible refine DW.seq ?_)
    | (with_reducible refine DW.block ?_)
    | (with_reducible refine DW.skip ?_)
    | (with_reducible refine DW.exit ?_)
    | (with_reducible refine DW.ret ?_)
    | (with_reducible refine DW.reg ?_)
    | (refine DW.dreg rfl (WF.of (by first | rfl | simp (disch := omega) only [go_sem, Nat.reduceLT, Nat.reduceLeDiff, Nat.reduceAdd, Nat.reduceMul, Nat.reduceEqDiff, ↓reduceIte, reduceCtorEq, Nat.reduceBEq, Nat.reduceBNe, Nat.reducePow, Int.reduceLE, Int.reduceLT, Int.reduceNeg, Int.reduceToNat, Int.reduceEq, Int.reduceAdd, Int.reduceSub, Int.reduceMul, Int.reduceBEq, Int.reduceBNe, Blk.men, Blk.keysIn, p1])) ?_)
    | (refine DW.ord rfl (WF.of (by first | rfl | simp (disch := omega) only [go_sem, Nat.reduceLT, Nat.reduceLeDiff, Nat.reduceAdd, Nat.reduceMul, Nat.reduceEqDiff, ↓reduceIte, reduceCtorEq, Nat.reduceBEq, Nat.reduceBNe, Nat.reducePow, Int.reduceLE, Int.reduceLT, Int.reduceNeg, Int.reduceToNat, Int.reduceEq, Int.reduceAdd, Int.reduceSub, Int.reduceMul, Int.reduceBEq, Int.reduceBNe, Blk.men, Blk.keysIn, p1])) ?_ ?_ ?_; rotate_left)
    | rfl
    | (with_reducible refine And.intro ?_ ?_)
    | (simp (disch := omega) only [go_sem, Nat.reduceLT, Nat.reduceLeDiff, Nat.reduceAdd, Nat.reduceMul, Nat.reduceEqDiff, ↓reduceIte, reduceCtorEq, Nat.reduceBEq, Nat.reduceBNe, Nat.reducePow, Int.reduceLE, Int.reduceLT, Int.reduceNeg, Int.reduceToNat, Int.reduceEq, Int.reduceAdd, Int.reduceSub, Int.reduceMul, Int.reduceBEq, Int.reduceBNe, Blk.men, Blk.keysIn, p1])
    | (exact retS_of rfl rfl rfl)
    | (refine DW.cond_tt rfl ?_)
    | (refine DW.cond_ff rfl ?_)
    | (refine DW.cond rfl ?_ ?_ <;> intro hc <;> (try simp only [go_sem] at hc))
    | (refine g_split ?_ ?_ <;> intro hc <;> (try simp only [hc]) <;> (try simp only [go_sem] at hc)))
          refine DW.loop (ι := { q : Nat × Nat // (q.1 = p ∧ q.2 ≤ (nozP x).length ∧ ∀ z', z' < q.2 → ∀ t', t' < x.st → sameN x sk si p z' t') ∨ (q.1 = n ∧ q.2 = (nozP x).length + 1) }) (fun q => ⟨240, [(24, dI q.1.2), (23, dI q.1.1), (22, dI 7), (21, .box 21 0), (20, dI k), (19, dI i), (17, dIs false ow), (15, dIs false oa), (9, dSs false ss), (8, dI n), (7, .box 7 0)], [(21, .box [dI ac.box, dI ac.noz, dI ac.step, bD ac.glue]), (7, bxP false x)]⟩) (fun q => (nozP x).length + 1 - q.1.2) ⟨(p, 0), .inl ⟨rfl, Nat.zero_le _, fun z' hz' => absurd hz' (Nat.not_lt_zero _)⟩⟩ ?_ ?_
          · refine Ent.to ?_ ?_ <;> simp (disch := omega) only [wkT_cons, wkX_cons, wkT_nil, wkX_nil, get, Nat.reduceEqDiff, ↓reduceIte, ex_some, wk_self, wk_top, wk_nil, wkB_self, and_self, dI, i64_in, and_true, true_and, Int.natCast_add, Int.natCast_one, Int.ofNat_zero, Int.natCast_zero, bxP, bD]
            all_goals exact .refl _
          rintro ⟨⟨p', z⟩, hq⟩
          dsimp only at hq ⊢
          rcases Nat.lt_or_ge z (nozP x).length with hz | hz
          · obtain ⟨rfl, hz1, hz2⟩ : p' = p ∧ z ≤ (nozP x).length ∧ ∀ z', z' < z → ∀ t', t' < x.st → sameN x sk si p z' t' := by
              rcases hq with h | h
              · exact h
              · omega
            have z1 : decide ((z : Int) < ((nozP x).length : Int)) = true := by rw [decide_eq_true_eq]; omega
            obtain ⟨v, hv⟩ := getE hz
            have hv16 := nozP_16 x v (List.mem_of_getElem? hv)
            have hgd : (nozP x).getD z 0 = v := by simp [List.getD, hv]
            repeat' (first
    | (with_reducible refine DW.seq ?_)
    | (with_reducible refine DW.block ?_)
    | (with_reducible refine DW.skip ?_)
    | (with_reducible refine DW.exit ?_)
    | (with_reducible refine DW.ret ?_)
    | (with_reducible refine DW.reg ?_)
    | (refine DW.dreg rfl (WF.of (by first | rfl | simp (disch := omega) only [go_sem, Nat.reduceLT, Nat.reduceLeDiff, Nat.reduceAdd, Nat.reduceMul, Nat.reduceEqDiff, ↓reduceIte, reduceCtorEq, Nat.reduceBEq, Nat.reduceBNe, Nat.reducePow, Int.reduceLE, Int.reduceLT, Int.reduceNeg, Int.reduceToNat, Int.reduceEq, Int.reduceAdd, Int.reduceSub, Int.reduceMul, Int.reduceBEq, Int.reduceBNe, Blk.men, Blk.keysIn, z1])) ?_)
    | (refine DW.ord rfl (WF.of (by first | rfl | simp (disch := omega) only [go_sem, Nat.reduceLT, Nat.reduceLeDiff, Nat.reduceAdd, Nat.reduceMul, Nat.reduceEqDiff, ↓reduceIte, reduceCtorEq, Nat.reduceBEq, Nat.reduceBNe, Nat.reducePow, Int.reduceLE, Int.reduceLT, Int.reduceNeg, Int.reduceToNat, Int.reduceEq, Int.reduceAdd, Int.reduceSub, Int.reduceMul, Int.reduceBEq, Int.reduceBNe, Blk.men, Blk.keysIn, z1])) ?_ ?_ ?_; rotate_left)
    | rfl
    | (with_reducible refine And.intro ?_ ?_)
    | (simp (disch := omega) only [go_sem, Nat.reduceLT, Nat.reduceLeDiff, Nat.reduceAdd, Nat.reduceMul, Nat.reduceEqDiff, ↓reduceIte, reduceCtorEq, Nat.reduceBEq, Nat.reduceBNe, Nat.reducePow, Int.reduceLE, Int.reduceLT, Int.reduceNeg, Int.reduceToNat, Int.reduceEq, Int.reduceAdd, Int.reduceSub, Int.reduceMul, Int.reduceBEq, Int.reduceBNe, Blk.men, Blk.keysIn, z1])
    | (exact retS_of rfl rfl rfl)
    | (refine DW.cond_tt rfl ?_)
    | (refine DW.cond_ff rfl ?_)
    | (refine DW.cond rfl ?_ ?_ <;> intro hc <;> (try simp only [go_sem] at hc))
    | (refine g_split ?_ ?_ <;> intro hc <;> (try simp only [hc]) <;> (try simp only [go_sem] at hc)))
            refine DW.loop (ι := { r : Nat × Nat × Nat // (r.1 = p' ∧ r.2.1 = z ∧ r.2.2 ≤ x.st ∧ ∀ t', t' < r.2.2 → sameN x sk si p' z t') ∨ (r.1 = n ∧ r.2.1 = (nozP x).length ∧ r.2.2 = x.st + 1) }) (fun r => ⟨240, [(25, dI r.1.2.2), (24, dI r.1.2.1), (23, dI r.1.1), (22, dI 7), (21, .box 21 0), (20, dI k), (19, dI i), (17, dIs false ow), (15, dIs false oa), (9, dSs false ss), (8, dI n), (7, .box 7 0)], [(21, .box [dI ac.box, dI ac.noz, dI ac.step, bD ac.glue]), (7, bxP false x)]⟩) (fun r => x.st + 1 - r.1.2.2) ⟨(p', z, 0), .inl ⟨rfl, rfl, Nat.zero_le _, fun t' ht' => absurd ht' (Nat.not_lt_zero _)⟩⟩ ?_ ?_
            · refine Ent.to ?_ ?_ <;> simp (disch := omega) only [wkT_cons, wkX_cons, wkT_nil, wkX_nil, get, Nat.reduceEqDiff, ↓reduceIte, ex_some, wk_self, wk_top, wk_nil, wkB_self, and_self, dI, i64_in, and_true, true_and, Int.natCast_add, Int.natCast_one, Int.ofNat_zero, Int.natCast_zero, bxP, bD]
              all_goals exact .refl _
            rintro ⟨⟨p2, z2, t⟩, hr⟩
            dsimp only at hr ⊢
            rcases Nat.lt_or_ge t x.st with ht | ht
            · obtain ⟨rfl, rfl, ht1, ht2⟩ : p2 = p' ∧ z2 = z ∧ t ≤ x.st ∧ ∀ t', t' < t → sameN x sk si p' z t' := by
                rcases hr with h | h
                · exact h
                · omega
              have t1 : decide ((t : Int) < (x.st : Int)) = true := by rw [decide_eq_true_eq]; omega
              have h53a := c53 false false x.st (nozP x) sk (p2 : Int) z2 v (t : Int) (by omega) hv hv16 hsk36 (by omega)
              have h53b := c53 false false x.st (nozP x) si (p2 : Int) z2 v (t : Int) (by omega) hv hv16 hsi36 (by omega)
              by_cases hsm : sameN x sk si p2 z2 t
              · have hgg : (givesL x.st v sk p2 z2 t == givesL x.st v si p2 z2 t) = true := by
                  have := hsm
                  unfold sameN at this
                  rw [hgd] at this
                  rw [this]; exact beq_self_eq_true _
                generalize givesL x.st v sk p2 z2 t = g1 at *
                generalize givesL x.st v si p2 z2 t = g2 at *
                repeat' (first
    | (with_reducible refine DW.seq ?_)
    | (with_reducible refine DW.block ?_)
    | (with_reducible refine DW.skip ?_)
    | (with_reducible refine DW.exit ?_)
    | (with_reducible refine DW.ret ?_)
    | (with_reducible refine DW.reg ?_)
    | (refine DW.dreg rfl (WF.of (by first | rfl | simp (disch := omega) only [go_sem, Nat.reduceLT, Nat.reduceLeDiff, Nat.reduceAdd, Nat.reduceMul, Nat.reduceEqDiff, ↓reduceIte, reduceCtorEq, Nat.reduceBEq, Nat.reduceBNe, Nat.reducePow, Int.reduceLE, Int.reduceLT, Int.reduceNeg, Int.reduceToNat, Int.reduceEq, Int.reduceAdd, Int.reduceSub, Int.reduceMul, Int.reduceBEq, Int.reduceBNe, Blk.men, Blk.keysIn, t1, hk0, hi0, hgg])) ?_)
    | (refine DW.ord rfl (WF.of (by first | rfl | simp (disch := omega) only [go_sem, Nat.reduceLT, Nat.reduceLeDiff, Nat.reduceAdd, Nat.reduceMul, Nat.reduceEqDiff, ↓reduceIte, reduceCtorEq, Nat.reduceBEq, Nat.reduceBNe, Nat.reducePow, Int.reduceLE, Int.reduceLT, Int.reduceNeg, Int.reduceToNat, Int.reduceEq, Int.reduceAdd, Int.reduceSub, Int.reduceMul, Int.reduceBEq, Int.reduceBNe, Blk.men, Blk.keysIn, t1, hk0, hi0, hgg])) ?_ ?_ ?_; rotate_left)
    | rfl
    | (with_reducible refine And.intro ?_ ?_)
    | (simp (disch := omega) only [go_sem, Nat.reduceLT, Nat.reduceLeDiff, Nat.reduceAdd, Nat.reduceMul, Nat.reduceEqDiff, ↓reduceIte, reduceCtorEq, Nat.reduceBEq, Nat.reduceBNe, Nat.reducePow, Int.reduceLE, Int.reduceLT, Int.reduceNeg, Int.reduceToNat, Int.reduceEq, Int.reduceAdd, Int.reduceSub, Int.reduceMul, Int.reduceBEq, Int.reduceBNe, Blk.men, Blk.keysIn, t1, hk0, hi0, hgg])
    | (exact retS_of rfl rfl rfl)
    | (refine DW.cond_tt rfl ?_)
    | (refine call_c (h53a) (by decide) ?_)
    | (refine call_c (h53b) (by decide) ?_)
    | (refine DW.cond_ff rfl ?_)
    | (refine DW.cond rfl ?_ ?_ <;> intro hc <;> (try simp only [go_sem] at hc))
    | (refine g_split ?_ ?_ <;> intro hc <;> (try simp only [hc]) <;> (try simp only [go_sem] at hc)))
                refine ⟨⟨(p2, z2, t + 1), .inl ⟨rfl, rfl, ht, fun t' ht' => (by
                  have ht3 : t' < t + 1 := ht'
                  rcases Nat.lt_or_ge t' t with h | h
                  · exact ht2 t' h
                  · have : t' = t := by omega
                    subst this; exact hsm)⟩⟩, ?_, Ent.to ?_ ?_⟩ <;> first | (show _ < _; (try simp only); omega) | (simp (disch := omega) only [wkT_cons, wkX_cons, wkT_nil, wkX_nil, get, Nat.reduceEqDiff, ↓reduceIte, ex_some, wk_self, wk_top, wk_nil, wkB_self, and_self, dI, i64_in, and_true, true_and, Int.natCast_add, Int.natCast_one, Int.ofNat_zero, Int.natCast_zero,  bxP, bD])
                all_goals exact .refl _
              · obtain ⟨he0, hac⟩ := hdiff p2 z2 t hpn hz ht hps hz2 ht2 hsm
                rw [hgd] at hac
                have hgg : (givesL x.st v sk p2 z2 t == givesL x.st v si p2 z2 t) = false := by
                  rw [beq_eq_false_iff_ne]
                  intro h
                  refine hsm ?_
                  unfold sameN
                  rw [hgd]; exact h
                have f1 : (ac.box == (p2 : Int)) = true := by rw [hac]; exact beq_self_eq_true _
                have f2 : (ac.noz == (z2 : Int)) = true := by rw [hac]; exact beq_self_eq_true _
                have f3 : (ac.step == (t : Int)) = true := by rw [hac]; exact beq_self_eq_true _
                have f4 : (ac.glue == givesL x.st v sk p2 z2 t) = true := by rw [hac]; exact beq_self_eq_true _
                have f5 : ((7 : Int) != 0) = false := by first | (exfalso; omega) | rfl
                clear hac
                generalize givesL x.st v sk p2 z2 t = g1 at *
                generalize givesL x.st v si p2 z2 t = g2 at *
                repeat' (first
    | (with_reducible refine DW.seq ?_)
    | (with_reducible refine DW.block ?_)
    | (with_reducible refine DW.skip ?_)
    | (with_reducible refine DW.exit ?_)
    | (with_reducible refine DW.ret ?_)
    | (with_reducible refine DW.reg ?_)
    | (refine DW.dreg rfl (WF.of (by first | rfl | simp (disch := omega) only [go_sem, Nat.reduceLT, Nat.reduceLeDiff, Nat.reduceAdd, Nat.reduceMul, Nat.reduceEqDiff, ↓reduceIte, reduceCtorEq, Nat.reduceBEq, Nat.reduceBNe, Nat.reducePow, Int.reduceLE, Int.reduceLT, Int.reduceNeg, Int.reduceToNat, Int.reduceEq, Int.reduceAdd, Int.reduceSub, Int.reduceMul, Int.reduceBEq, Int.reduceBNe, Blk.men, Blk.keysIn, t1, hk0, hi0, hgg, f1, f2, f3, f4, f5])) ?_)
    | (refine DW.ord rfl (WF.of (by first | rfl | simp (disch := omega) only [go_sem, Nat.reduceLT, Nat.reduceLeDiff, Nat.reduceAdd, Nat.reduceMul, Nat.reduceEqDiff, ↓reduceIte, reduceCtorEq, Nat.reduceBEq, Nat.reduceBNe, Nat.reducePow, Int.reduceLE, Int.reduceLT, Int.reduceNeg, Int.reduceToNat, Int.reduceEq, Int.reduceAdd, Int.reduceSub, Int.reduceMul, Int.reduceBEq, Int.reduceBNe, Blk.men, Blk.keysIn, t1, hk0, hi0, hgg, f1, f2, f3, f4, f5])) ?_ ?_ ?_; rotate_left)
    | rfl
    | (with_reducible refine And.intro ?_ ?_)
    | (simp (disch := omega) only [go_sem, Nat.reduceLT, Nat.reduceLeDiff, Nat.reduceAdd, Nat.reduceMul, Nat.reduceEqDiff, ↓reduceIte, reduceCtorEq, Nat.reduceBEq, Nat.reduceBNe, Nat.reducePow, Int.reduceLE, Int.reduceLT, Int.reduceNeg, Int.reduceToNat, Int.reduceEq, Int.reduceAdd, Int.reduceSub, Int.reduceMul, Int.reduceBEq, Int.reduceBNe, Blk.men, Blk.keysIn, t1, hk0, hi0, hgg, f1, f2, f3, f4, f5])
    | (exact retS_of rfl rfl rfl)
    | (refine DW.cond_tt rfl ?_)
    | (refine call_c (h53a) (by decide) ?_)
    | (refine call_c (h53b) (by decide) ?_)
    | (refine call_c (c54 _ _ _ _) (by decide) ?_)
    | (refine DW.cond_ff rfl ?_)
    | (refine DW.cond rfl ?_ ?_ <;> intro hc <;> (try simp only [go_sem] at hc))
    | (refine g_split ?_ ?_ <;> intro hc <;> (try simp only [hc]) <;> (try simp only [go_sem] at hc)))
                refine ⟨⟨(n, (nozP x).length, x.st + 1), .inr ⟨rfl, rfl, rfl⟩⟩, ?_, Ent.to ?_ ?_⟩ <;> first | (show _ < _; (try simp only); omega) | (simp (disch := omega) only [wkT_cons, wkX_cons, wkT_nil, wkX_nil, get, Nat.reduceEqDiff, ↓reduceIte, ex_some, wk_self, wk_top, wk_nil, wkB_self, and_self, dI, i64_in, and_true, true_and, Int.natCast_add, Int.natCast_one, Int.ofNat_zero, Int.natCast_zero,  bxP, bD])
                all_goals exact .refl _
            · have t1 : decide ((t : Int) < (x.st : Int)) = false := by rw [decide_eq_false_iff_not]; omega
              repeat' (first
    | (with_reducible refine DW.seq ?_)
    | (with_reducible refine DW.block ?_)
    | (with_reducible refine DW.skip ?_)
    | (with_reducible refine DW.exit ?_)
    | (with_reducible refine DW.ret ?_)
    | (with_reducible refine DW.reg ?_)
    | (refine DW.dreg rfl (WF.of (by first | rfl | simp (disch := omega) only [go_sem, Nat.reduceLT, Nat.reduceLeDiff, Nat.reduceAdd, Nat.reduceMul, Nat.reduceEqDiff, ↓reduceIte, reduceCtorEq, Nat.reduceBEq, Nat.reduceBNe, Nat.reducePow, Int.reduceLE, Int.reduceLT, Int.reduceNeg, Int.reduceToNat, Int.reduceEq, Int.reduceAdd, Int.reduceSub, Int.reduceMul, Int.reduceBEq, Int.reduceBNe, Blk.men, Blk.keysIn, t1])) ?_)
    | (refine DW.ord rfl (WF.of (by first | rfl | simp (disch := omega) only [go_sem, Nat.reduceLT, Nat.reduceLeDiff, Nat.reduceAdd, Nat.reduceMul, Nat.reduceEqDiff, ↓reduceIte, reduceCtorEq, Nat.reduceBEq, Nat.reduceBNe, Nat.reducePow, Int.reduceLE, Int.reduceLT, Int.reduceNeg, Int.reduceToNat, Int.reduceEq, Int.reduceAdd, Int.reduceSub, Int.reduceMul, Int.reduceBEq, Int.reduceBNe, Blk.men, Blk.keysIn, t1])) ?_ ?_ ?_; rotate_left)
    | rfl
    | (with_reducible refine And.intro ?_ ?_)
    | (simp (disch := omega) only [go_sem, Nat.reduceLT, Nat.reduceLeDiff, Nat.reduceAdd, Nat.reduceMul, Nat.reduceEqDiff, ↓reduceIte, reduceCtorEq, Nat.reduceBEq, Nat.reduceBNe, Nat.reducePow, Int.reduceLE, Int.reduceLT, Int.reduceNeg, Int.reduceToNat, Int.reduceEq, Int.reduceAdd, Int.reduceSub, Int.reduceMul, Int.reduceBEq, Int.reduceBNe, Blk.men, Blk.keysIn, t1])
    | (exact retS_of rfl rfl rfl)
    | (refine DW.cond_tt rfl ?_)
    | (refine DW.cond_ff rfl ?_)
    | (refine DW.cond rfl ?_ ?_ <;> intro hc <;> (try simp only [go_sem] at hc))
    | (refine g_split ?_ ?_ <;> intro hc <;> (try simp only [hc]) <;> (try simp only [go_sem] at hc)))
              rcases hr with ⟨rfl, rfl, ht1, ht2⟩ | ⟨rfl, rfl, rfl⟩
              · refine ⟨⟨(p2, z2 + 1), .inl ⟨rfl, hz, fun z' hz' => (by
                  have hz3 : z' < z2 + 1 := hz'
                  rcases Nat.lt_or_ge z' z2 with h | h
                  · exact hz2 z' h
                  · have : z' = z2 := by omega
                    subst this
                    intro t' ht'
                    exact ht2 t' (by omega))⟩⟩, ?_, Ent.to ?_ ?_⟩ <;> first | (show _ < _; (try simp only); omega) | (simp (disch := omega) only [wkT_cons, wkX_cons, wkT_nil, wkX_nil, get, Nat.reduceEqDiff, ↓reduceIte, ex_some, wk_self, wk_top, wk_nil, wkB_self, and_self, dI, i64_in, and_true, true_and, Int.natCast_add, Int.natCast_one, Int.ofNat_zero, Int.natCast_zero,  bxP, bD])
                all_goals exact .refl _
              · refine ⟨⟨(p2, (nozP x).length + 1), .inr ⟨rfl, rfl⟩⟩, ?_, Ent.to ?_ ?_⟩ <;> first | (show _ < _; (try simp only); omega) | (simp (disch := omega) only [wkT_cons, wkX_cons, wkT_nil, wkX_nil, get, Nat.reduceEqDiff, ↓reduceIte, ex_some, wk_self, wk_top, wk_nil, wkB_self, and_self, dI, i64_in, and_true, true_and, Int.natCast_add, Int.natCast_one, Int.ofNat_zero, Int.natCast_zero,  bxP, bD])
                all_goals exact .refl _
          · have z1 : decide ((z : Int) < ((nozP x).length : Int)) = false := by rw [decide_eq_false_iff_not]; omega
            repeat' (first
    | (with_reducible refine DW.seq ?_)
    | (with_reducible refine DW.block ?_)
    | (with_reducible refine DW.skip ?_)
    | (with_reducible refine DW.exit ?_)
    | (with_reducible refine DW.ret ?_)
    | (with_reducible refine DW.reg ?_)
    | (refine DW.dreg rfl (WF.of (by first | rfl | simp (disch := omega) only [go_sem, Nat.reduceLT, Nat.reduceLeDiff, Nat.reduceAdd, Nat.reduceMul, Nat.reduceEqDiff, ↓reduceIte, reduceCtorEq, Nat.reduceBEq, Nat.reduceBNe, Nat.reducePow, Int.reduceLE, Int.reduceLT, Int.reduceNeg, Int.reduceToNat, Int.reduceEq, Int.reduceAdd, Int.reduceSub, Int.reduceMul, Int.reduceBEq, Int.reduceBNe, Blk.men, Blk.keysIn, z1])) ?_)
    | (refine DW.ord rfl (WF.of (by first | rfl | simp (disch := omega) only [go_sem, Nat.reduceLT, Nat.reduceLeDiff, Nat.reduceAdd, Nat.reduceMul, Nat.reduceEqDiff, ↓reduceIte, reduceCtorEq, Nat.reduceBEq, Nat.reduceBNe, Nat.reducePow, Int.reduceLE, Int.reduceLT, Int.reduceNeg, Int.reduceToNat, Int.reduceEq, Int.reduceAdd, Int.reduceSub, Int.reduceMul, Int.reduceBEq, Int.reduceBNe, Blk.men, Blk.keysIn, z1])) ?_ ?_ ?_; rotate_left)
    | rfl
    | (with_reducible refine And.intro ?_ ?_)
    | (simp (disch := omega) only [go_sem, Nat.reduceLT, Nat.reduceLeDiff, Nat.reduceAdd, Nat.reduceMul, Nat.reduceEqDiff, ↓reduceIte, reduceCtorEq, Nat.reduceBEq, Nat.reduceBNe, Nat.reducePow, Int.reduceLE, Int.reduceLT, Int.reduceNeg, Int.reduceToNat, Int.reduceEq, Int.reduceAdd, Int.reduceSub, Int.reduceMul, Int.reduceBEq, Int.reduceBNe, Blk.men, Blk.keysIn, z1])
    | (exact retS_of rfl rfl rfl)
    | (refine DW.cond_tt rfl ?_)
    | (refine DW.cond_ff rfl ?_)
    | (refine DW.cond rfl ?_ ?_ <;> intro hc <;> (try simp only [go_sem] at hc))
    | (refine g_split ?_ ?_ <;> intro hc <;> (try simp only [hc]) <;> (try simp only [go_sem] at hc)))
            rcases hq with ⟨rfl, hz1, hz2⟩ | ⟨rfl, rfl⟩
            · refine ⟨⟨p' + 1, by omega, fun _ k' hk' => (by
                rcases Nat.lt_or_ge k' p' with h | h
                · exact hps k' h
                · have : k' = p' := by omega
                  subst this
                  intro z' hz'
                  exact hz2 z' (by omega))⟩, ?_, Ent.to ?_ ?_⟩ <;> first | (show _ < _; (try simp only); omega) | (simp (disch := omega) only [wkT_cons, wkX_cons, wkT_nil, wkX_nil, get, Nat.reduceEqDiff, ↓reduceIte, ex_some, wk_self, wk_top, wk_nil, wkB_self, and_self, dI, i64_in, and_true, true_and, Int.natCast_add, Int.natCast_one, Int.ofNat_zero, Int.natCast_zero,  bxP, bD])
              all_goals exact .refl _
            · refine ⟨⟨p' + 1, Nat.le_refl _, fun h => absurd h (by omega)⟩, ?_, Ent.to ?_ ?_⟩ <;> first | (show _ < _; (try simp only); omega) | (simp (disch := omega) only [wkT_cons, wkX_cons, wkT_nil, wkX_nil, get, Nat.reduceEqDiff, ↓reduceIte, ex_some, wk_self, wk_top, wk_nil, wkB_self, and_self, dI, i64_in, and_true, true_and, Int.natCast_add, Int.natCast_one, Int.ofNat_zero, Int.natCast_zero,  bxP, bD])
              all_goals exact .refl _
        · have p1 : decide ((p : Int) < (n : Int)) = false := by rw [decide_eq_false_iff_not]; omega
          repeat' (first
    | (with_reducible refine DW.seq ?_)
    | (with_reducible refine DW.block ?_)
    | (with_reducible refine DW.skip ?_)
    | (with_reducible refine DW.exit ?_)
    | (with_reducible refine DW.ret ?_)
    | (with_reducible refine DW.reg ?_)
    | (refine DW.dreg rfl (WF.of (by first | rfl | simp (disch := omega) only [go_sem, Nat.reduceLT, Nat.reduceLeDiff, Nat.reduceAdd, Nat.reduceMul, Nat.reduceEqDiff, ↓reduceIte, reduceCtorEq, Nat.reduceBEq, Nat.reduceBNe, Nat.reducePow, Int.reduceLE, Int.reduceLT, Int.reduceNeg, Int.reduceToNat, Int.reduceEq, Int.reduceAdd, Int.reduceSub, Int.reduceMul, Int.reduceBEq, Int.reduceBNe, Blk.men, Blk.keysIn, p1])) ?_)
    | (refine DW.ord rfl (WF.of (by first | rfl | simp (disch := omega) only [go_sem, Nat.reduceLT, Nat.reduceLeDiff, Nat.reduceAdd, Nat.reduceMul, Nat.reduceEqDiff, ↓reduceIte, reduceCtorEq, Nat.reduceBEq, Nat.reduceBNe, Nat.reducePow, Int.reduceLE, Int.reduceLT, Int.reduceNeg, Int.reduceToNat, Int.reduceEq, Int.reduceAdd, Int.reduceSub, Int.reduceMul, Int.reduceBEq, Int.reduceBNe, Blk.men, Blk.keysIn, p1])) ?_ ?_ ?_; rotate_left)
    | rfl
    | (with_reducible refine And.intro ?_ ?_)
    | (simp (disch := omega) only [go_sem, Nat.reduceLT, Nat.reduceLeDiff, Nat.reduceAdd, Nat.reduceMul, Nat.reduceEqDiff, ↓reduceIte, reduceCtorEq, Nat.reduceBEq, Nat.reduceBNe, Nat.reducePow, Int.reduceLE, Int.reduceLT, Int.reduceNeg, Int.reduceToNat, Int.reduceEq, Int.reduceAdd, Int.reduceSub, Int.reduceMul, Int.reduceBEq, Int.reduceBNe, Blk.men, Blk.keysIn, p1])
    | (exact retS_of rfl rfl rfl)
    | (refine DW.cond_tt rfl ?_)
    | (refine DW.cond_ff rfl ?_)
    | (refine DW.cond rfl ?_ ?_ <;> intro hc <;> (try simp only [go_sem] at hc))
    | (refine g_split ?_ ?_ <;> intro hc <;> (try simp only [hc]) <;> (try simp only [go_sem] at hc)))
          refine ⟨⟨k + 1, hki⟩, ?_, Ent.to ?_ ?_⟩ <;> first | (show _ < _; (try simp only); omega) | (simp (disch := omega) only [wkT_cons, wkX_cons, wkT_nil, wkX_nil, get, Nat.reduceEqDiff, ↓reduceIte, ex_some, wk_self, wk_top, wk_nil, wkB_self, and_self, dI, i64_in, and_true, true_and, Int.natCast_add, Int.natCast_one, Int.ofNat_zero, Int.natCast_zero,  bxP])
          all_goals exact .refl _
      · repeat' (first
    | (with_reducible refine DW.seq ?_)
    | (with_reducible refine DW.block ?_)
    | (with_reducible refine DW.skip ?_)
    | (with_reducible refine DW.exit ?_)
    | (with_reducible refine DW.ret ?_)
    | (with_reducible refine DW.reg ?_)
    | (refine DW.dreg rfl (WF.of (by first | rfl | simp (disch := omega) only [go_sem, Nat.reduceLT, Nat.reduceLeDiff, Nat.reduceAdd, Nat.reduceMul, Nat.reduceEqDiff, ↓reduceIte, reduceCtorEq, Nat.reduceBEq, Nat.reduceBNe, Nat.reducePow, Int.reduceLE, Int.reduceLT, Int.reduceNeg, Int.reduceToNat, Int.reduceEq, Int.reduceAdd, Int.reduceSub, Int.reduceMul, Int.reduceBEq, Int.reduceBNe, Blk.men, Blk.keysIn, hkd, hk0, hi0, ha1, ha2, hw1, hw2, r1, r2, r3])) ?_)
    | (refine DW.ord rfl (WF.of (by first | rfl | simp (disch := omega) only [go_sem, Nat.reduceLT, Nat.reduceLeDiff, Nat.reduceAdd, Nat.reduceMul, Nat.reduceEqDiff, ↓reduceIte, reduceCtorEq, Nat.reduceBEq, Nat.reduceBNe, Nat.reducePow, Int.reduceLE, Int.reduceLT, Int.reduceNeg, Int.reduceToNat, Int.reduceEq, Int.reduceAdd, Int.reduceSub, Int.reduceMul, Int.reduceBEq, Int.reduceBNe, Blk.men, Blk.keysIn, hkd, hk0, hi0, ha1, ha2, hw1, hw2, r1, r2, r3])) ?_ ?_ ?_; rotate_left)
    | rfl
    | (with_reducible refine And.intro ?_ ?_)
    | (simp (disch := omega) only [go_sem, Nat.reduceLT, Nat.reduceLeDiff, Nat.reduceAdd, Nat.reduceMul, Nat.reduceEqDiff, ↓reduceIte, reduceCtorEq, Nat.reduceBEq, Nat.reduceBNe, Nat.reducePow, Int.reduceLE, Int.reduceLT, Int.reduceNeg, Int.reduceToNat, Int.reduceEq, Int.reduceAdd, Int.reduceSub, Int.reduceMul, Int.reduceBEq, Int.reduceBNe, Blk.men, Blk.keysIn, hkd, hk0, hi0, ha1, ha2, hw1, hw2, r1, r2, r3])
    | (exact retS_of rfl rfl rfl)
    | (refine DW.cond_tt rfl ?_)
    | (refine call_c (c16 false (planN x) hpl) (by decide) ?_)
    | (refine call_c (c29 false sk hsk36) (by decide) ?_)
    | (refine call_c (c29 false si hsi36) (by decide) ?_)
    | (refine call_c (h30) (by decide) ?_)
    | (refine DW.cond_ff rfl ?_)
    | (refine DW.cond rfl ?_ ?_ <;> intro hc <;> (try simp only [go_sem] at hc))
    | (refine g_split ?_ ?_ <;> intro hc <;> (try simp only [hc]) <;> (try simp only [go_sem] at hc)))
        refine DW.loop (ι := { p : Nat // p ≤ n + 1 ∧ (p ≤ n → ∀ k', k' < p → ∀ z', z' < (nozP x).length → ∀ t', t' < x.st → sameN x sk si k' z' t') }) (fun p => ⟨240, [(23, dI p.1), (22, dI 0), (21, .box 21 0), (20, dI k), (19, dI i), (17, dIs false ow), (15, dIs false oa), (9, dSs false ss), (8, dI n), (7, .box 7 0)], [(21, .box [dI ac.box, dI ac.noz, dI ac.step, bD ac.glue]), (7, bxP false x)]⟩) (fun p => n + 1 - p.1) ⟨0, Nat.zero_le _, fun _ k' hk' => absurd hk' (Nat.not_lt_zero _)⟩ ?_ ?_
        · refine Ent.to ?_ ?_ <;> simp (disch := omega) only [wkT_cons, wkX_cons, wkT_nil, wkX_nil, get, Nat.reduceEqDiff, ↓reduceIte, ex_some, wk_self, wk_top, wk_nil, wkB_self, and_self, dI, i64_in, and_true, true_and, Int.natCast_add, Int.natCast_one, Int.ofNat_zero, Int.natCast_zero, bxP, bD]
          all_goals exact .refl _
        rintro ⟨p, hp, hsame⟩
        rcases Nat.lt_or_ge p n with hpn | hpn
        · have hps := hsame (by omega)
          have p1 : decide ((p : Int) < (n : Int)) = true := by rw [decide_eq_true_eq]; omega
          repeat' (first
    | (with_reducible refine DW.seq ?_)
    | (with_reducible refine DW.block ?_)
    | (with_reducible refine DW.skip ?_)
    | (with_reducible refine DW.exit ?_)
    | (with_reducible refine DW.ret ?_)
    | (with_reducible refine DW.reg ?_)
    | (refine DW.dreg rfl (WF.of (by first | rfl | simp (disch := omega) only [go_sem, Nat.reduceLT, Nat.reduceLeDiff, Nat.reduceAdd, Nat.reduceMul, Nat.reduceEqDiff, ↓reduceIte, reduceCtorEq, Nat.reduceBEq, Nat.reduceBNe, Nat.reducePow, Int.reduceLE, Int.reduceLT, Int.reduceNeg, Int.reduceToNat, Int.reduceEq, Int.reduceAdd, Int.reduceSub, Int.reduceMul, Int.reduceBEq, Int.reduceBNe, Blk.men, Blk.keysIn, p1])) ?_)
    | (refine DW.ord rfl (WF.of (by first | rfl | simp (disch := omega) only [go_sem, Nat.reduceLT, Nat.reduceLeDiff, Nat.reduceAdd, Nat.reduceMul, Nat.reduceEqDiff, ↓reduceIte, reduceCtorEq, Nat.reduceBEq, Nat.reduceBNe, Nat.reducePow, Int.reduceLE, Int.reduceLT, Int.reduceNeg, Int.reduceToNat, Int.reduceEq, Int.reduceAdd, Int.reduceSub, Int.reduceMul, Int.reduceBEq, Int.reduceBNe, Blk.men, Blk.keysIn, p1])) ?_ ?_ ?_; rotate_left)
    | rfl
    | (with_reducible refine And.intro ?_ ?_)
    | (simp (disch := omega) only [go_sem, Nat.reduceLT, Nat.reduceLeDiff, Nat.reduceAdd, Nat.reduceMul, Nat.reduceEqDiff, ↓reduceIte, reduceCtorEq, Nat.reduceBEq, Nat.reduceBNe, Nat.reducePow, Int.reduceLE, Int.reduceLT, Int.reduceNeg, Int.reduceToNat, Int.reduceEq, Int.reduceAdd, Int.reduceSub, Int.reduceMul, Int.reduceBEq, Int.reduceBNe, Blk.men, Blk.keysIn, p1])
    | (exact retS_of rfl rfl rfl)
    | (refine DW.cond_tt rfl ?_)
    | (refine DW.cond_ff rfl ?_)
    | (refine DW.cond rfl ?_ ?_ <;> intro hc <;> (try simp only [go_sem] at hc))
    | (refine g_split ?_ ?_ <;> intro hc <;> (try simp only [hc]) <;> (try simp only [go_sem] at hc)))
          refine DW.loop (ι := { q : Nat × Nat // (q.1 = p ∧ q.2 ≤ (nozP x).length ∧ ∀ z', z' < q.2 → ∀ t', t' < x.st → sameN x sk si p z' t') ∨ (q.1 = n ∧ q.2 = (nozP x).length + 1) }) (fun q => ⟨240, [(24, dI q.1.2), (23, dI q.1.1), (22, dI 0), (21, .box 21 0), (20, dI k), (19, dI i), (17, dIs false ow), (15, dIs false oa), (9, dSs false ss), (8, dI n), (7, .box 7 0)], [(21, .box [dI ac.box, dI ac.noz, dI ac.step, bD ac.glue]), (7, bxP false x)]⟩) (fun q => (nozP x).length + 1 - q.1.2) ⟨(p, 0), .inl ⟨rfl, Nat.zero_le _, fun z' hz' => absurd hz' (Nat.not_lt_zero _)⟩⟩ ?_ ?_
          · refine Ent.to ?_ ?_ <;> simp (disch := omega) only [wkT_cons, wkX_cons, wkT_nil, wkX_nil, get, Nat.reduceEqDiff, ↓reduceIte, ex_some, wk_self, wk_top, wk_nil, wkB_self, and_self, dI, i64_in, and_true, true_and, Int.natCast_add, Int.natCast_one, Int.ofNat_zero, Int.natCast_zero, bxP, bD]
            all_goals exact .refl _
          rintro ⟨⟨p', z⟩, hq⟩
          dsimp only at hq ⊢
          rcases Nat.lt_or_ge z (nozP x).length with hz | hz
          · obtain ⟨rfl, hz1, hz2⟩ : p' = p ∧ z ≤ (nozP x).length ∧ ∀ z', z' < z → ∀ t', t' < x.st → sameN x sk si p z' t' := by
              rcases hq with h | h
              · exact h
              · omega
            have z1 : decide ((z : Int) < ((nozP x).length : Int)) = true := by rw [decide_eq_true_eq]; omega
            obtain ⟨v, hv⟩ := getE hz
            have hv16 := nozP_16 x v (List.mem_of_getElem? hv)
            have hgd : (nozP x).getD z 0 = v := by simp [List.getD, hv]
            repeat' (first
    | (with_reducible refine DW.seq ?_)
    | (with_reducible refine DW.block ?_)
    | (with_reducible refine DW.skip ?_)
    | (with_reducible refine DW.exit ?_)
    | (with_reducible refine DW.ret ?_)
    | (with_reducible refine DW.reg ?_)
    | (refine DW.dreg rfl (WF.of (by first | rfl | simp (disch := omega) only [go_sem, Nat.reduceLT, Nat.reduceLeDiff, Nat.reduceAdd, Nat.reduceMul, Nat.reduceEqDiff, ↓reduceIte, reduceCtorEq, Nat.reduceBEq, Nat.reduceBNe, Nat.reducePow, Int.reduceLE, Int.reduceLT, Int.reduceNeg, Int.reduceToNat, Int.reduceEq, Int.reduceAdd, Int.reduceSub, Int.reduceMul, Int.reduceBEq, Int.reduceBNe, Blk.men, Blk.keysIn, z1])) ?_)
    | (refine DW.ord rfl (WF.of (by first | rfl | simp (disch := omega) only [go_sem, Nat.reduceLT, Nat.reduceLeDiff, Nat.reduceAdd, Nat.reduceMul, Nat.reduceEqDiff, ↓reduceIte, reduceCtorEq, Nat.reduceBEq, Nat.reduceBNe, Nat.reducePow, Int.reduceLE, Int.reduceLT, Int.reduceNeg, Int.reduceToNat, Int.reduceEq, Int.reduceAdd, Int.reduceSub, Int.reduceMul, Int.reduceBEq, Int.reduceBNe, Blk.men, Blk.keysIn, z1])) ?_ ?_ ?_; rotate_left)
    | rfl
    | (with_reducible refine And.intro ?_ ?_)
    | (simp (disch := omega) only [go_sem, Nat.reduceLT, Nat.reduceLeDiff, Nat.reduceAdd, Nat.reduceMul, Nat.reduceEqDiff, ↓reduceIte, reduceCtorEq, Nat.reduceBEq, Nat.reduceBNe, Nat.reducePow, Int.reduceLE, Int.reduceLT, Int.reduceNeg, Int.reduceToNat, Int.reduceEq, Int.reduceAdd, Int.reduceSub, Int.reduceMul, Int.reduceBEq, Int.reduceBNe, Blk.men, Blk.keysIn, z1])
    | (exact retS_of rfl rfl rfl)
    | (refine DW.cond_tt rfl ?_)
    | (refine DW.cond_ff rfl ?_)
    | (refine DW.cond rfl ?_ ?_ <;> intro hc <;> (try simp only [go_sem] at hc))
    | (refine g_split ?_ ?_ <;> intro hc <;> (try simp only [hc]) <;> (try simp only [go_sem] at hc)))
            refine DW.loop (ι := { r : Nat × Nat × Nat // (r.1 = p' ∧ r.2.1 = z ∧ r.2.2 ≤ x.st ∧ ∀ t', t' < r.2.2 → sameN x sk si p' z t') ∨ (r.1 = n ∧ r.2.1 = (nozP x).length ∧ r.2.2 = x.st + 1) }) (fun r => ⟨240, [(25, dI r.1.2.2), (24, dI r.1.2.1), (23, dI r.1.1), (22, dI 0), (21, .box 21 0), (20, dI k), (19, dI i), (17, dIs false ow), (15, dIs false oa), (9, dSs false ss), (8, dI n), (7, .box 7 0)], [(21, .box [dI ac.box, dI ac.noz, dI ac.step, bD ac.glue]), (7, bxP false x)]⟩) (fun r => x.st + 1 - r.1.2.2) ⟨(p', z, 0), .inl ⟨rfl, rfl, Nat.zero_le _, fun t' ht' => absurd ht' (Nat.not_lt_zero _)⟩⟩ ?_ ?_
            · refine Ent.to ?_ ?_ <;> simp (disch := omega) only [wkT_cons, wkX_cons, wkT_nil, wkX_nil, get, Nat.reduceEqDiff, ↓reduceIte, ex_some, wk_self, wk_top, wk_nil, wkB_self, and_self, dI, i64_in, and_true, true_and, Int.natCast_add, Int.natCast_one, Int.ofNat_zero, Int.natCast_zero, bxP, bD]
              all_goals exact .refl _
            rintro ⟨⟨p2, z2, t⟩, hr⟩
            dsimp only at hr ⊢
            rcases Nat.lt_or_ge t x.st with ht | ht
            · obtain ⟨rfl, rfl, ht1, ht2⟩ : p2 = p' ∧ z2 = z ∧ t ≤ x.st ∧ ∀ t', t' < t → sameN x sk si p' z t' := by
                rcases hr with h | h
                · exact h
                · omega
              have t1 : decide ((t : Int) < (x.st : Int)) = true := by rw [decide_eq_true_eq]; omega
              have h53a := c53 false false x.st (nozP x) sk (p2 : Int) z2 v (t : Int) (by omega) hv hv16 hsk36 (by omega)
              have h53b := c53 false false x.st (nozP x) si (p2 : Int) z2 v (t : Int) (by omega) hv hv16 hsi36 (by omega)
              by_cases hsm : sameN x sk si p2 z2 t
              · have hgg : (givesL x.st v sk p2 z2 t == givesL x.st v si p2 z2 t) = true := by
                  have := hsm
                  unfold sameN at this
                  rw [hgd] at this
                  rw [this]; exact beq_self_eq_true _
                generalize givesL x.st v sk p2 z2 t = g1 at *
                generalize givesL x.st v si p2 z2 t = g2 at *
                repeat' (first
    | (with_reducible refine DW.seq ?_)
    | (with_reducible refine DW.block ?_)
    | (with_reducible refine DW.skip ?_)
    | (with_reducible refine DW.exit ?_)
    | (with_reducible refine DW.ret ?_)
    | (with_reducible refine DW.reg ?_)
    | (refine DW.dreg rfl (WF.of (by first | rfl | simp (disch := omega) only [go_sem, Nat.reduceLT, Nat.reduceLeDiff, Nat.reduceAdd, Nat.reduceMul, Nat.reduceEqDiff, ↓reduceIte, reduceCtorEq, Nat.reduceBEq, Nat.reduceBNe, Nat.reducePow, Int.reduceLE, Int.reduceLT, Int.reduceNeg, Int.reduceToNat, Int.reduceEq, Int.reduceAdd, Int.reduceSub, Int.reduceMul, Int.reduceBEq, Int.reduceBNe, Blk.men, Blk.keysIn, t1, hk0, hi0, hgg])) ?_)
    | (refine DW.ord rfl (WF.of (by first | rfl | simp (disch := omega) only [go_sem, Nat.reduceLT, Nat.reduceLeDiff, Nat.reduceAdd, Nat.reduceMul, Nat.reduceEqDiff, ↓reduceIte, reduceCtorEq, Nat.reduceBEq, Nat.reduceBNe, Nat.reducePow, Int.reduceLE, Int.reduceLT, Int.reduceNeg, Int.reduceToNat, Int.reduceEq, Int.reduceAdd, Int.reduceSub, Int.reduceMul, Int.reduceBEq, Int.reduceBNe, Blk.men, Blk.keysIn, t1, hk0, hi0, hgg])) ?_ ?_ ?_; rotate_left)
    | rfl
    | (with_reducible refine And.intro ?_ ?_)
    | (simp (disch := omega) only [go_sem, Nat.reduceLT, Nat.reduceLeDiff, Nat.reduceAdd, Nat.reduceMul, Nat.reduceEqDiff, ↓reduceIte, reduceCtorEq, Nat.reduceBEq, Nat.reduceBNe, Nat.reducePow, Int.reduceLE, Int.reduceLT, Int.reduceNeg, Int.reduceToNat, Int.reduceEq, Int.reduceAdd, Int.reduceSub, Int.reduceMul, Int.reduceBEq, Int.reduceBNe, Blk.men, Blk.keysIn, t1, hk0, hi0, hgg])
    | (exact retS_of rfl rfl rfl)
    | (refine DW.cond_tt rfl ?_)
    | (refine call_c (h53a) (by decide) ?_)
    | (refine call_c (h53b) (by decide) ?_)
    | (refine DW.cond_ff rfl ?_)
    | (refine DW.cond rfl ?_ ?_ <;> intro hc <;> (try simp only [go_sem] at hc))
    | (refine g_split ?_ ?_ <;> intro hc <;> (try simp only [hc]) <;> (try simp only [go_sem] at hc)))
                refine ⟨⟨(p2, z2, t + 1), .inl ⟨rfl, rfl, ht, fun t' ht' => (by
                  have ht3 : t' < t + 1 := ht'
                  rcases Nat.lt_or_ge t' t with h | h
                  · exact ht2 t' h
                  · have : t' = t := by omega
                    subst this; exact hsm)⟩⟩, ?_, Ent.to ?_ ?_⟩ <;> first | (show _ < _; (try simp only); omega) | (simp (disch := omega) only [wkT_cons, wkX_cons, wkT_nil, wkX_nil, get, Nat.reduceEqDiff, ↓reduceIte, ex_some, wk_self, wk_top, wk_nil, wkB_self, and_self, dI, i64_in, and_true, true_and, Int.natCast_add, Int.natCast_one, Int.ofNat_zero, Int.natCast_zero,  bxP, bD])
                all_goals exact .refl _
              · obtain ⟨he0, hac⟩ := hdiff p2 z2 t hpn hz ht hps hz2 ht2 hsm
                rw [hgd] at hac
                have hgg : (givesL x.st v sk p2 z2 t == givesL x.st v si p2 z2 t) = false := by
                  rw [beq_eq_false_iff_ne]
                  intro h
                  refine hsm ?_
                  unfold sameN
                  rw [hgd]; exact h
                have f1 : (ac.box == (p2 : Int)) = true := by rw [hac]; exact beq_self_eq_true _
                have f2 : (ac.noz == (z2 : Int)) = true := by rw [hac]; exact beq_self_eq_true _
                have f3 : (ac.step == (t : Int)) = true := by rw [hac]; exact beq_self_eq_true _
                have f4 : (ac.glue == givesL x.st v sk p2 z2 t) = true := by rw [hac]; exact beq_self_eq_true _
                have f5 : ((0 : Int) != 0) = false := by first | (exfalso; omega) | rfl
                clear hac
                generalize givesL x.st v sk p2 z2 t = g1 at *
                generalize givesL x.st v si p2 z2 t = g2 at *
                repeat' (first
    | (with_reducible refine DW.seq ?_)
    | (with_reducible refine DW.block ?_)
    | (with_reducible refine DW.skip ?_)
    | (with_reducible refine DW.exit ?_)
    | (with_reducible refine DW.ret ?_)
    | (with_reducible refine DW.reg ?_)
    | (refine DW.dreg rfl (WF.of (by first | rfl | simp (disch := omega) only [go_sem, Nat.reduceLT, Nat.reduceLeDiff, Nat.reduceAdd, Nat.reduceMul, Nat.reduceEqDiff, ↓reduceIte, reduceCtorEq, Nat.reduceBEq, Nat.reduceBNe, Nat.reducePow, Int.reduceLE, Int.reduceLT, Int.reduceNeg, Int.reduceToNat, Int.reduceEq, Int.reduceAdd, Int.reduceSub, Int.reduceMul, Int.reduceBEq, Int.reduceBNe, Blk.men, Blk.keysIn, t1, hk0, hi0, hgg, f1, f2, f3, f4, f5])) ?_)
    | (refine DW.ord rfl (WF.of (by first | rfl | simp (disch := omega) only [go_sem, Nat.reduceLT, Nat.reduceLeDiff, Nat.reduceAdd, Nat.reduceMul, Nat.reduceEqDiff, ↓reduceIte, reduceCtorEq, Nat.reduceBEq, Nat.reduceBNe, Nat.reducePow, Int.reduceLE, Int.reduceLT, Int.reduceNeg, Int.reduceToNat, Int.reduceEq, Int.reduceAdd, Int.reduceSub, Int.reduceMul, Int.reduceBEq, Int.reduceBNe, Blk.men, Blk.keysIn, t1, hk0, hi0, hgg, f1, f2, f3, f4, f5])) ?_ ?_ ?_; rotate_left)
    | rfl
    | (with_reducible refine And.intro ?_ ?_)
    | (simp (disch := omega) only [go_sem, Nat.reduceLT, Nat.reduceLeDiff, Nat.reduceAdd, Nat.reduceMul, Nat.reduceEqDiff, ↓reduceIte, reduceCtorEq, Nat.reduceBEq, Nat.reduceBNe, Nat.reducePow, Int.reduceLE, Int.reduceLT, Int.reduceNeg, Int.reduceToNat, Int.reduceEq, Int.reduceAdd, Int.reduceSub, Int.reduceMul, Int.reduceBEq, Int.reduceBNe, Blk.men, Blk.keysIn, t1, hk0, hi0, hgg, f1, f2, f3, f4, f5])
    | (exact retS_of rfl rfl rfl)
    | (refine DW.cond_tt rfl ?_)
    | (refine call_c (h53a) (by decide) ?_)
    | (refine call_c (h53b) (by decide) ?_)
    | (refine call_c (c54 _ _ _ _) (by decide) ?_)
    | (refine DW.cond_ff rfl ?_)
    | (refine DW.cond rfl ?_ ?_ <;> intro hc <;> (try simp only [go_sem] at hc))
    | (refine g_split ?_ ?_ <;> intro hc <;> (try simp only [hc]) <;> (try simp only [go_sem] at hc)))
                refine ⟨⟨(n, (nozP x).length, x.st + 1), .inr ⟨rfl, rfl, rfl⟩⟩, ?_, Ent.to ?_ ?_⟩ <;> first | (show _ < _; (try simp only); omega) | (simp (disch := omega) only [wkT_cons, wkX_cons, wkT_nil, wkX_nil, get, Nat.reduceEqDiff, ↓reduceIte, ex_some, wk_self, wk_top, wk_nil, wkB_self, and_self, dI, i64_in, and_true, true_and, Int.natCast_add, Int.natCast_one, Int.ofNat_zero, Int.natCast_zero,  bxP, bD])
                all_goals exact .refl _
            · have t1 : decide ((t : Int) < (x.st : Int)) = false := by rw [decide_eq_false_iff_not]; omega
              repeat' (first
    | (with_reducible refine DW.seq ?_)
    | (with_reducible refine DW.block ?_)
    | (with_reducible refine DW.skip ?_)
    | (with_reducible refine DW.exit ?_)
    | (with_reducible refine DW.ret ?_)
    | (with_reducible refine DW.reg ?_)
    | (refine DW.dreg rfl (WF.of (by first | rfl | simp (disch := omega) only [go_sem, Nat.reduceLT, Nat.reduceLeDiff, Nat.reduceAdd, Nat.reduceMul, Nat.reduceEqDiff, ↓reduceIte, reduceCtorEq, Nat.reduceBEq, Nat.reduceBNe, Nat.reducePow, Int.reduceLE, Int.reduceLT, Int.reduceNeg, Int.reduceToNat, Int.reduceEq, Int.reduceAdd, Int.reduceSub, Int.reduceMul, Int.reduceBEq, Int.reduceBNe, Blk.men, Blk.keysIn, t1])) ?_)
    | (refine DW.ord rfl (WF.of (by first | rfl | simp (disch := omega) only [go_sem, Nat.reduceLT, Nat.reduceLeDiff, Nat.reduceAdd, Nat.reduceMul, Nat.reduceEqDiff, ↓reduceIte, reduceCtorEq, Nat.reduceBEq, Nat.reduceBNe, Nat.reducePow, Int.reduceLE, Int.reduceLT, Int.reduceNeg, Int.reduceToNat, Int.reduceEq, Int.reduceAdd, Int.reduceSub, Int.reduceMul, Int.reduceBEq, Int.reduceBNe, Blk.men, Blk.keysIn, t1])) ?_ ?_ ?_; rotate_left)
    | rfl
    | (with_reducible refine And.intro ?_ ?_)
    | (simp (disch := omega) only [go_sem, Nat.reduceLT, Nat.reduceLeDiff, Nat.reduceAdd, Nat.reduceMul, Nat.reduceEqDiff, ↓reduceIte, reduceCtorEq, Nat.reduceBEq, Nat.reduceBNe, Nat.reducePow, Int.reduceLE, Int.reduceLT, Int.reduceNeg, Int.reduceToNat, Int.reduceEq, Int.reduceAdd, Int.reduceSub, Int.reduceMul, Int.reduceBEq, Int.reduceBNe, Blk.men, Blk.keysIn, t1])
    | (exact retS_of rfl rfl rfl)
    | (refine DW.cond_tt rfl ?_)
    | (refine DW.cond_ff rfl ?_)
    | (refine DW.cond rfl ?_ ?_ <;> intro hc <;> (try simp only [go_sem] at hc))
    | (refine g_split ?_ ?_ <;> intro hc <;> (try simp only [hc]) <;> (try simp only [go_sem] at hc)))
              rcases hr with ⟨rfl, rfl, ht1, ht2⟩ | ⟨rfl, rfl, rfl⟩
              · refine ⟨⟨(p2, z2 + 1), .inl ⟨rfl, hz, fun z' hz' => (by
                  have hz3 : z' < z2 + 1 := hz'
                  rcases Nat.lt_or_ge z' z2 with h | h
                  · exact hz2 z' h
                  · have : z' = z2 := by omega
                    subst this
                    intro t' ht'
                    exact ht2 t' (by omega))⟩⟩, ?_, Ent.to ?_ ?_⟩ <;> first | (show _ < _; (try simp only); omega) | (simp (disch := omega) only [wkT_cons, wkX_cons, wkT_nil, wkX_nil, get, Nat.reduceEqDiff, ↓reduceIte, ex_some, wk_self, wk_top, wk_nil, wkB_self, and_self, dI, i64_in, and_true, true_and, Int.natCast_add, Int.natCast_one, Int.ofNat_zero, Int.natCast_zero,  bxP, bD])
                all_goals exact .refl _
              · refine ⟨⟨(p2, (nozP x).length + 1), .inr ⟨rfl, rfl⟩⟩, ?_, Ent.to ?_ ?_⟩ <;> first | (show _ < _; (try simp only); omega) | (simp (disch := omega) only [wkT_cons, wkX_cons, wkT_nil, wkX_nil, get, Nat.reduceEqDiff, ↓reduceIte, ex_some, wk_self, wk_top, wk_nil, wkB_self, and_self, dI, i64_in, and_true, true_and, Int.natCast_add, Int.natCast_one, Int.ofNat_zero, Int.natCast_zero,  bxP, bD])
                all_goals exact .refl _
          · have z1 : decide ((z : Int) < ((nozP x).length : Int)) = false := by rw [decide_eq_false_iff_not]; omega
            repeat' (first
    | (with_reducible refine DW.seq ?_)
    | (with_reducible refine DW.block ?_)
    | (with_reducible refine DW.skip ?_)
    | (with_reducible refine DW.exit ?_)
    | (with_reducible refine DW.ret ?_)
    | (with_reducible refine DW.reg ?_)
    | (refine DW.dreg rfl (WF.of (by first | rfl | simp (disch := omega) only [go_sem, Nat.reduceLT, Nat.reduceLeDiff, Nat.reduceAdd, Nat.reduceMul, Nat.reduceEqDiff, ↓reduceIte, reduceCtorEq, Nat.reduceBEq, Nat.reduceBNe, Nat.reducePow, Int.reduceLE, Int.reduceLT, Int.reduceNeg, Int.reduceToNat, Int.reduceEq, Int.reduceAdd, Int.reduceSub, Int.reduceMul, Int.reduceBEq, Int.reduceBNe, Blk.men, Blk.keysIn, z1])) ?_)
    | (refine DW.ord rfl (WF.of (by first | rfl | simp (disch := omega) only [go_sem, Nat.reduceLT, Nat.reduceLeDiff, Nat.reduceAdd, Nat.reduceMul, Nat.reduceEqDiff, ↓reduceIte, reduceCtorEq, Nat.reduceBEq, Nat.reduceBNe, Nat.reducePow, Int.reduceLE, Int.reduceLT, Int.reduceNeg, Int.reduceToNat, Int.reduceEq, Int.reduceAdd, Int.reduceSub, Int.reduceMul, Int.reduceBEq, Int.reduceBNe, Blk.men, Blk.keysIn, z1])) ?_ ?_ ?_; rotate_left)
    | rfl
    | (with_reducible refine And.intro ?_ ?_)
    | (simp (disch := omega) only [go_sem, Nat.reduceLT, Nat.reduceLeDiff, Nat.reduceAdd, Nat.reduceMul, Nat.reduceEqDiff, ↓reduceIte, reduceCtorEq, Nat.reduceBEq, Nat.reduceBNe, Nat.reducePow, Int.reduceLE, Int.reduceLT, Int.reduceNeg, Int.reduceToNat, Int.reduceEq, Int.reduceAdd, Int.reduceSub, Int.reduceMul, Int.reduceBEq, Int.reduceBNe, Blk.men, Blk.keysIn, z1])
    | (exact retS_of rfl rfl rfl)
    | (refine DW.cond_tt rfl ?_)
    | (refine DW.cond_ff rfl ?_)
    | (refine DW.cond rfl ?_ ?_ <;> intro hc <;> (try simp only [go_sem] at hc))
    | (refine g_split ?_ ?_ <;> intro hc <;> (try simp only [hc]) <;> (try simp only [go_sem] at hc)))
            rcases hq with ⟨rfl, hz1, hz2⟩ | ⟨rfl, rfl⟩
            · refine ⟨⟨p' + 1, by omega, fun _ k' hk' => (by
                rcases Nat.lt_or_ge k' p' with h | h
                · exact hps k' h
                · have : k' = p' := by omega
                  subst this
                  intro z' hz'
                  exact hz2 z' (by omega))⟩, ?_, Ent.to ?_ ?_⟩ <;> first | (show _ < _; (try simp only); omega) | (simp (disch := omega) only [wkT_cons, wkX_cons, wkT_nil, wkX_nil, get, Nat.reduceEqDiff, ↓reduceIte, ex_some, wk_self, wk_top, wk_nil, wkB_self, and_self, dI, i64_in, and_true, true_and, Int.natCast_add, Int.natCast_one, Int.ofNat_zero, Int.natCast_zero,  bxP, bD])
              all_goals exact .refl _
            · refine ⟨⟨p' + 1, Nat.le_refl _, fun h => absurd h (by omega)⟩, ?_, Ent.to ?_ ?_⟩ <;> first | (show _ < _; (try simp only); omega) | (simp (disch := omega) only [wkT_cons, wkX_cons, wkT_nil, wkX_nil, get, Nat.reduceEqDiff, ↓reduceIte, ex_some, wk_self, wk_top, wk_nil, wkB_self, and_self, dI, i64_in, and_true, true_and, Int.natCast_add, Int.natCast_one, Int.ofNat_zero, Int.natCast_zero,  bxP, bD])
              all_goals exact .refl _
        · have p1 : decide ((p : Int) < (n : Int)) = false := by rw [decide_eq_false_iff_not]; omega
          repeat' (first
    | (with_reducible refine DW.seq ?_)
    | (with_reducible refine DW.block ?_)
    | (with_reducible refine DW.skip ?_)
    | (with_reducible refine DW.exit ?_)
    | (with_reducible refine DW.ret ?_)
    | (with_reducible refine DW.reg ?_)
    | (refine DW.dreg rfl (WF.of (by first | rfl | simp (disch := omega) only [go_sem, Nat.reduceLT, Nat.reduceLeDiff, Nat.reduceAdd, Nat.reduceMul, Nat.reduceEqDiff, ↓reduceIte, reduceCtorEq, Nat.reduceBEq, Nat.reduceBNe, Nat.reducePow, Int.reduceLE, Int.reduceLT, Int.reduceNeg, Int.reduceToNat, Int.reduceEq, Int.reduceAdd, Int.reduceSub, Int.reduceMul, Int.reduceBEq, Int.reduceBNe, Blk.men, Blk.keysIn, p1])) ?_)
    | (refine DW.ord rfl (WF.of (by first | rfl | simp (disch := omega) only [go_sem, Nat.reduceLT, Nat.reduceLeDiff, Nat.reduceAdd, Nat.reduceMul, Nat.reduceEqDiff, ↓reduceIte, reduceCtorEq, Nat.reduceBEq, Nat.reduceBNe, Nat.reducePow, Int.reduceLE, Int.reduceLT, Int.reduceNeg, Int.reduceToNat, Int.reduceEq, Int.reduceAdd, Int.reduceSub, Int.reduceMul, Int.reduceBEq, Int.reduceBNe, Blk.men, Blk.keysIn, p1])) ?_ ?_ ?_; rotate_left)
    | rfl
    | (with_reducible refine And.intro ?_ ?_)
    | (simp (disch := omega) only [go_sem, Nat.reduceLT, Nat.reduceLeDiff, Nat.reduceAdd, Nat.reduceMul, Nat.reduceEqDiff, ↓reduceIte, reduceCtorEq, Nat.reduceBEq, Nat.reduceBNe, Nat.reducePow, Int.reduceLE, Int.reduceLT, Int.reduceNeg, Int.reduceToNat, Int.reduceEq, Int.reduceAdd, Int.reduceSub, Int.reduceMul, Int.reduceBEq, Int.reduceBNe, Blk.men, Blk.keysIn, p1])
    | (exact retS_of rfl rfl rfl)
    | (refine DW.cond_tt rfl ?_)
    | (refine DW.cond_ff rfl ?_)
    | (refine DW.cond rfl ?_ ?_ <;> intro hc <;> (try simp only [go_sem] at hc))
    | (refine g_split ?_ ?_ <;> intro hc <;> (try simp only [hc]) <;> (try simp only [go_sem] at hc)))
          refine ⟨⟨k + 1, hki⟩, ?_, Ent.to ?_ ?_⟩ <;> first | (show _ < _; (try simp only); omega) | (simp (disch := omega) only [wkT_cons, wkX_cons, wkT_nil, wkX_nil, get, Nat.reduceEqDiff, ↓reduceIte, ex_some, wk_self, wk_top, wk_nil, wkB_self, and_self, dI, i64_in, and_true, true_and, Int.natCast_add, Int.natCast_one, Int.ofNat_zero, Int.natCast_zero,  bxP])
          all_goals exact .refl _
    · have hkd : decide ((k : Int) < (i : Int)) = false := by rw [decide_eq_false_iff_not]; omega
      repeat' (first
    | (with_reducible refine DW.seq ?_)
    | (with_reducible refine DW.block ?_)
    | (with_reducible refine DW.skip ?_)
    | (with_reducible refine DW.exit ?_)
    | (with_reducible refine DW.ret ?_)
    | (with_reducible refine DW.reg ?_)
    | (refine DW.dreg rfl (WF.of (by first | rfl | simp (disch := omega) only [go_sem, Nat.reduceLT, Nat.reduceLeDiff, Nat.reduceAdd, Nat.reduceMul, Nat.reduceEqDiff, ↓reduceIte, reduceCtorEq, Nat.reduceBEq, Nat.reduceBNe, Nat.reducePow, Int.reduceLE, Int.reduceLT, Int.reduceNeg, Int.reduceToNat, Int.reduceEq, Int.reduceAdd, Int.reduceSub, Int.reduceMul, Int.reduceBEq, Int.reduceBNe, Blk.men, Blk.keysIn, hkd])) ?_)
    | (refine DW.ord rfl (WF.of (by first | rfl | simp (disch := omega) only [go_sem, Nat.reduceLT, Nat.reduceLeDiff, Nat.reduceAdd, Nat.reduceMul, Nat.reduceEqDiff, ↓reduceIte, reduceCtorEq, Nat.reduceBEq, Nat.reduceBNe, Nat.reducePow, Int.reduceLE, Int.reduceLT, Int.reduceNeg, Int.reduceToNat, Int.reduceEq, Int.reduceAdd, Int.reduceSub, Int.reduceMul, Int.reduceBEq, Int.reduceBNe, Blk.men, Blk.keysIn, hkd])) ?_ ?_ ?_; rotate_left)
    | rfl
    | (with_reducible refine And.intro ?_ ?_)
    | (simp (disch := omega) only [go_sem, Nat.reduceLT, Nat.reduceLeDiff, Nat.reduceAdd, Nat.reduceMul, Nat.reduceEqDiff, ↓reduceIte, reduceCtorEq, Nat.reduceBEq, Nat.reduceBNe, Nat.reducePow, Int.reduceLE, Int.reduceLT, Int.reduceNeg, Int.reduceToNat, Int.reduceEq, Int.reduceAdd, Int.reduceSub, Int.reduceMul, Int.reduceBEq, Int.reduceBNe, Blk.men, Blk.keysIn, hkd])
    | (exact retS_of rfl rfl rfl)
    | (refine DW.cond_tt rfl ?_)
    | (refine DW.cond_ff rfl ?_)
    | (refine DW.cond rfl ?_ ?_ <;> intro hc <;> (try simp only [go_sem] at hc))
    | (refine g_split ?_ ?_ <;> intro hc <;> (try simp only [hc]) <;> (try simp only [go_sem] at hc)))
      refine ⟨⟨i + 1, hil⟩, ?_, Ent.to ?_ ?_⟩ <;> first | (show _ < _; (try simp only); omega) | (simp (disch := omega) only [wkT_cons, wkX_cons, wkT_nil, wkX_nil, get, Nat.reduceEqDiff, ↓reduceIte, ex_some, wk_self, wk_top, wk_nil, wkB_self, and_self, dI, i64_in, and_true, true_and, Int.natCast_add, Int.natCast_one, Int.ofNat_zero, Int.natCast_zero,  bxP])
      all_goals exact .refl _
  · repeat' (first
    | (with_reducible refine DW.seq ?_)
    | (with_reducible refine DW.block ?_)
    | (with_reducible refine DW.skip ?_)
    | (with_reducible refine DW.exit ?_)
    | (with_reducible refine DW.ret ?_)
    | (with_reducible refine DW.reg ?_)
    | (refine DW.dreg rfl (WF.of (by first | rfl | simp (disch := omega) only [go_sem, Nat.reduceLT, Nat.reduceLeDiff, Nat.reduceAdd, Nat.reduceMul, Nat.reduceEqDiff, ↓reduceIte, reduceCtorEq, Nat.reduceBEq, Nat.reduceBNe, Nat.reducePow, Int.reduceLE, Int.reduceLT, Int.reduceNeg, Int.reduceToNat, Int.reduceEq, Int.reduceAdd, Int.reduceSub, Int.reduceMul, Int.reduceBEq, Int.reduceBNe, Blk.men, Blk.keysIn, hid])) ?_)
    | (refine DW.ord rfl (WF.of (by first | rfl | simp (disch := omega) only [go_sem, Nat.reduceLT, Nat.reduceLeDiff, Nat.reduceAdd, Nat.reduceMul, Nat.reduceEqDiff, ↓reduceIte, reduceCtorEq, Nat.reduceBEq, Nat.reduceBNe, Nat.reducePow, Int.reduceLE, Int.reduceLT, Int.reduceNeg, Int.reduceToNat, Int.reduceEq, Int.reduceAdd, Int.reduceSub, Int.reduceMul, Int.reduceBEq, Int.reduceBNe, Blk.men, Blk.keysIn, hid])) ?_ ?_ ?_; rotate_left)
    | rfl
    | (with_reducible refine And.intro ?_ ?_)
    | (simp (disch := omega) only [go_sem, Nat.reduceLT, Nat.reduceLeDiff, Nat.reduceAdd, Nat.reduceMul, Nat.reduceEqDiff, ↓reduceIte, reduceCtorEq, Nat.reduceBEq, Nat.reduceBNe, Nat.reducePow, Int.reduceLE, Int.reduceLT, Int.reduceNeg, Int.reduceToNat, Int.reduceEq, Int.reduceAdd, Int.reduceSub, Int.reduceMul, Int.reduceBEq, Int.reduceBNe, Blk.men, Blk.keysIn, hid])
    | (exact retS_of rfl rfl rfl)
    | (refine DW.cond_tt rfl ?_)
    | (refine call_c (c15) (by decide) ?_)
    | (refine DW.cond_ff rfl ?_)
    | (refine DW.cond rfl ?_ ?_ <;> intro hc <;> (try simp only [go_sem] at hc))
    | (refine g_split ?_ ?_ <;> intro hc <;> (try simp only [hc]) <;> (try simp only [go_sem] at hc)))
end Go.Dw.Seat
end
section
set_option linter.unusedSimpArgs false
set_option maxRecDepth 100000
namespace Go.Dw.Seat
open Go Go.Dw Go.Proofs Go.ChangeShapes Go.WideShapes Go.ChangeAt Go.RowKit
theorem u107 : Try.prog.underlying 107 = some (.slice 91) := by kernel_rfl
section
variable {H : Type} {enc : TypeId × Value → H} {w : World} {base : Nat} {spare : Nat → Bool} {held : Bool} {fuel : Nat} {cs : List Value} {x : DataW H × List MemPlace}
theorem rd_33 (h : DataW.trod enc Try.prog w base spare held fuel 91 cs = some x) : ∃ v : {v : B6 // v.ok}, RepVs w A0 (eW v.1) cs := by
  obtain ⟨hl, m, hf⟩ := rd_array u91 h
  rw [cells91] at hl
  obtain ⟨y0, h0⟩ := hf 0 (by decide)
  obtain ⟨y1, h1⟩ := hf 1 (by decide)
  rw [cells90] at h0 h1
  match cs, hl with
  | [a, b, c, d, e, f], _ =>
    obtain ⟨v, e0⟩ := rd_B3 h0
    obtain ⟨v', e1⟩ := rd_B3 h1
    simp at e0 e1
    obtain ⟨rfl, rfl, rfl⟩ := e0
    obtain ⟨rfl, rfl, rfl⟩ := e1
    exact ⟨⟨⟨v.1.v0, v.1.v1, v.1.v2, v'.1.v0, v'.1.v1, v'.1.v2⟩, ⟨v.2.v0, v.2.v1, v.2.v2, v'.2.v0, v'.2.v1, v'.2.v2⟩⟩, _, _, rfl, ⟨rfl, rfl⟩, _, _, rfl, ⟨rfl, rfl⟩, _, _, rfl, ⟨rfl, rfl⟩, _, _, rfl, ⟨rfl, rfl⟩, _, _, rfl, ⟨rfl, rfl⟩, _, _, rfl, ⟨rfl, rfl⟩, rfl⟩
theorem rd_33s (h : DataW.trod enc Try.prog w base spare held fuel 107 cs = some x) : ∃ (l : List B6) (v : Value), cs = [v] ∧ RepC w A0 (.sl false 6 (rows eW l)) v ∧ l.length ≤ maxLen ∧ ∀ v ∈ l, v.ok := by
  obtain ⟨l, v, e, hr, hm, _⟩ := rd_slice (f := fun v : {v : B6 // v.ok} => eW v.1) u107 cells91 (by decide) (fun _ => rfl) (fun _ _ _ h => rd_33 h) h
  refine ⟨l.map (·.1), v, e, ?_, by simpa using hm, fun u hu => ?_⟩
  · have : rows eW (l.map (·.1)) = rows (fun v : {v : B6 // v.ok} => eW v.1) l := by simp [rows, Function.comp_def]
    rw [this]; exact hr
  · obtain ⟨a, _, rfl⟩ := List.mem_map.1 hu
    exact a.2
end
theorem groupedLifted (os : Os) (started : os.Started) (H : Type) (enc : TypeId × Value → H) :
    ReturnsInHanded {} Try.checked os 10 .any (Ytecgononbfgigaa.Rows.glueGroupedSpec.pre6 enc Try.prog Try.f10 Ytecgononbfgigaa.Rows.glueGroupedRow.domain false) (Ytecgononbfgigaa.Rows.glueGroupedSpec.post enc Try.prog Try.f10 false true false false) := by
  refine returnsInHanded_of_change (C := Try.checked) tOwn started (by kernel_rfl) Try.func10
    (ChangeSpec.witness6 (enc := enc) (C := Try.checked) false ⟨#[], #[.agg #[.int .u8 0, .slice none 0 0, .int .u8 0, .int .u8 0, .int .u8 0, .int .u8 0, .int .u8 0, .int .u8 0, .int .u8 0, .int .u8 0, .int .u8 0, .int .u8 0], .slice none 0 0, .int .u8 0], []⟩ 8 (by kernel_rfl) (by kernel_rfl) (by kernel_rfl) (by kernel_rfl)) ?_
  intro W base args ds gs before hval0 hW _ _
  have hval : ∀ (j : Nat) t v, Try.f10.params[j]? = some t → args[j]? = some v → Value.okWide Try.prog W .any base t v := hval0
  have hW' : DataW.Whole enc Try.prog Try.f10.params.toList [] false W args.toList ds gs before := hW
  obtain ⟨p, q, hA, hV, rfl, hfz, hnd⟩ := hW
  have hA : DataW.TrodAll enc Try.prog W 0 (fun _ => true) true [93, 107, 5] args.toList ds p := hA
  obtain ⟨rfl, rfl⟩ := trodVars_none hV
  obtain ⟨v0, vs0, d0, ds0, p0, q0, hargs, rfl, rfl, h0, r0⟩ := trodAll_cons hA
  obtain ⟨v1, vs1, d1, ds1, p1, q1, rfl, rfl, rfl, h1, r1⟩ := trodAll_cons r0
  obtain ⟨v2, vs2, d2, ds2, p2, q2, rfl, rfl, rfl, h2, r2⟩ := trodAll_cons r1
  obtain ⟨rfl, rfl, rfl⟩ := trodAll_nil r2
  obtain rfl : args = #[v0, v1, v2] := by cases args; simp_all
  obtain ⟨f93, hu93, _⟩ := structIs_spec st93
  obtain ⟨c0, rfl, _⟩ := okWide_struct hu93 (hval 0 93 v0 rfl rfl)
  obtain ⟨a1, l1, k1, rfl⟩ := okWide_slice u107 (hval 1 107 v1 rfl rfl)
  obtain ⟨n2, rfl⟩ := okWide_int und5 (hval 2 5 v2 rfl rfl)
  obtain ⟨fu0, h0⟩ := h0
  obtain ⟨fu1, h1⟩ := h1
  obtain ⟨fu2, h2⟩ := h2
  obtain ⟨ln, hlo, hln⟩ := rd_Line h0
  have hln : RepVs W A0 [.v (.int .u8 ln.steps), .sl false 1 (rows eU ln.noz), .v (.int .u8 ln.f0), .v (.int .u8 ln.f1), .v (.int .u8 ln.f2), .v (.int .u8 ln.a0), .v (.int .u8 ln.a1), .v (.int .u8 ln.a2), .v (.int .u8 ln.b0), .v (.int .u8 ln.b1), .v (.int .u8 ln.b2), .v (.int .u8 ln.many)] c0.toList := by simpa [Value.cells] using hln
  obtain ⟨bs, bv, e1, hbs, hbl, hbo⟩ := rd_33s h1
  have e1 : bv = Value.slice a1 l1 k1 := by simpa [Value.cells] using e1.symm
  subst e1
  obtain ⟨b2, e2, hb2⟩ := rd_U8 h2
  have e2 : n2 = b2 := by simpa [Value.cells] using e2
  subst e2
  refine ((c10 false false ln bs b2 hlo hbo hb2).calls (W := W) (vs := [.agg c0, .slice a1 l1 k1, .int .u8 b2]) (fun G => ?_)).mono ?_
  · exact ⟨_, _, rfl, ⟨c0, rfl, RepDs.ofVs hln⟩, _, _, rfl, hbs, _, _, rfl, ⟨rfl, rfl⟩, rfl⟩
  · rintro e W' ⟨v, rfl, ⟨G', A', hr⟩, hb⟩
    obtain ⟨rfl, _⟩ := hr
    exact ⟨_, rfl, post_true tLaid (by decide +kernel) hW' hb rfl rfl u4 rfl rfl rfl⟩
theorem groupedHolds : Ytecgononbfgigaa.Rows.glueGroupedRow.holds Ytecgononbfgigaa.Try.pinned (OpenSpec.ofChange Ytecgononbfgigaa.Rows.glueGroupedSpec) :=
  OpenClaim.holds_of_wide 10 Try.f10 rfl rfl rfl rfl rfl rfl rfl ⟨rfl, rfl, rfl, rfl, rfl⟩ rfl rfl rfl rfl rfl (by kernel_rfl) Try.func10 (by kernel_rfl)
    (of_decide_eq_true (by kernel_rfl)) (by unfold Func.isWrapper; first | (rw [if_pos (by decide +kernel)]; kernel_rfl) | (rw [if_neg (by decide +kernel)]; exact ⟨rfl, rfl⟩))
    (fun os started H enc _ => groupedLifted os started H enc)
end Go.Dw.Seat
namespace Go.Proofs.Ytecgononbfgigaa
theorem groupedSaid : Rows.GlueGroupedSaid := Go.Dw.Seat.groupedHolds
end Go.Proofs.Ytecgononbfgigaa
end
