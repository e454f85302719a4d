/- The law GluePressed returns true for every rule and all rooms in bytes, and however long boxes are pressed, and changes nothing that was there before: the full statement GluePressedSaid, without conditions.
   The walk of each function is in the texts before; that the times of a room are those at its corners is a plain law. -/
import Derived.Test.YtecgononbfgigaaR02
import Derived.Test.YtecgononbfgigaaRows
import Derived.ProofKit
import Derived.OpenShut
set_option linter.unusedVariables false
set_option linter.unusedSimpArgs false
section
set_option linter.unusedSimpArgs false
set_option maxRecDepth 100000
namespace Go.Dw.Seat
open Go Go.Dw Go.Proofs Go.IntWalk
theorem c36b (p q p' q' : Bool) (a b : List (List Int)) (ha : a.length ≤ 2 ^ 36) (hb : b.length ≤ 2 ^ 36) (ha' : ∀ x ∈ a, x.length ≤ 2 ^ 36) (hb' : ∀ x ∈ b, x.length ≤ 2 ^ 36) : DCall Try.prog 36 [.c (.sl p 1 (rows (eGb p') a)), .c (.sl q 1 (rows (eGb q') b))] [] (bD (decide (a = b))) [] := by
  refine DCall.of Try.func36 sf36 hb36 (Nat.le_of_ble_eq_true rfl) (okRes_nil fun _ => rfl) ?_; simp only [s36, idxs, Nat.reduceAdd]
  repeat' (first
    | (with_reducible refine DW.seq ?_)
    | (with_reducible refine DW.block ?_)
    | (with_reducible refine DW.skip ?_)
    | (with_reducible refine DW.exit ?_)
    | (with_reducible refine DW.ret ?_)
    | (with_reducible refine DW.reg ?_)
    | (refine DW.dreg rfl (WF.of (by first | rfl | simp (disch := omega) only [go_sem, Nat.reduceLT, Nat.reduceLeDiff, Nat.reduceAdd, Nat.reduceMul, Nat.reduceEqDiff, ↓reduceIte, reduceCtorEq, Nat.reduceBEq, Nat.reduceBNe, Nat.reducePow, Int.reduceLE, Int.reduceLT, Int.reduceNeg, Int.reduceToNat, Int.reduceEq, Int.reduceAdd, Int.reduceSub, Int.reduceMul, Int.reduceBEq, Int.reduceBNe, Blk.men, Blk.keysIn])) ?_)
    | (simp (disch := omega) only [go_sem, Nat.reduceLT, Nat.reduceLeDiff, Nat.reduceAdd, Nat.reduceMul, Nat.reduceEqDiff, ↓reduceIte, reduceCtorEq, Nat.reduceBEq, Nat.reduceBNe, Nat.reducePow, Int.reduceLE, Int.reduceLT, Int.reduceNeg, Int.reduceToNat, Int.reduceEq, Int.reduceAdd, Int.reduceSub, Int.reduceMul, Int.reduceBEq, Int.reduceBNe, Blk.men, Blk.keysIn])
    | (exact retS_of rfl rfl rfl)
    | (refine DW.cond_tt rfl ?_)
    | (refine DW.cond_ff rfl ?_)
    | (refine DW.cond rfl ?_ ?_ <;> intro hc <;> (try simp only [go_sem] at hc))
    | (refine g_split ?_ ?_ <;> intro hc <;> (try simp only [hc]) <;> (try simp only [go_sem] at hc)))
  · refine retS_of rfl ?_ rfl; simp only [oneD, St.op, get, Nat.reduceEqDiff, ↓reduceIte, Option.getD_some, bD, dI]
    have : a ≠ b := by rintro rfl; simp_all
    simp only [this, decide_false]
  refine DW.loop (ι := { i : Nat // i ≤ a.length ∧ ∀ j, j < i → a[j]? = b[j]? }) (fun i => ⟨27, [(5, dI i.1), (1, .c (.sl q 1 (rows (eGb q') b))), (0, .c (.sl p 1 (rows (eGb p') a)))], []⟩) (fun i => a.length - i.1) ⟨0, Nat.zero_le _, fun j h => by omega⟩ ?_ ?_
  · refine Ent.to ?_ ?_ <;> simp (disch := omega) only [wkT_cons, wkX_cons, wkT_nil, wkX_nil, get, Nat.reduceEqDiff, ↓reduceIte, ex_some, wk_self, wk_top, wk_nil, wkB_self, and_self, dI, i64_in, and_true, true_and, Int.natCast_add, Int.natCast_one, Int.ofNat_zero, Int.natCast_zero]
  rintro ⟨i, hi, hij⟩
  rcases at_or a i hi with ⟨v, hv, hlt, hd⟩ | ⟨he, hd⟩
  · obtain ⟨u, hu⟩ : ∃ u, b[i]? = some u := getE (by omega)
    repeat' (first
    | (with_reducible refine DW.seq ?_)
    | (with_reducible refine DW.block ?_)
    | (with_reducible refine DW.skip ?_)
    | (with_reducible refine DW.exit ?_)
    | (with_reducible refine DW.ret ?_)
    | (with_reducible refine DW.reg ?_)
    | (refine DW.dreg rfl (WF.of (by first | rfl | simp (disch := omega) only [go_sem, Nat.reduceLT, Nat.reduceLeDiff, Nat.reduceAdd, Nat.reduceMul, Nat.reduceEqDiff, ↓reduceIte, reduceCtorEq, Nat.reduceBEq, Nat.reduceBNe, Nat.reducePow, Int.reduceLE, Int.reduceLT, Int.reduceNeg, Int.reduceToNat, Int.reduceEq, Int.reduceAdd, Int.reduceSub, Int.reduceMul, Int.reduceBEq, Int.reduceBNe, Blk.men, Blk.keysIn, hd, hv, hu])) ?_)
    | (simp (disch := omega) only [go_sem, Nat.reduceLT, Nat.reduceLeDiff, Nat.reduceAdd, Nat.reduceMul, Nat.reduceEqDiff, ↓reduceIte, reduceCtorEq, Nat.reduceBEq, Nat.reduceBNe, Nat.reducePow, Int.reduceLE, Int.reduceLT, Int.reduceNeg, Int.reduceToNat, Int.reduceEq, Int.reduceAdd, Int.reduceSub, Int.reduceMul, Int.reduceBEq, Int.reduceBNe, Blk.men, Blk.keysIn, hd, hv, hu])
    | (exact retS_of rfl rfl rfl)
    | (refine DW.cond_tt rfl ?_)
    | (refine DW.cond_ff rfl ?_)
    | (refine DW.cond rfl ?_ ?_ <;> intro hc <;> (try simp only [go_sem] at hc))
    | (refine g_split ?_ ?_ <;> intro hc <;> (try simp only [hc]) <;> (try simp only [go_sem] at hc)))
    (refine call_c (c21 p' q' v u (ha' v (List.mem_of_getElem? hv)) (hb' u (List.mem_of_getElem? hu))) (by decide) ?_; simp (disch := omega) only [go_sem, Nat.reduceLT, Nat.reduceLeDiff, Nat.reduceAdd, Nat.reduceMul, Nat.reduceEqDiff, ↓reduceIte, reduceCtorEq, Nat.reduceBEq, Nat.reduceBNe, Nat.reducePow, Int.reduceLE, Int.reduceLT, Int.reduceNeg, Int.reduceToNat, Int.reduceEq, Int.reduceAdd, Int.reduceSub, Int.reduceMul, Int.reduceBEq, Int.reduceBNe, Blk.men, Blk.keysIn])
    repeat' (first
    | (with_reducible refine DW.seq ?_)
    | (with_reducible refine DW.block ?_)
    | (with_reducible refine DW.skip ?_)
    | (with_reducible refine DW.exit ?_)
    | (with_reducible refine DW.ret ?_)
    | (with_reducible refine DW.reg ?_)
    | (refine DW.dreg rfl (WF.of (by first | rfl | simp (disch := omega) only [go_sem, Nat.reduceLT, Nat.reduceLeDiff, Nat.reduceAdd, Nat.reduceMul, Nat.reduceEqDiff, ↓reduceIte, reduceCtorEq, Nat.reduceBEq, Nat.reduceBNe, Nat.reducePow, Int.reduceLE, Int.reduceLT, Int.reduceNeg, Int.reduceToNat, Int.reduceEq, Int.reduceAdd, Int.reduceSub, Int.reduceMul, Int.reduceBEq, Int.reduceBNe, Blk.men, Blk.keysIn])) ?_)
    | (simp (disch := omega) only [go_sem, Nat.reduceLT, Nat.reduceLeDiff, Nat.reduceAdd, Nat.reduceMul, Nat.reduceEqDiff, ↓reduceIte, reduceCtorEq, Nat.reduceBEq, Nat.reduceBNe, Nat.reducePow, Int.reduceLE, Int.reduceLT, Int.reduceNeg, Int.reduceToNat, Int.reduceEq, Int.reduceAdd, Int.reduceSub, Int.reduceMul, Int.reduceBEq, Int.reduceBNe, Blk.men, Blk.keysIn])
    | (exact retS_of rfl rfl rfl)
    | (refine DW.cond_tt rfl ?_)
    | (refine DW.cond_ff rfl ?_)
    | (refine DW.cond rfl ?_ ?_ <;> intro hc <;> (try simp only [go_sem] at hc))
    | (refine g_split ?_ ?_ <;> intro hc <;> (try simp only [hc]) <;> (try simp only [go_sem] at hc)))
    · refine retS_of rfl ?_ rfl; simp only [oneD, St.op, get, Nat.reduceEqDiff, ↓reduceIte, Option.getD_some, bD, dI]
      have : a ≠ b := by rintro rfl; simp_all
      simp only [this, decide_false]
    · refine ⟨⟨i + 1, by omega, upto1 hij (by rw [hv, hu]; congr 1)⟩, ?_, Ent.to ?_ ?_⟩ <;> first | (show _ < _; (try simp only); omega) | (simp (disch := omega) only [wkT_cons, wkX_cons, wkT_nil, wkX_nil, get, Nat.reduceEqDiff, ↓reduceIte, ex_some, wk_self, wk_top, wk_nil, wkB_self, and_self, dI, i64_in, and_true, true_and, Int.natCast_add, Int.natCast_one, Int.ofNat_zero, Int.natCast_zero])
  · repeat' (first
    | (with_reducible refine DW.seq ?_)
    | (with_reducible refine DW.block ?_)
    | (with_reducible refine DW.skip ?_)
    | (with_reducible refine DW.exit ?_)
    | (with_reducible refine DW.ret ?_)
    | (with_reducible refine DW.reg ?_)
    | (refine DW.dreg rfl (WF.of (by first | rfl | simp (disch := omega) only [go_sem, Nat.reduceLT, Nat.reduceLeDiff, Nat.reduceAdd, Nat.reduceMul, Nat.reduceEqDiff, ↓reduceIte, reduceCtorEq, Nat.reduceBEq, Nat.reduceBNe, Nat.reducePow, Int.reduceLE, Int.reduceLT, Int.reduceNeg, Int.reduceToNat, Int.reduceEq, Int.reduceAdd, Int.reduceSub, Int.reduceMul, Int.reduceBEq, Int.reduceBNe, Blk.men, Blk.keysIn, hd])) ?_)
    | (simp (disch := omega) only [go_sem, Nat.reduceLT, Nat.reduceLeDiff, Nat.reduceAdd, Nat.reduceMul, Nat.reduceEqDiff, ↓reduceIte, reduceCtorEq, Nat.reduceBEq, Nat.reduceBNe, Nat.reducePow, Int.reduceLE, Int.reduceLT, Int.reduceNeg, Int.reduceToNat, Int.reduceEq, Int.reduceAdd, Int.reduceSub, Int.reduceMul, Int.reduceBEq, Int.reduceBNe, Blk.men, Blk.keysIn, hd])
    | (exact retS_of rfl rfl rfl)
    | (refine DW.cond_tt rfl ?_)
    | (refine DW.cond_ff rfl ?_)
    | (refine DW.cond rfl ?_ ?_ <;> intro hc <;> (try simp only [go_sem] at hc))
    | (refine g_split ?_ ?_ <;> intro hc <;> (try simp only [hc]) <;> (try simp only [go_sem] at hc)))
    refine retS_of rfl ?_ rfl; simp only [oneD, St.op, get, Nat.reduceEqDiff, ↓reduceIte, Option.getD_some, bD, dI]
    have : a = b := ext_upto (by omega) (he ▸ hij)
    simp only [this, decide_true]
theorem k1 : boxOut ⟨6, [14, 18]⟩ [⟨0, 2, 0⟩, ⟨1, 2, 5⟩] 5 = [30, 54] ∧ boxErr ⟨6, [14, 18]⟩ [⟨0, 2, 0⟩, ⟨1, 2, 5⟩] 5 = 0 := ⟨by kernel_rfl, by kernel_rfl⟩
theorem k2 : boxOut ⟨6, [14, 18]⟩ [⟨0, 1, 3⟩, ⟨1, 3, 0⟩] 2 = [14, 0] ∧ boxErr ⟨6, [14, 18]⟩ [⟨0, 1, 3⟩, ⟨1, 3, 0⟩] 2 = 0 := ⟨by kernel_rfl, by kernel_rfl⟩
theorem k3 : (exOut ⟨6, [14, 18]⟩ [0] []).length = 25 ∧ exErr ⟨6, [14, 18]⟩ [0] [] = 0 := ⟨by kernel_rfl, by kernel_rfl⟩
theorem k4 : (exOut ⟨6, [14, 18]⟩ [0] [⟨0, 0, 1, false⟩]).length = 10 ∧ exErr ⟨6, [14, 18]⟩ [0] [⟨0, 0, 1, false⟩] = 0 ∧ (exOut ⟨6, [14, 18]⟩ [0] [⟨0, 0, 1, false⟩]).headD [] = [⟨0, 1, 0⟩] := ⟨by kernel_rfl, by kernel_rfl, by kernel_rfl⟩
theorem k5 : sureOut ⟨6, [14, 18]⟩ [0] [⟨0, 0, 1, false⟩] = [0] := by kernel_rfl
theorem k6 : nxAt ⟨6, [14, 18]⟩ [0] [⟨0, 0, 1, false⟩] 1 = ⟨0, 0, 2, false⟩ ∧ nxMost ⟨6, [14, 18]⟩ [0] [⟨0, 0, 1, false⟩] 1 = 5 ∧ nxErr ⟨6, [14, 18]⟩ [0] [⟨0, 0, 1, false⟩] 1 = 0 := ⟨by kernel_rfl, by kernel_rfl, by kernel_rfl⟩
theorem k7 : pressErr ⟨60, 10, 5⟩ ⟨0, 10, 20, 40⟩ = 0 ∧ pressLo ⟨60, 10, 5⟩ ⟨0, 10, 20, 40⟩ = 60 ∧ pressHi ⟨60, 10, 5⟩ ⟨0, 10, 20, 40⟩ = 72 := ⟨by kernel_rfl, by kernel_rfl, by kernel_rfl⟩
def kRooms : List Room := [⟨0, 10, 20, 40⟩, ⟨0, 10, 20, 40⟩, ⟨0, 10, 20, 40⟩, ⟨0, 10, 20, 40⟩]
theorem k8 : opOut (pressLo ⟨60, 10, 5⟩) ⟨60, 10, 5⟩ kRooms [59, 60, 71, 72] = [0] ∧ opOut (pressHi ⟨60, 10, 5⟩) ⟨60, 10, 5⟩ kRooms [59, 60, 71, 72] = [0, 1, 2] ∧ opErr ⟨60, 10, 5⟩ kRooms [59, 60, 71, 72] = 0 := ⟨by kernel_rfl, by kernel_rfl, by kernel_rfl⟩
theorem k9 : alOut ⟨6, [14, 18]⟩ [[], [⟨0, 4, 0⟩], [⟨0, 4, 2⟩]] 1 = [[0, 1, 2]] ∧ alErr ⟨6, [14, 18]⟩ [[], [⟨0, 4, 0⟩], [⟨0, 4, 2⟩]] 1 = 0 := ⟨by kernel_rfl, by kernel_rfl⟩
theorem k10 : apAt ⟨6, [14, 18]⟩ [⟨0, 4, 0⟩] [] 2 = ⟨1, 0, 1, false⟩ ∧ apErr ⟨6, [14, 18]⟩ [⟨0, 4, 0⟩] [] 2 = 0 := ⟨by kernel_rfl, by kernel_rfl⟩
end Go.Dw.Seat
end
section
set_option linter.unusedSimpArgs false
set_option maxRecDepth 100000
namespace Go.Dw.Seat
open Go Go.Dw Go.Proofs Go.IntWalk
set_option maxHeartbeats 4000000 in
theorem c15 : DCall Try.prog 15 [] [] (bD true) [] := by
  have h55a := c55 true ⟨6, [14, 18]⟩ [⟨0, 2, 0⟩, ⟨1, 2, 5⟩] 5 (by decide) (by decide)
  rw [k1.1, k1.2] at h55a
  have h55b := c55 true ⟨6, [14, 18]⟩ [⟨0, 1, 3⟩, ⟨1, 3, 0⟩] 2 (by decide) (by decide)
  rw [k2.1, k2.2] at h55b
  have h18a := (c18 true true ⟨6, [14, 18]⟩ [0] [] (by decide) (by decide) (by decide)).weakA (l := [dP false ⟨6, [14, 18]⟩, dIs true [0], .c (.v (.slice none 0 0))])
    (.cons (.inl rfl) (.cons (.inl rfl) (.cons (.inr ⟨_, _, rfl, rfl, .nil true 4⟩) .nil)))
  rw [k3.1, k3.2] at h18a
  have h18b := c18 true true ⟨6, [14, 18]⟩ [0] [⟨0, 0, 1, false⟩] (by decide) (by decide) (by decide)
  rw [k4.1, k4.2.1, k4.2.2] at h18b
  have h19 := c19 true true ⟨6, [14, 18]⟩ [0] [⟨0, 0, 1, false⟩] (by decide) (by decide) (by decide)
  rw [k5, k4.2.1] at h19
  have h26 := c26 true true ⟨6, [14, 18]⟩ [0] [⟨0, 0, 1, false⟩] 1 (by decide) (by decide) (by decide)
  rw [k6.1, k6.2.1, k6.2.2] at h26
  have h41 := c41 ⟨60, 10, 5⟩ ⟨0, 10, 20, 40⟩
  simp only [k7.1, k7.2.1, k7.2.2, if_true] at h41
  have h39 := c39 true true ⟨60, 10, 5⟩ kRooms [59, 60, 71, 72] (by decide) (by decide)
  rw [k8.1, k8.2.1, k8.2.2] at h39
  have h35 := (c35 true true ⟨6, [14, 18]⟩ [[], [⟨0, 4, 0⟩], [⟨0, 4, 2⟩]] 1 (by decide) (by decide) (by decide)).weakA (l := [dP false ⟨6, [14, 18]⟩, .c (.sl true 1 [[.v (.slice none 0 0)], [.sl true 3 (rows eC [⟨0, 4, 0⟩])], [.sl true 3 (rows eC [⟨0, 4, 2⟩])]]), dI 1])
    (.cons (.inl rfl) (.cons (.inr ⟨_, _, rfl, rfl, .sl (.cons (.cons (.nil true 3) .nil) (.cons (.cons (.refl _) .nil) (.cons (.cons (.refl _) .nil) .nil)))⟩) (.cons (.inl rfl) .nil)))
  rw [k9.1, k9.2] at h35
  have h30 := (c30 ⟨6, [14, 18]⟩ [⟨0, 4, 0⟩] [] 2 (by decide) (by decide) (by decide)).weakA (l := [dP false ⟨6, [14, 18]⟩, dCs false [⟨0, 4, 0⟩], .c (.v (.slice none 0 0)), dI 2])
    (.cons (.inl rfl) (.cons (.inl rfl) (.cons (.inr ⟨_, _, rfl, rfl, .nil false 3⟩) (.cons (.inl rfl) .nil))))
  rw [k10.1, k10.2] at h30
  have e1 := c21 false true (nL [30, 54]) [30, 54] (by decide) (by decide)
  rw [show decide (nL [30, 54] = [30, 54]) = true from by decide] at e1
  have e2 := c21 false true (nL [14, 0]) [14, 0] (by decide) (by decide)
  rw [show decide (nL [14, 0] = [14, 0]) = true from by decide] at e2
  have e3 := c24 false true [⟨0, 1, 0⟩] [⟨0, 1, 0⟩] (by decide) (by decide)
  rw [show decide (([⟨0, 1, 0⟩] : List Cause) = [⟨0, 1, 0⟩]) = true from by decide] at e3
  have e4 := c21 false true (nL [0]) [0] (by decide) (by decide)
  rw [show decide (nL [0] = [0]) = true from by decide] at e4
  have e5 := c21 false true (nL [0, 1, 2]) [0, 1, 2] (by decide) (by decide)
  rw [show decide (nL [0, 1, 2] = [0, 1, 2]) = true from by decide] at e5
  have e6 := c36b false true false true [[0, 1, 2]] [[0, 1, 2]] (by decide) (by decide) (by decide) (by decide)
  rw [show decide (([[0, 1, 2]] : List (List Int)) = [[0, 1, 2]]) = true from by decide] at e6
  refine DCall.of Try.func15 sf15 hb15 (Nat.le_of_ble_eq_true rfl) (okRes_nil fun _ => rfl) ?_; simp only [s15, idxs, Nat.reduceAdd]
  repeat' (first
    | (with_reducible refine DW.seq ?_)
    | (with_reducible refine DW.block ?_)
    | (with_reducible refine DW.skip ?_)
    | (with_reducible refine DW.exit ?_)
    | (with_reducible refine DW.ret ?_)
    | (with_reducible refine DW.reg ?_)
    | (refine DW.dreg rfl (WF.of (by first | rfl | simp (disch := omega) only [go_sem, Nat.reduceLT, Nat.reduceLeDiff, Nat.reduceAdd, Nat.reduceMul, Nat.reduceEqDiff, ↓reduceIte, reduceCtorEq, Nat.reduceBEq, Nat.reduceBNe, Nat.reducePow, Int.reduceLE, Int.reduceLT, Int.reduceNeg, Int.reduceToNat, Int.reduceEq, Int.reduceAdd, Int.reduceSub, Int.reduceMul, Int.reduceBEq, Int.reduceBNe, Blk.men, Blk.keysIn])) ?_)
    | (simp (disch := omega) only [go_sem, Nat.reduceLT, Nat.reduceLeDiff, Nat.reduceAdd, Nat.reduceMul, Nat.reduceEqDiff, ↓reduceIte, reduceCtorEq, Nat.reduceBEq, Nat.reduceBNe, Nat.reducePow, Int.reduceLE, Int.reduceLT, Int.reduceNeg, Int.reduceToNat, Int.reduceEq, Int.reduceAdd, Int.reduceSub, Int.reduceMul, Int.reduceBEq, Int.reduceBNe, Blk.men, Blk.keysIn])
    | (exact retS_of rfl rfl rfl)
    | (refine DW.cond_tt rfl ?_)
    | (refine call_c (c54 _ _ _ _) (by decide) ?_)
    | (refine call_c (c62) (by decide) ?_)
    | (refine call_c (c63 _ _ _) (by decide) ?_)
    | (refine call_c (c64) (by decide) ?_)
    | (refine call_c (h55a) (by decide) ?_)
    | (refine call_c (h55b) (by decide) ?_)
    | (refine call_c (h18a) (by decide) ?_)
    | (refine call_c (h18b) (by decide) ?_)
    | (refine call_c (h19) (by decide) ?_)
    | (refine call_c (h26) (by decide) ?_)
    | (refine call_c (h41) (by decide) ?_)
    | (refine call_c (h39) (by decide) ?_)
    | (refine call_c (e1) (by decide) ?_)
    | (refine call_c (e2) (by decide) ?_)
    | (refine call_c (e3) (by decide) ?_)
    | (refine call_c (e4) (by decide) ?_)
    | (refine call_c (e5) (by decide) ?_)
    | (refine DW.cond_ff rfl ?_)
    | (refine DW.cond rfl ?_ ?_ <;> intro hc <;> (try simp only [go_sem] at hc))
    | (refine g_split ?_ ?_ <;> intro hc <;> (try simp only [hc]) <;> (try simp only [go_sem] at hc)))
  refine call_n h35 rfl ?_ (by decide) ?_
  · simp (disch := omega) only [go_sem, Nat.reduceLT, Nat.reduceLeDiff, Nat.reduceAdd, Nat.reduceMul, Nat.reduceEqDiff, ↓reduceIte, reduceCtorEq, Nat.reduceBEq, Nat.reduceBNe, Nat.reducePow, Int.reduceLE, Int.reduceLT, Int.reduceNeg, Int.reduceToNat, Int.reduceEq, Int.reduceAdd, Int.reduceSub, Int.reduceMul, Int.reduceBEq, Int.reduceBNe, Blk.men, Blk.keysIn, closeE1, closeCs1, closeC1, closedEs, closedCs, rows]
  simp (disch := omega) only [go_sem, Nat.reduceLT, Nat.reduceLeDiff, Nat.reduceAdd, Nat.reduceMul, Nat.reduceEqDiff, ↓reduceIte, reduceCtorEq, Nat.reduceBEq, Nat.reduceBNe, Nat.reducePow, Int.reduceLE, Int.reduceLT, Int.reduceNeg, Int.reduceToNat, Int.reduceEq, Int.reduceAdd, Int.reduceSub, Int.reduceMul, Int.reduceBEq, Int.reduceBNe, Blk.men, Blk.keysIn]
  repeat' (first
    | (with_reducible refine DW.seq ?_)
    | (with_reducible refine DW.block ?_)
    | (with_reducible refine DW.skip ?_)
    | (with_reducible refine DW.exit ?_)
    | (with_reducible refine DW.ret ?_)
    | (with_reducible refine DW.reg ?_)
    | (refine DW.dreg rfl (WF.of (by first | rfl | simp (disch := omega) only [go_sem, Nat.reduceLT, Nat.reduceLeDiff, Nat.reduceAdd, Nat.reduceMul, Nat.reduceEqDiff, ↓reduceIte, reduceCtorEq, Nat.reduceBEq, Nat.reduceBNe, Nat.reducePow, Int.reduceLE, Int.reduceLT, Int.reduceNeg, Int.reduceToNat, Int.reduceEq, Int.reduceAdd, Int.reduceSub, Int.reduceMul, Int.reduceBEq, Int.reduceBNe, Blk.men, Blk.keysIn])) ?_)
    | (simp (disch := omega) only [go_sem, Nat.reduceLT, Nat.reduceLeDiff, Nat.reduceAdd, Nat.reduceMul, Nat.reduceEqDiff, ↓reduceIte, reduceCtorEq, Nat.reduceBEq, Nat.reduceBNe, Nat.reducePow, Int.reduceLE, Int.reduceLT, Int.reduceNeg, Int.reduceToNat, Int.reduceEq, Int.reduceAdd, Int.reduceSub, Int.reduceMul, Int.reduceBEq, Int.reduceBNe, Blk.men, Blk.keysIn])
    | (exact retS_of rfl rfl rfl)
    | (refine DW.cond_tt rfl ?_)
    | (refine call_c (c54 _ _ _ _) (by decide) ?_)
    | (refine call_c (c62) (by decide) ?_)
    | (refine call_c (c63 _ _ _) (by decide) ?_)
    | (refine call_c (c64) (by decide) ?_)
    | (refine call_c (e1) (by decide) ?_)
    | (refine call_c (e2) (by decide) ?_)
    | (refine call_c (e3) (by decide) ?_)
    | (refine call_c (e4) (by decide) ?_)
    | (refine call_c (e5) (by decide) ?_)
    | (refine DW.cond_ff rfl ?_)
    | (refine DW.cond rfl ?_ ?_ <;> intro hc <;> (try simp only [go_sem] at hc))
    | (refine g_split ?_ ?_ <;> intro hc <;> (try simp only [hc]) <;> (try simp only [go_sem] at hc)))
  refine call_e (Ent.rel 105 rfl) h30 rfl rfl (by decide) ?_
  simp (disch := omega) only [go_sem, Nat.reduceLT, Nat.reduceLeDiff, Nat.reduceAdd, Nat.reduceMul, Nat.reduceEqDiff, ↓reduceIte, reduceCtorEq, Nat.reduceBEq, Nat.reduceBNe, Nat.reducePow, Int.reduceLE, Int.reduceLT, Int.reduceNeg, Int.reduceToNat, Int.reduceEq, Int.reduceAdd, Int.reduceSub, Int.reduceMul, Int.reduceBEq, Int.reduceBNe, Blk.men, Blk.keysIn]
  repeat' (first
    | (with_reducible refine DW.seq ?_)
    | (with_reducible refine DW.block ?_)
    | (with_reducible refine DW.skip ?_)
    | (with_reducible refine DW.exit ?_)
    | (with_reducible refine DW.ret ?_)
    | (with_reducible refine DW.reg ?_)
    | (refine DW.dreg rfl (WF.of (by first | rfl | simp (disch := omega) only [go_sem, Nat.reduceLT, Nat.reduceLeDiff, Nat.reduceAdd, Nat.reduceMul, Nat.reduceEqDiff, ↓reduceIte, reduceCtorEq, Nat.reduceBEq, Nat.reduceBNe, Nat.reducePow, Int.reduceLE, Int.reduceLT, Int.reduceNeg, Int.reduceToNat, Int.reduceEq, Int.reduceAdd, Int.reduceSub, Int.reduceMul, Int.reduceBEq, Int.reduceBNe, Blk.men, Blk.keysIn])) ?_)
    | (simp (disch := omega) only [go_sem, Nat.reduceLT, Nat.reduceLeDiff, Nat.reduceAdd, Nat.reduceMul, Nat.reduceEqDiff, ↓reduceIte, reduceCtorEq, Nat.reduceBEq, Nat.reduceBNe, Nat.reducePow, Int.reduceLE, Int.reduceLT, Int.reduceNeg, Int.reduceToNat, Int.reduceEq, Int.reduceAdd, Int.reduceSub, Int.reduceMul, Int.reduceBEq, Int.reduceBNe, Blk.men, Blk.keysIn])
    | (exact retS_of rfl rfl rfl)
    | (refine DW.cond_tt rfl ?_)
    | (refine call_c (c54 _ _ _ _) (by decide) ?_)
    | (refine call_c (c62) (by decide) ?_)
    | (refine call_c (c63 _ _ _) (by decide) ?_)
    | (refine call_c (c64) (by decide) ?_)
    | (refine call_c (e1) (by decide) ?_)
    | (refine call_c (e2) (by decide) ?_)
    | (refine call_c (e3) (by decide) ?_)
    | (refine call_c (e4) (by decide) ?_)
    | (refine call_c (e5) (by decide) ?_)
    | (refine DW.cond_ff rfl ?_)
    | (refine DW.cond rfl ?_ ?_ <;> intro hc <;> (try simp only [go_sem] at hc))
    | (refine g_split ?_ ?_ <;> intro hc <;> (try simp only [hc]) <;> (try simp only [go_sem] at hc)))
  refine call_n e6 rfl ?_ (by decide) ?_
  · simp (disch := omega) only [go_sem, Nat.reduceLT, Nat.reduceLeDiff, Nat.reduceAdd, Nat.reduceMul, Nat.reduceEqDiff, ↓reduceIte, reduceCtorEq, Nat.reduceBEq, Nat.reduceBNe, Nat.reducePow, Int.reduceLE, Int.reduceLT, Int.reduceNeg, Int.reduceToNat, Int.reduceEq, Int.reduceAdd, Int.reduceSub, Int.reduceMul, Int.reduceBEq, Int.reduceBNe, Blk.men, Blk.keysIn, closeE1, closeCs1, closeC1, closedEs, closedCs, rows]
  simp (disch := omega) only [go_sem, Nat.reduceLT, Nat.reduceLeDiff, Nat.reduceAdd, Nat.reduceMul, Nat.reduceEqDiff, ↓reduceIte, reduceCtorEq, Nat.reduceBEq, Nat.reduceBNe, Nat.reducePow, Int.reduceLE, Int.reduceLT, Int.reduceNeg, Int.reduceToNat, Int.reduceEq, Int.reduceAdd, Int.reduceSub, Int.reduceMul, Int.reduceBEq, Int.reduceBNe, Blk.men, Blk.keysIn]
  repeat' (first
    | (with_reducible refine DW.seq ?_)
    | (with_reducible refine DW.block ?_)
    | (with_reducible refine DW.skip ?_)
    | (with_reducible refine DW.exit ?_)
    | (with_reducible refine DW.ret ?_)
    | (with_reducible refine DW.reg ?_)
    | (refine DW.dreg rfl (WF.of (by first | rfl | simp (disch := omega) only [go_sem, Nat.reduceLT, Nat.reduceLeDiff, Nat.reduceAdd, Nat.reduceMul, Nat.reduceEqDiff, ↓reduceIte, reduceCtorEq, Nat.reduceBEq, Nat.reduceBNe, Nat.reducePow, Int.reduceLE, Int.reduceLT, Int.reduceNeg, Int.reduceToNat, Int.reduceEq, Int.reduceAdd, Int.reduceSub, Int.reduceMul, Int.reduceBEq, Int.reduceBNe, Blk.men, Blk.keysIn])) ?_)
    | (simp (disch := omega) only [go_sem, Nat.reduceLT, Nat.reduceLeDiff, Nat.reduceAdd, Nat.reduceMul, Nat.reduceEqDiff, ↓reduceIte, reduceCtorEq, Nat.reduceBEq, Nat.reduceBNe, Nat.reducePow, Int.reduceLE, Int.reduceLT, Int.reduceNeg, Int.reduceToNat, Int.reduceEq, Int.reduceAdd, Int.reduceSub, Int.reduceMul, Int.reduceBEq, Int.reduceBNe, Blk.men, Blk.keysIn])
    | (exact retS_of rfl rfl rfl)
    | (refine DW.cond_tt rfl ?_)
    | (refine call_c (c54 _ _ _ _) (by decide) ?_)
    | (refine DW.cond_ff rfl ?_)
    | (refine DW.cond rfl ?_ ?_ <;> intro hc <;> (try simp only [go_sem] at hc))
    | (refine g_split ?_ ?_ <;> intro hc <;> (try simp only [hc]) <;> (try simp only [go_sem] at hc)))
end Go.Dw.Seat
end
section
set_option linter.unusedSimpArgs false
set_option maxRecDepth 100000
namespace Go.Dw.Seat
open Go Go.Dw Go.Proofs Go.ChangeShapes Go.WideShapes Go.ChangeAt Go.RowKit
theorem tOwn : ownKnob Try.prog.godebug = none := by kernel_rfl
theorem tLaid : laidOutB Try.prog = true := by kernel_rfl
theorem u4 : Try.prog.underlying 4 = some .bool := by kernel_rfl
theorem u32 : Try.prog.underlying 32 = some (.slice 104) := by kernel_rfl
section
variable {H : Type} {enc : TypeId × Value → H} {w : World} {base : Nat} {spare : Nat → Bool} {held : Bool} {fuel : Nat} {cs : List Value} {x : DataW H × List MemPlace}
end
end Go.Dw.Seat
namespace Go.Proofs.Ytecgononbfgigaa
end Go.Proofs.Ytecgononbfgigaa
end
section
set_option linter.unusedSimpArgs false
set_option maxRecDepth 100000
namespace Go.Dw.Seat
open Go Go.Dw Go.Proofs Go.IntWalk
theorem und5 : Try.prog.underlying 5 = some (.int .u8) := by kernel_rfl
theorem und116 : Try.prog.underlying 116 = some (.int .u16) := by kernel_rfl
attribute [go_sem] und5 und116
structure Line where
  steps : Nat
  noz : List Nat
  f0 : Nat
  f1 : Nat
  f2 : Nat
  a0 : Nat
  a1 : Nat
  a2 : Nat
  b0 : Nat
  b1 : Nat
  b2 : Nat
  many : Nat
def eU (v : Nat) : List C := [.v (.int .u16 v)]
abbrev d8 (n : Nat) : D := .c (.v (.int .u8 n))
abbrev dL (b : Bool) (x : Line) : D := .agg [d8 x.steps, .c (.sl b 1 (rows eU x.noz)), d8 x.f0, d8 x.f1, d8 x.f2, d8 x.a0, d8 x.a1, d8 x.a2, d8 x.b0, d8 x.b1, d8 x.b2, d8 x.many]
attribute [go_sem] d8 dL eU
structure Line.ok (x : Line) : Prop where
  steps : x.steps < 256
  noz : ∀ v ∈ x.noz, v < 65536
  f0 : x.f0 < 256
  f1 : x.f1 < 256
  f2 : x.f2 < 256
  a0 : x.a0 < 256
  a1 : x.a1 < 256
  a2 : x.a2 < 256
  b0 : x.b0 < 256
  b1 : x.b1 < 256
  b2 : x.b2 < 256
  many : x.many < 256
theorem tmod_nat (m k : Nat) : (m : Int).tmod (k : Int) = ((m % k : Nat) : Int) := by
  rw [Int.tmod_eq_emod_of_nonneg (by omega)]; simp
def Line.g0 (x : Line) : Nat := x.f0 % 3
def Line.g1 (x : Line) : Nat := x.g0 + 1 + x.f1 % 3
def Line.g2 (x : Line) : Nat := x.g1 + 1 + x.f2 % 3
def fromsN (x : Line) : List Nat := [x.g0, x.g1, x.g2]
end Go.Dw.Seat
end
section
set_option linter.unusedSimpArgs false
namespace Go.Dw.Seat
open Go Go.Dw
def Line.st (x : Line) : Nat := 2 + x.steps % 9
def nozP (x : Line) : List Nat := if x.noz = [] then [0] else (x.noz.take 4).map fun v => v % 2 ^ x.st
def Line.n (x : Line) : Nat := (nozP x).length
def causeN (x : Line) (a b c : Nat) : Cause := ⟨((a % (nozP x).length : Nat) : Int), ((1 + b % 4 : Nat) : Int), (((fromsN x).getD (c % 3) 0 : Nat) : Int)⟩
def Line.c0 (x : Line) : Cause := causeN x x.a0 x.a1 x.a2
def Line.c1 (x : Line) : Cause := causeN x x.b0 x.b1 x.b2
structure B3 where
  v0 : Nat
  v1 : Nat
  v2 : Nat
structure B3.ok (v : B3) : Prop where
  v0 : v.v0 < 256
  v1 : v.v1 < 256
  v2 : v.v2 < 256
end Go.Dw.Seat
end
section
set_option linter.unusedSimpArgs false
set_option maxRecDepth 100000
namespace Go.Dw.Seat
open Go Go.Dw Go.Proofs Go.IntWalk
abbrev bxL (b : Bool) (x : Line) : Blk := .box [d8 x.steps, .c (.sl b 1 (rows eU x.noz)), d8 x.f0, d8 x.f1, d8 x.f2, d8 x.a0, d8 x.a1, d8 x.a2, d8 x.b0, d8 x.b1, d8 x.b2, d8 x.many]
attribute [go_sem] bxL
end Go.Dw.Seat
end
section
set_option linter.unusedSimpArgs false
set_option maxRecDepth 100000
namespace Go.Dw.Seat
open Go Go.Dw Go.Proofs Go.IntWalk
abbrev bxP (b : Bool) (x : Line) : Blk := .box [dI x.st, dIs b (nL (nozP x))]
attribute [go_sem] bxP
end Go.Dw.Seat
end
section
set_option linter.unusedSimpArgs false
set_option maxRecDepth 100000
namespace Go.Dw.Seat
open Go Go.Dw Go.Proofs Go.IntWalk
def eV (v : B3) : List C := [.v (.int .u8 v.v0), .v (.int .u8 v.v1), .v (.int .u8 v.v2)]
attribute [go_sem] eV
abbrev dV (b : Bool) (l : List B3) : D := .c (.sl b 3 (rows eV l))
attribute [go_sem] dV
end Go.Dw.Seat
end
section
set_option linter.unusedSimpArgs false
set_option maxRecDepth 100000
namespace Go.Dw.Seat
open Go Go.Dw Go.Proofs Go.ChangeShapes Go.WideShapes Go.ChangeAt Go.RowKit
theorem u89 : Try.prog.underlying 89 = some (.slice 116) := by kernel_rfl
theorem cells5 : Try.prog.cellsOf 5 = 1 := by kernel_rfl
theorem cells89 : Try.prog.cellsOf 89 = 1 := by kernel_rfl
theorem cells116 : Try.prog.cellsOf 116 = 1 := by kernel_rfl
section
variable {H : Type} {enc : TypeId × Value → H} {w : World} {base : Nat} {spare : Nat → Bool} {held : Bool} {fuel : Nat} {cs : List Value} {x : DataW H × List MemPlace}
theorem wf8 {n : Int} (h : (Lit.int .u8 n).wf = true) : ∃ v : Nat, n = v ∧ v < 256 := by
  have e1 : IntKind.min .u8 = 0 := by decide
  have e2 : IntKind.max .u8 = 255 := by decide
  simp only [Lit.wf, e1, e2, Bool.and_eq_true, decide_eq_true_eq] at h
  exact ⟨n.toNat, by omega, by omega⟩
theorem wf16 {n : Int} (h : (Lit.int .u16 n).wf = true) : ∃ v : Nat, n = v ∧ v < 65536 := by
  have e1 : IntKind.min .u16 = 0 := by decide
  have e2 : IntKind.max .u16 = 65535 := by decide
  simp only [Lit.wf, e1, e2, Bool.and_eq_true, decide_eq_true_eq] at h
  exact ⟨n.toNat, by omega, by omega⟩
theorem rd_U8 (h : DataW.trod enc Try.prog w base spare held fuel 5 cs = some x) : ∃ v : Nat, cs = [.int .u8 v] ∧ v < 256 := by
  obtain ⟨n, e, hw⟩ := rd_int und5 h
  obtain ⟨v, rfl, hv⟩ := wf8 hw
  exact ⟨v, e, hv⟩
theorem rd_U16 (h : DataW.trod enc Try.prog w base spare held fuel 116 cs = some x) : ∃ v : {v : Nat // v < 65536}, RepVs w A0 (eU v.1) cs := by
  obtain ⟨n, rfl, hw⟩ := rd_int und116 h
  obtain ⟨v, rfl, hv⟩ := wf16 hw
  exact ⟨⟨v, hv⟩, _, _, rfl, ⟨rfl, rfl⟩, rfl⟩
theorem rd_U16s (h : DataW.trod enc Try.prog w base spare held fuel 89 cs = some x) : ∃ (l : List Nat) (v : Value), cs = [v] ∧ RepC w A0 (.sl false 1 (rows eU l)) v ∧ l.length ≤ maxLen ∧ ∀ v ∈ l, v < 65536 := by
  obtain ⟨l, v, e, hr, hm, _⟩ := rd_slice (f := fun v : {v : Nat // v < 65536} => eU v.1) u89 cells116 (by decide) (fun _ => rfl) (fun _ _ _ h => rd_U16 h) h
  refine ⟨l.map (·.1), v, e, ?_, by simpa using hm, fun u hu => ?_⟩
  · have : rows eU (l.map (·.1)) = rows (fun v : {v : Nat // v < 65536} => eU v.1) l := by simp [rows, Function.comp_def]
    rw [this]; exact hr
  · obtain ⟨a, _, rfl⟩ := List.mem_map.1 hu
    exact a.2
end
end Go.Dw.Seat
end
section
set_option linter.unusedSimpArgs false
namespace Go.Dw.Seat
open Go Go.Dw
structure B6 where
  v0 : Nat
  v1 : Nat
  v2 : Nat
  v3 : Nat
  v4 : Nat
  v5 : Nat
structure B6.ok (v : B6) : Prop where
  v0 : v.v0 < 256
  v1 : v.v1 < 256
  v2 : v.v2 < 256
  v3 : v.v3 < 256
  v4 : v.v4 < 256
  v5 : v.v5 < 256
structure Warm where
  mins : Nat
  r0 : Nat
  r1 : Nat
  rooms : List B6
  pr : List Nat
structure Warm.ok (w : Warm) : Prop where
  mins : w.mins < 65536
  r0 : w.r0 < 256
  r1 : w.r1 < 256
  rooms : ∀ v ∈ w.rooms, v.ok
  pr : ∀ v ∈ w.pr, v < 65536
def ruleW (w : Warm) : Rule := ⟨1 + ((w.mins % 600 : Nat) : Int), ((w.r0 % 21 : Nat) : Int), ((w.r1 % 21 : Nat) : Int)⟩
def mnI (a b : Int) : Int := if b < a then b else a
def mxI (a b : Int) : Int := if a < b then b else a
def roomB (v : B6) : Room := ⟨mnI ((v.v0 % 31 : Nat) : Int) ((v.v1 % 31 : Nat) : Int), mxI ((v.v0 % 31 : Nat) : Int) ((v.v1 % 31 : Nat) : Int), mnI ((v.v2 % 101 : Nat) : Int) ((v.v3 % 101 : Nat) : Int), mxI ((v.v2 % 101 : Nat) : Int) ((v.v3 % 101 : Nat) : Int)⟩
def truthB (v : B6) : Int × Int := ((roomB v).wl + (v.v4 : Int).tmod ((roomB v).wh - (roomB v).wl + 1), (roomB v).dl + (v.v5 : Int).tmod ((roomB v).dh - (roomB v).dl + 1))
def pressAt (w : Warm) (i : Nat) : Nat := (w.pr.getD i 0) % 2000
def Warm.n (w : Warm) : Nat := min w.rooms.length 20
def roomsTo (w : Warm) (i : Nat) : List Room := (w.rooms.take i).map roomB
def truthsTo (w : Warm) (i : Nat) : List (Int × Int) := (w.rooms.take i).map truthB
def pressTo (w : Warm) (i : Nat) : List Nat := (List.range i).map (pressAt w)
theorem Warm.n_le (w : Warm) : w.n ≤ 20 ∧ w.n ≤ w.rooms.length := by unfold Warm.n; omega
theorem roomB_in (v : B6) : (0 ≤ (roomB v).wl ∧ (roomB v).wl ≤ (roomB v).wh ∧ (roomB v).wh ≤ 30) ∧ (0 ≤ (roomB v).dl ∧ (roomB v).dl ≤ (roomB v).dh ∧ (roomB v).dh ≤ 100) := by
  have h0 : v.v0 % 31 < 31 := Nat.mod_lt _ (by decide)
  have h1 : v.v1 % 31 < 31 := Nat.mod_lt _ (by decide)
  have h2 : v.v2 % 101 < 101 := Nat.mod_lt _ (by decide)
  have h3 : v.v3 % 101 < 101 := Nat.mod_lt _ (by decide)
  simp only [roomB, mnI, mxI]
  generalize v.v0 % 31 = a at *
  generalize v.v1 % 31 = b at *
  generalize v.v2 % 101 = c at *
  generalize v.v3 % 101 = d at *
  refine ⟨⟨?_, ?_, ?_⟩, ?_, ?_, ?_⟩ <;> repeat' split
  all_goals omega
theorem tmod_in (v : Nat) (d : Int) (h : 1 ≤ d) : 0 ≤ (v : Int).tmod d ∧ (v : Int).tmod d < d := by
  rw [Int.tmod_eq_emod_of_nonneg (by omega)]
  exact ⟨Int.emod_nonneg _ (by omega), Int.emod_lt_of_pos _ (by omega)⟩
theorem truthB_in (v : B6) : ((roomB v).wl ≤ (truthB v).1 ∧ (truthB v).1 ≤ (roomB v).wh) ∧ ((roomB v).dl ≤ (truthB v).2 ∧ (truthB v).2 ≤ (roomB v).dh) := by
  have h := roomB_in v
  have h1 := tmod_in v.v4 ((roomB v).wh - (roomB v).wl + 1) (by omega)
  have h2 := tmod_in v.v5 ((roomB v).dh - (roomB v).dl + 1) (by omega)
  simp only [truthB]
  omega
theorem roomOk_of {m : Room} (h : (0 ≤ m.wl ∧ m.wl ≤ m.wh ∧ m.wh ≤ 30) ∧ (0 ≤ m.dl ∧ m.dl ≤ m.dh ∧ m.dh ≤ 100)) : roomOk m = true := by
  have e : ∀ lo hi : Int, wthn 0 30 [lo, hi] = (wthn 0 30 [lo] && wthn 0 30 [hi]) := fun lo hi => by simp [wthn]
  have e' : ∀ lo hi : Int, wthn 0 100 [lo, hi] = (wthn 0 100 [lo] && wthn 0 100 [hi]) := fun lo hi => by simp [wthn]
  simp only [roomOk, spanOk, e, e', Bool.and_eq_true, wthn_iff1, decide_eq_true_eq]
  omega
theorem ruleW_ok (w : Warm) : ruleOk (ruleW w) = true := by
  have h0 : w.mins % 600 < 600 := Nat.mod_lt _ (by decide)
  have h1 : w.r0 % 21 < 21 := Nat.mod_lt _ (by decide)
  have h2 : w.r1 % 21 < 21 := Nat.mod_lt _ (by decide)
  have e : ∀ lo hi : Int, wthn 0 20 [lo, hi] = (wthn 0 20 [lo] && wthn 0 20 [hi]) := fun lo hi => by simp [wthn]
  simp only [ruleOk, ruleW, e, Bool.and_eq_true, wthn_iff1]
  omega
theorem pressAt_lt (w : Warm) (i : Nat) : pressAt w i < 2000 := Nat.mod_lt _ (by decide)
def marksN (many : Nat) (l : List Nat) : List Bool := (List.range many).map fun i => decide (i ∈ l)
theorem marksN_get {many i : Nat} {l : List Nat} (h : i < many) : (marksN many l)[i]? = some (decide (i ∈ l)) := by
  simp [marksN, h]
theorem marksN_take {many i n : Nat} {l : List Nat} (hn : l[i]? = some n) (hlt : n < many) : marksN many (l.take (i + 1)) = (marksN many (l.take i)).set n true := by
  apply List.ext_getElem?
  intro j
  rw [List.getElem?_set]
  by_cases hj : j < many
  · have e : (l.take (i + 1)) = l.take i ++ [n] := by rw [List.take_add_one, hn]; rfl
    rw [marksN_get hj, e]
    by_cases h : n = j
    · subst h
      simp [marksN, hlt]
    · rw [if_neg h, marksN_get hj]
      have : j ≠ n := fun e => h e.symm
      simp [this]
  · have h1 : (marksN many (l.take (i + 1)))[j]? = none := List.getElem?_eq_none (by simp [marksN]; omega)
    have h2 : (marksN many (l.take i))[j]? = none := List.getElem?_eq_none (by simp [marksN]; omega)
    rw [h1]
    split
    · split
      · rename_i h3; simp [marksN] at h3; omega
      · rfl
    · exact h2.symm
theorem marksN_zero (many : Nat) : marksN many [] = List.replicate many false := by
  simp only [marksN, List.not_mem_nil, decide_false]
  rw [List.map_const', List.length_range]
theorem opF_asc (f : Room → Int) (rooms : List Room) (mins : List Int) (n : Nat) : (opF f rooms mins n).Pairwise (· < ·) := List.Pairwise.sublist List.filter_sublist List.pairwise_lt_range
theorem opF_lt {f : Room → Int} {rooms : List Room} {mins : List Int} {n : Nat} : ∀ i ∈ opF f rooms mins n, i < n := fun i hi => by
  have := (List.mem_filter.1 hi).1
  simpa using this
theorem opF_mem {f : Room → Int} {rooms : List Room} {mins : List Int} {n i : Nat} {m : Room} {v : Int} (hi : i < n) (hm : rooms[i]? = some m) (hv : mins[i]? = some v) : decide (i ∈ opF f rooms mins n) = decide (v < f m) := by
  rw [Bool.eq_iff_iff, decide_eq_true_eq, decide_eq_true_eq, opF, List.mem_filter]
  simp only [List.mem_range, hi, true_and, List.getD, hm, hv, Option.getD_some, decide_eq_true_eq]
end Go.Dw.Seat
end
section
set_option linter.unusedSimpArgs false
set_option maxRecDepth 100000
namespace Go.Dw.Seat
open Go Go.Dw Go.Proofs Go.IntWalk
def eW (v : B6) : List C := [.v (.int .u8 v.v0), .v (.int .u8 v.v1), .v (.int .u8 v.v2), .v (.int .u8 v.v3), .v (.int .u8 v.v4), .v (.int .u8 v.v5)]
def eT (t : Int × Int) : List C := [.v (.int .i64 t.1), .v (.int .i64 t.2)]
abbrev d16 (n : Nat) : D := .c (.v (.int .u16 n))
abbrev dW (b b' : Bool) (w : Warm) : D := .agg [d16 w.mins, d8 w.r0, d8 w.r1, .c (.sl b 6 (rows eW w.rooms)), .c (.sl b' 1 (rows eU w.pr))]
abbrev bxW (b b' : Bool) (w : Warm) : Blk := .box [d16 w.mins, d8 w.r0, d8 w.r1, .c (.sl b 6 (rows eW w.rooms)), .c (.sl b' 1 (rows eU w.pr))]
def eB (b : Bool) : List C := [.v (.bool b)]
theorem eB_nb (b : Bool) : C.nbs (eB b) = true := rfl
theorem eT_nb (v : Int × Int) : C.nbs (eT v) = true := rfl
attribute [go_sem] eW eT eB d16 dW bxW
theorem tmod600 (m : Nat) : (m : Int).tmod 600 = ((m % 600 : Nat) : Int) := tmod_nat m 600
theorem tmod21 (m : Nat) : (m : Int).tmod 21 = ((m % 21 : Nat) : Int) := tmod_nat m 21
theorem tmod31 (m : Nat) : (m : Int).tmod 31 = ((m % 31 : Nat) : Int) := tmod_nat m 31
theorem tmod101 (m : Nat) : (m : Int).tmod 101 = ((m % 101 : Nat) : Int) := tmod_nat m 101
theorem tmod2000 (m : Nat) : (m : Int).tmod 2000 = ((m % 2000 : Nat) : Int) := tmod_nat m 2000
theorem snocR (l : List Room) (a b c d : Int) : rowC (rows eR l) ++ [[D.c (.v (.int .i64 a)), D.c (.v (.int .i64 b)), D.c (.v (.int .i64 c)), D.c (.v (.int .i64 d))]] = rowC (rows eR (l ++ [⟨a, b, c, d⟩])) := by simp [rowC, rows, eR]
theorem snocT (l : List (Int × Int)) (a b : Int) : rowC (rows eT l) ++ [[D.c (.v (.int .i64 a)), D.c (.v (.int .i64 b))]] = rowC (rows eT (l ++ [(a, b)])) := by simp [rowC, rows, eT]
attribute [go_sem] snocR snocT
set_option maxHeartbeats 800000 in
theorem c56 (b b' : Bool) (w : Warm) (hw : w.ok) : DCall Try.prog 56 [dW b b' w] []
    (.tup [dR (ruleW w), .c (.sl false 4 (rows eR (roomsTo w w.n))), .c (.sl false 2 (rows eT (truthsTo w w.n))), dIs false (nL (pressTo w w.n))]) [] := by
  have h0 := hw.mins
  have h1 := hw.r0
  have h2 := hw.r1
  have hn := w.n_le
  have m0 : w.mins % 600 < 600 := Nat.mod_lt _ (by decide)
  have m1 : w.r0 % 21 < 21 := Nat.mod_lt _ (by decide)
  have m2 : w.r1 % 21 < 21 := Nat.mod_lt _ (by decide)
  refine DCall.of Try.func56 sf56 hb56 (Nat.le_of_ble_eq_true rfl) (okRes_nil fun _ => rfl) ?_; simp only [s56, idxs, Nat.reduceAdd]
  repeat' (first
    | (with_reducible refine DW.seq ?_)
    | (with_reducible refine DW.block ?_)
    | (with_reducible refine DW.skip ?_)
    | (with_reducible refine DW.exit ?_)
    | (with_reducible refine DW.ret ?_)
    | (with_reducible refine DW.reg ?_)
    | (refine DW.dreg rfl (WF.of (by first | rfl | simp (disch := omega) only [go_sem, Nat.reduceLT, Nat.reduceLeDiff, Nat.reduceAdd, Nat.reduceMul, Nat.reduceEqDiff, ↓reduceIte, reduceCtorEq, Nat.reduceBEq, Nat.reduceBNe, Nat.reducePow, Int.reduceLE, Int.reduceLT, Int.reduceNeg, Int.reduceToNat, Int.reduceEq, Int.reduceAdd, Int.reduceSub, Int.reduceMul, Int.reduceBEq, Int.reduceBNe, Blk.men, Blk.keysIn, tmod600, tmod21])) ?_)
    | (simp (disch := omega) only [go_sem, Nat.reduceLT, Nat.reduceLeDiff, Nat.reduceAdd, Nat.reduceMul, Nat.reduceEqDiff, ↓reduceIte, reduceCtorEq, Nat.reduceBEq, Nat.reduceBNe, Nat.reducePow, Int.reduceLE, Int.reduceLT, Int.reduceNeg, Int.reduceToNat, Int.reduceEq, Int.reduceAdd, Int.reduceSub, Int.reduceMul, Int.reduceBEq, Int.reduceBNe, Blk.men, Blk.keysIn, tmod600, tmod21])
    | (exact retS_of rfl rfl rfl)
    | (refine DW.cond_tt rfl ?_)
    | (refine DW.cond_ff rfl ?_)
    | (refine DW.cond rfl ?_ ?_ <;> intro hc <;> (try simp only [go_sem] at hc))
    | (refine g_split ?_ ?_ <;> intro hc <;> (try simp only [hc]) <;> (try simp only [go_sem] at hc)))
  refine DW.ent (Ent.adopt 3 66 4 rfl rfl rfl) ?_
  simp (disch := omega) only [go_sem, Nat.reduceLT, Nat.reduceLeDiff, Nat.reduceAdd, Nat.reduceMul, Nat.reduceEqDiff, ↓reduceIte, reduceCtorEq, Nat.reduceBEq, Nat.reduceBNe, Nat.reducePow, Int.reduceLE, Int.reduceLT, Int.reduceNeg, Int.reduceToNat, Int.reduceEq, Int.reduceAdd, Int.reduceSub, Int.reduceMul, Int.reduceBEq, Int.reduceBNe, Blk.men, Blk.keysIn]
  refine DW.ent (Ent.adopt 4 96 2 rfl rfl rfl) ?_
  simp (disch := omega) only [go_sem, Nat.reduceLT, Nat.reduceLeDiff, Nat.reduceAdd, Nat.reduceMul, Nat.reduceEqDiff, ↓reduceIte, reduceCtorEq, Nat.reduceBEq, Nat.reduceBNe, Nat.reducePow, Int.reduceLE, Int.reduceLT, Int.reduceNeg, Int.reduceToNat, Int.reduceEq, Int.reduceAdd, Int.reduceSub, Int.reduceMul, Int.reduceBEq, Int.reduceBNe, Blk.men, Blk.keysIn]
  refine DW.ent (Ent.adopt 5 112 1 rfl rfl rfl) ?_
  simp (disch := omega) only [go_sem, Nat.reduceLT, Nat.reduceLeDiff, Nat.reduceAdd, Nat.reduceMul, Nat.reduceEqDiff, ↓reduceIte, reduceCtorEq, Nat.reduceBEq, Nat.reduceBNe, Nat.reducePow, Int.reduceLE, Int.reduceLT, Int.reduceNeg, Int.reduceToNat, Int.reduceEq, Int.reduceAdd, Int.reduceSub, Int.reduceMul, Int.reduceBEq, Int.reduceBNe, Blk.men, Blk.keysIn]
  refine DW.loop (ι := { i : Nat // i ≤ w.n }) (fun i => ⟨117, [(6, dI i.1), (5, .own 112), (4, .own 96), (3, .own 66), (2, .box 2 0), (1, .box 1 0)],
    [(112, .row 1 (rowC (rows eI (nL (pressTo w i.1))))), (96, .row 2 (rowC (rows eT (truthsTo w i.1)))), (66, .row 4 (rowC (rows eR (roomsTo w i.1)))), (2, .box [dI (1 + ((w.mins % 600 : Nat) : Int)), dI ((w.r0 % 21 : Nat) : Int), dI ((w.r1 % 21 : Nat) : Int)]), (1, bxW b b' w)]⟩) (fun i => w.n - i.1) ⟨0, Nat.zero_le _⟩ ?_ ?_
  · refine Ent.to ?_ ?_ <;> simp (disch := omega) only [wkT_cons, wkX_cons, wkT_nil, wkX_nil, get, Nat.reduceEqDiff, ↓reduceIte, ex_some, wk_self, wk_top, wk_nil, wkB_self, and_self, dI, i64_in, and_true, true_and, Int.natCast_add, Int.natCast_one, Int.ofNat_zero, Int.natCast_zero, bxW, d8, d16]
    exact ⟨.refl _, .refl _, .refl _⟩
  rintro ⟨i, hi⟩
  rcases Nat.lt_or_ge i w.n with hlt | hge
  · obtain ⟨v, hv⟩ := getE (l := w.rooms) (i := i) (by omega)
    have hd1 : decide ((i : Int) < (w.rooms.length : Int)) = true := by rw [decide_eq_true_eq]; omega
    have hd2 : decide ((i : Int) < 20) = true := by rw [decide_eq_true_eq]; omega
    have hvo := hw.rooms v (List.mem_of_getElem? hv)
    have v0 := hvo.v0
    have v1 := hvo.v1
    have v2 := hvo.v2
    have v3 := hvo.v3
    have v4 := hvo.v4
    have v5 := hvo.v5
    have q0 : v.v0 % 31 < 31 := Nat.mod_lt _ (by decide)
    have q1 : v.v1 % 31 < 31 := Nat.mod_lt _ (by decide)
    have q2 : v.v2 % 101 < 101 := Nat.mod_lt _ (by decide)
    have q3 : v.v3 % 101 < 101 := Nat.mod_lt _ (by decide)
    have hin := roomB_in v
    have ht1 := tmod_in v.v4 ((roomB v).wh - (roomB v).wl + 1) (by omega)
    have ht2 := tmod_in v.v5 ((roomB v).dh - (roomB v).dl + 1) (by omega)
    have h58a : DCall Try.prog 58 [dI ((v.v0 % 31 : Nat) : Int), dI ((v.v1 % 31 : Nat) : Int)] [] (.agg [dI (roomB v).wl, dI (roomB v).wh]) [] := c58 _ _
    have h58b : DCall Try.prog 58 [dI ((v.v2 % 101 : Nat) : Int), dI ((v.v3 % 101 : Nat) : Int)] [] (.agg [dI (roomB v).dl, dI (roomB v).dh]) [] := c58 _ _
    have hr : roomsTo w (i + 1) = roomsTo w i ++ [⟨(roomB v).wl, (roomB v).wh, (roomB v).dl, (roomB v).dh⟩] := by rw [roomsTo, map_take hv]; rfl
    have ht : truthsTo w (i + 1) = truthsTo w i ++ [((roomB v).wl + (v.v4 : Int).tmod ((roomB v).wh - (roomB v).wl + 1), (roomB v).dl + (v.v5 : Int).tmod ((roomB v).dh - (roomB v).dl + 1))] := by rw [truthsTo, map_take hv]; rfl
    have hp : nL (pressTo w (i + 1)) = nL (pressTo w i) ++ [((pressAt w i : Nat) : Int)] := by
      rw [pressTo, List.range_succ, List.map_append, nL, List.map_append]; rfl
    have l1 : (roomsTo w i).length ≤ 20 := by simp [roomsTo]; omega
    have l2 : (truthsTo w i).length ≤ 20 := by simp [truthsTo]; omega
    have l3 : (nL (pressTo w i)).length ≤ 20 := by simp [nL, pressTo]; omega
    have l4 := pressAt_lt w i
    have hne1 : (((roomB v).wh - (roomB v).wl + 1) = 0) = False := eq_false (by omega)
    have hne2 : (((roomB v).dh - (roomB v).dl + 1) = 0) = False := eq_false (by omega)
    generalize hT1 : (v.v4 : Int).tmod ((roomB v).wh - (roomB v).wl + 1) = t1 at *
    generalize hT2 : (v.v5 : Int).tmod ((roomB v).dh - (roomB v).dl + 1) = t2 at *
    generalize roomsTo w i = a1 at *
    generalize truthsTo w i = a2 at *
    generalize nL (pressTo w i) = a3 at *
    rcases Nat.lt_or_ge i w.pr.length with hpl | hpl
    · have hd3 : decide ((i : Int) < (w.pr.length : Int)) = true := by rw [decide_eq_true_eq]; omega
      obtain ⟨u, hu⟩ := getE hpl
      have hu16 := hw.pr u (List.mem_of_getElem? hu)
      have hpa : pressAt w i = u % 2000 := by simp only [pressAt, List.getD, hu, Option.getD_some]
      rw [hpa] at hp l4
      repeat' (first
    | (with_reducible refine DW.seq ?_)
    | (with_reducible refine DW.block ?_)
    | (with_reducible refine DW.skip ?_)
    | (with_reducible refine DW.exit ?_)
    | (with_reducible refine DW.ret ?_)
    | (with_reducible refine DW.reg ?_)
    | (refine DW.dreg rfl (WF.of (by first | rfl | simp (disch := omega) only [go_sem, Nat.reduceLT, Nat.reduceLeDiff, Nat.reduceAdd, Nat.reduceMul, Nat.reduceEqDiff, ↓reduceIte, reduceCtorEq, Nat.reduceBEq, Nat.reduceBNe, Nat.reducePow, Int.reduceLE, Int.reduceLT, Int.reduceNeg, Int.reduceToNat, Int.reduceEq, Int.reduceAdd, Int.reduceSub, Int.reduceMul, Int.reduceBEq, Int.reduceBNe, Blk.men, Blk.keysIn, hd1, hd2, hv, tmod31, tmod101, hT1, hT2, hne1, hne2, hd3, hu, tmod2000])) ?_)
    | (simp (disch := omega) only [go_sem, Nat.reduceLT, Nat.reduceLeDiff, Nat.reduceAdd, Nat.reduceMul, Nat.reduceEqDiff, ↓reduceIte, reduceCtorEq, Nat.reduceBEq, Nat.reduceBNe, Nat.reducePow, Int.reduceLE, Int.reduceLT, Int.reduceNeg, Int.reduceToNat, Int.reduceEq, Int.reduceAdd, Int.reduceSub, Int.reduceMul, Int.reduceBEq, Int.reduceBNe, Blk.men, Blk.keysIn, hd1, hd2, hv, tmod31, tmod101, hT1, hT2, hne1, hne2, hd3, hu, tmod2000])
    | (exact retS_of rfl rfl rfl)
    | (refine DW.cond_tt rfl ?_)
    | (refine call_c (h58a) (by decide) ?_)
    | (refine call_c (h58b) (by decide) ?_)
    | (refine DW.cond_ff rfl ?_)
    | (refine DW.cond rfl ?_ ?_ <;> intro hc <;> (try simp only [go_sem] at hc))
    | (refine g_split ?_ ?_ <;> intro hc <;> (try simp only [hc]) <;> (try simp only [go_sem] at hc)))
      refine ⟨⟨i + 1, hlt⟩, ?_, Ent.to ?_ ?_⟩ <;> first | (show _ < _; (try simp only); omega) | (simp (disch := omega) only [wkT_cons, wkX_cons, wkT_nil, wkX_nil, get, Nat.reduceEqDiff, ↓reduceIte, ex_some, wk_self, wk_top, wk_nil, wkB_self, and_self, dI, i64_in, and_true, true_and, Int.natCast_add, Int.natCast_one, Int.ofNat_zero, Int.natCast_zero,  hr, ht, hp, bxW, d8, d16])
      all_goals exact .refl _
    · have hd3 : decide ((i : Int) < (w.pr.length : Int)) = false := by rw [decide_eq_false_iff_not]; omega
      have hpa : pressAt w i = 0 := by
        have : w.pr[i]? = none := List.getElem?_eq_none hpl
        simp only [pressAt, List.getD, this, Option.getD_none]
      rw [hpa] at hp
      repeat' (first
    | (with_reducible refine DW.seq ?_)
    | (with_reducible refine DW.block ?_)
    | (with_reducible refine DW.skip ?_)
    | (with_reducible refine DW.exit ?_)
    | (with_reducible refine DW.ret ?_)
    | (with_reducible refine DW.reg ?_)
    | (refine DW.dreg rfl (WF.of (by first | rfl | simp (disch := omega) only [go_sem, Nat.reduceLT, Nat.reduceLeDiff, Nat.reduceAdd, Nat.reduceMul, Nat.reduceEqDiff, ↓reduceIte, reduceCtorEq, Nat.reduceBEq, Nat.reduceBNe, Nat.reducePow, Int.reduceLE, Int.reduceLT, Int.reduceNeg, Int.reduceToNat, Int.reduceEq, Int.reduceAdd, Int.reduceSub, Int.reduceMul, Int.reduceBEq, Int.reduceBNe, Blk.men, Blk.keysIn, hd1, hd2, hv, tmod31, tmod101, hT1, hT2, hne1, hne2, hd3])) ?_)
    | (simp (disch := omega) only [go_sem, Nat.reduceLT, Nat.reduceLeDiff, Nat.reduceAdd, Nat.reduceMul, Nat.reduceEqDiff, ↓reduceIte, reduceCtorEq, Nat.reduceBEq, Nat.reduceBNe, Nat.reducePow, Int.reduceLE, Int.reduceLT, Int.reduceNeg, Int.reduceToNat, Int.reduceEq, Int.reduceAdd, Int.reduceSub, Int.reduceMul, Int.reduceBEq, Int.reduceBNe, Blk.men, Blk.keysIn, hd1, hd2, hv, tmod31, tmod101, hT1, hT2, hne1, hne2, hd3])
    | (exact retS_of rfl rfl rfl)
    | (refine DW.cond_tt rfl ?_)
    | (refine call_c (h58a) (by decide) ?_)
    | (refine call_c (h58b) (by decide) ?_)
    | (refine DW.cond_ff rfl ?_)
    | (refine DW.cond rfl ?_ ?_ <;> intro hc <;> (try simp only [go_sem] at hc))
    | (refine g_split ?_ ?_ <;> intro hc <;> (try simp only [hc]) <;> (try simp only [go_sem] at hc)))
      refine ⟨⟨i + 1, hlt⟩, ?_, Ent.to ?_ ?_⟩ <;> first | (show _ < _; (try simp only); omega) | (simp (disch := omega) only [wkT_cons, wkX_cons, wkT_nil, wkX_nil, get, Nat.reduceEqDiff, ↓reduceIte, ex_some, wk_self, wk_top, wk_nil, wkB_self, and_self, dI, i64_in, and_true, true_and, Int.natCast_add, Int.natCast_one, Int.ofNat_zero, Int.natCast_zero,  hr, ht, hp, bxW, d8, d16])
      all_goals exact .refl _
  · obtain rfl : i = w.n := by omega
    have hex : ¬ (w.n < w.rooms.length ∧ w.n < 20) := by unfold Warm.n; omega
    rcases Nat.lt_or_ge w.n w.rooms.length with h1 | h1
    · have hd1 : decide ((w.n : Int) < (w.rooms.length : Int)) = true := by rw [decide_eq_true_eq]; omega
      have hd2 : decide ((w.n : Int) < 20) = false := by rw [decide_eq_false_iff_not]; omega
      generalize roomsTo w w.n = a1 at *
      generalize truthsTo w w.n = a2 at *
      generalize nL (pressTo w w.n) = a3 at *
      repeat' (first
    | (with_reducible refine DW.seq ?_)
    | (with_reducible refine DW.block ?_)
    | (with_reducible refine DW.skip ?_)
    | (with_reducible refine DW.exit ?_)
    | (with_reducible refine DW.ret ?_)
    | (with_reducible refine DW.reg ?_)
    | (refine DW.dreg rfl (WF.of (by first | rfl | simp (disch := omega) only [go_sem, Nat.reduceLT, Nat.reduceLeDiff, Nat.reduceAdd, Nat.reduceMul, Nat.reduceEqDiff, ↓reduceIte, reduceCtorEq, Nat.reduceBEq, Nat.reduceBNe, Nat.reducePow, Int.reduceLE, Int.reduceLT, Int.reduceNeg, Int.reduceToNat, Int.reduceEq, Int.reduceAdd, Int.reduceSub, Int.reduceMul, Int.reduceBEq, Int.reduceBNe, Blk.men, Blk.keysIn, hd1, hd2])) ?_)
    | (simp (disch := omega) only [go_sem, Nat.reduceLT, Nat.reduceLeDiff, Nat.reduceAdd, Nat.reduceMul, Nat.reduceEqDiff, ↓reduceIte, reduceCtorEq, Nat.reduceBEq, Nat.reduceBNe, Nat.reducePow, Int.reduceLE, Int.reduceLT, Int.reduceNeg, Int.reduceToNat, Int.reduceEq, Int.reduceAdd, Int.reduceSub, Int.reduceMul, Int.reduceBEq, Int.reduceBNe, Blk.men, Blk.keysIn, hd1, hd2])
    | (exact retS_of rfl rfl rfl)
    | (refine DW.cond_tt rfl ?_)
    | (refine DW.cond_ff rfl ?_)
    | (refine DW.cond rfl ?_ ?_ <;> intro hc <;> (try simp only [go_sem] at hc))
    | (refine g_split ?_ ?_ <;> intro hc <;> (try simp only [hc]) <;> (try simp only [go_sem] at hc)))
      (refine retS_ent (Ent.rel 112 rfl) ?_; simp (disch := omega) only [go_sem, Nat.reduceLT, Nat.reduceLeDiff, Nat.reduceAdd, Nat.reduceMul, Nat.reduceEqDiff, ↓reduceIte, reduceCtorEq, Nat.reduceBEq, Nat.reduceBNe, Nat.reducePow, Int.reduceLE, Int.reduceLT, Int.reduceNeg, Int.reduceToNat, Int.reduceEq, Int.reduceAdd, Int.reduceSub, Int.reduceMul, Int.reduceBEq, Int.reduceBNe, Blk.men, Blk.keysIn])
      (refine retS_ent (Ent.rel 96 rfl) ?_; simp (disch := omega) only [go_sem, Nat.reduceLT, Nat.reduceLeDiff, Nat.reduceAdd, Nat.reduceMul, Nat.reduceEqDiff, ↓reduceIte, reduceCtorEq, Nat.reduceBEq, Nat.reduceBNe, Nat.reducePow, Int.reduceLE, Int.reduceLT, Int.reduceNeg, Int.reduceToNat, Int.reduceEq, Int.reduceAdd, Int.reduceSub, Int.reduceMul, Int.reduceBEq, Int.reduceBNe, Blk.men, Blk.keysIn])
      (refine retS_ent (Ent.rel 66 rfl) ?_; simp (disch := omega) only [go_sem, Nat.reduceLT, Nat.reduceLeDiff, Nat.reduceAdd, Nat.reduceMul, Nat.reduceEqDiff, ↓reduceIte, reduceCtorEq, Nat.reduceBEq, Nat.reduceBNe, Nat.reducePow, Int.reduceLE, Int.reduceLT, Int.reduceNeg, Int.reduceToNat, Int.reduceEq, Int.reduceAdd, Int.reduceSub, Int.reduceMul, Int.reduceBEq, Int.reduceBNe, Blk.men, Blk.keysIn])
      refine retS_wk rfl ?_ (by simp only [Blk.nb, rowC_nb, D.nb, D.nbs, C.nb, C.nbs, C.nbss, rows_nb eI_nb, rows_nb eC_nb, rows_nb eL_nb, rows_nb eR_nb, rows_nb eS_nb, rows_nb eG_nb, Bool.and_true, Bool.not_false, Bool.and_self, bD, dI, iD, rows_nb eT_nb, rows_nb eB_nb]); exact .tup (.cons (.refl _) (.cons (.refl _) (.cons (.refl _) (.cons (.refl _) .nil))))
    · have hd1 : decide ((w.n : Int) < (w.rooms.length : Int)) = false := by rw [decide_eq_false_iff_not]; omega
      generalize roomsTo w w.n = a1 at *
      generalize truthsTo w w.n = a2 at *
      generalize nL (pressTo w w.n) = a3 at *
      repeat' (first
    | (with_reducible refine DW.seq ?_)
    | (with_reducible refine DW.block ?_)
    | (with_reducible refine DW.skip ?_)
    | (with_reducible refine DW.exit ?_)
    | (with_reducible refine DW.ret ?_)
    | (with_reducible refine DW.reg ?_)
    | (refine DW.dreg rfl (WF.of (by first | rfl | simp (disch := omega) only [go_sem, Nat.reduceLT, Nat.reduceLeDiff, Nat.reduceAdd, Nat.reduceMul, Nat.reduceEqDiff, ↓reduceIte, reduceCtorEq, Nat.reduceBEq, Nat.reduceBNe, Nat.reducePow, Int.reduceLE, Int.reduceLT, Int.reduceNeg, Int.reduceToNat, Int.reduceEq, Int.reduceAdd, Int.reduceSub, Int.reduceMul, Int.reduceBEq, Int.reduceBNe, Blk.men, Blk.keysIn, hd1])) ?_)
    | (simp (disch := omega) only [go_sem, Nat.reduceLT, Nat.reduceLeDiff, Nat.reduceAdd, Nat.reduceMul, Nat.reduceEqDiff, ↓reduceIte, reduceCtorEq, Nat.reduceBEq, Nat.reduceBNe, Nat.reducePow, Int.reduceLE, Int.reduceLT, Int.reduceNeg, Int.reduceToNat, Int.reduceEq, Int.reduceAdd, Int.reduceSub, Int.reduceMul, Int.reduceBEq, Int.reduceBNe, Blk.men, Blk.keysIn, hd1])
    | (exact retS_of rfl rfl rfl)
    | (refine DW.cond_tt rfl ?_)
    | (refine DW.cond_ff rfl ?_)
    | (refine DW.cond rfl ?_ ?_ <;> intro hc <;> (try simp only [go_sem] at hc))
    | (refine g_split ?_ ?_ <;> intro hc <;> (try simp only [hc]) <;> (try simp only [go_sem] at hc)))
      (refine retS_ent (Ent.rel 112 rfl) ?_; simp (disch := omega) only [go_sem, Nat.reduceLT, Nat.reduceLeDiff, Nat.reduceAdd, Nat.reduceMul, Nat.reduceEqDiff, ↓reduceIte, reduceCtorEq, Nat.reduceBEq, Nat.reduceBNe, Nat.reducePow, Int.reduceLE, Int.reduceLT, Int.reduceNeg, Int.reduceToNat, Int.reduceEq, Int.reduceAdd, Int.reduceSub, Int.reduceMul, Int.reduceBEq, Int.reduceBNe, Blk.men, Blk.keysIn])
      (refine retS_ent (Ent.rel 96 rfl) ?_; simp (disch := omega) only [go_sem, Nat.reduceLT, Nat.reduceLeDiff, Nat.reduceAdd, Nat.reduceMul, Nat.reduceEqDiff, ↓reduceIte, reduceCtorEq, Nat.reduceBEq, Nat.reduceBNe, Nat.reducePow, Int.reduceLE, Int.reduceLT, Int.reduceNeg, Int.reduceToNat, Int.reduceEq, Int.reduceAdd, Int.reduceSub, Int.reduceMul, Int.reduceBEq, Int.reduceBNe, Blk.men, Blk.keysIn])
      (refine retS_ent (Ent.rel 66 rfl) ?_; simp (disch := omega) only [go_sem, Nat.reduceLT, Nat.reduceLeDiff, Nat.reduceAdd, Nat.reduceMul, Nat.reduceEqDiff, ↓reduceIte, reduceCtorEq, Nat.reduceBEq, Nat.reduceBNe, Nat.reducePow, Int.reduceLE, Int.reduceLT, Int.reduceNeg, Int.reduceToNat, Int.reduceEq, Int.reduceAdd, Int.reduceSub, Int.reduceMul, Int.reduceBEq, Int.reduceBNe, Blk.men, Blk.keysIn])
      refine retS_wk rfl ?_ (by simp only [Blk.nb, rowC_nb, D.nb, D.nbs, C.nb, C.nbs, C.nbss, rows_nb eI_nb, rows_nb eC_nb, rows_nb eL_nb, rows_nb eR_nb, rows_nb eS_nb, rows_nb eG_nb, Bool.and_true, Bool.not_false, Bool.and_self, bD, dI, iD, rows_nb eT_nb, rows_nb eB_nb]); exact .tup (.cons (.refl _) (.cons (.refl _) (.cons (.refl _) (.cons (.refl _) .nil))))
end Go.Dw.Seat
end
section
set_option linter.unusedSimpArgs false
set_option maxRecDepth 100000
namespace Go.Dw.Seat
open Go Go.Dw Go.Proofs Go.IntWalk
theorem replB (n : Nat) : List.replicate n [C.v (.bool false)] = rows eB (List.replicate n false) := by simp [rows, eB]
theorem rows_setB (l : List Bool) (i : Nat) (v : Bool) : (rows eB l).set i [C.v (.bool v)] = rows eB (l.set i v) := by simp [rows, eB, List.map_set]
attribute [go_sem] replB rows_setB
theorem c57 (b : Bool) (ks : List Nat) (many : Nat) (hm : many ≤ 100) (hkl : ks.length ≤ 2 ^ 36) (ha : ks.Pairwise (· < ·)) (hk : ∀ k ∈ ks, k < many) :
    DCall Try.prog 57 [dIs b (nL ks), dI many] [] (.tup [.c (.sl false 1 (rows eB (marksN many ks))), bD true]) [] := by
  have hlen : ∀ l : List Nat, (marksN many l).length = many := fun l => by simp [marksN]
  have hz := marksN_zero many
  refine DCall.of Try.func57 sf57 hb57 (Nat.le_of_ble_eq_true rfl) (okRes_nil fun _ => rfl) ?_; simp only [s57, idxs, Nat.reduceAdd]
  repeat' (first
    | (with_reducible refine DW.seq ?_)
    | (with_reducible refine DW.block ?_)
    | (with_reducible refine DW.skip ?_)
    | (with_reducible refine DW.exit ?_)
    | (with_reducible refine DW.ret ?_)
    | (with_reducible refine DW.reg ?_)
    | (refine DW.dreg rfl (WF.of (by first | rfl | simp (disch := omega) only [go_sem, Nat.reduceLT, Nat.reduceLeDiff, Nat.reduceAdd, Nat.reduceMul, Nat.reduceEqDiff, ↓reduceIte, reduceCtorEq, Nat.reduceBEq, Nat.reduceBNe, Nat.reducePow, Int.reduceLE, Int.reduceLT, Int.reduceNeg, Int.reduceToNat, Int.reduceEq, Int.reduceAdd, Int.reduceSub, Int.reduceMul, Int.reduceBEq, Int.reduceBNe, Blk.men, Blk.keysIn])) ?_)
    | (simp (disch := omega) only [go_sem, Nat.reduceLT, Nat.reduceLeDiff, Nat.reduceAdd, Nat.reduceMul, Nat.reduceEqDiff, ↓reduceIte, reduceCtorEq, Nat.reduceBEq, Nat.reduceBNe, Nat.reducePow, Int.reduceLE, Int.reduceLT, Int.reduceNeg, Int.reduceToNat, Int.reduceEq, Int.reduceAdd, Int.reduceSub, Int.reduceMul, Int.reduceBEq, Int.reduceBNe, Blk.men, Blk.keysIn])
    | (exact retS_of rfl rfl rfl)
    | (refine DW.cond_tt rfl ?_)
    | (refine DW.cond_ff rfl ?_)
    | (refine DW.cond rfl ?_ ?_ <;> intro hc <;> (try simp only [go_sem] at hc))
    | (refine g_split ?_ ?_ <;> intro hc <;> (try simp only [hc]) <;> (try simp only [go_sem] at hc)))
  refine DW.loop (ι := { i : Nat // i ≤ ks.length }) (fun i => ⟨52, [(7, dI i.1), (6, .own 9), (1, dI many), (0, dIs b (nL ks))], [(9, .row 1 (rowC (rows eB (marksN many (ks.take i.1)))))]⟩) (fun i => ks.length - i.1) ⟨0, Nat.zero_le _⟩ ?_ ?_
  · refine Ent.to ?_ ?_ <;> simp (disch := omega) only [wkT_cons, wkX_cons, wkT_nil, wkX_nil, get, Nat.reduceEqDiff, ↓reduceIte, ex_some, wk_self, wk_top, wk_nil, wkB_self, and_self, dI, i64_in, and_true, true_and, Int.natCast_add, Int.natCast_one, Int.ofNat_zero, Int.natCast_zero, List.take_zero, hz]
  rintro ⟨i, hi⟩
  rcases at_or ks i hi with ⟨n, hn, hlt, hd⟩ | ⟨hend, hd⟩
  · have hnm := hk n (List.mem_of_getElem? hn)
    have ht := marksN_take hn hnm
    have hll := hlen (ks.take i)
    have hin : (n < (marksN many (ks.take i)).length) = True := by rw [hll]; exact eq_true hnm
    have d1 : decide ((n : Int) < 0) = false := by rw [decide_eq_false_iff_not]; omega
    have d2 : decide ((many : Int) ≤ (n : Int)) = false := by rw [decide_eq_false_iff_not]; omega
    generalize marksN many (ks.take i) = a at *
    obtain ⟨y, hy⟩ := getE (l := a) (i := n) (by rw [hll]; exact hnm)
    cases i with
    | zero =>
      have hd' : decide ((0 : Int) < (ks.length : Int)) = true := hd
      repeat' (first
    | (with_reducible refine DW.seq ?_)
    | (with_reducible refine DW.block ?_)
    | (with_reducible refine DW.skip ?_)
    | (with_reducible refine DW.exit ?_)
    | (with_reducible refine DW.ret ?_)
    | (with_reducible refine DW.reg ?_)
    | (refine DW.dreg rfl (WF.of (by first | rfl | simp (disch := omega) only [go_sem, Nat.reduceLT, Nat.reduceLeDiff, Nat.reduceAdd, Nat.reduceMul, Nat.reduceEqDiff, ↓reduceIte, reduceCtorEq, Nat.reduceBEq, Nat.reduceBNe, Nat.reducePow, Int.reduceLE, Int.reduceLT, Int.reduceNeg, Int.reduceToNat, Int.reduceEq, Int.reduceAdd, Int.reduceSub, Int.reduceMul, Int.reduceBEq, Int.reduceBNe, Blk.men, Blk.keysIn, hd', hn, d1, d2, hin, hy])) ?_)
    | (simp (disch := omega) only [go_sem, Nat.reduceLT, Nat.reduceLeDiff, Nat.reduceAdd, Nat.reduceMul, Nat.reduceEqDiff, ↓reduceIte, reduceCtorEq, Nat.reduceBEq, Nat.reduceBNe, Nat.reducePow, Int.reduceLE, Int.reduceLT, Int.reduceNeg, Int.reduceToNat, Int.reduceEq, Int.reduceAdd, Int.reduceSub, Int.reduceMul, Int.reduceBEq, Int.reduceBNe, Blk.men, Blk.keysIn, hd', hn, d1, d2, hin, hy])
    | (exact retS_of rfl rfl rfl)
    | (refine DW.cond_tt rfl ?_)
    | (refine DW.cond_ff rfl ?_)
    | (refine DW.cond rfl ?_ ?_ <;> intro hc <;> (try simp only [go_sem] at hc))
    | (refine g_split ?_ ?_ <;> intro hc <;> (try simp only [hc]) <;> (try simp only [go_sem] at hc)))
      refine ⟨⟨0 + 1, hlt⟩, ?_, Ent.to ?_ ?_⟩ <;> first | (show _ < _; (try simp only); omega) | (simp (disch := omega) only [wkT_cons, wkX_cons, wkT_nil, wkX_nil, get, Nat.reduceEqDiff, ↓reduceIte, ex_some, wk_self, wk_top, wk_nil, wkB_self, and_self, dI, i64_in, and_true, true_and, Int.natCast_add, Int.natCast_one, Int.ofNat_zero, Int.natCast_zero,  ht])
      all_goals exact .refl _
    | succ j =>
      obtain ⟨u, hu⟩ := getE (l := ks) (i := j) (by omega)
      have hlt2 : u < n := by
        have := List.pairwise_iff_getElem.1 ha j (j + 1) (by omega) hlt (by omega)
        rw [List.getElem?_eq_some_iff] at hu hn
        obtain ⟨_, rfl⟩ := hu
        obtain ⟨_, rfl⟩ := hn
        exact this
      have d3 : decide ((0 : Int) < ((j + 1 : Nat) : Int)) = true := by rw [decide_eq_true_eq]; omega
      have d4 : decide ((n : Int) ≤ (u : Int)) = false := by rw [decide_eq_false_iff_not]; omega
      have hj1 : ((j + 1 : Nat) : Int) - 1 = (j : Int) := by omega
      repeat' (first
    | (with_reducible refine DW.seq ?_)
    | (with_reducible refine DW.block ?_)
    | (with_reducible refine DW.skip ?_)
    | (with_reducible refine DW.exit ?_)
    | (with_reducible refine DW.ret ?_)
    | (with_reducible refine DW.reg ?_)
    | (refine DW.dreg rfl (WF.of (by first | rfl | simp (disch := omega) only [go_sem, Nat.reduceLT, Nat.reduceLeDiff, Nat.reduceAdd, Nat.reduceMul, Nat.reduceEqDiff, ↓reduceIte, reduceCtorEq, Nat.reduceBEq, Nat.reduceBNe, Nat.reducePow, Int.reduceLE, Int.reduceLT, Int.reduceNeg, Int.reduceToNat, Int.reduceEq, Int.reduceAdd, Int.reduceSub, Int.reduceMul, Int.reduceBEq, Int.reduceBNe, Blk.men, Blk.keysIn, hd, hn, d1, d2, d3, hj1, hu, d4, hin, hy])) ?_)
    | (simp (disch := omega) only [go_sem, Nat.reduceLT, Nat.reduceLeDiff, Nat.reduceAdd, Nat.reduceMul, Nat.reduceEqDiff, ↓reduceIte, reduceCtorEq, Nat.reduceBEq, Nat.reduceBNe, Nat.reducePow, Int.reduceLE, Int.reduceLT, Int.reduceNeg, Int.reduceToNat, Int.reduceEq, Int.reduceAdd, Int.reduceSub, Int.reduceMul, Int.reduceBEq, Int.reduceBNe, Blk.men, Blk.keysIn, hd, hn, d1, d2, d3, hj1, hu, d4, hin, hy])
    | (exact retS_of rfl rfl rfl)
    | (refine DW.cond_tt rfl ?_)
    | (refine DW.cond_ff rfl ?_)
    | (refine DW.cond rfl ?_ ?_ <;> intro hc <;> (try simp only [go_sem] at hc))
    | (refine g_split ?_ ?_ <;> intro hc <;> (try simp only [hc]) <;> (try simp only [go_sem] at hc)))
      refine ⟨⟨j + 1 + 1, hlt⟩, ?_, Ent.to ?_ ?_⟩ <;> first | (show _ < _; (try simp only); omega) | (simp (disch := omega) only [wkT_cons, wkX_cons, wkT_nil, wkX_nil, get, Nat.reduceEqDiff, ↓reduceIte, ex_some, wk_self, wk_top, wk_nil, wkB_self, and_self, dI, i64_in, and_true, true_and, Int.natCast_add, Int.natCast_one, Int.ofNat_zero, Int.natCast_zero,  ht])
      all_goals exact .refl _
  · have ht : ks.take i = ks := List.take_of_length_le (by omega)
    rw [ht]
    repeat' (first
    | (with_reducible refine DW.seq ?_)
    | (with_reducible refine DW.block ?_)
    | (with_reducible refine DW.skip ?_)
    | (with_reducible refine DW.exit ?_)
    | (with_reducible refine DW.ret ?_)
    | (with_reducible refine DW.reg ?_)
    | (refine DW.dreg rfl (WF.of (by first | rfl | simp (disch := omega) only [go_sem, Nat.reduceLT, Nat.reduceLeDiff, Nat.reduceAdd, Nat.reduceMul, Nat.reduceEqDiff, ↓reduceIte, reduceCtorEq, Nat.reduceBEq, Nat.reduceBNe, Nat.reducePow, Int.reduceLE, Int.reduceLT, Int.reduceNeg, Int.reduceToNat, Int.reduceEq, Int.reduceAdd, Int.reduceSub, Int.reduceMul, Int.reduceBEq, Int.reduceBNe, Blk.men, Blk.keysIn, hd])) ?_)
    | (simp (disch := omega) only [go_sem, Nat.reduceLT, Nat.reduceLeDiff, Nat.reduceAdd, Nat.reduceMul, Nat.reduceEqDiff, ↓reduceIte, reduceCtorEq, Nat.reduceBEq, Nat.reduceBNe, Nat.reducePow, Int.reduceLE, Int.reduceLT, Int.reduceNeg, Int.reduceToNat, Int.reduceEq, Int.reduceAdd, Int.reduceSub, Int.reduceMul, Int.reduceBEq, Int.reduceBNe, Blk.men, Blk.keysIn, hd])
    | (exact retS_of rfl rfl rfl)
    | (refine DW.cond_tt rfl ?_)
    | (refine DW.cond_ff rfl ?_)
    | (refine DW.cond rfl ?_ ?_ <;> intro hc <;> (try simp only [go_sem] at hc))
    | (refine g_split ?_ ?_ <;> intro hc <;> (try simp only [hc]) <;> (try simp only [go_sem] at hc)))
    (refine retS_ent (Ent.rel 9 rfl) ?_; simp (disch := omega) only [go_sem, Nat.reduceLT, Nat.reduceLeDiff, Nat.reduceAdd, Nat.reduceMul, Nat.reduceEqDiff, ↓reduceIte, reduceCtorEq, Nat.reduceBEq, Nat.reduceBNe, Nat.reducePow, Int.reduceLE, Int.reduceLT, Int.reduceNeg, Int.reduceToNat, Int.reduceEq, Int.reduceAdd, Int.reduceSub, Int.reduceMul, Int.reduceBEq, Int.reduceBNe, Blk.men, Blk.keysIn])
    refine retS_wk rfl ?_ (by simp only [Blk.nb, rowC_nb, D.nb, D.nbs, C.nb, C.nbs, C.nbss, rows_nb eI_nb, rows_nb eC_nb, rows_nb eL_nb, rows_nb eR_nb, rows_nb eS_nb, rows_nb eG_nb, Bool.and_true, Bool.not_false, Bool.and_self, bD, dI, iD, rows_nb eT_nb, rows_nb eB_nb]); exact .tup (.cons (.refl _) (.cons (.refl _) .nil))
end Go.Dw.Seat
end
section
set_option linter.unusedSimpArgs false
namespace Go.Dw.Seat
open Go Go.Dw
def laterTo (w : Warm) (more i : Nat) : List Nat := (List.range i).map fun j => pressAt w j + more
theorem laterTo_succ (w : Warm) (more i : Nat) : nL (laterTo w more (i + 1)) = nL (laterTo w more i) ++ [((pressAt w i : Nat) : Int) + (more : Int)] := by
  rw [laterTo, List.range_succ, List.map_append, nL, List.map_append]
  simp [nL, laterTo]
theorem pressTo_get {w : Warm} {n i : Nat} (h : i < n) : (pressTo w n)[i]? = some (pressAt w i) := by simp [pressTo, h]
theorem laterTo_get {w : Warm} {more n i : Nat} (h : i < n) : (laterTo w more n)[i]? = some (pressAt w i + more) := by simp [laterTo, h]
theorem nL_getI {l : List Nat} {i v : Nat} (h : l[i]? = some v) : (nL l)[i]? = some (v : Int) := by
  rw [nL, List.getElem?_map, h]; rfl
theorem roomsTo_len (w : Warm) : (roomsTo w w.n).length = w.n := by
  have := w.n_le
  simp [roomsTo]; omega
theorem truthsTo_len (w : Warm) : (truthsTo w w.n).length = w.n := by
  have := w.n_le
  simp [truthsTo]; omega
theorem warm_get {w : Warm} {i : Nat} (h : i < w.n) : ∃ v, w.rooms[i]? = some v ∧ (roomsTo w w.n)[i]? = some (roomB v) ∧ (truthsTo w w.n)[i]? = some (truthB v) := by
  have hn := w.n_le
  obtain ⟨v, hv⟩ : ∃ v, w.rooms[i]? = some v := ⟨w.rooms[i]'(by omega), by simp⟩
  refine ⟨v, hv, ?_, ?_⟩
  · rw [roomsTo, List.getElem?_map, List.getElem?_take, if_pos h, hv]; rfl
  · rw [truthsTo, List.getElem?_map, List.getElem?_take, if_pos h, hv]; rfl
theorem open_err (w : Warm) (mins : List Int) (hl : mins.length = w.n) (hm : wthn 0 2400 mins = true) : opErr (ruleW w) (roomsTo w w.n) mins = 0 := by
  have hn := w.n_le
  have hr := roomsTo_len w
  have e1 : ¬ 50 < ((roomsTo w w.n).length : Int) := by rw [hr]; omega
  have e2 : ¬ ((mins.length : Int) ≠ ((roomsTo w w.n).length : Int)) := by rw [hr, hl]; simp
  have e3 : (roomsTo w w.n).any (fun m => !roomOk m) = false := by
    rw [List.any_eq_false]
    intro m hm
    obtain ⟨v, _, rfl⟩ := List.mem_map.1 hm
    rw [roomOk_of (roomB_in v)]; simp
  simp only [opErr, ruleW_ok, if_neg e1, if_neg e2, e3, hm, Bool.true_eq_false, Bool.false_eq_true, if_false]
theorem open_out (w : Warm) (f : Room → Int) (mins : List Int) (hl : mins.length = w.n) (hm : wthn 0 2400 mins = true) : opOut f (ruleW w) (roomsTo w w.n) mins = opF f (roomsTo w w.n) mins w.n := by
  rw [opOut, if_pos (open_err w mins hl hm), roomsTo_len]
theorem wthn_of {lo hi : Int} {l : List Int} (h : ∀ v ∈ l, lo ≤ v ∧ v ≤ hi) : wthn lo hi l = true := by
  simp only [wthn, Bool.not_eq_true', List.any_eq_false, Bool.or_eq_true, decide_eq_true_eq]
  intro v hv
  have := h v hv
  omega
theorem press_wthn (w : Warm) (n : Nat) : wthn 0 2400 (nL (pressTo w n)) = true := by
  refine wthn_of (fun v hv => ?_)
  simp only [nL, pressTo, List.mem_map, List.mem_range] at hv
  obtain ⟨_, ⟨i, _, rfl⟩, rfl⟩ := hv
  have := pressAt_lt w i
  omega
theorem later_wthn (w : Warm) (more n : Nat) (h : more < 256) : wthn 0 2400 (nL (laterTo w more n)) = true := by
  refine wthn_of (fun v hv => ?_)
  simp only [nL, laterTo, List.mem_map, List.mem_range] at hv
  obtain ⟨_, ⟨i, _, rfl⟩, rfl⟩ := hv
  have := pressAt_lt w i
  omega
theorem mark_get {w : Warm} {f : Room → Int} {l : List Nat} {i u : Nat} {m : Room} (hi : i < w.n) (hm : (roomsTo w w.n)[i]? = some m) (hl : l[i]? = some u) :
    (marksN w.n (opF f (roomsTo w w.n) (nL l) w.n))[i]? = some (decide ((u : Int) < f m)) := by
  rw [marksN_get hi, opF_mem hi hm (nL_getI hl)]
theorem pressErr_zero {r : Rule} {m : Room} (hr : ruleOk r = true) (hm : roomOk m = true) : pressErr r m = 0 := by simp [pressErr, hr, hm]
end Go.Dw.Seat
end
section
set_option linter.unusedSimpArgs false
set_option maxRecDepth 100000
namespace Go.Dw.Seat
open Go Go.Dw Go.Proofs Go.IntWalk
theorem press_at {r : Rule} {m : Room} (hr : ruleOk r = true) (hm : roomOk m = true) : DCall Try.prog 41 [dR r, .agg ((eR m).map D.c)] [] (.tup [.agg [dI (pressLo r m), dI (pressHi r m)], dI 0]) [] := by
  have h := c41 r m
  rw [pressErr_zero hr hm, if_pos rfl, if_pos rfl] at h
  exact h
theorem span_at {a b lo hi : Int} (h1 : (if b < a then b else a) = lo) (h2 : (if a < b then b else a) = hi) : DCall Try.prog 58 [dI a, dI b] [] (.agg [dI lo, dI hi]) [] := by
  have h := c58 a b
  rw [h1, h2] at h
  exact h
abbrev dBs (l : List Bool) : D := .c (.sl false 1 (rows eB l))
attribute [go_sem] dBs
set_option maxHeartbeats 1600000 in
theorem c12 (b b' : Bool) (w : Warm) (more : Nat) (hw : w.ok) (hmore : more < 256) : DCall Try.prog 12 [dW b b' w, d8 more] [] (bD true) [] := by
  have hn := w.n_le
  have hro := ruleW_ok w
  have h56 := c56 b b' w hw
  have hrl := roomsTo_len w
  have htl := truthsTo_len w
  have hpl : (pressTo w w.n).length = w.n := by simp [pressTo]
  have hll : (laterTo w more w.n).length = w.n := by simp [laterTo]
  have h39a := c39 true false (ruleW w) (roomsTo w w.n) (nL (pressTo w w.n)) (by omega) (by rw [nL_length]; omega)
  rw [open_err w _ (by rw [nL_length]; exact hpl) (press_wthn w w.n), open_out w _ _ (by rw [nL_length]; exact hpl) (press_wthn w w.n), open_out w _ _ (by rw [nL_length]; exact hpl) (press_wthn w w.n)] at h39a
  have h39b := c39 true true (ruleW w) (roomsTo w w.n) (nL (laterTo w more w.n)) (by omega) (by rw [nL_length]; omega)
  rw [open_err w _ (by rw [nL_length]; exact hll) (later_wthn w more w.n hmore), open_out w _ _ (by rw [nL_length]; exact hll) (later_wthn w more w.n hmore), open_out w _ _ (by rw [nL_length]; exact hll) (later_wthn w more w.n hmore)] at h39b
  have h57 := fun (f : Room → Int) (l : List Int) => c57 false (opF f (roomsTo w w.n) l w.n) w.n (by omega) (by have := opF_len f (roomsTo w w.n) l w.n; omega) (opF_asc f _ l w.n) opF_lt
  have h57a := h57 (pressLo (ruleW w)) (nL (pressTo w w.n))
  have h57b := h57 (pressHi (ruleW w)) (nL (pressTo w w.n))
  have h57c := h57 (pressLo (ruleW w)) (nL (laterTo w more w.n))
  have h57d := h57 (pressHi (ruleW w)) (nL (laterTo w more w.n))
  have hma := fun i m (hi : i < w.n) (hm : (roomsTo w w.n)[i]? = some m) => mark_get (f := pressLo (ruleW w)) hi hm (pressTo_get (w := w) hi)
  have hmb := fun i m (hi : i < w.n) (hm : (roomsTo w w.n)[i]? = some m) => mark_get (f := pressHi (ruleW w)) hi hm (pressTo_get (w := w) hi)
  have hmc := fun i m (hi : i < w.n) (hm : (roomsTo w w.n)[i]? = some m) => mark_get (f := pressLo (ruleW w)) hi hm (laterTo_get (w := w) (more := more) hi)
  have hmd := fun i m (hi : i < w.n) (hm : (roomsTo w w.n)[i]? = some m) => mark_get (f := pressHi (ruleW w)) hi hm (laterTo_get (w := w) (more := more) hi)
  have hget := fun i (hi : i < w.n) => warm_get hi
  have h38 := c38 false (nL (pressTo w w.n)) (by rw [nL_length]; omega)
  clear h57
  generalize ruleW w = r at *
  generalize marksN w.n (opF (pressLo r) (roomsTo w w.n) (nL (pressTo w w.n)) w.n) = ma at *
  generalize marksN w.n (opF (pressHi r) (roomsTo w w.n) (nL (pressTo w w.n)) w.n) = mb at *
  generalize marksN w.n (opF (pressLo r) (roomsTo w w.n) (nL (laterTo w more w.n)) w.n) = mc at *
  generalize marksN w.n (opF (pressHi r) (roomsTo w w.n) (nL (laterTo w more w.n)) w.n) = md at *
  generalize opF (pressLo r) (roomsTo w w.n) (nL (pressTo w w.n)) w.n = oa at *
  generalize opF (pressHi r) (roomsTo w w.n) (nL (pressTo w w.n)) w.n = ob at *
  generalize opF (pressLo r) (roomsTo w w.n) (nL (laterTo w more w.n)) w.n = oc at *
  generalize opF (pressHi r) (roomsTo w w.n) (nL (laterTo w more w.n)) w.n = od at *
  obtain ⟨r1, r2, r3⟩ := ruleOk_in hro
  generalize hrs : roomsTo w w.n = rs at *
  generalize hts : truthsTo w w.n = ts at *
  refine DCall.of Try.func12 sf12 hb12 (Nat.le_of_ble_eq_true rfl) (okRes_nil fun _ => rfl) ?_; simp only [s12, idxs, Nat.reduceAdd]
  repeat' (first
    | (with_reducible refine DW.seq ?_)
    | (with_reducible refine DW.block ?_)
    | (with_reducible refine DW.skip ?_)
    | (with_reducible refine DW.exit ?_)
    | (with_reducible refine DW.ret ?_)
    | (with_reducible refine DW.reg ?_)
    | (refine DW.dreg rfl (WF.of (by first | rfl | simp (disch := omega) only [go_sem, Nat.reduceLT, Nat.reduceLeDiff, Nat.reduceAdd, Nat.reduceMul, Nat.reduceEqDiff, ↓reduceIte, reduceCtorEq, Nat.reduceBEq, Nat.reduceBNe, Nat.reducePow, Int.reduceLE, Int.reduceLT, Int.reduceNeg, Int.reduceToNat, Int.reduceEq, Int.reduceAdd, Int.reduceSub, Int.reduceMul, Int.reduceBEq, Int.reduceBNe, Blk.men, Blk.keysIn])) ?_)
    | (refine DW.ord rfl (WF.of (by first | rfl | simp (disch := omega) only [go_sem, Nat.reduceLT, Nat.reduceLeDiff, Nat.reduceAdd, Nat.reduceMul, Nat.reduceEqDiff, ↓reduceIte, reduceCtorEq, Nat.reduceBEq, Nat.reduceBNe, Nat.reducePow, Int.reduceLE, Int.reduceLT, Int.reduceNeg, Int.reduceToNat, Int.reduceEq, Int.reduceAdd, Int.reduceSub, Int.reduceMul, Int.reduceBEq, Int.reduceBNe, Blk.men, Blk.keysIn])) ?_ ?_ ?_; rotate_left)
    | rfl
    | (with_reducible refine And.intro ?_ ?_)
    | (simp (disch := omega) only [go_sem, Nat.reduceLT, Nat.reduceLeDiff, Nat.reduceAdd, Nat.reduceMul, Nat.reduceEqDiff, ↓reduceIte, reduceCtorEq, Nat.reduceBEq, Nat.reduceBNe, Nat.reducePow, Int.reduceLE, Int.reduceLT, Int.reduceNeg, Int.reduceToNat, Int.reduceEq, Int.reduceAdd, Int.reduceSub, Int.reduceMul, Int.reduceBEq, Int.reduceBNe, Blk.men, Blk.keysIn])
    | (exact retS_of rfl rfl rfl)
    | (refine DW.cond_tt rfl ?_)
    | (refine call_c (h56) (by decide) ?_)
    | (refine call_c (h38) (by decide) ?_)
    | (refine call_c (h39a) (by decide) ?_)
    | (refine DW.cond_ff rfl ?_)
    | (refine DW.cond rfl ?_ ?_ <;> intro hc <;> (try simp only [go_sem] at hc))
    | (refine g_split ?_ ?_ <;> intro hc <;> (try simp only [hc]) <;> (try simp only [go_sem] at hc)))
  refine DW.loop (ι := { i : Nat // i ≤ w.n }) (fun i => ⟨289, [(13, dI i.1), (12, .own 55), (11, dI 0), (10, dIs false (nL ob)), (9, dIs false (nL oa)), (8, dIs false (nL (pressTo w w.n))), (7, .c (.sl false 2 (rows eT ts))), (6, .c (.sl false 4 (rows eR rs))), (5, .box 5 0), (1, d8 more)],
    [(55, .row 1 (rowC (rows eI (nL (laterTo w more i.1))))), (5, .box [dI r.mins, dI r.deg, dI r.damp])]⟩) (fun i => w.n - i.1) ⟨0, Nat.zero_le _⟩ ?_ ?_
  · refine Ent.to ?_ ?_ <;> simp (disch := omega) only [wkT_cons, wkX_cons, wkT_nil, wkX_nil, get, Nat.reduceEqDiff, ↓reduceIte, ex_some, wk_self, wk_top, wk_nil, wkB_self, and_self, dI, i64_in, and_true, true_and, Int.natCast_add, Int.natCast_one, Int.ofNat_zero, Int.natCast_zero, d8]
    all_goals exact .refl _
  rintro ⟨i, hi⟩
  rcases Nat.lt_or_ge i w.n with hlt | hge
  · have hd : decide ((i : Int) < (w.n : Int)) = true := by rw [decide_eq_true_eq]; omega
    have hu := pressTo_get (w := w) hlt
    have hul := pressAt_lt w i
    have hs := laterTo_succ w more i
    have hl1 : (nL (laterTo w more i)).length ≤ 20 := by rw [nL_length]; simp [laterTo]; omega
    generalize pressAt w i = u at *
    generalize nL (laterTo w more i) = la at *
    repeat' (first
    | (with_reducible refine DW.seq ?_)
    | (with_reducible refine DW.block ?_)
    | (with_reducible refine DW.skip ?_)
    | (with_reducible refine DW.exit ?_)
    | (with_reducible refine DW.ret ?_)
    | (with_reducible refine DW.reg ?_)
    | (refine DW.dreg rfl (WF.of (by first | rfl | simp (disch := omega) only [go_sem, Nat.reduceLT, Nat.reduceLeDiff, Nat.reduceAdd, Nat.reduceMul, Nat.reduceEqDiff, ↓reduceIte, reduceCtorEq, Nat.reduceBEq, Nat.reduceBNe, Nat.reducePow, Int.reduceLE, Int.reduceLT, Int.reduceNeg, Int.reduceToNat, Int.reduceEq, Int.reduceAdd, Int.reduceSub, Int.reduceMul, Int.reduceBEq, Int.reduceBNe, Blk.men, Blk.keysIn, hpl, hd, hu])) ?_)
    | (refine DW.ord rfl (WF.of (by first | rfl | simp (disch := omega) only [go_sem, Nat.reduceLT, Nat.reduceLeDiff, Nat.reduceAdd, Nat.reduceMul, Nat.reduceEqDiff, ↓reduceIte, reduceCtorEq, Nat.reduceBEq, Nat.reduceBNe, Nat.reducePow, Int.reduceLE, Int.reduceLT, Int.reduceNeg, Int.reduceToNat, Int.reduceEq, Int.reduceAdd, Int.reduceSub, Int.reduceMul, Int.reduceBEq, Int.reduceBNe, Blk.men, Blk.keysIn, hpl, hd, hu])) ?_ ?_ ?_; rotate_left)
    | rfl
    | (with_reducible refine And.intro ?_ ?_)
    | (simp (disch := omega) only [go_sem, Nat.reduceLT, Nat.reduceLeDiff, Nat.reduceAdd, Nat.reduceMul, Nat.reduceEqDiff, ↓reduceIte, reduceCtorEq, Nat.reduceBEq, Nat.reduceBNe, Nat.reducePow, Int.reduceLE, Int.reduceLT, Int.reduceNeg, Int.reduceToNat, Int.reduceEq, Int.reduceAdd, Int.reduceSub, Int.reduceMul, Int.reduceBEq, Int.reduceBNe, Blk.men, Blk.keysIn, hpl, hd, hu])
    | (exact retS_of rfl rfl rfl)
    | (refine DW.cond_tt rfl ?_)
    | (refine DW.cond_ff rfl ?_)
    | (refine DW.cond rfl ?_ ?_ <;> intro hc <;> (try simp only [go_sem] at hc))
    | (refine g_split ?_ ?_ <;> intro hc <;> (try simp only [hc]) <;> (try simp only [go_sem] at hc)))
    refine ⟨⟨i + 1, hlt⟩, ?_, Ent.to ?_ ?_⟩ <;> first | (show _ < _; (try simp only); omega) | (simp (disch := omega) only [wkT_cons, wkX_cons, wkT_nil, wkX_nil, get, Nat.reduceEqDiff, ↓reduceIte, ex_some, wk_self, wk_top, wk_nil, wkB_self, and_self, dI, i64_in, and_true, true_and, Int.natCast_add, Int.natCast_one, Int.ofNat_zero, Int.natCast_zero,  hs, d8])
    all_goals exact .refl _
  · obtain rfl : i = w.n := by omega
    have hd : decide ((w.n : Int) < (w.n : Int)) = false := by rw [decide_eq_false_iff_not]; omega
    generalize hla : nL (laterTo w more w.n) = la at *
    repeat' (first
    | (with_reducible refine DW.seq ?_)
    | (with_reducible refine DW.block ?_)
    | (with_reducible refine DW.skip ?_)
    | (with_reducible refine DW.exit ?_)
    | (with_reducible refine DW.ret ?_)
    | (with_reducible refine DW.reg ?_)
    | (refine DW.dreg rfl (WF.of (by first | rfl | simp (disch := omega) only [go_sem, Nat.reduceLT, Nat.reduceLeDiff, Nat.reduceAdd, Nat.reduceMul, Nat.reduceEqDiff, ↓reduceIte, reduceCtorEq, Nat.reduceBEq, Nat.reduceBNe, Nat.reducePow, Int.reduceLE, Int.reduceLT, Int.reduceNeg, Int.reduceToNat, Int.reduceEq, Int.reduceAdd, Int.reduceSub, Int.reduceMul, Int.reduceBEq, Int.reduceBNe, Blk.men, Blk.keysIn, hpl, hd, hrl])) ?_)
    | (refine DW.ord rfl (WF.of (by first | rfl | simp (disch := omega) only [go_sem, Nat.reduceLT, Nat.reduceLeDiff, Nat.reduceAdd, Nat.reduceMul, Nat.reduceEqDiff, ↓reduceIte, reduceCtorEq, Nat.reduceBEq, Nat.reduceBNe, Nat.reducePow, Int.reduceLE, Int.reduceLT, Int.reduceNeg, Int.reduceToNat, Int.reduceEq, Int.reduceAdd, Int.reduceSub, Int.reduceMul, Int.reduceBEq, Int.reduceBNe, Blk.men, Blk.keysIn, hpl, hd, hrl])) ?_ ?_ ?_; rotate_left)
    | rfl
    | (with_reducible refine And.intro ?_ ?_)
    | (simp (disch := omega) only [go_sem, Nat.reduceLT, Nat.reduceLeDiff, Nat.reduceAdd, Nat.reduceMul, Nat.reduceEqDiff, ↓reduceIte, reduceCtorEq, Nat.reduceBEq, Nat.reduceBNe, Nat.reducePow, Int.reduceLE, Int.reduceLT, Int.reduceNeg, Int.reduceToNat, Int.reduceEq, Int.reduceAdd, Int.reduceSub, Int.reduceMul, Int.reduceBEq, Int.reduceBNe, Blk.men, Blk.keysIn, hpl, hd, hrl])
    | (exact retS_of rfl rfl rfl)
    | (refine DW.cond_tt rfl ?_)
    | (refine call_c (h39b) (by decide) ?_)
    | (refine call_c (h57a) (by decide) ?_)
    | (refine call_c (h57b) (by decide) ?_)
    | (refine call_c (h57c) (by decide) ?_)
    | (refine call_c (h57d) (by decide) ?_)
    | (refine DW.cond_ff rfl ?_)
    | (refine DW.cond rfl ?_ ?_ <;> intro hc <;> (try simp only [go_sem] at hc))
    | (refine g_split ?_ ?_ <;> intro hc <;> (try simp only [hc]) <;> (try simp only [go_sem] at hc)))
    clear hla h39a h39b h57a h57b h57c h57d
    refine DW.loop (ι := { i : Nat // i ≤ w.n }) (fun i => ⟨289, [(25, dI i.1), (23, dBs md), (21, dBs mc), (19, dBs mb), (17, dBs ma), (8, dIs false (nL (pressTo w w.n))), (7, .c (.sl false 2 (rows eT ts))), (6, .c (.sl false 4 (rows eR rs))), (5, .box 5 0)], [(5, .box [dI r.mins, dI r.deg, dI r.damp])]⟩) (fun i => w.n - i.1) ⟨0, Nat.zero_le _⟩ ?_ ?_
    · refine Ent.to ?_ ?_ <;> simp (disch := omega) only [wkT_cons, wkX_cons, wkT_nil, wkX_nil, get, Nat.reduceEqDiff, ↓reduceIte, ex_some, wk_self, wk_top, wk_nil, wkB_self, and_self, dI, i64_in, and_true, true_and, Int.natCast_add, Int.natCast_one, Int.ofNat_zero, Int.natCast_zero]
      all_goals exact .refl _
    rintro ⟨i, hi⟩
    rcases Nat.lt_or_ge i w.n with hlt | hge
    · have hdi : decide ((i : Int) < (w.n : Int)) = true := by rw [decide_eq_true_eq]; omega
      obtain ⟨v, _, hrm, htm⟩ := hget i hlt
      have ga := hma i _ hlt hrm
      have gb := hmb i _ hlt hrm
      have gc := hmc i _ hlt hrm
      have gd := hmd i _ hlt hrm
      have hu := pressTo_get (w := w) hlt
      have hrin := roomB_in v
      have htin := truthB_in v
      have hmo := roomOk_of hrin
      generalize roomB v = m at *
      generalize truthB v = tt at *
      obtain ⟨tw, td⟩ := tt
      simp only at htin
      generalize pressAt w i = u at *
      have h41a := press_at hro hmo
      have htw : 0 ≤ tw ∧ tw ≤ 30 := by omega
      have htd : 0 ≤ td ∧ td ≤ 100 := by omega
      have h58a := span_at (a := tw) (b := tw) (lo := tw) (hi := tw) (by simp) (by simp)
      have h58b := span_at (a := td) (b := td) (lo := td) (hi := td) (by simp) (by simp)
      have h58c := span_at (a := tw) (b := 30) (lo := tw) (hi := 30) (by split <;> omega) (by split <;> omega)
      have h58d := span_at (a := 0) (b := td) (lo := 0) (hi := td) (by split <;> omega) (by split <;> omega)
      have h58e := span_at (a := timeI r tw td) (b := timeI r tw td) (lo := timeI r tw td) (hi := timeI r tw td) (by simp) (by simp)
      have h41b := press_at (m := ⟨tw, tw, td, td⟩) hro (roomOk_of ⟨⟨htw.1, Int.le_refl _, htw.2⟩, htd.1, Int.le_refl _, htd.2⟩)
      have h41c := press_at (m := ⟨tw, 30, 0, td⟩) hro (roomOk_of ⟨⟨htw.1, htw.2, Int.le_refl _⟩, Int.le_refl _, htd.1, htd.2⟩)
      have x1 : pressLo r m ≤ timeI r tw td := time_mono hro htin.1.2 htin.2.1
      have x2 : timeI r tw td ≤ pressHi r m := time_mono hro htin.1.1 htin.2.2
      have x3 : pressLo r ⟨tw, 30, 0, td⟩ ≤ timeI r tw td := time_mono hro htw.2 htd.1
      have x4 : pressHi r ⟨tw, 30, 0, td⟩ = timeI r tw td := rfl
      have x5 : pressLo r ⟨tw, tw, td, td⟩ = timeI r tw td := rfl
      have x6 : pressHi r ⟨tw, tw, td, td⟩ = timeI r tw td := rfl
      have e1 := mulB r2 htw
      have e2 := mulB r3 htd
      have e3 := mulB (show 0 ≤ r.mins ∧ r.mins ≤ 600 by omega) (show 0 ≤ 1000 - r.deg * tw + r.damp * td ∧ 1000 - r.deg * tw + r.damp * td ≤ 3000 by omega)
      have hU := prU_time hro htw htd
      rw [prU] at hU
      rw [x4] at h41c
      rw [x5, x6] at h41b
      generalize hti : timeI r tw td = time at *
      generalize pressLo r m = lo at *
      generalize pressHi r m = hh at *
      generalize pressLo r ⟨tw, 30, 0, td⟩ = lo2 at *
      repeat' (first
    | (with_reducible refine DW.seq ?_)
    | (with_reducible refine DW.block ?_)
    | (with_reducible refine DW.skip ?_)
    | (with_reducible refine DW.exit ?_)
    | (with_reducible refine DW.ret ?_)
    | (with_reducible refine DW.reg ?_)
    | (refine DW.dreg rfl (WF.of (by first | rfl | simp (disch := omega) only [go_sem, Nat.reduceLT, Nat.reduceLeDiff, Nat.reduceAdd, Nat.reduceMul, Nat.reduceEqDiff, ↓reduceIte, reduceCtorEq, Nat.reduceBEq, Nat.reduceBNe, Nat.reducePow, Int.reduceLE, Int.reduceLT, Int.reduceNeg, Int.reduceToNat, Int.reduceEq, Int.reduceAdd, Int.reduceSub, Int.reduceMul, Int.reduceBEq, Int.reduceBNe, Blk.men, Blk.keysIn, hrl, hdi, hrm])) ?_)
    | (refine DW.ord rfl (WF.of (by first | rfl | simp (disch := omega) only [go_sem, Nat.reduceLT, Nat.reduceLeDiff, Nat.reduceAdd, Nat.reduceMul, Nat.reduceEqDiff, ↓reduceIte, reduceCtorEq, Nat.reduceBEq, Nat.reduceBNe, Nat.reducePow, Int.reduceLE, Int.reduceLT, Int.reduceNeg, Int.reduceToNat, Int.reduceEq, Int.reduceAdd, Int.reduceSub, Int.reduceMul, Int.reduceBEq, Int.reduceBNe, Blk.men, Blk.keysIn, hrl, hdi, hrm])) ?_ ?_ ?_; rotate_left)
    | rfl
    | (with_reducible refine And.intro ?_ ?_)
    | (simp (disch := omega) only [go_sem, Nat.reduceLT, Nat.reduceLeDiff, Nat.reduceAdd, Nat.reduceMul, Nat.reduceEqDiff, ↓reduceIte, reduceCtorEq, Nat.reduceBEq, Nat.reduceBNe, Nat.reducePow, Int.reduceLE, Int.reduceLT, Int.reduceNeg, Int.reduceToNat, Int.reduceEq, Int.reduceAdd, Int.reduceSub, Int.reduceMul, Int.reduceBEq, Int.reduceBNe, Blk.men, Blk.keysIn, hrl, hdi, hrm])
    | (exact retS_of rfl rfl rfl)
    | (refine DW.cond_tt rfl ?_)
    | (refine call_c (h41a) (by decide) ?_)
    | (refine DW.cond_ff rfl ?_)
    | (refine DW.cond rfl ?_ ?_ <;> intro hc <;> (try simp only [go_sem] at hc))
    | (refine g_split ?_ ?_ <;> intro hc <;> (try simp only [hc]) <;> (try simp only [go_sem] at hc)))
      simp (disch := omega) only [go_sem, Nat.reduceLT, Nat.reduceLeDiff, Nat.reduceAdd, Nat.reduceMul, Nat.reduceEqDiff, ↓reduceIte, reduceCtorEq, Nat.reduceBEq, Nat.reduceBNe, Nat.reducePow, Int.reduceLE, Int.reduceLT, Int.reduceNeg, Int.reduceToNat, Int.reduceEq, Int.reduceAdd, Int.reduceSub, Int.reduceMul, Int.reduceBEq, Int.reduceBNe, Blk.men, Blk.keysIn, htm]
      refine DW.seq (DW.reg ?_)
      simp (disch := omega) only [go_sem, Nat.reduceLT, Nat.reduceLeDiff, Nat.reduceAdd, Nat.reduceMul, Nat.reduceEqDiff, ↓reduceIte, reduceCtorEq, Nat.reduceBEq, Nat.reduceBNe, Nat.reducePow, Int.reduceLE, Int.reduceLT, Int.reduceNeg, Int.reduceToNat, Int.reduceEq, Int.reduceAdd, Int.reduceSub, Int.reduceMul, Int.reduceBEq, Int.reduceBNe, Blk.men, Blk.keysIn]
      refine DW.seq (DW.reg ?_)
      simp (disch := omega) only [go_sem, Nat.reduceLT, Nat.reduceLeDiff, Nat.reduceAdd, Nat.reduceMul, Nat.reduceEqDiff, ↓reduceIte, reduceCtorEq, Nat.reduceBEq, Nat.reduceBNe, Nat.reducePow, Int.reduceLE, Int.reduceLT, Int.reduceNeg, Int.reduceToNat, Int.reduceEq, Int.reduceAdd, Int.reduceSub, Int.reduceMul, Int.reduceBEq, Int.reduceBNe, Blk.men, Blk.keysIn, i64_quo]
      refine DW.cut ⟨289, [(31, dI time), (29, dI td), (28, dI tw), (27, dI 0), (26, .box 26 0), (25, dI i), (23, dBs md), (21, dBs mc), (19, dBs mb), (17, dBs ma), (8, dIs false (nL (pressTo w w.n))), (7, .c (.sl false 2 (rows eT ts))), (6, .c (.sl false 4 (rows eR rs))), (5, .box 5 0)], [(26, .box [dI lo, dI hh]), (5, .box [dI r.mins, dI r.deg, dI r.damp])]⟩ ?_ ?_
      · repeat' (first
    | (with_reducible refine DW.seq ?_)
    | (with_reducible refine DW.block ?_)
    | (with_reducible refine DW.skip ?_)
    | (with_reducible refine DW.exit ?_)
    | (with_reducible refine DW.ret ?_)
    | (with_reducible refine DW.reg ?_)
    | (refine DW.dreg rfl (WF.of (by first | rfl | simp (disch := omega) only [go_sem, Nat.reduceLT, Nat.reduceLeDiff, Nat.reduceAdd, Nat.reduceMul, Nat.reduceEqDiff, ↓reduceIte, reduceCtorEq, Nat.reduceBEq, Nat.reduceBNe, Nat.reducePow, Int.reduceLE, Int.reduceLT, Int.reduceNeg, Int.reduceToNat, Int.reduceEq, Int.reduceAdd, Int.reduceSub, Int.reduceMul, Int.reduceBEq, Int.reduceBNe, Blk.men, Blk.keysIn])) ?_)
    | (refine DW.ord rfl (WF.of (by first | rfl | simp (disch := omega) only [go_sem, Nat.reduceLT, Nat.reduceLeDiff, Nat.reduceAdd, Nat.reduceMul, Nat.reduceEqDiff, ↓reduceIte, reduceCtorEq, Nat.reduceBEq, Nat.reduceBNe, Nat.reducePow, Int.reduceLE, Int.reduceLT, Int.reduceNeg, Int.reduceToNat, Int.reduceEq, Int.reduceAdd, Int.reduceSub, Int.reduceMul, Int.reduceBEq, Int.reduceBNe, Blk.men, Blk.keysIn])) ?_ ?_ ?_; rotate_left)
    | rfl
    | (with_reducible refine And.intro ?_ ?_)
    | (simp (disch := omega) only [go_sem, Nat.reduceLT, Nat.reduceLeDiff, Nat.reduceAdd, Nat.reduceMul, Nat.reduceEqDiff, ↓reduceIte, reduceCtorEq, Nat.reduceBEq, Nat.reduceBNe, Nat.reducePow, Int.reduceLE, Int.reduceLT, Int.reduceNeg, Int.reduceToNat, Int.reduceEq, Int.reduceAdd, Int.reduceSub, Int.reduceMul, Int.reduceBEq, Int.reduceBNe, Blk.men, Blk.keysIn])
    | (exact retS_of rfl rfl rfl)
    | (refine DW.cond_tt rfl ?_)
    | (refine DW.cond_ff rfl ?_)
    | (refine DW.cond rfl ?_ ?_ <;> intro hc <;> (try simp only [go_sem] at hc))
    | (refine g_split ?_ ?_ <;> intro hc <;> (try simp only [hc]) <;> (try simp only [go_sem] at hc)))
        · have hU1 := (if_pos hc).symm.trans hU
          refine Ent.to ?_ ?_ <;> simp (disch := omega) only [wkT_cons, wkX_cons, wkT_nil, wkX_nil, get, Nat.reduceEqDiff, ↓reduceIte, ex_some, wk_self, wk_top, wk_nil, wkB_self, and_self, dI, i64_in, and_true, true_and, Int.natCast_add, Int.natCast_one, Int.ofNat_zero, Int.natCast_zero, hU1]
          all_goals exact .refl _
        · have hU1 := (if_neg (by omega)).symm.trans hU
          refine Ent.to ?_ ?_ <;> simp (disch := omega) only [wkT_cons, wkX_cons, wkT_nil, wkX_nil, get, Nat.reduceEqDiff, ↓reduceIte, ex_some, wk_self, wk_top, wk_nil, wkB_self, and_self, dI, i64_in, and_true, true_and, Int.natCast_add, Int.natCast_one, Int.ofNat_zero, Int.natCast_zero, hU1]
          all_goals exact .refl _
      have d1 : decide (time < lo) = false := by rw [decide_eq_false_iff_not]; omega
      have d2 : decide (hh < time) = false := by rw [decide_eq_false_iff_not]; omega
      repeat' (first
    | (with_reducible refine DW.seq ?_)
    | (with_reducible refine DW.block ?_)
    | (with_reducible refine DW.skip ?_)
    | (with_reducible refine DW.exit ?_)
    | (with_reducible refine DW.ret ?_)
    | (with_reducible refine DW.reg ?_)
    | (refine DW.dreg rfl (WF.of (by first | rfl | simp (disch := omega) only [go_sem, Nat.reduceLT, Nat.reduceLeDiff, Nat.reduceAdd, Nat.reduceMul, Nat.reduceEqDiff, ↓reduceIte, reduceCtorEq, Nat.reduceBEq, Nat.reduceBNe, Nat.reducePow, Int.reduceLE, Int.reduceLT, Int.reduceNeg, Int.reduceToNat, Int.reduceEq, Int.reduceAdd, Int.reduceSub, Int.reduceMul, Int.reduceBEq, Int.reduceBNe, Blk.men, Blk.keysIn, d1, d2])) ?_)
    | (refine DW.ord rfl (WF.of (by first | rfl | simp (disch := omega) only [go_sem, Nat.reduceLT, Nat.reduceLeDiff, Nat.reduceAdd, Nat.reduceMul, Nat.reduceEqDiff, ↓reduceIte, reduceCtorEq, Nat.reduceBEq, Nat.reduceBNe, Nat.reducePow, Int.reduceLE, Int.reduceLT, Int.reduceNeg, Int.reduceToNat, Int.reduceEq, Int.reduceAdd, Int.reduceSub, Int.reduceMul, Int.reduceBEq, Int.reduceBNe, Blk.men, Blk.keysIn, d1, d2])) ?_ ?_ ?_; rotate_left)
    | rfl
    | (with_reducible refine And.intro ?_ ?_)
    | (simp (disch := omega) only [go_sem, Nat.reduceLT, Nat.reduceLeDiff, Nat.reduceAdd, Nat.reduceMul, Nat.reduceEqDiff, ↓reduceIte, reduceCtorEq, Nat.reduceBEq, Nat.reduceBNe, Nat.reducePow, Int.reduceLE, Int.reduceLT, Int.reduceNeg, Int.reduceToNat, Int.reduceEq, Int.reduceAdd, Int.reduceSub, Int.reduceMul, Int.reduceBEq, Int.reduceBNe, Blk.men, Blk.keysIn, d1, d2])
    | (exact retS_of rfl rfl rfl)
    | (refine DW.cond_tt rfl ?_)
    | (refine DW.cond_ff rfl ?_)
    | (refine DW.cond rfl ?_ ?_ <;> intro hc <;> (try simp only [go_sem] at hc))
    | (refine g_split ?_ ?_ <;> intro hc <;> (try simp only [hc]) <;> (try simp only [go_sem] at hc)))
      simp (disch := omega) only [go_sem, Nat.reduceLT, Nat.reduceLeDiff, Nat.reduceAdd, Nat.reduceMul, Nat.reduceEqDiff, ↓reduceIte, reduceCtorEq, Nat.reduceBEq, Nat.reduceBNe, Nat.reducePow, Int.reduceLE, Int.reduceLT, Int.reduceNeg, Int.reduceToNat, Int.reduceEq, Int.reduceAdd, Int.reduceSub, Int.reduceMul, Int.reduceBEq, Int.reduceBNe, Blk.men, Blk.keysIn, hu]
      refine DW.cut ⟨289, [(31, dI time), (29, dI td), (28, dI tw), (25, dI i), (23, dBs md), (21, dBs mc), (19, dBs mb), (17, dBs ma), (8, dIs false (nL (pressTo w w.n))), (7, .c (.sl false 2 (rows eT ts))), (6, .c (.sl false 4 (rows eR rs))), (5, .box 5 0)], [(5, .box [dI r.mins, dI r.deg, dI r.damp])]⟩ ?_ ?_
      · clear hma hmb hmc hmd hget h41a h41b h41c h58a h58b h58c h58d h58e e1 e2 e3 hU
        rcases Int.lt_or_le (u : Int) lo with a1 | a1 <;> rcases Int.lt_or_le (u : Int) time with a2 | a2 <;> rcases Int.lt_or_le (u : Int) hh with a3 | a3 <;> rcases Int.lt_or_le ((u + more : Nat) : Int) lo with a4 | a4 <;> rcases Int.lt_or_le ((u + more : Nat) : Int) hh with a5 | a5
        all_goals (try (exfalso; omega))
        all_goals first | rw [decide_eq_true a1] at ga | rw [decide_eq_false (Int.not_lt.2 a1)] at ga
        all_goals first | rw [decide_eq_true a3] at gb | rw [decide_eq_false (Int.not_lt.2 a3)] at gb
        all_goals first | rw [decide_eq_true a4] at gc | rw [decide_eq_false (Int.not_lt.2 a4)] at gc
        all_goals first | rw [decide_eq_true a5] at gd | rw [decide_eq_false (Int.not_lt.2 a5)] at gd
        all_goals first | (have z2 : decide ((u : Int) < time) = true := decide_eq_true a2) | (have z2 : decide ((u : Int) < time) = false := decide_eq_false (Int.not_lt.2 a2))
        repeat' (first
    | (with_reducible refine DW.seq ?_)
    | (with_reducible refine DW.block ?_)
    | (with_reducible refine DW.skip ?_)
    | (with_reducible refine DW.exit ?_)
    | (with_reducible refine DW.ret ?_)
    | (with_reducible refine DW.reg ?_)
    | (refine DW.dreg rfl (WF.of (by first | rfl | simp (disch := omega) only [go_sem, Nat.reduceLT, Nat.reduceLeDiff, Nat.reduceAdd, Nat.reduceMul, Nat.reduceEqDiff, ↓reduceIte, reduceCtorEq, Nat.reduceBEq, Nat.reduceBNe, Nat.reducePow, Int.reduceLE, Int.reduceLT, Int.reduceNeg, Int.reduceToNat, Int.reduceEq, Int.reduceAdd, Int.reduceSub, Int.reduceMul, Int.reduceBEq, Int.reduceBNe, Blk.men, Blk.keysIn, ga, gb, gc, gd, z2])) ?_)
    | (refine DW.ord rfl (WF.of (by first | rfl | simp (disch := omega) only [go_sem, Nat.reduceLT, Nat.reduceLeDiff, Nat.reduceAdd, Nat.reduceMul, Nat.reduceEqDiff, ↓reduceIte, reduceCtorEq, Nat.reduceBEq, Nat.reduceBNe, Nat.reducePow, Int.reduceLE, Int.reduceLT, Int.reduceNeg, Int.reduceToNat, Int.reduceEq, Int.reduceAdd, Int.reduceSub, Int.reduceMul, Int.reduceBEq, Int.reduceBNe, Blk.men, Blk.keysIn, ga, gb, gc, gd, z2])) ?_ ?_ ?_; rotate_left)
    | rfl
    | (with_reducible refine And.intro ?_ ?_)
    | (simp (disch := omega) only [go_sem, Nat.reduceLT, Nat.reduceLeDiff, Nat.reduceAdd, Nat.reduceMul, Nat.reduceEqDiff, ↓reduceIte, reduceCtorEq, Nat.reduceBEq, Nat.reduceBNe, Nat.reducePow, Int.reduceLE, Int.reduceLT, Int.reduceNeg, Int.reduceToNat, Int.reduceEq, Int.reduceAdd, Int.reduceSub, Int.reduceMul, Int.reduceBEq, Int.reduceBNe, Blk.men, Blk.keysIn, ga, gb, gc, gd, z2])
    | (exact retS_of rfl rfl rfl)
    | (refine DW.cond_tt rfl ?_)
    | (refine DW.cond_ff rfl ?_)
    | (refine DW.cond rfl ?_ ?_ <;> intro hc <;> (try simp only [go_sem] at hc))
    | (refine g_split ?_ ?_ <;> intro hc <;> (try simp only [hc]) <;> (try simp only [go_sem] at hc)))
        all_goals refine Ent.to ?_ ?_ <;> simp (disch := omega) only [wkT_cons, wkX_cons, wkT_nil, wkX_nil, get, Nat.reduceEqDiff, ↓reduceIte, ex_some, wk_self, wk_top, wk_nil, wkB_self, and_self, dI, i64_in, and_true, true_and, Int.natCast_add, Int.natCast_one, Int.ofNat_zero, Int.natCast_zero]
        all_goals exact .refl _
      have y1 : (time == time) = true := beq_self_eq_true time
      have y2 : (time != time) = false := bne_self_eq_false time
      have y3 : decide (time < lo2) = false := by rw [decide_eq_false_iff_not]; omega
      repeat' (first
    | (with_reducible refine DW.seq ?_)
    | (with_reducible refine DW.block ?_)
    | (with_reducible refine DW.skip ?_)
    | (with_reducible refine DW.exit ?_)
    | (with_reducible refine DW.ret ?_)
    | (with_reducible refine DW.reg ?_)
    | (refine DW.dreg rfl (WF.of (by first | rfl | simp (disch := omega) only [go_sem, Nat.reduceLT, Nat.reduceLeDiff, Nat.reduceAdd, Nat.reduceMul, Nat.reduceEqDiff, ↓reduceIte, reduceCtorEq, Nat.reduceBEq, Nat.reduceBNe, Nat.reducePow, Int.reduceLE, Int.reduceLT, Int.reduceNeg, Int.reduceToNat, Int.reduceEq, Int.reduceAdd, Int.reduceSub, Int.reduceMul, Int.reduceBEq, Int.reduceBNe, Blk.men, Blk.keysIn, y1, y2, y3])) ?_)
    | (refine DW.ord rfl (WF.of (by first | rfl | simp (disch := omega) only [go_sem, Nat.reduceLT, Nat.reduceLeDiff, Nat.reduceAdd, Nat.reduceMul, Nat.reduceEqDiff, ↓reduceIte, reduceCtorEq, Nat.reduceBEq, Nat.reduceBNe, Nat.reducePow, Int.reduceLE, Int.reduceLT, Int.reduceNeg, Int.reduceToNat, Int.reduceEq, Int.reduceAdd, Int.reduceSub, Int.reduceMul, Int.reduceBEq, Int.reduceBNe, Blk.men, Blk.keysIn, y1, y2, y3])) ?_ ?_ ?_; rotate_left)
    | rfl
    | (with_reducible refine And.intro ?_ ?_)
    | (simp (disch := omega) only [go_sem, Nat.reduceLT, Nat.reduceLeDiff, Nat.reduceAdd, Nat.reduceMul, Nat.reduceEqDiff, ↓reduceIte, reduceCtorEq, Nat.reduceBEq, Nat.reduceBNe, Nat.reducePow, Int.reduceLE, Int.reduceLT, Int.reduceNeg, Int.reduceToNat, Int.reduceEq, Int.reduceAdd, Int.reduceSub, Int.reduceMul, Int.reduceBEq, Int.reduceBNe, Blk.men, Blk.keysIn, y1, y2, y3])
    | (exact retS_of rfl rfl rfl)
    | (refine DW.cond_tt rfl ?_)
    | (refine call_c (h58a) (by decide) ?_)
    | (refine call_c (h58b) (by decide) ?_)
    | (refine call_c (h58c) (by decide) ?_)
    | (refine call_c (h58d) (by decide) ?_)
    | (refine call_c (h58e) (by decide) ?_)
    | (refine call_c (h41b) (by decide) ?_)
    | (refine call_c (h41c) (by decide) ?_)
    | (refine DW.cond_ff rfl ?_)
    | (refine DW.cond rfl ?_ ?_ <;> intro hc <;> (try simp only [go_sem] at hc))
    | (refine g_split ?_ ?_ <;> intro hc <;> (try simp only [hc]) <;> (try simp only [go_sem] at hc)))
      refine ⟨⟨i + 1, hlt⟩, ?_, Ent.to ?_ ?_⟩ <;> first | (show _ < _; (try simp only); omega) | (simp (disch := omega) only [wkT_cons, wkX_cons, wkT_nil, wkX_nil, get, Nat.reduceEqDiff, ↓reduceIte, ex_some, wk_self, wk_top, wk_nil, wkB_self, and_self, dI, i64_in, and_true, true_and, Int.natCast_add, Int.natCast_one, Int.ofNat_zero, Int.natCast_zero])
      all_goals exact .refl _
    · obtain rfl : i = w.n := by omega
      have hd' : decide ((w.n : Int) < (w.n : Int)) = false := by rw [decide_eq_false_iff_not]; omega
      repeat' (first
    | (with_reducible refine DW.seq ?_)
    | (with_reducible refine DW.block ?_)
    | (with_reducible refine DW.skip ?_)
    | (with_reducible refine DW.exit ?_)
    | (with_reducible refine DW.ret ?_)
    | (with_reducible refine DW.reg ?_)
    | (refine DW.dreg rfl (WF.of (by first | rfl | simp (disch := omega) only [go_sem, Nat.reduceLT, Nat.reduceLeDiff, Nat.reduceAdd, Nat.reduceMul, Nat.reduceEqDiff, ↓reduceIte, reduceCtorEq, Nat.reduceBEq, Nat.reduceBNe, Nat.reducePow, Int.reduceLE, Int.reduceLT, Int.reduceNeg, Int.reduceToNat, Int.reduceEq, Int.reduceAdd, Int.reduceSub, Int.reduceMul, Int.reduceBEq, Int.reduceBNe, Blk.men, Blk.keysIn, hrl, hd'])) ?_)
    | (refine DW.ord rfl (WF.of (by first | rfl | simp (disch := omega) only [go_sem, Nat.reduceLT, Nat.reduceLeDiff, Nat.reduceAdd, Nat.reduceMul, Nat.reduceEqDiff, ↓reduceIte, reduceCtorEq, Nat.reduceBEq, Nat.reduceBNe, Nat.reducePow, Int.reduceLE, Int.reduceLT, Int.reduceNeg, Int.reduceToNat, Int.reduceEq, Int.reduceAdd, Int.reduceSub, Int.reduceMul, Int.reduceBEq, Int.reduceBNe, Blk.men, Blk.keysIn, hrl, hd'])) ?_ ?_ ?_; rotate_left)
    | rfl
    | (with_reducible refine And.intro ?_ ?_)
    | (simp (disch := omega) only [go_sem, Nat.reduceLT, Nat.reduceLeDiff, Nat.reduceAdd, Nat.reduceMul, Nat.reduceEqDiff, ↓reduceIte, reduceCtorEq, Nat.reduceBEq, Nat.reduceBNe, Nat.reducePow, Int.reduceLE, Int.reduceLT, Int.reduceNeg, Int.reduceToNat, Int.reduceEq, Int.reduceAdd, Int.reduceSub, Int.reduceMul, Int.reduceBEq, Int.reduceBNe, Blk.men, Blk.keysIn, hrl, hd'])
    | (exact retS_of rfl rfl rfl)
    | (refine DW.cond_tt rfl ?_)
    | (refine call_c (c15) (by decide) ?_)
    | (refine DW.cond_ff rfl ?_)
    | (refine DW.cond rfl ?_ ?_ <;> intro hc <;> (try simp only [go_sem] at hc))
    | (refine g_split ?_ ?_ <;> intro hc <;> (try simp only [hc]) <;> (try simp only [go_sem] at hc)))
end Go.Dw.Seat
end
section
set_option linter.unusedSimpArgs false
set_option maxRecDepth 100000
namespace Go.Dw.Seat
open Go Go.Dw Go.Proofs Go.ChangeShapes Go.WideShapes Go.ChangeAt Go.RowKit
theorem u117 : Try.prog.underlying 117 = some (.array 2 5) := by kernel_rfl
theorem u118 : Try.prog.underlying 118 = some (.slice 167) := by kernel_rfl
theorem u167 : Try.prog.underlying 167 = some (.array 6 5) := by kernel_rfl
theorem cells117 : Try.prog.cellsOf 117 = 2 := by kernel_rfl
theorem cells118 : Try.prog.cellsOf 118 = 1 := by kernel_rfl
theorem cells120 : Try.prog.cellsOf 120 = 5 := by kernel_rfl
theorem cells167 : Try.prog.cellsOf 167 = 6 := by kernel_rfl
theorem st120 : structIs Try.prog 120 [(116, 0), (117, 1), (118, 3), (89, 4)] = true := by kernel_rfl
section
variable {H : Type} {enc : TypeId × Value → H} {w : World} {base : Nat} {spare : Nat → Bool} {held : Bool} {fuel : Nat} {cs : List Value} {x : DataW H × List MemPlace}
theorem rd_6 {t : TypeId} (hu : Try.prog.underlying t = some (.array 6 5)) (hc : Try.prog.cellsOf t = 6) (h : DataW.trod enc Try.prog w base spare held fuel t cs = some x) : ∃ v : {v : B6 // v.ok}, RepVs w A0 (eW v.1) cs := by
  obtain ⟨hl, m, hf⟩ := rd_array hu h
  rw [hc] at hl
  obtain ⟨y0, h0⟩ := hf 0 (by decide)
  obtain ⟨y1, h1⟩ := hf 1 (by decide)
  obtain ⟨y2, h2⟩ := hf 2 (by decide)
  obtain ⟨y3, h3⟩ := hf 3 (by decide)
  obtain ⟨y4, h4⟩ := hf 4 (by decide)
  obtain ⟨y5, h5⟩ := hf 5 (by decide)
  rw [cells5] at h0 h1 h2 h3 h4 h5
  match cs, hl with
  | [a, b, c, d, e, f], _ =>
    obtain ⟨n0, e0, p0⟩ := rd_U8 h0
    obtain ⟨n1, e1, p1⟩ := rd_U8 h1
    obtain ⟨n2, e2, p2⟩ := rd_U8 h2
    obtain ⟨n3, e3, p3⟩ := rd_U8 h3
    obtain ⟨n4, e4, p4⟩ := rd_U8 h4
    obtain ⟨n5, e5, p5⟩ := rd_U8 h5
    simp at e0 e1 e2 e3 e4 e5
    subst e0; subst e1; subst e2; subst e3; subst e4; subst e5
    exact ⟨⟨⟨n0, n1, n2, n3, n4, n5⟩, ⟨p0, p1, p2, p3, p4, p5⟩⟩, _, _, rfl, ⟨rfl, rfl⟩, _, _, rfl, ⟨rfl, rfl⟩, _, _, rfl, ⟨rfl, rfl⟩, _, _, rfl, ⟨rfl, rfl⟩, _, _, rfl, ⟨rfl, rfl⟩, _, _, rfl, ⟨rfl, rfl⟩, rfl⟩
theorem rd_6s {t e : TypeId} (ht : Try.prog.underlying t = some (.slice e)) (hu : Try.prog.underlying e = some (.array 6 5)) (hc : Try.prog.cellsOf e = 6) (h : DataW.trod enc Try.prog w base spare held fuel t cs = some x) :
    ∃ (l : List B6) (v : Value), cs = [v] ∧ RepC w A0 (.sl false 6 (rows eW l)) v ∧ l.length ≤ maxLen ∧ ∀ v ∈ l, v.ok := by
  obtain ⟨l, v, e, hr, hm, _⟩ := rd_slice (f := fun v : {v : B6 // v.ok} => eW v.1) ht hc (by decide) (fun _ => rfl) (fun _ _ _ h => rd_6 hu hc h) h
  refine ⟨l.map (·.1), v, e, ?_, by simpa using hm, fun u hu => ?_⟩
  · have : rows eW (l.map (·.1)) = rows (fun v : {v : B6 // v.ok} => eW v.1) l := by simp [rows, Function.comp_def]
    rw [this]; exact hr
  · obtain ⟨a, _, rfl⟩ := List.mem_map.1 hu
    exact a.2
theorem rd_Warm (h : DataW.trod enc Try.prog w base spare held fuel 120 cs = some x) : ∃ l : Warm, l.ok ∧ RepVs w A0 [.v (.int .u16 l.mins), .v (.int .u8 l.r0), .v (.int .u8 l.r1), .sl false 6 (rows eW l.rooms), .sl false 1 (rows eU l.pr)] cs := by
  obtain ⟨hl, m, hf⟩ := rd_struct st120 h
  rw [cells120] at hl
  obtain ⟨y0, h0⟩ := hf 0 116 0 rfl
  obtain ⟨y1, h1⟩ := hf 1 117 1 rfl
  obtain ⟨y2, h2⟩ := hf 2 118 3 rfl
  obtain ⟨y3, h3⟩ := hf 3 89 4 rfl
  rw [cells116] at h0
  rw [cells117] at h1
  rw [cells118] at h2
  rw [cells89] at h3
  obtain ⟨hl1, m1, hf1⟩ := rd_array u117 h1
  obtain ⟨z0, k0⟩ := hf1 0 (by decide)
  obtain ⟨z1, k1⟩ := hf1 1 (by decide)
  rw [cells5] at k0 k1
  match cs, hl with
  | [a, b, c, d, e], _ =>
    obtain ⟨n0, e0, hw⟩ := rd_int und116 h0
    obtain ⟨v0, rfl, p0⟩ := wf16 hw
    obtain ⟨n1, e1, p1⟩ := rd_U8 k0
    obtain ⟨n2, e2, p2⟩ := rd_U8 k1
    obtain ⟨l, v, e3, r3, _, p3⟩ := rd_6s u118 u167 cells167 h2
    obtain ⟨l', v', e4, r4, _, p4⟩ := rd_U16s h3
    simp at e0 e1 e2 e3 e4
    subst e0; subst e1; subst e2; subst e3; subst e4
    exact ⟨⟨v0, n1, n2, l, l'⟩, ⟨p0, p1, p2, p3, p4⟩, _, _, rfl, ⟨rfl, rfl⟩, _, _, rfl, ⟨rfl, rfl⟩, _, _, rfl, ⟨rfl, rfl⟩, _, _, rfl, r3, _, _, rfl, r4, rfl⟩
end
end Go.Dw.Seat
end
section
set_option linter.unusedSimpArgs false
set_option maxRecDepth 100000
namespace Go.Dw.Seat
open Go Go.Dw Go.Proofs Go.ChangeShapes Go.WideShapes Go.ChangeAt Go.RowKit
theorem pressedLifted (os : Os) (started : os.Started) (H : Type) (enc : TypeId × Value → H) :
    ReturnsInHanded {} Try.checked os 12 .any (Ytecgononbfgigaa.Rows.gluePressedSpec.pre6 enc Try.prog Try.f12 Ytecgononbfgigaa.Rows.gluePressedRow.domain false) (Ytecgononbfgigaa.Rows.gluePressedSpec.post enc Try.prog Try.f12 false true false false) := by
  refine returnsInHanded_of_change (C := Try.checked) tOwn started (by kernel_rfl) Try.func12
    (ChangeSpec.witness6 (enc := enc) (C := Try.checked) false ⟨#[], #[.agg #[.int .u16 0, .int .u8 0, .int .u8 0, .slice none 0 0, .slice none 0 0], .int .u8 0], []⟩ 8 (by kernel_rfl) (by kernel_rfl) (by kernel_rfl) (by kernel_rfl)) ?_
  intro W base args ds gs before hval0 hW _ _
  have hval : ∀ (j : Nat) t v, Try.f12.params[j]? = some t → args[j]? = some v → Value.okWide Try.prog W .any base t v := hval0
  have hW' : DataW.Whole enc Try.prog Try.f12.params.toList [] false W args.toList ds gs before := hW
  obtain ⟨p, q, hA, hV, rfl, hfz, hnd⟩ := hW
  have hA : DataW.TrodAll enc Try.prog W 0 (fun _ => true) true [120, 5] args.toList ds p := hA
  obtain ⟨rfl, rfl⟩ := trodVars_none hV
  obtain ⟨v0, vs0, d0, ds0, p0, q0, hargs, rfl, rfl, h0, r0⟩ := trodAll_cons hA
  obtain ⟨v1, vs1, d1, ds1, p1, q1, rfl, rfl, rfl, h1, r1⟩ := trodAll_cons r0
  obtain ⟨rfl, rfl, rfl⟩ := trodAll_nil r1
  obtain rfl : args = #[v0, v1] := by cases args; simp_all
  obtain ⟨f120, hu120, _⟩ := structIs_spec st120
  obtain ⟨c0, rfl, _⟩ := okWide_struct hu120 (hval 0 120 v0 rfl rfl)
  obtain ⟨n1, rfl⟩ := okWide_int und5 (hval 1 5 v1 rfl rfl)
  obtain ⟨fu0, h0⟩ := h0
  obtain ⟨fu1, h1⟩ := h1
  obtain ⟨wa, hwo, hwa⟩ := rd_Warm h0
  have hwa : RepVs W A0 [.v (.int .u16 wa.mins), .v (.int .u8 wa.r0), .v (.int .u8 wa.r1), .sl false 6 (rows eW wa.rooms), .sl false 1 (rows eU wa.pr)] c0.toList := by simpa [Value.cells] using hwa
  obtain ⟨b1, e1, hb1⟩ := rd_U8 h1
  have e1 : n1 = b1 := by simpa [Value.cells] using e1
  subst e1
  refine ((c12 false false wa b1 hwo hb1).calls (W := W) (vs := [.agg c0, .int .u8 b1]) (fun G => ?_)).mono ?_
  · exact ⟨_, _, rfl, ⟨c0, rfl, RepDs.ofVs hwa⟩, _, _, rfl, ⟨rfl, rfl⟩, rfl⟩
  · rintro e W' ⟨v, rfl, ⟨G', A', hr⟩, hb⟩
    obtain ⟨rfl, _⟩ := hr
    exact ⟨_, rfl, post_true tLaid (by decide +kernel) hW' hb rfl rfl u4 rfl rfl rfl⟩
theorem pressedHolds : Ytecgononbfgigaa.Rows.gluePressedRow.holds Ytecgononbfgigaa.Try.pinned (OpenSpec.ofChange Ytecgononbfgigaa.Rows.gluePressedSpec) :=
  OpenClaim.holds_of_wide 12 Try.f12 rfl rfl rfl rfl rfl rfl rfl ⟨rfl, rfl, rfl, rfl, rfl⟩ rfl rfl rfl rfl rfl (by kernel_rfl) Try.func12 (by kernel_rfl)
    (of_decide_eq_true (by kernel_rfl)) (by unfold Func.isWrapper; first | (rw [if_pos (by decide +kernel)]; kernel_rfl) | (rw [if_neg (by decide +kernel)]; exact ⟨rfl, rfl⟩))
    (fun os started H enc _ => pressedLifted os started H enc)
end Go.Dw.Seat
namespace Go.Proofs.Ytecgononbfgigaa
theorem pressedSaid : Rows.GluePressedSaid := Go.Dw.Seat.pressedHolds
end Go.Proofs.Ytecgononbfgigaa
end
