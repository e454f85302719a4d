/- Helpers of a proof. -/
import Derived.Test.YtmbgogijhpommaaA00
set_option linter.unusedVariables false
set_option linter.unusedSimpArgs false
section
set_option linter.unusedSimpArgs false
namespace Go.Dw.Seat
open Go Go.Dw Go.Proofs Go.IntWalk
theorem c113 (n : Int) : DCall Try.prog 115 [dI n] [] (bD false) [] := by
  refine DCall.of Try.func115 sf115 hb115 (Nat.le_of_ble_eq_true rfl) (okRes_nil fun _ => rfl) ?_; simp only [s115, idxs, Nat.reduceAdd]
  repeat' (first
    | (with_reducible refine DW.seq ?_)
    | (with_reducible refine DW.block ?_)
    | (with_reducible refine DW.skip ?_)
    | (with_reducible refine DW.exit ?_)
    | (with_reducible refine DW.ret ?_)
    | (with_reducible refine DW.reg ?_)
    | (simp (disch := omega) only [go_sem, Nat.reduceLT, Nat.reduceLeDiff, Nat.reduceAdd, Nat.reduceMul, Nat.reduceEqDiff, ↓reduceIte, reduceCtorEq, Nat.reduceBEq, Nat.reduceBNe, Nat.reducePow, Int.reduceLE, Int.reduceLT, Int.reduceNeg, Int.reduceToNat, Int.reduceEq, Int.reduceAdd, Int.reduceSub, Int.reduceMul, Int.reduceBEq, Int.reduceBNe, Blk.men, Blk.keysIn])
    | (exact retS_of rfl rfl rfl)
    | (refine DW.cond_tt rfl ?_)
    | (refine DW.cond_ff rfl ?_)
    | (refine DW.cond rfl ?_ ?_ <;> intro hc <;> (try simp only [go_sem] at hc))
    | (refine g_split ?_ ?_ <;> intro hc <;> (try simp only [hc]) <;> (try simp only [go_sem] at hc)))
theorem c122 (b : Bool) (l : List (Int)) (hl : l.length ≤ 2 ^ 36) (g : FuncId) (fs caps : List C) (p : Int → Bool) (hp : ∀ x ∈ l, DCall Try.prog g (fs.map D.c ++ [dI x] ++ caps.map D.c) [] (bD (p x)) []) : DCall Try.prog 123 [.c (.sl b 1 (rows eI l)), .c (.fn (.func g) fs caps)] [] (dI (idxI p l)) [] := by
  refine DCall.of Try.func123 sf123 hb123 (Nat.le_of_ble_eq_true rfl) (okRes_nil fun _ => rfl) ?_; simp only [s123, idxs, Nat.reduceAdd]
  repeat' (first
    | (with_reducible refine DW.seq ?_)
    | (with_reducible refine DW.block ?_)
    | (with_reducible refine DW.skip ?_)
    | (with_reducible refine DW.exit ?_)
    | (with_reducible refine DW.ret ?_)
    | (with_reducible refine DW.reg ?_)
    | (simp (disch := omega) only [go_sem, Nat.reduceLT, Nat.reduceLeDiff, Nat.reduceAdd, Nat.reduceMul, Nat.reduceEqDiff, ↓reduceIte, reduceCtorEq, Nat.reduceBEq, Nat.reduceBNe, Nat.reducePow, Int.reduceLE, Int.reduceLT, Int.reduceNeg, Int.reduceToNat, Int.reduceEq, Int.reduceAdd, Int.reduceSub, Int.reduceMul, Int.reduceBEq, Int.reduceBNe, Blk.men, Blk.keysIn])
    | (exact retS_of rfl rfl rfl)
    | (refine DW.cond_tt rfl ?_)
    | (refine DW.cond_ff rfl ?_)
    | (refine DW.cond rfl ?_ ?_ <;> intro hc <;> (try simp only [go_sem] at hc))
    | (refine g_split ?_ ?_ <;> intro hc <;> (try simp only [hc]) <;> (try simp only [go_sem] at hc)))
  refine DW.loop (ι := { i : Nat // i ≤ l.length ∧ ∀ j u, j < i → l[j]? = some u → p u = false }) (fun i => ⟨19, [(8, dI i.1), (7, dI l.length), (1, .c (.fn (.func g) fs caps)), (0, .c (.sl b 1 (rows eI l)))], []⟩) (fun i => l.length - i.1) ⟨0, Nat.zero_le _, fun j u h => by omega⟩ ?_ ?_
  · refine Ent.to ?_ ?_ <;> simp (disch := omega) only [wkT_cons, wkX_cons, wkT_nil, wkX_nil, get, Nat.reduceEqDiff, ↓reduceIte, ex_some, wk_self, wk_top, wk_nil, wkB_self, and_self, dI, i64_in, and_true, true_and, Int.natCast_add, Int.natCast_one, Int.ofNat_zero, Int.natCast_zero]
  rintro ⟨i, hi, hij⟩
  rcases at_or l i hi with ⟨v, hv, hlt, hd⟩ | ⟨he, hd⟩
  · have hcall := hp v (List.mem_of_getElem? hv)
    repeat' (first
    | (with_reducible refine DW.seq ?_)
    | (with_reducible refine DW.block ?_)
    | (with_reducible refine DW.skip ?_)
    | (with_reducible refine DW.exit ?_)
    | (with_reducible refine DW.ret ?_)
    | (with_reducible refine DW.reg ?_)
    | (simp (disch := omega) only [go_sem, Nat.reduceLT, Nat.reduceLeDiff, Nat.reduceAdd, Nat.reduceMul, Nat.reduceEqDiff, ↓reduceIte, reduceCtorEq, Nat.reduceBEq, Nat.reduceBNe, Nat.reducePow, Int.reduceLE, Int.reduceLT, Int.reduceNeg, Int.reduceToNat, Int.reduceEq, Int.reduceAdd, Int.reduceSub, Int.reduceMul, Int.reduceBEq, Int.reduceBNe, Blk.men, Blk.keysIn, hd, hv, closeDs_fn, List.map_cons, List.map_nil])
    | (exact retS_of rfl rfl rfl)
    | (refine DW.cond_tt rfl ?_)
    | (refine DW.cond_ff rfl ?_)
    | (refine DW.cond rfl ?_ ?_ <;> intro hc <;> (try simp only [go_sem] at hc))
    | (refine g_split ?_ ?_ <;> intro hc <;> (try simp only [hc]) <;> (try simp only [go_sem] at hc)))
    refine call_c hcall (by decide) ?_
    simp (disch := omega) only [go_sem, Nat.reduceLT, Nat.reduceLeDiff, Nat.reduceAdd, Nat.reduceMul, Nat.reduceEqDiff, ↓reduceIte, reduceCtorEq, Nat.reduceBEq, Nat.reduceBNe, Nat.reducePow, Int.reduceLE, Int.reduceLT, Int.reduceNeg, Int.reduceToNat, Int.reduceEq, Int.reduceAdd, Int.reduceSub, Int.reduceMul, Int.reduceBEq, Int.reduceBNe, Blk.men, Blk.keysIn]
    refine DW.cond rfl ?_ ?_ <;> intro hc
    · repeat' (first
    | (with_reducible refine DW.seq ?_)
    | (with_reducible refine DW.block ?_)
    | (with_reducible refine DW.skip ?_)
    | (with_reducible refine DW.exit ?_)
    | (with_reducible refine DW.ret ?_)
    | (with_reducible refine DW.reg ?_)
    | (simp (disch := omega) only [go_sem, Nat.reduceLT, Nat.reduceLeDiff, Nat.reduceAdd, Nat.reduceMul, Nat.reduceEqDiff, ↓reduceIte, reduceCtorEq, Nat.reduceBEq, Nat.reduceBNe, Nat.reducePow, Int.reduceLE, Int.reduceLT, Int.reduceNeg, Int.reduceToNat, Int.reduceEq, Int.reduceAdd, Int.reduceSub, Int.reduceMul, Int.reduceBEq, Int.reduceBNe, Blk.men, Blk.keysIn])
    | (exact retS_of rfl rfl rfl)
    | (refine DW.cond_tt rfl ?_)
    | (refine DW.cond_ff rfl ?_)
    | (refine DW.cond rfl ?_ ?_ <;> intro hc <;> (try simp only [go_sem] at hc))
    | (refine g_split ?_ ?_ <;> intro hc <;> (try simp only [hc]) <;> (try simp only [go_sem] at hc)))
      refine retS_of rfl ?_ rfl; simp only [oneD, St.op, get, Nat.reduceEqDiff, ↓reduceIte, Option.getD_some, bD, dI]
      simp only [idxI, idxOf_some hij hv hc]
    · repeat' (first
    | (with_reducible refine DW.seq ?_)
    | (with_reducible refine DW.block ?_)
    | (with_reducible refine DW.skip ?_)
    | (with_reducible refine DW.exit ?_)
    | (with_reducible refine DW.ret ?_)
    | (with_reducible refine DW.reg ?_)
    | (simp (disch := omega) only [go_sem, Nat.reduceLT, Nat.reduceLeDiff, Nat.reduceAdd, Nat.reduceMul, Nat.reduceEqDiff, ↓reduceIte, reduceCtorEq, Nat.reduceBEq, Nat.reduceBNe, Nat.reducePow, Int.reduceLE, Int.reduceLT, Int.reduceNeg, Int.reduceToNat, Int.reduceEq, Int.reduceAdd, Int.reduceSub, Int.reduceMul, Int.reduceBEq, Int.reduceBNe, Blk.men, Blk.keysIn])
    | (exact retS_of rfl rfl rfl)
    | (refine DW.cond_tt rfl ?_)
    | (refine DW.cond_ff rfl ?_)
    | (refine DW.cond rfl ?_ ?_ <;> intro hc <;> (try simp only [go_sem] at hc))
    | (refine g_split ?_ ?_ <;> intro hc <;> (try simp only [hc]) <;> (try simp only [go_sem] at hc)))
      refine ⟨⟨i + 1, by omega, fun j u hj hu => by
        rcases Nat.lt_or_ge j i with h | h
        · exact hij j u h hu
        · have : j = i := by omega
          subst this
          rw [hv] at hu; cases hu; exact hc⟩, ?_, Ent.to ?_ ?_⟩ <;> first | (show _ < _; (try simp only); omega) | (simp (disch := omega) only [wkT_cons, wkX_cons, wkT_nil, wkX_nil, get, Nat.reduceEqDiff, ↓reduceIte, ex_some, wk_self, wk_top, wk_nil, wkB_self, and_self, dI, i64_in, and_true, true_and, Int.natCast_add, Int.natCast_one, Int.ofNat_zero, Int.natCast_zero])
  · repeat' (first
    | (with_reducible refine DW.seq ?_)
    | (with_reducible refine DW.block ?_)
    | (with_reducible refine DW.skip ?_)
    | (with_reducible refine DW.exit ?_)
    | (with_reducible refine DW.ret ?_)
    | (with_reducible refine DW.reg ?_)
    | (simp (disch := omega) only [go_sem, Nat.reduceLT, Nat.reduceLeDiff, Nat.reduceAdd, Nat.reduceMul, Nat.reduceEqDiff, ↓reduceIte, reduceCtorEq, Nat.reduceBEq, Nat.reduceBNe, Nat.reducePow, Int.reduceLE, Int.reduceLT, Int.reduceNeg, Int.reduceToNat, Int.reduceEq, Int.reduceAdd, Int.reduceSub, Int.reduceMul, Int.reduceBEq, Int.reduceBNe, Blk.men, Blk.keysIn, hd])
    | (exact retS_of rfl rfl rfl)
    | (refine DW.cond_tt rfl ?_)
    | (refine DW.cond_ff rfl ?_)
    | (refine DW.cond rfl ?_ ?_ <;> intro hc <;> (try simp only [go_sem] at hc))
    | (refine g_split ?_ ?_ <;> intro hc <;> (try simp only [hc]) <;> (try simp only [go_sem] at hc)))
    refine retS_of rfl ?_ rfl; simp only [oneD, St.op, get, Nat.reduceEqDiff, ↓reduceIte, Option.getD_some, bD, dI]
    simp only [idxI, idxOf_none (he ▸ hij)]
theorem c110 (b : Bool) (l : List (Int)) (hl : l.length ≤ 2 ^ 36) (g : FuncId) (fs caps : List C) (p : Int → Bool) (hp : ∀ x ∈ l, DCall Try.prog g (fs.map D.c ++ [dI x] ++ caps.map D.c) [] (bD (p x)) []) : DCall Try.prog 79 [.c (.sl b 1 (rows eI l)), .c (.fn (.func g) fs caps)] [] (bD (l.any p)) [] := by
  refine DCall.of Try.func79 sf79 hb79 (Nat.le_of_ble_eq_true rfl) (okRes_nil fun _ => rfl) ?_; simp only [s79, idxs, Nat.reduceAdd]
  repeat' (first
    | (with_reducible refine DW.seq ?_)
    | (with_reducible refine DW.block ?_)
    | (with_reducible refine DW.skip ?_)
    | (with_reducible refine DW.exit ?_)
    | (with_reducible refine DW.ret ?_)
    | (with_reducible refine DW.reg ?_)
    | (simp (disch := omega) only [go_sem, Nat.reduceLT, Nat.reduceLeDiff, Nat.reduceAdd, Nat.reduceMul, Nat.reduceEqDiff, ↓reduceIte, reduceCtorEq, Nat.reduceBEq, Nat.reduceBNe, Nat.reducePow, Int.reduceLE, Int.reduceLT, Int.reduceNeg, Int.reduceToNat, Int.reduceEq, Int.reduceAdd, Int.reduceSub, Int.reduceMul, Int.reduceBEq, Int.reduceBNe, Blk.men, Blk.keysIn])
    | (exact retS_of rfl rfl rfl)
    | (refine DW.cond_tt rfl ?_)
    | (refine DW.cond_ff rfl ?_)
    | (refine DW.cond rfl ?_ ?_ <;> intro hc <;> (try simp only [go_sem] at hc))
    | (refine g_split ?_ ?_ <;> intro hc <;> (try simp only [hc]) <;> (try simp only [go_sem] at hc)))
  refine call_c (c122 b l hl g fs caps p hp) (by decide) ?_
  repeat' (first
    | (with_reducible refine DW.seq ?_)
    | (with_reducible refine DW.block ?_)
    | (with_reducible refine DW.skip ?_)
    | (with_reducible refine DW.exit ?_)
    | (with_reducible refine DW.ret ?_)
    | (with_reducible refine DW.reg ?_)
    | (simp (disch := omega) only [go_sem, Nat.reduceLT, Nat.reduceLeDiff, Nat.reduceAdd, Nat.reduceMul, Nat.reduceEqDiff, ↓reduceIte, reduceCtorEq, Nat.reduceBEq, Nat.reduceBNe, Nat.reducePow, Int.reduceLE, Int.reduceLT, Int.reduceNeg, Int.reduceToNat, Int.reduceEq, Int.reduceAdd, Int.reduceSub, Int.reduceMul, Int.reduceBEq, Int.reduceBNe, Blk.men, Blk.keysIn])
    | (exact retS_of rfl rfl rfl)
    | (refine DW.cond_tt rfl ?_)
    | (refine DW.cond_ff rfl ?_)
    | (refine DW.cond rfl ?_ ?_ <;> intro hc <;> (try simp only [go_sem] at hc))
    | (refine g_split ?_ ?_ <;> intro hc <;> (try simp only [hc]) <;> (try simp only [go_sem] at hc)))
  refine retS_of rfl ?_ rfl; simp only [oneD, St.op, get, Nat.reduceEqDiff, ↓reduceIte, Option.getD_some, bD, dI]
  rw [idxI_any]
theorem c100 (b : Bool) (l : List (Cause)) (hl : l.length ≤ 2 ^ 36) (g : FuncId) (fs caps : List C) (p : Cause → Bool) (hp : ∀ x ∈ l, DCall Try.prog g (fs.map D.c ++ [.agg ((eC x).map D.c)] ++ caps.map D.c) [] (bD (p x)) []) : DCall Try.prog 173 [.c (.sl b 3 (rows eC l)), .c (.fn (.func g) fs caps)] [] (dI (idxI p l)) [] := by
  refine DCall.of Try.func173 sf173 hb173 (Nat.le_of_ble_eq_true rfl) (okRes_nil fun _ => rfl) ?_; simp only [s173, idxs, Nat.reduceAdd]
  repeat' (first
    | (with_reducible refine DW.seq ?_)
    | (with_reducible refine DW.block ?_)
    | (with_reducible refine DW.skip ?_)
    | (with_reducible refine DW.exit ?_)
    | (with_reducible refine DW.ret ?_)
    | (with_reducible refine DW.reg ?_)
    | (simp (disch := omega) only [go_sem, Nat.reduceLT, Nat.reduceLeDiff, Nat.reduceAdd, Nat.reduceMul, Nat.reduceEqDiff, ↓reduceIte, reduceCtorEq, Nat.reduceBEq, Nat.reduceBNe, Nat.reducePow, Int.reduceLE, Int.reduceLT, Int.reduceNeg, Int.reduceToNat, Int.reduceEq, Int.reduceAdd, Int.reduceSub, Int.reduceMul, Int.reduceBEq, Int.reduceBNe, Blk.men, Blk.keysIn])
    | (exact retS_of rfl rfl rfl)
    | (refine DW.cond_tt rfl ?_)
    | (refine DW.cond_ff rfl ?_)
    | (refine DW.cond rfl ?_ ?_ <;> intro hc <;> (try simp only [go_sem] at hc))
    | (refine g_split ?_ ?_ <;> intro hc <;> (try simp only [hc]) <;> (try simp only [go_sem] at hc)))
  refine DW.loop (ι := { i : Nat // i ≤ l.length ∧ ∀ j u, j < i → l[j]? = some u → p u = false }) (fun i => ⟨19, [(8, dI i.1), (7, dI l.length), (1, .c (.fn (.func g) fs caps)), (0, .c (.sl b 3 (rows eC l)))], []⟩) (fun i => l.length - i.1) ⟨0, Nat.zero_le _, fun j u h => by omega⟩ ?_ ?_
  · refine Ent.to ?_ ?_ <;> simp (disch := omega) only [wkT_cons, wkX_cons, wkT_nil, wkX_nil, get, Nat.reduceEqDiff, ↓reduceIte, ex_some, wk_self, wk_top, wk_nil, wkB_self, and_self, dI, i64_in, and_true, true_and, Int.natCast_add, Int.natCast_one, Int.ofNat_zero, Int.natCast_zero]
  rintro ⟨i, hi, hij⟩
  rcases at_or l i hi with ⟨v, hv, hlt, hd⟩ | ⟨he, hd⟩
  · have hcall := hp v (List.mem_of_getElem? hv)
    repeat' (first
    | (with_reducible refine DW.seq ?_)
    | (with_reducible refine DW.block ?_)
    | (with_reducible refine DW.skip ?_)
    | (with_reducible refine DW.exit ?_)
    | (with_reducible refine DW.ret ?_)
    | (with_reducible refine DW.reg ?_)
    | (simp (disch := omega) only [go_sem, Nat.reduceLT, Nat.reduceLeDiff, Nat.reduceAdd, Nat.reduceMul, Nat.reduceEqDiff, ↓reduceIte, reduceCtorEq, Nat.reduceBEq, Nat.reduceBNe, Nat.reducePow, Int.reduceLE, Int.reduceLT, Int.reduceNeg, Int.reduceToNat, Int.reduceEq, Int.reduceAdd, Int.reduceSub, Int.reduceMul, Int.reduceBEq, Int.reduceBNe, Blk.men, Blk.keysIn, hd, hv, closeDs_fn, List.map_cons, List.map_nil])
    | (exact retS_of rfl rfl rfl)
    | (refine DW.cond_tt rfl ?_)
    | (refine DW.cond_ff rfl ?_)
    | (refine DW.cond rfl ?_ ?_ <;> intro hc <;> (try simp only [go_sem] at hc))
    | (refine g_split ?_ ?_ <;> intro hc <;> (try simp only [hc]) <;> (try simp only [go_sem] at hc)))
    refine call_c hcall (by decide) ?_
    simp (disch := omega) only [go_sem, Nat.reduceLT, Nat.reduceLeDiff, Nat.reduceAdd, Nat.reduceMul, Nat.reduceEqDiff, ↓reduceIte, reduceCtorEq, Nat.reduceBEq, Nat.reduceBNe, Nat.reducePow, Int.reduceLE, Int.reduceLT, Int.reduceNeg, Int.reduceToNat, Int.reduceEq, Int.reduceAdd, Int.reduceSub, Int.reduceMul, Int.reduceBEq, Int.reduceBNe, Blk.men, Blk.keysIn]
    refine DW.cond rfl ?_ ?_ <;> intro hc
    · repeat' (first
    | (with_reducible refine DW.seq ?_)
    | (with_reducible refine DW.block ?_)
    | (with_reducible refine DW.skip ?_)
    | (with_reducible refine DW.exit ?_)
    | (with_reducible refine DW.ret ?_)
    | (with_reducible refine DW.reg ?_)
    | (simp (disch := omega) only [go_sem, Nat.reduceLT, Nat.reduceLeDiff, Nat.reduceAdd, Nat.reduceMul, Nat.reduceEqDiff, ↓reduceIte, reduceCtorEq, Nat.reduceBEq, Nat.reduceBNe, Nat.reducePow, Int.reduceLE, Int.reduceLT, Int.reduceNeg, Int.reduceToNat, Int.reduceEq, Int.reduceAdd, Int.reduceSub, Int.reduceMul, Int.reduceBEq, Int.reduceBNe, Blk.men, Blk.keysIn])
    | (exact retS_of rfl rfl rfl)
    | (refine DW.cond_tt rfl ?_)
    | (refine DW.cond_ff rfl ?_)
    | (refine DW.cond rfl ?_ ?_ <;> intro hc <;> (try simp only [go_sem] at hc))
    | (refine g_split ?_ ?_ <;> intro hc <;> (try simp only [hc]) <;> (try simp only [go_sem] at hc)))
      refine retS_of rfl ?_ rfl; simp only [oneD, St.op, get, Nat.reduceEqDiff, ↓reduceIte, Option.getD_some, bD, dI]
      simp only [idxI, idxOf_some hij hv hc]
    · repeat' (first
    | (with_reducible refine DW.seq ?_)
    | (with_reducible refine DW.block ?_)
    | (with_reducible refine DW.skip ?_)
    | (with_reducible refine DW.exit ?_)
    | (with_reducible refine DW.ret ?_)
    | (with_reducible refine DW.reg ?_)
    | (simp (disch := omega) only [go_sem, Nat.reduceLT, Nat.reduceLeDiff, Nat.reduceAdd, Nat.reduceMul, Nat.reduceEqDiff, ↓reduceIte, reduceCtorEq, Nat.reduceBEq, Nat.reduceBNe, Nat.reducePow, Int.reduceLE, Int.reduceLT, Int.reduceNeg, Int.reduceToNat, Int.reduceEq, Int.reduceAdd, Int.reduceSub, Int.reduceMul, Int.reduceBEq, Int.reduceBNe, Blk.men, Blk.keysIn])
    | (exact retS_of rfl rfl rfl)
    | (refine DW.cond_tt rfl ?_)
    | (refine DW.cond_ff rfl ?_)
    | (refine DW.cond rfl ?_ ?_ <;> intro hc <;> (try simp only [go_sem] at hc))
    | (refine g_split ?_ ?_ <;> intro hc <;> (try simp only [hc]) <;> (try simp only [go_sem] at hc)))
      refine ⟨⟨i + 1, by omega, fun j u hj hu => by
        rcases Nat.lt_or_ge j i with h | h
        · exact hij j u h hu
        · have : j = i := by omega
          subst this
          rw [hv] at hu; cases hu; exact hc⟩, ?_, Ent.to ?_ ?_⟩ <;> first | (show _ < _; (try simp only); omega) | (simp (disch := omega) only [wkT_cons, wkX_cons, wkT_nil, wkX_nil, get, Nat.reduceEqDiff, ↓reduceIte, ex_some, wk_self, wk_top, wk_nil, wkB_self, and_self, dI, i64_in, and_true, true_and, Int.natCast_add, Int.natCast_one, Int.ofNat_zero, Int.natCast_zero])
  · repeat' (first
    | (with_reducible refine DW.seq ?_)
    | (with_reducible refine DW.block ?_)
    | (with_reducible refine DW.skip ?_)
    | (with_reducible refine DW.exit ?_)
    | (with_reducible refine DW.ret ?_)
    | (with_reducible refine DW.reg ?_)
    | (simp (disch := omega) only [go_sem, Nat.reduceLT, Nat.reduceLeDiff, Nat.reduceAdd, Nat.reduceMul, Nat.reduceEqDiff, ↓reduceIte, reduceCtorEq, Nat.reduceBEq, Nat.reduceBNe, Nat.reducePow, Int.reduceLE, Int.reduceLT, Int.reduceNeg, Int.reduceToNat, Int.reduceEq, Int.reduceAdd, Int.reduceSub, Int.reduceMul, Int.reduceBEq, Int.reduceBNe, Blk.men, Blk.keysIn, hd])
    | (exact retS_of rfl rfl rfl)
    | (refine DW.cond_tt rfl ?_)
    | (refine DW.cond_ff rfl ?_)
    | (refine DW.cond rfl ?_ ?_ <;> intro hc <;> (try simp only [go_sem] at hc))
    | (refine g_split ?_ ?_ <;> intro hc <;> (try simp only [hc]) <;> (try simp only [go_sem] at hc)))
    refine retS_of rfl ?_ rfl; simp only [oneD, St.op, get, Nat.reduceEqDiff, ↓reduceIte, Option.getD_some, bD, dI]
    simp only [idxI, idxOf_none (he ▸ hij)]
theorem c67 (b : Bool) (l : List (Cause)) (hl : l.length ≤ 2 ^ 36) (g : FuncId) (fs caps : List C) (p : Cause → Bool) (hp : ∀ x ∈ l, DCall Try.prog g (fs.map D.c ++ [.agg ((eC x).map D.c)] ++ caps.map D.c) [] (bD (p x)) []) : DCall Try.prog 161 [.c (.sl b 3 (rows eC l)), .c (.fn (.func g) fs caps)] [] (bD (l.any p)) [] := by
  refine DCall.of Try.func161 sf161 hb161 (Nat.le_of_ble_eq_true rfl) (okRes_nil fun _ => rfl) ?_; simp only [s161, idxs, Nat.reduceAdd]
  repeat' (first
    | (with_reducible refine DW.seq ?_)
    | (with_reducible refine DW.block ?_)
    | (with_reducible refine DW.skip ?_)
    | (with_reducible refine DW.exit ?_)
    | (with_reducible refine DW.ret ?_)
    | (with_reducible refine DW.reg ?_)
    | (simp (disch := omega) only [go_sem, Nat.reduceLT, Nat.reduceLeDiff, Nat.reduceAdd, Nat.reduceMul, Nat.reduceEqDiff, ↓reduceIte, reduceCtorEq, Nat.reduceBEq, Nat.reduceBNe, Nat.reducePow, Int.reduceLE, Int.reduceLT, Int.reduceNeg, Int.reduceToNat, Int.reduceEq, Int.reduceAdd, Int.reduceSub, Int.reduceMul, Int.reduceBEq, Int.reduceBNe, Blk.men, Blk.keysIn])
    | (exact retS_of rfl rfl rfl)
    | (refine DW.cond_tt rfl ?_)
    | (refine DW.cond_ff rfl ?_)
    | (refine DW.cond rfl ?_ ?_ <;> intro hc <;> (try simp only [go_sem] at hc))
    | (refine g_split ?_ ?_ <;> intro hc <;> (try simp only [hc]) <;> (try simp only [go_sem] at hc)))
  refine call_c (c100 b l hl g fs caps p hp) (by decide) ?_
  repeat' (first
    | (with_reducible refine DW.seq ?_)
    | (with_reducible refine DW.block ?_)
    | (with_reducible refine DW.skip ?_)
    | (with_reducible refine DW.exit ?_)
    | (with_reducible refine DW.ret ?_)
    | (with_reducible refine DW.reg ?_)
    | (simp (disch := omega) only [go_sem, Nat.reduceLT, Nat.reduceLeDiff, Nat.reduceAdd, Nat.reduceMul, Nat.reduceEqDiff, ↓reduceIte, reduceCtorEq, Nat.reduceBEq, Nat.reduceBNe, Nat.reducePow, Int.reduceLE, Int.reduceLT, Int.reduceNeg, Int.reduceToNat, Int.reduceEq, Int.reduceAdd, Int.reduceSub, Int.reduceMul, Int.reduceBEq, Int.reduceBNe, Blk.men, Blk.keysIn])
    | (exact retS_of rfl rfl rfl)
    | (refine DW.cond_tt rfl ?_)
    | (refine DW.cond_ff rfl ?_)
    | (refine DW.cond rfl ?_ ?_ <;> intro hc <;> (try simp only [go_sem] at hc))
    | (refine g_split ?_ ?_ <;> intro hc <;> (try simp only [hc]) <;> (try simp only [go_sem] at hc)))
  refine retS_of rfl ?_ rfl; simp only [oneD, St.op, get, Nat.reduceEqDiff, ↓reduceIte, Option.getD_some, bD, dI]
  rw [idxI_any]
theorem c119 (b : Bool) (l : List (Look)) (hl : l.length ≤ 2 ^ 36) (g : FuncId) (fs caps : List C) (p : Look → Bool) (hp : ∀ x ∈ l, DCall Try.prog g (fs.map D.c ++ [.agg ((eL x).map D.c)] ++ caps.map D.c) [] (bD (p x)) []) : DCall Try.prog 168 [.c (.sl b 4 (rows eL l)), .c (.fn (.func g) fs caps)] [] (dI (idxI p l)) [] := by
  refine DCall.of Try.func168 sf168 hb168 (Nat.le_of_ble_eq_true rfl) (okRes_nil fun _ => rfl) ?_; simp only [s168, idxs, Nat.reduceAdd]
  repeat' (first
    | (with_reducible refine DW.seq ?_)
    | (with_reducible refine DW.block ?_)
    | (with_reducible refine DW.skip ?_)
    | (with_reducible refine DW.exit ?_)
    | (with_reducible refine DW.ret ?_)
    | (with_reducible refine DW.reg ?_)
    | (simp (disch := omega) only [go_sem, Nat.reduceLT, Nat.reduceLeDiff, Nat.reduceAdd, Nat.reduceMul, Nat.reduceEqDiff, ↓reduceIte, reduceCtorEq, Nat.reduceBEq, Nat.reduceBNe, Nat.reducePow, Int.reduceLE, Int.reduceLT, Int.reduceNeg, Int.reduceToNat, Int.reduceEq, Int.reduceAdd, Int.reduceSub, Int.reduceMul, Int.reduceBEq, Int.reduceBNe, Blk.men, Blk.keysIn])
    | (exact retS_of rfl rfl rfl)
    | (refine DW.cond_tt rfl ?_)
    | (refine DW.cond_ff rfl ?_)
    | (refine DW.cond rfl ?_ ?_ <;> intro hc <;> (try simp only [go_sem] at hc))
    | (refine g_split ?_ ?_ <;> intro hc <;> (try simp only [hc]) <;> (try simp only [go_sem] at hc)))
  refine DW.loop (ι := { i : Nat // i ≤ l.length ∧ ∀ j u, j < i → l[j]? = some u → p u = false }) (fun i => ⟨19, [(8, dI i.1), (7, dI l.length), (1, .c (.fn (.func g) fs caps)), (0, .c (.sl b 4 (rows eL l)))], []⟩) (fun i => l.length - i.1) ⟨0, Nat.zero_le _, fun j u h => by omega⟩ ?_ ?_
  · refine Ent.to ?_ ?_ <;> simp (disch := omega) only [wkT_cons, wkX_cons, wkT_nil, wkX_nil, get, Nat.reduceEqDiff, ↓reduceIte, ex_some, wk_self, wk_top, wk_nil, wkB_self, and_self, dI, i64_in, and_true, true_and, Int.natCast_add, Int.natCast_one, Int.ofNat_zero, Int.natCast_zero]
  rintro ⟨i, hi, hij⟩
  rcases at_or l i hi with ⟨v, hv, hlt, hd⟩ | ⟨he, hd⟩
  · have hcall := hp v (List.mem_of_getElem? hv)
    repeat' (first
    | (with_reducible refine DW.seq ?_)
    | (with_reducible refine DW.block ?_)
    | (with_reducible refine DW.skip ?_)
    | (with_reducible refine DW.exit ?_)
    | (with_reducible refine DW.ret ?_)
    | (with_reducible refine DW.reg ?_)
    | (simp (disch := omega) only [go_sem, Nat.reduceLT, Nat.reduceLeDiff, Nat.reduceAdd, Nat.reduceMul, Nat.reduceEqDiff, ↓reduceIte, reduceCtorEq, Nat.reduceBEq, Nat.reduceBNe, Nat.reducePow, Int.reduceLE, Int.reduceLT, Int.reduceNeg, Int.reduceToNat, Int.reduceEq, Int.reduceAdd, Int.reduceSub, Int.reduceMul, Int.reduceBEq, Int.reduceBNe, Blk.men, Blk.keysIn, hd, hv, closeDs_fn, List.map_cons, List.map_nil])
    | (exact retS_of rfl rfl rfl)
    | (refine DW.cond_tt rfl ?_)
    | (refine DW.cond_ff rfl ?_)
    | (refine DW.cond rfl ?_ ?_ <;> intro hc <;> (try simp only [go_sem] at hc))
    | (refine g_split ?_ ?_ <;> intro hc <;> (try simp only [hc]) <;> (try simp only [go_sem] at hc)))
    refine call_c hcall (by decide) ?_
    simp (disch := omega) only [go_sem, Nat.reduceLT, Nat.reduceLeDiff, Nat.reduceAdd, Nat.reduceMul, Nat.reduceEqDiff, ↓reduceIte, reduceCtorEq, Nat.reduceBEq, Nat.reduceBNe, Nat.reducePow, Int.reduceLE, Int.reduceLT, Int.reduceNeg, Int.reduceToNat, Int.reduceEq, Int.reduceAdd, Int.reduceSub, Int.reduceMul, Int.reduceBEq, Int.reduceBNe, Blk.men, Blk.keysIn]
    refine DW.cond rfl ?_ ?_ <;> intro hc
    · repeat' (first
    | (with_reducible refine DW.seq ?_)
    | (with_reducible refine DW.block ?_)
    | (with_reducible refine DW.skip ?_)
    | (with_reducible refine DW.exit ?_)
    | (with_reducible refine DW.ret ?_)
    | (with_reducible refine DW.reg ?_)
    | (simp (disch := omega) only [go_sem, Nat.reduceLT, Nat.reduceLeDiff, Nat.reduceAdd, Nat.reduceMul, Nat.reduceEqDiff, ↓reduceIte, reduceCtorEq, Nat.reduceBEq, Nat.reduceBNe, Nat.reducePow, Int.reduceLE, Int.reduceLT, Int.reduceNeg, Int.reduceToNat, Int.reduceEq, Int.reduceAdd, Int.reduceSub, Int.reduceMul, Int.reduceBEq, Int.reduceBNe, Blk.men, Blk.keysIn])
    | (exact retS_of rfl rfl rfl)
    | (refine DW.cond_tt rfl ?_)
    | (refine DW.cond_ff rfl ?_)
    | (refine DW.cond rfl ?_ ?_ <;> intro hc <;> (try simp only [go_sem] at hc))
    | (refine g_split ?_ ?_ <;> intro hc <;> (try simp only [hc]) <;> (try simp only [go_sem] at hc)))
      refine retS_of rfl ?_ rfl; simp only [oneD, St.op, get, Nat.reduceEqDiff, ↓reduceIte, Option.getD_some, bD, dI]
      simp only [idxI, idxOf_some hij hv hc]
    · repeat' (first
    | (with_reducible refine DW.seq ?_)
    | (with_reducible refine DW.block ?_)
    | (with_reducible refine DW.skip ?_)
    | (with_reducible refine DW.exit ?_)
    | (with_reducible refine DW.ret ?_)
    | (with_reducible refine DW.reg ?_)
    | (simp (disch := omega) only [go_sem, Nat.reduceLT, Nat.reduceLeDiff, Nat.reduceAdd, Nat.reduceMul, Nat.reduceEqDiff, ↓reduceIte, reduceCtorEq, Nat.reduceBEq, Nat.reduceBNe, Nat.reducePow, Int.reduceLE, Int.reduceLT, Int.reduceNeg, Int.reduceToNat, Int.reduceEq, Int.reduceAdd, Int.reduceSub, Int.reduceMul, Int.reduceBEq, Int.reduceBNe, Blk.men, Blk.keysIn])
    | (exact retS_of rfl rfl rfl)
    | (refine DW.cond_tt rfl ?_)
    | (refine DW.cond_ff rfl ?_)
    | (refine DW.cond rfl ?_ ?_ <;> intro hc <;> (try simp only [go_sem] at hc))
    | (refine g_split ?_ ?_ <;> intro hc <;> (try simp only [hc]) <;> (try simp only [go_sem] at hc)))
      refine ⟨⟨i + 1, by omega, fun j u hj hu => by
        rcases Nat.lt_or_ge j i with h | h
        · exact hij j u h hu
        · have : j = i := by omega
          subst this
          rw [hv] at hu; cases hu; exact hc⟩, ?_, Ent.to ?_ ?_⟩ <;> first | (show _ < _; (try simp only); omega) | (simp (disch := omega) only [wkT_cons, wkX_cons, wkT_nil, wkX_nil, get, Nat.reduceEqDiff, ↓reduceIte, ex_some, wk_self, wk_top, wk_nil, wkB_self, and_self, dI, i64_in, and_true, true_and, Int.natCast_add, Int.natCast_one, Int.ofNat_zero, Int.natCast_zero])
  · repeat' (first
    | (with_reducible refine DW.seq ?_)
    | (with_reducible refine DW.block ?_)
    | (with_reducible refine DW.skip ?_)
    | (with_reducible refine DW.exit ?_)
    | (with_reducible refine DW.ret ?_)
    | (with_reducible refine DW.reg ?_)
    | (simp (disch := omega) only [go_sem, Nat.reduceLT, Nat.reduceLeDiff, Nat.reduceAdd, Nat.reduceMul, Nat.reduceEqDiff, ↓reduceIte, reduceCtorEq, Nat.reduceBEq, Nat.reduceBNe, Nat.reducePow, Int.reduceLE, Int.reduceLT, Int.reduceNeg, Int.reduceToNat, Int.reduceEq, Int.reduceAdd, Int.reduceSub, Int.reduceMul, Int.reduceBEq, Int.reduceBNe, Blk.men, Blk.keysIn, hd])
    | (exact retS_of rfl rfl rfl)
    | (refine DW.cond_tt rfl ?_)
    | (refine DW.cond_ff rfl ?_)
    | (refine DW.cond rfl ?_ ?_ <;> intro hc <;> (try simp only [go_sem] at hc))
    | (refine g_split ?_ ?_ <;> intro hc <;> (try simp only [hc]) <;> (try simp only [go_sem] at hc)))
    refine retS_of rfl ?_ rfl; simp only [oneD, St.op, get, Nat.reduceEqDiff, ↓reduceIte, Option.getD_some, bD, dI]
    simp only [idxI, idxOf_none (he ▸ hij)]
theorem c98 (b : Bool) (l : List (Look)) (hl : l.length ≤ 2 ^ 36) (g : FuncId) (fs caps : List C) (p : Look → Bool) (hp : ∀ x ∈ l, DCall Try.prog g (fs.map D.c ++ [.agg ((eL x).map D.c)] ++ caps.map D.c) [] (bD (p x)) []) : DCall Try.prog 145 [.c (.sl b 4 (rows eL l)), .c (.fn (.func g) fs caps)] [] (bD (l.any p)) [] := by
  refine DCall.of Try.func145 sf145 hb145 (Nat.le_of_ble_eq_true rfl) (okRes_nil fun _ => rfl) ?_; simp only [s145, idxs, Nat.reduceAdd]
  repeat' (first
    | (with_reducible refine DW.seq ?_)
    | (with_reducible refine DW.block ?_)
    | (with_reducible refine DW.skip ?_)
    | (with_reducible refine DW.exit ?_)
    | (with_reducible refine DW.ret ?_)
    | (with_reducible refine DW.reg ?_)
    | (simp (disch := omega) only [go_sem, Nat.reduceLT, Nat.reduceLeDiff, Nat.reduceAdd, Nat.reduceMul, Nat.reduceEqDiff, ↓reduceIte, reduceCtorEq, Nat.reduceBEq, Nat.reduceBNe, Nat.reducePow, Int.reduceLE, Int.reduceLT, Int.reduceNeg, Int.reduceToNat, Int.reduceEq, Int.reduceAdd, Int.reduceSub, Int.reduceMul, Int.reduceBEq, Int.reduceBNe, Blk.men, Blk.keysIn])
    | (exact retS_of rfl rfl rfl)
    | (refine DW.cond_tt rfl ?_)
    | (refine DW.cond_ff rfl ?_)
    | (refine DW.cond rfl ?_ ?_ <;> intro hc <;> (try simp only [go_sem] at hc))
    | (refine g_split ?_ ?_ <;> intro hc <;> (try simp only [hc]) <;> (try simp only [go_sem] at hc)))
  refine call_c (c119 b l hl g fs caps p hp) (by decide) ?_
  repeat' (first
    | (with_reducible refine DW.seq ?_)
    | (with_reducible refine DW.block ?_)
    | (with_reducible refine DW.skip ?_)
    | (with_reducible refine DW.exit ?_)
    | (with_reducible refine DW.ret ?_)
    | (with_reducible refine DW.reg ?_)
    | (simp (disch := omega) only [go_sem, Nat.reduceLT, Nat.reduceLeDiff, Nat.reduceAdd, Nat.reduceMul, Nat.reduceEqDiff, ↓reduceIte, reduceCtorEq, Nat.reduceBEq, Nat.reduceBNe, Nat.reducePow, Int.reduceLE, Int.reduceLT, Int.reduceNeg, Int.reduceToNat, Int.reduceEq, Int.reduceAdd, Int.reduceSub, Int.reduceMul, Int.reduceBEq, Int.reduceBNe, Blk.men, Blk.keysIn])
    | (exact retS_of rfl rfl rfl)
    | (refine DW.cond_tt rfl ?_)
    | (refine DW.cond_ff rfl ?_)
    | (refine DW.cond rfl ?_ ?_ <;> intro hc <;> (try simp only [go_sem] at hc))
    | (refine g_split ?_ ?_ <;> intro hc <;> (try simp only [hc]) <;> (try simp only [go_sem] at hc)))
  refine retS_of rfl ?_ rfl; simp only [oneD, St.op, get, Nat.reduceEqDiff, ↓reduceIte, Option.getD_some, bD, dI]
  rw [idxI_any]
theorem c109 (b : Bool) (l : List (Room)) (hl : l.length ≤ 2 ^ 36) (g : FuncId) (fs caps : List C) (p : Room → Bool) (hp : ∀ x ∈ l, DCall Try.prog g (fs.map D.c ++ [.agg ((eR x).map D.c)] ++ caps.map D.c) [] (bD (p x)) []) : DCall Try.prog 113 [.c (.sl b 4 (rows eR l)), .c (.fn (.func g) fs caps)] [] (dI (idxI p l)) [] := by
  refine DCall.of Try.func113 sf113 hb113 (Nat.le_of_ble_eq_true rfl) (okRes_nil fun _ => rfl) ?_; simp only [s113, idxs, Nat.reduceAdd]
  repeat' (first
    | (with_reducible refine DW.seq ?_)
    | (with_reducible refine DW.block ?_)
    | (with_reducible refine DW.skip ?_)
    | (with_reducible refine DW.exit ?_)
    | (with_reducible refine DW.ret ?_)
    | (with_reducible refine DW.reg ?_)
    | (simp (disch := omega) only [go_sem, Nat.reduceLT, Nat.reduceLeDiff, Nat.reduceAdd, Nat.reduceMul, Nat.reduceEqDiff, ↓reduceIte, reduceCtorEq, Nat.reduceBEq, Nat.reduceBNe, Nat.reducePow, Int.reduceLE, Int.reduceLT, Int.reduceNeg, Int.reduceToNat, Int.reduceEq, Int.reduceAdd, Int.reduceSub, Int.reduceMul, Int.reduceBEq, Int.reduceBNe, Blk.men, Blk.keysIn])
    | (exact retS_of rfl rfl rfl)
    | (refine DW.cond_tt rfl ?_)
    | (refine DW.cond_ff rfl ?_)
    | (refine DW.cond rfl ?_ ?_ <;> intro hc <;> (try simp only [go_sem] at hc))
    | (refine g_split ?_ ?_ <;> intro hc <;> (try simp only [hc]) <;> (try simp only [go_sem] at hc)))
  refine DW.loop (ι := { i : Nat // i ≤ l.length ∧ ∀ j u, j < i → l[j]? = some u → p u = false }) (fun i => ⟨19, [(8, dI i.1), (7, dI l.length), (1, .c (.fn (.func g) fs caps)), (0, .c (.sl b 4 (rows eR l)))], []⟩) (fun i => l.length - i.1) ⟨0, Nat.zero_le _, fun j u h => by omega⟩ ?_ ?_
  · refine Ent.to ?_ ?_ <;> simp (disch := omega) only [wkT_cons, wkX_cons, wkT_nil, wkX_nil, get, Nat.reduceEqDiff, ↓reduceIte, ex_some, wk_self, wk_top, wk_nil, wkB_self, and_self, dI, i64_in, and_true, true_and, Int.natCast_add, Int.natCast_one, Int.ofNat_zero, Int.natCast_zero]
  rintro ⟨i, hi, hij⟩
  rcases at_or l i hi with ⟨v, hv, hlt, hd⟩ | ⟨he, hd⟩
  · have hcall := hp v (List.mem_of_getElem? hv)
    repeat' (first
    | (with_reducible refine DW.seq ?_)
    | (with_reducible refine DW.block ?_)
    | (with_reducible refine DW.skip ?_)
    | (with_reducible refine DW.exit ?_)
    | (with_reducible refine DW.ret ?_)
    | (with_reducible refine DW.reg ?_)
    | (simp (disch := omega) only [go_sem, Nat.reduceLT, Nat.reduceLeDiff, Nat.reduceAdd, Nat.reduceMul, Nat.reduceEqDiff, ↓reduceIte, reduceCtorEq, Nat.reduceBEq, Nat.reduceBNe, Nat.reducePow, Int.reduceLE, Int.reduceLT, Int.reduceNeg, Int.reduceToNat, Int.reduceEq, Int.reduceAdd, Int.reduceSub, Int.reduceMul, Int.reduceBEq, Int.reduceBNe, Blk.men, Blk.keysIn, hd, hv, closeDs_fn, List.map_cons, List.map_nil])
    | (exact retS_of rfl rfl rfl)
    | (refine DW.cond_tt rfl ?_)
    | (refine DW.cond_ff rfl ?_)
    | (refine DW.cond rfl ?_ ?_ <;> intro hc <;> (try simp only [go_sem] at hc))
    | (refine g_split ?_ ?_ <;> intro hc <;> (try simp only [hc]) <;> (try simp only [go_sem] at hc)))
    refine call_c hcall (by decide) ?_
    simp (disch := omega) only [go_sem, Nat.reduceLT, Nat.reduceLeDiff, Nat.reduceAdd, Nat.reduceMul, Nat.reduceEqDiff, ↓reduceIte, reduceCtorEq, Nat.reduceBEq, Nat.reduceBNe, Nat.reducePow, Int.reduceLE, Int.reduceLT, Int.reduceNeg, Int.reduceToNat, Int.reduceEq, Int.reduceAdd, Int.reduceSub, Int.reduceMul, Int.reduceBEq, Int.reduceBNe, Blk.men, Blk.keysIn]
    refine DW.cond rfl ?_ ?_ <;> intro hc
    · repeat' (first
    | (with_reducible refine DW.seq ?_)
    | (with_reducible refine DW.block ?_)
    | (with_reducible refine DW.skip ?_)
    | (with_reducible refine DW.exit ?_)
    | (with_reducible refine DW.ret ?_)
    | (with_reducible refine DW.reg ?_)
    | (simp (disch := omega) only [go_sem, Nat.reduceLT, Nat.reduceLeDiff, Nat.reduceAdd, Nat.reduceMul, Nat.reduceEqDiff, ↓reduceIte, reduceCtorEq, Nat.reduceBEq, Nat.reduceBNe, Nat.reducePow, Int.reduceLE, Int.reduceLT, Int.reduceNeg, Int.reduceToNat, Int.reduceEq, Int.reduceAdd, Int.reduceSub, Int.reduceMul, Int.reduceBEq, Int.reduceBNe, Blk.men, Blk.keysIn])
    | (exact retS_of rfl rfl rfl)
    | (refine DW.cond_tt rfl ?_)
    | (refine DW.cond_ff rfl ?_)
    | (refine DW.cond rfl ?_ ?_ <;> intro hc <;> (try simp only [go_sem] at hc))
    | (refine g_split ?_ ?_ <;> intro hc <;> (try simp only [hc]) <;> (try simp only [go_sem] at hc)))
      refine retS_of rfl ?_ rfl; simp only [oneD, St.op, get, Nat.reduceEqDiff, ↓reduceIte, Option.getD_some, bD, dI]
      simp only [idxI, idxOf_some hij hv hc]
    · repeat' (first
    | (with_reducible refine DW.seq ?_)
    | (with_reducible refine DW.block ?_)
    | (with_reducible refine DW.skip ?_)
    | (with_reducible refine DW.exit ?_)
    | (with_reducible refine DW.ret ?_)
    | (with_reducible refine DW.reg ?_)
    | (simp (disch := omega) only [go_sem, Nat.reduceLT, Nat.reduceLeDiff, Nat.reduceAdd, Nat.reduceMul, Nat.reduceEqDiff, ↓reduceIte, reduceCtorEq, Nat.reduceBEq, Nat.reduceBNe, Nat.reducePow, Int.reduceLE, Int.reduceLT, Int.reduceNeg, Int.reduceToNat, Int.reduceEq, Int.reduceAdd, Int.reduceSub, Int.reduceMul, Int.reduceBEq, Int.reduceBNe, Blk.men, Blk.keysIn])
    | (exact retS_of rfl rfl rfl)
    | (refine DW.cond_tt rfl ?_)
    | (refine DW.cond_ff rfl ?_)
    | (refine DW.cond rfl ?_ ?_ <;> intro hc <;> (try simp only [go_sem] at hc))
    | (refine g_split ?_ ?_ <;> intro hc <;> (try simp only [hc]) <;> (try simp only [go_sem] at hc)))
      refine ⟨⟨i + 1, by omega, fun j u hj hu => by
        rcases Nat.lt_or_ge j i with h | h
        · exact hij j u h hu
        · have : j = i := by omega
          subst this
          rw [hv] at hu; cases hu; exact hc⟩, ?_, Ent.to ?_ ?_⟩ <;> first | (show _ < _; (try simp only); omega) | (simp (disch := omega) only [wkT_cons, wkX_cons, wkT_nil, wkX_nil, get, Nat.reduceEqDiff, ↓reduceIte, ex_some, wk_self, wk_top, wk_nil, wkB_self, and_self, dI, i64_in, and_true, true_and, Int.natCast_add, Int.natCast_one, Int.ofNat_zero, Int.natCast_zero])
  · repeat' (first
    | (with_reducible refine DW.seq ?_)
    | (with_reducible refine DW.block ?_)
    | (with_reducible refine DW.skip ?_)
    | (with_reducible refine DW.exit ?_)
    | (with_reducible refine DW.ret ?_)
    | (with_reducible refine DW.reg ?_)
    | (simp (disch := omega) only [go_sem, Nat.reduceLT, Nat.reduceLeDiff, Nat.reduceAdd, Nat.reduceMul, Nat.reduceEqDiff, ↓reduceIte, reduceCtorEq, Nat.reduceBEq, Nat.reduceBNe, Nat.reducePow, Int.reduceLE, Int.reduceLT, Int.reduceNeg, Int.reduceToNat, Int.reduceEq, Int.reduceAdd, Int.reduceSub, Int.reduceMul, Int.reduceBEq, Int.reduceBNe, Blk.men, Blk.keysIn, hd])
    | (exact retS_of rfl rfl rfl)
    | (refine DW.cond_tt rfl ?_)
    | (refine DW.cond_ff rfl ?_)
    | (refine DW.cond rfl ?_ ?_ <;> intro hc <;> (try simp only [go_sem] at hc))
    | (refine g_split ?_ ?_ <;> intro hc <;> (try simp only [hc]) <;> (try simp only [go_sem] at hc)))
    refine retS_of rfl ?_ rfl; simp only [oneD, St.op, get, Nat.reduceEqDiff, ↓reduceIte, Option.getD_some, bD, dI]
    simp only [idxI, idxOf_none (he ▸ hij)]
theorem c87 (b : Bool) (l : List (Room)) (hl : l.length ≤ 2 ^ 36) (g : FuncId) (fs caps : List C) (p : Room → Bool) (hp : ∀ x ∈ l, DCall Try.prog g (fs.map D.c ++ [.agg ((eR x).map D.c)] ++ caps.map D.c) [] (bD (p x)) []) : DCall Try.prog 71 [.c (.sl b 4 (rows eR l)), .c (.fn (.func g) fs caps)] [] (bD (l.any p)) [] := by
  refine DCall.of Try.func71 sf71 hb71 (Nat.le_of_ble_eq_true rfl) (okRes_nil fun _ => rfl) ?_; simp only [s71, idxs, Nat.reduceAdd]
  repeat' (first
    | (with_reducible refine DW.seq ?_)
    | (with_reducible refine DW.block ?_)
    | (with_reducible refine DW.skip ?_)
    | (with_reducible refine DW.exit ?_)
    | (with_reducible refine DW.ret ?_)
    | (with_reducible refine DW.reg ?_)
    | (simp (disch := omega) only [go_sem, Nat.reduceLT, Nat.reduceLeDiff, Nat.reduceAdd, Nat.reduceMul, Nat.reduceEqDiff, ↓reduceIte, reduceCtorEq, Nat.reduceBEq, Nat.reduceBNe, Nat.reducePow, Int.reduceLE, Int.reduceLT, Int.reduceNeg, Int.reduceToNat, Int.reduceEq, Int.reduceAdd, Int.reduceSub, Int.reduceMul, Int.reduceBEq, Int.reduceBNe, Blk.men, Blk.keysIn])
    | (exact retS_of rfl rfl rfl)
    | (refine DW.cond_tt rfl ?_)
    | (refine DW.cond_ff rfl ?_)
    | (refine DW.cond rfl ?_ ?_ <;> intro hc <;> (try simp only [go_sem] at hc))
    | (refine g_split ?_ ?_ <;> intro hc <;> (try simp only [hc]) <;> (try simp only [go_sem] at hc)))
  refine call_c (c109 b l hl g fs caps p hp) (by decide) ?_
  repeat' (first
    | (with_reducible refine DW.seq ?_)
    | (with_reducible refine DW.block ?_)
    | (with_reducible refine DW.skip ?_)
    | (with_reducible refine DW.exit ?_)
    | (with_reducible refine DW.ret ?_)
    | (with_reducible refine DW.reg ?_)
    | (simp (disch := omega) only [go_sem, Nat.reduceLT, Nat.reduceLeDiff, Nat.reduceAdd, Nat.reduceMul, Nat.reduceEqDiff, ↓reduceIte, reduceCtorEq, Nat.reduceBEq, Nat.reduceBNe, Nat.reducePow, Int.reduceLE, Int.reduceLT, Int.reduceNeg, Int.reduceToNat, Int.reduceEq, Int.reduceAdd, Int.reduceSub, Int.reduceMul, Int.reduceBEq, Int.reduceBNe, Blk.men, Blk.keysIn])
    | (exact retS_of rfl rfl rfl)
    | (refine DW.cond_tt rfl ?_)
    | (refine DW.cond_ff rfl ?_)
    | (refine DW.cond rfl ?_ ?_ <;> intro hc <;> (try simp only [go_sem] at hc))
    | (refine g_split ?_ ?_ <;> intro hc <;> (try simp only [hc]) <;> (try simp only [go_sem] at hc)))
  refine retS_of rfl ?_ rfl; simp only [oneD, St.op, get, Nat.reduceEqDiff, ↓reduceIte, Option.getD_some, bD, dI]
  rw [idxI_any]
theorem c101 (b : Bool) (l : List (List Cause)) (hl : l.length ≤ 2 ^ 36) (g : FuncId) (fs caps : List C) (p : List Cause → Bool) (hp : ∀ x ∈ l, DCall Try.prog g (fs.map D.c ++ [.c (.sl false 3 (rows eC x))] ++ caps.map D.c) [] (bD (p x)) []) : DCall Try.prog 166 [.c (.sl b 1 (rows eS l)), .c (.fn (.func g) fs caps)] [] (dI (idxI p l)) [] := by
  refine DCall.of Try.func166 sf166 hb166 (Nat.le_of_ble_eq_true rfl) (okRes_nil fun _ => rfl) ?_; simp only [s166, idxs, Nat.reduceAdd]
  repeat' (first
    | (with_reducible refine DW.seq ?_)
    | (with_reducible refine DW.block ?_)
    | (with_reducible refine DW.skip ?_)
    | (with_reducible refine DW.exit ?_)
    | (with_reducible refine DW.ret ?_)
    | (with_reducible refine DW.reg ?_)
    | (simp (disch := omega) only [go_sem, Nat.reduceLT, Nat.reduceLeDiff, Nat.reduceAdd, Nat.reduceMul, Nat.reduceEqDiff, ↓reduceIte, reduceCtorEq, Nat.reduceBEq, Nat.reduceBNe, Nat.reducePow, Int.reduceLE, Int.reduceLT, Int.reduceNeg, Int.reduceToNat, Int.reduceEq, Int.reduceAdd, Int.reduceSub, Int.reduceMul, Int.reduceBEq, Int.reduceBNe, Blk.men, Blk.keysIn])
    | (exact retS_of rfl rfl rfl)
    | (refine DW.cond_tt rfl ?_)
    | (refine DW.cond_ff rfl ?_)
    | (refine DW.cond rfl ?_ ?_ <;> intro hc <;> (try simp only [go_sem] at hc))
    | (refine g_split ?_ ?_ <;> intro hc <;> (try simp only [hc]) <;> (try simp only [go_sem] at hc)))
  refine DW.loop (ι := { i : Nat // i ≤ l.length ∧ ∀ j u, j < i → l[j]? = some u → p u = false }) (fun i => ⟨19, [(8, dI i.1), (7, dI l.length), (1, .c (.fn (.func g) fs caps)), (0, .c (.sl b 1 (rows eS l)))], []⟩) (fun i => l.length - i.1) ⟨0, Nat.zero_le _, fun j u h => by omega⟩ ?_ ?_
  · refine Ent.to ?_ ?_ <;> simp (disch := omega) only [wkT_cons, wkX_cons, wkT_nil, wkX_nil, get, Nat.reduceEqDiff, ↓reduceIte, ex_some, wk_self, wk_top, wk_nil, wkB_self, and_self, dI, i64_in, and_true, true_and, Int.natCast_add, Int.natCast_one, Int.ofNat_zero, Int.natCast_zero]
  rintro ⟨i, hi, hij⟩
  rcases at_or l i hi with ⟨v, hv, hlt, hd⟩ | ⟨he, hd⟩
  · have hcall := hp v (List.mem_of_getElem? hv)
    repeat' (first
    | (with_reducible refine DW.seq ?_)
    | (with_reducible refine DW.block ?_)
    | (with_reducible refine DW.skip ?_)
    | (with_reducible refine DW.exit ?_)
    | (with_reducible refine DW.ret ?_)
    | (with_reducible refine DW.reg ?_)
    | (simp (disch := omega) only [go_sem, Nat.reduceLT, Nat.reduceLeDiff, Nat.reduceAdd, Nat.reduceMul, Nat.reduceEqDiff, ↓reduceIte, reduceCtorEq, Nat.reduceBEq, Nat.reduceBNe, Nat.reducePow, Int.reduceLE, Int.reduceLT, Int.reduceNeg, Int.reduceToNat, Int.reduceEq, Int.reduceAdd, Int.reduceSub, Int.reduceMul, Int.reduceBEq, Int.reduceBNe, Blk.men, Blk.keysIn, hd, hv, closeDs_fn, List.map_cons, List.map_nil])
    | (exact retS_of rfl rfl rfl)
    | (refine DW.cond_tt rfl ?_)
    | (refine DW.cond_ff rfl ?_)
    | (refine DW.cond rfl ?_ ?_ <;> intro hc <;> (try simp only [go_sem] at hc))
    | (refine g_split ?_ ?_ <;> intro hc <;> (try simp only [hc]) <;> (try simp only [go_sem] at hc)))
    refine call_c hcall (by decide) ?_
    simp (disch := omega) only [go_sem, Nat.reduceLT, Nat.reduceLeDiff, Nat.reduceAdd, Nat.reduceMul, Nat.reduceEqDiff, ↓reduceIte, reduceCtorEq, Nat.reduceBEq, Nat.reduceBNe, Nat.reducePow, Int.reduceLE, Int.reduceLT, Int.reduceNeg, Int.reduceToNat, Int.reduceEq, Int.reduceAdd, Int.reduceSub, Int.reduceMul, Int.reduceBEq, Int.reduceBNe, Blk.men, Blk.keysIn]
    refine DW.cond rfl ?_ ?_ <;> intro hc
    · repeat' (first
    | (with_reducible refine DW.seq ?_)
    | (with_reducible refine DW.block ?_)
    | (with_reducible refine DW.skip ?_)
    | (with_reducible refine DW.exit ?_)
    | (with_reducible refine DW.ret ?_)
    | (with_reducible refine DW.reg ?_)
    | (simp (disch := omega) only [go_sem, Nat.reduceLT, Nat.reduceLeDiff, Nat.reduceAdd, Nat.reduceMul, Nat.reduceEqDiff, ↓reduceIte, reduceCtorEq, Nat.reduceBEq, Nat.reduceBNe, Nat.reducePow, Int.reduceLE, Int.reduceLT, Int.reduceNeg, Int.reduceToNat, Int.reduceEq, Int.reduceAdd, Int.reduceSub, Int.reduceMul, Int.reduceBEq, Int.reduceBNe, Blk.men, Blk.keysIn])
    | (exact retS_of rfl rfl rfl)
    | (refine DW.cond_tt rfl ?_)
    | (refine DW.cond_ff rfl ?_)
    | (refine DW.cond rfl ?_ ?_ <;> intro hc <;> (try simp only [go_sem] at hc))
    | (refine g_split ?_ ?_ <;> intro hc <;> (try simp only [hc]) <;> (try simp only [go_sem] at hc)))
      refine retS_of rfl ?_ rfl; simp only [oneD, St.op, get, Nat.reduceEqDiff, ↓reduceIte, Option.getD_some, bD, dI]
      simp only [idxI, idxOf_some hij hv hc]
    · repeat' (first
    | (with_reducible refine DW.seq ?_)
    | (with_reducible refine DW.block ?_)
    | (with_reducible refine DW.skip ?_)
    | (with_reducible refine DW.exit ?_)
    | (with_reducible refine DW.ret ?_)
    | (with_reducible refine DW.reg ?_)
    | (simp (disch := omega) only [go_sem, Nat.reduceLT, Nat.reduceLeDiff, Nat.reduceAdd, Nat.reduceMul, Nat.reduceEqDiff, ↓reduceIte, reduceCtorEq, Nat.reduceBEq, Nat.reduceBNe, Nat.reducePow, Int.reduceLE, Int.reduceLT, Int.reduceNeg, Int.reduceToNat, Int.reduceEq, Int.reduceAdd, Int.reduceSub, Int.reduceMul, Int.reduceBEq, Int.reduceBNe, Blk.men, Blk.keysIn])
    | (exact retS_of rfl rfl rfl)
    | (refine DW.cond_tt rfl ?_)
    | (refine DW.cond_ff rfl ?_)
    | (refine DW.cond rfl ?_ ?_ <;> intro hc <;> (try simp only [go_sem] at hc))
    | (refine g_split ?_ ?_ <;> intro hc <;> (try simp only [hc]) <;> (try simp only [go_sem] at hc)))
      refine ⟨⟨i + 1, by omega, fun j u hj hu => by
        rcases Nat.lt_or_ge j i with h | h
        · exact hij j u h hu
        · have : j = i := by omega
          subst this
          rw [hv] at hu; cases hu; exact hc⟩, ?_, Ent.to ?_ ?_⟩ <;> first | (show _ < _; (try simp only); omega) | (simp (disch := omega) only [wkT_cons, wkX_cons, wkT_nil, wkX_nil, get, Nat.reduceEqDiff, ↓reduceIte, ex_some, wk_self, wk_top, wk_nil, wkB_self, and_self, dI, i64_in, and_true, true_and, Int.natCast_add, Int.natCast_one, Int.ofNat_zero, Int.natCast_zero])
  · repeat' (first
    | (with_reducible refine DW.seq ?_)
    | (with_reducible refine DW.block ?_)
    | (with_reducible refine DW.skip ?_)
    | (with_reducible refine DW.exit ?_)
    | (with_reducible refine DW.ret ?_)
    | (with_reducible refine DW.reg ?_)
    | (simp (disch := omega) only [go_sem, Nat.reduceLT, Nat.reduceLeDiff, Nat.reduceAdd, Nat.reduceMul, Nat.reduceEqDiff, ↓reduceIte, reduceCtorEq, Nat.reduceBEq, Nat.reduceBNe, Nat.reducePow, Int.reduceLE, Int.reduceLT, Int.reduceNeg, Int.reduceToNat, Int.reduceEq, Int.reduceAdd, Int.reduceSub, Int.reduceMul, Int.reduceBEq, Int.reduceBNe, Blk.men, Blk.keysIn, hd])
    | (exact retS_of rfl rfl rfl)
    | (refine DW.cond_tt rfl ?_)
    | (refine DW.cond_ff rfl ?_)
    | (refine DW.cond rfl ?_ ?_ <;> intro hc <;> (try simp only [go_sem] at hc))
    | (refine g_split ?_ ?_ <;> intro hc <;> (try simp only [hc]) <;> (try simp only [go_sem] at hc)))
    refine retS_of rfl ?_ rfl; simp only [oneD, St.op, get, Nat.reduceEqDiff, ↓reduceIte, Option.getD_some, bD, dI]
    simp only [idxI, idxOf_none (he ▸ hij)]
end Go.Dw.Seat
end
section
set_option linter.unusedSimpArgs false
set_option maxRecDepth 100000
namespace Go.Dw.Seat
open Go Go.Dw Go.Proofs Go.IntWalk
theorem c111 (n lo hi : Int) (p q : Bool) : DCall Try.prog 114 [dI n, .c (.ro p [.v (.int .i64 lo)] 0), .c (.ro q [.v (.int .i64 hi)] 0)] [] (bD (decide (n < lo) || decide (hi < n))) [] := by
  refine DCall.of Try.func114 sf114 hb114 (Nat.le_of_ble_eq_true rfl) (okRes_nil fun _ => rfl) ?_; simp only [s114, idxs, Nat.reduceAdd]
  repeat' (first
    | (with_reducible refine DW.seq ?_)
    | (with_reducible refine DW.block ?_)
    | (with_reducible refine DW.skip ?_)
    | (with_reducible refine DW.exit ?_)
    | (with_reducible refine DW.ret ?_)
    | (with_reducible refine DW.reg ?_)
    | (simp (disch := omega) only [go_sem, Nat.reduceLT, Nat.reduceLeDiff, Nat.reduceAdd, Nat.reduceMul, Nat.reduceEqDiff, ↓reduceIte, reduceCtorEq, Nat.reduceBEq, Nat.reduceBNe, Nat.reducePow, Int.reduceLE, Int.reduceLT, Int.reduceNeg, Int.reduceToNat, Int.reduceEq, Int.reduceAdd, Int.reduceSub, Int.reduceMul, Int.reduceBEq, Int.reduceBNe, Blk.men, Blk.keysIn])
    | (exact retS_of rfl rfl rfl)
    | (refine DW.cond_tt rfl ?_)
    | (refine DW.cond_ff rfl ?_)
    | (refine DW.cond rfl ?_ ?_ <;> intro hc <;> (try simp only [go_sem] at hc))
    | (refine g_split ?_ ?_ <;> intro hc <;> (try simp only [hc]) <;> (try simp only [go_sem] at hc)))
def wthn (lo hi : Int) (l : List Int) : Bool := !(l.any fun n => decide (n < lo) || decide (hi < n))
theorem c88 (b : Bool) (lo hi : Int) (l : List Int) (hl : l.length ≤ 2 ^ 36) : DCall Try.prog 72 [dI lo, dI hi, dIs b l] [] (bD (wthn lo hi l)) [] := by
  refine DCall.of Try.func72 sf72 hb72 (Nat.le_of_ble_eq_true rfl) (okRes_nil fun _ => rfl) ?_; simp only [s72, idxs, Nat.reduceAdd]
  repeat' (first
    | (with_reducible refine DW.seq ?_)
    | (with_reducible refine DW.block ?_)
    | (with_reducible refine DW.skip ?_)
    | (with_reducible refine DW.exit ?_)
    | (with_reducible refine DW.ret ?_)
    | (with_reducible refine DW.reg ?_)
    | (simp (disch := omega) only [go_sem, Nat.reduceLT, Nat.reduceLeDiff, Nat.reduceAdd, Nat.reduceMul, Nat.reduceEqDiff, ↓reduceIte, reduceCtorEq, Nat.reduceBEq, Nat.reduceBNe, Nat.reducePow, Int.reduceLE, Int.reduceLT, Int.reduceNeg, Int.reduceToNat, Int.reduceEq, Int.reduceAdd, Int.reduceSub, Int.reduceMul, Int.reduceBEq, Int.reduceBNe, Blk.men, Blk.keysIn])
    | (exact retS_of rfl rfl rfl)
    | (refine DW.cond_tt rfl ?_)
    | (refine DW.cond_ff rfl ?_)
    | (refine DW.cond rfl ?_ ?_ <;> intro hc <;> (try simp only [go_sem] at hc))
    | (refine g_split ?_ ?_ <;> intro hc <;> (try simp only [hc]) <;> (try simp only [go_sem] at hc)))
  (refine call_c (c110 b l hl 114 [] [.ro true [.v (.int .i64 lo)] 0, .ro true [.v (.int .i64 hi)] 0] (fun n => decide (n < lo) || decide (hi < n)) (fun x _ => c111 x lo hi true true)) (by decide) ?_; simp (disch := omega) only [go_sem, Nat.reduceLT, Nat.reduceLeDiff, Nat.reduceAdd, Nat.reduceMul, Nat.reduceEqDiff, ↓reduceIte, reduceCtorEq, Nat.reduceBEq, Nat.reduceBNe, Nat.reducePow, Int.reduceLE, Int.reduceLT, Int.reduceNeg, Int.reduceToNat, Int.reduceEq, Int.reduceAdd, Int.reduceSub, Int.reduceMul, Int.reduceBEq, Int.reduceBNe, Blk.men, Blk.keysIn])
  repeat' (first
    | (with_reducible refine DW.seq ?_)
    | (with_reducible refine DW.block ?_)
    | (with_reducible refine DW.skip ?_)
    | (with_reducible refine DW.exit ?_)
    | (with_reducible refine DW.ret ?_)
    | (with_reducible refine DW.reg ?_)
    | (simp (disch := omega) only [go_sem, Nat.reduceLT, Nat.reduceLeDiff, Nat.reduceAdd, Nat.reduceMul, Nat.reduceEqDiff, ↓reduceIte, reduceCtorEq, Nat.reduceBEq, Nat.reduceBNe, Nat.reducePow, Int.reduceLE, Int.reduceLT, Int.reduceNeg, Int.reduceToNat, Int.reduceEq, Int.reduceAdd, Int.reduceSub, Int.reduceMul, Int.reduceBEq, Int.reduceBNe, Blk.men, Blk.keysIn])
    | (exact retS_of rfl rfl rfl)
    | (refine DW.cond_tt rfl ?_)
    | (refine DW.cond_ff rfl ?_)
    | (refine DW.cond rfl ?_ ?_ <;> intro hc <;> (try simp only [go_sem] at hc))
    | (refine g_split ?_ ?_ <;> intro hc <;> (try simp only [hc]) <;> (try simp only [go_sem] at hc)))
theorem c93 (b : Bool) (l : List Int) (hl : l.length ≤ 2 ^ 36) : DCall Try.prog 110 [dIs b l] [] (bD (wthn 0 1000 l)) [] := by
  refine DCall.of Try.func110 sf110 hb110 (Nat.le_of_ble_eq_true rfl) (okRes_nil fun _ => rfl) ?_; simp only [s110, idxs, Nat.reduceAdd]
  repeat' (first
    | (with_reducible refine DW.seq ?_)
    | (with_reducible refine DW.block ?_)
    | (with_reducible refine DW.skip ?_)
    | (with_reducible refine DW.exit ?_)
    | (with_reducible refine DW.ret ?_)
    | (with_reducible refine DW.reg ?_)
    | (simp (disch := omega) only [go_sem, Nat.reduceLT, Nat.reduceLeDiff, Nat.reduceAdd, Nat.reduceMul, Nat.reduceEqDiff, ↓reduceIte, reduceCtorEq, Nat.reduceBEq, Nat.reduceBNe, Nat.reducePow, Int.reduceLE, Int.reduceLT, Int.reduceNeg, Int.reduceToNat, Int.reduceEq, Int.reduceAdd, Int.reduceSub, Int.reduceMul, Int.reduceBEq, Int.reduceBNe, Blk.men, Blk.keysIn])
    | (exact retS_of rfl rfl rfl)
    | (refine DW.cond_tt rfl ?_)
    | (refine DW.cond_ff rfl ?_)
    | (refine DW.cond rfl ?_ ?_ <;> intro hc <;> (try simp only [go_sem] at hc))
    | (refine g_split ?_ ?_ <;> intro hc <;> (try simp only [hc]) <;> (try simp only [go_sem] at hc)))
  (refine call_c (c88 b 0 1000 l hl) (by decide) ?_; simp (disch := omega) only [go_sem, Nat.reduceLT, Nat.reduceLeDiff, Nat.reduceAdd, Nat.reduceMul, Nat.reduceEqDiff, ↓reduceIte, reduceCtorEq, Nat.reduceBEq, Nat.reduceBNe, Nat.reducePow, Int.reduceLE, Int.reduceLT, Int.reduceNeg, Int.reduceToNat, Int.reduceEq, Int.reduceAdd, Int.reduceSub, Int.reduceMul, Int.reduceBEq, Int.reduceBNe, Blk.men, Blk.keysIn])
  repeat' (first
    | (with_reducible refine DW.seq ?_)
    | (with_reducible refine DW.block ?_)
    | (with_reducible refine DW.skip ?_)
    | (with_reducible refine DW.exit ?_)
    | (with_reducible refine DW.ret ?_)
    | (with_reducible refine DW.reg ?_)
    | (simp (disch := omega) only [go_sem, Nat.reduceLT, Nat.reduceLeDiff, Nat.reduceAdd, Nat.reduceMul, Nat.reduceEqDiff, ↓reduceIte, reduceCtorEq, Nat.reduceBEq, Nat.reduceBNe, Nat.reducePow, Int.reduceLE, Int.reduceLT, Int.reduceNeg, Int.reduceToNat, Int.reduceEq, Int.reduceAdd, Int.reduceSub, Int.reduceMul, Int.reduceBEq, Int.reduceBNe, Blk.men, Blk.keysIn])
    | (exact retS_of rfl rfl rfl)
    | (refine DW.cond_tt rfl ?_)
    | (refine DW.cond_ff rfl ?_)
    | (refine DW.cond rfl ?_ ?_ <;> intro hc <;> (try simp only [go_sem] at hc))
    | (refine g_split ?_ ?_ <;> intro hc <;> (try simp only [hc]) <;> (try simp only [go_sem] at hc)))
theorem c115 (b : Bool) (p : Plan) (n : Int) (hp : p.noz.length ≤ 2 ^ 36) : DCall Try.prog 163 [dP b p, dI n] [] (bD (wthn 0 ((p.noz.length : Int) - 1) [n])) [] := by
  refine DCall.of Try.func163 sf163 hb163 (Nat.le_of_ble_eq_true rfl) (okRes_nil fun _ => rfl) ?_; simp only [s163, idxs, Nat.reduceAdd]
  repeat' (first
    | (with_reducible refine DW.seq ?_)
    | (with_reducible refine DW.block ?_)
    | (with_reducible refine DW.skip ?_)
    | (with_reducible refine DW.exit ?_)
    | (with_reducible refine DW.ret ?_)
    | (with_reducible refine DW.reg ?_)
    | (simp (disch := omega) only [go_sem, Nat.reduceLT, Nat.reduceLeDiff, Nat.reduceAdd, Nat.reduceMul, Nat.reduceEqDiff, ↓reduceIte, reduceCtorEq, Nat.reduceBEq, Nat.reduceBNe, Nat.reducePow, Int.reduceLE, Int.reduceLT, Int.reduceNeg, Int.reduceToNat, Int.reduceEq, Int.reduceAdd, Int.reduceSub, Int.reduceMul, Int.reduceBEq, Int.reduceBNe, Blk.men, Blk.keysIn])
    | (exact retS_of rfl rfl rfl)
    | (refine DW.cond_tt rfl ?_)
    | (refine DW.cond_ff rfl ?_)
    | (refine DW.cond rfl ?_ ?_ <;> intro hc <;> (try simp only [go_sem] at hc))
    | (refine g_split ?_ ?_ <;> intro hc <;> (try simp only [hc]) <;> (try simp only [go_sem] at hc)))
  (refine call_c (c88 true 0 ((p.noz.length : Int) - 1) [n] (by simp)) (by decide) ?_; simp (disch := omega) only [go_sem, Nat.reduceLT, Nat.reduceLeDiff, Nat.reduceAdd, Nat.reduceMul, Nat.reduceEqDiff, ↓reduceIte, reduceCtorEq, Nat.reduceBEq, Nat.reduceBNe, Nat.reducePow, Int.reduceLE, Int.reduceLT, Int.reduceNeg, Int.reduceToNat, Int.reduceEq, Int.reduceAdd, Int.reduceSub, Int.reduceMul, Int.reduceBEq, Int.reduceBNe, Blk.men, Blk.keysIn])
  repeat' (first
    | (with_reducible refine DW.seq ?_)
    | (with_reducible refine DW.block ?_)
    | (with_reducible refine DW.skip ?_)
    | (with_reducible refine DW.exit ?_)
    | (with_reducible refine DW.ret ?_)
    | (with_reducible refine DW.reg ?_)
    | (simp (disch := omega) only [go_sem, Nat.reduceLT, Nat.reduceLeDiff, Nat.reduceAdd, Nat.reduceMul, Nat.reduceEqDiff, ↓reduceIte, reduceCtorEq, Nat.reduceBEq, Nat.reduceBNe, Nat.reducePow, Int.reduceLE, Int.reduceLT, Int.reduceNeg, Int.reduceToNat, Int.reduceEq, Int.reduceAdd, Int.reduceSub, Int.reduceMul, Int.reduceBEq, Int.reduceBNe, Blk.men, Blk.keysIn])
    | (exact retS_of rfl rfl rfl)
    | (refine DW.cond_tt rfl ?_)
    | (refine DW.cond_ff rfl ?_)
    | (refine DW.cond rfl ?_ ?_ <;> intro hc <;> (try simp only [go_sem] at hc))
    | (refine g_split ?_ ?_ <;> intro hc <;> (try simp only [hc]) <;> (try simp only [go_sem] at hc)))
def causeOk (p : Plan) (c : Cause) : Bool := wthn 0 ((p.noz.length : Int) - 1) [c.noz] && wthn 1 4 [c.kind] && wthn 0 1000 [c.frm]
theorem c121 (b : Bool) (p : Plan) (c : Cause) (hp : p.noz.length ≤ 2 ^ 36) : DCall Try.prog 160 [dP b p, .agg ((eC c).map D.c)] [] (bD (causeOk p c)) [] := by
  refine DCall.of Try.func160 sf160 hb160 (Nat.le_of_ble_eq_true rfl) (okRes_nil fun _ => rfl) ?_; simp only [s160, idxs, Nat.reduceAdd]
  repeat' (first
    | (with_reducible refine DW.seq ?_)
    | (with_reducible refine DW.block ?_)
    | (with_reducible refine DW.skip ?_)
    | (with_reducible refine DW.exit ?_)
    | (with_reducible refine DW.ret ?_)
    | (with_reducible refine DW.reg ?_)
    | (simp (disch := omega) only [go_sem, Nat.reduceLT, Nat.reduceLeDiff, Nat.reduceAdd, Nat.reduceMul, Nat.reduceEqDiff, ↓reduceIte, reduceCtorEq, Nat.reduceBEq, Nat.reduceBNe, Nat.reducePow, Int.reduceLE, Int.reduceLT, Int.reduceNeg, Int.reduceToNat, Int.reduceEq, Int.reduceAdd, Int.reduceSub, Int.reduceMul, Int.reduceBEq, Int.reduceBNe, Blk.men, Blk.keysIn, List.map_cons, List.map_nil])
    | (exact retS_of rfl rfl rfl)
    | (refine DW.cond_tt rfl ?_)
    | (refine DW.cond_ff rfl ?_)
    | (refine DW.cond rfl ?_ ?_ <;> intro hc <;> (try simp only [go_sem] at hc))
    | (refine g_split ?_ ?_ <;> intro hc <;> (try simp only [hc]) <;> (try simp only [go_sem] at hc)))
  (refine call_c (c115 b p c.noz hp) (by decide) ?_; simp (disch := omega) only [go_sem, Nat.reduceLT, Nat.reduceLeDiff, Nat.reduceAdd, Nat.reduceMul, Nat.reduceEqDiff, ↓reduceIte, reduceCtorEq, Nat.reduceBEq, Nat.reduceBNe, Nat.reducePow, Int.reduceLE, Int.reduceLT, Int.reduceNeg, Int.reduceToNat, Int.reduceEq, Int.reduceAdd, Int.reduceSub, Int.reduceMul, Int.reduceBEq, Int.reduceBNe, Blk.men, Blk.keysIn])
  refine g_split ?_ ?_ <;> intro h1 <;> simp (disch := omega) only [go_sem, Nat.reduceLT, Nat.reduceLeDiff, Nat.reduceAdd, Nat.reduceMul, Nat.reduceEqDiff, ↓reduceIte, reduceCtorEq, Nat.reduceBEq, Nat.reduceBNe, Nat.reducePow, Int.reduceLE, Int.reduceLT, Int.reduceNeg, Int.reduceToNat, Int.reduceEq, Int.reduceAdd, Int.reduceSub, Int.reduceMul, Int.reduceBEq, Int.reduceBNe, Blk.men, Blk.keysIn, h1]
  · (refine call_c (c88 true 1 4 [c.kind] (by simp)) (by decide) ?_; simp (disch := omega) only [go_sem, Nat.reduceLT, Nat.reduceLeDiff, Nat.reduceAdd, Nat.reduceMul, Nat.reduceEqDiff, ↓reduceIte, reduceCtorEq, Nat.reduceBEq, Nat.reduceBNe, Nat.reducePow, Int.reduceLE, Int.reduceLT, Int.reduceNeg, Int.reduceToNat, Int.reduceEq, Int.reduceAdd, Int.reduceSub, Int.reduceMul, Int.reduceBEq, Int.reduceBNe, Blk.men, Blk.keysIn])
    refine g_split ?_ ?_ <;> intro h2 <;> simp (disch := omega) only [go_sem, Nat.reduceLT, Nat.reduceLeDiff, Nat.reduceAdd, Nat.reduceMul, Nat.reduceEqDiff, ↓reduceIte, reduceCtorEq, Nat.reduceBEq, Nat.reduceBNe, Nat.reducePow, Int.reduceLE, Int.reduceLT, Int.reduceNeg, Int.reduceToNat, Int.reduceEq, Int.reduceAdd, Int.reduceSub, Int.reduceMul, Int.reduceBEq, Int.reduceBNe, Blk.men, Blk.keysIn, h2]
    · (refine call_c (c93 true [c.frm] (by simp)) (by decide) ?_; simp (disch := omega) only [go_sem, Nat.reduceLT, Nat.reduceLeDiff, Nat.reduceAdd, Nat.reduceMul, Nat.reduceEqDiff, ↓reduceIte, reduceCtorEq, Nat.reduceBEq, Nat.reduceBNe, Nat.reducePow, Int.reduceLE, Int.reduceLT, Int.reduceNeg, Int.reduceToNat, Int.reduceEq, Int.reduceAdd, Int.reduceSub, Int.reduceMul, Int.reduceBEq, Int.reduceBNe, Blk.men, Blk.keysIn])
      repeat' (first
    | (with_reducible refine DW.seq ?_)
    | (with_reducible refine DW.block ?_)
    | (with_reducible refine DW.skip ?_)
    | (with_reducible refine DW.exit ?_)
    | (with_reducible refine DW.ret ?_)
    | (with_reducible refine DW.reg ?_)
    | (simp (disch := omega) only [go_sem, Nat.reduceLT, Nat.reduceLeDiff, Nat.reduceAdd, Nat.reduceMul, Nat.reduceEqDiff, ↓reduceIte, reduceCtorEq, Nat.reduceBEq, Nat.reduceBNe, Nat.reducePow, Int.reduceLE, Int.reduceLT, Int.reduceNeg, Int.reduceToNat, Int.reduceEq, Int.reduceAdd, Int.reduceSub, Int.reduceMul, Int.reduceBEq, Int.reduceBNe, Blk.men, Blk.keysIn])
    | (exact retS_of rfl rfl rfl)
    | (refine DW.cond_tt rfl ?_)
    | (refine DW.cond_ff rfl ?_)
    | (refine DW.cond rfl ?_ ?_ <;> intro hc <;> (try simp only [go_sem] at hc))
    | (refine g_split ?_ ?_ <;> intro hc <;> (try simp only [hc]) <;> (try simp only [go_sem] at hc)))
      refine retS_of rfl ?_ rfl; simp only [oneD, St.op, get, Nat.reduceEqDiff, ↓reduceIte, Option.getD_some, bD, dI]
      simp only [causeOk, h1, h2, Bool.true_and]
    · repeat' (first
    | (with_reducible refine DW.seq ?_)
    | (with_reducible refine DW.block ?_)
    | (with_reducible refine DW.skip ?_)
    | (with_reducible refine DW.exit ?_)
    | (with_reducible refine DW.ret ?_)
    | (with_reducible refine DW.reg ?_)
    | (simp (disch := omega) only [go_sem, Nat.reduceLT, Nat.reduceLeDiff, Nat.reduceAdd, Nat.reduceMul, Nat.reduceEqDiff, ↓reduceIte, reduceCtorEq, Nat.reduceBEq, Nat.reduceBNe, Nat.reducePow, Int.reduceLE, Int.reduceLT, Int.reduceNeg, Int.reduceToNat, Int.reduceEq, Int.reduceAdd, Int.reduceSub, Int.reduceMul, Int.reduceBEq, Int.reduceBNe, Blk.men, Blk.keysIn])
    | (exact retS_of rfl rfl rfl)
    | (refine DW.cond_tt rfl ?_)
    | (refine DW.cond_ff rfl ?_)
    | (refine DW.cond rfl ?_ ?_ <;> intro hc <;> (try simp only [go_sem] at hc))
    | (refine g_split ?_ ?_ <;> intro hc <;> (try simp only [hc]) <;> (try simp only [go_sem] at hc)))
      refine retS_of rfl ?_ rfl; simp only [oneD, St.op, get, Nat.reduceEqDiff, ↓reduceIte, Option.getD_some, bD, dI]
      simp only [causeOk, h1, h2, Bool.true_and, Bool.false_and]
  · repeat' (first
    | (with_reducible refine DW.seq ?_)
    | (with_reducible refine DW.block ?_)
    | (with_reducible refine DW.skip ?_)
    | (with_reducible refine DW.exit ?_)
    | (with_reducible refine DW.ret ?_)
    | (with_reducible refine DW.reg ?_)
    | (simp (disch := omega) only [go_sem, Nat.reduceLT, Nat.reduceLeDiff, Nat.reduceAdd, Nat.reduceMul, Nat.reduceEqDiff, ↓reduceIte, reduceCtorEq, Nat.reduceBEq, Nat.reduceBNe, Nat.reducePow, Int.reduceLE, Int.reduceLT, Int.reduceNeg, Int.reduceToNat, Int.reduceEq, Int.reduceAdd, Int.reduceSub, Int.reduceMul, Int.reduceBEq, Int.reduceBNe, Blk.men, Blk.keysIn])
    | (exact retS_of rfl rfl rfl)
    | (refine DW.cond_tt rfl ?_)
    | (refine DW.cond_ff rfl ?_)
    | (refine DW.cond rfl ?_ ?_ <;> intro hc <;> (try simp only [go_sem] at hc))
    | (refine g_split ?_ ?_ <;> intro hc <;> (try simp only [hc]) <;> (try simp only [go_sem] at hc)))
    refine retS_of rfl ?_ rfl; simp only [oneD, St.op, get, Nat.reduceEqDiff, ↓reduceIte, Option.getD_some, bD, dI]
    simp only [causeOk, h1, Bool.true_and, Bool.false_and]
theorem c120 (p q : Bool) (x : Plan) (c : Cause) (hp : x.noz.length ≤ 2 ^ 36) : DCall Try.prog 159 [.agg ((eC c).map D.c), .c (.ro p [.v (.int .i64 x.steps), .sl q 1 (rows eI x.noz)] 0)] [] (bD (!causeOk x c)) [] := by
  refine DCall.of Try.func159 sf159 hb159 (Nat.le_of_ble_eq_true rfl) (okRes_nil fun _ => rfl) ?_; simp only [s159, idxs, Nat.reduceAdd]
  repeat' (first
    | (with_reducible refine DW.seq ?_)
    | (with_reducible refine DW.block ?_)
    | (with_reducible refine DW.skip ?_)
    | (with_reducible refine DW.exit ?_)
    | (with_reducible refine DW.ret ?_)
    | (with_reducible refine DW.reg ?_)
    | (simp (disch := omega) only [go_sem, Nat.reduceLT, Nat.reduceLeDiff, Nat.reduceAdd, Nat.reduceMul, Nat.reduceEqDiff, ↓reduceIte, reduceCtorEq, Nat.reduceBEq, Nat.reduceBNe, Nat.reducePow, Int.reduceLE, Int.reduceLT, Int.reduceNeg, Int.reduceToNat, Int.reduceEq, Int.reduceAdd, Int.reduceSub, Int.reduceMul, Int.reduceBEq, Int.reduceBNe, Blk.men, Blk.keysIn, List.map_cons, List.map_nil])
    | (exact retS_of rfl rfl rfl)
    | (refine DW.cond_tt rfl ?_)
    | (refine DW.cond_ff rfl ?_)
    | (refine DW.cond rfl ?_ ?_ <;> intro hc <;> (try simp only [go_sem] at hc))
    | (refine g_split ?_ ?_ <;> intro hc <;> (try simp only [hc]) <;> (try simp only [go_sem] at hc)))
  (refine call_c (c121 q x c hp) (by decide) ?_; simp (disch := omega) only [go_sem, Nat.reduceLT, Nat.reduceLeDiff, Nat.reduceAdd, Nat.reduceMul, Nat.reduceEqDiff, ↓reduceIte, reduceCtorEq, Nat.reduceBEq, Nat.reduceBNe, Nat.reducePow, Int.reduceLE, Int.reduceLT, Int.reduceNeg, Int.reduceToNat, Int.reduceEq, Int.reduceAdd, Int.reduceSub, Int.reduceMul, Int.reduceBEq, Int.reduceBNe, Blk.men, Blk.keysIn])
  repeat' (first
    | (with_reducible refine DW.seq ?_)
    | (with_reducible refine DW.block ?_)
    | (with_reducible refine DW.skip ?_)
    | (with_reducible refine DW.exit ?_)
    | (with_reducible refine DW.ret ?_)
    | (with_reducible refine DW.reg ?_)
    | (simp (disch := omega) only [go_sem, Nat.reduceLT, Nat.reduceLeDiff, Nat.reduceAdd, Nat.reduceMul, Nat.reduceEqDiff, ↓reduceIte, reduceCtorEq, Nat.reduceBEq, Nat.reduceBNe, Nat.reducePow, Int.reduceLE, Int.reduceLT, Int.reduceNeg, Int.reduceToNat, Int.reduceEq, Int.reduceAdd, Int.reduceSub, Int.reduceMul, Int.reduceBEq, Int.reduceBNe, Blk.men, Blk.keysIn])
    | (exact retS_of rfl rfl rfl)
    | (refine DW.cond_tt rfl ?_)
    | (refine DW.cond_ff rfl ?_)
    | (refine DW.cond rfl ?_ ?_ <;> intro hc <;> (try simp only [go_sem] at hc))
    | (refine g_split ?_ ?_ <;> intro hc <;> (try simp only [hc]) <;> (try simp only [go_sem] at hc)))
def checkErr (p : Plan) (s : List Cause) : Int := if 2 < s.length then 8 else if s.any (fun c => !causeOk p c) then 4 else if asc (s.map (·.noz)) then 0 else 6
theorem c105 (b b' : Bool) (p : Plan) (s : List Cause) (hp : p.noz.length ≤ 2 ^ 36) (hs : s.length ≤ 2 ^ 36) : DCall Try.prog 138 [dP b p, dCs b' s] [] (dI (checkErr p s)) [] := by
  refine DCall.of Try.func138 sf138 hb138 (Nat.le_of_ble_eq_true rfl) (okRes_nil fun _ => rfl) ?_; simp only [s138, idxs, Nat.reduceAdd]
  repeat' (first
    | (with_reducible refine DW.seq ?_)
    | (with_reducible refine DW.block ?_)
    | (with_reducible refine DW.skip ?_)
    | (with_reducible refine DW.exit ?_)
    | (with_reducible refine DW.ret ?_)
    | (with_reducible refine DW.reg ?_)
    | (refine DW.dreg rfl (WF.of (by first | rfl | simp (disch := omega) only [go_sem, Nat.reduceLT, Nat.reduceLeDiff, Nat.reduceAdd, Nat.reduceMul, Nat.reduceEqDiff, ↓reduceIte, reduceCtorEq, Nat.reduceBEq, Nat.reduceBNe, Nat.reducePow, Int.reduceLE, Int.reduceLT, Int.reduceNeg, Int.reduceToNat, Int.reduceEq, Int.reduceAdd, Int.reduceSub, Int.reduceMul, Int.reduceBEq, Int.reduceBNe, Blk.men, Blk.keysIn])) ?_)
    | (simp (disch := omega) only [go_sem, Nat.reduceLT, Nat.reduceLeDiff, Nat.reduceAdd, Nat.reduceMul, Nat.reduceEqDiff, ↓reduceIte, reduceCtorEq, Nat.reduceBEq, Nat.reduceBNe, Nat.reducePow, Int.reduceLE, Int.reduceLT, Int.reduceNeg, Int.reduceToNat, Int.reduceEq, Int.reduceAdd, Int.reduceSub, Int.reduceMul, Int.reduceBEq, Int.reduceBNe, Blk.men, Blk.keysIn])
    | (exact retS_of rfl rfl rfl)
    | (refine DW.cond_tt rfl ?_)
    | (refine DW.cond_ff rfl ?_)
    | (refine DW.cond rfl ?_ ?_ <;> intro hc <;> (try simp only [go_sem] at hc))
    | (refine g_split ?_ ?_ <;> intro hc <;> (try simp only [hc]) <;> (try simp only [go_sem] at hc)))
  · refine retS_of rfl ?_ rfl; simp only [oneD, St.op, get, Nat.reduceEqDiff, ↓reduceIte, Option.getD_some, bD, dI]
    rw [checkErr, if_pos (by omega)]
  (refine call_c (c67 b' s hs 159 [] [.ro true [.v (.int .i64 p.steps), .sl b 1 (rows eI p.noz)] 0] (fun c => !causeOk p c) (fun x _ => c120 true b p x hp)) (by decide) ?_; simp (disch := omega) only [go_sem, Nat.reduceLT, Nat.reduceLeDiff, Nat.reduceAdd, Nat.reduceMul, Nat.reduceEqDiff, ↓reduceIte, reduceCtorEq, Nat.reduceBEq, Nat.reduceBNe, Nat.reducePow, Int.reduceLE, Int.reduceLT, Int.reduceNeg, Int.reduceToNat, Int.reduceEq, Int.reduceAdd, Int.reduceSub, Int.reduceMul, Int.reduceBEq, Int.reduceBNe, Blk.men, Blk.keysIn])
  refine DW.cond rfl ?_ ?_ <;> intro h1
  · repeat' (first
    | (with_reducible refine DW.seq ?_)
    | (with_reducible refine DW.block ?_)
    | (with_reducible refine DW.skip ?_)
    | (with_reducible refine DW.exit ?_)
    | (with_reducible refine DW.ret ?_)
    | (with_reducible refine DW.reg ?_)
    | (refine DW.dreg rfl (WF.of (by first | rfl | simp (disch := omega) only [go_sem, Nat.reduceLT, Nat.reduceLeDiff, Nat.reduceAdd, Nat.reduceMul, Nat.reduceEqDiff, ↓reduceIte, reduceCtorEq, Nat.reduceBEq, Nat.reduceBNe, Nat.reducePow, Int.reduceLE, Int.reduceLT, Int.reduceNeg, Int.reduceToNat, Int.reduceEq, Int.reduceAdd, Int.reduceSub, Int.reduceMul, Int.reduceBEq, Int.reduceBNe, Blk.men, Blk.keysIn])) ?_)
    | (simp (disch := omega) only [go_sem, Nat.reduceLT, Nat.reduceLeDiff, Nat.reduceAdd, Nat.reduceMul, Nat.reduceEqDiff, ↓reduceIte, reduceCtorEq, Nat.reduceBEq, Nat.reduceBNe, Nat.reducePow, Int.reduceLE, Int.reduceLT, Int.reduceNeg, Int.reduceToNat, Int.reduceEq, Int.reduceAdd, Int.reduceSub, Int.reduceMul, Int.reduceBEq, Int.reduceBNe, Blk.men, Blk.keysIn])
    | (exact retS_of rfl rfl rfl)
    | (refine DW.cond_tt rfl ?_)
    | (refine DW.cond_ff rfl ?_)
    | (refine DW.cond rfl ?_ ?_ <;> intro hc <;> (try simp only [go_sem] at hc))
    | (refine g_split ?_ ?_ <;> intro hc <;> (try simp only [hc]) <;> (try simp only [go_sem] at hc)))
    refine retS_of rfl ?_ rfl; simp only [oneD, St.op, get, Nat.reduceEqDiff, ↓reduceIte, Option.getD_some, bD, dI]
    rw [checkErr, if_neg (by omega), if_pos h1]
  repeat' (first
    | (with_reducible refine DW.seq ?_)
    | (with_reducible refine DW.block ?_)
    | (with_reducible refine DW.skip ?_)
    | (with_reducible refine DW.exit ?_)
    | (with_reducible refine DW.ret ?_)
    | (with_reducible refine DW.reg ?_)
    | (refine DW.dreg rfl (WF.of (by first | rfl | simp (disch := omega) only [go_sem, Nat.reduceLT, Nat.reduceLeDiff, Nat.reduceAdd, Nat.reduceMul, Nat.reduceEqDiff, ↓reduceIte, reduceCtorEq, Nat.reduceBEq, Nat.reduceBNe, Nat.reducePow, Int.reduceLE, Int.reduceLT, Int.reduceNeg, Int.reduceToNat, Int.reduceEq, Int.reduceAdd, Int.reduceSub, Int.reduceMul, Int.reduceBEq, Int.reduceBNe, Blk.men, Blk.keysIn])) ?_)
    | (simp (disch := omega) only [go_sem, Nat.reduceLT, Nat.reduceLeDiff, Nat.reduceAdd, Nat.reduceMul, Nat.reduceEqDiff, ↓reduceIte, reduceCtorEq, Nat.reduceBEq, Nat.reduceBNe, Nat.reducePow, Int.reduceLE, Int.reduceLT, Int.reduceNeg, Int.reduceToNat, Int.reduceEq, Int.reduceAdd, Int.reduceSub, Int.reduceMul, Int.reduceBEq, Int.reduceBNe, Blk.men, Blk.keysIn])
    | (exact retS_of rfl rfl rfl)
    | (refine DW.cond_tt rfl ?_)
    | (refine DW.cond_ff rfl ?_)
    | (refine DW.cond rfl ?_ ?_ <;> intro hc <;> (try simp only [go_sem] at hc))
    | (refine g_split ?_ ?_ <;> intro hc <;> (try simp only [hc]) <;> (try simp only [go_sem] at hc)))
  refine DW.loop (ι := { j : Nat // ∀ k, k < j → ∀ a c, s[k]? = some a → s[k + 1]? = some c → a.noz < c.noz }) (fun i => ⟨34, [(6, dI ((i.1 : Int) + 1)), (1, dCs b' s)], []⟩) (fun i => s.length - i.1) ⟨0, fun k h => by omega⟩ ?_ ?_
  · refine Ent.to ?_ ?_ <;> simp (disch := omega) only [wkT_cons, wkX_cons, wkT_nil, wkX_nil, get, Nat.reduceEqDiff, ↓reduceIte, ex_some, wk_self, wk_top, wk_nil, wkB_self, and_self, dI, i64_in, and_true, true_and, Int.natCast_add, Int.natCast_one, Int.ofNat_zero, Int.natCast_zero]
    exact .refl _
  rintro ⟨j, hj⟩
  rcases Nat.lt_or_ge (j + 1) s.length with h | h
  · obtain ⟨u, hu⟩ := getE h
    obtain ⟨v, hv⟩ := getE (Nat.lt_of_succ_lt h)
    repeat' (first
    | (with_reducible refine DW.seq ?_)
    | (with_reducible refine DW.block ?_)
    | (with_reducible refine DW.skip ?_)
    | (with_reducible refine DW.exit ?_)
    | (with_reducible refine DW.ret ?_)
    | (with_reducible refine DW.reg ?_)
    | (refine DW.dreg rfl (WF.of (by first | rfl | simp (disch := omega) only [go_sem, Nat.reduceLT, Nat.reduceLeDiff, Nat.reduceAdd, Nat.reduceMul, Nat.reduceEqDiff, ↓reduceIte, reduceCtorEq, Nat.reduceBEq, Nat.reduceBNe, Nat.reducePow, Int.reduceLE, Int.reduceLT, Int.reduceNeg, Int.reduceToNat, Int.reduceEq, Int.reduceAdd, Int.reduceSub, Int.reduceMul, Int.reduceBEq, Int.reduceBNe, Blk.men, Blk.keysIn, dlt1 h, hu, hv])) ?_)
    | (simp (disch := omega) only [go_sem, Nat.reduceLT, Nat.reduceLeDiff, Nat.reduceAdd, Nat.reduceMul, Nat.reduceEqDiff, ↓reduceIte, reduceCtorEq, Nat.reduceBEq, Nat.reduceBNe, Nat.reducePow, Int.reduceLE, Int.reduceLT, Int.reduceNeg, Int.reduceToNat, Int.reduceEq, Int.reduceAdd, Int.reduceSub, Int.reduceMul, Int.reduceBEq, Int.reduceBNe, Blk.men, Blk.keysIn, dlt1 h, hu, hv])
    | (exact retS_of rfl rfl rfl)
    | (refine DW.cond_tt rfl ?_)
    | (refine DW.cond_ff rfl ?_)
    | (refine DW.cond rfl ?_ ?_ <;> intro hc <;> (try simp only [go_sem] at hc))
    | (refine g_split ?_ ?_ <;> intro hc <;> (try simp only [hc]) <;> (try simp only [go_sem] at hc)))
    · refine retS_of rfl ?_ rfl; simp only [oneD, St.op, get, Nat.reduceEqDiff, ↓reduceIte, Option.getD_some, bD, dI]
      have h2 : asc (s.map (·.noz)) = false := asc_false (j := j) (a := v.noz) (b := u.noz) (by simp [hv]) (by simp [hu]) (by omega)
      rw [checkErr, if_neg (by omega), if_neg (by simp [h1]), h2]
      rfl
    · refine ⟨⟨j + 1, upto1 (p := fun k => ∀ a c, s[k]? = some a → s[k + 1]? = some c → a.noz < c.noz) hj (fun a c ha hc => by
        rw [hv] at ha; rw [hu] at hc; cases ha; cases hc; omega)⟩, ?_, Ent.to ?_ ?_⟩ <;> first | (show _ < _; (try simp only); omega) | (simp (disch := omega) only [wkT_cons, wkX_cons, wkT_nil, wkX_nil, get, Nat.reduceEqDiff, ↓reduceIte, ex_some, wk_self, wk_top, wk_nil, wkB_self, and_self, dI, i64_in, and_true, true_and, Int.natCast_add, Int.natCast_one, Int.ofNat_zero, Int.natCast_zero])
  · repeat' (first
    | (with_reducible refine DW.seq ?_)
    | (with_reducible refine DW.block ?_)
    | (with_reducible refine DW.skip ?_)
    | (with_reducible refine DW.exit ?_)
    | (with_reducible refine DW.ret ?_)
    | (with_reducible refine DW.reg ?_)
    | (refine DW.dreg rfl (WF.of (by first | rfl | simp (disch := omega) only [go_sem, Nat.reduceLT, Nat.reduceLeDiff, Nat.reduceAdd, Nat.reduceMul, Nat.reduceEqDiff, ↓reduceIte, reduceCtorEq, Nat.reduceBEq, Nat.reduceBNe, Nat.reducePow, Int.reduceLE, Int.reduceLT, Int.reduceNeg, Int.reduceToNat, Int.reduceEq, Int.reduceAdd, Int.reduceSub, Int.reduceMul, Int.reduceBEq, Int.reduceBNe, Blk.men, Blk.keysIn, dge1 h])) ?_)
    | (simp (disch := omega) only [go_sem, Nat.reduceLT, Nat.reduceLeDiff, Nat.reduceAdd, Nat.reduceMul, Nat.reduceEqDiff, ↓reduceIte, reduceCtorEq, Nat.reduceBEq, Nat.reduceBNe, Nat.reducePow, Int.reduceLE, Int.reduceLT, Int.reduceNeg, Int.reduceToNat, Int.reduceEq, Int.reduceAdd, Int.reduceSub, Int.reduceMul, Int.reduceBEq, Int.reduceBNe, Blk.men, Blk.keysIn, dge1 h])
    | (exact retS_of rfl rfl rfl)
    | (refine DW.cond_tt rfl ?_)
    | (refine DW.cond_ff rfl ?_)
    | (refine DW.cond rfl ?_ ?_ <;> intro hc <;> (try simp only [go_sem] at hc))
    | (refine g_split ?_ ?_ <;> intro hc <;> (try simp only [hc]) <;> (try simp only [go_sem] at hc)))
    refine retS_of rfl ?_ rfl; simp only [oneD, St.op, get, Nat.reduceEqDiff, ↓reduceIte, Option.getD_some, bD, dI]
    have h2 : asc (s.map (·.noz)) = true := asc_true fun k x y hx hy => by
      simp only [List.getElem?_map, Option.map_eq_some_iff] at hx hy
      obtain ⟨a, ha, rfl⟩ := hx
      obtain ⟨c, hc, rfl⟩ := hy
      rcases Nat.lt_or_ge k j with hk | hk
      · exact hj k hk a c ha hc
      · rw [List.getElem?_eq_none (by omega)] at hc; cases hc
    rw [checkErr, if_neg (by omega), if_neg (by simp [h1]), h2]
    rfl
def openErr (x : Plan) : Int := if wthn 1 16 [x.steps] = false then 3 else if 6 < x.noz.length then 5 else if x.noz.length = 0 then 7 else if wthn 0 (2 ^ x.steps.toNat - 1) x.noz = false then 2 else 0
def opened (x : Plan) : Plan := if openErr x = 0 then x else ⟨0, []⟩
theorem wthn_one {lo hi n : Int} (h : wthn lo hi [n] = true) : lo ≤ n ∧ n ≤ hi := by
  simp [wthn] at h; omega
theorem pow16 {st : Nat} (h : st ≤ 16) : (2 : Int) ^ st ≤ 65536 ∧ 1 ≤ (2 : Int) ^ st := by
  have : ∀ k : Fin 17, (2 : Int) ^ k.1 ≤ 65536 ∧ 1 ≤ (2 : Int) ^ k.1 := by decide
  exact this ⟨st, by omega⟩
theorem c78 (x : Plan) (hx : x.noz.length ≤ 2 ^ 36) : DCall Try.prog 137 [dP false x] [] (.tup [dP false (opened x), dI (openErr x)]) [] := by
  refine DCall.of Try.func137 sf137 hb137 (Nat.le_of_ble_eq_true rfl) (okRes_nil fun _ => rfl) ?_; simp only [s137, idxs, Nat.reduceAdd]
  repeat' (first
    | (with_reducible refine DW.seq ?_)
    | (with_reducible refine DW.block ?_)
    | (with_reducible refine DW.skip ?_)
    | (with_reducible refine DW.exit ?_)
    | (with_reducible refine DW.ret ?_)
    | (with_reducible refine DW.reg ?_)
    | (refine DW.dreg rfl (WF.of (by first | rfl | simp (disch := omega) only [go_sem, Nat.reduceLT, Nat.reduceLeDiff, Nat.reduceAdd, Nat.reduceMul, Nat.reduceEqDiff, ↓reduceIte, reduceCtorEq, Nat.reduceBEq, Nat.reduceBNe, Nat.reducePow, Int.reduceLE, Int.reduceLT, Int.reduceNeg, Int.reduceToNat, Int.reduceEq, Int.reduceAdd, Int.reduceSub, Int.reduceMul, Int.reduceBEq, Int.reduceBNe, Blk.men, Blk.keysIn])) ?_)
    | (simp (disch := omega) only [go_sem, Nat.reduceLT, Nat.reduceLeDiff, Nat.reduceAdd, Nat.reduceMul, Nat.reduceEqDiff, ↓reduceIte, reduceCtorEq, Nat.reduceBEq, Nat.reduceBNe, Nat.reducePow, Int.reduceLE, Int.reduceLT, Int.reduceNeg, Int.reduceToNat, Int.reduceEq, Int.reduceAdd, Int.reduceSub, Int.reduceMul, Int.reduceBEq, Int.reduceBNe, Blk.men, Blk.keysIn])
    | (exact retS_of rfl rfl rfl)
    | (refine DW.cond_tt rfl ?_)
    | (refine DW.cond_ff rfl ?_)
    | (refine DW.cond rfl ?_ ?_ <;> intro hc <;> (try simp only [go_sem] at hc))
    | (refine g_split ?_ ?_ <;> intro hc <;> (try simp only [hc]) <;> (try simp only [go_sem] at hc)))
  (refine call_c (c88 true 1 16 [x.steps] (by simp)) (by decide) ?_; simp (disch := omega) only [go_sem, Nat.reduceLT, Nat.reduceLeDiff, Nat.reduceAdd, Nat.reduceMul, Nat.reduceEqDiff, ↓reduceIte, reduceCtorEq, Nat.reduceBEq, Nat.reduceBNe, Nat.reducePow, Int.reduceLE, Int.reduceLT, Int.reduceNeg, Int.reduceToNat, Int.reduceEq, Int.reduceAdd, Int.reduceSub, Int.reduceMul, Int.reduceBEq, Int.reduceBNe, Blk.men, Blk.keysIn])
  refine DW.cond rfl ?_ ?_ <;> intro h1
  · have he : openErr x = 3 := if_pos (by simpa using h1)
    have ho : opened x = ⟨0, []⟩ := by rw [opened, he]; rfl
    rw [he, ho]
    repeat' (first
    | (with_reducible refine DW.seq ?_)
    | (with_reducible refine DW.block ?_)
    | (with_reducible refine DW.skip ?_)
    | (with_reducible refine DW.exit ?_)
    | (with_reducible refine DW.ret ?_)
    | (with_reducible refine DW.reg ?_)
    | (refine DW.dreg rfl (WF.of (by first | rfl | simp (disch := omega) only [go_sem, Nat.reduceLT, Nat.reduceLeDiff, Nat.reduceAdd, Nat.reduceMul, Nat.reduceEqDiff, ↓reduceIte, reduceCtorEq, Nat.reduceBEq, Nat.reduceBNe, Nat.reducePow, Int.reduceLE, Int.reduceLT, Int.reduceNeg, Int.reduceToNat, Int.reduceEq, Int.reduceAdd, Int.reduceSub, Int.reduceMul, Int.reduceBEq, Int.reduceBNe, Blk.men, Blk.keysIn])) ?_)
    | (simp (disch := omega) only [go_sem, Nat.reduceLT, Nat.reduceLeDiff, Nat.reduceAdd, Nat.reduceMul, Nat.reduceEqDiff, ↓reduceIte, reduceCtorEq, Nat.reduceBEq, Nat.reduceBNe, Nat.reducePow, Int.reduceLE, Int.reduceLT, Int.reduceNeg, Int.reduceToNat, Int.reduceEq, Int.reduceAdd, Int.reduceSub, Int.reduceMul, Int.reduceBEq, Int.reduceBNe, Blk.men, Blk.keysIn])
    | (exact retS_of rfl rfl rfl)
    | (refine DW.cond_tt rfl ?_)
    | (refine DW.cond_ff rfl ?_)
    | (refine DW.cond rfl ?_ ?_ <;> intro hc <;> (try simp only [go_sem] at hc))
    | (refine g_split ?_ ?_ <;> intro hc <;> (try simp only [hc]) <;> (try simp only [go_sem] at hc)))
    refine retS_wk rfl ?_ (by simp only [Blk.nb, rowC_nb, D.nb, D.nbs, C.nb, C.nbs, C.nbss, rows_nb eI_nb, rows_nb eC_nb, rows_nb eL_nb, rows_nb eR_nb, rows_nb eS_nb, rows_nb eG_nb, Bool.and_true, Bool.not_false, Bool.and_self, bD, dI, iD]); exact .tup (.cons (.agg (.cons (.refl _) (.cons (.nil false 1) .nil))) (.cons (.refl _) .nil))
  have h1' : wthn 1 16 [x.steps] = true := by simpa using h1
  obtain ⟨h2, h3⟩ := wthn_one h1'
  obtain ⟨st, hst⟩ : ∃ st : Nat, x.steps = st := ⟨x.steps.toNat, by omega⟩
  have hst16 : st ≤ 16 := by omega
  have hshl : shlI .i64 1 st = 2 ^ st := by rw [one_shl st (by omega)]; simp
  have hpow : (2 : Int) ^ st ≤ 65536 ∧ 1 ≤ (2 : Int) ^ st := pow16 hst16
  obtain ⟨hp1, hp2⟩ := hpow
  have hun : openErr x = if 6 < x.noz.length then 5 else if x.noz.length = 0 then 7 else if wthn 0 (2 ^ x.steps.toNat - 1) x.noz = false then 2 else 0 := if_neg (by simp [h1'])
  rw [hst, Int.toNat_natCast] at hun
  repeat' (first
    | (with_reducible refine DW.seq ?_)
    | (with_reducible refine DW.block ?_)
    | (with_reducible refine DW.skip ?_)
    | (with_reducible refine DW.exit ?_)
    | (with_reducible refine DW.ret ?_)
    | (with_reducible refine DW.reg ?_)
    | (refine DW.dreg rfl (WF.of (by first | rfl | simp (disch := omega) only [go_sem, Nat.reduceLT, Nat.reduceLeDiff, Nat.reduceAdd, Nat.reduceMul, Nat.reduceEqDiff, ↓reduceIte, reduceCtorEq, Nat.reduceBEq, Nat.reduceBNe, Nat.reducePow, Int.reduceLE, Int.reduceLT, Int.reduceNeg, Int.reduceToNat, Int.reduceEq, Int.reduceAdd, Int.reduceSub, Int.reduceMul, Int.reduceBEq, Int.reduceBNe, Blk.men, Blk.keysIn, hst, hshl])) ?_)
    | (simp (disch := omega) only [go_sem, Nat.reduceLT, Nat.reduceLeDiff, Nat.reduceAdd, Nat.reduceMul, Nat.reduceEqDiff, ↓reduceIte, reduceCtorEq, Nat.reduceBEq, Nat.reduceBNe, Nat.reducePow, Int.reduceLE, Int.reduceLT, Int.reduceNeg, Int.reduceToNat, Int.reduceEq, Int.reduceAdd, Int.reduceSub, Int.reduceMul, Int.reduceBEq, Int.reduceBNe, Blk.men, Blk.keysIn, hst, hshl])
    | (exact retS_of rfl rfl rfl)
    | (refine DW.cond_tt rfl ?_)
    | (refine DW.cond_ff rfl ?_)
    | (refine DW.cond rfl ?_ ?_ <;> intro hc <;> (try simp only [go_sem] at hc))
    | (refine g_split ?_ ?_ <;> intro hc <;> (try simp only [hc]) <;> (try simp only [go_sem] at hc)))
  · have he : openErr x = 5 := by rw [hun, if_pos (by omega)]
    have ho : opened x = ⟨0, []⟩ := by rw [opened, he]; rfl
    rw [he, ho]
    refine retS_wk rfl ?_ (by simp only [Blk.nb, rowC_nb, D.nb, D.nbs, C.nb, C.nbs, C.nbss, rows_nb eI_nb, rows_nb eC_nb, rows_nb eL_nb, rows_nb eR_nb, rows_nb eS_nb, rows_nb eG_nb, Bool.and_true, Bool.not_false, Bool.and_self, bD, dI, iD]); exact .tup (.cons (.agg (.cons (.refl _) (.cons (.nil false 1) .nil))) (.cons (.refl _) .nil))
  · have he : openErr x = 7 := by rw [hun, if_neg (by omega), if_pos (by omega)]
    have ho : opened x = ⟨0, []⟩ := by rw [opened, he]; rfl
    rw [he, ho]
    refine retS_wk rfl ?_ (by simp only [Blk.nb, rowC_nb, D.nb, D.nbs, C.nb, C.nbs, C.nbss, rows_nb eI_nb, rows_nb eC_nb, rows_nb eL_nb, rows_nb eR_nb, rows_nb eS_nb, rows_nb eG_nb, Bool.and_true, Bool.not_false, Bool.and_self, bD, dI, iD]); exact .tup (.cons (.agg (.cons (.refl _) (.cons (.nil false 1) .nil))) (.cons (.refl _) .nil))
  (refine call_c (c88 false 0 (2 ^ st - 1) x.noz hx) (by decide) ?_; simp (disch := omega) only [go_sem, Nat.reduceLT, Nat.reduceLeDiff, Nat.reduceAdd, Nat.reduceMul, Nat.reduceEqDiff, ↓reduceIte, reduceCtorEq, Nat.reduceBEq, Nat.reduceBNe, Nat.reducePow, Int.reduceLE, Int.reduceLT, Int.reduceNeg, Int.reduceToNat, Int.reduceEq, Int.reduceAdd, Int.reduceSub, Int.reduceMul, Int.reduceBEq, Int.reduceBNe, Blk.men, Blk.keysIn])
  refine DW.cond rfl ?_ ?_ <;> intro h4
  · have he : openErr x = 2 := by rw [hun, if_neg (by omega), if_neg (by omega), if_pos (by simpa using h4)]
    have ho : opened x = ⟨0, []⟩ := by rw [opened, he]; rfl
    rw [he, ho]
    repeat' (first
    | (with_reducible refine DW.seq ?_)
    | (with_reducible refine DW.block ?_)
    | (with_reducible refine DW.skip ?_)
    | (with_reducible refine DW.exit ?_)
    | (with_reducible refine DW.ret ?_)
    | (with_reducible refine DW.reg ?_)
    | (refine DW.dreg rfl (WF.of (by first | rfl | simp (disch := omega) only [go_sem, Nat.reduceLT, Nat.reduceLeDiff, Nat.reduceAdd, Nat.reduceMul, Nat.reduceEqDiff, ↓reduceIte, reduceCtorEq, Nat.reduceBEq, Nat.reduceBNe, Nat.reducePow, Int.reduceLE, Int.reduceLT, Int.reduceNeg, Int.reduceToNat, Int.reduceEq, Int.reduceAdd, Int.reduceSub, Int.reduceMul, Int.reduceBEq, Int.reduceBNe, Blk.men, Blk.keysIn])) ?_)
    | (simp (disch := omega) only [go_sem, Nat.reduceLT, Nat.reduceLeDiff, Nat.reduceAdd, Nat.reduceMul, Nat.reduceEqDiff, ↓reduceIte, reduceCtorEq, Nat.reduceBEq, Nat.reduceBNe, Nat.reducePow, Int.reduceLE, Int.reduceLT, Int.reduceNeg, Int.reduceToNat, Int.reduceEq, Int.reduceAdd, Int.reduceSub, Int.reduceMul, Int.reduceBEq, Int.reduceBNe, Blk.men, Blk.keysIn])
    | (exact retS_of rfl rfl rfl)
    | (refine DW.cond_tt rfl ?_)
    | (refine DW.cond_ff rfl ?_)
    | (refine DW.cond rfl ?_ ?_ <;> intro hc <;> (try simp only [go_sem] at hc))
    | (refine g_split ?_ ?_ <;> intro hc <;> (try simp only [hc]) <;> (try simp only [go_sem] at hc)))
    refine retS_wk rfl ?_ (by simp only [Blk.nb, rowC_nb, D.nb, D.nbs, C.nb, C.nbs, C.nbss, rows_nb eI_nb, rows_nb eC_nb, rows_nb eL_nb, rows_nb eR_nb, rows_nb eS_nb, rows_nb eG_nb, Bool.and_true, Bool.not_false, Bool.and_self, bD, dI, iD]); exact .tup (.cons (.agg (.cons (.refl _) (.cons (.nil false 1) .nil))) (.cons (.refl _) .nil))
  · have he : openErr x = 0 := by rw [hun, if_neg (by omega), if_neg (by omega), if_neg (by simpa using h4)]
    have ho : opened x = x := by rw [opened, he]; rfl
    rw [he, ho]
    repeat' (first
    | (with_reducible refine DW.seq ?_)
    | (with_reducible refine DW.block ?_)
    | (with_reducible refine DW.skip ?_)
    | (with_reducible refine DW.exit ?_)
    | (with_reducible refine DW.ret ?_)
    | (with_reducible refine DW.reg ?_)
    | (refine DW.dreg rfl (WF.of (by first | rfl | simp (disch := omega) only [go_sem, Nat.reduceLT, Nat.reduceLeDiff, Nat.reduceAdd, Nat.reduceMul, Nat.reduceEqDiff, ↓reduceIte, reduceCtorEq, Nat.reduceBEq, Nat.reduceBNe, Nat.reducePow, Int.reduceLE, Int.reduceLT, Int.reduceNeg, Int.reduceToNat, Int.reduceEq, Int.reduceAdd, Int.reduceSub, Int.reduceMul, Int.reduceBEq, Int.reduceBNe, Blk.men, Blk.keysIn, hst])) ?_)
    | (simp (disch := omega) only [go_sem, Nat.reduceLT, Nat.reduceLeDiff, Nat.reduceAdd, Nat.reduceMul, Nat.reduceEqDiff, ↓reduceIte, reduceCtorEq, Nat.reduceBEq, Nat.reduceBNe, Nat.reducePow, Int.reduceLE, Int.reduceLT, Int.reduceNeg, Int.reduceToNat, Int.reduceEq, Int.reduceAdd, Int.reduceSub, Int.reduceMul, Int.reduceBEq, Int.reduceBNe, Blk.men, Blk.keysIn, hst])
    | (exact retS_of rfl rfl rfl)
    | (refine DW.cond_tt rfl ?_)
    | (refine DW.cond_ff rfl ?_)
    | (refine DW.cond rfl ?_ ?_ <;> intro hc <;> (try simp only [go_sem] at hc))
    | (refine g_split ?_ ?_ <;> intro hc <;> (try simp only [hc]) <;> (try simp only [go_sem] at hc)))
    refine retS_wk rfl ?_ (by simp only [Blk.nb, rowC_nb, D.nb, D.nbs, C.nb, C.nbs, C.nbss, rows_nb eI_nb, rows_nb eC_nb, rows_nb eL_nb, rows_nb eR_nb, rows_nb eS_nb, rows_nb eG_nb, Bool.and_true, Bool.not_false, Bool.and_self, bD, dI, iD]); exact .refl _
end Go.Dw.Seat
end
section
set_option linter.unusedSimpArgs false
set_option maxRecDepth 100000
namespace Go.Dw.Seat
open Go Go.Dw Go.Proofs Go.IntWalk
def firstErr (p : Plan) : List (List Cause) → Int
  | [] => 0
  | s :: l => if checkErr p s = 0 then firstErr p l else checkErr p s
def stErr (x : Plan) (ss : List (List Cause)) : Int := if openErr x = 0 then firstErr x ss else openErr x
theorem firstErr_at {p : Plan} : ∀ {l : List (List Cause)} {i : Nat} {s : List Cause}, (∀ j u, j < i → l[j]? = some u → checkErr p u = 0) → l[i]? = some s → checkErr p s ≠ 0 → firstErr p l = checkErr p s
  | [], _, _, _, h, _ => by simp at h
  | a :: l, 0, s, _, h, hs => by
    simp at h; subst h
    simp [firstErr, hs]
  | a :: l, i + 1, s, h0, h, hs => by
    have h1 := h0 0 a (by omega) (by simp)
    have h2 := firstErr_at (l := l) (i := i) (s := s) (fun j u hj hu => h0 (j + 1) u (by omega) (by simpa using hu)) (by simpa using h) hs
    simp [firstErr, h1, h2]
theorem firstErr_zero {p : Plan} : ∀ {l : List (List Cause)}, (∀ j u, j < l.length → l[j]? = some u → checkErr p u = 0) → firstErr p l = 0
  | [], _ => rfl
  | a :: l, h0 => by
    have h1 := h0 0 a (by simp) (by simp)
    have h2 := firstErr_zero (l := l) (fun j u hj hu => h0 (j + 1) u (by simp; omega) (by simpa using hu))
    simp [firstErr, h1, h2]
theorem c77 (b b' : Bool) (x : Plan) (ss : List (List Cause)) (hx : x.noz.length ≤ 2 ^ 36) (hl : ss.length ≤ 2 ^ 36) (hs : ∀ s ∈ ss, s.length ≤ 2 ^ 36) :
    DCall Try.prog 109 [dP false x, .c (.sl b 1 (rows (eSb b') ss))] [] (.tup [dP false (opened x), dI (stErr x ss)]) [] := by
  refine DCall.of Try.func109 sf109 hb109 (Nat.le_of_ble_eq_true rfl) (okRes_nil fun _ => rfl) ?_; simp only [s109, idxs, Nat.reduceAdd]
  repeat' (first
    | (with_reducible refine DW.seq ?_)
    | (with_reducible refine DW.block ?_)
    | (with_reducible refine DW.skip ?_)
    | (with_reducible refine DW.exit ?_)
    | (with_reducible refine DW.ret ?_)
    | (with_reducible refine DW.reg ?_)
    | (simp (disch := omega) only [go_sem, Nat.reduceLT, Nat.reduceLeDiff, Nat.reduceAdd, Nat.reduceMul, Nat.reduceEqDiff, ↓reduceIte, reduceCtorEq, Nat.reduceBEq, Nat.reduceBNe, Nat.reducePow, Int.reduceLE, Int.reduceLT, Int.reduceNeg, Int.reduceToNat, Int.reduceEq, Int.reduceAdd, Int.reduceSub, Int.reduceMul, Int.reduceBEq, Int.reduceBNe, Blk.men, Blk.keysIn])
    | (exact retS_of rfl rfl rfl)
    | (refine DW.cond_tt rfl ?_)
    | (refine DW.cond_ff rfl ?_)
    | (refine DW.cond rfl ?_ ?_ <;> intro hc <;> (try simp only [go_sem] at hc))
    | (refine g_split ?_ ?_ <;> intro hc <;> (try simp only [hc]) <;> (try simp only [go_sem] at hc)))
  (refine call_c (c78 x hx) (by decide) ?_; simp (disch := omega) only [go_sem, Nat.reduceLT, Nat.reduceLeDiff, Nat.reduceAdd, Nat.reduceMul, Nat.reduceEqDiff, ↓reduceIte, reduceCtorEq, Nat.reduceBEq, Nat.reduceBNe, Nat.reducePow, Int.reduceLE, Int.reduceLT, Int.reduceNeg, Int.reduceToNat, Int.reduceEq, Int.reduceAdd, Int.reduceSub, Int.reduceMul, Int.reduceBEq, Int.reduceBNe, Blk.men, Blk.keysIn])
  have hox : (opened x).noz.length ≤ 2 ^ 36 := by unfold opened; split <;> first | exact hx | exact Nat.zero_le _
  repeat' (first
    | (with_reducible refine DW.seq ?_)
    | (with_reducible refine DW.block ?_)
    | (with_reducible refine DW.skip ?_)
    | (with_reducible refine DW.exit ?_)
    | (with_reducible refine DW.ret ?_)
    | (with_reducible refine DW.reg ?_)
    | (simp (disch := omega) only [go_sem, Nat.reduceLT, Nat.reduceLeDiff, Nat.reduceAdd, Nat.reduceMul, Nat.reduceEqDiff, ↓reduceIte, reduceCtorEq, Nat.reduceBEq, Nat.reduceBNe, Nat.reducePow, Int.reduceLE, Int.reduceLT, Int.reduceNeg, Int.reduceToNat, Int.reduceEq, Int.reduceAdd, Int.reduceSub, Int.reduceMul, Int.reduceBEq, Int.reduceBNe, Blk.men, Blk.keysIn])
    | (exact retS_of rfl rfl rfl)
    | (refine DW.cond_tt rfl ?_)
    | (refine DW.cond_ff rfl ?_)
    | (refine DW.cond rfl ?_ ?_ <;> intro hc <;> (try simp only [go_sem] at hc))
    | (refine g_split ?_ ?_ <;> intro hc <;> (try simp only [hc]) <;> (try simp only [go_sem] at hc)))
  · have he : stErr x ss = openErr x := if_neg (by assumption)
    rw [he]
    refine retS_wk rfl ?_ (by simp only [Blk.nb, rowC_nb, D.nb, D.nbs, C.nb, C.nbs, C.nbss, rows_nb eI_nb, rows_nb eC_nb, rows_nb eL_nb, rows_nb eR_nb, rows_nb eS_nb, rows_nb eG_nb, Bool.and_true, Bool.not_false, Bool.and_self, bD, dI, iD]); exact .refl _
  have hok : openErr x = 0 := by assumption
  have ho : opened x = x := by rw [opened, hok]; rfl
  have he : stErr x ss = firstErr x ss := if_pos hok
  rw [he, ho]
  refine DW.loop (ι := { i : Nat // i ≤ ss.length ∧ ∀ j s, j < i → ss[j]? = some s → checkErr x s = 0 }) (fun i => ⟨35, [(22, dI i.1), (21, dI ss.length), (20, .c (.sl b 1 (rows (eSb b') ss))), (6, .box 6 0), (4, .box 4 0)],
    [(6, .box [dI x.steps, dIs false x.noz]), (4, .box [dI 0, .c (.v (.slice none 0 0))])]⟩) (fun i => ss.length - i.1) ⟨0, Nat.zero_le _, fun j u h => by omega⟩ ?_ ?_
  · refine Ent.to ?_ ?_ <;> simp (disch := omega) only [wkT_cons, wkX_cons, wkT_nil, wkX_nil, get, Nat.reduceEqDiff, ↓reduceIte, ex_some, wk_self, wk_top, wk_nil, wkB_self, and_self, dI, i64_in, and_true, true_and, Int.natCast_add, Int.natCast_one, Int.ofNat_zero, Int.natCast_zero]
  rintro ⟨i, hi, hij⟩
  rcases at_or ss i hi with ⟨v, hv, hlt, hd⟩ | ⟨hend, hd⟩
  · repeat' (first
    | (with_reducible refine DW.seq ?_)
    | (with_reducible refine DW.block ?_)
    | (with_reducible refine DW.skip ?_)
    | (with_reducible refine DW.exit ?_)
    | (with_reducible refine DW.ret ?_)
    | (with_reducible refine DW.reg ?_)
    | (simp (disch := omega) only [go_sem, Nat.reduceLT, Nat.reduceLeDiff, Nat.reduceAdd, Nat.reduceMul, Nat.reduceEqDiff, ↓reduceIte, reduceCtorEq, Nat.reduceBEq, Nat.reduceBNe, Nat.reducePow, Int.reduceLE, Int.reduceLT, Int.reduceNeg, Int.reduceToNat, Int.reduceEq, Int.reduceAdd, Int.reduceSub, Int.reduceMul, Int.reduceBEq, Int.reduceBNe, Blk.men, Blk.keysIn, hd, hv])
    | (exact retS_of rfl rfl rfl)
    | (refine DW.cond_tt rfl ?_)
    | (refine DW.cond_ff rfl ?_)
    | (refine DW.cond rfl ?_ ?_ <;> intro hc <;> (try simp only [go_sem] at hc))
    | (refine g_split ?_ ?_ <;> intro hc <;> (try simp only [hc]) <;> (try simp only [go_sem] at hc)))
    (refine call_c (c105 false b' x v hx (hs v (List.mem_of_getElem? hv))) (by decide) ?_; simp (disch := omega) only [go_sem, Nat.reduceLT, Nat.reduceLeDiff, Nat.reduceAdd, Nat.reduceMul, Nat.reduceEqDiff, ↓reduceIte, reduceCtorEq, Nat.reduceBEq, Nat.reduceBNe, Nat.reducePow, Int.reduceLE, Int.reduceLT, Int.reduceNeg, Int.reduceToNat, Int.reduceEq, Int.reduceAdd, Int.reduceSub, Int.reduceMul, Int.reduceBEq, Int.reduceBNe, Blk.men, Blk.keysIn])
    repeat' (first
    | (with_reducible refine DW.seq ?_)
    | (with_reducible refine DW.block ?_)
    | (with_reducible refine DW.skip ?_)
    | (with_reducible refine DW.exit ?_)
    | (with_reducible refine DW.ret ?_)
    | (with_reducible refine DW.reg ?_)
    | (simp (disch := omega) only [go_sem, Nat.reduceLT, Nat.reduceLeDiff, Nat.reduceAdd, Nat.reduceMul, Nat.reduceEqDiff, ↓reduceIte, reduceCtorEq, Nat.reduceBEq, Nat.reduceBNe, Nat.reducePow, Int.reduceLE, Int.reduceLT, Int.reduceNeg, Int.reduceToNat, Int.reduceEq, Int.reduceAdd, Int.reduceSub, Int.reduceMul, Int.reduceBEq, Int.reduceBNe, Blk.men, Blk.keysIn])
    | (exact retS_of rfl rfl rfl)
    | (refine DW.cond_tt rfl ?_)
    | (refine DW.cond_ff rfl ?_)
    | (refine DW.cond rfl ?_ ?_ <;> intro hc <;> (try simp only [go_sem] at hc))
    | (refine g_split ?_ ?_ <;> intro hc <;> (try simp only [hc]) <;> (try simp only [go_sem] at hc)))
    · have : firstErr x ss = checkErr x v := firstErr_at hij hv (by assumption)
      rw [this]
      refine retS_wk rfl ?_ (by simp only [Blk.nb, rowC_nb, D.nb, D.nbs, C.nb, C.nbs, C.nbss, rows_nb eI_nb, rows_nb eC_nb, rows_nb eL_nb, rows_nb eR_nb, rows_nb eS_nb, rows_nb eG_nb, Bool.and_true, Bool.not_false, Bool.and_self, bD, dI, iD]); exact .refl _
    · refine ⟨⟨i + 1, by omega, fun j u hj hu => by
        rcases Nat.lt_or_ge j i with h | h
        · exact hij j u h hu
        · have : j = i := by omega
          subst this
          rw [hv] at hu; cases hu; assumption⟩, ?_, Ent.to ?_ ?_⟩ <;> first | (show _ < _; (try simp only); omega) | (simp (disch := omega) only [wkT_cons, wkX_cons, wkT_nil, wkX_nil, get, Nat.reduceEqDiff, ↓reduceIte, ex_some, wk_self, wk_top, wk_nil, wkB_self, and_self, dI, i64_in, and_true, true_and, Int.natCast_add, Int.natCast_one, Int.ofNat_zero, Int.natCast_zero])
  · repeat' (first
    | (with_reducible refine DW.seq ?_)
    | (with_reducible refine DW.block ?_)
    | (with_reducible refine DW.skip ?_)
    | (with_reducible refine DW.exit ?_)
    | (with_reducible refine DW.ret ?_)
    | (with_reducible refine DW.reg ?_)
    | (simp (disch := omega) only [go_sem, Nat.reduceLT, Nat.reduceLeDiff, Nat.reduceAdd, Nat.reduceMul, Nat.reduceEqDiff, ↓reduceIte, reduceCtorEq, Nat.reduceBEq, Nat.reduceBNe, Nat.reducePow, Int.reduceLE, Int.reduceLT, Int.reduceNeg, Int.reduceToNat, Int.reduceEq, Int.reduceAdd, Int.reduceSub, Int.reduceMul, Int.reduceBEq, Int.reduceBNe, Blk.men, Blk.keysIn, hd])
    | (exact retS_of rfl rfl rfl)
    | (refine DW.cond_tt rfl ?_)
    | (refine DW.cond_ff rfl ?_)
    | (refine DW.cond rfl ?_ ?_ <;> intro hc <;> (try simp only [go_sem] at hc))
    | (refine g_split ?_ ?_ <;> intro hc <;> (try simp only [hc]) <;> (try simp only [go_sem] at hc)))
    have : firstErr x ss = 0 := firstErr_zero (hend ▸ hij)
    rw [this]
    refine retS_wk rfl ?_ (by simp only [Blk.nb, rowC_nb, D.nb, D.nbs, C.nb, C.nbs, C.nbss, rows_nb eI_nb, rows_nb eC_nb, rows_nb eL_nb, rows_nb eR_nb, rows_nb eS_nb, rows_nb eG_nb, Bool.and_true, Bool.not_false, Bool.and_self, bD, dI, iD]); exact .refl _
end Go.Dw.Seat
end
section
set_option linter.unusedSimpArgs false
set_option maxRecDepth 100000
namespace Go.Dw.Seat
open Go Go.Dw Go.Proofs Go.IntWalk
def givesN (st t : Nat) (kind box : Int) : Nat :=
  if kind = 1 then 0 else if kind = 2 then (t ||| (2 * t)) &&& (2 ^ st - 1) else if kind = 3 then t &&& (2 * t) else if kind = 4 then (if box.tmod 2 = 1 then 0 else t) else t
theorem givesN_lt {st t : Nat} {kind box : Int} (ht : t < 2 ^ st) : givesN st t kind box < 2 ^ st := by
  have hp : 0 < 2 ^ st := Nat.two_pow_pos st
  unfold givesN
  repeat' split
  · exact hp
  · have : (t ||| (2 * t)) &&& (2 ^ st - 1) ≤ 2 ^ st - 1 := Nat.and_le_right
    omega
  · have : t &&& (2 * t) ≤ t := Nat.and_le_left
    omega
  · exact hp
  · exact ht
  · exact ht
theorem c107 (b : Bool) (st t : Nat) (noz : List Int) (kind box : Int) (hst : st ≤ 16) (ht : t < 2 ^ 16) : DCall Try.prog 140 [dP b ⟨st, noz⟩, dI t, dI kind, dI box] [] (dI (givesN st t kind box)) [] := by
  have hp : 2 ^ st ≤ 2 ^ 16 := Nat.pow_le_pow_right (by decide) hst
  have hp0 : 0 < 2 ^ st := Nat.two_pow_pos st
  have hs1 : ((2 ^ st : Nat) : Int) - 1 = ((2 ^ st - 1 : Nat) : Int) := by omega
  have hor : t ||| 2 * t < 2 ^ 17 := Nat.or_lt_two_pow (by omega) (by omega)
  refine DCall.of Try.func140 sf140 hb140 (Nat.le_of_ble_eq_true rfl) (okRes_nil fun _ => rfl) ?_; simp only [s140, idxs, Nat.reduceAdd]
  repeat' (first
    | (with_reducible refine DW.seq ?_)
    | (with_reducible refine DW.block ?_)
    | (with_reducible refine DW.skip ?_)
    | (with_reducible refine DW.exit ?_)
    | (with_reducible refine DW.ret ?_)
    | (with_reducible refine DW.reg ?_)
    | (simp (disch := omega) only [go_sem, Nat.reduceLT, Nat.reduceLeDiff, Nat.reduceAdd, Nat.reduceMul, Nat.reduceEqDiff, ↓reduceIte, reduceCtorEq, Nat.reduceBEq, Nat.reduceBNe, Nat.reducePow, Int.reduceLE, Int.reduceLT, Int.reduceNeg, Int.reduceToNat, Int.reduceEq, Int.reduceAdd, Int.reduceSub, Int.reduceMul, Int.reduceBEq, Int.reduceBNe, Blk.men, Blk.keysIn, hs1])
    | (exact retS_of rfl rfl rfl)
    | (refine DW.cond_tt rfl ?_)
    | (refine DW.cond_ff rfl ?_)
    | (refine DW.cond rfl ?_ ?_ <;> intro hc <;> (try simp only [go_sem] at hc))
    | (refine g_split ?_ ?_ <;> intro hc <;> (try simp only [hc]) <;> (try simp only [go_sem] at hc)))
  all_goals refine retS_of rfl ?_ rfl; simp only [oneD, St.op, get, Nat.reduceEqDiff, ↓reduceIte, Option.getD_some, bD, dI, givesN]
  all_goals simp [*]
end Go.Dw.Seat
end
section
set_option linter.unusedSimpArgs false
set_option maxRecDepth 100000
namespace Go.Dw.Seat
open Go Go.Dw Go.Proofs Go.IntWalk
theorem c106 (b : Bool) (l : List Int) (hl : l.length ≤ 2 ^ 36) (k : Nat) : DCall Try.prog 139 [dIs b l] [] (.own k) [(k, .row 1 (rowC (rows eI l)))] := by
  have hnb : ∀ l : List Int, Blk.nb (.row 1 (rowC (rows eI l))) = true := fun l => rowC_nb (rows_nb eI_nb l)
  refine DCall.rename (k0 := 5) ?_ k
  cases l with
  | nil =>
    refine DCall.nil1 (fun a c => ?_)
    cases a with
    | none =>
      refine DCall.of Try.func139 sf139 hb139 (Nat.le_of_ble_eq_true rfl) okRes_row ?_; simp only [s139, idxs, Nat.reduceAdd]
      repeat' (first
    | (with_reducible refine DW.seq ?_)
    | (with_reducible refine DW.block ?_)
    | (with_reducible refine DW.skip ?_)
    | (with_reducible refine DW.exit ?_)
    | (with_reducible refine DW.ret ?_)
    | (with_reducible refine DW.reg ?_)
    | (simp (disch := omega) only [go_sem, Nat.reduceLT, Nat.reduceLeDiff, Nat.reduceAdd, Nat.reduceMul, Nat.reduceEqDiff, ↓reduceIte, reduceCtorEq, Nat.reduceBEq, Nat.reduceBNe, Nat.reducePow, Int.reduceLE, Int.reduceLT, Int.reduceNeg, Int.reduceToNat, Int.reduceEq, Int.reduceAdd, Int.reduceSub, Int.reduceMul, Int.reduceBEq, Int.reduceBNe, Blk.men, Blk.keysIn, Option.isNone])
    | (exact retS_of rfl rfl rfl)
    | (refine DW.cond_tt rfl ?_)
    | (refine DW.cond_ff rfl ?_)
    | (refine DW.cond rfl ?_ ?_ <;> intro hc <;> (try simp only [go_sem] at hc))
    | (refine g_split ?_ ?_ <;> intro hc <;> (try simp only [hc]) <;> (try simp only [go_sem] at hc)))
      refine retS_ent (Ent.adopt 2 5 1 rfl rfl rfl) ?_
      simp (disch := omega) only [go_sem, Nat.reduceLT, Nat.reduceLeDiff, Nat.reduceAdd, Nat.reduceMul, Nat.reduceEqDiff, ↓reduceIte, reduceCtorEq, Nat.reduceBEq, Nat.reduceBNe, Nat.reducePow, Int.reduceLE, Int.reduceLT, Int.reduceNeg, Int.reduceToNat, Int.reduceEq, Int.reduceAdd, Int.reduceSub, Int.reduceMul, Int.reduceBEq, Int.reduceBNe, Blk.men, Blk.keysIn]
      refine retS_row ?_ ?_ (hnb []) <;> rfl
    | some a =>
      refine DCall.of Try.func139 sf139 hb139 (Nat.le_of_ble_eq_true rfl) okRes_row ?_; simp only [s139, idxs, Nat.reduceAdd]
      refine DW.seq (DW.reg ?_)
      simp (disch := omega) only [go_sem, Nat.reduceLT, Nat.reduceLeDiff, Nat.reduceAdd, Nat.reduceMul, Nat.reduceEqDiff, ↓reduceIte, reduceCtorEq, Nat.reduceBEq, Nat.reduceBNe, Nat.reducePow, Int.reduceLE, Int.reduceLT, Int.reduceNeg, Int.reduceToNat, Int.reduceEq, Int.reduceAdd, Int.reduceSub, Int.reduceMul, Int.reduceBEq, Int.reduceBNe, Blk.men, Blk.keysIn]
      refine DW.seq (DW.seq (DW.reg ?_))
      simp (disch := omega) only [go_sem, Nat.reduceLT, Nat.reduceLeDiff, Nat.reduceAdd, Nat.reduceMul, Nat.reduceEqDiff, ↓reduceIte, reduceCtorEq, Nat.reduceBEq, Nat.reduceBNe, Nat.reducePow, Int.reduceLE, Int.reduceLT, Int.reduceNeg, Int.reduceToNat, Int.reduceEq, Int.reduceAdd, Int.reduceSub, Int.reduceMul, Int.reduceBEq, Int.reduceBNe, Blk.men, Blk.keysIn, Option.isNone]
      refine DW.cond_ff rfl (DW.skip ?_)
      simp (disch := omega) only [go_sem, Nat.reduceLT, Nat.reduceLeDiff, Nat.reduceAdd, Nat.reduceMul, Nat.reduceEqDiff, ↓reduceIte, reduceCtorEq, Nat.reduceBEq, Nat.reduceBNe, Nat.reducePow, Int.reduceLE, Int.reduceLT, Int.reduceNeg, Int.reduceToNat, Int.reduceEq, Int.reduceAdd, Int.reduceSub, Int.reduceMul, Int.reduceBEq, Int.reduceBNe, Blk.men, Blk.keysIn]
      refine DW.ent (Ent.to (tm' := [(0, .c (.sl b 1 []))]) (bx' := []) (by simp (disch := omega) only [wkT_cons, wkX_cons, wkT_nil, wkX_nil, get, Nat.reduceEqDiff, ↓reduceIte, ex_some, wk_self, wk_top, wk_nil, wkB_self, and_self, dI, i64_in, and_true, true_and, Int.natCast_add, Int.natCast_one, Int.ofNat_zero, Int.natCast_zero]) trivial) ?_
      repeat' (first
    | (with_reducible refine DW.seq ?_)
    | (with_reducible refine DW.block ?_)
    | (with_reducible refine DW.skip ?_)
    | (with_reducible refine DW.exit ?_)
    | (with_reducible refine DW.ret ?_)
    | (with_reducible refine DW.reg ?_)
    | (simp (disch := omega) only [go_sem, Nat.reduceLT, Nat.reduceLeDiff, Nat.reduceAdd, Nat.reduceMul, Nat.reduceEqDiff, ↓reduceIte, reduceCtorEq, Nat.reduceBEq, Nat.reduceBNe, Nat.reducePow, Int.reduceLE, Int.reduceLT, Int.reduceNeg, Int.reduceToNat, Int.reduceEq, Int.reduceAdd, Int.reduceSub, Int.reduceMul, Int.reduceBEq, Int.reduceBNe, Blk.men, Blk.keysIn])
    | (exact retS_of rfl rfl rfl)
    | (refine DW.cond_tt rfl ?_)
    | (refine DW.cond_ff rfl ?_)
    | (refine DW.cond rfl ?_ ?_ <;> intro hc <;> (try simp only [go_sem] at hc))
    | (refine g_split ?_ ?_ <;> intro hc <;> (try simp only [hc]) <;> (try simp only [go_sem] at hc)))
      refine retS_row ?_ ?_ (hnb []) <;> rfl
  | cons x l =>
    simp only [List.length_cons] at hl
    refine DCall.of Try.func139 sf139 hb139 (Nat.le_of_ble_eq_true rfl) okRes_row ?_; simp only [s139, idxs, Nat.reduceAdd]
    repeat' (first
    | (with_reducible refine DW.seq ?_)
    | (with_reducible refine DW.block ?_)
    | (with_reducible refine DW.skip ?_)
    | (with_reducible refine DW.exit ?_)
    | (with_reducible refine DW.ret ?_)
    | (with_reducible refine DW.reg ?_)
    | (simp (disch := omega) only [go_sem, Nat.reduceLT, Nat.reduceLeDiff, Nat.reduceAdd, Nat.reduceMul, Nat.reduceEqDiff, ↓reduceIte, reduceCtorEq, Nat.reduceBEq, Nat.reduceBNe, Nat.reducePow, Int.reduceLE, Int.reduceLT, Int.reduceNeg, Int.reduceToNat, Int.reduceEq, Int.reduceAdd, Int.reduceSub, Int.reduceMul, Int.reduceBEq, Int.reduceBNe, Blk.men, Blk.keysIn, rows_cons])
    | (exact retS_of rfl rfl rfl)
    | (refine DW.cond_tt rfl ?_)
    | (refine DW.cond_ff rfl ?_)
    | (refine DW.cond rfl ?_ ?_ <;> intro hc <;> (try simp only [go_sem] at hc))
    | (refine g_split ?_ ?_ <;> intro hc <;> (try simp only [hc]) <;> (try simp only [go_sem] at hc)))
    refine retS_row ?_ ?_ (hnb (x :: l)) <;> rfl
def boxStep (st : Nat) (box : Int) (out : List Nat) (c : Cause) : List Nat := if c.frm ≤ box then (match out[c.noz.toNat]? with
  | some v => out.set c.noz.toNat (givesN st v c.kind box)
  | none => out) else out
def boxN (st : Nat) (noz : List Nat) (s : List Cause) (box : Int) : List Nat := s.foldl (boxStep st box) noz
theorem boxStep_length (st : Nat) (box : Int) (out : List Nat) (c : Cause) : (boxStep st box out c).length = out.length := by
  unfold boxStep; repeat' split
  all_goals simp
theorem boxN_length (st : Nat) (box : Int) : ∀ (s : List Cause) (noz : List Nat), (boxN st noz s box).length = noz.length
  | [], _ => rfl
  | c :: s, noz => by
    have := boxN_length st box s (boxStep st box noz c)
    rw [boxStep_length] at this
    exact this
theorem boxStep_lt {st : Nat} {box : Int} {out : List Nat} {c : Cause} (h : ∀ v ∈ out, v < 2 ^ st) : ∀ v ∈ boxStep st box out c, v < 2 ^ st := by
  unfold boxStep
  split
  · split
    · rename_i v hv
      intro u hu
      rcases List.mem_or_eq_of_mem_set hu with h1 | h1
      · exact h u h1
      · rw [h1]; exact givesN_lt (h v (List.mem_of_getElem? hv))
    · exact h
  · exact h
theorem boxN_lt {st : Nat} {box : Int} : ∀ {s : List Cause} {noz : List Nat}, (∀ v ∈ noz, v < 2 ^ st) → ∀ v ∈ boxN st noz s box, v < 2 ^ st
  | [], _, h => h
  | c :: s, noz, h => boxN_lt (s := s) (noz := boxStep st box noz c) (boxStep_lt h)
theorem boxN_take {st : Nat} {noz : List Nat} {s : List Cause} {box : Int} {i : Nat} {c : Cause} (h : s[i]? = some c) : boxN st noz (s.take (i + 1)) box = boxStep st box (boxN st noz (s.take i) box) c := by
  unfold boxN
  rw [List.take_add_one, h, List.foldl_append]
  rfl
theorem c80 (b b' : Bool) (st : Nat) (noz : List Nat) (s : List Cause) (box : Int) (k : Nat) (hst : st ≤ 16) (hn : ∀ v ∈ noz, v < 2 ^ st) (hl : noz.length ≤ 2 ^ 36) (hsl : s.length ≤ 2 ^ 36) (hs : ∀ c ∈ s, 0 ≤ c.noz ∧ c.noz < noz.length) :
    DCall Try.prog 111 [dP b ⟨st, nL noz⟩, dCs b' s, dI box] [] (.own k) [(k, .row 1 (rowC (rows eI (nL (boxN st noz s box)))))] := by
  have hnb : ∀ l : List Int, Blk.nb (.row 1 (rowC (rows eI l))) = true := fun l => rowC_nb (rows_nb eI_nb l)
  have hp : 2 ^ st ≤ 2 ^ 16 := Nat.pow_le_pow_right (by decide) hst
  refine DCall.rename (k0 := 13) ?_ k
  refine DCall.of Try.func111 sf111 hb111 (Nat.le_of_ble_eq_true rfl) okRes_row ?_; simp only [s111, idxs, Nat.reduceAdd]
  repeat' (first
    | (with_reducible refine DW.seq ?_)
    | (with_reducible refine DW.block ?_)
    | (with_reducible refine DW.skip ?_)
    | (with_reducible refine DW.exit ?_)
    | (with_reducible refine DW.ret ?_)
    | (with_reducible refine DW.reg ?_)
    | (refine DW.dreg rfl (WF.of (by first | rfl | simp (disch := omega) only [go_sem, Nat.reduceLT, Nat.reduceLeDiff, Nat.reduceAdd, Nat.reduceMul, Nat.reduceEqDiff, ↓reduceIte, reduceCtorEq, Nat.reduceBEq, Nat.reduceBNe, Nat.reducePow, Int.reduceLE, Int.reduceLT, Int.reduceNeg, Int.reduceToNat, Int.reduceEq, Int.reduceAdd, Int.reduceSub, Int.reduceMul, Int.reduceBEq, Int.reduceBNe, Blk.men, Blk.keysIn])) ?_)
    | (simp (disch := omega) only [go_sem, Nat.reduceLT, Nat.reduceLeDiff, Nat.reduceAdd, Nat.reduceMul, Nat.reduceEqDiff, ↓reduceIte, reduceCtorEq, Nat.reduceBEq, Nat.reduceBNe, Nat.reducePow, Int.reduceLE, Int.reduceLT, Int.reduceNeg, Int.reduceToNat, Int.reduceEq, Int.reduceAdd, Int.reduceSub, Int.reduceMul, Int.reduceBEq, Int.reduceBNe, Blk.men, Blk.keysIn])
    | (exact retS_of rfl rfl rfl)
    | (refine DW.cond_tt rfl ?_)
    | (refine DW.cond_ff rfl ?_)
    | (refine DW.cond rfl ?_ ?_ <;> intro hc <;> (try simp only [go_sem] at hc))
    | (refine g_split ?_ ?_ <;> intro hc <;> (try simp only [hc]) <;> (try simp only [go_sem] at hc)))
  (refine call_r (c106 b (nL noz) (by simpa [nL] using hl) 13) (by decide) (by first | rfl | simp (disch := omega) only [go_sem, Nat.reduceLT, Nat.reduceLeDiff, Nat.reduceAdd, Nat.reduceMul, Nat.reduceEqDiff, ↓reduceIte, reduceCtorEq, Nat.reduceBEq, Nat.reduceBNe, Nat.reducePow, Int.reduceLE, Int.reduceLT, Int.reduceNeg, Int.reduceToNat, Int.reduceEq, Int.reduceAdd, Int.reduceSub, Int.reduceMul, Int.reduceBEq, Int.reduceBNe, Blk.men, Blk.keysIn]) (by first | rfl | simp (disch := omega) only [go_sem, Nat.reduceLT, Nat.reduceLeDiff, Nat.reduceAdd, Nat.reduceMul, Nat.reduceEqDiff, ↓reduceIte, reduceCtorEq, Nat.reduceBEq, Nat.reduceBNe, Nat.reducePow, Int.reduceLE, Int.reduceLT, Int.reduceNeg, Int.reduceToNat, Int.reduceEq, Int.reduceAdd, Int.reduceSub, Int.reduceMul, Int.reduceBEq, Int.reduceBNe, Blk.men, Blk.keysIn]) ?_; simp (disch := omega) only [go_sem, Nat.reduceLT, Nat.reduceLeDiff, Nat.reduceAdd, Nat.reduceMul, Nat.reduceEqDiff, ↓reduceIte, reduceCtorEq, Nat.reduceBEq, Nat.reduceBNe, Nat.reducePow, Int.reduceLE, Int.reduceLT, Int.reduceNeg, Int.reduceToNat, Int.reduceEq, Int.reduceAdd, Int.reduceSub, Int.reduceMul, Int.reduceBEq, Int.reduceBNe, Blk.men, Blk.keysIn])
  repeat' (first
    | (with_reducible refine DW.seq ?_)
    | (with_reducible refine DW.block ?_)
    | (with_reducible refine DW.skip ?_)
    | (with_reducible refine DW.exit ?_)
    | (with_reducible refine DW.ret ?_)
    | (with_reducible refine DW.reg ?_)
    | (refine DW.dreg rfl (WF.of (by first | rfl | simp (disch := omega) only [go_sem, Nat.reduceLT, Nat.reduceLeDiff, Nat.reduceAdd, Nat.reduceMul, Nat.reduceEqDiff, ↓reduceIte, reduceCtorEq, Nat.reduceBEq, Nat.reduceBNe, Nat.reducePow, Int.reduceLE, Int.reduceLT, Int.reduceNeg, Int.reduceToNat, Int.reduceEq, Int.reduceAdd, Int.reduceSub, Int.reduceMul, Int.reduceBEq, Int.reduceBNe, Blk.men, Blk.keysIn])) ?_)
    | (simp (disch := omega) only [go_sem, Nat.reduceLT, Nat.reduceLeDiff, Nat.reduceAdd, Nat.reduceMul, Nat.reduceEqDiff, ↓reduceIte, reduceCtorEq, Nat.reduceBEq, Nat.reduceBNe, Nat.reducePow, Int.reduceLE, Int.reduceLT, Int.reduceNeg, Int.reduceToNat, Int.reduceEq, Int.reduceAdd, Int.reduceSub, Int.reduceMul, Int.reduceBEq, Int.reduceBNe, Blk.men, Blk.keysIn])
    | (exact retS_of rfl rfl rfl)
    | (refine DW.cond_tt rfl ?_)
    | (refine DW.cond_ff rfl ?_)
    | (refine DW.cond rfl ?_ ?_ <;> intro hc <;> (try simp only [go_sem] at hc))
    | (refine g_split ?_ ?_ <;> intro hc <;> (try simp only [hc]) <;> (try simp only [go_sem] at hc)))
  refine DW.loop (ι := { i : Nat // i ≤ s.length }) (fun i => ⟨40, [(16, dI i.1), (15, dI s.length), (14, dCs b' s), (7, .own 13), (3, .box 3 0), (2, dI box)],
    [(13, .row 1 (rowC (rows eI (nL (boxN st noz (s.take i.1) box))))), (3, .box [dI st, dIs b (nL noz)])]⟩) (fun i => s.length - i.1) ⟨0, Nat.zero_le _⟩ ?_ ?_
  · refine Ent.to ?_ ?_ <;> simp (disch := omega) only [wkT_cons, wkX_cons, wkT_nil, wkX_nil, get, Nat.reduceEqDiff, ↓reduceIte, ex_some, wk_self, wk_top, wk_nil, wkB_self, and_self, dI, i64_in, and_true, true_and, Int.natCast_add, Int.natCast_one, Int.ofNat_zero, Int.natCast_zero, List.take_zero, boxN, List.foldl_nil]
  rintro ⟨i, hi⟩
  rcases at_or s i hi with ⟨c, hc0, hlt, hd⟩ | ⟨hend, hd⟩
  · obtain ⟨h1, h2⟩ := hs c (List.mem_of_getElem? hc0)
    obtain ⟨n, hn0⟩ : ∃ n : Nat, c.noz = n := ⟨c.noz.toNat, by omega⟩
    have hstep := boxN_take (st := st) (noz := noz) (box := box) hc0
    have hlen := boxN_length st box (s.take i) noz
    have hlt2 := boxN_lt (s := s.take i) (box := box) hn
    generalize hout : boxN st noz (s.take i) box = out at *
    obtain ⟨v, hv⟩ := getE (l := out) (i := n) (by omega)
    have hvlt : v < 2 ^ 16 := Nat.lt_of_lt_of_le (hlt2 v (List.mem_of_getElem? hv)) hp
    have hnl : (n < out.length) = True := eq_true (by omega)
    repeat' (first
    | (with_reducible refine DW.seq ?_)
    | (with_reducible refine DW.block ?_)
    | (with_reducible refine DW.skip ?_)
    | (with_reducible refine DW.exit ?_)
    | (with_reducible refine DW.ret ?_)
    | (with_reducible refine DW.reg ?_)
    | (refine DW.dreg rfl (WF.of (by first | rfl | simp (disch := omega) only [go_sem, Nat.reduceLT, Nat.reduceLeDiff, Nat.reduceAdd, Nat.reduceMul, Nat.reduceEqDiff, ↓reduceIte, reduceCtorEq, Nat.reduceBEq, Nat.reduceBNe, Nat.reducePow, Int.reduceLE, Int.reduceLT, Int.reduceNeg, Int.reduceToNat, Int.reduceEq, Int.reduceAdd, Int.reduceSub, Int.reduceMul, Int.reduceBEq, Int.reduceBNe, Blk.men, Blk.keysIn, hd, hc0, hn0, hv, hnl])) ?_)
    | (simp (disch := omega) only [go_sem, Nat.reduceLT, Nat.reduceLeDiff, Nat.reduceAdd, Nat.reduceMul, Nat.reduceEqDiff, ↓reduceIte, reduceCtorEq, Nat.reduceBEq, Nat.reduceBNe, Nat.reducePow, Int.reduceLE, Int.reduceLT, Int.reduceNeg, Int.reduceToNat, Int.reduceEq, Int.reduceAdd, Int.reduceSub, Int.reduceMul, Int.reduceBEq, Int.reduceBNe, Blk.men, Blk.keysIn, hd, hc0, hn0, hv, hnl])
    | (exact retS_of rfl rfl rfl)
    | (refine DW.cond_tt rfl ?_)
    | (refine DW.cond_ff rfl ?_)
    | (refine DW.cond rfl ?_ ?_ <;> intro hc <;> (try simp only [go_sem] at hc))
    | (refine g_split ?_ ?_ <;> intro hc <;> (try simp only [hc]) <;> (try simp only [go_sem] at hc)))
    · (refine call_c (c107 b st v (nL noz) c.kind box hst hvlt ) (by decide) ?_; simp (disch := omega) only [go_sem, Nat.reduceLT, Nat.reduceLeDiff, Nat.reduceAdd, Nat.reduceMul, Nat.reduceEqDiff, ↓reduceIte, reduceCtorEq, Nat.reduceBEq, Nat.reduceBNe, Nat.reducePow, Int.reduceLE, Int.reduceLT, Int.reduceNeg, Int.reduceToNat, Int.reduceEq, Int.reduceAdd, Int.reduceSub, Int.reduceMul, Int.reduceBEq, Int.reduceBNe, Blk.men, Blk.keysIn,  hnl, hv])
      have hs' : boxStep st box out c = out.set n (givesN st v c.kind box) := by
        unfold boxStep
        rw [if_pos (by assumption), hn0, Int.toNat_natCast, hv]
      repeat' (first
    | (with_reducible refine DW.seq ?_)
    | (with_reducible refine DW.block ?_)
    | (with_reducible refine DW.skip ?_)
    | (with_reducible refine DW.exit ?_)
    | (with_reducible refine DW.ret ?_)
    | (with_reducible refine DW.reg ?_)
    | (refine DW.dreg rfl (WF.of (by first | rfl | simp (disch := omega) only [go_sem, Nat.reduceLT, Nat.reduceLeDiff, Nat.reduceAdd, Nat.reduceMul, Nat.reduceEqDiff, ↓reduceIte, reduceCtorEq, Nat.reduceBEq, Nat.reduceBNe, Nat.reducePow, Int.reduceLE, Int.reduceLT, Int.reduceNeg, Int.reduceToNat, Int.reduceEq, Int.reduceAdd, Int.reduceSub, Int.reduceMul, Int.reduceBEq, Int.reduceBNe, Blk.men, Blk.keysIn])) ?_)
    | (simp (disch := omega) only [go_sem, Nat.reduceLT, Nat.reduceLeDiff, Nat.reduceAdd, Nat.reduceMul, Nat.reduceEqDiff, ↓reduceIte, reduceCtorEq, Nat.reduceBEq, Nat.reduceBNe, Nat.reducePow, Int.reduceLE, Int.reduceLT, Int.reduceNeg, Int.reduceToNat, Int.reduceEq, Int.reduceAdd, Int.reduceSub, Int.reduceMul, Int.reduceBEq, Int.reduceBNe, Blk.men, Blk.keysIn])
    | (exact retS_of rfl rfl rfl)
    | (refine DW.cond_tt rfl ?_)
    | (refine DW.cond_ff rfl ?_)
    | (refine DW.cond rfl ?_ ?_ <;> intro hc <;> (try simp only [go_sem] at hc))
    | (refine g_split ?_ ?_ <;> intro hc <;> (try simp only [hc]) <;> (try simp only [go_sem] at hc)))
      refine ⟨⟨i + 1, hlt⟩, ?_, Ent.to ?_ ?_⟩ <;> first | (show _ < _; (try simp only); omega) | (simp (disch := omega) only [wkT_cons, wkX_cons, wkT_nil, wkX_nil, get, Nat.reduceEqDiff, ↓reduceIte, ex_some, wk_self, wk_top, wk_nil, wkB_self, and_self, dI, i64_in, and_true, true_and, Int.natCast_add, Int.natCast_one, Int.ofNat_zero, Int.natCast_zero,  hstep, hs'])
    · have hs' : boxStep st box out c = out := if_neg (by omega)
      refine ⟨⟨i + 1, hlt⟩, ?_, Ent.to ?_ ?_⟩ <;> first | (show _ < _; (try simp only); omega) | (simp (disch := omega) only [wkT_cons, wkX_cons, wkT_nil, wkX_nil, get, Nat.reduceEqDiff, ↓reduceIte, ex_some, wk_self, wk_top, wk_nil, wkB_self, and_self, dI, i64_in, and_true, true_and, Int.natCast_add, Int.natCast_one, Int.ofNat_zero, Int.natCast_zero,  hstep, hs'])
  · repeat' (first
    | (with_reducible refine DW.seq ?_)
    | (with_reducible refine DW.block ?_)
    | (with_reducible refine DW.skip ?_)
    | (with_reducible refine DW.exit ?_)
    | (with_reducible refine DW.ret ?_)
    | (with_reducible refine DW.reg ?_)
    | (refine DW.dreg rfl (WF.of (by first | rfl | simp (disch := omega) only [go_sem, Nat.reduceLT, Nat.reduceLeDiff, Nat.reduceAdd, Nat.reduceMul, Nat.reduceEqDiff, ↓reduceIte, reduceCtorEq, Nat.reduceBEq, Nat.reduceBNe, Nat.reducePow, Int.reduceLE, Int.reduceLT, Int.reduceNeg, Int.reduceToNat, Int.reduceEq, Int.reduceAdd, Int.reduceSub, Int.reduceMul, Int.reduceBEq, Int.reduceBNe, Blk.men, Blk.keysIn, hd])) ?_)
    | (simp (disch := omega) only [go_sem, Nat.reduceLT, Nat.reduceLeDiff, Nat.reduceAdd, Nat.reduceMul, Nat.reduceEqDiff, ↓reduceIte, reduceCtorEq, Nat.reduceBEq, Nat.reduceBNe, Nat.reducePow, Int.reduceLE, Int.reduceLT, Int.reduceNeg, Int.reduceToNat, Int.reduceEq, Int.reduceAdd, Int.reduceSub, Int.reduceMul, Int.reduceBEq, Int.reduceBNe, Blk.men, Blk.keysIn, hd])
    | (exact retS_of rfl rfl rfl)
    | (refine DW.cond_tt rfl ?_)
    | (refine DW.cond_ff rfl ?_)
    | (refine DW.cond rfl ?_ ?_ <;> intro hc <;> (try simp only [go_sem] at hc))
    | (refine g_split ?_ ?_ <;> intro hc <;> (try simp only [hc]) <;> (try simp only [go_sem] at hc)))
    subst hend
    rw [List.take_length]
    refine retS_row ?_ ?_ (hnb _) <;> rfl
end Go.Dw.Seat
end
section
set_option linter.unusedSimpArgs false
set_option maxRecDepth 100000
namespace Go.Dw.Seat
open Go Go.Dw Go.Proofs Go.IntWalk
structure Seen where
  froms : List Int
  looks : List Look
abbrev dX (b : Bool) (x : Seen) : D := .agg [.c (.sl b 1 (rows eI x.froms)), .c (.sl b 4 (rows eL x.looks))]
attribute [go_sem] dX
end Go.Dw.Seat
end
section
set_option linter.unusedSimpArgs false
set_option maxRecDepth 100000
namespace Go.Dw.Seat
open Go Go.Dw Go.Proofs Go.IntWalk
attribute [go_sem] Try.underlying3
end Go.Dw.Seat
end
section
set_option linter.unusedSimpArgs false
set_option maxRecDepth 100000
namespace Go.Dw.Seat
open Go Go.Dw Go.Proofs Go.IntWalk
theorem c90 (a b : Int) : DCall Try.prog 73 [dI a, dI b] [] (bD (decide (a < b))) [] := by
  refine DCall.of Try.func73 sf73 hb73 (Nat.le_of_ble_eq_true rfl) (okRes_nil fun _ => rfl) ?_; simp only [s73, idxs, Nat.reduceAdd]
  repeat' (first
    | (with_reducible refine DW.seq ?_)
    | (with_reducible refine DW.block ?_)
    | (with_reducible refine DW.skip ?_)
    | (with_reducible refine DW.exit ?_)
    | (with_reducible refine DW.ret ?_)
    | (with_reducible refine DW.reg ?_)
    | (simp (disch := omega) only [go_sem, Nat.reduceLT, Nat.reduceLeDiff, Nat.reduceAdd, Nat.reduceMul, Nat.reduceEqDiff, ↓reduceIte, reduceCtorEq, Nat.reduceBEq, Nat.reduceBNe, Nat.reducePow, Int.reduceLE, Int.reduceLT, Int.reduceNeg, Int.reduceToNat, Int.reduceEq, Int.reduceAdd, Int.reduceSub, Int.reduceMul, Int.reduceBEq, Int.reduceBNe, Blk.men, Blk.keysIn])
    | (exact retS_of rfl rfl rfl)
    | (refine DW.cond_tt rfl ?_)
    | (refine call_c (c113 _) (by decide) ?_)
    | (refine DW.cond_ff rfl ?_)
    | (refine DW.cond rfl ?_ ?_ <;> intro hc <;> (try simp only [go_sem] at hc))
    | (refine g_split ?_ ?_ <;> intro hc <;> (try simp only [hc]) <;> (try simp only [go_sem] at hc)))
def spanOk (lo hi least most : Int) : Bool := wthn least most [lo, hi] && decide (lo ≤ hi)
theorem c108 (lo hi least most : Int) : DCall Try.prog 107 [.agg [dI lo, dI hi], dI least, dI most] [] (bD (spanOk lo hi least most)) [] := by
  refine DCall.of Try.func107 sf107 hb107 (Nat.le_of_ble_eq_true rfl) (okRes_nil fun _ => rfl) ?_; simp only [s107, idxs, Nat.reduceAdd]
  repeat' (first
    | (with_reducible refine DW.seq ?_)
    | (with_reducible refine DW.block ?_)
    | (with_reducible refine DW.skip ?_)
    | (with_reducible refine DW.exit ?_)
    | (with_reducible refine DW.ret ?_)
    | (with_reducible refine DW.reg ?_)
    | (simp (disch := omega) only [go_sem, Nat.reduceLT, Nat.reduceLeDiff, Nat.reduceAdd, Nat.reduceMul, Nat.reduceEqDiff, ↓reduceIte, reduceCtorEq, Nat.reduceBEq, Nat.reduceBNe, Nat.reducePow, Int.reduceLE, Int.reduceLT, Int.reduceNeg, Int.reduceToNat, Int.reduceEq, Int.reduceAdd, Int.reduceSub, Int.reduceMul, Int.reduceBEq, Int.reduceBNe, Blk.men, Blk.keysIn])
    | (exact retS_of rfl rfl rfl)
    | (refine DW.cond_tt rfl ?_)
    | (refine call_c (c88 true least most [lo, hi] (by simp)) (by decide) ?_)
    | (refine DW.cond_ff rfl ?_)
    | (refine DW.cond rfl ?_ ?_ <;> intro hc <;> (try simp only [go_sem] at hc))
    | (refine g_split ?_ ?_ <;> intro hc <;> (try simp only [hc]) <;> (try simp only [go_sem] at hc)))
  all_goals refine retS_of rfl ?_ rfl; simp only [oneD, St.op, get, Nat.reduceEqDiff, ↓reduceIte, Option.getD_some, bD, dI, spanOk]
  all_goals simp_all
def roomOk (r : Room) : Bool := spanOk r.wl r.wh 0 30 && spanOk r.dl r.dh 0 100
theorem c85 (r : Room) : DCall Try.prog 65 [.agg ((eR r).map D.c)] [] (bD (roomOk r)) [] := by
  refine DCall.of Try.func65 sf65 hb65 (Nat.le_of_ble_eq_true rfl) (okRes_nil fun _ => rfl) ?_; simp only [s65, idxs, Nat.reduceAdd]
  repeat' (first
    | (with_reducible refine DW.seq ?_)
    | (with_reducible refine DW.block ?_)
    | (with_reducible refine DW.skip ?_)
    | (with_reducible refine DW.exit ?_)
    | (with_reducible refine DW.ret ?_)
    | (with_reducible refine DW.reg ?_)
    | (simp (disch := omega) only [go_sem, Nat.reduceLT, Nat.reduceLeDiff, Nat.reduceAdd, Nat.reduceMul, Nat.reduceEqDiff, ↓reduceIte, reduceCtorEq, Nat.reduceBEq, Nat.reduceBNe, Nat.reducePow, Int.reduceLE, Int.reduceLT, Int.reduceNeg, Int.reduceToNat, Int.reduceEq, Int.reduceAdd, Int.reduceSub, Int.reduceMul, Int.reduceBEq, Int.reduceBNe, Blk.men, Blk.keysIn, List.map_cons, List.map_nil])
    | (exact retS_of rfl rfl rfl)
    | (refine DW.cond_tt rfl ?_)
    | (refine call_c (c108 _ _ _ _) (by decide) ?_)
    | (refine DW.cond_ff rfl ?_)
    | (refine DW.cond rfl ?_ ?_ <;> intro hc <;> (try simp only [go_sem] at hc))
    | (refine g_split ?_ ?_ <;> intro hc <;> (try simp only [hc]) <;> (try simp only [go_sem] at hc)))
  all_goals refine retS_of rfl ?_ rfl; simp only [oneD, St.op, get, Nat.reduceEqDiff, ↓reduceIte, Option.getD_some, bD, dI, roomOk]
  all_goals simp_all
structure Rule where
  mins : Int
  deg : Int
  damp : Int
abbrev dR (r : Rule) : D := .agg [dI r.mins, dI r.deg, dI r.damp]
attribute [go_sem] dR
def ruleOk (r : Rule) : Bool := wthn 1 600 [r.mins] && wthn 0 20 [r.deg, r.damp]
theorem c86 (r : Rule) : DCall Try.prog 64 [dR r] [] (bD (ruleOk r)) [] := by
  refine DCall.of Try.func64 sf64 hb64 (Nat.le_of_ble_eq_true rfl) (okRes_nil fun _ => rfl) ?_; simp only [s64, idxs, Nat.reduceAdd]
  repeat' (first
    | (with_reducible refine DW.seq ?_)
    | (with_reducible refine DW.block ?_)
    | (with_reducible refine DW.skip ?_)
    | (with_reducible refine DW.exit ?_)
    | (with_reducible refine DW.ret ?_)
    | (with_reducible refine DW.reg ?_)
    | (simp (disch := omega) only [go_sem, Nat.reduceLT, Nat.reduceLeDiff, Nat.reduceAdd, Nat.reduceMul, Nat.reduceEqDiff, ↓reduceIte, reduceCtorEq, Nat.reduceBEq, Nat.reduceBNe, Nat.reducePow, Int.reduceLE, Int.reduceLT, Int.reduceNeg, Int.reduceToNat, Int.reduceEq, Int.reduceAdd, Int.reduceSub, Int.reduceMul, Int.reduceBEq, Int.reduceBNe, Blk.men, Blk.keysIn])
    | (exact retS_of rfl rfl rfl)
    | (refine DW.cond_tt rfl ?_)
    | (refine call_c (c88 true 1 600 [r.mins] (by simp)) (by decide) ?_)
    | (refine call_c (c88 true 0 20 [r.deg, r.damp] (by simp)) (by decide) ?_)
    | (refine DW.cond_ff rfl ?_)
    | (refine DW.cond rfl ?_ ?_ <;> intro hc <;> (try simp only [go_sem] at hc))
    | (refine g_split ?_ ?_ <;> intro hc <;> (try simp only [hc]) <;> (try simp only [go_sem] at hc)))
  all_goals refine retS_of rfl ?_ rfl; simp only [oneD, St.op, get, Nat.reduceEqDiff, ↓reduceIte, Option.getD_some, bD, dI, ruleOk]
  all_goals simp_all
end Go.Dw.Seat
end
section
set_option linter.unusedSimpArgs false
set_option maxRecDepth 100000
namespace Go.Dw.Seat
open Go Go.Dw Go.Proofs Go.IntWalk
theorem mulB {a b A B : Int} (ha : 0 ≤ a ∧ a ≤ A) (hb : 0 ≤ b ∧ b ≤ B) : 0 ≤ a * b ∧ a * b ≤ A * B :=
  ⟨Int.mul_nonneg ha.1 hb.1, Int.mul_le_mul ha.2 hb.2 hb.1 (Int.le_trans ha.1 ha.2)⟩
def timeI (r : Rule) (warm damp : Int) : Int := (r.mins * (1000 - r.deg * warm + r.damp * damp) + 1000 - 1) / 1000
theorem c112 (r : Rule) (warm damp : Int) (h1 : 0 ≤ r.mins ∧ r.mins ≤ 600) (h2 : 0 ≤ r.deg ∧ r.deg ≤ 20) (h3 : 0 ≤ r.damp ∧ r.damp ≤ 20) (hw : 0 ≤ warm ∧ warm ≤ 30) (hd : 0 ≤ damp ∧ damp ≤ 100) :
    DCall Try.prog 108 [dR r, dI warm, dI damp] [] (dI (timeI r warm damp)) [] := by
  have e1 := mulB h2 hw
  have e2 := mulB h3 hd
  have e3 := mulB h1 (show 0 ≤ 1000 - r.deg * warm + r.damp * damp ∧ 1000 - r.deg * warm + r.damp * damp ≤ 3000 by omega)
  refine DCall.of Try.func108 sf108 hb108 (Nat.le_of_ble_eq_true rfl) (okRes_nil fun _ => rfl) ?_; simp only [s108, idxs, Nat.reduceAdd]
  repeat' (first
    | (with_reducible refine DW.seq ?_)
    | (with_reducible refine DW.block ?_)
    | (with_reducible refine DW.skip ?_)
    | (with_reducible refine DW.exit ?_)
    | (with_reducible refine DW.ret ?_)
    | (with_reducible refine DW.reg ?_)
    | (simp (disch := omega) only [go_sem, Nat.reduceLT, Nat.reduceLeDiff, Nat.reduceAdd, Nat.reduceMul, Nat.reduceEqDiff, ↓reduceIte, reduceCtorEq, Nat.reduceBEq, Nat.reduceBNe, Nat.reducePow, Int.reduceLE, Int.reduceLT, Int.reduceNeg, Int.reduceToNat, Int.reduceEq, Int.reduceAdd, Int.reduceSub, Int.reduceMul, Int.reduceBEq, Int.reduceBNe, Blk.men, Blk.keysIn, i64_quo])
    | (exact retS_of rfl rfl rfl)
    | (refine DW.cond_tt rfl ?_)
    | (refine DW.cond_ff rfl ?_)
    | (refine DW.cond rfl ?_ ?_ <;> intro hc <;> (try simp only [go_sem] at hc))
    | (refine g_split ?_ ?_ <;> intro hc <;> (try simp only [hc]) <;> (try simp only [go_sem] at hc)))
theorem wthn_two {lo hi a b : Int} (h : wthn lo hi [a, b] = true) : (lo ≤ a ∧ a ≤ hi) ∧ (lo ≤ b ∧ b ≤ hi) := by
  simp [wthn] at h; omega
theorem ruleOk_in {r : Rule} (h : ruleOk r = true) : (1 ≤ r.mins ∧ r.mins ≤ 600) ∧ (0 ≤ r.deg ∧ r.deg ≤ 20) ∧ (0 ≤ r.damp ∧ r.damp ≤ 20) := by
  rw [ruleOk, Bool.and_eq_true] at h
  have h1 := wthn_one h.1
  have h2 := wthn_two h.2
  exact ⟨h1, h2.1, h2.2⟩
theorem spanOk_in {lo hi least most : Int} (h : spanOk lo hi least most = true) : least ≤ lo ∧ lo ≤ hi ∧ hi ≤ most := by
  rw [spanOk, Bool.and_eq_true] at h
  have h1 := wthn_two h.1
  have h2 := of_decide_eq_true h.2
  omega
theorem roomOk_in {r : Room} (h : roomOk r = true) : (0 ≤ r.wl ∧ r.wl ≤ r.wh ∧ r.wh ≤ 30) ∧ (0 ≤ r.dl ∧ r.dl ≤ r.dh ∧ r.dh ≤ 100) := by
  rw [roomOk, Bool.and_eq_true] at h
  exact ⟨spanOk_in h.1, spanOk_in h.2⟩
def pressLo (r : Rule) (m : Room) : Int := timeI r m.wh m.dl
def pressHi (r : Rule) (m : Room) : Int := timeI r m.wl m.dh
theorem c89 (r : Rule) (m : Room) (hr : ruleOk r = true) (hm : roomOk m = true) : DCall Try.prog 66 [dR r, .agg ((eR m).map D.c)] [] (.agg [dI (pressLo r m), dI (pressHi r m)]) [] := by
  obtain ⟨r1, r2, r3⟩ := ruleOk_in hr
  obtain ⟨m1, m2⟩ := roomOk_in hm
  refine DCall.of Try.func66 sf66 hb66 (Nat.le_of_ble_eq_true rfl) (okRes_nil fun _ => rfl) ?_; simp only [s66, idxs, Nat.reduceAdd]
  repeat' (first
    | (with_reducible refine DW.seq ?_)
    | (with_reducible refine DW.block ?_)
    | (with_reducible refine DW.skip ?_)
    | (with_reducible refine DW.exit ?_)
    | (with_reducible refine DW.ret ?_)
    | (with_reducible refine DW.reg ?_)
    | (refine DW.dreg rfl (WF.of (by first | rfl | simp (disch := omega) only [go_sem, Nat.reduceLT, Nat.reduceLeDiff, Nat.reduceAdd, Nat.reduceMul, Nat.reduceEqDiff, ↓reduceIte, reduceCtorEq, Nat.reduceBEq, Nat.reduceBNe, Nat.reducePow, Int.reduceLE, Int.reduceLT, Int.reduceNeg, Int.reduceToNat, Int.reduceEq, Int.reduceAdd, Int.reduceSub, Int.reduceMul, Int.reduceBEq, Int.reduceBNe, Blk.men, Blk.keysIn, List.map_cons, List.map_nil])) ?_)
    | (simp (disch := omega) only [go_sem, Nat.reduceLT, Nat.reduceLeDiff, Nat.reduceAdd, Nat.reduceMul, Nat.reduceEqDiff, ↓reduceIte, reduceCtorEq, Nat.reduceBEq, Nat.reduceBNe, Nat.reducePow, Int.reduceLE, Int.reduceLT, Int.reduceNeg, Int.reduceToNat, Int.reduceEq, Int.reduceAdd, Int.reduceSub, Int.reduceMul, Int.reduceBEq, Int.reduceBNe, Blk.men, Blk.keysIn, List.map_cons, List.map_nil])
    | (exact retS_of rfl rfl rfl)
    | (refine DW.cond_tt rfl ?_)
    | (refine call_c (c112 r m.wh m.dl ⟨by omega, by omega⟩ r2 r3 ⟨by omega, by omega⟩ ⟨by omega, by omega⟩) (by decide) ?_)
    | (refine call_c (c112 r m.wl m.dh ⟨by omega, by omega⟩ r2 r3 ⟨by omega, by omega⟩ ⟨by omega, by omega⟩) (by decide) ?_)
    | (refine DW.cond_ff rfl ?_)
    | (refine DW.cond rfl ?_ ?_ <;> intro hc <;> (try simp only [go_sem] at hc))
    | (refine g_split ?_ ?_ <;> intro hc <;> (try simp only [hc]) <;> (try simp only [go_sem] at hc)))
def pressErr (r : Rule) (m : Room) : Int := if ruleOk r = false then 2 else if roomOk m = false then 3 else 0
theorem c41 (r : Rule) (m : Room) : DCall Try.prog 37 [dR r, .agg ((eR m).map D.c)] [] (.tup [.agg [dI (if pressErr r m = 0 then pressLo r m else 0), dI (if pressErr r m = 0 then pressHi r m else 0)], dI (pressErr r m)]) [] := by
  refine DCall.of Try.func37 sf37 hb37 (Nat.le_of_ble_eq_true rfl) (okRes_nil fun _ => rfl) ?_; simp only [s37, idxs, Nat.reduceAdd]
  repeat' (first
    | (with_reducible refine DW.seq ?_)
    | (with_reducible refine DW.block ?_)
    | (with_reducible refine DW.skip ?_)
    | (with_reducible refine DW.exit ?_)
    | (with_reducible refine DW.ret ?_)
    | (with_reducible refine DW.reg ?_)
    | (simp (disch := omega) only [go_sem, Nat.reduceLT, Nat.reduceLeDiff, Nat.reduceAdd, Nat.reduceMul, Nat.reduceEqDiff, ↓reduceIte, reduceCtorEq, Nat.reduceBEq, Nat.reduceBNe, Nat.reducePow, Int.reduceLE, Int.reduceLT, Int.reduceNeg, Int.reduceToNat, Int.reduceEq, Int.reduceAdd, Int.reduceSub, Int.reduceMul, Int.reduceBEq, Int.reduceBNe, Blk.men, Blk.keysIn, List.map_cons, List.map_nil])
    | (exact retS_of rfl rfl rfl)
    | (refine DW.cond_tt rfl ?_)
    | (refine call_c (c86 r) (by decide) ?_)
    | (refine DW.cond_ff rfl ?_)
    | (refine DW.cond rfl ?_ ?_ <;> intro hc <;> (try simp only [go_sem] at hc))
    | (refine g_split ?_ ?_ <;> intro hc <;> (try simp only [hc]) <;> (try simp only [go_sem] at hc)))
  · have he : pressErr r m = 2 := if_pos (by simp_all)
    rw [he]
    all_goals refine retS_wk rfl ?_ (by simp only [Blk.nb, rowC_nb, D.nb, D.nbs, C.nb, C.nbs, C.nbss, rows_nb eI_nb, rows_nb eC_nb, rows_nb eL_nb, rows_nb eR_nb, rows_nb eS_nb, rows_nb eG_nb, Bool.and_true, Bool.not_false, Bool.and_self, bD, dI, iD]); exact .refl _
  · (refine call_c (c85 m) (by decide) ?_; simp (disch := omega) only [go_sem, Nat.reduceLT, Nat.reduceLeDiff, Nat.reduceAdd, Nat.reduceMul, Nat.reduceEqDiff, ↓reduceIte, reduceCtorEq, Nat.reduceBEq, Nat.reduceBNe, Nat.reducePow, Int.reduceLE, Int.reduceLT, Int.reduceNeg, Int.reduceToNat, Int.reduceEq, Int.reduceAdd, Int.reduceSub, Int.reduceMul, Int.reduceBEq, Int.reduceBNe, Blk.men, Blk.keysIn])
    refine DW.cond rfl ?_ ?_ <;> intro h1
    · have he : pressErr r m = 3 := by rw [pressErr, if_neg (by simp_all), if_pos (by simp_all)]
      rw [he]
      repeat' (first
    | (with_reducible refine DW.seq ?_)
    | (with_reducible refine DW.block ?_)
    | (with_reducible refine DW.skip ?_)
    | (with_reducible refine DW.exit ?_)
    | (with_reducible refine DW.ret ?_)
    | (with_reducible refine DW.reg ?_)
    | (simp (disch := omega) only [go_sem, Nat.reduceLT, Nat.reduceLeDiff, Nat.reduceAdd, Nat.reduceMul, Nat.reduceEqDiff, ↓reduceIte, reduceCtorEq, Nat.reduceBEq, Nat.reduceBNe, Nat.reducePow, Int.reduceLE, Int.reduceLT, Int.reduceNeg, Int.reduceToNat, Int.reduceEq, Int.reduceAdd, Int.reduceSub, Int.reduceMul, Int.reduceBEq, Int.reduceBNe, Blk.men, Blk.keysIn])
    | (exact retS_of rfl rfl rfl)
    | (refine DW.cond_tt rfl ?_)
    | (refine DW.cond_ff rfl ?_)
    | (refine DW.cond rfl ?_ ?_ <;> intro hc <;> (try simp only [go_sem] at hc))
    | (refine g_split ?_ ?_ <;> intro hc <;> (try simp only [hc]) <;> (try simp only [go_sem] at hc)))
      all_goals refine retS_wk rfl ?_ (by simp only [Blk.nb, rowC_nb, D.nb, D.nbs, C.nb, C.nbs, C.nbss, rows_nb eI_nb, rows_nb eC_nb, rows_nb eL_nb, rows_nb eR_nb, rows_nb eS_nb, rows_nb eG_nb, Bool.and_true, Bool.not_false, Bool.and_self, bD, dI, iD]); exact .refl _
    · have he : pressErr r m = 0 := by rw [pressErr, if_neg (by simp_all), if_neg (by simp_all)]
      rw [he]
      repeat' (first
    | (with_reducible refine DW.seq ?_)
    | (with_reducible refine DW.block ?_)
    | (with_reducible refine DW.skip ?_)
    | (with_reducible refine DW.exit ?_)
    | (with_reducible refine DW.ret ?_)
    | (with_reducible refine DW.reg ?_)
    | (simp (disch := omega) only [go_sem, Nat.reduceLT, Nat.reduceLeDiff, Nat.reduceAdd, Nat.reduceMul, Nat.reduceEqDiff, ↓reduceIte, reduceCtorEq, Nat.reduceBEq, Nat.reduceBNe, Nat.reducePow, Int.reduceLE, Int.reduceLT, Int.reduceNeg, Int.reduceToNat, Int.reduceEq, Int.reduceAdd, Int.reduceSub, Int.reduceMul, Int.reduceBEq, Int.reduceBNe, Blk.men, Blk.keysIn])
    | (exact retS_of rfl rfl rfl)
    | (refine DW.cond_tt rfl ?_)
    | (refine call_c (c89 r m (by simp_all) (by simp_all)) (by decide) ?_)
    | (refine DW.cond_ff rfl ?_)
    | (refine DW.cond rfl ?_ ?_ <;> intro hc <;> (try simp only [go_sem] at hc))
    | (refine g_split ?_ ?_ <;> intro hc <;> (try simp only [hc]) <;> (try simp only [go_sem] at hc)))
      all_goals refine retS_wk rfl ?_ (by simp only [Blk.nb, rowC_nb, D.nb, D.nbs, C.nb, C.nbs, C.nbss, rows_nb eI_nb, rows_nb eC_nb, rows_nb eL_nb, rows_nb eR_nb, rows_nb eS_nb, rows_nb eG_nb, Bool.and_true, Bool.not_false, Bool.and_self, bD, dI, iD]); exact .refl _
end Go.Dw.Seat
end
section
set_option linter.unusedSimpArgs false
set_option maxRecDepth 100000
namespace Go.Dw.Seat
open Go Go.Dw Go.Proofs Go.IntWalk
def hasN (st : Nat) (noz : List Nat) (s : List Cause) (box : Int) (z step : Nat) : Bool := ((boxN st noz s box).getD z 0 >>> step) % 2 == 1
theorem c75 (b b' : Bool) (st : Nat) (noz : List Nat) (s : List Cause) (box : Int) (z step : Nat) (hst : st ≤ 16) (hn : ∀ v ∈ noz, v < 2 ^ st) (hl : noz.length ≤ 1000) (hsl : s.length ≤ 2 ^ 36) (hs : ∀ c ∈ s, 0 ≤ c.noz ∧ c.noz < noz.length) (hz : z < noz.length) (hstep : step ≤ 60) :
    DCall Try.prog 147 [dP b ⟨st, nL noz⟩, dCs b' s, .agg [dI box, dI z, dI step]] [] (bD (hasN st noz s box z step)) [] := by
  have hlen := boxN_length st box s noz
  obtain ⟨v, hv⟩ := getE (l := boxN st noz s box) (i := z) (by omega)
  have hlt := boxN_lt (s := s) (box := box) hn v (List.mem_of_getElem? hv)
  have hp : 2 ^ st ≤ 2 ^ 16 := Nat.pow_le_pow_right (by decide) hst
  have hv16 : v < 65536 := by omega
  have hsh : v >>> step < 9223372036854775808 := Nat.lt_of_le_of_lt (Nat.shiftRight_le v step) (by omega)
  have hr : hasN st noz s box z step = (v >>> step % 2 == 1) := by simp only [hasN, List.getD, hv, Option.getD_some]
  have hzl : (z < (boxN st noz s box).length) = True := eq_true (by omega)
  rw [hr]
  refine DCall.of Try.func147 sf147 hb147 (Nat.le_of_ble_eq_true rfl) (okRes_nil fun _ => rfl) ?_; simp only [s147, idxs, Nat.reduceAdd]
  repeat' (first
    | (with_reducible refine DW.seq ?_)
    | (with_reducible refine DW.block ?_)
    | (with_reducible refine DW.skip ?_)
    | (with_reducible refine DW.exit ?_)
    | (with_reducible refine DW.ret ?_)
    | (with_reducible refine DW.reg ?_)
    | (refine DW.dreg rfl (WF.of (by first | rfl | simp (disch := omega) only [go_sem, Nat.reduceLT, Nat.reduceLeDiff, Nat.reduceAdd, Nat.reduceMul, Nat.reduceEqDiff, ↓reduceIte, reduceCtorEq, Nat.reduceBEq, Nat.reduceBNe, Nat.reducePow, Int.reduceLE, Int.reduceLT, Int.reduceNeg, Int.reduceToNat, Int.reduceEq, Int.reduceAdd, Int.reduceSub, Int.reduceMul, Int.reduceBEq, Int.reduceBNe, Blk.men, Blk.keysIn])) ?_)
    | (simp (disch := omega) only [go_sem, Nat.reduceLT, Nat.reduceLeDiff, Nat.reduceAdd, Nat.reduceMul, Nat.reduceEqDiff, ↓reduceIte, reduceCtorEq, Nat.reduceBEq, Nat.reduceBNe, Nat.reducePow, Int.reduceLE, Int.reduceLT, Int.reduceNeg, Int.reduceToNat, Int.reduceEq, Int.reduceAdd, Int.reduceSub, Int.reduceMul, Int.reduceBEq, Int.reduceBNe, Blk.men, Blk.keysIn])
    | (exact retS_of rfl rfl rfl)
    | (refine DW.cond_tt rfl ?_)
    | (refine DW.cond_ff rfl ?_)
    | (refine DW.cond rfl ?_ ?_ <;> intro hc <;> (try simp only [go_sem] at hc))
    | (refine g_split ?_ ?_ <;> intro hc <;> (try simp only [hc]) <;> (try simp only [go_sem] at hc)))
  (refine call_r (c80 b b' st noz s box 11 hst hn (by omega) hsl hs ) (by decide) (by first | rfl | simp (disch := omega) only [go_sem, Nat.reduceLT, Nat.reduceLeDiff, Nat.reduceAdd, Nat.reduceMul, Nat.reduceEqDiff, ↓reduceIte, reduceCtorEq, Nat.reduceBEq, Nat.reduceBNe, Nat.reducePow, Int.reduceLE, Int.reduceLT, Int.reduceNeg, Int.reduceToNat, Int.reduceEq, Int.reduceAdd, Int.reduceSub, Int.reduceMul, Int.reduceBEq, Int.reduceBNe, Blk.men, Blk.keysIn,  hv, hzl]) (by first | rfl | simp (disch := omega) only [go_sem, Nat.reduceLT, Nat.reduceLeDiff, Nat.reduceAdd, Nat.reduceMul, Nat.reduceEqDiff, ↓reduceIte, reduceCtorEq, Nat.reduceBEq, Nat.reduceBNe, Nat.reducePow, Int.reduceLE, Int.reduceLT, Int.reduceNeg, Int.reduceToNat, Int.reduceEq, Int.reduceAdd, Int.reduceSub, Int.reduceMul, Int.reduceBEq, Int.reduceBNe, Blk.men, Blk.keysIn,  hv, hzl]) ?_; simp (disch := omega) only [go_sem, Nat.reduceLT, Nat.reduceLeDiff, Nat.reduceAdd, Nat.reduceMul, Nat.reduceEqDiff, ↓reduceIte, reduceCtorEq, Nat.reduceBEq, Nat.reduceBNe, Nat.reducePow, Int.reduceLE, Int.reduceLT, Int.reduceNeg, Int.reduceToNat, Int.reduceEq, Int.reduceAdd, Int.reduceSub, Int.reduceMul, Int.reduceBEq, Int.reduceBNe, Blk.men, Blk.keysIn,  hv, hzl])
  repeat' (first
    | (with_reducible refine DW.seq ?_)
    | (with_reducible refine DW.block ?_)
    | (with_reducible refine DW.skip ?_)
    | (with_reducible refine DW.exit ?_)
    | (with_reducible refine DW.ret ?_)
    | (with_reducible refine DW.reg ?_)
    | (refine DW.dreg rfl (WF.of (by first | rfl | simp (disch := omega) only [go_sem, Nat.reduceLT, Nat.reduceLeDiff, Nat.reduceAdd, Nat.reduceMul, Nat.reduceEqDiff, ↓reduceIte, reduceCtorEq, Nat.reduceBEq, Nat.reduceBNe, Nat.reducePow, Int.reduceLE, Int.reduceLT, Int.reduceNeg, Int.reduceToNat, Int.reduceEq, Int.reduceAdd, Int.reduceSub, Int.reduceMul, Int.reduceBEq, Int.reduceBNe, Blk.men, Blk.keysIn, hv, hzl])) ?_)
    | (simp (disch := omega) only [go_sem, Nat.reduceLT, Nat.reduceLeDiff, Nat.reduceAdd, Nat.reduceMul, Nat.reduceEqDiff, ↓reduceIte, reduceCtorEq, Nat.reduceBEq, Nat.reduceBNe, Nat.reducePow, Int.reduceLE, Int.reduceLT, Int.reduceNeg, Int.reduceToNat, Int.reduceEq, Int.reduceAdd, Int.reduceSub, Int.reduceMul, Int.reduceBEq, Int.reduceBNe, Blk.men, Blk.keysIn, hv, hzl])
    | (exact retS_of rfl rfl rfl)
    | (refine DW.cond_tt rfl ?_)
    | (refine DW.cond_ff rfl ?_)
    | (refine DW.cond rfl ?_ ?_ <;> intro hc <;> (try simp only [go_sem] at hc))
    | (refine g_split ?_ ?_ <;> intro hc <;> (try simp only [hc]) <;> (try simp only [go_sem] at hc)))
  refine retS_of rfl ?_ rfl; simp only [oneD, St.op, get, Nat.reduceEqDiff, ↓reduceIte, Option.getD_some, bD, dI]
  refine dB_eq ?_
  generalize v >>> step = m
  rw [Bool.eq_iff_iff, beq_iff_eq, beq_iff_eq]; omega
theorem openErr_zero {x : Plan} (h : openErr x = 0) : ∃ (st : Nat) (noz : List Nat), x = ⟨st, nL noz⟩ ∧ (1 ≤ st ∧ st ≤ 16) ∧ (0 < noz.length ∧ noz.length ≤ 6) ∧ ∀ v ∈ noz, v < 2 ^ st := by
  unfold openErr at h
  split at h
  · cases h
  · rename_i h1
    split at h
    · cases h
    · rename_i h2
      split at h
      · cases h
      · rename_i h3
        split at h
        · cases h
        · rename_i h4
          have h1 := wthn_one (by simpa using h1)
          have hall : ∀ v ∈ x.noz, 0 ≤ v ∧ v ≤ 2 ^ x.steps.toNat - 1 := by
            simp only [Bool.not_eq_false, wthn, Bool.not_eq_true', List.any_eq_false, Bool.or_eq_true, decide_eq_true_eq, not_or] at h4
            intro v hv
            have := h4 v hv
            omega
          refine ⟨x.steps.toNat, x.noz.map Int.toNat, ?_, by omega, by simp; omega, ?_⟩
          · obtain ⟨steps, noz⟩ := x
            simp only [Plan.mk.injEq]
            refine ⟨by simp at h1 ⊢; omega, ?_⟩
            simp only [nL, List.map_map]
            symm
            refine (List.map_congr_left (fun v hv => ?_)).trans (List.map_id _)
            have := (hall v hv).1
            simp only [Function.comp, id_eq]; omega
          · intro v hv
            obtain ⟨u, hu, rfl⟩ := List.mem_map.1 hv
            obtain ⟨h5, h6⟩ := hall u hu
            have hpc : ((2 ^ x.steps.toNat : Nat) : Int) = (2 : Int) ^ x.steps.toNat := by simp
            rw [← hpc] at h6
            clear hpc
            generalize 2 ^ x.steps.toNat = m at *
            omega
theorem checkErr_zero {x : Plan} {s : List Cause} (h : checkErr x s = 0) : s.length ≤ 2 ∧ (∀ c ∈ s, (0 ≤ c.noz ∧ c.noz < x.noz.length) ∧ (1 ≤ c.kind ∧ c.kind ≤ 4) ∧ (0 ≤ c.frm ∧ c.frm ≤ 1000)) ∧ asc (s.map (·.noz)) = true := by
  unfold checkErr at h
  split at h
  · cases h
  · split at h
    · cases h
    · rename_i h2
      split at h
      · rename_i h3
        refine ⟨by omega, fun c hc => ?_, h3⟩
        simp only [List.any_eq_true, not_exists, not_and, Bool.not_eq_true', Bool.not_eq_false] at h2
        have := h2 c hc
        simp only [causeOk, Bool.and_eq_true] at this
        have h4 := wthn_one this.1.1
        have h5 := wthn_one this.1.2
        have h6 := wthn_one this.2
        omega
      · cases h
end Go.Dw.Seat
end
section
set_option linter.unusedSimpArgs false
set_option maxRecDepth 100000
namespace Go.Dw.Seat
open Go Go.Dw Go.Proofs Go.IntWalk
def boxErr (x : Plan) (s : List Cause) (box : Int) : Int := if stErr x [s] = 0 then (if wthn 0 1000 [box] then 0 else 9) else stErr x [s]
def boxOut (x : Plan) (s : List Cause) (box : Int) : List Nat := if boxErr x s box = 0 then boxN x.steps.toNat (x.noz.map Int.toNat) s box else []
theorem nL_toNat (l : List Nat) : (nL l).map Int.toNat = l := by
  simp only [nL, List.map_map]
  exact (List.map_congr_left (fun v _ => by simp)).trans (List.map_id _)
theorem stErr_zero {x : Plan} {ss : List (List Cause)} (h : stErr x ss = 0) : openErr x = 0 ∧ ∀ s ∈ ss, checkErr x s = 0 := by
  unfold stErr at h
  split at h
  · rename_i h1
    refine ⟨h1, ?_⟩
    induction ss with
    | nil => simp
    | cons s ss ih =>
      simp only [firstErr] at h
      split at h
      · rename_i h2
        intro s' hs'
        rcases List.mem_cons.1 hs' with rfl | h3
        · exact h2
        · exact ih h s' h3
      · contradiction
  · contradiction
theorem c55 (b : Bool) (x : Plan) (s : List Cause) (box : Int) (hx : x.noz.length ≤ 2 ^ 36) (hs : s.length ≤ 2 ^ 36) :
    DCall Try.prog 67 [dP false x, dCs b s, dI box] [] (.tup [dIs false (nL (boxOut x s box)), dI (boxErr x s box)]) [] := by
  refine DCall.of Try.func67 sf67 hb67 (Nat.le_of_ble_eq_true rfl) (okRes_nil fun _ => rfl) ?_; simp only [s67, idxs, Nat.reduceAdd]
  repeat' (first
    | (with_reducible refine DW.seq ?_)
    | (with_reducible refine DW.block ?_)
    | (with_reducible refine DW.skip ?_)
    | (with_reducible refine DW.exit ?_)
    | (with_reducible refine DW.ret ?_)
    | (with_reducible refine DW.reg ?_)
    | (simp (disch := omega) only [go_sem, Nat.reduceLT, Nat.reduceLeDiff, Nat.reduceAdd, Nat.reduceMul, Nat.reduceEqDiff, ↓reduceIte, reduceCtorEq, Nat.reduceBEq, Nat.reduceBNe, Nat.reducePow, Int.reduceLE, Int.reduceLT, Int.reduceNeg, Int.reduceToNat, Int.reduceEq, Int.reduceAdd, Int.reduceSub, Int.reduceMul, Int.reduceBEq, Int.reduceBNe, Blk.men, Blk.keysIn])
    | (exact retS_of rfl rfl rfl)
    | (refine DW.cond_tt rfl ?_)
    | (refine DW.cond_ff rfl ?_)
    | (refine DW.cond rfl ?_ ?_ <;> intro hc <;> (try simp only [go_sem] at hc))
    | (refine g_split ?_ ?_ <;> intro hc <;> (try simp only [hc]) <;> (try simp only [go_sem] at hc)))
  (refine call_c (c77 true b x [s] hx (by simp) (by simpa using hs)) (by decide) ?_; simp (disch := omega) only [go_sem, Nat.reduceLT, Nat.reduceLeDiff, Nat.reduceAdd, Nat.reduceMul, Nat.reduceEqDiff, ↓reduceIte, reduceCtorEq, Nat.reduceBEq, Nat.reduceBNe, Nat.reducePow, Int.reduceLE, Int.reduceLT, Int.reduceNeg, Int.reduceToNat, Int.reduceEq, Int.reduceAdd, Int.reduceSub, Int.reduceMul, Int.reduceBEq, Int.reduceBNe, Blk.men, Blk.keysIn])
  refine DW.seq (DW.block (DW.seq (DW.reg ?_)))
  simp (disch := omega) only [go_sem, Nat.reduceLT, Nat.reduceLeDiff, Nat.reduceAdd, Nat.reduceMul, Nat.reduceEqDiff, ↓reduceIte, reduceCtorEq, Nat.reduceBEq, Nat.reduceBNe, Nat.reducePow, Int.reduceLE, Int.reduceLT, Int.reduceNeg, Int.reduceToNat, Int.reduceEq, Int.reduceAdd, Int.reduceSub, Int.reduceMul, Int.reduceBEq, Int.reduceBNe, Blk.men, Blk.keysIn]
  refine DW.cond rfl ?_ ?_ <;> intro h1
  · have he : boxErr x s box = stErr x [s] := if_neg (by simpa using h1)
    have ho : boxOut x s box = [] := if_neg (by rw [he]; simpa using h1)
    rw [ho, he]
    repeat' (first
    | (with_reducible refine DW.seq ?_)
    | (with_reducible refine DW.block ?_)
    | (with_reducible refine DW.skip ?_)
    | (with_reducible refine DW.exit ?_)
    | (with_reducible refine DW.ret ?_)
    | (with_reducible refine DW.reg ?_)
    | (simp (disch := omega) only [go_sem, Nat.reduceLT, Nat.reduceLeDiff, Nat.reduceAdd, Nat.reduceMul, Nat.reduceEqDiff, ↓reduceIte, reduceCtorEq, Nat.reduceBEq, Nat.reduceBNe, Nat.reducePow, Int.reduceLE, Int.reduceLT, Int.reduceNeg, Int.reduceToNat, Int.reduceEq, Int.reduceAdd, Int.reduceSub, Int.reduceMul, Int.reduceBEq, Int.reduceBNe, Blk.men, Blk.keysIn])
    | (exact retS_of rfl rfl rfl)
    | (refine DW.cond_tt rfl ?_)
    | (refine DW.cond_ff rfl ?_)
    | (refine DW.cond rfl ?_ ?_ <;> intro hc <;> (try simp only [go_sem] at hc))
    | (refine g_split ?_ ?_ <;> intro hc <;> (try simp only [hc]) <;> (try simp only [go_sem] at hc)))
    refine retS_wk rfl ?_ (by simp only [Blk.nb, rowC_nb, D.nb, D.nbs, C.nb, C.nbs, C.nbss, rows_nb eI_nb, rows_nb eC_nb, rows_nb eL_nb, rows_nb eR_nb, rows_nb eS_nb, rows_nb eG_nb, Bool.and_true, Bool.not_false, Bool.and_self, bD, dI, iD]); exact .tup (.cons (.nil false 1) (.cons (.refl _) .nil))
  have h0 : stErr x [s] = 0 := by simpa using h1
  obtain ⟨hop, hch⟩ := stErr_zero h0
  have hun : boxErr x s box = if wthn 0 1000 [box] then 0 else 9 := if_pos h0
  have hoo : opened x = x := if_pos hop
  rw [hoo, h0]
  repeat' (first
    | (with_reducible refine DW.seq ?_)
    | (with_reducible refine DW.block ?_)
    | (with_reducible refine DW.skip ?_)
    | (with_reducible refine DW.exit ?_)
    | (with_reducible refine DW.ret ?_)
    | (with_reducible refine DW.reg ?_)
    | (simp (disch := omega) only [go_sem, Nat.reduceLT, Nat.reduceLeDiff, Nat.reduceAdd, Nat.reduceMul, Nat.reduceEqDiff, ↓reduceIte, reduceCtorEq, Nat.reduceBEq, Nat.reduceBNe, Nat.reducePow, Int.reduceLE, Int.reduceLT, Int.reduceNeg, Int.reduceToNat, Int.reduceEq, Int.reduceAdd, Int.reduceSub, Int.reduceMul, Int.reduceBEq, Int.reduceBNe, Blk.men, Blk.keysIn])
    | (exact retS_of rfl rfl rfl)
    | (refine DW.cond_tt rfl ?_)
    | (refine call_c (c93 true [box] (by simp)) (by decide) ?_)
    | (refine DW.cond_ff rfl ?_)
    | (refine DW.cond rfl ?_ ?_ <;> intro hc <;> (try simp only [go_sem] at hc))
    | (refine g_split ?_ ?_ <;> intro hc <;> (try simp only [hc]) <;> (try simp only [go_sem] at hc)))
  · have he : boxErr x s box = 9 := by rw [hun, if_neg (by simp_all)]
    have ho : boxOut x s box = [] := if_neg (by rw [he]; decide)
    rw [ho, he]
    refine retS_wk rfl ?_ (by simp only [Blk.nb, rowC_nb, D.nb, D.nbs, C.nb, C.nbs, C.nbss, rows_nb eI_nb, rows_nb eC_nb, rows_nb eL_nb, rows_nb eR_nb, rows_nb eS_nb, rows_nb eG_nb, Bool.and_true, Bool.not_false, Bool.and_self, bD, dI, iD]); exact .tup (.cons (.nil false 1) (.cons (.refl _) .nil))
  · have he : boxErr x s box = 0 := by rw [hun, if_pos (by simp_all)]
    have ho : boxOut x s box = boxN x.steps.toNat (x.noz.map Int.toNat) s box := if_pos he
    rw [ho, he]
    obtain ⟨h2, h3, _⟩ := checkErr_zero (hch s (by simp))
    obtain ⟨st, noz, rfl, hst, hn, hv⟩ := openErr_zero hop
    simp only [Int.toNat_natCast, nL_toNat]
    simp only [nL_length] at h3
    (refine call_r (c80 false b st noz s box 29 hst.2 hv (by omega) hs (fun c hc => (h3 c hc).1)) (by decide) (by first | rfl | simp (disch := omega) only [go_sem, Nat.reduceLT, Nat.reduceLeDiff, Nat.reduceAdd, Nat.reduceMul, Nat.reduceEqDiff, ↓reduceIte, reduceCtorEq, Nat.reduceBEq, Nat.reduceBNe, Nat.reducePow, Int.reduceLE, Int.reduceLT, Int.reduceNeg, Int.reduceToNat, Int.reduceEq, Int.reduceAdd, Int.reduceSub, Int.reduceMul, Int.reduceBEq, Int.reduceBNe, Blk.men, Blk.keysIn]) (by first | rfl | simp (disch := omega) only [go_sem, Nat.reduceLT, Nat.reduceLeDiff, Nat.reduceAdd, Nat.reduceMul, Nat.reduceEqDiff, ↓reduceIte, reduceCtorEq, Nat.reduceBEq, Nat.reduceBNe, Nat.reducePow, Int.reduceLE, Int.reduceLT, Int.reduceNeg, Int.reduceToNat, Int.reduceEq, Int.reduceAdd, Int.reduceSub, Int.reduceMul, Int.reduceBEq, Int.reduceBNe, Blk.men, Blk.keysIn]) ?_; simp (disch := omega) only [go_sem, Nat.reduceLT, Nat.reduceLeDiff, Nat.reduceAdd, Nat.reduceMul, Nat.reduceEqDiff, ↓reduceIte, reduceCtorEq, Nat.reduceBEq, Nat.reduceBNe, Nat.reducePow, Int.reduceLE, Int.reduceLT, Int.reduceNeg, Int.reduceToNat, Int.reduceEq, Int.reduceAdd, Int.reduceSub, Int.reduceMul, Int.reduceBEq, Int.reduceBNe, Blk.men, Blk.keysIn])
    repeat' (first
    | (with_reducible refine DW.seq ?_)
    | (with_reducible refine DW.block ?_)
    | (with_reducible refine DW.skip ?_)
    | (with_reducible refine DW.exit ?_)
    | (with_reducible refine DW.ret ?_)
    | (with_reducible refine DW.reg ?_)
    | (simp (disch := omega) only [go_sem, Nat.reduceLT, Nat.reduceLeDiff, Nat.reduceAdd, Nat.reduceMul, Nat.reduceEqDiff, ↓reduceIte, reduceCtorEq, Nat.reduceBEq, Nat.reduceBNe, Nat.reducePow, Int.reduceLE, Int.reduceLT, Int.reduceNeg, Int.reduceToNat, Int.reduceEq, Int.reduceAdd, Int.reduceSub, Int.reduceMul, Int.reduceBEq, Int.reduceBNe, Blk.men, Blk.keysIn])
    | (exact retS_of rfl rfl rfl)
    | (refine DW.cond_tt rfl ?_)
    | (refine DW.cond_ff rfl ?_)
    | (refine DW.cond rfl ?_ ?_ <;> intro hc <;> (try simp only [go_sem] at hc))
    | (refine g_split ?_ ?_ <;> intro hc <;> (try simp only [hc]) <;> (try simp only [go_sem] at hc)))
    (refine retS_ent (Ent.rel 29 rfl) ?_; simp (disch := omega) only [go_sem, Nat.reduceLT, Nat.reduceLeDiff, Nat.reduceAdd, Nat.reduceMul, Nat.reduceEqDiff, ↓reduceIte, reduceCtorEq, Nat.reduceBEq, Nat.reduceBNe, Nat.reducePow, Int.reduceLE, Int.reduceLT, Int.reduceNeg, Int.reduceToNat, Int.reduceEq, Int.reduceAdd, Int.reduceSub, Int.reduceMul, Int.reduceBEq, Int.reduceBNe, Blk.men, Blk.keysIn])
    refine retS_wk rfl ?_ (by simp only [Blk.nb, rowC_nb, D.nb, D.nbs, C.nb, C.nbs, C.nbss, rows_nb eI_nb, rows_nb eC_nb, rows_nb eL_nb, rows_nb eR_nb, rows_nb eS_nb, rows_nb eG_nb, Bool.and_true, Bool.not_false, Bool.and_self, bD, dI, iD]); exact .refl _
def srt : List Int → Bool
  | a :: b :: l => decide (a ≤ b) && srt (b :: l)
  | _ => true
theorem srt_true : ∀ {l : List Int}, (∀ j a b, l[j]? = some a → l[j + 1]? = some b → a ≤ b) → srt l = true
  | [], _ => rfl
  | [_], _ => rfl
  | a :: b :: l, h => by
    have h1 := h 0 a b rfl rfl
    have h2 := srt_true (l := b :: l) (fun j x y hx hy => h (j + 1) x y hx hy)
    simp [srt, h1, h2]
theorem srt_false : ∀ {l : List Int} {j : Nat} {a b : Int}, l[j]? = some a → l[j + 1]? = some b → ¬ a ≤ b → srt l = false
  | [], _, _, _, h, _, _ => by simp at h
  | [_], _, _, _, _, h, _ => by simp at h
  | x :: y :: l, 0, a, b, h1, h2, h => by
    simp at h1 h2; subst h1; subst h2
    simp only [srt, decide_eq_false h, Bool.false_and]
  | x :: y :: l, j + 1, a, b, h1, h2, h => by
    have := srt_false (l := y :: l) (j := j) (by simpa using h1) (by simpa using h2) h
    simp [srt, this]
theorem c116 (b : Bool) (l : List Int) (hl : l.length ≤ 2 ^ 36) : DCall Try.prog 164 [dIs b l] [] (bD (srt l)) [] := by
  refine DCall.of Try.func164 sf164 hb164 (Nat.le_of_ble_eq_true rfl) (okRes_nil fun _ => rfl) ?_; simp only [s164, idxs, Nat.reduceAdd]
  repeat' (first
    | (with_reducible refine DW.seq ?_)
    | (with_reducible refine DW.block ?_)
    | (with_reducible refine DW.skip ?_)
    | (with_reducible refine DW.exit ?_)
    | (with_reducible refine DW.ret ?_)
    | (with_reducible refine DW.reg ?_)
    | (refine DW.dreg rfl (WF.of (by first | rfl | simp (disch := omega) only [go_sem, Nat.reduceLT, Nat.reduceLeDiff, Nat.reduceAdd, Nat.reduceMul, Nat.reduceEqDiff, ↓reduceIte, reduceCtorEq, Nat.reduceBEq, Nat.reduceBNe, Nat.reducePow, Int.reduceLE, Int.reduceLT, Int.reduceNeg, Int.reduceToNat, Int.reduceEq, Int.reduceAdd, Int.reduceSub, Int.reduceMul, Int.reduceBEq, Int.reduceBNe, Blk.men, Blk.keysIn])) ?_)
    | (simp (disch := omega) only [go_sem, Nat.reduceLT, Nat.reduceLeDiff, Nat.reduceAdd, Nat.reduceMul, Nat.reduceEqDiff, ↓reduceIte, reduceCtorEq, Nat.reduceBEq, Nat.reduceBNe, Nat.reducePow, Int.reduceLE, Int.reduceLT, Int.reduceNeg, Int.reduceToNat, Int.reduceEq, Int.reduceAdd, Int.reduceSub, Int.reduceMul, Int.reduceBEq, Int.reduceBNe, Blk.men, Blk.keysIn])
    | (exact retS_of rfl rfl rfl)
    | (refine DW.cond_tt rfl ?_)
    | (refine DW.cond_ff rfl ?_)
    | (refine DW.cond rfl ?_ ?_ <;> intro hc <;> (try simp only [go_sem] at hc))
    | (refine g_split ?_ ?_ <;> intro hc <;> (try simp only [hc]) <;> (try simp only [go_sem] at hc)))
  refine DW.loop (ι := { i : Nat // i ≤ l.length ∧ ∀ j, i ≤ j + 1 → ∀ u v, l[j]? = some u → l[j + 1]? = some v → u ≤ v }) (fun i => ⟨21, [(3, dI ((i.1 : Int) - 1)), (0, dIs b l)], []⟩) (fun i => i.1) ⟨l.length, Nat.le_refl _, fun j hj u v hu hv => by
    rw [List.getElem?_eq_none (by omega)] at hv; cases hv⟩ ?_ ?_
  · refine Ent.to ?_ ?_ <;> simp (disch := omega) only [wkT_cons, wkX_cons, wkT_nil, wkX_nil, get, Nat.reduceEqDiff, ↓reduceIte, ex_some, wk_self, wk_top, wk_nil, wkB_self, and_self, dI, i64_in, and_true, true_and, Int.natCast_add, Int.natCast_one, Int.ofNat_zero, Int.natCast_zero]
  rintro ⟨i, hi, hij⟩
  rcases Nat.lt_or_ge 1 i with h | h
  · obtain ⟨k, rfl⟩ : ∃ k, i = k + 2 := ⟨i - 2, by omega⟩
    obtain ⟨u, hu⟩ : ∃ u, l[k]? = some u := getE (by omega)
    obtain ⟨v, hv⟩ : ∃ v, l[k + 1]? = some v := getE (by omega)
    have e1 : ((k + 2 : Nat) : Int) - 1 = ((k + 1 : Nat) : Int) := by omega
    have e2 : ((k + 1 : Nat) : Int) - 1 = (k : Int) := by omega
    have hpos : decide ((0 : Int) < ((k + 1 : Nat) : Int)) = true := by rw [decide_eq_true_eq]; omega
    repeat' (first
    | (with_reducible refine DW.seq ?_)
    | (with_reducible refine DW.block ?_)
    | (with_reducible refine DW.skip ?_)
    | (with_reducible refine DW.exit ?_)
    | (with_reducible refine DW.ret ?_)
    | (with_reducible refine DW.reg ?_)
    | (refine DW.dreg rfl (WF.of (by first | rfl | simp (disch := omega) only [go_sem, Nat.reduceLT, Nat.reduceLeDiff, Nat.reduceAdd, Nat.reduceMul, Nat.reduceEqDiff, ↓reduceIte, reduceCtorEq, Nat.reduceBEq, Nat.reduceBNe, Nat.reducePow, Int.reduceLE, Int.reduceLT, Int.reduceNeg, Int.reduceToNat, Int.reduceEq, Int.reduceAdd, Int.reduceSub, Int.reduceMul, Int.reduceBEq, Int.reduceBNe, Blk.men, Blk.keysIn, e1, e2, hpos, hu, hv])) ?_)
    | (simp (disch := omega) only [go_sem, Nat.reduceLT, Nat.reduceLeDiff, Nat.reduceAdd, Nat.reduceMul, Nat.reduceEqDiff, ↓reduceIte, reduceCtorEq, Nat.reduceBEq, Nat.reduceBNe, Nat.reducePow, Int.reduceLE, Int.reduceLT, Int.reduceNeg, Int.reduceToNat, Int.reduceEq, Int.reduceAdd, Int.reduceSub, Int.reduceMul, Int.reduceBEq, Int.reduceBNe, Blk.men, Blk.keysIn, e1, e2, hpos, hu, hv])
    | (exact retS_of rfl rfl rfl)
    | (refine DW.cond_tt rfl ?_)
    | (refine call_c (c90 _ _) (by decide) ?_)
    | (refine DW.cond_ff rfl ?_)
    | (refine DW.cond rfl ?_ ?_ <;> intro hc <;> (try simp only [go_sem] at hc))
    | (refine g_split ?_ ?_ <;> intro hc <;> (try simp only [hc]) <;> (try simp only [go_sem] at hc)))
    · refine retS_of rfl ?_ rfl; simp only [oneD, St.op, get, Nat.reduceEqDiff, ↓reduceIte, Option.getD_some, bD, dI]
      rw [srt_false hu hv (by omega)]
    · refine ⟨⟨k + 1, by omega, fun j hj a c ha hc' => by
        rcases Nat.lt_or_ge k j with h1 | h1
        · exact hij j (by omega) a c ha hc'
        · obtain rfl : j = k := by omega
          rw [hu] at ha; rw [hv] at hc'; cases ha; cases hc'; assumption⟩, ?_, Ent.to ?_ ?_⟩ <;> first | (show _ < _; (try simp only); omega) | (simp (disch := omega) only [wkT_cons, wkX_cons, wkT_nil, wkX_nil, get, Nat.reduceEqDiff, ↓reduceIte, ex_some, wk_self, wk_top, wk_nil, wkB_self, and_self, dI, i64_in, and_true, true_and, Int.natCast_add, Int.natCast_one, Int.ofNat_zero, Int.natCast_zero,  Int.add_sub_cancel])
  · have hneg : decide ((0 : Int) < (i : Int) - 1) = false := by rw [decide_eq_false_iff_not]; omega
    repeat' (first
    | (with_reducible refine DW.seq ?_)
    | (with_reducible refine DW.block ?_)
    | (with_reducible refine DW.skip ?_)
    | (with_reducible refine DW.exit ?_)
    | (with_reducible refine DW.ret ?_)
    | (with_reducible refine DW.reg ?_)
    | (refine DW.dreg rfl (WF.of (by first | rfl | simp (disch := omega) only [go_sem, Nat.reduceLT, Nat.reduceLeDiff, Nat.reduceAdd, Nat.reduceMul, Nat.reduceEqDiff, ↓reduceIte, reduceCtorEq, Nat.reduceBEq, Nat.reduceBNe, Nat.reducePow, Int.reduceLE, Int.reduceLT, Int.reduceNeg, Int.reduceToNat, Int.reduceEq, Int.reduceAdd, Int.reduceSub, Int.reduceMul, Int.reduceBEq, Int.reduceBNe, Blk.men, Blk.keysIn, hneg])) ?_)
    | (simp (disch := omega) only [go_sem, Nat.reduceLT, Nat.reduceLeDiff, Nat.reduceAdd, Nat.reduceMul, Nat.reduceEqDiff, ↓reduceIte, reduceCtorEq, Nat.reduceBEq, Nat.reduceBNe, Nat.reducePow, Int.reduceLE, Int.reduceLT, Int.reduceNeg, Int.reduceToNat, Int.reduceEq, Int.reduceAdd, Int.reduceSub, Int.reduceMul, Int.reduceBEq, Int.reduceBNe, Blk.men, Blk.keysIn, hneg])
    | (exact retS_of rfl rfl rfl)
    | (refine DW.cond_tt rfl ?_)
    | (refine DW.cond_ff rfl ?_)
    | (refine DW.cond rfl ?_ ?_ <;> intro hc <;> (try simp only [go_sem] at hc))
    | (refine g_split ?_ ?_ <;> intro hc <;> (try simp only [hc]) <;> (try simp only [go_sem] at hc)))
    refine retS_of rfl ?_ rfl; simp only [oneD, St.op, get, Nat.reduceEqDiff, ↓reduceIte, Option.getD_some, bD, dI]
    rw [srt_true]
    intro j a c ha hc
    exact hij j (by omega) a c ha hc
end Go.Dw.Seat
end
section
set_option linter.unusedSimpArgs false
set_option maxRecDepth 100000
namespace Go.Dw.Seat
open Go Go.Dw Go.Proofs Go.IntWalk
def causesK (froms : List Int) (z k : Nat) : List Cause := froms.map fun f => ⟨z, (k : Int) + 1, f⟩
def causesZ (froms : List Int) (z : Nat) : List Cause := (List.range 4).flatMap (causesK froms z)
def causesN (n : Nat) (froms : List Int) : List Cause := (List.range n).flatMap (causesZ froms)
theorem causesK_length (froms : List Int) (z k : Nat) : (causesK froms z k).length = froms.length := by simp [causesK]
theorem causesKs_length (froms : List Int) (z : Nat) : ∀ k, ((List.range k).flatMap (causesK froms z)).length = k * froms.length
  | 0 => by simp
  | k + 1 => by rw [flat_range, List.length_append, causesKs_length froms z k, causesK_length, Nat.add_mul]; omega
theorem causesN_length (froms : List Int) : ∀ z, (causesN z froms).length = z * (4 * froms.length)
  | 0 => by simp [causesN]
  | z + 1 => by
    have h := causesN_length froms z
    have h4 : (causesZ froms z).length = 4 * froms.length := causesKs_length froms z 4
    rw [causesN] at h ⊢
    rw [flat_range, List.length_append, h, h4, Nat.add_mul]; omega
theorem c118 (b b1 : Bool) (st : Int) (noz froms : List Int) (hl : noz.length ≤ 1000) (hf : froms.length ≤ 1000) :
    DCall Try.prog 167 [dP b ⟨st, noz⟩, dIs b1 froms] [] (dCs false (causesN noz.length froms)) [] := by
  refine DCall.of Try.func167 sf167 hb167 (Nat.le_of_ble_eq_true rfl) (okRes_nil fun _ => rfl) ?_; simp only [s167, idxs, Nat.reduceAdd]
  repeat' (first
    | (with_reducible refine DW.seq ?_)
    | (with_reducible refine DW.block ?_)
    | (with_reducible refine DW.skip ?_)
    | (with_reducible refine DW.exit ?_)
    | (with_reducible refine DW.ret ?_)
    | (with_reducible refine DW.reg ?_)
    | (simp (disch := omega) only [go_sem, Nat.reduceLT, Nat.reduceLeDiff, Nat.reduceAdd, Nat.reduceMul, Nat.reduceEqDiff, ↓reduceIte, reduceCtorEq, Nat.reduceBEq, Nat.reduceBNe, Nat.reducePow, Int.reduceLE, Int.reduceLT, Int.reduceNeg, Int.reduceToNat, Int.reduceEq, Int.reduceAdd, Int.reduceSub, Int.reduceMul, Int.reduceBEq, Int.reduceBNe, Blk.men, Blk.keysIn])
    | (exact retS_of rfl rfl rfl)
    | (refine DW.cond_tt rfl ?_)
    | (refine DW.cond_ff rfl ?_)
    | (refine DW.cond rfl ?_ ?_ <;> intro hc <;> (try simp only [go_sem] at hc))
    | (refine g_split ?_ ?_ <;> intro hc <;> (try simp only [hc]) <;> (try simp only [go_sem] at hc)))
  refine DW.ent (Ent.adopt 4 32 3 rfl rfl rfl) ?_
  simp (disch := omega) only [go_sem, Nat.reduceLT, Nat.reduceLeDiff, Nat.reduceAdd, Nat.reduceMul, Nat.reduceEqDiff, ↓reduceIte, reduceCtorEq, Nat.reduceBEq, Nat.reduceBNe, Nat.reducePow, Int.reduceLE, Int.reduceLT, Int.reduceNeg, Int.reduceToNat, Int.reduceEq, Int.reduceAdd, Int.reduceSub, Int.reduceMul, Int.reduceBEq, Int.reduceBNe, Blk.men, Blk.keysIn]
  refine DW.loop (ι := { z : Nat // z ≤ noz.length }) (fun i => ⟨36, [(13, dI i.1), (12, dI noz.length), (4, .own 32), (1, dIs b1 froms)], [(32, .row 3 (rowC (rows eC (causesN i.1 froms))))]⟩) (fun i => noz.length - i.1) ⟨0, Nat.zero_le _⟩ ?_ ?_
  · refine Ent.to ?_ ?_ <;> simp (disch := omega) only [wkT_cons, wkX_cons, wkT_nil, wkX_nil, get, Nat.reduceEqDiff, ↓reduceIte, ex_some, wk_self, wk_top, wk_nil, wkB_self, and_self, dI, i64_in, and_true, true_and, Int.natCast_add, Int.natCast_one, Int.ofNat_zero, Int.natCast_zero]
    exact .refl _
  rintro ⟨z, hz⟩
  rcases at_or noz z hz with ⟨v, hv, hlt, hd⟩ | ⟨hend, hd⟩
  · have hnext : causesN (z + 1) froms = causesN z froms ++ causesZ froms z := flat_range
    have hal : (causesN z froms).length ≤ 4000000 := by
      rw [causesN_length]
      have : z * (4 * froms.length) ≤ 1000 * 4000 := Nat.mul_le_mul (by omega) (by omega)
      omega
    generalize ha : causesN z froms = a at *
    repeat' (first
    | (with_reducible refine DW.seq ?_)
    | (with_reducible refine DW.block ?_)
    | (with_reducible refine DW.skip ?_)
    | (with_reducible refine DW.exit ?_)
    | (with_reducible refine DW.ret ?_)
    | (with_reducible refine DW.reg ?_)
    | (simp (disch := omega) only [go_sem, Nat.reduceLT, Nat.reduceLeDiff, Nat.reduceAdd, Nat.reduceMul, Nat.reduceEqDiff, ↓reduceIte, reduceCtorEq, Nat.reduceBEq, Nat.reduceBNe, Nat.reducePow, Int.reduceLE, Int.reduceLT, Int.reduceNeg, Int.reduceToNat, Int.reduceEq, Int.reduceAdd, Int.reduceSub, Int.reduceMul, Int.reduceBEq, Int.reduceBNe, Blk.men, Blk.keysIn, hd, ha])
    | (exact retS_of rfl rfl rfl)
    | (refine DW.cond_tt rfl ?_)
    | (refine DW.cond_ff rfl ?_)
    | (refine DW.cond rfl ?_ ?_ <;> intro hc <;> (try simp only [go_sem] at hc))
    | (refine g_split ?_ ?_ <;> intro hc <;> (try simp only [hc]) <;> (try simp only [go_sem] at hc)))
    refine DW.loop (ι := { k : Nat // k ≤ 4 }) (fun i => ⟨36, [(13, dI z), (12, dI noz.length), (6, dI ((i.1 : Int) + 1)), (5, dI z), (4, .own 32), (1, dIs b1 froms)], [(32, .row 3 (rowC (rows eC (a ++ (List.range i.1).flatMap (causesK froms z)))))]⟩) (fun i => 4 - i.1) ⟨0, Nat.zero_le _⟩ ?_ ?_
    · refine Ent.to ?_ ?_ <;> simp (disch := omega) only [wkT_cons, wkX_cons, wkT_nil, wkX_nil, get, Nat.reduceEqDiff, ↓reduceIte, ex_some, wk_self, wk_top, wk_nil, wkB_self, and_self, dI, i64_in, and_true, true_and, Int.natCast_add, Int.natCast_one, Int.ofNat_zero, Int.natCast_zero, List.range_zero, List.flatMap_nil, List.append_nil]
      all_goals exact .refl _
    rintro ⟨k, hk⟩
    rcases Nat.lt_or_ge k 4 with h | h
    · have hk1 : (List.range (k + 1)).flatMap (causesK froms z) = (List.range k).flatMap (causesK froms z) ++ causesK froms z k := flat_range
      have hle : decide ((k : Int) + 1 ≤ 4) = true := by rw [decide_eq_true_eq]; omega
      have hal' : (a ++ (List.range k).flatMap (causesK froms z)).length ≤ 4004000 := by
        rw [List.length_append, causesKs_length]
        have : k * froms.length ≤ 4 * 1000 := Nat.mul_le_mul (by omega) (by omega)
        omega
      generalize ha' : a ++ (List.range k).flatMap (causesK froms z) = a' at *
      repeat' (first
    | (with_reducible refine DW.seq ?_)
    | (with_reducible refine DW.block ?_)
    | (with_reducible refine DW.skip ?_)
    | (with_reducible refine DW.exit ?_)
    | (with_reducible refine DW.ret ?_)
    | (with_reducible refine DW.reg ?_)
    | (simp (disch := omega) only [go_sem, Nat.reduceLT, Nat.reduceLeDiff, Nat.reduceAdd, Nat.reduceMul, Nat.reduceEqDiff, ↓reduceIte, reduceCtorEq, Nat.reduceBEq, Nat.reduceBNe, Nat.reducePow, Int.reduceLE, Int.reduceLT, Int.reduceNeg, Int.reduceToNat, Int.reduceEq, Int.reduceAdd, Int.reduceSub, Int.reduceMul, Int.reduceBEq, Int.reduceBNe, Blk.men, Blk.keysIn, hle, ha'])
    | (exact retS_of rfl rfl rfl)
    | (refine DW.cond_tt rfl ?_)
    | (refine DW.cond_ff rfl ?_)
    | (refine DW.cond rfl ?_ ?_ <;> intro hc <;> (try simp only [go_sem] at hc))
    | (refine g_split ?_ ?_ <;> intro hc <;> (try simp only [hc]) <;> (try simp only [go_sem] at hc)))
      refine DW.loop (ι := { i : Nat // i ≤ froms.length }) (fun i => ⟨36, [(22, dI i.1), (21, dI froms.length), (20, dIs b1 froms), (13, dI z), (12, dI noz.length), (6, dI ((k : Int) + 1)), (5, dI z), (4, .own 32), (1, dIs b1 froms)], [(32, .row 3 (rowC (rows eC (a' ++ (froms.take i.1).map fun f => ⟨z, (k : Int) + 1, f⟩))))]⟩) (fun i => froms.length - i.1) ⟨0, Nat.zero_le _⟩ ?_ ?_
      · refine Ent.to ?_ ?_ <;> simp (disch := omega) only [wkT_cons, wkX_cons, wkT_nil, wkX_nil, get, Nat.reduceEqDiff, ↓reduceIte, ex_some, wk_self, wk_top, wk_nil, wkB_self, and_self, dI, i64_in, and_true, true_and, Int.natCast_add, Int.natCast_one, Int.ofNat_zero, Int.natCast_zero, List.take_zero, List.map_nil, List.append_nil]
      rintro ⟨i, hi⟩
      rcases at_or froms i hi with ⟨f, hf0, hlt', hd'⟩ | ⟨hend, hd'⟩
      · have hmt := map_take (f := fun f => (⟨z, (k : Int) + 1, f⟩ : Cause)) hf0
        have hbl : (a' ++ (froms.take i).map fun f => (⟨z, (k : Int) + 1, f⟩ : Cause)).length ≤ 5000000 := by
          rw [List.length_append, List.length_map, List.length_take]; omega
        generalize ha3 : (a' ++ (froms.take i).map fun f => (⟨z, (k : Int) + 1, f⟩ : Cause)) = a3 at *
        repeat' (first
    | (with_reducible refine DW.seq ?_)
    | (with_reducible refine DW.block ?_)
    | (with_reducible refine DW.skip ?_)
    | (with_reducible refine DW.exit ?_)
    | (with_reducible refine DW.ret ?_)
    | (with_reducible refine DW.reg ?_)
    | (simp (disch := omega) only [go_sem, Nat.reduceLT, Nat.reduceLeDiff, Nat.reduceAdd, Nat.reduceMul, Nat.reduceEqDiff, ↓reduceIte, reduceCtorEq, Nat.reduceBEq, Nat.reduceBNe, Nat.reducePow, Int.reduceLE, Int.reduceLT, Int.reduceNeg, Int.reduceToNat, Int.reduceEq, Int.reduceAdd, Int.reduceSub, Int.reduceMul, Int.reduceBEq, Int.reduceBNe, Blk.men, Blk.keysIn, hd', hf0, ha3])
    | (exact retS_of rfl rfl rfl)
    | (refine DW.cond_tt rfl ?_)
    | (refine DW.cond_ff rfl ?_)
    | (refine DW.cond rfl ?_ ?_ <;> intro hc <;> (try simp only [go_sem] at hc))
    | (refine g_split ?_ ?_ <;> intro hc <;> (try simp only [hc]) <;> (try simp only [go_sem] at hc)))
        refine ⟨⟨i + 1, hlt'⟩, ?_, Ent.to ?_ ?_⟩ <;> first | (show _ < _; (try simp only); omega) | (simp (disch := omega) only [wkT_cons, wkX_cons, wkT_nil, wkX_nil, get, Nat.reduceEqDiff, ↓reduceIte, ex_some, wk_self, wk_top, wk_nil, wkB_self, and_self, dI, i64_in, and_true, true_and, Int.natCast_add, Int.natCast_one, Int.ofNat_zero, Int.natCast_zero,  hmt, ← List.append_assoc, ha3])
      · subst hend
        repeat' (first
    | (with_reducible refine DW.seq ?_)
    | (with_reducible refine DW.block ?_)
    | (with_reducible refine DW.skip ?_)
    | (with_reducible refine DW.exit ?_)
    | (with_reducible refine DW.ret ?_)
    | (with_reducible refine DW.reg ?_)
    | (simp (disch := omega) only [go_sem, Nat.reduceLT, Nat.reduceLeDiff, Nat.reduceAdd, Nat.reduceMul, Nat.reduceEqDiff, ↓reduceIte, reduceCtorEq, Nat.reduceBEq, Nat.reduceBNe, Nat.reducePow, Int.reduceLE, Int.reduceLT, Int.reduceNeg, Int.reduceToNat, Int.reduceEq, Int.reduceAdd, Int.reduceSub, Int.reduceMul, Int.reduceBEq, Int.reduceBNe, Blk.men, Blk.keysIn, hd'])
    | (exact retS_of rfl rfl rfl)
    | (refine DW.cond_tt rfl ?_)
    | (refine DW.cond_ff rfl ?_)
    | (refine DW.cond rfl ?_ ?_ <;> intro hc <;> (try simp only [go_sem] at hc))
    | (refine g_split ?_ ?_ <;> intro hc <;> (try simp only [hc]) <;> (try simp only [go_sem] at hc)))
        refine ⟨⟨k + 1, h⟩, ?_, Ent.to ?_ ?_⟩ <;> first | (show _ < _; (try simp only); omega) | (simp (disch := omega) only [wkT_cons, wkX_cons, wkT_nil, wkX_nil, get, Nat.reduceEqDiff, ↓reduceIte, ex_some, wk_self, wk_top, wk_nil, wkB_self, and_self, dI, i64_in, and_true, true_and, Int.natCast_add, Int.natCast_one, Int.ofNat_zero, Int.natCast_zero,  List.take_length, hk1, ← List.append_assoc, ha'])
        all_goals exact .refl _
    · obtain rfl : k = 4 := by omega
      repeat' (first
    | (with_reducible refine DW.seq ?_)
    | (with_reducible refine DW.block ?_)
    | (with_reducible refine DW.skip ?_)
    | (with_reducible refine DW.exit ?_)
    | (with_reducible refine DW.ret ?_)
    | (with_reducible refine DW.reg ?_)
    | (simp (disch := omega) only [go_sem, Nat.reduceLT, Nat.reduceLeDiff, Nat.reduceAdd, Nat.reduceMul, Nat.reduceEqDiff, ↓reduceIte, reduceCtorEq, Nat.reduceBEq, Nat.reduceBNe, Nat.reducePow, Int.reduceLE, Int.reduceLT, Int.reduceNeg, Int.reduceToNat, Int.reduceEq, Int.reduceAdd, Int.reduceSub, Int.reduceMul, Int.reduceBEq, Int.reduceBNe, Blk.men, Blk.keysIn])
    | (exact retS_of rfl rfl rfl)
    | (refine DW.cond_tt rfl ?_)
    | (refine DW.cond_ff rfl ?_)
    | (refine DW.cond rfl ?_ ?_ <;> intro hc <;> (try simp only [go_sem] at hc))
    | (refine g_split ?_ ?_ <;> intro hc <;> (try simp only [hc]) <;> (try simp only [go_sem] at hc)))
      refine ⟨⟨z + 1, hlt⟩, ?_, Ent.to ?_ ?_⟩ <;> first | (show _ < _; (try simp only); omega) | (simp (disch := omega) only [wkT_cons, wkX_cons, wkT_nil, wkX_nil, get, Nat.reduceEqDiff, ↓reduceIte, ex_some, wk_self, wk_top, wk_nil, wkB_self, and_self, dI, i64_in, and_true, true_and, Int.natCast_add, Int.natCast_one, Int.ofNat_zero, Int.natCast_zero,  hnext])
      all_goals exact .refl _
  · subst hend
    repeat' (first
    | (with_reducible refine DW.seq ?_)
    | (with_reducible refine DW.block ?_)
    | (with_reducible refine DW.skip ?_)
    | (with_reducible refine DW.exit ?_)
    | (with_reducible refine DW.ret ?_)
    | (with_reducible refine DW.reg ?_)
    | (simp (disch := omega) only [go_sem, Nat.reduceLT, Nat.reduceLeDiff, Nat.reduceAdd, Nat.reduceMul, Nat.reduceEqDiff, ↓reduceIte, reduceCtorEq, Nat.reduceBEq, Nat.reduceBNe, Nat.reducePow, Int.reduceLE, Int.reduceLT, Int.reduceNeg, Int.reduceToNat, Int.reduceEq, Int.reduceAdd, Int.reduceSub, Int.reduceMul, Int.reduceBEq, Int.reduceBNe, Blk.men, Blk.keysIn, hd])
    | (exact retS_of rfl rfl rfl)
    | (refine DW.cond_tt rfl ?_)
    | (refine DW.cond_ff rfl ?_)
    | (refine DW.cond rfl ?_ ?_ <;> intro hc <;> (try simp only [go_sem] at hc))
    | (refine g_split ?_ ?_ <;> intro hc <;> (try simp only [hc]) <;> (try simp only [go_sem] at hc)))
    (refine retS_ent (Ent.rel 32 rfl) ?_; simp (disch := omega) only [go_sem, Nat.reduceLT, Nat.reduceLeDiff, Nat.reduceAdd, Nat.reduceMul, Nat.reduceEqDiff, ↓reduceIte, reduceCtorEq, Nat.reduceBEq, Nat.reduceBNe, Nat.reducePow, Int.reduceLE, Int.reduceLT, Int.reduceNeg, Int.reduceToNat, Int.reduceEq, Int.reduceAdd, Int.reduceSub, Int.reduceMul, Int.reduceBEq, Int.reduceBNe, Blk.men, Blk.keysIn])
    refine retS_wk rfl ?_ (by simp only [Blk.nb, rowC_nb, D.nb, D.nbs, C.nb, C.nbs, C.nbss, rows_nb eI_nb, rows_nb eC_nb, rows_nb eL_nb, rows_nb eR_nb, rows_nb eS_nb, rows_nb eG_nb, Bool.and_true, Bool.not_false, Bool.and_self, bD, dI, iD]); exact .refl _
end Go.Dw.Seat
end
section
set_option linter.unusedSimpArgs false
set_option maxRecDepth 100000
namespace Go.Dw.Seat
open Go Go.Dw Go.Proofs Go.IntWalk
def pairsOf (a : Cause) (l : List Cause) : List (List Cause) := (l.filter fun b => decide (a.noz < b.noz)).map fun b => [a, b]
def pairsTo (all : List Cause) (i : Nat) : List (List Cause) := (List.range i).flatMap fun j => match all[j]? with
  | some a => pairsOf a (all.drop (j + 1))
  | none => []
def statesOf (all : List Cause) : List (List Cause) := [] :: all.map (fun c => [c]) ++ pairsTo all all.length
theorem pairsOf_len (a : Cause) (l : List Cause) : (pairsOf a l).length ≤ l.length := by
  simp only [pairsOf, List.length_map]; exact List.length_filter_le _ _
theorem pairsTo_succ {all : List Cause} {i : Nat} {a : Cause} (h : all[i]? = some a) : pairsTo all (i + 1) = pairsTo all i ++ pairsOf a (all.drop (i + 1)) := by
  simp only [pairsTo, List.range_succ, List.flatMap_append, List.flatMap_cons, List.flatMap_nil, h, List.append_nil]
theorem pairsTo_len (all : List Cause) : ∀ i, (pairsTo all i).length ≤ i * all.length
  | 0 => by simp [pairsTo]
  | i + 1 => by
    have ih := pairsTo_len all i
    cases h : all[i]? with
    | some a =>
      rw [pairsTo_succ h, List.length_append, Nat.add_mul]
      have h1 := pairsOf_len a (all.drop (i + 1))
      simp only [List.length_drop] at h1
      omega
    | none =>
      have : pairsTo all (i + 1) = pairsTo all i := by simp only [pairsTo, List.range_succ, List.flatMap_append, List.flatMap_cons, List.flatMap_nil, h, List.append_nil]
      rw [this, Nat.add_mul]; omega
theorem pairsOf_take {a c : Cause} {l : List Cause} {j : Nat} (h : l[j]? = some c) : pairsOf a (l.take (j + 1)) = pairsOf a (l.take j) ++ if a.noz < c.noz then [[a, c]] else [] := by
  rw [List.take_add_one, h]
  simp only [pairsOf, List.filter_append, List.map_append, Option.toList_some]
  congr 1
  by_cases h1 : a.noz < c.noz <;> simp [h1]
theorem rowC_snocS1 (l : List (List Cause)) (c : Cause) : rowC (rows (eSb false) l) ++ [[D.c (.sl false 3 [[.v (.int .i64 c.noz), .v (.int .i64 c.kind), .v (.int .i64 c.frm)]])]] = rowC (rows (eSb false) (l ++ [[c]])) := by simp [rowC, rows, eSb, eC]
theorem rowC_snocS2 (l : List (List Cause)) (c d : Cause) : rowC (rows (eSb false) l) ++ [[D.c (.sl false 3 [[.v (.int .i64 c.noz), .v (.int .i64 c.kind), .v (.int .i64 c.frm)], [.v (.int .i64 d.noz), .v (.int .i64 d.kind), .v (.int .i64 d.frm)]])]] = rowC (rows (eSb false) (l ++ [[c, d]])) := by simp [rowC, rows, eSb, eC]
theorem c96 (b b1 : Bool) (st : Int) (noz froms : List Int) (hl : noz.length ≤ 1000) (hf : froms.length ≤ 1000) (hall : (causesN noz.length froms).length ≤ 200000) :
    DCall Try.prog 143 [dP b ⟨st, noz⟩, dIs b1 froms] [] (.own 16) [(16, .row 1 (rowC (rows eS (statesOf (causesN noz.length froms)))))] := by
  refine DCall.of Try.func143 sf143 hb143 (Nat.le_of_ble_eq_true rfl) okRes_row ?_; simp only [s143, idxs, Nat.reduceAdd]
  repeat' (first
    | (with_reducible refine DW.seq ?_)
    | (with_reducible refine DW.block ?_)
    | (with_reducible refine DW.skip ?_)
    | (with_reducible refine DW.exit ?_)
    | (with_reducible refine DW.ret ?_)
    | (with_reducible refine DW.reg ?_)
    | (simp (disch := omega) only [go_sem, Nat.reduceLT, Nat.reduceLeDiff, Nat.reduceAdd, Nat.reduceMul, Nat.reduceEqDiff, ↓reduceIte, reduceCtorEq, Nat.reduceBEq, Nat.reduceBNe, Nat.reducePow, Int.reduceLE, Int.reduceLT, Int.reduceNeg, Int.reduceToNat, Int.reduceEq, Int.reduceAdd, Int.reduceSub, Int.reduceMul, Int.reduceBEq, Int.reduceBNe, Blk.men, Blk.keysIn])
    | (exact retS_of rfl rfl rfl)
    | (refine DW.cond_tt rfl ?_)
    | (refine call_c (c118 b b1 st noz froms hl hf) (by decide) ?_)
    | (refine DW.cond_ff rfl ?_)
    | (refine DW.cond rfl ?_ ?_ <;> intro hc <;> (try simp only [go_sem] at hc))
    | (refine g_split ?_ ?_ <;> intro hc <;> (try simp only [hc]) <;> (try simp only [go_sem] at hc)))
  generalize causesN noz.length froms = all at *
  refine DW.loop (ι := { i : Nat // i ≤ all.length }) (fun i => ⟨59, [(19, dI i.1), (18, dI all.length), (17, dCs false all), (6, .own 16), (5, dCs false all)], [(16, .row 1 (rowC (rows (eSb false) ([] :: (all.take i.1).map fun c => [c]))))]⟩) (fun i => all.length - i.1) ⟨0, Nat.zero_le _⟩ ?_ ?_
  · refine Ent.to ?_ ?_ <;> simp (disch := omega) only [wkT_cons, wkX_cons, wkT_nil, wkX_nil, get, Nat.reduceEqDiff, ↓reduceIte, ex_some, wk_self, wk_top, wk_nil, wkB_self, and_self, dI, i64_in, and_true, true_and, Int.natCast_add, Int.natCast_one, Int.ofNat_zero, Int.natCast_zero]
    exact .row (.cons (.cons (.nil false 3) .nil) .nil)
  · rintro ⟨i, hi⟩
    rcases at_or all i hi with ⟨c, hc0, hlt, hd⟩ | ⟨hend, hd⟩
    · have hmt := map_take (f := fun c => ([c] : List Cause)) hc0
      have hal : ((all.take i).map fun c => ([c] : List Cause)).length ≤ 200000 := by rw [List.length_map, List.length_take]; omega
      generalize ha : ((all.take i).map fun c => ([c] : List Cause)) = a at *
      repeat' (first
    | (with_reducible refine DW.seq ?_)
    | (with_reducible refine DW.block ?_)
    | (with_reducible refine DW.skip ?_)
    | (with_reducible refine DW.exit ?_)
    | (with_reducible refine DW.ret ?_)
    | (with_reducible refine DW.reg ?_)
    | (simp (disch := omega) only [go_sem, Nat.reduceLT, Nat.reduceLeDiff, Nat.reduceAdd, Nat.reduceMul, Nat.reduceEqDiff, ↓reduceIte, reduceCtorEq, Nat.reduceBEq, Nat.reduceBNe, Nat.reducePow, Int.reduceLE, Int.reduceLT, Int.reduceNeg, Int.reduceToNat, Int.reduceEq, Int.reduceAdd, Int.reduceSub, Int.reduceMul, Int.reduceBEq, Int.reduceBNe, Blk.men, Blk.keysIn, hd, hc0, ha])
    | (exact retS_of rfl rfl rfl)
    | (refine DW.cond_tt rfl ?_)
    | (refine DW.cond_ff rfl ?_)
    | (refine DW.cond rfl ?_ ?_ <;> intro hc <;> (try simp only [go_sem] at hc))
    | (refine g_split ?_ ?_ <;> intro hc <;> (try simp only [hc]) <;> (try simp only [go_sem] at hc)))
      refine ⟨⟨i + 1, hlt⟩, by (show _ < _; (try simp only); omega), (Ent.rel 25 rfl).trans ?_⟩; simp (disch := omega) only [go_sem, Nat.reduceLT, Nat.reduceLeDiff, Nat.reduceAdd, Nat.reduceMul, Nat.reduceEqDiff, ↓reduceIte, reduceCtorEq, Nat.reduceBEq, Nat.reduceBNe, Nat.reducePow, Int.reduceLE, Int.reduceLT, Int.reduceNeg, Int.reduceToNat, Int.reduceEq, Int.reduceAdd, Int.reduceSub, Int.reduceMul, Int.reduceBEq, Int.reduceBNe, Blk.men, Blk.keysIn,  hmt, rowC_snocS1]; refine Ent.to ?_ ?_ <;> (simp (disch := omega) only [wkT_cons, wkX_cons, wkT_nil, wkX_nil, get, Nat.reduceEqDiff, ↓reduceIte, ex_some, wk_self, wk_top, wk_nil, wkB_self, and_self, dI, i64_in, and_true, true_and, Int.natCast_add, Int.natCast_one, Int.ofNat_zero, Int.natCast_zero,  hmt, rowC_snocS1])
    · subst hend
      rw [List.take_length]
      repeat' (first
    | (with_reducible refine DW.seq ?_)
    | (with_reducible refine DW.block ?_)
    | (with_reducible refine DW.skip ?_)
    | (with_reducible refine DW.exit ?_)
    | (with_reducible refine DW.ret ?_)
    | (with_reducible refine DW.reg ?_)
    | (simp (disch := omega) only [go_sem, Nat.reduceLT, Nat.reduceLeDiff, Nat.reduceAdd, Nat.reduceMul, Nat.reduceEqDiff, ↓reduceIte, reduceCtorEq, Nat.reduceBEq, Nat.reduceBNe, Nat.reducePow, Int.reduceLE, Int.reduceLT, Int.reduceNeg, Int.reduceToNat, Int.reduceEq, Int.reduceAdd, Int.reduceSub, Int.reduceMul, Int.reduceBEq, Int.reduceBNe, Blk.men, Blk.keysIn, hd])
    | (exact retS_of rfl rfl rfl)
    | (refine DW.cond_tt rfl ?_)
    | (refine DW.cond_ff rfl ?_)
    | (refine DW.cond rfl ?_ ?_ <;> intro hc <;> (try simp only [go_sem] at hc))
    | (refine g_split ?_ ?_ <;> intro hc <;> (try simp only [hc]) <;> (try simp only [go_sem] at hc)))
      generalize ha : ([] :: all.map fun c => ([c] : List Cause)) = a at *
      have hal : a.length ≤ 200001 := by rw [← ha, List.length_cons, List.length_map]; omega
      refine DW.loop (ι := { i : Nat // i ≤ all.length }) (fun i => ⟨59, [(31, dI i.1), (30, dI all.length), (29, dCs false all), (6, .own 16), (5, dCs false all)], [(16, .row 1 (rowC (rows (eSb false) (a ++ pairsTo all i.1))))]⟩) (fun i => all.length - i.1) ⟨0, Nat.zero_le _⟩ ?_ ?_
      · have h0 : pairsTo all 0 = [] := rfl
        refine Ent.to ?_ ?_ <;> simp (disch := omega) only [wkT_cons, wkX_cons, wkT_nil, wkX_nil, get, Nat.reduceEqDiff, ↓reduceIte, ex_some, wk_self, wk_top, wk_nil, wkB_self, and_self, dI, i64_in, and_true, true_and, Int.natCast_add, Int.natCast_one, Int.ofNat_zero, Int.natCast_zero, h0, List.append_nil]
      rintro ⟨i, hi⟩
      rcases at_or all i hi with ⟨c, hc0, hlt, hd'⟩ | ⟨hend, hd'⟩
      · have hnx := pairsTo_succ hc0
        have hpl := pairsTo_len all i
        have hpm : i * all.length ≤ 200000 * 200000 := Nat.mul_le_mul (by omega) hall
        have hl1 : (a ++ pairsTo all i).length ≤ 40000200001 := by rw [List.length_append]; omega
        generalize ha1 : a ++ pairsTo all i = a1 at *
        repeat' (first
    | (with_reducible refine DW.seq ?_)
    | (with_reducible refine DW.block ?_)
    | (with_reducible refine DW.skip ?_)
    | (with_reducible refine DW.exit ?_)
    | (with_reducible refine DW.ret ?_)
    | (with_reducible refine DW.reg ?_)
    | (simp (disch := omega) only [go_sem, Nat.reduceLT, Nat.reduceLeDiff, Nat.reduceAdd, Nat.reduceMul, Nat.reduceEqDiff, ↓reduceIte, reduceCtorEq, Nat.reduceBEq, Nat.reduceBNe, Nat.reducePow, Int.reduceLE, Int.reduceLT, Int.reduceNeg, Int.reduceToNat, Int.reduceEq, Int.reduceAdd, Int.reduceSub, Int.reduceMul, Int.reduceBEq, Int.reduceBNe, Blk.men, Blk.keysIn, hd', hc0, ha1])
    | (exact retS_of rfl rfl rfl)
    | (refine DW.cond_tt rfl ?_)
    | (refine DW.cond_ff rfl ?_)
    | (refine DW.cond rfl ?_ ?_ <;> intro hc <;> (try simp only [go_sem] at hc))
    | (refine g_split ?_ ?_ <;> intro hc <;> (try simp only [hc]) <;> (try simp only [go_sem] at hc)))
        generalize hrest : all.drop (i + 1) = rest at *
        have hrl : rest.length ≤ 200000 := by rw [← hrest, List.length_drop]; omega
        refine DW.loop (ι := { j : Nat // j ≤ rest.length }) (fun j => ⟨59, [(41, dI j.1), (40, dI rest.length), (39, dCs false rest), (31, dI i), (30, dI all.length), (29, dCs false all), (10, .box 10 0), (6, .own 16), (5, dCs false all)],
          [(16, .row 1 (rowC (rows (eSb false) (a1 ++ pairsOf c (rest.take j.1))))), (10, .box [dI c.noz, dI c.kind, dI c.frm])]⟩) (fun j => rest.length - j.1) ⟨0, Nat.zero_le _⟩ ?_ ?_
        · have h0 : pairsOf c (rest.take 0) = [] := rfl
          refine Ent.to ?_ ?_ <;> simp (disch := omega) only [wkT_cons, wkX_cons, wkT_nil, wkX_nil, get, Nat.reduceEqDiff, ↓reduceIte, ex_some, wk_self, wk_top, wk_nil, wkB_self, and_self, dI, i64_in, and_true, true_and, Int.natCast_add, Int.natCast_one, Int.ofNat_zero, Int.natCast_zero, h0, List.append_nil]
        rintro ⟨j, hj⟩
        rcases at_or rest j hj with ⟨d, hd0, hlt', hd2⟩ | ⟨hend, hd2⟩
        · have hpt := pairsOf_take (a := c) hd0
          have hpo := pairsOf_len c (rest.take j)
          rw [List.length_take] at hpo
          have hl2 : (a1 ++ pairsOf c (rest.take j)).length ≤ 40000400001 := by rw [List.length_append]; omega
          generalize ha2 : a1 ++ pairsOf c (rest.take j) = a2 at *
          repeat' (first
    | (with_reducible refine DW.seq ?_)
    | (with_reducible refine DW.block ?_)
    | (with_reducible refine DW.skip ?_)
    | (with_reducible refine DW.exit ?_)
    | (with_reducible refine DW.ret ?_)
    | (with_reducible refine DW.reg ?_)
    | (simp (disch := omega) only [go_sem, Nat.reduceLT, Nat.reduceLeDiff, Nat.reduceAdd, Nat.reduceMul, Nat.reduceEqDiff, ↓reduceIte, reduceCtorEq, Nat.reduceBEq, Nat.reduceBNe, Nat.reducePow, Int.reduceLE, Int.reduceLT, Int.reduceNeg, Int.reduceToNat, Int.reduceEq, Int.reduceAdd, Int.reduceSub, Int.reduceMul, Int.reduceBEq, Int.reduceBNe, Blk.men, Blk.keysIn, hd2, hd0, ha2])
    | (exact retS_of rfl rfl rfl)
    | (refine DW.cond_tt rfl ?_)
    | (refine DW.cond_ff rfl ?_)
    | (refine DW.cond rfl ?_ ?_ <;> intro hc <;> (try simp only [go_sem] at hc))
    | (refine g_split ?_ ?_ <;> intro hc <;> (try simp only [hc]) <;> (try simp only [go_sem] at hc)))
          · rw [if_pos hc] at hpt
            refine ⟨⟨j + 1, hlt'⟩, by (show _ < _; (try simp only); omega), (Ent.rel 53 rfl).trans ?_⟩; simp (disch := omega) only [go_sem, Nat.reduceLT, Nat.reduceLeDiff, Nat.reduceAdd, Nat.reduceMul, Nat.reduceEqDiff, ↓reduceIte, reduceCtorEq, Nat.reduceBEq, Nat.reduceBNe, Nat.reducePow, Int.reduceLE, Int.reduceLT, Int.reduceNeg, Int.reduceToNat, Int.reduceEq, Int.reduceAdd, Int.reduceSub, Int.reduceMul, Int.reduceBEq, Int.reduceBNe, Blk.men, Blk.keysIn,  hpt, rowC_snocS2, ← List.append_assoc, ha2]; refine Ent.to ?_ ?_ <;> (simp (disch := omega) only [wkT_cons, wkX_cons, wkT_nil, wkX_nil, get, Nat.reduceEqDiff, ↓reduceIte, ex_some, wk_self, wk_top, wk_nil, wkB_self, and_self, dI, i64_in, and_true, true_and, Int.natCast_add, Int.natCast_one, Int.ofNat_zero, Int.natCast_zero,  hpt, rowC_snocS2, ← List.append_assoc, ha2])
          · rw [if_neg (by omega)] at hpt
            refine ⟨⟨j + 1, hlt'⟩, ?_, Ent.to ?_ ?_⟩ <;> first | (show _ < _; (try simp only); omega) | (simp (disch := omega) only [wkT_cons, wkX_cons, wkT_nil, wkX_nil, get, Nat.reduceEqDiff, ↓reduceIte, ex_some, wk_self, wk_top, wk_nil, wkB_self, and_self, dI, i64_in, and_true, true_and, Int.natCast_add, Int.natCast_one, Int.ofNat_zero, Int.natCast_zero,  hpt, List.append_nil, ha2])
        · subst hend
          rw [List.take_length]
          repeat' (first
    | (with_reducible refine DW.seq ?_)
    | (with_reducible refine DW.block ?_)
    | (with_reducible refine DW.skip ?_)
    | (with_reducible refine DW.exit ?_)
    | (with_reducible refine DW.ret ?_)
    | (with_reducible refine DW.reg ?_)
    | (simp (disch := omega) only [go_sem, Nat.reduceLT, Nat.reduceLeDiff, Nat.reduceAdd, Nat.reduceMul, Nat.reduceEqDiff, ↓reduceIte, reduceCtorEq, Nat.reduceBEq, Nat.reduceBNe, Nat.reducePow, Int.reduceLE, Int.reduceLT, Int.reduceNeg, Int.reduceToNat, Int.reduceEq, Int.reduceAdd, Int.reduceSub, Int.reduceMul, Int.reduceBEq, Int.reduceBNe, Blk.men, Blk.keysIn, hd2])
    | (exact retS_of rfl rfl rfl)
    | (refine DW.cond_tt rfl ?_)
    | (refine DW.cond_ff rfl ?_)
    | (refine DW.cond rfl ?_ ?_ <;> intro hc <;> (try simp only [go_sem] at hc))
    | (refine g_split ?_ ?_ <;> intro hc <;> (try simp only [hc]) <;> (try simp only [go_sem] at hc)))
          refine ⟨⟨i + 1, hlt⟩, ?_, Ent.to ?_ ?_⟩ <;> first | (show _ < _; (try simp only); omega) | (simp (disch := omega) only [wkT_cons, wkX_cons, wkT_nil, wkX_nil, get, Nat.reduceEqDiff, ↓reduceIte, ex_some, wk_self, wk_top, wk_nil, wkB_self, and_self, dI, i64_in, and_true, true_and, Int.natCast_add, Int.natCast_one, Int.ofNat_zero, Int.natCast_zero,  hnx, ← List.append_assoc, ha1])
      · subst hend
        repeat' (first
    | (with_reducible refine DW.seq ?_)
    | (with_reducible refine DW.block ?_)
    | (with_reducible refine DW.skip ?_)
    | (with_reducible refine DW.exit ?_)
    | (with_reducible refine DW.ret ?_)
    | (with_reducible refine DW.reg ?_)
    | (simp (disch := omega) only [go_sem, Nat.reduceLT, Nat.reduceLeDiff, Nat.reduceAdd, Nat.reduceMul, Nat.reduceEqDiff, ↓reduceIte, reduceCtorEq, Nat.reduceBEq, Nat.reduceBNe, Nat.reducePow, Int.reduceLE, Int.reduceLT, Int.reduceNeg, Int.reduceToNat, Int.reduceEq, Int.reduceAdd, Int.reduceSub, Int.reduceMul, Int.reduceBEq, Int.reduceBNe, Blk.men, Blk.keysIn, hd'])
    | (exact retS_of rfl rfl rfl)
    | (refine DW.cond_tt rfl ?_)
    | (refine DW.cond_ff rfl ?_)
    | (refine DW.cond rfl ?_ ?_ <;> intro hc <;> (try simp only [go_sem] at hc))
    | (refine g_split ?_ ?_ <;> intro hc <;> (try simp only [hc]) <;> (try simp only [go_sem] at hc)))
        have hst : statesOf all = a ++ pairsTo all all.length := by rw [← ha]; rfl
        rw [hst]
        exact retS_row rfl rfl (rowC_nb (rows_nb eS_nb _))
end Go.Dw.Seat
end
section
set_option linter.unusedSimpArgs false
set_option maxRecDepth 100000
namespace Go.Dw.Seat
open Go Go.Dw Go.Proofs Go.IntWalk
section
variable {α : Type} {p : α → Bool}
theorem idxOf_spec : ∀ {l : List α} {i : Nat}, idxOf p l = some i → ∃ v, l[i]? = some v ∧ p v = true ∧ (l.take i).filter (fun x => !p x) = l.take i
  | [], _, h => by cases h
  | a :: l, i, h => by
    simp only [idxOf] at h
    split at h
    · rename_i ha; cases h; exact ⟨a, rfl, ha, rfl⟩
    · rename_i ha
      obtain ⟨j, hj, rfl⟩ := Option.map_eq_some_iff.1 h
      obtain ⟨v, h1, h2, h3⟩ := idxOf_spec hj
      refine ⟨v, by simpa using h1, h2, ?_⟩
      rw [List.take_succ_cons, List.filter_cons_of_pos (by simpa using ha), h3]
theorem idxOf_nil : ∀ {l : List α}, idxOf p l = none → l.filter (fun x => !p x) = l
  | [], _ => rfl
  | a :: l, h => by
    simp only [idxOf] at h
    split at h
    · cases h
    · rename_i ha
      have h1 : idxOf p l = none := by simpa using h
      rw [List.filter_cons_of_pos (by simpa using ha), idxOf_nil h1]
structure Del (p : α → Bool) (l : List α) (j : Nat) (cur : List α) : Prop where
  le : j ≤ l.length
  len : cur.length = l.length
  lt : ((l.take j).filter (fun x => !p x)).length < j
  tk : cur.take ((l.take j).filter (fun x => !p x)).length = (l.take j).filter (fun x => !p x)
  dr : cur.drop j = l.drop j
theorem Del.get {l : List α} {j : Nat} {cur : List α} (h : Del p l j cur) : cur[j]? = l[j]? := by
  have h1 : (cur.drop j)[0]? = (l.drop j)[0]? := by rw [h.dr]
  simpa using h1
theorem Del.start {l : List α} {i : Nat} (h : idxOf p l = some i) : Del p l (i + 1) l ∧ ((l.take (i + 1)).filter (fun x => !p x)).length = i := by
  obtain ⟨v, h1, h2, h3⟩ := idxOf_spec h
  have hlt : i < l.length := by
    rcases Nat.lt_or_ge i l.length with h | h
    · exact h
    · rw [List.getElem?_eq_none h] at h1; cases h1
  have e : (l.take (i + 1)).filter (fun x => !p x) = l.take i := by
    rw [List.take_add_one, h1, List.filter_append, h3]; simp [h2]
  have e2 : ((l.take (i + 1)).filter (fun x => !p x)).length = i := by rw [e, List.length_take]; omega
  exact ⟨⟨hlt, rfl, by omega, by rw [e2, e], rfl⟩, e2⟩
theorem Del.skip {l : List α} {j : Nat} {cur : List α} {v : α} (h : Del p l j cur) (hv : l[j]? = some v) (hp : p v = true) : Del p l (j + 1) cur ∧ ((l.take (j + 1)).filter (fun x => !p x)).length = ((l.take j).filter (fun x => !p x)).length := by
  have e : (l.take (j + 1)).filter (fun x => !p x) = (l.take j).filter (fun x => !p x) := by rw [List.take_add_one, hv, List.filter_append]; simp [hp]
  have hlt : j < l.length := by
    rcases Nat.lt_or_ge j l.length with h | h
    · exact h
    · rw [List.getElem?_eq_none h] at hv; cases hv
  refine ⟨⟨hlt, h.len, by have := h.lt; rw [e]; omega, by rw [e]; exact h.tk, ?_⟩, by rw [e]⟩
  have := congrArg (List.drop 1) h.dr
  simpa [List.drop_drop] using this
theorem Del.keep {l : List α} {j : Nat} {cur : List α} {v : α} (h : Del p l j cur) (hv : l[j]? = some v) (hp : p v = false) : Del p l (j + 1) (cur.set ((l.take j).filter (fun x => !p x)).length v) ∧ ((l.take (j + 1)).filter (fun x => !p x)).length = ((l.take j).filter (fun x => !p x)).length + 1 := by
  have e : (l.take (j + 1)).filter (fun x => !p x) = (l.take j).filter (fun x => !p x) ++ [v] := by rw [List.take_add_one, hv, List.filter_append]; simp [hp]
  have hlt : j < l.length := by
    rcases Nat.lt_or_ge j l.length with h | h
    · exact h
    · rw [List.getElem?_eq_none h] at hv; cases hv
  have h1 := h.lt
  have h2 := h.len
  have h3 := h.tk
  generalize (l.take j).filter (fun x => !p x) = f at *
  refine ⟨⟨hlt, by simp [h2], by rw [e]; simp; omega, ?_, ?_⟩, by rw [e]; simp⟩
  · rw [e]
    simp only [List.length_append, List.length_cons, List.length_nil]
    rw [List.take_add_one, List.take_set_of_le (Nat.le_refl _), h3, List.getElem?_set_self (by omega)]
    rfl
  · rw [List.drop_set_of_lt (by omega)]
    have := congrArg (List.drop 1) h.dr
    simpa [List.drop_drop] using this
theorem Del.fin {l : List α} {cur : List α} (h : Del p l l.length cur) : cur.take (l.filter (fun x => !p x)).length = l.filter (fun x => !p x) ∧ (l.filter (fun x => !p x)).length ≤ cur.length := by
  have h1 := h.tk
  have h2 := h.lt
  rw [List.take_length] at h1 h2
  exact ⟨h1, by rw [h.len]; omega⟩
end
theorem rows_setS (l : List (List Cause)) (i : Nat) (x : List Cause) : (rowC (rows (eSb false) l)).set i [D.c (.sl false 3 (rows eC x))] = rowC (rows (eSb false) (l.set i x)) := by simp [rowC, rows, List.map_set, eSb]
theorem c95 (l : List (List Cause)) (hl : l.length ≤ 2 ^ 36) (g : FuncId) (fs caps : List C) (p : List Cause → Bool) (hp : ∀ x ∈ l, DCall Try.prog g (fs.map D.c ++ [.c (.sl false 3 (rows eC x))] ++ caps.map D.c) [] (bD (p x)) []) :
    DCall Try.prog 142 [.own 0, .c (.fn (.func g) fs caps)] [(0, .row 1 (rowC (rows eS l)))] (.own 0) [(0, .row 1 (rowC (rows eS (l.filter fun x => !p x))))] := by
  cases hix : idxOf p l with
  | none =>
    have hI : idxI p l = -1 := by simp only [idxI, hix]
    refine DCall.of Try.func142 sf142 hb142 (Nat.le_of_ble_eq_true rfl) okRes_row ?_; simp only [s142, idxs, Nat.reduceAdd]
    repeat' (first
    | (with_reducible refine DW.seq ?_)
    | (with_reducible refine DW.block ?_)
    | (with_reducible refine DW.skip ?_)
    | (with_reducible refine DW.exit ?_)
    | (with_reducible refine DW.ret ?_)
    | (with_reducible refine DW.reg ?_)
    | (simp (disch := omega) only [go_sem, Nat.reduceLT, Nat.reduceLeDiff, Nat.reduceAdd, Nat.reduceMul, Nat.reduceEqDiff, ↓reduceIte, reduceCtorEq, Nat.reduceBEq, Nat.reduceBNe, Nat.reducePow, Int.reduceLE, Int.reduceLT, Int.reduceNeg, Int.reduceToNat, Int.reduceEq, Int.reduceAdd, Int.reduceSub, Int.reduceMul, Int.reduceBEq, Int.reduceBNe, Blk.men, Blk.keysIn, hI])
    | (exact retS_of rfl rfl rfl)
    | (refine DW.cond_tt rfl ?_)
    | (refine call_c (c101 true l hl g fs caps p hp) (by decide) ?_)
    | (refine DW.cond_ff rfl ?_)
    | (refine DW.cond rfl ?_ ?_ <;> intro hc <;> (try simp only [go_sem] at hc))
    | (refine g_split ?_ ?_ <;> intro hc <;> (try simp only [hc]) <;> (try simp only [go_sem] at hc)))
    rw [idxOf_nil hix]
    exact retS_row rfl rfl (rowC_nb (rows_nb eS_nb l))
  | some i0 =>
    have hI : idxI p l = i0 := by simp only [idxI, hix]
    obtain ⟨hdel, hlen0⟩ := Del.start hix
    have hi0 := hdel.le
    have hne : ((i0 : Int) == -1) = false := by rw [beq_eq_false_iff_ne]; omega
    refine DCall.of Try.func142 sf142 hb142 (Nat.le_of_ble_eq_true rfl) okRes_row ?_; simp only [s142, idxs, Nat.reduceAdd]
    repeat' (first
    | (with_reducible refine DW.seq ?_)
    | (with_reducible refine DW.block ?_)
    | (with_reducible refine DW.skip ?_)
    | (with_reducible refine DW.exit ?_)
    | (with_reducible refine DW.ret ?_)
    | (with_reducible refine DW.reg ?_)
    | (simp (disch := omega) only [go_sem, Nat.reduceLT, Nat.reduceLeDiff, Nat.reduceAdd, Nat.reduceMul, Nat.reduceEqDiff, ↓reduceIte, reduceCtorEq, Nat.reduceBEq, Nat.reduceBNe, Nat.reducePow, Int.reduceLE, Int.reduceLT, Int.reduceNeg, Int.reduceToNat, Int.reduceEq, Int.reduceAdd, Int.reduceSub, Int.reduceMul, Int.reduceBEq, Int.reduceBNe, Blk.men, Blk.keysIn, hI, hne])
    | (exact retS_of rfl rfl rfl)
    | (refine DW.cond_tt rfl ?_)
    | (refine call_c (c101 true l hl g fs caps p hp) (by decide) ?_)
    | (refine DW.cond_ff rfl ?_)
    | (refine DW.cond rfl ?_ ?_ <;> intro hc <;> (try simp only [go_sem] at hc))
    | (refine g_split ?_ ?_ <;> intro hc <;> (try simp only [hc]) <;> (try simp only [go_sem] at hc)))
    refine DW.loop (ι := { s : Nat × List (List Cause) // Del p l s.1 s.2 }) (fun s => ⟨42, [(6, dI s.1.1), (5, dI ((l.take s.1.1).filter fun x => !p x).length), (0, .own 0), (1, .c (.fn (.func g) fs caps))], [(0, .row 1 (rowC (rows (eSb false) s.1.2)))]⟩) (fun s => l.length - s.1.1) ⟨(i0 + 1, l), hdel⟩ ?_ ?_
    · refine Ent.to ?_ ?_ <;> simp (disch := omega) only [wkT_cons, wkX_cons, wkT_nil, wkX_nil, get, Nat.reduceEqDiff, ↓reduceIte, ex_some, wk_self, wk_top, wk_nil, wkB_self, and_self, dI, i64_in, and_true, true_and, Int.natCast_add, Int.natCast_one, Int.ofNat_zero, Int.natCast_zero, hlen0]
    rintro ⟨⟨j, cur⟩, hD⟩
    have hclen : cur.length = l.length := hD.len
    have hklt : ((l.take j).filter fun x => !p x).length < j := hD.lt
    rcases at_or l j hD.le with ⟨v, hv, hlt, hd⟩ | ⟨hend, hd⟩
    · have hcv : cur[j]? = some v := hD.get.trans hv
      have hcall := hp v (List.mem_of_getElem? hv)
      have hskip := fun h => hD.skip hv h
      have hkeep := fun h => hD.keep hv h
      generalize hk : ((l.take j).filter fun x => !p x).length = k at *
      have hkj : k < l.length := by omega
      obtain ⟨u, hu⟩ : ∃ u, cur[k]? = some u := getE (by omega)
      repeat' (first
    | (with_reducible refine DW.seq ?_)
    | (with_reducible refine DW.block ?_)
    | (with_reducible refine DW.skip ?_)
    | (with_reducible refine DW.exit ?_)
    | (with_reducible refine DW.ret ?_)
    | (with_reducible refine DW.reg ?_)
    | (simp (disch := omega) only [go_sem, Nat.reduceLT, Nat.reduceLeDiff, Nat.reduceAdd, Nat.reduceMul, Nat.reduceEqDiff, ↓reduceIte, reduceCtorEq, Nat.reduceBEq, Nat.reduceBNe, Nat.reducePow, Int.reduceLE, Int.reduceLT, Int.reduceNeg, Int.reduceToNat, Int.reduceEq, Int.reduceAdd, Int.reduceSub, Int.reduceMul, Int.reduceBEq, Int.reduceBNe, Blk.men, Blk.keysIn, hclen, hd, hcv, hlt, hkj, hu, closeDs_fn, List.map_cons, List.map_nil])
    | (exact retS_of rfl rfl rfl)
    | (refine DW.cond_tt rfl ?_)
    | (refine DW.cond_ff rfl ?_)
    | (refine DW.cond rfl ?_ ?_ <;> intro hc <;> (try simp only [go_sem] at hc))
    | (refine g_split ?_ ?_ <;> intro hc <;> (try simp only [hc]) <;> (try simp only [go_sem] at hc)))
      refine call_c hcall (by decide) ?_
      simp (disch := omega) only [go_sem, Nat.reduceLT, Nat.reduceLeDiff, Nat.reduceAdd, Nat.reduceMul, Nat.reduceEqDiff, ↓reduceIte, reduceCtorEq, Nat.reduceBEq, Nat.reduceBNe, Nat.reducePow, Int.reduceLE, Int.reduceLT, Int.reduceNeg, Int.reduceToNat, Int.reduceEq, Int.reduceAdd, Int.reduceSub, Int.reduceMul, Int.reduceBEq, Int.reduceBNe, Blk.men, Blk.keysIn]
      refine DW.cond rfl ?_ ?_ <;> intro hc
      · have hpv : p v = false := by simpa using hc
        repeat' (first
    | (with_reducible refine DW.seq ?_)
    | (with_reducible refine DW.block ?_)
    | (with_reducible refine DW.skip ?_)
    | (with_reducible refine DW.exit ?_)
    | (with_reducible refine DW.ret ?_)
    | (with_reducible refine DW.reg ?_)
    | (simp (disch := omega) only [go_sem, Nat.reduceLT, Nat.reduceLeDiff, Nat.reduceAdd, Nat.reduceMul, Nat.reduceEqDiff, ↓reduceIte, reduceCtorEq, Nat.reduceBEq, Nat.reduceBNe, Nat.reducePow, Int.reduceLE, Int.reduceLT, Int.reduceNeg, Int.reduceToNat, Int.reduceEq, Int.reduceAdd, Int.reduceSub, Int.reduceMul, Int.reduceBEq, Int.reduceBNe, Blk.men, Blk.keysIn, hclen, hlt, hkj, hu, hcv, rows_setS])
    | (exact retS_of rfl rfl rfl)
    | (refine DW.cond_tt rfl ?_)
    | (refine DW.cond_ff rfl ?_)
    | (refine DW.cond rfl ?_ ?_ <;> intro hc <;> (try simp only [go_sem] at hc))
    | (refine g_split ?_ ?_ <;> intro hc <;> (try simp only [hc]) <;> (try simp only [go_sem] at hc)))
        refine ⟨⟨(j + 1, cur.set k v), (hkeep hpv).1⟩, ?_, Ent.to ?_ ?_⟩ <;> first | (show _ < _; (try simp only); omega) | (simp (disch := omega) only [wkT_cons, wkX_cons, wkT_nil, wkX_nil, get, Nat.reduceEqDiff, ↓reduceIte, ex_some, wk_self, wk_top, wk_nil, wkB_self, and_self, dI, i64_in, and_true, true_and, Int.natCast_add, Int.natCast_one, Int.ofNat_zero, Int.natCast_zero,  (hkeep hpv).2])
      · have hpv : p v = true := by simpa using hc
        repeat' (first
    | (with_reducible refine DW.seq ?_)
    | (with_reducible refine DW.block ?_)
    | (with_reducible refine DW.skip ?_)
    | (with_reducible refine DW.exit ?_)
    | (with_reducible refine DW.ret ?_)
    | (with_reducible refine DW.reg ?_)
    | (simp (disch := omega) only [go_sem, Nat.reduceLT, Nat.reduceLeDiff, Nat.reduceAdd, Nat.reduceMul, Nat.reduceEqDiff, ↓reduceIte, reduceCtorEq, Nat.reduceBEq, Nat.reduceBNe, Nat.reducePow, Int.reduceLE, Int.reduceLT, Int.reduceNeg, Int.reduceToNat, Int.reduceEq, Int.reduceAdd, Int.reduceSub, Int.reduceMul, Int.reduceBEq, Int.reduceBNe, Blk.men, Blk.keysIn])
    | (exact retS_of rfl rfl rfl)
    | (refine DW.cond_tt rfl ?_)
    | (refine DW.cond_ff rfl ?_)
    | (refine DW.cond rfl ?_ ?_ <;> intro hc <;> (try simp only [go_sem] at hc))
    | (refine g_split ?_ ?_ <;> intro hc <;> (try simp only [hc]) <;> (try simp only [go_sem] at hc)))
        refine ⟨⟨(j + 1, cur), (hskip hpv).1⟩, ?_, Ent.to ?_ ?_⟩ <;> first | (show _ < _; (try simp only); omega) | (simp (disch := omega) only [wkT_cons, wkX_cons, wkT_nil, wkX_nil, get, Nat.reduceEqDiff, ↓reduceIte, ex_some, wk_self, wk_top, wk_nil, wkB_self, and_self, dI, i64_in, and_true, true_and, Int.natCast_add, Int.natCast_one, Int.ofNat_zero, Int.natCast_zero,  (hskip hpv).2])
    · subst hend
      obtain ⟨hf1, hf2⟩ := hD.fin
      rw [List.take_length] at *
      generalize hk : (l.filter fun x => !p x) = f at *
      have hfl : f.length ≤ l.length := by omega
      dsimp only at hf1
      repeat' (first
    | (with_reducible refine DW.seq ?_)
    | (with_reducible refine DW.block ?_)
    | (with_reducible refine DW.skip ?_)
    | (with_reducible refine DW.exit ?_)
    | (with_reducible refine DW.ret ?_)
    | (with_reducible refine DW.reg ?_)
    | (simp (disch := omega) only [go_sem, Nat.reduceLT, Nat.reduceLeDiff, Nat.reduceAdd, Nat.reduceMul, Nat.reduceEqDiff, ↓reduceIte, reduceCtorEq, Nat.reduceBEq, Nat.reduceBNe, Nat.reducePow, Int.reduceLE, Int.reduceLT, Int.reduceNeg, Int.reduceToNat, Int.reduceEq, Int.reduceAdd, Int.reduceSub, Int.reduceMul, Int.reduceBEq, Int.reduceBNe, Blk.men, Blk.keysIn, hclen, hd, hfl, Nat.le_refl, hf1, List.length_append, List.length_replicate, List.length_drop])
    | (exact retS_of rfl rfl rfl)
    | (refine DW.cond_tt rfl ?_)
    | (refine DW.cond_ff rfl ?_)
    | (refine DW.cond rfl ?_ ?_ <;> intro hc <;> (try simp only [go_sem] at hc))
    | (refine g_split ?_ ?_ <;> intro hc <;> (try simp only [hc]) <;> (try simp only [go_sem] at hc)))
      refine retS_ent (by exact Ent.trunc 4 0 f.length rfl rfl (by simp [rowC, rows])) ?_
      rw [List.append_assoc, trunc_rows]
      exact retS_row rfl rfl (rowC_nb (rows_nb eS_nb f))
end Go.Dw.Seat
end
section
set_option linter.unusedSimpArgs false
set_option maxRecDepth 100000
namespace Go.Dw.Seat
open Go Go.Dw Go.Proofs Go.IntWalk
def dupAt : List Int → Nat → Option Nat
  | a :: b :: l, k => if b = a then some (k + 1) else dupAt (b :: l) (k + 1)
  | _, _ => none
def keptTo (s : List Int) (m : Nat) : List Int := (((s.tail.zip s).take m).filter fun q => decide (q.1 ≠ q.2)).map (·.1)
def cpt (l : List Int) : List Int := match dupAt l 0 with
  | none => l
  | some k => l.take k ++ keptTo (l.drop k) ((l.drop k).length - 1)
theorem dupAt_some : ∀ {l : List Int} {k i : Nat}, (∀ j a b, j < i → l[j]? = some a → l[j + 1]? = some b → b ≠ a) → ∀ {a : Int}, l[i]? = some a → l[i + 1]? = some a → dupAt l k = some (k + i + 1)
  | [], _, _, _, _, h, _ => by simp at h
  | [_], _, _, _, _, _, h => by simp at h
  | x :: y :: l, k, 0, _, a, h1, h2 => by
    simp at h1 h2; subst h1; subst h2
    simp [dupAt]
  | x :: y :: l, k, i + 1, h, a, h1, h2 => by
    have h0 := h 0 x y (by omega) rfl rfl
    have := dupAt_some (l := y :: l) (k := k + 1) (i := i) (fun j a b hj ha hb => h (j + 1) a b (by omega) ha hb) (by simpa using h1) (by simpa using h2)
    simp only [dupAt, h0, if_false, this]
    congr 1; omega
theorem dupAt_none : ∀ {l : List Int} {k : Nat}, (∀ j a b, l[j]? = some a → l[j + 1]? = some b → b ≠ a) → dupAt l k = none
  | [], _, _ => rfl
  | [_], _, _ => rfl
  | x :: y :: l, k, h => by
    have h0 := h 0 x y rfl rfl
    simp only [dupAt, h0, if_false]
    exact dupAt_none (l := y :: l) (fun j a b ha hb => h (j + 1) a b ha hb)
theorem keptTo_len (s : List Int) (m : Nat) : (keptTo s m).length ≤ m := by
  simp only [keptTo, List.length_map]
  refine Nat.le_trans (List.length_filter_le _ _) ?_
  rw [List.length_take]; omega
theorem keptTo_succ {s : List Int} {m : Nat} {a b : Int} (ha : s[m]? = some a) (hb : s[m + 1]? = some b) : keptTo s (m + 1) = keptTo s m ++ if b = a then [] else [b] := by
  have hz : (s.tail.zip s)[m]? = some (b, a) := by
    rw [List.getElem?_zip_eq_some]
    exact ⟨by rw [List.getElem?_tail]; exact hb, ha⟩
  simp only [keptTo, List.take_add_one, hz, List.filter_append, List.map_append, Option.toList_some]
  congr 1
  by_cases h : b = a <;> simp [h]
structure Cp (l : List Int) (K m : Nat) (cur : List Int) : Prop where
  le : K + m + 1 ≤ l.length
  len : cur.length = l.length
  tk : cur.take (K + (keptTo (l.drop K) m).length) = l.take K ++ keptTo (l.drop K) m
  dr : cur.drop (K + m) = l.drop (K + m)
theorem drop_get {l cur : List Int} {i j : Nat} (h : cur.drop i = l.drop i) (hj : i ≤ j) : cur[j]? = l[j]? := by
  have h1 : (cur.drop i)[j - i]? = (l.drop i)[j - i]? := by rw [h]
  rw [List.getElem?_drop, List.getElem?_drop] at h1
  rwa [show i + (j - i) = j by omega] at h1
theorem Cp.step {l : List Int} {K m : Nat} {cur : List Int} {a b : Int} (h : Cp l K m cur) (hlt : K + m + 1 < l.length) (ha : l[K + m]? = some a) (hb : l[K + m + 1]? = some b) :
    (b = a → Cp l K (m + 1) cur ∧ (keptTo (l.drop K) (m + 1)).length = (keptTo (l.drop K) m).length) ∧
    (b ≠ a → Cp l K (m + 1) (cur.set (K + (keptTo (l.drop K) m).length) b) ∧ (keptTo (l.drop K) (m + 1)).length = (keptTo (l.drop K) m).length + 1) := by
  have hk := keptTo_succ (s := l.drop K) (m := m) (a := a) (b := b) (by rw [List.getElem?_drop]; exact ha) (by rw [List.getElem?_drop]; exact hb)
  have h1 := keptTo_len (l.drop K) m
  have h2 := h.tk
  have h3 := h.len
  have h4 : cur.drop (K + (m + 1)) = l.drop (K + (m + 1)) := by
    have := congrArg (List.drop 1) h.dr
    simpa [List.drop_drop, Nat.add_assoc] using this
  generalize keptTo (l.drop K) m = f at *
  constructor
  · intro hba
    rw [if_pos hba, List.append_nil] at hk
    exact ⟨⟨by omega, h3, by rw [hk]; exact h2, h4⟩, by rw [hk]⟩
  · intro hba
    rw [if_neg hba] at hk
    refine ⟨⟨by omega, by simp [h3], ?_, ?_⟩, by rw [hk]; simp⟩
    · rw [hk]
      simp only [List.length_append, List.length_cons, List.length_nil, ← Nat.add_assoc]
      rw [List.take_add_one, List.take_set_of_le (Nat.le_refl _), h2, List.getElem?_set_self (by omega), List.append_assoc]
      rfl
    · rw [List.drop_set_of_lt (by omega)]
      exact h4
theorem Cp.fin {l : List Int} {K m : Nat} {cur : List Int} (h : Cp l K m cur) (hm : m + 1 = (l.drop K).length) (hd : dupAt l 0 = some K) : cur.take (K + (keptTo (l.drop K) m).length) = cpt l := by
  unfold cpt
  rw [hd, h.tk]
  dsimp only
  rw [← hm, Nat.add_sub_cancel]
theorem c117 (l : List Int) (hl : l.length ≤ 2 ^ 36) : DCall Try.prog 165 [.own 0] [(0, .row 1 (rowC (rows eI l)))] (.own 0) [(0, .row 1 (rowC (rows eI (cpt l))))] := by
  rcases Nat.lt_or_ge l.length 2 with hs | hs
  · have hc : cpt l = l := by
      cases l with
      | nil => rfl
      | cons a l => cases l with
        | nil => rfl
        | cons b l => simp at hs; omega
    have hd : decide ((l.length : Int) < 2) = true := by rw [decide_eq_true_eq]; omega
    refine DCall.of Try.func165 sf165 hb165 (Nat.le_of_ble_eq_true rfl) okRes_row ?_; simp only [s165, idxs, Nat.reduceAdd]
    repeat' (first
    | (with_reducible refine DW.seq ?_)
    | (with_reducible refine DW.block ?_)
    | (with_reducible refine DW.skip ?_)
    | (with_reducible refine DW.exit ?_)
    | (with_reducible refine DW.ret ?_)
    | (with_reducible refine DW.reg ?_)
    | (refine DW.dreg rfl (WF.of (by first | rfl | simp (disch := omega) only [go_sem, Nat.reduceLT, Nat.reduceLeDiff, Nat.reduceAdd, Nat.reduceMul, Nat.reduceEqDiff, ↓reduceIte, reduceCtorEq, Nat.reduceBEq, Nat.reduceBNe, Nat.reducePow, Int.reduceLE, Int.reduceLT, Int.reduceNeg, Int.reduceToNat, Int.reduceEq, Int.reduceAdd, Int.reduceSub, Int.reduceMul, Int.reduceBEq, Int.reduceBNe, Blk.men, Blk.keysIn, hd])) ?_)
    | (simp (disch := omega) only [go_sem, Nat.reduceLT, Nat.reduceLeDiff, Nat.reduceAdd, Nat.reduceMul, Nat.reduceEqDiff, ↓reduceIte, reduceCtorEq, Nat.reduceBEq, Nat.reduceBNe, Nat.reducePow, Int.reduceLE, Int.reduceLT, Int.reduceNeg, Int.reduceToNat, Int.reduceEq, Int.reduceAdd, Int.reduceSub, Int.reduceMul, Int.reduceBEq, Int.reduceBNe, Blk.men, Blk.keysIn, hd])
    | (exact retS_of rfl rfl rfl)
    | (refine DW.cond_tt rfl ?_)
    | (refine DW.cond_ff rfl ?_)
    | (refine DW.cond rfl ?_ ?_ <;> intro hc <;> (try simp only [go_sem] at hc))
    | (refine g_split ?_ ?_ <;> intro hc <;> (try simp only [hc]) <;> (try simp only [go_sem] at hc)))
    rw [hc]
    exact retS_row rfl rfl (rowC_nb (rows_nb eI_nb l))
  have hd : decide ((l.length : Int) < 2) = false := by rw [decide_eq_false_iff_not]; omega
  refine DCall.of Try.func165 sf165 hb165 (Nat.le_of_ble_eq_true rfl) okRes_row ?_; simp only [s165, idxs, Nat.reduceAdd]
  repeat' (first
    | (with_reducible refine DW.seq ?_)
    | (with_reducible refine DW.block ?_)
    | (with_reducible refine DW.skip ?_)
    | (with_reducible refine DW.exit ?_)
    | (with_reducible refine DW.ret ?_)
    | (with_reducible refine DW.reg ?_)
    | (refine DW.dreg rfl (WF.of (by first | rfl | simp (disch := omega) only [go_sem, Nat.reduceLT, Nat.reduceLeDiff, Nat.reduceAdd, Nat.reduceMul, Nat.reduceEqDiff, ↓reduceIte, reduceCtorEq, Nat.reduceBEq, Nat.reduceBNe, Nat.reducePow, Int.reduceLE, Int.reduceLT, Int.reduceNeg, Int.reduceToNat, Int.reduceEq, Int.reduceAdd, Int.reduceSub, Int.reduceMul, Int.reduceBEq, Int.reduceBNe, Blk.men, Blk.keysIn, hd])) ?_)
    | (simp (disch := omega) only [go_sem, Nat.reduceLT, Nat.reduceLeDiff, Nat.reduceAdd, Nat.reduceMul, Nat.reduceEqDiff, ↓reduceIte, reduceCtorEq, Nat.reduceBEq, Nat.reduceBNe, Nat.reducePow, Int.reduceLE, Int.reduceLT, Int.reduceNeg, Int.reduceToNat, Int.reduceEq, Int.reduceAdd, Int.reduceSub, Int.reduceMul, Int.reduceBEq, Int.reduceBNe, Blk.men, Blk.keysIn, hd])
    | (exact retS_of rfl rfl rfl)
    | (refine DW.cond_tt rfl ?_)
    | (refine DW.cond_ff rfl ?_)
    | (refine DW.cond rfl ?_ ?_ <;> intro hc <;> (try simp only [go_sem] at hc))
    | (refine g_split ?_ ?_ <;> intro hc <;> (try simp only [hc]) <;> (try simp only [go_sem] at hc)))
  refine DW.loop (ι := { k : Nat // k + 1 ≤ l.length ∧ ∀ j, j < k → ∀ a b, l[j]? = some a → l[j + 1]? = some b → b ≠ a }) (fun k => ⟨61, [(3, dI ((k.1 : Int) + 1)), (0, .own 0)], [(0, .row 1 (rowC (rows eI l)))]⟩) (fun k => l.length - k.1) ⟨0, by omega, fun j h => by omega⟩ ?_ ?_
  · refine Ent.to ?_ ?_ <;> simp (disch := omega) only [wkT_cons, wkX_cons, wkT_nil, wkX_nil, get, Nat.reduceEqDiff, ↓reduceIte, ex_some, wk_self, wk_top, wk_nil, wkB_self, and_self, dI, i64_in, and_true, true_and, Int.natCast_add, Int.natCast_one, Int.ofNat_zero, Int.natCast_zero, Int.zero_add]
  rintro ⟨k, hk, hno⟩
  obtain ⟨a, ha⟩ : ∃ a, l[k]? = some a := getE (by omega)
  have e1 : ((k : Int) + 1) - 1 = k := by omega
  rcases Nat.lt_or_ge (k + 1) l.length with hlt | hge
  · obtain ⟨b, hb⟩ : ∃ b, l[k + 1]? = some b := getE hlt
    have hd1 : decide ((k : Int) + 1 < (l.length : Int)) = true := by rw [decide_eq_true_eq]; omega
    have hk1 : k < l.length := by omega
    repeat' (first
    | (with_reducible refine DW.seq ?_)
    | (with_reducible refine DW.block ?_)
    | (with_reducible refine DW.skip ?_)
    | (with_reducible refine DW.exit ?_)
    | (with_reducible refine DW.ret ?_)
    | (with_reducible refine DW.reg ?_)
    | (refine DW.dreg rfl (WF.of (by first | rfl | simp (disch := omega) only [go_sem, Nat.reduceLT, Nat.reduceLeDiff, Nat.reduceAdd, Nat.reduceMul, Nat.reduceEqDiff, ↓reduceIte, reduceCtorEq, Nat.reduceBEq, Nat.reduceBNe, Nat.reducePow, Int.reduceLE, Int.reduceLT, Int.reduceNeg, Int.reduceToNat, Int.reduceEq, Int.reduceAdd, Int.reduceSub, Int.reduceMul, Int.reduceBEq, Int.reduceBNe, Blk.men, Blk.keysIn, hd1, hb, ha, e1, hlt, hk1])) ?_)
    | (simp (disch := omega) only [go_sem, Nat.reduceLT, Nat.reduceLeDiff, Nat.reduceAdd, Nat.reduceMul, Nat.reduceEqDiff, ↓reduceIte, reduceCtorEq, Nat.reduceBEq, Nat.reduceBNe, Nat.reducePow, Int.reduceLE, Int.reduceLT, Int.reduceNeg, Int.reduceToNat, Int.reduceEq, Int.reduceAdd, Int.reduceSub, Int.reduceMul, Int.reduceBEq, Int.reduceBNe, Blk.men, Blk.keysIn, hd1, hb, ha, e1, hlt, hk1])
    | (exact retS_of rfl rfl rfl)
    | (refine DW.cond_tt rfl ?_)
    | (refine DW.cond_ff rfl ?_)
    | (refine DW.cond rfl ?_ ?_ <;> intro hc <;> (try simp only [go_sem] at hc))
    | (refine g_split ?_ ?_ <;> intro hc <;> (try simp only [hc]) <;> (try simp only [go_sem] at hc)))
    · have hba : b = a := by simpa using hc
      subst hba
      have hdup : dupAt l 0 = some (k + 1) := by
        have := dupAt_some (k := 0) (fun j a b h1 => hno j h1 a b) ha hb
        simpa using this
      have hsl : (l.drop (k + 1)).length = l.length - (k + 1) := List.length_drop
      refine DW.loop (ι := { s : Nat × List Int // Cp l (k + 1) s.1 s.2 }) (fun s => ⟨61, [(5, dI ((s.1.1 : Int) + 1)), (4, .win 0 1 (k + 1) l.length), (3, dI ((k + 1 + (keptTo (l.drop (k + 1)) s.1.1).length : Nat) : Int)), (0, .own 0)], [(0, .row 1 (rowC (rows eI s.1.2)))]⟩)
        (fun s => l.length - s.1.1) ⟨(0, l), ⟨by omega, rfl, by simp [keptTo], rfl⟩⟩ ?_ ?_
      · have h0 : (keptTo (l.drop (k + 1)) 0).length = 0 := rfl
        refine Ent.to ?_ ?_ <;> simp (disch := omega) only [wkT_cons, wkX_cons, wkT_nil, wkX_nil, get, Nat.reduceEqDiff, ↓reduceIte, ex_some, wk_self, wk_top, wk_nil, wkB_self, and_self, dI, i64_in, and_true, true_and, Int.natCast_add, Int.natCast_one, Int.ofNat_zero, Int.natCast_zero, h0, Int.zero_add, Int.add_zero, Nat.add_zero]
      rintro ⟨⟨m, cur⟩, hC⟩
      have hle : k + 1 + m + 1 ≤ l.length := hC.le
      have hclen : cur.length = l.length := hC.len
      have hkl := keptTo_len (l.drop (k + 1)) m
      rcases Nat.lt_or_ge (k + 1 + m + 1) l.length with hlt2 | hge2
      · obtain ⟨x, hx⟩ : ∃ x, l[k + 1 + m]? = some x := getE (by omega)
        obtain ⟨y, hy⟩ : ∃ y, l[k + 1 + m + 1]? = some y := getE (by omega)
        have hcx : cur[k + 1 + m]? = some x := (drop_get hC.dr (Nat.le_refl _)).trans hx
        have hcy : cur[k + 1 + (m + 1)]? = some y := (drop_get hC.dr (by omega)).trans hy
        obtain ⟨hs1, hs2⟩ := hC.step hlt2 hx hy
        generalize hf : (keptTo (l.drop (k + 1)) m).length = f at *
        have hd2 : decide ((m : Int) + 1 < ((l.length - (k + 1) : Nat) : Int)) = true := by rw [decide_eq_true_eq]; omega
        have em : ((m : Int) + 1) - 1 = m := by omega
        have hl1 : k + 1 + (m + 1) < l.length := by omega
        have hl2 : k + 1 + m < l.length := by omega
        have hl3 : k + 1 + f < l.length := by omega
        obtain ⟨u, hu⟩ : ∃ u, cur[k + 1 + f]? = some u := getE (by omega)
        repeat' (first
    | (with_reducible refine DW.seq ?_)
    | (with_reducible refine DW.block ?_)
    | (with_reducible refine DW.skip ?_)
    | (with_reducible refine DW.exit ?_)
    | (with_reducible refine DW.ret ?_)
    | (with_reducible refine DW.reg ?_)
    | (refine DW.dreg rfl (WF.of (by first | rfl | simp (disch := omega) only [go_sem, Nat.reduceLT, Nat.reduceLeDiff, Nat.reduceAdd, Nat.reduceMul, Nat.reduceEqDiff, ↓reduceIte, reduceCtorEq, Nat.reduceBEq, Nat.reduceBNe, Nat.reducePow, Int.reduceLE, Int.reduceLT, Int.reduceNeg, Int.reduceToNat, Int.reduceEq, Int.reduceAdd, Int.reduceSub, Int.reduceMul, Int.reduceBEq, Int.reduceBNe, Blk.men, Blk.keysIn, hd2, hclen, em, hl1, hl2, hcx, hcy, Nat.le_refl, hl3, hu])) ?_)
    | (simp (disch := omega) only [go_sem, Nat.reduceLT, Nat.reduceLeDiff, Nat.reduceAdd, Nat.reduceMul, Nat.reduceEqDiff, ↓reduceIte, reduceCtorEq, Nat.reduceBEq, Nat.reduceBNe, Nat.reducePow, Int.reduceLE, Int.reduceLT, Int.reduceNeg, Int.reduceToNat, Int.reduceEq, Int.reduceAdd, Int.reduceSub, Int.reduceMul, Int.reduceBEq, Int.reduceBNe, Blk.men, Blk.keysIn, hd2, hclen, em, hl1, hl2, hcx, hcy, Nat.le_refl, hl3, hu])
    | (exact retS_of rfl rfl rfl)
    | (refine DW.cond_tt rfl ?_)
    | (refine DW.cond_ff rfl ?_)
    | (refine DW.cond rfl ?_ ?_ <;> intro hc <;> (try simp only [go_sem] at hc))
    | (refine g_split ?_ ?_ <;> intro hc <;> (try simp only [hc]) <;> (try simp only [go_sem] at hc)))
        · have h2 := hs2 hc
          have ec : (((k + 1 + f : Nat) : Int) + 1) = ((k + 1 + (f + 1) : Nat) : Int) := by omega
          refine ⟨⟨(m + 1, cur.set (k + 1 + f) y), h2.1⟩, ?_, Ent.to ?_ ?_⟩ <;> first | (show _ < _; (try simp only); omega) | (simp (disch := omega) only [wkT_cons, wkX_cons, wkT_nil, wkX_nil, get, Nat.reduceEqDiff, ↓reduceIte, ex_some, wk_self, wk_top, wk_nil, wkB_self, and_self, dI, i64_in, and_true, true_and, Int.natCast_add, Int.natCast_one, Int.ofNat_zero, Int.natCast_zero,  h2.2, ec])
          rw [← Int.add_assoc]; exact .refl _
        · have h1 := hs1 hc
          refine ⟨⟨(m + 1, cur), h1.1⟩, ?_, Ent.to ?_ ?_⟩ <;> first | (show _ < _; (try simp only); omega) | (simp (disch := omega) only [wkT_cons, wkX_cons, wkT_nil, wkX_nil, get, Nat.reduceEqDiff, ↓reduceIte, ex_some, wk_self, wk_top, wk_nil, wkB_self, and_self, dI, i64_in, and_true, true_and, Int.natCast_add, Int.natCast_one, Int.ofNat_zero, Int.natCast_zero,  h1.2])
      · have hml : m + 1 = (l.drop (k + 1)).length := by omega
        have hfin := hC.fin hml hdup
        generalize hf : (keptTo (l.drop (k + 1)) m).length = f at *
        have hd2 : decide ((m : Int) + 1 < ((l.length - (k + 1) : Nat) : Int)) = false := by rw [decide_eq_false_iff_not]; omega
        have hfl : k + 1 + f ≤ l.length := by omega
        have hlenc : (cpt l).length = k + 1 + f := by rw [← hfin, List.length_take]; dsimp only; omega
        dsimp only at hfin
        repeat' (first
    | (with_reducible refine DW.seq ?_)
    | (with_reducible refine DW.block ?_)
    | (with_reducible refine DW.skip ?_)
    | (with_reducible refine DW.exit ?_)
    | (with_reducible refine DW.ret ?_)
    | (with_reducible refine DW.reg ?_)
    | (refine DW.dreg rfl (WF.of (by first | rfl | simp (disch := omega) only [go_sem, Nat.reduceLT, Nat.reduceLeDiff, Nat.reduceAdd, Nat.reduceMul, Nat.reduceEqDiff, ↓reduceIte, reduceCtorEq, Nat.reduceBEq, Nat.reduceBNe, Nat.reducePow, Int.reduceLE, Int.reduceLT, Int.reduceNeg, Int.reduceToNat, Int.reduceEq, Int.reduceAdd, Int.reduceSub, Int.reduceMul, Int.reduceBEq, Int.reduceBNe, Blk.men, Blk.keysIn, hd2, hclen, hfl, Nat.le_refl, hfin, List.length_append, List.length_replicate, List.length_drop, hlenc])) ?_)
    | (simp (disch := omega) only [go_sem, Nat.reduceLT, Nat.reduceLeDiff, Nat.reduceAdd, Nat.reduceMul, Nat.reduceEqDiff, ↓reduceIte, reduceCtorEq, Nat.reduceBEq, Nat.reduceBNe, Nat.reducePow, Int.reduceLE, Int.reduceLT, Int.reduceNeg, Int.reduceToNat, Int.reduceEq, Int.reduceAdd, Int.reduceSub, Int.reduceMul, Int.reduceBEq, Int.reduceBNe, Blk.men, Blk.keysIn, hd2, hclen, hfl, Nat.le_refl, hfin, List.length_append, List.length_replicate, List.length_drop, hlenc])
    | (exact retS_of rfl rfl rfl)
    | (refine DW.cond_tt rfl ?_)
    | (refine DW.cond_ff rfl ?_)
    | (refine DW.cond rfl ?_ ?_ <;> intro hc <;> (try simp only [go_sem] at hc))
    | (refine g_split ?_ ?_ <;> intro hc <;> (try simp only [hc]) <;> (try simp only [go_sem] at hc)))
        refine retS_ent (by exact Ent.trunc 2 0 (k + 1 + f) rfl rfl (by simp [rowC, rows, hlenc])) ?_
        rw [List.append_assoc, ← hlenc, trunc_rows]
        exact retS_row rfl rfl (rowC_nb (rows_nb eI_nb _))
    · have hba : b ≠ a := by simpa using hc
      refine ⟨⟨k + 1, by omega, upto1 (p := fun j => ∀ a b, l[j]? = some a → l[j + 1]? = some b → b ≠ a) hno (fun x y hx hy => by
        rw [ha] at hx; rw [hb] at hy; cases hx; cases hy; exact hba)⟩, ?_, Ent.to ?_ ?_⟩ <;> first | (show _ < _; (try simp only); omega) | (simp (disch := omega) only [wkT_cons, wkX_cons, wkT_nil, wkX_nil, get, Nat.reduceEqDiff, ↓reduceIte, ex_some, wk_self, wk_top, wk_nil, wkB_self, and_self, dI, i64_in, and_true, true_and, Int.natCast_add, Int.natCast_one, Int.ofNat_zero, Int.natCast_zero])
  · have hd1 : decide ((k : Int) + 1 < (l.length : Int)) = false := by rw [decide_eq_false_iff_not]; omega
    repeat' (first
    | (with_reducible refine DW.seq ?_)
    | (with_reducible refine DW.block ?_)
    | (with_reducible refine DW.skip ?_)
    | (with_reducible refine DW.exit ?_)
    | (with_reducible refine DW.ret ?_)
    | (with_reducible refine DW.reg ?_)
    | (refine DW.dreg rfl (WF.of (by first | rfl | simp (disch := omega) only [go_sem, Nat.reduceLT, Nat.reduceLeDiff, Nat.reduceAdd, Nat.reduceMul, Nat.reduceEqDiff, ↓reduceIte, reduceCtorEq, Nat.reduceBEq, Nat.reduceBNe, Nat.reducePow, Int.reduceLE, Int.reduceLT, Int.reduceNeg, Int.reduceToNat, Int.reduceEq, Int.reduceAdd, Int.reduceSub, Int.reduceMul, Int.reduceBEq, Int.reduceBNe, Blk.men, Blk.keysIn, hd1])) ?_)
    | (simp (disch := omega) only [go_sem, Nat.reduceLT, Nat.reduceLeDiff, Nat.reduceAdd, Nat.reduceMul, Nat.reduceEqDiff, ↓reduceIte, reduceCtorEq, Nat.reduceBEq, Nat.reduceBNe, Nat.reducePow, Int.reduceLE, Int.reduceLT, Int.reduceNeg, Int.reduceToNat, Int.reduceEq, Int.reduceAdd, Int.reduceSub, Int.reduceMul, Int.reduceBEq, Int.reduceBNe, Blk.men, Blk.keysIn, hd1])
    | (exact retS_of rfl rfl rfl)
    | (refine DW.cond_tt rfl ?_)
    | (refine DW.cond_ff rfl ?_)
    | (refine DW.cond rfl ?_ ?_ <;> intro hc <;> (try simp only [go_sem] at hc))
    | (refine g_split ?_ ?_ <;> intro hc <;> (try simp only [hc]) <;> (try simp only [go_sem] at hc)))
    have hc : cpt l = l := by
      unfold cpt
      rw [dupAt_none (fun j a b h1 h2 => hno j (by
        rcases Nat.lt_or_ge (j + 1) l.length with h | h
        · omega
        · rw [List.getElem?_eq_none h] at h2; cases h2) a b h1 h2)]
    rw [hc]
    exact retS_row rfl rfl (rowC_nb (rows_nb eI_nb l))
end Go.Dw.Seat
end
