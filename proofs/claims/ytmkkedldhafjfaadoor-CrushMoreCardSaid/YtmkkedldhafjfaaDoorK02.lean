/- Helpers of a proof. -/
import Derived.Test.YtmkkedldhafjfaaDoorK01
import Derived.Test.YtmkkedldhafjfaaDoorTie
import Derived.ProofKit
import Derived.LaidMore
import Derived.OpenShut
import Derived.Stop.Joined
set_option linter.unusedVariables false
set_option linter.unusedSimpArgs false
section
set_option linter.unusedSimpArgs false
set_option maxRecDepth 100000
namespace Go.Dw.Seat
open Go Go.Dw Go.Proofs Go.IntWalk
theorem crNaN (a : Int) : DCall Tryd.prog 96 [dI a] [] (bD false) [] := by
  refine DCall.of Tryd.func96 sf96 hb96 (Nat.le_of_ble_eq_true rfl) (okRes_nil fun _ => rfl) ?_; simp only [s96, idxs, Nat.reduceAdd]
  repeat' (first
    | (with_reducible refine DW.seq ?_)
    | (with_reducible refine DW.block ?_)
    | (with_reducible refine DW.skip ?_)
    | (with_reducible refine DW.exit ?_)
    | (with_reducible refine DW.ret ?_)
    | (with_reducible refine DW.reg ?_)
    | (simp (disch := omega) only [go_sem, Nat.reduceLT, Nat.reduceLeDiff, Nat.reduceAdd, Nat.reduceMul, Nat.reduceEqDiff, ↓reduceIte, reduceCtorEq, Nat.reduceBEq, Nat.reduceBNe, Nat.reducePow, Int.reduceLE, Int.reduceLT, Int.reduceNeg, Int.reduceToNat, Int.reduceEq, Int.reduceAdd, Int.reduceSub, Int.reduceMul, Int.reduceBEq, Int.reduceBNe, Blk.men, Blk.keysIn])
    | (exact retS_of rfl rfl rfl)
    | (refine DW.cond_tt rfl ?_)
    | (refine DW.cond_ff rfl ?_)
    | (refine DW.cond rfl ?_ ?_ <;> intro hc <;> (try simp only [go_sem] at hc))
    | (refine g_split ?_ ?_ <;> intro hc <;> (try simp only [hc]) <;> (try simp only [go_sem] at hc)))
def cmpI (a b : Int) : Int := if a < b then -1 else if b < a then 1 else 0
theorem crCmp (a b : Int) : DCall Tryd.prog 68 [dI a, dI b] [] (dI (cmpI a b)) [] := by
  have h1 := crNaN a
  have h2 := crNaN b
  by_cases hab : a < b
  · have d1 : decide (a < b) = true := decide_eq_true hab
    have e : cmpI a b = -1 := if_pos hab
    rw [e]
    refine DCall.of Tryd.func68 sf68 hb68 (Nat.le_of_ble_eq_true rfl) (okRes_nil fun _ => rfl) ?_; simp only [s68, idxs, Nat.reduceAdd]
    repeat' (first
    | (with_reducible refine DW.seq ?_)
    | (with_reducible refine DW.block ?_)
    | (with_reducible refine DW.skip ?_)
    | (with_reducible refine DW.exit ?_)
    | (with_reducible refine DW.ret ?_)
    | (with_reducible refine DW.reg ?_)
    | (simp (disch := omega) only [go_sem, Nat.reduceLT, Nat.reduceLeDiff, Nat.reduceAdd, Nat.reduceMul, Nat.reduceEqDiff, ↓reduceIte, reduceCtorEq, Nat.reduceBEq, Nat.reduceBNe, Nat.reducePow, Int.reduceLE, Int.reduceLT, Int.reduceNeg, Int.reduceToNat, Int.reduceEq, Int.reduceAdd, Int.reduceSub, Int.reduceMul, Int.reduceBEq, Int.reduceBNe, Blk.men, Blk.keysIn, d1])
    | (exact retS_of rfl rfl rfl)
    | (refine DW.cond_tt rfl ?_)
    | (refine call_c (h1) (by decide) ?_)
    | (refine call_c (h2) (by decide) ?_)
    | (refine DW.cond_ff rfl ?_)
    | (refine DW.cond rfl ?_ ?_ <;> intro hc <;> (try simp only [go_sem] at hc))
    | (refine g_split ?_ ?_ <;> intro hc <;> (try simp only [hc]) <;> (try simp only [go_sem] at hc)))
  have d1 : decide (a < b) = false := decide_eq_false hab
  by_cases hba : b < a
  · have d2 : decide (b < a) = true := decide_eq_true hba
    have e : cmpI a b = 1 := by rw [cmpI, if_neg hab, if_pos hba]
    rw [e]
    refine DCall.of Tryd.func68 sf68 hb68 (Nat.le_of_ble_eq_true rfl) (okRes_nil fun _ => rfl) ?_; simp only [s68, idxs, Nat.reduceAdd]
    repeat' (first
    | (with_reducible refine DW.seq ?_)
    | (with_reducible refine DW.block ?_)
    | (with_reducible refine DW.skip ?_)
    | (with_reducible refine DW.exit ?_)
    | (with_reducible refine DW.ret ?_)
    | (with_reducible refine DW.reg ?_)
    | (simp (disch := omega) only [go_sem, Nat.reduceLT, Nat.reduceLeDiff, Nat.reduceAdd, Nat.reduceMul, Nat.reduceEqDiff, ↓reduceIte, reduceCtorEq, Nat.reduceBEq, Nat.reduceBNe, Nat.reducePow, Int.reduceLE, Int.reduceLT, Int.reduceNeg, Int.reduceToNat, Int.reduceEq, Int.reduceAdd, Int.reduceSub, Int.reduceMul, Int.reduceBEq, Int.reduceBNe, Blk.men, Blk.keysIn, d1, d2])
    | (exact retS_of rfl rfl rfl)
    | (refine DW.cond_tt rfl ?_)
    | (refine call_c (h1) (by decide) ?_)
    | (refine call_c (h2) (by decide) ?_)
    | (refine DW.cond_ff rfl ?_)
    | (refine DW.cond rfl ?_ ?_ <;> intro hc <;> (try simp only [go_sem] at hc))
    | (refine g_split ?_ ?_ <;> intro hc <;> (try simp only [hc]) <;> (try simp only [go_sem] at hc)))
  · have d2 : decide (b < a) = false := decide_eq_false hba
    have e : cmpI a b = 0 := by rw [cmpI, if_neg hab, if_neg hba]
    rw [e]
    refine DCall.of Tryd.func68 sf68 hb68 (Nat.le_of_ble_eq_true rfl) (okRes_nil fun _ => rfl) ?_; simp only [s68, idxs, Nat.reduceAdd]
    repeat' (first
    | (with_reducible refine DW.seq ?_)
    | (with_reducible refine DW.block ?_)
    | (with_reducible refine DW.skip ?_)
    | (with_reducible refine DW.exit ?_)
    | (with_reducible refine DW.ret ?_)
    | (with_reducible refine DW.reg ?_)
    | (simp (disch := omega) only [go_sem, Nat.reduceLT, Nat.reduceLeDiff, Nat.reduceAdd, Nat.reduceMul, Nat.reduceEqDiff, ↓reduceIte, reduceCtorEq, Nat.reduceBEq, Nat.reduceBNe, Nat.reducePow, Int.reduceLE, Int.reduceLT, Int.reduceNeg, Int.reduceToNat, Int.reduceEq, Int.reduceAdd, Int.reduceSub, Int.reduceMul, Int.reduceBEq, Int.reduceBNe, Blk.men, Blk.keysIn, d1, d2])
    | (exact retS_of rfl rfl rfl)
    | (refine DW.cond_tt rfl ?_)
    | (refine call_c (h1) (by decide) ?_)
    | (refine call_c (h2) (by decide) ?_)
    | (refine DW.cond_ff rfl ?_)
    | (refine DW.cond rfl ?_ ?_ <;> intro hc <;> (try simp only [go_sem] at hc))
    | (refine g_split ?_ ?_ <;> intro hc <;> (try simp only [hc]) <;> (try simp only [go_sem] at hc)))
def orI2 (a b : Int) : Int := if a ≠ 0 then a else b
theorem crOr (bw : Bool) (a b : Int) : DCall Tryd.prog 67 [dIs bw [a, b]] [] (dI (orI2 a b)) [] := by
  refine DCall.of Tryd.func67 sf67 hb67 (Nat.le_of_ble_eq_true rfl) (okRes_nil fun _ => rfl) ?_; simp only [s67, idxs, Nat.reduceAdd]
  repeat' (first
    | (with_reducible refine DW.seq ?_)
    | (with_reducible refine DW.block ?_)
    | (with_reducible refine DW.skip ?_)
    | (with_reducible refine DW.exit ?_)
    | (with_reducible refine DW.ret ?_)
    | (with_reducible refine DW.reg ?_)
    | (simp (disch := omega) only [go_sem, Nat.reduceLT, Nat.reduceLeDiff, Nat.reduceAdd, Nat.reduceMul, Nat.reduceEqDiff, ↓reduceIte, reduceCtorEq, Nat.reduceBEq, Nat.reduceBNe, Nat.reducePow, Int.reduceLE, Int.reduceLT, Int.reduceNeg, Int.reduceToNat, Int.reduceEq, Int.reduceAdd, Int.reduceSub, Int.reduceMul, Int.reduceBEq, Int.reduceBNe, Blk.men, Blk.keysIn])
    | (exact retS_of rfl rfl rfl)
    | (refine DW.cond_tt rfl ?_)
    | (refine DW.cond_ff rfl ?_)
    | (refine DW.cond rfl ?_ ?_ <;> intro hc <;> (try simp only [go_sem] at hc))
    | (refine g_split ?_ ?_ <;> intro hc <;> (try simp only [hc]) <;> (try simp only [go_sem] at hc)))
  refine DW.loop (ι := { i : Nat // i ≤ 2 ∧ (1 ≤ i → a = 0) ∧ (2 ≤ i → b = 0) }) (fun i => ⟨18, [(8, dI i.1), (7, dI 2), (6, dIs bw [a, b]), (3, dI 0)], []⟩) (fun i => 2 - i.1) ⟨0, Nat.zero_le _, by omega, by omega⟩ ?_ ?_
  · refine Ent.to ?_ ?_ <;> simp (disch := omega) only [wkT_cons, wkX_cons, wkT_nil, wkX_nil, get, Nat.reduceEqDiff, ↓reduceIte, ex_some, wk_self, wk_top, wk_nil, wkB_self, and_self, dI, i64_in, and_true, true_and, Int.natCast_add, Int.natCast_one, Int.ofNat_zero, Int.natCast_zero]
    all_goals exact .refl _
  rintro ⟨i, hi, ha, hb⟩
  obtain rfl | rfl | rfl : i = 0 ∨ i = 1 ∨ i = 2 := by omega
  · have hd : decide (((0 : Nat) : Int) < 2) = true := by decide
    have hd' : decide ((0 : Int) < 2) = true := by decide
    by_cases h0 : a = 0
    · have e : (a != 0) = false := by rw [h0]; rfl
      repeat' (first
    | (with_reducible refine DW.seq ?_)
    | (with_reducible refine DW.block ?_)
    | (with_reducible refine DW.skip ?_)
    | (with_reducible refine DW.exit ?_)
    | (with_reducible refine DW.ret ?_)
    | (with_reducible refine DW.reg ?_)
    | (simp (disch := omega) only [go_sem, Nat.reduceLT, Nat.reduceLeDiff, Nat.reduceAdd, Nat.reduceMul, Nat.reduceEqDiff, ↓reduceIte, reduceCtorEq, Nat.reduceBEq, Nat.reduceBNe, Nat.reducePow, Int.reduceLE, Int.reduceLT, Int.reduceNeg, Int.reduceToNat, Int.reduceEq, Int.reduceAdd, Int.reduceSub, Int.reduceMul, Int.reduceBEq, Int.reduceBNe, Blk.men, Blk.keysIn, hd, hd', e, rows, List.map_cons, List.map_nil])
    | (exact retS_of rfl rfl rfl)
    | (refine DW.cond_tt rfl ?_)
    | (refine DW.cond_ff rfl ?_)
    | (refine DW.cond rfl ?_ ?_ <;> intro hc <;> (try simp only [go_sem] at hc))
    | (refine g_split ?_ ?_ <;> intro hc <;> (try simp only [hc]) <;> (try simp only [go_sem] at hc)))
      refine ⟨⟨1, by omega, fun _ => h0, by omega⟩, ?_, Ent.to ?_ ?_⟩ <;> first | (show _ < _; (try simp only); omega) | (simp (disch := omega) only [wkT_cons, wkX_cons, wkT_nil, wkX_nil, get, Nat.reduceEqDiff, ↓reduceIte, ex_some, wk_self, wk_top, wk_nil, wkB_self, and_self, dI, i64_in, and_true, true_and, Int.natCast_add, Int.natCast_one, Int.ofNat_zero, Int.natCast_zero])
    · have e : (a != 0) = true := by simpa using h0
      repeat' (first
    | (with_reducible refine DW.seq ?_)
    | (with_reducible refine DW.block ?_)
    | (with_reducible refine DW.skip ?_)
    | (with_reducible refine DW.exit ?_)
    | (with_reducible refine DW.ret ?_)
    | (with_reducible refine DW.reg ?_)
    | (simp (disch := omega) only [go_sem, Nat.reduceLT, Nat.reduceLeDiff, Nat.reduceAdd, Nat.reduceMul, Nat.reduceEqDiff, ↓reduceIte, reduceCtorEq, Nat.reduceBEq, Nat.reduceBNe, Nat.reducePow, Int.reduceLE, Int.reduceLT, Int.reduceNeg, Int.reduceToNat, Int.reduceEq, Int.reduceAdd, Int.reduceSub, Int.reduceMul, Int.reduceBEq, Int.reduceBNe, Blk.men, Blk.keysIn, hd, hd', e, rows, List.map_cons, List.map_nil])
    | (exact retS_of rfl rfl rfl)
    | (refine DW.cond_tt rfl ?_)
    | (refine DW.cond_ff rfl ?_)
    | (refine DW.cond rfl ?_ ?_ <;> intro hc <;> (try simp only [go_sem] at hc))
    | (refine g_split ?_ ?_ <;> intro hc <;> (try simp only [hc]) <;> (try simp only [go_sem] at hc)))
      refine retS_of rfl ?_ rfl; simp only [oneD, St.op, get, Nat.reduceEqDiff, ↓reduceIte, Option.getD_some, bD, dI]
      rw [orI2, if_pos h0]
  · have hd : decide (((1 : Nat) : Int) < 2) = true := by decide
    have hd' : decide ((1 : Int) < 2) = true := by decide
    have ha := ha (by omega)
    by_cases h0 : b = 0
    · have e : (b != 0) = false := by rw [h0]; rfl
      repeat' (first
    | (with_reducible refine DW.seq ?_)
    | (with_reducible refine DW.block ?_)
    | (with_reducible refine DW.skip ?_)
    | (with_reducible refine DW.exit ?_)
    | (with_reducible refine DW.ret ?_)
    | (with_reducible refine DW.reg ?_)
    | (simp (disch := omega) only [go_sem, Nat.reduceLT, Nat.reduceLeDiff, Nat.reduceAdd, Nat.reduceMul, Nat.reduceEqDiff, ↓reduceIte, reduceCtorEq, Nat.reduceBEq, Nat.reduceBNe, Nat.reducePow, Int.reduceLE, Int.reduceLT, Int.reduceNeg, Int.reduceToNat, Int.reduceEq, Int.reduceAdd, Int.reduceSub, Int.reduceMul, Int.reduceBEq, Int.reduceBNe, Blk.men, Blk.keysIn, hd, hd', e, rows, List.map_cons, List.map_nil])
    | (exact retS_of rfl rfl rfl)
    | (refine DW.cond_tt rfl ?_)
    | (refine DW.cond_ff rfl ?_)
    | (refine DW.cond rfl ?_ ?_ <;> intro hc <;> (try simp only [go_sem] at hc))
    | (refine g_split ?_ ?_ <;> intro hc <;> (try simp only [hc]) <;> (try simp only [go_sem] at hc)))
      refine ⟨⟨2, by omega, fun _ => ha, fun _ => h0⟩, ?_, Ent.to ?_ ?_⟩ <;> first | (show _ < _; (try simp only); omega) | (simp (disch := omega) only [wkT_cons, wkX_cons, wkT_nil, wkX_nil, get, Nat.reduceEqDiff, ↓reduceIte, ex_some, wk_self, wk_top, wk_nil, wkB_self, and_self, dI, i64_in, and_true, true_and, Int.natCast_add, Int.natCast_one, Int.ofNat_zero, Int.natCast_zero])
      all_goals exact .refl _
    · have e : (b != 0) = true := by simpa using h0
      repeat' (first
    | (with_reducible refine DW.seq ?_)
    | (with_reducible refine DW.block ?_)
    | (with_reducible refine DW.skip ?_)
    | (with_reducible refine DW.exit ?_)
    | (with_reducible refine DW.ret ?_)
    | (with_reducible refine DW.reg ?_)
    | (simp (disch := omega) only [go_sem, Nat.reduceLT, Nat.reduceLeDiff, Nat.reduceAdd, Nat.reduceMul, Nat.reduceEqDiff, ↓reduceIte, reduceCtorEq, Nat.reduceBEq, Nat.reduceBNe, Nat.reducePow, Int.reduceLE, Int.reduceLT, Int.reduceNeg, Int.reduceToNat, Int.reduceEq, Int.reduceAdd, Int.reduceSub, Int.reduceMul, Int.reduceBEq, Int.reduceBNe, Blk.men, Blk.keysIn, hd, hd', e, rows, List.map_cons, List.map_nil])
    | (exact retS_of rfl rfl rfl)
    | (refine DW.cond_tt rfl ?_)
    | (refine DW.cond_ff rfl ?_)
    | (refine DW.cond rfl ?_ ?_ <;> intro hc <;> (try simp only [go_sem] at hc))
    | (refine g_split ?_ ?_ <;> intro hc <;> (try simp only [hc]) <;> (try simp only [go_sem] at hc)))
      refine retS_of rfl ?_ rfl; simp only [oneD, St.op, get, Nat.reduceEqDiff, ↓reduceIte, Option.getD_some, bD, dI]
      rw [orI2, if_neg (by simpa using ha)]
  · have hd : decide (((2 : Nat) : Int) < 2) = false := by decide
    have hd' : decide ((2 : Int) < 2) = false := by decide
    have ha := ha (by omega)
    have hb := hb (by omega)
    repeat' (first
    | (with_reducible refine DW.seq ?_)
    | (with_reducible refine DW.block ?_)
    | (with_reducible refine DW.skip ?_)
    | (with_reducible refine DW.exit ?_)
    | (with_reducible refine DW.ret ?_)
    | (with_reducible refine DW.reg ?_)
    | (simp (disch := omega) only [go_sem, Nat.reduceLT, Nat.reduceLeDiff, Nat.reduceAdd, Nat.reduceMul, Nat.reduceEqDiff, ↓reduceIte, reduceCtorEq, Nat.reduceBEq, Nat.reduceBNe, Nat.reducePow, Int.reduceLE, Int.reduceLT, Int.reduceNeg, Int.reduceToNat, Int.reduceEq, Int.reduceAdd, Int.reduceSub, Int.reduceMul, Int.reduceBEq, Int.reduceBNe, Blk.men, Blk.keysIn, hd, hd'])
    | (exact retS_of rfl rfl rfl)
    | (refine DW.cond_tt rfl ?_)
    | (refine DW.cond_ff rfl ?_)
    | (refine DW.cond rfl ?_ ?_ <;> intro hc <;> (try simp only [go_sem] at hc))
    | (refine g_split ?_ ?_ <;> intro hc <;> (try simp only [hc]) <;> (try simp only [go_sem] at hc)))
    refine retS_of rfl ?_ rfl; simp only [oneD, St.op, get, Nat.reduceEqDiff, ↓reduceIte, Option.getD_some, bD, dI]
    rw [orI2, if_neg (by simpa using ha), hb]
def cmpL : List Int → List Int → Int
  | [], [] => 0
  | [], _ :: _ => -1
  | _ :: _, [] => 1
  | a :: s, b :: t => if cmpI a b = 0 then cmpL s t else cmpI a b
theorem drop_cons {α : Type} {l : List α} {i : Nat} {v : α} (h : l[i]? = some v) : l.drop i = v :: l.drop (i + 1) := by
  have hlt := (List.getElem?_eq_some_iff.1 h).1
  have e : l[i] = v := (List.getElem?_eq_some_iff.1 h).2
  rw [← e]; exact List.drop_eq_getElem_cons hlt
theorem crCmpL (b1 b2 : Bool) (s t : List Int) (hs : s.length ≤ 2 ^ 36) (ht : t.length ≤ 2 ^ 36) : DCall Tryd.prog 69 [dIs b1 s, dIs b2 t] [] (dI (cmpL s t)) [] := by
  generalize hR : cmpL s t = R
  refine DCall.of Tryd.func69 sf69 hb69 (Nat.le_of_ble_eq_true rfl) (okRes_nil fun _ => rfl) ?_; simp only [s69, idxs, Nat.reduceAdd]
  repeat' (first
    | (with_reducible refine DW.seq ?_)
    | (with_reducible refine DW.block ?_)
    | (with_reducible refine DW.skip ?_)
    | (with_reducible refine DW.exit ?_)
    | (with_reducible refine DW.ret ?_)
    | (with_reducible refine DW.reg ?_)
    | (simp (disch := omega) only [go_sem, Nat.reduceLT, Nat.reduceLeDiff, Nat.reduceAdd, Nat.reduceMul, Nat.reduceEqDiff, ↓reduceIte, reduceCtorEq, Nat.reduceBEq, Nat.reduceBNe, Nat.reducePow, Int.reduceLE, Int.reduceLT, Int.reduceNeg, Int.reduceToNat, Int.reduceEq, Int.reduceAdd, Int.reduceSub, Int.reduceMul, Int.reduceBEq, Int.reduceBNe, Blk.men, Blk.keysIn])
    | (exact retS_of rfl rfl rfl)
    | (refine DW.cond_tt rfl ?_)
    | (refine DW.cond_ff rfl ?_)
    | (refine DW.cond rfl ?_ ?_ <;> intro hc <;> (try simp only [go_sem] at hc))
    | (refine g_split ?_ ?_ <;> intro hc <;> (try simp only [hc]) <;> (try simp only [go_sem] at hc)))
  refine DW.loop (ι := { i : Nat // i ≤ s.length ∧ i ≤ t.length ∧ cmpL (s.drop i) (t.drop i) = R }) (fun i => ⟨36, [(11, dI i.1), (10, dI s.length), (9, dIs b1 s), (1, dIs b2 t), (0, dIs b1 s)], []⟩) (fun i => s.length - i.1) ⟨0, Nat.zero_le _, Nat.zero_le _, hR⟩ ?_ ?_
  · refine Ent.to ?_ ?_ <;> simp (disch := omega) only [wkT_cons, wkX_cons, wkT_nil, wkX_nil, get, Nat.reduceEqDiff, ↓reduceIte, ex_some, wk_self, wk_top, wk_nil, wkB_self, and_self, dI, i64_in, and_true, true_and, Int.natCast_add, Int.natCast_one, Int.ofNat_zero, Int.natCast_zero]
  rintro ⟨i, hi, hit, hr⟩
  rcases at_or s i hi with ⟨v, hv, hlt, hd⟩ | ⟨he, hd⟩
  · rw [drop_cons hv] at hr
    rcases Nat.lt_or_ge i t.length with hlt2 | hge
    · obtain ⟨u, hu⟩ := getE (l := t) (i := i) hlt2
      have hdt : decide ((t.length : Int) ≤ (i : Int)) = false := by rw [decide_eq_false_iff_not]; omega
      have hc := crCmp v u
      rw [drop_cons hu, cmpL] at hr
      by_cases h0 : cmpI v u = 0
      · have e : (cmpI v u != 0) = false := by rw [h0]; rfl
        rw [if_pos h0] at hr
        repeat' (first
    | (with_reducible refine DW.seq ?_)
    | (with_reducible refine DW.block ?_)
    | (with_reducible refine DW.skip ?_)
    | (with_reducible refine DW.exit ?_)
    | (with_reducible refine DW.ret ?_)
    | (with_reducible refine DW.reg ?_)
    | (simp (disch := omega) only [go_sem, Nat.reduceLT, Nat.reduceLeDiff, Nat.reduceAdd, Nat.reduceMul, Nat.reduceEqDiff, ↓reduceIte, reduceCtorEq, Nat.reduceBEq, Nat.reduceBNe, Nat.reducePow, Int.reduceLE, Int.reduceLT, Int.reduceNeg, Int.reduceToNat, Int.reduceEq, Int.reduceAdd, Int.reduceSub, Int.reduceMul, Int.reduceBEq, Int.reduceBNe, Blk.men, Blk.keysIn, hd, hv, hdt, hu, e])
    | (exact retS_of rfl rfl rfl)
    | (refine DW.cond_tt rfl ?_)
    | (refine call_c (hc) (by decide) ?_)
    | (refine DW.cond_ff rfl ?_)
    | (refine DW.cond rfl ?_ ?_ <;> intro hc <;> (try simp only [go_sem] at hc))
    | (refine g_split ?_ ?_ <;> intro hc <;> (try simp only [hc]) <;> (try simp only [go_sem] at hc)))
        refine ⟨⟨i + 1, hlt, hlt2, hr⟩, ?_, Ent.to ?_ ?_⟩ <;> first | (show _ < _; (try simp only); omega) | (simp (disch := omega) only [wkT_cons, wkX_cons, wkT_nil, wkX_nil, get, Nat.reduceEqDiff, ↓reduceIte, ex_some, wk_self, wk_top, wk_nil, wkB_self, and_self, dI, i64_in, and_true, true_and, Int.natCast_add, Int.natCast_one, Int.ofNat_zero, Int.natCast_zero])
      · have e : (cmpI v u != 0) = true := by simpa using h0
        rw [if_neg h0] at hr
        repeat' (first
    | (with_reducible refine DW.seq ?_)
    | (with_reducible refine DW.block ?_)
    | (with_reducible refine DW.skip ?_)
    | (with_reducible refine DW.exit ?_)
    | (with_reducible refine DW.ret ?_)
    | (with_reducible refine DW.reg ?_)
    | (simp (disch := omega) only [go_sem, Nat.reduceLT, Nat.reduceLeDiff, Nat.reduceAdd, Nat.reduceMul, Nat.reduceEqDiff, ↓reduceIte, reduceCtorEq, Nat.reduceBEq, Nat.reduceBNe, Nat.reducePow, Int.reduceLE, Int.reduceLT, Int.reduceNeg, Int.reduceToNat, Int.reduceEq, Int.reduceAdd, Int.reduceSub, Int.reduceMul, Int.reduceBEq, Int.reduceBNe, Blk.men, Blk.keysIn, hd, hv, hdt, hu, e])
    | (exact retS_of rfl rfl rfl)
    | (refine DW.cond_tt rfl ?_)
    | (refine call_c (hc) (by decide) ?_)
    | (refine DW.cond_ff rfl ?_)
    | (refine DW.cond rfl ?_ ?_ <;> intro hc <;> (try simp only [go_sem] at hc))
    | (refine g_split ?_ ?_ <;> intro hc <;> (try simp only [hc]) <;> (try simp only [go_sem] at hc)))
        refine retS_of rfl ?_ rfl; simp only [oneD, St.op, get, Nat.reduceEqDiff, ↓reduceIte, Option.getD_some, bD, dI]
        rw [← hr]
    · have hdt : decide ((t.length : Int) ≤ (i : Int)) = true := by rw [decide_eq_true_eq]; omega
      rw [List.drop_of_length_le hge, cmpL] at hr
      repeat' (first
    | (with_reducible refine DW.seq ?_)
    | (with_reducible refine DW.block ?_)
    | (with_reducible refine DW.skip ?_)
    | (with_reducible refine DW.exit ?_)
    | (with_reducible refine DW.ret ?_)
    | (with_reducible refine DW.reg ?_)
    | (simp (disch := omega) only [go_sem, Nat.reduceLT, Nat.reduceLeDiff, Nat.reduceAdd, Nat.reduceMul, Nat.reduceEqDiff, ↓reduceIte, reduceCtorEq, Nat.reduceBEq, Nat.reduceBNe, Nat.reducePow, Int.reduceLE, Int.reduceLT, Int.reduceNeg, Int.reduceToNat, Int.reduceEq, Int.reduceAdd, Int.reduceSub, Int.reduceMul, Int.reduceBEq, Int.reduceBNe, Blk.men, Blk.keysIn, hd, hv, hdt])
    | (exact retS_of rfl rfl rfl)
    | (refine DW.cond_tt rfl ?_)
    | (refine DW.cond_ff rfl ?_)
    | (refine DW.cond rfl ?_ ?_ <;> intro hc <;> (try simp only [go_sem] at hc))
    | (refine g_split ?_ ?_ <;> intro hc <;> (try simp only [hc]) <;> (try simp only [go_sem] at hc)))
      refine retS_of rfl ?_ rfl; simp only [oneD, St.op, get, Nat.reduceEqDiff, ↓reduceIte, Option.getD_some, bD, dI]
      rw [← hr]
  · rw [List.drop_of_length_le (by omega : s.length ≤ i)] at hr
    rcases Nat.lt_or_ge s.length t.length with h1 | h1
    · have hdl : decide ((s.length : Int) < (t.length : Int)) = true := by rw [decide_eq_true_eq]; omega
      obtain ⟨u, hu⟩ := getE (l := t) (i := i) (by omega)
      rw [drop_cons hu, cmpL] at hr
      repeat' (first
    | (with_reducible refine DW.seq ?_)
    | (with_reducible refine DW.block ?_)
    | (with_reducible refine DW.skip ?_)
    | (with_reducible refine DW.exit ?_)
    | (with_reducible refine DW.ret ?_)
    | (with_reducible refine DW.reg ?_)
    | (simp (disch := omega) only [go_sem, Nat.reduceLT, Nat.reduceLeDiff, Nat.reduceAdd, Nat.reduceMul, Nat.reduceEqDiff, ↓reduceIte, reduceCtorEq, Nat.reduceBEq, Nat.reduceBNe, Nat.reducePow, Int.reduceLE, Int.reduceLT, Int.reduceNeg, Int.reduceToNat, Int.reduceEq, Int.reduceAdd, Int.reduceSub, Int.reduceMul, Int.reduceBEq, Int.reduceBNe, Blk.men, Blk.keysIn, hd, hdl])
    | (exact retS_of rfl rfl rfl)
    | (refine DW.cond_tt rfl ?_)
    | (refine DW.cond_ff rfl ?_)
    | (refine DW.cond rfl ?_ ?_ <;> intro hc <;> (try simp only [go_sem] at hc))
    | (refine g_split ?_ ?_ <;> intro hc <;> (try simp only [hc]) <;> (try simp only [go_sem] at hc)))
      refine retS_of rfl ?_ rfl; simp only [oneD, St.op, get, Nat.reduceEqDiff, ↓reduceIte, Option.getD_some, bD, dI]
      rw [← hr]
    · have hdl : decide ((s.length : Int) < (t.length : Int)) = false := by rw [decide_eq_false_iff_not]; omega
      rw [List.drop_of_length_le (by omega : t.length ≤ i), cmpL] at hr
      repeat' (first
    | (with_reducible refine DW.seq ?_)
    | (with_reducible refine DW.block ?_)
    | (with_reducible refine DW.skip ?_)
    | (with_reducible refine DW.exit ?_)
    | (with_reducible refine DW.ret ?_)
    | (with_reducible refine DW.reg ?_)
    | (simp (disch := omega) only [go_sem, Nat.reduceLT, Nat.reduceLeDiff, Nat.reduceAdd, Nat.reduceMul, Nat.reduceEqDiff, ↓reduceIte, reduceCtorEq, Nat.reduceBEq, Nat.reduceBNe, Nat.reducePow, Int.reduceLE, Int.reduceLT, Int.reduceNeg, Int.reduceToNat, Int.reduceEq, Int.reduceAdd, Int.reduceSub, Int.reduceMul, Int.reduceBEq, Int.reduceBNe, Blk.men, Blk.keysIn, hd, hdl])
    | (exact retS_of rfl rfl rfl)
    | (refine DW.cond_tt rfl ?_)
    | (refine DW.cond_ff rfl ?_)
    | (refine DW.cond rfl ?_ ?_ <;> intro hc <;> (try simp only [go_sem] at hc))
    | (refine g_split ?_ ?_ <;> intro hc <;> (try simp only [hc]) <;> (try simp only [go_sem] at hc)))
      refine retS_of rfl ?_ rfl; simp only [oneD, St.op, get, Nat.reduceEqDiff, ↓reduceIte, Option.getD_some, bD, dI]
      rw [← hr]
def isOut (off lo hi x : Int) : Bool := decide (highT off x < lo) || decide (hi < lowT off x)
def outI (off lo hi : Int) : Nat → List Int → List Int
  | _, [] => []
  | i, x :: t => if isOut off lo hi x then (i : Int) :: outI off lo hi (i + 1) t else outI off lo hi (i + 1) t
theorem outI_app (off lo hi : Int) : ∀ (s t : List Int) (i : Nat), outI off lo hi i (s ++ t) = outI off lo hi i s ++ outI off lo hi (i + s.length) t
  | [], t, i => rfl
  | x :: s, t, i => by
    have ih := outI_app off lo hi s t (i + 1)
    simp only [List.cons_append, outI, ih, List.length_cons]
    have e : i + 1 + s.length = i + (s.length + 1) := by omega
    rw [e]
    split <;> simp
theorem outI_len (off lo hi : Int) : ∀ (s : List Int) (i : Nat), (outI off lo hi i s).length ≤ s.length
  | [], _ => Nat.le_refl _
  | x :: s, i => by
    have ih := outI_len off lo hi s (i + 1)
    simp only [outI]
    split <;> simp <;> omega
theorem outI_take {off lo hi : Int} {rs : List Int} {i : Nat} {x : Int} (h : rs[i]? = some x) : outI off lo hi 0 (rs.take (i + 1)) = if isOut off lo hi x then outI off lo hi 0 (rs.take i) ++ [(i : Int)] else outI off lo hi 0 (rs.take i) := by
  have hlt := (List.getElem?_eq_some_iff.1 h).1
  rw [List.take_add_one, h, Option.toList_some, outI_app, List.length_take, Nat.min_eq_left (Nat.le_of_lt hlt), Nat.zero_add]
  simp only [outI]
  split <;> simp
set_option maxHeartbeats 1000000 in
theorem crOutside (b : Bool) (off lo hi : Int) (rs : List Int) (ho : 0 ≤ off ∧ off ≤ 1000) (hl : rs.length ≤ 100) (h : ∀ x ∈ rs, 0 ≤ x ∧ x ≤ 100000) : DCall Tryd.prog 66 [dI off, dIs b rs, .agg [dI lo, dI hi]] [] (dIs false (outI off lo hi 0 rs)) [] := by
  refine DCall.of Tryd.func66 sf66 hb66 (Nat.le_of_ble_eq_true rfl) (okRes_nil fun _ => rfl) ?_; simp only [s66, idxs, Nat.reduceAdd]
  repeat' (first
    | (with_reducible refine DW.seq ?_)
    | (with_reducible refine DW.block ?_)
    | (with_reducible refine DW.skip ?_)
    | (with_reducible refine DW.exit ?_)
    | (with_reducible refine DW.ret ?_)
    | (with_reducible refine DW.reg ?_)
    | (simp (disch := omega) only [go_sem, Nat.reduceLT, Nat.reduceLeDiff, Nat.reduceAdd, Nat.reduceMul, Nat.reduceEqDiff, ↓reduceIte, reduceCtorEq, Nat.reduceBEq, Nat.reduceBNe, Nat.reducePow, Int.reduceLE, Int.reduceLT, Int.reduceNeg, Int.reduceToNat, Int.reduceEq, Int.reduceAdd, Int.reduceSub, Int.reduceMul, Int.reduceBEq, Int.reduceBNe, Blk.men, Blk.keysIn])
    | (exact retS_of rfl rfl rfl)
    | (refine DW.cond_tt rfl ?_)
    | (refine DW.cond_ff rfl ?_)
    | (refine DW.cond rfl ?_ ?_ <;> intro hc <;> (try simp only [go_sem] at hc))
    | (refine g_split ?_ ?_ <;> intro hc <;> (try simp only [hc]) <;> (try simp only [go_sem] at hc)))
  refine DW.ent (Ent.adopt 6 35 1 rfl rfl rfl) ?_
  simp (disch := omega) only [go_sem, Nat.reduceLT, Nat.reduceLeDiff, Nat.reduceAdd, Nat.reduceMul, Nat.reduceEqDiff, ↓reduceIte, reduceCtorEq, Nat.reduceBEq, Nat.reduceBNe, Nat.reducePow, Int.reduceLE, Int.reduceLT, Int.reduceNeg, Int.reduceToNat, Int.reduceEq, Int.reduceAdd, Int.reduceSub, Int.reduceMul, Int.reduceBEq, Int.reduceBNe, Blk.men, Blk.keysIn]
  refine DW.loop (ι := { i : Nat // i ≤ rs.length }) (fun i => ⟨38, [(12, dI i.1), (11, dI rs.length), (10, dIs b rs), (6, .own 35), (5, .box 5 0), (0, dI off)], [(35, .row 1 (rowC (rows eI (outI off lo hi 0 (rs.take i.1))))), (5, .box [dI lo, dI hi])]⟩) (fun i => rs.length - i.1) ⟨0, Nat.zero_le _⟩ ?_ ?_
  · refine Ent.to ?_ ?_ <;> simp (disch := omega) only [wkT_cons, wkX_cons, wkT_nil, wkX_nil, get, Nat.reduceEqDiff, ↓reduceIte, ex_some, wk_self, wk_top, wk_nil, wkB_self, and_self, dI, i64_in, and_true, true_and, Int.natCast_add, Int.natCast_one, Int.ofNat_zero, Int.natCast_zero, List.take_zero, outI]
    all_goals exact .refl _
  rintro ⟨i, hi'⟩
  rcases at_or rs i hi' with ⟨x, hx, hlt, hd⟩ | ⟨hend, hd⟩
  · have hs := outI_take (off := off) (lo := lo) (hi := hi) hx
    have hlen := outI_len off lo hi (rs.take i) 0
    have hlt2 : (rs.take i).length ≤ 100 := by rw [List.length_take]; omega
    have ht := crTruth off x ho (h x (List.mem_of_getElem? hx))
    unfold isOut at hs
    generalize outI off lo hi 0 (rs.take i) = a at *
    cases c1 : decide (highT off x < lo) with
    | true =>
      rw [c1] at hs
      simp only [Bool.true_or, if_true] at hs
      repeat' (first
    | (with_reducible refine DW.seq ?_)
    | (with_reducible refine DW.block ?_)
    | (with_reducible refine DW.skip ?_)
    | (with_reducible refine DW.exit ?_)
    | (with_reducible refine DW.ret ?_)
    | (with_reducible refine DW.reg ?_)
    | (simp (disch := omega) only [go_sem, Nat.reduceLT, Nat.reduceLeDiff, Nat.reduceAdd, Nat.reduceMul, Nat.reduceEqDiff, ↓reduceIte, reduceCtorEq, Nat.reduceBEq, Nat.reduceBNe, Nat.reducePow, Int.reduceLE, Int.reduceLT, Int.reduceNeg, Int.reduceToNat, Int.reduceEq, Int.reduceAdd, Int.reduceSub, Int.reduceMul, Int.reduceBEq, Int.reduceBNe, Blk.men, Blk.keysIn, hd, hx, c1])
    | (exact retS_of rfl rfl rfl)
    | (refine DW.cond_tt rfl ?_)
    | (refine call_c (ht) (by decide) ?_)
    | (refine DW.cond_ff rfl ?_)
    | (refine DW.cond rfl ?_ ?_ <;> intro hc <;> (try simp only [go_sem] at hc))
    | (refine g_split ?_ ?_ <;> intro hc <;> (try simp only [hc]) <;> (try simp only [go_sem] at hc)))
      refine ⟨⟨i + 1, hlt⟩, ?_, Ent.to ?_ ?_⟩ <;> first | (show _ < _; (try simp only); omega) | (simp (disch := omega) only [wkT_cons, wkX_cons, wkT_nil, wkX_nil, get, Nat.reduceEqDiff, ↓reduceIte, ex_some, wk_self, wk_top, wk_nil, wkB_self, and_self, dI, i64_in, and_true, true_and, Int.natCast_add, Int.natCast_one, Int.ofNat_zero, Int.natCast_zero,  hs, rowC_snocI])
      all_goals exact .refl _
    | false =>
      cases c2 : decide (hi < lowT off x) with
      | true =>
        rw [c1, c2] at hs
        simp only [Bool.false_or, if_true] at hs
        repeat' (first
    | (with_reducible refine DW.seq ?_)
    | (with_reducible refine DW.block ?_)
    | (with_reducible refine DW.skip ?_)
    | (with_reducible refine DW.exit ?_)
    | (with_reducible refine DW.ret ?_)
    | (with_reducible refine DW.reg ?_)
    | (simp (disch := omega) only [go_sem, Nat.reduceLT, Nat.reduceLeDiff, Nat.reduceAdd, Nat.reduceMul, Nat.reduceEqDiff, ↓reduceIte, reduceCtorEq, Nat.reduceBEq, Nat.reduceBNe, Nat.reducePow, Int.reduceLE, Int.reduceLT, Int.reduceNeg, Int.reduceToNat, Int.reduceEq, Int.reduceAdd, Int.reduceSub, Int.reduceMul, Int.reduceBEq, Int.reduceBNe, Blk.men, Blk.keysIn, hd, hx, c1, c2])
    | (exact retS_of rfl rfl rfl)
    | (refine DW.cond_tt rfl ?_)
    | (refine call_c (ht) (by decide) ?_)
    | (refine DW.cond_ff rfl ?_)
    | (refine DW.cond rfl ?_ ?_ <;> intro hc <;> (try simp only [go_sem] at hc))
    | (refine g_split ?_ ?_ <;> intro hc <;> (try simp only [hc]) <;> (try simp only [go_sem] at hc)))
        refine ⟨⟨i + 1, hlt⟩, ?_, Ent.to ?_ ?_⟩ <;> first | (show _ < _; (try simp only); omega) | (simp (disch := omega) only [wkT_cons, wkX_cons, wkT_nil, wkX_nil, get, Nat.reduceEqDiff, ↓reduceIte, ex_some, wk_self, wk_top, wk_nil, wkB_self, and_self, dI, i64_in, and_true, true_and, Int.natCast_add, Int.natCast_one, Int.ofNat_zero, Int.natCast_zero,  hs, rowC_snocI])
        all_goals exact .refl _
      | false =>
        rw [c1, c2] at hs
        simp only [Bool.false_or, Bool.false_eq_true, if_false] at hs
        repeat' (first
    | (with_reducible refine DW.seq ?_)
    | (with_reducible refine DW.block ?_)
    | (with_reducible refine DW.skip ?_)
    | (with_reducible refine DW.exit ?_)
    | (with_reducible refine DW.ret ?_)
    | (with_reducible refine DW.reg ?_)
    | (simp (disch := omega) only [go_sem, Nat.reduceLT, Nat.reduceLeDiff, Nat.reduceAdd, Nat.reduceMul, Nat.reduceEqDiff, ↓reduceIte, reduceCtorEq, Nat.reduceBEq, Nat.reduceBNe, Nat.reducePow, Int.reduceLE, Int.reduceLT, Int.reduceNeg, Int.reduceToNat, Int.reduceEq, Int.reduceAdd, Int.reduceSub, Int.reduceMul, Int.reduceBEq, Int.reduceBNe, Blk.men, Blk.keysIn, hd, hx, c1, c2])
    | (exact retS_of rfl rfl rfl)
    | (refine DW.cond_tt rfl ?_)
    | (refine call_c (ht) (by decide) ?_)
    | (refine DW.cond_ff rfl ?_)
    | (refine DW.cond rfl ?_ ?_ <;> intro hc <;> (try simp only [go_sem] at hc))
    | (refine g_split ?_ ?_ <;> intro hc <;> (try simp only [hc]) <;> (try simp only [go_sem] at hc)))
        refine ⟨⟨i + 1, hlt⟩, ?_, Ent.to ?_ ?_⟩ <;> first | (show _ < _; (try simp only); omega) | (simp (disch := omega) only [wkT_cons, wkX_cons, wkT_nil, wkX_nil, get, Nat.reduceEqDiff, ↓reduceIte, ex_some, wk_self, wk_top, wk_nil, wkB_self, and_self, dI, i64_in, and_true, true_and, Int.natCast_add, Int.natCast_one, Int.ofNat_zero, Int.natCast_zero,  hs, rowC_snocI])
        all_goals exact .refl _
  · rw [List.take_of_length_le (by omega : rs.length ≤ i)]
    repeat' (first
    | (with_reducible refine DW.seq ?_)
    | (with_reducible refine DW.block ?_)
    | (with_reducible refine DW.skip ?_)
    | (with_reducible refine DW.exit ?_)
    | (with_reducible refine DW.ret ?_)
    | (with_reducible refine DW.reg ?_)
    | (simp (disch := omega) only [go_sem, Nat.reduceLT, Nat.reduceLeDiff, Nat.reduceAdd, Nat.reduceMul, Nat.reduceEqDiff, ↓reduceIte, reduceCtorEq, Nat.reduceBEq, Nat.reduceBNe, Nat.reducePow, Int.reduceLE, Int.reduceLT, Int.reduceNeg, Int.reduceToNat, Int.reduceEq, Int.reduceAdd, Int.reduceSub, Int.reduceMul, Int.reduceBEq, Int.reduceBNe, Blk.men, Blk.keysIn, hd])
    | (exact retS_of rfl rfl rfl)
    | (refine DW.cond_tt rfl ?_)
    | (refine DW.cond_ff rfl ?_)
    | (refine DW.cond rfl ?_ ?_ <;> intro hc <;> (try simp only [go_sem] at hc))
    | (refine g_split ?_ ?_ <;> intro hc <;> (try simp only [hc]) <;> (try simp only [go_sem] at hc)))
    (refine retS_ent (Ent.rel 35 rfl) ?_; simp (disch := omega) only [go_sem, Nat.reduceLT, Nat.reduceLeDiff, Nat.reduceAdd, Nat.reduceMul, Nat.reduceEqDiff, ↓reduceIte, reduceCtorEq, Nat.reduceBEq, Nat.reduceBNe, Nat.reducePow, Int.reduceLE, Int.reduceLT, Int.reduceNeg, Int.reduceToNat, Int.reduceEq, Int.reduceAdd, Int.reduceSub, Int.reduceMul, Int.reduceBEq, Int.reduceBNe, Blk.men, Blk.keysIn])
    refine retS_wk rfl ?_ (by simp only [Blk.nb, rowC_nb, D.nb, D.nbs, C.nb, C.nbs, C.nbss, rows_nb eI_nb, Bool.and_true, Bool.not_false, Bool.and_self, bD, dI, iD]); exact .refl _
def better (out best : List Int) : Bool := decide (orI2 (cmpI out.length best.length) (cmpL out best) < 0)
def oddF (off spread : Int) (rs : List Int) (best : List Int) (e : Int × Nat) : List Int :=
  let out := outI off (highT off e.1) (highT off e.1 + spread) 0 rs
  if e.2 = 0 then out else if better out best then out else best
def oddI (off spread : Int) (rs : List Int) : List Int := rs.zipIdx.foldl (oddF off spread rs) []
theorem oddI_take {off spread : Int} {rs : List Int} {i : Nat} {x : Int} (h : rs[i]? = some x) : ((rs.take (i + 1)).zipIdx).foldl (oddF off spread rs) [] = oddF off spread rs (((rs.take i).zipIdx).foldl (oddF off spread rs) []) (x, i) := by
  have hlt := (List.getElem?_eq_some_iff.1 h).1
  rw [List.take_add_one, h, Option.toList_some, List.zipIdx_append, List.foldl_append, List.length_take, Nat.min_eq_left (Nat.le_of_lt hlt), Nat.zero_add]
  rfl
theorem oddF_len (off spread : Int) (rs : List Int) (e : Int × Nat) (best : List Int) (h : best.length ≤ rs.length) : (oddF off spread rs best e).length ≤ rs.length := by
  have := outI_len off (highT off e.1) (highT off e.1 + spread) rs 0
  unfold oddF
  dsimp only
  split
  · exact this
  · split
    · exact this
    · exact h
theorem odd_fold_len (off spread : Int) (rs : List Int) : ∀ (L : List (Int × Nat)) (best : List Int), best.length ≤ rs.length → (L.foldl (oddF off spread rs) best).length ≤ rs.length
  | [], _, h => h
  | e :: L, best, h => odd_fold_len off spread rs L _ (oddF_len off spread rs e best h)
set_option maxHeartbeats 2000000 in
theorem crOdd (b : Bool) (rs : List Int) (off spread : Int) (hl : rs.length ≤ 20) (ho : 0 ≤ off ∧ off ≤ 1000) (hsp : 0 ≤ spread ∧ spread ≤ 100000) (h : ∀ x ∈ rs, 0 ≤ x ∧ x ≤ 100000) : DCall Tryd.prog 27 [dIs b rs, dI off, dI spread] [] (.tup [dIs false (oddI off spread rs), dI 0]) [] := by
  have w1 := crWithin true 0 1000 [off] (by simp)
  have w2 := crWithin true 0 100000 [spread] (by simp)
  have w3 := crWithin b 0 100000 rs (by omega)
  rw [wthn_yes (by simpa using ho)] at w1
  rw [wthn_yes (by simpa using hsp)] at w2
  rw [wthn_yes h] at w3
  have hd0 : decide ((20 : Int) < (rs.length : Int)) = false := by rw [decide_eq_false_iff_not]; omega
  refine DCall.of Tryd.func27 sf27 hb27 (Nat.le_of_ble_eq_true rfl) (okRes_nil fun _ => rfl) ?_; simp only [s27, idxs, Nat.reduceAdd]
  repeat' (first
    | (with_reducible refine DW.seq ?_)
    | (with_reducible refine DW.block ?_)
    | (with_reducible refine DW.skip ?_)
    | (with_reducible refine DW.exit ?_)
    | (with_reducible refine DW.ret ?_)
    | (with_reducible refine DW.reg ?_)
    | (simp (disch := omega) only [go_sem, Nat.reduceLT, Nat.reduceLeDiff, Nat.reduceAdd, Nat.reduceMul, Nat.reduceEqDiff, ↓reduceIte, reduceCtorEq, Nat.reduceBEq, Nat.reduceBNe, Nat.reducePow, Int.reduceLE, Int.reduceLT, Int.reduceNeg, Int.reduceToNat, Int.reduceEq, Int.reduceAdd, Int.reduceSub, Int.reduceMul, Int.reduceBEq, Int.reduceBNe, Blk.men, Blk.keysIn, hd0])
    | (exact retS_of rfl rfl rfl)
    | (refine DW.cond_tt rfl ?_)
    | (refine call_c (w1) (by decide) ?_)
    | (refine call_c (w2) (by decide) ?_)
    | (refine call_c (w3) (by decide) ?_)
    | (refine DW.cond_ff rfl ?_)
    | (refine DW.cond rfl ?_ ?_ <;> intro hc <;> (try simp only [go_sem] at hc))
    | (refine g_split ?_ ?_ <;> intro hc <;> (try simp only [hc]) <;> (try simp only [go_sem] at hc)))
  refine DW.loop (ι := { i : Nat // i ≤ rs.length }) (fun i => ⟨66, [(31, dI i.1), (30, dI rs.length), (29, dIs b rs), (6, dIs false (((rs.take i.1).zipIdx).foldl (oddF off spread rs) [])), (2, dI spread), (1, dI off), (0, dIs b rs)], []⟩) (fun i => rs.length - i.1) ⟨0, Nat.zero_le _⟩ ?_ ?_
  · refine Ent.to ?_ ?_ <;> simp (disch := omega) only [wkT_cons, wkX_cons, wkT_nil, wkX_nil, get, Nat.reduceEqDiff, ↓reduceIte, ex_some, wk_self, wk_top, wk_nil, wkB_self, and_self, dI, i64_in, and_true, true_and, Int.natCast_add, Int.natCast_one, Int.ofNat_zero, Int.natCast_zero, List.take_zero, List.zipIdx_nil, List.foldl_nil]
    all_goals exact .nil _ _
  rintro ⟨i, hi'⟩
  have hbl := odd_fold_len off spread rs ((rs.take i).zipIdx) [] (Nat.zero_le _)
  rcases at_or rs i hi' with ⟨x, hx, hlt, hd⟩ | ⟨hend, hd⟩
  · have hs := oddI_take (off := off) (spread := spread) hx
    have hxx := h x (List.mem_of_getElem? hx)
    have ht := crTruth off x ho hxx
    have hhi := highT_in ho.1 hxx
    have hout := crOutside b off (highT off x) (highT off x + spread) rs ho (by omega) h
    have hol := outI_len off (highT off x) (highT off x + spread) rs 0
    have hodd : ∀ bst, oddF off spread rs bst (x, i) = if i = 0 then outI off (highT off x) (highT off x + spread) 0 rs else if better (outI off (highT off x) (highT off x + spread) 0 rs) bst then outI off (highT off x) (highT off x + spread) 0 rs else bst := fun _ => rfl
    rw [hodd] at hs
    generalize ((rs.take i).zipIdx).foldl (oddF off spread rs) [] = best at *
    generalize outI off (highT off x) (highT off x + spread) 0 rs = out at *
    have hc1 := crCmp out.length best.length
    have hc2 := crCmpL false false out best (by omega) (by omega)
    have hor := crOr true (cmpI out.length best.length) (cmpL out best)
    rcases i with _ | i
    · have hz : (((0 : Nat) : Int) == 0) = true := rfl
      have hd' : decide ((0 : Int) < (rs.length : Int)) = true := hd
      rw [if_pos rfl] at hs
      repeat' (first
    | (with_reducible refine DW.seq ?_)
    | (with_reducible refine DW.block ?_)
    | (with_reducible refine DW.skip ?_)
    | (with_reducible refine DW.exit ?_)
    | (with_reducible refine DW.ret ?_)
    | (with_reducible refine DW.reg ?_)
    | (simp (disch := omega) only [go_sem, Nat.reduceLT, Nat.reduceLeDiff, Nat.reduceAdd, Nat.reduceMul, Nat.reduceEqDiff, ↓reduceIte, reduceCtorEq, Nat.reduceBEq, Nat.reduceBNe, Nat.reducePow, Int.reduceLE, Int.reduceLT, Int.reduceNeg, Int.reduceToNat, Int.reduceEq, Int.reduceAdd, Int.reduceSub, Int.reduceMul, Int.reduceBEq, Int.reduceBNe, Blk.men, Blk.keysIn, hd', hx, hz])
    | (exact retS_of rfl rfl rfl)
    | (refine DW.cond_tt rfl ?_)
    | (refine call_c (ht) (by decide) ?_)
    | (refine call_c (hout) (by decide) ?_)
    | (refine DW.cond_ff rfl ?_)
    | (refine DW.cond rfl ?_ ?_ <;> intro hc <;> (try simp only [go_sem] at hc))
    | (refine g_split ?_ ?_ <;> intro hc <;> (try simp only [hc]) <;> (try simp only [go_sem] at hc)))
      refine ⟨⟨0 + 1, hlt⟩, ?_, Ent.to ?_ ?_⟩ <;> first | (show _ < _; (try simp only); omega) | (simp (disch := omega) only [wkT_cons, wkX_cons, wkT_nil, wkX_nil, get, Nat.reduceEqDiff, ↓reduceIte, ex_some, wk_self, wk_top, wk_nil, wkB_self, and_self, dI, i64_in, and_true, true_and, Int.natCast_add, Int.natCast_one, Int.ofNat_zero, Int.natCast_zero,  hs])
      all_goals exact .refl _
    · have hz : (((i + 1 : Nat) : Int) == 0) = false := by rw [beq_eq_false_iff_ne]; omega
      rw [if_neg (by omega)] at hs
      unfold better at hs
      cases hb : decide (orI2 (cmpI out.length best.length) (cmpL out best) < 0) with
      | true =>
        rw [hb, if_pos rfl] at hs
        repeat' (first
    | (with_reducible refine DW.seq ?_)
    | (with_reducible refine DW.block ?_)
    | (with_reducible refine DW.skip ?_)
    | (with_reducible refine DW.exit ?_)
    | (with_reducible refine DW.ret ?_)
    | (with_reducible refine DW.reg ?_)
    | (simp (disch := omega) only [go_sem, Nat.reduceLT, Nat.reduceLeDiff, Nat.reduceAdd, Nat.reduceMul, Nat.reduceEqDiff, ↓reduceIte, reduceCtorEq, Nat.reduceBEq, Nat.reduceBNe, Nat.reducePow, Int.reduceLE, Int.reduceLT, Int.reduceNeg, Int.reduceToNat, Int.reduceEq, Int.reduceAdd, Int.reduceSub, Int.reduceMul, Int.reduceBEq, Int.reduceBNe, Blk.men, Blk.keysIn, hd, hx, hz, hb])
    | (exact retS_of rfl rfl rfl)
    | (refine DW.cond_tt rfl ?_)
    | (refine call_c (ht) (by decide) ?_)
    | (refine call_c (hout) (by decide) ?_)
    | (refine call_c (hc1) (by decide) ?_)
    | (refine call_c (hc2) (by decide) ?_)
    | (refine call_c (hor) (by decide) ?_)
    | (refine DW.cond_ff rfl ?_)
    | (refine DW.cond rfl ?_ ?_ <;> intro hc <;> (try simp only [go_sem] at hc))
    | (refine g_split ?_ ?_ <;> intro hc <;> (try simp only [hc]) <;> (try simp only [go_sem] at hc)))
        refine ⟨⟨i + 1 + 1, hlt⟩, ?_, Ent.to ?_ ?_⟩ <;> first | (show _ < _; (try simp only); omega) | (simp (disch := omega) only [wkT_cons, wkX_cons, wkT_nil, wkX_nil, get, Nat.reduceEqDiff, ↓reduceIte, ex_some, wk_self, wk_top, wk_nil, wkB_self, and_self, dI, i64_in, and_true, true_and, Int.natCast_add, Int.natCast_one, Int.ofNat_zero, Int.natCast_zero,  hs])
      | false =>
        rw [hb, if_neg (by decide)] at hs
        repeat' (first
    | (with_reducible refine DW.seq ?_)
    | (with_reducible refine DW.block ?_)
    | (with_reducible refine DW.skip ?_)
    | (with_reducible refine DW.exit ?_)
    | (with_reducible refine DW.ret ?_)
    | (with_reducible refine DW.reg ?_)
    | (simp (disch := omega) only [go_sem, Nat.reduceLT, Nat.reduceLeDiff, Nat.reduceAdd, Nat.reduceMul, Nat.reduceEqDiff, ↓reduceIte, reduceCtorEq, Nat.reduceBEq, Nat.reduceBNe, Nat.reducePow, Int.reduceLE, Int.reduceLT, Int.reduceNeg, Int.reduceToNat, Int.reduceEq, Int.reduceAdd, Int.reduceSub, Int.reduceMul, Int.reduceBEq, Int.reduceBNe, Blk.men, Blk.keysIn, hd, hx, hz, hb])
    | (exact retS_of rfl rfl rfl)
    | (refine DW.cond_tt rfl ?_)
    | (refine call_c (ht) (by decide) ?_)
    | (refine call_c (hout) (by decide) ?_)
    | (refine call_c (hc1) (by decide) ?_)
    | (refine call_c (hc2) (by decide) ?_)
    | (refine call_c (hor) (by decide) ?_)
    | (refine DW.cond_ff rfl ?_)
    | (refine DW.cond rfl ?_ ?_ <;> intro hc <;> (try simp only [go_sem] at hc))
    | (refine g_split ?_ ?_ <;> intro hc <;> (try simp only [hc]) <;> (try simp only [go_sem] at hc)))
        refine ⟨⟨i + 1 + 1, hlt⟩, ?_, Ent.to ?_ ?_⟩ <;> first | (show _ < _; (try simp only); omega) | (simp (disch := omega) only [wkT_cons, wkX_cons, wkT_nil, wkX_nil, get, Nat.reduceEqDiff, ↓reduceIte, ex_some, wk_self, wk_top, wk_nil, wkB_self, and_self, dI, i64_in, and_true, true_and, Int.natCast_add, Int.natCast_one, Int.ofNat_zero, Int.natCast_zero,  hs])
  · rw [List.take_of_length_le (by omega : rs.length ≤ i)]
    have ee : (rs.zipIdx).foldl (oddF off spread rs) [] = oddI off spread rs := rfl
    rw [ee]
    generalize oddI off spread rs = best at *
    repeat' (first
    | (with_reducible refine DW.seq ?_)
    | (with_reducible refine DW.block ?_)
    | (with_reducible refine DW.skip ?_)
    | (with_reducible refine DW.exit ?_)
    | (with_reducible refine DW.ret ?_)
    | (with_reducible refine DW.reg ?_)
    | (simp (disch := omega) only [go_sem, Nat.reduceLT, Nat.reduceLeDiff, Nat.reduceAdd, Nat.reduceMul, Nat.reduceEqDiff, ↓reduceIte, reduceCtorEq, Nat.reduceBEq, Nat.reduceBNe, Nat.reducePow, Int.reduceLE, Int.reduceLT, Int.reduceNeg, Int.reduceToNat, Int.reduceEq, Int.reduceAdd, Int.reduceSub, Int.reduceMul, Int.reduceBEq, Int.reduceBNe, Blk.men, Blk.keysIn, hd])
    | (exact retS_of rfl rfl rfl)
    | (refine DW.cond_tt rfl ?_)
    | (refine DW.cond_ff rfl ?_)
    | (refine DW.cond rfl ?_ ?_ <;> intro hc <;> (try simp only [go_sem] at hc))
    | (refine g_split ?_ ?_ <;> intro hc <;> (try simp only [hc]) <;> (try simp only [go_sem] at hc)))
    refine retS_wk rfl ?_ (by simp only [Blk.nb, rowC_nb, D.nb, D.nbs, C.nb, C.nbs, C.nbss, rows_nb eI_nb, Bool.and_true, Bool.not_false, Bool.and_self, bD, dI, iD]); exact .refl _
end Go.Dw.Seat
end
section
set_option linter.unusedSimpArgs false
set_option maxRecDepth 100000
namespace Go.Dw.Seat
open Go Go.Dw Go.Proofs Go.IntWalk
theorem crCollect (s : Nat) (hs : s < 1024) : DCall Tryd.prog 91 [.c (.fn (.func 89) [.v (.int .u64 s)] [])] [] (dIs false (nL (bitsL s))) [] := by
  have h1 := crAppSeq s hs
  refine DCall.of Tryd.func91 sf91 hb91 (Nat.le_of_ble_eq_true rfl) (okRes_nil fun _ => rfl) ?_; simp only [s91, idxs, Nat.reduceAdd]
  repeat' (first
    | (with_reducible refine DW.seq ?_)
    | (with_reducible refine DW.block ?_)
    | (with_reducible refine DW.skip ?_)
    | (with_reducible refine DW.exit ?_)
    | (with_reducible refine DW.ret ?_)
    | (with_reducible refine DW.reg ?_)
    | (simp (disch := omega) only [go_sem, Nat.reduceLT, Nat.reduceLeDiff, Nat.reduceAdd, Nat.reduceMul, Nat.reduceEqDiff, ↓reduceIte, reduceCtorEq, Nat.reduceBEq, Nat.reduceBNe, Nat.reducePow, Int.reduceLE, Int.reduceLT, Int.reduceNeg, Int.reduceToNat, Int.reduceEq, Int.reduceAdd, Int.reduceSub, Int.reduceMul, Int.reduceBEq, Int.reduceBNe, bm_box, bm_row, bk_box, bk_row])
    | (exact retS_of rfl rfl rfl)
    | (refine DW.cond_tt rfl ?_)
    | (refine call_c (h1) (by decide) ?_)
    | (refine DW.cond_ff rfl ?_)
    | (refine DW.cond rfl ?_ ?_ <;> intro hc <;> (try simp only [go_sem] at hc))
    | (refine g_split ?_ ?_ <;> intro hc <;> (try simp only [hc]) <;> (try simp only [go_sem] at hc)))
  refine retS_wk rfl ?_ (by simp only [Blk.nb, rowC_nb, D.nb, D.nbs, C.nb, C.nbs, C.nbss, rows_nb eI_nb, Bool.and_true, Bool.not_false, Bool.and_self, bD, dI, iD, rows_nb eK_nb, rows_nb eLd_nb]); exact .refl _
theorem shl_u0 : ∀ n : Fin 11, shlI IntKind.u64 1 n.1 = ((2 ^ n.1 : Nat) : Int) := by decide +kernel
theorem shl_u {n : Nat} (h : n ≤ 10) : shlI IntKind.u64 1 n = ((2 ^ n : Nat) : Int) := shl_u0 ⟨n, by omega⟩
theorem pow_le10 {n : Nat} (h : n ≤ 10) : 2 ^ n ≤ 1024 := by
  have := Nat.pow_le_pow_right (n := 2) (by decide) h
  simpa using this
theorem inB_of {n s : Nat} (hn : n ≤ 10) (hs : s < 2 ^ n) : inB n s := fun e he => by
  have h1 := (List.mem_filter.1 he).2
  rcases Nat.lt_or_ge e n with h | h
  · exact h
  · have := Nat.testBit_lt_two_pow (Nat.lt_of_lt_of_le hs (Nat.pow_le_pow_right (by decide) h))
    rw [this] at h1; cases h1
def bestS (l : List Lod) (k : Int) (best : List Int) (s : Nat) : List Int :=
  if stI l k s then (if decide ((best.length : Int) < (nL (bitsL s)).length) || (((nL (bitsL s)).length : Int) == best.length && decide (cmpL (nL (bitsL s)) best < 0)) then nL (bitsL s) else best) else best
def mostI (l : List Lod) (k : Int) : List Int := (List.range (2 ^ l.length)).foldl (bestS l k) []
theorem bestS_len (l : List Lod) (k : Int) (best : List Int) (s : Nat) (h : best.length ≤ 10) : (bestS l k best s).length ≤ 10 := by
  have := bits_len s
  have e := nL_length (bitsL s)
  unfold bestS
  split
  · split
    · omega
    · exact h
  · exact h
theorem most_len (l : List Lod) (k : Int) : ∀ (L : List Nat) (best : List Int), best.length ≤ 10 → (L.foldl (bestS l k) best).length ≤ 10
  | [], _, h => h
  | s :: L, best, h => most_len l k L _ (bestS_len l k best s h)
set_option maxHeartbeats 2000000 in
theorem crMost (l : List Lod) (h : ∀ b ∈ l, b.ok) (hl : l.length ≤ 10) (t : List (Int × Int)) (days : Int) (ht : TabOk t days) : DCall Tryd.prog 46 [.c (.sl false 4 (rows eLd l)), .c (.sl false 2 (rows eK t)), dI days] [] (.tup [dIs false (mostI l (lastI days t 0)), dI 0]) [] := by
  have h1 := crPiler l h hl t days ht
  have hk := lastI_b days t 0 (fun s hs => (ht.mem s hs).2) (by decide)
  have hsh := shl_u hl
  have hpw := pow_le10 hl
  generalize lastI days t 0 = k at *
  refine DCall.of Tryd.func46 sf46 hb46 (Nat.le_of_ble_eq_true rfl) (okRes_nil fun _ => rfl) ?_; simp only [s46, idxs, Nat.reduceAdd]
  repeat' (first
    | (with_reducible refine DW.seq ?_)
    | (with_reducible refine DW.block ?_)
    | (with_reducible refine DW.skip ?_)
    | (with_reducible refine DW.exit ?_)
    | (with_reducible refine DW.ret ?_)
    | (with_reducible refine DW.reg ?_)
    | (simp (disch := omega) only [go_sem, Nat.reduceLT, Nat.reduceLeDiff, Nat.reduceAdd, Nat.reduceMul, Nat.reduceEqDiff, ↓reduceIte, reduceCtorEq, Nat.reduceBEq, Nat.reduceBNe, Nat.reducePow, Int.reduceLE, Int.reduceLT, Int.reduceNeg, Int.reduceToNat, Int.reduceEq, Int.reduceAdd, Int.reduceSub, Int.reduceMul, Int.reduceBEq, Int.reduceBNe, bm_box, bm_row, bk_box, bk_row])
    | (exact retS_of rfl rfl rfl)
    | (refine DW.cond_tt rfl ?_)
    | (refine DW.cond_ff rfl ?_)
    | (refine DW.cond rfl ?_ ?_ <;> intro hc <;> (try simp only [go_sem] at hc))
    | (refine g_split ?_ ?_ <;> intro hc <;> (try simp only [hc]) <;> (try simp only [go_sem] at hc)))
  refine call_b h1 ⟨⟨trivial, rfl, rfl, rfl⟩, rfl, rfl, rfl⟩ (by decide) ?_
  simp only [St.addBs, St.putB, St.putO, St.put]
  repeat' (first
    | (with_reducible refine DW.seq ?_)
    | (with_reducible refine DW.block ?_)
    | (with_reducible refine DW.skip ?_)
    | (with_reducible refine DW.exit ?_)
    | (with_reducible refine DW.ret ?_)
    | (with_reducible refine DW.reg ?_)
    | (simp (disch := omega) only [go_sem, Nat.reduceLT, Nat.reduceLeDiff, Nat.reduceAdd, Nat.reduceMul, Nat.reduceEqDiff, ↓reduceIte, reduceCtorEq, Nat.reduceBEq, Nat.reduceBNe, Nat.reducePow, Int.reduceLE, Int.reduceLT, Int.reduceNeg, Int.reduceToNat, Int.reduceEq, Int.reduceAdd, Int.reduceSub, Int.reduceMul, Int.reduceBEq, Int.reduceBNe, bm_box, bm_row, bk_box, bk_row, hsh])
    | (exact retS_of rfl rfl rfl)
    | (refine DW.cond_tt rfl ?_)
    | (refine DW.cond_ff rfl ?_)
    | (refine DW.cond rfl ?_ ?_ <;> intro hc <;> (try simp only [go_sem] at hc))
    | (refine g_split ?_ ?_ <;> intro hc <;> (try simp only [hc]) <;> (try simp only [go_sem] at hc)))
  refine DW.pin 28 rfl rfl fun lm => ?_
  simp (disch := omega) only [go_sem, Nat.reduceLT, Nat.reduceLeDiff, Nat.reduceAdd, Nat.reduceMul, Nat.reduceEqDiff, ↓reduceIte, reduceCtorEq, Nat.reduceBEq, Nat.reduceBNe, Nat.reducePow, Int.reduceLE, Int.reduceLT, Int.reduceNeg, Int.reduceToNat, Int.reduceEq, Int.reduceAdd, Int.reduceSub, Int.reduceMul, Int.reduceBEq, Int.reduceBNe, bm_box, bm_row, bk_box, bk_row, pinT, pinX, pinD, pinDs, pinB, pinO]
  refine DW.ent (Ent.rel 30 rfl) ?_
  simp (disch := omega) only [go_sem, Nat.reduceLT, Nat.reduceLeDiff, Nat.reduceAdd, Nat.reduceMul, Nat.reduceEqDiff, ↓reduceIte, reduceCtorEq, Nat.reduceBEq, Nat.reduceBNe, Nat.reducePow, Int.reduceLE, Int.reduceLT, Int.reduceNeg, Int.reduceToNat, Int.reduceEq, Int.reduceAdd, Int.reduceSub, Int.reduceMul, Int.reduceBEq, Int.reduceBNe, bm_box, bm_row, bk_box, bk_row]
  refine DW.loop (ι := { i : Nat × Memo // i.1 ≤ 2 ^ l.length ∧ MemoOk l k i.2 }) (fun i => ⟨55, [(24, dU i.1.1), (23, dU (2 ^ l.length)), (8, pilD l k lm), (6, dIs false ((List.range i.1.1).foldl (bestS l k) []))], [memB lm i.1.2]⟩) (fun i => 2 ^ l.length - i.1.1) ⟨(0, []), Nat.zero_le _, fun _ _ h => by cases h⟩ ?_ ?_
  · refine Ent.to ?_ ?_ <;> simp (disch := omega) only [wkT_cons, wkX_cons, wkT_nil, wkX_nil, get, Nat.reduceEqDiff, ↓reduceIte, ex_some, wk_self, wk_top, wk_nil, wkB_self, and_self, dI, i64_in, and_true, true_and, Int.natCast_add, Int.natCast_one, Int.ofNat_zero, Int.natCast_zero]
    · exact ⟨.refl _, .nil _ _⟩
    · exact .refl _
  rintro ⟨⟨i, m⟩, hi, hm⟩
  dsimp only at hi hm ⊢
  have hbl := most_len l k (List.range i) [] (by simp)
  rcases Nat.lt_or_ge i (2 ^ l.length) with hlt | hge
  · have hd : decide ((i : Int) < ((2 ^ l.length : Nat) : Int)) = true := by rw [decide_eq_true_eq]; omega
    have hw : IntKind.u64.wrap ((i : Int) + 1) = (i : Int) + 1 := IntWalk.u64_in _ (by omega)
    have hcol := crCollect i (by omega)
    have hL := bits_len i
    have hLn := nL_length (bitsL i)
    have hc3 := crCmpL false false (nL (bitsL i)) ((List.range i).foldl (bestS l k) []) (by omega) (by omega)
    obtain ⟨m', hm', hst⟩ := crStandsI l h k hk lm i (by omega) (inB_of hl hlt) m hm
    generalize hbest : (List.range i).foldl (bestS l k) [] = best at *
    have hs : (List.range (i + 1)).foldl (bestS l k) [] = bestS l k best i := by rw [List.range_succ, List.foldl_append, hbest]; rfl
    have hbS : bestS l k best i = if stI l k i then (if decide ((best.length : Int) < (nL (bitsL i)).length) || (((nL (bitsL i)).length : Int) == best.length && decide (cmpL (nL (bitsL i)) best < 0)) then nL (bitsL i) else best) else best := rfl
    rw [hbS] at hs
    generalize nL (bitsL i) = L at *
    cases hstv : stI l k i with
    | false =>
      rw [hstv] at hst
      rw [hstv, if_neg (by decide)] at hs
      repeat' (first
    | (with_reducible refine DW.seq ?_)
    | (with_reducible refine DW.block ?_)
    | (with_reducible refine DW.skip ?_)
    | (with_reducible refine DW.exit ?_)
    | (with_reducible refine DW.ret ?_)
    | (with_reducible refine DW.reg ?_)
    | (simp (disch := omega) only [go_sem, Nat.reduceLT, Nat.reduceLeDiff, Nat.reduceAdd, Nat.reduceMul, Nat.reduceEqDiff, ↓reduceIte, reduceCtorEq, Nat.reduceBEq, Nat.reduceBNe, Nat.reducePow, Int.reduceLE, Int.reduceLT, Int.reduceNeg, Int.reduceToNat, Int.reduceEq, Int.reduceAdd, Int.reduceSub, Int.reduceMul, Int.reduceBEq, Int.reduceBNe, bm_box, bm_row, bk_box, bk_row, hd])
    | (exact retS_of rfl rfl rfl)
    | (refine DW.cond_tt rfl ?_)
    | (refine DW.cond_ff rfl ?_)
    | (refine DW.cond rfl ?_ ?_ <;> intro hc <;> (try simp only [go_sem] at hc))
    | (refine g_split ?_ ?_ <;> intro hc <;> (try simp only [hc]) <;> (try simp only [go_sem] at hc)))
      refine call_h (h := [memB lm m]) (h' := [memB lm m']) (own := []) hst (Ent.refl _) rfl rfl rfl rfl (by decide) ?_
      simp (disch := omega) only [go_sem, Nat.reduceLT, Nat.reduceLeDiff, Nat.reduceAdd, Nat.reduceMul, Nat.reduceEqDiff, ↓reduceIte, reduceCtorEq, Nat.reduceBEq, Nat.reduceBNe, Nat.reducePow, Int.reduceLE, Int.reduceLT, Int.reduceNeg, Int.reduceToNat, Int.reduceEq, Int.reduceAdd, Int.reduceSub, Int.reduceMul, Int.reduceBEq, Int.reduceBNe, bm_box, bm_row, bk_box, bk_row]
      repeat' (first
    | (with_reducible refine DW.seq ?_)
    | (with_reducible refine DW.block ?_)
    | (with_reducible refine DW.skip ?_)
    | (with_reducible refine DW.exit ?_)
    | (with_reducible refine DW.ret ?_)
    | (with_reducible refine DW.reg ?_)
    | (simp (disch := omega) only [go_sem, Nat.reduceLT, Nat.reduceLeDiff, Nat.reduceAdd, Nat.reduceMul, Nat.reduceEqDiff, ↓reduceIte, reduceCtorEq, Nat.reduceBEq, Nat.reduceBNe, Nat.reducePow, Int.reduceLE, Int.reduceLT, Int.reduceNeg, Int.reduceToNat, Int.reduceEq, Int.reduceAdd, Int.reduceSub, Int.reduceMul, Int.reduceBEq, Int.reduceBNe, bm_box, bm_row, bk_box, bk_row, hw])
    | (exact retS_of rfl rfl rfl)
    | (refine DW.cond_tt rfl ?_)
    | (refine DW.cond_ff rfl ?_)
    | (refine DW.cond rfl ?_ ?_ <;> intro hc <;> (try simp only [go_sem] at hc))
    | (refine g_split ?_ ?_ <;> intro hc <;> (try simp only [hc]) <;> (try simp only [go_sem] at hc)))
      refine ⟨⟨(i + 1, m'), hlt, hm'⟩, ?_, Ent.to ?_ ?_⟩ <;> first | (show _ < _; (try simp only); omega) | (simp (disch := omega) only [wkT_cons, wkX_cons, wkT_nil, wkX_nil, get, Nat.reduceEqDiff, ↓reduceIte, ex_some, wk_self, wk_top, wk_nil, wkB_self, and_self, dI, i64_in, and_true, true_and, Int.natCast_add, Int.natCast_one, Int.ofNat_zero, Int.natCast_zero,  hs])
    | true =>
      rw [hstv] at hst
      rw [hstv, if_pos rfl] at hs
      repeat' (first
    | (with_reducible refine DW.seq ?_)
    | (with_reducible refine DW.block ?_)
    | (with_reducible refine DW.skip ?_)
    | (with_reducible refine DW.exit ?_)
    | (with_reducible refine DW.ret ?_)
    | (with_reducible refine DW.reg ?_)
    | (simp (disch := omega) only [go_sem, Nat.reduceLT, Nat.reduceLeDiff, Nat.reduceAdd, Nat.reduceMul, Nat.reduceEqDiff, ↓reduceIte, reduceCtorEq, Nat.reduceBEq, Nat.reduceBNe, Nat.reducePow, Int.reduceLE, Int.reduceLT, Int.reduceNeg, Int.reduceToNat, Int.reduceEq, Int.reduceAdd, Int.reduceSub, Int.reduceMul, Int.reduceBEq, Int.reduceBNe, bm_box, bm_row, bk_box, bk_row, hd])
    | (exact retS_of rfl rfl rfl)
    | (refine DW.cond_tt rfl ?_)
    | (refine DW.cond_ff rfl ?_)
    | (refine DW.cond rfl ?_ ?_ <;> intro hc <;> (try simp only [go_sem] at hc))
    | (refine g_split ?_ ?_ <;> intro hc <;> (try simp only [hc]) <;> (try simp only [go_sem] at hc)))
      refine call_h (h := [memB lm m]) (h' := [memB lm m']) (own := []) hst (Ent.refl _) rfl rfl rfl rfl (by decide) ?_
      simp (disch := omega) only [go_sem, Nat.reduceLT, Nat.reduceLeDiff, Nat.reduceAdd, Nat.reduceMul, Nat.reduceEqDiff, ↓reduceIte, reduceCtorEq, Nat.reduceBEq, Nat.reduceBNe, Nat.reducePow, Int.reduceLE, Int.reduceLT, Int.reduceNeg, Int.reduceToNat, Int.reduceEq, Int.reduceAdd, Int.reduceSub, Int.reduceMul, Int.reduceBEq, Int.reduceBNe, bm_box, bm_row, bk_box, bk_row]
      cases c1 : decide ((best.length : Int) < L.length) with
      | true =>
        rw [c1, Bool.true_or, if_pos rfl] at hs
        repeat' (first
    | (with_reducible refine DW.seq ?_)
    | (with_reducible refine DW.block ?_)
    | (with_reducible refine DW.skip ?_)
    | (with_reducible refine DW.exit ?_)
    | (with_reducible refine DW.ret ?_)
    | (with_reducible refine DW.reg ?_)
    | (simp (disch := omega) only [go_sem, Nat.reduceLT, Nat.reduceLeDiff, Nat.reduceAdd, Nat.reduceMul, Nat.reduceEqDiff, ↓reduceIte, reduceCtorEq, Nat.reduceBEq, Nat.reduceBNe, Nat.reducePow, Int.reduceLE, Int.reduceLT, Int.reduceNeg, Int.reduceToNat, Int.reduceEq, Int.reduceAdd, Int.reduceSub, Int.reduceMul, Int.reduceBEq, Int.reduceBNe, bm_box, bm_row, bk_box, bk_row, hw, c1])
    | (exact retS_of rfl rfl rfl)
    | (refine DW.cond_tt rfl ?_)
    | (refine call_c (hcol) (by decide) ?_)
    | (refine DW.cond_ff rfl ?_)
    | (refine DW.cond rfl ?_ ?_ <;> intro hc <;> (try simp only [go_sem] at hc))
    | (refine g_split ?_ ?_ <;> intro hc <;> (try simp only [hc]) <;> (try simp only [go_sem] at hc)))
        refine ⟨⟨(i + 1, m'), hlt, hm'⟩, ?_, Ent.to ?_ ?_⟩ <;> first | (show _ < _; (try simp only); omega) | (simp (disch := omega) only [wkT_cons, wkX_cons, wkT_nil, wkX_nil, get, Nat.reduceEqDiff, ↓reduceIte, ex_some, wk_self, wk_top, wk_nil, wkB_self, and_self, dI, i64_in, and_true, true_and, Int.natCast_add, Int.natCast_one, Int.ofNat_zero, Int.natCast_zero,  hs])
      | false =>
        cases c2 : ((L.length : Int) == best.length) with
        | false =>
          rw [c1, c2, Bool.false_or, Bool.false_and, if_neg (by decide)] at hs
          repeat' (first
    | (with_reducible refine DW.seq ?_)
    | (with_reducible refine DW.block ?_)
    | (with_reducible refine DW.skip ?_)
    | (with_reducible refine DW.exit ?_)
    | (with_reducible refine DW.ret ?_)
    | (with_reducible refine DW.reg ?_)
    | (simp (disch := omega) only [go_sem, Nat.reduceLT, Nat.reduceLeDiff, Nat.reduceAdd, Nat.reduceMul, Nat.reduceEqDiff, ↓reduceIte, reduceCtorEq, Nat.reduceBEq, Nat.reduceBNe, Nat.reducePow, Int.reduceLE, Int.reduceLT, Int.reduceNeg, Int.reduceToNat, Int.reduceEq, Int.reduceAdd, Int.reduceSub, Int.reduceMul, Int.reduceBEq, Int.reduceBNe, bm_box, bm_row, bk_box, bk_row, hw, c1, c2])
    | (exact retS_of rfl rfl rfl)
    | (refine DW.cond_tt rfl ?_)
    | (refine call_c (hcol) (by decide) ?_)
    | (refine DW.cond_ff rfl ?_)
    | (refine DW.cond rfl ?_ ?_ <;> intro hc <;> (try simp only [go_sem] at hc))
    | (refine g_split ?_ ?_ <;> intro hc <;> (try simp only [hc]) <;> (try simp only [go_sem] at hc)))
          refine ⟨⟨(i + 1, m'), hlt, hm'⟩, ?_, Ent.to ?_ ?_⟩ <;> first | (show _ < _; (try simp only); omega) | (simp (disch := omega) only [wkT_cons, wkX_cons, wkT_nil, wkX_nil, get, Nat.reduceEqDiff, ↓reduceIte, ex_some, wk_self, wk_top, wk_nil, wkB_self, and_self, dI, i64_in, and_true, true_and, Int.natCast_add, Int.natCast_one, Int.ofNat_zero, Int.natCast_zero,  hs])
        | true =>
          cases c4 : decide (cmpL L best < 0) with
          | true =>
            rw [c1, c2, c4, Bool.false_or, Bool.true_and, if_pos rfl] at hs
            repeat' (first
    | (with_reducible refine DW.seq ?_)
    | (with_reducible refine DW.block ?_)
    | (with_reducible refine DW.skip ?_)
    | (with_reducible refine DW.exit ?_)
    | (with_reducible refine DW.ret ?_)
    | (with_reducible refine DW.reg ?_)
    | (simp (disch := omega) only [go_sem, Nat.reduceLT, Nat.reduceLeDiff, Nat.reduceAdd, Nat.reduceMul, Nat.reduceEqDiff, ↓reduceIte, reduceCtorEq, Nat.reduceBEq, Nat.reduceBNe, Nat.reducePow, Int.reduceLE, Int.reduceLT, Int.reduceNeg, Int.reduceToNat, Int.reduceEq, Int.reduceAdd, Int.reduceSub, Int.reduceMul, Int.reduceBEq, Int.reduceBNe, bm_box, bm_row, bk_box, bk_row, hw, c1, c2, c4])
    | (exact retS_of rfl rfl rfl)
    | (refine DW.cond_tt rfl ?_)
    | (refine call_c (hcol) (by decide) ?_)
    | (refine call_c (hc3) (by decide) ?_)
    | (refine DW.cond_ff rfl ?_)
    | (refine DW.cond rfl ?_ ?_ <;> intro hc <;> (try simp only [go_sem] at hc))
    | (refine g_split ?_ ?_ <;> intro hc <;> (try simp only [hc]) <;> (try simp only [go_sem] at hc)))
            refine ⟨⟨(i + 1, m'), hlt, hm'⟩, ?_, Ent.to ?_ ?_⟩ <;> first | (show _ < _; (try simp only); omega) | (simp (disch := omega) only [wkT_cons, wkX_cons, wkT_nil, wkX_nil, get, Nat.reduceEqDiff, ↓reduceIte, ex_some, wk_self, wk_top, wk_nil, wkB_self, and_self, dI, i64_in, and_true, true_and, Int.natCast_add, Int.natCast_one, Int.ofNat_zero, Int.natCast_zero,  hs])
          | false =>
            rw [c1, c2, c4, Bool.false_or, Bool.true_and, if_neg (by decide)] at hs
            repeat' (first
    | (with_reducible refine DW.seq ?_)
    | (with_reducible refine DW.block ?_)
    | (with_reducible refine DW.skip ?_)
    | (with_reducible refine DW.exit ?_)
    | (with_reducible refine DW.ret ?_)
    | (with_reducible refine DW.reg ?_)
    | (simp (disch := omega) only [go_sem, Nat.reduceLT, Nat.reduceLeDiff, Nat.reduceAdd, Nat.reduceMul, Nat.reduceEqDiff, ↓reduceIte, reduceCtorEq, Nat.reduceBEq, Nat.reduceBNe, Nat.reducePow, Int.reduceLE, Int.reduceLT, Int.reduceNeg, Int.reduceToNat, Int.reduceEq, Int.reduceAdd, Int.reduceSub, Int.reduceMul, Int.reduceBEq, Int.reduceBNe, bm_box, bm_row, bk_box, bk_row, hw, c1, c2, c4])
    | (exact retS_of rfl rfl rfl)
    | (refine DW.cond_tt rfl ?_)
    | (refine call_c (hcol) (by decide) ?_)
    | (refine call_c (hc3) (by decide) ?_)
    | (refine DW.cond_ff rfl ?_)
    | (refine DW.cond rfl ?_ ?_ <;> intro hc <;> (try simp only [go_sem] at hc))
    | (refine g_split ?_ ?_ <;> intro hc <;> (try simp only [hc]) <;> (try simp only [go_sem] at hc)))
            refine ⟨⟨(i + 1, m'), hlt, hm'⟩, ?_, Ent.to ?_ ?_⟩ <;> first | (show _ < _; (try simp only); omega) | (simp (disch := omega) only [wkT_cons, wkX_cons, wkT_nil, wkX_nil, get, Nat.reduceEqDiff, ↓reduceIte, ex_some, wk_self, wk_top, wk_nil, wkB_self, and_self, dI, i64_in, and_true, true_and, Int.natCast_add, Int.natCast_one, Int.ofNat_zero, Int.natCast_zero,  hs])
  · obtain rfl : i = 2 ^ l.length := by omega
    have hd : decide (((2 ^ l.length : Nat) : Int) < ((2 ^ l.length : Nat) : Int)) = false := by rw [decide_eq_false_iff_not]; omega
    have ee : (List.range (2 ^ l.length)).foldl (bestS l k) [] = mostI l k := rfl
    rw [ee]
    generalize mostI l k = best at *
    repeat' (first
    | (with_reducible refine DW.seq ?_)
    | (with_reducible refine DW.block ?_)
    | (with_reducible refine DW.skip ?_)
    | (with_reducible refine DW.exit ?_)
    | (with_reducible refine DW.ret ?_)
    | (with_reducible refine DW.reg ?_)
    | (simp (disch := omega) only [go_sem, Nat.reduceLT, Nat.reduceLeDiff, Nat.reduceAdd, Nat.reduceMul, Nat.reduceEqDiff, ↓reduceIte, reduceCtorEq, Nat.reduceBEq, Nat.reduceBNe, Nat.reducePow, Int.reduceLE, Int.reduceLT, Int.reduceNeg, Int.reduceToNat, Int.reduceEq, Int.reduceAdd, Int.reduceSub, Int.reduceMul, Int.reduceBEq, Int.reduceBNe, bm_box, bm_row, bk_box, bk_row, hd])
    | (exact retS_of rfl rfl rfl)
    | (refine DW.cond_tt rfl ?_)
    | (refine DW.cond_ff rfl ?_)
    | (refine DW.cond rfl ?_ ?_ <;> intro hc <;> (try simp only [go_sem] at hc))
    | (refine g_split ?_ ?_ <;> intro hc <;> (try simp only [hc]) <;> (try simp only [go_sem] at hc)))
    refine retS_wk rfl ?_ (by simp only [Blk.nb, rowC_nb, D.nb, D.nbs, C.nb, C.nbs, C.nbss, rows_nb eI_nb, Bool.and_true, Bool.not_false, Bool.and_self, bD, dI, iD, rows_nb eK_nb, rows_nb eLd_nb]); exact .refl _
end Go.Dw.Seat
end
section
set_option linter.unusedSimpArgs false
set_option maxRecDepth 100000
namespace Go.Dw.Seat
open Go Go.Dw Go.Proofs Go.IntWalk
def fallR (l : List Lod) (days : Int) (t : List (Int × Int)) : Int × Int × Int := match fallT l days t with
  | some (d, i) => (d, (i : Int), 0)
  | none => (0, 0, 7)
set_option maxHeartbeats 1000000 in
theorem crFall (l : List Lod) (h : ∀ b ∈ l, b.ok) (hl : l.length ≤ 50) (t : List (Int × Int)) (days : Int) (ht : TabOk t days) : DCall Tryd.prog 36 [.c (.sl false 4 (rows eLd l)), .c (.sl false 2 (rows eK t)), dI days] [] (.tup [dI (fallR l days t).1, dI (fallR l days t).2.1, dI (fallR l days t).2.2]) [] := by
  generalize hR : fallR l days t = R
  have h1 := crBoxes false l 50 (by omega) (by omega) h
  have h2 := crTable t days ht
  have hlen := ht.len
  refine DCall.of Tryd.func36 sf36 hb36 (Nat.le_of_ble_eq_true rfl) (okRes_nil fun _ => rfl) ?_; simp only [s36, idxs, Nat.reduceAdd]
  repeat' (first
    | (with_reducible refine DW.seq ?_)
    | (with_reducible refine DW.block ?_)
    | (with_reducible refine DW.skip ?_)
    | (with_reducible refine DW.exit ?_)
    | (with_reducible refine DW.ret ?_)
    | (with_reducible refine DW.reg ?_)
    | (simp (disch := omega) only [go_sem, Nat.reduceLT, Nat.reduceLeDiff, Nat.reduceAdd, Nat.reduceMul, Nat.reduceEqDiff, ↓reduceIte, reduceCtorEq, Nat.reduceBEq, Nat.reduceBNe, Nat.reducePow, Int.reduceLE, Int.reduceLT, Int.reduceNeg, Int.reduceToNat, Int.reduceEq, Int.reduceAdd, Int.reduceSub, Int.reduceMul, Int.reduceBEq, Int.reduceBNe, bm_box, bm_row, bk_box, bk_row])
    | (exact retS_of rfl rfl rfl)
    | (refine DW.cond_tt rfl ?_)
    | (refine call_c (h1) (by decide) ?_)
    | (refine call_c (h2) (by decide) ?_)
    | (refine DW.cond_ff rfl ?_)
    | (refine DW.cond rfl ?_ ?_ <;> intro hc <;> (try simp only [go_sem] at hc))
    | (refine g_split ?_ ?_ <;> intro hc <;> (try simp only [hc]) <;> (try simp only [go_sem] at hc)))
  refine DW.loop (ι := { i : Nat // i ≤ t.length ∧ fallR l days (t.drop i) = R }) (fun i => ⟨53, [(32, dI i.1), (31, dI t.length), (30, .c (.sl false 2 (rows eK t))), (10, .box 10 0), (0, .c (.sl false 4 (rows eLd l)))], [(10, .box [.c (.sl false 2 (rows eK t)), dI days])]⟩) (fun i => t.length - i.1) ⟨0, Nat.zero_le _, hR⟩ ?_ ?_
  · refine Ent.to ?_ ?_ <;> simp (disch := omega) only [wkT_cons, wkX_cons, wkT_nil, wkX_nil, get, Nat.reduceEqDiff, ↓reduceIte, ex_some, wk_self, wk_top, wk_nil, wkB_self, and_self, dI, i64_in, and_true, true_and, Int.natCast_add, Int.natCast_one, Int.ofNat_zero, Int.natCast_zero]
  rintro ⟨i, hi, hr⟩
  rcases at_or t i hi with ⟨v, hv, hlt, hd⟩ | ⟨he, hd⟩
  · have hm := ht.mem v (List.mem_of_getElem? hv)
    have hlow := crLowest l h (by omega) v.2 hm.2
    have hdrop : t.drop i = v :: t.drop (i + 1) := by
      have e : t[i] = v := by
        have := List.getElem?_eq_getElem hlt
        rw [hv] at this; cases this; rfl
      rw [← e]; exact List.drop_eq_getElem_cons hlt
    rw [hdrop] at hr
    by_cases hc : days < v.1
    · have hdd : decide (days < v.1) = true := decide_eq_true hc
      have hr' : R = (0, 0, 7) := by rw [← hr, fallR, fallT, if_pos hc]
      repeat' (first
    | (with_reducible refine DW.seq ?_)
    | (with_reducible refine DW.block ?_)
    | (with_reducible refine DW.skip ?_)
    | (with_reducible refine DW.exit ?_)
    | (with_reducible refine DW.ret ?_)
    | (with_reducible refine DW.reg ?_)
    | (simp (disch := omega) only [go_sem, Nat.reduceLT, Nat.reduceLeDiff, Nat.reduceAdd, Nat.reduceMul, Nat.reduceEqDiff, ↓reduceIte, reduceCtorEq, Nat.reduceBEq, Nat.reduceBNe, Nat.reducePow, Int.reduceLE, Int.reduceLT, Int.reduceNeg, Int.reduceToNat, Int.reduceEq, Int.reduceAdd, Int.reduceSub, Int.reduceMul, Int.reduceBEq, Int.reduceBNe, bm_box, bm_row, bk_box, bk_row, hd, hv, hdd, List.map_cons, List.map_nil])
    | (exact retS_of rfl rfl rfl)
    | (refine DW.cond_tt rfl ?_)
    | (refine DW.cond_ff rfl ?_)
    | (refine DW.cond rfl ?_ ?_ <;> intro hc <;> (try simp only [go_sem] at hc))
    | (refine g_split ?_ ?_ <;> intro hc <;> (try simp only [hc]) <;> (try simp only [go_sem] at hc)))
      refine retS_of rfl ?_ rfl; simp only [oneD, St.op, get, Nat.reduceEqDiff, ↓reduceIte, Option.getD_some, bD, dI]
      rw [hr']
    · have hdd : decide (days < v.1) = false := decide_eq_false hc
      cases hf : failN v.2 l with
      | none =>
        have hr' : fallR l days (t.drop (i + 1)) = R := by rw [← hr, fallR, fallR, fallT, if_neg hc, hf]
        simp only [lowR, hf] at hlow
        repeat' (first
    | (with_reducible refine DW.seq ?_)
    | (with_reducible refine DW.block ?_)
    | (with_reducible refine DW.skip ?_)
    | (with_reducible refine DW.exit ?_)
    | (with_reducible refine DW.ret ?_)
    | (with_reducible refine DW.reg ?_)
    | (simp (disch := omega) only [go_sem, Nat.reduceLT, Nat.reduceLeDiff, Nat.reduceAdd, Nat.reduceMul, Nat.reduceEqDiff, ↓reduceIte, reduceCtorEq, Nat.reduceBEq, Nat.reduceBNe, Nat.reducePow, Int.reduceLE, Int.reduceLT, Int.reduceNeg, Int.reduceToNat, Int.reduceEq, Int.reduceAdd, Int.reduceSub, Int.reduceMul, Int.reduceBEq, Int.reduceBNe, bm_box, bm_row, bk_box, bk_row, hd, hv, hdd, List.map_cons, List.map_nil])
    | (exact retS_of rfl rfl rfl)
    | (refine DW.cond_tt rfl ?_)
    | (refine call_c (hlow) (by decide) ?_)
    | (refine DW.cond_ff rfl ?_)
    | (refine DW.cond rfl ?_ ?_ <;> intro hc <;> (try simp only [go_sem] at hc))
    | (refine g_split ?_ ?_ <;> intro hc <;> (try simp only [hc]) <;> (try simp only [go_sem] at hc)))
        refine ⟨⟨i + 1, hlt, hr'⟩, ?_, Ent.to ?_ ?_⟩ <;> first | (show _ < _; (try simp only); omega) | (simp (disch := omega) only [wkT_cons, wkX_cons, wkT_nil, wkX_nil, get, Nat.reduceEqDiff, ↓reduceIte, ex_some, wk_self, wk_top, wk_nil, wkB_self, and_self, dI, i64_in, and_true, true_and, Int.natCast_add, Int.natCast_one, Int.ofNat_zero, Int.natCast_zero])
      | some j =>
        have hr' : R = (v.1, (j : Int), 0) := by rw [← hr, fallR, fallT, if_neg hc, hf]
        simp only [lowR, hf] at hlow
        repeat' (first
    | (with_reducible refine DW.seq ?_)
    | (with_reducible refine DW.block ?_)
    | (with_reducible refine DW.skip ?_)
    | (with_reducible refine DW.exit ?_)
    | (with_reducible refine DW.ret ?_)
    | (with_reducible refine DW.reg ?_)
    | (simp (disch := omega) only [go_sem, Nat.reduceLT, Nat.reduceLeDiff, Nat.reduceAdd, Nat.reduceMul, Nat.reduceEqDiff, ↓reduceIte, reduceCtorEq, Nat.reduceBEq, Nat.reduceBNe, Nat.reducePow, Int.reduceLE, Int.reduceLT, Int.reduceNeg, Int.reduceToNat, Int.reduceEq, Int.reduceAdd, Int.reduceSub, Int.reduceMul, Int.reduceBEq, Int.reduceBNe, bm_box, bm_row, bk_box, bk_row, hd, hv, hdd, List.map_cons, List.map_nil])
    | (exact retS_of rfl rfl rfl)
    | (refine DW.cond_tt rfl ?_)
    | (refine call_c (hlow) (by decide) ?_)
    | (refine DW.cond_ff rfl ?_)
    | (refine DW.cond rfl ?_ ?_ <;> intro hc <;> (try simp only [go_sem] at hc))
    | (refine g_split ?_ ?_ <;> intro hc <;> (try simp only [hc]) <;> (try simp only [go_sem] at hc)))
        refine retS_of rfl ?_ rfl; simp only [oneD, St.op, get, Nat.reduceEqDiff, ↓reduceIte, Option.getD_some, bD, dI]
        rw [hr']
  · rw [he, List.drop_length] at hr
    have hr' : R = (0, 0, 7) := by rw [← hr]; rfl
    repeat' (first
    | (with_reducible refine DW.seq ?_)
    | (with_reducible refine DW.block ?_)
    | (with_reducible refine DW.skip ?_)
    | (with_reducible refine DW.exit ?_)
    | (with_reducible refine DW.ret ?_)
    | (with_reducible refine DW.reg ?_)
    | (simp (disch := omega) only [go_sem, Nat.reduceLT, Nat.reduceLeDiff, Nat.reduceAdd, Nat.reduceMul, Nat.reduceEqDiff, ↓reduceIte, reduceCtorEq, Nat.reduceBEq, Nat.reduceBNe, Nat.reducePow, Int.reduceLE, Int.reduceLT, Int.reduceNeg, Int.reduceToNat, Int.reduceEq, Int.reduceAdd, Int.reduceSub, Int.reduceMul, Int.reduceBEq, Int.reduceBNe, bm_box, bm_row, bk_box, bk_row, hd])
    | (exact retS_of rfl rfl rfl)
    | (refine DW.cond_tt rfl ?_)
    | (refine DW.cond_ff rfl ?_)
    | (refine DW.cond rfl ?_ ?_ <;> intro hc <;> (try simp only [go_sem] at hc))
    | (refine g_split ?_ ?_ <;> intro hc <;> (try simp only [hc]) <;> (try simp only [go_sem] at hc)))
    refine retS_of rfl ?_ rfl; simp only [oneD, St.op, get, Nat.reduceEqDiff, ↓reduceIte, Option.getD_some, bD, dI]
    rw [hr']
def loadsL : List Lod → List (Int × Int)
  | [] => []
  | _ :: t => (sumL t, sumH t) :: loadsL t
theorem replK (n : Nat) : List.replicate n [C.v (.int .i64 0), C.v (.int .i64 0)] = rows eK (List.replicate n (0, 0)) := by simp [rows, eK]
theorem rows_setK (l : List (Int × Int)) (i : Nat) (x y : Int) : List.set (rows eK l) i [.v (.int .i64 x), .v (.int .i64 y)] = rows eK (List.set l i (x, y)) := by simp [rows, List.map_set, eK]
theorem rowC_setK (l : List (Int × Int)) (i : Nat) (x y : Int) : List.set (rowC (rows eK l)) i [.c (.v (.int .i64 x)), .c (.v (.int .i64 y))] = rowC (rows eK (List.set l i (x, y))) := by simp [rowC, rows, List.map_set, eK]
def ldS (a : List (Int × Int)) (e : Nat × Int × Int) : Option Exit × List (Int × Int) := (none, List.set a e.1 e.2)
theorem loads_set : ∀ (t : List Lod) (pre : List (Int × Int)) (post : List (Int × Int)), post.length = t.length → (loadsF pre.length t).foldr (fun e a => List.set a e.1 e.2) (pre ++ post) = pre ++ loadsL t
  | [], pre, post, h => by simp at h; subst h; simp [loadsF, loadsL]
  | b :: t, pre, [], h => by simp at h
  | b :: t, pre, p :: post, h => by
    have ih := loads_set t (pre ++ [p]) post (by simpa using h)
    simp only [List.length_append, List.length_singleton, List.append_assoc, List.singleton_append] at ih
    simp only [loadsF, List.foldr_cons, ih, loadsL]
    rw [List.set_append_right _ _ (Nat.le_refl _), Nat.sub_self]; rfl
theorem loads_run (l : List Lod) (h : ∀ b ∈ l, b.ok) (hl : l.length ≤ 100000) : runIt ldS (List.replicate l.length (0, 0)) (fallS 0 0 (backL l)) = (none, loadsL l) := by
  rw [runIt_all (fun _ _ => rfl), fallS_eq l h hl, List.foldl_reverse]
  have := loads_set l [] (List.replicate l.length (0, 0)) (by simp)
  simp only [List.length_nil, List.nil_append] at this
  exact congrArg (Prod.mk none) this
set_option maxHeartbeats 1000000 in
theorem crLoads (l : List Lod) (h : ∀ b ∈ l, b.ok) (hl : l.length ≤ 50) : DCall Tryd.prog 35 [.c (.sl false 4 (rows eLd l))] [] (.tup [.c (.sl false 2 (rows eK (loadsL l))), dI 0]) [] := by
  have h1 := crBoxes false l 50 (by omega) (by omega) h
  have h2 := crFalling l
  have hit := crFall1 l (by omega) false
  refine DCall.of Tryd.func35 sf35 hb35 (Nat.le_of_ble_eq_true rfl) (okRes_nil fun _ => rfl) ?_; simp only [s35, idxs, Nat.reduceAdd]
  repeat' (first
    | (with_reducible refine DW.seq ?_)
    | (with_reducible refine DW.block ?_)
    | (with_reducible refine DW.skip ?_)
    | (with_reducible refine DW.exit ?_)
    | (with_reducible refine DW.ret ?_)
    | (with_reducible refine DW.reg ?_)
    | (simp (disch := omega) only [go_sem, Nat.reduceLT, Nat.reduceLeDiff, Nat.reduceAdd, Nat.reduceMul, Nat.reduceEqDiff, ↓reduceIte, reduceCtorEq, Nat.reduceBEq, Nat.reduceBNe, Nat.reducePow, Int.reduceLE, Int.reduceLT, Int.reduceNeg, Int.reduceToNat, Int.reduceEq, Int.reduceAdd, Int.reduceSub, Int.reduceMul, Int.reduceBEq, Int.reduceBNe, bm_box, bm_row, bk_box, bk_row, replK])
    | (exact retS_of rfl rfl rfl)
    | (refine DW.cond_tt rfl ?_)
    | (refine call_c (h1) (by decide) ?_)
    | (refine call_c (h2) (by decide) ?_)
    | (refine DW.cond_ff rfl ?_)
    | (refine DW.cond rfl ?_ ?_ <;> intro hc <;> (try simp only [go_sem] at hc))
    | (refine g_split ?_ ?_ <;> intro hc <;> (try simp only [hc]) <;> (try simp only [go_sem] at hc)))
  refine DW.rngBD (fs := []) (caps := [.c (.ro false [.sl false 4 (rows eLd l)] 0)]) (fun y : List (Int × Int) => [(15, .row 2 (rowC (rows eK y))), (5, .box [.own 15])]) (List.replicate l.length (0, 0)) ldS enF (fun e => e.1 < l.length) (fallS 0 0 (backL l)) hit (fun y => y.length = l.length) (by simp) (fun a e ha _ _ => by simpa [ldS] using ha) rfl (fun _ => ⟨rfl, rfl⟩) rfl (by decide) (fun _ _ => rfl) (fun _ _ _ => rfl) (by simp only [List.map_cons, List.map_nil]; decide) (fun _ => rfl) (fun _ => wf_row rfl rfl) (fun _ => nb_row eK_nb _ rfl) (by simp only [List.all_cons, List.all_nil, Blk.nb, rowC_nb, D.nb, D.nbs, C.nb, C.nbs, C.nbss, rows_nb eI_nb, Bool.and_true, Bool.not_false, Bool.and_self, bD, dI, iD, rows_nb eK_nb, rows_nb eLd_nb]) (fun a e => rfl) ?_ ?_
  · rintro y hy ⟨i, lo, hi⟩ hi' v
    dsimp only at hi'
    have hiy : ((i : Nat) < y.length) = True := eq_true (by omega)
    obtain ⟨u, hu⟩ := getE (l := y) (i := i) (by omega)
    simp (disch := omega) only [go_sem, Nat.reduceLT, Nat.reduceLeDiff, Nat.reduceAdd, Nat.reduceMul, Nat.reduceEqDiff, ↓reduceIte, reduceCtorEq, Nat.reduceBEq, Nat.reduceBNe, Nat.reducePow, Int.reduceLE, Int.reduceLT, Int.reduceNeg, Int.reduceToNat, Int.reduceEq, Int.reduceAdd, Int.reduceSub, Int.reduceMul, Int.reduceBEq, Int.reduceBNe, bm_box, bm_row, bk_box, bk_row, List.map_cons, List.map_nil, ldS]
    repeat' (first
    | (with_reducible refine DW.seq ?_)
    | (with_reducible refine DW.block ?_)
    | (with_reducible refine DW.skip ?_)
    | (with_reducible refine DW.exit ?_)
    | (with_reducible refine DW.ret ?_)
    | (with_reducible refine DW.reg ?_)
    | (simp (disch := omega) only [go_sem, Nat.reduceLT, Nat.reduceLeDiff, Nat.reduceAdd, Nat.reduceMul, Nat.reduceEqDiff, ↓reduceIte, reduceCtorEq, Nat.reduceBEq, Nat.reduceBNe, Nat.reducePow, Int.reduceLE, Int.reduceLT, Int.reduceNeg, Int.reduceToNat, Int.reduceEq, Int.reduceAdd, Int.reduceSub, Int.reduceMul, Int.reduceBEq, Int.reduceBNe, bm_box, bm_row, bk_box, bk_row, hu, hiy, rows_setK, List.map_cons, List.map_nil])
    | (exact retS_of rfl rfl rfl)
    | (refine DW.cond_tt rfl ?_)
    | (refine DW.cond_ff rfl ?_)
    | (refine DW.cond rfl ?_ ?_ <;> intro hc <;> (try simp only [go_sem] at hc))
    | (refine g_split ?_ ?_ <;> intro hc <;> (try simp only [hc]) <;> (try simp only [go_sem] at hc)))
    refine round_end rfl rfl (Ent.to ?_ ?_) <;> simp (disch := omega) only [wkT_cons, wkX_cons, wkT_nil, wkX_nil, get, Nat.reduceEqDiff, ↓reduceIte, ex_some, wk_self, wk_top, wk_nil, wkB_self, and_self, dI, i64_in, and_true, true_and, Int.natCast_add, Int.natCast_one, Int.ofNat_zero, Int.natCast_zero, capB, List.cons_append, List.nil_append, rowC_setK]
  · rw [loads_run l h (by omega)]
    repeat' (first
    | (with_reducible refine DW.seq ?_)
    | (with_reducible refine DW.block ?_)
    | (with_reducible refine DW.skip ?_)
    | (with_reducible refine DW.exit ?_)
    | (with_reducible refine DW.ret ?_)
    | (with_reducible refine DW.reg ?_)
    | (simp (disch := omega) only [go_sem, Nat.reduceLT, Nat.reduceLeDiff, Nat.reduceAdd, Nat.reduceMul, Nat.reduceEqDiff, ↓reduceIte, reduceCtorEq, Nat.reduceBEq, Nat.reduceBNe, Nat.reducePow, Int.reduceLE, Int.reduceLT, Int.reduceNeg, Int.reduceToNat, Int.reduceEq, Int.reduceAdd, Int.reduceSub, Int.reduceMul, Int.reduceBEq, Int.reduceBNe, bm_box, bm_row, bk_box, bk_row])
    | (exact retS_of rfl rfl rfl)
    | (refine DW.cond_tt rfl ?_)
    | (refine DW.cond_ff rfl ?_)
    | (refine DW.cond rfl ?_ ?_ <;> intro hc <;> (try simp only [go_sem] at hc))
    | (refine g_split ?_ ?_ <;> intro hc <;> (try simp only [hc]) <;> (try simp only [go_sem] at hc)))
    (refine retS_ent (Ent.rel 15 rfl) ?_; simp (disch := omega) only [go_sem, Nat.reduceLT, Nat.reduceLeDiff, Nat.reduceAdd, Nat.reduceMul, Nat.reduceEqDiff, ↓reduceIte, reduceCtorEq, Nat.reduceBEq, Nat.reduceBNe, Nat.reducePow, Int.reduceLE, Int.reduceLT, Int.reduceNeg, Int.reduceToNat, Int.reduceEq, Int.reduceAdd, Int.reduceSub, Int.reduceMul, Int.reduceBEq, Int.reduceBNe, bm_box, bm_row, bk_box, bk_row])
    refine retS_wk rfl ?_ (by simp only [Blk.nb, rowC_nb, D.nb, D.nbs, C.nb, C.nbs, C.nbss, rows_nb eI_nb, Bool.and_true, Bool.not_false, Bool.and_self, bD, dI, iD, rows_nb eK_nb, rows_nb eLd_nb]); exact .refl _
end Go.Dw.Seat
end
section
set_option linter.unusedSimpArgs false
set_option maxRecDepth 100000
namespace Go.Dw.Seat
open Go Go.Dw Go.Proofs Go.IntWalk
structure LeB (b c : Lod) : Prop where
  s : b.sl ≤ c.sl
  w : c.wh ≤ b.wh
theorem LeB.refl (b : Lod) : LeB b b := ⟨Int.le_refl _, Int.le_refl _⟩
theorem bears_le {b c : Lod} (hb : b.ok) (h : LeB b c) {k k' : Int} (hk : 0 ≤ k) (hkk : k ≤ k') : bearsI b k ≤ bearsI c k' := by
  have h1 := hb.strong
  have m1 : 0 ≤ b.sl * k := Int.mul_nonneg h1.1 hk
  have m2 : b.sl * k ≤ c.sl * k' := Int.mul_le_mul h.s hkk hk (by have := h.s; omega)
  unfold bearsI
  rw [Int.tdiv_eq_ediv_of_nonneg m1, Int.tdiv_eq_ediv_of_nonneg (by omega)]
  omega
def LeLs (l l' : List Lod) : Prop := l.length = l'.length ∧ ∀ (i : Nat) (b c : Lod), l[i]? = some b → l'[i]? = some c → LeB b c
theorem whAt_le {l l' : List Lod} (h : LeLs l l') (i : Nat) : whAt l' i ≤ whAt l i := by
  unfold whAt
  cases h1 : l[i]? with
  | none =>
    have : l'[i]? = none := List.getElem?_eq_none (by rw [← h.1]; exact List.getElem?_eq_none_iff.1 h1)
    rw [this]; exact Int.le_refl _
  | some b =>
    obtain ⟨c, hc⟩ := getE (l := l') (i := i) (by rw [← h.1]; exact (List.getElem?_eq_some_iff.1 h1).1)
    rw [hc]; exact (h.2 i b c h1 hc).w
theorem bearsAt_le {l l' : List Lod} (hl : ∀ b ∈ l, b.ok) (h : LeLs l l') {k k' : Int} (hk : 0 ≤ k) (hkk : k ≤ k') (i : Nat) : bearsAt l k i ≤ bearsAt l' k' i := by
  unfold bearsAt
  cases h1 : l[i]? with
  | none =>
    have : l'[i]? = none := List.getElem?_eq_none (by rw [← h.1]; exact List.getElem?_eq_none_iff.1 h1)
    rw [this]; exact Int.le_refl _
  | some b =>
    obtain ⟨c, hc⟩ := getE (l := l') (i := i) (by rw [← h.1]; exact (List.getElem?_eq_some_iff.1 h1).1)
    rw [hc]; exact bears_le (hl b (List.mem_of_getElem? h1)) (h.2 i b c h1 hc) hk hkk
theorem wt_fold_le {l l' : List Lod} (h : LeLs l l') : ∀ (L : List Nat) {a a' : Int}, a' ≤ a → L.foldl (fun a e => a + whAt l' e) a' ≤ L.foldl (fun a e => a + whAt l e) a
  | [], _, _, h1 => h1
  | e :: L, a, a', h1 => by
    have := whAt_le h e
    exact wt_fold_le h L (by show a' + whAt l' e ≤ a + whAt l e; omega)
theorem wtI_le {l l' : List Lod} (h : LeLs l l') (s : Nat) : wtI l' s ≤ wtI l s := wt_fold_le h (bitsL s) (Int.le_refl _)
theorem stI_mono {l l' : List Lod} (hl : ∀ b ∈ l, b.ok) (h : LeLs l l') {k k' : Int} (hk : 0 ≤ k) (hkk : k ≤ k') : ∀ n s, s ≤ n → s < 1024 → stI l k s = true → stI l' k' s = true
  | 0, s, hn, hs, _ => by
    obtain rfl : s = 0 := by omega
    rfl
  | n + 1, s, hn, hs, hst => by
    rw [stI_eq _ _ hs] at hst ⊢
    simp only [Bool.or_eq_true, decide_eq_true_eq, List.any_eq_true, Bool.and_eq_true] at hst ⊢
    rcases hst with h0 | ⟨e, he, h1, h2⟩
    · exact .inl h0
    · have hlt := remB_mem hs he
      refine .inr ⟨e, he, ?_, stI_mono hl h hk hkk n (remB s e) (by omega) (by omega) h2⟩
      have := wtI_le h (remB s e)
      have := bearsAt_le hl h hk hkk e
      omega
theorem most_spec (l : List Lod) (k : Int) : ∀ n, (∃ s, (s < n ∨ s = 0) ∧ stI l k s = true ∧ (List.range n).foldl (bestS l k) [] = nL (bitsL s)) ∧ ∀ s, s < n → stI l k s = true → (bitsL s).length ≤ ((List.range n).foldl (bestS l k) []).length
  | 0 => ⟨⟨0, .inr rfl, rfl, rfl⟩, fun s h => by omega⟩
  | n + 1 => by
    obtain ⟨⟨s, h1, h2, h3⟩, h4⟩ := most_spec l k n
    have e : (List.range (n + 1)).foldl (bestS l k) [] = bestS l k ((List.range n).foldl (bestS l k) []) n := by rw [List.range_succ, List.foldl_append]; rfl
    rw [e]
    generalize (List.range n).foldl (bestS l k) [] = best at *
    unfold bestS
    have hln := nL_length (bitsL n)
    cases hst : stI l k n with
    | false =>
      rw [if_neg (by decide)]
      refine ⟨⟨s, by omega, h2, h3⟩, fun t ht hts => ?_⟩
      have : t ≠ n := fun e => by rw [e, hst] at hts; cases hts
      exact h4 t (by omega) hts
    | true =>
      rw [if_pos rfl]
      cases hc : (decide ((best.length : Int) < (nL (bitsL n)).length) || (((nL (bitsL n)).length : Int) == best.length && decide (cmpL (nL (bitsL n)) best < 0))) with
      | true =>
        rw [if_pos rfl]
        refine ⟨⟨n, by omega, hst, rfl⟩, fun t ht hts => ?_⟩
        have hge : best.length ≤ (nL (bitsL n)).length := by
          simp only [Bool.or_eq_true, decide_eq_true_eq, Bool.and_eq_true, beq_iff_eq] at hc
          omega
        by_cases et : t = n
        · rw [et, hln]; exact Nat.le_refl _
        · have := h4 t (by omega) hts; omega
      | false =>
        rw [if_neg (by decide)]
        refine ⟨⟨s, by omega, h2, h3⟩, fun t ht hts => ?_⟩
        by_cases et : t = n
        · simp only [Bool.or_eq_false_iff, decide_eq_false_iff_not] at hc
          rw [et]; omega
        · exact h4 t (by omega) hts
theorem most_mono {l l' : List Lod} (hl : ∀ b ∈ l, b.ok) (hlen : l.length ≤ 10) (h : LeLs l l') {k k' : Int} (hk : 0 ≤ k) (hkk : k ≤ k') : (mostI l k).length ≤ (mostI l' k').length := by
  obtain ⟨⟨s, h1, h2, h3⟩, _⟩ := most_spec l k (2 ^ l.length)
  have hp := pow_le10 hlen
  have hp1 : 0 < 2 ^ l.length := Nat.two_pow_pos _
  have hm := (most_spec l' k' (2 ^ l'.length)).2 s (by rw [← h.1]; omega) (stI_mono hl h hk hkk s s (Nat.le_refl _) (by omega) h2)
  unfold mostI
  rw [h3, nL_length]
  exact hm
theorem highI_b {b : Lod} (h : b.ok) {t : List (Int × Int)} {days : Int} (ht : TabOk t days) : 1 ≤ highI b t days ∧ highI b t days ≤ 50 := by
  have hb := bears_b h (kept_b ht.toTabF days)
  have hw := h.weight
  unfold highI
  generalize bearsI b (lastI days t 0) = B at *
  by_cases h0 : b.wh = 0
  · rw [if_pos h0]; omega
  · rw [if_neg h0]
    have : 0 ≤ B.tdiv b.wh := (tdiv_b hb (by omega)).1
    split <;> omega
theorem kept_le {t : List (Int × Int)} {days : Int} (ht : TabF t) {day : Int} (hd : day ≤ days) : lastI days t 0 ≤ lastI day t 0 ∨ (lastI day t 0 = 0 ∧ day < 0) := by
  obtain ⟨k, t', rfl, h0, h1⟩ := ht.head
  have ha := ht.asc
  rw [lastI_cons, lastI_cons]
  by_cases hdd : 0 ≤ day
  · rw [if_pos hdd, if_pos (by omega)]
    exact .inl (lastI_anti hd ha.2 (fun v hv => (ha.1 v hv).2))
  · right
    rw [if_neg hdd]
    exact ⟨lastI_past (fun v hv => by have := (ha.1 v hv).1; simp only at this; omega), by omega⟩
theorem high_mono {b c : Lod} (hb : b.ok) (hc : c.ok) (h : LeB b c) {t : List (Int × Int)} {days day : Int} (ht : TabOk t days) (hd : day ≤ days) (h0 : 0 ≤ day) : highI b t days ≤ highI c t day := by
  have hk : lastI days t 0 ≤ lastI day t 0 := (kept_le ht.toTabF hd).elim id (fun h => by omega)
  have hkb := kept_b ht.toTabF days
  have hle := bears_le hb h hkb.1 hk
  have hbb := bears_b hb hkb
  have hbc := bears_b hc (kept_b ht.toTabF day)
  have w1 := hb.weight
  have w2 := hc.weight
  have hw := h.w
  unfold highI
  generalize bearsI b (lastI days t 0) = B at *
  generalize bearsI c (lastI day t 0) = C at *
  by_cases e1 : c.wh = 0
  · rw [if_pos e1]
    split
    · omega
    · split <;> omega
  · rw [if_neg e1, if_neg (by omega : ¬ b.wh = 0)]
    have hq : B.tdiv b.wh ≤ C.tdiv c.wh := by
      rw [Int.tdiv_eq_ediv_of_nonneg hbb.1, Int.tdiv_eq_ediv_of_nonneg hbc.1]
      refine (Int.le_ediv_iff_mul_le (by omega)).2 ?_
      have m1 : B / b.wh * b.wh ≤ B := Int.ediv_mul_le _ (by omega)
      have m2 : B / b.wh * c.wh ≤ B / b.wh * b.wh := Int.mul_le_mul_of_nonneg_left hw (Int.ediv_nonneg hbb.1 (by omega))
      omega
    split <;> split <;> omega
theorem fallR_iff {st : List Lod} (hst : ∀ b ∈ st, b.ok) {l : List (Int × Int)} {days : Int} (h : TabOk l days) : (fallR st days l).2.2 = (if failN (lastI days l 0) st = none then 7 else 0) := by
  unfold fallR
  cases hf : fallT st days l with
  | none => rw [if_pos ((fall_iff hst h).1 hf)]
  | some p =>
    have : ¬ failN (lastI days l 0) st = none := fun hn => by rw [(fall_iff hst h).2 hn] at hf; cases hf
    rw [if_neg this]
theorem high_stack {b : Lod} (h : b.ok) {t : List (Int × Int)} {days : Int} (ht : TabOk t days) (n : Nat) (hn : (n : Int) = highI b t days) : (fallR (List.replicate n b) days t).2.2 = 7 ∧ (n < 50 → (fallR (List.replicate (n + 1) b) days t).2.2 = 0) := by
  have hb := highI_b h ht
  have hr : ∀ m, ∀ x ∈ List.replicate m b, x.ok := fun m x hx => by rw [(List.mem_replicate.1 hx).2]; exact h
  obtain ⟨m, rfl⟩ : ∃ m, n = m + 1 := ⟨n - 1, by omega⟩
  constructor
  · rw [fallR_iff (hr _) ht, if_pos ((high_iff h ht m (by omega)).2 (by omega))]
  · intro h50
    rw [fallR_iff (hr _) ht, if_neg (fun hx => by have := (high_iff h ht (m + 1) h50).1 hx; omega)]
end Go.Dw.Seat
end
section
set_option linter.unusedSimpArgs false
set_option maxRecDepth 100000
namespace Go.Dw.Seat
open Go Go.Dw Go.Proofs Go.IntWalk
def ordI (l : List Lod) (k : Int) : Nat → Nat → List Int
  | 0, _ => []
  | f + 1, s => if s = 0 then [] else match (bitsL s).find? (fun e => unI l k s e) with
    | some e => (e : Int) :: ordI l k f (remB s e)
    | none => []
structure OrS where
  acc : List Int
  left : Nat
  m : Memo
def ordS (l : List Lod) (k : Int) (s : Nat) (y : OrS) (e : Nat) : Option Exit × OrS :=
  if (unF l k (stF l k s) s e y.m).1 then (some (.exit 2), ⟨y.acc ++ [(e : Int)], remB s e, (unF l k (stF l k s) s e y.m).2⟩) else (none, ⟨y.acc, y.left, (unF l k (stF l k s) s e y.m).2⟩)
theorem un_ok' {l : List Lod} {k : Int} {s : Nat} (hs : s < 1024) {e : Nat} (he : e ∈ bitsL s) {m : Memo} (hm : MemoOk l k m) : (unF l k (stF l k s) s e m).1 = unI l k s e ∧ MemoOk l k (unF l k (stF l k s) s e m).2 :=
  un_ok hs (rec := stF l k s) (fun t m ht hm => stF_ok l k s t m (by omega) (by omega) hm) he hm
theorem ord_run {l : List Lod} {k : Int} {s : Nat} (hs : s < 1024) {e : Nat} (acc : List Int) : ∀ (L : List Nat) (m : Memo), (∀ x ∈ L, x ∈ bitsL s) → MemoOk l k m → L.find? (fun e => unI l k s e) = some e → ∃ m', MemoOk l k m' ∧ runIt (ordS l k s) ⟨acc, s, m⟩ L = (some (.exit 2), ⟨acc ++ [(e : Int)], remB s e, m'⟩)
  | x :: L, m, hL, hm, hf => by
    obtain ⟨h1, h2⟩ := un_ok' hs (hL x (by simp)) hm
    rw [List.find?_cons] at hf
    simp only [runIt, ordS]
    rw [h1]
    cases hu : unI l k s x with
    | true =>
      rw [hu] at hf
      cases hf
      exact ⟨_, h2, rfl⟩
    | false =>
      rw [hu] at hf
      simp only [Bool.false_eq_true, if_false]
      exact ord_run hs acc L _ (fun y hy => hL y (by simp [hy])) h2 hf
theorem remB_len0 : ∀ s : Fin 1024, ∀ b : Fin 10, b.1 ∈ bitsL s.1 → (bitsL (remB s.1 b.1)).length + 1 = (bitsL s.1).length := by decide +kernel
theorem remB_len {s b : Nat} (hs : s < 1024) (hb : b ∈ bitsL s) : (bitsL (remB s b)).length + 1 = (bitsL s).length := remB_len0 ⟨s, hs⟩ ⟨b, bits_lt hb⟩ hb
theorem stI_find {l : List Lod} {k : Int} {s : Nat} (hs : s < 1024) (h0 : s ≠ 0) (h : stI l k s = true) : ∃ e, (bitsL s).find? (fun e => unI l k s e) = some e ∧ e ∈ bitsL s ∧ stI l k (remB s e) = true := by
  rw [stI_eq l k hs, decide_eq_false h0, Bool.false_or, List.any_eq_true] at h
  obtain ⟨x, hx, hu⟩ := h
  cases hf : (bitsL s).find? (fun e => unI l k s e) with
  | none =>
    have := List.find?_eq_none.1 hf x hx
    exact absurd hu (by simpa [unI] using this)
  | some e =>
    have h1 := List.find?_some hf
    have h2 := List.mem_of_find?_eq_some hf
    simp only [unI, Bool.and_eq_true] at h1
    exact ⟨e, rfl, h2, h1.2⟩
theorem ordI_fuel (l : List Lod) (k : Int) : ∀ {s : Nat}, s < 1024 → ∀ (f g : Nat), s ≤ f → s ≤ g → ordI l k f s = ordI l k g s
  | s, hs, 0, g, h1, _ => by
    obtain rfl : s = 0 := by omega
    cases g <;> simp [ordI]
  | s, hs, f + 1, 0, _, h1 => by
    obtain rfl : s = 0 := by omega
    simp [ordI]
  | s, hs, f + 1, g + 1, h1, h2 => by
    simp only [ordI]
    split
    · rfl
    · cases hf : (bitsL s).find? (fun e => unI l k s e) with
      | none => rfl
      | some e =>
        have he := List.mem_of_find?_eq_some hf
        have hlt := remB_mem hs he
        simp only
        rw [ordI_fuel l k (s := remB s e) (by omega) f g (by omega) (by omega)]
set_option maxHeartbeats 4000000 in
theorem crOrder (l : List Lod) (h : ∀ b ∈ l, b.ok) (hl : l.length ≤ 10) (t : List (Int × Int)) (days : Int) (ht : TabOk t days) (hst : stI l (lastI days t 0) (2 ^ l.length - 1) = true) :
    DCall Tryd.prog 45 [.c (.sl false 4 (rows eLd l)), .c (.sl false 2 (rows eK t)), dI days] [] (.tup [dIs false (ordI l (lastI days t 0) (2 ^ l.length - 1) (2 ^ l.length - 1)), dI 0]) [] := by
  have h1 := crPiler l h hl t days ht
  have hk := lastI_b days t 0 (fun s hs => (ht.mem s hs).2) (by decide)
  have hsh := shl_u hl
  have hpw := pow_le10 hl
  have hp1 := Nat.one_le_two_pow (n := l.length)
  generalize lastI days t 0 = k at *
  generalize hR : ordI l k (2 ^ l.length - 1) (2 ^ l.length - 1) = R
  have hw : IntKind.u64.wrap (((2 ^ l.length : Nat) : Int) - 1) = ((2 ^ l.length - 1 : Nat) : Int) := by rw [IntWalk.u64_in _ (by omega)]; omega
  refine DCall.of Tryd.func45 sf45 hb45 (Nat.le_of_ble_eq_true rfl) (okRes_nil fun _ => rfl) ?_; simp only [s45, idxs, Nat.reduceAdd]
  repeat' (first
    | (with_reducible refine DW.seq ?_)
    | (with_reducible refine DW.block ?_)
    | (with_reducible refine DW.skip ?_)
    | (with_reducible refine DW.exit ?_)
    | (with_reducible refine DW.ret ?_)
    | (with_reducible refine DW.reg ?_)
    | (refine DW.ord rfl (WF.of (by first | rfl | simp (disch := omega) only [go_sem, Nat.reduceLT, Nat.reduceLeDiff, Nat.reduceAdd, Nat.reduceMul, Nat.reduceEqDiff, ↓reduceIte, reduceCtorEq, Nat.reduceBEq, Nat.reduceBNe, Nat.reducePow, Int.reduceLE, Int.reduceLT, Int.reduceNeg, Int.reduceToNat, Int.reduceEq, Int.reduceAdd, Int.reduceSub, Int.reduceMul, Int.reduceBEq, Int.reduceBNe, bm_box, bm_row, bk_box, bk_row, hsh, hw])) ?_ ?_ ?_; rotate_left)
    | rfl
    | (with_reducible refine And.intro ?_ ?_)
    | (simp (disch := omega) only [go_sem, Nat.reduceLT, Nat.reduceLeDiff, Nat.reduceAdd, Nat.reduceMul, Nat.reduceEqDiff, ↓reduceIte, reduceCtorEq, Nat.reduceBEq, Nat.reduceBNe, Nat.reducePow, Int.reduceLE, Int.reduceLT, Int.reduceNeg, Int.reduceToNat, Int.reduceEq, Int.reduceAdd, Int.reduceSub, Int.reduceMul, Int.reduceBEq, Int.reduceBNe, bm_box, bm_row, bk_box, bk_row, hsh, hw])
    | (exact retS_of rfl rfl rfl)
    | (refine DW.cond_tt rfl ?_)
    | (refine DW.cond_ff rfl ?_)
    | (refine DW.cond rfl ?_ ?_ <;> intro hc <;> (try simp only [go_sem] at hc))
    | (refine g_split ?_ ?_ <;> intro hc <;> (try simp only [hc]) <;> (try simp only [go_sem] at hc)))
  refine call_b h1 ⟨⟨trivial, rfl, rfl, rfl⟩, rfl, rfl, rfl⟩ (by decide) ?_
  simp only [St.addBs, St.putB, St.putO, St.put]
  simp (disch := omega) only [go_sem, Nat.reduceLT, Nat.reduceLeDiff, Nat.reduceAdd, Nat.reduceMul, Nat.reduceEqDiff, ↓reduceIte, reduceCtorEq, Nat.reduceBEq, Nat.reduceBNe, Nat.reducePow, Int.reduceLE, Int.reduceLT, Int.reduceNeg, Int.reduceToNat, Int.reduceEq, Int.reduceAdd, Int.reduceSub, Int.reduceMul, Int.reduceBEq, Int.reduceBNe, bm_box, bm_row, bk_box, bk_row]
  refine DW.pin 28 rfl rfl fun lm => ?_
  simp (disch := omega) only [go_sem, Nat.reduceLT, Nat.reduceLeDiff, Nat.reduceAdd, Nat.reduceMul, Nat.reduceEqDiff, ↓reduceIte, reduceCtorEq, Nat.reduceBEq, Nat.reduceBNe, Nat.reducePow, Int.reduceLE, Int.reduceLT, Int.reduceNeg, Int.reduceToNat, Int.reduceEq, Int.reduceAdd, Int.reduceSub, Int.reduceMul, Int.reduceBEq, Int.reduceBNe, bm_box, bm_row, bk_box, bk_row, pinT, pinX, pinD, pinDs, pinB, pinO]
  refine DW.ent (Ent.rel 30 rfl) ?_
  simp (disch := omega) only [go_sem, Nat.reduceLT, Nat.reduceLeDiff, Nat.reduceAdd, Nat.reduceMul, Nat.reduceEqDiff, ↓reduceIte, reduceCtorEq, Nat.reduceBEq, Nat.reduceBNe, Nat.reducePow, Int.reduceLE, Int.reduceLT, Int.reduceNeg, Int.reduceToNat, Int.reduceEq, Int.reduceAdd, Int.reduceSub, Int.reduceMul, Int.reduceBEq, Int.reduceBNe, bm_box, bm_row, bk_box, bk_row]
  obtain ⟨m0, hm0, hst0⟩ := crStandsI l h k hk lm (2 ^ l.length - 1) (by omega) (inB_of hl (by omega)) [] (fun _ _ h => by cases h)
  rw [hst] at hst0
  have hnil : memB lm [] = (28, Blk.pmap lm [] []) := rfl
  repeat' (first
    | (with_reducible refine DW.seq ?_)
    | (with_reducible refine DW.block ?_)
    | (with_reducible refine DW.skip ?_)
    | (with_reducible refine DW.exit ?_)
    | (with_reducible refine DW.ret ?_)
    | (with_reducible refine DW.reg ?_)
    | (refine DW.ord rfl (WF.of (by first | rfl | simp (disch := omega) only [go_sem, Nat.reduceLT, Nat.reduceLeDiff, Nat.reduceAdd, Nat.reduceMul, Nat.reduceEqDiff, ↓reduceIte, reduceCtorEq, Nat.reduceBEq, Nat.reduceBNe, Nat.reducePow, Int.reduceLE, Int.reduceLT, Int.reduceNeg, Int.reduceToNat, Int.reduceEq, Int.reduceAdd, Int.reduceSub, Int.reduceMul, Int.reduceBEq, Int.reduceBNe, bm_box, bm_row, bk_box, bk_row, hsh, hw])) ?_ ?_ ?_; rotate_left)
    | rfl
    | (with_reducible refine And.intro ?_ ?_)
    | (simp (disch := omega) only [go_sem, Nat.reduceLT, Nat.reduceLeDiff, Nat.reduceAdd, Nat.reduceMul, Nat.reduceEqDiff, ↓reduceIte, reduceCtorEq, Nat.reduceBEq, Nat.reduceBNe, Nat.reducePow, Int.reduceLE, Int.reduceLT, Int.reduceNeg, Int.reduceToNat, Int.reduceEq, Int.reduceAdd, Int.reduceSub, Int.reduceMul, Int.reduceBEq, Int.reduceBNe, bm_box, bm_row, bk_box, bk_row, hsh, hw])
    | (exact retS_of rfl rfl rfl)
    | (refine DW.cond_tt rfl ?_)
    | (refine DW.cond_ff rfl ?_)
    | (refine DW.cond rfl ?_ ?_ <;> intro hc <;> (try simp only [go_sem] at hc))
    | (refine g_split ?_ ?_ <;> intro hc <;> (try simp only [hc]) <;> (try simp only [go_sem] at hc)))
  refine call_h (h := [memB lm []]) (h' := [memB lm m0]) hst0 (Ent.refl _) rfl rfl rfl rfl (by decide) ?_
  simp (disch := omega) only [go_sem, Nat.reduceLT, Nat.reduceLeDiff, Nat.reduceAdd, Nat.reduceMul, Nat.reduceEqDiff, ↓reduceIte, reduceCtorEq, Nat.reduceBEq, Nat.reduceBNe, Nat.reducePow, Int.reduceLE, Int.reduceLT, Int.reduceNeg, Int.reduceToNat, Int.reduceEq, Int.reduceAdd, Int.reduceSub, Int.reduceMul, Int.reduceBEq, Int.reduceBNe, bm_box, bm_row, bk_box, bk_row]
  repeat' (first
    | (with_reducible refine DW.seq ?_)
    | (with_reducible refine DW.block ?_)
    | (with_reducible refine DW.skip ?_)
    | (with_reducible refine DW.exit ?_)
    | (with_reducible refine DW.ret ?_)
    | (with_reducible refine DW.reg ?_)
    | (refine DW.ord rfl (WF.of (by first | rfl | simp (disch := omega) only [go_sem, Nat.reduceLT, Nat.reduceLeDiff, Nat.reduceAdd, Nat.reduceMul, Nat.reduceEqDiff, ↓reduceIte, reduceCtorEq, Nat.reduceBEq, Nat.reduceBNe, Nat.reducePow, Int.reduceLE, Int.reduceLT, Int.reduceNeg, Int.reduceToNat, Int.reduceEq, Int.reduceAdd, Int.reduceSub, Int.reduceMul, Int.reduceBEq, Int.reduceBNe, bm_box, bm_row, bk_box, bk_row])) ?_ ?_ ?_; rotate_left)
    | rfl
    | (with_reducible refine And.intro ?_ ?_)
    | (simp (disch := omega) only [go_sem, Nat.reduceLT, Nat.reduceLeDiff, Nat.reduceAdd, Nat.reduceMul, Nat.reduceEqDiff, ↓reduceIte, reduceCtorEq, Nat.reduceBEq, Nat.reduceBNe, Nat.reducePow, Int.reduceLE, Int.reduceLT, Int.reduceNeg, Int.reduceToNat, Int.reduceEq, Int.reduceAdd, Int.reduceSub, Int.reduceMul, Int.reduceBEq, Int.reduceBNe, bm_box, bm_row, bk_box, bk_row])
    | (exact retS_of rfl rfl rfl)
    | (refine DW.cond_tt rfl ?_)
    | (refine DW.cond_ff rfl ?_)
    | (refine DW.cond rfl ?_ ?_ <;> intro hc <;> (try simp only [go_sem] at hc))
    | (refine g_split ?_ ?_ <;> intro hc <;> (try simp only [hc]) <;> (try simp only [go_sem] at hc)))
  refine DW.ent (Ent.adoptB 6 0 41 1 rfl rfl rfl (by simp (disch := omega) only [go_sem, Nat.reduceLT, Nat.reduceLeDiff, Nat.reduceAdd, Nat.reduceMul, Nat.reduceEqDiff, ↓reduceIte, reduceCtorEq, Nat.reduceBEq, Nat.reduceBNe, Nat.reducePow, Int.reduceLE, Int.reduceLT, Int.reduceNeg, Int.reduceToNat, Int.reduceEq, Int.reduceAdd, Int.reduceSub, Int.reduceMul, Int.reduceBEq, Int.reduceBNe, bm_box, bm_row, bk_box, bk_row])) ?_
  simp (disch := omega) only [go_sem, Nat.reduceLT, Nat.reduceLeDiff, Nat.reduceAdd, Nat.reduceMul, Nat.reduceEqDiff, ↓reduceIte, reduceCtorEq, Nat.reduceBEq, Nat.reduceBNe, Nat.reducePow, Int.reduceLE, Int.reduceLT, Int.reduceNeg, Int.reduceToNat, Int.reduceEq, Int.reduceAdd, Int.reduceSub, Int.reduceMul, Int.reduceBEq, Int.reduceBNe, bm_box, bm_row, bk_box, bk_row]
  have hbl := bits_len (2 ^ l.length - 1)
  refine DW.loop (ι := { y : OrS // y.left < 2 ^ l.length ∧ MemoOk l k y.m ∧ stI l k y.left = true ∧ y.acc.length + (bitsL y.left).length ≤ 10 ∧ ∀ f, y.left ≤ f → y.acc ++ ordI l k f y.left = R })
    (fun y => ⟨47, [(9, .box 9 0), (8, .box 8 0), (6, .box 6 0)], [(41, .row 1 (rowC (rows eI y.1.acc))), memB lm y.1.m, (9, .box [dU y.1.left]), (8, .box [pilD l k lm]), (6, .box [.own 41])]⟩) (fun y => y.1.left) ⟨⟨[], 2 ^ l.length - 1, m0⟩, by dsimp only; omega, hm0, hst, by simpa using hbl, fun f hf => by rw [List.nil_append, ← hR]; exact ordI_fuel l k (show 2 ^ l.length - 1 < 1024 by omega) f _ hf (Nat.le_refl _)⟩ ?_ ?_
  · refine Ent.to ?_ ?_ <;> simp (disch := omega) only [wkT_cons, wkX_cons, wkT_nil, wkX_nil, get, Nat.reduceEqDiff, ↓reduceIte, ex_some, wk_self, wk_top, wk_nil, wkB_self, and_self, dI, i64_in, and_true, true_and, Int.natCast_add, Int.natCast_one, Int.ofNat_zero, Int.natCast_zero]
    exact ⟨.refl _, .refl _⟩
  rintro ⟨⟨acc, s, m⟩, i1, i2, i3, i4, i5⟩
  dsimp only at i1 i2 i3 i4 i5 ⊢
  by_cases h0 : s = 0
  · have hd : ((s : Int) != 0) = false := by rw [h0]; rfl
    have hacc : acc = R := by
      have := i5 s (Nat.le_refl _)
      subst h0
      simpa [ordI] using this
    subst hacc
    repeat' (first
    | (with_reducible refine DW.seq ?_)
    | (with_reducible refine DW.block ?_)
    | (with_reducible refine DW.skip ?_)
    | (with_reducible refine DW.exit ?_)
    | (with_reducible refine DW.ret ?_)
    | (with_reducible refine DW.reg ?_)
    | (refine DW.ord rfl (WF.of (by first | rfl | simp (disch := omega) only [go_sem, Nat.reduceLT, Nat.reduceLeDiff, Nat.reduceAdd, Nat.reduceMul, Nat.reduceEqDiff, ↓reduceIte, reduceCtorEq, Nat.reduceBEq, Nat.reduceBNe, Nat.reducePow, Int.reduceLE, Int.reduceLT, Int.reduceNeg, Int.reduceToNat, Int.reduceEq, Int.reduceAdd, Int.reduceSub, Int.reduceMul, Int.reduceBEq, Int.reduceBNe, bm_box, bm_row, bk_box, bk_row, hd])) ?_ ?_ ?_; rotate_left)
    | rfl
    | (with_reducible refine And.intro ?_ ?_)
    | (simp (disch := omega) only [go_sem, Nat.reduceLT, Nat.reduceLeDiff, Nat.reduceAdd, Nat.reduceMul, Nat.reduceEqDiff, ↓reduceIte, reduceCtorEq, Nat.reduceBEq, Nat.reduceBNe, Nat.reducePow, Int.reduceLE, Int.reduceLT, Int.reduceNeg, Int.reduceToNat, Int.reduceEq, Int.reduceAdd, Int.reduceSub, Int.reduceMul, Int.reduceBEq, Int.reduceBNe, bm_box, bm_row, bk_box, bk_row, hd])
    | (exact retS_of rfl rfl rfl)
    | (refine DW.cond_tt rfl ?_)
    | (refine DW.cond_ff rfl ?_)
    | (refine DW.cond rfl ?_ ?_ <;> intro hc <;> (try simp only [go_sem] at hc))
    | (refine g_split ?_ ?_ <;> intro hc <;> (try simp only [hc]) <;> (try simp only [go_sem] at hc)))
    (refine retS_ent (Ent.rel 41 rfl) ?_; simp (disch := omega) only [go_sem, Nat.reduceLT, Nat.reduceLeDiff, Nat.reduceAdd, Nat.reduceMul, Nat.reduceEqDiff, ↓reduceIte, reduceCtorEq, Nat.reduceBEq, Nat.reduceBNe, Nat.reducePow, Int.reduceLE, Int.reduceLT, Int.reduceNeg, Int.reduceToNat, Int.reduceEq, Int.reduceAdd, Int.reduceSub, Int.reduceMul, Int.reduceBEq, Int.reduceBNe, bm_box, bm_row, bk_box, bk_row])
    refine retS_wk rfl ?_ (by simp only [Blk.nb, rowC_nb, D.nb, D.nbs, C.nb, C.nbs, C.nbss, rows_nb eI_nb, Bool.and_true, Bool.not_false, Bool.and_self, bD, dI, iD, rows_nb eK_nb, rows_nb eLd_nb]); exact .refl _
  · have hd : ((s : Int) != 0) = true := by rw [bne_iff_ne]; omega
    have hs : s < 1024 := by omega
    have hit := crAll s hs
    have hbs := inB_of hl i1
    obtain ⟨e, hfd, he, hse⟩ := stI_find hs h0 i3
    obtain ⟨m1, hm1, hrun⟩ := ord_run hs acc (bitsL s) m (fun _ h => h) i2 hfd
    have hlt := remB_mem hs he
    have hlen := remB_len hs he
    repeat' (first
    | (with_reducible refine DW.seq ?_)
    | (with_reducible refine DW.block ?_)
    | (with_reducible refine DW.skip ?_)
    | (with_reducible refine DW.exit ?_)
    | (with_reducible refine DW.ret ?_)
    | (with_reducible refine DW.reg ?_)
    | (refine DW.ord rfl (WF.of (by first | rfl | simp (disch := omega) only [go_sem, Nat.reduceLT, Nat.reduceLeDiff, Nat.reduceAdd, Nat.reduceMul, Nat.reduceEqDiff, ↓reduceIte, reduceCtorEq, Nat.reduceBEq, Nat.reduceBNe, Nat.reducePow, Int.reduceLE, Int.reduceLT, Int.reduceNeg, Int.reduceToNat, Int.reduceEq, Int.reduceAdd, Int.reduceSub, Int.reduceMul, Int.reduceBEq, Int.reduceBNe, bm_box, bm_row, bk_box, bk_row, hd])) ?_ ?_ ?_; rotate_left)
    | rfl
    | (with_reducible refine And.intro ?_ ?_)
    | (simp (disch := omega) only [go_sem, Nat.reduceLT, Nat.reduceLeDiff, Nat.reduceAdd, Nat.reduceMul, Nat.reduceEqDiff, ↓reduceIte, reduceCtorEq, Nat.reduceBEq, Nat.reduceBNe, Nat.reducePow, Int.reduceLE, Int.reduceLT, Int.reduceNeg, Int.reduceToNat, Int.reduceEq, Int.reduceAdd, Int.reduceSub, Int.reduceMul, Int.reduceBEq, Int.reduceBNe, bm_box, bm_row, bk_box, bk_row, hd])
    | (exact retS_of rfl rfl rfl)
    | (refine DW.cond_tt rfl ?_)
    | (refine DW.cond_ff rfl ?_)
    | (refine DW.cond rfl ?_ ?_ <;> intro hc <;> (try simp only [go_sem] at hc))
    | (refine g_split ?_ ?_ <;> intro hc <;> (try simp only [hc]) <;> (try simp only [go_sem] at hc)))
    refine DW.rngBD (fs := [dU s]) (caps := []) (fun y : OrS => [(41, .row 1 (rowC (rows eI y.acc))), memB lm y.m, (9, .box [dU y.left]), (8, .box [pilD l k lm]), (6, .box [.own 41])]) ⟨acc, s, m⟩ (ordS l k s) enB (fun e => e ∈ bitsL s) (bitsL s) hit (fun y => y.left = s ∧ MemoOk l k y.m ∧ y.acc.length ≤ 10) ⟨rfl, i2, by dsimp only; omega⟩ ?_ rfl (fun _ => ⟨rfl, rfl⟩) rfl (by decide) (fun _ _ => rfl) (fun _ _ _ => rfl) (by simp only [List.map_cons, List.map_nil]; decide) (fun _ => rfl) (fun y => wf_row rfl (by show (D.keysIns _ (mD y.m) && _) = true; rw [mD_keys]; rfl)) (fun y => nb_row eI_nb _ (by show (D.nbs (mD y.m) && _) = true; rw [mD_nb, Bool.true_and]; exact (by simp only [List.all_cons, List.all_nil, Blk.nb, rowC_nb, D.nb, D.nbs, C.nb, C.nbs, C.nbss, rows_nb eI_nb, Bool.and_true, Bool.not_false, Bool.and_self, bD, dI, iD, rows_nb eK_nb, rows_nb eLd_nb]))) (by simp only [List.all_cons, List.all_nil, Blk.nb, rowC_nb, D.nb, D.nbs, C.nb, C.nbs, C.nbss, rows_nb eI_nb, Bool.and_true, Bool.not_false, Bool.and_self, bD, dI, iD, rows_nb eK_nb, rows_nb eLd_nb]) ?_ ?_ ?_
    · rintro y x ⟨a1, a2, a3⟩ hx hn
      obtain ⟨u1, u2⟩ := un_ok' hs hx a2
      simp only [ordS] at hn ⊢
      split
      · rename_i hc; rw [if_pos hc] at hn; cases hn
      · exact ⟨a1, u2, a3⟩
    · intro y x
      unfold ordS
      split <;> rfl
    · rintro ⟨acc', s', m'⟩ ⟨a1, a2, a3⟩ x hx v
      dsimp only at a1 a2 a3
      subst a1
      have hx10 := bits_lt hx
      have hand := andNot_u hs hx10
      have hun := crUnder l h k hk lm s' (crStands l h k hk lm s') s' x m' (by omega) hs hbs hx
      have hS : ordS l k s' ⟨acc', s', m'⟩ x = if (unF l k (stF l k s') s' x m').1 then (some (.exit 2), ⟨acc' ++ [(x : Int)], remB s' x, (unF l k (stF l k s') s' x m').2⟩) else (none, ⟨acc', s', (unF l k (stF l k s') s' x m').2⟩) := rfl
      rw [hS]
      generalize unF l k (stF l k s') s' x m' = U at *
      obtain ⟨u, m2⟩ := U
      dsimp only at hun ⊢
      simp (disch := omega) only [go_sem, Nat.reduceLT, Nat.reduceLeDiff, Nat.reduceAdd, Nat.reduceMul, Nat.reduceEqDiff, ↓reduceIte, reduceCtorEq, Nat.reduceBEq, Nat.reduceBNe, Nat.reducePow, Int.reduceLE, Int.reduceLT, Int.reduceNeg, Int.reduceToNat, Int.reduceEq, Int.reduceAdd, Int.reduceSub, Int.reduceMul, Int.reduceBEq, Int.reduceBNe, bm_box, bm_row, bk_box, bk_row, List.map_cons, List.map_nil]
      repeat' (first
    | (with_reducible refine DW.seq ?_)
    | (with_reducible refine DW.block ?_)
    | (with_reducible refine DW.skip ?_)
    | (with_reducible refine DW.exit ?_)
    | (with_reducible refine DW.ret ?_)
    | (with_reducible refine DW.reg ?_)
    | (refine DW.ord rfl (WF.of (by first | rfl | simp (disch := omega) only [go_sem, Nat.reduceLT, Nat.reduceLeDiff, Nat.reduceAdd, Nat.reduceMul, Nat.reduceEqDiff, ↓reduceIte, reduceCtorEq, Nat.reduceBEq, Nat.reduceBNe, Nat.reducePow, Int.reduceLE, Int.reduceLT, Int.reduceNeg, Int.reduceToNat, Int.reduceEq, Int.reduceAdd, Int.reduceSub, Int.reduceMul, Int.reduceBEq, Int.reduceBNe, bm_box, bm_row, bk_box, bk_row, List.map_cons, List.map_nil])) ?_ ?_ ?_; rotate_left)
    | rfl
    | (with_reducible refine And.intro ?_ ?_)
    | (simp (disch := omega) only [go_sem, Nat.reduceLT, Nat.reduceLeDiff, Nat.reduceAdd, Nat.reduceMul, Nat.reduceEqDiff, ↓reduceIte, reduceCtorEq, Nat.reduceBEq, Nat.reduceBNe, Nat.reducePow, Int.reduceLE, Int.reduceLT, Int.reduceNeg, Int.reduceToNat, Int.reduceEq, Int.reduceAdd, Int.reduceSub, Int.reduceMul, Int.reduceBEq, Int.reduceBNe, bm_box, bm_row, bk_box, bk_row, List.map_cons, List.map_nil])
    | (exact retS_of rfl rfl rfl)
    | (refine DW.cond_tt rfl ?_)
    | (refine DW.cond_ff rfl ?_)
    | (refine DW.cond rfl ?_ ?_ <;> intro hc <;> (try simp only [go_sem] at hc))
    | (refine g_split ?_ ?_ <;> intro hc <;> (try simp only [hc]) <;> (try simp only [go_sem] at hc)))
      refine call_hk 28 hun rfl rfl rfl (by simp (disch := omega) only [go_sem, Nat.reduceLT, Nat.reduceLeDiff, Nat.reduceAdd, Nat.reduceMul, Nat.reduceEqDiff, ↓reduceIte, reduceCtorEq, Nat.reduceBEq, Nat.reduceBNe, Nat.reducePow, Int.reduceLE, Int.reduceLT, Int.reduceNeg, Int.reduceToNat, Int.reduceEq, Int.reduceAdd, Int.reduceSub, Int.reduceMul, Int.reduceBEq, Int.reduceBNe, bm_box, bm_row, bk_box, bk_row, del]) (by decide) ?_
      simp (disch := omega) only [go_sem, Nat.reduceLT, Nat.reduceLeDiff, Nat.reduceAdd, Nat.reduceMul, Nat.reduceEqDiff, ↓reduceIte, reduceCtorEq, Nat.reduceBEq, Nat.reduceBNe, Nat.reducePow, Int.reduceLE, Int.reduceLT, Int.reduceNeg, Int.reduceToNat, Int.reduceEq, Int.reduceAdd, Int.reduceSub, Int.reduceMul, Int.reduceBEq, Int.reduceBNe, bm_box, bm_row, bk_box, bk_row, List.map_cons, List.map_nil, del]
      refine DW.ent (Ent.swap2 (show (28 : Nat) ≠ 41 by decide)) ?_
      cases u with
      | true =>
        rw [if_pos rfl]
        repeat' (first
    | (with_reducible refine DW.seq ?_)
    | (with_reducible refine DW.block ?_)
    | (with_reducible refine DW.skip ?_)
    | (with_reducible refine DW.exit ?_)
    | (with_reducible refine DW.ret ?_)
    | (with_reducible refine DW.reg ?_)
    | (refine DW.ord rfl (WF.of (by first | rfl | simp (disch := omega) only [go_sem, Nat.reduceLT, Nat.reduceLeDiff, Nat.reduceAdd, Nat.reduceMul, Nat.reduceEqDiff, ↓reduceIte, reduceCtorEq, Nat.reduceBEq, Nat.reduceBNe, Nat.reducePow, Int.reduceLE, Int.reduceLT, Int.reduceNeg, Int.reduceToNat, Int.reduceEq, Int.reduceAdd, Int.reduceSub, Int.reduceMul, Int.reduceBEq, Int.reduceBNe, bm_box, bm_row, bk_box, bk_row, List.map_cons, List.map_nil, hand])) ?_ ?_ ?_; rotate_left)
    | rfl
    | (with_reducible refine And.intro ?_ ?_)
    | (simp (disch := omega) only [go_sem, Nat.reduceLT, Nat.reduceLeDiff, Nat.reduceAdd, Nat.reduceMul, Nat.reduceEqDiff, ↓reduceIte, reduceCtorEq, Nat.reduceBEq, Nat.reduceBNe, Nat.reducePow, Int.reduceLE, Int.reduceLT, Int.reduceNeg, Int.reduceToNat, Int.reduceEq, Int.reduceAdd, Int.reduceSub, Int.reduceMul, Int.reduceBEq, Int.reduceBNe, bm_box, bm_row, bk_box, bk_row, List.map_cons, List.map_nil, hand])
    | (exact retS_of rfl rfl rfl)
    | (refine DW.cond_tt rfl ?_)
    | (refine DW.cond_ff rfl ?_)
    | (refine DW.cond rfl ?_ ?_ <;> intro hc <;> (try simp only [go_sem] at hc))
    | (refine g_split ?_ ?_ <;> intro hc <;> (try simp only [hc]) <;> (try simp only [go_sem] at hc)))
        refine round_end rfl rfl (Ent.to ?_ ?_) <;> simp (disch := omega) only [wkT_cons, wkX_cons, wkT_nil, wkX_nil, get, Nat.reduceEqDiff, ↓reduceIte, ex_some, wk_self, wk_top, wk_nil, wkB_self, and_self, dI, i64_in, and_true, true_and, Int.natCast_add, Int.natCast_one, Int.ofNat_zero, Int.natCast_zero, capB, List.cons_append, List.nil_append]
      | false =>
        rw [if_neg (by decide)]
        repeat' (first
    | (with_reducible refine DW.seq ?_)
    | (with_reducible refine DW.block ?_)
    | (with_reducible refine DW.skip ?_)
    | (with_reducible refine DW.exit ?_)
    | (with_reducible refine DW.ret ?_)
    | (with_reducible refine DW.reg ?_)
    | (refine DW.ord rfl (WF.of (by first | rfl | simp (disch := omega) only [go_sem, Nat.reduceLT, Nat.reduceLeDiff, Nat.reduceAdd, Nat.reduceMul, Nat.reduceEqDiff, ↓reduceIte, reduceCtorEq, Nat.reduceBEq, Nat.reduceBNe, Nat.reducePow, Int.reduceLE, Int.reduceLT, Int.reduceNeg, Int.reduceToNat, Int.reduceEq, Int.reduceAdd, Int.reduceSub, Int.reduceMul, Int.reduceBEq, Int.reduceBNe, bm_box, bm_row, bk_box, bk_row, List.map_cons, List.map_nil])) ?_ ?_ ?_; rotate_left)
    | rfl
    | (with_reducible refine And.intro ?_ ?_)
    | (simp (disch := omega) only [go_sem, Nat.reduceLT, Nat.reduceLeDiff, Nat.reduceAdd, Nat.reduceMul, Nat.reduceEqDiff, ↓reduceIte, reduceCtorEq, Nat.reduceBEq, Nat.reduceBNe, Nat.reducePow, Int.reduceLE, Int.reduceLT, Int.reduceNeg, Int.reduceToNat, Int.reduceEq, Int.reduceAdd, Int.reduceSub, Int.reduceMul, Int.reduceBEq, Int.reduceBNe, bm_box, bm_row, bk_box, bk_row, List.map_cons, List.map_nil])
    | (exact retS_of rfl rfl rfl)
    | (refine DW.cond_tt rfl ?_)
    | (refine DW.cond_ff rfl ?_)
    | (refine DW.cond rfl ?_ ?_ <;> intro hc <;> (try simp only [go_sem] at hc))
    | (refine g_split ?_ ?_ <;> intro hc <;> (try simp only [hc]) <;> (try simp only [go_sem] at hc)))
        refine round_end rfl rfl (Ent.to ?_ ?_) <;> simp (disch := omega) only [wkT_cons, wkX_cons, wkT_nil, wkX_nil, get, Nat.reduceEqDiff, ↓reduceIte, ex_some, wk_self, wk_top, wk_nil, wkB_self, and_self, dI, i64_in, and_true, true_and, Int.natCast_add, Int.natCast_one, Int.ofNat_zero, Int.natCast_zero, capB, List.cons_append, List.nil_append]
    · rw [hrun]
      simp (disch := omega) only [go_sem, Nat.reduceLT, Nat.reduceLeDiff, Nat.reduceAdd, Nat.reduceMul, Nat.reduceEqDiff, ↓reduceIte, reduceCtorEq, Nat.reduceBEq, Nat.reduceBNe, Nat.reducePow, Int.reduceLE, Int.reduceLT, Int.reduceNeg, Int.reduceToNat, Int.reduceEq, Int.reduceAdd, Int.reduceSub, Int.reduceMul, Int.reduceBEq, Int.reduceBNe, bm_box, bm_row, bk_box, bk_row, Option.getD_some]
      have hfin : ∀ f, remB s e ≤ f → (acc ++ [(e : Int)]) ++ ordI l k f (remB s e) = R := fun f hf => by
        have h5 := i5 (s + 1) (by omega)
        rw [ordI, if_neg h0, hfd] at h5
        rw [ordI_fuel l k (s := remB s e) (by omega) f s hf (by omega), List.append_assoc]
        exact h5
      refine ⟨⟨⟨acc ++ [(e : Int)], remB s e, m1⟩, by dsimp only; omega, hm1, hse, by simp only [List.length_append, List.length_cons, List.length_nil]; omega, hfin⟩, ?_, Ent.to ?_ ?_⟩ <;> first | (show _ < _; (try simp only); omega) | (simp (disch := omega) only [wkT_cons, wkX_cons, wkT_nil, wkX_nil, get, Nat.reduceEqDiff, ↓reduceIte, ex_some, wk_self, wk_top, wk_nil, wkB_self, and_self, dI, i64_in, and_true, true_and, Int.natCast_add, Int.natCast_one, Int.ofNat_zero, Int.natCast_zero])
end Go.Dw.Seat
end
section
set_option linter.unusedSimpArgs false
set_option maxRecDepth 100000
namespace Go.Dw.Seat
open Go Go.Dw Go.Proofs Go.IntWalk
def untilF (r : CR) (st x : Int) : Nat → CLot → Int → Int
  | 0, l, more => if stateI r l = st then more else -1
  | k + 1, l, more => if stateI r l = st then more else untilF r st x k (l.after r x) (more + 1)
theorem crUntil (r : CR) (l : CLot) (st x : Int) (h : l.ok) (ht : 1 ≤ r.tests ∧ r.tests ≤ 20) (hm : 0 ≤ r.mean ∧ r.mean ≤ 100000) (hx : 0 ≤ x ∧ x ≤ 100000) (k : Nat) (hk : l.made + (k : Int) = r.tests) :
    DCall Tryd.prog 62 [dLot r l, dI st, dI x] [] (dI (untilF r st x k l 0)) [] := by
  generalize hR : untilF r st x k l 0 = R
  have h0 := h.made
  refine DCall.of Tryd.func62 sf62 hb62 (Nat.le_of_ble_eq_true rfl) (okRes_nil fun _ => rfl) ?_; simp only [s62, idxs, Nat.reduceAdd]
  repeat' (first
    | (with_reducible refine DW.seq ?_)
    | (with_reducible refine DW.block ?_)
    | (with_reducible refine DW.skip ?_)
    | (with_reducible refine DW.exit ?_)
    | (with_reducible refine DW.ret ?_)
    | (with_reducible refine DW.reg ?_)
    | (simp (disch := omega) only [go_sem, Nat.reduceLT, Nat.reduceLeDiff, Nat.reduceAdd, Nat.reduceMul, Nat.reduceEqDiff, ↓reduceIte, reduceCtorEq, Nat.reduceBEq, Nat.reduceBNe, Nat.reducePow, Int.reduceLE, Int.reduceLT, Int.reduceNeg, Int.reduceToNat, Int.reduceEq, Int.reduceAdd, Int.reduceSub, Int.reduceMul, Int.reduceBEq, Int.reduceBNe, Blk.men, Blk.keysIn])
    | (exact retS_of rfl rfl rfl)
    | (refine DW.cond_tt rfl ?_)
    | (refine DW.cond_ff rfl ?_)
    | (refine DW.cond rfl ?_ ?_ <;> intro hc <;> (try simp only [go_sem] at hc))
    | (refine g_split ?_ ?_ <;> intro hc <;> (try simp only [hc]) <;> (try simp only [go_sem] at hc)))
  refine DW.loop (ι := { y : Nat × CLot × Int // y.2.1.ok ∧ y.2.1.made + (y.1 : Int) = r.tests ∧ untilF r st x y.1 y.2.1 y.2.2 = R ∧ 0 ≤ y.2.2 ∧ y.2.2 + (y.1 : Int) ≤ 100 })
    (fun y => ⟨24, [(7, dI y.1.2.2), (3, .box 3 0), (2, dI x), (1, dI st)], [(3, .box [dI r.tests, dI r.mean, dI r.low, dI r.bad, dI y.1.2.1.off, dI y.1.2.1.made, dI y.1.2.1.ws, dI y.1.2.1.wb, dI y.1.2.1.bs, dI y.1.2.1.bb])]⟩) (fun y => y.1.1) ⟨(k, l, 0), h, hk, hR, Int.le_refl _, by dsimp only; omega⟩ ?_ ?_
  · refine Ent.to ?_ ?_ <;> simp (disch := omega) only [wkT_cons, wkX_cons, wkT_nil, wkX_nil, get, Nat.reduceEqDiff, ↓reduceIte, ex_some, wk_self, wk_top, wk_nil, wkB_self, and_self, dI, i64_in, and_true, true_and, Int.natCast_add, Int.natCast_one, Int.ofNat_zero, Int.natCast_zero]
  rintro ⟨⟨j, l', more⟩, i1, i2, i3, i4, i5⟩
  dsimp only at i1 i2 i3 i4 i5 ⊢
  have hmd := i1.made
  have hst := crState r l' i1 ht hm (by omega)
  by_cases hs : stateI r l' = st
  · have he : (stateI r l' == st) = true := by rw [hs]; simp
    have hr : R = more := by
      rw [← i3]
      cases j with
      | zero => rw [untilF, if_pos hs]
      | succ j => rw [untilF, if_pos hs]
    repeat' (first
    | (with_reducible refine DW.seq ?_)
    | (with_reducible refine DW.block ?_)
    | (with_reducible refine DW.skip ?_)
    | (with_reducible refine DW.exit ?_)
    | (with_reducible refine DW.ret ?_)
    | (with_reducible refine DW.reg ?_)
    | (simp (disch := omega) only [go_sem, Nat.reduceLT, Nat.reduceLeDiff, Nat.reduceAdd, Nat.reduceMul, Nat.reduceEqDiff, ↓reduceIte, reduceCtorEq, Nat.reduceBEq, Nat.reduceBNe, Nat.reducePow, Int.reduceLE, Int.reduceLT, Int.reduceNeg, Int.reduceToNat, Int.reduceEq, Int.reduceAdd, Int.reduceSub, Int.reduceMul, Int.reduceBEq, Int.reduceBNe, Blk.men, Blk.keysIn, he])
    | (exact retS_of rfl rfl rfl)
    | (refine DW.cond_tt rfl ?_)
    | (refine call_c (hst) (by decide) ?_)
    | (refine DW.cond_ff rfl ?_)
    | (refine DW.cond rfl ?_ ?_ <;> intro hc <;> (try simp only [go_sem] at hc))
    | (refine g_split ?_ ?_ <;> intro hc <;> (try simp only [hc]) <;> (try simp only [go_sem] at hc)))
    refine retS_of rfl ?_ rfl; simp only [oneD, St.op, get, Nat.reduceEqDiff, ↓reduceIte, Option.getD_some, bD, dI]
    rw [hr]
  · have he : (stateI r l' == st) = false := by rw [beq_eq_false_iff_ne]; exact hs
    rcases j with _ | j
    · have hme : (l'.made == r.tests) = true := by rw [beq_iff_eq]; omega
      have hr : R = -1 := by rw [← i3, untilF, if_neg hs]
      repeat' (first
    | (with_reducible refine DW.seq ?_)
    | (with_reducible refine DW.block ?_)
    | (with_reducible refine DW.skip ?_)
    | (with_reducible refine DW.exit ?_)
    | (with_reducible refine DW.ret ?_)
    | (with_reducible refine DW.reg ?_)
    | (simp (disch := omega) only [go_sem, Nat.reduceLT, Nat.reduceLeDiff, Nat.reduceAdd, Nat.reduceMul, Nat.reduceEqDiff, ↓reduceIte, reduceCtorEq, Nat.reduceBEq, Nat.reduceBNe, Nat.reducePow, Int.reduceLE, Int.reduceLT, Int.reduceNeg, Int.reduceToNat, Int.reduceEq, Int.reduceAdd, Int.reduceSub, Int.reduceMul, Int.reduceBEq, Int.reduceBNe, Blk.men, Blk.keysIn, he, hme])
    | (exact retS_of rfl rfl rfl)
    | (refine DW.cond_tt rfl ?_)
    | (refine call_c (hst) (by decide) ?_)
    | (refine DW.cond_ff rfl ?_)
    | (refine DW.cond rfl ?_ ?_ <;> intro hc <;> (try simp only [go_sem] at hc))
    | (refine g_split ?_ ?_ <;> intro hc <;> (try simp only [hc]) <;> (try simp only [go_sem] at hc)))
      refine retS_of rfl ?_ rfl; simp only [oneD, St.op, get, Nat.reduceEqDiff, ↓reduceIte, Option.getD_some, bD, dI]
      rw [hr]
    · have hme : (l'.made == r.tests) = false := by rw [beq_eq_false_iff_ne]; omega
      have hn : untilF r st x j (l'.after r x) (more + 1) = R := by rw [← i3, untilF, if_neg hs]
      have haf := crAfter r l' x i1 hx
      have hok := CLot.ok_after (r := r) i1 (by omega) hx
      have hma : (l'.after r x).made = l'.made + 1 := rfl
      generalize hla : l'.after r x = l2 at *
      repeat' (first
    | (with_reducible refine DW.seq ?_)
    | (with_reducible refine DW.block ?_)
    | (with_reducible refine DW.skip ?_)
    | (with_reducible refine DW.exit ?_)
    | (with_reducible refine DW.ret ?_)
    | (with_reducible refine DW.reg ?_)
    | (simp (disch := omega) only [go_sem, Nat.reduceLT, Nat.reduceLeDiff, Nat.reduceAdd, Nat.reduceMul, Nat.reduceEqDiff, ↓reduceIte, reduceCtorEq, Nat.reduceBEq, Nat.reduceBNe, Nat.reducePow, Int.reduceLE, Int.reduceLT, Int.reduceNeg, Int.reduceToNat, Int.reduceEq, Int.reduceAdd, Int.reduceSub, Int.reduceMul, Int.reduceBEq, Int.reduceBNe, Blk.men, Blk.keysIn, he, hme])
    | (exact retS_of rfl rfl rfl)
    | (refine DW.cond_tt rfl ?_)
    | (refine call_c (hst) (by decide) ?_)
    | (refine call_c (haf) (by decide) ?_)
    | (refine DW.cond_ff rfl ?_)
    | (refine DW.cond rfl ?_ ?_ <;> intro hc <;> (try simp only [go_sem] at hc))
    | (refine g_split ?_ ?_ <;> intro hc <;> (try simp only [hc]) <;> (try simp only [go_sem] at hc)))
      refine ⟨⟨(j, l2, more + 1), hok, by dsimp only; omega, hn, by dsimp only; omega, by dsimp only; omega⟩, ?_, Ent.to ?_ ?_⟩ <;> first | (show _ < _; (try simp only); omega) | (simp (disch := omega) only [wkT_cons, wkX_cons, wkT_nil, wkX_nil, get, Nat.reduceEqDiff, ↓reduceIte, ex_some, wk_self, wk_top, wk_nil, wkB_self, and_self, dI, i64_in, and_true, true_and, Int.natCast_add, Int.natCast_one, Int.ofNat_zero, Int.natCast_zero])
theorem crNeed (b : Bool) (r : CR) (rs : List Int) (off : Int) (h : CRok r rs off) (k : Nat) (hk : (rs.length : Int) + (k : Int) = r.tests) :
    DCall Tryd.prog 20 [dCR r, dIs b rs, dI off] [] (.tup [dI (untilF r 1 100000 k (lotOf r off rs) 0), dI (untilF r 2 0 k (lotOf r off rs) 0), dI 0]) [] := by
  have hlen := h.len
  have ht := h.tests
  have hm := (lotOf_made r off rs).1
  have hok := lotOf_ok (r := r) h.off rs (by omega) h.rs
  have h1 := crRule b r rs off h
  have h2 := crNew b r rs off h
  have h3 := crUntil r (lotOf r off rs) 1 100000 hok h.tests h.mean (by decide) k (by omega)
  have h4 := crUntil r (lotOf r off rs) 2 0 hok h.tests h.mean (by decide) k (by omega)
  refine DCall.of Tryd.func20 sf20 hb20 (Nat.le_of_ble_eq_true rfl) (okRes_nil fun _ => rfl) ?_; simp only [s20, idxs, Nat.reduceAdd]
  repeat' (first
    | (with_reducible refine DW.seq ?_)
    | (with_reducible refine DW.block ?_)
    | (with_reducible refine DW.skip ?_)
    | (with_reducible refine DW.exit ?_)
    | (with_reducible refine DW.ret ?_)
    | (with_reducible refine DW.reg ?_)
    | (refine DW.dreg rfl (WF.of (by first | rfl | simp (disch := omega) only [go_sem, Nat.reduceLT, Nat.reduceLeDiff, Nat.reduceAdd, Nat.reduceMul, Nat.reduceEqDiff, ↓reduceIte, reduceCtorEq, Nat.reduceBEq, Nat.reduceBNe, Nat.reducePow, Int.reduceLE, Int.reduceLT, Int.reduceNeg, Int.reduceToNat, Int.reduceEq, Int.reduceAdd, Int.reduceSub, Int.reduceMul, Int.reduceBEq, Int.reduceBNe, Blk.men, Blk.keysIn])) ?_)
    | (simp (disch := omega) only [go_sem, Nat.reduceLT, Nat.reduceLeDiff, Nat.reduceAdd, Nat.reduceMul, Nat.reduceEqDiff, ↓reduceIte, reduceCtorEq, Nat.reduceBEq, Nat.reduceBNe, Nat.reducePow, Int.reduceLE, Int.reduceLT, Int.reduceNeg, Int.reduceToNat, Int.reduceEq, Int.reduceAdd, Int.reduceSub, Int.reduceMul, Int.reduceBEq, Int.reduceBNe, Blk.men, Blk.keysIn])
    | (exact retS_of rfl rfl rfl)
    | (refine DW.cond_tt rfl ?_)
    | (refine call_c (h1) (by decide) ?_)
    | (refine call_c (h2) (by decide) ?_)
    | (refine call_c (h3) (by decide) ?_)
    | (refine call_c (h4) (by decide) ?_)
    | (refine DW.cond_ff rfl ?_)
    | (refine DW.cond rfl ?_ ?_ <;> intro hc <;> (try simp only [go_sem] at hc))
    | (refine g_split ?_ ?_ <;> intro hc <;> (try simp only [hc]) <;> (try simp only [go_sem] at hc)))
end Go.Dw.Seat
end
section
set_option linter.unusedSimpArgs false
set_option maxRecDepth 100000
namespace Go.Dw.Seat
open Go Go.Dw Go.Proofs Go.IntWalk
theorem laSpan (a b : Int) : DCall Tryd.prog 31 [dI a, dI b] [] (.agg [dI a, dI b]) [] := by
  refine DCall.of Tryd.func31 sf31 hb31 (Nat.le_of_ble_eq_true rfl) (okRes_nil fun _ => rfl) ?_; simp only [s31, idxs, Nat.reduceAdd]
  repeat' (first
    | (with_reducible refine DW.seq ?_)
    | (with_reducible refine DW.block ?_)
    | (with_reducible refine DW.skip ?_)
    | (with_reducible refine DW.exit ?_)
    | (with_reducible refine DW.ret ?_)
    | (with_reducible refine DW.reg ?_)
    | (simp (disch := omega) only [go_sem, Nat.reduceLT, Nat.reduceLeDiff, Nat.reduceAdd, Nat.reduceMul, Nat.reduceEqDiff, ↓reduceIte, reduceCtorEq, Nat.reduceBEq, Nat.reduceBNe, Nat.reducePow, Int.reduceLE, Int.reduceLT, Int.reduceNeg, Int.reduceToNat, Int.reduceEq, Int.reduceAdd, Int.reduceSub, Int.reduceMul, Int.reduceBEq, Int.reduceBNe, bm_box, bm_row, bk_box, bk_row])
    | (exact retS_of rfl rfl rfl)
    | (refine DW.cond_tt rfl ?_)
    | (refine DW.cond_ff rfl ?_)
    | (refine DW.cond rfl ?_ ?_ <;> intro hc <;> (try simp only [go_sem] at hc))
    | (refine g_split ?_ ?_ <;> intro hc <;> (try simp only [hc]) <;> (try simp only [go_sem] at hc)))
theorem laLoad (b : Lod) : DCall Tryd.prog 57 [dI b.sl, dI b.sh, dI b.wl, dI b.wh] [] (.agg ((eLd b).map D.c)) [] := by
  have h1 := laSpan b.sl b.sh
  have h2 := laSpan b.wl b.wh
  refine DCall.of Tryd.func57 sf57 hb57 (Nat.le_of_ble_eq_true rfl) (okRes_nil fun _ => rfl) ?_; simp only [s57, idxs, Nat.reduceAdd]
  repeat' (first
    | (with_reducible refine DW.seq ?_)
    | (with_reducible refine DW.block ?_)
    | (with_reducible refine DW.skip ?_)
    | (with_reducible refine DW.exit ?_)
    | (with_reducible refine DW.ret ?_)
    | (with_reducible refine DW.reg ?_)
    | (simp (disch := omega) only [go_sem, Nat.reduceLT, Nat.reduceLeDiff, Nat.reduceAdd, Nat.reduceMul, Nat.reduceEqDiff, ↓reduceIte, reduceCtorEq, Nat.reduceBEq, Nat.reduceBNe, Nat.reducePow, Int.reduceLE, Int.reduceLT, Int.reduceNeg, Int.reduceToNat, Int.reduceEq, Int.reduceAdd, Int.reduceSub, Int.reduceMul, Int.reduceBEq, Int.reduceBNe, bm_box, bm_row, bk_box, bk_row])
    | (exact retS_of rfl rfl rfl)
    | (refine DW.cond_tt rfl ?_)
    | (refine call_c (h1) (by decide) ?_)
    | (refine call_c (h2) (by decide) ?_)
    | (refine DW.cond_ff rfl ?_)
    | (refine DW.cond rfl ?_ ?_ <;> intro hc <;> (try simp only [go_sem] at hc))
    | (refine g_split ?_ ?_ <;> intro hc <;> (try simp only [hc]) <;> (try simp only [go_sem] at hc)))
def tabEx : List (Int × Int) := [(0, 1000), (10, 800), (30, 600)]
theorem laTable : DCall Tryd.prog 58 [] [] (.c (.sl false 2 (rows eK tabEx))) [] := by
  refine DCall.of Tryd.func58 sf58 hb58 (Nat.le_of_ble_eq_true rfl) (okRes_nil fun _ => rfl) ?_; simp only [s58, idxs, Nat.reduceAdd]
  repeat' (first
    | (with_reducible refine DW.seq ?_)
    | (with_reducible refine DW.block ?_)
    | (with_reducible refine DW.skip ?_)
    | (with_reducible refine DW.exit ?_)
    | (with_reducible refine DW.ret ?_)
    | (with_reducible refine DW.reg ?_)
    | (simp (disch := omega) only [go_sem, Nat.reduceLT, Nat.reduceLeDiff, Nat.reduceAdd, Nat.reduceMul, Nat.reduceEqDiff, ↓reduceIte, reduceCtorEq, Nat.reduceBEq, Nat.reduceBNe, Nat.reducePow, Int.reduceLE, Int.reduceLT, Int.reduceNeg, Int.reduceToNat, Int.reduceEq, Int.reduceAdd, Int.reduceSub, Int.reduceMul, Int.reduceBEq, Int.reduceBNe, bm_box, bm_row, bk_box, bk_row])
    | (exact retS_of rfl rfl rfl)
    | (refine DW.cond_tt rfl ?_)
    | (refine DW.cond_ff rfl ?_)
    | (refine DW.cond rfl ?_ ?_ <;> intro hc <;> (try simp only [go_sem] at hc))
    | (refine g_split ?_ ?_ <;> intro hc <;> (try simp only [hc]) <;> (try simp only [go_sem] at hc)))
  (refine retS_ent (Ent.rel 4 rfl) ?_; simp (disch := omega) only [go_sem, Nat.reduceLT, Nat.reduceLeDiff, Nat.reduceAdd, Nat.reduceMul, Nat.reduceEqDiff, ↓reduceIte, reduceCtorEq, Nat.reduceBEq, Nat.reduceBNe, Nat.reducePow, Int.reduceLE, Int.reduceLT, Int.reduceNeg, Int.reduceToNat, Int.reduceEq, Int.reduceAdd, Int.reduceSub, Int.reduceMul, Int.reduceBEq, Int.reduceBNe, bm_box, bm_row, bk_box, bk_row])
  refine retS_wk rfl ?_ (by simp only [Blk.nb, rowC_nb, D.nb, D.nbs, C.nb, C.nbs, C.nbss, rows_nb eI_nb, Bool.and_true, Bool.not_false, Bool.and_self, bD, dI, iD, rows_nb eK_nb, rows_nb eLd_nb]); exact .refl _
theorem laBoxes (b : Bool) (l : List Lod) (hl : l.length ≤ 2 ^ 36) (k : Nat) : DCall Tryd.prog 33 [.c (.sl b 4 (rows eLd l))] [] (.own k) [(k, .row 4 (rowC (rows eLd l)))] := by
  refine DCall.rename (k0 := 3) ?_ k
  refine DCall.of Tryd.func33 sf33 hb33 (Nat.le_of_ble_eq_true rfl) okRes_row ?_; simp only [s33, idxs, Nat.reduceAdd]
  repeat' (first
    | (with_reducible refine DW.seq ?_)
    | (with_reducible refine DW.block ?_)
    | (with_reducible refine DW.skip ?_)
    | (with_reducible refine DW.exit ?_)
    | (with_reducible refine DW.ret ?_)
    | (with_reducible refine DW.reg ?_)
    | (simp (disch := omega) only [go_sem, Nat.reduceLT, Nat.reduceLeDiff, Nat.reduceAdd, Nat.reduceMul, Nat.reduceEqDiff, ↓reduceIte, reduceCtorEq, Nat.reduceBEq, Nat.reduceBNe, Nat.reducePow, Int.reduceLE, Int.reduceLT, Int.reduceNeg, Int.reduceToNat, Int.reduceEq, Int.reduceAdd, Int.reduceSub, Int.reduceMul, Int.reduceBEq, Int.reduceBNe, bm_box, bm_row, bk_box, bk_row])
    | (exact retS_of rfl rfl rfl)
    | (refine DW.cond_tt rfl ?_)
    | (refine DW.cond_ff rfl ?_)
    | (refine DW.cond rfl ?_ ?_ <;> intro hc <;> (try simp only [go_sem] at hc))
    | (refine g_split ?_ ?_ <;> intro hc <;> (try simp only [hc]) <;> (try simp only [go_sem] at hc)))
  refine retS_row ?_ ?_ (rowC_nb (rows_nb eLd_nb l)) <;> rfl
theorem laBoxesC (b : Bool) (l : List Lod) (hl : l.length ≤ 2 ^ 36) : DCall Tryd.prog 33 [.c (.sl b 4 (rows eLd l))] [] (.c (.sl false 4 (rows eLd l))) [] := by
  refine DCall.of Tryd.func33 sf33 hb33 (Nat.le_of_ble_eq_true rfl) (okRes_nil fun _ => rfl) ?_; simp only [s33, idxs, Nat.reduceAdd]
  repeat' (first
    | (with_reducible refine DW.seq ?_)
    | (with_reducible refine DW.block ?_)
    | (with_reducible refine DW.skip ?_)
    | (with_reducible refine DW.exit ?_)
    | (with_reducible refine DW.ret ?_)
    | (with_reducible refine DW.reg ?_)
    | (simp (disch := omega) only [go_sem, Nat.reduceLT, Nat.reduceLeDiff, Nat.reduceAdd, Nat.reduceMul, Nat.reduceEqDiff, ↓reduceIte, reduceCtorEq, Nat.reduceBEq, Nat.reduceBNe, Nat.reducePow, Int.reduceLE, Int.reduceLT, Int.reduceNeg, Int.reduceToNat, Int.reduceEq, Int.reduceAdd, Int.reduceSub, Int.reduceMul, Int.reduceBEq, Int.reduceBNe, bm_box, bm_row, bk_box, bk_row])
    | (exact retS_of rfl rfl rfl)
    | (refine DW.cond_tt rfl ?_)
    | (refine DW.cond_ff rfl ?_)
    | (refine DW.cond rfl ?_ ?_ <;> intro hc <;> (try simp only [go_sem] at hc))
    | (refine g_split ?_ ?_ <;> intro hc <;> (try simp only [hc]) <;> (try simp only [go_sem] at hc)))
  (refine retS_ent (Ent.rel 3 rfl) ?_; simp (disch := omega) only [go_sem, Nat.reduceLT, Nat.reduceLeDiff, Nat.reduceAdd, Nat.reduceMul, Nat.reduceEqDiff, ↓reduceIte, reduceCtorEq, Nat.reduceBEq, Nat.reduceBNe, Nat.reducePow, Int.reduceLE, Int.reduceLT, Int.reduceNeg, Int.reduceToNat, Int.reduceEq, Int.reduceAdd, Int.reduceSub, Int.reduceMul, Int.reduceBEq, Int.reduceBNe, bm_box, bm_row, bk_box, bk_row])
  refine retS_wk rfl ?_ (by simp only [Blk.nb, rowC_nb, D.nb, D.nbs, C.nb, C.nbs, C.nbss, rows_nb eI_nb, Bool.and_true, Bool.not_false, Bool.and_self, bD, dI, iD, rows_nb eK_nb, rows_nb eLd_nb]); exact .refl _
theorem laStepsC (b : Bool) (l : List (Int × Int)) (hl : l.length ≤ 2 ^ 36) : DCall Tryd.prog 34 [.c (.sl b 2 (rows eK l))] [] (.c (.sl false 2 (rows eK l))) [] := by
  refine DCall.of Tryd.func34 sf34 hb34 (Nat.le_of_ble_eq_true rfl) (okRes_nil fun _ => rfl) ?_; simp only [s34, idxs, Nat.reduceAdd]
  repeat' (first
    | (with_reducible refine DW.seq ?_)
    | (with_reducible refine DW.block ?_)
    | (with_reducible refine DW.skip ?_)
    | (with_reducible refine DW.exit ?_)
    | (with_reducible refine DW.ret ?_)
    | (with_reducible refine DW.reg ?_)
    | (simp (disch := omega) only [go_sem, Nat.reduceLT, Nat.reduceLeDiff, Nat.reduceAdd, Nat.reduceMul, Nat.reduceEqDiff, ↓reduceIte, reduceCtorEq, Nat.reduceBEq, Nat.reduceBNe, Nat.reducePow, Int.reduceLE, Int.reduceLT, Int.reduceNeg, Int.reduceToNat, Int.reduceEq, Int.reduceAdd, Int.reduceSub, Int.reduceMul, Int.reduceBEq, Int.reduceBNe, bm_box, bm_row, bk_box, bk_row])
    | (exact retS_of rfl rfl rfl)
    | (refine DW.cond_tt rfl ?_)
    | (refine DW.cond_ff rfl ?_)
    | (refine DW.cond rfl ?_ ?_ <;> intro hc <;> (try simp only [go_sem] at hc))
    | (refine g_split ?_ ?_ <;> intro hc <;> (try simp only [hc]) <;> (try simp only [go_sem] at hc)))
  (refine retS_ent (Ent.rel 3 rfl) ?_; simp (disch := omega) only [go_sem, Nat.reduceLT, Nat.reduceLeDiff, Nat.reduceAdd, Nat.reduceMul, Nat.reduceEqDiff, ↓reduceIte, reduceCtorEq, Nat.reduceBEq, Nat.reduceBNe, Nat.reducePow, Int.reduceLE, Int.reduceLT, Int.reduceNeg, Int.reduceToNat, Int.reduceEq, Int.reduceAdd, Int.reduceSub, Int.reduceMul, Int.reduceBEq, Int.reduceBNe, bm_box, bm_row, bk_box, bk_row])
  refine retS_wk rfl ?_ (by simp only [Blk.nb, rowC_nb, D.nb, D.nbs, C.nb, C.nbs, C.nbss, rows_nb eI_nb, Bool.and_true, Bool.not_false, Bool.and_self, bD, dI, iD, rows_nb eK_nb, rows_nb eLd_nb]); exact .refl _
theorem refSame (b1 b2 : Bool) (s t : List Int) (hs : s.length ≤ 2 ^ 36) (ht : t.length ≤ 2 ^ 36) : DCall Tryd.prog 22 [dIs b1 s, dIs b2 t] [] (bD (decide (s = t))) [] := by
  by_cases hl : s.length = t.length
  · have e : ((s.length : Int) != t.length) = false := by rw [hl]; simp
    refine DCall.of Tryd.func22 sf22 hb22 (Nat.le_of_ble_eq_true rfl) (okRes_nil fun _ => rfl) ?_; simp only [s22, idxs, Nat.reduceAdd]
    repeat' (first
    | (with_reducible refine DW.seq ?_)
    | (with_reducible refine DW.block ?_)
    | (with_reducible refine DW.skip ?_)
    | (with_reducible refine DW.exit ?_)
    | (with_reducible refine DW.ret ?_)
    | (with_reducible refine DW.reg ?_)
    | (refine DW.dreg rfl (WF.of (by first | rfl | simp (disch := omega) only [go_sem, Nat.reduceLT, Nat.reduceLeDiff, Nat.reduceAdd, Nat.reduceMul, Nat.reduceEqDiff, ↓reduceIte, reduceCtorEq, Nat.reduceBEq, Nat.reduceBNe, Nat.reducePow, Int.reduceLE, Int.reduceLT, Int.reduceNeg, Int.reduceToNat, Int.reduceEq, Int.reduceAdd, Int.reduceSub, Int.reduceMul, Int.reduceBEq, Int.reduceBNe, bm_box, bm_row, bk_box, bk_row, e])) ?_)
    | (simp (disch := omega) only [go_sem, Nat.reduceLT, Nat.reduceLeDiff, Nat.reduceAdd, Nat.reduceMul, Nat.reduceEqDiff, ↓reduceIte, reduceCtorEq, Nat.reduceBEq, Nat.reduceBNe, Nat.reducePow, Int.reduceLE, Int.reduceLT, Int.reduceNeg, Int.reduceToNat, Int.reduceEq, Int.reduceAdd, Int.reduceSub, Int.reduceMul, Int.reduceBEq, Int.reduceBNe, bm_box, bm_row, bk_box, bk_row, e])
    | (exact retS_of rfl rfl rfl)
    | (refine DW.cond_tt rfl ?_)
    | (refine DW.cond_ff rfl ?_)
    | (refine DW.cond rfl ?_ ?_ <;> intro hc <;> (try simp only [go_sem] at hc))
    | (refine g_split ?_ ?_ <;> intro hc <;> (try simp only [hc]) <;> (try simp only [go_sem] at hc)))
    refine DW.loop (ι := { i : Nat // i ≤ s.length ∧ ∀ j, j < i → s[j]? = t[j]? }) (fun i => ⟨26, [(5, dI i.1), (1, dIs b2 t), (0, dIs b1 s)], []⟩) (fun i => s.length - i.1) ⟨0, Nat.zero_le _, fun j h => by omega⟩ ?_ ?_
    · refine Ent.to ?_ ?_ <;> simp (disch := omega) only [wkT_cons, wkX_cons, wkT_nil, wkX_nil, get, Nat.reduceEqDiff, ↓reduceIte, ex_some, wk_self, wk_top, wk_nil, wkB_self, and_self, dI, i64_in, and_true, true_and, Int.natCast_add, Int.natCast_one, Int.ofNat_zero, Int.natCast_zero]
    rintro ⟨i, hi, hij⟩
    rcases at_or s i hi with ⟨v, hv, hlt, hd⟩ | ⟨he, hd⟩
    · obtain ⟨u, hu⟩ := getE (l := t) (i := i) (by omega)
      by_cases hvu : v = u
      · have d1 : (v != u) = false := by rw [hvu]; simp
        repeat' (first
    | (with_reducible refine DW.seq ?_)
    | (with_reducible refine DW.block ?_)
    | (with_reducible refine DW.skip ?_)
    | (with_reducible refine DW.exit ?_)
    | (with_reducible refine DW.ret ?_)
    | (with_reducible refine DW.reg ?_)
    | (refine DW.dreg rfl (WF.of (by first | rfl | simp (disch := omega) only [go_sem, Nat.reduceLT, Nat.reduceLeDiff, Nat.reduceAdd, Nat.reduceMul, Nat.reduceEqDiff, ↓reduceIte, reduceCtorEq, Nat.reduceBEq, Nat.reduceBNe, Nat.reducePow, Int.reduceLE, Int.reduceLT, Int.reduceNeg, Int.reduceToNat, Int.reduceEq, Int.reduceAdd, Int.reduceSub, Int.reduceMul, Int.reduceBEq, Int.reduceBNe, bm_box, bm_row, bk_box, bk_row, hd, hv, hu, d1])) ?_)
    | (simp (disch := omega) only [go_sem, Nat.reduceLT, Nat.reduceLeDiff, Nat.reduceAdd, Nat.reduceMul, Nat.reduceEqDiff, ↓reduceIte, reduceCtorEq, Nat.reduceBEq, Nat.reduceBNe, Nat.reducePow, Int.reduceLE, Int.reduceLT, Int.reduceNeg, Int.reduceToNat, Int.reduceEq, Int.reduceAdd, Int.reduceSub, Int.reduceMul, Int.reduceBEq, Int.reduceBNe, bm_box, bm_row, bk_box, bk_row, hd, hv, hu, d1])
    | (exact retS_of rfl rfl rfl)
    | (refine DW.cond_tt rfl ?_)
    | (refine DW.cond_ff rfl ?_)
    | (refine DW.cond rfl ?_ ?_ <;> intro hc <;> (try simp only [go_sem] at hc))
    | (refine g_split ?_ ?_ <;> intro hc <;> (try simp only [hc]) <;> (try simp only [go_sem] at hc)))
        refine ⟨⟨i + 1, by omega, fun j hj => by
          rcases Nat.lt_or_ge j i with h | h
          · exact hij j h
          · obtain rfl : j = i := by omega
            rw [hv, hu, hvu]⟩, ?_, Ent.to ?_ ?_⟩ <;> first | (show _ < _; (try simp only); omega) | (simp (disch := omega) only [wkT_cons, wkX_cons, wkT_nil, wkX_nil, get, Nat.reduceEqDiff, ↓reduceIte, ex_some, wk_self, wk_top, wk_nil, wkB_self, and_self, dI, i64_in, and_true, true_and, Int.natCast_add, Int.natCast_one, Int.ofNat_zero, Int.natCast_zero])
      · have d1 : (v != u) = true := by simpa using hvu
        have hne : decide (s = t) = false := by
          rw [decide_eq_false_iff_not]
          rintro rfl
          rw [hv] at hu; cases hu; exact hvu rfl
        repeat' (first
    | (with_reducible refine DW.seq ?_)
    | (with_reducible refine DW.block ?_)
    | (with_reducible refine DW.skip ?_)
    | (with_reducible refine DW.exit ?_)
    | (with_reducible refine DW.ret ?_)
    | (with_reducible refine DW.reg ?_)
    | (refine DW.dreg rfl (WF.of (by first | rfl | simp (disch := omega) only [go_sem, Nat.reduceLT, Nat.reduceLeDiff, Nat.reduceAdd, Nat.reduceMul, Nat.reduceEqDiff, ↓reduceIte, reduceCtorEq, Nat.reduceBEq, Nat.reduceBNe, Nat.reducePow, Int.reduceLE, Int.reduceLT, Int.reduceNeg, Int.reduceToNat, Int.reduceEq, Int.reduceAdd, Int.reduceSub, Int.reduceMul, Int.reduceBEq, Int.reduceBNe, bm_box, bm_row, bk_box, bk_row, hd, hv, hu, d1])) ?_)
    | (simp (disch := omega) only [go_sem, Nat.reduceLT, Nat.reduceLeDiff, Nat.reduceAdd, Nat.reduceMul, Nat.reduceEqDiff, ↓reduceIte, reduceCtorEq, Nat.reduceBEq, Nat.reduceBNe, Nat.reducePow, Int.reduceLE, Int.reduceLT, Int.reduceNeg, Int.reduceToNat, Int.reduceEq, Int.reduceAdd, Int.reduceSub, Int.reduceMul, Int.reduceBEq, Int.reduceBNe, bm_box, bm_row, bk_box, bk_row, hd, hv, hu, d1])
    | (exact retS_of rfl rfl rfl)
    | (refine DW.cond_tt rfl ?_)
    | (refine DW.cond_ff rfl ?_)
    | (refine DW.cond rfl ?_ ?_ <;> intro hc <;> (try simp only [go_sem] at hc))
    | (refine g_split ?_ ?_ <;> intro hc <;> (try simp only [hc]) <;> (try simp only [go_sem] at hc)))
        refine retS_of rfl ?_ rfl; simp only [oneD, St.op, get, Nat.reduceEqDiff, ↓reduceIte, Option.getD_some, bD, dI]
        rw [hne]
    · have hst : decide (s = t) = true := by
        rw [decide_eq_true_eq]
        apply List.ext_getElem?
        intro j
        rcases Nat.lt_or_ge j i with h | h
        · exact hij j h
        · rw [List.getElem?_eq_none (by omega), List.getElem?_eq_none (by omega)]
      repeat' (first
    | (with_reducible refine DW.seq ?_)
    | (with_reducible refine DW.block ?_)
    | (with_reducible refine DW.skip ?_)
    | (with_reducible refine DW.exit ?_)
    | (with_reducible refine DW.ret ?_)
    | (with_reducible refine DW.reg ?_)
    | (refine DW.dreg rfl (WF.of (by first | rfl | simp (disch := omega) only [go_sem, Nat.reduceLT, Nat.reduceLeDiff, Nat.reduceAdd, Nat.reduceMul, Nat.reduceEqDiff, ↓reduceIte, reduceCtorEq, Nat.reduceBEq, Nat.reduceBNe, Nat.reducePow, Int.reduceLE, Int.reduceLT, Int.reduceNeg, Int.reduceToNat, Int.reduceEq, Int.reduceAdd, Int.reduceSub, Int.reduceMul, Int.reduceBEq, Int.reduceBNe, bm_box, bm_row, bk_box, bk_row, hd])) ?_)
    | (simp (disch := omega) only [go_sem, Nat.reduceLT, Nat.reduceLeDiff, Nat.reduceAdd, Nat.reduceMul, Nat.reduceEqDiff, ↓reduceIte, reduceCtorEq, Nat.reduceBEq, Nat.reduceBNe, Nat.reducePow, Int.reduceLE, Int.reduceLT, Int.reduceNeg, Int.reduceToNat, Int.reduceEq, Int.reduceAdd, Int.reduceSub, Int.reduceMul, Int.reduceBEq, Int.reduceBNe, bm_box, bm_row, bk_box, bk_row, hd])
    | (exact retS_of rfl rfl rfl)
    | (refine DW.cond_tt rfl ?_)
    | (refine DW.cond_ff rfl ?_)
    | (refine DW.cond rfl ?_ ?_ <;> intro hc <;> (try simp only [go_sem] at hc))
    | (refine g_split ?_ ?_ <;> intro hc <;> (try simp only [hc]) <;> (try simp only [go_sem] at hc)))
      refine retS_of rfl ?_ rfl; simp only [oneD, St.op, get, Nat.reduceEqDiff, ↓reduceIte, Option.getD_some, bD, dI]
      rw [hst]
  · have e : ((s.length : Int) != t.length) = true := by rw [bne_iff_ne]; omega
    have hne : decide (s = t) = false := by
      rw [decide_eq_false_iff_not]
      rintro rfl
      exact hl rfl
    rw [hne]
    refine DCall.of Tryd.func22 sf22 hb22 (Nat.le_of_ble_eq_true rfl) (okRes_nil fun _ => rfl) ?_; simp only [s22, idxs, Nat.reduceAdd]
    repeat' (first
    | (with_reducible refine DW.seq ?_)
    | (with_reducible refine DW.block ?_)
    | (with_reducible refine DW.skip ?_)
    | (with_reducible refine DW.exit ?_)
    | (with_reducible refine DW.ret ?_)
    | (with_reducible refine DW.reg ?_)
    | (refine DW.dreg rfl (WF.of (by first | rfl | simp (disch := omega) only [go_sem, Nat.reduceLT, Nat.reduceLeDiff, Nat.reduceAdd, Nat.reduceMul, Nat.reduceEqDiff, ↓reduceIte, reduceCtorEq, Nat.reduceBEq, Nat.reduceBNe, Nat.reducePow, Int.reduceLE, Int.reduceLT, Int.reduceNeg, Int.reduceToNat, Int.reduceEq, Int.reduceAdd, Int.reduceSub, Int.reduceMul, Int.reduceBEq, Int.reduceBNe, bm_box, bm_row, bk_box, bk_row, e])) ?_)
    | (simp (disch := omega) only [go_sem, Nat.reduceLT, Nat.reduceLeDiff, Nat.reduceAdd, Nat.reduceMul, Nat.reduceEqDiff, ↓reduceIte, reduceCtorEq, Nat.reduceBEq, Nat.reduceBNe, Nat.reducePow, Int.reduceLE, Int.reduceLT, Int.reduceNeg, Int.reduceToNat, Int.reduceEq, Int.reduceAdd, Int.reduceSub, Int.reduceMul, Int.reduceBEq, Int.reduceBNe, bm_box, bm_row, bk_box, bk_row, e])
    | (exact retS_of rfl rfl rfl)
    | (refine DW.cond_tt rfl ?_)
    | (refine DW.cond_ff rfl ?_)
    | (refine DW.cond rfl ?_ ?_ <;> intro hc <;> (try simp only [go_sem] at hc))
    | (refine g_split ?_ ?_ <;> intro hc <;> (try simp only [hc]) <;> (try simp only [go_sem] at hc)))
end Go.Dw.Seat
end
section
set_option linter.unusedSimpArgs false
set_option maxRecDepth 100000
namespace Go.Dw.Seat
open Go Go.Dw Go.Proofs Go.IntWalk
def bxEx : Lod := ⟨300, 320, 100, 110⟩
def orEx : List Lod := [⟨100, 100, 50, 50⟩, ⟨200, 200, 100, 100⟩, ⟨40, 40, 60, 60⟩]
def moEx : List Lod := [⟨100, 100, 50, 50⟩, ⟨40, 40, 60, 60⟩, ⟨50, 50, 60, 60⟩]
def ruEx : CR := ⟨5, 100, 80, 1⟩
theorem okB {l : List Lod} (h : (l.all fun b => decide (0 ≤ b.sl ∧ b.sl ≤ b.sh ∧ b.sh ≤ 20000000) && decide (0 ≤ b.wl ∧ b.wl ≤ b.wh ∧ b.wh ≤ 100000)) = true) : ∀ b ∈ l, b.ok := fun b hb => by
  have := List.all_eq_true.1 h b hb
  simp only [Bool.and_eq_true, decide_eq_true_eq] at this
  exact ⟨this.1, this.2⟩
theorem tabEx_ok : TabF tabEx := ⟨by decide, fun u hu => by cases hu; rfl, by decide, fun i u v hu hv => by
  rcases i with _ | _ | _ | i
  · cases hu; cases hv; decide
  · cases hu; cases hv; decide
  · cases hv
  · cases hv⟩
theorem tab1_ok : TabF [((0 : Int), (1000 : Int))] := ⟨by decide, fun u hu => by cases hu; rfl, by decide, fun i u v hu hv => by
  rcases i with _ | i
  · cases hv
  · cases hv⟩
theorem exRule (rs : List Int) (h : (rs.all fun x => decide (0 ≤ x ∧ x ≤ 100000)) = true) (hl : rs.length ≤ 5) : CRok ruEx rs 5 := ⟨by decide, by decide, by decide, by decide, by decide, by show (rs.length : Int) ≤ 5; omega, fun x hx => by simpa using List.all_eq_true.1 h x hx⟩
theorem exDec1 (b : Bool) : DCall Tryd.prog 19 [dCR ruEx, dIs b [120, 110, 90], dI 5] [] (.tup [dI 3, dI 0]) [] := by
  have := crDecide b ruEx [120, 110, 90] 5 (exRule _ (by decide) (by decide))
  rwa [show stateI ruEx (lotOf ruEx 5 [120, 110, 90]) = 3 by decide] at this
theorem exDec2 (b : Bool) : DCall Tryd.prog 19 [dCR ruEx, dIs b [120, 110, 70, 60], dI 5] [] (.tup [dI 2, dI 0]) [] := by
  have := crDecide b ruEx [120, 110, 70, 60] 5 (exRule _ (by decide) (by decide))
  rwa [show stateI ruEx (lotOf ruEx 5 [120, 110, 70, 60]) = 2 by decide] at this
theorem exNeed (b : Bool) : DCall Tryd.prog 20 [dCR ruEx, dIs b [120, 110, 90], dI 5] [] (.tup [dI 1, dI 2, dI 0]) [] := by
  have := crNeed b ruEx [120, 110, 90] 5 (exRule _ (by decide) (by decide)) 2 (by decide)
  rwa [show untilF ruEx 1 100000 2 (lotOf ruEx 5 [120, 110, 90]) 0 = 1 by decide, show untilF ruEx 2 0 2 (lotOf ruEx 5 [120, 110, 90]) 0 = 2 by decide] at this
theorem exOdd (b : Bool) : DCall Tryd.prog 27 [dIs b [100, 130, 104, 98], dI 5, dI 10] [] (.tup [dIs false [1], dI 0]) [] := by
  have := crOdd b [100, 130, 104, 98] 5 10 (by decide) (by decide) (by decide) (by decide)
  rwa [show oddI 5 10 [100, 130, 104, 98] = [1] by decide] at this
theorem exStr : DCall Tryd.prog 29 [dCBox ⟨5000, 6000, 4000, 4200, 1600, 587⟩] [] (.tup [.agg [dI 74226, dI 91290], dI 0]) [] :=
  crStrength ⟨5000, 6000, 4000, 4200, 1600, 587⟩ ⟨by decide, by decide, by decide, by decide⟩ 2529 2592 ⟨by decide, by decide, by decide⟩ ⟨by decide, by decide, by decide⟩
theorem exLoads : DCall Tryd.prog 35 [.c (.sl false 4 (rows eLd [bxEx, bxEx, bxEx]))] [] (.tup [.c (.sl false 2 (rows eK [(200, 220), (100, 110), (0, 0)])), dI 0]) [] :=
  crLoads [bxEx, bxEx, bxEx] (okB (by decide)) (by decide)
theorem exFall1 (b1 b2 : Bool) : DCall Tryd.prog 36 [.c (.sl b1 4 (rows eLd [bxEx, bxEx, bxEx])), .c (.sl b2 2 (rows eK tabEx)), dI 40] [] (.tup [dI 30, dI 0, dI 0]) [] := by
  have := crFall [bxEx, bxEx, bxEx] (okB (by decide)) (by decide) tabEx 40 ⟨tabEx_ok, by decide⟩
  rw [show fallR [bxEx, bxEx, bxEx] 40 tabEx = (30, 0, 0) by decide] at this
  exact this.lbl rfl (.sl (.sl (.same .nil)))
theorem exFall2 (b1 b2 : Bool) : DCall Tryd.prog 36 [.c (.sl b1 4 (rows eLd [bxEx, bxEx, bxEx])), .c (.sl b2 2 (rows eK tabEx)), dI 29] [] (.tup [dI 0, dI 0, dI 7]) [] := by
  have := crFall [bxEx, bxEx, bxEx] (okB (by decide)) (by decide) tabEx 29 ⟨tabEx_ok, by decide⟩
  rw [show fallR [bxEx, bxEx, bxEx] 29 tabEx = (0, 0, 7) by decide] at this
  exact this.lbl rfl (.sl (.sl (.same .nil)))
theorem exHigh (b : Bool) : DCall Tryd.prog 43 [.agg ((eLd bxEx).map D.c), .c (.sl b 2 (rows eK tabEx)), dI 10] [] (.tup [dI 3, dI 0]) [] := by
  have := crHigh bxEx (okB (l := [bxEx]) (by decide) _ (by simp)) tabEx 10 ⟨tabEx_ok, by decide⟩
  rw [show highI bxEx tabEx 10 = 3 by decide] at this
  exact this.lbl rfl (.same (.sl (.same .nil)))
theorem exOrder : DCall Tryd.prog 45 [.c (.sl false 4 (rows eLd orEx)), .c (.sl false 2 (rows eK [(0, 1000)])), dI 0] [] (.tup [dIs false [1, 0, 2], dI 0]) [] := by
  have := crOrder orEx (okB (by decide)) (by decide) [(0, 1000)] 0 ⟨tab1_ok, by decide⟩ (by decide +kernel)
  rwa [show ordI orEx (lastI 0 [(0, 1000)] 0) (2 ^ orEx.length - 1) (2 ^ orEx.length - 1) = [1, 0, 2] by decide +kernel] at this
theorem exMost : DCall Tryd.prog 46 [.c (.sl false 4 (rows eLd moEx)), .c (.sl false 2 (rows eK [(0, 1000)])), dI 0] [] (.tup [dIs false [0, 1], dI 0]) [] := by
  have := crMost moEx (okB (by decide)) (by decide) [(0, 1000)] 0 ⟨tab1_ok, by decide⟩
  rwa [show mostI moEx (lastI 0 [(0, 1000)] 0) = [0, 1] by decide +kernel] at this
set_option maxHeartbeats 4000000 in
theorem laKnown : DCall Tryd.prog 16 [] [] (bD true) [] := by
  have hb := laLoad bxEx
  have h1 := exDec1 true
  have h2 := exDec2 true
  have h3 := exNeed true
  have h4 := exOdd true
  have h5 := exStr
  have h6 := laSpan 5000 6000
  have h7 := laSpan 4000 4200
  refine DCall.of Tryd.func16 sf16 hb16 (Nat.le_of_ble_eq_true rfl) (okRes_nil fun _ => rfl) ?_; simp only [s16, idxs, Nat.reduceAdd]
  repeat' (first
    | (with_reducible refine DW.seq ?_)
    | (with_reducible refine DW.block ?_)
    | (with_reducible refine DW.skip ?_)
    | (with_reducible refine DW.exit ?_)
    | (with_reducible refine DW.ret ?_)
    | (with_reducible refine DW.reg ?_)
    | (refine DW.dreg rfl (WF.of (by first | rfl | simp (disch := omega) only [go_sem, Nat.reduceLT, Nat.reduceLeDiff, Nat.reduceAdd, Nat.reduceMul, Nat.reduceEqDiff, ↓reduceIte, reduceCtorEq, Nat.reduceBEq, Nat.reduceBNe, Nat.reducePow, Int.reduceLE, Int.reduceLT, Int.reduceNeg, Int.reduceToNat, Int.reduceEq, Int.reduceAdd, Int.reduceSub, Int.reduceMul, Int.reduceBEq, Int.reduceBNe, bm_box, bm_row, bk_box, bk_row])) ?_)
    | (simp (disch := omega) only [go_sem, Nat.reduceLT, Nat.reduceLeDiff, Nat.reduceAdd, Nat.reduceMul, Nat.reduceEqDiff, ↓reduceIte, reduceCtorEq, Nat.reduceBEq, Nat.reduceBNe, Nat.reducePow, Int.reduceLE, Int.reduceLT, Int.reduceNeg, Int.reduceToNat, Int.reduceEq, Int.reduceAdd, Int.reduceSub, Int.reduceMul, Int.reduceBEq, Int.reduceBNe, bm_box, bm_row, bk_box, bk_row])
    | (exact retS_of rfl rfl rfl)
    | (refine DW.cond_tt rfl ?_)
    | (refine call_c (hb) (by decide) ?_)
    | (refine call_c (h1) (by decide) ?_)
    | (refine call_c (h2) (by decide) ?_)
    | (refine call_c (h3) (by decide) ?_)
    | (refine call_c (h4) (by decide) ?_)
    | (refine call_c (h5) (by decide) ?_)
    | (refine call_c (h6) (by decide) ?_)
    | (refine call_c (h7) (by decide) ?_)
    | (refine DW.cond_ff rfl ?_)
    | (refine DW.cond rfl ?_ ?_ <;> intro hc <;> (try simp only [go_sem] at hc))
    | (refine g_split ?_ ?_ <;> intro hc <;> (try simp only [hc]) <;> (try simp only [go_sem] at hc)))
  refine call_e (Ent.rel 65 rfl) exLoads rfl rfl (by decide) ?_
  simp (disch := omega) only [go_sem, Nat.reduceLT, Nat.reduceLeDiff, Nat.reduceAdd, Nat.reduceMul, Nat.reduceEqDiff, ↓reduceIte, reduceCtorEq, Nat.reduceBEq, Nat.reduceBNe, Nat.reducePow, Int.reduceLE, Int.reduceLT, Int.reduceNeg, Int.reduceToNat, Int.reduceEq, Int.reduceAdd, Int.reduceSub, Int.reduceMul, Int.reduceBEq, Int.reduceBNe, bm_box, bm_row, bk_box, bk_row]
  have f1 := exFall1 true false
  have f2 := exFall2 true false
  have f3 := exHigh false
  have tb := laTable
  have o1 := laLoad ⟨100, 100, 50, 50⟩
  have o2 := laLoad ⟨200, 200, 100, 100⟩
  have o3 := laLoad ⟨40, 40, 60, 60⟩
  have o4 := laLoad ⟨50, 50, 60, 60⟩
  have t1 : ((tabEx.length : Nat) : Int) = 3 := rfl
  have t2 : tabEx.take 1 = [(0, 1000)] := rfl
  repeat' (first
    | (with_reducible refine DW.seq ?_)
    | (with_reducible refine DW.block ?_)
    | (with_reducible refine DW.skip ?_)
    | (with_reducible refine DW.exit ?_)
    | (with_reducible refine DW.ret ?_)
    | (with_reducible refine DW.reg ?_)
    | (refine DW.dreg rfl (WF.of (by first | rfl | simp (disch := omega) only [go_sem, Nat.reduceLT, Nat.reduceLeDiff, Nat.reduceAdd, Nat.reduceMul, Nat.reduceEqDiff, ↓reduceIte, reduceCtorEq, Nat.reduceBEq, Nat.reduceBNe, Nat.reducePow, Int.reduceLE, Int.reduceLT, Int.reduceNeg, Int.reduceToNat, Int.reduceEq, Int.reduceAdd, Int.reduceSub, Int.reduceMul, Int.reduceBEq, Int.reduceBNe, bm_box, bm_row, bk_box, bk_row, t1, t2])) ?_)
    | (simp (disch := omega) only [go_sem, Nat.reduceLT, Nat.reduceLeDiff, Nat.reduceAdd, Nat.reduceMul, Nat.reduceEqDiff, ↓reduceIte, reduceCtorEq, Nat.reduceBEq, Nat.reduceBNe, Nat.reducePow, Int.reduceLE, Int.reduceLT, Int.reduceNeg, Int.reduceToNat, Int.reduceEq, Int.reduceAdd, Int.reduceSub, Int.reduceMul, Int.reduceBEq, Int.reduceBNe, bm_box, bm_row, bk_box, bk_row, t1, t2])
    | (exact retS_of rfl rfl rfl)
    | (refine DW.cond_tt rfl ?_)
    | (refine call_c (f1) (by decide) ?_)
    | (refine call_c (f2) (by decide) ?_)
    | (refine call_c (f3) (by decide) ?_)
    | (refine call_c (tb) (by decide) ?_)
    | (refine call_c (o1) (by decide) ?_)
    | (refine call_c (o2) (by decide) ?_)
    | (refine call_c (o3) (by decide) ?_)
    | (refine call_c (o4) (by decide) ?_)
    | (refine DW.cond_ff rfl ?_)
    | (refine DW.cond rfl ?_ ?_ <;> intro hc <;> (try simp only [go_sem] at hc))
    | (refine g_split ?_ ?_ <;> intro hc <;> (try simp only [hc]) <;> (try simp only [go_sem] at hc)))
  refine call_e (Ent.rel 99 rfl) exOrder rfl rfl (by decide) ?_
  simp (disch := omega) only [go_sem, Nat.reduceLT, Nat.reduceLeDiff, Nat.reduceAdd, Nat.reduceMul, Nat.reduceEqDiff, ↓reduceIte, reduceCtorEq, Nat.reduceBEq, Nat.reduceBNe, Nat.reducePow, Int.reduceLE, Int.reduceLT, Int.reduceNeg, Int.reduceToNat, Int.reduceEq, Int.reduceAdd, Int.reduceSub, Int.reduceMul, Int.reduceBEq, Int.reduceBNe, bm_box, bm_row, bk_box, bk_row]
  repeat' (first
    | (with_reducible refine DW.seq ?_)
    | (with_reducible refine DW.block ?_)
    | (with_reducible refine DW.skip ?_)
    | (with_reducible refine DW.exit ?_)
    | (with_reducible refine DW.ret ?_)
    | (with_reducible refine DW.reg ?_)
    | (refine DW.dreg rfl (WF.of (by first | rfl | simp (disch := omega) only [go_sem, Nat.reduceLT, Nat.reduceLeDiff, Nat.reduceAdd, Nat.reduceMul, Nat.reduceEqDiff, ↓reduceIte, reduceCtorEq, Nat.reduceBEq, Nat.reduceBNe, Nat.reducePow, Int.reduceLE, Int.reduceLT, Int.reduceNeg, Int.reduceToNat, Int.reduceEq, Int.reduceAdd, Int.reduceSub, Int.reduceMul, Int.reduceBEq, Int.reduceBNe, bm_box, bm_row, bk_box, bk_row, t1, t2])) ?_)
    | (simp (disch := omega) only [go_sem, Nat.reduceLT, Nat.reduceLeDiff, Nat.reduceAdd, Nat.reduceMul, Nat.reduceEqDiff, ↓reduceIte, reduceCtorEq, Nat.reduceBEq, Nat.reduceBNe, Nat.reducePow, Int.reduceLE, Int.reduceLT, Int.reduceNeg, Int.reduceToNat, Int.reduceEq, Int.reduceAdd, Int.reduceSub, Int.reduceMul, Int.reduceBEq, Int.reduceBNe, bm_box, bm_row, bk_box, bk_row, t1, t2])
    | (exact retS_of rfl rfl rfl)
    | (refine DW.cond_tt rfl ?_)
    | (refine call_c (tb) (by decide) ?_)
    | (refine call_c (o1) (by decide) ?_)
    | (refine call_c (o2) (by decide) ?_)
    | (refine call_c (o3) (by decide) ?_)
    | (refine call_c (o4) (by decide) ?_)
    | (refine DW.cond_ff rfl ?_)
    | (refine DW.cond rfl ?_ ?_ <;> intro hc <;> (try simp only [go_sem] at hc))
    | (refine g_split ?_ ?_ <;> intro hc <;> (try simp only [hc]) <;> (try simp only [go_sem] at hc)))
  refine call_e (Ent.rel 109 rfl) exMost rfl rfl (by decide) ?_
  simp (disch := omega) only [go_sem, Nat.reduceLT, Nat.reduceLeDiff, Nat.reduceAdd, Nat.reduceMul, Nat.reduceEqDiff, ↓reduceIte, reduceCtorEq, Nat.reduceBEq, Nat.reduceBNe, Nat.reducePow, Int.reduceLE, Int.reduceLT, Int.reduceNeg, Int.reduceToNat, Int.reduceEq, Int.reduceAdd, Int.reduceSub, Int.reduceMul, Int.reduceBEq, Int.reduceBNe, bm_box, bm_row, bk_box, bk_row]
  have s1 : DCall Tryd.prog 22 [dIs false [1], dIs true [1]] [] (bD true) [] := refSame false true [1] [1] (by decide) (by decide)
  have s2 : DCall Tryd.prog 22 [dIs false [1, 0, 2], dIs true [1, 0, 2]] [] (bD true) [] := refSame false true [1, 0, 2] [1, 0, 2] (by decide) (by decide)
  have s3 : DCall Tryd.prog 22 [dIs false [0, 1], dIs true [0, 1]] [] (bD true) [] := refSame false true [0, 1] [0, 1] (by decide) (by decide)
  have p1 := laSpan 74226 91290
  have p2 := laSpan 200 220
  have p3 := laSpan 0 0
  repeat' (first
    | (with_reducible refine DW.seq ?_)
    | (with_reducible refine DW.block ?_)
    | (with_reducible refine DW.skip ?_)
    | (with_reducible refine DW.exit ?_)
    | (with_reducible refine DW.ret ?_)
    | (with_reducible refine DW.reg ?_)
    | (refine DW.dreg rfl (WF.of (by first | rfl | simp (disch := omega) only [go_sem, Nat.reduceLT, Nat.reduceLeDiff, Nat.reduceAdd, Nat.reduceMul, Nat.reduceEqDiff, ↓reduceIte, reduceCtorEq, Nat.reduceBEq, Nat.reduceBNe, Nat.reducePow, Int.reduceLE, Int.reduceLT, Int.reduceNeg, Int.reduceToNat, Int.reduceEq, Int.reduceAdd, Int.reduceSub, Int.reduceMul, Int.reduceBEq, Int.reduceBNe, bm_box, bm_row, bk_box, bk_row, rows, List.map_cons, List.map_nil])) ?_)
    | (simp (disch := omega) only [go_sem, Nat.reduceLT, Nat.reduceLeDiff, Nat.reduceAdd, Nat.reduceMul, Nat.reduceEqDiff, ↓reduceIte, reduceCtorEq, Nat.reduceBEq, Nat.reduceBNe, Nat.reducePow, Int.reduceLE, Int.reduceLT, Int.reduceNeg, Int.reduceToNat, Int.reduceEq, Int.reduceAdd, Int.reduceSub, Int.reduceMul, Int.reduceBEq, Int.reduceBNe, bm_box, bm_row, bk_box, bk_row, rows, List.map_cons, List.map_nil])
    | (exact retS_of rfl rfl rfl)
    | (refine DW.cond_tt rfl ?_)
    | (refine call_c (s1) (by decide) ?_)
    | (refine call_c (s2) (by decide) ?_)
    | (refine call_c (s3) (by decide) ?_)
    | (refine call_c (p1) (by decide) ?_)
    | (refine call_c (p2) (by decide) ?_)
    | (refine call_c (p3) (by decide) ?_)
    | (refine DW.cond_ff rfl ?_)
    | (refine DW.cond rfl ?_ ?_ <;> intro hc <;> (try simp only [go_sem] at hc))
    | (refine g_split ?_ ?_ <;> intro hc <;> (try simp only [hc]) <;> (try simp only [go_sem] at hc)))
end Go.Dw.Seat
end
section
set_option linter.unusedSimpArgs false
set_option maxRecDepth 100000
namespace Go.Dw.Seat
open Go Go.Dw Go.Proofs Go.ChangeShapes Go.WideShapes Go.ChangeAt Go.RowKit Go.IntWalk
theorem tOwn : ownKnob Tryd.prog.godebug = none := by kernel_rfl
theorem tLaid : laidOutB Tryd.prog = true := by kernel_rfl
theorem u3 : Tryd.prog.underlying 3 = some (.int .i64) := by kernel_rfl
theorem u4 : Tryd.prog.underlying 4 = some .bool := by kernel_rfl
abbrev laid2 : List (String × DataW Unit) := [("math/bits.deBruijn32tab", YtmkkedldhafjfaaDoor.Rows.laid_math_bits_deBruijn32tab), ("math/bits.deBruijn64tab", YtmkkedldhafjfaaDoor.Rows.laid_math_bits_deBruijn64tab)]
theorem gTab64 : Tryd.prog.globalNamed "math/bits.deBruijn64tab" = some 1 := by kernel_rfl
theorem tTab64 : (Tryd.prog.globals[1]?).map (·.type) = some 187 := by kernel_rfl
theorem uTab64 : Tryd.prog.underlying 187 = some (.array 64 5) := by kernel_rfl
theorem cells5 : Tryd.prog.cellsOf 5 = 1 := by kernel_rfl
theorem und5 : Tryd.prog.underlying 5 = some (.int .u8) := by kernel_rfl
theorem door_met (os : Os) (args : Array Value) : laidMetH Tryd.prog laid2 ((World.doorLaid Tryd.prog 400 os).forCall (fun _ _ => 0) ⟨#[], args, []⟩).memory :=
  laidMetH_of_parts3 (fuel := 8) (laidMet_of_run' 8 (by kernel_rfl) (by kernel_rfl)) (by kernel_rfl) (by kernel_rfl)
theorem tabD : (YtmkkedldhafjfaaDoor.Rows.laid_math_bits_deBruijn64tab : DataW Unit) = .agg (tabI.map fun n => .lit (.int .u8 n)) := rfl
theorem laid_of {W : World} (h : laidMetH Tryd.prog laid2 W) : LaidA (fun _ => False) W := by
  rw [MakeChecks.laidMetH_plain _ _ _ (by kernel_rfl)] at h
  obtain ⟨ps, ⟨g0, t0, cs0, f0, p0, q0, hg0, ht0, hv0, hd0, ⟨g1, t1, cs1, f1, p1, q1, hg1, ht1, hv1, hd1, _, _⟩, _⟩, _, _⟩ := h
  obtain rfl := Option.some.inj (gTab64.symm.trans hg1)
  obtain rfl := Option.some.inj (tTab64.symm.trans ht1)
  obtain ⟨xs, m, rfl, hx, hlen, hn, hel⟩ := DataW.trod_array uTab64 hd1
  rw [tabD] at hx
  simp only [Prod.mk.injEq, DataW.agg.injEq] at hx
  have key : ∀ j v, tab64[j]? = some v → W.cell? ⟨1, j, none⟩ = some v ∧ v.oneCell' = true := by
    intro j v hj
    rw [tab_get, Option.map_eq_some_iff] at hj
    obtain ⟨n, hn', rfl⟩ := hj
    have hj64 : j < 64 := (List.getElem?_eq_some_iff.1 hn').1
    have h1 := hel j hj64
    rw [cells5, Nat.mul_one] at h1
    obtain ⟨y, hy⟩ : ∃ y, xs[j]? = some y := ⟨xs[j]'(by omega), by simp [hn, hj64]⟩
    rw [hy] at h1
    obtain ⟨k, e1, e2, _⟩ := DataW.trod_int und5 h1
    have e3 : (xs.map (·.1))[j]? = some y.1 := by rw [List.getElem?_map, hy]; rfl
    rw [← hx.1, List.getElem?_map, hn'] at e3
    simp only [Option.map_some, Option.some.injEq] at e3
    have hk : k = n := by rw [e2] at e3; simpa using e3.symm
    subst hk
    have e4 : cs1.toList[j]? = some (.int .u8 k) := take_one e1
    refine ⟨?_, rfl⟩
    rw [World.var?_cell hg1 hv1 j]
    simpa using e4
  intro p hp
  have hp' : p = (1, tab64) := by simpa [Lays.l] using hp
  subst hp'
  refine ⟨?_, fun h => h, key⟩
  have h0 := (key 0 _ rfl).1
  rcases Nat.lt_or_ge 1 W.heap.size with h | h
  · exact h
  · have : W.heap[1]? = none := by simpa using h
    simp [World.cell?, this] at h0
end Go.Dw.Seat
end
section
set_option linter.unusedSimpArgs false
set_option maxRecDepth 100000
namespace Go.Dw.Seat
open Go Go.Dw Go.Proofs Go.ChangeShapes Go.WideShapes Go.ChangeAt Go.RowKit
theorem u80 : Tryd.prog.underlying 80 = some (.array 4 5) := by kernel_rfl
theorem u81 : Tryd.prog.underlying 81 = some (.slice 100) := by kernel_rfl
theorem u94 : Tryd.prog.underlying 94 = some (.array 3 5) := by kernel_rfl
theorem u100 : Tryd.prog.underlying 100 = some (.array 2 5) := by kernel_rfl
theorem u103 : Tryd.prog.underlying 103 = some (.slice 80) := by kernel_rfl
theorem u105 : structIs Tryd.prog 105 [(103, 0), (81, 1)] = true := by kernel_rfl
theorem cl80 : Tryd.prog.cellsOf 80 = 4 := by kernel_rfl
theorem cl81 : Tryd.prog.cellsOf 81 = 1 := by kernel_rfl
theorem cl94 : Tryd.prog.cellsOf 94 = 3 := by kernel_rfl
theorem cl100 : Tryd.prog.cellsOf 100 = 2 := by kernel_rfl
theorem cl103 : Tryd.prog.cellsOf 103 = 1 := by kernel_rfl
theorem cl105 : Tryd.prog.cellsOf 105 = 2 := by kernel_rfl
def eN (k : IntKind) (l : List Nat) : List C := l.map fun n : Nat => .v (.int k (n : Int))
theorem eN_len (k : IntKind) (l : List Nat) : (eN k l).length = l.length := by simp [eN]
def e1 (k : IntKind) (n : Nat) : List C := [.v (.int k n)]
def AllLt (b : Nat) (l : List Nat) : Prop := ∀ x ∈ l, x < b
section
variable {H : Type} {enc : TypeId × Value → H} {w : World} {base : Nat} {spare : Nat → Bool} {held : Bool} {fuel : Nat} {cs : List Value} {x : DataW H × List MemPlace}
theorem wf8 {n : Int} (h : (Lit.int .u8 n).wf = true) : ∃ v : Nat, n = v ∧ v < 256 := by
  have e1 : IntKind.min .u8 = 0 := by decide
  have e2 : IntKind.max .u8 = 255 := by decide
  simp only [Lit.wf, e1, e2, Bool.and_eq_true, decide_eq_true_eq] at h
  exact ⟨n.toNat, by omega, by omega⟩
theorem rd_U8 (h : DataW.trod enc Tryd.prog w base spare held fuel 5 cs = some x) : ∃ v : Nat, cs = [.int .u8 v] ∧ v < 256 := by
  obtain ⟨n, e, hw⟩ := rd_int und5 h
  obtain ⟨v, rfl, hv⟩ := wf8 hw
  exact ⟨v, e, hv⟩
theorem rep_ints (k : IntKind) : ∀ l : List Nat, RepVs w A0 (eN k l) (l.map fun n : Nat => Value.int k (n : Int))
  | [] => rfl
  | _ :: l => ⟨_, _, rfl, ⟨rfl, rfl⟩, rep_ints k l⟩
theorem rd_arrN {t e : TypeId} {n b : Nat} {k : IntKind} (ht : Tryd.prog.underlying t = some (.array n e)) (he : Tryd.prog.cellsOf e = 1) (hc : Tryd.prog.cellsOf t = n)
    (hrd : ∀ m cs x, DataW.trod enc Tryd.prog w base spare held m e cs = some x → ∃ v : Nat, cs = [.int k v] ∧ v < b) (h : DataW.trod enc Tryd.prog w base spare held fuel t cs = some x) : ∃ l : List Nat, (l.length = n ∧ AllLt b l) ∧ RepVs w A0 (eN k l) cs := by
  obtain ⟨hl, m, hf⟩ := rd_array ht h
  rw [hc] at hl
  have key : ∀ j, j ≤ n → ∃ l : List Nat, (l.length = j ∧ AllLt b l) ∧ cs.take j = l.map fun n : Nat => Value.int k (n : Int) := by
    intro j
    induction j with
    | zero => intro _; exact ⟨[], ⟨rfl, fun x hx => by cases hx⟩, rfl⟩
    | succ j ih =>
      intro hj
      obtain ⟨l, ⟨h1, h2⟩, h3⟩ := ih (by omega)
      obtain ⟨y, hy⟩ := hf j (by omega)
      rw [he, Nat.mul_one] at hy
      obtain ⟨v, e1, hv⟩ := hrd _ _ _ hy
      have e2 := take_one e1
      refine ⟨l ++ [v], ⟨by simp [h1], fun x hx => ?_⟩, ?_⟩
      · rcases List.mem_append.1 hx with hx | hx
        · exact h2 x hx
        · rw [List.mem_singleton] at hx; rw [hx]; exact hv
      · rw [List.take_add_one, h3, e2]; simp
  obtain ⟨l, h1, h2⟩ := key n (Nat.le_refl _)
  rw [List.take_of_length_le (by omega)] at h2
  rw [h2]
  exact ⟨l, h1, rep_ints k l⟩
theorem rd_slA {t e : TypeId} {n b : Nat} {k : IntKind} (hn : 0 < n) (ht : Tryd.prog.underlying t = some (.slice e)) (he : Tryd.prog.cellsOf e = n)
    (hrd : ∀ m cs x, DataW.trod enc Tryd.prog w base spare held m e cs = some x → ∃ l : List Nat, (l.length = n ∧ AllLt b l) ∧ RepVs w A0 (eN k l) cs) (h : DataW.trod enc Tryd.prog w base spare held fuel t cs = some x) :
    ∃ (l : List (List Nat)) (v : Value), cs = [v] ∧ RepC w A0 (.sl false n (rows (eN k) l)) v ∧ l.length ≤ maxLen ∧ ∀ u ∈ l, u.length = n ∧ AllLt b u := by
  obtain ⟨l, v, e', hr, hm, _⟩ := rd_slice (f := fun v : {v : List Nat // v.length = n ∧ AllLt b v} => eN k v.1) ht he hn (fun a => by rw [eN_len]; exact a.2.1) (fun m cs x h => by
    obtain ⟨l, h1, h2⟩ := hrd m cs x h
    exact ⟨⟨l, h1⟩, h2⟩) h
  refine ⟨l.map (·.1), v, e', ?_, by simpa using hm, fun u hu => ?_⟩
  · have : rows (eN k) (l.map (·.1)) = rows (fun v : {v : List Nat // v.length = n ∧ AllLt b v} => eN k v.1) l := by simp [rows, Function.comp_def]
    rw [this]; exact hr
  · obtain ⟨a, _, rfl⟩ := List.mem_map.1 hu
    exact a.2
theorem rd_A3 (h : DataW.trod enc Tryd.prog w base spare held fuel 94 cs = some x) : ∃ l : List Nat, (l.length = 3 ∧ AllLt 256 l) ∧ RepVs w A0 (eN .u8 l) cs := rd_arrN u94 cells5 cl94 (fun _ _ _ h => rd_U8 h) h
theorem rd_As {t e : TypeId} {n : Nat} (hn : 0 < n) (ht : Tryd.prog.underlying t = some (.slice e)) (hu : Tryd.prog.underlying e = some (.array n 5)) (hc : Tryd.prog.cellsOf e = n) (h : DataW.trod enc Tryd.prog w base spare held fuel t cs = some x) :
    ∃ (l : List (List Nat)) (v : Value), cs = [v] ∧ RepC w A0 (.sl false n (rows (eN .u8) l)) v ∧ l.length ≤ maxLen ∧ ∀ u ∈ l, u.length = n ∧ AllLt 256 u :=
  rd_slA hn ht hc (fun _ _ _ h => rd_arrN hu cells5 hc (fun _ _ _ h => rd_U8 h) h) h
structure LotB where
  rule : List Nat
  off : Nat
  tests : List (List Nat)
structure LotB.ok (x : LotB) : Prop where
  rule : x.rule.length = 4 ∧ AllLt 256 x.rule
  off : x.off < 256
  tests : ∀ u ∈ x.tests, u.length = 2 ∧ AllLt 256 u
  len : x.tests.length ≤ maxLen
structure PileB where
  boxes : List (List Nat)
  steps : List (List Nat)
structure PileB.ok (x : PileB) : Prop where
  boxes : ∀ u ∈ x.boxes, u.length = 4 ∧ AllLt 256 u
  steps : ∀ u ∈ x.steps, u.length = 2 ∧ AllLt 256 u
  blen : x.boxes.length ≤ maxLen
  slen : x.steps.length ≤ maxLen
abbrev cPileB (b : Bool) (x : PileB) : List C := [.sl b 4 (rows (eN .u8) x.boxes), .sl b 2 (rows (eN .u8) x.steps)]
theorem rd_PileB (h : DataW.trod enc Tryd.prog w base spare held fuel 105 cs = some x) : ∃ l : PileB, l.ok ∧ RepVs w A0 (cPileB false l) cs := by
  obtain ⟨hl, m, hf⟩ := rd_struct u105 h
  rw [cl105] at hl
  obtain ⟨y0, h0⟩ := hf 0 103 0 rfl
  obtain ⟨y1, h1⟩ := hf 1 81 1 rfl
  rw [cl103] at h0
  rw [cl81] at h1
  match cs, hl with
  | [a, b], _ =>
    obtain ⟨l0, v0, e0, r0, p0, q0⟩ := rd_As (by decide) u103 u80 cl80 h0
    obtain ⟨l2, v2, e2, r2, p2, q2⟩ := rd_As (by decide) u81 u100 cl100 h1
    simp at e0 e2
    subst e0; subst e2
    exact ⟨⟨l0, l2⟩, ⟨q0, q2, p0, p2⟩, _, _, rfl, r0, _, _, rfl, r2, rfl⟩
end
end Go.Dw.Seat
end
section
set_option linter.unusedSimpArgs false
set_option maxRecDepth 100000
namespace Go.Dw.Seat
open Go Go.Dw Go.Proofs Go.IntWalk
theorem two_of' {u : List Nat} (h : u.length = 2) : ∃ a b, u = [a, b] := by
  match u, h with
  | [a, b], _ => exact ⟨a, b, rfl⟩
theorem tmodN (a b : Nat) : ((a : Int)).tmod (b : Int) = ((a % b : Nat) : Int) := by
  rw [Int.tmod_eq_emod_of_nonneg (by omega)]; exact (Int.natCast_emod a b).symm
end Go.Dw.Seat
end
section
set_option linter.unusedSimpArgs false
set_option maxRecDepth 100000
namespace Go.Dw.Seat
open Go Go.Dw Go.Proofs Go.IntWalk
def uA (l : List Nat) (i : Nat) : Nat := (l[i]?).getD 0
def bxOf (u : List Nat) : Lod := ⟨4 * (uA u 0 : Int), 4 * (uA u 0 : Int) + ((uA u 1 % 50 : Nat) : Int), uA u 2, (uA u 2 : Int) + ((uA u 3 % 30 : Nat) : Int)⟩
def pileL (x : PileB) : Nat → List Lod
  | 0 => []
  | i + 1 => pileL x i ++ [bxOf ((x.boxes[i]?).getD [])]
theorem pileL_len (x : PileB) : ∀ i, (pileL x i).length = i
  | 0 => rfl
  | i + 1 => by simp [pileL, pileL_len x i]
theorem bxOf_ok {u : List Nat} (h : AllLt 256 u) : (bxOf u).ok := by
  have hb : ∀ i, uA u i < 256 := fun i => by
    unfold uA
    cases e : u[i]? with
    | none => simp
    | some v => exact h v (List.mem_of_getElem? e)
  have h0 := hb 0
  have h2 := hb 2
  have h1 : uA u 1 % 50 < 50 := Nat.mod_lt _ (by decide)
  have h3 : uA u 3 % 30 < 30 := Nat.mod_lt _ (by decide)
  unfold bxOf
  constructor
  · dsimp only; omega
  · dsimp only; omega
theorem pileL_ok {x : PileB} (h : x.ok) : ∀ i, ∀ b ∈ pileL x i, b.ok
  | 0, b, hb => by cases hb
  | i + 1, b, hb => by
    simp only [pileL, List.mem_append, List.mem_singleton] at hb
    rcases hb with hb | rfl
    · exact pileL_ok h i b hb
    · refine bxOf_ok fun v hv => ?_
      cases e : x.boxes[i]? with
      | none => rw [e] at hv; cases hv
      | some u => rw [e] at hv; exact (h.boxes u (List.mem_of_getElem? e)).2 v hv
def stP (x : PileB) : Nat → Int × Int
  | 0 => (0, 1000)
  | i + 1 => ((stP x i).1 + 1 + ((uA ((x.steps[i]?).getD []) 0 % 60 : Nat) : Int), ((stP x i).2 * (255 - (uA ((x.steps[i]?).getD []) 1 / 3 : Nat))).tdiv 255)
def stL (x : PileB) : Nat → List (Int × Int)
  | 0 => [(0, 1000)]
  | i + 1 => stL x i ++ [stP x (i + 1)]
theorem stL_len (x : PileB) : ∀ i, (stL x i).length = i + 1
  | 0 => rfl
  | i + 1 => by simp [stL, stL_len x i]
theorem stL_get (x : PileB) : ∀ {i j : Nat}, j ≤ i → (stL x i)[j]? = some (stP x j)
  | 0, j, h => by obtain rfl : j = 0 := by omega
                  rfl
  | i + 1, j, h => by
    rw [stL]
    by_cases e : j = i + 1
    · subst e
      rw [List.getElem?_append_right (by rw [stL_len]; exact Nat.le_refl _), stL_len, Nat.sub_self]; rfl
    · rw [List.getElem?_append_left (by rw [stL_len]; omega), stL_get x (by omega)]
theorem uA_lt {x : PileB} (h : x.ok) (i j : Nat) : uA ((x.steps[i]?).getD []) j < 256 := by
  unfold uA
  cases e : x.steps[i]? with
  | none => simp
  | some u =>
    simp only [Option.getD_some]
    cases e2 : u[j]? with
    | none => simp
    | some v => exact (h.steps u (List.mem_of_getElem? e)).2 v (List.mem_of_getElem? e2)
theorem stP_b {x : PileB} (h : x.ok) : ∀ i, (0 ≤ (stP x i).1 ∧ (stP x i).1 ≤ 60 * (i : Int)) ∧ 0 ≤ (stP x i).2 ∧ (stP x i).2 ≤ 1000
  | 0 => by simp [stP]
  | i + 1 => by
    obtain ⟨h1, h2⟩ := stP_b h i
    have h3 : uA ((x.steps[i]?).getD []) 0 % 60 < 60 := Nat.mod_lt _ (by decide)
    have h4 := uA_lt h i 1
    have m := mulB0 (a := (stP x i).2) (b := 255 - (uA ((x.steps[i]?).getD []) 1 / 3 : Nat)) (A := 1000) (B := 255) h2 (by omega)
    rw [stP]
    dsimp only
    rw [Int.tdiv_eq_ediv_of_nonneg m.1]
    omega
theorem stP_step {x : PileB} (h : x.ok) (i : Nat) : (stP x i).1 < (stP x (i + 1)).1 ∧ (stP x (i + 1)).2 ≤ (stP x i).2 := by
  obtain ⟨h1, h2⟩ := stP_b h i
  have h4 := uA_lt h i 1
  have m := mulB0 (a := (stP x i).2) (b := 255 - (uA ((x.steps[i]?).getD []) 1 / 3 : Nat)) (A := 1000) (B := 255) h2 (by omega)
  have m2 : (stP x i).2 * (255 - (uA ((x.steps[i]?).getD []) 1 / 3 : Nat)) ≤ (stP x i).2 * 255 := Int.mul_le_mul_of_nonneg_left (by omega) h2.1
  rw [show stP x (i + 1) = ((stP x i).1 + 1 + ((uA ((x.steps[i]?).getD []) 0 % 60 : Nat) : Int), ((stP x i).2 * (255 - (uA ((x.steps[i]?).getD []) 1 / 3 : Nat))).tdiv 255) from rfl]
  dsimp only
  rw [Int.tdiv_eq_ediv_of_nonneg m.1]
  omega
theorem stL_ok {x : PileB} (h : x.ok) {n : Nat} (hn : n ≤ 6) {days : Int} (hd : 0 ≤ days ∧ days ≤ 10000) : TabOk (stL x n) days := by
  have hl := stL_len x n
  have at_ : ∀ {i : Nat} {u : Int × Int}, (stL x n)[i]? = some u → i ≤ n ∧ u = stP x i := fun {i u} hu => by
    have hi : i ≤ n := by have := (List.getElem?_eq_some_iff.1 hu).1; omega
    rw [stL_get x hi] at hu; cases hu; exact ⟨hi, rfl⟩
  refine { len := by omega, first := fun u hu => ?_, mem := fun s hs => ?_, step := fun i u v hu hv => ?_, days := hd }
  · obtain ⟨_, rfl⟩ := at_ hu; rfl
  · obtain ⟨i, hi⟩ := List.mem_iff_getElem?.1 hs
    obtain ⟨h1, rfl⟩ := at_ hi
    have := stP_b h i
    omega
  · obtain ⟨_, rfl⟩ := at_ hu
    obtain ⟨_, rfl⟩ := at_ hv
    exact stP_step h i
theorem four_of' {u : List Nat} (h : u.length = 4) : ∃ a b c d, u = [a, b, c, d] := by
  match u, h with
  | [a, b, c, d], _ => exact ⟨a, b, c, d, rfl⟩
def minN (a : List (List Nat)) (m : Nat) : Nat := if a.length < m then a.length else m
theorem rowC_snocLd (l : List Lod) (a b c d : Int) : rowC (rows eLd l) ++ [[D.c (.v (.int .i64 a)), D.c (.v (.int .i64 b)), D.c (.v (.int .i64 c)), D.c (.v (.int .i64 d))]] = rowC (rows eLd (l ++ [⟨a, b, c, d⟩])) := by simp [rowC, rows, eLd]
theorem rowC_snocK (l : List (Int × Int)) (a b : Int) : rowC (rows eK l) ++ [[D.c (.v (.int .i64 a)), D.c (.v (.int .i64 b))]] = rowC (rows eK (l ++ [(a, b)])) := by simp [rowC, rows, eK]
theorem tdivN (a b : Nat) : ((a : Int)).tdiv (b : Int) = ((a / b : Nat) : Int) := by
  rw [Int.tdiv_eq_ediv_of_nonneg (by omega)]; exact (Int.natCast_ediv a b).symm
set_option maxHeartbeats 4000000 in
theorem laPile (x : PileB) (h : x.ok) (most : Nat) (hm : most ≤ 12) : DCall Tryd.prog 52 [.agg ((cPileB false x).map D.c), dI most] [] (.tup [.c (.sl false 4 (rows eLd (pileL x (minN x.boxes most)))), .c (.sl false 2 (rows eK (stL x (minN x.steps 6))))]) [] := by
  have hbl := h.blen
  have hsl := h.slen
  have hm1 : minN x.boxes most ≤ x.boxes.length ∧ minN x.boxes most ≤ most := by unfold minN; split <;> omega
  have hm2 : minN x.steps 6 ≤ x.steps.length ∧ minN x.steps 6 ≤ 6 := by unfold minN; split <;> omega
  have hm3 : ∀ i, i < minN x.boxes most ∨ ¬ (i < x.boxes.length ∧ i < most) := fun i => by unfold minN; split <;> omega
  have hm4 : ∀ i, i < minN x.steps 6 ∨ ¬ (i < x.steps.length ∧ i < 6) := fun i => by unfold minN; split <;> omega
  generalize minN x.boxes most = nb at *
  generalize minN x.steps 6 = ns at *
  refine DCall.of Tryd.func52 sf52 hb52 (Nat.le_of_ble_eq_true rfl) (okRes_nil fun _ => rfl) ?_; simp only [s52, idxs, Nat.reduceAdd]
  repeat' (first
    | (with_reducible refine DW.seq ?_)
    | (with_reducible refine DW.block ?_)
    | (with_reducible refine DW.skip ?_)
    | (with_reducible refine DW.exit ?_)
    | (with_reducible refine DW.ret ?_)
    | (with_reducible refine DW.reg ?_)
    | (refine DW.dreg rfl (WF.of (by first | rfl | simp (disch := omega) only [go_sem, Nat.reduceLT, Nat.reduceLeDiff, Nat.reduceAdd, Nat.reduceMul, Nat.reduceEqDiff, ↓reduceIte, reduceCtorEq, Nat.reduceBEq, Nat.reduceBNe, Nat.reducePow, Int.reduceLE, Int.reduceLT, Int.reduceNeg, Int.reduceToNat, Int.reduceEq, Int.reduceAdd, Int.reduceSub, Int.reduceMul, Int.reduceBEq, Int.reduceBNe, Blk.men, Blk.keysIn, List.map_cons, List.map_nil])) ?_)
    | (simp (disch := omega) only [go_sem, Nat.reduceLT, Nat.reduceLeDiff, Nat.reduceAdd, Nat.reduceMul, Nat.reduceEqDiff, ↓reduceIte, reduceCtorEq, Nat.reduceBEq, Nat.reduceBNe, Nat.reducePow, Int.reduceLE, Int.reduceLT, Int.reduceNeg, Int.reduceToNat, Int.reduceEq, Int.reduceAdd, Int.reduceSub, Int.reduceMul, Int.reduceBEq, Int.reduceBNe, Blk.men, Blk.keysIn, List.map_cons, List.map_nil])
    | (exact retS_of rfl rfl rfl)
    | (refine DW.cond_tt rfl ?_)
    | (refine DW.cond_ff rfl ?_)
    | (refine DW.cond rfl ?_ ?_ <;> intro hc <;> (try simp only [go_sem] at hc))
    | (refine g_split ?_ ?_ <;> intro hc <;> (try simp only [hc]) <;> (try simp only [go_sem] at hc)))
  refine DW.loop (ι := { i : Nat // i ≤ nb }) (fun i => ⟨108, [(8, dI i.1), (7, .own 14), (6, .own 12), (2, .box 2 0), (1, dI most)], [(14, .row 2 (rowC (rows eK (stL x 0)))), (12, .row 4 (rowC (rows eLd (pileL x i.1)))), (2, .box [.c (.sl false 4 (rows (eN .u8) x.boxes)), .c (.sl false 2 (rows (eN .u8) x.steps))])]⟩) (fun i => nb - i.1) ⟨0, Nat.zero_le _⟩ ?_ ?_
  · refine Ent.to ?_ ?_ <;> simp (disch := omega) only [wkT_cons, wkX_cons, wkT_nil, wkX_nil, get, Nat.reduceEqDiff, ↓reduceIte, ex_some, wk_self, wk_top, wk_nil, wkB_self, and_self, dI, i64_in, and_true, true_and, Int.natCast_add, Int.natCast_one, Int.ofNat_zero, Int.natCast_zero, pileL, stL]
    all_goals first | exact ⟨.refl _, .refl _⟩ | exact .refl _
  rintro ⟨i, hi⟩
  dsimp only
  have hpl := pileL_len x i
  by_cases hlt : i < nb
  · have d1 : decide ((i : Int) < (x.boxes.length : Int)) = true := by rw [decide_eq_true_eq]; omega
    have d2 : decide ((i : Int) < (most : Int)) = true := by rw [decide_eq_true_eq]; omega
    obtain ⟨u, hu⟩ := getE (l := x.boxes) (i := i) (by omega)
    obtain ⟨hul, hub⟩ := h.boxes u (List.mem_of_getElem? hu)
    obtain ⟨a, b, c, d, rfl⟩ := four_of' hul
    have ha := hub a (by simp)
    have hb := hub b (by simp)
    have hc := hub c (by simp)
    have hdd := hub d (by simp)
    have hs : pileL x (i + 1) = pileL x i ++ [⟨4 * (a : Int), 4 * (a : Int) + ((b % 50 : Nat) : Int), c, (c : Int) + ((d % 30 : Nat) : Int)⟩] := by rw [pileL, hu]; rfl
    have t1 : ((b : Int)).tmod 50 = ((b % 50 : Nat) : Int) := tmodN b 50
    have t2 : ((d : Int)).tmod 30 = ((d % 30 : Nat) : Int) := tmodN d 30
    have w1 : b % 50 < 50 := Nat.mod_lt _ (by decide)
    have w2 : d % 30 < 30 := Nat.mod_lt _ (by decide)
    generalize b % 50 = m at *
    generalize d % 30 = m' at *
    have hld := laLoad ⟨4 * (a : Int), 4 * (a : Int) + (m : Int), c, (c : Int) + (m' : Int)⟩
    simp only at hld
    generalize pileL x i = L at *
    have e4 : eN .u8 [a, b, c, d] = [.v (.int .u8 a), .v (.int .u8 b), .v (.int .u8 c), .v (.int .u8 d)] := rfl
    repeat' (first
    | (with_reducible refine DW.seq ?_)
    | (with_reducible refine DW.block ?_)
    | (with_reducible refine DW.skip ?_)
    | (with_reducible refine DW.exit ?_)
    | (with_reducible refine DW.ret ?_)
    | (with_reducible refine DW.reg ?_)
    | (refine DW.dreg rfl (WF.of (by first | rfl | simp (disch := omega) only [go_sem, Nat.reduceLT, Nat.reduceLeDiff, Nat.reduceAdd, Nat.reduceMul, Nat.reduceEqDiff, ↓reduceIte, reduceCtorEq, Nat.reduceBEq, Nat.reduceBNe, Nat.reducePow, Int.reduceLE, Int.reduceLT, Int.reduceNeg, Int.reduceToNat, Int.reduceEq, Int.reduceAdd, Int.reduceSub, Int.reduceMul, Int.reduceBEq, Int.reduceBNe, Blk.men, Blk.keysIn, d1, d2, hu, e4, ud5, t1, t2, List.map_cons, List.map_nil, rowC_snocLd])) ?_)
    | (simp (disch := omega) only [go_sem, Nat.reduceLT, Nat.reduceLeDiff, Nat.reduceAdd, Nat.reduceMul, Nat.reduceEqDiff, ↓reduceIte, reduceCtorEq, Nat.reduceBEq, Nat.reduceBNe, Nat.reducePow, Int.reduceLE, Int.reduceLT, Int.reduceNeg, Int.reduceToNat, Int.reduceEq, Int.reduceAdd, Int.reduceSub, Int.reduceMul, Int.reduceBEq, Int.reduceBNe, Blk.men, Blk.keysIn, d1, d2, hu, e4, ud5, t1, t2, List.map_cons, List.map_nil, rowC_snocLd])
    | (exact retS_of rfl rfl rfl)
    | (refine DW.cond_tt rfl ?_)
    | (refine call_c (hld) (by decide) ?_)
    | (refine DW.cond_ff rfl ?_)
    | (refine DW.cond rfl ?_ ?_ <;> intro hc <;> (try simp only [go_sem] at hc))
    | (refine g_split ?_ ?_ <;> intro hc <;> (try simp only [hc]) <;> (try simp only [go_sem] at hc)))
    refine ⟨⟨i + 1, by omega⟩, ?_, Ent.to ?_ ?_⟩ <;> first | (show _ < _; (try simp only); omega) | (simp (disch := omega) only [wkT_cons, wkX_cons, wkT_nil, wkX_nil, get, Nat.reduceEqDiff, ↓reduceIte, ex_some, wk_self, wk_top, wk_nil, wkB_self, and_self, dI, i64_in, and_true, true_and, Int.natCast_add, Int.natCast_one, Int.ofNat_zero, Int.natCast_zero,  hs])
    all_goals first | exact ⟨.refl _, .refl _⟩ | exact .refl _
  obtain rfl : i = nb := by omega
  have hcd : (decide ((i : Int) < (x.boxes.length : Int)) = false ∧ decide ((i : Int) < (x.boxes.length : Int)) = false) ∨ (decide ((i : Int) < (x.boxes.length : Int)) = true ∧ decide ((i : Int) < (most : Int)) = false) := by
    have := hm3 i
    by_cases h1 : i < x.boxes.length
    · exact .inr ⟨by rw [decide_eq_true_eq]; omega, by rw [decide_eq_false_iff_not]; omega⟩
    · exact .inl ⟨by rw [decide_eq_false_iff_not]; omega, by rw [decide_eq_false_iff_not]; omega⟩
  have hp1000 : i ≤ 12 := by omega
  generalize hPL : pileL x i = L at *
  rcases hcd with ⟨g1, g2⟩ | ⟨g1, g2⟩
  all_goals
    repeat' (first
    | (with_reducible refine DW.seq ?_)
    | (with_reducible refine DW.block ?_)
    | (with_reducible refine DW.skip ?_)
    | (with_reducible refine DW.exit ?_)
    | (with_reducible refine DW.ret ?_)
    | (with_reducible refine DW.reg ?_)
    | (refine DW.dreg rfl (WF.of (by first | rfl | simp (disch := omega) only [go_sem, Nat.reduceLT, Nat.reduceLeDiff, Nat.reduceAdd, Nat.reduceMul, Nat.reduceEqDiff, ↓reduceIte, reduceCtorEq, Nat.reduceBEq, Nat.reduceBNe, Nat.reducePow, Int.reduceLE, Int.reduceLT, Int.reduceNeg, Int.reduceToNat, Int.reduceEq, Int.reduceAdd, Int.reduceSub, Int.reduceMul, Int.reduceBEq, Int.reduceBNe, Blk.men, Blk.keysIn, g1, g2])) ?_)
    | (simp (disch := omega) only [go_sem, Nat.reduceLT, Nat.reduceLeDiff, Nat.reduceAdd, Nat.reduceMul, Nat.reduceEqDiff, ↓reduceIte, reduceCtorEq, Nat.reduceBEq, Nat.reduceBNe, Nat.reducePow, Int.reduceLE, Int.reduceLT, Int.reduceNeg, Int.reduceToNat, Int.reduceEq, Int.reduceAdd, Int.reduceSub, Int.reduceMul, Int.reduceBEq, Int.reduceBNe, Blk.men, Blk.keysIn, g1, g2])
    | (exact retS_of rfl rfl rfl)
    | (refine DW.cond_tt rfl ?_)
    | (refine DW.cond_ff rfl ?_)
    | (refine DW.cond rfl ?_ ?_ <;> intro hc <;> (try simp only [go_sem] at hc))
    | (refine g_split ?_ ?_ <;> intro hc <;> (try simp only [hc]) <;> (try simp only [go_sem] at hc)))
    clear g1 g2
    refine DW.loop (ι := { j : Nat // j ≤ ns }) (fun j => ⟨108, [(10, dI j.1), (7, .own 14), (6, .own 12), (2, .box 2 0)], [(14, .row 2 (rowC (rows eK (stL x j.1)))), (12, .row 4 (rowC (rows eLd L))), (2, .box [.c (.sl false 4 (rows (eN .u8) x.boxes)), .c (.sl false 2 (rows (eN .u8) x.steps))])]⟩) (fun j => ns - j.1) ⟨0, Nat.zero_le _⟩ ?_ ?_
    · refine Ent.to ?_ ?_ <;> simp (disch := omega) only [wkT_cons, wkX_cons, wkT_nil, wkX_nil, get, Nat.reduceEqDiff, ↓reduceIte, ex_some, wk_self, wk_top, wk_nil, wkB_self, and_self, dI, i64_in, and_true, true_and, Int.natCast_add, Int.natCast_one, Int.ofNat_zero, Int.natCast_zero, stL]
      all_goals first | exact ⟨.refl _, .refl _⟩ | exact .refl _
    rintro ⟨j, hj⟩
    dsimp only
    have hL := stL_len x j
    by_cases hlt2 : j < ns
    · have d1 : decide ((j : Int) < (x.steps.length : Int)) = true := by rw [decide_eq_true_eq]; omega
      have d2 : decide ((j : Int) < 6) = true := by rw [decide_eq_true_eq]; omega
      obtain ⟨u, hu⟩ := getE (l := x.steps) (i := j) (by omega)
      obtain ⟨hul, hub⟩ := h.steps u (List.mem_of_getElem? hu)
      obtain ⟨a, b, rfl⟩ := two_of' hul
      have ha := hub a (by simp)
      have hb := hub b (by simp)
      have hg := stL_get x (Nat.le_refl j)
      have hs : stL x (j + 1) = stL x j ++ [((stP x j).1 + 1 + ((a % 60 : Nat) : Int), ((stP x j).2 * (255 - (b / 3 : Nat))).tdiv 255)] := by rw [stL, stP, hu]; rfl
      have hPb := stP_b h j
      have t1 : ((a : Int)).tmod 60 = ((a % 60 : Nat) : Int) := tmodN a 60
      have t2 : ((b : Int)).tdiv 3 = ((b / 3 : Nat) : Int) := tdivN b 3
      have w1 : a % 60 < 60 := Nat.mod_lt _ (by decide)
      have w2 : b / 3 < 86 := by omega
      generalize a % 60 = m at *
      generalize b / 3 = m' at *
      generalize stP x j = P at *
      obtain ⟨p, q⟩ := P
      dsimp only at hPb hs
      have hq := mulB0 (a := q) (b := 255 - (m' : Int)) (A := 1000) (B := 255) hPb.2 (by omega)
      have hq2 := tdiv_b (a := q * (255 - (m' : Int))) (b := 255) hq (by decide)
      have ej : (j : Int) + 1 - 1 = (j : Int) := by omega
      have tj : (j < j + 1) = True := eq_true (by omega)
      have e2 : eN .u8 [a, b] = [.v (.int .u8 a), .v (.int .u8 b)] := rfl
      generalize stL x j = S at *
      repeat' (first
    | (with_reducible refine DW.seq ?_)
    | (with_reducible refine DW.block ?_)
    | (with_reducible refine DW.skip ?_)
    | (with_reducible refine DW.exit ?_)
    | (with_reducible refine DW.ret ?_)
    | (with_reducible refine DW.reg ?_)
    | (refine DW.dreg rfl (WF.of (by first | rfl | simp (disch := omega) only [go_sem, Nat.reduceLT, Nat.reduceLeDiff, Nat.reduceAdd, Nat.reduceMul, Nat.reduceEqDiff, ↓reduceIte, reduceCtorEq, Nat.reduceBEq, Nat.reduceBNe, Nat.reducePow, Int.reduceLE, Int.reduceLT, Int.reduceNeg, Int.reduceToNat, Int.reduceEq, Int.reduceAdd, Int.reduceSub, Int.reduceMul, Int.reduceBEq, Int.reduceBNe, Blk.men, Blk.keysIn, d1, d2, hu, hL, Int.natCast_add, Int.natCast_one, ej, tj, hg, e2, ud5, t1, t2, List.map_cons, List.map_nil, rowC_snocK])) ?_)
    | (simp (disch := omega) only [go_sem, Nat.reduceLT, Nat.reduceLeDiff, Nat.reduceAdd, Nat.reduceMul, Nat.reduceEqDiff, ↓reduceIte, reduceCtorEq, Nat.reduceBEq, Nat.reduceBNe, Nat.reducePow, Int.reduceLE, Int.reduceLT, Int.reduceNeg, Int.reduceToNat, Int.reduceEq, Int.reduceAdd, Int.reduceSub, Int.reduceMul, Int.reduceBEq, Int.reduceBNe, Blk.men, Blk.keysIn, d1, d2, hu, hL, Int.natCast_add, Int.natCast_one, ej, tj, hg, e2, ud5, t1, t2, List.map_cons, List.map_nil, rowC_snocK])
    | (exact retS_of rfl rfl rfl)
    | (refine DW.cond_tt rfl ?_)
    | (refine DW.cond_ff rfl ?_)
    | (refine DW.cond rfl ?_ ?_ <;> intro hc <;> (try simp only [go_sem] at hc))
    | (refine g_split ?_ ?_ <;> intro hc <;> (try simp only [hc]) <;> (try simp only [go_sem] at hc)))
      refine ⟨⟨j + 1, by omega⟩, ?_, Ent.to ?_ ?_⟩ <;> first | (show _ < _; (try simp only); omega) | (simp (disch := omega) only [wkT_cons, wkX_cons, wkT_nil, wkX_nil, get, Nat.reduceEqDiff, ↓reduceIte, ex_some, wk_self, wk_top, wk_nil, wkB_self, and_self, dI, i64_in, and_true, true_and, Int.natCast_add, Int.natCast_one, Int.ofNat_zero, Int.natCast_zero,  hs])
      all_goals first | exact ⟨.refl _, .refl _⟩ | exact .refl _
    · obtain rfl : j = ns := by omega
      have h4 := hm4 j
      by_cases h1 : j < x.steps.length
      · have d1 : decide ((j : Int) < (x.steps.length : Int)) = true := by rw [decide_eq_true_eq]; omega
        have d2 : decide ((j : Int) < 6) = false := by rw [decide_eq_false_iff_not]; omega
        repeat' (first
    | (with_reducible refine DW.seq ?_)
    | (with_reducible refine DW.block ?_)
    | (with_reducible refine DW.skip ?_)
    | (with_reducible refine DW.exit ?_)
    | (with_reducible refine DW.ret ?_)
    | (with_reducible refine DW.reg ?_)
    | (refine DW.dreg rfl (WF.of (by first | rfl | simp (disch := omega) only [go_sem, Nat.reduceLT, Nat.reduceLeDiff, Nat.reduceAdd, Nat.reduceMul, Nat.reduceEqDiff, ↓reduceIte, reduceCtorEq, Nat.reduceBEq, Nat.reduceBNe, Nat.reducePow, Int.reduceLE, Int.reduceLT, Int.reduceNeg, Int.reduceToNat, Int.reduceEq, Int.reduceAdd, Int.reduceSub, Int.reduceMul, Int.reduceBEq, Int.reduceBNe, Blk.men, Blk.keysIn, d1, d2])) ?_)
    | (simp (disch := omega) only [go_sem, Nat.reduceLT, Nat.reduceLeDiff, Nat.reduceAdd, Nat.reduceMul, Nat.reduceEqDiff, ↓reduceIte, reduceCtorEq, Nat.reduceBEq, Nat.reduceBNe, Nat.reducePow, Int.reduceLE, Int.reduceLT, Int.reduceNeg, Int.reduceToNat, Int.reduceEq, Int.reduceAdd, Int.reduceSub, Int.reduceMul, Int.reduceBEq, Int.reduceBNe, Blk.men, Blk.keysIn, d1, d2])
    | (exact retS_of rfl rfl rfl)
    | (refine DW.cond_tt rfl ?_)
    | (refine DW.cond_ff rfl ?_)
    | (refine DW.cond rfl ?_ ?_ <;> intro hc <;> (try simp only [go_sem] at hc))
    | (refine g_split ?_ ?_ <;> intro hc <;> (try simp only [hc]) <;> (try simp only [go_sem] at hc)))
        (refine retS_ent (Ent.rel 14 rfl) ?_; simp (disch := omega) only [go_sem, Nat.reduceLT, Nat.reduceLeDiff, Nat.reduceAdd, Nat.reduceMul, Nat.reduceEqDiff, ↓reduceIte, reduceCtorEq, Nat.reduceBEq, Nat.reduceBNe, Nat.reducePow, Int.reduceLE, Int.reduceLT, Int.reduceNeg, Int.reduceToNat, Int.reduceEq, Int.reduceAdd, Int.reduceSub, Int.reduceMul, Int.reduceBEq, Int.reduceBNe, Blk.men, Blk.keysIn])
        (refine retS_ent (Ent.rel 12 rfl) ?_; simp (disch := omega) only [go_sem, Nat.reduceLT, Nat.reduceLeDiff, Nat.reduceAdd, Nat.reduceMul, Nat.reduceEqDiff, ↓reduceIte, reduceCtorEq, Nat.reduceBEq, Nat.reduceBNe, Nat.reducePow, Int.reduceLE, Int.reduceLT, Int.reduceNeg, Int.reduceToNat, Int.reduceEq, Int.reduceAdd, Int.reduceSub, Int.reduceMul, Int.reduceBEq, Int.reduceBNe, Blk.men, Blk.keysIn])
        refine retS_wk rfl ?_ (by simp only [Blk.nb, rowC_nb, D.nb, D.nbs, C.nb, C.nbs, C.nbss, rows_nb eI_nb, Bool.and_true, Bool.not_false, Bool.and_self, bD, dI, iD, rows_nb eK_nb, rows_nb eLd_nb]); exact .refl _
      · have d1 : decide ((j : Int) < (x.steps.length : Int)) = false := by rw [decide_eq_false_iff_not]; omega
        repeat' (first
    | (with_reducible refine DW.seq ?_)
    | (with_reducible refine DW.block ?_)
    | (with_reducible refine DW.skip ?_)
    | (with_reducible refine DW.exit ?_)
    | (with_reducible refine DW.ret ?_)
    | (with_reducible refine DW.reg ?_)
    | (refine DW.dreg rfl (WF.of (by first | rfl | simp (disch := omega) only [go_sem, Nat.reduceLT, Nat.reduceLeDiff, Nat.reduceAdd, Nat.reduceMul, Nat.reduceEqDiff, ↓reduceIte, reduceCtorEq, Nat.reduceBEq, Nat.reduceBNe, Nat.reducePow, Int.reduceLE, Int.reduceLT, Int.reduceNeg, Int.reduceToNat, Int.reduceEq, Int.reduceAdd, Int.reduceSub, Int.reduceMul, Int.reduceBEq, Int.reduceBNe, Blk.men, Blk.keysIn, d1])) ?_)
    | (simp (disch := omega) only [go_sem, Nat.reduceLT, Nat.reduceLeDiff, Nat.reduceAdd, Nat.reduceMul, Nat.reduceEqDiff, ↓reduceIte, reduceCtorEq, Nat.reduceBEq, Nat.reduceBNe, Nat.reducePow, Int.reduceLE, Int.reduceLT, Int.reduceNeg, Int.reduceToNat, Int.reduceEq, Int.reduceAdd, Int.reduceSub, Int.reduceMul, Int.reduceBEq, Int.reduceBNe, Blk.men, Blk.keysIn, d1])
    | (exact retS_of rfl rfl rfl)
    | (refine DW.cond_tt rfl ?_)
    | (refine DW.cond_ff rfl ?_)
    | (refine DW.cond rfl ?_ ?_ <;> intro hc <;> (try simp only [go_sem] at hc))
    | (refine g_split ?_ ?_ <;> intro hc <;> (try simp only [hc]) <;> (try simp only [go_sem] at hc)))
        (refine retS_ent (Ent.rel 14 rfl) ?_; simp (disch := omega) only [go_sem, Nat.reduceLT, Nat.reduceLeDiff, Nat.reduceAdd, Nat.reduceMul, Nat.reduceEqDiff, ↓reduceIte, reduceCtorEq, Nat.reduceBEq, Nat.reduceBNe, Nat.reducePow, Int.reduceLE, Int.reduceLT, Int.reduceNeg, Int.reduceToNat, Int.reduceEq, Int.reduceAdd, Int.reduceSub, Int.reduceMul, Int.reduceBEq, Int.reduceBNe, Blk.men, Blk.keysIn])
        (refine retS_ent (Ent.rel 12 rfl) ?_; simp (disch := omega) only [go_sem, Nat.reduceLT, Nat.reduceLeDiff, Nat.reduceAdd, Nat.reduceMul, Nat.reduceEqDiff, ↓reduceIte, reduceCtorEq, Nat.reduceBEq, Nat.reduceBNe, Nat.reducePow, Int.reduceLE, Int.reduceLT, Int.reduceNeg, Int.reduceToNat, Int.reduceEq, Int.reduceAdd, Int.reduceSub, Int.reduceMul, Int.reduceBEq, Int.reduceBNe, Blk.men, Blk.keysIn])
        refine retS_wk rfl ?_ (by simp only [Blk.nb, rowC_nb, D.nb, D.nbs, C.nb, C.nbs, C.nbss, rows_nb eI_nb, Bool.and_true, Bool.not_false, Bool.and_self, bD, dI, iD, rows_nb eK_nb, rows_nb eLd_nb]); exact .refl _
end Go.Dw.Seat
end
