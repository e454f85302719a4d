/- Helpers of a proof. -/
import Derived.Test.YtmkkedldhafjfaaDoorI01
import Derived.Test.YtmkkedldhafjfaaDoorTie
import Derived.ProofKit
import Derived.LaidMore
import Derived.OpenShut
import Derived.Stop.Joined
set_option linter.unusedVariables false
set_option linter.unusedSimpArgs false
section
set_option linter.unusedSimpArgs false
set_option maxRecDepth 100000
namespace Go.Dw.Seat
open Go Go.Dw Go.Proofs Go.IntWalk
theorem crNaN (a : Int) : DCall Tryd.prog 96 [dI a] [] (bD false) [] := by
  refine DCall.of Tryd.func96 sf96 hb96 (Nat.le_of_ble_eq_true rfl) (okRes_nil fun _ => rfl) ?_; simp only [s96, idxs, Nat.reduceAdd]
  repeat' (first
    | (with_reducible refine DW.seq ?_)
    | (with_reducible refine DW.block ?_)
    | (with_reducible refine DW.skip ?_)
    | (with_reducible refine DW.exit ?_)
    | (with_reducible refine DW.ret ?_)
    | (with_reducible refine DW.reg ?_)
    | (simp (disch := omega) only [go_sem, Nat.reduceLT, Nat.reduceLeDiff, Nat.reduceAdd, Nat.reduceMul, Nat.reduceEqDiff, ↓reduceIte, reduceCtorEq, Nat.reduceBEq, Nat.reduceBNe, Nat.reducePow, Int.reduceLE, Int.reduceLT, Int.reduceNeg, Int.reduceToNat, Int.reduceEq, Int.reduceAdd, Int.reduceSub, Int.reduceMul, Int.reduceBEq, Int.reduceBNe, Blk.men, Blk.keysIn])
    | (exact retS_of rfl rfl rfl)
    | (refine DW.cond_tt rfl ?_)
    | (refine DW.cond_ff rfl ?_)
    | (refine DW.cond rfl ?_ ?_ <;> intro hc <;> (try simp only [go_sem] at hc))
    | (refine g_split ?_ ?_ <;> intro hc <;> (try simp only [hc]) <;> (try simp only [go_sem] at hc)))
def cmpI (a b : Int) : Int := if a < b then -1 else if b < a then 1 else 0
theorem crCmp (a b : Int) : DCall Tryd.prog 68 [dI a, dI b] [] (dI (cmpI a b)) [] := by
  have h1 := crNaN a
  have h2 := crNaN b
  by_cases hab : a < b
  · have d1 : decide (a < b) = true := decide_eq_true hab
    have e : cmpI a b = -1 := if_pos hab
    rw [e]
    refine DCall.of Tryd.func68 sf68 hb68 (Nat.le_of_ble_eq_true rfl) (okRes_nil fun _ => rfl) ?_; simp only [s68, idxs, Nat.reduceAdd]
    repeat' (first
    | (with_reducible refine DW.seq ?_)
    | (with_reducible refine DW.block ?_)
    | (with_reducible refine DW.skip ?_)
    | (with_reducible refine DW.exit ?_)
    | (with_reducible refine DW.ret ?_)
    | (with_reducible refine DW.reg ?_)
    | (simp (disch := omega) only [go_sem, Nat.reduceLT, Nat.reduceLeDiff, Nat.reduceAdd, Nat.reduceMul, Nat.reduceEqDiff, ↓reduceIte, reduceCtorEq, Nat.reduceBEq, Nat.reduceBNe, Nat.reducePow, Int.reduceLE, Int.reduceLT, Int.reduceNeg, Int.reduceToNat, Int.reduceEq, Int.reduceAdd, Int.reduceSub, Int.reduceMul, Int.reduceBEq, Int.reduceBNe, Blk.men, Blk.keysIn, d1])
    | (exact retS_of rfl rfl rfl)
    | (refine DW.cond_tt rfl ?_)
    | (refine call_c (h1) (by decide) ?_)
    | (refine call_c (h2) (by decide) ?_)
    | (refine DW.cond_ff rfl ?_)
    | (refine DW.cond rfl ?_ ?_ <;> intro hc <;> (try simp only [go_sem] at hc))
    | (refine g_split ?_ ?_ <;> intro hc <;> (try simp only [hc]) <;> (try simp only [go_sem] at hc)))
  have d1 : decide (a < b) = false := decide_eq_false hab
  by_cases hba : b < a
  · have d2 : decide (b < a) = true := decide_eq_true hba
    have e : cmpI a b = 1 := by rw [cmpI, if_neg hab, if_pos hba]
    rw [e]
    refine DCall.of Tryd.func68 sf68 hb68 (Nat.le_of_ble_eq_true rfl) (okRes_nil fun _ => rfl) ?_; simp only [s68, idxs, Nat.reduceAdd]
    repeat' (first
    | (with_reducible refine DW.seq ?_)
    | (with_reducible refine DW.block ?_)
    | (with_reducible refine DW.skip ?_)
    | (with_reducible refine DW.exit ?_)
    | (with_reducible refine DW.ret ?_)
    | (with_reducible refine DW.reg ?_)
    | (simp (disch := omega) only [go_sem, Nat.reduceLT, Nat.reduceLeDiff, Nat.reduceAdd, Nat.reduceMul, Nat.reduceEqDiff, ↓reduceIte, reduceCtorEq, Nat.reduceBEq, Nat.reduceBNe, Nat.reducePow, Int.reduceLE, Int.reduceLT, Int.reduceNeg, Int.reduceToNat, Int.reduceEq, Int.reduceAdd, Int.reduceSub, Int.reduceMul, Int.reduceBEq, Int.reduceBNe, Blk.men, Blk.keysIn, d1, d2])
    | (exact retS_of rfl rfl rfl)
    | (refine DW.cond_tt rfl ?_)
    | (refine call_c (h1) (by decide) ?_)
    | (refine call_c (h2) (by decide) ?_)
    | (refine DW.cond_ff rfl ?_)
    | (refine DW.cond rfl ?_ ?_ <;> intro hc <;> (try simp only [go_sem] at hc))
    | (refine g_split ?_ ?_ <;> intro hc <;> (try simp only [hc]) <;> (try simp only [go_sem] at hc)))
  · have d2 : decide (b < a) = false := decide_eq_false hba
    have e : cmpI a b = 0 := by rw [cmpI, if_neg hab, if_neg hba]
    rw [e]
    refine DCall.of Tryd.func68 sf68 hb68 (Nat.le_of_ble_eq_true rfl) (okRes_nil fun _ => rfl) ?_; simp only [s68, idxs, Nat.reduceAdd]
    repeat' (first
    | (with_reducible refine DW.seq ?_)
    | (with_reducible refine DW.block ?_)
    | (with_reducible refine DW.skip ?_)
    | (with_reducible refine DW.exit ?_)
    | (with_reducible refine DW.ret ?_)
    | (with_reducible refine DW.reg ?_)
    | (simp (disch := omega) only [go_sem, Nat.reduceLT, Nat.reduceLeDiff, Nat.reduceAdd, Nat.reduceMul, Nat.reduceEqDiff, ↓reduceIte, reduceCtorEq, Nat.reduceBEq, Nat.reduceBNe, Nat.reducePow, Int.reduceLE, Int.reduceLT, Int.reduceNeg, Int.reduceToNat, Int.reduceEq, Int.reduceAdd, Int.reduceSub, Int.reduceMul, Int.reduceBEq, Int.reduceBNe, Blk.men, Blk.keysIn, d1, d2])
    | (exact retS_of rfl rfl rfl)
    | (refine DW.cond_tt rfl ?_)
    | (refine call_c (h1) (by decide) ?_)
    | (refine call_c (h2) (by decide) ?_)
    | (refine DW.cond_ff rfl ?_)
    | (refine DW.cond rfl ?_ ?_ <;> intro hc <;> (try simp only [go_sem] at hc))
    | (refine g_split ?_ ?_ <;> intro hc <;> (try simp only [hc]) <;> (try simp only [go_sem] at hc)))
def orI2 (a b : Int) : Int := if a ≠ 0 then a else b
theorem crOr (bw : Bool) (a b : Int) : DCall Tryd.prog 67 [dIs bw [a, b]] [] (dI (orI2 a b)) [] := by
  refine DCall.of Tryd.func67 sf67 hb67 (Nat.le_of_ble_eq_true rfl) (okRes_nil fun _ => rfl) ?_; simp only [s67, idxs, Nat.reduceAdd]
  repeat' (first
    | (with_reducible refine DW.seq ?_)
    | (with_reducible refine DW.block ?_)
    | (with_reducible refine DW.skip ?_)
    | (with_reducible refine DW.exit ?_)
    | (with_reducible refine DW.ret ?_)
    | (with_reducible refine DW.reg ?_)
    | (simp (disch := omega) only [go_sem, Nat.reduceLT, Nat.reduceLeDiff, Nat.reduceAdd, Nat.reduceMul, Nat.reduceEqDiff, ↓reduceIte, reduceCtorEq, Nat.reduceBEq, Nat.reduceBNe, Nat.reducePow, Int.reduceLE, Int.reduceLT, Int.reduceNeg, Int.reduceToNat, Int.reduceEq, Int.reduceAdd, Int.reduceSub, Int.reduceMul, Int.reduceBEq, Int.reduceBNe, Blk.men, Blk.keysIn])
    | (exact retS_of rfl rfl rfl)
    | (refine DW.cond_tt rfl ?_)
    | (refine DW.cond_ff rfl ?_)
    | (refine DW.cond rfl ?_ ?_ <;> intro hc <;> (try simp only [go_sem] at hc))
    | (refine g_split ?_ ?_ <;> intro hc <;> (try simp only [hc]) <;> (try simp only [go_sem] at hc)))
  refine DW.loop (ι := { i : Nat // i ≤ 2 ∧ (1 ≤ i → a = 0) ∧ (2 ≤ i → b = 0) }) (fun i => ⟨18, [(8, dI i.1), (7, dI 2), (6, dIs bw [a, b]), (3, dI 0)], []⟩) (fun i => 2 - i.1) ⟨0, Nat.zero_le _, by omega, by omega⟩ ?_ ?_
  · refine Ent.to ?_ ?_ <;> simp (disch := omega) only [wkT_cons, wkX_cons, wkT_nil, wkX_nil, get, Nat.reduceEqDiff, ↓reduceIte, ex_some, wk_self, wk_top, wk_nil, wkB_self, and_self, dI, i64_in, and_true, true_and, Int.natCast_add, Int.natCast_one, Int.ofNat_zero, Int.natCast_zero]
    all_goals exact .refl _
  rintro ⟨i, hi, ha, hb⟩
  obtain rfl | rfl | rfl : i = 0 ∨ i = 1 ∨ i = 2 := by omega
  · have hd : decide (((0 : Nat) : Int) < 2) = true := by decide
    have hd' : decide ((0 : Int) < 2) = true := by decide
    by_cases h0 : a = 0
    · have e : (a != 0) = false := by rw [h0]; rfl
      repeat' (first
    | (with_reducible refine DW.seq ?_)
    | (with_reducible refine DW.block ?_)
    | (with_reducible refine DW.skip ?_)
    | (with_reducible refine DW.exit ?_)
    | (with_reducible refine DW.ret ?_)
    | (with_reducible refine DW.reg ?_)
    | (simp (disch := omega) only [go_sem, Nat.reduceLT, Nat.reduceLeDiff, Nat.reduceAdd, Nat.reduceMul, Nat.reduceEqDiff, ↓reduceIte, reduceCtorEq, Nat.reduceBEq, Nat.reduceBNe, Nat.reducePow, Int.reduceLE, Int.reduceLT, Int.reduceNeg, Int.reduceToNat, Int.reduceEq, Int.reduceAdd, Int.reduceSub, Int.reduceMul, Int.reduceBEq, Int.reduceBNe, Blk.men, Blk.keysIn, hd, hd', e, rows, List.map_cons, List.map_nil])
    | (exact retS_of rfl rfl rfl)
    | (refine DW.cond_tt rfl ?_)
    | (refine DW.cond_ff rfl ?_)
    | (refine DW.cond rfl ?_ ?_ <;> intro hc <;> (try simp only [go_sem] at hc))
    | (refine g_split ?_ ?_ <;> intro hc <;> (try simp only [hc]) <;> (try simp only [go_sem] at hc)))
      refine ⟨⟨1, by omega, fun _ => h0, by omega⟩, ?_, Ent.to ?_ ?_⟩ <;> first | (show _ < _; (try simp only); omega) | (simp (disch := omega) only [wkT_cons, wkX_cons, wkT_nil, wkX_nil, get, Nat.reduceEqDiff, ↓reduceIte, ex_some, wk_self, wk_top, wk_nil, wkB_self, and_self, dI, i64_in, and_true, true_and, Int.natCast_add, Int.natCast_one, Int.ofNat_zero, Int.natCast_zero])
    · have e : (a != 0) = true := by simpa using h0
      repeat' (first
    | (with_reducible refine DW.seq ?_)
    | (with_reducible refine DW.block ?_)
    | (with_reducible refine DW.skip ?_)
    | (with_reducible refine DW.exit ?_)
    | (with_reducible refine DW.ret ?_)
    | (with_reducible refine DW.reg ?_)
    | (simp (disch := omega) only [go_sem, Nat.reduceLT, Nat.reduceLeDiff, Nat.reduceAdd, Nat.reduceMul, Nat.reduceEqDiff, ↓reduceIte, reduceCtorEq, Nat.reduceBEq, Nat.reduceBNe, Nat.reducePow, Int.reduceLE, Int.reduceLT, Int.reduceNeg, Int.reduceToNat, Int.reduceEq, Int.reduceAdd, Int.reduceSub, Int.reduceMul, Int.reduceBEq, Int.reduceBNe, Blk.men, Blk.keysIn, hd, hd', e, rows, List.map_cons, List.map_nil])
    | (exact retS_of rfl rfl rfl)
    | (refine DW.cond_tt rfl ?_)
    | (refine DW.cond_ff rfl ?_)
    | (refine DW.cond rfl ?_ ?_ <;> intro hc <;> (try simp only [go_sem] at hc))
    | (refine g_split ?_ ?_ <;> intro hc <;> (try simp only [hc]) <;> (try simp only [go_sem] at hc)))
      refine retS_of rfl ?_ rfl; simp only [oneD, St.op, get, Nat.reduceEqDiff, ↓reduceIte, Option.getD_some, bD, dI]
      rw [orI2, if_pos h0]
  · have hd : decide (((1 : Nat) : Int) < 2) = true := by decide
    have hd' : decide ((1 : Int) < 2) = true := by decide
    have ha := ha (by omega)
    by_cases h0 : b = 0
    · have e : (b != 0) = false := by rw [h0]; rfl
      repeat' (first
    | (with_reducible refine DW.seq ?_)
    | (with_reducible refine DW.block ?_)
    | (with_reducible refine DW.skip ?_)
    | (with_reducible refine DW.exit ?_)
    | (with_reducible refine DW.ret ?_)
    | (with_reducible refine DW.reg ?_)
    | (simp (disch := omega) only [go_sem, Nat.reduceLT, Nat.reduceLeDiff, Nat.reduceAdd, Nat.reduceMul, Nat.reduceEqDiff, ↓reduceIte, reduceCtorEq, Nat.reduceBEq, Nat.reduceBNe, Nat.reducePow, Int.reduceLE, Int.reduceLT, Int.reduceNeg, Int.reduceToNat, Int.reduceEq, Int.reduceAdd, Int.reduceSub, Int.reduceMul, Int.reduceBEq, Int.reduceBNe, Blk.men, Blk.keysIn, hd, hd', e, rows, List.map_cons, List.map_nil])
    | (exact retS_of rfl rfl rfl)
    | (refine DW.cond_tt rfl ?_)
    | (refine DW.cond_ff rfl ?_)
    | (refine DW.cond rfl ?_ ?_ <;> intro hc <;> (try simp only [go_sem] at hc))
    | (refine g_split ?_ ?_ <;> intro hc <;> (try simp only [hc]) <;> (try simp only [go_sem] at hc)))
      refine ⟨⟨2, by omega, fun _ => ha, fun _ => h0⟩, ?_, Ent.to ?_ ?_⟩ <;> first | (show _ < _; (try simp only); omega) | (simp (disch := omega) only [wkT_cons, wkX_cons, wkT_nil, wkX_nil, get, Nat.reduceEqDiff, ↓reduceIte, ex_some, wk_self, wk_top, wk_nil, wkB_self, and_self, dI, i64_in, and_true, true_and, Int.natCast_add, Int.natCast_one, Int.ofNat_zero, Int.natCast_zero])
      all_goals exact .refl _
    · have e : (b != 0) = true := by simpa using h0
      repeat' (first
    | (with_reducible refine DW.seq ?_)
    | (with_reducible refine DW.block ?_)
    | (with_reducible refine DW.skip ?_)
    | (with_reducible refine DW.exit ?_)
    | (with_reducible refine DW.ret ?_)
    | (with_reducible refine DW.reg ?_)
    | (simp (disch := omega) only [go_sem, Nat.reduceLT, Nat.reduceLeDiff, Nat.reduceAdd, Nat.reduceMul, Nat.reduceEqDiff, ↓reduceIte, reduceCtorEq, Nat.reduceBEq, Nat.reduceBNe, Nat.reducePow, Int.reduceLE, Int.reduceLT, Int.reduceNeg, Int.reduceToNat, Int.reduceEq, Int.reduceAdd, Int.reduceSub, Int.reduceMul, Int.reduceBEq, Int.reduceBNe, Blk.men, Blk.keysIn, hd, hd', e, rows, List.map_cons, List.map_nil])
    | (exact retS_of rfl rfl rfl)
    | (refine DW.cond_tt rfl ?_)
    | (refine DW.cond_ff rfl ?_)
    | (refine DW.cond rfl ?_ ?_ <;> intro hc <;> (try simp only [go_sem] at hc))
    | (refine g_split ?_ ?_ <;> intro hc <;> (try simp only [hc]) <;> (try simp only [go_sem] at hc)))
      refine retS_of rfl ?_ rfl; simp only [oneD, St.op, get, Nat.reduceEqDiff, ↓reduceIte, Option.getD_some, bD, dI]
      rw [orI2, if_neg (by simpa using ha)]
  · have hd : decide (((2 : Nat) : Int) < 2) = false := by decide
    have hd' : decide ((2 : Int) < 2) = false := by decide
    have ha := ha (by omega)
    have hb := hb (by omega)
    repeat' (first
    | (with_reducible refine DW.seq ?_)
    | (with_reducible refine DW.block ?_)
    | (with_reducible refine DW.skip ?_)
    | (with_reducible refine DW.exit ?_)
    | (with_reducible refine DW.ret ?_)
    | (with_reducible refine DW.reg ?_)
    | (simp (disch := omega) only [go_sem, Nat.reduceLT, Nat.reduceLeDiff, Nat.reduceAdd, Nat.reduceMul, Nat.reduceEqDiff, ↓reduceIte, reduceCtorEq, Nat.reduceBEq, Nat.reduceBNe, Nat.reducePow, Int.reduceLE, Int.reduceLT, Int.reduceNeg, Int.reduceToNat, Int.reduceEq, Int.reduceAdd, Int.reduceSub, Int.reduceMul, Int.reduceBEq, Int.reduceBNe, Blk.men, Blk.keysIn, hd, hd'])
    | (exact retS_of rfl rfl rfl)
    | (refine DW.cond_tt rfl ?_)
    | (refine DW.cond_ff rfl ?_)
    | (refine DW.cond rfl ?_ ?_ <;> intro hc <;> (try simp only [go_sem] at hc))
    | (refine g_split ?_ ?_ <;> intro hc <;> (try simp only [hc]) <;> (try simp only [go_sem] at hc)))
    refine retS_of rfl ?_ rfl; simp only [oneD, St.op, get, Nat.reduceEqDiff, ↓reduceIte, Option.getD_some, bD, dI]
    rw [orI2, if_neg (by simpa using ha), hb]
def cmpL : List Int → List Int → Int
  | [], [] => 0
  | [], _ :: _ => -1
  | _ :: _, [] => 1
  | a :: s, b :: t => if cmpI a b = 0 then cmpL s t else cmpI a b
theorem drop_cons {α : Type} {l : List α} {i : Nat} {v : α} (h : l[i]? = some v) : l.drop i = v :: l.drop (i + 1) := by
  have hlt := (List.getElem?_eq_some_iff.1 h).1
  have e : l[i] = v := (List.getElem?_eq_some_iff.1 h).2
  rw [← e]; exact List.drop_eq_getElem_cons hlt
theorem crCmpL (b1 b2 : Bool) (s t : List Int) (hs : s.length ≤ 2 ^ 36) (ht : t.length ≤ 2 ^ 36) : DCall Tryd.prog 69 [dIs b1 s, dIs b2 t] [] (dI (cmpL s t)) [] := by
  generalize hR : cmpL s t = R
  refine DCall.of Tryd.func69 sf69 hb69 (Nat.le_of_ble_eq_true rfl) (okRes_nil fun _ => rfl) ?_; simp only [s69, idxs, Nat.reduceAdd]
  repeat' (first
    | (with_reducible refine DW.seq ?_)
    | (with_reducible refine DW.block ?_)
    | (with_reducible refine DW.skip ?_)
    | (with_reducible refine DW.exit ?_)
    | (with_reducible refine DW.ret ?_)
    | (with_reducible refine DW.reg ?_)
    | (simp (disch := omega) only [go_sem, Nat.reduceLT, Nat.reduceLeDiff, Nat.reduceAdd, Nat.reduceMul, Nat.reduceEqDiff, ↓reduceIte, reduceCtorEq, Nat.reduceBEq, Nat.reduceBNe, Nat.reducePow, Int.reduceLE, Int.reduceLT, Int.reduceNeg, Int.reduceToNat, Int.reduceEq, Int.reduceAdd, Int.reduceSub, Int.reduceMul, Int.reduceBEq, Int.reduceBNe, Blk.men, Blk.keysIn])
    | (exact retS_of rfl rfl rfl)
    | (refine DW.cond_tt rfl ?_)
    | (refine DW.cond_ff rfl ?_)
    | (refine DW.cond rfl ?_ ?_ <;> intro hc <;> (try simp only [go_sem] at hc))
    | (refine g_split ?_ ?_ <;> intro hc <;> (try simp only [hc]) <;> (try simp only [go_sem] at hc)))
  refine DW.loop (ι := { i : Nat // i ≤ s.length ∧ i ≤ t.length ∧ cmpL (s.drop i) (t.drop i) = R }) (fun i => ⟨36, [(11, dI i.1), (10, dI s.length), (9, dIs b1 s), (1, dIs b2 t), (0, dIs b1 s)], []⟩) (fun i => s.length - i.1) ⟨0, Nat.zero_le _, Nat.zero_le _, hR⟩ ?_ ?_
  · refine Ent.to ?_ ?_ <;> simp (disch := omega) only [wkT_cons, wkX_cons, wkT_nil, wkX_nil, get, Nat.reduceEqDiff, ↓reduceIte, ex_some, wk_self, wk_top, wk_nil, wkB_self, and_self, dI, i64_in, and_true, true_and, Int.natCast_add, Int.natCast_one, Int.ofNat_zero, Int.natCast_zero]
  rintro ⟨i, hi, hit, hr⟩
  rcases at_or s i hi with ⟨v, hv, hlt, hd⟩ | ⟨he, hd⟩
  · rw [drop_cons hv] at hr
    rcases Nat.lt_or_ge i t.length with hlt2 | hge
    · obtain ⟨u, hu⟩ := getE (l := t) (i := i) hlt2
      have hdt : decide ((t.length : Int) ≤ (i : Int)) = false := by rw [decide_eq_false_iff_not]; omega
      have hc := crCmp v u
      rw [drop_cons hu, cmpL] at hr
      by_cases h0 : cmpI v u = 0
      · have e : (cmpI v u != 0) = false := by rw [h0]; rfl
        rw [if_pos h0] at hr
        repeat' (first
    | (with_reducible refine DW.seq ?_)
    | (with_reducible refine DW.block ?_)
    | (with_reducible refine DW.skip ?_)
    | (with_reducible refine DW.exit ?_)
    | (with_reducible refine DW.ret ?_)
    | (with_reducible refine DW.reg ?_)
    | (simp (disch := omega) only [go_sem, Nat.reduceLT, Nat.reduceLeDiff, Nat.reduceAdd, Nat.reduceMul, Nat.reduceEqDiff, ↓reduceIte, reduceCtorEq, Nat.reduceBEq, Nat.reduceBNe, Nat.reducePow, Int.reduceLE, Int.reduceLT, Int.reduceNeg, Int.reduceToNat, Int.reduceEq, Int.reduceAdd, Int.reduceSub, Int.reduceMul, Int.reduceBEq, Int.reduceBNe, Blk.men, Blk.keysIn, hd, hv, hdt, hu, e])
    | (exact retS_of rfl rfl rfl)
    | (refine DW.cond_tt rfl ?_)
    | (refine call_c (hc) (by decide) ?_)
    | (refine DW.cond_ff rfl ?_)
    | (refine DW.cond rfl ?_ ?_ <;> intro hc <;> (try simp only [go_sem] at hc))
    | (refine g_split ?_ ?_ <;> intro hc <;> (try simp only [hc]) <;> (try simp only [go_sem] at hc)))
        refine ⟨⟨i + 1, hlt, hlt2, hr⟩, ?_, Ent.to ?_ ?_⟩ <;> first | (show _ < _; (try simp only); omega) | (simp (disch := omega) only [wkT_cons, wkX_cons, wkT_nil, wkX_nil, get, Nat.reduceEqDiff, ↓reduceIte, ex_some, wk_self, wk_top, wk_nil, wkB_self, and_self, dI, i64_in, and_true, true_and, Int.natCast_add, Int.natCast_one, Int.ofNat_zero, Int.natCast_zero])
      · have e : (cmpI v u != 0) = true := by simpa using h0
        rw [if_neg h0] at hr
        repeat' (first
    | (with_reducible refine DW.seq ?_)
    | (with_reducible refine DW.block ?_)
    | (with_reducible refine DW.skip ?_)
    | (with_reducible refine DW.exit ?_)
    | (with_reducible refine DW.ret ?_)
    | (with_reducible refine DW.reg ?_)
    | (simp (disch := omega) only [go_sem, Nat.reduceLT, Nat.reduceLeDiff, Nat.reduceAdd, Nat.reduceMul, Nat.reduceEqDiff, ↓reduceIte, reduceCtorEq, Nat.reduceBEq, Nat.reduceBNe, Nat.reducePow, Int.reduceLE, Int.reduceLT, Int.reduceNeg, Int.reduceToNat, Int.reduceEq, Int.reduceAdd, Int.reduceSub, Int.reduceMul, Int.reduceBEq, Int.reduceBNe, Blk.men, Blk.keysIn, hd, hv, hdt, hu, e])
    | (exact retS_of rfl rfl rfl)
    | (refine DW.cond_tt rfl ?_)
    | (refine call_c (hc) (by decide) ?_)
    | (refine DW.cond_ff rfl ?_)
    | (refine DW.cond rfl ?_ ?_ <;> intro hc <;> (try simp only [go_sem] at hc))
    | (refine g_split ?_ ?_ <;> intro hc <;> (try simp only [hc]) <;> (try simp only [go_sem] at hc)))
        refine retS_of rfl ?_ rfl; simp only [oneD, St.op, get, Nat.reduceEqDiff, ↓reduceIte, Option.getD_some, bD, dI]
        rw [← hr]
    · have hdt : decide ((t.length : Int) ≤ (i : Int)) = true := by rw [decide_eq_true_eq]; omega
      rw [List.drop_of_length_le hge, cmpL] at hr
      repeat' (first
    | (with_reducible refine DW.seq ?_)
    | (with_reducible refine DW.block ?_)
    | (with_reducible refine DW.skip ?_)
    | (with_reducible refine DW.exit ?_)
    | (with_reducible refine DW.ret ?_)
    | (with_reducible refine DW.reg ?_)
    | (simp (disch := omega) only [go_sem, Nat.reduceLT, Nat.reduceLeDiff, Nat.reduceAdd, Nat.reduceMul, Nat.reduceEqDiff, ↓reduceIte, reduceCtorEq, Nat.reduceBEq, Nat.reduceBNe, Nat.reducePow, Int.reduceLE, Int.reduceLT, Int.reduceNeg, Int.reduceToNat, Int.reduceEq, Int.reduceAdd, Int.reduceSub, Int.reduceMul, Int.reduceBEq, Int.reduceBNe, Blk.men, Blk.keysIn, hd, hv, hdt])
    | (exact retS_of rfl rfl rfl)
    | (refine DW.cond_tt rfl ?_)
    | (refine DW.cond_ff rfl ?_)
    | (refine DW.cond rfl ?_ ?_ <;> intro hc <;> (try simp only [go_sem] at hc))
    | (refine g_split ?_ ?_ <;> intro hc <;> (try simp only [hc]) <;> (try simp only [go_sem] at hc)))
      refine retS_of rfl ?_ rfl; simp only [oneD, St.op, get, Nat.reduceEqDiff, ↓reduceIte, Option.getD_some, bD, dI]
      rw [← hr]
  · rw [List.drop_of_length_le (by omega : s.length ≤ i)] at hr
    rcases Nat.lt_or_ge s.length t.length with h1 | h1
    · have hdl : decide ((s.length : Int) < (t.length : Int)) = true := by rw [decide_eq_true_eq]; omega
      obtain ⟨u, hu⟩ := getE (l := t) (i := i) (by omega)
      rw [drop_cons hu, cmpL] at hr
      repeat' (first
    | (with_reducible refine DW.seq ?_)
    | (with_reducible refine DW.block ?_)
    | (with_reducible refine DW.skip ?_)
    | (with_reducible refine DW.exit ?_)
    | (with_reducible refine DW.ret ?_)
    | (with_reducible refine DW.reg ?_)
    | (simp (disch := omega) only [go_sem, Nat.reduceLT, Nat.reduceLeDiff, Nat.reduceAdd, Nat.reduceMul, Nat.reduceEqDiff, ↓reduceIte, reduceCtorEq, Nat.reduceBEq, Nat.reduceBNe, Nat.reducePow, Int.reduceLE, Int.reduceLT, Int.reduceNeg, Int.reduceToNat, Int.reduceEq, Int.reduceAdd, Int.reduceSub, Int.reduceMul, Int.reduceBEq, Int.reduceBNe, Blk.men, Blk.keysIn, hd, hdl])
    | (exact retS_of rfl rfl rfl)
    | (refine DW.cond_tt rfl ?_)
    | (refine DW.cond_ff rfl ?_)
    | (refine DW.cond rfl ?_ ?_ <;> intro hc <;> (try simp only [go_sem] at hc))
    | (refine g_split ?_ ?_ <;> intro hc <;> (try simp only [hc]) <;> (try simp only [go_sem] at hc)))
      refine retS_of rfl ?_ rfl; simp only [oneD, St.op, get, Nat.reduceEqDiff, ↓reduceIte, Option.getD_some, bD, dI]
      rw [← hr]
    · have hdl : decide ((s.length : Int) < (t.length : Int)) = false := by rw [decide_eq_false_iff_not]; omega
      rw [List.drop_of_length_le (by omega : t.length ≤ i), cmpL] at hr
      repeat' (first
    | (with_reducible refine DW.seq ?_)
    | (with_reducible refine DW.block ?_)
    | (with_reducible refine DW.skip ?_)
    | (with_reducible refine DW.exit ?_)
    | (with_reducible refine DW.ret ?_)
    | (with_reducible refine DW.reg ?_)
    | (simp (disch := omega) only [go_sem, Nat.reduceLT, Nat.reduceLeDiff, Nat.reduceAdd, Nat.reduceMul, Nat.reduceEqDiff, ↓reduceIte, reduceCtorEq, Nat.reduceBEq, Nat.reduceBNe, Nat.reducePow, Int.reduceLE, Int.reduceLT, Int.reduceNeg, Int.reduceToNat, Int.reduceEq, Int.reduceAdd, Int.reduceSub, Int.reduceMul, Int.reduceBEq, Int.reduceBNe, Blk.men, Blk.keysIn, hd, hdl])
    | (exact retS_of rfl rfl rfl)
    | (refine DW.cond_tt rfl ?_)
    | (refine DW.cond_ff rfl ?_)
    | (refine DW.cond rfl ?_ ?_ <;> intro hc <;> (try simp only [go_sem] at hc))
    | (refine g_split ?_ ?_ <;> intro hc <;> (try simp only [hc]) <;> (try simp only [go_sem] at hc)))
      refine retS_of rfl ?_ rfl; simp only [oneD, St.op, get, Nat.reduceEqDiff, ↓reduceIte, Option.getD_some, bD, dI]
      rw [← hr]
def isOut (off lo hi x : Int) : Bool := decide (highT off x < lo) || decide (hi < lowT off x)
def outI (off lo hi : Int) : Nat → List Int → List Int
  | _, [] => []
  | i, x :: t => if isOut off lo hi x then (i : Int) :: outI off lo hi (i + 1) t else outI off lo hi (i + 1) t
theorem outI_app (off lo hi : Int) : ∀ (s t : List Int) (i : Nat), outI off lo hi i (s ++ t) = outI off lo hi i s ++ outI off lo hi (i + s.length) t
  | [], t, i => rfl
  | x :: s, t, i => by
    have ih := outI_app off lo hi s t (i + 1)
    simp only [List.cons_append, outI, ih, List.length_cons]
    have e : i + 1 + s.length = i + (s.length + 1) := by omega
    rw [e]
    split <;> simp
theorem outI_len (off lo hi : Int) : ∀ (s : List Int) (i : Nat), (outI off lo hi i s).length ≤ s.length
  | [], _ => Nat.le_refl _
  | x :: s, i => by
    have ih := outI_len off lo hi s (i + 1)
    simp only [outI]
    split <;> simp <;> omega
theorem outI_take {off lo hi : Int} {rs : List Int} {i : Nat} {x : Int} (h : rs[i]? = some x) : outI off lo hi 0 (rs.take (i + 1)) = if isOut off lo hi x then outI off lo hi 0 (rs.take i) ++ [(i : Int)] else outI off lo hi 0 (rs.take i) := by
  have hlt := (List.getElem?_eq_some_iff.1 h).1
  rw [List.take_add_one, h, Option.toList_some, outI_app, List.length_take, Nat.min_eq_left (Nat.le_of_lt hlt), Nat.zero_add]
  simp only [outI]
  split <;> simp
set_option maxHeartbeats 1000000 in
theorem crOutside (b : Bool) (off lo hi : Int) (rs : List Int) (ho : 0 ≤ off ∧ off ≤ 1000) (hl : rs.length ≤ 100) (h : ∀ x ∈ rs, 0 ≤ x ∧ x ≤ 100000) : DCall Tryd.prog 66 [dI off, dIs b rs, .agg [dI lo, dI hi]] [] (dIs false (outI off lo hi 0 rs)) [] := by
  refine DCall.of Tryd.func66 sf66 hb66 (Nat.le_of_ble_eq_true rfl) (okRes_nil fun _ => rfl) ?_; simp only [s66, idxs, Nat.reduceAdd]
  repeat' (first
    | (with_reducible refine DW.seq ?_)
    | (with_reducible refine DW.block ?_)
    | (with_reducible refine DW.skip ?_)
    | (with_reducible refine DW.exit ?_)
    | (with_reducible refine DW.ret ?_)
    | (with_reducible refine DW.reg ?_)
    | (simp (disch := omega) only [go_sem, Nat.reduceLT, Nat.reduceLeDiff, Nat.reduceAdd, Nat.reduceMul, Nat.reduceEqDiff, ↓reduceIte, reduceCtorEq, Nat.reduceBEq, Nat.reduceBNe, Nat.reducePow, Int.reduceLE, Int.reduceLT, Int.reduceNeg, Int.reduceToNat, Int.reduceEq, Int.reduceAdd, Int.reduceSub, Int.reduceMul, Int.reduceBEq, Int.reduceBNe, Blk.men, Blk.keysIn])
    | (exact retS_of rfl rfl rfl)
    | (refine DW.cond_tt rfl ?_)
    | (refine DW.cond_ff rfl ?_)
    | (refine DW.cond rfl ?_ ?_ <;> intro hc <;> (try simp only [go_sem] at hc))
    | (refine g_split ?_ ?_ <;> intro hc <;> (try simp only [hc]) <;> (try simp only [go_sem] at hc)))
  refine DW.ent (Ent.adopt 6 35 1 rfl rfl rfl) ?_
  simp (disch := omega) only [go_sem, Nat.reduceLT, Nat.reduceLeDiff, Nat.reduceAdd, Nat.reduceMul, Nat.reduceEqDiff, ↓reduceIte, reduceCtorEq, Nat.reduceBEq, Nat.reduceBNe, Nat.reducePow, Int.reduceLE, Int.reduceLT, Int.reduceNeg, Int.reduceToNat, Int.reduceEq, Int.reduceAdd, Int.reduceSub, Int.reduceMul, Int.reduceBEq, Int.reduceBNe, Blk.men, Blk.keysIn]
  refine DW.loop (ι := { i : Nat // i ≤ rs.length }) (fun i => ⟨38, [(12, dI i.1), (11, dI rs.length), (10, dIs b rs), (6, .own 35), (5, .box 5 0), (0, dI off)], [(35, .row 1 (rowC (rows eI (outI off lo hi 0 (rs.take i.1))))), (5, .box [dI lo, dI hi])]⟩) (fun i => rs.length - i.1) ⟨0, Nat.zero_le _⟩ ?_ ?_
  · refine Ent.to ?_ ?_ <;> simp (disch := omega) only [wkT_cons, wkX_cons, wkT_nil, wkX_nil, get, Nat.reduceEqDiff, ↓reduceIte, ex_some, wk_self, wk_top, wk_nil, wkB_self, and_self, dI, i64_in, and_true, true_and, Int.natCast_add, Int.natCast_one, Int.ofNat_zero, Int.natCast_zero, List.take_zero, outI]
    all_goals exact .refl _
  rintro ⟨i, hi'⟩
  rcases at_or rs i hi' with ⟨x, hx, hlt, hd⟩ | ⟨hend, hd⟩
  · have hs := outI_take (off := off) (lo := lo) (hi := hi) hx
    have hlen := outI_len off lo hi (rs.take i) 0
    have hlt2 : (rs.take i).length ≤ 100 := by rw [List.length_take]; omega
    have ht := crTruth off x ho (h x (List.mem_of_getElem? hx))
    unfold isOut at hs
    generalize outI off lo hi 0 (rs.take i) = a at *
    cases c1 : decide (highT off x < lo) with
    | true =>
      rw [c1] at hs
      simp only [Bool.true_or, if_true] at hs
      repeat' (first
    | (with_reducible refine DW.seq ?_)
    | (with_reducible refine DW.block ?_)
    | (with_reducible refine DW.skip ?_)
    | (with_reducible refine DW.exit ?_)
    | (with_reducible refine DW.ret ?_)
    | (with_reducible refine DW.reg ?_)
    | (simp (disch := omega) only [go_sem, Nat.reduceLT, Nat.reduceLeDiff, Nat.reduceAdd, Nat.reduceMul, Nat.reduceEqDiff, ↓reduceIte, reduceCtorEq, Nat.reduceBEq, Nat.reduceBNe, Nat.reducePow, Int.reduceLE, Int.reduceLT, Int.reduceNeg, Int.reduceToNat, Int.reduceEq, Int.reduceAdd, Int.reduceSub, Int.reduceMul, Int.reduceBEq, Int.reduceBNe, Blk.men, Blk.keysIn, hd, hx, c1])
    | (exact retS_of rfl rfl rfl)
    | (refine DW.cond_tt rfl ?_)
    | (refine call_c (ht) (by decide) ?_)
    | (refine DW.cond_ff rfl ?_)
    | (refine DW.cond rfl ?_ ?_ <;> intro hc <;> (try simp only [go_sem] at hc))
    | (refine g_split ?_ ?_ <;> intro hc <;> (try simp only [hc]) <;> (try simp only [go_sem] at hc)))
      refine ⟨⟨i + 1, hlt⟩, ?_, Ent.to ?_ ?_⟩ <;> first | (show _ < _; (try simp only); omega) | (simp (disch := omega) only [wkT_cons, wkX_cons, wkT_nil, wkX_nil, get, Nat.reduceEqDiff, ↓reduceIte, ex_some, wk_self, wk_top, wk_nil, wkB_self, and_self, dI, i64_in, and_true, true_and, Int.natCast_add, Int.natCast_one, Int.ofNat_zero, Int.natCast_zero,  hs, rowC_snocI])
      all_goals exact .refl _
    | false =>
      cases c2 : decide (hi < lowT off x) with
      | true =>
        rw [c1, c2] at hs
        simp only [Bool.false_or, if_true] at hs
        repeat' (first
    | (with_reducible refine DW.seq ?_)
    | (with_reducible refine DW.block ?_)
    | (with_reducible refine DW.skip ?_)
    | (with_reducible refine DW.exit ?_)
    | (with_reducible refine DW.ret ?_)
    | (with_reducible refine DW.reg ?_)
    | (simp (disch := omega) only [go_sem, Nat.reduceLT, Nat.reduceLeDiff, Nat.reduceAdd, Nat.reduceMul, Nat.reduceEqDiff, ↓reduceIte, reduceCtorEq, Nat.reduceBEq, Nat.reduceBNe, Nat.reducePow, Int.reduceLE, Int.reduceLT, Int.reduceNeg, Int.reduceToNat, Int.reduceEq, Int.reduceAdd, Int.reduceSub, Int.reduceMul, Int.reduceBEq, Int.reduceBNe, Blk.men, Blk.keysIn, hd, hx, c1, c2])
    | (exact retS_of rfl rfl rfl)
    | (refine DW.cond_tt rfl ?_)
    | (refine call_c (ht) (by decide) ?_)
    | (refine DW.cond_ff rfl ?_)
    | (refine DW.cond rfl ?_ ?_ <;> intro hc <;> (try simp only [go_sem] at hc))
    | (refine g_split ?_ ?_ <;> intro hc <;> (try simp only [hc]) <;> (try simp only [go_sem] at hc)))
        refine ⟨⟨i + 1, hlt⟩, ?_, Ent.to ?_ ?_⟩ <;> first | (show _ < _; (try simp only); omega) | (simp (disch := omega) only [wkT_cons, wkX_cons, wkT_nil, wkX_nil, get, Nat.reduceEqDiff, ↓reduceIte, ex_some, wk_self, wk_top, wk_nil, wkB_self, and_self, dI, i64_in, and_true, true_and, Int.natCast_add, Int.natCast_one, Int.ofNat_zero, Int.natCast_zero,  hs, rowC_snocI])
        all_goals exact .refl _
      | false =>
        rw [c1, c2] at hs
        simp only [Bool.false_or, Bool.false_eq_true, if_false] at hs
        repeat' (first
    | (with_reducible refine DW.seq ?_)
    | (with_reducible refine DW.block ?_)
    | (with_reducible refine DW.skip ?_)
    | (with_reducible refine DW.exit ?_)
    | (with_reducible refine DW.ret ?_)
    | (with_reducible refine DW.reg ?_)
    | (simp (disch := omega) only [go_sem, Nat.reduceLT, Nat.reduceLeDiff, Nat.reduceAdd, Nat.reduceMul, Nat.reduceEqDiff, ↓reduceIte, reduceCtorEq, Nat.reduceBEq, Nat.reduceBNe, Nat.reducePow, Int.reduceLE, Int.reduceLT, Int.reduceNeg, Int.reduceToNat, Int.reduceEq, Int.reduceAdd, Int.reduceSub, Int.reduceMul, Int.reduceBEq, Int.reduceBNe, Blk.men, Blk.keysIn, hd, hx, c1, c2])
    | (exact retS_of rfl rfl rfl)
    | (refine DW.cond_tt rfl ?_)
    | (refine call_c (ht) (by decide) ?_)
    | (refine DW.cond_ff rfl ?_)
    | (refine DW.cond rfl ?_ ?_ <;> intro hc <;> (try simp only [go_sem] at hc))
    | (refine g_split ?_ ?_ <;> intro hc <;> (try simp only [hc]) <;> (try simp only [go_sem] at hc)))
        refine ⟨⟨i + 1, hlt⟩, ?_, Ent.to ?_ ?_⟩ <;> first | (show _ < _; (try simp only); omega) | (simp (disch := omega) only [wkT_cons, wkX_cons, wkT_nil, wkX_nil, get, Nat.reduceEqDiff, ↓reduceIte, ex_some, wk_self, wk_top, wk_nil, wkB_self, and_self, dI, i64_in, and_true, true_and, Int.natCast_add, Int.natCast_one, Int.ofNat_zero, Int.natCast_zero,  hs, rowC_snocI])
        all_goals exact .refl _
  · rw [List.take_of_length_le (by omega : rs.length ≤ i)]
    repeat' (first
    | (with_reducible refine DW.seq ?_)
    | (with_reducible refine DW.block ?_)
    | (with_reducible refine DW.skip ?_)
    | (with_reducible refine DW.exit ?_)
    | (with_reducible refine DW.ret ?_)
    | (with_reducible refine DW.reg ?_)
    | (simp (disch := omega) only [go_sem, Nat.reduceLT, Nat.reduceLeDiff, Nat.reduceAdd, Nat.reduceMul, Nat.reduceEqDiff, ↓reduceIte, reduceCtorEq, Nat.reduceBEq, Nat.reduceBNe, Nat.reducePow, Int.reduceLE, Int.reduceLT, Int.reduceNeg, Int.reduceToNat, Int.reduceEq, Int.reduceAdd, Int.reduceSub, Int.reduceMul, Int.reduceBEq, Int.reduceBNe, Blk.men, Blk.keysIn, hd])
    | (exact retS_of rfl rfl rfl)
    | (refine DW.cond_tt rfl ?_)
    | (refine DW.cond_ff rfl ?_)
    | (refine DW.cond rfl ?_ ?_ <;> intro hc <;> (try simp only [go_sem] at hc))
    | (refine g_split ?_ ?_ <;> intro hc <;> (try simp only [hc]) <;> (try simp only [go_sem] at hc)))
    (refine retS_ent (Ent.rel 35 rfl) ?_; simp (disch := omega) only [go_sem, Nat.reduceLT, Nat.reduceLeDiff, Nat.reduceAdd, Nat.reduceMul, Nat.reduceEqDiff, ↓reduceIte, reduceCtorEq, Nat.reduceBEq, Nat.reduceBNe, Nat.reducePow, Int.reduceLE, Int.reduceLT, Int.reduceNeg, Int.reduceToNat, Int.reduceEq, Int.reduceAdd, Int.reduceSub, Int.reduceMul, Int.reduceBEq, Int.reduceBNe, Blk.men, Blk.keysIn])
    refine retS_wk rfl ?_ (by simp only [Blk.nb, rowC_nb, D.nb, D.nbs, C.nb, C.nbs, C.nbss, rows_nb eI_nb, Bool.and_true, Bool.not_false, Bool.and_self, bD, dI, iD]); exact .refl _
def better (out best : List Int) : Bool := decide (orI2 (cmpI out.length best.length) (cmpL out best) < 0)
def oddF (off spread : Int) (rs : List Int) (best : List Int) (e : Int × Nat) : List Int :=
  let out := outI off (highT off e.1) (highT off e.1 + spread) 0 rs
  if e.2 = 0 then out else if better out best then out else best
def oddI (off spread : Int) (rs : List Int) : List Int := rs.zipIdx.foldl (oddF off spread rs) []
theorem oddI_take {off spread : Int} {rs : List Int} {i : Nat} {x : Int} (h : rs[i]? = some x) : ((rs.take (i + 1)).zipIdx).foldl (oddF off spread rs) [] = oddF off spread rs (((rs.take i).zipIdx).foldl (oddF off spread rs) []) (x, i) := by
  have hlt := (List.getElem?_eq_some_iff.1 h).1
  rw [List.take_add_one, h, Option.toList_some, List.zipIdx_append, List.foldl_append, List.length_take, Nat.min_eq_left (Nat.le_of_lt hlt), Nat.zero_add]
  rfl
theorem oddF_len (off spread : Int) (rs : List Int) (e : Int × Nat) (best : List Int) (h : best.length ≤ rs.length) : (oddF off spread rs best e).length ≤ rs.length := by
  have := outI_len off (highT off e.1) (highT off e.1 + spread) rs 0
  unfold oddF
  dsimp only
  split
  · exact this
  · split
    · exact this
    · exact h
theorem odd_fold_len (off spread : Int) (rs : List Int) : ∀ (L : List (Int × Nat)) (best : List Int), best.length ≤ rs.length → (L.foldl (oddF off spread rs) best).length ≤ rs.length
  | [], _, h => h
  | e :: L, best, h => odd_fold_len off spread rs L _ (oddF_len off spread rs e best h)
set_option maxHeartbeats 2000000 in
theorem crOdd (b : Bool) (rs : List Int) (off spread : Int) (hl : rs.length ≤ 20) (ho : 0 ≤ off ∧ off ≤ 1000) (hsp : 0 ≤ spread ∧ spread ≤ 100000) (h : ∀ x ∈ rs, 0 ≤ x ∧ x ≤ 100000) : DCall Tryd.prog 27 [dIs b rs, dI off, dI spread] [] (.tup [dIs false (oddI off spread rs), dI 0]) [] := by
  have w1 := crWithin true 0 1000 [off] (by simp)
  have w2 := crWithin true 0 100000 [spread] (by simp)
  have w3 := crWithin b 0 100000 rs (by omega)
  rw [wthn_yes (by simpa using ho)] at w1
  rw [wthn_yes (by simpa using hsp)] at w2
  rw [wthn_yes h] at w3
  have hd0 : decide ((20 : Int) < (rs.length : Int)) = false := by rw [decide_eq_false_iff_not]; omega
  refine DCall.of Tryd.func27 sf27 hb27 (Nat.le_of_ble_eq_true rfl) (okRes_nil fun _ => rfl) ?_; simp only [s27, idxs, Nat.reduceAdd]
  repeat' (first
    | (with_reducible refine DW.seq ?_)
    | (with_reducible refine DW.block ?_)
    | (with_reducible refine DW.skip ?_)
    | (with_reducible refine DW.exit ?_)
    | (with_reducible refine DW.ret ?_)
    | (with_reducible refine DW.reg ?_)
    | (simp (disch := omega) only [go_sem, Nat.reduceLT, Nat.reduceLeDiff, Nat.reduceAdd, Nat.reduceMul, Nat.reduceEqDiff, ↓reduceIte, reduceCtorEq, Nat.reduceBEq, Nat.reduceBNe, Nat.reducePow, Int.reduceLE, Int.reduceLT, Int.reduceNeg, Int.reduceToNat, Int.reduceEq, Int.reduceAdd, Int.reduceSub, Int.reduceMul, Int.reduceBEq, Int.reduceBNe, Blk.men, Blk.keysIn, hd0])
    | (exact retS_of rfl rfl rfl)
    | (refine DW.cond_tt rfl ?_)
    | (refine call_c (w1) (by decide) ?_)
    | (refine call_c (w2) (by decide) ?_)
    | (refine call_c (w3) (by decide) ?_)
    | (refine DW.cond_ff rfl ?_)
    | (refine DW.cond rfl ?_ ?_ <;> intro hc <;> (try simp only [go_sem] at hc))
    | (refine g_split ?_ ?_ <;> intro hc <;> (try simp only [hc]) <;> (try simp only [go_sem] at hc)))
  refine DW.loop (ι := { i : Nat // i ≤ rs.length }) (fun i => ⟨66, [(31, dI i.1), (30, dI rs.length), (29, dIs b rs), (6, dIs false (((rs.take i.1).zipIdx).foldl (oddF off spread rs) [])), (2, dI spread), (1, dI off), (0, dIs b rs)], []⟩) (fun i => rs.length - i.1) ⟨0, Nat.zero_le _⟩ ?_ ?_
  · refine Ent.to ?_ ?_ <;> simp (disch := omega) only [wkT_cons, wkX_cons, wkT_nil, wkX_nil, get, Nat.reduceEqDiff, ↓reduceIte, ex_some, wk_self, wk_top, wk_nil, wkB_self, and_self, dI, i64_in, and_true, true_and, Int.natCast_add, Int.natCast_one, Int.ofNat_zero, Int.natCast_zero, List.take_zero, List.zipIdx_nil, List.foldl_nil]
    all_goals exact .nil _ _
  rintro ⟨i, hi'⟩
  have hbl := odd_fold_len off spread rs ((rs.take i).zipIdx) [] (Nat.zero_le _)
  rcases at_or rs i hi' with ⟨x, hx, hlt, hd⟩ | ⟨hend, hd⟩
  · have hs := oddI_take (off := off) (spread := spread) hx
    have hxx := h x (List.mem_of_getElem? hx)
    have ht := crTruth off x ho hxx
    have hhi := highT_in ho.1 hxx
    have hout := crOutside b off (highT off x) (highT off x + spread) rs ho (by omega) h
    have hol := outI_len off (highT off x) (highT off x + spread) rs 0
    have hodd : ∀ bst, oddF off spread rs bst (x, i) = if i = 0 then outI off (highT off x) (highT off x + spread) 0 rs else if better (outI off (highT off x) (highT off x + spread) 0 rs) bst then outI off (highT off x) (highT off x + spread) 0 rs else bst := fun _ => rfl
    rw [hodd] at hs
    generalize ((rs.take i).zipIdx).foldl (oddF off spread rs) [] = best at *
    generalize outI off (highT off x) (highT off x + spread) 0 rs = out at *
    have hc1 := crCmp out.length best.length
    have hc2 := crCmpL false false out best (by omega) (by omega)
    have hor := crOr true (cmpI out.length best.length) (cmpL out best)
    rcases i with _ | i
    · have hz : (((0 : Nat) : Int) == 0) = true := rfl
      have hd' : decide ((0 : Int) < (rs.length : Int)) = true := hd
      rw [if_pos rfl] at hs
      repeat' (first
    | (with_reducible refine DW.seq ?_)
    | (with_reducible refine DW.block ?_)
    | (with_reducible refine DW.skip ?_)
    | (with_reducible refine DW.exit ?_)
    | (with_reducible refine DW.ret ?_)
    | (with_reducible refine DW.reg ?_)
    | (simp (disch := omega) only [go_sem, Nat.reduceLT, Nat.reduceLeDiff, Nat.reduceAdd, Nat.reduceMul, Nat.reduceEqDiff, ↓reduceIte, reduceCtorEq, Nat.reduceBEq, Nat.reduceBNe, Nat.reducePow, Int.reduceLE, Int.reduceLT, Int.reduceNeg, Int.reduceToNat, Int.reduceEq, Int.reduceAdd, Int.reduceSub, Int.reduceMul, Int.reduceBEq, Int.reduceBNe, Blk.men, Blk.keysIn, hd', hx, hz])
    | (exact retS_of rfl rfl rfl)
    | (refine DW.cond_tt rfl ?_)
    | (refine call_c (ht) (by decide) ?_)
    | (refine call_c (hout) (by decide) ?_)
    | (refine DW.cond_ff rfl ?_)
    | (refine DW.cond rfl ?_ ?_ <;> intro hc <;> (try simp only [go_sem] at hc))
    | (refine g_split ?_ ?_ <;> intro hc <;> (try simp only [hc]) <;> (try simp only [go_sem] at hc)))
      refine ⟨⟨0 + 1, hlt⟩, ?_, Ent.to ?_ ?_⟩ <;> first | (show _ < _; (try simp only); omega) | (simp (disch := omega) only [wkT_cons, wkX_cons, wkT_nil, wkX_nil, get, Nat.reduceEqDiff, ↓reduceIte, ex_some, wk_self, wk_top, wk_nil, wkB_self, and_self, dI, i64_in, and_true, true_and, Int.natCast_add, Int.natCast_one, Int.ofNat_zero, Int.natCast_zero,  hs])
      all_goals exact .refl _
    · have hz : (((i + 1 : Nat) : Int) == 0) = false := by rw [beq_eq_false_iff_ne]; omega
      rw [if_neg (by omega)] at hs
      unfold better at hs
      cases hb : decide (orI2 (cmpI out.length best.length) (cmpL out best) < 0) with
      | true =>
        rw [hb, if_pos rfl] at hs
        repeat' (first
    | (with_reducible refine DW.seq ?_)
    | (with_reducible refine DW.block ?_)
    | (with_reducible refine DW.skip ?_)
    | (with_reducible refine DW.exit ?_)
    | (with_reducible refine DW.ret ?_)
    | (with_reducible refine DW.reg ?_)
    | (simp (disch := omega) only [go_sem, Nat.reduceLT, Nat.reduceLeDiff, Nat.reduceAdd, Nat.reduceMul, Nat.reduceEqDiff, ↓reduceIte, reduceCtorEq, Nat.reduceBEq, Nat.reduceBNe, Nat.reducePow, Int.reduceLE, Int.reduceLT, Int.reduceNeg, Int.reduceToNat, Int.reduceEq, Int.reduceAdd, Int.reduceSub, Int.reduceMul, Int.reduceBEq, Int.reduceBNe, Blk.men, Blk.keysIn, hd, hx, hz, hb])
    | (exact retS_of rfl rfl rfl)
    | (refine DW.cond_tt rfl ?_)
    | (refine call_c (ht) (by decide) ?_)
    | (refine call_c (hout) (by decide) ?_)
    | (refine call_c (hc1) (by decide) ?_)
    | (refine call_c (hc2) (by decide) ?_)
    | (refine call_c (hor) (by decide) ?_)
    | (refine DW.cond_ff rfl ?_)
    | (refine DW.cond rfl ?_ ?_ <;> intro hc <;> (try simp only [go_sem] at hc))
    | (refine g_split ?_ ?_ <;> intro hc <;> (try simp only [hc]) <;> (try simp only [go_sem] at hc)))
        refine ⟨⟨i + 1 + 1, hlt⟩, ?_, Ent.to ?_ ?_⟩ <;> first | (show _ < _; (try simp only); omega) | (simp (disch := omega) only [wkT_cons, wkX_cons, wkT_nil, wkX_nil, get, Nat.reduceEqDiff, ↓reduceIte, ex_some, wk_self, wk_top, wk_nil, wkB_self, and_self, dI, i64_in, and_true, true_and, Int.natCast_add, Int.natCast_one, Int.ofNat_zero, Int.natCast_zero,  hs])
      | false =>
        rw [hb, if_neg (by decide)] at hs
        repeat' (first
    | (with_reducible refine DW.seq ?_)
    | (with_reducible refine DW.block ?_)
    | (with_reducible refine DW.skip ?_)
    | (with_reducible refine DW.exit ?_)
    | (with_reducible refine DW.ret ?_)
    | (with_reducible refine DW.reg ?_)
    | (simp (disch := omega) only [go_sem, Nat.reduceLT, Nat.reduceLeDiff, Nat.reduceAdd, Nat.reduceMul, Nat.reduceEqDiff, ↓reduceIte, reduceCtorEq, Nat.reduceBEq, Nat.reduceBNe, Nat.reducePow, Int.reduceLE, Int.reduceLT, Int.reduceNeg, Int.reduceToNat, Int.reduceEq, Int.reduceAdd, Int.reduceSub, Int.reduceMul, Int.reduceBEq, Int.reduceBNe, Blk.men, Blk.keysIn, hd, hx, hz, hb])
    | (exact retS_of rfl rfl rfl)
    | (refine DW.cond_tt rfl ?_)
    | (refine call_c (ht) (by decide) ?_)
    | (refine call_c (hout) (by decide) ?_)
    | (refine call_c (hc1) (by decide) ?_)
    | (refine call_c (hc2) (by decide) ?_)
    | (refine call_c (hor) (by decide) ?_)
    | (refine DW.cond_ff rfl ?_)
    | (refine DW.cond rfl ?_ ?_ <;> intro hc <;> (try simp only [go_sem] at hc))
    | (refine g_split ?_ ?_ <;> intro hc <;> (try simp only [hc]) <;> (try simp only [go_sem] at hc)))
        refine ⟨⟨i + 1 + 1, hlt⟩, ?_, Ent.to ?_ ?_⟩ <;> first | (show _ < _; (try simp only); omega) | (simp (disch := omega) only [wkT_cons, wkX_cons, wkT_nil, wkX_nil, get, Nat.reduceEqDiff, ↓reduceIte, ex_some, wk_self, wk_top, wk_nil, wkB_self, and_self, dI, i64_in, and_true, true_and, Int.natCast_add, Int.natCast_one, Int.ofNat_zero, Int.natCast_zero,  hs])
  · rw [List.take_of_length_le (by omega : rs.length ≤ i)]
    have ee : (rs.zipIdx).foldl (oddF off spread rs) [] = oddI off spread rs := rfl
    rw [ee]
    generalize oddI off spread rs = best at *
    repeat' (first
    | (with_reducible refine DW.seq ?_)
    | (with_reducible refine DW.block ?_)
    | (with_reducible refine DW.skip ?_)
    | (with_reducible refine DW.exit ?_)
    | (with_reducible refine DW.ret ?_)
    | (with_reducible refine DW.reg ?_)
    | (simp (disch := omega) only [go_sem, Nat.reduceLT, Nat.reduceLeDiff, Nat.reduceAdd, Nat.reduceMul, Nat.reduceEqDiff, ↓reduceIte, reduceCtorEq, Nat.reduceBEq, Nat.reduceBNe, Nat.reducePow, Int.reduceLE, Int.reduceLT, Int.reduceNeg, Int.reduceToNat, Int.reduceEq, Int.reduceAdd, Int.reduceSub, Int.reduceMul, Int.reduceBEq, Int.reduceBNe, Blk.men, Blk.keysIn, hd])
    | (exact retS_of rfl rfl rfl)
    | (refine DW.cond_tt rfl ?_)
    | (refine DW.cond_ff rfl ?_)
    | (refine DW.cond rfl ?_ ?_ <;> intro hc <;> (try simp only [go_sem] at hc))
    | (refine g_split ?_ ?_ <;> intro hc <;> (try simp only [hc]) <;> (try simp only [go_sem] at hc)))
    refine retS_wk rfl ?_ (by simp only [Blk.nb, rowC_nb, D.nb, D.nbs, C.nb, C.nbs, C.nbss, rows_nb eI_nb, Bool.and_true, Bool.not_false, Bool.and_self, bD, dI, iD]); exact .refl _
end Go.Dw.Seat
end
section
set_option linter.unusedSimpArgs false
set_option maxRecDepth 100000
namespace Go.Dw.Seat
open Go Go.Dw Go.Proofs Go.IntWalk
theorem crCollect (s : Nat) (hs : s < 1024) : DCall Tryd.prog 91 [.c (.fn (.func 89) [.v (.int .u64 s)] [])] [] (dIs false (nL (bitsL s))) [] := by
  have h1 := crAppSeq s hs
  refine DCall.of Tryd.func91 sf91 hb91 (Nat.le_of_ble_eq_true rfl) (okRes_nil fun _ => rfl) ?_; simp only [s91, idxs, Nat.reduceAdd]
  repeat' (first
    | (with_reducible refine DW.seq ?_)
    | (with_reducible refine DW.block ?_)
    | (with_reducible refine DW.skip ?_)
    | (with_reducible refine DW.exit ?_)
    | (with_reducible refine DW.ret ?_)
    | (with_reducible refine DW.reg ?_)
    | (simp (disch := omega) only [go_sem, Nat.reduceLT, Nat.reduceLeDiff, Nat.reduceAdd, Nat.reduceMul, Nat.reduceEqDiff, ↓reduceIte, reduceCtorEq, Nat.reduceBEq, Nat.reduceBNe, Nat.reducePow, Int.reduceLE, Int.reduceLT, Int.reduceNeg, Int.reduceToNat, Int.reduceEq, Int.reduceAdd, Int.reduceSub, Int.reduceMul, Int.reduceBEq, Int.reduceBNe, bm_box, bm_row, bk_box, bk_row])
    | (exact retS_of rfl rfl rfl)
    | (refine DW.cond_tt rfl ?_)
    | (refine call_c (h1) (by decide) ?_)
    | (refine DW.cond_ff rfl ?_)
    | (refine DW.cond rfl ?_ ?_ <;> intro hc <;> (try simp only [go_sem] at hc))
    | (refine g_split ?_ ?_ <;> intro hc <;> (try simp only [hc]) <;> (try simp only [go_sem] at hc)))
  refine retS_wk rfl ?_ (by simp only [Blk.nb, rowC_nb, D.nb, D.nbs, C.nb, C.nbs, C.nbss, rows_nb eI_nb, Bool.and_true, Bool.not_false, Bool.and_self, bD, dI, iD, rows_nb eK_nb, rows_nb eLd_nb]); exact .refl _
theorem shl_u0 : ∀ n : Fin 11, shlI IntKind.u64 1 n.1 = ((2 ^ n.1 : Nat) : Int) := by decide +kernel
theorem shl_u {n : Nat} (h : n ≤ 10) : shlI IntKind.u64 1 n = ((2 ^ n : Nat) : Int) := shl_u0 ⟨n, by omega⟩
theorem pow_le10 {n : Nat} (h : n ≤ 10) : 2 ^ n ≤ 1024 := by
  have := Nat.pow_le_pow_right (n := 2) (by decide) h
  simpa using this
theorem inB_of {n s : Nat} (hn : n ≤ 10) (hs : s < 2 ^ n) : inB n s := fun e he => by
  have h1 := (List.mem_filter.1 he).2
  rcases Nat.lt_or_ge e n with h | h
  · exact h
  · have := Nat.testBit_lt_two_pow (Nat.lt_of_lt_of_le hs (Nat.pow_le_pow_right (by decide) h))
    rw [this] at h1; cases h1
def bestS (l : List Lod) (k : Int) (best : List Int) (s : Nat) : List Int :=
  if stI l k s then (if decide ((best.length : Int) < (nL (bitsL s)).length) || (((nL (bitsL s)).length : Int) == best.length && decide (cmpL (nL (bitsL s)) best < 0)) then nL (bitsL s) else best) else best
def mostI (l : List Lod) (k : Int) : List Int := (List.range (2 ^ l.length)).foldl (bestS l k) []
theorem bestS_len (l : List Lod) (k : Int) (best : List Int) (s : Nat) (h : best.length ≤ 10) : (bestS l k best s).length ≤ 10 := by
  have := bits_len s
  have e := nL_length (bitsL s)
  unfold bestS
  split
  · split
    · omega
    · exact h
  · exact h
theorem most_len (l : List Lod) (k : Int) : ∀ (L : List Nat) (best : List Int), best.length ≤ 10 → (L.foldl (bestS l k) best).length ≤ 10
  | [], _, h => h
  | s :: L, best, h => most_len l k L _ (bestS_len l k best s h)
set_option maxHeartbeats 2000000 in
theorem crMost (l : List Lod) (h : ∀ b ∈ l, b.ok) (hl : l.length ≤ 10) (t : List (Int × Int)) (days : Int) (ht : TabOk t days) : DCall Tryd.prog 46 [.c (.sl false 4 (rows eLd l)), .c (.sl false 2 (rows eK t)), dI days] [] (.tup [dIs false (mostI l (lastI days t 0)), dI 0]) [] := by
  have h1 := crPiler l h hl t days ht
  have hk := lastI_b days t 0 (fun s hs => (ht.mem s hs).2) (by decide)
  have hsh := shl_u hl
  have hpw := pow_le10 hl
  generalize lastI days t 0 = k at *
  refine DCall.of Tryd.func46 sf46 hb46 (Nat.le_of_ble_eq_true rfl) (okRes_nil fun _ => rfl) ?_; simp only [s46, idxs, Nat.reduceAdd]
  repeat' (first
    | (with_reducible refine DW.seq ?_)
    | (with_reducible refine DW.block ?_)
    | (with_reducible refine DW.skip ?_)
    | (with_reducible refine DW.exit ?_)
    | (with_reducible refine DW.ret ?_)
    | (with_reducible refine DW.reg ?_)
    | (simp (disch := omega) only [go_sem, Nat.reduceLT, Nat.reduceLeDiff, Nat.reduceAdd, Nat.reduceMul, Nat.reduceEqDiff, ↓reduceIte, reduceCtorEq, Nat.reduceBEq, Nat.reduceBNe, Nat.reducePow, Int.reduceLE, Int.reduceLT, Int.reduceNeg, Int.reduceToNat, Int.reduceEq, Int.reduceAdd, Int.reduceSub, Int.reduceMul, Int.reduceBEq, Int.reduceBNe, bm_box, bm_row, bk_box, bk_row])
    | (exact retS_of rfl rfl rfl)
    | (refine DW.cond_tt rfl ?_)
    | (refine DW.cond_ff rfl ?_)
    | (refine DW.cond rfl ?_ ?_ <;> intro hc <;> (try simp only [go_sem] at hc))
    | (refine g_split ?_ ?_ <;> intro hc <;> (try simp only [hc]) <;> (try simp only [go_sem] at hc)))
  refine call_b h1 ⟨⟨trivial, rfl, rfl, rfl⟩, rfl, rfl, rfl⟩ (by decide) ?_
  simp only [St.addBs, St.putB, St.putO, St.put]
  repeat' (first
    | (with_reducible refine DW.seq ?_)
    | (with_reducible refine DW.block ?_)
    | (with_reducible refine DW.skip ?_)
    | (with_reducible refine DW.exit ?_)
    | (with_reducible refine DW.ret ?_)
    | (with_reducible refine DW.reg ?_)
    | (simp (disch := omega) only [go_sem, Nat.reduceLT, Nat.reduceLeDiff, Nat.reduceAdd, Nat.reduceMul, Nat.reduceEqDiff, ↓reduceIte, reduceCtorEq, Nat.reduceBEq, Nat.reduceBNe, Nat.reducePow, Int.reduceLE, Int.reduceLT, Int.reduceNeg, Int.reduceToNat, Int.reduceEq, Int.reduceAdd, Int.reduceSub, Int.reduceMul, Int.reduceBEq, Int.reduceBNe, bm_box, bm_row, bk_box, bk_row, hsh])
    | (exact retS_of rfl rfl rfl)
    | (refine DW.cond_tt rfl ?_)
    | (refine DW.cond_ff rfl ?_)
    | (refine DW.cond rfl ?_ ?_ <;> intro hc <;> (try simp only [go_sem] at hc))
    | (refine g_split ?_ ?_ <;> intro hc <;> (try simp only [hc]) <;> (try simp only [go_sem] at hc)))
  refine DW.pin 28 rfl rfl fun lm => ?_
  simp (disch := omega) only [go_sem, Nat.reduceLT, Nat.reduceLeDiff, Nat.reduceAdd, Nat.reduceMul, Nat.reduceEqDiff, ↓reduceIte, reduceCtorEq, Nat.reduceBEq, Nat.reduceBNe, Nat.reducePow, Int.reduceLE, Int.reduceLT, Int.reduceNeg, Int.reduceToNat, Int.reduceEq, Int.reduceAdd, Int.reduceSub, Int.reduceMul, Int.reduceBEq, Int.reduceBNe, bm_box, bm_row, bk_box, bk_row, pinT, pinX, pinD, pinDs, pinB, pinO]
  refine DW.ent (Ent.rel 30 rfl) ?_
  simp (disch := omega) only [go_sem, Nat.reduceLT, Nat.reduceLeDiff, Nat.reduceAdd, Nat.reduceMul, Nat.reduceEqDiff, ↓reduceIte, reduceCtorEq, Nat.reduceBEq, Nat.reduceBNe, Nat.reducePow, Int.reduceLE, Int.reduceLT, Int.reduceNeg, Int.reduceToNat, Int.reduceEq, Int.reduceAdd, Int.reduceSub, Int.reduceMul, Int.reduceBEq, Int.reduceBNe, bm_box, bm_row, bk_box, bk_row]
  refine DW.loop (ι := { i : Nat × Memo // i.1 ≤ 2 ^ l.length ∧ MemoOk l k i.2 }) (fun i => ⟨55, [(24, dU i.1.1), (23, dU (2 ^ l.length)), (8, pilD l k lm), (6, dIs false ((List.range i.1.1).foldl (bestS l k) []))], [memB lm i.1.2]⟩) (fun i => 2 ^ l.length - i.1.1) ⟨(0, []), Nat.zero_le _, fun _ _ h => by cases h⟩ ?_ ?_
  · refine Ent.to ?_ ?_ <;> simp (disch := omega) only [wkT_cons, wkX_cons, wkT_nil, wkX_nil, get, Nat.reduceEqDiff, ↓reduceIte, ex_some, wk_self, wk_top, wk_nil, wkB_self, and_self, dI, i64_in, and_true, true_and, Int.natCast_add, Int.natCast_one, Int.ofNat_zero, Int.natCast_zero]
    · exact ⟨.refl _, .nil _ _⟩
    · exact .refl _
  rintro ⟨⟨i, m⟩, hi, hm⟩
  dsimp only at hi hm ⊢
  have hbl := most_len l k (List.range i) [] (by simp)
  rcases Nat.lt_or_ge i (2 ^ l.length) with hlt | hge
  · have hd : decide ((i : Int) < ((2 ^ l.length : Nat) : Int)) = true := by rw [decide_eq_true_eq]; omega
    have hw : IntKind.u64.wrap ((i : Int) + 1) = (i : Int) + 1 := IntWalk.u64_in _ (by omega)
    have hcol := crCollect i (by omega)
    have hL := bits_len i
    have hLn := nL_length (bitsL i)
    have hc3 := crCmpL false false (nL (bitsL i)) ((List.range i).foldl (bestS l k) []) (by omega) (by omega)
    obtain ⟨m', hm', hst⟩ := crStandsI l h k hk lm i (by omega) (inB_of hl hlt) m hm
    generalize hbest : (List.range i).foldl (bestS l k) [] = best at *
    have hs : (List.range (i + 1)).foldl (bestS l k) [] = bestS l k best i := by rw [List.range_succ, List.foldl_append, hbest]; rfl
    have hbS : bestS l k best i = if stI l k i then (if decide ((best.length : Int) < (nL (bitsL i)).length) || (((nL (bitsL i)).length : Int) == best.length && decide (cmpL (nL (bitsL i)) best < 0)) then nL (bitsL i) else best) else best := rfl
    rw [hbS] at hs
    generalize nL (bitsL i) = L at *
    cases hstv : stI l k i with
    | false =>
      rw [hstv] at hst
      rw [hstv, if_neg (by decide)] at hs
      repeat' (first
    | (with_reducible refine DW.seq ?_)
    | (with_reducible refine DW.block ?_)
    | (with_reducible refine DW.skip ?_)
    | (with_reducible refine DW.exit ?_)
    | (with_reducible refine DW.ret ?_)
    | (with_reducible refine DW.reg ?_)
    | (simp (disch := omega) only [go_sem, Nat.reduceLT, Nat.reduceLeDiff, Nat.reduceAdd, Nat.reduceMul, Nat.reduceEqDiff, ↓reduceIte, reduceCtorEq, Nat.reduceBEq, Nat.reduceBNe, Nat.reducePow, Int.reduceLE, Int.reduceLT, Int.reduceNeg, Int.reduceToNat, Int.reduceEq, Int.reduceAdd, Int.reduceSub, Int.reduceMul, Int.reduceBEq, Int.reduceBNe, bm_box, bm_row, bk_box, bk_row, hd])
    | (exact retS_of rfl rfl rfl)
    | (refine DW.cond_tt rfl ?_)
    | (refine DW.cond_ff rfl ?_)
    | (refine DW.cond rfl ?_ ?_ <;> intro hc <;> (try simp only [go_sem] at hc))
    | (refine g_split ?_ ?_ <;> intro hc <;> (try simp only [hc]) <;> (try simp only [go_sem] at hc)))
      refine call_h (h := [memB lm m]) (h' := [memB lm m']) (own := []) hst (Ent.refl _) rfl rfl rfl rfl (by decide) ?_
      simp (disch := omega) only [go_sem, Nat.reduceLT, Nat.reduceLeDiff, Nat.reduceAdd, Nat.reduceMul, Nat.reduceEqDiff, ↓reduceIte, reduceCtorEq, Nat.reduceBEq, Nat.reduceBNe, Nat.reducePow, Int.reduceLE, Int.reduceLT, Int.reduceNeg, Int.reduceToNat, Int.reduceEq, Int.reduceAdd, Int.reduceSub, Int.reduceMul, Int.reduceBEq, Int.reduceBNe, bm_box, bm_row, bk_box, bk_row]
      repeat' (first
    | (with_reducible refine DW.seq ?_)
    | (with_reducible refine DW.block ?_)
    | (with_reducible refine DW.skip ?_)
    | (with_reducible refine DW.exit ?_)
    | (with_reducible refine DW.ret ?_)
    | (with_reducible refine DW.reg ?_)
    | (simp (disch := omega) only [go_sem, Nat.reduceLT, Nat.reduceLeDiff, Nat.reduceAdd, Nat.reduceMul, Nat.reduceEqDiff, ↓reduceIte, reduceCtorEq, Nat.reduceBEq, Nat.reduceBNe, Nat.reducePow, Int.reduceLE, Int.reduceLT, Int.reduceNeg, Int.reduceToNat, Int.reduceEq, Int.reduceAdd, Int.reduceSub, Int.reduceMul, Int.reduceBEq, Int.reduceBNe, bm_box, bm_row, bk_box, bk_row, hw])
    | (exact retS_of rfl rfl rfl)
    | (refine DW.cond_tt rfl ?_)
    | (refine DW.cond_ff rfl ?_)
    | (refine DW.cond rfl ?_ ?_ <;> intro hc <;> (try simp only [go_sem] at hc))
    | (refine g_split ?_ ?_ <;> intro hc <;> (try simp only [hc]) <;> (try simp only [go_sem] at hc)))
      refine ⟨⟨(i + 1, m'), hlt, hm'⟩, ?_, Ent.to ?_ ?_⟩ <;> first | (show _ < _; (try simp only); omega) | (simp (disch := omega) only [wkT_cons, wkX_cons, wkT_nil, wkX_nil, get, Nat.reduceEqDiff, ↓reduceIte, ex_some, wk_self, wk_top, wk_nil, wkB_self, and_self, dI, i64_in, and_true, true_and, Int.natCast_add, Int.natCast_one, Int.ofNat_zero, Int.natCast_zero,  hs])
    | true =>
      rw [hstv] at hst
      rw [hstv, if_pos rfl] at hs
      repeat' (first
    | (with_reducible refine DW.seq ?_)
    | (with_reducible refine DW.block ?_)
    | (with_reducible refine DW.skip ?_)
    | (with_reducible refine DW.exit ?_)
    | (with_reducible refine DW.ret ?_)
    | (with_reducible refine DW.reg ?_)
    | (simp (disch := omega) only [go_sem, Nat.reduceLT, Nat.reduceLeDiff, Nat.reduceAdd, Nat.reduceMul, Nat.reduceEqDiff, ↓reduceIte, reduceCtorEq, Nat.reduceBEq, Nat.reduceBNe, Nat.reducePow, Int.reduceLE, Int.reduceLT, Int.reduceNeg, Int.reduceToNat, Int.reduceEq, Int.reduceAdd, Int.reduceSub, Int.reduceMul, Int.reduceBEq, Int.reduceBNe, bm_box, bm_row, bk_box, bk_row, hd])
    | (exact retS_of rfl rfl rfl)
    | (refine DW.cond_tt rfl ?_)
    | (refine DW.cond_ff rfl ?_)
    | (refine DW.cond rfl ?_ ?_ <;> intro hc <;> (try simp only [go_sem] at hc))
    | (refine g_split ?_ ?_ <;> intro hc <;> (try simp only [hc]) <;> (try simp only [go_sem] at hc)))
      refine call_h (h := [memB lm m]) (h' := [memB lm m']) (own := []) hst (Ent.refl _) rfl rfl rfl rfl (by decide) ?_
      simp (disch := omega) only [go_sem, Nat.reduceLT, Nat.reduceLeDiff, Nat.reduceAdd, Nat.reduceMul, Nat.reduceEqDiff, ↓reduceIte, reduceCtorEq, Nat.reduceBEq, Nat.reduceBNe, Nat.reducePow, Int.reduceLE, Int.reduceLT, Int.reduceNeg, Int.reduceToNat, Int.reduceEq, Int.reduceAdd, Int.reduceSub, Int.reduceMul, Int.reduceBEq, Int.reduceBNe, bm_box, bm_row, bk_box, bk_row]
      cases c1 : decide ((best.length : Int) < L.length) with
      | true =>
        rw [c1, Bool.true_or, if_pos rfl] at hs
        repeat' (first
    | (with_reducible refine DW.seq ?_)
    | (with_reducible refine DW.block ?_)
    | (with_reducible refine DW.skip ?_)
    | (with_reducible refine DW.exit ?_)
    | (with_reducible refine DW.ret ?_)
    | (with_reducible refine DW.reg ?_)
    | (simp (disch := omega) only [go_sem, Nat.reduceLT, Nat.reduceLeDiff, Nat.reduceAdd, Nat.reduceMul, Nat.reduceEqDiff, ↓reduceIte, reduceCtorEq, Nat.reduceBEq, Nat.reduceBNe, Nat.reducePow, Int.reduceLE, Int.reduceLT, Int.reduceNeg, Int.reduceToNat, Int.reduceEq, Int.reduceAdd, Int.reduceSub, Int.reduceMul, Int.reduceBEq, Int.reduceBNe, bm_box, bm_row, bk_box, bk_row, hw, c1])
    | (exact retS_of rfl rfl rfl)
    | (refine DW.cond_tt rfl ?_)
    | (refine call_c (hcol) (by decide) ?_)
    | (refine DW.cond_ff rfl ?_)
    | (refine DW.cond rfl ?_ ?_ <;> intro hc <;> (try simp only [go_sem] at hc))
    | (refine g_split ?_ ?_ <;> intro hc <;> (try simp only [hc]) <;> (try simp only [go_sem] at hc)))
        refine ⟨⟨(i + 1, m'), hlt, hm'⟩, ?_, Ent.to ?_ ?_⟩ <;> first | (show _ < _; (try simp only); omega) | (simp (disch := omega) only [wkT_cons, wkX_cons, wkT_nil, wkX_nil, get, Nat.reduceEqDiff, ↓reduceIte, ex_some, wk_self, wk_top, wk_nil, wkB_self, and_self, dI, i64_in, and_true, true_and, Int.natCast_add, Int.natCast_one, Int.ofNat_zero, Int.natCast_zero,  hs])
      | false =>
        cases c2 : ((L.length : Int) == best.length) with
        | false =>
          rw [c1, c2, Bool.false_or, Bool.false_and, if_neg (by decide)] at hs
          repeat' (first
    | (with_reducible refine DW.seq ?_)
    | (with_reducible refine DW.block ?_)
    | (with_reducible refine DW.skip ?_)
    | (with_reducible refine DW.exit ?_)
    | (with_reducible refine DW.ret ?_)
    | (with_reducible refine DW.reg ?_)
    | (simp (disch := omega) only [go_sem, Nat.reduceLT, Nat.reduceLeDiff, Nat.reduceAdd, Nat.reduceMul, Nat.reduceEqDiff, ↓reduceIte, reduceCtorEq, Nat.reduceBEq, Nat.reduceBNe, Nat.reducePow, Int.reduceLE, Int.reduceLT, Int.reduceNeg, Int.reduceToNat, Int.reduceEq, Int.reduceAdd, Int.reduceSub, Int.reduceMul, Int.reduceBEq, Int.reduceBNe, bm_box, bm_row, bk_box, bk_row, hw, c1, c2])
    | (exact retS_of rfl rfl rfl)
    | (refine DW.cond_tt rfl ?_)
    | (refine call_c (hcol) (by decide) ?_)
    | (refine DW.cond_ff rfl ?_)
    | (refine DW.cond rfl ?_ ?_ <;> intro hc <;> (try simp only [go_sem] at hc))
    | (refine g_split ?_ ?_ <;> intro hc <;> (try simp only [hc]) <;> (try simp only [go_sem] at hc)))
          refine ⟨⟨(i + 1, m'), hlt, hm'⟩, ?_, Ent.to ?_ ?_⟩ <;> first | (show _ < _; (try simp only); omega) | (simp (disch := omega) only [wkT_cons, wkX_cons, wkT_nil, wkX_nil, get, Nat.reduceEqDiff, ↓reduceIte, ex_some, wk_self, wk_top, wk_nil, wkB_self, and_self, dI, i64_in, and_true, true_and, Int.natCast_add, Int.natCast_one, Int.ofNat_zero, Int.natCast_zero,  hs])
        | true =>
          cases c4 : decide (cmpL L best < 0) with
          | true =>
            rw [c1, c2, c4, Bool.false_or, Bool.true_and, if_pos rfl] at hs
            repeat' (first
    | (with_reducible refine DW.seq ?_)
    | (with_reducible refine DW.block ?_)
    | (with_reducible refine DW.skip ?_)
    | (with_reducible refine DW.exit ?_)
    | (with_reducible refine DW.ret ?_)
    | (with_reducible refine DW.reg ?_)
    | (simp (disch := omega) only [go_sem, Nat.reduceLT, Nat.reduceLeDiff, Nat.reduceAdd, Nat.reduceMul, Nat.reduceEqDiff, ↓reduceIte, reduceCtorEq, Nat.reduceBEq, Nat.reduceBNe, Nat.reducePow, Int.reduceLE, Int.reduceLT, Int.reduceNeg, Int.reduceToNat, Int.reduceEq, Int.reduceAdd, Int.reduceSub, Int.reduceMul, Int.reduceBEq, Int.reduceBNe, bm_box, bm_row, bk_box, bk_row, hw, c1, c2, c4])
    | (exact retS_of rfl rfl rfl)
    | (refine DW.cond_tt rfl ?_)
    | (refine call_c (hcol) (by decide) ?_)
    | (refine call_c (hc3) (by decide) ?_)
    | (refine DW.cond_ff rfl ?_)
    | (refine DW.cond rfl ?_ ?_ <;> intro hc <;> (try simp only [go_sem] at hc))
    | (refine g_split ?_ ?_ <;> intro hc <;> (try simp only [hc]) <;> (try simp only [go_sem] at hc)))
            refine ⟨⟨(i + 1, m'), hlt, hm'⟩, ?_, Ent.to ?_ ?_⟩ <;> first | (show _ < _; (try simp only); omega) | (simp (disch := omega) only [wkT_cons, wkX_cons, wkT_nil, wkX_nil, get, Nat.reduceEqDiff, ↓reduceIte, ex_some, wk_self, wk_top, wk_nil, wkB_self, and_self, dI, i64_in, and_true, true_and, Int.natCast_add, Int.natCast_one, Int.ofNat_zero, Int.natCast_zero,  hs])
          | false =>
            rw [c1, c2, c4, Bool.false_or, Bool.true_and, if_neg (by decide)] at hs
            repeat' (first
    | (with_reducible refine DW.seq ?_)
    | (with_reducible refine DW.block ?_)
    | (with_reducible refine DW.skip ?_)
    | (with_reducible refine DW.exit ?_)
    | (with_reducible refine DW.ret ?_)
    | (with_reducible refine DW.reg ?_)
    | (simp (disch := omega) only [go_sem, Nat.reduceLT, Nat.reduceLeDiff, Nat.reduceAdd, Nat.reduceMul, Nat.reduceEqDiff, ↓reduceIte, reduceCtorEq, Nat.reduceBEq, Nat.reduceBNe, Nat.reducePow, Int.reduceLE, Int.reduceLT, Int.reduceNeg, Int.reduceToNat, Int.reduceEq, Int.reduceAdd, Int.reduceSub, Int.reduceMul, Int.reduceBEq, Int.reduceBNe, bm_box, bm_row, bk_box, bk_row, hw, c1, c2, c4])
    | (exact retS_of rfl rfl rfl)
    | (refine DW.cond_tt rfl ?_)
    | (refine call_c (hcol) (by decide) ?_)
    | (refine call_c (hc3) (by decide) ?_)
    | (refine DW.cond_ff rfl ?_)
    | (refine DW.cond rfl ?_ ?_ <;> intro hc <;> (try simp only [go_sem] at hc))
    | (refine g_split ?_ ?_ <;> intro hc <;> (try simp only [hc]) <;> (try simp only [go_sem] at hc)))
            refine ⟨⟨(i + 1, m'), hlt, hm'⟩, ?_, Ent.to ?_ ?_⟩ <;> first | (show _ < _; (try simp only); omega) | (simp (disch := omega) only [wkT_cons, wkX_cons, wkT_nil, wkX_nil, get, Nat.reduceEqDiff, ↓reduceIte, ex_some, wk_self, wk_top, wk_nil, wkB_self, and_self, dI, i64_in, and_true, true_and, Int.natCast_add, Int.natCast_one, Int.ofNat_zero, Int.natCast_zero,  hs])
  · obtain rfl : i = 2 ^ l.length := by omega
    have hd : decide (((2 ^ l.length : Nat) : Int) < ((2 ^ l.length : Nat) : Int)) = false := by rw [decide_eq_false_iff_not]; omega
    have ee : (List.range (2 ^ l.length)).foldl (bestS l k) [] = mostI l k := rfl
    rw [ee]
    generalize mostI l k = best at *
    repeat' (first
    | (with_reducible refine DW.seq ?_)
    | (with_reducible refine DW.block ?_)
    | (with_reducible refine DW.skip ?_)
    | (with_reducible refine DW.exit ?_)
    | (with_reducible refine DW.ret ?_)
    | (with_reducible refine DW.reg ?_)
    | (simp (disch := omega) only [go_sem, Nat.reduceLT, Nat.reduceLeDiff, Nat.reduceAdd, Nat.reduceMul, Nat.reduceEqDiff, ↓reduceIte, reduceCtorEq, Nat.reduceBEq, Nat.reduceBNe, Nat.reducePow, Int.reduceLE, Int.reduceLT, Int.reduceNeg, Int.reduceToNat, Int.reduceEq, Int.reduceAdd, Int.reduceSub, Int.reduceMul, Int.reduceBEq, Int.reduceBNe, bm_box, bm_row, bk_box, bk_row, hd])
    | (exact retS_of rfl rfl rfl)
    | (refine DW.cond_tt rfl ?_)
    | (refine DW.cond_ff rfl ?_)
    | (refine DW.cond rfl ?_ ?_ <;> intro hc <;> (try simp only [go_sem] at hc))
    | (refine g_split ?_ ?_ <;> intro hc <;> (try simp only [hc]) <;> (try simp only [go_sem] at hc)))
    refine retS_wk rfl ?_ (by simp only [Blk.nb, rowC_nb, D.nb, D.nbs, C.nb, C.nbs, C.nbss, rows_nb eI_nb, Bool.and_true, Bool.not_false, Bool.and_self, bD, dI, iD, rows_nb eK_nb, rows_nb eLd_nb]); exact .refl _
end Go.Dw.Seat
end
section
set_option linter.unusedSimpArgs false
set_option maxRecDepth 100000
namespace Go.Dw.Seat
open Go Go.Dw Go.Proofs Go.IntWalk
def ordI (l : List Lod) (k : Int) : Nat → Nat → List Int
  | 0, _ => []
  | f + 1, s => if s = 0 then [] else match (bitsL s).find? (fun e => unI l k s e) with
    | some e => (e : Int) :: ordI l k f (remB s e)
    | none => []
structure OrS where
  acc : List Int
  left : Nat
  m : Memo
def ordS (l : List Lod) (k : Int) (s : Nat) (y : OrS) (e : Nat) : Option Exit × OrS :=
  if (unF l k (stF l k s) s e y.m).1 then (some (.exit 2), ⟨y.acc ++ [(e : Int)], remB s e, (unF l k (stF l k s) s e y.m).2⟩) else (none, ⟨y.acc, y.left, (unF l k (stF l k s) s e y.m).2⟩)
theorem un_ok' {l : List Lod} {k : Int} {s : Nat} (hs : s < 1024) {e : Nat} (he : e ∈ bitsL s) {m : Memo} (hm : MemoOk l k m) : (unF l k (stF l k s) s e m).1 = unI l k s e ∧ MemoOk l k (unF l k (stF l k s) s e m).2 :=
  un_ok hs (rec := stF l k s) (fun t m ht hm => stF_ok l k s t m (by omega) (by omega) hm) he hm
theorem ord_run {l : List Lod} {k : Int} {s : Nat} (hs : s < 1024) {e : Nat} (acc : List Int) : ∀ (L : List Nat) (m : Memo), (∀ x ∈ L, x ∈ bitsL s) → MemoOk l k m → L.find? (fun e => unI l k s e) = some e → ∃ m', MemoOk l k m' ∧ runIt (ordS l k s) ⟨acc, s, m⟩ L = (some (.exit 2), ⟨acc ++ [(e : Int)], remB s e, m'⟩)
  | x :: L, m, hL, hm, hf => by
    obtain ⟨h1, h2⟩ := un_ok' hs (hL x (by simp)) hm
    rw [List.find?_cons] at hf
    simp only [runIt, ordS]
    rw [h1]
    cases hu : unI l k s x with
    | true =>
      rw [hu] at hf
      cases hf
      exact ⟨_, h2, rfl⟩
    | false =>
      rw [hu] at hf
      simp only [Bool.false_eq_true, if_false]
      exact ord_run hs acc L _ (fun y hy => hL y (by simp [hy])) h2 hf
theorem remB_len0 : ∀ s : Fin 1024, ∀ b : Fin 10, b.1 ∈ bitsL s.1 → (bitsL (remB s.1 b.1)).length + 1 = (bitsL s.1).length := by decide +kernel
theorem remB_len {s b : Nat} (hs : s < 1024) (hb : b ∈ bitsL s) : (bitsL (remB s b)).length + 1 = (bitsL s).length := remB_len0 ⟨s, hs⟩ ⟨b, bits_lt hb⟩ hb
theorem stI_find {l : List Lod} {k : Int} {s : Nat} (hs : s < 1024) (h0 : s ≠ 0) (h : stI l k s = true) : ∃ e, (bitsL s).find? (fun e => unI l k s e) = some e ∧ e ∈ bitsL s ∧ stI l k (remB s e) = true := by
  rw [stI_eq l k hs, decide_eq_false h0, Bool.false_or, List.any_eq_true] at h
  obtain ⟨x, hx, hu⟩ := h
  cases hf : (bitsL s).find? (fun e => unI l k s e) with
  | none =>
    have := List.find?_eq_none.1 hf x hx
    exact absurd hu (by simpa [unI] using this)
  | some e =>
    have h1 := List.find?_some hf
    have h2 := List.mem_of_find?_eq_some hf
    simp only [unI, Bool.and_eq_true] at h1
    exact ⟨e, rfl, h2, h1.2⟩
theorem ordI_fuel (l : List Lod) (k : Int) : ∀ {s : Nat}, s < 1024 → ∀ (f g : Nat), s ≤ f → s ≤ g → ordI l k f s = ordI l k g s
  | s, hs, 0, g, h1, _ => by
    obtain rfl : s = 0 := by omega
    cases g <;> simp [ordI]
  | s, hs, f + 1, 0, _, h1 => by
    obtain rfl : s = 0 := by omega
    simp [ordI]
  | s, hs, f + 1, g + 1, h1, h2 => by
    simp only [ordI]
    split
    · rfl
    · cases hf : (bitsL s).find? (fun e => unI l k s e) with
      | none => rfl
      | some e =>
        have he := List.mem_of_find?_eq_some hf
        have hlt := remB_mem hs he
        simp only
        rw [ordI_fuel l k (s := remB s e) (by omega) f g (by omega) (by omega)]
set_option maxHeartbeats 4000000 in
theorem crOrder (l : List Lod) (h : ∀ b ∈ l, b.ok) (hl : l.length ≤ 10) (t : List (Int × Int)) (days : Int) (ht : TabOk t days) (hst : stI l (lastI days t 0) (2 ^ l.length - 1) = true) :
    DCall Tryd.prog 45 [.c (.sl false 4 (rows eLd l)), .c (.sl false 2 (rows eK t)), dI days] [] (.tup [dIs false (ordI l (lastI days t 0) (2 ^ l.length - 1) (2 ^ l.length - 1)), dI 0]) [] := by
  have h1 := crPiler l h hl t days ht
  have hk := lastI_b days t 0 (fun s hs => (ht.mem s hs).2) (by decide)
  have hsh := shl_u hl
  have hpw := pow_le10 hl
  have hp1 := Nat.one_le_two_pow (n := l.length)
  generalize lastI days t 0 = k at *
  generalize hR : ordI l k (2 ^ l.length - 1) (2 ^ l.length - 1) = R
  have hw : IntKind.u64.wrap (((2 ^ l.length : Nat) : Int) - 1) = ((2 ^ l.length - 1 : Nat) : Int) := by rw [IntWalk.u64_in _ (by omega)]; omega
  refine DCall.of Tryd.func45 sf45 hb45 (Nat.le_of_ble_eq_true rfl) (okRes_nil fun _ => rfl) ?_; simp only [s45, idxs, Nat.reduceAdd]
  repeat' (first
    | (with_reducible refine DW.seq ?_)
    | (with_reducible refine DW.block ?_)
    | (with_reducible refine DW.skip ?_)
    | (with_reducible refine DW.exit ?_)
    | (with_reducible refine DW.ret ?_)
    | (with_reducible refine DW.reg ?_)
    | (refine DW.ord rfl (WF.of (by first | rfl | simp (disch := omega) only [go_sem, Nat.reduceLT, Nat.reduceLeDiff, Nat.reduceAdd, Nat.reduceMul, Nat.reduceEqDiff, ↓reduceIte, reduceCtorEq, Nat.reduceBEq, Nat.reduceBNe, Nat.reducePow, Int.reduceLE, Int.reduceLT, Int.reduceNeg, Int.reduceToNat, Int.reduceEq, Int.reduceAdd, Int.reduceSub, Int.reduceMul, Int.reduceBEq, Int.reduceBNe, bm_box, bm_row, bk_box, bk_row, hsh, hw])) ?_ ?_ ?_; rotate_left)
    | rfl
    | (with_reducible refine And.intro ?_ ?_)
    | (simp (disch := omega) only [go_sem, Nat.reduceLT, Nat.reduceLeDiff, Nat.reduceAdd, Nat.reduceMul, Nat.reduceEqDiff, ↓reduceIte, reduceCtorEq, Nat.reduceBEq, Nat.reduceBNe, Nat.reducePow, Int.reduceLE, Int.reduceLT, Int.reduceNeg, Int.reduceToNat, Int.reduceEq, Int.reduceAdd, Int.reduceSub, Int.reduceMul, Int.reduceBEq, Int.reduceBNe, bm_box, bm_row, bk_box, bk_row, hsh, hw])
    | (exact retS_of rfl rfl rfl)
    | (refine DW.cond_tt rfl ?_)
    | (refine DW.cond_ff rfl ?_)
    | (refine DW.cond rfl ?_ ?_ <;> intro hc <;> (try simp only [go_sem] at hc))
    | (refine g_split ?_ ?_ <;> intro hc <;> (try simp only [hc]) <;> (try simp only [go_sem] at hc)))
  refine call_b h1 ⟨⟨trivial, rfl, rfl, rfl⟩, rfl, rfl, rfl⟩ (by decide) ?_
  simp only [St.addBs, St.putB, St.putO, St.put]
  simp (disch := omega) only [go_sem, Nat.reduceLT, Nat.reduceLeDiff, Nat.reduceAdd, Nat.reduceMul, Nat.reduceEqDiff, ↓reduceIte, reduceCtorEq, Nat.reduceBEq, Nat.reduceBNe, Nat.reducePow, Int.reduceLE, Int.reduceLT, Int.reduceNeg, Int.reduceToNat, Int.reduceEq, Int.reduceAdd, Int.reduceSub, Int.reduceMul, Int.reduceBEq, Int.reduceBNe, bm_box, bm_row, bk_box, bk_row]
  refine DW.pin 28 rfl rfl fun lm => ?_
  simp (disch := omega) only [go_sem, Nat.reduceLT, Nat.reduceLeDiff, Nat.reduceAdd, Nat.reduceMul, Nat.reduceEqDiff, ↓reduceIte, reduceCtorEq, Nat.reduceBEq, Nat.reduceBNe, Nat.reducePow, Int.reduceLE, Int.reduceLT, Int.reduceNeg, Int.reduceToNat, Int.reduceEq, Int.reduceAdd, Int.reduceSub, Int.reduceMul, Int.reduceBEq, Int.reduceBNe, bm_box, bm_row, bk_box, bk_row, pinT, pinX, pinD, pinDs, pinB, pinO]
  refine DW.ent (Ent.rel 30 rfl) ?_
  simp (disch := omega) only [go_sem, Nat.reduceLT, Nat.reduceLeDiff, Nat.reduceAdd, Nat.reduceMul, Nat.reduceEqDiff, ↓reduceIte, reduceCtorEq, Nat.reduceBEq, Nat.reduceBNe, Nat.reducePow, Int.reduceLE, Int.reduceLT, Int.reduceNeg, Int.reduceToNat, Int.reduceEq, Int.reduceAdd, Int.reduceSub, Int.reduceMul, Int.reduceBEq, Int.reduceBNe, bm_box, bm_row, bk_box, bk_row]
  obtain ⟨m0, hm0, hst0⟩ := crStandsI l h k hk lm (2 ^ l.length - 1) (by omega) (inB_of hl (by omega)) [] (fun _ _ h => by cases h)
  rw [hst] at hst0
  have hnil : memB lm [] = (28, Blk.pmap lm [] []) := rfl
  repeat' (first
    | (with_reducible refine DW.seq ?_)
    | (with_reducible refine DW.block ?_)
    | (with_reducible refine DW.skip ?_)
    | (with_reducible refine DW.exit ?_)
    | (with_reducible refine DW.ret ?_)
    | (with_reducible refine DW.reg ?_)
    | (refine DW.ord rfl (WF.of (by first | rfl | simp (disch := omega) only [go_sem, Nat.reduceLT, Nat.reduceLeDiff, Nat.reduceAdd, Nat.reduceMul, Nat.reduceEqDiff, ↓reduceIte, reduceCtorEq, Nat.reduceBEq, Nat.reduceBNe, Nat.reducePow, Int.reduceLE, Int.reduceLT, Int.reduceNeg, Int.reduceToNat, Int.reduceEq, Int.reduceAdd, Int.reduceSub, Int.reduceMul, Int.reduceBEq, Int.reduceBNe, bm_box, bm_row, bk_box, bk_row, hsh, hw])) ?_ ?_ ?_; rotate_left)
    | rfl
    | (with_reducible refine And.intro ?_ ?_)
    | (simp (disch := omega) only [go_sem, Nat.reduceLT, Nat.reduceLeDiff, Nat.reduceAdd, Nat.reduceMul, Nat.reduceEqDiff, ↓reduceIte, reduceCtorEq, Nat.reduceBEq, Nat.reduceBNe, Nat.reducePow, Int.reduceLE, Int.reduceLT, Int.reduceNeg, Int.reduceToNat, Int.reduceEq, Int.reduceAdd, Int.reduceSub, Int.reduceMul, Int.reduceBEq, Int.reduceBNe, bm_box, bm_row, bk_box, bk_row, hsh, hw])
    | (exact retS_of rfl rfl rfl)
    | (refine DW.cond_tt rfl ?_)
    | (refine DW.cond_ff rfl ?_)
    | (refine DW.cond rfl ?_ ?_ <;> intro hc <;> (try simp only [go_sem] at hc))
    | (refine g_split ?_ ?_ <;> intro hc <;> (try simp only [hc]) <;> (try simp only [go_sem] at hc)))
  refine call_h (h := [memB lm []]) (h' := [memB lm m0]) hst0 (Ent.refl _) rfl rfl rfl rfl (by decide) ?_
  simp (disch := omega) only [go_sem, Nat.reduceLT, Nat.reduceLeDiff, Nat.reduceAdd, Nat.reduceMul, Nat.reduceEqDiff, ↓reduceIte, reduceCtorEq, Nat.reduceBEq, Nat.reduceBNe, Nat.reducePow, Int.reduceLE, Int.reduceLT, Int.reduceNeg, Int.reduceToNat, Int.reduceEq, Int.reduceAdd, Int.reduceSub, Int.reduceMul, Int.reduceBEq, Int.reduceBNe, bm_box, bm_row, bk_box, bk_row]
  repeat' (first
    | (with_reducible refine DW.seq ?_)
    | (with_reducible refine DW.block ?_)
    | (with_reducible refine DW.skip ?_)
    | (with_reducible refine DW.exit ?_)
    | (with_reducible refine DW.ret ?_)
    | (with_reducible refine DW.reg ?_)
    | (refine DW.ord rfl (WF.of (by first | rfl | simp (disch := omega) only [go_sem, Nat.reduceLT, Nat.reduceLeDiff, Nat.reduceAdd, Nat.reduceMul, Nat.reduceEqDiff, ↓reduceIte, reduceCtorEq, Nat.reduceBEq, Nat.reduceBNe, Nat.reducePow, Int.reduceLE, Int.reduceLT, Int.reduceNeg, Int.reduceToNat, Int.reduceEq, Int.reduceAdd, Int.reduceSub, Int.reduceMul, Int.reduceBEq, Int.reduceBNe, bm_box, bm_row, bk_box, bk_row])) ?_ ?_ ?_; rotate_left)
    | rfl
    | (with_reducible refine And.intro ?_ ?_)
    | (simp (disch := omega) only [go_sem, Nat.reduceLT, Nat.reduceLeDiff, Nat.reduceAdd, Nat.reduceMul, Nat.reduceEqDiff, ↓reduceIte, reduceCtorEq, Nat.reduceBEq, Nat.reduceBNe, Nat.reducePow, Int.reduceLE, Int.reduceLT, Int.reduceNeg, Int.reduceToNat, Int.reduceEq, Int.reduceAdd, Int.reduceSub, Int.reduceMul, Int.reduceBEq, Int.reduceBNe, bm_box, bm_row, bk_box, bk_row])
    | (exact retS_of rfl rfl rfl)
    | (refine DW.cond_tt rfl ?_)
    | (refine DW.cond_ff rfl ?_)
    | (refine DW.cond rfl ?_ ?_ <;> intro hc <;> (try simp only [go_sem] at hc))
    | (refine g_split ?_ ?_ <;> intro hc <;> (try simp only [hc]) <;> (try simp only [go_sem] at hc)))
  refine DW.ent (Ent.adoptB 6 0 41 1 rfl rfl rfl (by simp (disch := omega) only [go_sem, Nat.reduceLT, Nat.reduceLeDiff, Nat.reduceAdd, Nat.reduceMul, Nat.reduceEqDiff, ↓reduceIte, reduceCtorEq, Nat.reduceBEq, Nat.reduceBNe, Nat.reducePow, Int.reduceLE, Int.reduceLT, Int.reduceNeg, Int.reduceToNat, Int.reduceEq, Int.reduceAdd, Int.reduceSub, Int.reduceMul, Int.reduceBEq, Int.reduceBNe, bm_box, bm_row, bk_box, bk_row])) ?_
  simp (disch := omega) only [go_sem, Nat.reduceLT, Nat.reduceLeDiff, Nat.reduceAdd, Nat.reduceMul, Nat.reduceEqDiff, ↓reduceIte, reduceCtorEq, Nat.reduceBEq, Nat.reduceBNe, Nat.reducePow, Int.reduceLE, Int.reduceLT, Int.reduceNeg, Int.reduceToNat, Int.reduceEq, Int.reduceAdd, Int.reduceSub, Int.reduceMul, Int.reduceBEq, Int.reduceBNe, bm_box, bm_row, bk_box, bk_row]
  have hbl := bits_len (2 ^ l.length - 1)
  refine DW.loop (ι := { y : OrS // y.left < 2 ^ l.length ∧ MemoOk l k y.m ∧ stI l k y.left = true ∧ y.acc.length + (bitsL y.left).length ≤ 10 ∧ ∀ f, y.left ≤ f → y.acc ++ ordI l k f y.left = R })
    (fun y => ⟨47, [(9, .box 9 0), (8, .box 8 0), (6, .box 6 0)], [(41, .row 1 (rowC (rows eI y.1.acc))), memB lm y.1.m, (9, .box [dU y.1.left]), (8, .box [pilD l k lm]), (6, .box [.own 41])]⟩) (fun y => y.1.left) ⟨⟨[], 2 ^ l.length - 1, m0⟩, by dsimp only; omega, hm0, hst, by simpa using hbl, fun f hf => by rw [List.nil_append, ← hR]; exact ordI_fuel l k (show 2 ^ l.length - 1 < 1024 by omega) f _ hf (Nat.le_refl _)⟩ ?_ ?_
  · refine Ent.to ?_ ?_ <;> simp (disch := omega) only [wkT_cons, wkX_cons, wkT_nil, wkX_nil, get, Nat.reduceEqDiff, ↓reduceIte, ex_some, wk_self, wk_top, wk_nil, wkB_self, and_self, dI, i64_in, and_true, true_and, Int.natCast_add, Int.natCast_one, Int.ofNat_zero, Int.natCast_zero]
    exact ⟨.refl _, .refl _⟩
  rintro ⟨⟨acc, s, m⟩, i1, i2, i3, i4, i5⟩
  dsimp only at i1 i2 i3 i4 i5 ⊢
  by_cases h0 : s = 0
  · have hd : ((s : Int) != 0) = false := by rw [h0]; rfl
    have hacc : acc = R := by
      have := i5 s (Nat.le_refl _)
      subst h0
      simpa [ordI] using this
    subst hacc
    repeat' (first
    | (with_reducible refine DW.seq ?_)
    | (with_reducible refine DW.block ?_)
    | (with_reducible refine DW.skip ?_)
    | (with_reducible refine DW.exit ?_)
    | (with_reducible refine DW.ret ?_)
    | (with_reducible refine DW.reg ?_)
    | (refine DW.ord rfl (WF.of (by first | rfl | simp (disch := omega) only [go_sem, Nat.reduceLT, Nat.reduceLeDiff, Nat.reduceAdd, Nat.reduceMul, Nat.reduceEqDiff, ↓reduceIte, reduceCtorEq, Nat.reduceBEq, Nat.reduceBNe, Nat.reducePow, Int.reduceLE, Int.reduceLT, Int.reduceNeg, Int.reduceToNat, Int.reduceEq, Int.reduceAdd, Int.reduceSub, Int.reduceMul, Int.reduceBEq, Int.reduceBNe, bm_box, bm_row, bk_box, bk_row, hd])) ?_ ?_ ?_; rotate_left)
    | rfl
    | (with_reducible refine And.intro ?_ ?_)
    | (simp (disch := omega) only [go_sem, Nat.reduceLT, Nat.reduceLeDiff, Nat.reduceAdd, Nat.reduceMul, Nat.reduceEqDiff, ↓reduceIte, reduceCtorEq, Nat.reduceBEq, Nat.reduceBNe, Nat.reducePow, Int.reduceLE, Int.reduceLT, Int.reduceNeg, Int.reduceToNat, Int.reduceEq, Int.reduceAdd, Int.reduceSub, Int.reduceMul, Int.reduceBEq, Int.reduceBNe, bm_box, bm_row, bk_box, bk_row, hd])
    | (exact retS_of rfl rfl rfl)
    | (refine DW.cond_tt rfl ?_)
    | (refine DW.cond_ff rfl ?_)
    | (refine DW.cond rfl ?_ ?_ <;> intro hc <;> (try simp only [go_sem] at hc))
    | (refine g_split ?_ ?_ <;> intro hc <;> (try simp only [hc]) <;> (try simp only [go_sem] at hc)))
    (refine retS_ent (Ent.rel 41 rfl) ?_; simp (disch := omega) only [go_sem, Nat.reduceLT, Nat.reduceLeDiff, Nat.reduceAdd, Nat.reduceMul, Nat.reduceEqDiff, ↓reduceIte, reduceCtorEq, Nat.reduceBEq, Nat.reduceBNe, Nat.reducePow, Int.reduceLE, Int.reduceLT, Int.reduceNeg, Int.reduceToNat, Int.reduceEq, Int.reduceAdd, Int.reduceSub, Int.reduceMul, Int.reduceBEq, Int.reduceBNe, bm_box, bm_row, bk_box, bk_row])
    refine retS_wk rfl ?_ (by simp only [Blk.nb, rowC_nb, D.nb, D.nbs, C.nb, C.nbs, C.nbss, rows_nb eI_nb, Bool.and_true, Bool.not_false, Bool.and_self, bD, dI, iD, rows_nb eK_nb, rows_nb eLd_nb]); exact .refl _
  · have hd : ((s : Int) != 0) = true := by rw [bne_iff_ne]; omega
    have hs : s < 1024 := by omega
    have hit := crAll s hs
    have hbs := inB_of hl i1
    obtain ⟨e, hfd, he, hse⟩ := stI_find hs h0 i3
    obtain ⟨m1, hm1, hrun⟩ := ord_run hs acc (bitsL s) m (fun _ h => h) i2 hfd
    have hlt := remB_mem hs he
    have hlen := remB_len hs he
    repeat' (first
    | (with_reducible refine DW.seq ?_)
    | (with_reducible refine DW.block ?_)
    | (with_reducible refine DW.skip ?_)
    | (with_reducible refine DW.exit ?_)
    | (with_reducible refine DW.ret ?_)
    | (with_reducible refine DW.reg ?_)
    | (refine DW.ord rfl (WF.of (by first | rfl | simp (disch := omega) only [go_sem, Nat.reduceLT, Nat.reduceLeDiff, Nat.reduceAdd, Nat.reduceMul, Nat.reduceEqDiff, ↓reduceIte, reduceCtorEq, Nat.reduceBEq, Nat.reduceBNe, Nat.reducePow, Int.reduceLE, Int.reduceLT, Int.reduceNeg, Int.reduceToNat, Int.reduceEq, Int.reduceAdd, Int.reduceSub, Int.reduceMul, Int.reduceBEq, Int.reduceBNe, bm_box, bm_row, bk_box, bk_row, hd])) ?_ ?_ ?_; rotate_left)
    | rfl
    | (with_reducible refine And.intro ?_ ?_)
    | (simp (disch := omega) only [go_sem, Nat.reduceLT, Nat.reduceLeDiff, Nat.reduceAdd, Nat.reduceMul, Nat.reduceEqDiff, ↓reduceIte, reduceCtorEq, Nat.reduceBEq, Nat.reduceBNe, Nat.reducePow, Int.reduceLE, Int.reduceLT, Int.reduceNeg, Int.reduceToNat, Int.reduceEq, Int.reduceAdd, Int.reduceSub, Int.reduceMul, Int.reduceBEq, Int.reduceBNe, bm_box, bm_row, bk_box, bk_row, hd])
    | (exact retS_of rfl rfl rfl)
    | (refine DW.cond_tt rfl ?_)
    | (refine DW.cond_ff rfl ?_)
    | (refine DW.cond rfl ?_ ?_ <;> intro hc <;> (try simp only [go_sem] at hc))
    | (refine g_split ?_ ?_ <;> intro hc <;> (try simp only [hc]) <;> (try simp only [go_sem] at hc)))
    refine DW.rngBD (fs := [dU s]) (caps := []) (fun y : OrS => [(41, .row 1 (rowC (rows eI y.acc))), memB lm y.m, (9, .box [dU y.left]), (8, .box [pilD l k lm]), (6, .box [.own 41])]) ⟨acc, s, m⟩ (ordS l k s) enB (fun e => e ∈ bitsL s) (bitsL s) hit (fun y => y.left = s ∧ MemoOk l k y.m ∧ y.acc.length ≤ 10) ⟨rfl, i2, by dsimp only; omega⟩ ?_ rfl (fun _ => ⟨rfl, rfl⟩) rfl (by decide) (fun _ _ => rfl) (fun _ _ _ => rfl) (by simp only [List.map_cons, List.map_nil]; decide) (fun _ => rfl) (fun y => wf_row rfl (by show (D.keysIns _ (mD y.m) && _) = true; rw [mD_keys]; rfl)) (fun y => nb_row eI_nb _ (by show (D.nbs (mD y.m) && _) = true; rw [mD_nb, Bool.true_and]; exact (by simp only [List.all_cons, List.all_nil, Blk.nb, rowC_nb, D.nb, D.nbs, C.nb, C.nbs, C.nbss, rows_nb eI_nb, Bool.and_true, Bool.not_false, Bool.and_self, bD, dI, iD, rows_nb eK_nb, rows_nb eLd_nb]))) (by simp only [List.all_cons, List.all_nil, Blk.nb, rowC_nb, D.nb, D.nbs, C.nb, C.nbs, C.nbss, rows_nb eI_nb, Bool.and_true, Bool.not_false, Bool.and_self, bD, dI, iD, rows_nb eK_nb, rows_nb eLd_nb]) ?_ ?_ ?_
    · rintro y x ⟨a1, a2, a3⟩ hx hn
      obtain ⟨u1, u2⟩ := un_ok' hs hx a2
      simp only [ordS] at hn ⊢
      split
      · rename_i hc; rw [if_pos hc] at hn; cases hn
      · exact ⟨a1, u2, a3⟩
    · intro y x
      unfold ordS
      split <;> rfl
    · rintro ⟨acc', s', m'⟩ ⟨a1, a2, a3⟩ x hx v
      dsimp only at a1 a2 a3
      subst a1
      have hx10 := bits_lt hx
      have hand := andNot_u hs hx10
      have hun := crUnder l h k hk lm s' (crStands l h k hk lm s') s' x m' (by omega) hs hbs hx
      have hS : ordS l k s' ⟨acc', s', m'⟩ x = if (unF l k (stF l k s') s' x m').1 then (some (.exit 2), ⟨acc' ++ [(x : Int)], remB s' x, (unF l k (stF l k s') s' x m').2⟩) else (none, ⟨acc', s', (unF l k (stF l k s') s' x m').2⟩) := rfl
      rw [hS]
      generalize unF l k (stF l k s') s' x m' = U at *
      obtain ⟨u, m2⟩ := U
      dsimp only at hun ⊢
      simp (disch := omega) only [go_sem, Nat.reduceLT, Nat.reduceLeDiff, Nat.reduceAdd, Nat.reduceMul, Nat.reduceEqDiff, ↓reduceIte, reduceCtorEq, Nat.reduceBEq, Nat.reduceBNe, Nat.reducePow, Int.reduceLE, Int.reduceLT, Int.reduceNeg, Int.reduceToNat, Int.reduceEq, Int.reduceAdd, Int.reduceSub, Int.reduceMul, Int.reduceBEq, Int.reduceBNe, bm_box, bm_row, bk_box, bk_row, List.map_cons, List.map_nil]
      repeat' (first
    | (with_reducible refine DW.seq ?_)
    | (with_reducible refine DW.block ?_)
    | (with_reducible refine DW.skip ?_)
    | (with_reducible refine DW.exit ?_)
    | (with_reducible refine DW.ret ?_)
    | (with_reducible refine DW.reg ?_)
    | (refine DW.ord rfl (WF.of (by first | rfl | simp (disch := omega) only [go_sem, Nat.reduceLT, Nat.reduceLeDiff, Nat.reduceAdd, Nat.reduceMul, Nat.reduceEqDiff, ↓reduceIte, reduceCtorEq, Nat.reduceBEq, Nat.reduceBNe, Nat.reducePow, Int.reduceLE, Int.reduceLT, Int.reduceNeg, Int.reduceToNat, Int.reduceEq, Int.reduceAdd, Int.reduceSub, Int.reduceMul, Int.reduceBEq, Int.reduceBNe, bm_box, bm_row, bk_box, bk_row, List.map_cons, List.map_nil])) ?_ ?_ ?_; rotate_left)
    | rfl
    | (with_reducible refine And.intro ?_ ?_)
    | (simp (disch := omega) only [go_sem, Nat.reduceLT, Nat.reduceLeDiff, Nat.reduceAdd, Nat.reduceMul, Nat.reduceEqDiff, ↓reduceIte, reduceCtorEq, Nat.reduceBEq, Nat.reduceBNe, Nat.reducePow, Int.reduceLE, Int.reduceLT, Int.reduceNeg, Int.reduceToNat, Int.reduceEq, Int.reduceAdd, Int.reduceSub, Int.reduceMul, Int.reduceBEq, Int.reduceBNe, bm_box, bm_row, bk_box, bk_row, List.map_cons, List.map_nil])
    | (exact retS_of rfl rfl rfl)
    | (refine DW.cond_tt rfl ?_)
    | (refine DW.cond_ff rfl ?_)
    | (refine DW.cond rfl ?_ ?_ <;> intro hc <;> (try simp only [go_sem] at hc))
    | (refine g_split ?_ ?_ <;> intro hc <;> (try simp only [hc]) <;> (try simp only [go_sem] at hc)))
      refine call_hk 28 hun rfl rfl rfl (by simp (disch := omega) only [go_sem, Nat.reduceLT, Nat.reduceLeDiff, Nat.reduceAdd, Nat.reduceMul, Nat.reduceEqDiff, ↓reduceIte, reduceCtorEq, Nat.reduceBEq, Nat.reduceBNe, Nat.reducePow, Int.reduceLE, Int.reduceLT, Int.reduceNeg, Int.reduceToNat, Int.reduceEq, Int.reduceAdd, Int.reduceSub, Int.reduceMul, Int.reduceBEq, Int.reduceBNe, bm_box, bm_row, bk_box, bk_row, del]) (by decide) ?_
      simp (disch := omega) only [go_sem, Nat.reduceLT, Nat.reduceLeDiff, Nat.reduceAdd, Nat.reduceMul, Nat.reduceEqDiff, ↓reduceIte, reduceCtorEq, Nat.reduceBEq, Nat.reduceBNe, Nat.reducePow, Int.reduceLE, Int.reduceLT, Int.reduceNeg, Int.reduceToNat, Int.reduceEq, Int.reduceAdd, Int.reduceSub, Int.reduceMul, Int.reduceBEq, Int.reduceBNe, bm_box, bm_row, bk_box, bk_row, List.map_cons, List.map_nil, del]
      refine DW.ent (Ent.swap2 (show (28 : Nat) ≠ 41 by decide)) ?_
      cases u with
      | true =>
        rw [if_pos rfl]
        repeat' (first
    | (with_reducible refine DW.seq ?_)
    | (with_reducible refine DW.block ?_)
    | (with_reducible refine DW.skip ?_)
    | (with_reducible refine DW.exit ?_)
    | (with_reducible refine DW.ret ?_)
    | (with_reducible refine DW.reg ?_)
    | (refine DW.ord rfl (WF.of (by first | rfl | simp (disch := omega) only [go_sem, Nat.reduceLT, Nat.reduceLeDiff, Nat.reduceAdd, Nat.reduceMul, Nat.reduceEqDiff, ↓reduceIte, reduceCtorEq, Nat.reduceBEq, Nat.reduceBNe, Nat.reducePow, Int.reduceLE, Int.reduceLT, Int.reduceNeg, Int.reduceToNat, Int.reduceEq, Int.reduceAdd, Int.reduceSub, Int.reduceMul, Int.reduceBEq, Int.reduceBNe, bm_box, bm_row, bk_box, bk_row, List.map_cons, List.map_nil, hand])) ?_ ?_ ?_; rotate_left)
    | rfl
    | (with_reducible refine And.intro ?_ ?_)
    | (simp (disch := omega) only [go_sem, Nat.reduceLT, Nat.reduceLeDiff, Nat.reduceAdd, Nat.reduceMul, Nat.reduceEqDiff, ↓reduceIte, reduceCtorEq, Nat.reduceBEq, Nat.reduceBNe, Nat.reducePow, Int.reduceLE, Int.reduceLT, Int.reduceNeg, Int.reduceToNat, Int.reduceEq, Int.reduceAdd, Int.reduceSub, Int.reduceMul, Int.reduceBEq, Int.reduceBNe, bm_box, bm_row, bk_box, bk_row, List.map_cons, List.map_nil, hand])
    | (exact retS_of rfl rfl rfl)
    | (refine DW.cond_tt rfl ?_)
    | (refine DW.cond_ff rfl ?_)
    | (refine DW.cond rfl ?_ ?_ <;> intro hc <;> (try simp only [go_sem] at hc))
    | (refine g_split ?_ ?_ <;> intro hc <;> (try simp only [hc]) <;> (try simp only [go_sem] at hc)))
        refine round_end rfl rfl (Ent.to ?_ ?_) <;> simp (disch := omega) only [wkT_cons, wkX_cons, wkT_nil, wkX_nil, get, Nat.reduceEqDiff, ↓reduceIte, ex_some, wk_self, wk_top, wk_nil, wkB_self, and_self, dI, i64_in, and_true, true_and, Int.natCast_add, Int.natCast_one, Int.ofNat_zero, Int.natCast_zero, capB, List.cons_append, List.nil_append]
      | false =>
        rw [if_neg (by decide)]
        repeat' (first
    | (with_reducible refine DW.seq ?_)
    | (with_reducible refine DW.block ?_)
    | (with_reducible refine DW.skip ?_)
    | (with_reducible refine DW.exit ?_)
    | (with_reducible refine DW.ret ?_)
    | (with_reducible refine DW.reg ?_)
    | (refine DW.ord rfl (WF.of (by first | rfl | simp (disch := omega) only [go_sem, Nat.reduceLT, Nat.reduceLeDiff, Nat.reduceAdd, Nat.reduceMul, Nat.reduceEqDiff, ↓reduceIte, reduceCtorEq, Nat.reduceBEq, Nat.reduceBNe, Nat.reducePow, Int.reduceLE, Int.reduceLT, Int.reduceNeg, Int.reduceToNat, Int.reduceEq, Int.reduceAdd, Int.reduceSub, Int.reduceMul, Int.reduceBEq, Int.reduceBNe, bm_box, bm_row, bk_box, bk_row, List.map_cons, List.map_nil])) ?_ ?_ ?_; rotate_left)
    | rfl
    | (with_reducible refine And.intro ?_ ?_)
    | (simp (disch := omega) only [go_sem, Nat.reduceLT, Nat.reduceLeDiff, Nat.reduceAdd, Nat.reduceMul, Nat.reduceEqDiff, ↓reduceIte, reduceCtorEq, Nat.reduceBEq, Nat.reduceBNe, Nat.reducePow, Int.reduceLE, Int.reduceLT, Int.reduceNeg, Int.reduceToNat, Int.reduceEq, Int.reduceAdd, Int.reduceSub, Int.reduceMul, Int.reduceBEq, Int.reduceBNe, bm_box, bm_row, bk_box, bk_row, List.map_cons, List.map_nil])
    | (exact retS_of rfl rfl rfl)
    | (refine DW.cond_tt rfl ?_)
    | (refine DW.cond_ff rfl ?_)
    | (refine DW.cond rfl ?_ ?_ <;> intro hc <;> (try simp only [go_sem] at hc))
    | (refine g_split ?_ ?_ <;> intro hc <;> (try simp only [hc]) <;> (try simp only [go_sem] at hc)))
        refine round_end rfl rfl (Ent.to ?_ ?_) <;> simp (disch := omega) only [wkT_cons, wkX_cons, wkT_nil, wkX_nil, get, Nat.reduceEqDiff, ↓reduceIte, ex_some, wk_self, wk_top, wk_nil, wkB_self, and_self, dI, i64_in, and_true, true_and, Int.natCast_add, Int.natCast_one, Int.ofNat_zero, Int.natCast_zero, capB, List.cons_append, List.nil_append]
    · rw [hrun]
      simp (disch := omega) only [go_sem, Nat.reduceLT, Nat.reduceLeDiff, Nat.reduceAdd, Nat.reduceMul, Nat.reduceEqDiff, ↓reduceIte, reduceCtorEq, Nat.reduceBEq, Nat.reduceBNe, Nat.reducePow, Int.reduceLE, Int.reduceLT, Int.reduceNeg, Int.reduceToNat, Int.reduceEq, Int.reduceAdd, Int.reduceSub, Int.reduceMul, Int.reduceBEq, Int.reduceBNe, bm_box, bm_row, bk_box, bk_row, Option.getD_some]
      have hfin : ∀ f, remB s e ≤ f → (acc ++ [(e : Int)]) ++ ordI l k f (remB s e) = R := fun f hf => by
        have h5 := i5 (s + 1) (by omega)
        rw [ordI, if_neg h0, hfd] at h5
        rw [ordI_fuel l k (s := remB s e) (by omega) f s hf (by omega), List.append_assoc]
        exact h5
      refine ⟨⟨⟨acc ++ [(e : Int)], remB s e, m1⟩, by dsimp only; omega, hm1, hse, by simp only [List.length_append, List.length_cons, List.length_nil]; omega, hfin⟩, ?_, Ent.to ?_ ?_⟩ <;> first | (show _ < _; (try simp only); omega) | (simp (disch := omega) only [wkT_cons, wkX_cons, wkT_nil, wkX_nil, get, Nat.reduceEqDiff, ↓reduceIte, ex_some, wk_self, wk_top, wk_nil, wkB_self, and_self, dI, i64_in, and_true, true_and, Int.natCast_add, Int.natCast_one, Int.ofNat_zero, Int.natCast_zero])
end Go.Dw.Seat
end
section
set_option linter.unusedSimpArgs false
set_option maxRecDepth 100000
namespace Go.Dw.Seat
open Go Go.Dw Go.Proofs Go.IntWalk
def fallR (l : List Lod) (days : Int) (t : List (Int × Int)) : Int × Int × Int := match fallT l days t with
  | some (d, i) => (d, (i : Int), 0)
  | none => (0, 0, 7)
set_option maxHeartbeats 1000000 in
theorem crFall (l : List Lod) (h : ∀ b ∈ l, b.ok) (hl : l.length ≤ 50) (t : List (Int × Int)) (days : Int) (ht : TabOk t days) : DCall Tryd.prog 36 [.c (.sl false 4 (rows eLd l)), .c (.sl false 2 (rows eK t)), dI days] [] (.tup [dI (fallR l days t).1, dI (fallR l days t).2.1, dI (fallR l days t).2.2]) [] := by
  generalize hR : fallR l days t = R
  have h1 := crBoxes false l 50 (by omega) (by omega) h
  have h2 := crTable t days ht
  have hlen := ht.len
  refine DCall.of Tryd.func36 sf36 hb36 (Nat.le_of_ble_eq_true rfl) (okRes_nil fun _ => rfl) ?_; simp only [s36, idxs, Nat.reduceAdd]
  repeat' (first
    | (with_reducible refine DW.seq ?_)
    | (with_reducible refine DW.block ?_)
    | (with_reducible refine DW.skip ?_)
    | (with_reducible refine DW.exit ?_)
    | (with_reducible refine DW.ret ?_)
    | (with_reducible refine DW.reg ?_)
    | (simp (disch := omega) only [go_sem, Nat.reduceLT, Nat.reduceLeDiff, Nat.reduceAdd, Nat.reduceMul, Nat.reduceEqDiff, ↓reduceIte, reduceCtorEq, Nat.reduceBEq, Nat.reduceBNe, Nat.reducePow, Int.reduceLE, Int.reduceLT, Int.reduceNeg, Int.reduceToNat, Int.reduceEq, Int.reduceAdd, Int.reduceSub, Int.reduceMul, Int.reduceBEq, Int.reduceBNe, bm_box, bm_row, bk_box, bk_row])
    | (exact retS_of rfl rfl rfl)
    | (refine DW.cond_tt rfl ?_)
    | (refine call_c (h1) (by decide) ?_)
    | (refine call_c (h2) (by decide) ?_)
    | (refine DW.cond_ff rfl ?_)
    | (refine DW.cond rfl ?_ ?_ <;> intro hc <;> (try simp only [go_sem] at hc))
    | (refine g_split ?_ ?_ <;> intro hc <;> (try simp only [hc]) <;> (try simp only [go_sem] at hc)))
  refine DW.loop (ι := { i : Nat // i ≤ t.length ∧ fallR l days (t.drop i) = R }) (fun i => ⟨53, [(32, dI i.1), (31, dI t.length), (30, .c (.sl false 2 (rows eK t))), (10, .box 10 0), (0, .c (.sl false 4 (rows eLd l)))], [(10, .box [.c (.sl false 2 (rows eK t)), dI days])]⟩) (fun i => t.length - i.1) ⟨0, Nat.zero_le _, hR⟩ ?_ ?_
  · refine Ent.to ?_ ?_ <;> simp (disch := omega) only [wkT_cons, wkX_cons, wkT_nil, wkX_nil, get, Nat.reduceEqDiff, ↓reduceIte, ex_some, wk_self, wk_top, wk_nil, wkB_self, and_self, dI, i64_in, and_true, true_and, Int.natCast_add, Int.natCast_one, Int.ofNat_zero, Int.natCast_zero]
  rintro ⟨i, hi, hr⟩
  rcases at_or t i hi with ⟨v, hv, hlt, hd⟩ | ⟨he, hd⟩
  · have hm := ht.mem v (List.mem_of_getElem? hv)
    have hlow := crLowest l h (by omega) v.2 hm.2
    have hdrop : t.drop i = v :: t.drop (i + 1) := by
      have e : t[i] = v := by
        have := List.getElem?_eq_getElem hlt
        rw [hv] at this; cases this; rfl
      rw [← e]; exact List.drop_eq_getElem_cons hlt
    rw [hdrop] at hr
    by_cases hc : days < v.1
    · have hdd : decide (days < v.1) = true := decide_eq_true hc
      have hr' : R = (0, 0, 7) := by rw [← hr, fallR, fallT, if_pos hc]
      repeat' (first
    | (with_reducible refine DW.seq ?_)
    | (with_reducible refine DW.block ?_)
    | (with_reducible refine DW.skip ?_)
    | (with_reducible refine DW.exit ?_)
    | (with_reducible refine DW.ret ?_)
    | (with_reducible refine DW.reg ?_)
    | (simp (disch := omega) only [go_sem, Nat.reduceLT, Nat.reduceLeDiff, Nat.reduceAdd, Nat.reduceMul, Nat.reduceEqDiff, ↓reduceIte, reduceCtorEq, Nat.reduceBEq, Nat.reduceBNe, Nat.reducePow, Int.reduceLE, Int.reduceLT, Int.reduceNeg, Int.reduceToNat, Int.reduceEq, Int.reduceAdd, Int.reduceSub, Int.reduceMul, Int.reduceBEq, Int.reduceBNe, bm_box, bm_row, bk_box, bk_row, hd, hv, hdd, List.map_cons, List.map_nil])
    | (exact retS_of rfl rfl rfl)
    | (refine DW.cond_tt rfl ?_)
    | (refine DW.cond_ff rfl ?_)
    | (refine DW.cond rfl ?_ ?_ <;> intro hc <;> (try simp only [go_sem] at hc))
    | (refine g_split ?_ ?_ <;> intro hc <;> (try simp only [hc]) <;> (try simp only [go_sem] at hc)))
      refine retS_of rfl ?_ rfl; simp only [oneD, St.op, get, Nat.reduceEqDiff, ↓reduceIte, Option.getD_some, bD, dI]
      rw [hr']
    · have hdd : decide (days < v.1) = false := decide_eq_false hc
      cases hf : failN v.2 l with
      | none =>
        have hr' : fallR l days (t.drop (i + 1)) = R := by rw [← hr, fallR, fallR, fallT, if_neg hc, hf]
        simp only [lowR, hf] at hlow
        repeat' (first
    | (with_reducible refine DW.seq ?_)
    | (with_reducible refine DW.block ?_)
    | (with_reducible refine DW.skip ?_)
    | (with_reducible refine DW.exit ?_)
    | (with_reducible refine DW.ret ?_)
    | (with_reducible refine DW.reg ?_)
    | (simp (disch := omega) only [go_sem, Nat.reduceLT, Nat.reduceLeDiff, Nat.reduceAdd, Nat.reduceMul, Nat.reduceEqDiff, ↓reduceIte, reduceCtorEq, Nat.reduceBEq, Nat.reduceBNe, Nat.reducePow, Int.reduceLE, Int.reduceLT, Int.reduceNeg, Int.reduceToNat, Int.reduceEq, Int.reduceAdd, Int.reduceSub, Int.reduceMul, Int.reduceBEq, Int.reduceBNe, bm_box, bm_row, bk_box, bk_row, hd, hv, hdd, List.map_cons, List.map_nil])
    | (exact retS_of rfl rfl rfl)
    | (refine DW.cond_tt rfl ?_)
    | (refine call_c (hlow) (by decide) ?_)
    | (refine DW.cond_ff rfl ?_)
    | (refine DW.cond rfl ?_ ?_ <;> intro hc <;> (try simp only [go_sem] at hc))
    | (refine g_split ?_ ?_ <;> intro hc <;> (try simp only [hc]) <;> (try simp only [go_sem] at hc)))
        refine ⟨⟨i + 1, hlt, hr'⟩, ?_, Ent.to ?_ ?_⟩ <;> first | (show _ < _; (try simp only); omega) | (simp (disch := omega) only [wkT_cons, wkX_cons, wkT_nil, wkX_nil, get, Nat.reduceEqDiff, ↓reduceIte, ex_some, wk_self, wk_top, wk_nil, wkB_self, and_self, dI, i64_in, and_true, true_and, Int.natCast_add, Int.natCast_one, Int.ofNat_zero, Int.natCast_zero])
      | some j =>
        have hr' : R = (v.1, (j : Int), 0) := by rw [← hr, fallR, fallT, if_neg hc, hf]
        simp only [lowR, hf] at hlow
        repeat' (first
    | (with_reducible refine DW.seq ?_)
    | (with_reducible refine DW.block ?_)
    | (with_reducible refine DW.skip ?_)
    | (with_reducible refine DW.exit ?_)
    | (with_reducible refine DW.ret ?_)
    | (with_reducible refine DW.reg ?_)
    | (simp (disch := omega) only [go_sem, Nat.reduceLT, Nat.reduceLeDiff, Nat.reduceAdd, Nat.reduceMul, Nat.reduceEqDiff, ↓reduceIte, reduceCtorEq, Nat.reduceBEq, Nat.reduceBNe, Nat.reducePow, Int.reduceLE, Int.reduceLT, Int.reduceNeg, Int.reduceToNat, Int.reduceEq, Int.reduceAdd, Int.reduceSub, Int.reduceMul, Int.reduceBEq, Int.reduceBNe, bm_box, bm_row, bk_box, bk_row, hd, hv, hdd, List.map_cons, List.map_nil])
    | (exact retS_of rfl rfl rfl)
    | (refine DW.cond_tt rfl ?_)
    | (refine call_c (hlow) (by decide) ?_)
    | (refine DW.cond_ff rfl ?_)
    | (refine DW.cond rfl ?_ ?_ <;> intro hc <;> (try simp only [go_sem] at hc))
    | (refine g_split ?_ ?_ <;> intro hc <;> (try simp only [hc]) <;> (try simp only [go_sem] at hc)))
        refine retS_of rfl ?_ rfl; simp only [oneD, St.op, get, Nat.reduceEqDiff, ↓reduceIte, Option.getD_some, bD, dI]
        rw [hr']
  · rw [he, List.drop_length] at hr
    have hr' : R = (0, 0, 7) := by rw [← hr]; rfl
    repeat' (first
    | (with_reducible refine DW.seq ?_)
    | (with_reducible refine DW.block ?_)
    | (with_reducible refine DW.skip ?_)
    | (with_reducible refine DW.exit ?_)
    | (with_reducible refine DW.ret ?_)
    | (with_reducible refine DW.reg ?_)
    | (simp (disch := omega) only [go_sem, Nat.reduceLT, Nat.reduceLeDiff, Nat.reduceAdd, Nat.reduceMul, Nat.reduceEqDiff, ↓reduceIte, reduceCtorEq, Nat.reduceBEq, Nat.reduceBNe, Nat.reducePow, Int.reduceLE, Int.reduceLT, Int.reduceNeg, Int.reduceToNat, Int.reduceEq, Int.reduceAdd, Int.reduceSub, Int.reduceMul, Int.reduceBEq, Int.reduceBNe, bm_box, bm_row, bk_box, bk_row, hd])
    | (exact retS_of rfl rfl rfl)
    | (refine DW.cond_tt rfl ?_)
    | (refine DW.cond_ff rfl ?_)
    | (refine DW.cond rfl ?_ ?_ <;> intro hc <;> (try simp only [go_sem] at hc))
    | (refine g_split ?_ ?_ <;> intro hc <;> (try simp only [hc]) <;> (try simp only [go_sem] at hc)))
    refine retS_of rfl ?_ rfl; simp only [oneD, St.op, get, Nat.reduceEqDiff, ↓reduceIte, Option.getD_some, bD, dI]
    rw [hr']
def loadsL : List Lod → List (Int × Int)
  | [] => []
  | _ :: t => (sumL t, sumH t) :: loadsL t
theorem replK (n : Nat) : List.replicate n [C.v (.int .i64 0), C.v (.int .i64 0)] = rows eK (List.replicate n (0, 0)) := by simp [rows, eK]
theorem rows_setK (l : List (Int × Int)) (i : Nat) (x y : Int) : List.set (rows eK l) i [.v (.int .i64 x), .v (.int .i64 y)] = rows eK (List.set l i (x, y)) := by simp [rows, List.map_set, eK]
theorem rowC_setK (l : List (Int × Int)) (i : Nat) (x y : Int) : List.set (rowC (rows eK l)) i [.c (.v (.int .i64 x)), .c (.v (.int .i64 y))] = rowC (rows eK (List.set l i (x, y))) := by simp [rowC, rows, List.map_set, eK]
def ldS (a : List (Int × Int)) (e : Nat × Int × Int) : Option Exit × List (Int × Int) := (none, List.set a e.1 e.2)
theorem loads_set : ∀ (t : List Lod) (pre : List (Int × Int)) (post : List (Int × Int)), post.length = t.length → (loadsF pre.length t).foldr (fun e a => List.set a e.1 e.2) (pre ++ post) = pre ++ loadsL t
  | [], pre, post, h => by simp at h; subst h; simp [loadsF, loadsL]
  | b :: t, pre, [], h => by simp at h
  | b :: t, pre, p :: post, h => by
    have ih := loads_set t (pre ++ [p]) post (by simpa using h)
    simp only [List.length_append, List.length_singleton, List.append_assoc, List.singleton_append] at ih
    simp only [loadsF, List.foldr_cons, ih, loadsL]
    rw [List.set_append_right _ _ (Nat.le_refl _), Nat.sub_self]; rfl
theorem loads_run (l : List Lod) (h : ∀ b ∈ l, b.ok) (hl : l.length ≤ 100000) : runIt ldS (List.replicate l.length (0, 0)) (fallS 0 0 (backL l)) = (none, loadsL l) := by
  rw [runIt_all (fun _ _ => rfl), fallS_eq l h hl, List.foldl_reverse]
  have := loads_set l [] (List.replicate l.length (0, 0)) (by simp)
  simp only [List.length_nil, List.nil_append] at this
  exact congrArg (Prod.mk none) this
set_option maxHeartbeats 1000000 in
theorem crLoads (l : List Lod) (h : ∀ b ∈ l, b.ok) (hl : l.length ≤ 50) : DCall Tryd.prog 35 [.c (.sl false 4 (rows eLd l))] [] (.tup [.c (.sl false 2 (rows eK (loadsL l))), dI 0]) [] := by
  have h1 := crBoxes false l 50 (by omega) (by omega) h
  have h2 := crFalling l
  have hit := crFall1 l (by omega) false
  refine DCall.of Tryd.func35 sf35 hb35 (Nat.le_of_ble_eq_true rfl) (okRes_nil fun _ => rfl) ?_; simp only [s35, idxs, Nat.reduceAdd]
  repeat' (first
    | (with_reducible refine DW.seq ?_)
    | (with_reducible refine DW.block ?_)
    | (with_reducible refine DW.skip ?_)
    | (with_reducible refine DW.exit ?_)
    | (with_reducible refine DW.ret ?_)
    | (with_reducible refine DW.reg ?_)
    | (simp (disch := omega) only [go_sem, Nat.reduceLT, Nat.reduceLeDiff, Nat.reduceAdd, Nat.reduceMul, Nat.reduceEqDiff, ↓reduceIte, reduceCtorEq, Nat.reduceBEq, Nat.reduceBNe, Nat.reducePow, Int.reduceLE, Int.reduceLT, Int.reduceNeg, Int.reduceToNat, Int.reduceEq, Int.reduceAdd, Int.reduceSub, Int.reduceMul, Int.reduceBEq, Int.reduceBNe, bm_box, bm_row, bk_box, bk_row, replK])
    | (exact retS_of rfl rfl rfl)
    | (refine DW.cond_tt rfl ?_)
    | (refine call_c (h1) (by decide) ?_)
    | (refine call_c (h2) (by decide) ?_)
    | (refine DW.cond_ff rfl ?_)
    | (refine DW.cond rfl ?_ ?_ <;> intro hc <;> (try simp only [go_sem] at hc))
    | (refine g_split ?_ ?_ <;> intro hc <;> (try simp only [hc]) <;> (try simp only [go_sem] at hc)))
  refine DW.rngBD (fs := []) (caps := [.c (.ro false [.sl false 4 (rows eLd l)] 0)]) (fun y : List (Int × Int) => [(15, .row 2 (rowC (rows eK y))), (5, .box [.own 15])]) (List.replicate l.length (0, 0)) ldS enF (fun e => e.1 < l.length) (fallS 0 0 (backL l)) hit (fun y => y.length = l.length) (by simp) (fun a e ha _ _ => by simpa [ldS] using ha) rfl (fun _ => ⟨rfl, rfl⟩) rfl (by decide) (fun _ _ => rfl) (fun _ _ _ => rfl) (by simp only [List.map_cons, List.map_nil]; decide) (fun _ => rfl) (fun _ => wf_row rfl rfl) (fun _ => nb_row eK_nb _ rfl) (by simp only [List.all_cons, List.all_nil, Blk.nb, rowC_nb, D.nb, D.nbs, C.nb, C.nbs, C.nbss, rows_nb eI_nb, Bool.and_true, Bool.not_false, Bool.and_self, bD, dI, iD, rows_nb eK_nb, rows_nb eLd_nb]) (fun a e => rfl) ?_ ?_
  · rintro y hy ⟨i, lo, hi⟩ hi' v
    dsimp only at hi'
    have hiy : ((i : Nat) < y.length) = True := eq_true (by omega)
    obtain ⟨u, hu⟩ := getE (l := y) (i := i) (by omega)
    simp (disch := omega) only [go_sem, Nat.reduceLT, Nat.reduceLeDiff, Nat.reduceAdd, Nat.reduceMul, Nat.reduceEqDiff, ↓reduceIte, reduceCtorEq, Nat.reduceBEq, Nat.reduceBNe, Nat.reducePow, Int.reduceLE, Int.reduceLT, Int.reduceNeg, Int.reduceToNat, Int.reduceEq, Int.reduceAdd, Int.reduceSub, Int.reduceMul, Int.reduceBEq, Int.reduceBNe, bm_box, bm_row, bk_box, bk_row, List.map_cons, List.map_nil, ldS]
    repeat' (first
    | (with_reducible refine DW.seq ?_)
    | (with_reducible refine DW.block ?_)
    | (with_reducible refine DW.skip ?_)
    | (with_reducible refine DW.exit ?_)
    | (with_reducible refine DW.ret ?_)
    | (with_reducible refine DW.reg ?_)
    | (simp (disch := omega) only [go_sem, Nat.reduceLT, Nat.reduceLeDiff, Nat.reduceAdd, Nat.reduceMul, Nat.reduceEqDiff, ↓reduceIte, reduceCtorEq, Nat.reduceBEq, Nat.reduceBNe, Nat.reducePow, Int.reduceLE, Int.reduceLT, Int.reduceNeg, Int.reduceToNat, Int.reduceEq, Int.reduceAdd, Int.reduceSub, Int.reduceMul, Int.reduceBEq, Int.reduceBNe, bm_box, bm_row, bk_box, bk_row, hu, hiy, rows_setK, List.map_cons, List.map_nil])
    | (exact retS_of rfl rfl rfl)
    | (refine DW.cond_tt rfl ?_)
    | (refine DW.cond_ff rfl ?_)
    | (refine DW.cond rfl ?_ ?_ <;> intro hc <;> (try simp only [go_sem] at hc))
    | (refine g_split ?_ ?_ <;> intro hc <;> (try simp only [hc]) <;> (try simp only [go_sem] at hc)))
    refine round_end rfl rfl (Ent.to ?_ ?_) <;> simp (disch := omega) only [wkT_cons, wkX_cons, wkT_nil, wkX_nil, get, Nat.reduceEqDiff, ↓reduceIte, ex_some, wk_self, wk_top, wk_nil, wkB_self, and_self, dI, i64_in, and_true, true_and, Int.natCast_add, Int.natCast_one, Int.ofNat_zero, Int.natCast_zero, capB, List.cons_append, List.nil_append, rowC_setK]
  · rw [loads_run l h (by omega)]
    repeat' (first
    | (with_reducible refine DW.seq ?_)
    | (with_reducible refine DW.block ?_)
    | (with_reducible refine DW.skip ?_)
    | (with_reducible refine DW.exit ?_)
    | (with_reducible refine DW.ret ?_)
    | (with_reducible refine DW.reg ?_)
    | (simp (disch := omega) only [go_sem, Nat.reduceLT, Nat.reduceLeDiff, Nat.reduceAdd, Nat.reduceMul, Nat.reduceEqDiff, ↓reduceIte, reduceCtorEq, Nat.reduceBEq, Nat.reduceBNe, Nat.reducePow, Int.reduceLE, Int.reduceLT, Int.reduceNeg, Int.reduceToNat, Int.reduceEq, Int.reduceAdd, Int.reduceSub, Int.reduceMul, Int.reduceBEq, Int.reduceBNe, bm_box, bm_row, bk_box, bk_row])
    | (exact retS_of rfl rfl rfl)
    | (refine DW.cond_tt rfl ?_)
    | (refine DW.cond_ff rfl ?_)
    | (refine DW.cond rfl ?_ ?_ <;> intro hc <;> (try simp only [go_sem] at hc))
    | (refine g_split ?_ ?_ <;> intro hc <;> (try simp only [hc]) <;> (try simp only [go_sem] at hc)))
    (refine retS_ent (Ent.rel 15 rfl) ?_; simp (disch := omega) only [go_sem, Nat.reduceLT, Nat.reduceLeDiff, Nat.reduceAdd, Nat.reduceMul, Nat.reduceEqDiff, ↓reduceIte, reduceCtorEq, Nat.reduceBEq, Nat.reduceBNe, Nat.reducePow, Int.reduceLE, Int.reduceLT, Int.reduceNeg, Int.reduceToNat, Int.reduceEq, Int.reduceAdd, Int.reduceSub, Int.reduceMul, Int.reduceBEq, Int.reduceBNe, bm_box, bm_row, bk_box, bk_row])
    refine retS_wk rfl ?_ (by simp only [Blk.nb, rowC_nb, D.nb, D.nbs, C.nb, C.nbs, C.nbss, rows_nb eI_nb, Bool.and_true, Bool.not_false, Bool.and_self, bD, dI, iD, rows_nb eK_nb, rows_nb eLd_nb]); exact .refl _
end Go.Dw.Seat
end
section
set_option linter.unusedSimpArgs false
set_option maxRecDepth 100000
namespace Go.Dw.Seat
open Go Go.Dw Go.Proofs Go.IntWalk
def untilF (r : CR) (st x : Int) : Nat → CLot → Int → Int
  | 0, l, more => if stateI r l = st then more else -1
  | k + 1, l, more => if stateI r l = st then more else untilF r st x k (l.after r x) (more + 1)
theorem crUntil (r : CR) (l : CLot) (st x : Int) (h : l.ok) (ht : 1 ≤ r.tests ∧ r.tests ≤ 20) (hm : 0 ≤ r.mean ∧ r.mean ≤ 100000) (hx : 0 ≤ x ∧ x ≤ 100000) (k : Nat) (hk : l.made + (k : Int) = r.tests) :
    DCall Tryd.prog 62 [dLot r l, dI st, dI x] [] (dI (untilF r st x k l 0)) [] := by
  generalize hR : untilF r st x k l 0 = R
  have h0 := h.made
  refine DCall.of Tryd.func62 sf62 hb62 (Nat.le_of_ble_eq_true rfl) (okRes_nil fun _ => rfl) ?_; simp only [s62, idxs, Nat.reduceAdd]
  repeat' (first
    | (with_reducible refine DW.seq ?_)
    | (with_reducible refine DW.block ?_)
    | (with_reducible refine DW.skip ?_)
    | (with_reducible refine DW.exit ?_)
    | (with_reducible refine DW.ret ?_)
    | (with_reducible refine DW.reg ?_)
    | (simp (disch := omega) only [go_sem, Nat.reduceLT, Nat.reduceLeDiff, Nat.reduceAdd, Nat.reduceMul, Nat.reduceEqDiff, ↓reduceIte, reduceCtorEq, Nat.reduceBEq, Nat.reduceBNe, Nat.reducePow, Int.reduceLE, Int.reduceLT, Int.reduceNeg, Int.reduceToNat, Int.reduceEq, Int.reduceAdd, Int.reduceSub, Int.reduceMul, Int.reduceBEq, Int.reduceBNe, Blk.men, Blk.keysIn])
    | (exact retS_of rfl rfl rfl)
    | (refine DW.cond_tt rfl ?_)
    | (refine DW.cond_ff rfl ?_)
    | (refine DW.cond rfl ?_ ?_ <;> intro hc <;> (try simp only [go_sem] at hc))
    | (refine g_split ?_ ?_ <;> intro hc <;> (try simp only [hc]) <;> (try simp only [go_sem] at hc)))
  refine DW.loop (ι := { y : Nat × CLot × Int // y.2.1.ok ∧ y.2.1.made + (y.1 : Int) = r.tests ∧ untilF r st x y.1 y.2.1 y.2.2 = R ∧ 0 ≤ y.2.2 ∧ y.2.2 + (y.1 : Int) ≤ 100 })
    (fun y => ⟨24, [(7, dI y.1.2.2), (3, .box 3 0), (2, dI x), (1, dI st)], [(3, .box [dI r.tests, dI r.mean, dI r.low, dI r.bad, dI y.1.2.1.off, dI y.1.2.1.made, dI y.1.2.1.ws, dI y.1.2.1.wb, dI y.1.2.1.bs, dI y.1.2.1.bb])]⟩) (fun y => y.1.1) ⟨(k, l, 0), h, hk, hR, Int.le_refl _, by dsimp only; omega⟩ ?_ ?_
  · refine Ent.to ?_ ?_ <;> simp (disch := omega) only [wkT_cons, wkX_cons, wkT_nil, wkX_nil, get, Nat.reduceEqDiff, ↓reduceIte, ex_some, wk_self, wk_top, wk_nil, wkB_self, and_self, dI, i64_in, and_true, true_and, Int.natCast_add, Int.natCast_one, Int.ofNat_zero, Int.natCast_zero]
  rintro ⟨⟨j, l', more⟩, i1, i2, i3, i4, i5⟩
  dsimp only at i1 i2 i3 i4 i5 ⊢
  have hmd := i1.made
  have hst := crState r l' i1 ht hm (by omega)
  by_cases hs : stateI r l' = st
  · have he : (stateI r l' == st) = true := by rw [hs]; simp
    have hr : R = more := by
      rw [← i3]
      cases j with
      | zero => rw [untilF, if_pos hs]
      | succ j => rw [untilF, if_pos hs]
    repeat' (first
    | (with_reducible refine DW.seq ?_)
    | (with_reducible refine DW.block ?_)
    | (with_reducible refine DW.skip ?_)
    | (with_reducible refine DW.exit ?_)
    | (with_reducible refine DW.ret ?_)
    | (with_reducible refine DW.reg ?_)
    | (simp (disch := omega) only [go_sem, Nat.reduceLT, Nat.reduceLeDiff, Nat.reduceAdd, Nat.reduceMul, Nat.reduceEqDiff, ↓reduceIte, reduceCtorEq, Nat.reduceBEq, Nat.reduceBNe, Nat.reducePow, Int.reduceLE, Int.reduceLT, Int.reduceNeg, Int.reduceToNat, Int.reduceEq, Int.reduceAdd, Int.reduceSub, Int.reduceMul, Int.reduceBEq, Int.reduceBNe, Blk.men, Blk.keysIn, he])
    | (exact retS_of rfl rfl rfl)
    | (refine DW.cond_tt rfl ?_)
    | (refine call_c (hst) (by decide) ?_)
    | (refine DW.cond_ff rfl ?_)
    | (refine DW.cond rfl ?_ ?_ <;> intro hc <;> (try simp only [go_sem] at hc))
    | (refine g_split ?_ ?_ <;> intro hc <;> (try simp only [hc]) <;> (try simp only [go_sem] at hc)))
    refine retS_of rfl ?_ rfl; simp only [oneD, St.op, get, Nat.reduceEqDiff, ↓reduceIte, Option.getD_some, bD, dI]
    rw [hr]
  · have he : (stateI r l' == st) = false := by rw [beq_eq_false_iff_ne]; exact hs
    rcases j with _ | j
    · have hme : (l'.made == r.tests) = true := by rw [beq_iff_eq]; omega
      have hr : R = -1 := by rw [← i3, untilF, if_neg hs]
      repeat' (first
    | (with_reducible refine DW.seq ?_)
    | (with_reducible refine DW.block ?_)
    | (with_reducible refine DW.skip ?_)
    | (with_reducible refine DW.exit ?_)
    | (with_reducible refine DW.ret ?_)
    | (with_reducible refine DW.reg ?_)
    | (simp (disch := omega) only [go_sem, Nat.reduceLT, Nat.reduceLeDiff, Nat.reduceAdd, Nat.reduceMul, Nat.reduceEqDiff, ↓reduceIte, reduceCtorEq, Nat.reduceBEq, Nat.reduceBNe, Nat.reducePow, Int.reduceLE, Int.reduceLT, Int.reduceNeg, Int.reduceToNat, Int.reduceEq, Int.reduceAdd, Int.reduceSub, Int.reduceMul, Int.reduceBEq, Int.reduceBNe, Blk.men, Blk.keysIn, he, hme])
    | (exact retS_of rfl rfl rfl)
    | (refine DW.cond_tt rfl ?_)
    | (refine call_c (hst) (by decide) ?_)
    | (refine DW.cond_ff rfl ?_)
    | (refine DW.cond rfl ?_ ?_ <;> intro hc <;> (try simp only [go_sem] at hc))
    | (refine g_split ?_ ?_ <;> intro hc <;> (try simp only [hc]) <;> (try simp only [go_sem] at hc)))
      refine retS_of rfl ?_ rfl; simp only [oneD, St.op, get, Nat.reduceEqDiff, ↓reduceIte, Option.getD_some, bD, dI]
      rw [hr]
    · have hme : (l'.made == r.tests) = false := by rw [beq_eq_false_iff_ne]; omega
      have hn : untilF r st x j (l'.after r x) (more + 1) = R := by rw [← i3, untilF, if_neg hs]
      have haf := crAfter r l' x i1 hx
      have hok := CLot.ok_after (r := r) i1 (by omega) hx
      have hma : (l'.after r x).made = l'.made + 1 := rfl
      generalize hla : l'.after r x = l2 at *
      repeat' (first
    | (with_reducible refine DW.seq ?_)
    | (with_reducible refine DW.block ?_)
    | (with_reducible refine DW.skip ?_)
    | (with_reducible refine DW.exit ?_)
    | (with_reducible refine DW.ret ?_)
    | (with_reducible refine DW.reg ?_)
    | (simp (disch := omega) only [go_sem, Nat.reduceLT, Nat.reduceLeDiff, Nat.reduceAdd, Nat.reduceMul, Nat.reduceEqDiff, ↓reduceIte, reduceCtorEq, Nat.reduceBEq, Nat.reduceBNe, Nat.reducePow, Int.reduceLE, Int.reduceLT, Int.reduceNeg, Int.reduceToNat, Int.reduceEq, Int.reduceAdd, Int.reduceSub, Int.reduceMul, Int.reduceBEq, Int.reduceBNe, Blk.men, Blk.keysIn, he, hme])
    | (exact retS_of rfl rfl rfl)
    | (refine DW.cond_tt rfl ?_)
    | (refine call_c (hst) (by decide) ?_)
    | (refine call_c (haf) (by decide) ?_)
    | (refine DW.cond_ff rfl ?_)
    | (refine DW.cond rfl ?_ ?_ <;> intro hc <;> (try simp only [go_sem] at hc))
    | (refine g_split ?_ ?_ <;> intro hc <;> (try simp only [hc]) <;> (try simp only [go_sem] at hc)))
      refine ⟨⟨(j, l2, more + 1), hok, by dsimp only; omega, hn, by dsimp only; omega, by dsimp only; omega⟩, ?_, Ent.to ?_ ?_⟩ <;> first | (show _ < _; (try simp only); omega) | (simp (disch := omega) only [wkT_cons, wkX_cons, wkT_nil, wkX_nil, get, Nat.reduceEqDiff, ↓reduceIte, ex_some, wk_self, wk_top, wk_nil, wkB_self, and_self, dI, i64_in, and_true, true_and, Int.natCast_add, Int.natCast_one, Int.ofNat_zero, Int.natCast_zero])
theorem crNeed (b : Bool) (r : CR) (rs : List Int) (off : Int) (h : CRok r rs off) (k : Nat) (hk : (rs.length : Int) + (k : Int) = r.tests) :
    DCall Tryd.prog 20 [dCR r, dIs b rs, dI off] [] (.tup [dI (untilF r 1 100000 k (lotOf r off rs) 0), dI (untilF r 2 0 k (lotOf r off rs) 0), dI 0]) [] := by
  have hlen := h.len
  have ht := h.tests
  have hm := (lotOf_made r off rs).1
  have hok := lotOf_ok (r := r) h.off rs (by omega) h.rs
  have h1 := crRule b r rs off h
  have h2 := crNew b r rs off h
  have h3 := crUntil r (lotOf r off rs) 1 100000 hok h.tests h.mean (by decide) k (by omega)
  have h4 := crUntil r (lotOf r off rs) 2 0 hok h.tests h.mean (by decide) k (by omega)
  refine DCall.of Tryd.func20 sf20 hb20 (Nat.le_of_ble_eq_true rfl) (okRes_nil fun _ => rfl) ?_; simp only [s20, idxs, Nat.reduceAdd]
  repeat' (first
    | (with_reducible refine DW.seq ?_)
    | (with_reducible refine DW.block ?_)
    | (with_reducible refine DW.skip ?_)
    | (with_reducible refine DW.exit ?_)
    | (with_reducible refine DW.ret ?_)
    | (with_reducible refine DW.reg ?_)
    | (refine DW.dreg rfl (WF.of (by first | rfl | simp (disch := omega) only [go_sem, Nat.reduceLT, Nat.reduceLeDiff, Nat.reduceAdd, Nat.reduceMul, Nat.reduceEqDiff, ↓reduceIte, reduceCtorEq, Nat.reduceBEq, Nat.reduceBNe, Nat.reducePow, Int.reduceLE, Int.reduceLT, Int.reduceNeg, Int.reduceToNat, Int.reduceEq, Int.reduceAdd, Int.reduceSub, Int.reduceMul, Int.reduceBEq, Int.reduceBNe, Blk.men, Blk.keysIn])) ?_)
    | (simp (disch := omega) only [go_sem, Nat.reduceLT, Nat.reduceLeDiff, Nat.reduceAdd, Nat.reduceMul, Nat.reduceEqDiff, ↓reduceIte, reduceCtorEq, Nat.reduceBEq, Nat.reduceBNe, Nat.reducePow, Int.reduceLE, Int.reduceLT, Int.reduceNeg, Int.reduceToNat, Int.reduceEq, Int.reduceAdd, Int.reduceSub, Int.reduceMul, Int.reduceBEq, Int.reduceBNe, Blk.men, Blk.keysIn])
    | (exact retS_of rfl rfl rfl)
    | (refine DW.cond_tt rfl ?_)
    | (refine call_c (h1) (by decide) ?_)
    | (refine call_c (h2) (by decide) ?_)
    | (refine call_c (h3) (by decide) ?_)
    | (refine call_c (h4) (by decide) ?_)
    | (refine DW.cond_ff rfl ?_)
    | (refine DW.cond rfl ?_ ?_ <;> intro hc <;> (try simp only [go_sem] at hc))
    | (refine g_split ?_ ?_ <;> intro hc <;> (try simp only [hc]) <;> (try simp only [go_sem] at hc)))
end Go.Dw.Seat
end
section
set_option linter.unusedSimpArgs false
set_option maxRecDepth 100000
namespace Go.Dw.Seat
open Go Go.Dw Go.Proofs Go.IntWalk
theorem laSpan (a b : Int) : DCall Tryd.prog 31 [dI a, dI b] [] (.agg [dI a, dI b]) [] := by
  refine DCall.of Tryd.func31 sf31 hb31 (Nat.le_of_ble_eq_true rfl) (okRes_nil fun _ => rfl) ?_; simp only [s31, idxs, Nat.reduceAdd]
  repeat' (first
    | (with_reducible refine DW.seq ?_)
    | (with_reducible refine DW.block ?_)
    | (with_reducible refine DW.skip ?_)
    | (with_reducible refine DW.exit ?_)
    | (with_reducible refine DW.ret ?_)
    | (with_reducible refine DW.reg ?_)
    | (simp (disch := omega) only [go_sem, Nat.reduceLT, Nat.reduceLeDiff, Nat.reduceAdd, Nat.reduceMul, Nat.reduceEqDiff, ↓reduceIte, reduceCtorEq, Nat.reduceBEq, Nat.reduceBNe, Nat.reducePow, Int.reduceLE, Int.reduceLT, Int.reduceNeg, Int.reduceToNat, Int.reduceEq, Int.reduceAdd, Int.reduceSub, Int.reduceMul, Int.reduceBEq, Int.reduceBNe, bm_box, bm_row, bk_box, bk_row])
    | (exact retS_of rfl rfl rfl)
    | (refine DW.cond_tt rfl ?_)
    | (refine DW.cond_ff rfl ?_)
    | (refine DW.cond rfl ?_ ?_ <;> intro hc <;> (try simp only [go_sem] at hc))
    | (refine g_split ?_ ?_ <;> intro hc <;> (try simp only [hc]) <;> (try simp only [go_sem] at hc)))
theorem laLoad (b : Lod) : DCall Tryd.prog 57 [dI b.sl, dI b.sh, dI b.wl, dI b.wh] [] (.agg ((eLd b).map D.c)) [] := by
  have h1 := laSpan b.sl b.sh
  have h2 := laSpan b.wl b.wh
  refine DCall.of Tryd.func57 sf57 hb57 (Nat.le_of_ble_eq_true rfl) (okRes_nil fun _ => rfl) ?_; simp only [s57, idxs, Nat.reduceAdd]
  repeat' (first
    | (with_reducible refine DW.seq ?_)
    | (with_reducible refine DW.block ?_)
    | (with_reducible refine DW.skip ?_)
    | (with_reducible refine DW.exit ?_)
    | (with_reducible refine DW.ret ?_)
    | (with_reducible refine DW.reg ?_)
    | (simp (disch := omega) only [go_sem, Nat.reduceLT, Nat.reduceLeDiff, Nat.reduceAdd, Nat.reduceMul, Nat.reduceEqDiff, ↓reduceIte, reduceCtorEq, Nat.reduceBEq, Nat.reduceBNe, Nat.reducePow, Int.reduceLE, Int.reduceLT, Int.reduceNeg, Int.reduceToNat, Int.reduceEq, Int.reduceAdd, Int.reduceSub, Int.reduceMul, Int.reduceBEq, Int.reduceBNe, bm_box, bm_row, bk_box, bk_row])
    | (exact retS_of rfl rfl rfl)
    | (refine DW.cond_tt rfl ?_)
    | (refine call_c (h1) (by decide) ?_)
    | (refine call_c (h2) (by decide) ?_)
    | (refine DW.cond_ff rfl ?_)
    | (refine DW.cond rfl ?_ ?_ <;> intro hc <;> (try simp only [go_sem] at hc))
    | (refine g_split ?_ ?_ <;> intro hc <;> (try simp only [hc]) <;> (try simp only [go_sem] at hc)))
def tabEx : List (Int × Int) := [(0, 1000), (10, 800), (30, 600)]
theorem laTable : DCall Tryd.prog 58 [] [] (.c (.sl false 2 (rows eK tabEx))) [] := by
  refine DCall.of Tryd.func58 sf58 hb58 (Nat.le_of_ble_eq_true rfl) (okRes_nil fun _ => rfl) ?_; simp only [s58, idxs, Nat.reduceAdd]
  repeat' (first
    | (with_reducible refine DW.seq ?_)
    | (with_reducible refine DW.block ?_)
    | (with_reducible refine DW.skip ?_)
    | (with_reducible refine DW.exit ?_)
    | (with_reducible refine DW.ret ?_)
    | (with_reducible refine DW.reg ?_)
    | (simp (disch := omega) only [go_sem, Nat.reduceLT, Nat.reduceLeDiff, Nat.reduceAdd, Nat.reduceMul, Nat.reduceEqDiff, ↓reduceIte, reduceCtorEq, Nat.reduceBEq, Nat.reduceBNe, Nat.reducePow, Int.reduceLE, Int.reduceLT, Int.reduceNeg, Int.reduceToNat, Int.reduceEq, Int.reduceAdd, Int.reduceSub, Int.reduceMul, Int.reduceBEq, Int.reduceBNe, bm_box, bm_row, bk_box, bk_row])
    | (exact retS_of rfl rfl rfl)
    | (refine DW.cond_tt rfl ?_)
    | (refine DW.cond_ff rfl ?_)
    | (refine DW.cond rfl ?_ ?_ <;> intro hc <;> (try simp only [go_sem] at hc))
    | (refine g_split ?_ ?_ <;> intro hc <;> (try simp only [hc]) <;> (try simp only [go_sem] at hc)))
  (refine retS_ent (Ent.rel 4 rfl) ?_; simp (disch := omega) only [go_sem, Nat.reduceLT, Nat.reduceLeDiff, Nat.reduceAdd, Nat.reduceMul, Nat.reduceEqDiff, ↓reduceIte, reduceCtorEq, Nat.reduceBEq, Nat.reduceBNe, Nat.reducePow, Int.reduceLE, Int.reduceLT, Int.reduceNeg, Int.reduceToNat, Int.reduceEq, Int.reduceAdd, Int.reduceSub, Int.reduceMul, Int.reduceBEq, Int.reduceBNe, bm_box, bm_row, bk_box, bk_row])
  refine retS_wk rfl ?_ (by simp only [Blk.nb, rowC_nb, D.nb, D.nbs, C.nb, C.nbs, C.nbss, rows_nb eI_nb, Bool.and_true, Bool.not_false, Bool.and_self, bD, dI, iD, rows_nb eK_nb, rows_nb eLd_nb]); exact .refl _
theorem laIntsC (b : Bool) (l : List Int) (hl : l.length ≤ 2 ^ 36) : DCall Tryd.prog 17 [dIs b l] [] (dIs false l) [] := by
  refine DCall.of Tryd.func17 sf17 hb17 (Nat.le_of_ble_eq_true rfl) (okRes_nil fun _ => rfl) ?_; simp only [s17, idxs, Nat.reduceAdd]
  repeat' (first
    | (with_reducible refine DW.seq ?_)
    | (with_reducible refine DW.block ?_)
    | (with_reducible refine DW.skip ?_)
    | (with_reducible refine DW.exit ?_)
    | (with_reducible refine DW.ret ?_)
    | (with_reducible refine DW.reg ?_)
    | (simp (disch := omega) only [go_sem, Nat.reduceLT, Nat.reduceLeDiff, Nat.reduceAdd, Nat.reduceMul, Nat.reduceEqDiff, ↓reduceIte, reduceCtorEq, Nat.reduceBEq, Nat.reduceBNe, Nat.reducePow, Int.reduceLE, Int.reduceLT, Int.reduceNeg, Int.reduceToNat, Int.reduceEq, Int.reduceAdd, Int.reduceSub, Int.reduceMul, Int.reduceBEq, Int.reduceBNe, bm_box, bm_row, bk_box, bk_row])
    | (exact retS_of rfl rfl rfl)
    | (refine DW.cond_tt rfl ?_)
    | (refine DW.cond_ff rfl ?_)
    | (refine DW.cond rfl ?_ ?_ <;> intro hc <;> (try simp only [go_sem] at hc))
    | (refine g_split ?_ ?_ <;> intro hc <;> (try simp only [hc]) <;> (try simp only [go_sem] at hc)))
  (refine retS_ent (Ent.rel 3 rfl) ?_; simp (disch := omega) only [go_sem, Nat.reduceLT, Nat.reduceLeDiff, Nat.reduceAdd, Nat.reduceMul, Nat.reduceEqDiff, ↓reduceIte, reduceCtorEq, Nat.reduceBEq, Nat.reduceBNe, Nat.reducePow, Int.reduceLE, Int.reduceLT, Int.reduceNeg, Int.reduceToNat, Int.reduceEq, Int.reduceAdd, Int.reduceSub, Int.reduceMul, Int.reduceBEq, Int.reduceBNe, bm_box, bm_row, bk_box, bk_row])
  refine retS_wk rfl ?_ (by simp only [Blk.nb, rowC_nb, D.nb, D.nbs, C.nb, C.nbs, C.nbss, rows_nb eI_nb, Bool.and_true, Bool.not_false, Bool.and_self, bD, dI, iD, rows_nb eK_nb, rows_nb eLd_nb]); exact .refl _
theorem refSame (b1 b2 : Bool) (s t : List Int) (hs : s.length ≤ 2 ^ 36) (ht : t.length ≤ 2 ^ 36) : DCall Tryd.prog 22 [dIs b1 s, dIs b2 t] [] (bD (decide (s = t))) [] := by
  by_cases hl : s.length = t.length
  · have e : ((s.length : Int) != t.length) = false := by rw [hl]; simp
    refine DCall.of Tryd.func22 sf22 hb22 (Nat.le_of_ble_eq_true rfl) (okRes_nil fun _ => rfl) ?_; simp only [s22, idxs, Nat.reduceAdd]
    repeat' (first
    | (with_reducible refine DW.seq ?_)
    | (with_reducible refine DW.block ?_)
    | (with_reducible refine DW.skip ?_)
    | (with_reducible refine DW.exit ?_)
    | (with_reducible refine DW.ret ?_)
    | (with_reducible refine DW.reg ?_)
    | (refine DW.dreg rfl (WF.of (by first | rfl | simp (disch := omega) only [go_sem, Nat.reduceLT, Nat.reduceLeDiff, Nat.reduceAdd, Nat.reduceMul, Nat.reduceEqDiff, ↓reduceIte, reduceCtorEq, Nat.reduceBEq, Nat.reduceBNe, Nat.reducePow, Int.reduceLE, Int.reduceLT, Int.reduceNeg, Int.reduceToNat, Int.reduceEq, Int.reduceAdd, Int.reduceSub, Int.reduceMul, Int.reduceBEq, Int.reduceBNe, bm_box, bm_row, bk_box, bk_row, e])) ?_)
    | (simp (disch := omega) only [go_sem, Nat.reduceLT, Nat.reduceLeDiff, Nat.reduceAdd, Nat.reduceMul, Nat.reduceEqDiff, ↓reduceIte, reduceCtorEq, Nat.reduceBEq, Nat.reduceBNe, Nat.reducePow, Int.reduceLE, Int.reduceLT, Int.reduceNeg, Int.reduceToNat, Int.reduceEq, Int.reduceAdd, Int.reduceSub, Int.reduceMul, Int.reduceBEq, Int.reduceBNe, bm_box, bm_row, bk_box, bk_row, e])
    | (exact retS_of rfl rfl rfl)
    | (refine DW.cond_tt rfl ?_)
    | (refine DW.cond_ff rfl ?_)
    | (refine DW.cond rfl ?_ ?_ <;> intro hc <;> (try simp only [go_sem] at hc))
    | (refine g_split ?_ ?_ <;> intro hc <;> (try simp only [hc]) <;> (try simp only [go_sem] at hc)))
    refine DW.loop (ι := { i : Nat // i ≤ s.length ∧ ∀ j, j < i → s[j]? = t[j]? }) (fun i => ⟨26, [(5, dI i.1), (1, dIs b2 t), (0, dIs b1 s)], []⟩) (fun i => s.length - i.1) ⟨0, Nat.zero_le _, fun j h => by omega⟩ ?_ ?_
    · refine Ent.to ?_ ?_ <;> simp (disch := omega) only [wkT_cons, wkX_cons, wkT_nil, wkX_nil, get, Nat.reduceEqDiff, ↓reduceIte, ex_some, wk_self, wk_top, wk_nil, wkB_self, and_self, dI, i64_in, and_true, true_and, Int.natCast_add, Int.natCast_one, Int.ofNat_zero, Int.natCast_zero]
    rintro ⟨i, hi, hij⟩
    rcases at_or s i hi with ⟨v, hv, hlt, hd⟩ | ⟨he, hd⟩
    · obtain ⟨u, hu⟩ := getE (l := t) (i := i) (by omega)
      by_cases hvu : v = u
      · have d1 : (v != u) = false := by rw [hvu]; simp
        repeat' (first
    | (with_reducible refine DW.seq ?_)
    | (with_reducible refine DW.block ?_)
    | (with_reducible refine DW.skip ?_)
    | (with_reducible refine DW.exit ?_)
    | (with_reducible refine DW.ret ?_)
    | (with_reducible refine DW.reg ?_)
    | (refine DW.dreg rfl (WF.of (by first | rfl | simp (disch := omega) only [go_sem, Nat.reduceLT, Nat.reduceLeDiff, Nat.reduceAdd, Nat.reduceMul, Nat.reduceEqDiff, ↓reduceIte, reduceCtorEq, Nat.reduceBEq, Nat.reduceBNe, Nat.reducePow, Int.reduceLE, Int.reduceLT, Int.reduceNeg, Int.reduceToNat, Int.reduceEq, Int.reduceAdd, Int.reduceSub, Int.reduceMul, Int.reduceBEq, Int.reduceBNe, bm_box, bm_row, bk_box, bk_row, hd, hv, hu, d1])) ?_)
    | (simp (disch := omega) only [go_sem, Nat.reduceLT, Nat.reduceLeDiff, Nat.reduceAdd, Nat.reduceMul, Nat.reduceEqDiff, ↓reduceIte, reduceCtorEq, Nat.reduceBEq, Nat.reduceBNe, Nat.reducePow, Int.reduceLE, Int.reduceLT, Int.reduceNeg, Int.reduceToNat, Int.reduceEq, Int.reduceAdd, Int.reduceSub, Int.reduceMul, Int.reduceBEq, Int.reduceBNe, bm_box, bm_row, bk_box, bk_row, hd, hv, hu, d1])
    | (exact retS_of rfl rfl rfl)
    | (refine DW.cond_tt rfl ?_)
    | (refine DW.cond_ff rfl ?_)
    | (refine DW.cond rfl ?_ ?_ <;> intro hc <;> (try simp only [go_sem] at hc))
    | (refine g_split ?_ ?_ <;> intro hc <;> (try simp only [hc]) <;> (try simp only [go_sem] at hc)))
        refine ⟨⟨i + 1, by omega, fun j hj => by
          rcases Nat.lt_or_ge j i with h | h
          · exact hij j h
          · obtain rfl : j = i := by omega
            rw [hv, hu, hvu]⟩, ?_, Ent.to ?_ ?_⟩ <;> first | (show _ < _; (try simp only); omega) | (simp (disch := omega) only [wkT_cons, wkX_cons, wkT_nil, wkX_nil, get, Nat.reduceEqDiff, ↓reduceIte, ex_some, wk_self, wk_top, wk_nil, wkB_self, and_self, dI, i64_in, and_true, true_and, Int.natCast_add, Int.natCast_one, Int.ofNat_zero, Int.natCast_zero])
      · have d1 : (v != u) = true := by simpa using hvu
        have hne : decide (s = t) = false := by
          rw [decide_eq_false_iff_not]
          rintro rfl
          rw [hv] at hu; cases hu; exact hvu rfl
        repeat' (first
    | (with_reducible refine DW.seq ?_)
    | (with_reducible refine DW.block ?_)
    | (with_reducible refine DW.skip ?_)
    | (with_reducible refine DW.exit ?_)
    | (with_reducible refine DW.ret ?_)
    | (with_reducible refine DW.reg ?_)
    | (refine DW.dreg rfl (WF.of (by first | rfl | simp (disch := omega) only [go_sem, Nat.reduceLT, Nat.reduceLeDiff, Nat.reduceAdd, Nat.reduceMul, Nat.reduceEqDiff, ↓reduceIte, reduceCtorEq, Nat.reduceBEq, Nat.reduceBNe, Nat.reducePow, Int.reduceLE, Int.reduceLT, Int.reduceNeg, Int.reduceToNat, Int.reduceEq, Int.reduceAdd, Int.reduceSub, Int.reduceMul, Int.reduceBEq, Int.reduceBNe, bm_box, bm_row, bk_box, bk_row, hd, hv, hu, d1])) ?_)
    | (simp (disch := omega) only [go_sem, Nat.reduceLT, Nat.reduceLeDiff, Nat.reduceAdd, Nat.reduceMul, Nat.reduceEqDiff, ↓reduceIte, reduceCtorEq, Nat.reduceBEq, Nat.reduceBNe, Nat.reducePow, Int.reduceLE, Int.reduceLT, Int.reduceNeg, Int.reduceToNat, Int.reduceEq, Int.reduceAdd, Int.reduceSub, Int.reduceMul, Int.reduceBEq, Int.reduceBNe, bm_box, bm_row, bk_box, bk_row, hd, hv, hu, d1])
    | (exact retS_of rfl rfl rfl)
    | (refine DW.cond_tt rfl ?_)
    | (refine DW.cond_ff rfl ?_)
    | (refine DW.cond rfl ?_ ?_ <;> intro hc <;> (try simp only [go_sem] at hc))
    | (refine g_split ?_ ?_ <;> intro hc <;> (try simp only [hc]) <;> (try simp only [go_sem] at hc)))
        refine retS_of rfl ?_ rfl; simp only [oneD, St.op, get, Nat.reduceEqDiff, ↓reduceIte, Option.getD_some, bD, dI]
        rw [hne]
    · have hst : decide (s = t) = true := by
        rw [decide_eq_true_eq]
        apply List.ext_getElem?
        intro j
        rcases Nat.lt_or_ge j i with h | h
        · exact hij j h
        · rw [List.getElem?_eq_none (by omega), List.getElem?_eq_none (by omega)]
      repeat' (first
    | (with_reducible refine DW.seq ?_)
    | (with_reducible refine DW.block ?_)
    | (with_reducible refine DW.skip ?_)
    | (with_reducible refine DW.exit ?_)
    | (with_reducible refine DW.ret ?_)
    | (with_reducible refine DW.reg ?_)
    | (refine DW.dreg rfl (WF.of (by first | rfl | simp (disch := omega) only [go_sem, Nat.reduceLT, Nat.reduceLeDiff, Nat.reduceAdd, Nat.reduceMul, Nat.reduceEqDiff, ↓reduceIte, reduceCtorEq, Nat.reduceBEq, Nat.reduceBNe, Nat.reducePow, Int.reduceLE, Int.reduceLT, Int.reduceNeg, Int.reduceToNat, Int.reduceEq, Int.reduceAdd, Int.reduceSub, Int.reduceMul, Int.reduceBEq, Int.reduceBNe, bm_box, bm_row, bk_box, bk_row, hd])) ?_)
    | (simp (disch := omega) only [go_sem, Nat.reduceLT, Nat.reduceLeDiff, Nat.reduceAdd, Nat.reduceMul, Nat.reduceEqDiff, ↓reduceIte, reduceCtorEq, Nat.reduceBEq, Nat.reduceBNe, Nat.reducePow, Int.reduceLE, Int.reduceLT, Int.reduceNeg, Int.reduceToNat, Int.reduceEq, Int.reduceAdd, Int.reduceSub, Int.reduceMul, Int.reduceBEq, Int.reduceBNe, bm_box, bm_row, bk_box, bk_row, hd])
    | (exact retS_of rfl rfl rfl)
    | (refine DW.cond_tt rfl ?_)
    | (refine DW.cond_ff rfl ?_)
    | (refine DW.cond rfl ?_ ?_ <;> intro hc <;> (try simp only [go_sem] at hc))
    | (refine g_split ?_ ?_ <;> intro hc <;> (try simp only [hc]) <;> (try simp only [go_sem] at hc)))
      refine retS_of rfl ?_ rfl; simp only [oneD, St.op, get, Nat.reduceEqDiff, ↓reduceIte, Option.getD_some, bD, dI]
      rw [hst]
  · have e : ((s.length : Int) != t.length) = true := by rw [bne_iff_ne]; omega
    have hne : decide (s = t) = false := by
      rw [decide_eq_false_iff_not]
      rintro rfl
      exact hl rfl
    rw [hne]
    refine DCall.of Tryd.func22 sf22 hb22 (Nat.le_of_ble_eq_true rfl) (okRes_nil fun _ => rfl) ?_; simp only [s22, idxs, Nat.reduceAdd]
    repeat' (first
    | (with_reducible refine DW.seq ?_)
    | (with_reducible refine DW.block ?_)
    | (with_reducible refine DW.skip ?_)
    | (with_reducible refine DW.exit ?_)
    | (with_reducible refine DW.ret ?_)
    | (with_reducible refine DW.reg ?_)
    | (refine DW.dreg rfl (WF.of (by first | rfl | simp (disch := omega) only [go_sem, Nat.reduceLT, Nat.reduceLeDiff, Nat.reduceAdd, Nat.reduceMul, Nat.reduceEqDiff, ↓reduceIte, reduceCtorEq, Nat.reduceBEq, Nat.reduceBNe, Nat.reducePow, Int.reduceLE, Int.reduceLT, Int.reduceNeg, Int.reduceToNat, Int.reduceEq, Int.reduceAdd, Int.reduceSub, Int.reduceMul, Int.reduceBEq, Int.reduceBNe, bm_box, bm_row, bk_box, bk_row, e])) ?_)
    | (simp (disch := omega) only [go_sem, Nat.reduceLT, Nat.reduceLeDiff, Nat.reduceAdd, Nat.reduceMul, Nat.reduceEqDiff, ↓reduceIte, reduceCtorEq, Nat.reduceBEq, Nat.reduceBNe, Nat.reducePow, Int.reduceLE, Int.reduceLT, Int.reduceNeg, Int.reduceToNat, Int.reduceEq, Int.reduceAdd, Int.reduceSub, Int.reduceMul, Int.reduceBEq, Int.reduceBNe, bm_box, bm_row, bk_box, bk_row, e])
    | (exact retS_of rfl rfl rfl)
    | (refine DW.cond_tt rfl ?_)
    | (refine DW.cond_ff rfl ?_)
    | (refine DW.cond rfl ?_ ?_ <;> intro hc <;> (try simp only [go_sem] at hc))
    | (refine g_split ?_ ?_ <;> intro hc <;> (try simp only [hc]) <;> (try simp only [go_sem] at hc)))
end Go.Dw.Seat
end
section
set_option linter.unusedSimpArgs false
set_option maxRecDepth 100000
namespace Go.Dw.Seat
open Go Go.Dw Go.Proofs Go.IntWalk
def bxEx : Lod := ⟨300, 320, 100, 110⟩
def orEx : List Lod := [⟨100, 100, 50, 50⟩, ⟨200, 200, 100, 100⟩, ⟨40, 40, 60, 60⟩]
def moEx : List Lod := [⟨100, 100, 50, 50⟩, ⟨40, 40, 60, 60⟩, ⟨50, 50, 60, 60⟩]
def ruEx : CR := ⟨5, 100, 80, 1⟩
theorem okB {l : List Lod} (h : (l.all fun b => decide (0 ≤ b.sl ∧ b.sl ≤ b.sh ∧ b.sh ≤ 20000000) && decide (0 ≤ b.wl ∧ b.wl ≤ b.wh ∧ b.wh ≤ 100000)) = true) : ∀ b ∈ l, b.ok := fun b hb => by
  have := List.all_eq_true.1 h b hb
  simp only [Bool.and_eq_true, decide_eq_true_eq] at this
  exact ⟨this.1, this.2⟩
theorem tabEx_ok : TabF tabEx := ⟨by decide, fun u hu => by cases hu; rfl, by decide, fun i u v hu hv => by
  rcases i with _ | _ | _ | i
  · cases hu; cases hv; decide
  · cases hu; cases hv; decide
  · cases hv
  · cases hv⟩
theorem tab1_ok : TabF [((0 : Int), (1000 : Int))] := ⟨by decide, fun u hu => by cases hu; rfl, by decide, fun i u v hu hv => by
  rcases i with _ | i
  · cases hv
  · cases hv⟩
theorem exRule (rs : List Int) (h : (rs.all fun x => decide (0 ≤ x ∧ x ≤ 100000)) = true) (hl : rs.length ≤ 5) : CRok ruEx rs 5 := ⟨by decide, by decide, by decide, by decide, by decide, by show (rs.length : Int) ≤ 5; omega, fun x hx => by simpa using List.all_eq_true.1 h x hx⟩
theorem exDec1 (b : Bool) : DCall Tryd.prog 19 [dCR ruEx, dIs b [120, 110, 90], dI 5] [] (.tup [dI 3, dI 0]) [] := by
  have := crDecide b ruEx [120, 110, 90] 5 (exRule _ (by decide) (by decide))
  rwa [show stateI ruEx (lotOf ruEx 5 [120, 110, 90]) = 3 by decide] at this
theorem exDec2 (b : Bool) : DCall Tryd.prog 19 [dCR ruEx, dIs b [120, 110, 70, 60], dI 5] [] (.tup [dI 2, dI 0]) [] := by
  have := crDecide b ruEx [120, 110, 70, 60] 5 (exRule _ (by decide) (by decide))
  rwa [show stateI ruEx (lotOf ruEx 5 [120, 110, 70, 60]) = 2 by decide] at this
theorem exNeed (b : Bool) : DCall Tryd.prog 20 [dCR ruEx, dIs b [120, 110, 90], dI 5] [] (.tup [dI 1, dI 2, dI 0]) [] := by
  have := crNeed b ruEx [120, 110, 90] 5 (exRule _ (by decide) (by decide)) 2 (by decide)
  rwa [show untilF ruEx 1 100000 2 (lotOf ruEx 5 [120, 110, 90]) 0 = 1 by decide, show untilF ruEx 2 0 2 (lotOf ruEx 5 [120, 110, 90]) 0 = 2 by decide] at this
theorem exOdd (b : Bool) : DCall Tryd.prog 27 [dIs b [100, 130, 104, 98], dI 5, dI 10] [] (.tup [dIs false [1], dI 0]) [] := by
  have := crOdd b [100, 130, 104, 98] 5 10 (by decide) (by decide) (by decide) (by decide)
  rwa [show oddI 5 10 [100, 130, 104, 98] = [1] by decide] at this
theorem exStr : DCall Tryd.prog 29 [dCBox ⟨5000, 6000, 4000, 4200, 1600, 587⟩] [] (.tup [.agg [dI 74226, dI 91290], dI 0]) [] :=
  crStrength ⟨5000, 6000, 4000, 4200, 1600, 587⟩ ⟨by decide, by decide, by decide, by decide⟩ 2529 2592 ⟨by decide, by decide, by decide⟩ ⟨by decide, by decide, by decide⟩
theorem exLoads : DCall Tryd.prog 35 [.c (.sl false 4 (rows eLd [bxEx, bxEx, bxEx]))] [] (.tup [.c (.sl false 2 (rows eK [(200, 220), (100, 110), (0, 0)])), dI 0]) [] :=
  crLoads [bxEx, bxEx, bxEx] (okB (by decide)) (by decide)
theorem exFall1 (b1 b2 : Bool) : DCall Tryd.prog 36 [.c (.sl b1 4 (rows eLd [bxEx, bxEx, bxEx])), .c (.sl b2 2 (rows eK tabEx)), dI 40] [] (.tup [dI 30, dI 0, dI 0]) [] := by
  have := crFall [bxEx, bxEx, bxEx] (okB (by decide)) (by decide) tabEx 40 ⟨tabEx_ok, by decide⟩
  rw [show fallR [bxEx, bxEx, bxEx] 40 tabEx = (30, 0, 0) by decide] at this
  exact this.lbl rfl (.sl (.sl (.same .nil)))
theorem exFall2 (b1 b2 : Bool) : DCall Tryd.prog 36 [.c (.sl b1 4 (rows eLd [bxEx, bxEx, bxEx])), .c (.sl b2 2 (rows eK tabEx)), dI 29] [] (.tup [dI 0, dI 0, dI 7]) [] := by
  have := crFall [bxEx, bxEx, bxEx] (okB (by decide)) (by decide) tabEx 29 ⟨tabEx_ok, by decide⟩
  rw [show fallR [bxEx, bxEx, bxEx] 29 tabEx = (0, 0, 7) by decide] at this
  exact this.lbl rfl (.sl (.sl (.same .nil)))
theorem exHigh (b : Bool) : DCall Tryd.prog 43 [.agg ((eLd bxEx).map D.c), .c (.sl b 2 (rows eK tabEx)), dI 10] [] (.tup [dI 3, dI 0]) [] := by
  have := crHigh bxEx (okB (l := [bxEx]) (by decide) _ (by simp)) tabEx 10 ⟨tabEx_ok, by decide⟩
  rw [show highI bxEx tabEx 10 = 3 by decide] at this
  exact this.lbl rfl (.same (.sl (.same .nil)))
theorem exOrder : DCall Tryd.prog 45 [.c (.sl false 4 (rows eLd orEx)), .c (.sl false 2 (rows eK [(0, 1000)])), dI 0] [] (.tup [dIs false [1, 0, 2], dI 0]) [] := by
  have := crOrder orEx (okB (by decide)) (by decide) [(0, 1000)] 0 ⟨tab1_ok, by decide⟩ (by decide +kernel)
  rwa [show ordI orEx (lastI 0 [(0, 1000)] 0) (2 ^ orEx.length - 1) (2 ^ orEx.length - 1) = [1, 0, 2] by decide +kernel] at this
theorem exMost : DCall Tryd.prog 46 [.c (.sl false 4 (rows eLd moEx)), .c (.sl false 2 (rows eK [(0, 1000)])), dI 0] [] (.tup [dIs false [0, 1], dI 0]) [] := by
  have := crMost moEx (okB (by decide)) (by decide) [(0, 1000)] 0 ⟨tab1_ok, by decide⟩
  rwa [show mostI moEx (lastI 0 [(0, 1000)] 0) = [0, 1] by decide +kernel] at this
set_option maxHeartbeats 4000000 in
theorem laKnown : DCall Tryd.prog 16 [] [] (bD true) [] := by
  have hb := laLoad bxEx
  have h1 := exDec1 true
  have h2 := exDec2 true
  have h3 := exNeed true
  have h4 := exOdd true
  have h5 := exStr
  have h6 := laSpan 5000 6000
  have h7 := laSpan 4000 4200
  refine DCall.of Tryd.func16 sf16 hb16 (Nat.le_of_ble_eq_true rfl) (okRes_nil fun _ => rfl) ?_; simp only [s16, idxs, Nat.reduceAdd]
  repeat' (first
    | (with_reducible refine DW.seq ?_)
    | (with_reducible refine DW.block ?_)
    | (with_reducible refine DW.skip ?_)
    | (with_reducible refine DW.exit ?_)
    | (with_reducible refine DW.ret ?_)
    | (with_reducible refine DW.reg ?_)
    | (refine DW.dreg rfl (WF.of (by first | rfl | simp (disch := omega) only [go_sem, Nat.reduceLT, Nat.reduceLeDiff, Nat.reduceAdd, Nat.reduceMul, Nat.reduceEqDiff, ↓reduceIte, reduceCtorEq, Nat.reduceBEq, Nat.reduceBNe, Nat.reducePow, Int.reduceLE, Int.reduceLT, Int.reduceNeg, Int.reduceToNat, Int.reduceEq, Int.reduceAdd, Int.reduceSub, Int.reduceMul, Int.reduceBEq, Int.reduceBNe, bm_box, bm_row, bk_box, bk_row])) ?_)
    | (simp (disch := omega) only [go_sem, Nat.reduceLT, Nat.reduceLeDiff, Nat.reduceAdd, Nat.reduceMul, Nat.reduceEqDiff, ↓reduceIte, reduceCtorEq, Nat.reduceBEq, Nat.reduceBNe, Nat.reducePow, Int.reduceLE, Int.reduceLT, Int.reduceNeg, Int.reduceToNat, Int.reduceEq, Int.reduceAdd, Int.reduceSub, Int.reduceMul, Int.reduceBEq, Int.reduceBNe, bm_box, bm_row, bk_box, bk_row])
    | (exact retS_of rfl rfl rfl)
    | (refine DW.cond_tt rfl ?_)
    | (refine call_c (hb) (by decide) ?_)
    | (refine call_c (h1) (by decide) ?_)
    | (refine call_c (h2) (by decide) ?_)
    | (refine call_c (h3) (by decide) ?_)
    | (refine call_c (h4) (by decide) ?_)
    | (refine call_c (h5) (by decide) ?_)
    | (refine call_c (h6) (by decide) ?_)
    | (refine call_c (h7) (by decide) ?_)
    | (refine DW.cond_ff rfl ?_)
    | (refine DW.cond rfl ?_ ?_ <;> intro hc <;> (try simp only [go_sem] at hc))
    | (refine g_split ?_ ?_ <;> intro hc <;> (try simp only [hc]) <;> (try simp only [go_sem] at hc)))
  refine call_e (Ent.rel 65 rfl) exLoads rfl rfl (by decide) ?_
  simp (disch := omega) only [go_sem, Nat.reduceLT, Nat.reduceLeDiff, Nat.reduceAdd, Nat.reduceMul, Nat.reduceEqDiff, ↓reduceIte, reduceCtorEq, Nat.reduceBEq, Nat.reduceBNe, Nat.reducePow, Int.reduceLE, Int.reduceLT, Int.reduceNeg, Int.reduceToNat, Int.reduceEq, Int.reduceAdd, Int.reduceSub, Int.reduceMul, Int.reduceBEq, Int.reduceBNe, bm_box, bm_row, bk_box, bk_row]
  have f1 := exFall1 true false
  have f2 := exFall2 true false
  have f3 := exHigh false
  have tb := laTable
  have o1 := laLoad ⟨100, 100, 50, 50⟩
  have o2 := laLoad ⟨200, 200, 100, 100⟩
  have o3 := laLoad ⟨40, 40, 60, 60⟩
  have o4 := laLoad ⟨50, 50, 60, 60⟩
  have t1 : ((tabEx.length : Nat) : Int) = 3 := rfl
  have t2 : tabEx.take 1 = [(0, 1000)] := rfl
  repeat' (first
    | (with_reducible refine DW.seq ?_)
    | (with_reducible refine DW.block ?_)
    | (with_reducible refine DW.skip ?_)
    | (with_reducible refine DW.exit ?_)
    | (with_reducible refine DW.ret ?_)
    | (with_reducible refine DW.reg ?_)
    | (refine DW.dreg rfl (WF.of (by first | rfl | simp (disch := omega) only [go_sem, Nat.reduceLT, Nat.reduceLeDiff, Nat.reduceAdd, Nat.reduceMul, Nat.reduceEqDiff, ↓reduceIte, reduceCtorEq, Nat.reduceBEq, Nat.reduceBNe, Nat.reducePow, Int.reduceLE, Int.reduceLT, Int.reduceNeg, Int.reduceToNat, Int.reduceEq, Int.reduceAdd, Int.reduceSub, Int.reduceMul, Int.reduceBEq, Int.reduceBNe, bm_box, bm_row, bk_box, bk_row, t1, t2])) ?_)
    | (simp (disch := omega) only [go_sem, Nat.reduceLT, Nat.reduceLeDiff, Nat.reduceAdd, Nat.reduceMul, Nat.reduceEqDiff, ↓reduceIte, reduceCtorEq, Nat.reduceBEq, Nat.reduceBNe, Nat.reducePow, Int.reduceLE, Int.reduceLT, Int.reduceNeg, Int.reduceToNat, Int.reduceEq, Int.reduceAdd, Int.reduceSub, Int.reduceMul, Int.reduceBEq, Int.reduceBNe, bm_box, bm_row, bk_box, bk_row, t1, t2])
    | (exact retS_of rfl rfl rfl)
    | (refine DW.cond_tt rfl ?_)
    | (refine call_c (f1) (by decide) ?_)
    | (refine call_c (f2) (by decide) ?_)
    | (refine call_c (f3) (by decide) ?_)
    | (refine call_c (tb) (by decide) ?_)
    | (refine call_c (o1) (by decide) ?_)
    | (refine call_c (o2) (by decide) ?_)
    | (refine call_c (o3) (by decide) ?_)
    | (refine call_c (o4) (by decide) ?_)
    | (refine DW.cond_ff rfl ?_)
    | (refine DW.cond rfl ?_ ?_ <;> intro hc <;> (try simp only [go_sem] at hc))
    | (refine g_split ?_ ?_ <;> intro hc <;> (try simp only [hc]) <;> (try simp only [go_sem] at hc)))
  refine call_e (Ent.rel 99 rfl) exOrder rfl rfl (by decide) ?_
  simp (disch := omega) only [go_sem, Nat.reduceLT, Nat.reduceLeDiff, Nat.reduceAdd, Nat.reduceMul, Nat.reduceEqDiff, ↓reduceIte, reduceCtorEq, Nat.reduceBEq, Nat.reduceBNe, Nat.reducePow, Int.reduceLE, Int.reduceLT, Int.reduceNeg, Int.reduceToNat, Int.reduceEq, Int.reduceAdd, Int.reduceSub, Int.reduceMul, Int.reduceBEq, Int.reduceBNe, bm_box, bm_row, bk_box, bk_row]
  repeat' (first
    | (with_reducible refine DW.seq ?_)
    | (with_reducible refine DW.block ?_)
    | (with_reducible refine DW.skip ?_)
    | (with_reducible refine DW.exit ?_)
    | (with_reducible refine DW.ret ?_)
    | (with_reducible refine DW.reg ?_)
    | (refine DW.dreg rfl (WF.of (by first | rfl | simp (disch := omega) only [go_sem, Nat.reduceLT, Nat.reduceLeDiff, Nat.reduceAdd, Nat.reduceMul, Nat.reduceEqDiff, ↓reduceIte, reduceCtorEq, Nat.reduceBEq, Nat.reduceBNe, Nat.reducePow, Int.reduceLE, Int.reduceLT, Int.reduceNeg, Int.reduceToNat, Int.reduceEq, Int.reduceAdd, Int.reduceSub, Int.reduceMul, Int.reduceBEq, Int.reduceBNe, bm_box, bm_row, bk_box, bk_row, t1, t2])) ?_)
    | (simp (disch := omega) only [go_sem, Nat.reduceLT, Nat.reduceLeDiff, Nat.reduceAdd, Nat.reduceMul, Nat.reduceEqDiff, ↓reduceIte, reduceCtorEq, Nat.reduceBEq, Nat.reduceBNe, Nat.reducePow, Int.reduceLE, Int.reduceLT, Int.reduceNeg, Int.reduceToNat, Int.reduceEq, Int.reduceAdd, Int.reduceSub, Int.reduceMul, Int.reduceBEq, Int.reduceBNe, bm_box, bm_row, bk_box, bk_row, t1, t2])
    | (exact retS_of rfl rfl rfl)
    | (refine DW.cond_tt rfl ?_)
    | (refine call_c (tb) (by decide) ?_)
    | (refine call_c (o1) (by decide) ?_)
    | (refine call_c (o2) (by decide) ?_)
    | (refine call_c (o3) (by decide) ?_)
    | (refine call_c (o4) (by decide) ?_)
    | (refine DW.cond_ff rfl ?_)
    | (refine DW.cond rfl ?_ ?_ <;> intro hc <;> (try simp only [go_sem] at hc))
    | (refine g_split ?_ ?_ <;> intro hc <;> (try simp only [hc]) <;> (try simp only [go_sem] at hc)))
  refine call_e (Ent.rel 109 rfl) exMost rfl rfl (by decide) ?_
  simp (disch := omega) only [go_sem, Nat.reduceLT, Nat.reduceLeDiff, Nat.reduceAdd, Nat.reduceMul, Nat.reduceEqDiff, ↓reduceIte, reduceCtorEq, Nat.reduceBEq, Nat.reduceBNe, Nat.reducePow, Int.reduceLE, Int.reduceLT, Int.reduceNeg, Int.reduceToNat, Int.reduceEq, Int.reduceAdd, Int.reduceSub, Int.reduceMul, Int.reduceBEq, Int.reduceBNe, bm_box, bm_row, bk_box, bk_row]
  have s1 : DCall Tryd.prog 22 [dIs false [1], dIs true [1]] [] (bD true) [] := refSame false true [1] [1] (by decide) (by decide)
  have s2 : DCall Tryd.prog 22 [dIs false [1, 0, 2], dIs true [1, 0, 2]] [] (bD true) [] := refSame false true [1, 0, 2] [1, 0, 2] (by decide) (by decide)
  have s3 : DCall Tryd.prog 22 [dIs false [0, 1], dIs true [0, 1]] [] (bD true) [] := refSame false true [0, 1] [0, 1] (by decide) (by decide)
  have p1 := laSpan 74226 91290
  have p2 := laSpan 200 220
  have p3 := laSpan 0 0
  repeat' (first
    | (with_reducible refine DW.seq ?_)
    | (with_reducible refine DW.block ?_)
    | (with_reducible refine DW.skip ?_)
    | (with_reducible refine DW.exit ?_)
    | (with_reducible refine DW.ret ?_)
    | (with_reducible refine DW.reg ?_)
    | (refine DW.dreg rfl (WF.of (by first | rfl | simp (disch := omega) only [go_sem, Nat.reduceLT, Nat.reduceLeDiff, Nat.reduceAdd, Nat.reduceMul, Nat.reduceEqDiff, ↓reduceIte, reduceCtorEq, Nat.reduceBEq, Nat.reduceBNe, Nat.reducePow, Int.reduceLE, Int.reduceLT, Int.reduceNeg, Int.reduceToNat, Int.reduceEq, Int.reduceAdd, Int.reduceSub, Int.reduceMul, Int.reduceBEq, Int.reduceBNe, bm_box, bm_row, bk_box, bk_row, rows, List.map_cons, List.map_nil])) ?_)
    | (simp (disch := omega) only [go_sem, Nat.reduceLT, Nat.reduceLeDiff, Nat.reduceAdd, Nat.reduceMul, Nat.reduceEqDiff, ↓reduceIte, reduceCtorEq, Nat.reduceBEq, Nat.reduceBNe, Nat.reducePow, Int.reduceLE, Int.reduceLT, Int.reduceNeg, Int.reduceToNat, Int.reduceEq, Int.reduceAdd, Int.reduceSub, Int.reduceMul, Int.reduceBEq, Int.reduceBNe, bm_box, bm_row, bk_box, bk_row, rows, List.map_cons, List.map_nil])
    | (exact retS_of rfl rfl rfl)
    | (refine DW.cond_tt rfl ?_)
    | (refine call_c (s1) (by decide) ?_)
    | (refine call_c (s2) (by decide) ?_)
    | (refine call_c (s3) (by decide) ?_)
    | (refine call_c (p1) (by decide) ?_)
    | (refine call_c (p2) (by decide) ?_)
    | (refine call_c (p3) (by decide) ?_)
    | (refine DW.cond_ff rfl ?_)
    | (refine DW.cond rfl ?_ ?_ <;> intro hc <;> (try simp only [go_sem] at hc))
    | (refine g_split ?_ ?_ <;> intro hc <;> (try simp only [hc]) <;> (try simp only [go_sem] at hc)))
end Go.Dw.Seat
end
section
set_option linter.unusedSimpArgs false
set_option maxRecDepth 100000
namespace Go.Dw.Seat
open Go Go.Dw Go.Proofs Go.IntWalk
def nearB (off spread : Int) (l : List Int) (x : Int) : Bool := l.all fun y => decide (lowT off x - highT off y ≤ spread)
def closeB (off spread : Int) (l : List Int) : Bool := l.all (nearB off spread l)
def lexB : List Int → List Int → Bool
  | a :: s, b :: t => if a = b then lexB s t else decide (a < b)
  | _, _ => false
def lessB (s t : List Int) : Bool := if s.length = t.length then lexB s t else decide (s.length < t.length)
def outN (s : Nat) : Nat → List Int
  | 0 => []
  | i + 1 => if s.testBit i then outN s i ++ [(i : Int)] else outN s i
def rstN {α : Type} (rs : List α) (s : Nat) : Nat → List α
  | 0 => []
  | i + 1 => if s.testBit i then rstN rs s i else rstN rs s i ++ (rs[i]?).toList
theorem outN_len (s : Nat) : ∀ i, (outN s i).length ≤ i
  | 0 => Nat.le_refl _
  | i + 1 => by
    have := outN_len s i
    simp only [outN]
    split <;> simp <;> omega
end Go.Dw.Seat
end
section
set_option linter.unusedSimpArgs false
set_option maxRecDepth 100000
namespace Go.Dw.Seat
open Go Go.Dw Go.Proofs Go.IntWalk
theorem lexB_irr : ∀ s : List Int, lexB s s = false
  | [] => rfl
  | a :: s => by simp only [lexB, if_true]; exact lexB_irr s
theorem lexB_trans : ∀ {s t u : List Int}, s.length = t.length → t.length = u.length → lexB s t = true → lexB t u = true → lexB s u = true
  | [], [], _, _, _, h, _ => by cases h
  | a :: s, b :: t, c :: u, h, h', h1, h2 => by
    simp only [lexB] at h1 h2 ⊢
    by_cases hab : a = b
    · subst hab
      rw [if_pos rfl] at h1
      by_cases hbc : a = c
      · subst hbc
        rw [if_pos rfl] at h2 ⊢
        exact lexB_trans (by simpa using h) (by simpa using h') h1 h2
      · rw [if_neg hbc] at h2 ⊢; exact h2
    · rw [if_neg hab] at h1
      by_cases hbc : b = c
      · subst hbc
        rw [if_neg hab]; exact h1
      · rw [if_neg hbc] at h2
        simp only [decide_eq_true_eq] at h1 h2
        rw [if_neg (by omega)]
        exact decide_eq_true (by omega)
theorem lessB_irr (s : List Int) : lessB s s = false := by rw [lessB, if_pos rfl]; exact lexB_irr s
theorem lessB_trans {s t u : List Int} (h1 : lessB s t = true) (h2 : lessB t u = true) : lessB s u = true := by
  unfold lessB at h1 h2 ⊢
  by_cases h : s.length = t.length
  · rw [if_pos h] at h1
    by_cases h' : t.length = u.length
    · rw [if_pos h'] at h2
      rw [if_pos (by omega)]
      exact lexB_trans h h' h1 h2
    · rw [if_neg h'] at h2
      rw [if_neg (by omega)]
      simp only [decide_eq_true_eq] at h2 ⊢
      omega
  · rw [if_neg h] at h1
    simp only [decide_eq_true_eq] at h1
    by_cases h' : t.length = u.length
    · rw [if_neg (by omega)]
      exact decide_eq_true (by omega)
    · rw [if_neg h'] at h2
      simp only [decide_eq_true_eq] at h2
      rw [if_neg (by omega)]
      exact decide_eq_true (by omega)
theorem cmpL_lex' : ∀ {s t : List Int}, s.length = t.length → (cmpL s t < 0 ↔ lexB s t = true)
  | [], [], _ => by simp [cmpL, lexB]
  | a :: s, b :: t, h => by
    have ih := cmpL_lex' (s := s) (t := t) (by simpa using h)
    have e : cmpL (a :: s) (b :: t) = if cmpI a b = 0 then cmpL s t else cmpI a b := rfl
    have e2 : lexB (a :: s) (b :: t) = if a = b then lexB s t else decide (a < b) := rfl
    rw [e, e2]
    unfold cmpI
    by_cases h1 : a < b
    · rw [if_pos h1, if_neg (by decide), if_neg (by omega), decide_eq_true h1]; simp
    · rw [if_neg h1]
      by_cases h2 : b < a
      · rw [if_pos h2, if_neg (by decide), if_neg (by omega), decide_eq_false h1]; simp
      · rw [if_neg h2, if_pos rfl, if_pos (by omega)]; exact ih
theorem cmpL_lex {s t : List Int} (h : s.length = t.length) : decide (cmpL s t < 0) = lexB s t := by
  rw [Bool.eq_iff_iff, decide_eq_true_eq]; exact cmpL_lex' h
theorem better_eq (s t : List Int) : better s t = lessB s t := by
  unfold better lessB orI2
  by_cases h : s.length = t.length
  · have hc : cmpI (s.length : Int) (t.length : Int) = 0 := by rw [h, cmpI, if_neg (by omega), if_neg (by omega)]
    rw [if_pos h, hc, if_neg (by simp), cmpL_lex h]
  · rw [if_neg h]
    unfold cmpI
    by_cases h1 : (s.length : Int) < t.length
    · rw [if_pos h1]
      have : s.length < t.length := by omega
      simp [this]
    · rw [if_neg h1, if_pos (by omega)]
      have : ¬ s.length < t.length := by omega
      rw [if_pos (by omega), decide_eq_false this]; rfl
def outP (p : Nat → Bool) : Nat → List Int
  | 0 => []
  | i + 1 => if p i then outP p i ++ [(i : Int)] else outP p i
theorem outN_P (s : Nat) : ∀ n, outN s n = outP s.testBit n
  | 0 => rfl
  | n + 1 => by simp only [outN, outP, outN_P s n]
theorem outP_congr {p q : Nat → Bool} : ∀ {n}, (∀ j, j < n → p j = q j) → outP p n = outP q n
  | 0, _ => rfl
  | n + 1, h => by
    have ih := outP_congr (n := n) (fun j hj => h j (by omega))
    simp only [outP, h n (by omega), ih]
theorem outP_sub {p q : Nat → Bool} : ∀ {n}, (∀ j, j < n → p j = true → q j = true) → (outP p n).length ≤ (outP q n).length ∧ ((outP p n).length = (outP q n).length → outP p n = outP q n)
  | 0, _ => ⟨Nat.le_refl _, fun _ => rfl⟩
  | n + 1, h => by
    obtain ⟨h1, h2⟩ := outP_sub (n := n) (fun j hj => h j (by omega))
    have hn := h n (by omega)
    simp only [outP]
    cases hp : p n <;> cases hq : q n
    · simpa using ⟨h1, h2⟩
    · simp only [Bool.false_eq_true, if_false, if_true, List.length_append, List.length_singleton]
      exact ⟨by omega, fun e => by omega⟩
    · rw [hp, hq] at hn; exact absurd (hn rfl) (by decide)
    · simp only [if_true, List.length_append, List.length_singleton]
      exact ⟨by omega, fun e => by rw [h2 (by omega)]⟩
def maskP (p : Nat → Bool) : Nat → Nat
  | 0 => 0
  | n + 1 => maskP p n ||| (if p n then 2 ^ n else 0)
theorem maskP_lt (p : Nat → Bool) : ∀ n, maskP p n < 2 ^ n
  | 0 => Nat.one_pos
  | n + 1 => by
    have h := maskP_lt p n
    have h2 : 2 ^ n < 2 ^ (n + 1) := Nat.pow_lt_pow_right (by decide) (by omega)
    simp only [maskP]
    refine Nat.or_lt_two_pow (by omega) ?_
    split
    · exact h2
    · exact Nat.two_pow_pos _
theorem maskP_bit (p : Nat → Bool) (j : Nat) : ∀ n, (maskP p n).testBit j = (decide (j < n) && p j)
  | 0 => by simp [maskP]
  | n + 1 => by
    simp only [maskP, Nat.testBit_or, maskP_bit p j n]
    by_cases h : j = n
    · subst h
      cases hp : p j <;> simp [hp]
    · have : (if p n then 2 ^ n else 0).testBit j = false := by
        split
        · rw [Nat.testBit_two_pow]; exact decide_eq_false (by omega)
        · simp
      rw [this, Bool.or_false]
      congr 1
      rw [decide_eq_decide]; omega
theorem rstN_get {α : Type} {rs : List α} {s : Nat} {x : α} : ∀ {n}, n ≤ rs.length → (x ∈ rstN rs s n ↔ ∃ j, j < n ∧ s.testBit j = false ∧ rs[j]? = some x)
  | 0, _ => by simp [rstN]
  | n + 1, h => by
    have ih := rstN_get (rs := rs) (s := s) (x := x) (n := n) (by omega)
    obtain ⟨v, hv⟩ := getE (l := rs) (i := n) (by omega)
    simp only [rstN]
    cases hb : s.testBit n with
    | true =>
      rw [if_pos rfl, ih]
      constructor
      · rintro ⟨j, h1, h2⟩; exact ⟨j, by omega, h2⟩
      · rintro ⟨j, h1, h2, h3⟩
        have : j ≠ n := fun e => by rw [e, hb] at h2; cases h2
        exact ⟨j, by omega, h2, h3⟩
    | false =>
      rw [if_neg (by decide), hv, List.mem_append, ih]
      simp only [Option.toList_some, List.mem_singleton]
      constructor
      · rintro (⟨j, h1, h2⟩ | rfl)
        · exact ⟨j, by omega, h2⟩
        · exact ⟨n, by omega, hb, hv⟩
      · rintro ⟨j, h1, h2, h3⟩
        by_cases e : j = n
        · subst e
          rw [hv] at h3; cases h3; exact .inr rfl
        · exact .inl ⟨j, by omega, h2, h3⟩
theorem closeB_iff {off spread : Int} {rs : List Int} {s : Nat} : closeB off spread (rstN rs s rs.length) = true ↔ ∀ j k x y, s.testBit j = false → s.testBit k = false → rs[j]? = some x → rs[k]? = some y → lowT off x - highT off y ≤ spread := by
  simp only [closeB, nearB, List.all_eq_true, decide_eq_true_eq]
  constructor
  · intro h j k x y hj hk hx hy
    have lt : ∀ {j : Nat} {x : Int}, rs[j]? = some x → j < rs.length := fun h => (List.getElem?_eq_some_iff.1 h).1
    exact h x ((rstN_get (Nat.le_refl _)).2 ⟨j, lt hx, hj, hx⟩) y ((rstN_get (Nat.le_refl _)).2 ⟨k, lt hy, hk, hy⟩)
  · intro h x hx y hy
    obtain ⟨j, _, hj, hxj⟩ := (rstN_get (Nat.le_refl _)).1 hx
    obtain ⟨k, _, hk, hyk⟩ := (rstN_get (Nat.le_refl _)).1 hy
    exact h j k x y hj hk hxj hyk
def pOut (off lo hi : Int) (rs : List Int) (j : Nat) : Bool := match rs[j]? with
  | some x => isOut off lo hi x
  | none => false
theorem outI_P (off lo hi : Int) (rs : List Int) : ∀ n, n ≤ rs.length → outI off lo hi 0 (rs.take n) = outP (pOut off lo hi rs) n
  | 0, _ => rfl
  | n + 1, h => by
    obtain ⟨v, hv⟩ := getE (l := rs) (i := n) (by omega)
    rw [outI_take hv, outI_P off lo hi rs n (by omega), outP, pOut, hv]
theorem outI_all (off lo hi : Int) (rs : List Int) : outI off lo hi 0 rs = outP (pOut off lo hi rs) rs.length := by
  have := outI_P off lo hi rs rs.length (Nat.le_refl _)
  rwa [List.take_length] at this
def oOf (off spread : Int) (rs : List Int) (x : Int) : List Int := outI off (highT off x) (highT off x + spread) 0 rs
theorem oOf_closed (off spread : Int) (rs : List Int) (x : Int) : ∃ s, s < 2 ^ rs.length ∧ outN s rs.length = oOf off spread rs x ∧ closeB off spread (rstN rs s rs.length) = true := by
  refine ⟨maskP (pOut off (highT off x) (highT off x + spread) rs) rs.length, maskP_lt _ _, ?_, ?_⟩
  · rw [outN_P, oOf, outI_all]
    exact outP_congr fun j hj => by rw [maskP_bit, decide_eq_true hj, Bool.true_and]
  · rw [closeB_iff]
    intro j k y z hj hk hy hz
    have lt : ∀ {j : Nat} {x : Int}, rs[j]? = some x → j < rs.length := fun h => (List.getElem?_eq_some_iff.1 h).1
    rw [maskP_bit, decide_eq_true (lt hy), Bool.true_and, pOut, hy] at hj
    rw [maskP_bit, decide_eq_true (lt hz), Bool.true_and, pOut, hz] at hk
    simp only [isOut, Bool.or_eq_false_iff, decide_eq_false_iff_not] at hj hk
    omega
theorem min_ex {α : Type} (f : α → Int) : ∀ (l : List α), l ≠ [] → ∃ x ∈ l, ∀ y ∈ l, f x ≤ f y
  | [], h => absurd rfl h
  | [x], _ => ⟨x, by simp, fun y hy => by simp at hy; rw [hy]; exact Int.le_refl _⟩
  | x :: y :: l, _ => by
    obtain ⟨z, hz, hm⟩ := min_ex f (y :: l) (by simp)
    by_cases h : f x ≤ f z
    · exact ⟨x, by simp, fun w hw => by
        rcases List.mem_cons.1 hw with rfl | hw
        · exact Int.le_refl _
        · have := hm w hw; omega⟩
    · exact ⟨z, by simp [hz], fun w hw => by
        rcases List.mem_cons.1 hw with rfl | hw
        · omega
        · exact hm w hw⟩
theorem oOf_least {off spread : Int} {rs : List Int} (hne : rs ≠ []) {s : Nat} (hc : closeB off spread (rstN rs s rs.length) = true) : ∃ x ∈ rs, oOf off spread rs x = outN s rs.length ∨ lessB (oOf off spread rs x) (outN s rs.length) = true := by
  have lt : ∀ {j : Nat} {x : Int}, rs[j]? = some x → j < rs.length := fun h => (List.getElem?_eq_some_iff.1 h).1
  have fin : ∀ x ∈ rs, (∀ j, j < rs.length → pOut off (highT off x) (highT off x + spread) rs j = true → s.testBit j = true) → ∃ x ∈ rs, oOf off spread rs x = outN s rs.length ∨ lessB (oOf off spread rs x) (outN s rs.length) = true := by
    intro x hx h
    refine ⟨x, hx, ?_⟩
    rw [oOf, outI_all, outN_P]
    obtain ⟨h1, h2⟩ := outP_sub h
    by_cases e : (outP (pOut off (highT off x) (highT off x + spread) rs) rs.length).length = (outP s.testBit rs.length).length
    · exact .inl (h2 e)
    · right
      rw [lessB, if_neg e]
      exact decide_eq_true (by omega)
  by_cases hr : rstN rs s rs.length = []
  · obtain ⟨x, t, rfl⟩ := List.exists_cons_of_ne_nil hne
    refine fin x (by simp) (fun j hj _ => ?_)
    cases hb : s.testBit j with
    | true => rfl
    | false =>
      obtain ⟨v, hv⟩ := getE hj
      have := (rstN_get (rs := x :: t) (s := s) (x := v) (Nat.le_refl _)).2 ⟨j, hj, hb, hv⟩
      rw [hr] at this; cases this
  · obtain ⟨x, hx, hm⟩ := min_ex (highT off) _ hr
    obtain ⟨i, hi, hib, hix⟩ := (rstN_get (Nat.le_refl _)).1 hx
    refine fin x (List.mem_of_getElem? hix) (fun j hj hp => ?_)
    cases hb : s.testBit j with
    | true => rfl
    | false =>
      obtain ⟨v, hv⟩ := getE hj
      rw [pOut, hv] at hp
      have h1 := hm v ((rstN_get (Nat.le_refl _)).2 ⟨j, hj, hb, hv⟩)
      have h2 := closeB_iff.1 hc j i v x hb hib hv hix
      simp only [isOut, Bool.or_eq_true, decide_eq_true_eq] at hp
      omega
theorem oddI_min (off spread : Int) (rs : List Int) : ∀ n, n ≤ rs.length → 0 < n → (∃ x ∈ rs, ((rs.take n).zipIdx).foldl (oddF off spread rs) [] = oOf off spread rs x) ∧ ∀ j x, j < n → rs[j]? = some x → lessB (oOf off spread rs x) (((rs.take n).zipIdx).foldl (oddF off spread rs) []) = false
  | 0, _, h => by omega
  | n + 1, hn, _ => by
    obtain ⟨v, hv⟩ := getE (l := rs) (i := n) (by omega)
    have hs := oddI_take (off := off) (spread := spread) hv
    rw [hs]
    have hF : ∀ best, oddF off spread rs best (v, n) = if n = 0 then oOf off spread rs v else if lessB (oOf off spread rs v) best then oOf off spread rs v else best := fun best => by rw [← better_eq]; rfl
    rw [hF]
    by_cases h0 : n = 0
    · subst h0
      rw [if_pos rfl]
      refine ⟨⟨v, List.mem_of_getElem? hv, rfl⟩, fun j x hj hx => ?_⟩
      obtain rfl : j = 0 := by omega
      rw [hv] at hx; cases hx
      exact lessB_irr _
    · rw [if_neg h0]
      obtain ⟨⟨x0, hx0, he⟩, h2⟩ := oddI_min off spread rs n (by omega) (by omega)
      generalize ((rs.take n).zipIdx).foldl (oddF off spread rs) [] = best at *
      cases hc : lessB (oOf off spread rs v) best with
      | true =>
        rw [if_pos rfl]
        refine ⟨⟨v, List.mem_of_getElem? hv, rfl⟩, fun j x hj hx => ?_⟩
        by_cases hjn : j = n
        · subst hjn
          rw [hv] at hx; cases hx
          exact lessB_irr _
        · have h3 := h2 j x (by omega) hx
          cases hl : lessB (oOf off spread rs x) (oOf off spread rs v) with
          | false => rfl
          | true => rw [lessB_trans hl hc] at h3; cases h3
      | false =>
        rw [if_neg (by decide)]
        refine ⟨⟨x0, hx0, he⟩, fun j x hj hx => ?_⟩
        by_cases hjn : j = n
        · subst hjn
          rw [hv] at hx; cases hx
          exact hc
        · exact h2 j x (by omega) hx
end Go.Dw.Seat
end
section
set_option linter.unusedSimpArgs false
set_option maxRecDepth 100000
namespace Go.Dw.Seat
open Go Go.Dw Go.Proofs Go.IntWalk
theorem odd_least (off spread : Int) (rs : List Int) : (∃ s, s < 2 ^ rs.length ∧ oddI off spread rs = outN s rs.length ∧ closeB off spread (rstN rs s rs.length) = true) ∧ ∀ s, closeB off spread (rstN rs s rs.length) = true → (oddI off spread rs).length ≤ (outN s rs.length).length := by
  rcases rs with _ | ⟨x, t⟩
  · exact ⟨⟨0, by decide, rfl, rfl⟩, fun s _ => Nat.zero_le _⟩
  · have hm := oddI_min off spread (x :: t) (x :: t).length (Nat.le_refl _) (by simp)
    rw [List.take_length] at hm
    obtain ⟨⟨y, hy, he⟩, h2⟩ := hm
    have e : ((x :: t).zipIdx).foldl (oddF off spread (x :: t)) [] = oddI off spread (x :: t) := rfl
    rw [e] at he h2
    refine ⟨?_, fun s hc => ?_⟩
    · obtain ⟨s, h3, h4, h5⟩ := oOf_closed off spread (x :: t) y
      exact ⟨s, h3, by rw [he, h4], h5⟩
    · obtain ⟨z, hz, h3⟩ := oOf_least (by simp) hc
      obtain ⟨j, hj⟩ := List.mem_iff_getElem?.1 hz
      have h4 := h2 j z (List.getElem?_eq_some_iff.1 hj).1 hj
      have h5 : (oddI off spread (x :: t)).length ≤ (oOf off spread (x :: t) z).length := by
        rcases Nat.lt_or_ge (oOf off spread (x :: t) z).length (oddI off spread (x :: t)).length with h | h
        · rw [lessB, if_neg (by omega), decide_eq_false_iff_not] at h4; omega
        · exact h
      rcases h3 with h3 | h3
      · rw [← h3]; exact h5
      · rw [lessB] at h3
        split at h3
        · omega
        · rw [decide_eq_true_eq] at h3; omega
theorem odd_wider {off off' spread spread' : Int} (h1 : off ≤ off') (h2 : spread ≤ spread') (rs : List Int) : (oddI off' spread' rs).length ≤ (oddI off spread rs).length := by
  obtain ⟨⟨s, hs, he, hc⟩, _⟩ := odd_least off spread rs
  rw [he]
  refine (odd_least off' spread' rs).2 s ?_
  rw [closeB_iff] at hc ⊢
  intro j k x y hj hk hx hy
  have := hc j k x y hj hk hx hy
  have l1 : lowT off' x ≤ lowT off x := by unfold lowT; split <;> split <;> omega
  have l2 : highT off y ≤ highT off' y := by unfold highT; split <;> split <;> omega
  omega
def lmF (f : Nat → Bool) (off : Int) (rs : List Int) : Nat → Int × Int
  | 0 => (0, 1048576)
  | i + 1 => if f i then lmF f off rs i else match rs[i]? with
    | some x => (if (lmF f off rs i).1 < x - off then x - off else (lmF f off rs i).1, if x + off < (lmF f off rs i).2 then x + off else (lmF f off rs i).2)
    | none => lmF f off rs i
def nearI (f : Nat → Bool) (off spread : Int) (rs : List Int) : Bool := decide ((lmF f off rs rs.length).1 - (lmF f off rs rs.length).2 ≤ spread)
theorem lmF_b {f : Nat → Bool} {off : Int} {rs : List Int} (ho : 0 ≤ off ∧ off ≤ 1000) (h : ∀ x ∈ rs, 0 ≤ x ∧ x ≤ 255) : ∀ i, (0 ≤ (lmF f off rs i).1 ∧ (lmF f off rs i).1 ≤ 255) ∧ 0 ≤ (lmF f off rs i).2 ∧ (lmF f off rs i).2 ≤ 1048576
  | 0 => by simp [lmF]
  | i + 1 => by
    have ih := lmF_b (f := f) ho h i
    rw [lmF]
    split
    · exact ih
    · split
      · rename_i x hx
        have hx2 := h x (List.mem_of_getElem? hx)
        dsimp only
        constructor <;> split <;> omega
      · exact ih
theorem lmF_all {f : Nat → Bool} {off : Int} {rs : List Int} : ∀ {i j : Nat} {x : Int}, j < i → f j = false → rs[j]? = some x → x - off ≤ (lmF f off rs i).1 ∧ (lmF f off rs i).2 ≤ x + off
  | i + 1, j, x, hj, hf, hx => by
    rw [lmF]
    by_cases e : j = i
    · subst e
      rw [hf, if_neg (by decide), hx]
      dsimp only
      constructor <;> split <;> omega
    · have ih := lmF_all (off := off) (i := i) (j := j) (x := x) (by omega) hf hx
      split
      · exact ih
      · split
        · dsimp only
          constructor <;> split <;> omega
        · exact ih
theorem lmF_some {f : Nat → Bool} {off : Int} {rs : List Int} : ∀ i, ((lmF f off rs i).1 = 0 ∨ ∃ j x, f j = false ∧ rs[j]? = some x ∧ (lmF f off rs i).1 = x - off) ∧ ((lmF f off rs i).2 = 1048576 ∨ ∃ j x, f j = false ∧ rs[j]? = some x ∧ (lmF f off rs i).2 = x + off)
  | 0 => ⟨.inl rfl, .inl rfl⟩
  | i + 1 => by
    obtain ⟨h1, h2⟩ := lmF_some (f := f) (off := off) (rs := rs) i
    rw [lmF]
    split
    · exact ⟨h1, h2⟩
    · rename_i hf
      split
      · rename_i x hx
        dsimp only
        constructor
        · split
          · exact .inr ⟨i, x, by simpa using hf, hx, rfl⟩
          · exact h1
        · split
          · exact .inr ⟨i, x, by simpa using hf, hx, rfl⟩
          · exact h2
      · exact ⟨h1, h2⟩
theorem near_close {f : Nat → Bool} {off spread : Int} {rs : List Int} {s : Nat} (ho : 0 ≤ off ∧ off ≤ 1000) (hs : 0 ≤ spread) (h : ∀ x ∈ rs, 0 ≤ x ∧ x ≤ 255) (hf : ∀ j, j < rs.length → f j = s.testBit j) : nearI f off spread rs = closeB off spread (rstN rs s rs.length) := by
  have lt : ∀ {j : Nat} {x : Int}, rs[j]? = some x → j < rs.length := fun h => (List.getElem?_eq_some_iff.1 h).1
  have hb := lmF_b (f := f) ho h rs.length
  obtain ⟨h1, h2⟩ := lmF_some (f := f) (off := off) (rs := rs) rs.length
  have key : nearI f off spread rs = true ↔ closeB off spread (rstN rs s rs.length) = true := by
    rw [closeB_iff, nearI, decide_eq_true_eq]
    constructor
    · intro hn j k x y hj hk hx hy
      have a := (lmF_all (f := f) (off := off) (lt hx) (by rw [hf j (lt hx), hj]) hx).1
      have b := (lmF_all (f := f) (off := off) (lt hy) (by rw [hf k (lt hy), hk]) hy).2
      have hy2 := h y (List.mem_of_getElem? hy)
      unfold lowT highT
      split <;> split <;> omega
    · intro hc
      rcases h1 with h1 | ⟨j, x, hj, hx, h1⟩
      · omega
      · rcases h2 with h2 | ⟨k, y, hk, hy, h2⟩
        · have := h x (List.mem_of_getElem? hx)
          omega
        · have hx2 := h x (List.mem_of_getElem? hx)
          have hy2 := h y (List.mem_of_getElem? hy)
          have := hc j k x y (by rw [← hf j (lt hx), hj]) (by rw [← hf k (lt hy), hk]) hx hy
          have l1 : x - off ≤ lowT off x := by unfold lowT; split <;> omega
          have l2 : highT off y = y + off := by unfold highT; rw [if_pos (by omega)]
          omega
  cases e1 : nearI f off spread rs <;> cases e2 : closeB off spread (rstN rs s rs.length)
  · rfl
  · rw [key.2 e2] at e1; cases e1
  · rw [key.1 e1] at e2; cases e2
  · rfl
def oN (s : Nat) : Nat → List Nat
  | 0 => []
  | i + 1 => if s.testBit i then oN s i ++ [i] else oN s i
theorem outN_map (s : Nat) : ∀ n, outN s n = (oN s n).map fun i : Nat => (i : Int)
  | 0 => rfl
  | n + 1 => by
    simp only [outN, oN, outN_map s n]
    split <;> simp
theorem oN_mem {s t : Nat} : ∀ {n}, t ∈ oN s n ↔ t < n ∧ s.testBit t = true
  | 0 => by simp [oN]
  | n + 1 => by
    have ih := oN_mem (s := s) (t := t) (n := n)
    rw [oN]
    by_cases e : t = n
    · subst e
      cases hb : s.testBit t <;> simp [ih]
    · split
      · simp only [List.mem_append, ih, List.mem_singleton, e, or_false]
        constructor <;> rintro ⟨a, b⟩ <;> exact ⟨by omega, b⟩
      · rw [ih]
        constructor <;> rintro ⟨a, b⟩ <;> exact ⟨by omega, b⟩
theorem oN_asc {s : Nat} : ∀ {n i a b : Nat}, (oN s n)[i]? = some a → (oN s n)[i + 1]? = some b → a < b
  | n + 1, i, a, b, ha, hb => by
    rw [oN] at ha hb
    split at ha
    · rename_i h
      rw [if_pos h] at hb
      rw [List.getElem?_append] at ha hb
      split at hb
      · rename_i h1
        rw [if_pos (by omega)] at ha
        exact oN_asc ha hb
      · rename_i h1
        split at ha
        · have := (oN_mem.1 (List.mem_of_getElem? ha)).1
          have hb2 : b = n := by
            have := List.mem_of_getElem? hb
            simpa using this
          omega
        · rename_i h2
          have : (i + 1 - (oN s n).length) ≠ 0 := by omega
          rw [List.getElem?_eq_none (by simp only [List.length_singleton]; omega)] at hb
          cases hb
    · rename_i h
      rw [if_neg h] at hb
      exact oN_asc ha hb
def gM (o : List Nat) : Nat → Memo
  | 0 => []
  | i + 1 => match o[i]? with
    | some a => mUpd (gM o i) a true
    | none => gM o i
theorem gM_find (o : List Nat) (t : Nat) : ∀ n, n ≤ o.length → (mFind (gM o n) t).getD false = decide (t ∈ o.take n)
  | 0, _ => by simp [gM, mFind]
  | n + 1, h => by
    obtain ⟨a, ha⟩ := getE (l := o) (i := n) (by omega)
    have ih := gM_find o t n (by omega)
    rw [gM, ha, find_upd, List.take_add_one, ha]
    simp only [Option.toList_some, List.mem_append, List.mem_singleton]
    by_cases e : t = a
    · subst e; simp
    · rw [if_neg e, ih]; simp [e]
def hM (s : Nat) : Nat → Memo
  | 0 => []
  | i + 1 => if s.testBit i then mUpd (hM s i) i true else hM s i
theorem hM_find (s t : Nat) : ∀ n, (mFind (hM s n) t).getD false = (decide (t < n) && s.testBit t)
  | 0 => by simp [hM, mFind]
  | n + 1 => by
    have ih := hM_find s t n
    rw [hM]
    by_cases e : t = n
    · subst e
      cases hb : s.testBit t
      · rw [if_neg (by decide), ih]; simp [hb]
      · rw [if_pos rfl, find_upd, if_pos rfl]; simp
    · have : (decide (t < n + 1) && s.testBit t) = (decide (t < n) && s.testBit t) := by
        congr 1; rw [decide_eq_decide]; omega
      rw [this]
      split
      · rw [find_upd, if_neg e, ih]
      · exact ih
theorem and_one16 (m : Nat) : (andI IntKind.u16 (m : Int) 1 == 1) = decide (m % 2 = 1) := by
  have e : andI IntKind.u16 (m : Int) 1 = ((m % 2 : Nat) : Int) := by
    have h1 : (BitVec.ofInt 16 (m : Int) &&& BitVec.ofInt 16 1).toNat = m % 2 := by
      rw [BitVec.toNat_and, BitVec.ofInt_natCast, BitVec.toNat_ofNat]
      show (m % 65536) &&& 1 = m % 2
      rw [Nat.and_one_is_mod]; omega
    show IntKind.u16.wrap ((BitVec.ofInt 16 (m : Int) &&& BitVec.ofInt 16 1).toNat : Int) = _
    rw [h1]
    rcases Nat.mod_two_eq_zero_or_one m with h | h <;> rw [h] <;> decide
  rw [e]
  rcases Nat.mod_two_eq_zero_or_one m with h | h <;> rw [h] <;> decide
theorem bit_u16 (s i : Nat) : (andI IntKind.u16 ((s >>> i : Nat) : Int) 1 == 1) = s.testBit i := by
  rw [and_one16]
  have : s.testBit i = (s >>> i).testBit 0 := by rw [Nat.testBit_shiftRight, Nat.add_zero]
  rw [this, Nat.testBit_zero]
end Go.Dw.Seat
end
section
set_option linter.unusedSimpArgs false
set_option maxRecDepth 100000
namespace Go.Dw.Seat
open Go Go.Dw Go.Proofs Go.ChangeShapes Go.WideShapes Go.ChangeAt Go.RowKit Go.IntWalk
theorem tOwn : ownKnob Tryd.prog.godebug = none := by kernel_rfl
theorem tLaid : laidOutB Tryd.prog = true := by kernel_rfl
theorem u4 : Tryd.prog.underlying 4 = some .bool := by kernel_rfl
abbrev laid2 : List (String × DataW Unit) := [("math/bits.deBruijn32tab", YtmkkedldhafjfaaDoor.Rows.laid_math_bits_deBruijn32tab), ("math/bits.deBruijn64tab", YtmkkedldhafjfaaDoor.Rows.laid_math_bits_deBruijn64tab)]
theorem gTab64 : Tryd.prog.globalNamed "math/bits.deBruijn64tab" = some 1 := by kernel_rfl
theorem tTab64 : (Tryd.prog.globals[1]?).map (·.type) = some 187 := by kernel_rfl
theorem uTab64 : Tryd.prog.underlying 187 = some (.array 64 5) := by kernel_rfl
theorem cells5 : Tryd.prog.cellsOf 5 = 1 := by kernel_rfl
theorem und5 : Tryd.prog.underlying 5 = some (.int .u8) := by kernel_rfl
theorem door_met (os : Os) (args : Array Value) : laidMetH Tryd.prog laid2 ((World.doorLaid Tryd.prog 400 os).forCall (fun _ _ => 0) ⟨#[], args, []⟩).memory :=
  laidMetH_of_parts3 (fuel := 8) (laidMet_of_run' 8 (by kernel_rfl) (by kernel_rfl)) (by kernel_rfl) (by kernel_rfl)
theorem tabD : (YtmkkedldhafjfaaDoor.Rows.laid_math_bits_deBruijn64tab : DataW Unit) = .agg (tabI.map fun n => .lit (.int .u8 n)) := rfl
theorem laid_of {W : World} (h : laidMetH Tryd.prog laid2 W) : LaidA (fun _ => False) W := by
  rw [MakeChecks.laidMetH_plain _ _ _ (by kernel_rfl)] at h
  obtain ⟨ps, ⟨g0, t0, cs0, f0, p0, q0, hg0, ht0, hv0, hd0, ⟨g1, t1, cs1, f1, p1, q1, hg1, ht1, hv1, hd1, _, _⟩, _⟩, _, _⟩ := h
  obtain rfl := Option.some.inj (gTab64.symm.trans hg1)
  obtain rfl := Option.some.inj (tTab64.symm.trans ht1)
  obtain ⟨xs, m, rfl, hx, hlen, hn, hel⟩ := DataW.trod_array uTab64 hd1
  rw [tabD] at hx
  simp only [Prod.mk.injEq, DataW.agg.injEq] at hx
  have key : ∀ j v, tab64[j]? = some v → W.cell? ⟨1, j, none⟩ = some v ∧ v.oneCell' = true := by
    intro j v hj
    rw [tab_get, Option.map_eq_some_iff] at hj
    obtain ⟨n, hn', rfl⟩ := hj
    have hj64 : j < 64 := (List.getElem?_eq_some_iff.1 hn').1
    have h1 := hel j hj64
    rw [cells5, Nat.mul_one] at h1
    obtain ⟨y, hy⟩ : ∃ y, xs[j]? = some y := ⟨xs[j]'(by omega), by simp [hn, hj64]⟩
    rw [hy] at h1
    obtain ⟨k, e1, e2, _⟩ := DataW.trod_int und5 h1
    have e3 : (xs.map (·.1))[j]? = some y.1 := by rw [List.getElem?_map, hy]; rfl
    rw [← hx.1, List.getElem?_map, hn'] at e3
    simp only [Option.map_some, Option.some.injEq] at e3
    have hk : k = n := by rw [e2] at e3; simpa using e3.symm
    subst hk
    have e4 : cs1.toList[j]? = some (.int .u8 k) := take_one e1
    refine ⟨?_, rfl⟩
    rw [World.var?_cell hg1 hv1 j]
    simpa using e4
  intro p hp
  have hp' : p = (1, tab64) := by simpa [Lays.l] using hp
  subst hp'
  refine ⟨?_, fun h => h, key⟩
  have h0 := (key 0 _ rfl).1
  rcases Nat.lt_or_ge 1 W.heap.size with h | h
  · exact h
  · have : W.heap[1]? = none := by simpa using h
    simp [World.cell?, this] at h0
end Go.Dw.Seat
end
section
set_option linter.unusedSimpArgs false
set_option maxRecDepth 100000
namespace Go.Dw.Seat
open Go Go.Dw Go.Proofs Go.ChangeShapes Go.WideShapes Go.ChangeAt Go.RowKit
theorem u91 : Tryd.prog.underlying 91 = some (.int .u16) := by kernel_rfl
theorem u93 : Tryd.prog.underlying 93 = some (.slice 5) := by kernel_rfl
theorem u94 : Tryd.prog.underlying 94 = some (.array 3 5) := by kernel_rfl
theorem cl94 : Tryd.prog.cellsOf 94 = 3 := by kernel_rfl
def eN (k : IntKind) (l : List Nat) : List C := l.map fun n : Nat => .v (.int k (n : Int))
def e1 (k : IntKind) (n : Nat) : List C := [.v (.int k n)]
def AllLt (b : Nat) (l : List Nat) : Prop := ∀ x ∈ l, x < b
section
variable {H : Type} {enc : TypeId × Value → H} {w : World} {base : Nat} {spare : Nat → Bool} {held : Bool} {fuel : Nat} {cs : List Value} {x : DataW H × List MemPlace}
theorem wf8 {n : Int} (h : (Lit.int .u8 n).wf = true) : ∃ v : Nat, n = v ∧ v < 256 := by
  have e1 : IntKind.min .u8 = 0 := by decide
  have e2 : IntKind.max .u8 = 255 := by decide
  simp only [Lit.wf, e1, e2, Bool.and_eq_true, decide_eq_true_eq] at h
  exact ⟨n.toNat, by omega, by omega⟩
theorem wf16 {n : Int} (h : (Lit.int .u16 n).wf = true) : ∃ v : Nat, n = v ∧ v < 65536 := by
  have e1 : IntKind.min .u16 = 0 := by decide
  have e2 : IntKind.max .u16 = 65535 := by decide
  simp only [Lit.wf, e1, e2, Bool.and_eq_true, decide_eq_true_eq] at h
  exact ⟨n.toNat, by omega, by omega⟩
theorem rd_U8 (h : DataW.trod enc Tryd.prog w base spare held fuel 5 cs = some x) : ∃ v : Nat, cs = [.int .u8 v] ∧ v < 256 := by
  obtain ⟨n, e, hw⟩ := rd_int und5 h
  obtain ⟨v, rfl, hv⟩ := wf8 hw
  exact ⟨v, e, hv⟩
theorem rd_U16 (h : DataW.trod enc Tryd.prog w base spare held fuel 91 cs = some x) : ∃ v : Nat, cs = [.int .u16 v] ∧ v < 65536 := by
  obtain ⟨n, e, hw⟩ := rd_int u91 h
  obtain ⟨v, rfl, hv⟩ := wf16 hw
  exact ⟨v, e, hv⟩
theorem rep_ints (k : IntKind) : ∀ l : List Nat, RepVs w A0 (eN k l) (l.map fun n : Nat => Value.int k (n : Int))
  | [] => rfl
  | _ :: l => ⟨_, _, rfl, ⟨rfl, rfl⟩, rep_ints k l⟩
theorem rd_arrN {t e : TypeId} {n b : Nat} {k : IntKind} (ht : Tryd.prog.underlying t = some (.array n e)) (he : Tryd.prog.cellsOf e = 1) (hc : Tryd.prog.cellsOf t = n)
    (hrd : ∀ m cs x, DataW.trod enc Tryd.prog w base spare held m e cs = some x → ∃ v : Nat, cs = [.int k v] ∧ v < b) (h : DataW.trod enc Tryd.prog w base spare held fuel t cs = some x) : ∃ l : List Nat, (l.length = n ∧ AllLt b l) ∧ RepVs w A0 (eN k l) cs := by
  obtain ⟨hl, m, hf⟩ := rd_array ht h
  rw [hc] at hl
  have key : ∀ j, j ≤ n → ∃ l : List Nat, (l.length = j ∧ AllLt b l) ∧ cs.take j = l.map fun n : Nat => Value.int k (n : Int) := by
    intro j
    induction j with
    | zero => intro _; exact ⟨[], ⟨rfl, fun x hx => by cases hx⟩, rfl⟩
    | succ j ih =>
      intro hj
      obtain ⟨l, ⟨h1, h2⟩, h3⟩ := ih (by omega)
      obtain ⟨y, hy⟩ := hf j (by omega)
      rw [he, Nat.mul_one] at hy
      obtain ⟨v, e1, hv⟩ := hrd _ _ _ hy
      have e2 := take_one e1
      refine ⟨l ++ [v], ⟨by simp [h1], fun x hx => ?_⟩, ?_⟩
      · rcases List.mem_append.1 hx with hx | hx
        · exact h2 x hx
        · rw [List.mem_singleton] at hx; rw [hx]; exact hv
      · rw [List.take_add_one, h3, e2]; simp
  obtain ⟨l, h1, h2⟩ := key n (Nat.le_refl _)
  rw [List.take_of_length_le (by omega)] at h2
  rw [h2]
  exact ⟨l, h1, rep_ints k l⟩
theorem rd_slN {t e : TypeId} {b : Nat} {k : IntKind} (ht : Tryd.prog.underlying t = some (.slice e)) (he : Tryd.prog.cellsOf e = 1)
    (hrd : ∀ m cs x, DataW.trod enc Tryd.prog w base spare held m e cs = some x → ∃ v : Nat, cs = [.int k v] ∧ v < b) (h : DataW.trod enc Tryd.prog w base spare held fuel t cs = some x) :
    ∃ (l : List Nat) (v : Value), cs = [v] ∧ RepC w A0 (.sl false 1 (rows (e1 k) l)) v ∧ l.length ≤ maxLen ∧ AllLt b l := by
  obtain ⟨l, v, e', hr, hm, _⟩ := rd_slice (f := fun v : {v : Nat // v < b} => e1 k v.1) ht he (by decide) (fun _ => rfl) (fun m cs x h => by
    obtain ⟨n, e, hn⟩ := hrd m cs x h
    subst e
    exact ⟨⟨n, hn⟩, _, _, rfl, ⟨rfl, rfl⟩, rfl⟩) h
  refine ⟨l.map (·.1), v, e', ?_, by simpa using hm, fun u hu => ?_⟩
  · have : rows (e1 k) (l.map (·.1)) = rows (fun v : {v : Nat // v < b} => e1 k v.1) l := by simp [rows, Function.comp_def]
    rw [this]; exact hr
  · obtain ⟨a, _, rfl⟩ := List.mem_map.1 hu
    exact a.2
theorem rd_A3 (h : DataW.trod enc Tryd.prog w base spare held fuel 94 cs = some x) : ∃ l : List Nat, (l.length = 3 ∧ AllLt 256 l) ∧ RepVs w A0 (eN .u8 l) cs := rd_arrN u94 cells5 cl94 (fun _ _ _ h => rd_U8 h) h
theorem rd_Us (h : DataW.trod enc Tryd.prog w base spare held fuel 93 cs = some x) : ∃ (l : List Nat) (v : Value), cs = [v] ∧ RepC w A0 (.sl false 1 (rows (e1 .u8) l)) v ∧ l.length ≤ maxLen ∧ AllLt 256 l := rd_slN u93 cells5 (fun _ _ _ h => rd_U8 h) h
structure LotB where
  rule : List Nat
  off : Nat
  tests : List (List Nat)
structure LotB.ok (x : LotB) : Prop where
  rule : x.rule.length = 4 ∧ AllLt 256 x.rule
  off : x.off < 256
  tests : ∀ u ∈ x.tests, u.length = 2 ∧ AllLt 256 u
  len : x.tests.length ≤ maxLen
structure PileB where
  boxes : List (List Nat)
  steps : List (List Nat)
structure PileB.ok (x : PileB) : Prop where
  boxes : ∀ u ∈ x.boxes, u.length = 4 ∧ AllLt 256 u
  steps : ∀ u ∈ x.steps, u.length = 2 ∧ AllLt 256 u
  blen : x.boxes.length ≤ maxLen
  slen : x.steps.length ≤ maxLen
end
end Go.Dw.Seat
end
section
set_option linter.unusedSimpArgs false
set_option maxRecDepth 100000
namespace Go.Dw.Seat
open Go Go.Dw Go.Proofs Go.IntWalk
abbrev memI (K lm : Nat) (m : Memo) : Nat × Blk := (K, .pmap lm (mK .i64 m) (mD m))
attribute [go_sem] memI
theorem memI_ok (r : D) (hr : ∀ k, r.men k = false) (K lm : Nat) (m : Memo) : okRes r [memI K lm m] := by
  refine ⟨fun k _ => hr k, fun j x hj k hk => ?_⟩
  simp only [get] at hj
  split at hj
  · cases hj; exact mD_men k m
  · cases hj
theorem memI_nb (K lm : Nat) (m : Memo) {k : Nat} {x : Blk} (hk : get k [memI K lm m] = some x) : k = K ∧ x = .pmap lm (mK .i64 m) (mD m) ∧ x.nb = true := by
  simp only [get] at hk
  split at hk
  · rename_i e; cases hk; exact ⟨e, rfl, mD_nb m⟩
  · cases hk
theorem look1_mK' (k : IntKind) (s : Nat) (m : Memo) (b0 : Bool) : lookIn (.c (.v (.bool b0))) (mK k m) (mD m) (.int k s) false = some (.c (.v (.bool ((mFind m s).getD b0)))) := look1_mK k s m b0
def goneF (m : Memo) (t : Nat) : Bool := (mFind m t).getD false
set_option maxHeartbeats 2000000 in
theorem laNear66 (b : Bool) (rs : List Int) (lm : Nat) (m : Memo) (off spread : Int) (hl : rs.length ≤ 14) (ho : 0 ≤ off ∧ off ≤ 100) (hs : 0 ≤ spread ∧ spread ≤ 100) (h : ∀ x ∈ rs, 0 ≤ x ∧ x ≤ 255) : DCall Tryd.prog 51 [dIs b rs, .c (.v (.map (some lm))), dI off, dI spread] [memI 66 lm m] (bD (nearI (goneF m) off spread rs)) [memI 66 lm m] := by
  unfold nearI
  refine DCall.of Tryd.func51 sf51 hb51 (Nat.le_of_ble_eq_true rfl) (memI_ok _ (fun _ => rfl) _ _ _) ?_
  simp only [s51, idxs, Nat.reduceAdd]
  repeat' (first
    | (with_reducible refine DW.seq ?_)
    | (with_reducible refine DW.block ?_)
    | (with_reducible refine DW.skip ?_)
    | (with_reducible refine DW.exit ?_)
    | (with_reducible refine DW.ret ?_)
    | (with_reducible refine DW.reg ?_)
    | (refine DW.dreg rfl (WF.of (by first | rfl | simp (disch := omega) only [go_sem, Nat.reduceLT, Nat.reduceLeDiff, Nat.reduceAdd, Nat.reduceMul, Nat.reduceEqDiff, ↓reduceIte, reduceCtorEq, Nat.reduceBEq, Nat.reduceBNe, Nat.reducePow, Int.reduceLE, Int.reduceLT, Int.reduceNeg, Int.reduceToNat, Int.reduceEq, Int.reduceAdd, Int.reduceSub, Int.reduceMul, Int.reduceBEq, Int.reduceBNe, bm_box, bm_row, bk_box, bk_row])) ?_)
    | (simp (disch := omega) only [go_sem, Nat.reduceLT, Nat.reduceLeDiff, Nat.reduceAdd, Nat.reduceMul, Nat.reduceEqDiff, ↓reduceIte, reduceCtorEq, Nat.reduceBEq, Nat.reduceBNe, Nat.reducePow, Int.reduceLE, Int.reduceLT, Int.reduceNeg, Int.reduceToNat, Int.reduceEq, Int.reduceAdd, Int.reduceSub, Int.reduceMul, Int.reduceBEq, Int.reduceBNe, bm_box, bm_row, bk_box, bk_row])
    | (exact retS_of rfl rfl rfl)
    | (refine DW.cond_tt rfl ?_)
    | (refine DW.cond_ff rfl ?_)
    | (refine DW.cond rfl ?_ ?_ <;> intro hc <;> (try simp only [go_sem] at hc))
    | (refine g_split ?_ ?_ <;> intro hc <;> (try simp only [hc]) <;> (try simp only [go_sem] at hc)))
  refine DW.loop (ι := { i : Nat // i ≤ rs.length }) (fun i => ⟨43, [(11, dI i.1), (10, dI (lmF (goneF m) off rs i.1).2), (9, dI (lmF (goneF m) off rs i.1).1), (3, dI spread), (2, dI off), (1, .c (.v (.map (some lm)))), (0, dIs b rs)], [memI 66 lm m]⟩) (fun i => rs.length - i.1) ⟨0, Nat.zero_le _⟩ ?_ ?_
  · refine Ent.to ?_ ?_ <;> simp (disch := omega) only [wkT_cons, wkX_cons, wkT_nil, wkX_nil, get, Nat.reduceEqDiff, ↓reduceIte, ex_some, wk_self, wk_top, wk_nil, wkB_self, and_self, dI, i64_in, and_true, true_and, Int.natCast_add, Int.natCast_one, Int.ofNat_zero, Int.natCast_zero, lmF]
  rintro ⟨i, hi⟩
  dsimp only
  have hb := lmF_b (f := goneF m) (off := off) (rs := rs) (by omega) h i
  rcases at_or rs i hi with ⟨v, hv, hlt, hd⟩ | ⟨he, hd⟩
  · have hvv := h v (List.mem_of_getElem? hv)
    cases hq : (mFind m i).getD false with
    | true =>
      have hs1 : lmF (goneF m) off rs (i + 1) = lmF (goneF m) off rs i := by rw [lmF, goneF, hq, if_pos rfl]
      generalize lmF (goneF m) off rs i = L at *
      repeat' (first
    | (with_reducible refine DW.seq ?_)
    | (with_reducible refine DW.block ?_)
    | (with_reducible refine DW.skip ?_)
    | (with_reducible refine DW.exit ?_)
    | (with_reducible refine DW.ret ?_)
    | (with_reducible refine DW.reg ?_)
    | (refine DW.dreg rfl (WF.of (by first | rfl | simp (disch := omega) only [go_sem, Nat.reduceLT, Nat.reduceLeDiff, Nat.reduceAdd, Nat.reduceMul, Nat.reduceEqDiff, ↓reduceIte, reduceCtorEq, Nat.reduceBEq, Nat.reduceBNe, Nat.reducePow, Int.reduceLE, Int.reduceLT, Int.reduceNeg, Int.reduceToNat, Int.reduceEq, Int.reduceAdd, Int.reduceSub, Int.reduceMul, Int.reduceBEq, Int.reduceBNe, bm_box, bm_row, bk_box, bk_row, hd, hv, hq, look1_mK'])) ?_)
    | (simp (disch := omega) only [go_sem, Nat.reduceLT, Nat.reduceLeDiff, Nat.reduceAdd, Nat.reduceMul, Nat.reduceEqDiff, ↓reduceIte, reduceCtorEq, Nat.reduceBEq, Nat.reduceBNe, Nat.reducePow, Int.reduceLE, Int.reduceLT, Int.reduceNeg, Int.reduceToNat, Int.reduceEq, Int.reduceAdd, Int.reduceSub, Int.reduceMul, Int.reduceBEq, Int.reduceBNe, bm_box, bm_row, bk_box, bk_row, hd, hv, hq, look1_mK'])
    | (exact retS_of rfl rfl rfl)
    | (refine DW.cond_tt rfl ?_)
    | (refine DW.cond_ff rfl ?_)
    | (refine DW.cond rfl ?_ ?_ <;> intro hc <;> (try simp only [go_sem] at hc))
    | (refine g_split ?_ ?_ <;> intro hc <;> (try simp only [hc]) <;> (try simp only [go_sem] at hc)))
      refine ⟨⟨i + 1, hlt⟩, ?_, Ent.to ?_ ?_⟩ <;> first | (show _ < _; (try simp only); omega) | (simp (disch := omega) only [wkT_cons, wkX_cons, wkT_nil, wkX_nil, get, Nat.reduceEqDiff, ↓reduceIte, ex_some, wk_self, wk_top, wk_nil, wkB_self, and_self, dI, i64_in, and_true, true_and, Int.natCast_add, Int.natCast_one, Int.ofNat_zero, Int.natCast_zero,  hs1])
    | false =>
      have hs1 : lmF (goneF m) off rs (i + 1) = (if (lmF (goneF m) off rs i).1 < v - off then v - off else (lmF (goneF m) off rs i).1, if v + off < (lmF (goneF m) off rs i).2 then v + off else (lmF (goneF m) off rs i).2) := by rw [lmF, goneF, hq, if_neg (by decide), hv]
      generalize lmF (goneF m) off rs i = L at *
      obtain ⟨L1, L2⟩ := L
      dsimp only at hb hs1 ⊢
      repeat' (first
    | (with_reducible refine DW.seq ?_)
    | (with_reducible refine DW.block ?_)
    | (with_reducible refine DW.skip ?_)
    | (with_reducible refine DW.exit ?_)
    | (with_reducible refine DW.ret ?_)
    | (with_reducible refine DW.reg ?_)
    | (refine DW.dreg rfl (WF.of (by first | rfl | simp (disch := omega) only [go_sem, Nat.reduceLT, Nat.reduceLeDiff, Nat.reduceAdd, Nat.reduceMul, Nat.reduceEqDiff, ↓reduceIte, reduceCtorEq, Nat.reduceBEq, Nat.reduceBNe, Nat.reducePow, Int.reduceLE, Int.reduceLT, Int.reduceNeg, Int.reduceToNat, Int.reduceEq, Int.reduceAdd, Int.reduceSub, Int.reduceMul, Int.reduceBEq, Int.reduceBNe, bm_box, bm_row, bk_box, bk_row, hd, hv, hq, look1_mK'])) ?_)
    | (simp (disch := omega) only [go_sem, Nat.reduceLT, Nat.reduceLeDiff, Nat.reduceAdd, Nat.reduceMul, Nat.reduceEqDiff, ↓reduceIte, reduceCtorEq, Nat.reduceBEq, Nat.reduceBNe, Nat.reducePow, Int.reduceLE, Int.reduceLT, Int.reduceNeg, Int.reduceToNat, Int.reduceEq, Int.reduceAdd, Int.reduceSub, Int.reduceMul, Int.reduceBEq, Int.reduceBNe, bm_box, bm_row, bk_box, bk_row, hd, hv, hq, look1_mK'])
    | (exact retS_of rfl rfl rfl)
    | (refine DW.cond_tt rfl ?_)
    | (refine DW.cond_ff rfl ?_)
    | (refine DW.cond rfl ?_ ?_ <;> intro hc <;> (try simp only [go_sem] at hc))
    | (refine g_split ?_ ?_ <;> intro hc <;> (try simp only [hc]) <;> (try simp only [go_sem] at hc)))
      refine ⟨⟨i + 1, hlt⟩, ?_, Ent.to ?_ ?_⟩ <;> first | (show _ < _; (try simp only); omega) | (simp (disch := omega) only [wkT_cons, wkX_cons, wkT_nil, wkX_nil, get, Nat.reduceEqDiff, ↓reduceIte, ex_some, wk_self, wk_top, wk_nil, wkB_self, and_self, dI, i64_in, and_true, true_and, Int.natCast_add, Int.natCast_one, Int.ofNat_zero, Int.natCast_zero,  hs1])
  · subst he
    generalize lmF (goneF m) off rs rs.length = L at *
    obtain ⟨L1, L2⟩ := L
    dsimp only at hb ⊢
    repeat' (first
    | (with_reducible refine DW.seq ?_)
    | (with_reducible refine DW.block ?_)
    | (with_reducible refine DW.skip ?_)
    | (with_reducible refine DW.exit ?_)
    | (with_reducible refine DW.ret ?_)
    | (with_reducible refine DW.reg ?_)
    | (refine DW.dreg rfl (WF.of (by first | rfl | simp (disch := omega) only [go_sem, Nat.reduceLT, Nat.reduceLeDiff, Nat.reduceAdd, Nat.reduceMul, Nat.reduceEqDiff, ↓reduceIte, reduceCtorEq, Nat.reduceBEq, Nat.reduceBNe, Nat.reducePow, Int.reduceLE, Int.reduceLT, Int.reduceNeg, Int.reduceToNat, Int.reduceEq, Int.reduceAdd, Int.reduceSub, Int.reduceMul, Int.reduceBEq, Int.reduceBNe, bm_box, bm_row, bk_box, bk_row, hd])) ?_)
    | (simp (disch := omega) only [go_sem, Nat.reduceLT, Nat.reduceLeDiff, Nat.reduceAdd, Nat.reduceMul, Nat.reduceEqDiff, ↓reduceIte, reduceCtorEq, Nat.reduceBEq, Nat.reduceBNe, Nat.reducePow, Int.reduceLE, Int.reduceLT, Int.reduceNeg, Int.reduceToNat, Int.reduceEq, Int.reduceAdd, Int.reduceSub, Int.reduceMul, Int.reduceBEq, Int.reduceBNe, bm_box, bm_row, bk_box, bk_row, hd])
    | (exact retS_of rfl rfl rfl)
    | (refine DW.cond_tt rfl ?_)
    | (refine DW.cond_ff rfl ?_)
    | (refine DW.cond rfl ?_ ?_ <;> intro hc <;> (try simp only [go_sem] at hc))
    | (refine g_split ?_ ?_ <;> intro hc <;> (try simp only [hc]) <;> (try simp only [go_sem] at hc)))
    exact retS_bs rfl rfl rfl (fun j x hj => ⟨hj, (memI_nb 66 lm m hj).2.2⟩)
set_option maxHeartbeats 2000000 in
theorem laNear108 (b : Bool) (rs : List Int) (lm : Nat) (m : Memo) (off spread : Int) (hl : rs.length ≤ 14) (ho : 0 ≤ off ∧ off ≤ 100) (hs : 0 ≤ spread ∧ spread ≤ 100) (h : ∀ x ∈ rs, 0 ≤ x ∧ x ≤ 255) : DCall Tryd.prog 51 [dIs b rs, .c (.v (.map (some lm))), dI off, dI spread] [memI 108 lm m] (bD (nearI (goneF m) off spread rs)) [memI 108 lm m] := by
  unfold nearI
  refine DCall.of Tryd.func51 sf51 hb51 (Nat.le_of_ble_eq_true rfl) (memI_ok _ (fun _ => rfl) _ _ _) ?_
  simp only [s51, idxs, Nat.reduceAdd]
  repeat' (first
    | (with_reducible refine DW.seq ?_)
    | (with_reducible refine DW.block ?_)
    | (with_reducible refine DW.skip ?_)
    | (with_reducible refine DW.exit ?_)
    | (with_reducible refine DW.ret ?_)
    | (with_reducible refine DW.reg ?_)
    | (refine DW.dreg rfl (WF.of (by first | rfl | simp (disch := omega) only [go_sem, Nat.reduceLT, Nat.reduceLeDiff, Nat.reduceAdd, Nat.reduceMul, Nat.reduceEqDiff, ↓reduceIte, reduceCtorEq, Nat.reduceBEq, Nat.reduceBNe, Nat.reducePow, Int.reduceLE, Int.reduceLT, Int.reduceNeg, Int.reduceToNat, Int.reduceEq, Int.reduceAdd, Int.reduceSub, Int.reduceMul, Int.reduceBEq, Int.reduceBNe, bm_box, bm_row, bk_box, bk_row])) ?_)
    | (simp (disch := omega) only [go_sem, Nat.reduceLT, Nat.reduceLeDiff, Nat.reduceAdd, Nat.reduceMul, Nat.reduceEqDiff, ↓reduceIte, reduceCtorEq, Nat.reduceBEq, Nat.reduceBNe, Nat.reducePow, Int.reduceLE, Int.reduceLT, Int.reduceNeg, Int.reduceToNat, Int.reduceEq, Int.reduceAdd, Int.reduceSub, Int.reduceMul, Int.reduceBEq, Int.reduceBNe, bm_box, bm_row, bk_box, bk_row])
    | (exact retS_of rfl rfl rfl)
    | (refine DW.cond_tt rfl ?_)
    | (refine DW.cond_ff rfl ?_)
    | (refine DW.cond rfl ?_ ?_ <;> intro hc <;> (try simp only [go_sem] at hc))
    | (refine g_split ?_ ?_ <;> intro hc <;> (try simp only [hc]) <;> (try simp only [go_sem] at hc)))
  refine DW.loop (ι := { i : Nat // i ≤ rs.length }) (fun i => ⟨43, [(11, dI i.1), (10, dI (lmF (goneF m) off rs i.1).2), (9, dI (lmF (goneF m) off rs i.1).1), (3, dI spread), (2, dI off), (1, .c (.v (.map (some lm)))), (0, dIs b rs)], [memI 108 lm m]⟩) (fun i => rs.length - i.1) ⟨0, Nat.zero_le _⟩ ?_ ?_
  · refine Ent.to ?_ ?_ <;> simp (disch := omega) only [wkT_cons, wkX_cons, wkT_nil, wkX_nil, get, Nat.reduceEqDiff, ↓reduceIte, ex_some, wk_self, wk_top, wk_nil, wkB_self, and_self, dI, i64_in, and_true, true_and, Int.natCast_add, Int.natCast_one, Int.ofNat_zero, Int.natCast_zero, lmF]
  rintro ⟨i, hi⟩
  dsimp only
  have hb := lmF_b (f := goneF m) (off := off) (rs := rs) (by omega) h i
  rcases at_or rs i hi with ⟨v, hv, hlt, hd⟩ | ⟨he, hd⟩
  · have hvv := h v (List.mem_of_getElem? hv)
    cases hq : (mFind m i).getD false with
    | true =>
      have hs1 : lmF (goneF m) off rs (i + 1) = lmF (goneF m) off rs i := by rw [lmF, goneF, hq, if_pos rfl]
      generalize lmF (goneF m) off rs i = L at *
      repeat' (first
    | (with_reducible refine DW.seq ?_)
    | (with_reducible refine DW.block ?_)
    | (with_reducible refine DW.skip ?_)
    | (with_reducible refine DW.exit ?_)
    | (with_reducible refine DW.ret ?_)
    | (with_reducible refine DW.reg ?_)
    | (refine DW.dreg rfl (WF.of (by first | rfl | simp (disch := omega) only [go_sem, Nat.reduceLT, Nat.reduceLeDiff, Nat.reduceAdd, Nat.reduceMul, Nat.reduceEqDiff, ↓reduceIte, reduceCtorEq, Nat.reduceBEq, Nat.reduceBNe, Nat.reducePow, Int.reduceLE, Int.reduceLT, Int.reduceNeg, Int.reduceToNat, Int.reduceEq, Int.reduceAdd, Int.reduceSub, Int.reduceMul, Int.reduceBEq, Int.reduceBNe, bm_box, bm_row, bk_box, bk_row, hd, hv, hq, look1_mK'])) ?_)
    | (simp (disch := omega) only [go_sem, Nat.reduceLT, Nat.reduceLeDiff, Nat.reduceAdd, Nat.reduceMul, Nat.reduceEqDiff, ↓reduceIte, reduceCtorEq, Nat.reduceBEq, Nat.reduceBNe, Nat.reducePow, Int.reduceLE, Int.reduceLT, Int.reduceNeg, Int.reduceToNat, Int.reduceEq, Int.reduceAdd, Int.reduceSub, Int.reduceMul, Int.reduceBEq, Int.reduceBNe, bm_box, bm_row, bk_box, bk_row, hd, hv, hq, look1_mK'])
    | (exact retS_of rfl rfl rfl)
    | (refine DW.cond_tt rfl ?_)
    | (refine DW.cond_ff rfl ?_)
    | (refine DW.cond rfl ?_ ?_ <;> intro hc <;> (try simp only [go_sem] at hc))
    | (refine g_split ?_ ?_ <;> intro hc <;> (try simp only [hc]) <;> (try simp only [go_sem] at hc)))
      refine ⟨⟨i + 1, hlt⟩, ?_, Ent.to ?_ ?_⟩ <;> first | (show _ < _; (try simp only); omega) | (simp (disch := omega) only [wkT_cons, wkX_cons, wkT_nil, wkX_nil, get, Nat.reduceEqDiff, ↓reduceIte, ex_some, wk_self, wk_top, wk_nil, wkB_self, and_self, dI, i64_in, and_true, true_and, Int.natCast_add, Int.natCast_one, Int.ofNat_zero, Int.natCast_zero,  hs1])
    | false =>
      have hs1 : lmF (goneF m) off rs (i + 1) = (if (lmF (goneF m) off rs i).1 < v - off then v - off else (lmF (goneF m) off rs i).1, if v + off < (lmF (goneF m) off rs i).2 then v + off else (lmF (goneF m) off rs i).2) := by rw [lmF, goneF, hq, if_neg (by decide), hv]
      generalize lmF (goneF m) off rs i = L at *
      obtain ⟨L1, L2⟩ := L
      dsimp only at hb hs1 ⊢
      repeat' (first
    | (with_reducible refine DW.seq ?_)
    | (with_reducible refine DW.block ?_)
    | (with_reducible refine DW.skip ?_)
    | (with_reducible refine DW.exit ?_)
    | (with_reducible refine DW.ret ?_)
    | (with_reducible refine DW.reg ?_)
    | (refine DW.dreg rfl (WF.of (by first | rfl | simp (disch := omega) only [go_sem, Nat.reduceLT, Nat.reduceLeDiff, Nat.reduceAdd, Nat.reduceMul, Nat.reduceEqDiff, ↓reduceIte, reduceCtorEq, Nat.reduceBEq, Nat.reduceBNe, Nat.reducePow, Int.reduceLE, Int.reduceLT, Int.reduceNeg, Int.reduceToNat, Int.reduceEq, Int.reduceAdd, Int.reduceSub, Int.reduceMul, Int.reduceBEq, Int.reduceBNe, bm_box, bm_row, bk_box, bk_row, hd, hv, hq, look1_mK'])) ?_)
    | (simp (disch := omega) only [go_sem, Nat.reduceLT, Nat.reduceLeDiff, Nat.reduceAdd, Nat.reduceMul, Nat.reduceEqDiff, ↓reduceIte, reduceCtorEq, Nat.reduceBEq, Nat.reduceBNe, Nat.reducePow, Int.reduceLE, Int.reduceLT, Int.reduceNeg, Int.reduceToNat, Int.reduceEq, Int.reduceAdd, Int.reduceSub, Int.reduceMul, Int.reduceBEq, Int.reduceBNe, bm_box, bm_row, bk_box, bk_row, hd, hv, hq, look1_mK'])
    | (exact retS_of rfl rfl rfl)
    | (refine DW.cond_tt rfl ?_)
    | (refine DW.cond_ff rfl ?_)
    | (refine DW.cond rfl ?_ ?_ <;> intro hc <;> (try simp only [go_sem] at hc))
    | (refine g_split ?_ ?_ <;> intro hc <;> (try simp only [hc]) <;> (try simp only [go_sem] at hc)))
      refine ⟨⟨i + 1, hlt⟩, ?_, Ent.to ?_ ?_⟩ <;> first | (show _ < _; (try simp only); omega) | (simp (disch := omega) only [wkT_cons, wkX_cons, wkT_nil, wkX_nil, get, Nat.reduceEqDiff, ↓reduceIte, ex_some, wk_self, wk_top, wk_nil, wkB_self, and_self, dI, i64_in, and_true, true_and, Int.natCast_add, Int.natCast_one, Int.ofNat_zero, Int.natCast_zero,  hs1])
  · subst he
    generalize lmF (goneF m) off rs rs.length = L at *
    obtain ⟨L1, L2⟩ := L
    dsimp only at hb ⊢
    repeat' (first
    | (with_reducible refine DW.seq ?_)
    | (with_reducible refine DW.block ?_)
    | (with_reducible refine DW.skip ?_)
    | (with_reducible refine DW.exit ?_)
    | (with_reducible refine DW.ret ?_)
    | (with_reducible refine DW.reg ?_)
    | (refine DW.dreg rfl (WF.of (by first | rfl | simp (disch := omega) only [go_sem, Nat.reduceLT, Nat.reduceLeDiff, Nat.reduceAdd, Nat.reduceMul, Nat.reduceEqDiff, ↓reduceIte, reduceCtorEq, Nat.reduceBEq, Nat.reduceBNe, Nat.reducePow, Int.reduceLE, Int.reduceLT, Int.reduceNeg, Int.reduceToNat, Int.reduceEq, Int.reduceAdd, Int.reduceSub, Int.reduceMul, Int.reduceBEq, Int.reduceBNe, bm_box, bm_row, bk_box, bk_row, hd])) ?_)
    | (simp (disch := omega) only [go_sem, Nat.reduceLT, Nat.reduceLeDiff, Nat.reduceAdd, Nat.reduceMul, Nat.reduceEqDiff, ↓reduceIte, reduceCtorEq, Nat.reduceBEq, Nat.reduceBNe, Nat.reducePow, Int.reduceLE, Int.reduceLT, Int.reduceNeg, Int.reduceToNat, Int.reduceEq, Int.reduceAdd, Int.reduceSub, Int.reduceMul, Int.reduceBEq, Int.reduceBNe, bm_box, bm_row, bk_box, bk_row, hd])
    | (exact retS_of rfl rfl rfl)
    | (refine DW.cond_tt rfl ?_)
    | (refine DW.cond_ff rfl ?_)
    | (refine DW.cond rfl ?_ ?_ <;> intro hc <;> (try simp only [go_sem] at hc))
    | (refine g_split ?_ ?_ <;> intro hc <;> (try simp only [hc]) <;> (try simp only [go_sem] at hc)))
    exact retS_bs rfl rfl rfl (fun j x hj => ⟨hj, (memI_nb 108 lm m hj).2.2⟩)
end Go.Dw.Seat
end
section
set_option linter.unusedSimpArgs false
set_option maxRecDepth 100000
namespace Go.Dw.Seat
open Go Go.Dw Go.Proofs Go.IntWalk
theorem tmodN (a b : Nat) : ((a : Int)).tmod (b : Int) = ((a % b : Nat) : Int) := by
  rw [Int.tmod_eq_emod_of_nonneg (by omega)]; exact (Int.natCast_emod a b).symm
end Go.Dw.Seat
end
section
set_option linter.unusedSimpArgs false
set_option maxRecDepth 100000
namespace Go.Dw.Seat
open Go Go.Dw Go.Proofs Go.IntWalk
theorem three_of {u : List Nat} (h : u.length = 3) : ∃ a b c, u = [a, b, c] := by
  match u, h with
  | [a, b, c], _ => exact ⟨a, b, c, rfl⟩
def rdU (l : List Nat) : Nat → List Int
  | 0 => []
  | i + 1 => rdU l i ++ [(((l[i]?).getD 0 : Nat) : Int)]
theorem rdU_len (l : List Nat) : ∀ i, (rdU l i).length = i
  | 0 => rfl
  | i + 1 => by simp [rdU, rdU_len l i]
theorem rdU_in {l : List Nat} (h : AllLt 256 l) : ∀ i, ∀ x ∈ rdU l i, 0 ≤ x ∧ x ≤ 255
  | 0, x, hx => by cases hx
  | i + 1, x, hx => by
    simp only [rdU, List.mem_append, List.mem_singleton] at hx
    rcases hx with hx | rfl
    · exact rdU_in h i x hx
    · cases e : l[i]? with
      | none => simp
      | some v =>
        have : v < 256 := h v (List.mem_of_getElem? e)
        simp only [Option.getD_some]; omega
theorem mD_pin (k l : Nat) (m : Memo) : pinDs k l (mD m) = mD m := by
  induction m with
  | nil => rfl
  | cons p m ih =>
    show pinD k l (bD p.2) :: pinDs k l (mD m) = _
    rw [ih]; rfl
theorem shrN16 (s i : Nat) (h : i ≤ 16) : shrI IntKind.u16 (s : Int) i = ((s >>> i : Nat) : Int) := by
  show (s : Int).fdiv (2 ^ (min i 16)) = _
  rw [Nat.min_eq_left h, Nat.shiftRight_eq_div_pow]
  have e : ((2 : Int) ^ i) = ((2 ^ i : Nat) : Int) := by simp
  rw [e, Int.fdiv_eq_ediv_of_nonneg _ (Int.natCast_nonneg _)]
  exact (Int.natCast_ediv s (2 ^ i)).symm
set_option maxHeartbeats 8000000 in
theorem laOut (reads : List Nat) (hrl : reads.length ≤ maxLen) (hrd : AllLt 256 reads) (v : List Nat) (hv : v.length = 3 ∧ AllLt 256 v) (sm : Nat) (hsm : sm < 65536) : DCall Tryd.prog 11 [.c (.sl false 1 (rows (e1 .u8) reads)), .agg ((eN .u8 v).map D.c), .c (.v (.int .u16 sm))] [] (bD true) [] := by
  obtain ⟨v0, v1, v2, rfl⟩ := three_of hv.1
  have hv0 := hv.2 v0 (by simp)
  have hv1 := hv.2 v1 (by simp)
  have hv2 := hv.2 v2 (by simp)
  clear hv
  have hk := laKnown
  have t1 : ((v0 : Int)).tmod 20 = ((v0 % 20 : Nat) : Int) := tmodN v0 20
  have t2 : ((v1 : Int)).tmod 60 = ((v1 % 60 : Nat) : Int) := tmodN v1 60
  have t3 : ((v2 : Int)).tmod 9 = ((v2 % 9 : Nat) : Int) := tmodN v2 9
  have t4 : ((v2 : Int)).tmod 7 = ((v2 % 7 : Nat) : Int) := tmodN v2 7
  have w1 : v0 % 20 < 20 := Nat.mod_lt _ (by decide)
  have w2 : v1 % 60 < 60 := Nat.mod_lt _ (by decide)
  have w3 : v2 % 9 < 9 := Nat.mod_lt _ (by decide)
  have w4 : v2 % 7 < 7 := Nat.mod_lt _ (by decide)
  generalize v0 % 20 = off at *
  generalize v1 % 60 = spr at *
  generalize v2 % 9 = d9 at *
  generalize v2 % 7 = d7 at *
  refine DCall.of Tryd.func11 sf11 hb11 (Nat.le_of_ble_eq_true rfl) (okRes_nil fun _ => rfl) ?_; simp only [s11, idxs, Nat.reduceAdd]
  repeat' (first
    | (with_reducible refine DW.seq ?_)
    | (with_reducible refine DW.block ?_)
    | (with_reducible refine DW.skip ?_)
    | (with_reducible refine DW.exit ?_)
    | (with_reducible refine DW.ret ?_)
    | (with_reducible refine DW.reg ?_)
    | (refine DW.dreg rfl (WF.of (by first | rfl | simp (disch := omega) only [go_sem, Nat.reduceLT, Nat.reduceLeDiff, Nat.reduceAdd, Nat.reduceMul, Nat.reduceEqDiff, ↓reduceIte, reduceCtorEq, Nat.reduceBEq, Nat.reduceBNe, Nat.reducePow, Int.reduceLE, Int.reduceLT, Int.reduceNeg, Int.reduceToNat, Int.reduceEq, Int.reduceAdd, Int.reduceSub, Int.reduceMul, Int.reduceBEq, Int.reduceBNe, bm_box, bm_row, bk_box, bk_row, eN, List.map_cons, List.map_nil, ud5, t1, t2])) ?_)
    | (simp (disch := omega) only [go_sem, Nat.reduceLT, Nat.reduceLeDiff, Nat.reduceAdd, Nat.reduceMul, Nat.reduceEqDiff, ↓reduceIte, reduceCtorEq, Nat.reduceBEq, Nat.reduceBNe, Nat.reducePow, Int.reduceLE, Int.reduceLT, Int.reduceNeg, Int.reduceToNat, Int.reduceEq, Int.reduceAdd, Int.reduceSub, Int.reduceMul, Int.reduceBEq, Int.reduceBNe, bm_box, bm_row, bk_box, bk_row, eN, List.map_cons, List.map_nil, ud5, t1, t2])
    | (exact retS_of rfl rfl rfl)
    | (refine DW.cond_tt rfl ?_)
    | (refine DW.cond_ff rfl ?_)
    | (refine DW.cond rfl ?_ ?_ <;> intro hc <;> (try simp only [go_sem] at hc))
    | (refine g_split ?_ ?_ <;> intro hc <;> (try simp only [hc]) <;> (try simp only [go_sem] at hc)))
  refine DW.loop (ι := { i : Nat // i ≤ reads.length ∧ i ≤ 14 }) (fun i => ⟨192, [(10, dI i.1), (9, dI spr), (8, dI off), (7, .own 22), (4, .box 4 0), (2, .c (.v (.int .u16 sm))), (0, .c (.sl false 1 (rows (e1 .u8) reads)))], [(22, .row 1 (rowC (rows eI (rdU reads i.1)))), (4, .box [.c (.v (.int .u8 v0)), .c (.v (.int .u8 v1)), .c (.v (.int .u8 v2))])]⟩) (fun i => 14 - i.1) ⟨0, Nat.zero_le _, Nat.zero_le _⟩ ?_ ?_
  · refine Ent.to ?_ ?_ <;> simp (disch := omega) only [wkT_cons, wkX_cons, wkT_nil, wkX_nil, get, Nat.reduceEqDiff, ↓reduceIte, ex_some, wk_self, wk_top, wk_nil, wkB_self, and_self, dI, i64_in, and_true, true_and, Int.natCast_add, Int.natCast_one, Int.ofNat_zero, Int.natCast_zero, rdU]
    all_goals first | exact ⟨.refl _, .refl _⟩ | exact .refl _
  rintro ⟨i, hi, hi14⟩
  dsimp only
  have hll := rdU_len reads i
  by_cases hc : i < reads.length ∧ i < 14
  · have d1 : decide ((i : Int) < (reads.length : Int)) = true := by rw [decide_eq_true_eq]; omega
    have d2 : decide ((i : Int) < 14) = true := by rw [decide_eq_true_eq]; omega
    obtain ⟨w, hw⟩ := getE (l := reads) (i := i) hc.1
    have hwb : w < 256 := hrd w (List.mem_of_getElem? hw)
    have hs : rdU reads (i + 1) = rdU reads i ++ [(w : Int)] := by rw [rdU, hw]; rfl
    generalize rdU reads i = R at *
    repeat' (first
    | (with_reducible refine DW.seq ?_)
    | (with_reducible refine DW.block ?_)
    | (with_reducible refine DW.skip ?_)
    | (with_reducible refine DW.exit ?_)
    | (with_reducible refine DW.ret ?_)
    | (with_reducible refine DW.reg ?_)
    | (refine DW.dreg rfl (WF.of (by first | rfl | simp (disch := omega) only [go_sem, Nat.reduceLT, Nat.reduceLeDiff, Nat.reduceAdd, Nat.reduceMul, Nat.reduceEqDiff, ↓reduceIte, reduceCtorEq, Nat.reduceBEq, Nat.reduceBNe, Nat.reducePow, Int.reduceLE, Int.reduceLT, Int.reduceNeg, Int.reduceToNat, Int.reduceEq, Int.reduceAdd, Int.reduceSub, Int.reduceMul, Int.reduceBEq, Int.reduceBNe, bm_box, bm_row, bk_box, bk_row, d1, d2, hw, e1, ud5, List.map_cons, List.map_nil, rowC_snocI])) ?_)
    | (simp (disch := omega) only [go_sem, Nat.reduceLT, Nat.reduceLeDiff, Nat.reduceAdd, Nat.reduceMul, Nat.reduceEqDiff, ↓reduceIte, reduceCtorEq, Nat.reduceBEq, Nat.reduceBNe, Nat.reducePow, Int.reduceLE, Int.reduceLT, Int.reduceNeg, Int.reduceToNat, Int.reduceEq, Int.reduceAdd, Int.reduceSub, Int.reduceMul, Int.reduceBEq, Int.reduceBNe, bm_box, bm_row, bk_box, bk_row, d1, d2, hw, e1, ud5, List.map_cons, List.map_nil, rowC_snocI])
    | (exact retS_of rfl rfl rfl)
    | (refine DW.cond_tt rfl ?_)
    | (refine DW.cond_ff rfl ?_)
    | (refine DW.cond rfl ?_ ?_ <;> intro hc <;> (try simp only [go_sem] at hc))
    | (refine g_split ?_ ?_ <;> intro hc <;> (try simp only [hc]) <;> (try simp only [go_sem] at hc)))
    refine ⟨⟨i + 1, by omega, by omega⟩, ?_, Ent.to ?_ ?_⟩ <;> first | (show _ < _; (try simp only); omega) | (simp (disch := omega) only [wkT_cons, wkX_cons, wkT_nil, wkX_nil, get, Nat.reduceEqDiff, ↓reduceIte, ex_some, wk_self, wk_top, wk_nil, wkB_self, and_self, dI, i64_in, and_true, true_and, Int.natCast_add, Int.natCast_one, Int.ofNat_zero, Int.natCast_zero,  hs])
    all_goals first | exact ⟨.refl _, .refl _⟩ | exact .refl _
  have hin := rdU_in hrd i
  generalize rdU reads i = rs at *
  obtain rfl := hll
  have hdd : (decide ((rs.length : Int) < (reads.length : Int)) = false ∧ decide ((rs.length : Int) < (reads.length : Int)) = false) ∨ (decide ((rs.length : Int) < (reads.length : Int)) = true ∧ decide ((rs.length : Int) < 14) = false) := by
    by_cases h1 : rs.length < reads.length
    · exact .inr ⟨by rw [decide_eq_true_eq]; omega, by rw [decide_eq_false_iff_not]; omega⟩
    · exact .inl ⟨by rw [decide_eq_false_iff_not]; omega, by rw [decide_eq_false_iff_not]; omega⟩
  obtain ⟨⟨s, hs, hO, hcl⟩, hmin⟩ := odd_least off spr rs
  have hodd := crOdd false rs off spr (by omega) (by omega) (by omega) (fun x hx => by have := hin x hx; omega)
  have hodd2 := crOdd false rs off (spr + d9) (by omega) (by omega) (by omega) (fun x hx => by have := hin x hx; omega)
  have hodd3 := crOdd false rs (off + d7) spr (by omega) (by omega) (by omega) (fun x hx => by have := hin x hx; omega)
  have hw2 := odd_wider (off := off) (off' := off) (spread := spr) (spread' := spr + d9) (Int.le_refl _) (by omega) rs
  have hw3 := odd_wider (off := off) (off' := off + d7) (spread := spr) (spread' := spr) (by omega) (Int.le_refl _) rs
  generalize oddI off (spr + d9) rs = A at *
  generalize oddI (off + d7) spr rs = B at *
  rw [hO] at hodd hw2 hw3 hmin
  have hlo : outN s rs.length = nL (oN s rs.length) := outN_map s rs.length
  have hmem : ∀ t, t ∈ oN s rs.length ↔ t < rs.length ∧ s.testBit t = true := fun t => oN_mem
  have hasc : ∀ i a b, (oN s rs.length)[i]? = some a → (oN s rs.length)[i + 1]? = some b → a < b := fun i a b => oN_asc
  have hol : (oN s rs.length).length ≤ rs.length := by have := outN_len s rs.length; rw [hlo, nL_length] at this; exact this
  rw [hlo] at hodd hw2 hw3
  have hmin2 : ∀ t : Nat, closeB off spr (rstN rs t rs.length) = true → (oN s rs.length).length ≤ (outN t rs.length).length := fun t ht => by have := hmin t ht; rwa [hlo, nL_length] at this
  have hgone : nearI (goneF (gM (oN s rs.length) (oN s rs.length).length)) off spr rs = true := by
    rw [near_close (s := s) (by omega) (by omega) hin (fun j hj => by
      rw [goneF, gM_find _ _ _ (Nat.le_refl _), List.take_length]
      cases hb : s.testBit j with
      | true => exact decide_eq_true ((hmem j).2 ⟨hj, hb⟩)
      | false => exact decide_eq_false (fun h => by have := ((hmem j).1 h).2; rw [hb] at this; cases this))]
    exact hcl
  have hother : nearI (goneF (hM sm rs.length)) off spr rs = true → (oN s rs.length).length ≤ (outN sm rs.length).length := fun h => by
    rw [near_close (s := sm) (by omega) (by omega) hin (fun j hj => by rw [goneF, hM_find, decide_eq_true hj, Bool.true_and])] at h
    exact hmin2 sm h
  have hmany := outN_len sm rs.length
  have hin1 := laIntsC false rs (by omega)
  have n1 : ∀ lm m, DCall Tryd.prog 51 _ _ _ _ := fun lm m => laNear66 false rs lm m off spr (by omega) (by omega) (by omega) hin
  have n2 : ∀ lm m, DCall Tryd.prog 51 _ _ _ _ := fun lm m => laNear108 false rs lm m off spr (by omega) (by omega) (by omega) hin
  clear hmin hmin2 hO hcl hlo hc hs
  generalize oN s rs.length = o at *
  rw [nL_length] at hw2 hw3
  have hln := nL_length o
  have c1 : decide ((rs.length : Int) < (o.length : Int)) = false := by rw [decide_eq_false_iff_not]; omega
  have c2 : decide ((A.length : Int) ≤ (o.length : Int)) = true := by rw [decide_eq_true_eq]; omega
  have c3 : decide ((B.length : Int) ≤ (o.length : Int)) = true := by rw [decide_eq_true_eq]; omega
  rcases hdd with ⟨e1, e2⟩ | ⟨e1, e2⟩
  all_goals
    (refine DW.ent (Ent.rel 22 rfl) ?_; simp (disch := omega) only [go_sem, Nat.reduceLT, Nat.reduceLeDiff, Nat.reduceAdd, Nat.reduceMul, Nat.reduceEqDiff, ↓reduceIte, reduceCtorEq, Nat.reduceBEq, Nat.reduceBNe, Nat.reducePow, Int.reduceLE, Int.reduceLT, Int.reduceNeg, Int.reduceToNat, Int.reduceEq, Int.reduceAdd, Int.reduceSub, Int.reduceMul, Int.reduceBEq, Int.reduceBNe, bm_box, bm_row, bk_box, bk_row])
    repeat' (first
    | (with_reducible refine DW.seq ?_)
    | (with_reducible refine DW.block ?_)
    | (with_reducible refine DW.skip ?_)
    | (with_reducible refine DW.exit ?_)
    | (with_reducible refine DW.ret ?_)
    | (with_reducible refine DW.reg ?_)
    | (refine DW.dreg rfl (WF.of (by first | rfl | simp (disch := omega) only [go_sem, Nat.reduceLT, Nat.reduceLeDiff, Nat.reduceAdd, Nat.reduceMul, Nat.reduceEqDiff, ↓reduceIte, reduceCtorEq, Nat.reduceBEq, Nat.reduceBNe, Nat.reducePow, Int.reduceLE, Int.reduceLT, Int.reduceNeg, Int.reduceToNat, Int.reduceEq, Int.reduceAdd, Int.reduceSub, Int.reduceMul, Int.reduceBEq, Int.reduceBNe, bm_box, bm_row, bk_box, bk_row, e1, e2, hln, c1])) ?_)
    | (simp (disch := omega) only [go_sem, Nat.reduceLT, Nat.reduceLeDiff, Nat.reduceAdd, Nat.reduceMul, Nat.reduceEqDiff, ↓reduceIte, reduceCtorEq, Nat.reduceBEq, Nat.reduceBNe, Nat.reducePow, Int.reduceLE, Int.reduceLT, Int.reduceNeg, Int.reduceToNat, Int.reduceEq, Int.reduceAdd, Int.reduceSub, Int.reduceMul, Int.reduceBEq, Int.reduceBNe, bm_box, bm_row, bk_box, bk_row, e1, e2, hln, c1])
    | (exact retS_of rfl rfl rfl)
    | (refine DW.cond_tt rfl ?_)
    | (refine call_c (hin1) (by decide) ?_)
    | (refine call_c (hodd) (by decide) ?_)
    | (refine DW.cond_ff rfl ?_)
    | (refine DW.cond rfl ?_ ?_ <;> intro hc <;> (try simp only [go_sem] at hc))
    | (refine g_split ?_ ?_ <;> intro hc <;> (try simp only [hc]) <;> (try simp only [go_sem] at hc)))
    refine DW.pin 66 rfl rfl fun lm => ?_
    simp (disch := omega) only [go_sem, Nat.reduceLT, Nat.reduceLeDiff, Nat.reduceAdd, Nat.reduceMul, Nat.reduceEqDiff, ↓reduceIte, reduceCtorEq, Nat.reduceBEq, Nat.reduceBNe, Nat.reducePow, Int.reduceLE, Int.reduceLT, Int.reduceNeg, Int.reduceToNat, Int.reduceEq, Int.reduceAdd, Int.reduceSub, Int.reduceMul, Int.reduceBEq, Int.reduceBNe, bm_box, bm_row, bk_box, bk_row, pinT, pinX, pinD, pinDs, pinB, pinO]
    clear e1 e2 hodd c1 hrd hrl
    refine DW.loop (ι := { i : Nat // i ≤ o.length }) (fun i => ⟨192, [(15, dI i.1), (14, dI 0), (13, .c (.v (.map (some lm)))), (11, dIs false (nL o)), (9, dI spr), (8, dI off), (7, dIs false rs), (4, .box 4 0), (2, .c (.v (.int .u16 sm)))], [memI 66 lm (gM o i.1), (4, .box [.c (.v (.int .u8 v0)), .c (.v (.int .u8 v1)), .c (.v (.int .u8 v2))])]⟩) (fun i => o.length - i.1) ⟨0, Nat.zero_le _⟩ ?_ ?_
    · refine Ent.to ?_ ?_ <;> simp (disch := omega) only [wkT_cons, wkX_cons, wkT_nil, wkX_nil, get, Nat.reduceEqDiff, ↓reduceIte, ex_some, wk_self, wk_top, wk_nil, wkB_self, and_self, dI, i64_in, and_true, true_and, Int.natCast_add, Int.natCast_one, Int.ofNat_zero, Int.natCast_zero, gM]
      all_goals first | exact ⟨.refl _, .nil _ _⟩ | exact .refl _
    rintro ⟨i, hi2⟩
    dsimp only
    rcases at_or o i hi2 with ⟨a, ha, hlt, hd⟩ | ⟨he, hd⟩
    · obtain ⟨hal, hab⟩ := (hmem a).1 (List.mem_of_getElem? ha)
      have hx : (nL o)[i]? = some (a : Int) := by rw [nL_get, ha]; rfl
      have hs1 : gM o (i + 1) = mUpd (gM o i) a true := by rw [gM, ha]
      have f1 : decide ((a : Int) < 0) = false := by rw [decide_eq_false_iff_not]; omega
      have f2 : decide ((rs.length : Int) ≤ (a : Int)) = false := by rw [decide_eq_false_iff_not]; omega
      generalize gM o i = G at *
      by_cases h0 : i = 0
      · have f3 : decide (0 < (i : Int)) = false := by rw [decide_eq_false_iff_not]; omega
        repeat' (first
    | (with_reducible refine DW.seq ?_)
    | (with_reducible refine DW.block ?_)
    | (with_reducible refine DW.skip ?_)
    | (with_reducible refine DW.exit ?_)
    | (with_reducible refine DW.ret ?_)
    | (with_reducible refine DW.reg ?_)
    | (refine DW.dreg rfl (WF.of (by first | rfl | simp (disch := omega) only [go_sem, Nat.reduceLT, Nat.reduceLeDiff, Nat.reduceAdd, Nat.reduceMul, Nat.reduceEqDiff, ↓reduceIte, reduceCtorEq, Nat.reduceBEq, Nat.reduceBNe, Nat.reducePow, Int.reduceLE, Int.reduceLT, Int.reduceNeg, Int.reduceToNat, Int.reduceEq, Int.reduceAdd, Int.reduceSub, Int.reduceMul, Int.reduceBEq, Int.reduceBNe, bm_box, bm_row, bk_box, bk_row, hd, hln, hx, f1, f2, f3])) ?_)
    | (simp (disch := omega) only [go_sem, Nat.reduceLT, Nat.reduceLeDiff, Nat.reduceAdd, Nat.reduceMul, Nat.reduceEqDiff, ↓reduceIte, reduceCtorEq, Nat.reduceBEq, Nat.reduceBNe, Nat.reducePow, Int.reduceLE, Int.reduceLT, Int.reduceNeg, Int.reduceToNat, Int.reduceEq, Int.reduceAdd, Int.reduceSub, Int.reduceMul, Int.reduceBEq, Int.reduceBNe, bm_box, bm_row, bk_box, bk_row, hd, hln, hx, f1, f2, f3])
    | (exact retS_of rfl rfl rfl)
    | (refine DW.cond_tt rfl ?_)
    | (refine DW.cond_ff rfl ?_)
    | (refine DW.cond rfl ?_ ?_ <;> intro hc <;> (try simp only [go_sem] at hc))
    | (refine g_split ?_ ?_ <;> intro hc <;> (try simp only [hc]) <;> (try simp only [go_sem] at hc)))
        refine ⟨⟨i + 1, hlt⟩, ?_, Ent.to ?_ ?_⟩ <;> first | (show _ < _; (try simp only); omega) | (simp (disch := omega) only [wkT_cons, wkX_cons, wkT_nil, wkX_nil, get, Nat.reduceEqDiff, ↓reduceIte, ex_some, wk_self, wk_top, wk_nil, wkB_self, and_self, dI, i64_in, and_true, true_and, Int.natCast_add, Int.natCast_one, Int.ofNat_zero, Int.natCast_zero,  hs1])
      · obtain ⟨j, rfl⟩ : ∃ j, i = j + 1 := ⟨i - 1, by omega⟩
        obtain ⟨c, hc⟩ := getE (l := o) (i := j) (by omega)
        have hlt2 := hasc j c a hc ha
        have hx2 : (nL o)[j]? = some (c : Int) := by rw [nL_get, hc]; rfl
        have ej : ((j + 1 : Nat) : Int) - 1 = (j : Int) := by omega
        have f3 : decide (0 < ((j + 1 : Nat) : Int)) = true := by rw [decide_eq_true_eq]; omega
        have f4 : decide ((a : Int) ≤ (c : Int)) = false := by rw [decide_eq_false_iff_not]; omega
        clear h0
        generalize hi1 : j + 1 = i at *
        repeat' (first
    | (with_reducible refine DW.seq ?_)
    | (with_reducible refine DW.block ?_)
    | (with_reducible refine DW.skip ?_)
    | (with_reducible refine DW.exit ?_)
    | (with_reducible refine DW.ret ?_)
    | (with_reducible refine DW.reg ?_)
    | (refine DW.dreg rfl (WF.of (by first | rfl | simp (disch := omega) only [go_sem, Nat.reduceLT, Nat.reduceLeDiff, Nat.reduceAdd, Nat.reduceMul, Nat.reduceEqDiff, ↓reduceIte, reduceCtorEq, Nat.reduceBEq, Nat.reduceBNe, Nat.reducePow, Int.reduceLE, Int.reduceLT, Int.reduceNeg, Int.reduceToNat, Int.reduceEq, Int.reduceAdd, Int.reduceSub, Int.reduceMul, Int.reduceBEq, Int.reduceBNe, bm_box, bm_row, bk_box, bk_row, hd, hln, hx, f1, f2, f3, ej, hx2, f4])) ?_)
    | (simp (disch := omega) only [go_sem, Nat.reduceLT, Nat.reduceLeDiff, Nat.reduceAdd, Nat.reduceMul, Nat.reduceEqDiff, ↓reduceIte, reduceCtorEq, Nat.reduceBEq, Nat.reduceBNe, Nat.reducePow, Int.reduceLE, Int.reduceLT, Int.reduceNeg, Int.reduceToNat, Int.reduceEq, Int.reduceAdd, Int.reduceSub, Int.reduceMul, Int.reduceBEq, Int.reduceBNe, bm_box, bm_row, bk_box, bk_row, hd, hln, hx, f1, f2, f3, ej, hx2, f4])
    | (exact retS_of rfl rfl rfl)
    | (refine DW.cond_tt rfl ?_)
    | (refine DW.cond_ff rfl ?_)
    | (refine DW.cond rfl ?_ ?_ <;> intro hc <;> (try simp only [go_sem] at hc))
    | (refine g_split ?_ ?_ <;> intro hc <;> (try simp only [hc]) <;> (try simp only [go_sem] at hc)))
        refine ⟨⟨i + 1, hlt⟩, ?_, Ent.to ?_ ?_⟩ <;> first | (show _ < _; (try simp only); omega) | (simp (disch := omega) only [wkT_cons, wkX_cons, wkT_nil, wkX_nil, get, Nat.reduceEqDiff, ↓reduceIte, ex_some, wk_self, wk_top, wk_nil, wkB_self, and_self, dI, i64_in, and_true, true_and, Int.natCast_add, Int.natCast_one, Int.ofNat_zero, Int.natCast_zero,  hs1])
    · subst he
      repeat' (first
    | (with_reducible refine DW.seq ?_)
    | (with_reducible refine DW.block ?_)
    | (with_reducible refine DW.skip ?_)
    | (with_reducible refine DW.exit ?_)
    | (with_reducible refine DW.ret ?_)
    | (with_reducible refine DW.reg ?_)
    | (refine DW.dreg rfl (WF.of (by first | rfl | simp (disch := omega) only [go_sem, Nat.reduceLT, Nat.reduceLeDiff, Nat.reduceAdd, Nat.reduceMul, Nat.reduceEqDiff, ↓reduceIte, reduceCtorEq, Nat.reduceBEq, Nat.reduceBNe, Nat.reducePow, Int.reduceLE, Int.reduceLT, Int.reduceNeg, Int.reduceToNat, Int.reduceEq, Int.reduceAdd, Int.reduceSub, Int.reduceMul, Int.reduceBEq, Int.reduceBNe, bm_box, bm_row, bk_box, bk_row, hd, hln])) ?_)
    | (simp (disch := omega) only [go_sem, Nat.reduceLT, Nat.reduceLeDiff, Nat.reduceAdd, Nat.reduceMul, Nat.reduceEqDiff, ↓reduceIte, reduceCtorEq, Nat.reduceBEq, Nat.reduceBNe, Nat.reducePow, Int.reduceLE, Int.reduceLT, Int.reduceNeg, Int.reduceToNat, Int.reduceEq, Int.reduceAdd, Int.reduceSub, Int.reduceMul, Int.reduceBEq, Int.reduceBNe, bm_box, bm_row, bk_box, bk_row, hd, hln])
    | (exact retS_of rfl rfl rfl)
    | (refine DW.cond_tt rfl ?_)
    | (refine DW.cond_ff rfl ?_)
    | (refine DW.cond rfl ?_ ?_ <;> intro hc <;> (try simp only [go_sem] at hc))
    | (refine g_split ?_ ?_ <;> intro hc <;> (try simp only [hc]) <;> (try simp only [go_sem] at hc)))
      refine DW.pin 108 rfl rfl fun lm2 => ?_
      simp (disch := omega) only [go_sem, Nat.reduceLT, Nat.reduceLeDiff, Nat.reduceAdd, Nat.reduceMul, Nat.reduceEqDiff, ↓reduceIte, reduceCtorEq, Nat.reduceBEq, Nat.reduceBNe, Nat.reducePow, Int.reduceLE, Int.reduceLT, Int.reduceNeg, Int.reduceToNat, Int.reduceEq, Int.reduceAdd, Int.reduceSub, Int.reduceMul, Int.reduceBEq, Int.reduceBNe, bm_box, bm_row, bk_box, bk_row, pinT, pinX, pinD, pinDs, pinB, pinO, mD_pin]
      generalize hG : gM o o.length = G at *
      refine DW.loop (ι := { i : Nat // i ≤ rs.length }) (fun i => ⟨192, [(17, dI i.1), (16, .c (.v (.map (some lm2)))), (14, dI (outN sm i.1).length), (13, .c (.v (.map (some lm)))), (11, dIs false (nL o)), (9, dI spr), (8, dI off), (7, dIs false rs), (4, .box 4 0), (2, .c (.v (.int .u16 sm)))], [memI 108 lm2 (hM sm i.1), memI 66 lm G, (4, .box [.c (.v (.int .u8 v0)), .c (.v (.int .u8 v1)), .c (.v (.int .u8 v2))])]⟩) (fun i => rs.length - i.1) ⟨0, Nat.zero_le _⟩ ?_ ?_
      · refine Ent.to ?_ ?_ <;> simp (disch := omega) only [wkT_cons, wkX_cons, wkT_nil, wkX_nil, get, Nat.reduceEqDiff, ↓reduceIte, ex_some, wk_self, wk_top, wk_nil, wkB_self, and_self, dI, i64_in, and_true, true_and, Int.natCast_add, Int.natCast_one, Int.ofNat_zero, Int.natCast_zero, hM, outN, List.length_nil]
        all_goals first | exact ⟨⟨.refl _, .nil _ _⟩, .refl _⟩ | exact ⟨.refl _, .nil _ _⟩ | exact .refl _ | trace_state
      rintro ⟨i, hi3⟩
      dsimp only
      rcases Nat.lt_or_ge i rs.length with hlt | hge
      · have hd2 : decide ((i : Int) < (rs.length : Int)) = true := by rw [decide_eq_true_eq]; omega
        have hbit := bit_u16 sm i
        have hsh := shrN16 sm i (by omega)
        have hwi : IntKind.u64.wrap (i : Int) = (i : Int) := IntWalk.u64_in _ (by omega)
        have hol2 := outN_len sm i
        cases hb : sm.testBit i with
        | true =>
          have hs1 : hM sm (i + 1) = mUpd (hM sm i) i true := by rw [hM, hb, if_pos rfl]
          have hs2 : ((outN sm (i + 1)).length : Int) = ((outN sm i).length : Int) + 1 := by rw [outN, hb, if_pos rfl, List.length_append]; simp
          rw [hb] at hbit
          generalize hM sm i = H at *
          generalize (outN sm i).length = W at *
          repeat' (first
    | (with_reducible refine DW.seq ?_)
    | (with_reducible refine DW.block ?_)
    | (with_reducible refine DW.skip ?_)
    | (with_reducible refine DW.exit ?_)
    | (with_reducible refine DW.ret ?_)
    | (with_reducible refine DW.reg ?_)
    | (refine DW.dreg rfl (WF.of (by first | rfl | simp (disch := omega) only [go_sem, Nat.reduceLT, Nat.reduceLeDiff, Nat.reduceAdd, Nat.reduceMul, Nat.reduceEqDiff, ↓reduceIte, reduceCtorEq, Nat.reduceBEq, Nat.reduceBNe, Nat.reducePow, Int.reduceLE, Int.reduceLT, Int.reduceNeg, Int.reduceToNat, Int.reduceEq, Int.reduceAdd, Int.reduceSub, Int.reduceMul, Int.reduceBEq, Int.reduceBNe, bm_box, bm_row, bk_box, bk_row, ud3, ud96, hd2, hwi, hsh, hbit])) ?_)
    | (simp (disch := omega) only [go_sem, Nat.reduceLT, Nat.reduceLeDiff, Nat.reduceAdd, Nat.reduceMul, Nat.reduceEqDiff, ↓reduceIte, reduceCtorEq, Nat.reduceBEq, Nat.reduceBNe, Nat.reducePow, Int.reduceLE, Int.reduceLT, Int.reduceNeg, Int.reduceToNat, Int.reduceEq, Int.reduceAdd, Int.reduceSub, Int.reduceMul, Int.reduceBEq, Int.reduceBNe, bm_box, bm_row, bk_box, bk_row, ud3, ud96, hd2, hwi, hsh, hbit])
    | (exact retS_of rfl rfl rfl)
    | (refine DW.cond_tt rfl ?_)
    | (refine DW.cond_ff rfl ?_)
    | (refine DW.cond rfl ?_ ?_ <;> intro hc <;> (try simp only [go_sem] at hc))
    | (refine g_split ?_ ?_ <;> intro hc <;> (try simp only [hc]) <;> (try simp only [go_sem] at hc)))
          refine ⟨⟨i + 1, hlt⟩, ?_, Ent.to ?_ ?_⟩ <;> first | (show _ < _; (try simp only); omega) | (simp (disch := omega) only [wkT_cons, wkX_cons, wkT_nil, wkX_nil, get, Nat.reduceEqDiff, ↓reduceIte, ex_some, wk_self, wk_top, wk_nil, wkB_self, and_self, dI, i64_in, and_true, true_and, Int.natCast_add, Int.natCast_one, Int.ofNat_zero, Int.natCast_zero,  hs1, hs2])
        | false =>
          have hs1 : hM sm (i + 1) = hM sm i := by rw [hM, hb, if_neg (by decide)]
          have hs2 : ((outN sm (i + 1)).length : Int) = ((outN sm i).length : Int) := by rw [outN, hb, if_neg (by decide)]
          rw [hb] at hbit
          generalize hM sm i = H at *
          generalize (outN sm i).length = W at *
          repeat' (first
    | (with_reducible refine DW.seq ?_)
    | (with_reducible refine DW.block ?_)
    | (with_reducible refine DW.skip ?_)
    | (with_reducible refine DW.exit ?_)
    | (with_reducible refine DW.ret ?_)
    | (with_reducible refine DW.reg ?_)
    | (refine DW.dreg rfl (WF.of (by first | rfl | simp (disch := omega) only [go_sem, Nat.reduceLT, Nat.reduceLeDiff, Nat.reduceAdd, Nat.reduceMul, Nat.reduceEqDiff, ↓reduceIte, reduceCtorEq, Nat.reduceBEq, Nat.reduceBNe, Nat.reducePow, Int.reduceLE, Int.reduceLT, Int.reduceNeg, Int.reduceToNat, Int.reduceEq, Int.reduceAdd, Int.reduceSub, Int.reduceMul, Int.reduceBEq, Int.reduceBNe, bm_box, bm_row, bk_box, bk_row, ud3, ud96, hd2, hwi, hsh, hbit])) ?_)
    | (simp (disch := omega) only [go_sem, Nat.reduceLT, Nat.reduceLeDiff, Nat.reduceAdd, Nat.reduceMul, Nat.reduceEqDiff, ↓reduceIte, reduceCtorEq, Nat.reduceBEq, Nat.reduceBNe, Nat.reducePow, Int.reduceLE, Int.reduceLT, Int.reduceNeg, Int.reduceToNat, Int.reduceEq, Int.reduceAdd, Int.reduceSub, Int.reduceMul, Int.reduceBEq, Int.reduceBNe, bm_box, bm_row, bk_box, bk_row, ud3, ud96, hd2, hwi, hsh, hbit])
    | (exact retS_of rfl rfl rfl)
    | (refine DW.cond_tt rfl ?_)
    | (refine DW.cond_ff rfl ?_)
    | (refine DW.cond rfl ?_ ?_ <;> intro hc <;> (try simp only [go_sem] at hc))
    | (refine g_split ?_ ?_ <;> intro hc <;> (try simp only [hc]) <;> (try simp only [go_sem] at hc)))
          refine ⟨⟨i + 1, hlt⟩, ?_, Ent.to ?_ ?_⟩ <;> first | (show _ < _; (try simp only); omega) | (simp (disch := omega) only [wkT_cons, wkX_cons, wkT_nil, wkX_nil, get, Nat.reduceEqDiff, ↓reduceIte, ex_some, wk_self, wk_top, wk_nil, wkB_self, and_self, dI, i64_in, and_true, true_and, Int.natCast_add, Int.natCast_one, Int.ofNat_zero, Int.natCast_zero,  hs1, hs2])
      · obtain rfl : i = rs.length := by omega
        have hd2 : decide ((rs.length : Int) < (rs.length : Int)) = false := by rw [decide_eq_false_iff_not]; omega
        have m1 := n1 lm G
        have m2 := n2 lm2 (hM sm rs.length)
        rw [hgone] at m1
        generalize hM sm rs.length = H at *
        generalize (outN sm rs.length).length = W at *
        repeat' (first
    | (with_reducible refine DW.seq ?_)
    | (with_reducible refine DW.block ?_)
    | (with_reducible refine DW.skip ?_)
    | (with_reducible refine DW.exit ?_)
    | (with_reducible refine DW.ret ?_)
    | (with_reducible refine DW.reg ?_)
    | (refine DW.dreg rfl (WF.of (by first | rfl | simp (disch := omega) only [go_sem, Nat.reduceLT, Nat.reduceLeDiff, Nat.reduceAdd, Nat.reduceMul, Nat.reduceEqDiff, ↓reduceIte, reduceCtorEq, Nat.reduceBEq, Nat.reduceBNe, Nat.reducePow, Int.reduceLE, Int.reduceLT, Int.reduceNeg, Int.reduceToNat, Int.reduceEq, Int.reduceAdd, Int.reduceSub, Int.reduceMul, Int.reduceBEq, Int.reduceBNe, bm_box, bm_row, bk_box, bk_row, hd2])) ?_)
    | (simp (disch := omega) only [go_sem, Nat.reduceLT, Nat.reduceLeDiff, Nat.reduceAdd, Nat.reduceMul, Nat.reduceEqDiff, ↓reduceIte, reduceCtorEq, Nat.reduceBEq, Nat.reduceBNe, Nat.reducePow, Int.reduceLE, Int.reduceLT, Int.reduceNeg, Int.reduceToNat, Int.reduceEq, Int.reduceAdd, Int.reduceSub, Int.reduceMul, Int.reduceBEq, Int.reduceBNe, bm_box, bm_row, bk_box, bk_row, hd2])
    | (exact retS_of rfl rfl rfl)
    | (refine DW.cond_tt rfl ?_)
    | (refine DW.cond_ff rfl ?_)
    | (refine DW.cond rfl ?_ ?_ <;> intro hc <;> (try simp only [go_sem] at hc))
    | (refine g_split ?_ ?_ <;> intro hc <;> (try simp only [hc]) <;> (try simp only [go_sem] at hc)))
        refine call_hk 66 m1 rfl rfl rfl (by simp (disch := omega) only [go_sem, Nat.reduceLT, Nat.reduceLeDiff, Nat.reduceAdd, Nat.reduceMul, Nat.reduceEqDiff, ↓reduceIte, reduceCtorEq, Nat.reduceBEq, Nat.reduceBNe, Nat.reducePow, Int.reduceLE, Int.reduceLT, Int.reduceNeg, Int.reduceToNat, Int.reduceEq, Int.reduceAdd, Int.reduceSub, Int.reduceMul, Int.reduceBEq, Int.reduceBNe, bm_box, bm_row, bk_box, bk_row, del]) (by decide) ?_
        simp (disch := omega) only [go_sem, Nat.reduceLT, Nat.reduceLeDiff, Nat.reduceAdd, Nat.reduceMul, Nat.reduceEqDiff, ↓reduceIte, reduceCtorEq, Nat.reduceBEq, Nat.reduceBNe, Nat.reducePow, Int.reduceLE, Int.reduceLT, Int.reduceNeg, Int.reduceToNat, Int.reduceEq, Int.reduceAdd, Int.reduceSub, Int.reduceMul, Int.reduceBEq, Int.reduceBNe, bm_box, bm_row, bk_box, bk_row, del]
        cases hcw : decide ((W : Int) < (o.length : Int)) with
        | false =>
          repeat' (first
    | (with_reducible refine DW.seq ?_)
    | (with_reducible refine DW.block ?_)
    | (with_reducible refine DW.skip ?_)
    | (with_reducible refine DW.exit ?_)
    | (with_reducible refine DW.ret ?_)
    | (with_reducible refine DW.reg ?_)
    | (refine DW.dreg rfl (WF.of (by first | rfl | simp (disch := omega) only [go_sem, Nat.reduceLT, Nat.reduceLeDiff, Nat.reduceAdd, Nat.reduceMul, Nat.reduceEqDiff, ↓reduceIte, reduceCtorEq, Nat.reduceBEq, Nat.reduceBNe, Nat.reducePow, Int.reduceLE, Int.reduceLT, Int.reduceNeg, Int.reduceToNat, Int.reduceEq, Int.reduceAdd, Int.reduceSub, Int.reduceMul, Int.reduceBEq, Int.reduceBNe, bm_box, bm_row, bk_box, bk_row, hcw, hln, eN, List.map_cons, List.map_nil, ud5, t3, t4, c2, c3])) ?_)
    | (simp (disch := omega) only [go_sem, Nat.reduceLT, Nat.reduceLeDiff, Nat.reduceAdd, Nat.reduceMul, Nat.reduceEqDiff, ↓reduceIte, reduceCtorEq, Nat.reduceBEq, Nat.reduceBNe, Nat.reducePow, Int.reduceLE, Int.reduceLT, Int.reduceNeg, Int.reduceToNat, Int.reduceEq, Int.reduceAdd, Int.reduceSub, Int.reduceMul, Int.reduceBEq, Int.reduceBNe, bm_box, bm_row, bk_box, bk_row, hcw, hln, eN, List.map_cons, List.map_nil, ud5, t3, t4, c2, c3])
    | (exact retS_of rfl rfl rfl)
    | (refine DW.cond_tt rfl ?_)
    | (refine call_c (hin1) (by decide) ?_)
    | (refine call_c (hodd2) (by decide) ?_)
    | (refine call_c (hodd3) (by decide) ?_)
    | (refine call_c (hk) (by decide) ?_)
    | (refine DW.cond_ff rfl ?_)
    | (refine DW.cond rfl ?_ ?_ <;> intro hc <;> (try simp only [go_sem] at hc))
    | (refine g_split ?_ ?_ <;> intro hc <;> (try simp only [hc]) <;> (try simp only [go_sem] at hc)))
        | true =>
          have hfa : nearI (goneF H) off spr rs = false := by
            cases hx : nearI (goneF H) off spr rs with
            | false => rfl
            | true => have := hother hx; rw [decide_eq_true_eq] at hcw; omega
          rw [hfa] at m2
          repeat' (first
    | (with_reducible refine DW.seq ?_)
    | (with_reducible refine DW.block ?_)
    | (with_reducible refine DW.skip ?_)
    | (with_reducible refine DW.exit ?_)
    | (with_reducible refine DW.ret ?_)
    | (with_reducible refine DW.reg ?_)
    | (refine DW.dreg rfl (WF.of (by first | rfl | simp (disch := omega) only [go_sem, Nat.reduceLT, Nat.reduceLeDiff, Nat.reduceAdd, Nat.reduceMul, Nat.reduceEqDiff, ↓reduceIte, reduceCtorEq, Nat.reduceBEq, Nat.reduceBNe, Nat.reducePow, Int.reduceLE, Int.reduceLT, Int.reduceNeg, Int.reduceToNat, Int.reduceEq, Int.reduceAdd, Int.reduceSub, Int.reduceMul, Int.reduceBEq, Int.reduceBNe, bm_box, bm_row, bk_box, bk_row, hcw, hln])) ?_)
    | (simp (disch := omega) only [go_sem, Nat.reduceLT, Nat.reduceLeDiff, Nat.reduceAdd, Nat.reduceMul, Nat.reduceEqDiff, ↓reduceIte, reduceCtorEq, Nat.reduceBEq, Nat.reduceBNe, Nat.reducePow, Int.reduceLE, Int.reduceLT, Int.reduceNeg, Int.reduceToNat, Int.reduceEq, Int.reduceAdd, Int.reduceSub, Int.reduceMul, Int.reduceBEq, Int.reduceBNe, bm_box, bm_row, bk_box, bk_row, hcw, hln])
    | (exact retS_of rfl rfl rfl)
    | (refine DW.cond_tt rfl ?_)
    | (refine DW.cond_ff rfl ?_)
    | (refine DW.cond rfl ?_ ?_ <;> intro hc <;> (try simp only [go_sem] at hc))
    | (refine g_split ?_ ?_ <;> intro hc <;> (try simp only [hc]) <;> (try simp only [go_sem] at hc)))
          refine call_hk 108 m2 rfl rfl rfl (by simp (disch := omega) only [go_sem, Nat.reduceLT, Nat.reduceLeDiff, Nat.reduceAdd, Nat.reduceMul, Nat.reduceEqDiff, ↓reduceIte, reduceCtorEq, Nat.reduceBEq, Nat.reduceBNe, Nat.reducePow, Int.reduceLE, Int.reduceLT, Int.reduceNeg, Int.reduceToNat, Int.reduceEq, Int.reduceAdd, Int.reduceSub, Int.reduceMul, Int.reduceBEq, Int.reduceBNe, bm_box, bm_row, bk_box, bk_row, del]) (by decide) ?_
          simp (disch := omega) only [go_sem, Nat.reduceLT, Nat.reduceLeDiff, Nat.reduceAdd, Nat.reduceMul, Nat.reduceEqDiff, ↓reduceIte, reduceCtorEq, Nat.reduceBEq, Nat.reduceBNe, Nat.reducePow, Int.reduceLE, Int.reduceLT, Int.reduceNeg, Int.reduceToNat, Int.reduceEq, Int.reduceAdd, Int.reduceSub, Int.reduceMul, Int.reduceBEq, Int.reduceBNe, bm_box, bm_row, bk_box, bk_row, del]
          repeat' (first
    | (with_reducible refine DW.seq ?_)
    | (with_reducible refine DW.block ?_)
    | (with_reducible refine DW.skip ?_)
    | (with_reducible refine DW.exit ?_)
    | (with_reducible refine DW.ret ?_)
    | (with_reducible refine DW.reg ?_)
    | (refine DW.dreg rfl (WF.of (by first | rfl | simp (disch := omega) only [go_sem, Nat.reduceLT, Nat.reduceLeDiff, Nat.reduceAdd, Nat.reduceMul, Nat.reduceEqDiff, ↓reduceIte, reduceCtorEq, Nat.reduceBEq, Nat.reduceBNe, Nat.reducePow, Int.reduceLE, Int.reduceLT, Int.reduceNeg, Int.reduceToNat, Int.reduceEq, Int.reduceAdd, Int.reduceSub, Int.reduceMul, Int.reduceBEq, Int.reduceBNe, bm_box, bm_row, bk_box, bk_row, hcw, hln, eN, List.map_cons, List.map_nil, ud5, t3, t4, c2, c3])) ?_)
    | (simp (disch := omega) only [go_sem, Nat.reduceLT, Nat.reduceLeDiff, Nat.reduceAdd, Nat.reduceMul, Nat.reduceEqDiff, ↓reduceIte, reduceCtorEq, Nat.reduceBEq, Nat.reduceBNe, Nat.reducePow, Int.reduceLE, Int.reduceLT, Int.reduceNeg, Int.reduceToNat, Int.reduceEq, Int.reduceAdd, Int.reduceSub, Int.reduceMul, Int.reduceBEq, Int.reduceBNe, bm_box, bm_row, bk_box, bk_row, hcw, hln, eN, List.map_cons, List.map_nil, ud5, t3, t4, c2, c3])
    | (exact retS_of rfl rfl rfl)
    | (refine DW.cond_tt rfl ?_)
    | (refine call_c (hin1) (by decide) ?_)
    | (refine call_c (hodd2) (by decide) ?_)
    | (refine call_c (hodd3) (by decide) ?_)
    | (refine call_c (hk) (by decide) ?_)
    | (refine DW.cond_ff rfl ?_)
    | (refine DW.cond rfl ?_ ?_ <;> intro hc <;> (try simp only [go_sem] at hc))
    | (refine g_split ?_ ?_ <;> intro hc <;> (try simp only [hc]) <;> (try simp only [go_sem] at hc)))
end Go.Dw.Seat
end
