/- The law TopCreditTests returns true for all tests and all quotes in bytes, and changes nothing that was there before: the full statement TopCreditTestsSaid, without conditions.
   The walk of each function is in the texts before; that no less is paid back for more boxes is a plain law. -/
import Derived.Test.YtmbgogijhpommaaC00
import Derived.Test.YtmbgogijhpommaaRows
import Derived.ProofKit
import Derived.OpenShut
set_option linter.unusedVariables false
set_option linter.unusedSimpArgs false
section
set_option linter.unusedSimpArgs false
set_option maxRecDepth 100000
namespace Go.Dw.Seat
open Go Go.Dw Go.Proofs Go.IntWalk
theorem prOpenCount (q : Quote) (h : q.ok) (n : Int) (hn : 1 ≤ n ∧ n ≤ 100000) : DCall Try.prog 44 [dQ false q, dI n] [] (.tup [dQ false q, dI 0]) [] := by
  have h1 := prOpen q h
  have h2 := prCount true [n] (by simp)
  rw [wthn_ok (by simpa using hn)] at h2
  refine DCall.of Try.func44 sf44 hb44 (Nat.le_of_ble_eq_true rfl) (okRes_nil fun _ => rfl) ?_; simp only [s44, idxs, Nat.reduceAdd]
  repeat' (first
    | (with_reducible refine DW.seq ?_)
    | (with_reducible refine DW.block ?_)
    | (with_reducible refine DW.skip ?_)
    | (with_reducible refine DW.exit ?_)
    | (with_reducible refine DW.ret ?_)
    | (with_reducible refine DW.reg ?_)
    | (simp (disch := omega) only [go_sem, Nat.reduceLT, Nat.reduceLeDiff, Nat.reduceAdd, Nat.reduceMul, Nat.reduceEqDiff, ↓reduceIte, reduceCtorEq, Nat.reduceBEq, Nat.reduceBNe, Nat.reducePow, Int.reduceLE, Int.reduceLT, Int.reduceNeg, Int.reduceToNat, Int.reduceEq, Int.reduceAdd, Int.reduceSub, Int.reduceMul, Int.reduceBEq, Int.reduceBNe, Blk.men, Blk.keysIn])
    | (exact retS_of rfl rfl rfl)
    | (refine DW.cond_tt rfl ?_)
    | (refine call_c (h1) (by decide) ?_)
    | (refine call_c (h2) (by decide) ?_)
    | (refine DW.cond_ff rfl ?_)
    | (refine DW.cond rfl ?_ ?_ <;> intro hc <;> (try simp only [go_sem] at hc))
    | (refine g_split ?_ ?_ <;> intro hc <;> (try simp only [hc]) <;> (try simp only [go_sem] at hc)))
  refine retS_wk rfl ?_ (by simp only [Blk.nb, rowC_nb, D.nb, D.nbs, C.nb, C.nbs, C.nbss, rows_nb eI_nb, rows_nb eC_nb, rows_nb eL_nb, rows_nb eR_nb, rows_nb eS_nb, rows_nb eG_nb, Bool.and_true, Bool.not_false, Bool.and_self, bD, dI, iD, rows_nb eT_nb]); exact .tup (.cons (.refl _) (.cons (.refl _) .nil))
def upI (n d : Int) : Int := (n + d - 1).tdiv d
theorem upI_b {n d N : Int} (hn : 0 ≤ n ∧ n ≤ N) (hd : 1 ≤ d) : 0 ≤ upI n d ∧ upI n d ≤ N := by
  unfold upI
  rw [Int.tdiv_eq_ediv_of_nonneg (by omega)]
  refine ⟨Int.ediv_nonneg (by omega) (by omega), ?_⟩
  have h1 : n + d - 1 < (n + 1) * d := by
    rw [Int.add_mul]
    have := Int.mul_le_mul_of_nonneg_left hd hn.1
    omega
  have := Int.ediv_lt_of_lt_mul (by omega) h1
  omega
theorem prUp (n d : Int) (hn : 0 ≤ n ∧ n ≤ 4000000000000000000) (hd : 1 ≤ d ∧ d ≤ 1000000000000) : DCall Try.prog 81 [dI n, dI d] [] (dI (upI n d)) [] := by
  have hb := upI_b (N := 4000000000000000000) hn hd.1
  have h0 : (d = 0) = False := by rw [eq_iff_iff, iff_false]; omega
  unfold upI at *
  refine DCall.of Try.func81 sf81 hb81 (Nat.le_of_ble_eq_true rfl) (okRes_nil fun _ => rfl) ?_; simp only [s81, idxs, Nat.reduceAdd]
  repeat' (first
    | (with_reducible refine DW.seq ?_)
    | (with_reducible refine DW.block ?_)
    | (with_reducible refine DW.skip ?_)
    | (with_reducible refine DW.exit ?_)
    | (with_reducible refine DW.ret ?_)
    | (with_reducible refine DW.reg ?_)
    | (simp (disch := omega) only [go_sem, Nat.reduceLT, Nat.reduceLeDiff, Nat.reduceAdd, Nat.reduceMul, Nat.reduceEqDiff, ↓reduceIte, reduceCtorEq, Nat.reduceBEq, Nat.reduceBNe, Nat.reducePow, Int.reduceLE, Int.reduceLT, Int.reduceNeg, Int.reduceToNat, Int.reduceEq, Int.reduceAdd, Int.reduceSub, Int.reduceMul, Int.reduceBEq, Int.reduceBNe, Blk.men, Blk.keysIn, h0])
    | (exact retS_of rfl rfl rfl)
    | (refine DW.cond_tt rfl ?_)
    | (refine DW.cond_ff rfl ?_)
    | (refine DW.cond rfl ?_ ?_ <;> intro hc <;> (try simp only [go_sem] at hc))
    | (refine g_split ?_ ?_ <;> intro hc <;> (try simp only [hc]) <;> (try simp only [go_sem] at hc)))
  trace_state
def offQ (n : Int) (l : List (Int × Int)) (o : Int) : Int := l.foldl (fun o s => if s.1 ≤ n then s.2 else o) o
theorem offQ_b (n : Int) (l : List (Int × Int)) (h : ∀ s ∈ l, 0 ≤ s.2 ∧ s.2 ≤ 900) : ∀ o, 0 ≤ o ∧ o ≤ 900 → 0 ≤ offQ n l o ∧ offQ n l o ≤ 900 := by
  induction l with
  | nil => exact fun o ho => ho
  | cons s t ih =>
    intro o ho
    refine ih (fun x hx => h x (by simp [hx])) _ ?_
    show 0 ≤ (if s.1 ≤ n then s.2 else o) ∧ (if s.1 ≤ n then s.2 else o) ≤ 900
    split
    · exact h s (by simp)
    · exact ho
theorem offQ_take (n : Int) (l : List (Int × Int)) (i : Nat) (v : Int × Int) (hv : l[i]? = some v) : offQ n (l.take (i + 1)) 0 = if v.1 ≤ n then v.2 else offQ n (l.take i) 0 := by
  rw [List.take_add_one, hv]
  simp only [offQ, Option.toList_some, List.foldl_append, List.foldl_cons, List.foldl_nil]
theorem prOff (q : Quote) (h : q.ok) (n : Int) : DCall Try.prog 83 [dQ false q, dI n] [] (dI (offQ n q.steps 0)) [] := by
  have hl : q.steps.length ≤ 2 ^ 36 := by have := h.len; omega
  have hlI : ((q.steps.length : Nat) : Int) ≤ 68719476736 := by omega
  refine DCall.of Try.func83 sf83 hb83 (Nat.le_of_ble_eq_true rfl) (okRes_nil fun _ => rfl) ?_; simp only [s83, idxs, Nat.reduceAdd]
  repeat' (first
    | (with_reducible refine DW.seq ?_)
    | (with_reducible refine DW.block ?_)
    | (with_reducible refine DW.skip ?_)
    | (with_reducible refine DW.exit ?_)
    | (with_reducible refine DW.ret ?_)
    | (with_reducible refine DW.reg ?_)
    | (simp (disch := omega) only [go_sem, Nat.reduceLT, Nat.reduceLeDiff, Nat.reduceAdd, Nat.reduceMul, Nat.reduceEqDiff, ↓reduceIte, reduceCtorEq, Nat.reduceBEq, Nat.reduceBNe, Nat.reducePow, Int.reduceLE, Int.reduceLT, Int.reduceNeg, Int.reduceToNat, Int.reduceEq, Int.reduceAdd, Int.reduceSub, Int.reduceMul, Int.reduceBEq, Int.reduceBNe, Blk.men, Blk.keysIn])
    | (exact retS_of rfl rfl rfl)
    | (refine DW.cond_tt rfl ?_)
    | (refine DW.cond_ff rfl ?_)
    | (refine DW.cond rfl ?_ ?_ <;> intro hc <;> (try simp only [go_sem] at hc))
    | (refine g_split ?_ ?_ <;> intro hc <;> (try simp only [hc]) <;> (try simp only [go_sem] at hc)))
  refine DW.loop (ι := { i : Nat // i ≤ q.steps.length }) (fun i => ⟨23, [(11, dI i.1), (10, dI q.steps.length), (9, .c (.sl false 2 (rows eT q.steps))), (4, dI (offQ n (q.steps.take i.1) 0)), (1, dI n)], []⟩) (fun i => q.steps.length - i.1) ⟨0, Nat.zero_le _⟩ ?_ ?_
  · refine Ent.to ?_ ?_ <;> simp (disch := omega) only [wkT_cons, wkX_cons, wkT_nil, wkX_nil, get, Nat.reduceEqDiff, ↓reduceIte, ex_some, wk_self, wk_top, wk_nil, wkB_self, and_self, dI, i64_in, and_true, true_and, Int.natCast_add, Int.natCast_one, Int.ofNat_zero, Int.natCast_zero, offQ, List.take_zero, List.foldl_nil]
  rintro ⟨i, hi⟩
  rcases at_or q.steps i hi with ⟨v, hv, hlt, hd⟩ | ⟨he, hd⟩
  · have hnx := offQ_take n q.steps i v hv
    by_cases hc : v.1 ≤ n
    · have hcd : decide (v.1 ≤ n) = true := decide_eq_true hc
      rw [if_pos hc] at hnx
      repeat' (first
    | (with_reducible refine DW.seq ?_)
    | (with_reducible refine DW.block ?_)
    | (with_reducible refine DW.skip ?_)
    | (with_reducible refine DW.exit ?_)
    | (with_reducible refine DW.ret ?_)
    | (with_reducible refine DW.reg ?_)
    | (simp (disch := omega) only [go_sem, Nat.reduceLT, Nat.reduceLeDiff, Nat.reduceAdd, Nat.reduceMul, Nat.reduceEqDiff, ↓reduceIte, reduceCtorEq, Nat.reduceBEq, Nat.reduceBNe, Nat.reducePow, Int.reduceLE, Int.reduceLT, Int.reduceNeg, Int.reduceToNat, Int.reduceEq, Int.reduceAdd, Int.reduceSub, Int.reduceMul, Int.reduceBEq, Int.reduceBNe, Blk.men, Blk.keysIn, hd, hv, hcd, List.map_cons, List.map_nil])
    | (exact retS_of rfl rfl rfl)
    | (refine DW.cond_tt rfl ?_)
    | (refine DW.cond_ff rfl ?_)
    | (refine DW.cond rfl ?_ ?_ <;> intro hc <;> (try simp only [go_sem] at hc))
    | (refine g_split ?_ ?_ <;> intro hc <;> (try simp only [hc]) <;> (try simp only [go_sem] at hc)))
      refine ⟨⟨i + 1, hlt⟩, ?_, Ent.to ?_ ?_⟩ <;> first | (show _ < _; (try simp only); omega) | (simp (disch := omega) only [wkT_cons, wkX_cons, wkT_nil, wkX_nil, get, Nat.reduceEqDiff, ↓reduceIte, ex_some, wk_self, wk_top, wk_nil, wkB_self, and_self, dI, i64_in, and_true, true_and, Int.natCast_add, Int.natCast_one, Int.ofNat_zero, Int.natCast_zero,  hnx])
    · have hcd : decide (v.1 ≤ n) = false := decide_eq_false hc
      rw [if_neg hc] at hnx
      repeat' (first
    | (with_reducible refine DW.seq ?_)
    | (with_reducible refine DW.block ?_)
    | (with_reducible refine DW.skip ?_)
    | (with_reducible refine DW.exit ?_)
    | (with_reducible refine DW.ret ?_)
    | (with_reducible refine DW.reg ?_)
    | (simp (disch := omega) only [go_sem, Nat.reduceLT, Nat.reduceLeDiff, Nat.reduceAdd, Nat.reduceMul, Nat.reduceEqDiff, ↓reduceIte, reduceCtorEq, Nat.reduceBEq, Nat.reduceBNe, Nat.reducePow, Int.reduceLE, Int.reduceLT, Int.reduceNeg, Int.reduceToNat, Int.reduceEq, Int.reduceAdd, Int.reduceSub, Int.reduceMul, Int.reduceBEq, Int.reduceBNe, Blk.men, Blk.keysIn, hd, hv, hcd, List.map_cons, List.map_nil])
    | (exact retS_of rfl rfl rfl)
    | (refine DW.cond_tt rfl ?_)
    | (refine DW.cond_ff rfl ?_)
    | (refine DW.cond rfl ?_ ?_ <;> intro hc <;> (try simp only [go_sem] at hc))
    | (refine g_split ?_ ?_ <;> intro hc <;> (try simp only [hc]) <;> (try simp only [go_sem] at hc)))
      refine ⟨⟨i + 1, hlt⟩, ?_, Ent.to ?_ ?_⟩ <;> first | (show _ < _; (try simp only); omega) | (simp (disch := omega) only [wkT_cons, wkX_cons, wkT_nil, wkX_nil, get, Nat.reduceEqDiff, ↓reduceIte, ex_some, wk_self, wk_top, wk_nil, wkB_self, and_self, dI, i64_in, and_true, true_and, Int.natCast_add, Int.natCast_one, Int.ofNat_zero, Int.natCast_zero,  hnx])
  · repeat' (first
    | (with_reducible refine DW.seq ?_)
    | (with_reducible refine DW.block ?_)
    | (with_reducible refine DW.skip ?_)
    | (with_reducible refine DW.exit ?_)
    | (with_reducible refine DW.ret ?_)
    | (with_reducible refine DW.reg ?_)
    | (simp (disch := omega) only [go_sem, Nat.reduceLT, Nat.reduceLeDiff, Nat.reduceAdd, Nat.reduceMul, Nat.reduceEqDiff, ↓reduceIte, reduceCtorEq, Nat.reduceBEq, Nat.reduceBNe, Nat.reducePow, Int.reduceLE, Int.reduceLT, Int.reduceNeg, Int.reduceToNat, Int.reduceEq, Int.reduceAdd, Int.reduceSub, Int.reduceMul, Int.reduceBEq, Int.reduceBNe, Blk.men, Blk.keysIn, hd])
    | (exact retS_of rfl rfl rfl)
    | (refine DW.cond_tt rfl ?_)
    | (refine DW.cond_ff rfl ?_)
    | (refine DW.cond rfl ?_ ?_ <;> intro hc <;> (try simp only [go_sem] at hc))
    | (refine g_split ?_ ?_ <;> intro hc <;> (try simp only [hc]) <;> (try simp only [go_sem] at hc)))
    refine retS_of rfl ?_ rfl; simp only [oneD, St.op, get, Nat.reduceEqDiff, ↓reduceIte, Option.getD_some, bD, dI]
    rw [he, List.take_length]
def costB (q : Quote) (n : Int) : Int := upI (n * q.area * (1000 + q.waste) * q.board) 10000000000
def costS (q : Quote) (n : Int) : Int := q.setup * upI n q.run
def costW (q : Quote) (n : Int) : Int := upI (q.work * n) 1000
def costF (q : Quote) (n : Int) : Int := q.freight * upI n q.pallet
def costQ (q : Quote) (n : Int) : Int := costB q n + q.tool + costS q n + costW q n + costF q n
def priceQ (q : Quote) (n : Int) : Int := upI (costQ q n * (1000 + q.margin) * (1000 - offQ n q.steps 0)) 1000000
abbrev dParts (q : Quote) (n : Int) : D := .agg [dI (costB q n), dI q.tool, dI (costS q n), dI (costW q n), dI (costF q n)]
structure CostB (q : Quote) (n : Int) : Prop where
  m1 : 0 ≤ n * q.area ∧ n * q.area ≤ 10000000000
  m2 : 0 ≤ n * q.area * (1000 + q.waste) ∧ n * q.area * (1000 + q.waste) ≤ 15000000000000
  m3 : 0 ≤ n * q.area * (1000 + q.waste) * q.board ∧ n * q.area * (1000 + q.waste) * q.board ≤ 1500000000000000000
  s1 : 0 ≤ upI n q.run ∧ upI n q.run ≤ 100000
  s2 : 0 ≤ costS q n ∧ costS q n ≤ 100000000000
  w1 : 0 ≤ q.work * n ∧ q.work * n ≤ 100000000000
  w2 : 0 ≤ costW q n ∧ costW q n ≤ 100000000000
  f1 : 0 ≤ upI n q.pallet ∧ upI n q.pallet ≤ 100000
  f2 : 0 ≤ costF q n ∧ costF q n ≤ 100000000000
  b2 : 0 ≤ costB q n ∧ costB q n ≤ 150000001
theorem upI_q {n d N : Int} (k : Int) (hn : 0 ≤ n ∧ n ≤ N) (hd : 1 ≤ d) (hk : N ≤ k * d) : upI n d ≤ k := by
  unfold upI
  rw [Int.tdiv_eq_ediv_of_nonneg (by omega)]
  have h1 : n + d - 1 < (k + 1) * d := by
    rw [Int.add_mul]
    omega
  have := Int.ediv_lt_of_lt_mul (by omega) h1
  omega
theorem costs (q : Quote) (h : q.ok) (n : Int) (hn : 1 ≤ n ∧ n ≤ 100000) : CostB q n := by
  have m1 := mulB0 (a := n) (b := q.area) (A := 100000) (B := 100000) (by omega) (by have := h.area; omega)
  have m2 := mulB0 (a := n * q.area) (b := 1000 + q.waste) (A := 10000000000) (B := 1500) (by omega) (by have := h.waste; omega)
  have m3 := mulB0 (a := n * q.area * (1000 + q.waste)) (b := q.board) (A := 15000000000000) (B := 100000) (by omega) (by have := h.board; omega)
  have s1 := upI_b (n := n) (d := q.run) (N := 100000) (by omega) h.run.1
  have s2 := mulB0 (a := q.setup) (b := upI n q.run) (A := 1000000) (B := 100000) h.setup s1
  have w1 := mulB0 (a := q.work) (b := n) (A := 1000000) (B := 100000) h.work (by omega)
  have w2 := upI_b (n := q.work * n) (d := 1000) (N := 100000000000) (by omega) (by decide)
  have f1 := upI_b (n := n) (d := q.pallet) (N := 100000) (by omega) h.pallet.1
  have f2 := mulB0 (a := q.freight) (b := upI n q.pallet) (A := 1000000) (B := 100000) h.freight f1
  have b2 := upI_b (n := n * q.area * (1000 + q.waste) * q.board) (d := 10000000000) (N := 1500000000000000000) (by omega) (by decide)
  have b3 := upI_q (n := n * q.area * (1000 + q.waste) * q.board) (d := 10000000000) (N := 1500000000000000000) 150000001 (by omega) (by decide) (by decide)
  exact ⟨by omega, by omega, by omega, s1, by unfold costS; omega, by omega, by unfold costW; omega, f1, by unfold costF; omega, by unfold costB; omega⟩
theorem prParts (q : Quote) (h : q.ok) (n : Int) (hn : 1 ≤ n ∧ n ≤ 100000) : DCall Try.prog 47 [dQ false q, dI n] [] (dParts q n) [] := by
  have c := costs q h n hn
  have h0 := h.area
  have h1 := h.waste
  have h2 := h.board
  have c1 := c.m1
  have c2 := c.m2
  have c3 := c.m3
  have c4 := c.s2
  have c5 := c.w1
  have c6 := c.f2
  have h3 := prUp (n * q.area * (1000 + q.waste) * q.board) 10000000000 (by omega) (by decide)
  have h4 := prUp n q.run (by omega) (by have := h.run; omega)
  have h5 := prUp (q.work * n) 1000 (by omega) (by decide)
  have h6 := prUp n q.pallet (by omega) (by have := h.pallet; omega)
  unfold dParts
  unfold costB costS costW costF at *
  refine DCall.of Try.func47 sf47 hb47 (Nat.le_of_ble_eq_true rfl) (okRes_nil fun _ => rfl) ?_; simp only [s47, idxs, Nat.reduceAdd]
  repeat' (first
    | (with_reducible refine DW.seq ?_)
    | (with_reducible refine DW.block ?_)
    | (with_reducible refine DW.skip ?_)
    | (with_reducible refine DW.exit ?_)
    | (with_reducible refine DW.ret ?_)
    | (with_reducible refine DW.reg ?_)
    | (refine DW.dreg rfl (WF.of (by first | rfl | simp (disch := omega) only [go_sem, Nat.reduceLT, Nat.reduceLeDiff, Nat.reduceAdd, Nat.reduceMul, Nat.reduceEqDiff, ↓reduceIte, reduceCtorEq, Nat.reduceBEq, Nat.reduceBNe, Nat.reducePow, Int.reduceLE, Int.reduceLT, Int.reduceNeg, Int.reduceToNat, Int.reduceEq, Int.reduceAdd, Int.reduceSub, Int.reduceMul, Int.reduceBEq, Int.reduceBNe, Blk.men, Blk.keysIn])) ?_)
    | (simp (disch := omega) only [go_sem, Nat.reduceLT, Nat.reduceLeDiff, Nat.reduceAdd, Nat.reduceMul, Nat.reduceEqDiff, ↓reduceIte, reduceCtorEq, Nat.reduceBEq, Nat.reduceBNe, Nat.reducePow, Int.reduceLE, Int.reduceLT, Int.reduceNeg, Int.reduceToNat, Int.reduceEq, Int.reduceAdd, Int.reduceSub, Int.reduceMul, Int.reduceBEq, Int.reduceBNe, Blk.men, Blk.keysIn])
    | (exact retS_of rfl rfl rfl)
    | (refine DW.cond_tt rfl ?_)
    | (refine call_c (h3) (by decide) ?_)
    | (refine call_c (h4) (by decide) ?_)
    | (refine call_c (h5) (by decide) ?_)
    | (refine call_c (h6) (by decide) ?_)
    | (refine DW.cond_ff rfl ?_)
    | (refine DW.cond rfl ?_ ?_ <;> intro hc <;> (try simp only [go_sem] at hc))
    | (refine g_split ?_ ?_ <;> intro hc <;> (try simp only [hc]) <;> (try simp only [go_sem] at hc)))
theorem prCost (q : Quote) (h : q.ok) (n : Int) (hn : 1 ≤ n ∧ n ≤ 100000) : DCall Try.prog 82 [dParts q n] [] (dI (costQ q n)) [] := by
  have c := costs q h n hn
  have h3 := h.tool
  have c4 := c.s2
  have c5 := c.w2
  have c6 := c.f2
  have c7 := c.b2
  unfold dParts costQ
  refine DCall.of Try.func82 sf82 hb82 (Nat.le_of_ble_eq_true rfl) (okRes_nil fun _ => rfl) ?_; simp only [s82, idxs, Nat.reduceAdd]
  repeat' (first
    | (with_reducible refine DW.seq ?_)
    | (with_reducible refine DW.block ?_)
    | (with_reducible refine DW.skip ?_)
    | (with_reducible refine DW.exit ?_)
    | (with_reducible refine DW.ret ?_)
    | (with_reducible refine DW.reg ?_)
    | (simp (disch := omega) only [go_sem, Nat.reduceLT, Nat.reduceLeDiff, Nat.reduceAdd, Nat.reduceMul, Nat.reduceEqDiff, ↓reduceIte, reduceCtorEq, Nat.reduceBEq, Nat.reduceBNe, Nat.reducePow, Int.reduceLE, Int.reduceLT, Int.reduceNeg, Int.reduceToNat, Int.reduceEq, Int.reduceAdd, Int.reduceSub, Int.reduceMul, Int.reduceBEq, Int.reduceBNe, Blk.men, Blk.keysIn])
    | (exact retS_of rfl rfl rfl)
    | (refine DW.cond_tt rfl ?_)
    | (refine DW.cond_ff rfl ?_)
    | (refine DW.cond rfl ?_ ?_ <;> intro hc <;> (try simp only [go_sem] at hc))
    | (refine g_split ?_ ?_ <;> intro hc <;> (try simp only [hc]) <;> (try simp only [go_sem] at hc)))
theorem costQ_b (q : Quote) (h : q.ok) (n : Int) (hn : 1 ≤ n ∧ n ≤ 100000) : 0 ≤ costQ q n ∧ costQ q n ≤ 400000000000 := by
  have c := costs q h n hn
  have h3 := h.tool
  have c4 := c.s2
  have c5 := c.w2
  have c6 := c.f2
  have c7 := c.b2
  unfold costQ
  omega
structure PriceB (q : Quote) (n : Int) : Prop where
  m1 : 0 ≤ costQ q n * (1000 + q.margin) ∧ costQ q n * (1000 + q.margin) ≤ 800000000000000
  m2 : 0 ≤ costQ q n * (1000 + q.margin) * (1000 - offQ n q.steps 0) ∧ costQ q n * (1000 + q.margin) * (1000 - offQ n q.steps 0) ≤ 800000000000000000
  off : 0 ≤ offQ n q.steps 0 ∧ offQ n q.steps 0 ≤ 900
  b : 0 ≤ priceQ q n ∧ priceQ q n ≤ 800000000001
theorem prices (q : Quote) (h : q.ok) (n : Int) (hn : 1 ≤ n ∧ n ≤ 100000) : PriceB q n := by
  have c := costQ_b q h n hn
  have m1 := mulB0 (a := costQ q n) (b := 1000 + q.margin) (A := 400000000000) (B := 2000) c (by have := h.margin; omega)
  have o := offQ_b n q.steps (fun s hs => (h.steps s hs).2) 0 (by decide)
  have m2 := mulB0 (a := costQ q n * (1000 + q.margin)) (b := 1000 - offQ n q.steps 0) (A := 800000000000000) (B := 1000) (by omega) (by omega)
  have b1 := upI_b (n := costQ q n * (1000 + q.margin) * (1000 - offQ n q.steps 0)) (d := 1000000) (N := 800000000000000000) (by omega) (by decide)
  have b2 := upI_q (n := costQ q n * (1000 + q.margin) * (1000 - offQ n q.steps 0)) (d := 1000000) (N := 800000000000000000) 800000000001 (by omega) (by decide) (by decide)
  exact ⟨by omega, by omega, o, by unfold priceQ; omega⟩
theorem prPrice (q : Quote) (h : q.ok) (n : Int) (hn : 1 ≤ n ∧ n ≤ 100000) : DCall Try.prog 46 [dQ false q, dI n] [] (dI (priceQ q n)) [] := by
  have p := prices q h n hn
  have c := costQ_b q h n hn
  have c1 := p.m1
  have c2 := p.m2
  have c3 := p.off
  have c4 := h.margin
  have h1 := prParts q h n hn
  have h2 := prCost q h n hn
  have h3 := prOff q h n
  have h4 := prUp (costQ q n * (1000 + q.margin) * (1000 - offQ n q.steps 0)) 1000000 (by omega) (by decide)
  unfold priceQ
  refine DCall.of Try.func46 sf46 hb46 (Nat.le_of_ble_eq_true rfl) (okRes_nil fun _ => rfl) ?_; simp only [s46, idxs, Nat.reduceAdd]
  repeat' (first
    | (with_reducible refine DW.seq ?_)
    | (with_reducible refine DW.block ?_)
    | (with_reducible refine DW.skip ?_)
    | (with_reducible refine DW.exit ?_)
    | (with_reducible refine DW.ret ?_)
    | (with_reducible refine DW.reg ?_)
    | (refine DW.dreg rfl (WF.of (by first | rfl | simp (disch := omega) only [go_sem, Nat.reduceLT, Nat.reduceLeDiff, Nat.reduceAdd, Nat.reduceMul, Nat.reduceEqDiff, ↓reduceIte, reduceCtorEq, Nat.reduceBEq, Nat.reduceBNe, Nat.reducePow, Int.reduceLE, Int.reduceLT, Int.reduceNeg, Int.reduceToNat, Int.reduceEq, Int.reduceAdd, Int.reduceSub, Int.reduceMul, Int.reduceBEq, Int.reduceBNe, Blk.men, Blk.keysIn])) ?_)
    | (simp (disch := omega) only [go_sem, Nat.reduceLT, Nat.reduceLeDiff, Nat.reduceAdd, Nat.reduceMul, Nat.reduceEqDiff, ↓reduceIte, reduceCtorEq, Nat.reduceBEq, Nat.reduceBNe, Nat.reducePow, Int.reduceLE, Int.reduceLT, Int.reduceNeg, Int.reduceToNat, Int.reduceEq, Int.reduceAdd, Int.reduceSub, Int.reduceMul, Int.reduceBEq, Int.reduceBNe, Blk.men, Blk.keysIn])
    | (exact retS_of rfl rfl rfl)
    | (refine DW.cond_tt rfl ?_)
    | (refine call_c (h1) (by decide) ?_)
    | (refine call_c (h2) (by decide) ?_)
    | (refine call_c (h3) (by decide) ?_)
    | (refine call_c (h4) (by decide) ?_)
    | (refine DW.cond_ff rfl ?_)
    | (refine DW.cond rfl ?_ ?_ <;> intro hc <;> (try simp only [go_sem] at hc))
    | (refine g_split ?_ ?_ <;> intro hc <;> (try simp only [hc]) <;> (try simp only [go_sem] at hc)))
theorem prQuote (q : Quote) (h : q.ok) (n : Int) (hn : 1 ≤ n ∧ n ≤ 100000) : DCall Try.prog 14 [dQ false q, dI n] [] (.tup [dParts q n, dI (priceQ q n), dI 0]) [] := by
  have h1 := prOpenCount q h n hn
  have h2 := prParts q h n hn
  have h3 := prPrice q h n hn
  refine DCall.of Try.func14 sf14 hb14 (Nat.le_of_ble_eq_true rfl) (okRes_nil fun _ => rfl) ?_; simp only [s14, idxs, Nat.reduceAdd]
  repeat' (first
    | (with_reducible refine DW.seq ?_)
    | (with_reducible refine DW.block ?_)
    | (with_reducible refine DW.skip ?_)
    | (with_reducible refine DW.exit ?_)
    | (with_reducible refine DW.ret ?_)
    | (with_reducible refine DW.reg ?_)
    | (refine DW.dreg rfl (WF.of (by first | rfl | simp (disch := omega) only [go_sem, Nat.reduceLT, Nat.reduceLeDiff, Nat.reduceAdd, Nat.reduceMul, Nat.reduceEqDiff, ↓reduceIte, reduceCtorEq, Nat.reduceBEq, Nat.reduceBNe, Nat.reducePow, Int.reduceLE, Int.reduceLT, Int.reduceNeg, Int.reduceToNat, Int.reduceEq, Int.reduceAdd, Int.reduceSub, Int.reduceMul, Int.reduceBEq, Int.reduceBNe, Blk.men, Blk.keysIn])) ?_)
    | (simp (disch := omega) only [go_sem, Nat.reduceLT, Nat.reduceLeDiff, Nat.reduceAdd, Nat.reduceMul, Nat.reduceEqDiff, ↓reduceIte, reduceCtorEq, Nat.reduceBEq, Nat.reduceBNe, Nat.reducePow, Int.reduceLE, Int.reduceLT, Int.reduceNeg, Int.reduceToNat, Int.reduceEq, Int.reduceAdd, Int.reduceSub, Int.reduceMul, Int.reduceBEq, Int.reduceBNe, Blk.men, Blk.keysIn])
    | (exact retS_of rfl rfl rfl)
    | (refine DW.cond_tt rfl ?_)
    | (refine call_c (h1) (by decide) ?_)
    | (refine call_c (h2) (by decide) ?_)
    | (refine call_c (h3) (by decide) ?_)
    | (refine DW.cond_ff rfl ?_)
    | (refine DW.cond rfl ?_ ?_ <;> intro hc <;> (try simp only [go_sem] at hc))
    | (refine g_split ?_ ?_ <;> intro hc <;> (try simp only [hc]) <;> (try simp only [go_sem] at hc)))
theorem prCredit (q : Quote) (h : q.ok) (n bad : Int) (hn : 1 ≤ n ∧ n ≤ 100000) (hb : 0 ≤ bad ∧ bad ≤ n) : DCall Try.prog 12 [dQ false q, dI n, dI bad] [] (.tup [dI ((priceQ q n * bad).tdiv n), dI (priceQ q n - (priceQ q n * bad).tdiv n), dI 0]) [] := by
  have h1 := prOpenCount q h n hn
  have h3 := prPrice q h n hn
  have h2 := prWithin true 0 n [bad] (by simp)
  rw [wthn_ok (by simpa using hb)] at h2
  have h0 : (n = 0) = False := by rw [eq_iff_iff, iff_false]; omega
  have p := (prices q h n hn).b
  have m := mulB0 (a := priceQ q n) (b := bad) (A := 800000000001) (B := 100000) p (by omega)
  have d1 : 0 ≤ (priceQ q n * bad).tdiv n ∧ (priceQ q n * bad).tdiv n ≤ 80000000000100000 := by
    rw [Int.tdiv_eq_ediv_of_nonneg (by omega)]
    exact ⟨Int.ediv_nonneg (by omega) (by omega), Int.le_trans (Int.ediv_le_self _ (by omega)) (by omega)⟩
  refine DCall.of Try.func12 sf12 hb12 (Nat.le_of_ble_eq_true rfl) (okRes_nil fun _ => rfl) ?_; simp only [s12, idxs, Nat.reduceAdd]
  repeat' (first
    | (with_reducible refine DW.seq ?_)
    | (with_reducible refine DW.block ?_)
    | (with_reducible refine DW.skip ?_)
    | (with_reducible refine DW.exit ?_)
    | (with_reducible refine DW.ret ?_)
    | (with_reducible refine DW.reg ?_)
    | (simp (disch := omega) only [go_sem, Nat.reduceLT, Nat.reduceLeDiff, Nat.reduceAdd, Nat.reduceMul, Nat.reduceEqDiff, ↓reduceIte, reduceCtorEq, Nat.reduceBEq, Nat.reduceBNe, Nat.reducePow, Int.reduceLE, Int.reduceLT, Int.reduceNeg, Int.reduceToNat, Int.reduceEq, Int.reduceAdd, Int.reduceSub, Int.reduceMul, Int.reduceBEq, Int.reduceBNe, Blk.men, Blk.keysIn, h0])
    | (exact retS_of rfl rfl rfl)
    | (refine DW.cond_tt rfl ?_)
    | (refine call_c (h1) (by decide) ?_)
    | (refine call_c (h2) (by decide) ?_)
    | (refine call_c (h3) (by decide) ?_)
    | (refine DW.cond_ff rfl ?_)
    | (refine DW.cond rfl ?_ ?_ <;> intro hc <;> (try simp only [go_sem] at hc))
    | (refine g_split ?_ ?_ <;> intro hc <;> (try simp only [hc]) <;> (try simp only [go_sem] at hc)))
end Go.Dw.Seat
end
section
set_option linter.unusedSimpArgs false
set_option maxRecDepth 100000
namespace Go.Dw.Seat
open Go Go.Dw Go.Proofs Go.IntWalk
theorem prBackward (l : List (Int × Int)) : DCall Try.prog 148 [.c (.sl false 2 (rows eT l))] [] (.fn (.func 169) [] [.c (.ro false [.sl false 2 (rows eT l)] 0)]) [] := by
  refine DCall.of Try.func148 sf148 hb148 (Nat.le_of_ble_eq_true rfl) (okRes_nil fun _ => rfl) ?_; simp only [s148, idxs, Nat.reduceAdd]
  repeat' (first
    | (with_reducible refine DW.seq ?_)
    | (with_reducible refine DW.block ?_)
    | (with_reducible refine DW.skip ?_)
    | (with_reducible refine DW.exit ?_)
    | (with_reducible refine DW.ret ?_)
    | (with_reducible refine DW.reg ?_)
    | (simp (disch := omega) only [go_sem, Nat.reduceLT, Nat.reduceLeDiff, Nat.reduceAdd, Nat.reduceMul, Nat.reduceEqDiff, ↓reduceIte, reduceCtorEq, Nat.reduceBEq, Nat.reduceBNe, Nat.reducePow, Int.reduceLE, Int.reduceLT, Int.reduceNeg, Int.reduceToNat, Int.reduceEq, Int.reduceAdd, Int.reduceSub, Int.reduceMul, Int.reduceBEq, Int.reduceBNe, bm_box, bm_row, bk_box, bk_row])
    | (exact retS_of rfl rfl rfl)
    | (refine DW.cond_tt rfl ?_)
    | (refine DW.cond_ff rfl ?_)
    | (refine DW.cond rfl ?_ ?_ <;> intro hc <;> (try simp only [go_sem] at hc))
    | (refine g_split ?_ ?_ <;> intro hc <;> (try simp only [hc]) <;> (try simp only [go_sem] at hc)))
  (refine retS_ent (Ent.rel 1 rfl) ?_; simp (disch := omega) only [go_sem, Nat.reduceLT, Nat.reduceLeDiff, Nat.reduceAdd, Nat.reduceMul, Nat.reduceEqDiff, ↓reduceIte, reduceCtorEq, Nat.reduceBEq, Nat.reduceBNe, Nat.reducePow, Int.reduceLE, Int.reduceLT, Int.reduceNeg, Int.reduceToNat, Int.reduceEq, Int.reduceAdd, Int.reduceSub, Int.reduceMul, Int.reduceBEq, Int.reduceBNe, bm_box, bm_row, bk_box, bk_row])
  refine retS_wk rfl ?_ (by simp only [Blk.nb, rowC_nb, D.nb, D.nbs, C.nb, C.nbs, C.nbss, rows_nb eI_nb, rows_nb eC_nb, rows_nb eL_nb, rows_nb eR_nb, rows_nb eS_nb, rows_nb eG_nb, Bool.and_true, Bool.not_false, Bool.and_self, bD, dI, iD, rows_nb eT_nb]); exact .refl _
def backL {α : Type} (l : List α) : List (α × Nat) := l.zipIdx.reverse
theorem backL_nil {α : Type} : backL ([] : List α) = [] := rfl
theorem backL_take {α : Type} (l : List α) (i : Nat) (v : α) (hv : l[i]? = some v) : backL (l.take (i + 1)) = (v, i) :: backL (l.take i) := by
  rw [List.take_add_one, hv]
  have hlt : i < l.length := by
    rcases Nat.lt_or_ge i l.length with h | h
    · exact h
    · rw [List.getElem?_eq_none h] at hv; cases hv
  simp only [backL, Option.toList_some, List.zipIdx_append, List.length_take, Nat.min_eq_left (Nat.le_of_lt hlt), List.zipIdx_singleton, List.reverse_append, List.reverse_cons, List.reverse_nil, List.nil_append, List.cons_append, Nat.zero_add]
def enBack (e : (Int × Int) × Nat) : List D := [dI e.2, .agg ((eT e.1).map D.c)]
theorem prBack (l : List (Int × Int)) (hl : l.length ≤ 1000) (p : Bool) : ItD Try.prog 169 [] [.c (.ro p [.sl false 2 (rows eT l)] 0)] enBack (fun e => e.1 ∈ l) (backL l) := by
  intro ly β H stp live hH hY b0 hl0
  refine DCall.of Try.func169 sf169 hb169 (Nat.le_of_ble_eq_true rfl) (hH _).res ?_
  simp only [s169, idxs, Nat.reduceAdd, List.map_nil, List.map_cons, List.nil_append, List.cons_append]
  repeat' (first
    | (with_reducible refine DW.seq ?_)
    | (with_reducible refine DW.block ?_)
    | (with_reducible refine DW.skip ?_)
    | (with_reducible refine DW.exit ?_)
    | (with_reducible refine DW.ret ?_)
    | (with_reducible refine DW.reg ?_)
    | (simp (disch := omega) only [go_sem, Nat.reduceLT, Nat.reduceLeDiff, Nat.reduceAdd, Nat.reduceMul, Nat.reduceEqDiff, ↓reduceIte, reduceCtorEq, Nat.reduceBEq, Nat.reduceBNe, Nat.reducePow, Int.reduceLE, Int.reduceLT, Int.reduceNeg, Int.reduceToNat, Int.reduceEq, Int.reduceAdd, Int.reduceSub, Int.reduceMul, Int.reduceBEq, Int.reduceBNe, bm_box, bm_row, bk_box, bk_row])
    | (exact retS_of rfl rfl rfl)
    | (refine DW.cond_tt rfl ?_)
    | (refine DW.cond_ff rfl ?_)
    | (refine DW.cond rfl ?_ ?_ <;> intro hc <;> (try simp only [go_sem] at hc))
    | (refine g_split ?_ ?_ <;> intro hc <;> (try simp only [hc]) <;> (try simp only [go_sem] at hc)))
  refine DW.loop (ι := { s : Nat × β // s.1 ≤ l.length ∧ live s.2 ∧ runB stp b0 (backL l) = runB stp s.2 (backL (l.take s.1)) })
    (fun s => ⟨19, [(3, dI ((s.1.1 : Int) - 1)), (0, .c (.fn (.yield ly) [] [])), (1, .c (.ro p [.sl false 2 (rows eT l)] 0))], H s.1.2⟩) (fun s => s.1.1) ⟨(l.length, b0), Nat.le_refl _, hl0, by rw [List.take_length]⟩ ?_ ?_
  · refine Ent.toT ?_; simp (disch := omega) only [wkT_cons, wkX_cons, wkT_nil, wkX_nil, get, Nat.reduceEqDiff, ↓reduceIte, ex_some, wk_self, wk_top, wk_nil, wkB_self, and_self, dI, i64_in, and_true, true_and, Int.natCast_add, Int.natCast_one, Int.ofNat_zero, Int.natCast_zero]
  rintro ⟨⟨k, b1⟩, hk, hlv, hrun⟩
  dsimp only at hk hlv hrun
  rcases k with _ | k
  · have hd : decide ((0 : Int) ≤ ((0 : Nat) : Int) - 1) = false := by decide
    rw [List.take_zero, backL_nil] at hrun
    simp only [runB] at hrun
    repeat' (first
    | (with_reducible refine DW.seq ?_)
    | (with_reducible refine DW.block ?_)
    | (with_reducible refine DW.skip ?_)
    | (with_reducible refine DW.exit ?_)
    | (with_reducible refine DW.ret ?_)
    | (with_reducible refine DW.reg ?_)
    | (simp (disch := omega) only [go_sem, Nat.reduceLT, Nat.reduceLeDiff, Nat.reduceAdd, Nat.reduceMul, Nat.reduceEqDiff, ↓reduceIte, reduceCtorEq, Nat.reduceBEq, Nat.reduceBNe, Nat.reducePow, Int.reduceLE, Int.reduceLT, Int.reduceNeg, Int.reduceToNat, Int.reduceEq, Int.reduceAdd, Int.reduceSub, Int.reduceMul, Int.reduceBEq, Int.reduceBNe, bm_box, bm_row, bk_box, bk_row, hd])
    | (exact retS_of rfl rfl rfl)
    | (refine DW.cond_tt rfl ?_)
    | (refine DW.cond_ff rfl ?_)
    | (refine DW.cond rfl ?_ ?_ <;> intro hc <;> (try simp only [go_sem] at hc))
    | (refine g_split ?_ ?_ <;> intro hc <;> (try simp only [hc]) <;> (try simp only [go_sem] at hc)))
    rw [hrun]
    exact retS_hid (own := []) (.inr rfl) (hH _) rfl
  · have e1 : ((k + 1 : Nat) : Int) - 1 = (k : Int) := by omega
    have hd : decide ((0 : Int) ≤ (k : Int)) = true := by rw [decide_eq_true_eq]; omega
    obtain ⟨v, hv⟩ := getE (l := l) (i := k) (by omega)
    rw [backL_take l k v hv] at hrun
    obtain ⟨hyc, hlv4⟩ := hY b1 (v, k) hlv (List.mem_of_getElem? hv)
    simp only [runB] at hrun
    dsimp only
    rw [e1]
    repeat' (first
    | (with_reducible refine DW.seq ?_)
    | (with_reducible refine DW.block ?_)
    | (with_reducible refine DW.skip ?_)
    | (with_reducible refine DW.exit ?_)
    | (with_reducible refine DW.ret ?_)
    | (with_reducible refine DW.reg ?_)
    | (simp (disch := omega) only [go_sem, Nat.reduceLT, Nat.reduceLeDiff, Nat.reduceAdd, Nat.reduceMul, Nat.reduceEqDiff, ↓reduceIte, reduceCtorEq, Nat.reduceBEq, Nat.reduceBNe, Nat.reducePow, Int.reduceLE, Int.reduceLT, Int.reduceNeg, Int.reduceToNat, Int.reduceEq, Int.reduceAdd, Int.reduceSub, Int.reduceMul, Int.reduceBEq, Int.reduceBNe, bm_box, bm_row, bk_box, bk_row, hd, hv, List.map_cons, List.map_nil])
    | (exact retS_of rfl rfl rfl)
    | (refine DW.cond_tt rfl ?_)
    | (refine DW.cond_ff rfl ?_)
    | (refine DW.cond rfl ?_ ?_ <;> intro hc <;> (try simp only [go_sem] at hc))
    | (refine g_split ?_ ?_ <;> intro hc <;> (try simp only [hc]) <;> (try simp only [go_sem] at hc)))
    refine call_y (own := []) hyc rfl rfl rfl (hH _) (hH _) (by decide) ?_
    cases hs : (stp b1 (v, k)).1 with
    | true =>
      rw [hs] at hrun hlv4
      simp (disch := omega) only [go_sem, Nat.reduceLT, Nat.reduceLeDiff, Nat.reduceAdd, Nat.reduceMul, Nat.reduceEqDiff, ↓reduceIte, reduceCtorEq, Nat.reduceBEq, Nat.reduceBNe, Nat.reducePow, Int.reduceLE, Int.reduceLT, Int.reduceNeg, Int.reduceToNat, Int.reduceEq, Int.reduceAdd, Int.reduceSub, Int.reduceMul, Int.reduceBEq, Int.reduceBNe, bm_box, bm_row, bk_box, bk_row]
      repeat' (first
    | (with_reducible refine DW.seq ?_)
    | (with_reducible refine DW.block ?_)
    | (with_reducible refine DW.skip ?_)
    | (with_reducible refine DW.exit ?_)
    | (with_reducible refine DW.ret ?_)
    | (with_reducible refine DW.reg ?_)
    | (simp (disch := omega) only [go_sem, Nat.reduceLT, Nat.reduceLeDiff, Nat.reduceAdd, Nat.reduceMul, Nat.reduceEqDiff, ↓reduceIte, reduceCtorEq, Nat.reduceBEq, Nat.reduceBNe, Nat.reducePow, Int.reduceLE, Int.reduceLT, Int.reduceNeg, Int.reduceToNat, Int.reduceEq, Int.reduceAdd, Int.reduceSub, Int.reduceMul, Int.reduceBEq, Int.reduceBNe, bm_box, bm_row, bk_box, bk_row])
    | (exact retS_of rfl rfl rfl)
    | (refine DW.cond_tt rfl ?_)
    | (refine DW.cond_ff rfl ?_)
    | (refine DW.cond rfl ?_ ?_ <;> intro hc <;> (try simp only [go_sem] at hc))
    | (refine g_split ?_ ?_ <;> intro hc <;> (try simp only [hc]) <;> (try simp only [go_sem] at hc)))
      refine ⟨⟨(k, (stp b1 (v, k)).2), by omega, hlv4 rfl, hrun⟩, by (show _ < _; (try simp only); omega), Ent.toT ?_⟩; simp (disch := omega) only [wkT_cons, wkX_cons, wkT_nil, wkX_nil, get, Nat.reduceEqDiff, ↓reduceIte, ex_some, wk_self, wk_top, wk_nil, wkB_self, and_self, dI, i64_in, and_true, true_and, Int.natCast_add, Int.natCast_one, Int.ofNat_zero, Int.natCast_zero]
    | false =>
      rw [hs] at hrun
      simp (disch := omega) only [go_sem, Nat.reduceLT, Nat.reduceLeDiff, Nat.reduceAdd, Nat.reduceMul, Nat.reduceEqDiff, ↓reduceIte, reduceCtorEq, Nat.reduceBEq, Nat.reduceBNe, Nat.reducePow, Int.reduceLE, Int.reduceLT, Int.reduceNeg, Int.reduceToNat, Int.reduceEq, Int.reduceAdd, Int.reduceSub, Int.reduceMul, Int.reduceBEq, Int.reduceBNe, bm_box, bm_row, bk_box, bk_row]
      repeat' (first
    | (with_reducible refine DW.seq ?_)
    | (with_reducible refine DW.block ?_)
    | (with_reducible refine DW.skip ?_)
    | (with_reducible refine DW.exit ?_)
    | (with_reducible refine DW.ret ?_)
    | (with_reducible refine DW.reg ?_)
    | (simp (disch := omega) only [go_sem, Nat.reduceLT, Nat.reduceLeDiff, Nat.reduceAdd, Nat.reduceMul, Nat.reduceEqDiff, ↓reduceIte, reduceCtorEq, Nat.reduceBEq, Nat.reduceBNe, Nat.reducePow, Int.reduceLE, Int.reduceLT, Int.reduceNeg, Int.reduceToNat, Int.reduceEq, Int.reduceAdd, Int.reduceSub, Int.reduceMul, Int.reduceBEq, Int.reduceBNe, bm_box, bm_row, bk_box, bk_row])
    | (exact retS_of rfl rfl rfl)
    | (refine DW.cond_tt rfl ?_)
    | (refine DW.cond_ff rfl ?_)
    | (refine DW.cond rfl ?_ ?_ <;> intro hc <;> (try simp only [go_sem] at hc))
    | (refine g_split ?_ ?_ <;> intro hc <;> (try simp only [hc]) <;> (try simp only [go_sem] at hc)))
      rw [hrun]
      exact retS_hid (own := []) (.inl rfl) (hH _) rfl
def stretchL : Int → List (Int × Int) → List (Int × Int)
  | high, [] => if 0 < high then [(1, high)] else []
  | high, s :: t => (s.1, high) :: stretchL (s.1 - 1) t
def enSp (e : Int × Int) : List D := [.agg [dI e.1, dI e.2]]
def okSp (e : Int × Int) : Prop := (1 ≤ e.1 ∧ e.1 ≤ 100000) ∧ 0 ≤ e.2 ∧ e.2 ≤ 100000
def strS {β : Type} (stp : β → Int × Int → Bool × β) (y : β × Int) (e : (Int × Int) × Nat) : Option Exit × (β × Int) :=
  if (stp y.1 (e.1.1, y.2)).1 = true then (none, ((stp y.1 (e.1.1, y.2)).2, e.1.1 - 1)) else (some .ret, ((stp y.1 (e.1.1, y.2)).2, y.2))
theorem strS_run {β : Type} (stp : β → Int × Int → Bool × β) (live : β → Prop) (hl : ∀ b e, live b → okSp e → (stp b e).1 = true → live (stp b e).2) : ∀ (L : List ((Int × Int) × Nat)) (b : β) (high : Int), live b → (0 ≤ high ∧ high ≤ 100000) → (∀ e ∈ L, 1 ≤ e.1.1 ∧ e.1.1 ≤ 100000) →
    ((runIt (strS stp) (b, high) L).1 = some .ret ∧ (runIt (strS stp) (b, high) L).2.1 = runB stp b (stretchL high (L.map (·.1)))) ∨
    ((runIt (strS stp) (b, high) L).1 = none ∧ (live (runIt (strS stp) (b, high) L).2.1 ∧ 0 ≤ (runIt (strS stp) (b, high) L).2.2 ∧ (runIt (strS stp) (b, high) L).2.2 ≤ 100000) ∧
      runB stp b (stretchL high (L.map (·.1))) = runB stp (runIt (strS stp) (b, high) L).2.1 (stretchL (runIt (strS stp) (b, high) L).2.2 []))
  | [], b, high, hb, hh, _ => .inr ⟨rfl, ⟨hb, hh⟩, rfl⟩
  | e :: L, b, high, hb, hh, hL => by
    have he := hL e (by simp)
    simp only [runIt, strS, List.map_cons, stretchL, runB]
    by_cases hs : (stp b (e.1.1, high)).1 = true
    · simp only [hs, if_true]
      exact strS_run stp live hl L _ _ (hl b _ hb ⟨he, hh⟩ hs) (by omega) (fun x hx => hL x (by simp [hx]))
    · left
      simp [hs]
theorem backL_fst (l : List (Int × Int)) : (backL l).map (·.1) = l.reverse := by
  rw [backL, List.map_reverse]
  congr 1
  apply List.ext_getElem <;> simp
attribute [go_sem] enBack enSp
theorem prStretches (q : Quote) (h : q.ok) : ItD Try.prog 116 [dQ false q] [] enSp okSp (stretchL 100000 q.steps.reverse) := by
  intro ly β H stp live hH hY b0 hl0
  have hb := prBackward q.steps
  have hit := prBack q.steps (by have := h.len; omega) false
  have hst : ∀ s ∈ q.steps, 1 ≤ s.1 ∧ s.1 ≤ 100000 := fun s hs => (h.steps s hs).1
  refine DCall.of Try.func116 sf116 hb116 (Nat.le_of_ble_eq_true rfl) (hH _).res ?_
  simp only [s116, idxs, Nat.reduceAdd, List.map_nil, List.map_cons, List.nil_append, List.cons_append]
  have f1 := hid_get (hH b0)
  have f2 := hid_ins (hH b0)
  have f3 := (hH b0).men
  have f4 := (hH b0).lo
  have f5 : ∀ k x, k < 1000 → ins k x (H b0) = H b0 ++ [(k, x)] := fun k x hk => by have := f2 k hk x []; rwa [List.append_nil] at this
  repeat' (first
    | (with_reducible refine DW.seq ?_)
    | (with_reducible refine DW.block ?_)
    | (with_reducible refine DW.skip ?_)
    | (with_reducible refine DW.exit ?_)
    | (with_reducible refine DW.ret ?_)
    | (with_reducible refine DW.reg ?_)
    | (simp (disch := omega) only [go_sem, Nat.reduceLT, Nat.reduceLeDiff, Nat.reduceAdd, Nat.reduceMul, Nat.reduceEqDiff, ↓reduceIte, reduceCtorEq, Nat.reduceBEq, Nat.reduceBNe, Nat.reducePow, Int.reduceLE, Int.reduceLT, Int.reduceNeg, Int.reduceToNat, Int.reduceEq, Int.reduceAdd, Int.reduceSub, Int.reduceMul, Int.reduceBEq, Int.reduceBNe, bm_box, bm_row, bk_box, bk_row, f1, f2, f3, f4, f5, ins])
    | (exact retS_of rfl rfl rfl)
    | (refine DW.cond_tt rfl ?_)
    | (refine call_c (hb) (by decide) ?_)
    | (refine DW.cond_ff rfl ?_)
    | (refine DW.cond rfl ?_ ?_ <;> intro hc <;> (try simp only [go_sem] at hc))
    | (refine g_split ?_ ?_ <;> intro hc <;> (try simp only [hc]) <;> (try simp only [go_sem] at hc)))
  refine DW.ent (Ent.comm (hH b0) rfl).1 ?_
  refine DW.ent (σ' := ⟨29, [(10, .fn (.func 169) [] [.c (.ro false [.sl false 2 (rows eT q.steps)] 0)]), (4, .box 4 0), (3, .box 3 0)], [(4, .box [dI 100000]), (3, .box [.c (.fn (.yield ly) [] [])])] ++ H b0⟩) ?_ ?_
  · refine Ent.toH (hH b0) rfl ?_ ?_ <;> simp (disch := omega) only [wkT_cons, wkX_cons, wkT_nil, wkX_nil, get, Nat.reduceEqDiff, ↓reduceIte, ex_some, wk_self, wk_top, wk_nil, wkB_self, and_self, dI, i64_in, and_true, true_and, Int.natCast_add, Int.natCast_one, Int.ofNat_zero, Int.natCast_zero]
  have hinv : ∀ b e, live b → okSp e → (stp b e).1 = true → live (stp b e).2 := fun b e h1 h2 => (hY b e h1 h2).2
  refine DW.rngD (fs := []) (caps := [.c (.ro false [.sl false 2 (rows eT q.steps)] 0)]) rfl (fun _ => ⟨rfl, rfl⟩) (fun y : β × Int => [(4, .box [dI y.2]), (3, .box [.c (.fn (.yield ly) [] [])])] ++ H y.1) (b0, 100000) rfl (strS stp) enBack (fun e => e.1 ∈ q.steps) (backL q.steps) hit (fun y => live y.1 ∧ 0 ≤ y.2 ∧ y.2 ≤ 100000) ⟨hl0, by omega, by omega⟩ ?_ (by decide) (fun _ _ => rfl) (fun _ _ _ => rfl) (by simp only [List.map_cons, List.map_nil]; decide) ?_ ?_ ?_ ?_ ?_ ?_ ?_
  · rintro ⟨b, hg⟩ ⟨s, i⟩ hiv hs h1
    have := hst s hs
    simp only [strS] at h1 ⊢
    dsimp only at hiv
    split at h1
    · rename_i hc
      rw [if_pos hc]
      exact ⟨hinv _ _ hiv.1 ⟨this, hiv.2⟩ hc, by dsimp only; omega⟩
    · cases h1
  · intro y
    show get 999 (H y.1) = none
    exact (hH y.1).lo 999 (by decide)
  · intro y k hk
    rw [get_app] at hk
    have h1 : get k (H y.1) = none := by
      revert hk
      cases get k [(4, Blk.box [dI y.2]), (3, .box [.c (.fn (.yield ly) [] [])])] <;> simp
    have h34 : k ≠ 4 ∧ k ≠ 3 := by
      constructor <;> (rintro rfl; simp [get] at hk)
    constructor
    · intro j x hj
      rw [get_app] at hj
      cases hg : get j [(4, Blk.box [dI y.2]), (3, .box [.c (.fn (.yield ly) [] [])])] with
      | none => rw [hg] at hj; exact (hH y.1).ok j x hj k h1
      | some x' =>
        rw [hg] at hj; cases hj
        have := get_mem hg
        simp only [List.mem_cons, Prod.mk.injEq, List.not_mem_nil, or_false] at this
        rcases this with ⟨_, rfl⟩ | ⟨_, rfl⟩ <;> rfl
    · intro p hp
      simp only [List.mem_cons, List.not_mem_nil, or_false] at hp
      rcases hp with rfl | rfl | rfl
      · rfl
      · simpa [D.men] using fun h => h34.1 h.symm
      · simpa [D.men] using fun h => h34.2 h.symm
  · intro y j x hj
    rw [get_app] at hj
    cases hg : get j [(4, Blk.box [dI y.2]), (3, .box [.c (.fn (.yield ly) [] [])])] with
    | none => rw [hg] at hj; exact (hH y.1).nb j x hj
    | some x' =>
      rw [hg] at hj; cases hj
      have := get_mem hg
      simp only [List.mem_cons, Prod.mk.injEq, List.not_mem_nil, or_false] at this
      rcases this with ⟨_, rfl⟩ | ⟨_, rfl⟩ <;> rfl
  · intro p hp
    simp only [List.mem_cons, List.not_mem_nil, or_false] at hp
    rcases hp with rfl | rfl | rfl
    · simp only [D.nb, D.nbs, C.nb, C.nbs, rows_nb eT_nb, Bool.and_self, Bool.not_false]
    · rfl
    · rfl
  · intro y e
    simp only [strS]
    split <;> rfl
  · rintro ⟨b, hg⟩ hiv ⟨s, i⟩ hs v
    have hs1 := hst s hs
    dsimp only at hiv hs1 hs
    obtain ⟨hyc, hlv⟩ := hY b (s.1, hg) hiv.1 ⟨hs1, hiv.2⟩
    have g3 := (hH b).men
    have g4 := (hH b).lo
    refine DW.ent (Ent.swap ((hH b).lo 999 (by decide))).1 ?_
    have hS : strS stp (b, hg) (s, i) = if (stp b (s.1, hg)).1 = true then (none, ((stp b (s.1, hg)).2, s.1 - 1)) else (some .ret, ((stp b (s.1, hg)).2, hg)) := rfl
    cases hc : (stp b (s.1, hg)).1 with
    | true =>
      rw [hc, if_pos rfl] at hS
      rw [hc] at hyc
      rw [hS]
      simp (disch := omega) only [go_sem, Nat.reduceLT, Nat.reduceLeDiff, Nat.reduceAdd, Nat.reduceMul, Nat.reduceEqDiff, ↓reduceIte, reduceCtorEq, Nat.reduceBEq, Nat.reduceBNe, Nat.reducePow, Int.reduceLE, Int.reduceLT, Int.reduceNeg, Int.reduceToNat, Int.reduceEq, Int.reduceAdd, Int.reduceSub, Int.reduceMul, Int.reduceBEq, Int.reduceBNe, bm_box, bm_row, bk_box, bk_row, List.map_cons, List.map_nil, g3, g4]
      repeat' (first
    | (with_reducible refine DW.seq ?_)
    | (with_reducible refine DW.block ?_)
    | (with_reducible refine DW.skip ?_)
    | (with_reducible refine DW.exit ?_)
    | (with_reducible refine DW.ret ?_)
    | (with_reducible refine DW.reg ?_)
    | (simp (disch := omega) only [go_sem, Nat.reduceLT, Nat.reduceLeDiff, Nat.reduceAdd, Nat.reduceMul, Nat.reduceEqDiff, ↓reduceIte, reduceCtorEq, Nat.reduceBEq, Nat.reduceBNe, Nat.reducePow, Int.reduceLE, Int.reduceLT, Int.reduceNeg, Int.reduceToNat, Int.reduceEq, Int.reduceAdd, Int.reduceSub, Int.reduceMul, Int.reduceBEq, Int.reduceBNe, bm_box, bm_row, bk_box, bk_row, List.map_cons, List.map_nil, g3, g4])
    | (exact retS_of rfl rfl rfl)
    | (refine DW.cond_tt rfl ?_)
    | (refine DW.cond_ff rfl ?_)
    | (refine DW.cond rfl ?_ ?_ <;> intro hc <;> (try simp only [go_sem] at hc))
    | (refine g_split ?_ ?_ <;> intro hc <;> (try simp only [hc]) <;> (try simp only [go_sem] at hc)))
      refine call_y (own := [_, _, _, _]) hyc rfl rfl rfl (hH _) (hH _) (by decide) ?_
      simp (disch := omega) only [go_sem, Nat.reduceLT, Nat.reduceLeDiff, Nat.reduceAdd, Nat.reduceMul, Nat.reduceEqDiff, ↓reduceIte, reduceCtorEq, Nat.reduceBEq, Nat.reduceBNe, Nat.reducePow, Int.reduceLE, Int.reduceLT, Int.reduceNeg, Int.reduceToNat, Int.reduceEq, Int.reduceAdd, Int.reduceSub, Int.reduceMul, Int.reduceBEq, Int.reduceBNe, bm_box, bm_row, bk_box, bk_row]
      repeat' (first
    | (with_reducible refine DW.seq ?_)
    | (with_reducible refine DW.block ?_)
    | (with_reducible refine DW.skip ?_)
    | (with_reducible refine DW.exit ?_)
    | (with_reducible refine DW.ret ?_)
    | (with_reducible refine DW.reg ?_)
    | (simp (disch := omega) only [go_sem, Nat.reduceLT, Nat.reduceLeDiff, Nat.reduceAdd, Nat.reduceMul, Nat.reduceEqDiff, ↓reduceIte, reduceCtorEq, Nat.reduceBEq, Nat.reduceBNe, Nat.reducePow, Int.reduceLE, Int.reduceLT, Int.reduceNeg, Int.reduceToNat, Int.reduceEq, Int.reduceAdd, Int.reduceSub, Int.reduceMul, Int.reduceBEq, Int.reduceBNe, bm_box, bm_row, bk_box, bk_row])
    | (exact retS_of rfl rfl rfl)
    | (refine DW.cond_tt rfl ?_)
    | (refine DW.cond_ff rfl ?_)
    | (refine DW.cond rfl ?_ ?_ <;> intro hc <;> (try simp only [go_sem] at hc))
    | (refine g_split ?_ ?_ <;> intro hc <;> (try simp only [hc]) <;> (try simp only [go_sem] at hc)))
      refine round_end rfl rfl (Ent.trans ?_ (Ent.swap (o := [(4, Blk.box [dI (s.1 - 1)]), (3, Blk.box [D.c (C.fn (Fn.yield ly) [] [])])]) (c := capB v [(10, D.fn (Fn.func 169) [] [D.c (C.ro false [C.sl false 2 (rows eT q.steps)] 0)]), (4, D.box 4 0), (3, D.box 3 0)]) ((hH (stp b (s.1, hg)).2).lo 999 (by decide))).2)
      refine Ent.toH (o := [_, _, _, _]) (o' := [_, _, _]) (hH _) ?_ ?_ ?_
      · rfl
      · simp (disch := omega) only [wkT_cons, wkX_cons, wkT_nil, wkX_nil, get, Nat.reduceEqDiff, ↓reduceIte, ex_some, wk_self, wk_top, wk_nil, wkB_self, and_self, dI, i64_in, and_true, true_and, Int.natCast_add, Int.natCast_one, Int.ofNat_zero, Int.natCast_zero, capB]
      · simp (disch := omega) only [wkT_cons, wkX_cons, wkT_nil, wkX_nil, get, Nat.reduceEqDiff, ↓reduceIte, ex_some, wk_self, wk_top, wk_nil, wkB_self, and_self, dI, i64_in, and_true, true_and, Int.natCast_add, Int.natCast_one, Int.ofNat_zero, Int.natCast_zero, capB]
    | false =>
      rw [hc, if_neg (by decide)] at hS
      rw [hc] at hyc
      rw [hS]
      simp (disch := omega) only [go_sem, Nat.reduceLT, Nat.reduceLeDiff, Nat.reduceAdd, Nat.reduceMul, Nat.reduceEqDiff, ↓reduceIte, reduceCtorEq, Nat.reduceBEq, Nat.reduceBNe, Nat.reducePow, Int.reduceLE, Int.reduceLT, Int.reduceNeg, Int.reduceToNat, Int.reduceEq, Int.reduceAdd, Int.reduceSub, Int.reduceMul, Int.reduceBEq, Int.reduceBNe, bm_box, bm_row, bk_box, bk_row, List.map_cons, List.map_nil, g3, g4]
      repeat' (first
    | (with_reducible refine DW.seq ?_)
    | (with_reducible refine DW.block ?_)
    | (with_reducible refine DW.skip ?_)
    | (with_reducible refine DW.exit ?_)
    | (with_reducible refine DW.ret ?_)
    | (with_reducible refine DW.reg ?_)
    | (simp (disch := omega) only [go_sem, Nat.reduceLT, Nat.reduceLeDiff, Nat.reduceAdd, Nat.reduceMul, Nat.reduceEqDiff, ↓reduceIte, reduceCtorEq, Nat.reduceBEq, Nat.reduceBNe, Nat.reducePow, Int.reduceLE, Int.reduceLT, Int.reduceNeg, Int.reduceToNat, Int.reduceEq, Int.reduceAdd, Int.reduceSub, Int.reduceMul, Int.reduceBEq, Int.reduceBNe, bm_box, bm_row, bk_box, bk_row, List.map_cons, List.map_nil, g3, g4])
    | (exact retS_of rfl rfl rfl)
    | (refine DW.cond_tt rfl ?_)
    | (refine DW.cond_ff rfl ?_)
    | (refine DW.cond rfl ?_ ?_ <;> intro hc <;> (try simp only [go_sem] at hc))
    | (refine g_split ?_ ?_ <;> intro hc <;> (try simp only [hc]) <;> (try simp only [go_sem] at hc)))
      refine call_y (own := [_, _, _, _]) hyc rfl rfl rfl (hH _) (hH _) (by decide) ?_
      simp (disch := omega) only [go_sem, Nat.reduceLT, Nat.reduceLeDiff, Nat.reduceAdd, Nat.reduceMul, Nat.reduceEqDiff, ↓reduceIte, reduceCtorEq, Nat.reduceBEq, Nat.reduceBNe, Nat.reducePow, Int.reduceLE, Int.reduceLT, Int.reduceNeg, Int.reduceToNat, Int.reduceEq, Int.reduceAdd, Int.reduceSub, Int.reduceMul, Int.reduceBEq, Int.reduceBNe, bm_box, bm_row, bk_box, bk_row]
      repeat' (first
    | (with_reducible refine DW.seq ?_)
    | (with_reducible refine DW.block ?_)
    | (with_reducible refine DW.skip ?_)
    | (with_reducible refine DW.exit ?_)
    | (with_reducible refine DW.ret ?_)
    | (with_reducible refine DW.reg ?_)
    | (simp (disch := omega) only [go_sem, Nat.reduceLT, Nat.reduceLeDiff, Nat.reduceAdd, Nat.reduceMul, Nat.reduceEqDiff, ↓reduceIte, reduceCtorEq, Nat.reduceBEq, Nat.reduceBNe, Nat.reducePow, Int.reduceLE, Int.reduceLT, Int.reduceNeg, Int.reduceToNat, Int.reduceEq, Int.reduceAdd, Int.reduceSub, Int.reduceMul, Int.reduceBEq, Int.reduceBNe, bm_box, bm_row, bk_box, bk_row])
    | (exact retS_of rfl rfl rfl)
    | (refine DW.cond_tt rfl ?_)
    | (refine DW.cond_ff rfl ?_)
    | (refine DW.cond rfl ?_ ?_ <;> intro hc <;> (try simp only [go_sem] at hc))
    | (refine g_split ?_ ?_ <;> intro hc <;> (try simp only [hc]) <;> (try simp only [go_sem] at hc)))
      refine round_end rfl rfl (Ent.trans ?_ (Ent.swap (o := [(4, Blk.box [dI hg]), (3, Blk.box [D.c (C.fn (Fn.yield ly) [] [])])]) (c := capB v [(10, D.fn (Fn.func 169) [] [D.c (C.ro false [C.sl false 2 (rows eT q.steps)] 0)]), (4, D.box 4 0), (3, D.box 3 0)]) ((hH (stp b (s.1, hg)).2).lo 999 (by decide))).2)
      refine Ent.toH (o := [_, _, _, _]) (o' := [_, _, _]) (hH _) ?_ ?_ ?_
      · rfl
      · simp (disch := omega) only [wkT_cons, wkX_cons, wkT_nil, wkX_nil, get, Nat.reduceEqDiff, ↓reduceIte, ex_some, wk_self, wk_top, wk_nil, wkB_self, and_self, dI, i64_in, and_true, true_and, Int.natCast_add, Int.natCast_one, Int.ofNat_zero, Int.natCast_zero, capB]
      · simp (disch := omega) only [wkT_cons, wkX_cons, wkT_nil, wkX_nil, get, Nat.reduceEqDiff, ↓reduceIte, ex_some, wk_self, wk_top, wk_nil, wkB_self, and_self, dI, i64_in, and_true, true_and, Int.natCast_add, Int.natCast_one, Int.ofNat_zero, Int.natCast_zero, capB]
  · have hrs := strS_run stp live hinv (backL q.steps) b0 100000 hl0 (by decide) (fun e he => hst e.1 (by
      have : e.1 ∈ (backL q.steps).map (·.1) := List.mem_map.2 ⟨e, he, rfl⟩
      rw [backL_fst] at this
      exact List.mem_reverse.1 this))
    rw [backL_fst] at hrs
    generalize runIt (strS stp) (b0, 100000) (backL q.steps) = R at *
    obtain ⟨o, b, hg⟩ := R
    dsimp only at hrs ⊢
    rcases hrs with ⟨rfl, hr⟩ | ⟨rfl, hiv, hr⟩
    · rw [← hr]
      simp (disch := omega) only [go_sem, Nat.reduceLT, Nat.reduceLeDiff, Nat.reduceAdd, Nat.reduceMul, Nat.reduceEqDiff, ↓reduceIte, reduceCtorEq, Nat.reduceBEq, Nat.reduceBNe, Nat.reducePow, Int.reduceLE, Int.reduceLT, Int.reduceNeg, Int.reduceToNat, Int.reduceEq, Int.reduceAdd, Int.reduceSub, Int.reduceMul, Int.reduceBEq, Int.reduceBNe, bm_box, bm_row, bk_box, bk_row, Option.getD_some]
      exact retS_hid (own := [_, _]) (.inl rfl) (hH _) rfl
    · rw [hr]
      have hd : stretchL hg [] = if 0 < hg then [(1, hg)] else [] := rfl
      rw [hd]
      by_cases hp : 0 < hg
      · have hpd : decide (0 < hg) = true := decide_eq_true hp
        obtain ⟨hyc, hlv⟩ := hY b (1, hg) hiv.1 ⟨by simp, hiv.2⟩
        have hf : runB stp b (if 0 < hg then [(1, hg)] else []) = (stp b (1, hg)).2 := by
          rw [if_pos hp]
          simp only [runB]
          split <;> rfl
        rw [hf]
        simp (disch := omega) only [go_sem, Nat.reduceLT, Nat.reduceLeDiff, Nat.reduceAdd, Nat.reduceMul, Nat.reduceEqDiff, ↓reduceIte, reduceCtorEq, Nat.reduceBEq, Nat.reduceBNe, Nat.reducePow, Int.reduceLE, Int.reduceLT, Int.reduceNeg, Int.reduceToNat, Int.reduceEq, Int.reduceAdd, Int.reduceSub, Int.reduceMul, Int.reduceBEq, Int.reduceBNe, bm_box, bm_row, bk_box, bk_row, Option.getD_none]
        repeat' (first
    | (with_reducible refine DW.seq ?_)
    | (with_reducible refine DW.block ?_)
    | (with_reducible refine DW.skip ?_)
    | (with_reducible refine DW.exit ?_)
    | (with_reducible refine DW.ret ?_)
    | (with_reducible refine DW.reg ?_)
    | (simp (disch := omega) only [go_sem, Nat.reduceLT, Nat.reduceLeDiff, Nat.reduceAdd, Nat.reduceMul, Nat.reduceEqDiff, ↓reduceIte, reduceCtorEq, Nat.reduceBEq, Nat.reduceBNe, Nat.reducePow, Int.reduceLE, Int.reduceLT, Int.reduceNeg, Int.reduceToNat, Int.reduceEq, Int.reduceAdd, Int.reduceSub, Int.reduceMul, Int.reduceBEq, Int.reduceBNe, bm_box, bm_row, bk_box, bk_row, hpd])
    | (exact retS_of rfl rfl rfl)
    | (refine DW.cond_tt rfl ?_)
    | (refine DW.cond_ff rfl ?_)
    | (refine DW.cond rfl ?_ ?_ <;> intro hc <;> (try simp only [go_sem] at hc))
    | (refine g_split ?_ ?_ <;> intro hc <;> (try simp only [hc]) <;> (try simp only [go_sem] at hc)))
        refine call_y (own := [_, _]) hyc rfl rfl rfl (hH _) (hH _) (by decide) ?_
        simp (disch := omega) only [go_sem, Nat.reduceLT, Nat.reduceLeDiff, Nat.reduceAdd, Nat.reduceMul, Nat.reduceEqDiff, ↓reduceIte, reduceCtorEq, Nat.reduceBEq, Nat.reduceBNe, Nat.reducePow, Int.reduceLE, Int.reduceLT, Int.reduceNeg, Int.reduceToNat, Int.reduceEq, Int.reduceAdd, Int.reduceSub, Int.reduceMul, Int.reduceBEq, Int.reduceBNe, bm_box, bm_row, bk_box, bk_row]
        repeat' (first
    | (with_reducible refine DW.seq ?_)
    | (with_reducible refine DW.block ?_)
    | (with_reducible refine DW.skip ?_)
    | (with_reducible refine DW.exit ?_)
    | (with_reducible refine DW.ret ?_)
    | (with_reducible refine DW.reg ?_)
    | (simp (disch := omega) only [go_sem, Nat.reduceLT, Nat.reduceLeDiff, Nat.reduceAdd, Nat.reduceMul, Nat.reduceEqDiff, ↓reduceIte, reduceCtorEq, Nat.reduceBEq, Nat.reduceBNe, Nat.reducePow, Int.reduceLE, Int.reduceLT, Int.reduceNeg, Int.reduceToNat, Int.reduceEq, Int.reduceAdd, Int.reduceSub, Int.reduceMul, Int.reduceBEq, Int.reduceBNe, bm_box, bm_row, bk_box, bk_row])
    | (exact retS_of rfl rfl rfl)
    | (refine DW.cond_tt rfl ?_)
    | (refine DW.cond_ff rfl ?_)
    | (refine DW.cond rfl ?_ ?_ <;> intro hc <;> (try simp only [go_sem] at hc))
    | (refine g_split ?_ ?_ <;> intro hc <;> (try simp only [hc]) <;> (try simp only [go_sem] at hc)))
        exact retS_hid (own := [_, _]) (.inr rfl) (hH _) rfl
      · have hpd : decide (0 < hg) = false := decide_eq_false hp
        rw [if_neg hp]
        simp only [runB]
        simp (disch := omega) only [go_sem, Nat.reduceLT, Nat.reduceLeDiff, Nat.reduceAdd, Nat.reduceMul, Nat.reduceEqDiff, ↓reduceIte, reduceCtorEq, Nat.reduceBEq, Nat.reduceBNe, Nat.reducePow, Int.reduceLE, Int.reduceLT, Int.reduceNeg, Int.reduceToNat, Int.reduceEq, Int.reduceAdd, Int.reduceSub, Int.reduceMul, Int.reduceBEq, Int.reduceBNe, bm_box, bm_row, bk_box, bk_row, Option.getD_none]
        repeat' (first
    | (with_reducible refine DW.seq ?_)
    | (with_reducible refine DW.block ?_)
    | (with_reducible refine DW.skip ?_)
    | (with_reducible refine DW.exit ?_)
    | (with_reducible refine DW.ret ?_)
    | (with_reducible refine DW.reg ?_)
    | (simp (disch := omega) only [go_sem, Nat.reduceLT, Nat.reduceLeDiff, Nat.reduceAdd, Nat.reduceMul, Nat.reduceEqDiff, ↓reduceIte, reduceCtorEq, Nat.reduceBEq, Nat.reduceBNe, Nat.reducePow, Int.reduceLE, Int.reduceLT, Int.reduceNeg, Int.reduceToNat, Int.reduceEq, Int.reduceAdd, Int.reduceSub, Int.reduceMul, Int.reduceBEq, Int.reduceBNe, bm_box, bm_row, bk_box, bk_row, hpd])
    | (exact retS_of rfl rfl rfl)
    | (refine DW.cond_tt rfl ?_)
    | (refine DW.cond_ff rfl ?_)
    | (refine DW.cond rfl ?_ ?_ <;> intro hc <;> (try simp only [go_sem] at hc))
    | (refine g_split ?_ ?_ <;> intro hc <;> (try simp only [hc]) <;> (try simp only [go_sem] at hc)))
        exact retS_hid (own := [_, _]) (.inr rfl) (hH _) rfl
end Go.Dw.Seat
end
section
set_option linter.unusedSimpArgs false
set_option maxRecDepth 100000
namespace Go.Dw.Seat
open Go Go.Dw Go.Proofs Go.IntWalk
def bsF (f : Int → Int) (m : Int) : Nat → Int → Int → Int
  | 0, lo, _ => lo
  | k + 1, lo, hi => if lo < hi then (if m < f ((lo + hi + 1).tdiv 2) then bsF f m k lo ((lo + hi + 1).tdiv 2 - 1) else bsF f m k ((lo + hi + 1).tdiv 2) hi) else lo
theorem bsF_same (f : Int → Int) (m : Int) (lo hi : Int) (h : hi ≤ lo) : ∀ k, bsF f m k lo hi = lo
  | 0 => rfl
  | k + 1 => by rw [bsF, if_neg (by omega)]
def mostS (q : Quote) (money : Int) (r : Int) (e : Int × Int) : Option Exit × Int :=
  if e.2 < e.1 ∨ money < priceQ q e.1 then (none, r) else (some .ret, bsF (priceQ q) money 17 e.1 e.2)
def mostQ (q : Quote) (money : Int) : Int := (runIt (mostS q money) 0 (stretchL 100000 q.steps.reverse)).2
theorem mostS_run (q : Quote) (money : Int) : ∀ (L : List (Int × Int)) (r : Int), (runIt (mostS q money) r L).1 = some .ret ∨ ((runIt (mostS q money) r L).1 = none ∧ (runIt (mostS q money) r L).2 = r)
  | [], r => .inr ⟨rfl, rfl⟩
  | e :: L, r => by
    simp only [runIt, mostS]
    by_cases hc : e.2 < e.1 ∨ money < priceQ q e.1
    · rw [if_pos hc]
      exact mostS_run q money L r
    · rw [if_neg hc]
      exact .inl rfl
set_option maxHeartbeats 1000000 in
theorem prMost (q : Quote) (h : q.ok) (money : Int) : DCall Try.prog 74 [dQ false q, dI money] [] (dI (mostQ q money)) [] := by
  have hit := prStretches q h
  refine DCall.of Try.func74 sf74 hb74 (Nat.le_of_ble_eq_true rfl) (okRes_nil fun _ => rfl) ?_; simp only [s74, idxs, Nat.reduceAdd]
  repeat' (first
    | (with_reducible refine DW.seq ?_)
    | (with_reducible refine DW.block ?_)
    | (with_reducible refine DW.skip ?_)
    | (with_reducible refine DW.exit ?_)
    | (with_reducible refine DW.ret ?_)
    | (with_reducible refine DW.reg ?_)
    | (refine DW.dreg rfl (WF.of (by first | rfl | simp (disch := omega) only [go_sem, Nat.reduceLT, Nat.reduceLeDiff, Nat.reduceAdd, Nat.reduceMul, Nat.reduceEqDiff, ↓reduceIte, reduceCtorEq, Nat.reduceBEq, Nat.reduceBNe, Nat.reducePow, Int.reduceLE, Int.reduceLT, Int.reduceNeg, Int.reduceToNat, Int.reduceEq, Int.reduceAdd, Int.reduceSub, Int.reduceMul, Int.reduceBEq, Int.reduceBNe, bm_box, bm_row, bk_box, bk_row])) ?_)
    | (simp (disch := omega) only [go_sem, Nat.reduceLT, Nat.reduceLeDiff, Nat.reduceAdd, Nat.reduceMul, Nat.reduceEqDiff, ↓reduceIte, reduceCtorEq, Nat.reduceBEq, Nat.reduceBNe, Nat.reducePow, Int.reduceLE, Int.reduceLT, Int.reduceNeg, Int.reduceToNat, Int.reduceEq, Int.reduceAdd, Int.reduceSub, Int.reduceMul, Int.reduceBEq, Int.reduceBNe, bm_box, bm_row, bk_box, bk_row])
    | (exact retS_of rfl rfl rfl)
    | (refine DW.cond_tt rfl ?_)
    | (refine DW.cond_ff rfl ?_)
    | (refine DW.cond rfl ?_ ?_ <;> intro hc <;> (try simp only [go_sem] at hc))
    | (refine g_split ?_ ?_ <;> intro hc <;> (try simp only [hc]) <;> (try simp only [go_sem] at hc)))
  refine DW.ent (σ' := ⟨47, [(8, .fn (.func 116) [dQ false q] []), (4, .box 4 0), (3, .box 3 0), (2, .box 2 0)], [(4, .box [dI 0]), (3, .box [dI money]), (2, .box [dI q.area, dI q.board, dI q.waste, dI q.tool, dI q.setup, dI q.run, dI q.work, dI q.pallet, dI q.freight, dI q.margin, .c (.sl false 2 (rows eT q.steps))])]⟩) (Ent.to ?_ ?_) ?_
  · simp (disch := omega) only [wkT_cons, wkX_cons, wkT_nil, wkX_nil, get, Nat.reduceEqDiff, ↓reduceIte, ex_some, wk_self, wk_top, wk_nil, wkB_self, and_self, dI, i64_in, and_true, true_and, Int.natCast_add, Int.natCast_one, Int.ofNat_zero, Int.natCast_zero]
  · simp (disch := omega) only [wkT_cons, wkX_cons, wkT_nil, wkX_nil, get, Nat.reduceEqDiff, ↓reduceIte, ex_some, wk_self, wk_top, wk_nil, wkB_self, and_self, dI, i64_in, and_true, true_and, Int.natCast_add, Int.natCast_one, Int.ofNat_zero, Int.natCast_zero]
  refine DW.rngBD (fun r : Int => [(4, .box [dI r]), (3, .box [dI money]), (2, .box [dI q.area, dI q.board, dI q.waste, dI q.tool, dI q.setup, dI q.run, dI q.work, dI q.pallet, dI q.freight, dI q.margin, .c (.sl false 2 (rows eT q.steps))])]) 0 (mostS q money) enSp okSp (stretchL 100000 q.steps.reverse) hit (fun _ => True) trivial (fun _ _ _ _ _ => trivial) rfl (fun _ => ⟨rfl, rfl⟩) rfl (by decide) (fun _ _ => rfl) (fun _ _ _ => rfl) (by simp only [List.map_cons, List.map_nil]; decide) (fun _ => rfl) (fun _ => rfl) (fun _ => (by simp only [List.all_cons, List.all_nil, Blk.nb, rowC_nb, D.nb, D.nbs, C.nb, C.nbs, C.nbss, rows_nb eI_nb, rows_nb eC_nb, rows_nb eL_nb, rows_nb eR_nb, rows_nb eS_nb, rows_nb eG_nb, Bool.and_true, Bool.not_false, Bool.and_self, bD, dI, iD, rows_nb eT_nb])) (by simp only [List.all_cons, List.all_nil, Blk.nb, rowC_nb, D.nb, D.nbs, C.nb, C.nbs, C.nbss, rows_nb eI_nb, rows_nb eC_nb, rows_nb eL_nb, rows_nb eR_nb, rows_nb eS_nb, rows_nb eG_nb, Bool.and_true, Bool.not_false, Bool.and_self, bD, dI, iD, rows_nb eT_nb]) ?_ ?_ ?_
  · intro r e; simp only [mostS]; split <;> rfl
  · rintro r - ⟨lo, hi⟩ he v
    have hlo : 1 ≤ lo ∧ lo ≤ 100000 := he.1
    have hhi : 0 ≤ hi ∧ hi ≤ 100000 := he.2
    have hp := prPrice q h lo hlo
    have hS : mostS q money r (lo, hi) = if hi < lo ∨ money < priceQ q lo then (none, r) else (some .ret, bsF (priceQ q) money 17 lo hi) := rfl
    rw [hS]
    cases h1 : decide (hi < lo) with
    | true =>
      rw [if_pos (.inl (of_decide_eq_true h1))]
      simp (disch := omega) only [go_sem, Nat.reduceLT, Nat.reduceLeDiff, Nat.reduceAdd, Nat.reduceMul, Nat.reduceEqDiff, ↓reduceIte, reduceCtorEq, Nat.reduceBEq, Nat.reduceBNe, Nat.reducePow, Int.reduceLE, Int.reduceLT, Int.reduceNeg, Int.reduceToNat, Int.reduceEq, Int.reduceAdd, Int.reduceSub, Int.reduceMul, Int.reduceBEq, Int.reduceBNe, bm_box, bm_row, bk_box, bk_row]
      repeat' (first
    | (with_reducible refine DW.seq ?_)
    | (with_reducible refine DW.block ?_)
    | (with_reducible refine DW.skip ?_)
    | (with_reducible refine DW.exit ?_)
    | (with_reducible refine DW.ret ?_)
    | (with_reducible refine DW.reg ?_)
    | (refine DW.dreg rfl (WF.of (by first | rfl | simp (disch := omega) only [go_sem, Nat.reduceLT, Nat.reduceLeDiff, Nat.reduceAdd, Nat.reduceMul, Nat.reduceEqDiff, ↓reduceIte, reduceCtorEq, Nat.reduceBEq, Nat.reduceBNe, Nat.reducePow, Int.reduceLE, Int.reduceLT, Int.reduceNeg, Int.reduceToNat, Int.reduceEq, Int.reduceAdd, Int.reduceSub, Int.reduceMul, Int.reduceBEq, Int.reduceBNe, bm_box, bm_row, bk_box, bk_row, h1])) ?_)
    | (simp (disch := omega) only [go_sem, Nat.reduceLT, Nat.reduceLeDiff, Nat.reduceAdd, Nat.reduceMul, Nat.reduceEqDiff, ↓reduceIte, reduceCtorEq, Nat.reduceBEq, Nat.reduceBNe, Nat.reducePow, Int.reduceLE, Int.reduceLT, Int.reduceNeg, Int.reduceToNat, Int.reduceEq, Int.reduceAdd, Int.reduceSub, Int.reduceMul, Int.reduceBEq, Int.reduceBNe, bm_box, bm_row, bk_box, bk_row, h1])
    | (exact retS_of rfl rfl rfl)
    | (refine DW.cond_tt rfl ?_)
    | (refine call_c (hp) (by decide) ?_)
    | (refine DW.cond_ff rfl ?_)
    | (refine DW.cond rfl ?_ ?_ <;> intro hc <;> (try simp only [go_sem] at hc))
    | (refine g_split ?_ ?_ <;> intro hc <;> (try simp only [hc]) <;> (try simp only [go_sem] at hc)))
      refine round_end rfl rfl (Ent.to ?_ ?_) <;> simp (disch := omega) only [wkT_cons, wkX_cons, wkT_nil, wkX_nil, get, Nat.reduceEqDiff, ↓reduceIte, ex_some, wk_self, wk_top, wk_nil, wkB_self, and_self, dI, i64_in, and_true, true_and, Int.natCast_add, Int.natCast_one, Int.ofNat_zero, Int.natCast_zero, capB, List.cons_append, List.nil_append]
    | false =>
      cases h2 : decide (money < priceQ q lo) with
      | true =>
        rw [if_pos (.inr (of_decide_eq_true h2))]
        simp (disch := omega) only [go_sem, Nat.reduceLT, Nat.reduceLeDiff, Nat.reduceAdd, Nat.reduceMul, Nat.reduceEqDiff, ↓reduceIte, reduceCtorEq, Nat.reduceBEq, Nat.reduceBNe, Nat.reducePow, Int.reduceLE, Int.reduceLT, Int.reduceNeg, Int.reduceToNat, Int.reduceEq, Int.reduceAdd, Int.reduceSub, Int.reduceMul, Int.reduceBEq, Int.reduceBNe, bm_box, bm_row, bk_box, bk_row]
        repeat' (first
    | (with_reducible refine DW.seq ?_)
    | (with_reducible refine DW.block ?_)
    | (with_reducible refine DW.skip ?_)
    | (with_reducible refine DW.exit ?_)
    | (with_reducible refine DW.ret ?_)
    | (with_reducible refine DW.reg ?_)
    | (refine DW.dreg rfl (WF.of (by first | rfl | simp (disch := omega) only [go_sem, Nat.reduceLT, Nat.reduceLeDiff, Nat.reduceAdd, Nat.reduceMul, Nat.reduceEqDiff, ↓reduceIte, reduceCtorEq, Nat.reduceBEq, Nat.reduceBNe, Nat.reducePow, Int.reduceLE, Int.reduceLT, Int.reduceNeg, Int.reduceToNat, Int.reduceEq, Int.reduceAdd, Int.reduceSub, Int.reduceMul, Int.reduceBEq, Int.reduceBNe, bm_box, bm_row, bk_box, bk_row, h1, h2])) ?_)
    | (simp (disch := omega) only [go_sem, Nat.reduceLT, Nat.reduceLeDiff, Nat.reduceAdd, Nat.reduceMul, Nat.reduceEqDiff, ↓reduceIte, reduceCtorEq, Nat.reduceBEq, Nat.reduceBNe, Nat.reducePow, Int.reduceLE, Int.reduceLT, Int.reduceNeg, Int.reduceToNat, Int.reduceEq, Int.reduceAdd, Int.reduceSub, Int.reduceMul, Int.reduceBEq, Int.reduceBNe, bm_box, bm_row, bk_box, bk_row, h1, h2])
    | (exact retS_of rfl rfl rfl)
    | (refine DW.cond_tt rfl ?_)
    | (refine call_c (hp) (by decide) ?_)
    | (refine DW.cond_ff rfl ?_)
    | (refine DW.cond rfl ?_ ?_ <;> intro hc <;> (try simp only [go_sem] at hc))
    | (refine g_split ?_ ?_ <;> intro hc <;> (try simp only [hc]) <;> (try simp only [go_sem] at hc)))
        refine round_end rfl rfl (Ent.to ?_ ?_) <;> simp (disch := omega) only [wkT_cons, wkX_cons, wkT_nil, wkX_nil, get, Nat.reduceEqDiff, ↓reduceIte, ex_some, wk_self, wk_top, wk_nil, wkB_self, and_self, dI, i64_in, and_true, true_and, Int.natCast_add, Int.natCast_one, Int.ofNat_zero, Int.natCast_zero, capB, List.cons_append, List.nil_append]
      | false =>
        rw [if_neg (by simp only [decide_eq_false_iff_not] at h1 h2; omega)]
        simp (disch := omega) only [go_sem, Nat.reduceLT, Nat.reduceLeDiff, Nat.reduceAdd, Nat.reduceMul, Nat.reduceEqDiff, ↓reduceIte, reduceCtorEq, Nat.reduceBEq, Nat.reduceBNe, Nat.reducePow, Int.reduceLE, Int.reduceLT, Int.reduceNeg, Int.reduceToNat, Int.reduceEq, Int.reduceAdd, Int.reduceSub, Int.reduceMul, Int.reduceBEq, Int.reduceBNe, bm_box, bm_row, bk_box, bk_row]
        repeat' (first
    | (with_reducible refine DW.seq ?_)
    | (with_reducible refine DW.block ?_)
    | (with_reducible refine DW.skip ?_)
    | (with_reducible refine DW.exit ?_)
    | (with_reducible refine DW.ret ?_)
    | (with_reducible refine DW.reg ?_)
    | (refine DW.dreg rfl (WF.of (by first | rfl | simp (disch := omega) only [go_sem, Nat.reduceLT, Nat.reduceLeDiff, Nat.reduceAdd, Nat.reduceMul, Nat.reduceEqDiff, ↓reduceIte, reduceCtorEq, Nat.reduceBEq, Nat.reduceBNe, Nat.reducePow, Int.reduceLE, Int.reduceLT, Int.reduceNeg, Int.reduceToNat, Int.reduceEq, Int.reduceAdd, Int.reduceSub, Int.reduceMul, Int.reduceBEq, Int.reduceBNe, bm_box, bm_row, bk_box, bk_row, h1, h2])) ?_)
    | (simp (disch := omega) only [go_sem, Nat.reduceLT, Nat.reduceLeDiff, Nat.reduceAdd, Nat.reduceMul, Nat.reduceEqDiff, ↓reduceIte, reduceCtorEq, Nat.reduceBEq, Nat.reduceBNe, Nat.reducePow, Int.reduceLE, Int.reduceLT, Int.reduceNeg, Int.reduceToNat, Int.reduceEq, Int.reduceAdd, Int.reduceSub, Int.reduceMul, Int.reduceBEq, Int.reduceBNe, bm_box, bm_row, bk_box, bk_row, h1, h2])
    | (exact retS_of rfl rfl rfl)
    | (refine DW.cond_tt rfl ?_)
    | (refine call_c (hp) (by decide) ?_)
    | (refine DW.cond_ff rfl ?_)
    | (refine DW.cond rfl ?_ ?_ <;> intro hc <;> (try simp only [go_sem] at hc))
    | (refine g_split ?_ ?_ <;> intro hc <;> (try simp only [hc]) <;> (try simp only [go_sem] at hc)))
        have h1' : lo ≤ hi := by simp only [decide_eq_false_iff_not] at h1; omega
        clear hS h1 h2 hp
        generalize hr : bsF (priceQ q) money 17 lo hi = res
        refine DW.loop (ι := { s : Int × Int × Nat // 1 ≤ s.1 ∧ s.1 ≤ s.2.1 ∧ s.2.1 ≤ 100000 ∧ s.2.1 - s.1 < 2 ^ s.2.2 ∧ bsF (priceQ q) money s.2.2 s.1 s.2.1 = res })
          (fun s => ⟨47, [(5, .box 5 0), (4, .box 4 0), (3, .box 3 0), (2, .box 2 0)], [(5, .box [dI s.1.1, dI s.1.2.1]), (4, .box [dI r]), (3, .box [dI money]), (2, .box [dI q.area, dI q.board, dI q.waste, dI q.tool, dI q.setup, dI q.run, dI q.work, dI q.pallet, dI q.freight, dI q.margin, .c (.sl false 2 (rows eT q.steps))]), capB v [(8, .fn (.func 116) [dQ false q] []), (4, .box 4 0), (3, .box 3 0), (2, .box 2 0)]]⟩) (fun s => s.1.2.2) ⟨(lo, hi, 17), hlo.1, h1', hhi.2, by simp; omega, hr⟩ ?_ ?_
        · refine Ent.to ?_ ?_ <;> simp (disch := omega) only [wkT_cons, wkX_cons, wkT_nil, wkX_nil, get, Nat.reduceEqDiff, ↓reduceIte, ex_some, wk_self, wk_top, wk_nil, wkB_self, and_self, dI, i64_in, and_true, true_and, Int.natCast_add, Int.natCast_one, Int.ofNat_zero, Int.natCast_zero, capB]
        rintro ⟨⟨a, b, k⟩, i1, i2, i3, i4, i5⟩
        dsimp only at i1 i2 i3 i4 i5 ⊢
        rcases Int.lt_or_le a b with hab | hab
        · have hd : decide (a < b) = true := decide_eq_true hab
          obtain ⟨k, rfl⟩ : ∃ j, k = j + 1 := by
            rcases k with _ | k
            · rw [Int.pow_zero] at i4; omega
            · exact ⟨k, rfl⟩
          have hm : (a + b + 1).tdiv 2 = (a + b + 1) / 2 := Int.tdiv_eq_ediv_of_nonneg (by omega)
          rw [bsF, if_pos hab] at i5
          rw [Int.pow_succ] at i4
          generalize hmid : (a + b + 1).tdiv 2 = mid at *
          have hp := prPrice q h mid (by omega)
          cases h3 : decide (money < priceQ q mid) with
          | true =>
            rw [if_pos (of_decide_eq_true h3)] at i5
            repeat' (first
    | (with_reducible refine DW.seq ?_)
    | (with_reducible refine DW.block ?_)
    | (with_reducible refine DW.skip ?_)
    | (with_reducible refine DW.exit ?_)
    | (with_reducible refine DW.ret ?_)
    | (with_reducible refine DW.reg ?_)
    | (refine DW.dreg rfl (WF.of (by first | rfl | simp (disch := omega) only [go_sem, Nat.reduceLT, Nat.reduceLeDiff, Nat.reduceAdd, Nat.reduceMul, Nat.reduceEqDiff, ↓reduceIte, reduceCtorEq, Nat.reduceBEq, Nat.reduceBNe, Nat.reducePow, Int.reduceLE, Int.reduceLT, Int.reduceNeg, Int.reduceToNat, Int.reduceEq, Int.reduceAdd, Int.reduceSub, Int.reduceMul, Int.reduceBEq, Int.reduceBNe, bm_box, bm_row, bk_box, bk_row, hd, hmid, h3])) ?_)
    | (simp (disch := omega) only [go_sem, Nat.reduceLT, Nat.reduceLeDiff, Nat.reduceAdd, Nat.reduceMul, Nat.reduceEqDiff, ↓reduceIte, reduceCtorEq, Nat.reduceBEq, Nat.reduceBNe, Nat.reducePow, Int.reduceLE, Int.reduceLT, Int.reduceNeg, Int.reduceToNat, Int.reduceEq, Int.reduceAdd, Int.reduceSub, Int.reduceMul, Int.reduceBEq, Int.reduceBNe, bm_box, bm_row, bk_box, bk_row, hd, hmid, h3])
    | (exact retS_of rfl rfl rfl)
    | (refine DW.cond_tt rfl ?_)
    | (refine call_c (hp) (by decide) ?_)
    | (refine DW.cond_ff rfl ?_)
    | (refine DW.cond rfl ?_ ?_ <;> intro hc <;> (try simp only [go_sem] at hc))
    | (refine g_split ?_ ?_ <;> intro hc <;> (try simp only [hc]) <;> (try simp only [go_sem] at hc)))
            refine ⟨⟨(a, mid - 1, k), i1, by dsimp only; omega, by dsimp only; omega, by dsimp only; omega, i5⟩, ?_, Ent.to ?_ ?_⟩ <;> first | (show _ < _; (try simp only); omega) | (simp (disch := omega) only [wkT_cons, wkX_cons, wkT_nil, wkX_nil, get, Nat.reduceEqDiff, ↓reduceIte, ex_some, wk_self, wk_top, wk_nil, wkB_self, and_self, dI, i64_in, and_true, true_and, Int.natCast_add, Int.natCast_one, Int.ofNat_zero, Int.natCast_zero,  capB])
          | false =>
            rw [if_neg (of_decide_eq_false h3)] at i5
            repeat' (first
    | (with_reducible refine DW.seq ?_)
    | (with_reducible refine DW.block ?_)
    | (with_reducible refine DW.skip ?_)
    | (with_reducible refine DW.exit ?_)
    | (with_reducible refine DW.ret ?_)
    | (with_reducible refine DW.reg ?_)
    | (refine DW.dreg rfl (WF.of (by first | rfl | simp (disch := omega) only [go_sem, Nat.reduceLT, Nat.reduceLeDiff, Nat.reduceAdd, Nat.reduceMul, Nat.reduceEqDiff, ↓reduceIte, reduceCtorEq, Nat.reduceBEq, Nat.reduceBNe, Nat.reducePow, Int.reduceLE, Int.reduceLT, Int.reduceNeg, Int.reduceToNat, Int.reduceEq, Int.reduceAdd, Int.reduceSub, Int.reduceMul, Int.reduceBEq, Int.reduceBNe, bm_box, bm_row, bk_box, bk_row, hd, hmid, h3])) ?_)
    | (simp (disch := omega) only [go_sem, Nat.reduceLT, Nat.reduceLeDiff, Nat.reduceAdd, Nat.reduceMul, Nat.reduceEqDiff, ↓reduceIte, reduceCtorEq, Nat.reduceBEq, Nat.reduceBNe, Nat.reducePow, Int.reduceLE, Int.reduceLT, Int.reduceNeg, Int.reduceToNat, Int.reduceEq, Int.reduceAdd, Int.reduceSub, Int.reduceMul, Int.reduceBEq, Int.reduceBNe, bm_box, bm_row, bk_box, bk_row, hd, hmid, h3])
    | (exact retS_of rfl rfl rfl)
    | (refine DW.cond_tt rfl ?_)
    | (refine call_c (hp) (by decide) ?_)
    | (refine DW.cond_ff rfl ?_)
    | (refine DW.cond rfl ?_ ?_ <;> intro hc <;> (try simp only [go_sem] at hc))
    | (refine g_split ?_ ?_ <;> intro hc <;> (try simp only [hc]) <;> (try simp only [go_sem] at hc)))
            refine ⟨⟨(mid, b, k), by dsimp only; omega, by dsimp only; omega, i3, by dsimp only; omega, i5⟩, ?_, Ent.to ?_ ?_⟩ <;> first | (show _ < _; (try simp only); omega) | (simp (disch := omega) only [wkT_cons, wkX_cons, wkT_nil, wkX_nil, get, Nat.reduceEqDiff, ↓reduceIte, ex_some, wk_self, wk_top, wk_nil, wkB_self, and_self, dI, i64_in, and_true, true_and, Int.natCast_add, Int.natCast_one, Int.ofNat_zero, Int.natCast_zero,  capB])
        · have hd : decide (a < b) = false := by rw [decide_eq_false_iff_not]; omega
          rw [bsF_same _ _ _ _ hab] at i5
          subst i5
          repeat' (first
    | (with_reducible refine DW.seq ?_)
    | (with_reducible refine DW.block ?_)
    | (with_reducible refine DW.skip ?_)
    | (with_reducible refine DW.exit ?_)
    | (with_reducible refine DW.ret ?_)
    | (with_reducible refine DW.reg ?_)
    | (refine DW.dreg rfl (WF.of (by first | rfl | simp (disch := omega) only [go_sem, Nat.reduceLT, Nat.reduceLeDiff, Nat.reduceAdd, Nat.reduceMul, Nat.reduceEqDiff, ↓reduceIte, reduceCtorEq, Nat.reduceBEq, Nat.reduceBNe, Nat.reducePow, Int.reduceLE, Int.reduceLT, Int.reduceNeg, Int.reduceToNat, Int.reduceEq, Int.reduceAdd, Int.reduceSub, Int.reduceMul, Int.reduceBEq, Int.reduceBNe, bm_box, bm_row, bk_box, bk_row, hd])) ?_)
    | (simp (disch := omega) only [go_sem, Nat.reduceLT, Nat.reduceLeDiff, Nat.reduceAdd, Nat.reduceMul, Nat.reduceEqDiff, ↓reduceIte, reduceCtorEq, Nat.reduceBEq, Nat.reduceBNe, Nat.reducePow, Int.reduceLE, Int.reduceLT, Int.reduceNeg, Int.reduceToNat, Int.reduceEq, Int.reduceAdd, Int.reduceSub, Int.reduceMul, Int.reduceBEq, Int.reduceBNe, bm_box, bm_row, bk_box, bk_row, hd])
    | (exact retS_of rfl rfl rfl)
    | (refine DW.cond_tt rfl ?_)
    | (refine DW.cond_ff rfl ?_)
    | (refine DW.cond rfl ?_ ?_ <;> intro hc <;> (try simp only [go_sem] at hc))
    | (refine g_split ?_ ?_ <;> intro hc <;> (try simp only [hc]) <;> (try simp only [go_sem] at hc)))
          refine round_end rfl rfl (Ent.to ?_ ?_) <;> simp (disch := omega) only [wkT_cons, wkX_cons, wkT_nil, wkX_nil, get, Nat.reduceEqDiff, ↓reduceIte, ex_some, wk_self, wk_top, wk_nil, wkB_self, and_self, dI, i64_in, and_true, true_and, Int.natCast_add, Int.natCast_one, Int.ofNat_zero, Int.natCast_zero, capB, List.cons_append, List.nil_append]
  · have hrs := mostS_run q money (stretchL 100000 q.steps.reverse) 0
    have hQ : mostQ q money = (runIt (mostS q money) 0 (stretchL 100000 q.steps.reverse)).2 := rfl
    rw [hQ]
    generalize runIt (mostS q money) 0 (stretchL 100000 q.steps.reverse) = R at *
    obtain ⟨o, r⟩ := R
    dsimp only at hrs ⊢
    rcases hrs with rfl | ⟨rfl, rfl⟩
    · simp (disch := omega) only [go_sem, Nat.reduceLT, Nat.reduceLeDiff, Nat.reduceAdd, Nat.reduceMul, Nat.reduceEqDiff, ↓reduceIte, reduceCtorEq, Nat.reduceBEq, Nat.reduceBNe, Nat.reducePow, Int.reduceLE, Int.reduceLT, Int.reduceNeg, Int.reduceToNat, Int.reduceEq, Int.reduceAdd, Int.reduceSub, Int.reduceMul, Int.reduceBEq, Int.reduceBNe, bm_box, bm_row, bk_box, bk_row, Option.getD_some]
      repeat' (first
    | (with_reducible refine DW.seq ?_)
    | (with_reducible refine DW.block ?_)
    | (with_reducible refine DW.skip ?_)
    | (with_reducible refine DW.exit ?_)
    | (with_reducible refine DW.ret ?_)
    | (with_reducible refine DW.reg ?_)
    | (refine DW.dreg rfl (WF.of (by first | rfl | simp (disch := omega) only [go_sem, Nat.reduceLT, Nat.reduceLeDiff, Nat.reduceAdd, Nat.reduceMul, Nat.reduceEqDiff, ↓reduceIte, reduceCtorEq, Nat.reduceBEq, Nat.reduceBNe, Nat.reducePow, Int.reduceLE, Int.reduceLT, Int.reduceNeg, Int.reduceToNat, Int.reduceEq, Int.reduceAdd, Int.reduceSub, Int.reduceMul, Int.reduceBEq, Int.reduceBNe, bm_box, bm_row, bk_box, bk_row])) ?_)
    | (simp (disch := omega) only [go_sem, Nat.reduceLT, Nat.reduceLeDiff, Nat.reduceAdd, Nat.reduceMul, Nat.reduceEqDiff, ↓reduceIte, reduceCtorEq, Nat.reduceBEq, Nat.reduceBNe, Nat.reducePow, Int.reduceLE, Int.reduceLT, Int.reduceNeg, Int.reduceToNat, Int.reduceEq, Int.reduceAdd, Int.reduceSub, Int.reduceMul, Int.reduceBEq, Int.reduceBNe, bm_box, bm_row, bk_box, bk_row])
    | (exact retS_of rfl rfl rfl)
    | (refine DW.cond_tt rfl ?_)
    | (refine DW.cond_ff rfl ?_)
    | (refine DW.cond rfl ?_ ?_ <;> intro hc <;> (try simp only [go_sem] at hc))
    | (refine g_split ?_ ?_ <;> intro hc <;> (try simp only [hc]) <;> (try simp only [go_sem] at hc)))
    · simp (disch := omega) only [go_sem, Nat.reduceLT, Nat.reduceLeDiff, Nat.reduceAdd, Nat.reduceMul, Nat.reduceEqDiff, ↓reduceIte, reduceCtorEq, Nat.reduceBEq, Nat.reduceBNe, Nat.reducePow, Int.reduceLE, Int.reduceLT, Int.reduceNeg, Int.reduceToNat, Int.reduceEq, Int.reduceAdd, Int.reduceSub, Int.reduceMul, Int.reduceBEq, Int.reduceBNe, bm_box, bm_row, bk_box, bk_row, Option.getD_none]
      repeat' (first
    | (with_reducible refine DW.seq ?_)
    | (with_reducible refine DW.block ?_)
    | (with_reducible refine DW.skip ?_)
    | (with_reducible refine DW.exit ?_)
    | (with_reducible refine DW.ret ?_)
    | (with_reducible refine DW.reg ?_)
    | (refine DW.dreg rfl (WF.of (by first | rfl | simp (disch := omega) only [go_sem, Nat.reduceLT, Nat.reduceLeDiff, Nat.reduceAdd, Nat.reduceMul, Nat.reduceEqDiff, ↓reduceIte, reduceCtorEq, Nat.reduceBEq, Nat.reduceBNe, Nat.reducePow, Int.reduceLE, Int.reduceLT, Int.reduceNeg, Int.reduceToNat, Int.reduceEq, Int.reduceAdd, Int.reduceSub, Int.reduceMul, Int.reduceBEq, Int.reduceBNe, bm_box, bm_row, bk_box, bk_row])) ?_)
    | (simp (disch := omega) only [go_sem, Nat.reduceLT, Nat.reduceLeDiff, Nat.reduceAdd, Nat.reduceMul, Nat.reduceEqDiff, ↓reduceIte, reduceCtorEq, Nat.reduceBEq, Nat.reduceBNe, Nat.reducePow, Int.reduceLE, Int.reduceLT, Int.reduceNeg, Int.reduceToNat, Int.reduceEq, Int.reduceAdd, Int.reduceSub, Int.reduceMul, Int.reduceBEq, Int.reduceBNe, bm_box, bm_row, bk_box, bk_row])
    | (exact retS_of rfl rfl rfl)
    | (refine DW.cond_tt rfl ?_)
    | (refine DW.cond_ff rfl ?_)
    | (refine DW.cond rfl ?_ ?_ <;> intro hc <;> (try simp only [go_sem] at hc))
    | (refine g_split ?_ ?_ <;> intro hc <;> (try simp only [hc]) <;> (try simp only [go_sem] at hc)))
theorem prMore (q : Quote) (h : q.ok) (n : Int) (hn : 1 ≤ n ∧ n ≤ 100000) : DCall Try.prog 40 [dQ false q, dI n] [] (.tup [dI (mostQ q (priceQ q n)), dI 0]) [] := by
  have h1 := prOpenCount q h n hn
  have h2 := prPrice q h n hn
  have h3 := prMost q h (priceQ q n)
  refine DCall.of Try.func40 sf40 hb40 (Nat.le_of_ble_eq_true rfl) (okRes_nil fun _ => rfl) ?_; simp only [s40, idxs, Nat.reduceAdd]
  repeat' (first
    | (with_reducible refine DW.seq ?_)
    | (with_reducible refine DW.block ?_)
    | (with_reducible refine DW.skip ?_)
    | (with_reducible refine DW.exit ?_)
    | (with_reducible refine DW.ret ?_)
    | (with_reducible refine DW.reg ?_)
    | (refine DW.dreg rfl (WF.of (by first | rfl | simp (disch := omega) only [go_sem, Nat.reduceLT, Nat.reduceLeDiff, Nat.reduceAdd, Nat.reduceMul, Nat.reduceEqDiff, ↓reduceIte, reduceCtorEq, Nat.reduceBEq, Nat.reduceBNe, Nat.reducePow, Int.reduceLE, Int.reduceLT, Int.reduceNeg, Int.reduceToNat, Int.reduceEq, Int.reduceAdd, Int.reduceSub, Int.reduceMul, Int.reduceBEq, Int.reduceBNe, bm_box, bm_row, bk_box, bk_row])) ?_)
    | (simp (disch := omega) only [go_sem, Nat.reduceLT, Nat.reduceLeDiff, Nat.reduceAdd, Nat.reduceMul, Nat.reduceEqDiff, ↓reduceIte, reduceCtorEq, Nat.reduceBEq, Nat.reduceBNe, Nat.reducePow, Int.reduceLE, Int.reduceLT, Int.reduceNeg, Int.reduceToNat, Int.reduceEq, Int.reduceAdd, Int.reduceSub, Int.reduceMul, Int.reduceBEq, Int.reduceBNe, bm_box, bm_row, bk_box, bk_row])
    | (exact retS_of rfl rfl rfl)
    | (refine DW.cond_tt rfl ?_)
    | (refine call_c (h1) (by decide) ?_)
    | (refine call_c (h2) (by decide) ?_)
    | (refine call_c (h3) (by decide) ?_)
    | (refine DW.cond_ff rfl ?_)
    | (refine DW.cond rfl ?_ ?_ <;> intro hc <;> (try simp only [go_sem] at hc))
    | (refine g_split ?_ ?_ <;> intro hc <;> (try simp only [hc]) <;> (try simp only [go_sem] at hc)))
end Go.Dw.Seat
end
section
set_option linter.unusedSimpArgs false
set_option maxRecDepth 100000
namespace Go.Dw.Seat
open Go Go.Dw Go.Proofs Go.IntWalk
theorem ud5 : Try.prog.underlying 5 = some (.int .u8) := by kernel_rfl
abbrev d8 (n : Nat) : D := .c (.v (.int .u8 n))
def eY (v : Nat) : List C := [.v (.int .u8 v)]
theorem eY_nb (v : Nat) : C.nbs (eY v) = true := rfl
attribute [go_sem] ud5 d8 eY
theorem tmodN (m k : Nat) : (m : Int).tmod (k : Int) = ((m % k : Nat) : Int) := by
  rw [Int.tmod_eq_emod_of_nonneg (by omega)]; simp
def uQ (a b c d : Nat) : Quote := ⟨1 + (a : Int), 100 * (b : Int), 0, 10 * (c : Int), 0, 1 + (d : Int), 7 * (d : Int), 1 + (c : Int), 0, 3 * (a : Int), [(1 + (b : Int), (c : Int))]⟩
theorem uQ_ok (a b c d : Nat) (ha : a < 256) (hb : b < 256) (hc : c < 256) (hd : d < 256) : (uQ a b c d).ok := by
  unfold uQ
  exact ⟨by simp only; omega, by simp only; omega, by simp, by simp only; omega, by simp, by simp only; omega, by simp only; omega, by simp only; omega, by simp, by simp only; omega, by simp, by simp; omega, by simp⟩
theorem tpQuote (a b c d : Nat) (ha : a < 256) (hb : b < 256) (hc : c < 256) (hd : d < 256) : DCall Try.prog 8 [.agg [d8 a, d8 b, d8 c, d8 d]] [] (dQ false (uQ a b c d)) [] := by
  unfold uQ
  refine DCall.of Try.func8 sf8 hb8 (Nat.le_of_ble_eq_true rfl) (okRes_nil fun _ => rfl) ?_; simp only [s8, idxs, Nat.reduceAdd]
  repeat' (first
    | (with_reducible refine DW.seq ?_)
    | (with_reducible refine DW.block ?_)
    | (with_reducible refine DW.skip ?_)
    | (with_reducible refine DW.exit ?_)
    | (with_reducible refine DW.ret ?_)
    | (with_reducible refine DW.reg ?_)
    | (simp (disch := omega) only [go_sem, Nat.reduceLT, Nat.reduceLeDiff, Nat.reduceAdd, Nat.reduceMul, Nat.reduceEqDiff, ↓reduceIte, reduceCtorEq, Nat.reduceBEq, Nat.reduceBNe, Nat.reducePow, Int.reduceLE, Int.reduceLT, Int.reduceNeg, Int.reduceToNat, Int.reduceEq, Int.reduceAdd, Int.reduceSub, Int.reduceMul, Int.reduceBEq, Int.reduceBNe, Blk.men, Blk.keysIn])
    | (exact retS_of rfl rfl rfl)
    | (refine DW.cond_tt rfl ?_)
    | (refine DW.cond_ff rfl ?_)
    | (refine DW.cond rfl ?_ ?_ <;> intro hc <;> (try simp only [go_sem] at hc))
    | (refine g_split ?_ ?_ <;> intro hc <;> (try simp only [hc]) <;> (try simp only [go_sem] at hc)))
  (refine retS_ent (Ent.rel 39 rfl) ?_; simp (disch := omega) only [go_sem, Nat.reduceLT, Nat.reduceLeDiff, Nat.reduceAdd, Nat.reduceMul, Nat.reduceEqDiff, ↓reduceIte, reduceCtorEq, Nat.reduceBEq, Nat.reduceBNe, Nat.reducePow, Int.reduceLE, Int.reduceLT, Int.reduceNeg, Int.reduceToNat, Int.reduceEq, Int.reduceAdd, Int.reduceSub, Int.reduceMul, Int.reduceBEq, Int.reduceBNe, Blk.men, Blk.keysIn])
  refine retS_wk rfl ?_ (by simp only [Blk.nb, rowC_nb, D.nb, D.nbs, C.nb, C.nbs, C.nbss, rows_nb eI_nb, rows_nb eC_nb, rows_nb eL_nb, rows_nb eR_nb, rows_nb eS_nb, rows_nb eG_nb, Bool.and_true, Bool.not_false, Bool.and_self, bD, dI, iD, rows_nb eT_nb, rows_nb eY_nb]); exact .refl _
theorem tpSteps (b : Bool) (q : Quote) (hl : q.steps.length ≤ 1000) : DCall Try.prog 13 [dQ b q] [] (dQ false q) [] := by
  refine DCall.of Try.func13 sf13 hb13 (Nat.le_of_ble_eq_true rfl) (okRes_nil fun _ => rfl) ?_; simp only [s13, idxs, Nat.reduceAdd]
  repeat' (first
    | (with_reducible refine DW.seq ?_)
    | (with_reducible refine DW.block ?_)
    | (with_reducible refine DW.skip ?_)
    | (with_reducible refine DW.exit ?_)
    | (with_reducible refine DW.ret ?_)
    | (with_reducible refine DW.reg ?_)
    | (simp (disch := omega) only [go_sem, Nat.reduceLT, Nat.reduceLeDiff, Nat.reduceAdd, Nat.reduceMul, Nat.reduceEqDiff, ↓reduceIte, reduceCtorEq, Nat.reduceBEq, Nat.reduceBNe, Nat.reducePow, Int.reduceLE, Int.reduceLT, Int.reduceNeg, Int.reduceToNat, Int.reduceEq, Int.reduceAdd, Int.reduceSub, Int.reduceMul, Int.reduceBEq, Int.reduceBNe, Blk.men, Blk.keysIn])
    | (exact retS_of rfl rfl rfl)
    | (refine DW.cond_tt rfl ?_)
    | (refine DW.cond_ff rfl ?_)
    | (refine DW.cond rfl ?_ ?_ <;> intro hc <;> (try simp only [go_sem] at hc))
    | (refine g_split ?_ ?_ <;> intro hc <;> (try simp only [hc]) <;> (try simp only [go_sem] at hc)))
  (refine retS_ent (Ent.rel 3 rfl) ?_; simp (disch := omega) only [go_sem, Nat.reduceLT, Nat.reduceLeDiff, Nat.reduceAdd, Nat.reduceMul, Nat.reduceEqDiff, ↓reduceIte, reduceCtorEq, Nat.reduceBEq, Nat.reduceBNe, Nat.reducePow, Int.reduceLE, Int.reduceLT, Int.reduceNeg, Int.reduceToNat, Int.reduceEq, Int.reduceAdd, Int.reduceSub, Int.reduceMul, Int.reduceBEq, Int.reduceBNe, Blk.men, Blk.keysIn])
  refine retS_wk rfl ?_ (by simp only [Blk.nb, rowC_nb, D.nb, D.nbs, C.nb, C.nbs, C.nbss, rows_nb eI_nb, rows_nb eC_nb, rows_nb eL_nb, rows_nb eR_nb, rows_nb eS_nb, rows_nb eG_nb, Bool.and_true, Bool.not_false, Bool.and_self, bD, dI, iD, rows_nb eT_nb, rows_nb eY_nb]); exact .refl _
theorem tpInts (b : Bool) (l : List Int) (hl : l.length ≤ 2 ^ 36) : DCall Try.prog 11 [dIs b l] [] (dIs false l) [] := by
  refine DCall.of Try.func11 sf11 hb11 (Nat.le_of_ble_eq_true rfl) (okRes_nil fun _ => rfl) ?_; simp only [s11, idxs, Nat.reduceAdd]
  repeat' (first
    | (with_reducible refine DW.seq ?_)
    | (with_reducible refine DW.block ?_)
    | (with_reducible refine DW.skip ?_)
    | (with_reducible refine DW.exit ?_)
    | (with_reducible refine DW.ret ?_)
    | (with_reducible refine DW.reg ?_)
    | (simp (disch := omega) only [go_sem, Nat.reduceLT, Nat.reduceLeDiff, Nat.reduceAdd, Nat.reduceMul, Nat.reduceEqDiff, ↓reduceIte, reduceCtorEq, Nat.reduceBEq, Nat.reduceBNe, Nat.reducePow, Int.reduceLE, Int.reduceLT, Int.reduceNeg, Int.reduceToNat, Int.reduceEq, Int.reduceAdd, Int.reduceSub, Int.reduceMul, Int.reduceBEq, Int.reduceBNe, Blk.men, Blk.keysIn])
    | (exact retS_of rfl rfl rfl)
    | (refine DW.cond_tt rfl ?_)
    | (refine DW.cond_ff rfl ?_)
    | (refine DW.cond rfl ?_ ?_ <;> intro hc <;> (try simp only [go_sem] at hc))
    | (refine g_split ?_ ?_ <;> intro hc <;> (try simp only [hc]) <;> (try simp only [go_sem] at hc)))
  (refine retS_ent (Ent.rel 3 rfl) ?_; simp (disch := omega) only [go_sem, Nat.reduceLT, Nat.reduceLeDiff, Nat.reduceAdd, Nat.reduceMul, Nat.reduceEqDiff, ↓reduceIte, reduceCtorEq, Nat.reduceBEq, Nat.reduceBNe, Nat.reducePow, Int.reduceLE, Int.reduceLT, Int.reduceNeg, Int.reduceToNat, Int.reduceEq, Int.reduceAdd, Int.reduceSub, Int.reduceMul, Int.reduceBEq, Int.reduceBNe, Blk.men, Blk.keysIn])
  refine retS_wk rfl ?_ (by simp only [Blk.nb, rowC_nb, D.nb, D.nbs, C.nb, C.nbs, C.nbss, rows_nb eI_nb, rows_nb eC_nb, rows_nb eL_nb, rows_nb eR_nb, rows_nb eS_nb, rows_nb eG_nb, Bool.and_true, Bool.not_false, Bool.and_self, bD, dI, iD, rows_nb eT_nb, rows_nb eY_nb]); exact .refl _
def exQ : Quote := ⟨10000, 20000, 100, 5000, 300, 1000, 900, 400, 50, 200, [(1000, 100)]⟩
theorem exQ_ok : exQ.ok := ⟨by decide, by decide, by decide, by decide, by decide, by decide, by decide, by decide, by decide, by decide, by decide, by decide, by decide⟩
theorem exQ1 : priceQ exQ 500 = 20220 := by kernel_rfl
theorem exQ2 : mostQ exQ (priceQ exQ 999) = 1123 := by kernel_rfl
theorem tpPrice : DCall Try.prog 9 [] [] (bD true) [] := by
  have h1 := prQuote exQ exQ_ok 500 (by decide)
  have h2 := prMore exQ exQ_ok 999 (by decide)
  rw [exQ1] at h1
  rw [exQ2] at h2
  unfold exQ at h1 h2
  refine DCall.of Try.func9 sf9 hb9 (Nat.le_of_ble_eq_true rfl) (okRes_nil fun _ => rfl) ?_; simp only [s9, idxs, Nat.reduceAdd]
  refine DW.seq (DW.reg ?_)
  simp (disch := omega) only [go_sem, Nat.reduceLT, Nat.reduceLeDiff, Nat.reduceAdd, Nat.reduceMul, Nat.reduceEqDiff, ↓reduceIte, reduceCtorEq, Nat.reduceBEq, Nat.reduceBNe, Nat.reducePow, Int.reduceLE, Int.reduceLT, Int.reduceNeg, Int.reduceToNat, Int.reduceEq, Int.reduceAdd, Int.reduceSub, Int.reduceMul, Int.reduceBEq, Int.reduceBNe, Blk.men, Blk.keysIn]
  refine DW.seq (DW.reg ?_)
  simp (disch := omega) only [go_sem, Nat.reduceLT, Nat.reduceLeDiff, Nat.reduceAdd, Nat.reduceMul, Nat.reduceEqDiff, ↓reduceIte, reduceCtorEq, Nat.reduceBEq, Nat.reduceBNe, Nat.reducePow, Int.reduceLE, Int.reduceLT, Int.reduceNeg, Int.reduceToNat, Int.reduceEq, Int.reduceAdd, Int.reduceSub, Int.reduceMul, Int.reduceBEq, Int.reduceBNe, Blk.men, Blk.keysIn]
  (refine DW.ent (Ent.rel 8 rfl) ?_; simp (disch := omega) only [go_sem, Nat.reduceLT, Nat.reduceLeDiff, Nat.reduceAdd, Nat.reduceMul, Nat.reduceEqDiff, ↓reduceIte, reduceCtorEq, Nat.reduceBEq, Nat.reduceBNe, Nat.reducePow, Int.reduceLE, Int.reduceLT, Int.reduceNeg, Int.reduceToNat, Int.reduceEq, Int.reduceAdd, Int.reduceSub, Int.reduceMul, Int.reduceBEq, Int.reduceBNe, Blk.men, Blk.keysIn])
  repeat' (first
    | (with_reducible refine DW.seq ?_)
    | (with_reducible refine DW.block ?_)
    | (with_reducible refine DW.skip ?_)
    | (with_reducible refine DW.exit ?_)
    | (with_reducible refine DW.ret ?_)
    | (with_reducible refine DW.reg ?_)
    | (simp (disch := omega) only [go_sem, Nat.reduceLT, Nat.reduceLeDiff, Nat.reduceAdd, Nat.reduceMul, Nat.reduceEqDiff, ↓reduceIte, reduceCtorEq, Nat.reduceBEq, Nat.reduceBNe, Nat.reducePow, Int.reduceLE, Int.reduceLT, Int.reduceNeg, Int.reduceToNat, Int.reduceEq, Int.reduceAdd, Int.reduceSub, Int.reduceMul, Int.reduceBEq, Int.reduceBNe, Blk.men, Blk.keysIn])
    | (exact retS_of rfl rfl rfl)
    | (refine DW.cond_tt rfl ?_)
    | (refine call_c (h1) (by decide) ?_)
    | (refine call_c (h2) (by decide) ?_)
    | (refine DW.cond_ff rfl ?_)
    | (refine DW.cond rfl ?_ ?_ <;> intro hc <;> (try simp only [go_sem] at hc))
    | (refine g_split ?_ ?_ <;> intro hc <;> (try simp only [hc]) <;> (try simp only [go_sem] at hc)))
theorem fold_wb (r : CR) : ∀ (rs : List Int) (l : CLot), (rs.foldl (CLot.after r) l).wb = l.wb + (rs.countP fun x => decide (lowT l.off x < r.low) : Nat) ∧ (rs.foldl (CLot.after r) l).bb = l.bb + (rs.countP fun x => decide (highT l.off x < r.low) : Nat)
  | [], l => by simp
  | x :: rs, l => by
    have ih := fold_wb r rs (l.after r x)
    have ho : (l.after r x).off = l.off := rfl
    rw [List.foldl_cons, ih.1, ih.2, ho, List.countP_cons, List.countP_cons]
    simp only [CLot.after, decide_eq_true_eq]
    constructor
    · split <;> simp <;> omega
    · split <;> simp <;> omega
theorem state_exact {n : Nat} {L B : Int} {rs : List Int} (hl : rs.length = n) (h1 : n ≤ 20) (h2 : ∀ x ∈ rs, 0 ≤ x ∧ x ≤ 100000) :
    (stateI ⟨n, 0, L, B⟩ (lotOf ⟨n, 0, L, B⟩ 0 rs) == 1) = decide (((rs.countP fun x => decide (x < L) : Nat) : Int) ≤ B) := by
  have hm := lotOf_made ⟨n, 0, L, B⟩ 0 rs
  have hk : ((n : Int) - (lotOf ⟨n, 0, L, B⟩ 0 rs).made).toNat = 0 := by rw [hm.1]; omega
  have hok := lotOf_ok (r := ⟨n, 0, L, B⟩) (off := 0) (by decide) rs (by omega) h2
  have hw := fold_wb ⟨n, 0, L, B⟩ rs (CLot.new 0)
  have e1 : (lotOf ⟨n, 0, L, B⟩ 0 rs).wb = (rs.countP fun x => decide (x < L) : Nat) := by
    refine hw.1.trans ((Int.zero_add _).trans ?_)
    congr 1
    refine List.countP_congr (fun x hx => ?_)
    have := (h2 x hx).1
    have e : lowT (CLot.new 0).off x = x := by
      show (if 0 < x - 0 then x - 0 else 0) = x
      by_cases h0 : 0 < x - 0
      · rw [if_pos h0]; omega
      · rw [if_neg h0]; omega
    rw [e]
  have q : ∀ (s b rest : Int), 0 ≤ s → passI ⟨n, 0, L, B⟩ (lotOf ⟨n, 0, L, B⟩ 0 rs).made s b rest = decide (b ≤ B) := fun s b rest hs => by
    have hb0 : badOf b rest L 0 = b := by unfold badOf; split <;> simp
    simp only [passI, hk, hb0, Int.mul_zero, Int.ofNat_zero, Int.natCast_zero, Int.zero_mul, Int.add_zero, hs, decide_true, Bool.true_and]
  unfold stateI
  rw [q _ _ _ hok.ws.1, q _ _ _ hok.bs.1, e1]
  cases h : decide (((rs.countP fun x => decide (x < L) : Nat) : Int) ≤ B)
  · split
    · rename_i h3; cases h3
    · split <;> rfl
  · simp
theorem paid_mono {P a b n : Int} (hP : 0 ≤ P) (ha : 0 ≤ a) (hab : a ≤ b) (hn : 0 < n) : (P * a).tdiv n ≤ (P * b).tdiv n := by
  have h1 : 0 ≤ P * a := Int.mul_nonneg hP ha
  have h2 : P * a ≤ P * b := Int.mul_le_mul_of_nonneg_left hab hP
  rw [Int.tdiv_eq_ediv_of_nonneg h1, Int.tdiv_eq_ediv_of_nonneg (by omega)]
  exact Int.ediv_le_ediv hn h2
theorem count_takeY {l : List Nat} {j : Nat} {t : Nat} (H : Nat) (h : l[j]? = some t) : (l.take (j + 1)).countP (fun t => decide (t < H)) = (l.take j).countP (fun t => decide (t < H)) + (if decide (t < H) then 1 else 0) := by
  rw [List.take_add_one, h, Option.toList_some, List.countP_append, List.countP_cons, List.countP_nil, Nat.zero_add]
theorem count_nL (l : List Nat) (H : Nat) : (nL l).countP (fun t => decide (t < (H : Int))) = l.countP fun t => decide (t < H) := by
  rw [nL, List.countP_map]
  refine List.countP_congr (fun x _ => ?_)
  simp
end Go.Dw.Seat
end
section
set_option linter.unusedSimpArgs false
set_option maxRecDepth 100000
namespace Go.Dw.Seat
open Go Go.Dw Go.Proofs Go.IntWalk
set_option maxHeartbeats 1600000 in
theorem tpCredit (b : Bool) (tests : List Nat) (a0 a1 a2 a3 l0 l1 : Nat) (h0 : a0 < 256) (h1 : a1 < 256) (h2 : a2 < 256) (h3 : a3 < 256) (h4 : l0 < 256) (h5 : l1 < 256) (ht : ∀ v ∈ tests, v < 256) :
    DCall Try.prog 3 [.c (.sl b 1 (rows eY tests)), .agg [d8 a0, d8 a1, d8 a2, d8 a3], .agg [d8 l0, d8 l1]] [] (bD true) [] := by
  have hq := tpQuote a0 a1 a2 a3 h0 h1 h2 h3
  have hok := uQ_ok a0 a1 a2 a3 h0 h1 h2 h3
  have hlq : (uQ a0 a1 a2 a3).steps.length ≤ 1000 := by simp [uQ]
  generalize uQ a0 a1 a2 a3 = q at *
  obtain ⟨N, hN⟩ : ∃ N : Nat, N = min 15 tests.length := ⟨_, rfl⟩
  have hmin : (if (tests.length : Int) < 15 then (tests.length : Int) else 15) = (N : Int) := by split <;> omega
  have hmin2 : (if (15 : Int) < (tests.length : Int) then (15 : Int) else (tests.length : Int)) = (N : Int) := by split <;> omega
  by_cases hN0 : N = 0
  · rw [hN0] at hmin hmin2
    refine DCall.of Try.func3 sf3 hb3 (Nat.le_of_ble_eq_true rfl) (okRes_nil fun _ => rfl) ?_; simp only [s3, idxs, Nat.reduceAdd]
    repeat' (first
    | (with_reducible refine DW.seq ?_)
    | (with_reducible refine DW.block ?_)
    | (with_reducible refine DW.skip ?_)
    | (with_reducible refine DW.exit ?_)
    | (with_reducible refine DW.ret ?_)
    | (with_reducible refine DW.reg ?_)
    | (refine DW.dreg rfl (WF.of (by first | rfl | simp (disch := omega) only [go_sem, Nat.reduceLT, Nat.reduceLeDiff, Nat.reduceAdd, Nat.reduceMul, Nat.reduceEqDiff, ↓reduceIte, reduceCtorEq, Nat.reduceBEq, Nat.reduceBNe, Nat.reducePow, Int.reduceLE, Int.reduceLT, Int.reduceNeg, Int.reduceToNat, Int.reduceEq, Int.reduceAdd, Int.reduceSub, Int.reduceMul, Int.reduceBEq, Int.reduceBNe, Blk.men, Blk.keysIn, hmin, hmin2])) ?_)
    | (refine DW.ord rfl (WF.of (by first | rfl | simp (disch := omega) only [go_sem, Nat.reduceLT, Nat.reduceLeDiff, Nat.reduceAdd, Nat.reduceMul, Nat.reduceEqDiff, ↓reduceIte, reduceCtorEq, Nat.reduceBEq, Nat.reduceBNe, Nat.reducePow, Int.reduceLE, Int.reduceLT, Int.reduceNeg, Int.reduceToNat, Int.reduceEq, Int.reduceAdd, Int.reduceSub, Int.reduceMul, Int.reduceBEq, Int.reduceBNe, Blk.men, Blk.keysIn, hmin, hmin2])) ?_ ?_ ?_; rotate_left)
    | rfl
    | (with_reducible refine And.intro ?_ ?_)
    | (simp (disch := omega) only [go_sem, Nat.reduceLT, Nat.reduceLeDiff, Nat.reduceAdd, Nat.reduceMul, Nat.reduceEqDiff, ↓reduceIte, reduceCtorEq, Nat.reduceBEq, Nat.reduceBNe, Nat.reducePow, Int.reduceLE, Int.reduceLT, Int.reduceNeg, Int.reduceToNat, Int.reduceEq, Int.reduceAdd, Int.reduceSub, Int.reduceMul, Int.reduceBEq, Int.reduceBNe, Blk.men, Blk.keysIn, hmin, hmin2])
    | (exact retS_of rfl rfl rfl)
    | (refine DW.cond_tt rfl ?_)
    | (refine call_c (hq) (by decide) ?_)
    | (refine call_c (tpPrice) (by decide) ?_)
    | (refine DW.cond_ff rfl ?_)
    | (refine DW.cond rfl ?_ ?_ <;> intro hc <;> (try simp only [go_sem] at hc))
    | (refine g_split ?_ ?_ <;> intro hc <;> (try simp only [hc]) <;> (try simp only [go_sem] at hc)))
  · have hN1 : N ≤ 15 ∧ N ≤ tests.length := by omega
    clear hN
    have hNe : ((N : Int) == 0) = false := by rw [beq_eq_false_iff_ne]; omega
    have hne : ((N : Int) + 1 = 0) = False := eq_false (by omega)
    have hrem : (l1 : Int).tmod ((N : Int) + 1) = ((l1 % (N + 1) : Nat) : Int) := by
      have := tmodN l1 (N + 1)
      rwa [show (((N + 1 : Nat)) : Int) = (N : Int) + 1 by omega] at this
    have hB : l1 % (N + 1) < N + 1 := Nat.mod_lt _ (by omega)
    generalize l1 % (N + 1) = B at *
    obtain ⟨rs, hrs⟩ : ∃ rs, rs = nL (tests.take N) := ⟨_, rfl⟩
    have hrl : rs.length = N := by rw [hrs, nL_length, List.length_take]; omega
    have hrb : ∀ x ∈ rs, 0 ≤ x ∧ x ≤ 100000 := fun x hx => by
      rw [hrs] at hx
      obtain ⟨v, hv, rfl⟩ := List.mem_map.1 hx
      have := ht v (List.mem_of_mem_take hv)
      omega
    have hcd := crDecide false ⟨N, 0, l0, B⟩ rs 0 ⟨by simp only; omega, by simp, by simp only; omega, by simp only; omega, by decide, by simp only; omega, hrb⟩
    have hst := state_exact (n := N) (L := (l0 : Int)) (B := (B : Int)) hrl (by omega) hrb
    have hin := tpInts true rs (by omega)
    have hcn : (rs.countP fun x => decide (x < (l0 : Int))) = (tests.take N).countP fun t => decide (t < l0) := by rw [hrs, count_nL]
    rw [hcn] at hst
    obtain ⟨c, hc⟩ : ∃ c, c = (tests.take N).countP fun t => decide (t < l0) := ⟨_, rfl⟩
    have hcN : c ≤ N := by
      have := List.countP_le_length (p := fun t => decide (t < l0)) (l := tests.take N)
      rw [List.length_take] at this
      omega
    rw [← hc] at hst
    have hps := tpSteps false q hlq
    have hn : 1 ≤ (N : Int) ∧ (N : Int) ≤ 100000 := by omega
    have hc1 := prCredit q hok N c hn (by omega)
    have hc2 := prCredit q hok N B hn (by omega)
    have hqu := prQuote q hok N hn
    have hPb := (prices q hok N hn).b
    have hfull : (priceQ q N * (N : Int)).tdiv N = priceQ q N := Int.mul_tdiv_cancel _ (by omega)
    have hxP : (priceQ q N * (c : Int)).tdiv N ≤ priceQ q N := by
      have := paid_mono (P := priceQ q N) (a := (c : Int)) (b := (N : Int)) (n := (N : Int)) hPb.1 (by omega) (by omega) (by omega)
      omega
    have hx0 : 0 ≤ (priceQ q N * (c : Int)).tdiv N := Int.tdiv_nonneg (Int.mul_nonneg hPb.1 (by omega)) (by omega)
    have hxm : c ≤ B → decide ((priceQ q N * (B : Int)).tdiv N < (priceQ q N * (c : Int)).tdiv N) = false := fun h => by
      have := paid_mono (P := priceQ q N) (a := (c : Int)) (b := (B : Int)) (n := (N : Int)) hPb.1 (by omega) (by omega) (by omega)
      rw [decide_eq_false_iff_not]; omega
    have hmore : c ≠ N → ∃ r1 r2 : Int, DCall Try.prog 12 [dQ false q, dI N, dI ((c : Int) + 1)] [] (.tup [dI r1, dI r2, dI 0]) [] ∧ (priceQ q N * (c : Int)).tdiv N ≤ r1 := fun h =>
      ⟨_, _, prCredit q hok N ((c : Int) + 1) hn (by omega), paid_mono hPb.1 (by omega) (by omega) (by omega)⟩
    have hxe : c = N → ((priceQ q N * (c : Int)).tdiv N == priceQ q N) = true := fun h => by rw [h, hfull]; simp
    generalize stateI ⟨N, 0, l0, B⟩ (lotOf ⟨N, 0, l0, B⟩ 0 rs) = st at *
    generalize (priceQ q N * (c : Int)).tdiv N = x at *
    generalize (priceQ q N * (B : Int)).tdiv N = m at *
    generalize priceQ q N = P at *
    clear hfull
    have hsum : (x + (P - x) != P) = false := by simp; omega
    refine DCall.of Try.func3 sf3 hb3 (Nat.le_of_ble_eq_true rfl) (okRes_nil fun _ => rfl) ?_; simp only [s3, idxs, Nat.reduceAdd]
    repeat' (first
    | (with_reducible refine DW.seq ?_)
    | (with_reducible refine DW.block ?_)
    | (with_reducible refine DW.skip ?_)
    | (with_reducible refine DW.exit ?_)
    | (with_reducible refine DW.ret ?_)
    | (with_reducible refine DW.reg ?_)
    | (refine DW.dreg rfl (WF.of (by first | rfl | simp (disch := omega) only [go_sem, Nat.reduceLT, Nat.reduceLeDiff, Nat.reduceAdd, Nat.reduceMul, Nat.reduceEqDiff, ↓reduceIte, reduceCtorEq, Nat.reduceBEq, Nat.reduceBNe, Nat.reducePow, Int.reduceLE, Int.reduceLT, Int.reduceNeg, Int.reduceToNat, Int.reduceEq, Int.reduceAdd, Int.reduceSub, Int.reduceMul, Int.reduceBEq, Int.reduceBNe, Blk.men, Blk.keysIn, hmin, hmin2, hNe, hrem, hne])) ?_)
    | (refine DW.ord rfl (WF.of (by first | rfl | simp (disch := omega) only [go_sem, Nat.reduceLT, Nat.reduceLeDiff, Nat.reduceAdd, Nat.reduceMul, Nat.reduceEqDiff, ↓reduceIte, reduceCtorEq, Nat.reduceBEq, Nat.reduceBNe, Nat.reducePow, Int.reduceLE, Int.reduceLT, Int.reduceNeg, Int.reduceToNat, Int.reduceEq, Int.reduceAdd, Int.reduceSub, Int.reduceMul, Int.reduceBEq, Int.reduceBNe, Blk.men, Blk.keysIn, hmin, hmin2, hNe, hrem, hne])) ?_ ?_ ?_; rotate_left)
    | rfl
    | (with_reducible refine And.intro ?_ ?_)
    | (simp (disch := omega) only [go_sem, Nat.reduceLT, Nat.reduceLeDiff, Nat.reduceAdd, Nat.reduceMul, Nat.reduceEqDiff, ↓reduceIte, reduceCtorEq, Nat.reduceBEq, Nat.reduceBNe, Nat.reducePow, Int.reduceLE, Int.reduceLT, Int.reduceNeg, Int.reduceToNat, Int.reduceEq, Int.reduceAdd, Int.reduceSub, Int.reduceMul, Int.reduceBEq, Int.reduceBNe, Blk.men, Blk.keysIn, hmin, hmin2, hNe, hrem, hne])
    | (exact retS_of rfl rfl rfl)
    | (refine DW.cond_tt rfl ?_)
    | (refine call_c (hq) (by decide) ?_)
    | (refine DW.cond_ff rfl ?_)
    | (refine DW.cond rfl ?_ ?_ <;> intro hc <;> (try simp only [go_sem] at hc))
    | (refine g_split ?_ ?_ <;> intro hc <;> (try simp only [hc]) <;> (try simp only [go_sem] at hc)))
    refine DW.loop (ι := { i : Nat // i ≤ N }) (fun i => ⟨171, [(12, dI i.1), (11, dI ((tests.take i.1).countP fun t => decide (t < l0) : Nat)), (10, .own 46), (9, .box 9 0), (8, dI N), (7, .box 7 0), (0, .c (.sl b 1 (rows eY tests)))],
      [(46, .row 1 (rowC (rows eI (nL (tests.take i.1))))), (9, .box [dI N, dI 0, dI l0, dI B]), (7, .box [dI q.area, dI q.board, dI q.waste, dI q.tool, dI q.setup, dI q.run, dI q.work, dI q.pallet, dI q.freight, dI q.margin, .c (.sl false 2 (rows eT q.steps))])]⟩) (fun i => N - i.1) ⟨0, Nat.zero_le _⟩ ?_ ?_
    · refine Ent.to ?_ ?_ <;> simp (disch := omega) only [wkT_cons, wkX_cons, wkT_nil, wkX_nil, get, Nat.reduceEqDiff, ↓reduceIte, ex_some, wk_self, wk_top, wk_nil, wkB_self, and_self, dI, i64_in, and_true, true_and, Int.natCast_add, Int.natCast_one, Int.ofNat_zero, Int.natCast_zero, List.take_zero, List.countP_nil]
      all_goals exact .refl _
    rintro ⟨i, hi⟩
    rcases Nat.lt_or_ge i N with hlt | hge
    · have hd : decide ((i : Int) < (N : Int)) = true := by rw [decide_eq_true_eq]; omega
      obtain ⟨v, hv⟩ := getE (l := tests) (i := i) (by omega)
      have hv0 := ht v (List.mem_of_getElem? hv)
      have s1 : nL (tests.take (i + 1)) = nL (tests.take i) ++ [(v : Int)] := by rw [List.take_add_one, hv]; simp [nL]
      have s2 := count_takeY l0 hv
      have ln1 : (nL (tests.take i)).length ≤ 15 := by rw [nL_length, List.length_take]; omega
      have ln2 : (tests.take i).countP (fun t => decide (t < l0)) ≤ 15 := by
        have := List.countP_le_length (p := fun t => decide (t < l0)) (l := tests.take i)
        rw [List.length_take] at this; omega
      generalize nL (tests.take i) = ra at *
      generalize (tests.take i).countP (fun t => decide (t < l0)) = ci at *
      cases hb : decide (v < l0) with
      | true =>
        have hbI : decide ((v : Int) < (l0 : Int)) = true := by simp only [decide_eq_true_eq] at hb ⊢; omega
        rw [hb, if_pos rfl] at s2
        repeat' (first
    | (with_reducible refine DW.seq ?_)
    | (with_reducible refine DW.block ?_)
    | (with_reducible refine DW.skip ?_)
    | (with_reducible refine DW.exit ?_)
    | (with_reducible refine DW.ret ?_)
    | (with_reducible refine DW.reg ?_)
    | (refine DW.dreg rfl (WF.of (by first | rfl | simp (disch := omega) only [go_sem, Nat.reduceLT, Nat.reduceLeDiff, Nat.reduceAdd, Nat.reduceMul, Nat.reduceEqDiff, ↓reduceIte, reduceCtorEq, Nat.reduceBEq, Nat.reduceBNe, Nat.reducePow, Int.reduceLE, Int.reduceLT, Int.reduceNeg, Int.reduceToNat, Int.reduceEq, Int.reduceAdd, Int.reduceSub, Int.reduceMul, Int.reduceBEq, Int.reduceBNe, Blk.men, Blk.keysIn, hd, hv, hbI])) ?_)
    | (refine DW.ord rfl (WF.of (by first | rfl | simp (disch := omega) only [go_sem, Nat.reduceLT, Nat.reduceLeDiff, Nat.reduceAdd, Nat.reduceMul, Nat.reduceEqDiff, ↓reduceIte, reduceCtorEq, Nat.reduceBEq, Nat.reduceBNe, Nat.reducePow, Int.reduceLE, Int.reduceLT, Int.reduceNeg, Int.reduceToNat, Int.reduceEq, Int.reduceAdd, Int.reduceSub, Int.reduceMul, Int.reduceBEq, Int.reduceBNe, Blk.men, Blk.keysIn, hd, hv, hbI])) ?_ ?_ ?_; rotate_left)
    | rfl
    | (with_reducible refine And.intro ?_ ?_)
    | (simp (disch := omega) only [go_sem, Nat.reduceLT, Nat.reduceLeDiff, Nat.reduceAdd, Nat.reduceMul, Nat.reduceEqDiff, ↓reduceIte, reduceCtorEq, Nat.reduceBEq, Nat.reduceBNe, Nat.reducePow, Int.reduceLE, Int.reduceLT, Int.reduceNeg, Int.reduceToNat, Int.reduceEq, Int.reduceAdd, Int.reduceSub, Int.reduceMul, Int.reduceBEq, Int.reduceBNe, Blk.men, Blk.keysIn, hd, hv, hbI])
    | (exact retS_of rfl rfl rfl)
    | (refine DW.cond_tt rfl ?_)
    | (refine DW.cond_ff rfl ?_)
    | (refine DW.cond rfl ?_ ?_ <;> intro hc <;> (try simp only [go_sem] at hc))
    | (refine g_split ?_ ?_ <;> intro hc <;> (try simp only [hc]) <;> (try simp only [go_sem] at hc)))
        refine ⟨⟨i + 1, hlt⟩, ?_, Ent.to ?_ ?_⟩ <;> first | (show _ < _; (try simp only); omega) | (simp (disch := omega) only [wkT_cons, wkX_cons, wkT_nil, wkX_nil, get, Nat.reduceEqDiff, ↓reduceIte, ex_some, wk_self, wk_top, wk_nil, wkB_self, and_self, dI, i64_in, and_true, true_and, Int.natCast_add, Int.natCast_one, Int.ofNat_zero, Int.natCast_zero,  s1, s2])
        all_goals exact .refl _
      | false =>
        have hbI : decide ((v : Int) < (l0 : Int)) = false := by simp only [decide_eq_false_iff_not] at hb ⊢; omega
        rw [hb, if_neg (by decide), Nat.add_zero] at s2
        repeat' (first
    | (with_reducible refine DW.seq ?_)
    | (with_reducible refine DW.block ?_)
    | (with_reducible refine DW.skip ?_)
    | (with_reducible refine DW.exit ?_)
    | (with_reducible refine DW.ret ?_)
    | (with_reducible refine DW.reg ?_)
    | (refine DW.dreg rfl (WF.of (by first | rfl | simp (disch := omega) only [go_sem, Nat.reduceLT, Nat.reduceLeDiff, Nat.reduceAdd, Nat.reduceMul, Nat.reduceEqDiff, ↓reduceIte, reduceCtorEq, Nat.reduceBEq, Nat.reduceBNe, Nat.reducePow, Int.reduceLE, Int.reduceLT, Int.reduceNeg, Int.reduceToNat, Int.reduceEq, Int.reduceAdd, Int.reduceSub, Int.reduceMul, Int.reduceBEq, Int.reduceBNe, Blk.men, Blk.keysIn, hd, hv, hbI])) ?_)
    | (refine DW.ord rfl (WF.of (by first | rfl | simp (disch := omega) only [go_sem, Nat.reduceLT, Nat.reduceLeDiff, Nat.reduceAdd, Nat.reduceMul, Nat.reduceEqDiff, ↓reduceIte, reduceCtorEq, Nat.reduceBEq, Nat.reduceBNe, Nat.reducePow, Int.reduceLE, Int.reduceLT, Int.reduceNeg, Int.reduceToNat, Int.reduceEq, Int.reduceAdd, Int.reduceSub, Int.reduceMul, Int.reduceBEq, Int.reduceBNe, Blk.men, Blk.keysIn, hd, hv, hbI])) ?_ ?_ ?_; rotate_left)
    | rfl
    | (with_reducible refine And.intro ?_ ?_)
    | (simp (disch := omega) only [go_sem, Nat.reduceLT, Nat.reduceLeDiff, Nat.reduceAdd, Nat.reduceMul, Nat.reduceEqDiff, ↓reduceIte, reduceCtorEq, Nat.reduceBEq, Nat.reduceBNe, Nat.reducePow, Int.reduceLE, Int.reduceLT, Int.reduceNeg, Int.reduceToNat, Int.reduceEq, Int.reduceAdd, Int.reduceSub, Int.reduceMul, Int.reduceBEq, Int.reduceBNe, Blk.men, Blk.keysIn, hd, hv, hbI])
    | (exact retS_of rfl rfl rfl)
    | (refine DW.cond_tt rfl ?_)
    | (refine DW.cond_ff rfl ?_)
    | (refine DW.cond rfl ?_ ?_ <;> intro hc <;> (try simp only [go_sem] at hc))
    | (refine g_split ?_ ?_ <;> intro hc <;> (try simp only [hc]) <;> (try simp only [go_sem] at hc)))
        refine ⟨⟨i + 1, hlt⟩, ?_, Ent.to ?_ ?_⟩ <;> first | (show _ < _; (try simp only); omega) | (simp (disch := omega) only [wkT_cons, wkX_cons, wkT_nil, wkX_nil, get, Nat.reduceEqDiff, ↓reduceIte, ex_some, wk_self, wk_top, wk_nil, wkB_self, and_self, dI, i64_in, and_true, true_and, Int.natCast_add, Int.natCast_one, Int.ofNat_zero, Int.natCast_zero,  s1, s2])
        all_goals exact .refl _
    · obtain rfl : i = N := by omega
      have hd : decide ((i : Int) < (i : Int)) = false := by rw [decide_eq_false_iff_not]; omega
      rw [← hrs, ← hc]
      by_cases hci : c = i
      · have hce : ((c : Int) == (i : Int)) = true := by rw [hci]; simp
        have hxe' := hxe hci
        cases hcB : decide ((c : Int) ≤ (B : Int)) with
        | true =>
          rw [hcB] at hst
          have hxm' := hxm (by simpa using hcB)
          repeat' (first
    | (with_reducible refine DW.seq ?_)
    | (with_reducible refine DW.block ?_)
    | (with_reducible refine DW.skip ?_)
    | (with_reducible refine DW.exit ?_)
    | (with_reducible refine DW.ret ?_)
    | (with_reducible refine DW.reg ?_)
    | (refine DW.dreg rfl (WF.of (by first | rfl | simp (disch := omega) only [go_sem, Nat.reduceLT, Nat.reduceLeDiff, Nat.reduceAdd, Nat.reduceMul, Nat.reduceEqDiff, ↓reduceIte, reduceCtorEq, Nat.reduceBEq, Nat.reduceBNe, Nat.reducePow, Int.reduceLE, Int.reduceLT, Int.reduceNeg, Int.reduceToNat, Int.reduceEq, Int.reduceAdd, Int.reduceSub, Int.reduceMul, Int.reduceBEq, Int.reduceBNe, Blk.men, Blk.keysIn, hd, hce, hxe', hcB, hst, hxm', hsum])) ?_)
    | (refine DW.ord rfl (WF.of (by first | rfl | simp (disch := omega) only [go_sem, Nat.reduceLT, Nat.reduceLeDiff, Nat.reduceAdd, Nat.reduceMul, Nat.reduceEqDiff, ↓reduceIte, reduceCtorEq, Nat.reduceBEq, Nat.reduceBNe, Nat.reducePow, Int.reduceLE, Int.reduceLT, Int.reduceNeg, Int.reduceToNat, Int.reduceEq, Int.reduceAdd, Int.reduceSub, Int.reduceMul, Int.reduceBEq, Int.reduceBNe, Blk.men, Blk.keysIn, hd, hce, hxe', hcB, hst, hxm', hsum])) ?_ ?_ ?_; rotate_left)
    | rfl
    | (with_reducible refine And.intro ?_ ?_)
    | (simp (disch := omega) only [go_sem, Nat.reduceLT, Nat.reduceLeDiff, Nat.reduceAdd, Nat.reduceMul, Nat.reduceEqDiff, ↓reduceIte, reduceCtorEq, Nat.reduceBEq, Nat.reduceBNe, Nat.reducePow, Int.reduceLE, Int.reduceLT, Int.reduceNeg, Int.reduceToNat, Int.reduceEq, Int.reduceAdd, Int.reduceSub, Int.reduceMul, Int.reduceBEq, Int.reduceBNe, Blk.men, Blk.keysIn, hd, hce, hxe', hcB, hst, hxm', hsum])
    | (exact retS_of rfl rfl rfl)
    | (refine DW.cond_tt rfl ?_)
    | (refine call_c (hin) (by decide) ?_)
    | (refine call_c (hcd) (by decide) ?_)
    | (refine call_c (hps) (by decide) ?_)
    | (refine call_c (hc1) (by decide) ?_)
    | (refine call_c (hc2) (by decide) ?_)
    | (refine call_c (hqu) (by decide) ?_)
    | (refine call_c (tpPrice) (by decide) ?_)
    | (refine DW.cond_ff rfl ?_)
    | (refine DW.cond rfl ?_ ?_ <;> intro hc <;> (try simp only [go_sem] at hc))
    | (refine g_split ?_ ?_ <;> intro hc <;> (try simp only [hc]) <;> (try simp only [go_sem] at hc)))
        | false =>
          rw [hcB] at hst
          repeat' (first
    | (with_reducible refine DW.seq ?_)
    | (with_reducible refine DW.block ?_)
    | (with_reducible refine DW.skip ?_)
    | (with_reducible refine DW.exit ?_)
    | (with_reducible refine DW.ret ?_)
    | (with_reducible refine DW.reg ?_)
    | (refine DW.dreg rfl (WF.of (by first | rfl | simp (disch := omega) only [go_sem, Nat.reduceLT, Nat.reduceLeDiff, Nat.reduceAdd, Nat.reduceMul, Nat.reduceEqDiff, ↓reduceIte, reduceCtorEq, Nat.reduceBEq, Nat.reduceBNe, Nat.reducePow, Int.reduceLE, Int.reduceLT, Int.reduceNeg, Int.reduceToNat, Int.reduceEq, Int.reduceAdd, Int.reduceSub, Int.reduceMul, Int.reduceBEq, Int.reduceBNe, Blk.men, Blk.keysIn, hd, hce, hxe', hcB, hst, hsum])) ?_)
    | (refine DW.ord rfl (WF.of (by first | rfl | simp (disch := omega) only [go_sem, Nat.reduceLT, Nat.reduceLeDiff, Nat.reduceAdd, Nat.reduceMul, Nat.reduceEqDiff, ↓reduceIte, reduceCtorEq, Nat.reduceBEq, Nat.reduceBNe, Nat.reducePow, Int.reduceLE, Int.reduceLT, Int.reduceNeg, Int.reduceToNat, Int.reduceEq, Int.reduceAdd, Int.reduceSub, Int.reduceMul, Int.reduceBEq, Int.reduceBNe, Blk.men, Blk.keysIn, hd, hce, hxe', hcB, hst, hsum])) ?_ ?_ ?_; rotate_left)
    | rfl
    | (with_reducible refine And.intro ?_ ?_)
    | (simp (disch := omega) only [go_sem, Nat.reduceLT, Nat.reduceLeDiff, Nat.reduceAdd, Nat.reduceMul, Nat.reduceEqDiff, ↓reduceIte, reduceCtorEq, Nat.reduceBEq, Nat.reduceBNe, Nat.reducePow, Int.reduceLE, Int.reduceLT, Int.reduceNeg, Int.reduceToNat, Int.reduceEq, Int.reduceAdd, Int.reduceSub, Int.reduceMul, Int.reduceBEq, Int.reduceBNe, Blk.men, Blk.keysIn, hd, hce, hxe', hcB, hst, hsum])
    | (exact retS_of rfl rfl rfl)
    | (refine DW.cond_tt rfl ?_)
    | (refine call_c (hin) (by decide) ?_)
    | (refine call_c (hcd) (by decide) ?_)
    | (refine call_c (hps) (by decide) ?_)
    | (refine call_c (hc1) (by decide) ?_)
    | (refine call_c (hc2) (by decide) ?_)
    | (refine call_c (hqu) (by decide) ?_)
    | (refine call_c (tpPrice) (by decide) ?_)
    | (refine DW.cond_ff rfl ?_)
    | (refine DW.cond rfl ?_ ?_ <;> intro hc <;> (try simp only [go_sem] at hc))
    | (refine g_split ?_ ?_ <;> intro hc <;> (try simp only [hc]) <;> (try simp only [go_sem] at hc)))
      · have hce : ((c : Int) == (i : Int)) = false := by rw [beq_eq_false_iff_ne]; omega
        obtain ⟨r1, r2, hm1, hm2⟩ := hmore hci
        have hm3 : decide (x ≤ r1) = true := decide_eq_true hm2
        cases hcB : decide ((c : Int) ≤ (B : Int)) with
        | true =>
          rw [hcB] at hst
          have hxm' := hxm (by simpa using hcB)
          repeat' (first
    | (with_reducible refine DW.seq ?_)
    | (with_reducible refine DW.block ?_)
    | (with_reducible refine DW.skip ?_)
    | (with_reducible refine DW.exit ?_)
    | (with_reducible refine DW.ret ?_)
    | (with_reducible refine DW.reg ?_)
    | (refine DW.dreg rfl (WF.of (by first | rfl | simp (disch := omega) only [go_sem, Nat.reduceLT, Nat.reduceLeDiff, Nat.reduceAdd, Nat.reduceMul, Nat.reduceEqDiff, ↓reduceIte, reduceCtorEq, Nat.reduceBEq, Nat.reduceBNe, Nat.reducePow, Int.reduceLE, Int.reduceLT, Int.reduceNeg, Int.reduceToNat, Int.reduceEq, Int.reduceAdd, Int.reduceSub, Int.reduceMul, Int.reduceBEq, Int.reduceBNe, Blk.men, Blk.keysIn, hd, hce, hm3, hcB, hst, hxm', hsum])) ?_)
    | (refine DW.ord rfl (WF.of (by first | rfl | simp (disch := omega) only [go_sem, Nat.reduceLT, Nat.reduceLeDiff, Nat.reduceAdd, Nat.reduceMul, Nat.reduceEqDiff, ↓reduceIte, reduceCtorEq, Nat.reduceBEq, Nat.reduceBNe, Nat.reducePow, Int.reduceLE, Int.reduceLT, Int.reduceNeg, Int.reduceToNat, Int.reduceEq, Int.reduceAdd, Int.reduceSub, Int.reduceMul, Int.reduceBEq, Int.reduceBNe, Blk.men, Blk.keysIn, hd, hce, hm3, hcB, hst, hxm', hsum])) ?_ ?_ ?_; rotate_left)
    | rfl
    | (with_reducible refine And.intro ?_ ?_)
    | (simp (disch := omega) only [go_sem, Nat.reduceLT, Nat.reduceLeDiff, Nat.reduceAdd, Nat.reduceMul, Nat.reduceEqDiff, ↓reduceIte, reduceCtorEq, Nat.reduceBEq, Nat.reduceBNe, Nat.reducePow, Int.reduceLE, Int.reduceLT, Int.reduceNeg, Int.reduceToNat, Int.reduceEq, Int.reduceAdd, Int.reduceSub, Int.reduceMul, Int.reduceBEq, Int.reduceBNe, Blk.men, Blk.keysIn, hd, hce, hm3, hcB, hst, hxm', hsum])
    | (exact retS_of rfl rfl rfl)
    | (refine DW.cond_tt rfl ?_)
    | (refine call_c (hin) (by decide) ?_)
    | (refine call_c (hcd) (by decide) ?_)
    | (refine call_c (hps) (by decide) ?_)
    | (refine call_c (hc1) (by decide) ?_)
    | (refine call_c (hc2) (by decide) ?_)
    | (refine call_c (hqu) (by decide) ?_)
    | (refine call_c (hm1) (by decide) ?_)
    | (refine call_c (tpPrice) (by decide) ?_)
    | (refine DW.cond_ff rfl ?_)
    | (refine DW.cond rfl ?_ ?_ <;> intro hc <;> (try simp only [go_sem] at hc))
    | (refine g_split ?_ ?_ <;> intro hc <;> (try simp only [hc]) <;> (try simp only [go_sem] at hc)))
        | false =>
          rw [hcB] at hst
          repeat' (first
    | (with_reducible refine DW.seq ?_)
    | (with_reducible refine DW.block ?_)
    | (with_reducible refine DW.skip ?_)
    | (with_reducible refine DW.exit ?_)
    | (with_reducible refine DW.ret ?_)
    | (with_reducible refine DW.reg ?_)
    | (refine DW.dreg rfl (WF.of (by first | rfl | simp (disch := omega) only [go_sem, Nat.reduceLT, Nat.reduceLeDiff, Nat.reduceAdd, Nat.reduceMul, Nat.reduceEqDiff, ↓reduceIte, reduceCtorEq, Nat.reduceBEq, Nat.reduceBNe, Nat.reducePow, Int.reduceLE, Int.reduceLT, Int.reduceNeg, Int.reduceToNat, Int.reduceEq, Int.reduceAdd, Int.reduceSub, Int.reduceMul, Int.reduceBEq, Int.reduceBNe, Blk.men, Blk.keysIn, hd, hce, hm3, hcB, hst, hsum])) ?_)
    | (refine DW.ord rfl (WF.of (by first | rfl | simp (disch := omega) only [go_sem, Nat.reduceLT, Nat.reduceLeDiff, Nat.reduceAdd, Nat.reduceMul, Nat.reduceEqDiff, ↓reduceIte, reduceCtorEq, Nat.reduceBEq, Nat.reduceBNe, Nat.reducePow, Int.reduceLE, Int.reduceLT, Int.reduceNeg, Int.reduceToNat, Int.reduceEq, Int.reduceAdd, Int.reduceSub, Int.reduceMul, Int.reduceBEq, Int.reduceBNe, Blk.men, Blk.keysIn, hd, hce, hm3, hcB, hst, hsum])) ?_ ?_ ?_; rotate_left)
    | rfl
    | (with_reducible refine And.intro ?_ ?_)
    | (simp (disch := omega) only [go_sem, Nat.reduceLT, Nat.reduceLeDiff, Nat.reduceAdd, Nat.reduceMul, Nat.reduceEqDiff, ↓reduceIte, reduceCtorEq, Nat.reduceBEq, Nat.reduceBNe, Nat.reducePow, Int.reduceLE, Int.reduceLT, Int.reduceNeg, Int.reduceToNat, Int.reduceEq, Int.reduceAdd, Int.reduceSub, Int.reduceMul, Int.reduceBEq, Int.reduceBNe, Blk.men, Blk.keysIn, hd, hce, hm3, hcB, hst, hsum])
    | (exact retS_of rfl rfl rfl)
    | (refine DW.cond_tt rfl ?_)
    | (refine call_c (hin) (by decide) ?_)
    | (refine call_c (hcd) (by decide) ?_)
    | (refine call_c (hps) (by decide) ?_)
    | (refine call_c (hc1) (by decide) ?_)
    | (refine call_c (hc2) (by decide) ?_)
    | (refine call_c (hqu) (by decide) ?_)
    | (refine call_c (hm1) (by decide) ?_)
    | (refine call_c (tpPrice) (by decide) ?_)
    | (refine DW.cond_ff rfl ?_)
    | (refine DW.cond rfl ?_ ?_ <;> intro hc <;> (try simp only [go_sem] at hc))
    | (refine g_split ?_ ?_ <;> intro hc <;> (try simp only [hc]) <;> (try simp only [go_sem] at hc)))
end Go.Dw.Seat
end
section
set_option linter.unusedSimpArgs false
set_option maxRecDepth 100000
namespace Go.Dw.Seat
open Go Go.Dw Go.Proofs Go.ChangeShapes Go.WideShapes Go.ChangeAt Go.RowKit
theorem tOwn : ownKnob Try.prog.godebug = none := by kernel_rfl
theorem tLaid : laidOutB Try.prog = true := by kernel_rfl
theorem u4 : Try.prog.underlying 4 = some .bool := by kernel_rfl
theorem uA4 : Try.prog.underlying 23 = some (.array 4 5) := by kernel_rfl
theorem uA2 : Try.prog.underlying 24 = some (.array 2 5) := by kernel_rfl
theorem uY : Try.prog.underlying 22 = some (.slice 5) := by kernel_rfl
theorem cells5 : Try.prog.cellsOf 5 = 1 := by kernel_rfl
theorem cellsA4 : Try.prog.cellsOf 23 = 4 := by kernel_rfl
theorem cellsA2 : Try.prog.cellsOf 24 = 2 := by kernel_rfl
section
variable {H : Type} {enc : TypeId × Value → H} {w : World} {base : Nat} {spare : Nat → Bool} {held : Bool} {fuel : Nat} {cs : List Value} {x : DataW H × List MemPlace}
theorem wf8 {n : Int} (h : (Lit.int .u8 n).wf = true) : ∃ v : Nat, n = v ∧ v < 256 := by
  have e1 : IntKind.min .u8 = 0 := by decide
  have e2 : IntKind.max .u8 = 255 := by decide
  simp only [Lit.wf, e1, e2, Bool.and_eq_true, decide_eq_true_eq] at h
  exact ⟨n.toNat, by omega, by omega⟩
theorem rd_U8 (h : DataW.trod enc Try.prog w base spare held fuel 5 cs = some x) : ∃ v : Nat, cs = [.int .u8 v] ∧ v < 256 := by
  obtain ⟨n, e, hw⟩ := rd_int ud5 h
  obtain ⟨v, rfl, hv⟩ := wf8 hw
  exact ⟨v, e, hv⟩
theorem rd_A4 (h : DataW.trod enc Try.prog w base spare held fuel 23 cs = some x) : ∃ a b c d : Nat, a < 256 ∧ b < 256 ∧ c < 256 ∧ d < 256 ∧ cs = [.int .u8 a, .int .u8 b, .int .u8 c, .int .u8 d] := by
  obtain ⟨hl, m, hf⟩ := rd_array uA4 h
  rw [cellsA4] at hl
  obtain ⟨y0, h0⟩ := hf 0 (by decide)
  obtain ⟨y1, h1⟩ := hf 1 (by decide)
  obtain ⟨y2, h2⟩ := hf 2 (by decide)
  obtain ⟨y3, h3⟩ := hf 3 (by decide)
  rw [cells5] at h0 h1 h2 h3
  match cs, hl with
  | [a, b, c, d], _ =>
    obtain ⟨n0, e0, p0⟩ := rd_U8 h0
    obtain ⟨n1, e1, p1⟩ := rd_U8 h1
    obtain ⟨n2, e2, p2⟩ := rd_U8 h2
    obtain ⟨n3, e3, p3⟩ := rd_U8 h3
    simp at e0 e1 e2 e3
    subst e0; subst e1; subst e2; subst e3
    exact ⟨n0, n1, n2, n3, p0, p1, p2, p3, rfl⟩
theorem rd_A2 (h : DataW.trod enc Try.prog w base spare held fuel 24 cs = some x) : ∃ a b : Nat, a < 256 ∧ b < 256 ∧ cs = [.int .u8 a, .int .u8 b] := by
  obtain ⟨hl, m, hf⟩ := rd_array uA2 h
  rw [cellsA2] at hl
  obtain ⟨y0, h0⟩ := hf 0 (by decide)
  obtain ⟨y1, h1⟩ := hf 1 (by decide)
  rw [cells5] at h0 h1
  match cs, hl with
  | [a, b], _ =>
    obtain ⟨n0, e0, p0⟩ := rd_U8 h0
    obtain ⟨n1, e1, p1⟩ := rd_U8 h1
    simp at e0 e1
    subst e0; subst e1
    exact ⟨n0, n1, p0, p1, rfl⟩
theorem rd_Y (h : DataW.trod enc Try.prog w base spare held fuel 22 cs = some x) : ∃ (l : List Nat) (v : Value), cs = [v] ∧ RepC w A0 (.sl false 1 (rows eY l)) v ∧ l.length ≤ maxLen ∧ ∀ v ∈ l, v < 256 := by
  obtain ⟨l, v, e, hr, hm, _⟩ := rd_slice (f := fun v : {v : Nat // v < 256} => eY v.1) uY cells5 (by decide) (fun _ => rfl) (fun _ _ _ h => by
    obtain ⟨n, e, hn⟩ := rd_U8 h
    subst e
    exact ⟨⟨n, hn⟩, _, _, rfl, ⟨rfl, rfl⟩, rfl⟩) h
  refine ⟨l.map (·.1), v, e, ?_, by simpa using hm, fun u hu => ?_⟩
  · have : rows eY (l.map (·.1)) = rows (fun v : {v : Nat // v < 256} => eY v.1) l := by simp [rows, Function.comp_def]
    rw [this]; exact hr
  · obtain ⟨a, _, rfl⟩ := List.mem_map.1 hu
    exact a.2
end
set_option maxHeartbeats 800000 in
theorem topCreditTestsLifted (os : Os) (started : os.Started) (H : Type) (enc : TypeId × Value → H) :
    ReturnsInHanded {} Try.checked os 3 .any (Ytmbgogijhpommaa.Rows.topCreditTestsSpec.pre6 enc Try.prog Try.f3 Ytmbgogijhpommaa.Rows.topCreditTestsRow.domain false) (Ytmbgogijhpommaa.Rows.topCreditTestsSpec.post enc Try.prog Try.f3 false true false false) := by
  refine returnsInHanded_of_change (C := Try.checked) tOwn started (by kernel_rfl) Try.func3
    (ChangeSpec.witness6 (enc := enc) (C := Try.checked) false ⟨#[], #[.slice none 0 0, .agg #[.int .u8 0, .int .u8 0, .int .u8 0, .int .u8 0], .agg #[.int .u8 0, .int .u8 0]], []⟩ 8 (by kernel_rfl) (by kernel_rfl) (by kernel_rfl) (by kernel_rfl)) ?_
  intro W base args ds gs before hval0 hW _ _
  have hval : ∀ (j : Nat) t v, Try.f3.params[j]? = some t → args[j]? = some v → Value.okWide Try.prog W .any base t v := hval0
  have hW' : DataW.Whole enc Try.prog Try.f3.params.toList [] false W args.toList ds gs before := hW
  obtain ⟨p, q, hA, hV, rfl, hfz, hnd⟩ := hW
  have hA : DataW.TrodAll enc Try.prog W 0 (fun _ => true) true [22, 23, 24] args.toList ds p := hA
  obtain ⟨rfl, rfl⟩ := trodVars_none hV
  obtain ⟨v0, vs0, d0, ds0, p0, q0, hargs, rfl, rfl, h0, r0⟩ := trodAll_cons hA
  obtain ⟨v1, vs1, d1, ds1, p1, q1, rfl, rfl, rfl, h1, r1⟩ := trodAll_cons r0
  obtain ⟨v2, vs2, d2, ds2, p2, q2, rfl, rfl, rfl, h2, r2⟩ := trodAll_cons r1
  obtain ⟨rfl, rfl, rfl⟩ := trodAll_nil r2
  obtain rfl : args = #[v0, v1, v2] := by cases args; simp_all
  obtain ⟨a0, l0, k0, rfl⟩ := okWide_slice uY (hval 0 22 v0 rfl rfl)
  obtain ⟨c1, rfl, _⟩ := okWide_array uA4 (hval 1 23 v1 rfl rfl)
  obtain ⟨c2, rfl, _⟩ := okWide_array uA2 (hval 2 24 v2 rfl rfl)
  obtain ⟨fu0, h0⟩ := h0
  obtain ⟨fu1, h1⟩ := h1
  obtain ⟨fu2, h2⟩ := h2
  obtain ⟨ys, yv, e0, hys, hyl, hyo⟩ := rd_Y h0
  have e0 : yv = Value.slice a0 l0 k0 := by simpa [Value.cells] using e0.symm
  subst e0
  obtain ⟨ma, mb, mc, md, ka, kb, kc, kd, e1⟩ := rd_A4 h1
  have hr1 : RepVs W A0 [.v (.int .u8 ma), .v (.int .u8 mb), .v (.int .u8 mc), .v (.int .u8 md)] c1.toList := by
    have e : c1.toList = [.int .u8 ma, .int .u8 mb, .int .u8 mc, .int .u8 md] := by simpa [Value.cells] using e1
    rw [e]; exact ⟨_, _, rfl, ⟨rfl, rfl⟩, _, _, rfl, ⟨rfl, rfl⟩, _, _, rfl, ⟨rfl, rfl⟩, _, _, rfl, ⟨rfl, rfl⟩, rfl⟩
  obtain ⟨na, nb, ja, jb, e2⟩ := rd_A2 h2
  have hr2 : RepVs W A0 [.v (.int .u8 na), .v (.int .u8 nb)] c2.toList := by
    have e : c2.toList = [.int .u8 na, .int .u8 nb] := by simpa [Value.cells] using e2
    rw [e]; exact ⟨_, _, rfl, ⟨rfl, rfl⟩, _, _, rfl, ⟨rfl, rfl⟩, rfl⟩
  refine ((tpCredit false ys ma mb mc md na nb ka kb kc kd ja jb hyo).calls (W := W) (vs := [.slice a0 l0 k0, .agg c1, .agg c2]) (fun G => ?_)).mono ?_
  · exact ⟨_, _, rfl, hys, _, _, rfl, ⟨c1, rfl, RepDs.ofVs hr1⟩, _, _, rfl, ⟨c2, rfl, RepDs.ofVs hr2⟩, rfl⟩
  · rintro e W' ⟨v, rfl, ⟨G', A', hr⟩, hb⟩
    obtain ⟨rfl, _⟩ := hr
    exact ⟨_, rfl, post_true tLaid (by decide +kernel) hW' hb rfl rfl u4 rfl rfl rfl⟩
theorem topCreditTestsHolds : Ytmbgogijhpommaa.Rows.topCreditTestsRow.holds Ytmbgogijhpommaa.Try.pinned (OpenSpec.ofChange Ytmbgogijhpommaa.Rows.topCreditTestsSpec) :=
  OpenClaim.holds_of_wide 3 Try.f3 rfl rfl rfl rfl rfl rfl rfl ⟨rfl, rfl, rfl, rfl, rfl⟩ rfl rfl rfl rfl rfl (by kernel_rfl) Try.func3 (by kernel_rfl)
    (of_decide_eq_true (by kernel_rfl)) (by unfold Func.isWrapper; first | (rw [if_pos (by decide +kernel)]; kernel_rfl) | (rw [if_neg (by decide +kernel)]; exact ⟨rfl, rfl⟩))
    (fun os started H enc _ => topCreditTestsLifted os started H enc)
end Go.Dw.Seat
namespace Go.Proofs.Ytmbgogijhpommaa
theorem topCreditTestsSaid : Rows.TopCreditTestsSaid := Go.Dw.Seat.topCreditTestsHolds
end Go.Proofs.Ytmbgogijhpommaa
end
