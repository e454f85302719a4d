/- The law TopTestedBoard returns true for every board in bytes, all tests and all errors of the gauge, and changes nothing that was there before: the full statement TopTestedBoardSaid, without conditions.
   The walk of each function is in the texts before; that such a lot passes, and fails, and after how many tests it is decided, are plain laws. -/
import Derived.Test.YtmbgogijhpommaaD01
import Derived.ProofKit
import Derived.OpenShut
import Derived.Test.YtmbgogijhpommaaRows
set_option linter.unusedVariables false
set_option linter.unusedSimpArgs false
section
set_option linter.unusedSimpArgs false
set_option maxRecDepth 100000
namespace Go.Dw.Seat
open Go Go.Dw Go.Proofs Go.IntWalk
theorem crIn (b : Bool) (lo hi : Int) (l : List Int) (hl : l.length ≤ 2 ^ 36) (h : ∀ v ∈ l, lo ≤ v ∧ v ≤ hi) : DCall Try.prog 52 [dI lo, dI hi, dIs b l] [] (bD true) [] := by
  have := crWithin b lo hi l hl
  rwa [wthn_yes h] at this
theorem crSpan (lo hi least most : Int) (h : least ≤ lo ∧ lo ≤ hi ∧ hi ≤ most) : DCall Try.prog 51 [.agg [dI lo, dI hi], dI least, dI most] [] (bD true) [] := by
  have h1 := crIn true least most [lo, hi] (by simp) (by simp; omega)
  have hd : decide (lo ≤ hi) = true := decide_eq_true h.2.1
  refine DCall.of Try.func51 sf51 hb51 (Nat.le_of_ble_eq_true rfl) (okRes_nil fun _ => rfl) ?_; simp only [s51, idxs, Nat.reduceAdd]
  repeat' (first
    | (with_reducible refine DW.seq ?_)
    | (with_reducible refine DW.block ?_)
    | (with_reducible refine DW.skip ?_)
    | (with_reducible refine DW.exit ?_)
    | (with_reducible refine DW.ret ?_)
    | (with_reducible refine DW.reg ?_)
    | (simp (disch := omega) only [go_sem, Nat.reduceLT, Nat.reduceLeDiff, Nat.reduceAdd, Nat.reduceMul, Nat.reduceEqDiff, ↓reduceIte, reduceCtorEq, Nat.reduceBEq, Nat.reduceBNe, Nat.reducePow, Int.reduceLE, Int.reduceLT, Int.reduceNeg, Int.reduceToNat, Int.reduceEq, Int.reduceAdd, Int.reduceSub, Int.reduceMul, Int.reduceBEq, Int.reduceBNe, Blk.men, Blk.keysIn, hd])
    | (exact retS_of rfl rfl rfl)
    | (refine DW.cond_tt rfl ?_)
    | (refine call_c (h1) (by decide) ?_)
    | (refine DW.cond_ff rfl ?_)
    | (refine DW.cond rfl ?_ ?_ <;> intro hc <;> (try simp only [go_sem] at hc))
    | (refine g_split ?_ ?_ <;> intro hc <;> (try simp only [hc]) <;> (try simp only [go_sem] at hc)))
theorem closeDs_mapc' {σ : St} {mv : Option Nat} {caps : List C} : closeDs σ mv (caps.map D.c) = some (caps.map D.c) := by
  have := @closeDs_fn _ σ mv [] caps []
  simpa [closeDs] using this
theorem ud3 : Try.prog.underlying 3 = some (.int .i64) := by kernel_rfl
theorem ud226 : Try.prog.underlying 226 = some (.int .u64) := by kernel_rfl
theorem srSearch (n r : Int) (h : 0 ≤ r ∧ r ≤ n ∧ n ≤ 1099511627776) (g : FuncId) (caps : List C) (hp : ∀ k, 0 ≤ k → k < n → DCall Try.prog g (dI k :: caps.map D.c) [] (bD (decide (r ≤ k))) []) : DCall Try.prog 92 [dI n, .c (.fn (.func g) [] caps)] [] (dI r) [] := by
  refine DCall.of Try.func92 sf92 hb92 (Nat.le_of_ble_eq_true rfl) (okRes_nil fun _ => rfl) ?_; simp only [s92, idxs, Nat.reduceAdd]
  repeat' (first
    | (with_reducible refine DW.seq ?_)
    | (with_reducible refine DW.block ?_)
    | (with_reducible refine DW.skip ?_)
    | (with_reducible refine DW.exit ?_)
    | (with_reducible refine DW.ret ?_)
    | (with_reducible refine DW.reg ?_)
    | (simp (disch := omega) only [go_sem, Nat.reduceLT, Nat.reduceLeDiff, Nat.reduceAdd, Nat.reduceMul, Nat.reduceEqDiff, ↓reduceIte, reduceCtorEq, Nat.reduceBEq, Nat.reduceBNe, Nat.reducePow, Int.reduceLE, Int.reduceLT, Int.reduceNeg, Int.reduceToNat, Int.reduceEq, Int.reduceAdd, Int.reduceSub, Int.reduceMul, Int.reduceBEq, Int.reduceBNe, Blk.men, Blk.keysIn])
    | (exact retS_of rfl rfl rfl)
    | (refine DW.cond_tt rfl ?_)
    | (refine DW.cond_ff rfl ?_)
    | (refine DW.cond rfl ?_ ?_ <;> intro hc <;> (try simp only [go_sem] at hc))
    | (refine g_split ?_ ?_ <;> intro hc <;> (try simp only [hc]) <;> (try simp only [go_sem] at hc)))
  refine DW.loop (ι := { s : Int × Int // 0 ≤ s.1 ∧ s.1 ≤ r ∧ r ≤ s.2 ∧ s.2 ≤ n }) (fun s => ⟨26, [(6, dI s.1.2), (5, dI s.1.1), (1, .c (.fn (.func g) [] caps))], []⟩) (fun s => (s.1.2 - s.1.1).toNat) ⟨(0, n), Int.le_refl _, h.1, h.2.1, Int.le_refl _⟩ ?_ ?_
  · refine Ent.to ?_ ?_ <;> simp (disch := omega) only [wkT_cons, wkX_cons, wkT_nil, wkX_nil, get, Nat.reduceEqDiff, ↓reduceIte, ex_some, wk_self, wk_top, wk_nil, wkB_self, and_self, dI, i64_in, and_true, true_and, Int.natCast_add, Int.natCast_one, Int.ofNat_zero, Int.natCast_zero]
  rintro ⟨⟨i, j⟩, i1, i2, i3, i4⟩
  dsimp only at i1 i2 i3 i4 ⊢
  rcases Int.lt_or_le i j with hij | hij
  · have hd : decide (i < j) = true := decide_eq_true hij
    have hcall := hp ((i + j) / 2) (by omega) (by omega)
    have hw1 : IntKind.u64.wrap (i + j) = i + j := IntWalk.u64_in _ (by omega)
    have hsh : shrI IntKind.u64 (i + j) 1 = (i + j) / 2 := by
      have : shrI IntKind.u64 (i + j) 1 = (i + j).fdiv 2 := rfl
      rw [this, Int.fdiv_eq_ediv_of_nonneg _ (by decide)]
    repeat' (first
    | (with_reducible refine DW.seq ?_)
    | (with_reducible refine DW.block ?_)
    | (with_reducible refine DW.skip ?_)
    | (with_reducible refine DW.exit ?_)
    | (with_reducible refine DW.ret ?_)
    | (with_reducible refine DW.reg ?_)
    | (simp (disch := omega) only [go_sem, Nat.reduceLT, Nat.reduceLeDiff, Nat.reduceAdd, Nat.reduceMul, Nat.reduceEqDiff, ↓reduceIte, reduceCtorEq, Nat.reduceBEq, Nat.reduceBNe, Nat.reducePow, Int.reduceLE, Int.reduceLT, Int.reduceNeg, Int.reduceToNat, Int.reduceEq, Int.reduceAdd, Int.reduceSub, Int.reduceMul, Int.reduceBEq, Int.reduceBNe, Blk.men, Blk.keysIn, hd, closeDs_mapc', ud3, ud226, hw1, hsh])
    | (exact retS_of rfl rfl rfl)
    | (refine DW.cond_tt rfl ?_)
    | (refine DW.cond_ff rfl ?_)
    | (refine DW.cond rfl ?_ ?_ <;> intro hc <;> (try simp only [go_sem] at hc))
    | (refine g_split ?_ ?_ <;> intro hc <;> (try simp only [hc]) <;> (try simp only [go_sem] at hc)))
    refine call_c hcall (by decide) ?_
    cases hr : decide (r ≤ (i + j) / 2) with
    | true =>
      have hr' : r ≤ (i + j) / 2 := of_decide_eq_true hr
      simp (disch := omega) only [go_sem, Nat.reduceLT, Nat.reduceLeDiff, Nat.reduceAdd, Nat.reduceMul, Nat.reduceEqDiff, ↓reduceIte, reduceCtorEq, Nat.reduceBEq, Nat.reduceBNe, Nat.reducePow, Int.reduceLE, Int.reduceLT, Int.reduceNeg, Int.reduceToNat, Int.reduceEq, Int.reduceAdd, Int.reduceSub, Int.reduceMul, Int.reduceBEq, Int.reduceBNe, Blk.men, Blk.keysIn]
      repeat' (first
    | (with_reducible refine DW.seq ?_)
    | (with_reducible refine DW.block ?_)
    | (with_reducible refine DW.skip ?_)
    | (with_reducible refine DW.exit ?_)
    | (with_reducible refine DW.ret ?_)
    | (with_reducible refine DW.reg ?_)
    | (simp (disch := omega) only [go_sem, Nat.reduceLT, Nat.reduceLeDiff, Nat.reduceAdd, Nat.reduceMul, Nat.reduceEqDiff, ↓reduceIte, reduceCtorEq, Nat.reduceBEq, Nat.reduceBNe, Nat.reducePow, Int.reduceLE, Int.reduceLT, Int.reduceNeg, Int.reduceToNat, Int.reduceEq, Int.reduceAdd, Int.reduceSub, Int.reduceMul, Int.reduceBEq, Int.reduceBNe, Blk.men, Blk.keysIn])
    | (exact retS_of rfl rfl rfl)
    | (refine DW.cond_tt rfl ?_)
    | (refine DW.cond_ff rfl ?_)
    | (refine DW.cond rfl ?_ ?_ <;> intro hc <;> (try simp only [go_sem] at hc))
    | (refine g_split ?_ ?_ <;> intro hc <;> (try simp only [hc]) <;> (try simp only [go_sem] at hc)))
      refine ⟨⟨(i, (i + j) / 2), i1, i2, hr', by dsimp only; omega⟩, ?_, Ent.to ?_ ?_⟩ <;> first | (show _ < _; (try simp only); omega) | (simp (disch := omega) only [wkT_cons, wkX_cons, wkT_nil, wkX_nil, get, Nat.reduceEqDiff, ↓reduceIte, ex_some, wk_self, wk_top, wk_nil, wkB_self, and_self, dI, i64_in, and_true, true_and, Int.natCast_add, Int.natCast_one, Int.ofNat_zero, Int.natCast_zero])
    | false =>
      have hr' : ¬ r ≤ (i + j) / 2 := of_decide_eq_false hr
      simp (disch := omega) only [go_sem, Nat.reduceLT, Nat.reduceLeDiff, Nat.reduceAdd, Nat.reduceMul, Nat.reduceEqDiff, ↓reduceIte, reduceCtorEq, Nat.reduceBEq, Nat.reduceBNe, Nat.reducePow, Int.reduceLE, Int.reduceLT, Int.reduceNeg, Int.reduceToNat, Int.reduceEq, Int.reduceAdd, Int.reduceSub, Int.reduceMul, Int.reduceBEq, Int.reduceBNe, Blk.men, Blk.keysIn]
      repeat' (first
    | (with_reducible refine DW.seq ?_)
    | (with_reducible refine DW.block ?_)
    | (with_reducible refine DW.skip ?_)
    | (with_reducible refine DW.exit ?_)
    | (with_reducible refine DW.ret ?_)
    | (with_reducible refine DW.reg ?_)
    | (simp (disch := omega) only [go_sem, Nat.reduceLT, Nat.reduceLeDiff, Nat.reduceAdd, Nat.reduceMul, Nat.reduceEqDiff, ↓reduceIte, reduceCtorEq, Nat.reduceBEq, Nat.reduceBNe, Nat.reducePow, Int.reduceLE, Int.reduceLT, Int.reduceNeg, Int.reduceToNat, Int.reduceEq, Int.reduceAdd, Int.reduceSub, Int.reduceMul, Int.reduceBEq, Int.reduceBNe, Blk.men, Blk.keysIn])
    | (exact retS_of rfl rfl rfl)
    | (refine DW.cond_tt rfl ?_)
    | (refine DW.cond_ff rfl ?_)
    | (refine DW.cond rfl ?_ ?_ <;> intro hc <;> (try simp only [go_sem] at hc))
    | (refine g_split ?_ ?_ <;> intro hc <;> (try simp only [hc]) <;> (try simp only [go_sem] at hc)))
      refine ⟨⟨((i + j) / 2 + 1, j), by dsimp only; omega, by dsimp only; omega, i3, i4⟩, ?_, Ent.to ?_ ?_⟩ <;> first | (show _ < _; (try simp only); omega) | (simp (disch := omega) only [wkT_cons, wkX_cons, wkT_nil, wkX_nil, get, Nat.reduceEqDiff, ↓reduceIte, ex_some, wk_self, wk_top, wk_nil, wkB_self, and_self, dI, i64_in, and_true, true_and, Int.natCast_add, Int.natCast_one, Int.ofNat_zero, Int.natCast_zero])
  · obtain rfl : i = r := by omega
    have hd : decide (i < j) = false := by rw [decide_eq_false_iff_not]; omega
    repeat' (first
    | (with_reducible refine DW.seq ?_)
    | (with_reducible refine DW.block ?_)
    | (with_reducible refine DW.skip ?_)
    | (with_reducible refine DW.exit ?_)
    | (with_reducible refine DW.ret ?_)
    | (with_reducible refine DW.reg ?_)
    | (simp (disch := omega) only [go_sem, Nat.reduceLT, Nat.reduceLeDiff, Nat.reduceAdd, Nat.reduceMul, Nat.reduceEqDiff, ↓reduceIte, reduceCtorEq, Nat.reduceBEq, Nat.reduceBNe, Nat.reducePow, Int.reduceLE, Int.reduceLT, Int.reduceNeg, Int.reduceToNat, Int.reduceEq, Int.reduceAdd, Int.reduceSub, Int.reduceMul, Int.reduceBEq, Int.reduceBNe, Blk.men, Blk.keysIn, hd])
    | (exact retS_of rfl rfl rfl)
    | (refine DW.cond_tt rfl ?_)
    | (refine DW.cond_ff rfl ?_)
    | (refine DW.cond rfl ?_ ?_ <;> intro hc <;> (try simp only [go_sem] at hc))
    | (refine g_split ?_ ?_ <;> intro hc <;> (try simp only [hc]) <;> (try simp only [go_sem] at hc)))
structure IsRoot (n r : Int) : Prop where
  pos : 0 ≤ r
  low : r * r ≤ n
  high : n < (r + 1) * (r + 1)
theorem sq_mono {a b : Int} (ha : 0 ≤ a) (h : a ≤ b) : a * a ≤ b * b := Int.mul_le_mul h h ha (by omega)
theorem IsRoot.le {n r k : Int} (h : IsRoot n r) (hk : 0 ≤ k) : (n < (k + 1) * (k + 1)) ↔ r ≤ k := by
  constructor
  · intro h1
    rcases Int.lt_or_le k r with h2 | h2
    · have := sq_mono (a := k + 1) (b := r) (by omega) (by omega)
      have := h.low
      omega
    · exact h2
  · intro h1
    have := sq_mono (a := r + 1) (b := k + 1) (by have := h.pos; omega) (by omega)
    have := h.high
    omega
theorem IsRoot.self {n r : Int} (h : IsRoot n r) : r ≤ n := by
  have h1 := h.low
  have h2 := h.pos
  rcases Int.lt_or_le r 1 with h3 | h3
  · have : r = 0 := by omega
    subst this; omega
  · have := Int.mul_le_mul_of_nonneg_left h3 h2
    omega
theorem IsRoot.mono {n n' r r' : Int} (h : IsRoot n r) (h' : IsRoot n' r') (hn : n ≤ n') : r ≤ r' :=
  (h.le h'.pos).1 (by have := h'.high; omega)
theorem IsRoot.lt {n r : Int} (h : IsRoot n r) (hn : n ≤ 200000000) : r ≤ 14142 := by
  rcases Int.lt_or_le 14142 r with h1 | h1
  · have := sq_mono (a := 14143) (b := r) (by decide) (by omega)
    have := h.low
    omega
  · exact h1
theorem crRoot1 (b : Bool) (n k : Int) (hk : 0 ≤ k ∧ k ≤ 1000000000) : DCall Try.prog 93 [dI k, .c (.ro b [.v (.int .i64 n)] 0)] [] (bD (decide (n < (k + 1) * (k + 1)))) [] := by
  have hm := mulB0 (a := k + 1) (b := k + 1) (A := 1000000001) (B := 1000000001) (by omega) (by omega)
  refine DCall.of Try.func93 sf93 hb93 (Nat.le_of_ble_eq_true rfl) (okRes_nil fun _ => rfl) ?_; simp only [s93, idxs, Nat.reduceAdd]
  repeat' (first
    | (with_reducible refine DW.seq ?_)
    | (with_reducible refine DW.block ?_)
    | (with_reducible refine DW.skip ?_)
    | (with_reducible refine DW.exit ?_)
    | (with_reducible refine DW.ret ?_)
    | (with_reducible refine DW.reg ?_)
    | (simp (disch := omega) only [go_sem, Nat.reduceLT, Nat.reduceLeDiff, Nat.reduceAdd, Nat.reduceMul, Nat.reduceEqDiff, ↓reduceIte, reduceCtorEq, Nat.reduceBEq, Nat.reduceBNe, Nat.reducePow, Int.reduceLE, Int.reduceLT, Int.reduceNeg, Int.reduceToNat, Int.reduceEq, Int.reduceAdd, Int.reduceSub, Int.reduceMul, Int.reduceBEq, Int.reduceBNe, Blk.men, Blk.keysIn])
    | (exact retS_of rfl rfl rfl)
    | (refine DW.cond_tt rfl ?_)
    | (refine DW.cond_ff rfl ?_)
    | (refine DW.cond rfl ?_ ?_ <;> intro hc <;> (try simp only [go_sem] at hc))
    | (refine g_split ?_ ?_ <;> intro hc <;> (try simp only [hc]) <;> (try simp only [go_sem] at hc)))
theorem crRoot (n r : Int) (h : IsRoot n r) (hn : n ≤ 200000000) : DCall Try.prog 54 [dI n] [] (dI r) [] := by
  have hs := h.self
  have hp := h.pos
  have h1 := srSearch (n + 1) r ⟨h.pos, by omega, by omega⟩ 93 [.ro true [.v (.int .i64 n)] 0] (fun k hk hkn => by
    have := crRoot1 true n k ⟨hk, by omega⟩
    rwa [decide_eq_decide.2 (h.le hk)] at this)
  refine DCall.of Try.func54 sf54 hb54 (Nat.le_of_ble_eq_true rfl) (okRes_nil fun _ => rfl) ?_; simp only [s54, idxs, Nat.reduceAdd]
  repeat' (first
    | (with_reducible refine DW.seq ?_)
    | (with_reducible refine DW.block ?_)
    | (with_reducible refine DW.skip ?_)
    | (with_reducible refine DW.exit ?_)
    | (with_reducible refine DW.ret ?_)
    | (with_reducible refine DW.reg ?_)
    | (simp (disch := omega) only [go_sem, Nat.reduceLT, Nat.reduceLeDiff, Nat.reduceAdd, Nat.reduceMul, Nat.reduceEqDiff, ↓reduceIte, reduceCtorEq, Nat.reduceBEq, Nat.reduceBNe, Nat.reducePow, Int.reduceLE, Int.reduceLT, Int.reduceNeg, Int.reduceToNat, Int.reduceEq, Int.reduceAdd, Int.reduceSub, Int.reduceMul, Int.reduceBEq, Int.reduceBNe, Blk.men, Blk.keysIn])
    | (exact retS_of rfl rfl rfl)
    | (refine DW.cond_tt rfl ?_)
    | (refine call_c (h1) (by decide) ?_)
    | (refine DW.cond_ff rfl ?_)
    | (refine DW.cond rfl ?_ ?_ <;> intro hc <;> (try simp only [go_sem] at hc))
    | (refine g_split ?_ ?_ <;> intro hc <;> (try simp only [hc]) <;> (try simp only [go_sem] at hc)))
theorem crStrong1 (b : Bool) (x0 x1 x2 x3 around rule e c r : Int) (he : 0 ≤ e ∧ e ≤ 100000) (hc : 1 ≤ c ∧ c ≤ 10000) (ha : 1 ≤ around ∧ around ≤ 20000) (hu : 1 ≤ rule ∧ rule ≤ 1000) (hr : IsRoot (c * around) r) :
    DCall Try.prog 53 [dI e, dI c, .c (.ro b [.v (.int .i64 x0), .v (.int .i64 x1), .v (.int .i64 x2), .v (.int .i64 x3), .v (.int .i64 around), .v (.int .i64 rule)] 0)] [] (dI ((e * r * rule).tdiv 100000)) [] := by
  have m1 := mulB0 (a := c) (b := around) (A := 10000) (B := 20000) (by omega) (by omega)
  have hr1 := hr.lt (by omega)
  have m2 := mulB0 (a := e) (b := r) (A := 100000) (B := 14142) he ⟨hr.pos, hr1⟩
  have m3 := mulB0 (a := e * r) (b := rule) (A := 1414200000) (B := 1000) (by omega) (by omega)
  have hroot := crRoot (c * around) r hr (by omega)
  have hq : 0 ≤ (e * r * rule).tdiv 100000 ∧ (e * r * rule).tdiv 100000 ≤ 1414200000000 := by
    rw [Int.tdiv_eq_ediv_of_nonneg (by omega)]; omega
  refine DCall.of Try.func53 sf53 hb53 (Nat.le_of_ble_eq_true rfl) (okRes_nil fun _ => rfl) ?_; simp only [s53, idxs, Nat.reduceAdd]
  repeat' (first
    | (with_reducible refine DW.seq ?_)
    | (with_reducible refine DW.block ?_)
    | (with_reducible refine DW.skip ?_)
    | (with_reducible refine DW.exit ?_)
    | (with_reducible refine DW.ret ?_)
    | (with_reducible refine DW.reg ?_)
    | (refine DW.dreg rfl (WF.of (by first | rfl | simp (disch := omega) only [go_sem, Nat.reduceLT, Nat.reduceLeDiff, Nat.reduceAdd, Nat.reduceMul, Nat.reduceEqDiff, ↓reduceIte, reduceCtorEq, Nat.reduceBEq, Nat.reduceBNe, Nat.reducePow, Int.reduceLE, Int.reduceLT, Int.reduceNeg, Int.reduceToNat, Int.reduceEq, Int.reduceAdd, Int.reduceSub, Int.reduceMul, Int.reduceBEq, Int.reduceBNe, Blk.men, Blk.keysIn])) ?_)
    | (simp (disch := omega) only [go_sem, Nat.reduceLT, Nat.reduceLeDiff, Nat.reduceAdd, Nat.reduceMul, Nat.reduceEqDiff, ↓reduceIte, reduceCtorEq, Nat.reduceBEq, Nat.reduceBNe, Nat.reducePow, Int.reduceLE, Int.reduceLT, Int.reduceNeg, Int.reduceToNat, Int.reduceEq, Int.reduceAdd, Int.reduceSub, Int.reduceMul, Int.reduceBEq, Int.reduceBNe, Blk.men, Blk.keysIn])
    | (exact retS_of rfl rfl rfl)
    | (refine DW.cond_tt rfl ?_)
    | (refine call_c (hroot) (by decide) ?_)
    | (refine DW.cond_ff rfl ?_)
    | (refine DW.cond rfl ?_ ?_ <;> intro hc <;> (try simp only [go_sem] at hc))
    | (refine g_split ?_ ?_ <;> intro hc <;> (try simp only [hc]) <;> (try simp only [go_sem] at hc)))
structure CBox where
  el : Int
  eh : Int
  cl : Int
  ch : Int
  around : Int
  rule : Int
structure CBox.ok (b : CBox) : Prop where
  edge : 0 ≤ b.el ∧ b.el ≤ b.eh ∧ b.eh ≤ 100000
  cal : 1 ≤ b.cl ∧ b.cl ≤ b.ch ∧ b.ch ≤ 10000
  around : 1 ≤ b.around ∧ b.around ≤ 20000
  rule : 1 ≤ b.rule ∧ b.rule ≤ 1000
abbrev dCBox (b : CBox) : D := .agg [dI b.el, dI b.eh, dI b.cl, dI b.ch, dI b.around, dI b.rule]
attribute [go_sem] dCBox
theorem crStrength (b : CBox) (h : b.ok) (rl rh : Int) (hl : IsRoot (b.cl * b.around) rl) (hh : IsRoot (b.ch * b.around) rh) :
    DCall Try.prog 23 [dCBox b] [] (.tup [.agg [dI ((b.el * rl * b.rule).tdiv 100000), dI ((b.eh * rh * b.rule).tdiv 100000)], dI 0]) [] := by
  have h1 := crSpan b.el b.eh 0 100000 h.edge
  have h2 := crSpan b.cl b.ch 1 10000 h.cal
  have h3 := crIn true 1 20000 [b.around] (by simp) (by simpa using h.around)
  have h4 := crIn true 1 1000 [b.rule] (by simp) (by simpa using h.rule)
  have e := h.edge
  have c := h.cal
  have h5 := crStrong1 true b.el b.eh b.cl b.ch b.around b.rule b.el b.cl rl (by omega) (by omega) h.around h.rule hl
  have h6 := crStrong1 true b.el b.eh b.cl b.ch b.around b.rule b.eh b.ch rh (by omega) (by omega) h.around h.rule hh
  refine DCall.of Try.func23 sf23 hb23 (Nat.le_of_ble_eq_true rfl) (okRes_nil fun _ => rfl) ?_; simp only [s23, idxs, Nat.reduceAdd]
  repeat' (first
    | (with_reducible refine DW.seq ?_)
    | (with_reducible refine DW.block ?_)
    | (with_reducible refine DW.skip ?_)
    | (with_reducible refine DW.exit ?_)
    | (with_reducible refine DW.ret ?_)
    | (with_reducible refine DW.reg ?_)
    | (refine DW.dreg rfl (WF.of (by first | rfl | simp (disch := omega) only [go_sem, Nat.reduceLT, Nat.reduceLeDiff, Nat.reduceAdd, Nat.reduceMul, Nat.reduceEqDiff, ↓reduceIte, reduceCtorEq, Nat.reduceBEq, Nat.reduceBNe, Nat.reducePow, Int.reduceLE, Int.reduceLT, Int.reduceNeg, Int.reduceToNat, Int.reduceEq, Int.reduceAdd, Int.reduceSub, Int.reduceMul, Int.reduceBEq, Int.reduceBNe, Blk.men, Blk.keysIn])) ?_)
    | (simp (disch := omega) only [go_sem, Nat.reduceLT, Nat.reduceLeDiff, Nat.reduceAdd, Nat.reduceMul, Nat.reduceEqDiff, ↓reduceIte, reduceCtorEq, Nat.reduceBEq, Nat.reduceBNe, Nat.reducePow, Int.reduceLE, Int.reduceLT, Int.reduceNeg, Int.reduceToNat, Int.reduceEq, Int.reduceAdd, Int.reduceSub, Int.reduceMul, Int.reduceBEq, Int.reduceBNe, Blk.men, Blk.keysIn])
    | (exact retS_of rfl rfl rfl)
    | (refine DW.cond_tt rfl ?_)
    | (refine call_c (h1) (by decide) ?_)
    | (refine call_c (h2) (by decide) ?_)
    | (refine call_c (h3) (by decide) ?_)
    | (refine call_c (h4) (by decide) ?_)
    | (refine call_c (h5) (by decide) ?_)
    | (refine call_c (h6) (by decide) ?_)
    | (refine DW.cond_ff rfl ?_)
    | (refine DW.cond rfl ?_ ?_ <;> intro hc <;> (try simp only [go_sem] at hc))
    | (refine g_split ?_ ?_ <;> intro hc <;> (try simp only [hc]) <;> (try simp only [go_sem] at hc)))
end Go.Dw.Seat
end
section
set_option linter.unusedSimpArgs false
set_option maxRecDepth 100000
namespace Go.Dw.Seat
open Go Go.Dw Go.Proofs Go.IntWalk
structure Lod where
  sl : Int
  sh : Int
  wl : Int
  wh : Int
def eLd (b : Lod) : List C := [.v (.int .i64 b.sl), .v (.int .i64 b.sh), .v (.int .i64 b.wl), .v (.int .i64 b.wh)]
theorem eLd_nb (v : Lod) : C.nbs (eLd v) = true := rfl
def eK (t : Int × Int) : List C := [.v (.int .i64 t.1), .v (.int .i64 t.2)]
theorem eK_nb (v : Int × Int) : C.nbs (eK v) = true := rfl
attribute [go_sem] eLd eK
structure Lod.ok (b : Lod) : Prop where
  strong : 0 ≤ b.sl ∧ b.sl ≤ b.sh ∧ b.sh ≤ 20000000
  weight : 0 ≤ b.wl ∧ b.wl ≤ b.wh ∧ b.wh ≤ 100000
theorem crBox1 (b : Lod) (h : b.ok) : DCall Try.prog 129 [.agg ((eLd b).map D.c)] [] (bD false) [] := by
  have h1 := crSpan b.sl b.sh 0 20000000 h.strong
  have h2 := crSpan b.wl b.wh 0 100000 h.weight
  refine DCall.of Try.func129 sf129 hb129 (Nat.le_of_ble_eq_true rfl) (okRes_nil fun _ => rfl) ?_; simp only [s129, idxs, Nat.reduceAdd]
  repeat' (first
    | (with_reducible refine DW.seq ?_)
    | (with_reducible refine DW.block ?_)
    | (with_reducible refine DW.skip ?_)
    | (with_reducible refine DW.exit ?_)
    | (with_reducible refine DW.ret ?_)
    | (with_reducible refine DW.reg ?_)
    | (simp (disch := omega) only [go_sem, Nat.reduceLT, Nat.reduceLeDiff, Nat.reduceAdd, Nat.reduceMul, Nat.reduceEqDiff, ↓reduceIte, reduceCtorEq, Nat.reduceBEq, Nat.reduceBNe, Nat.reducePow, Int.reduceLE, Int.reduceLT, Int.reduceNeg, Int.reduceToNat, Int.reduceEq, Int.reduceAdd, Int.reduceSub, Int.reduceMul, Int.reduceBEq, Int.reduceBNe, Blk.men, Blk.keysIn, List.map_cons, List.map_nil])
    | (exact retS_of rfl rfl rfl)
    | (refine DW.cond_tt rfl ?_)
    | (refine call_c (h1) (by decide) ?_)
    | (refine call_c (h2) (by decide) ?_)
    | (refine DW.cond_ff rfl ?_)
    | (refine DW.cond rfl ?_ ?_ <;> intro hc <;> (try simp only [go_sem] at hc))
    | (refine g_split ?_ ?_ <;> intro hc <;> (try simp only [hc]) <;> (try simp only [go_sem] at hc)))
theorem crLIdx (b : Bool) (l : List Lod) (hl : l.length ≤ 2 ^ 36) (g : FuncId) (hp : ∀ x ∈ l, DCall Try.prog g [.agg ((eLd x).map D.c)] [] (bD false) []) : DCall Try.prog 157 [.c (.sl b 4 (rows eLd l)), .c (.fn (.func g) [] [])] [] (dI (-1)) [] := by
  refine DCall.of Try.func157 sf157 hb157 (Nat.le_of_ble_eq_true rfl) (okRes_nil fun _ => rfl) ?_; simp only [s157, idxs, Nat.reduceAdd]
  repeat' (first
    | (with_reducible refine DW.seq ?_)
    | (with_reducible refine DW.block ?_)
    | (with_reducible refine DW.skip ?_)
    | (with_reducible refine DW.exit ?_)
    | (with_reducible refine DW.ret ?_)
    | (with_reducible refine DW.reg ?_)
    | (simp (disch := omega) only [go_sem, Nat.reduceLT, Nat.reduceLeDiff, Nat.reduceAdd, Nat.reduceMul, Nat.reduceEqDiff, ↓reduceIte, reduceCtorEq, Nat.reduceBEq, Nat.reduceBNe, Nat.reducePow, Int.reduceLE, Int.reduceLT, Int.reduceNeg, Int.reduceToNat, Int.reduceEq, Int.reduceAdd, Int.reduceSub, Int.reduceMul, Int.reduceBEq, Int.reduceBNe, Blk.men, Blk.keysIn])
    | (exact retS_of rfl rfl rfl)
    | (refine DW.cond_tt rfl ?_)
    | (refine DW.cond_ff rfl ?_)
    | (refine DW.cond rfl ?_ ?_ <;> intro hc <;> (try simp only [go_sem] at hc))
    | (refine g_split ?_ ?_ <;> intro hc <;> (try simp only [hc]) <;> (try simp only [go_sem] at hc)))
  refine DW.loop (ι := { i : Nat // i ≤ l.length }) (fun i => ⟨19, [(8, dI i.1), (7, dI l.length), (1, .c (.fn (.func g) [] [])), (0, .c (.sl b 4 (rows eLd l)))], []⟩) (fun i => l.length - i.1) ⟨0, Nat.zero_le _⟩ ?_ ?_
  · refine Ent.to ?_ ?_ <;> simp (disch := omega) only [wkT_cons, wkX_cons, wkT_nil, wkX_nil, get, Nat.reduceEqDiff, ↓reduceIte, ex_some, wk_self, wk_top, wk_nil, wkB_self, and_self, dI, i64_in, and_true, true_and, Int.natCast_add, Int.natCast_one, Int.ofNat_zero, Int.natCast_zero]
  rintro ⟨i, hi⟩
  rcases at_or l i hi with ⟨v, hv, hlt, hd⟩ | ⟨he, hd⟩
  · have hcall := hp v (List.mem_of_getElem? hv)
    repeat' (first
    | (with_reducible refine DW.seq ?_)
    | (with_reducible refine DW.block ?_)
    | (with_reducible refine DW.skip ?_)
    | (with_reducible refine DW.exit ?_)
    | (with_reducible refine DW.ret ?_)
    | (with_reducible refine DW.reg ?_)
    | (simp (disch := omega) only [go_sem, Nat.reduceLT, Nat.reduceLeDiff, Nat.reduceAdd, Nat.reduceMul, Nat.reduceEqDiff, ↓reduceIte, reduceCtorEq, Nat.reduceBEq, Nat.reduceBNe, Nat.reducePow, Int.reduceLE, Int.reduceLT, Int.reduceNeg, Int.reduceToNat, Int.reduceEq, Int.reduceAdd, Int.reduceSub, Int.reduceMul, Int.reduceBEq, Int.reduceBNe, Blk.men, Blk.keysIn, hd, hv, closeDs_fn, List.map_cons, List.map_nil])
    | (exact retS_of rfl rfl rfl)
    | (refine DW.cond_tt rfl ?_)
    | (refine DW.cond_ff rfl ?_)
    | (refine DW.cond rfl ?_ ?_ <;> intro hc <;> (try simp only [go_sem] at hc))
    | (refine g_split ?_ ?_ <;> intro hc <;> (try simp only [hc]) <;> (try simp only [go_sem] at hc)))
    refine call_c hcall (by decide) ?_
    simp (disch := omega) only [go_sem, Nat.reduceLT, Nat.reduceLeDiff, Nat.reduceAdd, Nat.reduceMul, Nat.reduceEqDiff, ↓reduceIte, reduceCtorEq, Nat.reduceBEq, Nat.reduceBNe, Nat.reducePow, Int.reduceLE, Int.reduceLT, Int.reduceNeg, Int.reduceToNat, Int.reduceEq, Int.reduceAdd, Int.reduceSub, Int.reduceMul, Int.reduceBEq, Int.reduceBNe, Blk.men, Blk.keysIn]
    repeat' (first
    | (with_reducible refine DW.seq ?_)
    | (with_reducible refine DW.block ?_)
    | (with_reducible refine DW.skip ?_)
    | (with_reducible refine DW.exit ?_)
    | (with_reducible refine DW.ret ?_)
    | (with_reducible refine DW.reg ?_)
    | (simp (disch := omega) only [go_sem, Nat.reduceLT, Nat.reduceLeDiff, Nat.reduceAdd, Nat.reduceMul, Nat.reduceEqDiff, ↓reduceIte, reduceCtorEq, Nat.reduceBEq, Nat.reduceBNe, Nat.reducePow, Int.reduceLE, Int.reduceLT, Int.reduceNeg, Int.reduceToNat, Int.reduceEq, Int.reduceAdd, Int.reduceSub, Int.reduceMul, Int.reduceBEq, Int.reduceBNe, Blk.men, Blk.keysIn])
    | (exact retS_of rfl rfl rfl)
    | (refine DW.cond_tt rfl ?_)
    | (refine DW.cond_ff rfl ?_)
    | (refine DW.cond rfl ?_ ?_ <;> intro hc <;> (try simp only [go_sem] at hc))
    | (refine g_split ?_ ?_ <;> intro hc <;> (try simp only [hc]) <;> (try simp only [go_sem] at hc)))
    refine ⟨⟨i + 1, hlt⟩, ?_, Ent.to ?_ ?_⟩ <;> first | (show _ < _; (try simp only); omega) | (simp (disch := omega) only [wkT_cons, wkX_cons, wkT_nil, wkX_nil, get, Nat.reduceEqDiff, ↓reduceIte, ex_some, wk_self, wk_top, wk_nil, wkB_self, and_self, dI, i64_in, and_true, true_and, Int.natCast_add, Int.natCast_one, Int.ofNat_zero, Int.natCast_zero])
  · repeat' (first
    | (with_reducible refine DW.seq ?_)
    | (with_reducible refine DW.block ?_)
    | (with_reducible refine DW.skip ?_)
    | (with_reducible refine DW.exit ?_)
    | (with_reducible refine DW.ret ?_)
    | (with_reducible refine DW.reg ?_)
    | (simp (disch := omega) only [go_sem, Nat.reduceLT, Nat.reduceLeDiff, Nat.reduceAdd, Nat.reduceMul, Nat.reduceEqDiff, ↓reduceIte, reduceCtorEq, Nat.reduceBEq, Nat.reduceBNe, Nat.reducePow, Int.reduceLE, Int.reduceLT, Int.reduceNeg, Int.reduceToNat, Int.reduceEq, Int.reduceAdd, Int.reduceSub, Int.reduceMul, Int.reduceBEq, Int.reduceBNe, Blk.men, Blk.keysIn, hd])
    | (exact retS_of rfl rfl rfl)
    | (refine DW.cond_tt rfl ?_)
    | (refine DW.cond_ff rfl ?_)
    | (refine DW.cond rfl ?_ ?_ <;> intro hc <;> (try simp only [go_sem] at hc))
    | (refine g_split ?_ ?_ <;> intro hc <;> (try simp only [hc]) <;> (try simp only [go_sem] at hc)))
theorem crLCon (b : Bool) (l : List Lod) (hl : l.length ≤ 2 ^ 36) (g : FuncId) (hp : ∀ x ∈ l, DCall Try.prog g [.agg ((eLd x).map D.c)] [] (bD false) []) : DCall Try.prog 130 [.c (.sl b 4 (rows eLd l)), .c (.fn (.func g) [] [])] [] (bD false) [] := by
  refine DCall.of Try.func130 sf130 hb130 (Nat.le_of_ble_eq_true rfl) (okRes_nil fun _ => rfl) ?_; simp only [s130, idxs, Nat.reduceAdd]
  repeat' (first
    | (with_reducible refine DW.seq ?_)
    | (with_reducible refine DW.block ?_)
    | (with_reducible refine DW.skip ?_)
    | (with_reducible refine DW.exit ?_)
    | (with_reducible refine DW.ret ?_)
    | (with_reducible refine DW.reg ?_)
    | (simp (disch := omega) only [go_sem, Nat.reduceLT, Nat.reduceLeDiff, Nat.reduceAdd, Nat.reduceMul, Nat.reduceEqDiff, ↓reduceIte, reduceCtorEq, Nat.reduceBEq, Nat.reduceBNe, Nat.reducePow, Int.reduceLE, Int.reduceLT, Int.reduceNeg, Int.reduceToNat, Int.reduceEq, Int.reduceAdd, Int.reduceSub, Int.reduceMul, Int.reduceBEq, Int.reduceBNe, Blk.men, Blk.keysIn])
    | (exact retS_of rfl rfl rfl)
    | (refine DW.cond_tt rfl ?_)
    | (refine DW.cond_ff rfl ?_)
    | (refine DW.cond rfl ?_ ?_ <;> intro hc <;> (try simp only [go_sem] at hc))
    | (refine g_split ?_ ?_ <;> intro hc <;> (try simp only [hc]) <;> (try simp only [go_sem] at hc)))
  (refine call_c (crLIdx b l hl g hp) (by decide) ?_; simp (disch := omega) only [go_sem, Nat.reduceLT, Nat.reduceLeDiff, Nat.reduceAdd, Nat.reduceMul, Nat.reduceEqDiff, ↓reduceIte, reduceCtorEq, Nat.reduceBEq, Nat.reduceBNe, Nat.reducePow, Int.reduceLE, Int.reduceLT, Int.reduceNeg, Int.reduceToNat, Int.reduceEq, Int.reduceAdd, Int.reduceSub, Int.reduceMul, Int.reduceBEq, Int.reduceBNe, Blk.men, Blk.keysIn])
  repeat' (first
    | (with_reducible refine DW.seq ?_)
    | (with_reducible refine DW.block ?_)
    | (with_reducible refine DW.skip ?_)
    | (with_reducible refine DW.exit ?_)
    | (with_reducible refine DW.ret ?_)
    | (with_reducible refine DW.reg ?_)
    | (simp (disch := omega) only [go_sem, Nat.reduceLT, Nat.reduceLeDiff, Nat.reduceAdd, Nat.reduceMul, Nat.reduceEqDiff, ↓reduceIte, reduceCtorEq, Nat.reduceBEq, Nat.reduceBNe, Nat.reducePow, Int.reduceLE, Int.reduceLT, Int.reduceNeg, Int.reduceToNat, Int.reduceEq, Int.reduceAdd, Int.reduceSub, Int.reduceMul, Int.reduceBEq, Int.reduceBNe, Blk.men, Blk.keysIn])
    | (exact retS_of rfl rfl rfl)
    | (refine DW.cond_tt rfl ?_)
    | (refine DW.cond_ff rfl ?_)
    | (refine DW.cond rfl ?_ ?_ <;> intro hc <;> (try simp only [go_sem] at hc))
    | (refine g_split ?_ ?_ <;> intro hc <;> (try simp only [hc]) <;> (try simp only [go_sem] at hc)))
theorem crBoxes (b : Bool) (l : List Lod) (most : Int) (hl : l.length ≤ 1000) (hm : (l.length : Int) ≤ most) (h : ∀ x ∈ l, x.ok) : DCall Try.prog 94 [.c (.sl b 4 (rows eLd l)), dI most] [] (dI 0) [] := by
  have h1 := crLCon b l (by omega) 129 (fun x hx => crBox1 x (h x hx))
  have hd : decide (most < (l.length : Int)) = false := by rw [decide_eq_false_iff_not]; omega
  refine DCall.of Try.func94 sf94 hb94 (Nat.le_of_ble_eq_true rfl) (okRes_nil fun _ => rfl) ?_; simp only [s94, idxs, Nat.reduceAdd]
  repeat' (first
    | (with_reducible refine DW.seq ?_)
    | (with_reducible refine DW.block ?_)
    | (with_reducible refine DW.skip ?_)
    | (with_reducible refine DW.exit ?_)
    | (with_reducible refine DW.ret ?_)
    | (with_reducible refine DW.reg ?_)
    | (simp (disch := omega) only [go_sem, Nat.reduceLT, Nat.reduceLeDiff, Nat.reduceAdd, Nat.reduceMul, Nat.reduceEqDiff, ↓reduceIte, reduceCtorEq, Nat.reduceBEq, Nat.reduceBNe, Nat.reducePow, Int.reduceLE, Int.reduceLT, Int.reduceNeg, Int.reduceToNat, Int.reduceEq, Int.reduceAdd, Int.reduceSub, Int.reduceMul, Int.reduceBEq, Int.reduceBNe, Blk.men, Blk.keysIn, hd])
    | (exact retS_of rfl rfl rfl)
    | (refine DW.cond_tt rfl ?_)
    | (refine call_c (h1) (by decide) ?_)
    | (refine DW.cond_ff rfl ?_)
    | (refine DW.cond rfl ?_ ?_ <;> intro hc <;> (try simp only [go_sem] at hc))
    | (refine g_split ?_ ?_ <;> intro hc <;> (try simp only [hc]) <;> (try simp only [go_sem] at hc)))
structure TabOk (l : List (Int × Int)) (days : Int) : Prop where
  len : 1 ≤ l.length ∧ l.length ≤ 10
  first : ∀ u, l[0]? = some u → u.1 = 0
  mem : ∀ s ∈ l, (0 ≤ s.1 ∧ s.1 ≤ 10000) ∧ (0 ≤ s.2 ∧ s.2 ≤ 1000)
  step : ∀ (i : Nat) (u v : Int × Int), l[i]? = some u → l[i + 1]? = some v → u.1 < v.1 ∧ v.2 ≤ u.2
  days : 0 ≤ days ∧ days ≤ 10000
theorem crTable (l : List (Int × Int)) (days : Int) (h : TabOk l days) : DCall Try.prog 95 [.c (.sl false 2 (rows eK l)), dI days] [] (.tup [.agg [.c (.sl false 2 (rows eK l)), dI days], dI 0]) [] := by
  have hlen := h.len
  have h1 := crIn true 1 10 [(l.length : Int)] (by simp) (by simp; omega)
  have h2 := crIn true 0 10000 [days] (by simp) (by simpa using h.days)
  obtain ⟨f, hf⟩ := getE (l := l) (i := 0) (by omega)
  have hf0 := h.first f hf
  have hfe : (f.1 != 0) = false := by rw [hf0]; rfl
  refine DCall.of Try.func95 sf95 hb95 (Nat.le_of_ble_eq_true rfl) (okRes_nil fun _ => rfl) ?_; simp only [s95, idxs, Nat.reduceAdd]
  repeat' (first
    | (with_reducible refine DW.seq ?_)
    | (with_reducible refine DW.block ?_)
    | (with_reducible refine DW.skip ?_)
    | (with_reducible refine DW.exit ?_)
    | (with_reducible refine DW.ret ?_)
    | (with_reducible refine DW.reg ?_)
    | (refine DW.dreg rfl (WF.of (by first | rfl | simp (disch := omega) only [go_sem, Nat.reduceLT, Nat.reduceLeDiff, Nat.reduceAdd, Nat.reduceMul, Nat.reduceEqDiff, ↓reduceIte, reduceCtorEq, Nat.reduceBEq, Nat.reduceBNe, Nat.reducePow, Int.reduceLE, Int.reduceLT, Int.reduceNeg, Int.reduceToNat, Int.reduceEq, Int.reduceAdd, Int.reduceSub, Int.reduceMul, Int.reduceBEq, Int.reduceBNe, Blk.men, Blk.keysIn, hf, hfe, List.map_cons, List.map_nil])) ?_)
    | (simp (disch := omega) only [go_sem, Nat.reduceLT, Nat.reduceLeDiff, Nat.reduceAdd, Nat.reduceMul, Nat.reduceEqDiff, ↓reduceIte, reduceCtorEq, Nat.reduceBEq, Nat.reduceBNe, Nat.reducePow, Int.reduceLE, Int.reduceLT, Int.reduceNeg, Int.reduceToNat, Int.reduceEq, Int.reduceAdd, Int.reduceSub, Int.reduceMul, Int.reduceBEq, Int.reduceBNe, Blk.men, Blk.keysIn, hf, hfe, List.map_cons, List.map_nil])
    | (exact retS_of rfl rfl rfl)
    | (refine DW.cond_tt rfl ?_)
    | (refine call_c (h1) (by decide) ?_)
    | (refine DW.cond_ff rfl ?_)
    | (refine DW.cond rfl ?_ ?_ <;> intro hc <;> (try simp only [go_sem] at hc))
    | (refine g_split ?_ ?_ <;> intro hc <;> (try simp only [hc]) <;> (try simp only [go_sem] at hc)))
  refine DW.loop (ι := { i : Nat // i ≤ l.length }) (fun i => ⟨76, [(23, dI i.1), (22, dI l.length), (21, .c (.sl false 2 (rows eK l))), (4, .box 4 0), (0, .c (.sl false 2 (rows eK l))), (1, dI days)], [(4, .box [.c (.v (.slice none 0 0)), dI 0])]⟩) (fun i => l.length - i.1) ⟨0, Nat.zero_le _⟩ ?_ ?_
  · refine Ent.to ?_ ?_ <;> simp (disch := omega) only [wkT_cons, wkX_cons, wkT_nil, wkX_nil, get, Nat.reduceEqDiff, ↓reduceIte, ex_some, wk_self, wk_top, wk_nil, wkB_self, and_self, dI, i64_in, and_true, true_and, Int.natCast_add, Int.natCast_one, Int.ofNat_zero, Int.natCast_zero]
  rintro ⟨i, hi⟩
  rcases at_or l i hi with ⟨v, hv, hlt, hd⟩ | ⟨he, hd⟩
  · have hm := h.mem v (List.mem_of_getElem? hv)
    have h3 := crIn true 0 10000 [v.1] (by simp) (by simpa using hm.1)
    have h4 := crIn true 0 1000 [v.2] (by simp) (by simpa using hm.2)
    rcases i with _ | i
    · have hd0 : decide ((0 : Int) < ((0 : Nat) : Int)) = false := by decide
      have hd' : decide ((0 : Int) < (l.length : Int)) = true := hd
      repeat' (first
    | (with_reducible refine DW.seq ?_)
    | (with_reducible refine DW.block ?_)
    | (with_reducible refine DW.skip ?_)
    | (with_reducible refine DW.exit ?_)
    | (with_reducible refine DW.ret ?_)
    | (with_reducible refine DW.reg ?_)
    | (refine DW.dreg rfl (WF.of (by first | rfl | simp (disch := omega) only [go_sem, Nat.reduceLT, Nat.reduceLeDiff, Nat.reduceAdd, Nat.reduceMul, Nat.reduceEqDiff, ↓reduceIte, reduceCtorEq, Nat.reduceBEq, Nat.reduceBNe, Nat.reducePow, Int.reduceLE, Int.reduceLT, Int.reduceNeg, Int.reduceToNat, Int.reduceEq, Int.reduceAdd, Int.reduceSub, Int.reduceMul, Int.reduceBEq, Int.reduceBNe, Blk.men, Blk.keysIn, hd', hv, hd0, List.map_cons, List.map_nil])) ?_)
    | (simp (disch := omega) only [go_sem, Nat.reduceLT, Nat.reduceLeDiff, Nat.reduceAdd, Nat.reduceMul, Nat.reduceEqDiff, ↓reduceIte, reduceCtorEq, Nat.reduceBEq, Nat.reduceBNe, Nat.reducePow, Int.reduceLE, Int.reduceLT, Int.reduceNeg, Int.reduceToNat, Int.reduceEq, Int.reduceAdd, Int.reduceSub, Int.reduceMul, Int.reduceBEq, Int.reduceBNe, Blk.men, Blk.keysIn, hd', hv, hd0, List.map_cons, List.map_nil])
    | (exact retS_of rfl rfl rfl)
    | (refine DW.cond_tt rfl ?_)
    | (refine call_c (h3) (by decide) ?_)
    | (refine call_c (h4) (by decide) ?_)
    | (refine DW.cond_ff rfl ?_)
    | (refine DW.cond rfl ?_ ?_ <;> intro hc <;> (try simp only [go_sem] at hc))
    | (refine g_split ?_ ?_ <;> intro hc <;> (try simp only [hc]) <;> (try simp only [go_sem] at hc)))
      refine ⟨⟨1, hlt⟩, ?_, Ent.to ?_ ?_⟩ <;> first | (show _ < _; (try simp only); omega) | (simp (disch := omega) only [wkT_cons, wkX_cons, wkT_nil, wkX_nil, get, Nat.reduceEqDiff, ↓reduceIte, ex_some, wk_self, wk_top, wk_nil, wkB_self, and_self, dI, i64_in, and_true, true_and, Int.natCast_add, Int.natCast_one, Int.ofNat_zero, Int.natCast_zero])
    · have hd0 : decide ((0 : Int) < ((i + 1 : Nat) : Int)) = true := by rw [decide_eq_true_eq]; omega
      obtain ⟨u, hu⟩ := getE (l := l) (i := i) (by omega)
      have hs := h.step i u v hu hv
      have e1 : ((i + 1 : Nat) : Int) - 1 = (i : Int) := by omega
      have d1 : decide (v.1 ≤ u.1) = false := by rw [decide_eq_false_iff_not]; omega
      have d2 : decide (u.2 < v.2) = false := by rw [decide_eq_false_iff_not]; omega
      repeat' (first
    | (with_reducible refine DW.seq ?_)
    | (with_reducible refine DW.block ?_)
    | (with_reducible refine DW.skip ?_)
    | (with_reducible refine DW.exit ?_)
    | (with_reducible refine DW.ret ?_)
    | (with_reducible refine DW.reg ?_)
    | (refine DW.dreg rfl (WF.of (by first | rfl | simp (disch := omega) only [go_sem, Nat.reduceLT, Nat.reduceLeDiff, Nat.reduceAdd, Nat.reduceMul, Nat.reduceEqDiff, ↓reduceIte, reduceCtorEq, Nat.reduceBEq, Nat.reduceBNe, Nat.reducePow, Int.reduceLE, Int.reduceLT, Int.reduceNeg, Int.reduceToNat, Int.reduceEq, Int.reduceAdd, Int.reduceSub, Int.reduceMul, Int.reduceBEq, Int.reduceBNe, Blk.men, Blk.keysIn, hd, hv, hd0, hu, e1, d1, d2, List.map_cons, List.map_nil])) ?_)
    | (simp (disch := omega) only [go_sem, Nat.reduceLT, Nat.reduceLeDiff, Nat.reduceAdd, Nat.reduceMul, Nat.reduceEqDiff, ↓reduceIte, reduceCtorEq, Nat.reduceBEq, Nat.reduceBNe, Nat.reducePow, Int.reduceLE, Int.reduceLT, Int.reduceNeg, Int.reduceToNat, Int.reduceEq, Int.reduceAdd, Int.reduceSub, Int.reduceMul, Int.reduceBEq, Int.reduceBNe, Blk.men, Blk.keysIn, hd, hv, hd0, hu, e1, d1, d2, List.map_cons, List.map_nil])
    | (exact retS_of rfl rfl rfl)
    | (refine DW.cond_tt rfl ?_)
    | (refine call_c (h3) (by decide) ?_)
    | (refine call_c (h4) (by decide) ?_)
    | (refine DW.cond_ff rfl ?_)
    | (refine DW.cond rfl ?_ ?_ <;> intro hc <;> (try simp only [go_sem] at hc))
    | (refine g_split ?_ ?_ <;> intro hc <;> (try simp only [hc]) <;> (try simp only [go_sem] at hc)))
      refine ⟨⟨i + 1 + 1, hlt⟩, ?_, Ent.to ?_ ?_⟩ <;> first | (show _ < _; (try simp only); omega) | (simp (disch := omega) only [wkT_cons, wkX_cons, wkT_nil, wkX_nil, get, Nat.reduceEqDiff, ↓reduceIte, ex_some, wk_self, wk_top, wk_nil, wkB_self, and_self, dI, i64_in, and_true, true_and, Int.natCast_add, Int.natCast_one, Int.ofNat_zero, Int.natCast_zero])
  · repeat' (first
    | (with_reducible refine DW.seq ?_)
    | (with_reducible refine DW.block ?_)
    | (with_reducible refine DW.skip ?_)
    | (with_reducible refine DW.exit ?_)
    | (with_reducible refine DW.ret ?_)
    | (with_reducible refine DW.reg ?_)
    | (refine DW.dreg rfl (WF.of (by first | rfl | simp (disch := omega) only [go_sem, Nat.reduceLT, Nat.reduceLeDiff, Nat.reduceAdd, Nat.reduceMul, Nat.reduceEqDiff, ↓reduceIte, reduceCtorEq, Nat.reduceBEq, Nat.reduceBNe, Nat.reducePow, Int.reduceLE, Int.reduceLT, Int.reduceNeg, Int.reduceToNat, Int.reduceEq, Int.reduceAdd, Int.reduceSub, Int.reduceMul, Int.reduceBEq, Int.reduceBNe, Blk.men, Blk.keysIn, hd])) ?_)
    | (simp (disch := omega) only [go_sem, Nat.reduceLT, Nat.reduceLeDiff, Nat.reduceAdd, Nat.reduceMul, Nat.reduceEqDiff, ↓reduceIte, reduceCtorEq, Nat.reduceBEq, Nat.reduceBNe, Nat.reducePow, Int.reduceLE, Int.reduceLT, Int.reduceNeg, Int.reduceToNat, Int.reduceEq, Int.reduceAdd, Int.reduceSub, Int.reduceMul, Int.reduceBEq, Int.reduceBNe, Blk.men, Blk.keysIn, hd])
    | (exact retS_of rfl rfl rfl)
    | (refine DW.cond_tt rfl ?_)
    | (refine call_c (h2) (by decide) ?_)
    | (refine DW.cond_ff rfl ?_)
    | (refine DW.cond rfl ?_ ?_ <;> intro hc <;> (try simp only [go_sem] at hc))
    | (refine g_split ?_ ?_ <;> intro hc <;> (try simp only [hc]) <;> (try simp only [go_sem] at hc)))
    refine retS_wk rfl ?_ (by simp only [Blk.nb, rowC_nb, D.nb, D.nbs, C.nb, C.nbs, C.nbss, rows_nb eI_nb, rows_nb eC_nb, rows_nb eL_nb, rows_nb eR_nb, rows_nb eS_nb, rows_nb eG_nb, Bool.and_true, Bool.not_false, Bool.and_self, bD, dI, iD, rows_nb eP_nb, rows_nb eF_nb, rows_nb eK_nb, rows_nb eLd_nb]); exact .tup (.cons (.refl _) (.cons (.refl _) .nil))
def lastI (days : Int) (l : List (Int × Int)) (k : Int) : Int := l.foldl (fun k s => if s.1 ≤ days then s.2 else k) k
theorem lastI_b (days : Int) : ∀ (l : List (Int × Int)) (k : Int), (∀ s ∈ l, 0 ≤ s.2 ∧ s.2 ≤ 1000) → (0 ≤ k ∧ k ≤ 1000) → 0 ≤ lastI days l k ∧ lastI days l k ≤ 1000
  | [], _, _, hk => hk
  | s :: t, k, h, hk => by
    refine lastI_b days t _ (fun x hx => h x (by simp [hx])) ?_
    have := h s (by simp)
    show 0 ≤ (if s.1 ≤ days then s.2 else k) ∧ (if s.1 ≤ days then s.2 else k) ≤ 1000
    split <;> omega
theorem lastI_take (days : Int) {l : List (Int × Int)} {i : Nat} {v : Int × Int} (hv : l[i]? = some v) : lastI days (l.take (i + 1)) 0 = if v.1 ≤ days then v.2 else lastI days (l.take i) 0 := by
  rw [List.take_add_one, hv]
  simp only [lastI, Option.toList_some, List.foldl_append, List.foldl_cons, List.foldl_nil]
theorem crLast (l : List (Int × Int)) (days : Int) (hl : l.length ≤ 1000) : DCall Try.prog 97 [.agg [.c (.sl false 2 (rows eK l)), dI days]] [] (dI (lastI days l 0)) [] := by
  refine DCall.of Try.func97 sf97 hb97 (Nat.le_of_ble_eq_true rfl) (okRes_nil fun _ => rfl) ?_; simp only [s97, idxs, Nat.reduceAdd]
  repeat' (first
    | (with_reducible refine DW.seq ?_)
    | (with_reducible refine DW.block ?_)
    | (with_reducible refine DW.skip ?_)
    | (with_reducible refine DW.exit ?_)
    | (with_reducible refine DW.ret ?_)
    | (with_reducible refine DW.reg ?_)
    | (simp (disch := omega) only [go_sem, Nat.reduceLT, Nat.reduceLeDiff, Nat.reduceAdd, Nat.reduceMul, Nat.reduceEqDiff, ↓reduceIte, reduceCtorEq, Nat.reduceBEq, Nat.reduceBNe, Nat.reducePow, Int.reduceLE, Int.reduceLT, Int.reduceNeg, Int.reduceToNat, Int.reduceEq, Int.reduceAdd, Int.reduceSub, Int.reduceMul, Int.reduceBEq, Int.reduceBNe, Blk.men, Blk.keysIn])
    | (exact retS_of rfl rfl rfl)
    | (refine DW.cond_tt rfl ?_)
    | (refine DW.cond_ff rfl ?_)
    | (refine DW.cond rfl ?_ ?_ <;> intro hc <;> (try simp only [go_sem] at hc))
    | (refine g_split ?_ ?_ <;> intro hc <;> (try simp only [hc]) <;> (try simp only [go_sem] at hc)))
  refine DW.loop (ι := { i : Nat // i ≤ l.length }) (fun i => ⟨21, [(8, dI i.1), (7, dI l.length), (6, .c (.sl false 2 (rows eK l))), (2, dI (lastI days (l.take i.1) 0)), (1, .box 1 0)], [(1, .box [.c (.sl false 2 (rows eK l)), dI days])]⟩) (fun i => l.length - i.1) ⟨0, Nat.zero_le _⟩ ?_ ?_
  · refine Ent.to ?_ ?_ <;> simp (disch := omega) only [wkT_cons, wkX_cons, wkT_nil, wkX_nil, get, Nat.reduceEqDiff, ↓reduceIte, ex_some, wk_self, wk_top, wk_nil, wkB_self, and_self, dI, i64_in, and_true, true_and, Int.natCast_add, Int.natCast_one, Int.ofNat_zero, Int.natCast_zero, lastI, List.take_zero, List.foldl_nil]
  rintro ⟨i, hi⟩
  rcases at_or l i hi with ⟨v, hv, hlt, hd⟩ | ⟨he, hd⟩
  · have hnx := lastI_take days hv
    cases hc : decide (v.1 ≤ days) with
    | true =>
      rw [if_pos (of_decide_eq_true hc)] at hnx
      repeat' (first
    | (with_reducible refine DW.seq ?_)
    | (with_reducible refine DW.block ?_)
    | (with_reducible refine DW.skip ?_)
    | (with_reducible refine DW.exit ?_)
    | (with_reducible refine DW.ret ?_)
    | (with_reducible refine DW.reg ?_)
    | (simp (disch := omega) only [go_sem, Nat.reduceLT, Nat.reduceLeDiff, Nat.reduceAdd, Nat.reduceMul, Nat.reduceEqDiff, ↓reduceIte, reduceCtorEq, Nat.reduceBEq, Nat.reduceBNe, Nat.reducePow, Int.reduceLE, Int.reduceLT, Int.reduceNeg, Int.reduceToNat, Int.reduceEq, Int.reduceAdd, Int.reduceSub, Int.reduceMul, Int.reduceBEq, Int.reduceBNe, Blk.men, Blk.keysIn, hd, hv, hc, List.map_cons, List.map_nil])
    | (exact retS_of rfl rfl rfl)
    | (refine DW.cond_tt rfl ?_)
    | (refine DW.cond_ff rfl ?_)
    | (refine DW.cond rfl ?_ ?_ <;> intro hc <;> (try simp only [go_sem] at hc))
    | (refine g_split ?_ ?_ <;> intro hc <;> (try simp only [hc]) <;> (try simp only [go_sem] at hc)))
      refine ⟨⟨i + 1, hlt⟩, ?_, Ent.to ?_ ?_⟩ <;> first | (show _ < _; (try simp only); omega) | (simp (disch := omega) only [wkT_cons, wkX_cons, wkT_nil, wkX_nil, get, Nat.reduceEqDiff, ↓reduceIte, ex_some, wk_self, wk_top, wk_nil, wkB_self, and_self, dI, i64_in, and_true, true_and, Int.natCast_add, Int.natCast_one, Int.ofNat_zero, Int.natCast_zero,  hnx])
    | false =>
      rw [if_neg (of_decide_eq_false hc)] at hnx
      repeat' (first
    | (with_reducible refine DW.seq ?_)
    | (with_reducible refine DW.block ?_)
    | (with_reducible refine DW.skip ?_)
    | (with_reducible refine DW.exit ?_)
    | (with_reducible refine DW.ret ?_)
    | (with_reducible refine DW.reg ?_)
    | (simp (disch := omega) only [go_sem, Nat.reduceLT, Nat.reduceLeDiff, Nat.reduceAdd, Nat.reduceMul, Nat.reduceEqDiff, ↓reduceIte, reduceCtorEq, Nat.reduceBEq, Nat.reduceBNe, Nat.reducePow, Int.reduceLE, Int.reduceLT, Int.reduceNeg, Int.reduceToNat, Int.reduceEq, Int.reduceAdd, Int.reduceSub, Int.reduceMul, Int.reduceBEq, Int.reduceBNe, Blk.men, Blk.keysIn, hd, hv, hc, List.map_cons, List.map_nil])
    | (exact retS_of rfl rfl rfl)
    | (refine DW.cond_tt rfl ?_)
    | (refine DW.cond_ff rfl ?_)
    | (refine DW.cond rfl ?_ ?_ <;> intro hc <;> (try simp only [go_sem] at hc))
    | (refine g_split ?_ ?_ <;> intro hc <;> (try simp only [hc]) <;> (try simp only [go_sem] at hc)))
      refine ⟨⟨i + 1, hlt⟩, ?_, Ent.to ?_ ?_⟩ <;> first | (show _ < _; (try simp only); omega) | (simp (disch := omega) only [wkT_cons, wkX_cons, wkT_nil, wkX_nil, get, Nat.reduceEqDiff, ↓reduceIte, ex_some, wk_self, wk_top, wk_nil, wkB_self, and_self, dI, i64_in, and_true, true_and, Int.natCast_add, Int.natCast_one, Int.ofNat_zero, Int.natCast_zero,  hnx])
  · repeat' (first
    | (with_reducible refine DW.seq ?_)
    | (with_reducible refine DW.block ?_)
    | (with_reducible refine DW.skip ?_)
    | (with_reducible refine DW.exit ?_)
    | (with_reducible refine DW.ret ?_)
    | (with_reducible refine DW.reg ?_)
    | (simp (disch := omega) only [go_sem, Nat.reduceLT, Nat.reduceLeDiff, Nat.reduceAdd, Nat.reduceMul, Nat.reduceEqDiff, ↓reduceIte, reduceCtorEq, Nat.reduceBEq, Nat.reduceBNe, Nat.reducePow, Int.reduceLE, Int.reduceLT, Int.reduceNeg, Int.reduceToNat, Int.reduceEq, Int.reduceAdd, Int.reduceSub, Int.reduceMul, Int.reduceBEq, Int.reduceBNe, Blk.men, Blk.keysIn, hd])
    | (exact retS_of rfl rfl rfl)
    | (refine DW.cond_tt rfl ?_)
    | (refine DW.cond_ff rfl ?_)
    | (refine DW.cond rfl ?_ ?_ <;> intro hc <;> (try simp only [go_sem] at hc))
    | (refine g_split ?_ ?_ <;> intro hc <;> (try simp only [hc]) <;> (try simp only [go_sem] at hc)))
    refine retS_of rfl ?_ rfl; simp only [oneD, St.op, get, Nat.reduceEqDiff, ↓reduceIte, Option.getD_some, bD, dI]
    rw [he, List.take_length]
def bearsI (b : Lod) (k : Int) : Int := (b.sl * k).tdiv 1000
theorem crBears (b : Lod) (h : b.ok) (k : Int) (hk : 0 ≤ k ∧ k ≤ 1000) : DCall Try.prog 96 [.agg ((eLd b).map D.c), dI k] [] (dI (bearsI b k)) [] := by
  have hs := h.strong
  have hm := mulB0 (a := b.sl) (b := k) (A := 20000000) (B := 1000) (by omega) hk
  have hq := tdiv_b (b := 1000) (A := 20000000000) (a := b.sl * k) (by omega) (by decide)
  unfold bearsI
  refine DCall.of Try.func96 sf96 hb96 (Nat.le_of_ble_eq_true rfl) (okRes_nil fun _ => rfl) ?_; simp only [s96, idxs, Nat.reduceAdd]
  repeat' (first
    | (with_reducible refine DW.seq ?_)
    | (with_reducible refine DW.block ?_)
    | (with_reducible refine DW.skip ?_)
    | (with_reducible refine DW.exit ?_)
    | (with_reducible refine DW.ret ?_)
    | (with_reducible refine DW.reg ?_)
    | (simp (disch := omega) only [go_sem, Nat.reduceLT, Nat.reduceLeDiff, Nat.reduceAdd, Nat.reduceMul, Nat.reduceEqDiff, ↓reduceIte, reduceCtorEq, Nat.reduceBEq, Nat.reduceBNe, Nat.reducePow, Int.reduceLE, Int.reduceLT, Int.reduceNeg, Int.reduceToNat, Int.reduceEq, Int.reduceAdd, Int.reduceSub, Int.reduceMul, Int.reduceBEq, Int.reduceBNe, Blk.men, Blk.keysIn, List.map_cons, List.map_nil])
    | (exact retS_of rfl rfl rfl)
    | (refine DW.cond_tt rfl ?_)
    | (refine DW.cond_ff rfl ?_)
    | (refine DW.cond rfl ?_ ?_ <;> intro hc <;> (try simp only [go_sem] at hc))
    | (refine g_split ?_ ?_ <;> intro hc <;> (try simp only [hc]) <;> (try simp only [go_sem] at hc)))
def highI (b : Lod) (l : List (Int × Int)) (days : Int) : Int := if b.wh = 0 then 50 else if 1 + (bearsI b (lastI days l 0)).tdiv b.wh < 50 then 1 + (bearsI b (lastI days l 0)).tdiv b.wh else 50
theorem crHigh (b : Lod) (h : b.ok) (l : List (Int × Int)) (days : Int) (ht : TabOk l days) : DCall Try.prog 56 [.agg ((eLd b).map D.c), .c (.sl false 2 (rows eK l)), dI days] [] (.tup [dI (highI b l days), dI 0]) [] := by
  have h1 := crBoxes true [b] 1 (by simp) (by simp) (by simpa using h)
  have h2 := crTable l days ht
  have h3 := crLast l days (by have := ht.len; omega)
  have hk := lastI_b days l 0 (fun s hs => (ht.mem s hs).2) (by decide)
  have h4 := crBears b h (lastI days l 0) hk
  have hs := h.strong
  have hw := h.weight
  unfold highI
  have hbb : 0 ≤ bearsI b (lastI days l 0) ∧ bearsI b (lastI days l 0) ≤ 20000000000 := by
    have hm := mulB0 (a := b.sl) (b := lastI days l 0) (A := 20000000) (B := 1000) (by omega) hk
    exact tdiv_b (by omega) (by decide)
  generalize lastI days l 0 = k at *
  generalize bearsI b k = be at *
  by_cases h0 : b.wh = 0
  · have he : (b.wh == 0) = true := by rw [h0]; rfl
    rw [if_pos h0]
    refine DCall.of Try.func56 sf56 hb56 (Nat.le_of_ble_eq_true rfl) (okRes_nil fun _ => rfl) ?_; simp only [s56, idxs, Nat.reduceAdd]
    repeat' (first
    | (with_reducible refine DW.seq ?_)
    | (with_reducible refine DW.block ?_)
    | (with_reducible refine DW.skip ?_)
    | (with_reducible refine DW.exit ?_)
    | (with_reducible refine DW.ret ?_)
    | (with_reducible refine DW.reg ?_)
    | (refine DW.dreg rfl (WF.of (by first | rfl | simp (disch := omega) only [go_sem, Nat.reduceLT, Nat.reduceLeDiff, Nat.reduceAdd, Nat.reduceMul, Nat.reduceEqDiff, ↓reduceIte, reduceCtorEq, Nat.reduceBEq, Nat.reduceBNe, Nat.reducePow, Int.reduceLE, Int.reduceLT, Int.reduceNeg, Int.reduceToNat, Int.reduceEq, Int.reduceAdd, Int.reduceSub, Int.reduceMul, Int.reduceBEq, Int.reduceBNe, Blk.men, Blk.keysIn, List.map_cons, List.map_nil, he])) ?_)
    | (simp (disch := omega) only [go_sem, Nat.reduceLT, Nat.reduceLeDiff, Nat.reduceAdd, Nat.reduceMul, Nat.reduceEqDiff, ↓reduceIte, reduceCtorEq, Nat.reduceBEq, Nat.reduceBNe, Nat.reducePow, Int.reduceLE, Int.reduceLT, Int.reduceNeg, Int.reduceToNat, Int.reduceEq, Int.reduceAdd, Int.reduceSub, Int.reduceMul, Int.reduceBEq, Int.reduceBNe, Blk.men, Blk.keysIn, List.map_cons, List.map_nil, he])
    | (exact retS_of rfl rfl rfl)
    | (refine DW.cond_tt rfl ?_)
    | (refine call_c (h1) (by decide) ?_)
    | (refine call_c (h2) (by decide) ?_)
    | (refine DW.cond_ff rfl ?_)
    | (refine DW.cond rfl ?_ ?_ <;> intro hc <;> (try simp only [go_sem] at hc))
    | (refine g_split ?_ ?_ <;> intro hc <;> (try simp only [hc]) <;> (try simp only [go_sem] at hc)))
  · have he : (b.wh == 0) = false := by rw [beq_eq_false_iff_ne]; exact h0
    have hz : (b.wh = 0) = False := eq_false h0
    have hq := tdiv_b (b := b.wh) hbb (by omega)
    rw [if_neg h0]
    refine DCall.of Try.func56 sf56 hb56 (Nat.le_of_ble_eq_true rfl) (okRes_nil fun _ => rfl) ?_; simp only [s56, idxs, Nat.reduceAdd]
    repeat' (first
    | (with_reducible refine DW.seq ?_)
    | (with_reducible refine DW.block ?_)
    | (with_reducible refine DW.skip ?_)
    | (with_reducible refine DW.exit ?_)
    | (with_reducible refine DW.ret ?_)
    | (with_reducible refine DW.reg ?_)
    | (refine DW.dreg rfl (WF.of (by first | rfl | simp (disch := omega) only [go_sem, Nat.reduceLT, Nat.reduceLeDiff, Nat.reduceAdd, Nat.reduceMul, Nat.reduceEqDiff, ↓reduceIte, reduceCtorEq, Nat.reduceBEq, Nat.reduceBNe, Nat.reducePow, Int.reduceLE, Int.reduceLT, Int.reduceNeg, Int.reduceToNat, Int.reduceEq, Int.reduceAdd, Int.reduceSub, Int.reduceMul, Int.reduceBEq, Int.reduceBNe, Blk.men, Blk.keysIn, List.map_cons, List.map_nil, he, hz])) ?_)
    | (simp (disch := omega) only [go_sem, Nat.reduceLT, Nat.reduceLeDiff, Nat.reduceAdd, Nat.reduceMul, Nat.reduceEqDiff, ↓reduceIte, reduceCtorEq, Nat.reduceBEq, Nat.reduceBNe, Nat.reducePow, Int.reduceLE, Int.reduceLT, Int.reduceNeg, Int.reduceToNat, Int.reduceEq, Int.reduceAdd, Int.reduceSub, Int.reduceMul, Int.reduceBEq, Int.reduceBNe, Blk.men, Blk.keysIn, List.map_cons, List.map_nil, he, hz])
    | (exact retS_of rfl rfl rfl)
    | (refine DW.cond_tt rfl ?_)
    | (refine call_c (h1) (by decide) ?_)
    | (refine call_c (h2) (by decide) ?_)
    | (refine call_c (h3) (by decide) ?_)
    | (refine call_c (h4) (by decide) ?_)
    | (refine DW.cond_ff rfl ?_)
    | (refine DW.cond rfl ?_ ?_ <;> intro hc <;> (try simp only [go_sem] at hc))
    | (refine g_split ?_ ?_ <;> intro hc <;> (try simp only [hc]) <;> (try simp only [go_sem] at hc)))
theorem arSpan (a b : Int) : DCall Try.prog 22 [dI a, dI b] [] (.agg [dI a, dI b]) [] := by
  refine DCall.of Try.func22 sf22 hb22 (Nat.le_of_ble_eq_true rfl) (okRes_nil fun _ => rfl) ?_; simp only [s22, idxs, Nat.reduceAdd]
  repeat' (first
    | (with_reducible refine DW.seq ?_)
    | (with_reducible refine DW.block ?_)
    | (with_reducible refine DW.skip ?_)
    | (with_reducible refine DW.exit ?_)
    | (with_reducible refine DW.ret ?_)
    | (with_reducible refine DW.reg ?_)
    | (simp (disch := omega) only [go_sem, Nat.reduceLT, Nat.reduceLeDiff, Nat.reduceAdd, Nat.reduceMul, Nat.reduceEqDiff, ↓reduceIte, reduceCtorEq, Nat.reduceBEq, Nat.reduceBNe, Nat.reducePow, Int.reduceLE, Int.reduceLT, Int.reduceNeg, Int.reduceToNat, Int.reduceEq, Int.reduceAdd, Int.reduceSub, Int.reduceMul, Int.reduceBEq, Int.reduceBNe, Blk.men, Blk.keysIn])
    | (exact retS_of rfl rfl rfl)
    | (refine DW.cond_tt rfl ?_)
    | (refine DW.cond_ff rfl ?_)
    | (refine DW.cond rfl ?_ ?_ <;> intro hc <;> (try simp only [go_sem] at hc))
    | (refine g_split ?_ ?_ <;> intro hc <;> (try simp only [hc]) <;> (try simp only [go_sem] at hc)))
def exS : Sto := ⟨[⟨1, 200, 250, 270, 60, 80, 400000, 300⟩, ⟨2, 120, 180, 190, 70, 90, 300000, 200⟩], [⟨8000, 12000, 3600, 3700⟩]⟩
def exM : Mak := ⟨[0, 1, 0], [0]⟩
theorem exS_ok : exS.ok := by
  refine ⟨by decide, by decide, ?_, ?_⟩
  · intro p hp
    simp only [exS, List.mem_cons, List.not_mem_nil, or_false] at hp
    rcases hp with rfl | rfl <;> exact ⟨by decide, by decide, by decide, by decide, by decide, by decide⟩
  · intro p hp
    simp only [exS, List.mem_cons, List.not_mem_nil, or_false] at hp
    rcases hp with rfl
    exact ⟨by decide, by decide, by decide⟩
theorem exM_ok : exM.ok exS := by
  refine ⟨by decide, by decide, by decide, by decide, ?_⟩
  intro i n p h1 h2
  match i, h1 with
  | 0, h1 => cases h1; cases h2; rfl
  | 1, h1 => cases h1; cases h2; rfl
  | 2, h1 => cases h1; cases h2; rfl
  | i + 3, h1 => cases h1
theorem exB : moistI loE exS exM = 616 ∧ moistI hiE exS exM = 628 ∧ calI loE exS exM = 4100 ∧ calI hiE exS exM = 4240 ∧ strongI exS exM = 900 := ⟨by kernel_rfl, by kernel_rfl, by kernel_rfl, by kernel_rfl, by kernel_rfl⟩
theorem arBoard : DCall Try.prog 21 [] [] (bD true) [] := by
  have h1 := bdMeasure exS exM exS_ok exM_ok
  have h2 := bdStrength exS exM exS_ok exM_ok
  obtain ⟨e1, e2, e3, e4, e5⟩ := exB
  rw [e1, e2, e3, e4] at h1
  rw [e5] at h2
  have n1 : nL exM.papers = [0, 1, 0] := rfl
  have n2 : nL exM.flutes = [0] := rfl
  unfold dMak dSto at h1 h2
  rw [n1, n2] at h1 h2
  unfold exS at h1 h2
  have s1 := arSpan 250 270
  have s2 := arSpan 60 80
  have s3 := arSpan 180 190
  have s4 := arSpan 70 90
  have s5 := arSpan 3600 3700
  have s6 := arSpan 616 628
  have s7 := arSpan 4100 4240
  refine DCall.of Try.func21 sf21 hb21 (Nat.le_of_ble_eq_true rfl) (okRes_nil fun _ => rfl) ?_; simp only [s21, idxs, Nat.reduceAdd]
  refine DW.seq (DW.reg ?_)
  simp (disch := omega) only [go_sem, Nat.reduceLT, Nat.reduceLeDiff, Nat.reduceAdd, Nat.reduceMul, Nat.reduceEqDiff, ↓reduceIte, reduceCtorEq, Nat.reduceBEq, Nat.reduceBNe, Nat.reducePow, Int.reduceLE, Int.reduceLT, Int.reduceNeg, Int.reduceToNat, Int.reduceEq, Int.reduceAdd, Int.reduceSub, Int.reduceMul, Int.reduceBEq, Int.reduceBNe, Blk.men, Blk.keysIn]
  refine DW.seq (DW.reg ?_)
  simp (disch := omega) only [go_sem, Nat.reduceLT, Nat.reduceLeDiff, Nat.reduceAdd, Nat.reduceMul, Nat.reduceEqDiff, ↓reduceIte, reduceCtorEq, Nat.reduceBEq, Nat.reduceBNe, Nat.reducePow, Int.reduceLE, Int.reduceLT, Int.reduceNeg, Int.reduceToNat, Int.reduceEq, Int.reduceAdd, Int.reduceSub, Int.reduceMul, Int.reduceBEq, Int.reduceBNe, Blk.men, Blk.keysIn]
  (refine call_c (s1) (by decide) ?_; simp (disch := omega) only [go_sem, Nat.reduceLT, Nat.reduceLeDiff, Nat.reduceAdd, Nat.reduceMul, Nat.reduceEqDiff, ↓reduceIte, reduceCtorEq, Nat.reduceBEq, Nat.reduceBNe, Nat.reducePow, Int.reduceLE, Int.reduceLT, Int.reduceNeg, Int.reduceToNat, Int.reduceEq, Int.reduceAdd, Int.reduceSub, Int.reduceMul, Int.reduceBEq, Int.reduceBNe, Blk.men, Blk.keysIn])
  (refine call_c (s2) (by decide) ?_; simp (disch := omega) only [go_sem, Nat.reduceLT, Nat.reduceLeDiff, Nat.reduceAdd, Nat.reduceMul, Nat.reduceEqDiff, ↓reduceIte, reduceCtorEq, Nat.reduceBEq, Nat.reduceBNe, Nat.reducePow, Int.reduceLE, Int.reduceLT, Int.reduceNeg, Int.reduceToNat, Int.reduceEq, Int.reduceAdd, Int.reduceSub, Int.reduceMul, Int.reduceBEq, Int.reduceBNe, Blk.men, Blk.keysIn])
  (refine call_c (s3) (by decide) ?_; simp (disch := omega) only [go_sem, Nat.reduceLT, Nat.reduceLeDiff, Nat.reduceAdd, Nat.reduceMul, Nat.reduceEqDiff, ↓reduceIte, reduceCtorEq, Nat.reduceBEq, Nat.reduceBNe, Nat.reducePow, Int.reduceLE, Int.reduceLT, Int.reduceNeg, Int.reduceToNat, Int.reduceEq, Int.reduceAdd, Int.reduceSub, Int.reduceMul, Int.reduceBEq, Int.reduceBNe, Blk.men, Blk.keysIn])
  (refine call_c (s4) (by decide) ?_; simp (disch := omega) only [go_sem, Nat.reduceLT, Nat.reduceLeDiff, Nat.reduceAdd, Nat.reduceMul, Nat.reduceEqDiff, ↓reduceIte, reduceCtorEq, Nat.reduceBEq, Nat.reduceBNe, Nat.reducePow, Int.reduceLE, Int.reduceLT, Int.reduceNeg, Int.reduceToNat, Int.reduceEq, Int.reduceAdd, Int.reduceSub, Int.reduceMul, Int.reduceBEq, Int.reduceBNe, Blk.men, Blk.keysIn])
  (refine call_c (s5) (by decide) ?_; simp (disch := omega) only [go_sem, Nat.reduceLT, Nat.reduceLeDiff, Nat.reduceAdd, Nat.reduceMul, Nat.reduceEqDiff, ↓reduceIte, reduceCtorEq, Nat.reduceBEq, Nat.reduceBNe, Nat.reducePow, Int.reduceLE, Int.reduceLT, Int.reduceNeg, Int.reduceToNat, Int.reduceEq, Int.reduceAdd, Int.reduceSub, Int.reduceMul, Int.reduceBEq, Int.reduceBNe, Blk.men, Blk.keysIn])
  refine DW.seq (DW.reg ?_)
  simp (disch := omega) only [go_sem, Nat.reduceLT, Nat.reduceLeDiff, Nat.reduceAdd, Nat.reduceMul, Nat.reduceEqDiff, ↓reduceIte, reduceCtorEq, Nat.reduceBEq, Nat.reduceBNe, Nat.reducePow, Int.reduceLE, Int.reduceLT, Int.reduceNeg, Int.reduceToNat, Int.reduceEq, Int.reduceAdd, Int.reduceSub, Int.reduceMul, Int.reduceBEq, Int.reduceBNe, Blk.men, Blk.keysIn]
  (refine DW.ent (Ent.rel 20 rfl) ?_; simp (disch := omega) only [go_sem, Nat.reduceLT, Nat.reduceLeDiff, Nat.reduceAdd, Nat.reduceMul, Nat.reduceEqDiff, ↓reduceIte, reduceCtorEq, Nat.reduceBEq, Nat.reduceBNe, Nat.reducePow, Int.reduceLE, Int.reduceLT, Int.reduceNeg, Int.reduceToNat, Int.reduceEq, Int.reduceAdd, Int.reduceSub, Int.reduceMul, Int.reduceBEq, Int.reduceBNe, Blk.men, Blk.keysIn])
  (refine DW.ent (Ent.rel 19 rfl) ?_; simp (disch := omega) only [go_sem, Nat.reduceLT, Nat.reduceLeDiff, Nat.reduceAdd, Nat.reduceMul, Nat.reduceEqDiff, ↓reduceIte, reduceCtorEq, Nat.reduceBEq, Nat.reduceBNe, Nat.reducePow, Int.reduceLE, Int.reduceLT, Int.reduceNeg, Int.reduceToNat, Int.reduceEq, Int.reduceAdd, Int.reduceSub, Int.reduceMul, Int.reduceBEq, Int.reduceBNe, Blk.men, Blk.keysIn])
  (refine DW.ent (Ent.rel 17 rfl) ?_; simp (disch := omega) only [go_sem, Nat.reduceLT, Nat.reduceLeDiff, Nat.reduceAdd, Nat.reduceMul, Nat.reduceEqDiff, ↓reduceIte, reduceCtorEq, Nat.reduceBEq, Nat.reduceBNe, Nat.reducePow, Int.reduceLE, Int.reduceLT, Int.reduceNeg, Int.reduceToNat, Int.reduceEq, Int.reduceAdd, Int.reduceSub, Int.reduceMul, Int.reduceBEq, Int.reduceBNe, Blk.men, Blk.keysIn])
  (refine DW.ent (Ent.rel 14 rfl) ?_; simp (disch := omega) only [go_sem, Nat.reduceLT, Nat.reduceLeDiff, Nat.reduceAdd, Nat.reduceMul, Nat.reduceEqDiff, ↓reduceIte, reduceCtorEq, Nat.reduceBEq, Nat.reduceBNe, Nat.reducePow, Int.reduceLE, Int.reduceLT, Int.reduceNeg, Int.reduceToNat, Int.reduceEq, Int.reduceAdd, Int.reduceSub, Int.reduceMul, Int.reduceBEq, Int.reduceBNe, Blk.men, Blk.keysIn])
  repeat' (first
    | (with_reducible refine DW.seq ?_)
    | (with_reducible refine DW.block ?_)
    | (with_reducible refine DW.skip ?_)
    | (with_reducible refine DW.exit ?_)
    | (with_reducible refine DW.ret ?_)
    | (with_reducible refine DW.reg ?_)
    | (refine DW.dreg rfl (WF.of (by first | rfl | simp (disch := omega) only [go_sem, Nat.reduceLT, Nat.reduceLeDiff, Nat.reduceAdd, Nat.reduceMul, Nat.reduceEqDiff, ↓reduceIte, reduceCtorEq, Nat.reduceBEq, Nat.reduceBNe, Nat.reducePow, Int.reduceLE, Int.reduceLT, Int.reduceNeg, Int.reduceToNat, Int.reduceEq, Int.reduceAdd, Int.reduceSub, Int.reduceMul, Int.reduceBEq, Int.reduceBNe, Blk.men, Blk.keysIn])) ?_)
    | (simp (disch := omega) only [go_sem, Nat.reduceLT, Nat.reduceLeDiff, Nat.reduceAdd, Nat.reduceMul, Nat.reduceEqDiff, ↓reduceIte, reduceCtorEq, Nat.reduceBEq, Nat.reduceBNe, Nat.reducePow, Int.reduceLE, Int.reduceLT, Int.reduceNeg, Int.reduceToNat, Int.reduceEq, Int.reduceAdd, Int.reduceSub, Int.reduceMul, Int.reduceBEq, Int.reduceBNe, Blk.men, Blk.keysIn])
    | (exact retS_of rfl rfl rfl)
    | (refine DW.cond_tt rfl ?_)
    | (refine call_c (h1) (by decide) ?_)
    | (refine call_c (h2) (by decide) ?_)
    | (refine call_c (s6) (by decide) ?_)
    | (refine call_c (s7) (by decide) ?_)
    | (refine DW.cond_ff rfl ?_)
    | (refine DW.cond rfl ?_ ?_ <;> intro hc <;> (try simp only [go_sem] at hc))
    | (refine g_split ?_ ?_ <;> intro hc <;> (try simp only [hc]) <;> (try simp only [go_sem] at hc)))
theorem exK_ok : TabOk [(0, 1000), (10, 800), (30, 600)] 10 := by
  refine ⟨by decide, ?_, by decide, ?_, by decide⟩
  · intro u h; cases h; rfl
  · intro i u v h1 h2
    match i, h1, h2 with
    | 0, h1, h2 => cases h1; cases h2; decide
    | 1, h1, h2 => cases h1; cases h2; decide
    | 2, h1, h2 => cases h2
    | i + 3, h1, h2 => cases h1
theorem arCrush : DCall Try.prog 25 [] [] (bD true) [] := by
  have h1 := crStrength ⟨5000, 6000, 4000, 4200, 1600, 587⟩ ⟨by decide, by decide, by decide, by decide⟩ 2529 2592 ⟨by decide, by decide, by decide⟩ ⟨by decide, by decide, by decide⟩
  have h2 := crHigh ⟨300, 320, 100, 110⟩ ⟨by decide, by decide⟩ [(0, 1000), (10, 800), (30, 600)] 10 exK_ok
  have e1 : highI ⟨300, 320, 100, 110⟩ [(0, 1000), (10, 800), (30, 600)] 10 = 3 := by kernel_rfl
  rw [e1] at h2
  have q1 : ((5000 : Int) * 2529 * 587).tdiv 100000 = 74226 := by decide
  have q2 : ((6000 : Int) * 2592 * 587).tdiv 100000 = 91290 := by decide
  simp only [] at h1
  rw [q1, q2] at h1
  have s1 := arSpan 5000 6000
  have s2 := arSpan 4000 4200
  have s3 := arSpan 300 320
  have s4 := arSpan 100 110
  have s5 := arSpan 74226 91290
  refine DCall.of Try.func25 sf25 hb25 (Nat.le_of_ble_eq_true rfl) (okRes_nil fun _ => rfl) ?_; simp only [s25, idxs, Nat.reduceAdd]
  repeat' (first
    | (with_reducible refine DW.seq ?_)
    | (with_reducible refine DW.block ?_)
    | (with_reducible refine DW.skip ?_)
    | (with_reducible refine DW.exit ?_)
    | (with_reducible refine DW.ret ?_)
    | (with_reducible refine DW.reg ?_)
    | (refine DW.dreg rfl (WF.of (by first | rfl | simp (disch := omega) only [go_sem, Nat.reduceLT, Nat.reduceLeDiff, Nat.reduceAdd, Nat.reduceMul, Nat.reduceEqDiff, ↓reduceIte, reduceCtorEq, Nat.reduceBEq, Nat.reduceBNe, Nat.reducePow, Int.reduceLE, Int.reduceLT, Int.reduceNeg, Int.reduceToNat, Int.reduceEq, Int.reduceAdd, Int.reduceSub, Int.reduceMul, Int.reduceBEq, Int.reduceBNe, Blk.men, Blk.keysIn])) ?_)
    | (simp (disch := omega) only [go_sem, Nat.reduceLT, Nat.reduceLeDiff, Nat.reduceAdd, Nat.reduceMul, Nat.reduceEqDiff, ↓reduceIte, reduceCtorEq, Nat.reduceBEq, Nat.reduceBNe, Nat.reducePow, Int.reduceLE, Int.reduceLT, Int.reduceNeg, Int.reduceToNat, Int.reduceEq, Int.reduceAdd, Int.reduceSub, Int.reduceMul, Int.reduceBEq, Int.reduceBNe, Blk.men, Blk.keysIn])
    | (exact retS_of rfl rfl rfl)
    | (refine DW.cond_tt rfl ?_)
    | (refine call_c (s1) (by decide) ?_)
    | (refine call_c (s2) (by decide) ?_)
    | (refine call_c (s3) (by decide) ?_)
    | (refine call_c (s4) (by decide) ?_)
    | (refine call_c (h1) (by decide) ?_)
    | (refine DW.cond_ff rfl ?_)
    | (refine DW.cond rfl ?_ ?_ <;> intro hc <;> (try simp only [go_sem] at hc))
    | (refine g_split ?_ ?_ <;> intro hc <;> (try simp only [hc]) <;> (try simp only [go_sem] at hc)))
  refine call_e (Ent.rel 19 rfl) h2 rfl rfl (by decide) ?_
  simp (disch := omega) only [go_sem, Nat.reduceLT, Nat.reduceLeDiff, Nat.reduceAdd, Nat.reduceMul, Nat.reduceEqDiff, ↓reduceIte, reduceCtorEq, Nat.reduceBEq, Nat.reduceBNe, Nat.reducePow, Int.reduceLE, Int.reduceLT, Int.reduceNeg, Int.reduceToNat, Int.reduceEq, Int.reduceAdd, Int.reduceSub, Int.reduceMul, Int.reduceBEq, Int.reduceBNe, Blk.men, Blk.keysIn]
  repeat' (first
    | (with_reducible refine DW.seq ?_)
    | (with_reducible refine DW.block ?_)
    | (with_reducible refine DW.skip ?_)
    | (with_reducible refine DW.exit ?_)
    | (with_reducible refine DW.ret ?_)
    | (with_reducible refine DW.reg ?_)
    | (refine DW.dreg rfl (WF.of (by first | rfl | simp (disch := omega) only [go_sem, Nat.reduceLT, Nat.reduceLeDiff, Nat.reduceAdd, Nat.reduceMul, Nat.reduceEqDiff, ↓reduceIte, reduceCtorEq, Nat.reduceBEq, Nat.reduceBNe, Nat.reducePow, Int.reduceLE, Int.reduceLT, Int.reduceNeg, Int.reduceToNat, Int.reduceEq, Int.reduceAdd, Int.reduceSub, Int.reduceMul, Int.reduceBEq, Int.reduceBNe, Blk.men, Blk.keysIn])) ?_)
    | (simp (disch := omega) only [go_sem, Nat.reduceLT, Nat.reduceLeDiff, Nat.reduceAdd, Nat.reduceMul, Nat.reduceEqDiff, ↓reduceIte, reduceCtorEq, Nat.reduceBEq, Nat.reduceBNe, Nat.reducePow, Int.reduceLE, Int.reduceLT, Int.reduceNeg, Int.reduceToNat, Int.reduceEq, Int.reduceAdd, Int.reduceSub, Int.reduceMul, Int.reduceBEq, Int.reduceBNe, Blk.men, Blk.keysIn])
    | (exact retS_of rfl rfl rfl)
    | (refine DW.cond_tt rfl ?_)
    | (refine call_c (s5) (by decide) ?_)
    | (refine DW.cond_ff rfl ?_)
    | (refine DW.cond rfl ?_ ?_ <;> intro hc <;> (try simp only [go_sem] at hc))
    | (refine g_split ?_ ?_ <;> intro hc <;> (try simp only [hc]) <;> (try simp only [go_sem] at hc)))
end Go.Dw.Seat
end
section
set_option linter.unusedSimpArgs false
set_option maxRecDepth 100000
namespace Go.Dw.Seat
open Go Go.Dw Go.Proofs Go.IntWalk
theorem ud5 : Try.prog.underlying 5 = some (.int .u8) := by kernel_rfl
abbrev d8 (n : Nat) : D := .c (.v (.int .u8 n))
def eY (v : Nat) : List C := [.v (.int .u8 v)]
theorem eY_nb (v : Nat) : C.nbs (eY v) = true := rfl
attribute [go_sem] ud5 d8 eY
theorem tmodN (m k : Nat) : (m : Int).tmod (k : Int) = ((m % k : Nat) : Int) := by
  rw [Int.tmod_eq_emod_of_nonneg (by omega)]; simp
theorem tdivN (m k : Nat) : (m : Int).tdiv (k : Int) = ((m / k : Nat) : Int) := by
  rw [Int.tdiv_eq_ediv_of_nonneg (by omega)]; simp
def byteI (l : List Nat) (i : Nat) : Nat := (l[i % l.length]?).getD 0
theorem arByte (b : Bool) (l : List Nat) (i : Nat) (hi : i ≤ 1000) (hl : ∀ v ∈ l, v < 256) : DCall Try.prog 33 [.c (.sl b 1 (rows eY l)), dI i] [] (dI (byteI l i)) [] := by
  by_cases h0 : l.length = 0
  · have he : ((l.length : Int) == 0) = true := by rw [h0]; rfl
    have hb : byteI l i = 0 := by
      have : l = [] := List.length_eq_zero_iff.1 h0
      subst this; rfl
    rw [hb]
    refine DCall.of Try.func33 sf33 hb33 (Nat.le_of_ble_eq_true rfl) (okRes_nil fun _ => rfl) ?_; simp only [s33, idxs, Nat.reduceAdd]
    repeat' (first
    | (with_reducible refine DW.seq ?_)
    | (with_reducible refine DW.block ?_)
    | (with_reducible refine DW.skip ?_)
    | (with_reducible refine DW.exit ?_)
    | (with_reducible refine DW.ret ?_)
    | (with_reducible refine DW.reg ?_)
    | (simp (disch := omega) only [go_sem, Nat.reduceLT, Nat.reduceLeDiff, Nat.reduceAdd, Nat.reduceMul, Nat.reduceEqDiff, ↓reduceIte, reduceCtorEq, Nat.reduceBEq, Nat.reduceBNe, Nat.reducePow, Int.reduceLE, Int.reduceLT, Int.reduceNeg, Int.reduceToNat, Int.reduceEq, Int.reduceAdd, Int.reduceSub, Int.reduceMul, Int.reduceBEq, Int.reduceBNe, Blk.men, Blk.keysIn, he])
    | (exact retS_of rfl rfl rfl)
    | (refine DW.cond_tt rfl ?_)
    | (refine DW.cond_ff rfl ?_)
    | (refine DW.cond rfl ?_ ?_ <;> intro hc <;> (try simp only [go_sem] at hc))
    | (refine g_split ?_ ?_ <;> intro hc <;> (try simp only [hc]) <;> (try simp only [go_sem] at hc)))
  · have he : ((l.length : Int) == 0) = false := by rw [beq_eq_false_iff_ne]; omega
    have hz : ((l.length : Int) = 0) = False := eq_false (by omega)
    have hr : (i : Int).tmod (l.length : Int) = ((i % l.length : Nat) : Int) := tmodN i l.length
    have hlt : i % l.length < l.length := Nat.mod_lt _ (by omega)
    have hv : l[i % l.length]? = some (byteI l i) := by
      rw [byteI, List.getElem?_eq_getElem hlt]; rfl
    have hv8 := hl _ (List.mem_of_getElem? hv)
    generalize byteI l i = v at *
    generalize i % l.length = j at *
    refine DCall.of Try.func33 sf33 hb33 (Nat.le_of_ble_eq_true rfl) (okRes_nil fun _ => rfl) ?_; simp only [s33, idxs, Nat.reduceAdd]
    repeat' (first
    | (with_reducible refine DW.seq ?_)
    | (with_reducible refine DW.block ?_)
    | (with_reducible refine DW.skip ?_)
    | (with_reducible refine DW.exit ?_)
    | (with_reducible refine DW.ret ?_)
    | (with_reducible refine DW.reg ?_)
    | (simp (disch := omega) only [go_sem, Nat.reduceLT, Nat.reduceLeDiff, Nat.reduceAdd, Nat.reduceMul, Nat.reduceEqDiff, ↓reduceIte, reduceCtorEq, Nat.reduceBEq, Nat.reduceBNe, Nat.reducePow, Int.reduceLE, Int.reduceLT, Int.reduceNeg, Int.reduceToNat, Int.reduceEq, Int.reduceAdd, Int.reduceSub, Int.reduceMul, Int.reduceBEq, Int.reduceBNe, Blk.men, Blk.keysIn, he, hz, hr, hv])
    | (exact retS_of rfl rfl rfl)
    | (refine DW.cond_tt rfl ?_)
    | (refine DW.cond_ff rfl ?_)
    | (refine DW.cond rfl ?_ ?_ <;> intro hc <;> (try simp only [go_sem] at hc))
    | (refine g_split ?_ ?_ <;> intro hc <;> (try simp only [hc]) <;> (try simp only [go_sem] at hc)))
end Go.Dw.Seat
end
section
set_option linter.unusedSimpArgs false
set_option maxRecDepth 100000
namespace Go.Dw.Seat
open Go Go.Dw Go.Proofs Go.IntWalk
structure V6 where
  v0 : Nat
  v1 : Nat
  v2 : Nat
  v3 : Nat
  v4 : Nat
  v5 : Nat
structure V6.ok (v : V6) : Prop where
  v0 : v.v0 < 256
  v1 : v.v1 < 256
  v2 : v.v2 < 256
  v3 : v.v3 < 256
  v4 : v.v4 < 256
  v5 : v.v5 < 256
structure V3 where
  v0 : Nat
  v1 : Nat
  v2 : Nat
structure V3.ok (v : V3) : Prop where
  v0 : v.v0 < 256
  v1 : v.v1 < 256
  v2 : v.v2 < 256
def e6 (v : V6) : List C := [.v (.int .u8 v.v0), .v (.int .u8 v.v1), .v (.int .u8 v.v2), .v (.int .u8 v.v3), .v (.int .u8 v.v4), .v (.int .u8 v.v5)]
def e3 (v : V3) : List C := [.v (.int .u8 v.v0), .v (.int .u8 v.v1), .v (.int .u8 v.v2)]
attribute [go_sem] e6 e3
structure War where
  papers : List V6
  flutes : List V3
  by' : List Nat
structure War.ok (x : War) : Prop where
  papers : ∀ v ∈ x.papers, v.ok
  flutes : ∀ v ∈ x.flutes, v.ok
  by' : ∀ v ∈ x.by', v < 256
abbrev dWar (b : Bool) (x : War) : D := .agg [.c (.sl b 6 (rows e6 x.papers)), .c (.sl b 3 (rows e3 x.flutes)), .c (.sl b 1 (rows eY x.by'))]
attribute [go_sem] dWar
theorem ud87 : Try.prog.underlying 87 = some (.int .i64) := by kernel_rfl
theorem t100 (m : Nat) : (m : Int).tmod 100 = ((m % 100 : Nat) : Int) := tmodN m 100
theorem t90 (m : Nat) : (m : Int).tmod 90 = ((m % 90 : Nat) : Int) := tmodN m 90
theorem t2 (m : Nat) : (m : Int).tmod 2 = ((m % 2 : Nat) : Int) := tmodN m 2
theorem d8' (m : Nat) : (m : Int).tdiv 8 = ((m / 8 : Nat) : Int) := tdivN m 8
theorem d16' (m : Nat) : (m : Int).tdiv 16 = ((m / 16 : Nat) : Int) := tdivN m 16
def papOf (i : Nat) (v : V6) : Pap := ⟨if 1 < i then 1 + ((v.v0 % 2 : Nat) : Int) else 1 + (i : Int), 50 + (v.v1 : Int), 50 + (v.v2 : Int), 50 + (v.v2 : Int) + ((v.v0 / 8 : Nat) : Int), ((v.v3 % 100 : Nat) : Int), ((v.v3 % 100 : Nat) : Int) + ((v.v3 / 16 : Nat) : Int), 1000 * (v.v4 : Int), 10 * (v.v5 : Int)⟩
def papV (x : War) (i : Nat) : V6 := (x.papers[i]?).getD ⟨i, 120, 20, 7, 30, 20⟩
def fluOf (v : V3) : Flu := ⟨1000 + 35 * (v.v0 : Int), 1000 + 35 * (v.v0 : Int) + ((1000 + 35 * (v.v0 : Int)) * (v.v1 : Int)).tdiv 255, 500 + 10 * (v.v2 : Int), 500 + 10 * (v.v2 : Int) + ((v.v1 % 90 : Nat) : Int)⟩
def fluV (x : War) (i : Nat) : V3 := (x.flutes[i]?).getD ⟨80, 128, 36⟩
def nPap (x : War) : Nat := max 2 (min 5 x.papers.length)
def nFlu (x : War) : Nat := max 1 (min 3 x.flutes.length)
def wPaps (x : War) (i : Nat) : List Pap := (List.range i).map fun k => papOf k (papV x k)
def wFlus (x : War) (i : Nat) : List Flu := (List.range i).map fun k => fluOf (fluV x k)
def wSto (x : War) : Sto := ⟨wPaps x (nPap x), wFlus x (nFlu x)⟩
theorem wPaps_succ (x : War) (i : Nat) : wPaps x (i + 1) = wPaps x i ++ [papOf i (papV x i)] := by simp [wPaps, List.range_succ]
theorem wFlus_succ (x : War) (i : Nat) : wFlus x (i + 1) = wFlus x i ++ [fluOf (fluV x i)] := by simp [wFlus, List.range_succ]
theorem wPaps_len (x : War) (i : Nat) : (wPaps x i).length = i := by simp [wPaps]
theorem wFlus_len (x : War) (i : Nat) : (wFlus x i).length = i := by simp [wFlus]
theorem papV_ok {x : War} (h : x.ok) {i : Nat} (hi : i < 256) : (papV x i).ok := by
  unfold papV
  cases hv : x.papers[i]? with
  | none => exact ⟨hi, (by decide : 120 < 256), (by decide : 20 < 256), (by decide : 7 < 256), (by decide : 30 < 256), (by decide : 20 < 256)⟩
  | some v => exact h.papers v (List.mem_of_getElem? hv)
theorem fluV_ok {x : War} (h : x.ok) (i : Nat) : (fluV x i).ok := by
  unfold fluV
  cases hv : x.flutes[i]? with
  | none => exact ⟨by decide, by decide, by decide⟩
  | some v => exact h.flutes v (List.mem_of_getElem? hv)
theorem papOf_ok {v : V6} (h : v.ok) (i : Nat) : (papOf i v).ok := by
  have h0 := h.v0
  have h1 := h.v1
  have h2 := h.v2
  have h3 := h.v3
  have h4 := h.v4
  have h5 := h.v5
  have m0 : v.v0 % 2 < 2 := Nat.mod_lt _ (by decide)
  have m1 : v.v3 % 100 < 100 := Nat.mod_lt _ (by decide)
  unfold papOf
  refine ⟨?_, ?_, ?_, ?_, ?_, ?_⟩
  · show (if 1 < i then 1 + ((v.v0 % 2 : Nat) : Int) else 1 + (i : Int)) = 1 ∨ (if 1 < i then 1 + ((v.v0 % 2 : Nat) : Int) else 1 + (i : Int)) = 2
    split <;> omega
  all_goals dsimp only
  all_goals omega
theorem fluOf_draw {v : V3} (h : v.ok) : 0 ≤ (1000 + 35 * (v.v0 : Int)) * (v.v1 : Int) ∧ (1000 + 35 * (v.v0 : Int)) * (v.v1 : Int) ≤ 2530875 ∧ 0 ≤ ((1000 + 35 * (v.v0 : Int)) * (v.v1 : Int)).tdiv 255 ∧ ((1000 + 35 * (v.v0 : Int)) * (v.v1 : Int)).tdiv 255 ≤ 1000 + 35 * (v.v0 : Int) := by
  have h0 := h.v0
  have h1 := h.v1
  have m := mulB0 (a := 1000 + 35 * (v.v0 : Int)) (b := (v.v1 : Int)) (A := 9925) (B := 255) (by omega) (by omega)
  have m2 : (1000 + 35 * (v.v0 : Int)) * (v.v1 : Int) ≤ (1000 + 35 * (v.v0 : Int)) * 255 := Int.mul_le_mul_of_nonneg_left (by omega) (by omega)
  rw [Int.tdiv_eq_ediv_of_nonneg m.1]
  generalize (1000 + 35 * (v.v0 : Int)) * (v.v1 : Int) = q at *
  omega
theorem fluOf_ok {v : V3} (h : v.ok) : (fluOf v).ok := by
  have h0 := h.v0
  have h1 := h.v1
  have h2 := h.v2
  have hd := fluOf_draw h
  have m1 : v.v1 % 90 < 90 := Nat.mod_lt _ (by decide)
  unfold fluOf
  refine ⟨?_, ?_, ?_⟩
  all_goals dsimp only
  all_goals omega
theorem wSto_ok {x : War} (h : x.ok) : (wSto x).ok := by
  refine ⟨?_, ?_, ?_, ?_⟩
  · show 1 ≤ (wPaps x (nPap x)).length ∧ (wPaps x (nPap x)).length ≤ 8
    rw [wPaps_len]; unfold nPap; omega
  · show 1 ≤ (wFlus x (nFlu x)).length ∧ (wFlus x (nFlu x)).length ≤ 4
    rw [wFlus_len]; unfold nFlu; omega
  · intro p hp
    obtain ⟨i, hi, rfl⟩ := List.mem_map.1 hp
    rw [List.mem_range] at hi
    exact papOf_ok (papV_ok h (by unfold nPap at hi; omega)) i
  · intro p hp
    obtain ⟨i, _, rfl⟩ := List.mem_map.1 hp
    exact fluOf_ok (fluV_ok h i)
theorem snocP (l : List Pap) (a b c d e f g h : Int) : rowC (rows eP l) ++ [[D.c (.v (.int .i64 a)), D.c (.v (.int .i64 b)), D.c (.v (.int .i64 c)), D.c (.v (.int .i64 d)), D.c (.v (.int .i64 e)), D.c (.v (.int .i64 f)), D.c (.v (.int .i64 g)), D.c (.v (.int .i64 h))]] = rowC (rows eP (l ++ [⟨a, b, c, d, e, f, g, h⟩])) := by simp [rowC, rows, eP]
theorem snocF (l : List Flu) (a b c d : Int) : rowC (rows eF l) ++ [[D.c (.v (.int .i64 a)), D.c (.v (.int .i64 b)), D.c (.v (.int .i64 c)), D.c (.v (.int .i64 d))]] = rowC (rows eF (l ++ [⟨a, b, c, d⟩])) := by simp [rowC, rows, eF]
attribute [go_sem] snocP snocF
set_option maxHeartbeats 1600000 in
theorem arStore (b : Bool) (x : War) (h : x.ok) : DCall Try.prog 15 [dWar b x] [] (dSto (wSto x)) [] := by
  have hn : nPap x ≤ 5 ∧ 2 ≤ nPap x := by unfold nPap; omega
  have hnf : nFlu x ≤ 3 ∧ 1 ≤ nFlu x := by unfold nFlu; omega
  refine DCall.of Try.func15 sf15 hb15 (Nat.le_of_ble_eq_true rfl) (okRes_nil fun _ => rfl) ?_; simp only [s15, idxs, Nat.reduceAdd]
  repeat' (first
    | (with_reducible refine DW.seq ?_)
    | (with_reducible refine DW.block ?_)
    | (with_reducible refine DW.skip ?_)
    | (with_reducible refine DW.exit ?_)
    | (with_reducible refine DW.ret ?_)
    | (with_reducible refine DW.reg ?_)
    | (refine DW.dreg rfl (WF.of (by first | rfl | simp (disch := omega) only [go_sem, Nat.reduceLT, Nat.reduceLeDiff, Nat.reduceAdd, Nat.reduceMul, Nat.reduceEqDiff, ↓reduceIte, reduceCtorEq, Nat.reduceBEq, Nat.reduceBNe, Nat.reducePow, Int.reduceLE, Int.reduceLT, Int.reduceNeg, Int.reduceToNat, Int.reduceEq, Int.reduceAdd, Int.reduceSub, Int.reduceMul, Int.reduceBEq, Int.reduceBNe, Blk.men, Blk.keysIn])) ?_)
    | (simp (disch := omega) only [go_sem, Nat.reduceLT, Nat.reduceLeDiff, Nat.reduceAdd, Nat.reduceMul, Nat.reduceEqDiff, ↓reduceIte, reduceCtorEq, Nat.reduceBEq, Nat.reduceBNe, Nat.reducePow, Int.reduceLE, Int.reduceLT, Int.reduceNeg, Int.reduceToNat, Int.reduceEq, Int.reduceAdd, Int.reduceSub, Int.reduceMul, Int.reduceBEq, Int.reduceBNe, Blk.men, Blk.keysIn])
    | (exact retS_of rfl rfl rfl)
    | (refine DW.cond_tt rfl ?_)
    | (refine DW.cond_ff rfl ?_)
    | (refine DW.cond rfl ?_ ?_ <;> intro hc <;> (try simp only [go_sem] at hc))
    | (refine g_split ?_ ?_ <;> intro hc <;> (try simp only [hc]) <;> (try simp only [go_sem] at hc)))
  (refine DW.ent (Ent.adoptB 3 0 94 8 rfl rfl rfl rfl) ?_; simp only [ins, Nat.reduceLT, Nat.reduceEqDiff, ↓reduceIte, List.set_cons_zero, List.set_cons_succ])
  (refine DW.ent (Ent.adoptB 3 1 156 4 rfl rfl rfl rfl) ?_; simp only [ins, Nat.reduceLT, Nat.reduceEqDiff, ↓reduceIte, List.set_cons_zero, List.set_cons_succ])
  refine DW.loop (ι := { i : Nat // i ≤ nPap x }) (fun i => ⟨159, [(4, dI i.1), (3, .box 3 0), (2, .box 2 0), (1, .box 1 0)], [(156, .row 4 []), (94, .row 8 (rowC (rows eP (wPaps x i.1)))), (3, .box [.own 94, .own 156]), (2, .box [.c (.v (.slice none 0 0)), .c (.v (.slice none 0 0))]), (1, .box [.c (.sl b 6 (rows e6 x.papers)), .c (.sl b 3 (rows e3 x.flutes)), .c (.sl b 1 (rows eY x.by'))])]⟩) (fun i => nPap x - i.1) ⟨0, Nat.zero_le _⟩ ?_ ?_
  · refine Ent.to ?_ ?_ <;> simp (disch := omega) only [wkT_cons, wkX_cons, wkT_nil, wkX_nil, get, Nat.reduceEqDiff, ↓reduceIte, ex_some, wk_self, wk_top, wk_nil, wkB_self, and_self, dI, i64_in, and_true, true_and, Int.natCast_add, Int.natCast_one, Int.ofNat_zero, Int.natCast_zero]
    exact .refl _
  rintro ⟨i, hi⟩
  dsimp only
  rcases Nat.lt_or_ge i (nPap x) with hlt | hge
  · have hv := papV_ok h (i := i) (by omega)
    have hcond : (decide ((i : Int) < 2) = true) ∨ (decide ((i : Int) < 2) = false ∧ decide ((i : Int) < (x.papers.length : Int)) = true ∧ decide ((i : Int) < 5) = true) := by
      unfold nPap at hlt
      simp only [decide_eq_true_eq, decide_eq_false_iff_not]
      omega
    refine DW.cut ⟨159, [(4, dI i), (3, .box 3 0), (2, .box 2 0), (1, .box 1 0)], [(156, .row 4 []), (94, .row 8 (rowC (rows eP (wPaps x i)))), (3, .box [.own 94, .own 156]), (2, .box [.c (.v (.slice none 0 0)), .c (.v (.slice none 0 0))]), (1, .box [.c (.sl b 6 (rows e6 x.papers)), .c (.sl b 3 (rows e3 x.flutes)), .c (.sl b 1 (rows eY x.by'))])]⟩ ?_ ?_
    · rcases hcond with hc | ⟨hc1, hc2, hc3⟩
      · repeat' (first
    | (with_reducible refine DW.seq ?_)
    | (with_reducible refine DW.block ?_)
    | (with_reducible refine DW.skip ?_)
    | (with_reducible refine DW.exit ?_)
    | (with_reducible refine DW.ret ?_)
    | (with_reducible refine DW.reg ?_)
    | (refine DW.dreg rfl (WF.of (by first | rfl | simp (disch := omega) only [go_sem, Nat.reduceLT, Nat.reduceLeDiff, Nat.reduceAdd, Nat.reduceMul, Nat.reduceEqDiff, ↓reduceIte, reduceCtorEq, Nat.reduceBEq, Nat.reduceBNe, Nat.reducePow, Int.reduceLE, Int.reduceLT, Int.reduceNeg, Int.reduceToNat, Int.reduceEq, Int.reduceAdd, Int.reduceSub, Int.reduceMul, Int.reduceBEq, Int.reduceBNe, Blk.men, Blk.keysIn, hc])) ?_)
    | (simp (disch := omega) only [go_sem, Nat.reduceLT, Nat.reduceLeDiff, Nat.reduceAdd, Nat.reduceMul, Nat.reduceEqDiff, ↓reduceIte, reduceCtorEq, Nat.reduceBEq, Nat.reduceBNe, Nat.reducePow, Int.reduceLE, Int.reduceLT, Int.reduceNeg, Int.reduceToNat, Int.reduceEq, Int.reduceAdd, Int.reduceSub, Int.reduceMul, Int.reduceBEq, Int.reduceBNe, Blk.men, Blk.keysIn, hc])
    | (exact retS_of rfl rfl rfl)
    | (refine DW.cond_tt rfl ?_)
    | (refine DW.cond_ff rfl ?_)
    | (refine DW.cond rfl ?_ ?_ <;> intro hc <;> (try simp only [go_sem] at hc))
    | (refine g_split ?_ ?_ <;> intro hc <;> (try simp only [hc]) <;> (try simp only [go_sem] at hc)))
        refine Ent.to ?_ ?_ <;> simp (disch := omega) only [wkT_cons, wkX_cons, wkT_nil, wkX_nil, get, Nat.reduceEqDiff, ↓reduceIte, ex_some, wk_self, wk_top, wk_nil, wkB_self, and_self, dI, i64_in, and_true, true_and, Int.natCast_add, Int.natCast_one, Int.ofNat_zero, Int.natCast_zero]
      · repeat' (first
    | (with_reducible refine DW.seq ?_)
    | (with_reducible refine DW.block ?_)
    | (with_reducible refine DW.skip ?_)
    | (with_reducible refine DW.exit ?_)
    | (with_reducible refine DW.ret ?_)
    | (with_reducible refine DW.reg ?_)
    | (refine DW.dreg rfl (WF.of (by first | rfl | simp (disch := omega) only [go_sem, Nat.reduceLT, Nat.reduceLeDiff, Nat.reduceAdd, Nat.reduceMul, Nat.reduceEqDiff, ↓reduceIte, reduceCtorEq, Nat.reduceBEq, Nat.reduceBNe, Nat.reducePow, Int.reduceLE, Int.reduceLT, Int.reduceNeg, Int.reduceToNat, Int.reduceEq, Int.reduceAdd, Int.reduceSub, Int.reduceMul, Int.reduceBEq, Int.reduceBNe, Blk.men, Blk.keysIn, hc1, hc2, hc3])) ?_)
    | (simp (disch := omega) only [go_sem, Nat.reduceLT, Nat.reduceLeDiff, Nat.reduceAdd, Nat.reduceMul, Nat.reduceEqDiff, ↓reduceIte, reduceCtorEq, Nat.reduceBEq, Nat.reduceBNe, Nat.reducePow, Int.reduceLE, Int.reduceLT, Int.reduceNeg, Int.reduceToNat, Int.reduceEq, Int.reduceAdd, Int.reduceSub, Int.reduceMul, Int.reduceBEq, Int.reduceBNe, Blk.men, Blk.keysIn, hc1, hc2, hc3])
    | (exact retS_of rfl rfl rfl)
    | (refine DW.cond_tt rfl ?_)
    | (refine DW.cond_ff rfl ?_)
    | (refine DW.cond rfl ?_ ?_ <;> intro hc <;> (try simp only [go_sem] at hc))
    | (refine g_split ?_ ?_ <;> intro hc <;> (try simp only [hc]) <;> (try simp only [go_sem] at hc)))
        refine Ent.to ?_ ?_ <;> simp (disch := omega) only [wkT_cons, wkX_cons, wkT_nil, wkX_nil, get, Nat.reduceEqDiff, ↓reduceIte, ex_some, wk_self, wk_top, wk_nil, wkB_self, and_self, dI, i64_in, and_true, true_and, Int.natCast_add, Int.natCast_one, Int.ofNat_zero, Int.natCast_zero]
    refine DW.seq (DW.block (DW.seq (DW.reg ?_)))
    have hi8 : IntKind.u8.wrap (i : Int) = (i : Int) := IntWalk.u8_in _ (by omega)
    simp (disch := omega) only [go_sem, Nat.reduceLT, Nat.reduceLeDiff, Nat.reduceAdd, Nat.reduceMul, Nat.reduceEqDiff, ↓reduceIte, reduceCtorEq, Nat.reduceBEq, Nat.reduceBNe, Nat.reducePow, Int.reduceLE, Int.reduceLT, Int.reduceNeg, Int.reduceToNat, Int.reduceEq, Int.reduceAdd, Int.reduceSub, Int.reduceMul, Int.reduceBEq, Int.reduceBNe, Blk.men, Blk.keysIn, ud3, hi8]
    generalize hpv : papV x i = v at *
    refine DW.cut ⟨159, [(5, .box 5 0), (4, dI i), (3, .box 3 0), (2, .box 2 0), (1, .box 1 0)], [(156, .row 4 []), (94, .row 8 (rowC (rows eP (wPaps x i)))), (5, .box ((e6 v).map D.c)), (3, .box [.own 94, .own 156]), (2, .box [.c (.v (.slice none 0 0)), .c (.v (.slice none 0 0))]), (1, .box [.c (.sl b 6 (rows e6 x.papers)), .c (.sl b 3 (rows e3 x.flutes)), .c (.sl b 1 (rows eY x.by'))])]⟩ ?_ ?_
    · rcases Nat.lt_or_ge i x.papers.length with hl | hl
      · have hd : decide ((i : Int) < (x.papers.length : Int)) = true := by rw [decide_eq_true_eq]; omega
        have hxv : x.papers[i]? = some v := by
          rw [← hpv, papV, List.getElem?_eq_getElem hl]; rfl
        repeat' (first
    | (with_reducible refine DW.seq ?_)
    | (with_reducible refine DW.block ?_)
    | (with_reducible refine DW.skip ?_)
    | (with_reducible refine DW.exit ?_)
    | (with_reducible refine DW.ret ?_)
    | (with_reducible refine DW.reg ?_)
    | (refine DW.dreg rfl (WF.of (by first | rfl | simp (disch := omega) only [go_sem, Nat.reduceLT, Nat.reduceLeDiff, Nat.reduceAdd, Nat.reduceMul, Nat.reduceEqDiff, ↓reduceIte, reduceCtorEq, Nat.reduceBEq, Nat.reduceBNe, Nat.reducePow, Int.reduceLE, Int.reduceLT, Int.reduceNeg, Int.reduceToNat, Int.reduceEq, Int.reduceAdd, Int.reduceSub, Int.reduceMul, Int.reduceBEq, Int.reduceBNe, Blk.men, Blk.keysIn, hd, hxv, List.map_cons, List.map_nil])) ?_)
    | (simp (disch := omega) only [go_sem, Nat.reduceLT, Nat.reduceLeDiff, Nat.reduceAdd, Nat.reduceMul, Nat.reduceEqDiff, ↓reduceIte, reduceCtorEq, Nat.reduceBEq, Nat.reduceBNe, Nat.reducePow, Int.reduceLE, Int.reduceLT, Int.reduceNeg, Int.reduceToNat, Int.reduceEq, Int.reduceAdd, Int.reduceSub, Int.reduceMul, Int.reduceBEq, Int.reduceBNe, Blk.men, Blk.keysIn, hd, hxv, List.map_cons, List.map_nil])
    | (exact retS_of rfl rfl rfl)
    | (refine DW.cond_tt rfl ?_)
    | (refine DW.cond_ff rfl ?_)
    | (refine DW.cond rfl ?_ ?_ <;> intro hc <;> (try simp only [go_sem] at hc))
    | (refine g_split ?_ ?_ <;> intro hc <;> (try simp only [hc]) <;> (try simp only [go_sem] at hc)))
        refine Ent.to ?_ ?_ <;> simp (disch := omega) only [wkT_cons, wkX_cons, wkT_nil, wkX_nil, get, Nat.reduceEqDiff, ↓reduceIte, ex_some, wk_self, wk_top, wk_nil, wkB_self, and_self, dI, i64_in, and_true, true_and, Int.natCast_add, Int.natCast_one, Int.ofNat_zero, Int.natCast_zero]
      · have hd : decide ((i : Int) < (x.papers.length : Int)) = false := by rw [decide_eq_false_iff_not]; omega
        have hxv : v = ⟨i, 120, 20, 7, 30, 20⟩ := by
          rw [← hpv, papV, List.getElem?_eq_none hl]; rfl
        rw [hxv]
        repeat' (first
    | (with_reducible refine DW.seq ?_)
    | (with_reducible refine DW.block ?_)
    | (with_reducible refine DW.skip ?_)
    | (with_reducible refine DW.exit ?_)
    | (with_reducible refine DW.ret ?_)
    | (with_reducible refine DW.reg ?_)
    | (refine DW.dreg rfl (WF.of (by first | rfl | simp (disch := omega) only [go_sem, Nat.reduceLT, Nat.reduceLeDiff, Nat.reduceAdd, Nat.reduceMul, Nat.reduceEqDiff, ↓reduceIte, reduceCtorEq, Nat.reduceBEq, Nat.reduceBNe, Nat.reducePow, Int.reduceLE, Int.reduceLT, Int.reduceNeg, Int.reduceToNat, Int.reduceEq, Int.reduceAdd, Int.reduceSub, Int.reduceMul, Int.reduceBEq, Int.reduceBNe, Blk.men, Blk.keysIn, hd, List.map_cons, List.map_nil])) ?_)
    | (simp (disch := omega) only [go_sem, Nat.reduceLT, Nat.reduceLeDiff, Nat.reduceAdd, Nat.reduceMul, Nat.reduceEqDiff, ↓reduceIte, reduceCtorEq, Nat.reduceBEq, Nat.reduceBNe, Nat.reducePow, Int.reduceLE, Int.reduceLT, Int.reduceNeg, Int.reduceToNat, Int.reduceEq, Int.reduceAdd, Int.reduceSub, Int.reduceMul, Int.reduceBEq, Int.reduceBNe, Blk.men, Blk.keysIn, hd, List.map_cons, List.map_nil])
    | (exact retS_of rfl rfl rfl)
    | (refine DW.cond_tt rfl ?_)
    | (refine DW.cond_ff rfl ?_)
    | (refine DW.cond rfl ?_ ?_ <;> intro hc <;> (try simp only [go_sem] at hc))
    | (refine g_split ?_ ?_ <;> intro hc <;> (try simp only [hc]) <;> (try simp only [go_sem] at hc)))
        refine Ent.to ?_ ?_ <;> simp (disch := omega) only [wkT_cons, wkX_cons, wkT_nil, wkX_nil, get, Nat.reduceEqDiff, ↓reduceIte, ex_some, wk_self, wk_top, wk_nil, wkB_self, and_self, dI, i64_in, and_true, true_and, Int.natCast_add, Int.natCast_one, Int.ofNat_zero, Int.natCast_zero]
        all_goals exact .refl _
    have w0 := hv.v0
    have w1 := hv.v1
    have w2 := hv.v2
    have w3 := hv.v3
    have w4 := hv.v4
    have w5 := hv.v5
    have m0 : v.v0 % 2 < 2 := Nat.mod_lt _ (by decide)
    have m1 : v.v3 % 100 < 100 := Nat.mod_lt _ (by decide)
    have s1 := arSpan (50 + (v.v2 : Int)) (50 + (v.v2 : Int) + ((v.v0 / 8 : Nat) : Int))
    have s2 := arSpan ((v.v3 % 100 : Nat) : Int) (((v.v3 % 100 : Nat) : Int) + ((v.v3 / 16 : Nat) : Int))
    have hln := wPaps_len x i
    have hsn := wPaps_succ x i
    rw [hpv] at hsn
    generalize wPaps x i = l at *
    by_cases h1 : 1 < i
    · have hd : decide ((1 : Int) < (i : Int)) = true := by rw [decide_eq_true_eq]; omega
      have hpo : papOf i v = ⟨1 + ((v.v0 % 2 : Nat) : Int), 50 + (v.v1 : Int), 50 + (v.v2 : Int), 50 + (v.v2 : Int) + ((v.v0 / 8 : Nat) : Int), ((v.v3 % 100 : Nat) : Int), ((v.v3 % 100 : Nat) : Int) + ((v.v3 / 16 : Nat) : Int), 1000 * (v.v4 : Int), 10 * (v.v5 : Int)⟩ := by rw [papOf, if_pos h1]
      rw [hpo] at hsn
      repeat' (first
    | (with_reducible refine DW.seq ?_)
    | (with_reducible refine DW.block ?_)
    | (with_reducible refine DW.skip ?_)
    | (with_reducible refine DW.exit ?_)
    | (with_reducible refine DW.ret ?_)
    | (with_reducible refine DW.reg ?_)
    | (refine DW.dreg rfl (WF.of (by first | rfl | simp (disch := omega) only [go_sem, Nat.reduceLT, Nat.reduceLeDiff, Nat.reduceAdd, Nat.reduceMul, Nat.reduceEqDiff, ↓reduceIte, reduceCtorEq, Nat.reduceBEq, Nat.reduceBNe, Nat.reducePow, Int.reduceLE, Int.reduceLT, Int.reduceNeg, Int.reduceToNat, Int.reduceEq, Int.reduceAdd, Int.reduceSub, Int.reduceMul, Int.reduceBEq, Int.reduceBNe, Blk.men, Blk.keysIn, hd, t100, t2, d8', d16', ud87, List.map_cons, List.map_nil])) ?_)
    | (simp (disch := omega) only [go_sem, Nat.reduceLT, Nat.reduceLeDiff, Nat.reduceAdd, Nat.reduceMul, Nat.reduceEqDiff, ↓reduceIte, reduceCtorEq, Nat.reduceBEq, Nat.reduceBNe, Nat.reducePow, Int.reduceLE, Int.reduceLT, Int.reduceNeg, Int.reduceToNat, Int.reduceEq, Int.reduceAdd, Int.reduceSub, Int.reduceMul, Int.reduceBEq, Int.reduceBNe, Blk.men, Blk.keysIn, hd, t100, t2, d8', d16', ud87, List.map_cons, List.map_nil])
    | (exact retS_of rfl rfl rfl)
    | (refine DW.cond_tt rfl ?_)
    | (refine call_c (s1) (by decide) ?_)
    | (refine call_c (s2) (by decide) ?_)
    | (refine DW.cond_ff rfl ?_)
    | (refine DW.cond rfl ?_ ?_ <;> intro hc <;> (try simp only [go_sem] at hc))
    | (refine g_split ?_ ?_ <;> intro hc <;> (try simp only [hc]) <;> (try simp only [go_sem] at hc)))
      refine ⟨⟨i + 1, hlt⟩, ?_, Ent.to ?_ ?_⟩ <;> first | (show _ < _; (try simp only); omega) | (simp (disch := omega) only [wkT_cons, wkX_cons, wkT_nil, wkX_nil, get, Nat.reduceEqDiff, ↓reduceIte, ex_some, wk_self, wk_top, wk_nil, wkB_self, and_self, dI, i64_in, and_true, true_and, Int.natCast_add, Int.natCast_one, Int.ofNat_zero, Int.natCast_zero,  hsn])
      all_goals exact .refl _
    · have hd : decide ((1 : Int) < (i : Int)) = false := by rw [decide_eq_false_iff_not]; omega
      have hpo : papOf i v = ⟨1 + (i : Int), 50 + (v.v1 : Int), 50 + (v.v2 : Int), 50 + (v.v2 : Int) + ((v.v0 / 8 : Nat) : Int), ((v.v3 % 100 : Nat) : Int), ((v.v3 % 100 : Nat) : Int) + ((v.v3 / 16 : Nat) : Int), 1000 * (v.v4 : Int), 10 * (v.v5 : Int)⟩ := by rw [papOf, if_neg h1]
      rw [hpo] at hsn
      repeat' (first
    | (with_reducible refine DW.seq ?_)
    | (with_reducible refine DW.block ?_)
    | (with_reducible refine DW.skip ?_)
    | (with_reducible refine DW.exit ?_)
    | (with_reducible refine DW.ret ?_)
    | (with_reducible refine DW.reg ?_)
    | (refine DW.dreg rfl (WF.of (by first | rfl | simp (disch := omega) only [go_sem, Nat.reduceLT, Nat.reduceLeDiff, Nat.reduceAdd, Nat.reduceMul, Nat.reduceEqDiff, ↓reduceIte, reduceCtorEq, Nat.reduceBEq, Nat.reduceBNe, Nat.reducePow, Int.reduceLE, Int.reduceLT, Int.reduceNeg, Int.reduceToNat, Int.reduceEq, Int.reduceAdd, Int.reduceSub, Int.reduceMul, Int.reduceBEq, Int.reduceBNe, Blk.men, Blk.keysIn, hd, t100, t2, d8', d16', ud87, List.map_cons, List.map_nil])) ?_)
    | (simp (disch := omega) only [go_sem, Nat.reduceLT, Nat.reduceLeDiff, Nat.reduceAdd, Nat.reduceMul, Nat.reduceEqDiff, ↓reduceIte, reduceCtorEq, Nat.reduceBEq, Nat.reduceBNe, Nat.reducePow, Int.reduceLE, Int.reduceLT, Int.reduceNeg, Int.reduceToNat, Int.reduceEq, Int.reduceAdd, Int.reduceSub, Int.reduceMul, Int.reduceBEq, Int.reduceBNe, Blk.men, Blk.keysIn, hd, t100, t2, d8', d16', ud87, List.map_cons, List.map_nil])
    | (exact retS_of rfl rfl rfl)
    | (refine DW.cond_tt rfl ?_)
    | (refine call_c (s1) (by decide) ?_)
    | (refine call_c (s2) (by decide) ?_)
    | (refine DW.cond_ff rfl ?_)
    | (refine DW.cond rfl ?_ ?_ <;> intro hc <;> (try simp only [go_sem] at hc))
    | (refine g_split ?_ ?_ <;> intro hc <;> (try simp only [hc]) <;> (try simp only [go_sem] at hc)))
      refine ⟨⟨i + 1, hlt⟩, ?_, Ent.to ?_ ?_⟩ <;> first | (show _ < _; (try simp only); omega) | (simp (disch := omega) only [wkT_cons, wkX_cons, wkT_nil, wkX_nil, get, Nat.reduceEqDiff, ↓reduceIte, ex_some, wk_self, wk_top, wk_nil, wkB_self, and_self, dI, i64_in, and_true, true_and, Int.natCast_add, Int.natCast_one, Int.ofNat_zero, Int.natCast_zero,  hsn])
      all_goals exact .refl _
  · obtain rfl : i = nPap x := by omega
    have hc1 : decide ((nPap x : Int) < 2) = false := by rw [decide_eq_false_iff_not]; omega
    have hcond : (decide ((nPap x : Int) < (x.papers.length : Int)) = false) ∨ (decide ((nPap x : Int) < (x.papers.length : Int)) = true ∧ decide ((nPap x : Int) < 5) = false) := by
      have : nPap x = max 2 (min 5 x.papers.length) := rfl
      simp only [decide_eq_true_eq, decide_eq_false_iff_not]
      omega
    refine DW.leave 0 ⟨159, [(3, .box 3 0), (2, .box 2 0), (1, .box 1 0)], [(156, .row 4 (rowC (rows eF (wFlus x 0)))), (94, .row 8 (rowC (rows eP (wPaps x (nPap x))))), (3, .box [.own 94, .own 156]), (2, .box [.c (.v (.slice none 0 0)), .c (.v (.slice none 0 0))]), (1, .box [.c (.sl b 6 (rows e6 x.papers)), .c (.sl b 3 (rows e3 x.flutes)), .c (.sl b 1 (rows eY x.by'))])]⟩ ?_ ?_
    · rcases hcond with hc | ⟨hc2, hc3⟩
      · repeat' (first
    | (with_reducible refine DW.seq ?_)
    | (with_reducible refine DW.block ?_)
    | (with_reducible refine DW.skip ?_)
    | (with_reducible refine DW.exit ?_)
    | (with_reducible refine DW.ret ?_)
    | (with_reducible refine DW.reg ?_)
    | (refine DW.dreg rfl (WF.of (by first | rfl | simp (disch := omega) only [go_sem, Nat.reduceLT, Nat.reduceLeDiff, Nat.reduceAdd, Nat.reduceMul, Nat.reduceEqDiff, ↓reduceIte, reduceCtorEq, Nat.reduceBEq, Nat.reduceBNe, Nat.reducePow, Int.reduceLE, Int.reduceLT, Int.reduceNeg, Int.reduceToNat, Int.reduceEq, Int.reduceAdd, Int.reduceSub, Int.reduceMul, Int.reduceBEq, Int.reduceBNe, Blk.men, Blk.keysIn, hc1, hc])) ?_)
    | (simp (disch := omega) only [go_sem, Nat.reduceLT, Nat.reduceLeDiff, Nat.reduceAdd, Nat.reduceMul, Nat.reduceEqDiff, ↓reduceIte, reduceCtorEq, Nat.reduceBEq, Nat.reduceBNe, Nat.reducePow, Int.reduceLE, Int.reduceLT, Int.reduceNeg, Int.reduceToNat, Int.reduceEq, Int.reduceAdd, Int.reduceSub, Int.reduceMul, Int.reduceBEq, Int.reduceBNe, Blk.men, Blk.keysIn, hc1, hc])
    | (exact retS_of rfl rfl rfl)
    | (refine DW.cond_tt rfl ?_)
    | (refine DW.cond_ff rfl ?_)
    | (refine DW.cond rfl ?_ ?_ <;> intro hc <;> (try simp only [go_sem] at hc))
    | (refine g_split ?_ ?_ <;> intro hc <;> (try simp only [hc]) <;> (try simp only [go_sem] at hc)))
        refine Ent.to ?_ ?_ <;> simp (disch := omega) only [wkT_cons, wkX_cons, wkT_nil, wkX_nil, get, Nat.reduceEqDiff, ↓reduceIte, ex_some, wk_self, wk_top, wk_nil, wkB_self, and_self, dI, i64_in, and_true, true_and, Int.natCast_add, Int.natCast_one, Int.ofNat_zero, Int.natCast_zero]
        all_goals exact .refl _
      · repeat' (first
    | (with_reducible refine DW.seq ?_)
    | (with_reducible refine DW.block ?_)
    | (with_reducible refine DW.skip ?_)
    | (with_reducible refine DW.exit ?_)
    | (with_reducible refine DW.ret ?_)
    | (with_reducible refine DW.reg ?_)
    | (refine DW.dreg rfl (WF.of (by first | rfl | simp (disch := omega) only [go_sem, Nat.reduceLT, Nat.reduceLeDiff, Nat.reduceAdd, Nat.reduceMul, Nat.reduceEqDiff, ↓reduceIte, reduceCtorEq, Nat.reduceBEq, Nat.reduceBNe, Nat.reducePow, Int.reduceLE, Int.reduceLT, Int.reduceNeg, Int.reduceToNat, Int.reduceEq, Int.reduceAdd, Int.reduceSub, Int.reduceMul, Int.reduceBEq, Int.reduceBNe, Blk.men, Blk.keysIn, hc1, hc2, hc3])) ?_)
    | (simp (disch := omega) only [go_sem, Nat.reduceLT, Nat.reduceLeDiff, Nat.reduceAdd, Nat.reduceMul, Nat.reduceEqDiff, ↓reduceIte, reduceCtorEq, Nat.reduceBEq, Nat.reduceBNe, Nat.reducePow, Int.reduceLE, Int.reduceLT, Int.reduceNeg, Int.reduceToNat, Int.reduceEq, Int.reduceAdd, Int.reduceSub, Int.reduceMul, Int.reduceBEq, Int.reduceBNe, Blk.men, Blk.keysIn, hc1, hc2, hc3])
    | (exact retS_of rfl rfl rfl)
    | (refine DW.cond_tt rfl ?_)
    | (refine DW.cond_ff rfl ?_)
    | (refine DW.cond rfl ?_ ?_ <;> intro hc <;> (try simp only [go_sem] at hc))
    | (refine g_split ?_ ?_ <;> intro hc <;> (try simp only [hc]) <;> (try simp only [go_sem] at hc)))
        refine Ent.to ?_ ?_ <;> simp (disch := omega) only [wkT_cons, wkX_cons, wkT_nil, wkX_nil, get, Nat.reduceEqDiff, ↓reduceIte, ex_some, wk_self, wk_top, wk_nil, wkB_self, and_self, dI, i64_in, and_true, true_and, Int.natCast_add, Int.natCast_one, Int.ofNat_zero, Int.natCast_zero]
        all_goals exact .refl _
    intro σ' hσ'
    simp (disch := omega) only [go_sem, Nat.reduceLT, Nat.reduceLeDiff, Nat.reduceAdd, Nat.reduceMul, Nat.reduceEqDiff, ↓reduceIte, reduceCtorEq, Nat.reduceBEq, Nat.reduceBNe, Nat.reducePow, Int.reduceLE, Int.reduceLT, Int.reduceNeg, Int.reduceToNat, Int.reduceEq, Int.reduceAdd, Int.reduceSub, Int.reduceMul, Int.reduceBEq, Int.reduceBNe, Blk.men, Blk.keysIn]
    refine DW.ent hσ' ?_
    clear hσ' hcond hc1
    repeat' (first
    | (with_reducible refine DW.seq ?_)
    | (with_reducible refine DW.block ?_)
    | (with_reducible refine DW.skip ?_)
    | (with_reducible refine DW.exit ?_)
    | (with_reducible refine DW.ret ?_)
    | (with_reducible refine DW.reg ?_)
    | (refine DW.dreg rfl (WF.of (by first | rfl | simp (disch := omega) only [go_sem, Nat.reduceLT, Nat.reduceLeDiff, Nat.reduceAdd, Nat.reduceMul, Nat.reduceEqDiff, ↓reduceIte, reduceCtorEq, Nat.reduceBEq, Nat.reduceBNe, Nat.reducePow, Int.reduceLE, Int.reduceLT, Int.reduceNeg, Int.reduceToNat, Int.reduceEq, Int.reduceAdd, Int.reduceSub, Int.reduceMul, Int.reduceBEq, Int.reduceBNe, Blk.men, Blk.keysIn])) ?_)
    | (simp (disch := omega) only [go_sem, Nat.reduceLT, Nat.reduceLeDiff, Nat.reduceAdd, Nat.reduceMul, Nat.reduceEqDiff, ↓reduceIte, reduceCtorEq, Nat.reduceBEq, Nat.reduceBNe, Nat.reducePow, Int.reduceLE, Int.reduceLT, Int.reduceNeg, Int.reduceToNat, Int.reduceEq, Int.reduceAdd, Int.reduceSub, Int.reduceMul, Int.reduceBEq, Int.reduceBNe, Blk.men, Blk.keysIn])
    | (exact retS_of rfl rfl rfl)
    | (refine DW.cond_tt rfl ?_)
    | (refine DW.cond_ff rfl ?_)
    | (refine DW.cond rfl ?_ ?_ <;> intro hc <;> (try simp only [go_sem] at hc))
    | (refine g_split ?_ ?_ <;> intro hc <;> (try simp only [hc]) <;> (try simp only [go_sem] at hc)))
    refine DW.loop (ι := { i : Nat // i ≤ nFlu x }) (fun i => ⟨159, [(7, dI i.1), (3, .box 3 0), (2, .box 2 0), (1, .box 1 0)], [(156, .row 4 (rowC (rows eF (wFlus x i.1)))), (94, .row 8 (rowC (rows eP (wPaps x (nPap x))))), (3, .box [.own 94, .own 156]), (2, .box [.c (.v (.slice none 0 0)), .c (.v (.slice none 0 0))]), (1, .box [.c (.sl b 6 (rows e6 x.papers)), .c (.sl b 3 (rows e3 x.flutes)), .c (.sl b 1 (rows eY x.by'))])]⟩) (fun i => nFlu x - i.1) ⟨0, Nat.zero_le _⟩ ?_ ?_
    · refine Ent.to ?_ ?_ <;> simp (disch := omega) only [wkT_cons, wkX_cons, wkT_nil, wkX_nil, get, Nat.reduceEqDiff, ↓reduceIte, ex_some, wk_self, wk_top, wk_nil, wkB_self, and_self, dI, i64_in, and_true, true_and, Int.natCast_add, Int.natCast_one, Int.ofNat_zero, Int.natCast_zero]
    clear hi
    rintro ⟨i, hi⟩
    dsimp only
    rcases Nat.lt_or_ge i (nFlu x) with hlt | hge
    · have hv := fluV_ok h i
      have hcond : (((i : Int) == 0) = true) ∨ (((i : Int) == 0) = false ∧ decide ((i : Int) < (x.flutes.length : Int)) = true ∧ decide ((i : Int) < 3) = true) := by
        have : nFlu x = max 1 (min 3 x.flutes.length) := rfl
        simp only [decide_eq_true_eq, beq_iff_eq, beq_eq_false_iff_ne]
        omega
      refine DW.cut ⟨159, [(7, dI i), (3, .box 3 0), (2, .box 2 0), (1, .box 1 0)], [(156, .row 4 (rowC (rows eF (wFlus x i)))), (94, .row 8 (rowC (rows eP (wPaps x (nPap x))))), (3, .box [.own 94, .own 156]), (2, .box [.c (.v (.slice none 0 0)), .c (.v (.slice none 0 0))]), (1, .box [.c (.sl b 6 (rows e6 x.papers)), .c (.sl b 3 (rows e3 x.flutes)), .c (.sl b 1 (rows eY x.by'))])]⟩ ?_ ?_
      · rcases hcond with hc | ⟨hc1, hc2, hc3⟩
        · repeat' (first
    | (with_reducible refine DW.seq ?_)
    | (with_reducible refine DW.block ?_)
    | (with_reducible refine DW.skip ?_)
    | (with_reducible refine DW.exit ?_)
    | (with_reducible refine DW.ret ?_)
    | (with_reducible refine DW.reg ?_)
    | (refine DW.dreg rfl (WF.of (by first | rfl | simp (disch := omega) only [go_sem, Nat.reduceLT, Nat.reduceLeDiff, Nat.reduceAdd, Nat.reduceMul, Nat.reduceEqDiff, ↓reduceIte, reduceCtorEq, Nat.reduceBEq, Nat.reduceBNe, Nat.reducePow, Int.reduceLE, Int.reduceLT, Int.reduceNeg, Int.reduceToNat, Int.reduceEq, Int.reduceAdd, Int.reduceSub, Int.reduceMul, Int.reduceBEq, Int.reduceBNe, Blk.men, Blk.keysIn, hc])) ?_)
    | (simp (disch := omega) only [go_sem, Nat.reduceLT, Nat.reduceLeDiff, Nat.reduceAdd, Nat.reduceMul, Nat.reduceEqDiff, ↓reduceIte, reduceCtorEq, Nat.reduceBEq, Nat.reduceBNe, Nat.reducePow, Int.reduceLE, Int.reduceLT, Int.reduceNeg, Int.reduceToNat, Int.reduceEq, Int.reduceAdd, Int.reduceSub, Int.reduceMul, Int.reduceBEq, Int.reduceBNe, Blk.men, Blk.keysIn, hc])
    | (exact retS_of rfl rfl rfl)
    | (refine DW.cond_tt rfl ?_)
    | (refine DW.cond_ff rfl ?_)
    | (refine DW.cond rfl ?_ ?_ <;> intro hc <;> (try simp only [go_sem] at hc))
    | (refine g_split ?_ ?_ <;> intro hc <;> (try simp only [hc]) <;> (try simp only [go_sem] at hc)))
          refine Ent.to ?_ ?_ <;> simp (disch := omega) only [wkT_cons, wkX_cons, wkT_nil, wkX_nil, get, Nat.reduceEqDiff, ↓reduceIte, ex_some, wk_self, wk_top, wk_nil, wkB_self, and_self, dI, i64_in, and_true, true_and, Int.natCast_add, Int.natCast_one, Int.ofNat_zero, Int.natCast_zero]
        · repeat' (first
    | (with_reducible refine DW.seq ?_)
    | (with_reducible refine DW.block ?_)
    | (with_reducible refine DW.skip ?_)
    | (with_reducible refine DW.exit ?_)
    | (with_reducible refine DW.ret ?_)
    | (with_reducible refine DW.reg ?_)
    | (refine DW.dreg rfl (WF.of (by first | rfl | simp (disch := omega) only [go_sem, Nat.reduceLT, Nat.reduceLeDiff, Nat.reduceAdd, Nat.reduceMul, Nat.reduceEqDiff, ↓reduceIte, reduceCtorEq, Nat.reduceBEq, Nat.reduceBNe, Nat.reducePow, Int.reduceLE, Int.reduceLT, Int.reduceNeg, Int.reduceToNat, Int.reduceEq, Int.reduceAdd, Int.reduceSub, Int.reduceMul, Int.reduceBEq, Int.reduceBNe, Blk.men, Blk.keysIn, hc1, hc2, hc3])) ?_)
    | (simp (disch := omega) only [go_sem, Nat.reduceLT, Nat.reduceLeDiff, Nat.reduceAdd, Nat.reduceMul, Nat.reduceEqDiff, ↓reduceIte, reduceCtorEq, Nat.reduceBEq, Nat.reduceBNe, Nat.reducePow, Int.reduceLE, Int.reduceLT, Int.reduceNeg, Int.reduceToNat, Int.reduceEq, Int.reduceAdd, Int.reduceSub, Int.reduceMul, Int.reduceBEq, Int.reduceBNe, Blk.men, Blk.keysIn, hc1, hc2, hc3])
    | (exact retS_of rfl rfl rfl)
    | (refine DW.cond_tt rfl ?_)
    | (refine DW.cond_ff rfl ?_)
    | (refine DW.cond rfl ?_ ?_ <;> intro hc <;> (try simp only [go_sem] at hc))
    | (refine g_split ?_ ?_ <;> intro hc <;> (try simp only [hc]) <;> (try simp only [go_sem] at hc)))
          refine Ent.to ?_ ?_ <;> simp (disch := omega) only [wkT_cons, wkX_cons, wkT_nil, wkX_nil, get, Nat.reduceEqDiff, ↓reduceIte, ex_some, wk_self, wk_top, wk_nil, wkB_self, and_self, dI, i64_in, and_true, true_and, Int.natCast_add, Int.natCast_one, Int.ofNat_zero, Int.natCast_zero]
      refine DW.seq (DW.block (DW.seq (DW.reg ?_)))
      simp (disch := omega) only [go_sem, Nat.reduceLT, Nat.reduceLeDiff, Nat.reduceAdd, Nat.reduceMul, Nat.reduceEqDiff, ↓reduceIte, reduceCtorEq, Nat.reduceBEq, Nat.reduceBNe, Nat.reducePow, Int.reduceLE, Int.reduceLT, Int.reduceNeg, Int.reduceToNat, Int.reduceEq, Int.reduceAdd, Int.reduceSub, Int.reduceMul, Int.reduceBEq, Int.reduceBNe, Blk.men, Blk.keysIn]
      generalize hpv : fluV x i = v at *
      refine DW.cut ⟨159, [(8, .box 8 0), (7, dI i), (3, .box 3 0), (2, .box 2 0), (1, .box 1 0)], [(156, .row 4 (rowC (rows eF (wFlus x i)))), (94, .row 8 (rowC (rows eP (wPaps x (nPap x))))), (8, .box ((e3 v).map D.c)), (3, .box [.own 94, .own 156]), (2, .box [.c (.v (.slice none 0 0)), .c (.v (.slice none 0 0))]), (1, .box [.c (.sl b 6 (rows e6 x.papers)), .c (.sl b 3 (rows e3 x.flutes)), .c (.sl b 1 (rows eY x.by'))])]⟩ ?_ ?_
      · rcases Nat.lt_or_ge i x.flutes.length with hl | hl
        · have hd : decide ((i : Int) < (x.flutes.length : Int)) = true := by rw [decide_eq_true_eq]; omega
          have hxv : x.flutes[i]? = some v := by
            rw [← hpv, fluV, List.getElem?_eq_getElem hl]; rfl
          repeat' (first
    | (with_reducible refine DW.seq ?_)
    | (with_reducible refine DW.block ?_)
    | (with_reducible refine DW.skip ?_)
    | (with_reducible refine DW.exit ?_)
    | (with_reducible refine DW.ret ?_)
    | (with_reducible refine DW.reg ?_)
    | (refine DW.dreg rfl (WF.of (by first | rfl | simp (disch := omega) only [go_sem, Nat.reduceLT, Nat.reduceLeDiff, Nat.reduceAdd, Nat.reduceMul, Nat.reduceEqDiff, ↓reduceIte, reduceCtorEq, Nat.reduceBEq, Nat.reduceBNe, Nat.reducePow, Int.reduceLE, Int.reduceLT, Int.reduceNeg, Int.reduceToNat, Int.reduceEq, Int.reduceAdd, Int.reduceSub, Int.reduceMul, Int.reduceBEq, Int.reduceBNe, Blk.men, Blk.keysIn, hd, hxv, List.map_cons, List.map_nil])) ?_)
    | (simp (disch := omega) only [go_sem, Nat.reduceLT, Nat.reduceLeDiff, Nat.reduceAdd, Nat.reduceMul, Nat.reduceEqDiff, ↓reduceIte, reduceCtorEq, Nat.reduceBEq, Nat.reduceBNe, Nat.reducePow, Int.reduceLE, Int.reduceLT, Int.reduceNeg, Int.reduceToNat, Int.reduceEq, Int.reduceAdd, Int.reduceSub, Int.reduceMul, Int.reduceBEq, Int.reduceBNe, Blk.men, Blk.keysIn, hd, hxv, List.map_cons, List.map_nil])
    | (exact retS_of rfl rfl rfl)
    | (refine DW.cond_tt rfl ?_)
    | (refine DW.cond_ff rfl ?_)
    | (refine DW.cond rfl ?_ ?_ <;> intro hc <;> (try simp only [go_sem] at hc))
    | (refine g_split ?_ ?_ <;> intro hc <;> (try simp only [hc]) <;> (try simp only [go_sem] at hc)))
          refine Ent.to ?_ ?_ <;> simp (disch := omega) only [wkT_cons, wkX_cons, wkT_nil, wkX_nil, get, Nat.reduceEqDiff, ↓reduceIte, ex_some, wk_self, wk_top, wk_nil, wkB_self, and_self, dI, i64_in, and_true, true_and, Int.natCast_add, Int.natCast_one, Int.ofNat_zero, Int.natCast_zero]
        · have hd : decide ((i : Int) < (x.flutes.length : Int)) = false := by rw [decide_eq_false_iff_not]; omega
          have hxv : v = ⟨80, 128, 36⟩ := by
            rw [← hpv, fluV, List.getElem?_eq_none hl]; rfl
          rw [hxv]
          repeat' (first
    | (with_reducible refine DW.seq ?_)
    | (with_reducible refine DW.block ?_)
    | (with_reducible refine DW.skip ?_)
    | (with_reducible refine DW.exit ?_)
    | (with_reducible refine DW.ret ?_)
    | (with_reducible refine DW.reg ?_)
    | (refine DW.dreg rfl (WF.of (by first | rfl | simp (disch := omega) only [go_sem, Nat.reduceLT, Nat.reduceLeDiff, Nat.reduceAdd, Nat.reduceMul, Nat.reduceEqDiff, ↓reduceIte, reduceCtorEq, Nat.reduceBEq, Nat.reduceBNe, Nat.reducePow, Int.reduceLE, Int.reduceLT, Int.reduceNeg, Int.reduceToNat, Int.reduceEq, Int.reduceAdd, Int.reduceSub, Int.reduceMul, Int.reduceBEq, Int.reduceBNe, Blk.men, Blk.keysIn, hd, List.map_cons, List.map_nil])) ?_)
    | (simp (disch := omega) only [go_sem, Nat.reduceLT, Nat.reduceLeDiff, Nat.reduceAdd, Nat.reduceMul, Nat.reduceEqDiff, ↓reduceIte, reduceCtorEq, Nat.reduceBEq, Nat.reduceBNe, Nat.reducePow, Int.reduceLE, Int.reduceLT, Int.reduceNeg, Int.reduceToNat, Int.reduceEq, Int.reduceAdd, Int.reduceSub, Int.reduceMul, Int.reduceBEq, Int.reduceBNe, Blk.men, Blk.keysIn, hd, List.map_cons, List.map_nil])
    | (exact retS_of rfl rfl rfl)
    | (refine DW.cond_tt rfl ?_)
    | (refine DW.cond_ff rfl ?_)
    | (refine DW.cond rfl ?_ ?_ <;> intro hc <;> (try simp only [go_sem] at hc))
    | (refine g_split ?_ ?_ <;> intro hc <;> (try simp only [hc]) <;> (try simp only [go_sem] at hc)))
          refine Ent.to ?_ ?_ <;> simp (disch := omega) only [wkT_cons, wkX_cons, wkT_nil, wkX_nil, get, Nat.reduceEqDiff, ↓reduceIte, ex_some, wk_self, wk_top, wk_nil, wkB_self, and_self, dI, i64_in, and_true, true_and, Int.natCast_add, Int.natCast_one, Int.ofNat_zero, Int.natCast_zero]
          all_goals exact .refl _
      have w0 := hv.v0
      have w1 := hv.v1
      have w2 := hv.v2
      have hfd := fluOf_draw hv
      have m1 : v.v1 % 90 < 90 := Nat.mod_lt _ (by decide)
      have s1 := arSpan (500 + 10 * (v.v2 : Int)) (500 + 10 * (v.v2 : Int) + ((v.v1 % 90 : Nat) : Int))
      have hln := wFlus_len x i
      have hsn := wFlus_succ x i
      rw [hpv] at hsn
      have hpo : fluOf v = ⟨1000 + 35 * (v.v0 : Int), 1000 + 35 * (v.v0 : Int) + ((1000 + 35 * (v.v0 : Int)) * (v.v1 : Int)).tdiv 255, 500 + 10 * (v.v2 : Int), 500 + 10 * (v.v2 : Int) + ((v.v1 % 90 : Nat) : Int)⟩ := rfl
      rw [hpo] at hsn
      generalize wFlus x i = l at *
      repeat' (first
    | (with_reducible refine DW.seq ?_)
    | (with_reducible refine DW.block ?_)
    | (with_reducible refine DW.skip ?_)
    | (with_reducible refine DW.exit ?_)
    | (with_reducible refine DW.ret ?_)
    | (with_reducible refine DW.reg ?_)
    | (refine DW.dreg rfl (WF.of (by first | rfl | simp (disch := omega) only [go_sem, Nat.reduceLT, Nat.reduceLeDiff, Nat.reduceAdd, Nat.reduceMul, Nat.reduceEqDiff, ↓reduceIte, reduceCtorEq, Nat.reduceBEq, Nat.reduceBNe, Nat.reducePow, Int.reduceLE, Int.reduceLT, Int.reduceNeg, Int.reduceToNat, Int.reduceEq, Int.reduceAdd, Int.reduceSub, Int.reduceMul, Int.reduceBEq, Int.reduceBNe, Blk.men, Blk.keysIn, t90, List.map_cons, List.map_nil])) ?_)
    | (simp (disch := omega) only [go_sem, Nat.reduceLT, Nat.reduceLeDiff, Nat.reduceAdd, Nat.reduceMul, Nat.reduceEqDiff, ↓reduceIte, reduceCtorEq, Nat.reduceBEq, Nat.reduceBNe, Nat.reducePow, Int.reduceLE, Int.reduceLT, Int.reduceNeg, Int.reduceToNat, Int.reduceEq, Int.reduceAdd, Int.reduceSub, Int.reduceMul, Int.reduceBEq, Int.reduceBNe, Blk.men, Blk.keysIn, t90, List.map_cons, List.map_nil])
    | (exact retS_of rfl rfl rfl)
    | (refine DW.cond_tt rfl ?_)
    | (refine call_c (s1) (by decide) ?_)
    | (refine DW.cond_ff rfl ?_)
    | (refine DW.cond rfl ?_ ?_ <;> intro hc <;> (try simp only [go_sem] at hc))
    | (refine g_split ?_ ?_ <;> intro hc <;> (try simp only [hc]) <;> (try simp only [go_sem] at hc)))
      refine ⟨⟨i + 1, hlt⟩, ?_, Ent.to ?_ ?_⟩ <;> first | (show _ < _; (try simp only); omega) | (simp (disch := omega) only [wkT_cons, wkX_cons, wkT_nil, wkX_nil, get, Nat.reduceEqDiff, ↓reduceIte, ex_some, wk_self, wk_top, wk_nil, wkB_self, and_self, dI, i64_in, and_true, true_and, Int.natCast_add, Int.natCast_one, Int.ofNat_zero, Int.natCast_zero,  hsn])
      all_goals exact .refl _
    · obtain rfl : i = nFlu x := by omega
      have hc1 : ((nFlu x : Int) == 0) = false := by rw [beq_eq_false_iff_ne]; omega
      have hcond : (decide ((nFlu x : Int) < (x.flutes.length : Int)) = false) ∨ (decide ((nFlu x : Int) < (x.flutes.length : Int)) = true ∧ decide ((nFlu x : Int) < 3) = false) := by
        have : nFlu x = max 1 (min 3 x.flutes.length) := rfl
        simp only [decide_eq_true_eq, decide_eq_false_iff_not]
        omega
      rcases hcond with hc | ⟨hc2, hc3⟩
      · repeat' (first
    | (with_reducible refine DW.seq ?_)
    | (with_reducible refine DW.block ?_)
    | (with_reducible refine DW.skip ?_)
    | (with_reducible refine DW.exit ?_)
    | (with_reducible refine DW.ret ?_)
    | (with_reducible refine DW.reg ?_)
    | (refine DW.dreg rfl (WF.of (by first | rfl | simp (disch := omega) only [go_sem, Nat.reduceLT, Nat.reduceLeDiff, Nat.reduceAdd, Nat.reduceMul, Nat.reduceEqDiff, ↓reduceIte, reduceCtorEq, Nat.reduceBEq, Nat.reduceBNe, Nat.reducePow, Int.reduceLE, Int.reduceLT, Int.reduceNeg, Int.reduceToNat, Int.reduceEq, Int.reduceAdd, Int.reduceSub, Int.reduceMul, Int.reduceBEq, Int.reduceBNe, Blk.men, Blk.keysIn, hc1, hc])) ?_)
    | (simp (disch := omega) only [go_sem, Nat.reduceLT, Nat.reduceLeDiff, Nat.reduceAdd, Nat.reduceMul, Nat.reduceEqDiff, ↓reduceIte, reduceCtorEq, Nat.reduceBEq, Nat.reduceBNe, Nat.reducePow, Int.reduceLE, Int.reduceLT, Int.reduceNeg, Int.reduceToNat, Int.reduceEq, Int.reduceAdd, Int.reduceSub, Int.reduceMul, Int.reduceBEq, Int.reduceBNe, Blk.men, Blk.keysIn, hc1, hc])
    | (exact retS_of rfl rfl rfl)
    | (refine DW.cond_tt rfl ?_)
    | (refine DW.cond_ff rfl ?_)
    | (refine DW.cond rfl ?_ ?_ <;> intro hc <;> (try simp only [go_sem] at hc))
    | (refine g_split ?_ ?_ <;> intro hc <;> (try simp only [hc]) <;> (try simp only [go_sem] at hc)))
        (refine retS_ent (Ent.rel 94 rfl) ?_; simp (disch := omega) only [go_sem, Nat.reduceLT, Nat.reduceLeDiff, Nat.reduceAdd, Nat.reduceMul, Nat.reduceEqDiff, ↓reduceIte, reduceCtorEq, Nat.reduceBEq, Nat.reduceBNe, Nat.reducePow, Int.reduceLE, Int.reduceLT, Int.reduceNeg, Int.reduceToNat, Int.reduceEq, Int.reduceAdd, Int.reduceSub, Int.reduceMul, Int.reduceBEq, Int.reduceBNe, Blk.men, Blk.keysIn])
        (refine retS_ent (Ent.rel 156 rfl) ?_; simp (disch := omega) only [go_sem, Nat.reduceLT, Nat.reduceLeDiff, Nat.reduceAdd, Nat.reduceMul, Nat.reduceEqDiff, ↓reduceIte, reduceCtorEq, Nat.reduceBEq, Nat.reduceBNe, Nat.reducePow, Int.reduceLE, Int.reduceLT, Int.reduceNeg, Int.reduceToNat, Int.reduceEq, Int.reduceAdd, Int.reduceSub, Int.reduceMul, Int.reduceBEq, Int.reduceBNe, Blk.men, Blk.keysIn])
        refine retS_wk rfl ?_ (by simp only [Blk.nb, rowC_nb, D.nb, D.nbs, C.nb, C.nbs, C.nbss, rows_nb eI_nb, rows_nb eC_nb, rows_nb eL_nb, rows_nb eR_nb, rows_nb eS_nb, rows_nb eG_nb, Bool.and_true, Bool.not_false, Bool.and_self, bD, dI, iD, rows_nb eP_nb, rows_nb eF_nb, rows_nb eY_nb]); exact .refl _
      · repeat' (first
    | (with_reducible refine DW.seq ?_)
    | (with_reducible refine DW.block ?_)
    | (with_reducible refine DW.skip ?_)
    | (with_reducible refine DW.exit ?_)
    | (with_reducible refine DW.ret ?_)
    | (with_reducible refine DW.reg ?_)
    | (refine DW.dreg rfl (WF.of (by first | rfl | simp (disch := omega) only [go_sem, Nat.reduceLT, Nat.reduceLeDiff, Nat.reduceAdd, Nat.reduceMul, Nat.reduceEqDiff, ↓reduceIte, reduceCtorEq, Nat.reduceBEq, Nat.reduceBNe, Nat.reducePow, Int.reduceLE, Int.reduceLT, Int.reduceNeg, Int.reduceToNat, Int.reduceEq, Int.reduceAdd, Int.reduceSub, Int.reduceMul, Int.reduceBEq, Int.reduceBNe, Blk.men, Blk.keysIn, hc1, hc2, hc3])) ?_)
    | (simp (disch := omega) only [go_sem, Nat.reduceLT, Nat.reduceLeDiff, Nat.reduceAdd, Nat.reduceMul, Nat.reduceEqDiff, ↓reduceIte, reduceCtorEq, Nat.reduceBEq, Nat.reduceBNe, Nat.reducePow, Int.reduceLE, Int.reduceLT, Int.reduceNeg, Int.reduceToNat, Int.reduceEq, Int.reduceAdd, Int.reduceSub, Int.reduceMul, Int.reduceBEq, Int.reduceBNe, Blk.men, Blk.keysIn, hc1, hc2, hc3])
    | (exact retS_of rfl rfl rfl)
    | (refine DW.cond_tt rfl ?_)
    | (refine DW.cond_ff rfl ?_)
    | (refine DW.cond rfl ?_ ?_ <;> intro hc <;> (try simp only [go_sem] at hc))
    | (refine g_split ?_ ?_ <;> intro hc <;> (try simp only [hc]) <;> (try simp only [go_sem] at hc)))
        (refine retS_ent (Ent.rel 94 rfl) ?_; simp (disch := omega) only [go_sem, Nat.reduceLT, Nat.reduceLeDiff, Nat.reduceAdd, Nat.reduceMul, Nat.reduceEqDiff, ↓reduceIte, reduceCtorEq, Nat.reduceBEq, Nat.reduceBNe, Nat.reducePow, Int.reduceLE, Int.reduceLT, Int.reduceNeg, Int.reduceToNat, Int.reduceEq, Int.reduceAdd, Int.reduceSub, Int.reduceMul, Int.reduceBEq, Int.reduceBNe, Blk.men, Blk.keysIn])
        (refine retS_ent (Ent.rel 156 rfl) ?_; simp (disch := omega) only [go_sem, Nat.reduceLT, Nat.reduceLeDiff, Nat.reduceAdd, Nat.reduceMul, Nat.reduceEqDiff, ↓reduceIte, reduceCtorEq, Nat.reduceBEq, Nat.reduceBNe, Nat.reducePow, Int.reduceLE, Int.reduceLT, Int.reduceNeg, Int.reduceToNat, Int.reduceEq, Int.reduceAdd, Int.reduceSub, Int.reduceMul, Int.reduceBEq, Int.reduceBNe, Blk.men, Blk.keysIn])
        refine retS_wk rfl ?_ (by simp only [Blk.nb, rowC_nb, D.nb, D.nbs, C.nb, C.nbs, C.nbss, rows_nb eI_nb, rows_nb eC_nb, rows_nb eL_nb, rows_nb eR_nb, rows_nb eS_nb, rows_nb eG_nb, Bool.and_true, Bool.not_false, Bool.and_self, bD, dI, iD, rows_nb eP_nb, rows_nb eF_nb, rows_nb eY_nb]); exact .refl _
end Go.Dw.Seat
end
section
set_option linter.unusedSimpArgs false
set_option maxRecDepth 100000
namespace Go.Dw.Seat
open Go Go.Dw Go.Proofs Go.IntWalk
theorem arInts (b : Bool) (l : List Int) (hl : l.length ≤ 2 ^ 36) : DCall Try.prog 34 [dIs b l] [] (dIs false l) [] := by
  refine DCall.of Try.func34 sf34 hb34 (Nat.le_of_ble_eq_true rfl) (okRes_nil fun _ => rfl) ?_; simp only [s34, idxs, Nat.reduceAdd]
  repeat' (first
    | (with_reducible refine DW.seq ?_)
    | (with_reducible refine DW.block ?_)
    | (with_reducible refine DW.skip ?_)
    | (with_reducible refine DW.exit ?_)
    | (with_reducible refine DW.ret ?_)
    | (with_reducible refine DW.reg ?_)
    | (simp (disch := omega) only [go_sem, Nat.reduceLT, Nat.reduceLeDiff, Nat.reduceAdd, Nat.reduceMul, Nat.reduceEqDiff, ↓reduceIte, reduceCtorEq, Nat.reduceBEq, Nat.reduceBNe, Nat.reducePow, Int.reduceLE, Int.reduceLT, Int.reduceNeg, Int.reduceToNat, Int.reduceEq, Int.reduceAdd, Int.reduceSub, Int.reduceMul, Int.reduceBEq, Int.reduceBNe, Blk.men, Blk.keysIn])
    | (exact retS_of rfl rfl rfl)
    | (refine DW.cond_tt rfl ?_)
    | (refine DW.cond_ff rfl ?_)
    | (refine DW.cond rfl ?_ ?_ <;> intro hc <;> (try simp only [go_sem] at hc))
    | (refine g_split ?_ ?_ <;> intro hc <;> (try simp only [hc]) <;> (try simp only [go_sem] at hc)))
  (refine retS_ent (Ent.rel 3 rfl) ?_; simp (disch := omega) only [go_sem, Nat.reduceLT, Nat.reduceLeDiff, Nat.reduceAdd, Nat.reduceMul, Nat.reduceEqDiff, ↓reduceIte, reduceCtorEq, Nat.reduceBEq, Nat.reduceBNe, Nat.reducePow, Int.reduceLE, Int.reduceLT, Int.reduceNeg, Int.reduceToNat, Int.reduceEq, Int.reduceAdd, Int.reduceSub, Int.reduceMul, Int.reduceBEq, Int.reduceBNe, Blk.men, Blk.keysIn])
  refine retS_wk rfl ?_ (by simp only [Blk.nb, rowC_nb, D.nb, D.nbs, C.nb, C.nbs, C.nbss, rows_nb eI_nb, rows_nb eC_nb, rows_nb eL_nb, rows_nb eR_nb, rows_nb eS_nb, rows_nb eG_nb, Bool.and_true, Bool.not_false, Bool.and_self, bD, dI, iD, rows_nb eP_nb, rows_nb eF_nb, rows_nb eY_nb]); exact .refl _
def kT (s : Sto) (j : Int) (i : Nat) : List Nat := (List.range i).filter fun n => decide ((papAt s n).kind = j)
theorem kT_succ (s : Sto) (j : Int) (i : Nat) : kT s j (i + 1) = if (papAt s i).kind = j then kT s j i ++ [i] else kT s j i := by
  simp only [kT, List.range_succ, List.filter_append, List.filter_cons, List.filter_nil]
  by_cases h : (papAt s i).kind = j <;> simp [h]
theorem kT_len (s : Sto) (j : Int) (i : Nat) : (kT s j i).length ≤ i := by
  have := List.length_filter_le (fun n => decide ((papAt s n).kind = j)) (List.range i)
  simpa [kT] using this
theorem kT_mem {s : Sto} {j : Int} {i n : Nat} (h : n ∈ kT s j i) : n < i ∧ (papAt s n).kind = j := by
  simpa [kT] using h
def kOf (x : War) (i : Nat) : List Nat := kT (wSto x) (if i % 2 = 0 then 1 else 2) (nPap x)
def mkPap (x : War) (i : Nat) : Nat := ((kOf x i)[byteI x.by' (i + 1) % (kOf x i).length]?).getD 0
def mkFlu (x : War) (k : Nat) : Nat := byteI x.by' (2 * k + 1 + 6) % nFlu x
def mP (x : War) (i : Nat) : List Nat := (List.range i).map (mkPap x)
def mF (x : War) (k : Nat) : List Nat := (List.range k).map (mkFlu x)
def nfOf (x : War) : Nat := 1 + byteI x.by' 0 % 2
def wMak (x : War) : Mak := ⟨mP x (2 * nfOf x + 1), mF x (nfOf x)⟩
theorem mP_succ (x : War) (i : Nat) : nL (mP x (i + 1)) = nL (mP x i) ++ [(mkPap x i : Int)] := by simp [mP, nL, List.range_succ]
theorem mF_succ (x : War) (i : Nat) : nL (mF x (i + 1)) = nL (mF x i) ++ [(mkFlu x i : Int)] := by simp [mF, nL, List.range_succ]
theorem mP_len (x : War) (i : Nat) : (mP x i).length = i := by simp [mP]
theorem mF_len (x : War) (i : Nat) : (mF x i).length = i := by simp [mF]
theorem wPap_at (x : War) {n : Nat} (h : n < nPap x) : papAt (wSto x) n = papOf n (papV x n) := by
  simp [papAt, wSto, wPaps, h]
theorem kOf_pos (x : War) (i : Nat) : 0 < (kOf x i).length := by
  have hn : 2 ≤ nPap x := by unfold nPap; omega
  have hmem : (if i % 2 = 0 then 0 else 1) ∈ kOf x i := by
    simp only [kOf, kT, List.mem_filter, List.mem_range, decide_eq_true_eq]
    split
    · refine ⟨by omega, ?_⟩
      rw [wPap_at x (by omega)]; rfl
    · refine ⟨by omega, ?_⟩
      rw [wPap_at x (by omega)]; rfl
  exact List.length_pos_of_mem hmem
theorem kOf_len (x : War) (i : Nat) : (kOf x i).length ≤ 5 := by
  have := kT_len (wSto x) (if i % 2 = 0 then 1 else 2) (nPap x)
  have hn : nPap x ≤ 5 := by unfold nPap; omega
  unfold kOf
  omega
theorem mkPap_at (x : War) (i : Nat) : (kOf x i)[byteI x.by' (i + 1) % (kOf x i).length]? = some (mkPap x i) := by
  have hlt : byteI x.by' (i + 1) % (kOf x i).length < (kOf x i).length := Nat.mod_lt _ (kOf_pos x i)
  rw [mkPap, List.getElem?_eq_getElem hlt]; rfl
theorem mkPap_mem (x : War) (i : Nat) : mkPap x i < nPap x ∧ (papAt (wSto x) (mkPap x i)).kind = if i % 2 = 0 then 1 else 2 := kT_mem (List.mem_of_getElem? (mkPap_at x i))
theorem wMak_ok (x : War) : (wMak x).ok (wSto x) := by
  have h2 : byteI x.by' 0 % 2 < 2 := Nat.mod_lt _ (by decide)
  have hp : (wSto x).papers.length = nPap x := wPaps_len x _
  have hf : (wSto x).flutes.length = nFlu x := wFlus_len x _
  refine ⟨?_, ?_, ?_, ?_, ?_⟩
  · show 1 ≤ (mF x (nfOf x)).length ∧ (mF x (nfOf x)).length ≤ 2
    rw [mF_len]; unfold nfOf; omega
  · show (mP x (2 * nfOf x + 1)).length = 2 * (mF x (nfOf x)).length + 1
    rw [mP_len, mF_len]
  · intro n hn
    obtain ⟨i, _, rfl⟩ := List.mem_map.1 hn
    rw [hp]; exact (mkPap_mem x i).1
  · intro n hn
    obtain ⟨i, _, rfl⟩ := List.mem_map.1 hn
    rw [hf]; exact Nat.mod_lt _ (by unfold nFlu; omega)
  · intro i n p h1 h2
    have h1' : (mP x (2 * nfOf x + 1))[i]? = some n := h1
    have hi : i < 2 * nfOf x + 1 := by
      rcases Nat.lt_or_ge i (2 * nfOf x + 1) with h | h
      · exact h
      · rw [List.getElem?_eq_none (by rw [mP_len]; exact h)] at h1'; cases h1'
    have : n = mkPap x i := by simpa [mP, hi] using h1'.symm
    subst this
    have hm := mkPap_mem x i
    have hg := papAt_get (s := wSto x) (n := mkPap x i) (by rw [hp]; exact hm.1)
    rw [hg] at h2
    cases h2
    exact hm.2
set_option maxHeartbeats 1600000 in
theorem arMake (b : Bool) (x : War) (h : x.ok) : DCall Try.prog 16 [dWar b x] [] (dMak (wMak x)) [] := by
  have hst := arStore b x h
  have hn : nPap x ≤ 5 ∧ 2 ≤ nPap x := by unfold nPap; omega
  have hnf : nFlu x ≤ 3 ∧ 1 ≤ nFlu x := by unfold nFlu; omega
  have hp : (wSto x).papers.length = nPap x := wPaps_len x _
  have hf : (wSto x).flutes.length = nFlu x := wFlus_len x _
  have hso := wSto_ok h
  refine DCall.of Try.func16 sf16 hb16 (Nat.le_of_ble_eq_true rfl) (okRes_nil fun _ => rfl) ?_; simp only [s16, idxs, Nat.reduceAdd]
  repeat' (first
    | (with_reducible refine DW.seq ?_)
    | (with_reducible refine DW.block ?_)
    | (with_reducible refine DW.skip ?_)
    | (with_reducible refine DW.exit ?_)
    | (with_reducible refine DW.ret ?_)
    | (with_reducible refine DW.reg ?_)
    | (refine DW.dreg rfl (WF.of (by first | rfl | simp (disch := omega) only [go_sem, Nat.reduceLT, Nat.reduceLeDiff, Nat.reduceAdd, Nat.reduceMul, Nat.reduceEqDiff, ↓reduceIte, reduceCtorEq, Nat.reduceBEq, Nat.reduceBNe, Nat.reducePow, Int.reduceLE, Int.reduceLT, Int.reduceNeg, Int.reduceToNat, Int.reduceEq, Int.reduceAdd, Int.reduceSub, Int.reduceMul, Int.reduceBEq, Int.reduceBNe, Blk.men, Blk.keysIn])) ?_)
    | (simp (disch := omega) only [go_sem, Nat.reduceLT, Nat.reduceLeDiff, Nat.reduceAdd, Nat.reduceMul, Nat.reduceEqDiff, ↓reduceIte, reduceCtorEq, Nat.reduceBEq, Nat.reduceBNe, Nat.reducePow, Int.reduceLE, Int.reduceLT, Int.reduceNeg, Int.reduceToNat, Int.reduceEq, Int.reduceAdd, Int.reduceSub, Int.reduceMul, Int.reduceBEq, Int.reduceBNe, Blk.men, Blk.keysIn])
    | (exact retS_of rfl rfl rfl)
    | (refine DW.cond_tt rfl ?_)
    | (refine call_c (hst) (by decide) ?_)
    | (refine DW.cond_ff rfl ?_)
    | (refine DW.cond rfl ?_ ?_ <;> intro hc <;> (try simp only [go_sem] at hc))
    | (refine g_split ?_ ?_ <;> intro hc <;> (try simp only [hc]) <;> (try simp only [go_sem] at hc)))
  (refine DW.ent (Ent.adoptB 5 0 31 1 rfl rfl rfl rfl) ?_; simp only [ins, Nat.reduceLT, Nat.reduceEqDiff, ↓reduceIte, List.set_cons_zero, List.set_cons_succ])
  (refine DW.ent (Ent.adoptB 5 1 32 1 rfl rfl rfl rfl) ?_; simp only [ins, Nat.reduceLT, Nat.reduceEqDiff, ↓reduceIte, List.set_cons_zero, List.set_cons_succ])
  (refine DW.ent (Ent.adoptB 4 0 67 1 rfl rfl rfl rfl) ?_; simp only [ins, Nat.reduceLT, Nat.reduceEqDiff, ↓reduceIte, List.set_cons_zero, List.set_cons_succ])
  (refine DW.ent (Ent.adoptB 4 1 84 1 rfl rfl rfl rfl) ?_; simp only [ins, Nat.reduceLT, Nat.reduceEqDiff, ↓reduceIte, List.set_cons_zero, List.set_cons_succ])
  refine DW.loop (ι := { i : Nat // i ≤ nPap x }) (fun i => ⟨87, [(6, dI i.1), (5, .box 5 0), (4, .box 4 0), (3, .box 3 0), (2, .box 2 0), (1, .box 1 0)], [(84, .row 1 (rowC (rows eI (nL (mF x 0))))), (67, .row 1 (rowC (rows eI (nL (mP x 0))))), (32, .row 1 (rowC (rows eI (nL (kT (wSto x) 2 i.1))))), (31, .row 1 (rowC (rows eI (nL (kT (wSto x) 1 i.1))))), (5, .box [.own 31, .own 32]), (4, .box [.own 67, .own 84]), (3, .box [.c (.sl false 8 (rows eP (wSto x).papers)), .c (.sl false 4 (rows eF (wSto x).flutes))]), (2, .box [.c (.v (.slice none 0 0)), .c (.v (.slice none 0 0))]), (1, .box [.c (.sl b 6 (rows e6 x.papers)), .c (.sl b 3 (rows e3 x.flutes)), .c (.sl b 1 (rows eY x.by'))])]⟩) (fun i => nPap x - i.1) ⟨0, Nat.zero_le _⟩ ?_ ?_
  · refine Ent.to ?_ ?_ <;> simp (disch := omega) only [wkT_cons, wkX_cons, wkT_nil, wkX_nil, get, Nat.reduceEqDiff, ↓reduceIte, ex_some, wk_self, wk_top, wk_nil, wkB_self, and_self, dI, i64_in, and_true, true_and, Int.natCast_add, Int.natCast_one, Int.ofNat_zero, Int.natCast_zero]
    exact ⟨.refl _, .refl _, .refl _, .refl _⟩
  rintro ⟨i, hi⟩
  dsimp only
  rcases Nat.lt_or_ge i (nPap x) with hlt | hge
  · have hd : decide ((i : Int) < ((wSto x).papers.length : Int)) = true := by rw [decide_eq_true_eq, hp]; omega
    have hpa := papAt_get (s := wSto x) (n := i) (by rw [hp]; exact hlt)
    have hk := (papAt_ok hso (n := i) (by rw [hp]; exact hlt)).kind
    have l1 := kT_len (wSto x) 1 i
    have l2 := kT_len (wSto x) 2 i
    have n1 := kT_succ (wSto x) 1 i
    have n2 := kT_succ (wSto x) 2 i
    generalize papAt (wSto x) i = p at *
    generalize kT (wSto x) 1 i = a1 at *
    generalize kT (wSto x) 2 i = a2 at *
    rcases hk with hk | hk
    · have hk0 : p.kind - 1 = 0 := by omega
      rw [if_pos hk] at n1
      rw [if_neg (by omega)] at n2
      have q1 : nL (a1 ++ [i]) = nL a1 ++ [(i : Int)] := (nL_snoc a1 i).symm
      have ln1 := nL_length a1
      generalize nL a1 = c1 at *
      repeat' (first
    | (with_reducible refine DW.seq ?_)
    | (with_reducible refine DW.block ?_)
    | (with_reducible refine DW.skip ?_)
    | (with_reducible refine DW.exit ?_)
    | (with_reducible refine DW.ret ?_)
    | (with_reducible refine DW.reg ?_)
    | (refine DW.dreg rfl (WF.of (by first | rfl | simp (disch := omega) only [go_sem, Nat.reduceLT, Nat.reduceLeDiff, Nat.reduceAdd, Nat.reduceMul, Nat.reduceEqDiff, ↓reduceIte, reduceCtorEq, Nat.reduceBEq, Nat.reduceBNe, Nat.reducePow, Int.reduceLE, Int.reduceLT, Int.reduceNeg, Int.reduceToNat, Int.reduceEq, Int.reduceAdd, Int.reduceSub, Int.reduceMul, Int.reduceBEq, Int.reduceBNe, Blk.men, Blk.keysIn, hd, hpa, hk0, List.map_cons, List.map_nil])) ?_)
    | (simp (disch := omega) only [go_sem, Nat.reduceLT, Nat.reduceLeDiff, Nat.reduceAdd, Nat.reduceMul, Nat.reduceEqDiff, ↓reduceIte, reduceCtorEq, Nat.reduceBEq, Nat.reduceBNe, Nat.reducePow, Int.reduceLE, Int.reduceLT, Int.reduceNeg, Int.reduceToNat, Int.reduceEq, Int.reduceAdd, Int.reduceSub, Int.reduceMul, Int.reduceBEq, Int.reduceBNe, Blk.men, Blk.keysIn, hd, hpa, hk0, List.map_cons, List.map_nil])
    | (exact retS_of rfl rfl rfl)
    | (refine DW.cond_tt rfl ?_)
    | (refine DW.cond_ff rfl ?_)
    | (refine DW.cond rfl ?_ ?_ <;> intro hc <;> (try simp only [go_sem] at hc))
    | (refine g_split ?_ ?_ <;> intro hc <;> (try simp only [hc]) <;> (try simp only [go_sem] at hc)))
      refine ⟨⟨i + 1, hlt⟩, ?_, Ent.to ?_ ?_⟩ <;> first | (show _ < _; (try simp only); omega) | (simp (disch := omega) only [wkT_cons, wkX_cons, wkT_nil, wkX_nil, get, Nat.reduceEqDiff, ↓reduceIte, ex_some, wk_self, wk_top, wk_nil, wkB_self, and_self, dI, i64_in, and_true, true_and, Int.natCast_add, Int.natCast_one, Int.ofNat_zero, Int.natCast_zero,  n1, n2, q1])
      all_goals exact .refl _
    · have hk0 : p.kind - 1 = 1 := by omega
      rw [if_neg (by omega)] at n1
      rw [if_pos hk] at n2
      have q1 : nL (a2 ++ [i]) = nL a2 ++ [(i : Int)] := (nL_snoc a2 i).symm
      have ln1 := nL_length a2
      generalize nL a2 = c1 at *
      repeat' (first
    | (with_reducible refine DW.seq ?_)
    | (with_reducible refine DW.block ?_)
    | (with_reducible refine DW.skip ?_)
    | (with_reducible refine DW.exit ?_)
    | (with_reducible refine DW.ret ?_)
    | (with_reducible refine DW.reg ?_)
    | (refine DW.dreg rfl (WF.of (by first | rfl | simp (disch := omega) only [go_sem, Nat.reduceLT, Nat.reduceLeDiff, Nat.reduceAdd, Nat.reduceMul, Nat.reduceEqDiff, ↓reduceIte, reduceCtorEq, Nat.reduceBEq, Nat.reduceBNe, Nat.reducePow, Int.reduceLE, Int.reduceLT, Int.reduceNeg, Int.reduceToNat, Int.reduceEq, Int.reduceAdd, Int.reduceSub, Int.reduceMul, Int.reduceBEq, Int.reduceBNe, Blk.men, Blk.keysIn, hd, hpa, hk0, List.map_cons, List.map_nil])) ?_)
    | (simp (disch := omega) only [go_sem, Nat.reduceLT, Nat.reduceLeDiff, Nat.reduceAdd, Nat.reduceMul, Nat.reduceEqDiff, ↓reduceIte, reduceCtorEq, Nat.reduceBEq, Nat.reduceBNe, Nat.reducePow, Int.reduceLE, Int.reduceLT, Int.reduceNeg, Int.reduceToNat, Int.reduceEq, Int.reduceAdd, Int.reduceSub, Int.reduceMul, Int.reduceBEq, Int.reduceBNe, Blk.men, Blk.keysIn, hd, hpa, hk0, List.map_cons, List.map_nil])
    | (exact retS_of rfl rfl rfl)
    | (refine DW.cond_tt rfl ?_)
    | (refine DW.cond_ff rfl ?_)
    | (refine DW.cond rfl ?_ ?_ <;> intro hc <;> (try simp only [go_sem] at hc))
    | (refine g_split ?_ ?_ <;> intro hc <;> (try simp only [hc]) <;> (try simp only [go_sem] at hc)))
      refine ⟨⟨i + 1, hlt⟩, ?_, Ent.to ?_ ?_⟩ <;> first | (show _ < _; (try simp only); omega) | (simp (disch := omega) only [wkT_cons, wkX_cons, wkT_nil, wkX_nil, get, Nat.reduceEqDiff, ↓reduceIte, ex_some, wk_self, wk_top, wk_nil, wkB_self, and_self, dI, i64_in, and_true, true_and, Int.natCast_add, Int.natCast_one, Int.ofNat_zero, Int.natCast_zero,  n1, n2, q1])
      all_goals exact .refl _
  · obtain rfl : i = nPap x := by omega
    have hd : decide ((nPap x : Int) < ((wSto x).papers.length : Int)) = false := by rw [decide_eq_false_iff_not, hp]; omega
    have hb0 := arByte b x.by' 0 (by omega) h.by'
    rw [show ((0 : Nat) : Int) = 0 from rfl] at hb0
    have h28 : byteI x.by' 0 < 256 := by
      unfold byteI
      cases hv : x.by'[0 % x.by'.length]? with
      | none => decide
      | some v => exact h.by' v (List.mem_of_getElem? hv)
    have hm2 : byteI x.by' 0 % 2 < 2 := Nat.mod_lt _ (by decide)
    have hnfI : 1 + ((byteI x.by' 0 % 2 : Nat) : Int) = (nfOf x : Int) := by unfold nfOf; omega
    have hnf2 : 1 ≤ nfOf x ∧ nfOf x ≤ 2 := by unfold nfOf; omega
    repeat' (first
    | (with_reducible refine DW.seq ?_)
    | (with_reducible refine DW.block ?_)
    | (with_reducible refine DW.skip ?_)
    | (with_reducible refine DW.exit ?_)
    | (with_reducible refine DW.ret ?_)
    | (with_reducible refine DW.reg ?_)
    | (refine DW.dreg rfl (WF.of (by first | rfl | simp (disch := omega) only [go_sem, Nat.reduceLT, Nat.reduceLeDiff, Nat.reduceAdd, Nat.reduceMul, Nat.reduceEqDiff, ↓reduceIte, reduceCtorEq, Nat.reduceBEq, Nat.reduceBNe, Nat.reducePow, Int.reduceLE, Int.reduceLT, Int.reduceNeg, Int.reduceToNat, Int.reduceEq, Int.reduceAdd, Int.reduceSub, Int.reduceMul, Int.reduceBEq, Int.reduceBNe, Blk.men, Blk.keysIn, hd, t2, hnfI])) ?_)
    | (simp (disch := omega) only [go_sem, Nat.reduceLT, Nat.reduceLeDiff, Nat.reduceAdd, Nat.reduceMul, Nat.reduceEqDiff, ↓reduceIte, reduceCtorEq, Nat.reduceBEq, Nat.reduceBNe, Nat.reducePow, Int.reduceLE, Int.reduceLT, Int.reduceNeg, Int.reduceToNat, Int.reduceEq, Int.reduceAdd, Int.reduceSub, Int.reduceMul, Int.reduceBEq, Int.reduceBNe, Blk.men, Blk.keysIn, hd, t2, hnfI])
    | (exact retS_of rfl rfl rfl)
    | (refine DW.cond_tt rfl ?_)
    | (refine call_c (hb0) (by decide) ?_)
    | (refine DW.cond_ff rfl ?_)
    | (refine DW.cond rfl ?_ ?_ <;> intro hc <;> (try simp only [go_sem] at hc))
    | (refine g_split ?_ ?_ <;> intro hc <;> (try simp only [hc]) <;> (try simp only [go_sem] at hc)))
    clear hb0 h28 hm2 hnfI hd
    generalize hnfe : nfOf x = nf at *
    refine DW.loop (ι := { i : Nat // i ≤ 2 * nf + 1 }) (fun i => ⟨87, [(9, dI i.1), (8, dI nf), (5, .box 5 0), (4, .box 4 0), (3, .box 3 0), (2, .box 2 0), (1, .box 1 0)], [(84, .row 1 (rowC (rows eI (nL (mF x (i.1 / 2)))))), (67, .row 1 (rowC (rows eI (nL (mP x i.1))))), (32, .row 1 (rowC (rows eI (nL (kT (wSto x) 2 (nPap x)))))), (31, .row 1 (rowC (rows eI (nL (kT (wSto x) 1 (nPap x)))))), (5, .box [.own 31, .own 32]), (4, .box [.own 67, .own 84]), (3, .box [.c (.sl false 8 (rows eP (wSto x).papers)), .c (.sl false 4 (rows eF (wSto x).flutes))]), (2, .box [.c (.v (.slice none 0 0)), .c (.v (.slice none 0 0))]), (1, .box [.c (.sl b 6 (rows e6 x.papers)), .c (.sl b 3 (rows e3 x.flutes)), .c (.sl b 1 (rows eY x.by'))])]⟩) (fun i => 2 * nf + 1 - i.1) ⟨0, Nat.zero_le _⟩ ?_ ?_
    · refine Ent.to ?_ ?_ <;> simp (disch := omega) only [wkT_cons, wkX_cons, wkT_nil, wkX_nil, get, Nat.reduceEqDiff, ↓reduceIte, ex_some, wk_self, wk_top, wk_nil, wkB_self, and_self, dI, i64_in, and_true, true_and, Int.natCast_add, Int.natCast_one, Int.ofNat_zero, Int.natCast_zero, Nat.zero_div]
    clear hi
    rintro ⟨i, hi⟩
    dsimp only
    rcases Nat.lt_or_ge i (2 * nf + 1) with hlt | hge
    · have hd : decide ((i : Int) < 2 * (nf : Int) + 1) = true := by rw [decide_eq_true_eq]; omega
      have hb1 := arByte b x.by' (i + 1) (by omega) h.by'
      rw [Int.natCast_add, Int.natCast_one] at hb1
      have hkp := kOf_pos x i
      have hkl := kOf_len x i
      have hat := mkPap_at x i
      have hmm := (mkPap_mem x i).1
      have hsP := mP_succ x i
      have hlP := mP_len x i
      have hlF := mF_len x (i / 2)
      have hz : (((kOf x i).length : Int) = 0) = False := eq_false (by omega)
      have hr : (byteI x.by' (i + 1) : Int).tmod ((kOf x i).length : Int) = ((byteI x.by' (i + 1) % (kOf x i).length : Nat) : Int) := tmodN _ _
      have hjl : byteI x.by' (i + 1) % (kOf x i).length < (kOf x i).length := Nat.mod_lt _ hkp
      have hj1 : (byteI x.by' (i + 1) % (kOf x i).length < (kOf x i).length) = True := eq_true hjl
      have hj2 := nL_at hat
      have hrem : (i : Int).tmod 2 = ((i % 2 : Nat) : Int) := t2 i
      have hkk : kOf x i = kT (wSto x) (if i % 2 = 0 then 1 else 2) (nPap x) := rfl
      generalize mkPap x i = v at *
      generalize byteI x.by' (i + 1) % (kOf x i).length = j at *
      generalize byteI x.by' (i + 1) = y at *
      have hln1 := nL_length (mP x i)
      have hln2 := nL_length (mF x (i / 2))
      have hln3 := nL_length (kOf x i)
      rcases (by omega : i % 2 = 0 ∨ i % 2 = 1) with ho | ho
      · rw [if_pos ho] at hkk
        rw [← hkk]
        rw [ho] at hrem
        generalize kOf x i = kk at *
        generalize nL kk = ck at *
        have hdiv : (i + 1) / 2 = i / 2 := by omega
        generalize nL (mP x i) = cp at *
        repeat' (first
    | (with_reducible refine DW.seq ?_)
    | (with_reducible refine DW.block ?_)
    | (with_reducible refine DW.skip ?_)
    | (with_reducible refine DW.exit ?_)
    | (with_reducible refine DW.ret ?_)
    | (with_reducible refine DW.reg ?_)
    | (refine DW.dreg rfl (WF.of (by first | rfl | simp (disch := omega) only [go_sem, Nat.reduceLT, Nat.reduceLeDiff, Nat.reduceAdd, Nat.reduceMul, Nat.reduceEqDiff, ↓reduceIte, reduceCtorEq, Nat.reduceBEq, Nat.reduceBNe, Nat.reducePow, Int.reduceLE, Int.reduceLT, Int.reduceNeg, Int.reduceToNat, Int.reduceEq, Int.reduceAdd, Int.reduceSub, Int.reduceMul, Int.reduceBEq, Int.reduceBNe, Blk.men, Blk.keysIn, hd, hrem, hz, hr, hj1, hj2, hln3])) ?_)
    | (simp (disch := omega) only [go_sem, Nat.reduceLT, Nat.reduceLeDiff, Nat.reduceAdd, Nat.reduceMul, Nat.reduceEqDiff, ↓reduceIte, reduceCtorEq, Nat.reduceBEq, Nat.reduceBNe, Nat.reducePow, Int.reduceLE, Int.reduceLT, Int.reduceNeg, Int.reduceToNat, Int.reduceEq, Int.reduceAdd, Int.reduceSub, Int.reduceMul, Int.reduceBEq, Int.reduceBNe, Blk.men, Blk.keysIn, hd, hrem, hz, hr, hj1, hj2, hln3])
    | (exact retS_of rfl rfl rfl)
    | (refine DW.cond_tt rfl ?_)
    | (refine call_c (hb1) (by decide) ?_)
    | (refine DW.cond_ff rfl ?_)
    | (refine DW.cond rfl ?_ ?_ <;> intro hc <;> (try simp only [go_sem] at hc))
    | (refine g_split ?_ ?_ <;> intro hc <;> (try simp only [hc]) <;> (try simp only [go_sem] at hc)))
        refine ⟨⟨i + 1, hlt⟩, ?_, Ent.to ?_ ?_⟩ <;> first | (show _ < _; (try simp only); omega) | (simp (disch := omega) only [wkT_cons, wkX_cons, wkT_nil, wkX_nil, get, Nat.reduceEqDiff, ↓reduceIte, ex_some, wk_self, wk_top, wk_nil, wkB_self, and_self, dI, i64_in, and_true, true_and, Int.natCast_add, Int.natCast_one, Int.ofNat_zero, Int.natCast_zero,  hsP, hdiv])
        all_goals exact .refl _
      · rw [if_neg (by omega)] at hkk
        rw [← hkk]
        rw [ho] at hrem
        have hb6 := arByte b x.by' (i + 6) (by omega) h.by'
        rw [Int.natCast_add] at hb6
        have hb6' : DCall Try.prog 33 [.c (.sl b 1 (rows eY x.by')), dI ((i : Int) + 6)] [] (dI (byteI x.by' (i + 6))) [] := hb6
        clear hb6
        have hzf : ((nFlu x : Int) = 0) = False := eq_false (by omega)
        have hrf : (byteI x.by' (i + 6) : Int).tmod (nFlu x : Int) = ((byteI x.by' (i + 6) % nFlu x : Nat) : Int) := tmodN _ _
        have hwf : ((wSto x).flutes.length : Int) = (nFlu x : Int) := by rw [hf]
        have hmf : mkFlu x (i / 2) = byteI x.by' (i + 6) % nFlu x := by unfold mkFlu; rw [show 2 * (i / 2) + 1 + 6 = i + 6 by omega]
        have hsF := mF_succ x (i / 2)
        rw [hmf, show i / 2 + 1 = (i + 1) / 2 by omega] at hsF
        have hfl : byteI x.by' (i + 6) % nFlu x < nFlu x := Nat.mod_lt _ (by omega)
        generalize byteI x.by' (i + 6) % nFlu x = u at *
        generalize byteI x.by' (i + 6) = z at *
        generalize kOf x i = kk at *
        generalize nL kk = ck at *
        generalize nL (mP x i) = cp at *
        generalize nL (mF x (i / 2)) = cf at *
        repeat' (first
    | (with_reducible refine DW.seq ?_)
    | (with_reducible refine DW.block ?_)
    | (with_reducible refine DW.skip ?_)
    | (with_reducible refine DW.exit ?_)
    | (with_reducible refine DW.ret ?_)
    | (with_reducible refine DW.reg ?_)
    | (refine DW.dreg rfl (WF.of (by first | rfl | simp (disch := omega) only [go_sem, Nat.reduceLT, Nat.reduceLeDiff, Nat.reduceAdd, Nat.reduceMul, Nat.reduceEqDiff, ↓reduceIte, reduceCtorEq, Nat.reduceBEq, Nat.reduceBNe, Nat.reducePow, Int.reduceLE, Int.reduceLT, Int.reduceNeg, Int.reduceToNat, Int.reduceEq, Int.reduceAdd, Int.reduceSub, Int.reduceMul, Int.reduceBEq, Int.reduceBNe, Blk.men, Blk.keysIn, hd, hrem, hz, hr, hj1, hj2, hln3, hzf, hrf, hwf])) ?_)
    | (simp (disch := omega) only [go_sem, Nat.reduceLT, Nat.reduceLeDiff, Nat.reduceAdd, Nat.reduceMul, Nat.reduceEqDiff, ↓reduceIte, reduceCtorEq, Nat.reduceBEq, Nat.reduceBNe, Nat.reducePow, Int.reduceLE, Int.reduceLT, Int.reduceNeg, Int.reduceToNat, Int.reduceEq, Int.reduceAdd, Int.reduceSub, Int.reduceMul, Int.reduceBEq, Int.reduceBNe, Blk.men, Blk.keysIn, hd, hrem, hz, hr, hj1, hj2, hln3, hzf, hrf, hwf])
    | (exact retS_of rfl rfl rfl)
    | (refine DW.cond_tt rfl ?_)
    | (refine call_c (hb1) (by decide) ?_)
    | (refine call_c (hb6') (by decide) ?_)
    | (refine DW.cond_ff rfl ?_)
    | (refine DW.cond rfl ?_ ?_ <;> intro hc <;> (try simp only [go_sem] at hc))
    | (refine g_split ?_ ?_ <;> intro hc <;> (try simp only [hc]) <;> (try simp only [go_sem] at hc)))
        refine ⟨⟨i + 1, hlt⟩, ?_, Ent.to ?_ ?_⟩ <;> first | (show _ < _; (try simp only); omega) | (simp (disch := omega) only [wkT_cons, wkX_cons, wkT_nil, wkX_nil, get, Nat.reduceEqDiff, ↓reduceIte, ex_some, wk_self, wk_top, wk_nil, wkB_self, and_self, dI, i64_in, and_true, true_and, Int.natCast_add, Int.natCast_one, Int.ofNat_zero, Int.natCast_zero,  hsP, hsF])
        all_goals exact .refl _
    · obtain rfl : i = 2 * nf + 1 := by omega
      have hd : decide (((2 * nf + 1 : Nat) : Int) < 2 * (nf : Int) + 1) = false := by rw [decide_eq_false_iff_not]; omega
      have hdv : (2 * nf + 1) / 2 = nf := by omega
      have hwm : wMak x = ⟨mP x (2 * nf + 1), mF x nf⟩ := by rw [← hnfe]; rfl
      rw [hwm, hdv]
      repeat' (first
    | (with_reducible refine DW.seq ?_)
    | (with_reducible refine DW.block ?_)
    | (with_reducible refine DW.skip ?_)
    | (with_reducible refine DW.exit ?_)
    | (with_reducible refine DW.ret ?_)
    | (with_reducible refine DW.reg ?_)
    | (refine DW.dreg rfl (WF.of (by first | rfl | simp (disch := omega) only [go_sem, Nat.reduceLT, Nat.reduceLeDiff, Nat.reduceAdd, Nat.reduceMul, Nat.reduceEqDiff, ↓reduceIte, reduceCtorEq, Nat.reduceBEq, Nat.reduceBNe, Nat.reducePow, Int.reduceLE, Int.reduceLT, Int.reduceNeg, Int.reduceToNat, Int.reduceEq, Int.reduceAdd, Int.reduceSub, Int.reduceMul, Int.reduceBEq, Int.reduceBNe, Blk.men, Blk.keysIn, hd])) ?_)
    | (simp (disch := omega) only [go_sem, Nat.reduceLT, Nat.reduceLeDiff, Nat.reduceAdd, Nat.reduceMul, Nat.reduceEqDiff, ↓reduceIte, reduceCtorEq, Nat.reduceBEq, Nat.reduceBNe, Nat.reducePow, Int.reduceLE, Int.reduceLT, Int.reduceNeg, Int.reduceToNat, Int.reduceEq, Int.reduceAdd, Int.reduceSub, Int.reduceMul, Int.reduceBEq, Int.reduceBNe, Blk.men, Blk.keysIn, hd])
    | (exact retS_of rfl rfl rfl)
    | (refine DW.cond_tt rfl ?_)
    | (refine DW.cond_ff rfl ?_)
    | (refine DW.cond rfl ?_ ?_ <;> intro hc <;> (try simp only [go_sem] at hc))
    | (refine g_split ?_ ?_ <;> intro hc <;> (try simp only [hc]) <;> (try simp only [go_sem] at hc)))
      (refine retS_ent (Ent.rel 84 rfl) ?_; simp (disch := omega) only [go_sem, Nat.reduceLT, Nat.reduceLeDiff, Nat.reduceAdd, Nat.reduceMul, Nat.reduceEqDiff, ↓reduceIte, reduceCtorEq, Nat.reduceBEq, Nat.reduceBNe, Nat.reducePow, Int.reduceLE, Int.reduceLT, Int.reduceNeg, Int.reduceToNat, Int.reduceEq, Int.reduceAdd, Int.reduceSub, Int.reduceMul, Int.reduceBEq, Int.reduceBNe, Blk.men, Blk.keysIn])
      (refine retS_ent (Ent.rel 67 rfl) ?_; simp (disch := omega) only [go_sem, Nat.reduceLT, Nat.reduceLeDiff, Nat.reduceAdd, Nat.reduceMul, Nat.reduceEqDiff, ↓reduceIte, reduceCtorEq, Nat.reduceBEq, Nat.reduceBNe, Nat.reducePow, Int.reduceLE, Int.reduceLT, Int.reduceNeg, Int.reduceToNat, Int.reduceEq, Int.reduceAdd, Int.reduceSub, Int.reduceMul, Int.reduceBEq, Int.reduceBNe, Blk.men, Blk.keysIn])
      refine retS_wk rfl ?_ (by simp only [Blk.nb, rowC_nb, D.nb, D.nbs, C.nb, C.nbs, C.nbss, rows_nb eI_nb, rows_nb eC_nb, rows_nb eL_nb, rows_nb eR_nb, rows_nb eS_nb, rows_nb eG_nb, Bool.and_true, Bool.not_false, Bool.and_self, bD, dI, iD, rows_nb eP_nb, rows_nb eF_nb, rows_nb eY_nb]); exact .refl _
end Go.Dw.Seat
end
section
set_option linter.unusedSimpArgs false
set_option maxRecDepth 100000
namespace Go.Dw.Seat
open Go Go.Dw Go.Proofs Go.IntWalk
theorem byteI_lt {l : List Nat} (h : ∀ v ∈ l, v < 256) (i : Nat) : byteI l i < 256 := by
  unfold byteI
  cases hv : l[i % l.length]? with
  | none => decide
  | some v => exact h v (List.mem_of_getElem? hv)
theorem partsAt_w {s : Sto} {m : Mak} (hs : s.ok) (h : m.ok s) {i : Nat} (hi : i < m.papers.length) : 0 ≤ partsAt s m i ∧ partsAt s m i ≤ 2 * wholeI s m := by
  have hw := wholeI_b hs h
  unfold partsAt
  split
  · rename_i ho
    have hf := fluAt_ok hs (flute_at h hi ho).2
    have h1 := hf.pitch
    have h2 := hf.draw
    generalize fluAt s (m.flutes[i / 2]?.getD 0) = f at *
    generalize wholeI s m = w at *
    rw [Int.tdiv_eq_ediv_of_nonneg (by omega)]
    have q0 : 0 ≤ w / f.pitch := Int.ediv_nonneg (by omega) (by omega)
    have q1 : w / f.pitch * f.pitch ≤ w := Int.ediv_mul_le w (by omega)
    have q2 : w / f.pitch * f.draw ≤ w / f.pitch * (2 * f.pitch) := Int.mul_le_mul_of_nonneg_left h2.2 q0
    have q3 : 0 ≤ w / f.pitch * f.draw := Int.mul_nonneg q0 (by omega)
    have q4 : w / f.pitch * (2 * f.pitch) = 2 * (w / f.pitch * f.pitch) := by rw [Int.mul_left_comm]
    omega
  · omega
theorem sumF_w (f : Pap → Int) (s : Sto) (F W : Int) : ∀ (l : List (Nat × Int)) (n : Int), (∀ e ∈ l, (0 ≤ f (papAt s e.1) ∧ f (papAt s e.1) ≤ F) ∧ 0 ≤ e.2 ∧ e.2 ≤ W) → n ≤ sumF f s n l ∧ sumF f s n l ≤ n + (l.length : Int) * (F * W)
  | [], n, _ => by simp [sumF]
  | e :: l, n, h => by
    have he := h e (by simp)
    have hm := mulB0 he.1 he.2
    have ih := sumF_w f s F W l (n + f (papAt s e.1) * e.2) (fun x hx => h x (by simp [hx]))
    have hs : sumF f s n (e :: l) = sumF f s (n + f (papAt s e.1) * e.2) l := rfl
    rw [hs, List.length_cons, Int.natCast_add, Int.natCast_one, Int.add_mul, Int.one_mul]
    omega
theorem layers_w {s : Sto} {m : Mak} (hs : s.ok) (h : m.ok s) : ∀ e ∈ layersL s m, e.1 < s.papers.length ∧ 0 ≤ e.2 ∧ e.2 ≤ 2 * wholeI s m := by
  intro e he
  obtain ⟨i, hi⟩ := List.getElem?_of_mem he
  have hlt : i < m.papers.length := by
    rcases Nat.lt_or_ge i m.papers.length with h | h
    · exact h
    · rw [List.getElem?_eq_none (by rw [layersL_len]; exact h)] at hi; cases hi
  obtain ⟨v, hv⟩ := getE (l := m.papers) (i := i) hlt
  rw [layersL_get hv] at hi
  cases hi
  exact ⟨h.papers v (List.mem_of_getElem? hv), partsAt_w hs h hlt⟩
theorem sum_quot {s : Sto} {m : Mak} (hs : s.ok) (h : m.ok s) (f : Pap → Int) (F : Int) (hF : 0 ≤ F) (hf : ∀ p ∈ s.papers, 0 ≤ f p ∧ f p ≤ F) : 0 ≤ sumI f s m ∧ sumI f s m ≤ 10 * F * wholeI s m := by
  have hw := wholeI_b hs h
  have h1 := sumF_w f s F (2 * wholeI s m) (layersL s m) 0 (fun e he => by
    have hl := layers_w hs h e he
    exact ⟨hf _ (List.mem_of_getElem? (papAt_get hl.1)), hl.2⟩)
  have h5 : ((layersL s m).length : Int) ≤ 5 := by rw [layersL_len]; have := h.np; have := h.nf; omega
  have hFW : 0 ≤ F * (2 * wholeI s m) := Int.mul_nonneg hF (by omega)
  have h6 := Int.mul_le_mul_of_nonneg_right h5 hFW
  have e1 : 5 * (F * (2 * wholeI s m)) = 10 * F * wholeI s m := by
    rw [Int.mul_left_comm F 2, ← Int.mul_assoc, ← Int.mul_assoc]; rfl
  unfold sumI
  omega
theorem strongI_b {s : Sto} {m : Mak} (hs : s.ok) (h : m.ok s) (F : Int) (hF : 0 ≤ F) (hf : ∀ p ∈ s.papers, 0 ≤ p.strong ∧ p.strong ≤ F) : 0 ≤ strongI s m ∧ strongI s m ≤ 10 * F := by
  have hq := sum_quot hs h Pap.strong F hF hf
  have hw := wholeI_b hs h
  unfold strongI
  rw [Int.tdiv_eq_ediv_of_nonneg hq.1]
  refine ⟨Int.ediv_nonneg hq.1 (by omega), ?_⟩
  have := Int.ediv_le_ediv (by omega : 0 < wholeI s m) hq.2
  rwa [Int.mul_ediv_cancel _ (by omega)] at this
end Go.Dw.Seat
end
section
set_option linter.unusedSimpArgs false
set_option maxRecDepth 100000
namespace Go.Dw.Seat
open Go Go.Dw Go.Proofs Go.IntWalk
def untilF (r : CR) (st x : Int) : Nat → CLot → Int → Int
  | 0, l, more => if stateI r l = st then more else -1
  | k + 1, l, more => if stateI r l = st then more else untilF r st x k (l.after r x) (more + 1)
theorem crUntil (r : CR) (l : CLot) (st x : Int) (h : l.ok) (ht : 1 ≤ r.tests ∧ r.tests ≤ 20) (hm : 0 ≤ r.mean ∧ r.mean ≤ 100000) (hx : 0 ≤ x ∧ x ≤ 100000) (k : Nat) (hk : l.made + (k : Int) = r.tests) :
    DCall Try.prog 63 [dLot r l, dI st, dI x] [] (dI (untilF r st x k l 0)) [] := by
  generalize hR : untilF r st x k l 0 = R
  have h0 := h.made
  refine DCall.of Try.func63 sf63 hb63 (Nat.le_of_ble_eq_true rfl) (okRes_nil fun _ => rfl) ?_; simp only [s63, idxs, Nat.reduceAdd]
  repeat' (first
    | (with_reducible refine DW.seq ?_)
    | (with_reducible refine DW.block ?_)
    | (with_reducible refine DW.skip ?_)
    | (with_reducible refine DW.exit ?_)
    | (with_reducible refine DW.ret ?_)
    | (with_reducible refine DW.reg ?_)
    | (simp (disch := omega) only [go_sem, Nat.reduceLT, Nat.reduceLeDiff, Nat.reduceAdd, Nat.reduceMul, Nat.reduceEqDiff, ↓reduceIte, reduceCtorEq, Nat.reduceBEq, Nat.reduceBNe, Nat.reducePow, Int.reduceLE, Int.reduceLT, Int.reduceNeg, Int.reduceToNat, Int.reduceEq, Int.reduceAdd, Int.reduceSub, Int.reduceMul, Int.reduceBEq, Int.reduceBNe, Blk.men, Blk.keysIn])
    | (exact retS_of rfl rfl rfl)
    | (refine DW.cond_tt rfl ?_)
    | (refine DW.cond_ff rfl ?_)
    | (refine DW.cond rfl ?_ ?_ <;> intro hc <;> (try simp only [go_sem] at hc))
    | (refine g_split ?_ ?_ <;> intro hc <;> (try simp only [hc]) <;> (try simp only [go_sem] at hc)))
  refine DW.loop (ι := { y : Nat × CLot × Int // y.2.1.ok ∧ y.2.1.made + (y.1 : Int) = r.tests ∧ untilF r st x y.1 y.2.1 y.2.2 = R ∧ 0 ≤ y.2.2 ∧ y.2.2 + (y.1 : Int) ≤ 100 })
    (fun y => ⟨24, [(7, dI y.1.2.2), (3, .box 3 0), (2, dI x), (1, dI st)], [(3, .box [dI r.tests, dI r.mean, dI r.low, dI r.bad, dI y.1.2.1.off, dI y.1.2.1.made, dI y.1.2.1.ws, dI y.1.2.1.wb, dI y.1.2.1.bs, dI y.1.2.1.bb])]⟩) (fun y => y.1.1) ⟨(k, l, 0), h, hk, hR, Int.le_refl _, by dsimp only; omega⟩ ?_ ?_
  · refine Ent.to ?_ ?_ <;> simp (disch := omega) only [wkT_cons, wkX_cons, wkT_nil, wkX_nil, get, Nat.reduceEqDiff, ↓reduceIte, ex_some, wk_self, wk_top, wk_nil, wkB_self, and_self, dI, i64_in, and_true, true_and, Int.natCast_add, Int.natCast_one, Int.ofNat_zero, Int.natCast_zero]
  rintro ⟨⟨j, l', more⟩, i1, i2, i3, i4, i5⟩
  dsimp only at i1 i2 i3 i4 i5 ⊢
  have hmd := i1.made
  have hst := crState r l' i1 ht hm (by omega)
  by_cases hs : stateI r l' = st
  · have he : (stateI r l' == st) = true := by rw [hs]; simp
    have hr : R = more := by
      rw [← i3]
      cases j with
      | zero => rw [untilF, if_pos hs]
      | succ j => rw [untilF, if_pos hs]
    repeat' (first
    | (with_reducible refine DW.seq ?_)
    | (with_reducible refine DW.block ?_)
    | (with_reducible refine DW.skip ?_)
    | (with_reducible refine DW.exit ?_)
    | (with_reducible refine DW.ret ?_)
    | (with_reducible refine DW.reg ?_)
    | (simp (disch := omega) only [go_sem, Nat.reduceLT, Nat.reduceLeDiff, Nat.reduceAdd, Nat.reduceMul, Nat.reduceEqDiff, ↓reduceIte, reduceCtorEq, Nat.reduceBEq, Nat.reduceBNe, Nat.reducePow, Int.reduceLE, Int.reduceLT, Int.reduceNeg, Int.reduceToNat, Int.reduceEq, Int.reduceAdd, Int.reduceSub, Int.reduceMul, Int.reduceBEq, Int.reduceBNe, Blk.men, Blk.keysIn, he])
    | (exact retS_of rfl rfl rfl)
    | (refine DW.cond_tt rfl ?_)
    | (refine call_c (hst) (by decide) ?_)
    | (refine DW.cond_ff rfl ?_)
    | (refine DW.cond rfl ?_ ?_ <;> intro hc <;> (try simp only [go_sem] at hc))
    | (refine g_split ?_ ?_ <;> intro hc <;> (try simp only [hc]) <;> (try simp only [go_sem] at hc)))
    refine retS_of rfl ?_ rfl; simp only [oneD, St.op, get, Nat.reduceEqDiff, ↓reduceIte, Option.getD_some, bD, dI]
    rw [hr]
  · have he : (stateI r l' == st) = false := by rw [beq_eq_false_iff_ne]; exact hs
    rcases j with _ | j
    · have hme : (l'.made == r.tests) = true := by rw [beq_iff_eq]; omega
      have hr : R = -1 := by rw [← i3, untilF, if_neg hs]
      repeat' (first
    | (with_reducible refine DW.seq ?_)
    | (with_reducible refine DW.block ?_)
    | (with_reducible refine DW.skip ?_)
    | (with_reducible refine DW.exit ?_)
    | (with_reducible refine DW.ret ?_)
    | (with_reducible refine DW.reg ?_)
    | (simp (disch := omega) only [go_sem, Nat.reduceLT, Nat.reduceLeDiff, Nat.reduceAdd, Nat.reduceMul, Nat.reduceEqDiff, ↓reduceIte, reduceCtorEq, Nat.reduceBEq, Nat.reduceBNe, Nat.reducePow, Int.reduceLE, Int.reduceLT, Int.reduceNeg, Int.reduceToNat, Int.reduceEq, Int.reduceAdd, Int.reduceSub, Int.reduceMul, Int.reduceBEq, Int.reduceBNe, Blk.men, Blk.keysIn, he, hme])
    | (exact retS_of rfl rfl rfl)
    | (refine DW.cond_tt rfl ?_)
    | (refine call_c (hst) (by decide) ?_)
    | (refine DW.cond_ff rfl ?_)
    | (refine DW.cond rfl ?_ ?_ <;> intro hc <;> (try simp only [go_sem] at hc))
    | (refine g_split ?_ ?_ <;> intro hc <;> (try simp only [hc]) <;> (try simp only [go_sem] at hc)))
      refine retS_of rfl ?_ rfl; simp only [oneD, St.op, get, Nat.reduceEqDiff, ↓reduceIte, Option.getD_some, bD, dI]
      rw [hr]
    · have hme : (l'.made == r.tests) = false := by rw [beq_eq_false_iff_ne]; omega
      have hn : untilF r st x j (l'.after r x) (more + 1) = R := by rw [← i3, untilF, if_neg hs]
      have haf := crAfter r l' x i1 hx
      have hok := CLot.ok_after (r := r) i1 (by omega) hx
      have hma : (l'.after r x).made = l'.made + 1 := rfl
      generalize hla : l'.after r x = l2 at *
      repeat' (first
    | (with_reducible refine DW.seq ?_)
    | (with_reducible refine DW.block ?_)
    | (with_reducible refine DW.skip ?_)
    | (with_reducible refine DW.exit ?_)
    | (with_reducible refine DW.ret ?_)
    | (with_reducible refine DW.reg ?_)
    | (simp (disch := omega) only [go_sem, Nat.reduceLT, Nat.reduceLeDiff, Nat.reduceAdd, Nat.reduceMul, Nat.reduceEqDiff, ↓reduceIte, reduceCtorEq, Nat.reduceBEq, Nat.reduceBNe, Nat.reducePow, Int.reduceLE, Int.reduceLT, Int.reduceNeg, Int.reduceToNat, Int.reduceEq, Int.reduceAdd, Int.reduceSub, Int.reduceMul, Int.reduceBEq, Int.reduceBNe, Blk.men, Blk.keysIn, he, hme])
    | (exact retS_of rfl rfl rfl)
    | (refine DW.cond_tt rfl ?_)
    | (refine call_c (hst) (by decide) ?_)
    | (refine call_c (haf) (by decide) ?_)
    | (refine DW.cond_ff rfl ?_)
    | (refine DW.cond rfl ?_ ?_ <;> intro hc <;> (try simp only [go_sem] at hc))
    | (refine g_split ?_ ?_ <;> intro hc <;> (try simp only [hc]) <;> (try simp only [go_sem] at hc)))
      refine ⟨⟨(j, l2, more + 1), hok, by dsimp only; omega, hn, by dsimp only; omega, by dsimp only; omega⟩, ?_, Ent.to ?_ ?_⟩ <;> first | (show _ < _; (try simp only); omega) | (simp (disch := omega) only [wkT_cons, wkX_cons, wkT_nil, wkX_nil, get, Nat.reduceEqDiff, ↓reduceIte, ex_some, wk_self, wk_top, wk_nil, wkB_self, and_self, dI, i64_in, and_true, true_and, Int.natCast_add, Int.natCast_one, Int.ofNat_zero, Int.natCast_zero])
theorem crNeed (b : Bool) (r : CR) (rs : List Int) (off : Int) (h : CRok r rs off) (k : Nat) (hk : (rs.length : Int) + (k : Int) = r.tests) :
    DCall Try.prog 35 [dCR r, dIs b rs, dI off] [] (.tup [dI (untilF r 1 100000 k (lotOf r off rs) 0), dI (untilF r 2 0 k (lotOf r off rs) 0), dI 0]) [] := by
  have hlen := h.len
  have ht := h.tests
  have hm := (lotOf_made r off rs).1
  have hok := lotOf_ok (r := r) h.off rs (by omega) h.rs
  have h1 := crRule b r rs off h
  have h2 := crNew b r rs off h
  have h3 := crUntil r (lotOf r off rs) 1 100000 hok h.tests h.mean (by decide) k (by omega)
  have h4 := crUntil r (lotOf r off rs) 2 0 hok h.tests h.mean (by decide) k (by omega)
  refine DCall.of Try.func35 sf35 hb35 (Nat.le_of_ble_eq_true rfl) (okRes_nil fun _ => rfl) ?_; simp only [s35, idxs, Nat.reduceAdd]
  repeat' (first
    | (with_reducible refine DW.seq ?_)
    | (with_reducible refine DW.block ?_)
    | (with_reducible refine DW.skip ?_)
    | (with_reducible refine DW.exit ?_)
    | (with_reducible refine DW.ret ?_)
    | (with_reducible refine DW.reg ?_)
    | (refine DW.dreg rfl (WF.of (by first | rfl | simp (disch := omega) only [go_sem, Nat.reduceLT, Nat.reduceLeDiff, Nat.reduceAdd, Nat.reduceMul, Nat.reduceEqDiff, ↓reduceIte, reduceCtorEq, Nat.reduceBEq, Nat.reduceBNe, Nat.reducePow, Int.reduceLE, Int.reduceLT, Int.reduceNeg, Int.reduceToNat, Int.reduceEq, Int.reduceAdd, Int.reduceSub, Int.reduceMul, Int.reduceBEq, Int.reduceBNe, Blk.men, Blk.keysIn])) ?_)
    | (simp (disch := omega) only [go_sem, Nat.reduceLT, Nat.reduceLeDiff, Nat.reduceAdd, Nat.reduceMul, Nat.reduceEqDiff, ↓reduceIte, reduceCtorEq, Nat.reduceBEq, Nat.reduceBNe, Nat.reducePow, Int.reduceLE, Int.reduceLT, Int.reduceNeg, Int.reduceToNat, Int.reduceEq, Int.reduceAdd, Int.reduceSub, Int.reduceMul, Int.reduceBEq, Int.reduceBNe, Blk.men, Blk.keysIn])
    | (exact retS_of rfl rfl rfl)
    | (refine DW.cond_tt rfl ?_)
    | (refine call_c (h1) (by decide) ?_)
    | (refine call_c (h2) (by decide) ?_)
    | (refine call_c (h3) (by decide) ?_)
    | (refine call_c (h4) (by decide) ?_)
    | (refine DW.cond_ff rfl ?_)
    | (refine DW.cond rfl ?_ ?_ <;> intro hc <;> (try simp only [go_sem] at hc))
    | (refine g_split ?_ ?_ <;> intro hc <;> (try simp only [hc]) <;> (try simp only [go_sem] at hc)))
def afterN (r : CR) (x : Int) : Nat → CLot → CLot
  | 0, l => l
  | k + 1, l => afterN r x k (l.after r x)
theorem until_in (r : CR) (st x : Int) : ∀ (k : Nat) (l : CLot) (more : Int), stateI r (afterN r x k l) = st → more ≤ untilF r st x k l more ∧ untilF r st x k l more ≤ more + (k : Int)
  | 0, l, more, h => by
    have h' : stateI r l = st := h
    rw [untilF, if_pos h']; omega
  | k + 1, l, more, h => by
    rw [untilF]
    split
    · omega
    · have := until_in r st x k (l.after r x) (more + 1) h
      omega
theorem afterN_fold (r : CR) (x : Int) : ∀ (k : Nat) (l : CLot), afterN r x k l = (List.replicate k x).foldl (CLot.after r) l
  | 0, _ => rfl
  | k + 1, l => by rw [afterN, List.replicate_succ, List.foldl_cons]; exact afterN_fold r x k _
theorem ws_ge (r : CR) (M : Int) : ∀ (rs : List Int) (l : CLot), (∀ x ∈ rs, M ≤ lowT l.off x) → l.ws + (rs.length : Int) * M ≤ (rs.foldl (CLot.after r) l).ws
  | [], l, _ => by simp
  | x :: rs, l, h => by
    have ih := ws_ge r M rs (l.after r x) (fun y hy => h y (by simp [hy]))
    have h1 := h x (by simp)
    have e : (l.after r x).ws = l.ws + lowT l.off x := rfl
    rw [e] at ih
    rw [List.foldl_cons, List.length_cons, Int.natCast_add, Int.natCast_one, Int.add_mul, Int.one_mul]
    omega
theorem bs_le (r : CR) (M : Int) : ∀ (rs : List Int) (l : CLot), (∀ x ∈ rs, highT l.off x ≤ M) → (rs.foldl (CLot.after r) l).bs ≤ l.bs + (rs.length : Int) * M
  | [], l, _ => by simp
  | x :: rs, l, h => by
    have ih := bs_le r M rs (l.after r x) (fun y hy => h y (by simp [hy]))
    have h1 := h x (by simp)
    have e : (l.after r x).bs = l.bs + highT l.off x := rfl
    rw [e] at ih
    rw [List.foldl_cons, List.length_cons, Int.natCast_add, Int.natCast_one, Int.add_mul, Int.one_mul]
    omega
theorem ws_le_bs (r : CR) : ∀ (rs : List Int) (l : CLot), 0 ≤ l.off → (∀ x ∈ rs, 0 ≤ x ∧ x ≤ 100000) → l.ws ≤ l.bs → (rs.foldl (CLot.after r) l).ws ≤ (rs.foldl (CLot.after r) l).bs
  | [], _, _, _, h => h
  | x :: rs, l, ho, hx, h => by
    refine ws_le_bs r rs (l.after r x) ho (fun y hy => hx y (by simp [hy])) ?_
    have := hx x (by simp)
    have e : lowT l.off x ≤ highT l.off x := by unfold lowT highT; split <;> split <;> omega
    show l.ws + lowT l.off x ≤ l.bs + highT l.off x
    omega
theorem wb_zero (r : CR) (h0 : r.low = 0) : ∀ (rs : List Int) (l : CLot), 0 ≤ l.off → (∀ x ∈ rs, 0 ≤ x ∧ x ≤ 100000) → l.wb = 0 → (rs.foldl (CLot.after r) l).wb = 0
  | [], _, _, _, h => h
  | x :: rs, l, ho, hx, h => by
    refine wb_zero r h0 rs (l.after r x) ho (fun y hy => hx y (by simp [hy])) ?_
    have := (lowT_in ho (hx x (by simp))).1
    show (if lowT l.off x < r.low then l.wb + 1 else l.wb) = 0
    rw [h0, if_neg (by omega)]; exact h
theorem pass_state {n : Nat} {M B off : Int} {rs : List Int} (hl : rs.length = n) (h1 : n ≤ 20) (ho : 0 ≤ off ∧ off ≤ 1000) (hB : 0 ≤ B) (h2 : ∀ x ∈ rs, 0 ≤ x ∧ x ≤ 100000) (h3 : ∀ x ∈ rs, M ≤ lowT off x) :
    stateI ⟨n, M, 0, B⟩ (lotOf ⟨n, M, 0, B⟩ off rs) = 1 := by
  have hm := lotOf_made ⟨n, M, 0, B⟩ off rs
  have hk : ((n : Int) - (lotOf ⟨n, M, 0, B⟩ off rs).made).toNat = 0 := by rw [hm.1]; omega
  have hw := ws_ge ⟨n, M, 0, B⟩ M rs (CLot.new off) h3
  have hb := wb_zero ⟨n, M, 0, B⟩ rfl rs (CLot.new off) ho.1 h2 rfl
  have hw' : (n : Int) * M ≤ (lotOf ⟨n, M, 0, B⟩ off rs).ws := by
    have e : (CLot.new off).ws = 0 := rfl
    rw [e, Int.zero_add, hl] at hw
    exact hw
  have hb' : (lotOf ⟨n, M, 0, B⟩ off rs).wb = 0 := hb
  have hp : passI ⟨n, M, 0, B⟩ (lotOf ⟨n, M, 0, B⟩ off rs).made (lotOf ⟨n, M, 0, B⟩ off rs).ws (lotOf ⟨n, M, 0, B⟩ off rs).wb 0 = true := by
    have hb0 : badOf (lotOf ⟨n, M, 0, B⟩ off rs).wb 0 0 0 = 0 := by rw [hb']; unfold badOf; split <;> simp
    simp only [passI, hk, hb0, Int.mul_zero, Int.add_zero, hw', hB, decide_true, Bool.and_self]
  rw [stateI, hp, if_pos rfl]
theorem fail_state {n : Nat} {M B off : Int} {rs : List Int} (hl : rs.length = n) (hn : 1 ≤ n) (h1 : n ≤ 20) (ho : 0 ≤ off ∧ off ≤ 1000) (h2 : ∀ x ∈ rs, 0 ≤ x ∧ x ≤ 100000) (h3 : ∀ x ∈ rs, highT off x ≤ M) :
    stateI ⟨n, M + 1, 0, B⟩ (lotOf ⟨n, M + 1, 0, B⟩ off rs) = 2 := by
  have hm := lotOf_made ⟨n, M + 1, 0, B⟩ off rs
  have hk : ((n : Int) - (lotOf ⟨n, M + 1, 0, B⟩ off rs).made).toNat = 0 := by rw [hm.1]; omega
  have hw := bs_le ⟨n, M + 1, 0, B⟩ M rs (CLot.new off) h3
  have hwb := ws_le_bs ⟨n, M + 1, 0, B⟩ rs (CLot.new off) ho.1 h2 (Int.le_refl _)
  have hw' : (lotOf ⟨n, M + 1, 0, B⟩ off rs).bs ≤ (n : Int) * M := by
    have e : (CLot.new off).bs = 0 := rfl
    rw [e, Int.zero_add, hl] at hw
    exact hw
  have hwb' : (lotOf ⟨n, M + 1, 0, B⟩ off rs).ws ≤ (lotOf ⟨n, M + 1, 0, B⟩ off rs).bs := hwb
  have hx : (n : Int) * (M + 1) = (n : Int) * M + (n : Int) := by rw [Int.mul_add, Int.mul_one]
  have q : ∀ (s b rest : Int), s ≤ (n : Int) * M → passI ⟨n, M + 1, 0, B⟩ (lotOf ⟨n, M + 1, 0, B⟩ off rs).made s b rest = false := fun s b rest hs => by
    have : decide ((n : Int) * (M + 1) ≤ s) = false := by rw [decide_eq_false_iff_not]; omega
    simp only [passI, hk, Int.ofNat_zero, Int.natCast_zero, Int.zero_mul, Int.add_zero, this, Bool.false_and]
  rw [stateI, q _ _ _ (by omega), q _ _ _ hw']
  rfl
def mx0 (x : Int) : Int := if 0 < x then x else 0
def rdT (e : Int) (o : Nat) (y : Nat) : Int := mx0 (e - (o : Int) + ((y % (2 * o + 1) : Nat) : Int))
theorem rdT_in {e : Int} {o y : Nat} (he : 0 ≤ e ∧ e ≤ 50000) (ho : o < 30) : (0 ≤ rdT e o y ∧ rdT e o y ≤ 100000) ∧ mx0 (e - 2 * (o : Int)) ≤ lowT (o : Int) (rdT e o y) ∧ highT (o : Int) (rdT e o y) ≤ e + 2 * (o : Int) := by
  have h2 : y % (2 * o + 1) < 2 * o + 1 := Nat.mod_lt _ (by omega)
  unfold rdT mx0 lowT highT
  generalize y % (2 * o + 1) = m at *
  refine ⟨⟨?_, ?_⟩, ?_, ?_⟩ <;> repeat' split
  all_goals omega
theorem wSto_strong {x : War} (h : x.ok) : ∀ p ∈ (wSto x).papers, 0 ≤ p.strong ∧ p.strong ≤ 2550 := by
  intro p hp
  obtain ⟨i, hi, rfl⟩ := List.mem_map.1 hp
  rw [List.mem_range] at hi
  have := (papV_ok h (i := i) (by unfold nPap at hi; omega)).v5
  show 0 ≤ 10 * ((papV x i).v5 : Int) ∧ 10 * ((papV x i).v5 : Int) ≤ 2550
  omega
end Go.Dw.Seat
end
section
set_option linter.unusedSimpArgs false
set_option maxRecDepth 100000
namespace Go.Dw.Seat
open Go Go.Dw Go.Proofs Go.IntWalk
set_option maxHeartbeats 3200000 in
theorem tpTested (b b' : Bool) (x : War) (hx : x.ok) (v0 v1 : Nat) (h0 : v0 < 256) (h1 : v1 < 256) (tr : List Nat) (ht : ∀ v ∈ tr, v < 256) : DCall Try.prog 6 [dWar b x, .agg [d8 v0, d8 v1], .c (.sl b' 1 (rows eY tr))] [] (bD true) [] := by
  have hst := arStore b x hx
  have hmk := arMake b x hx
  have hs := wSto_ok hx
  have hm := wMak_ok x
  have hsg := bdStrength (wSto x) (wMak x) hs hm
  have hsb := strongI_b hs hm 2550 (by decide) (wSto_strong hx)
  generalize strongI (wSto x) (wMak x) = e at *
  generalize wSto x = s at *
  generalize wMak x = m at *
  have d1 : decide (e < 0) = false := by rw [decide_eq_false_iff_not]; omega
  have d2 : decide (50000 < e) = false := by rw [decide_eq_false_iff_not]; omega
  have ed : 0 ≤ e ∧ e ≤ 50000 := by omega
  obtain ⟨N, hN⟩ : ∃ N : Nat, N = 1 + v0 % 12 := ⟨_, rfl⟩
  have hN2 : 1 ≤ N ∧ N ≤ 12 := by have : v0 % 12 < 12 := Nat.mod_lt _ (by decide); omega
  have hNI : 1 + (v0 : Int).tmod 12 = (N : Int) := by have : (v0 : Int).tmod 12 = ((v0 % 12 : Nat) : Int) := tmodN v0 12; rw [this, hN]; omega
  have hNt : (v0 : Int).tmod 12 = ((v0 % 12 : Nat) : Int) := tmodN v0 12
  have hNJ : 1 + ((v0 % 12 : Nat) : Int) = (N : Int) := by omega
  have hNm : v0 % 12 < 12 := Nat.mod_lt _ (by decide)
  obtain ⟨o, ho⟩ : ∃ o : Nat, o = v1 % 30 := ⟨_, rfl⟩
  have ho2 : o < 30 := by rw [ho]; exact Nat.mod_lt _ (by decide)
  have hoI : (v1 : Int).tmod 30 = (o : Int) := by rw [ho]; exact tmodN v1 30
  obtain ⟨rs, hrs⟩ : ∃ rs, rs = (List.range N).map fun i => rdT e o (byteI tr i) := ⟨_, rfl⟩
  have hrl : rs.length = N := by rw [hrs]; simp
  have hin : ∀ y ∈ rs, (0 ≤ y ∧ y ≤ 100000) ∧ mx0 (e - 2 * (o : Int)) ≤ lowT (o : Int) y ∧ highT (o : Int) y ≤ e + 2 * (o : Int) := by
    intro y hy
    rw [hrs] at hy
    obtain ⟨i, _, rfl⟩ := List.mem_map.1 hy
    exact rdT_in ed ho2
  have hM0 : 0 ≤ mx0 (e - 2 * (o : Int)) ∧ mx0 (e - 2 * (o : Int)) ≤ 50000 := by unfold mx0; split <;> omega
  have hrb : ∀ y ∈ rs, 0 ≤ y ∧ y ≤ 100000 := fun y hy => (hin y hy).1
  have hI := arInts true rs (by omega)
  have ok1 : CRok ⟨N, mx0 (e - 2 * (o : Int)), 0, N⟩ rs (o : Int) := ⟨by simp only; omega, by simp only; omega, by simp, by simp only; omega, by omega, by simp only; omega, hrb⟩
  have ok2 : CRok ⟨N, e + 2 * (o : Int) + 1, 0, N⟩ rs (o : Int) := ⟨by simp only; omega, by simp only; omega, by simp, by simp only; omega, by omega, by simp only; omega, hrb⟩
  have ok3 : CRok ⟨N, mx0 (e - 2 * (o : Int)), 0, N⟩ [] (o : Int) := ⟨by simp only; omega, by simp only; omega, by simp, by simp only; omega, by omega, by simp, by simp⟩
  have c1 := crDecide false _ rs (o : Int) ok1
  have c2 := crDecide false _ rs (o : Int) ok2
  have c3 := crNeed true _ [] (o : Int) ok3 N (by simp)
  have c4 := crNeed false _ rs (o : Int) ok2 0 (by simp only; omega)
  rw [pass_state hrl (by omega) (by omega) (by omega) hrb (fun y hy => (hin y hy).2.1)] at c1
  have hf2 := fail_state (B := (N : Int)) hrl hN2.1 (by omega) (by omega) hrb (fun y hy => (hin y hy).2.2)
  rw [hf2] at c2
  have u4 : untilF ⟨N, e + 2 * (o : Int) + 1, 0, N⟩ 2 0 0 (lotOf ⟨N, e + 2 * (o : Int) + 1, 0, N⟩ (o : Int) rs) 0 = 0 := by rw [untilF, if_pos hf2]
  rw [u4] at c4
  have u3 := until_in ⟨N, mx0 (e - 2 * (o : Int)), 0, N⟩ 1 100000 N (lotOf ⟨N, mx0 (e - 2 * (o : Int)), 0, N⟩ (o : Int) []) 0 (by
    rw [afterN_fold]
    refine pass_state (rs := List.replicate N 100000) (by simp) (by omega) (by omega) (by omega) (fun y hy => ?_) (fun y hy => ?_)
    · rw [List.eq_of_mem_replicate hy]; decide
    · rw [List.eq_of_mem_replicate hy]; unfold lowT; rw [if_pos (by omega)]; omega)
  have c3' := c3.weakA (l := [.agg [dI N, dI (mx0 (e - 2 * (o : Int))), dI 0, dI N], .c (.v (.slice none 0 0)), dI o]) (.cons (.inl rfl) (.cons (.inr ⟨_, _, rfl, rfl, .nil true 1⟩) (.cons (.inl rfl) .nil)))
  generalize untilF ⟨N, mx0 (e - 2 * (o : Int)), 0, N⟩ 1 100000 N (lotOf ⟨N, mx0 (e - 2 * (o : Int)), 0, N⟩ (o : Int) []) 0 = n1 at *
  generalize untilF ⟨N, mx0 (e - 2 * (o : Int)), 0, N⟩ 2 0 N (lotOf ⟨N, mx0 (e - 2 * (o : Int)), 0, N⟩ (o : Int) []) 0 = n2 at *
  generalize untilF ⟨N, e + 2 * (o : Int) + 1, 0, N⟩ 1 100000 0 (lotOf ⟨N, e + 2 * (o : Int) + 1, 0, N⟩ (o : Int) rs) 0 = n3 at *
  have g1 : decide (0 ≤ n1) = true := decide_eq_true u3.1
  have g2 : decide (n1 ≤ (N : Int)) = true := decide_eq_true (by omega)
  have hmx : (if 0 < e - 2 * (o : Int) then e - 2 * (o : Int) else 0) = mx0 (e - 2 * (o : Int)) := rfl
  clear c3 u3 u4 hf2 ok1 ok2 ok3 hin hrb
  generalize mx0 (e - 2 * (o : Int)) = M at *
  refine DCall.of Try.func6 sf6 hb6 (Nat.le_of_ble_eq_true rfl) (okRes_nil fun _ => rfl) ?_; simp only [s6, idxs, Nat.reduceAdd]
  repeat' (first
    | (with_reducible refine DW.seq ?_)
    | (with_reducible refine DW.block ?_)
    | (with_reducible refine DW.skip ?_)
    | (with_reducible refine DW.exit ?_)
    | (with_reducible refine DW.ret ?_)
    | (with_reducible refine DW.reg ?_)
    | (refine DW.dreg rfl (WF.of (by first | rfl | simp (disch := omega) only [go_sem, Nat.reduceLT, Nat.reduceLeDiff, Nat.reduceAdd, Nat.reduceMul, Nat.reduceEqDiff, ↓reduceIte, reduceCtorEq, Nat.reduceBEq, Nat.reduceBNe, Nat.reducePow, Int.reduceLE, Int.reduceLT, Int.reduceNeg, Int.reduceToNat, Int.reduceEq, Int.reduceAdd, Int.reduceSub, Int.reduceMul, Int.reduceBEq, Int.reduceBNe, Blk.men, Blk.keysIn, d1, d2, hNt, hNJ, hoI])) ?_)
    | (simp (disch := omega) only [go_sem, Nat.reduceLT, Nat.reduceLeDiff, Nat.reduceAdd, Nat.reduceMul, Nat.reduceEqDiff, ↓reduceIte, reduceCtorEq, Nat.reduceBEq, Nat.reduceBNe, Nat.reducePow, Int.reduceLE, Int.reduceLT, Int.reduceNeg, Int.reduceToNat, Int.reduceEq, Int.reduceAdd, Int.reduceSub, Int.reduceMul, Int.reduceBEq, Int.reduceBNe, Blk.men, Blk.keysIn, d1, d2, hNt, hNJ, hoI])
    | (exact retS_of rfl rfl rfl)
    | (refine DW.cond_tt rfl ?_)
    | (refine call_c (hst) (by decide) ?_)
    | (refine call_c (hmk) (by decide) ?_)
    | (refine call_c (hsg) (by decide) ?_)
    | (refine DW.cond_ff rfl ?_)
    | (refine DW.cond rfl ?_ ?_ <;> intro hc <;> (try simp only [go_sem] at hc))
    | (refine g_split ?_ ?_ <;> intro hc <;> (try simp only [hc]) <;> (try simp only [go_sem] at hc)))
  refine DW.loop (ι := { i : Nat // i ≤ N }) (fun i => ⟨162, [(12, dI i.1), (11, .own 52), (10, dI o), (9, dI N), (7, dI e), (2, .c (.sl b' 1 (rows eY tr)))], [(52, .row 1 (rowC (rows eI ((List.range i.1).map fun i => rdT e o (byteI tr i)))))]⟩) (fun i => N - i.1) ⟨0, Nat.zero_le _⟩ ?_ ?_
  · refine Ent.to ?_ ?_ <;> simp (disch := omega) only [wkT_cons, wkX_cons, wkT_nil, wkX_nil, get, Nat.reduceEqDiff, ↓reduceIte, ex_some, wk_self, wk_top, wk_nil, wkB_self, and_self, dI, i64_in, and_true, true_and, Int.natCast_add, Int.natCast_one, Int.ofNat_zero, Int.natCast_zero]
    all_goals exact .refl _
  rintro ⟨i, hi⟩
  dsimp only
  rcases Nat.lt_or_ge i N with hlt | hge
  · have hd : decide ((i : Int) < (N : Int)) = true := by rw [decide_eq_true_eq]; omega
    have hby := arByte b' tr i (by omega) ht
    have hb8 := byteI_lt ht i
    have hsn : (List.range (i + 1)).map (fun i => rdT e o (byteI tr i)) = (List.range i).map (fun i => rdT e o (byteI tr i)) ++ [rdT e o (byteI tr i)] := by simp [List.range_succ]
    have hln : ((List.range i).map (fun i => rdT e o (byteI tr i))).length = i := by simp
    generalize (List.range i).map (fun i => rdT e o (byteI tr i)) = ra at *
    generalize byteI tr i = y at *
    have hrem : (y : Int).tmod (2 * (o : Int) + 1) = ((y % (2 * o + 1) : Nat) : Int) := by
      have := tmodN y (2 * o + 1)
      rwa [show (((2 * o + 1 : Nat)) : Int) = 2 * (o : Int) + 1 by omega] at this
    have hne : (2 * (o : Int) + 1 = 0) = False := eq_false (by omega)
    have hml : y % (2 * o + 1) < 2 * o + 1 := Nat.mod_lt _ (by omega)
    have hrd : (if 0 < e - (o : Int) + ((y % (2 * o + 1) : Nat) : Int) then e - (o : Int) + ((y % (2 * o + 1) : Nat) : Int) else 0) = rdT e o y := rfl
    repeat' (first
    | (with_reducible refine DW.seq ?_)
    | (with_reducible refine DW.block ?_)
    | (with_reducible refine DW.skip ?_)
    | (with_reducible refine DW.exit ?_)
    | (with_reducible refine DW.ret ?_)
    | (with_reducible refine DW.reg ?_)
    | (refine DW.dreg rfl (WF.of (by first | rfl | simp (disch := omega) only [go_sem, Nat.reduceLT, Nat.reduceLeDiff, Nat.reduceAdd, Nat.reduceMul, Nat.reduceEqDiff, ↓reduceIte, reduceCtorEq, Nat.reduceBEq, Nat.reduceBNe, Nat.reducePow, Int.reduceLE, Int.reduceLT, Int.reduceNeg, Int.reduceToNat, Int.reduceEq, Int.reduceAdd, Int.reduceSub, Int.reduceMul, Int.reduceBEq, Int.reduceBNe, Blk.men, Blk.keysIn, hd, hrem, hne, hrd])) ?_)
    | (simp (disch := omega) only [go_sem, Nat.reduceLT, Nat.reduceLeDiff, Nat.reduceAdd, Nat.reduceMul, Nat.reduceEqDiff, ↓reduceIte, reduceCtorEq, Nat.reduceBEq, Nat.reduceBNe, Nat.reducePow, Int.reduceLE, Int.reduceLT, Int.reduceNeg, Int.reduceToNat, Int.reduceEq, Int.reduceAdd, Int.reduceSub, Int.reduceMul, Int.reduceBEq, Int.reduceBNe, Blk.men, Blk.keysIn, hd, hrem, hne, hrd])
    | (exact retS_of rfl rfl rfl)
    | (refine DW.cond_tt rfl ?_)
    | (refine call_c (hby) (by decide) ?_)
    | (refine DW.cond_ff rfl ?_)
    | (refine DW.cond rfl ?_ ?_ <;> intro hc <;> (try simp only [go_sem] at hc))
    | (refine g_split ?_ ?_ <;> intro hc <;> (try simp only [hc]) <;> (try simp only [go_sem] at hc)))
    refine ⟨⟨i + 1, hlt⟩, ?_, Ent.to ?_ ?_⟩ <;> first | (show _ < _; (try simp only); omega) | (simp (disch := omega) only [wkT_cons, wkX_cons, wkT_nil, wkX_nil, get, Nat.reduceEqDiff, ↓reduceIte, ex_some, wk_self, wk_top, wk_nil, wkB_self, and_self, dI, i64_in, and_true, true_and, Int.natCast_add, Int.natCast_one, Int.ofNat_zero, Int.natCast_zero,  hsn])
    all_goals exact .refl _
  · obtain rfl : i = N := by omega
    have hd : decide ((i : Int) < (i : Int)) = false := by rw [decide_eq_false_iff_not]; omega
    rw [← hrs]
    repeat' (first
    | (with_reducible refine DW.seq ?_)
    | (with_reducible refine DW.block ?_)
    | (with_reducible refine DW.skip ?_)
    | (with_reducible refine DW.exit ?_)
    | (with_reducible refine DW.ret ?_)
    | (with_reducible refine DW.reg ?_)
    | (refine DW.dreg rfl (WF.of (by first | rfl | simp (disch := omega) only [go_sem, Nat.reduceLT, Nat.reduceLeDiff, Nat.reduceAdd, Nat.reduceMul, Nat.reduceEqDiff, ↓reduceIte, reduceCtorEq, Nat.reduceBEq, Nat.reduceBNe, Nat.reducePow, Int.reduceLE, Int.reduceLT, Int.reduceNeg, Int.reduceToNat, Int.reduceEq, Int.reduceAdd, Int.reduceSub, Int.reduceMul, Int.reduceBEq, Int.reduceBNe, Blk.men, Blk.keysIn, hd, hmx, g1, g2])) ?_)
    | (simp (disch := omega) only [go_sem, Nat.reduceLT, Nat.reduceLeDiff, Nat.reduceAdd, Nat.reduceMul, Nat.reduceEqDiff, ↓reduceIte, reduceCtorEq, Nat.reduceBEq, Nat.reduceBNe, Nat.reducePow, Int.reduceLE, Int.reduceLT, Int.reduceNeg, Int.reduceToNat, Int.reduceEq, Int.reduceAdd, Int.reduceSub, Int.reduceMul, Int.reduceBEq, Int.reduceBNe, Blk.men, Blk.keysIn, hd, hmx, g1, g2])
    | (exact retS_of rfl rfl rfl)
    | (refine DW.cond_tt rfl ?_)
    | (refine call_c (hI) (by decide) ?_)
    | (refine call_c (c1) (by decide) ?_)
    | (refine call_c (c2) (by decide) ?_)
    | (refine call_c (c3') (by decide) ?_)
    | (refine call_c (c4) (by decide) ?_)
    | (refine call_c (arBoard) (by decide) ?_)
    | (refine call_c (arCrush) (by decide) ?_)
    | (refine DW.cond_ff rfl ?_)
    | (refine DW.cond rfl ?_ ?_ <;> intro hc <;> (try simp only [go_sem] at hc))
    | (refine g_split ?_ ?_ <;> intro hc <;> (try simp only [hc]) <;> (try simp only [go_sem] at hc)))
end Go.Dw.Seat
end
section
set_option linter.unusedSimpArgs false
set_option maxRecDepth 100000
namespace Go.Dw.Seat
open Go Go.Dw Go.Proofs Go.ChangeShapes Go.WideShapes Go.ChangeAt Go.RowKit
theorem tOwn : ownKnob Try.prog.godebug = none := by kernel_rfl
theorem tLaid : laidOutB Try.prog = true := by kernel_rfl
theorem u3 : Try.prog.underlying 3 = some (.int .i64) := by kernel_rfl
theorem u4 : Try.prog.underlying 4 = some .bool := by kernel_rfl
theorem uA2 : Try.prog.underlying 24 = some (.array 2 5) := by kernel_rfl
theorem uY : Try.prog.underlying 22 = some (.slice 5) := by kernel_rfl
theorem cells5 : Try.prog.cellsOf 5 = 1 := by kernel_rfl
theorem cellsA2 : Try.prog.cellsOf 24 = 2 := by kernel_rfl
theorem u46 : Try.prog.underlying 46 = some (.slice 127) := by kernel_rfl
theorem u47 : Try.prog.underlying 47 = some (.slice 98) := by kernel_rfl
theorem u127 : Try.prog.underlying 127 = some (.array 6 5) := by kernel_rfl
theorem u98 : Try.prog.underlying 98 = some (.array 3 5) := by kernel_rfl
theorem cells127 : Try.prog.cellsOf 127 = 6 := by kernel_rfl
theorem cells98 : Try.prog.cellsOf 98 = 3 := by kernel_rfl
theorem cells46 : Try.prog.cellsOf 46 = 1 := by kernel_rfl
theorem cells47 : Try.prog.cellsOf 47 = 1 := by kernel_rfl
theorem cells22 : Try.prog.cellsOf 22 = 1 := by kernel_rfl
theorem cells49 : Try.prog.cellsOf 49 = 3 := by kernel_rfl
theorem st49 : structIs Try.prog 49 [(46, 0), (47, 1), (22, 2)] = true := by kernel_rfl
section
variable {H : Type} {enc : TypeId × Value → H} {w : World} {base : Nat} {spare : Nat → Bool} {held : Bool} {fuel : Nat} {cs : List Value} {x : DataW H × List MemPlace}
theorem wf8 {n : Int} (h : (Lit.int .u8 n).wf = true) : ∃ v : Nat, n = v ∧ v < 256 := by
  have e1 : IntKind.min .u8 = 0 := by decide
  have e2 : IntKind.max .u8 = 255 := by decide
  simp only [Lit.wf, e1, e2, Bool.and_eq_true, decide_eq_true_eq] at h
  exact ⟨n.toNat, by omega, by omega⟩
theorem rd_U8 (h : DataW.trod enc Try.prog w base spare held fuel 5 cs = some x) : ∃ v : Nat, cs = [.int .u8 v] ∧ v < 256 := by
  obtain ⟨n, e, hw⟩ := rd_int ud5 h
  obtain ⟨v, rfl, hv⟩ := wf8 hw
  exact ⟨v, e, hv⟩
theorem rd_A2 (h : DataW.trod enc Try.prog w base spare held fuel 24 cs = some x) : ∃ a b : Nat, a < 256 ∧ b < 256 ∧ cs = [.int .u8 a, .int .u8 b] := by
  obtain ⟨hl, m, hf⟩ := rd_array uA2 h
  rw [cellsA2] at hl
  obtain ⟨y0, h0⟩ := hf 0 (by decide)
  obtain ⟨y1, h1⟩ := hf 1 (by decide)
  rw [cells5] at h0 h1
  match cs, hl with
  | [a, b], _ =>
    obtain ⟨n0, e0, p0⟩ := rd_U8 h0
    obtain ⟨n1, e1, p1⟩ := rd_U8 h1
    simp at e0 e1
    subst e0; subst e1
    exact ⟨n0, n1, p0, p1, rfl⟩
theorem rd_Y (h : DataW.trod enc Try.prog w base spare held fuel 22 cs = some x) : ∃ (l : List Nat) (v : Value), cs = [v] ∧ RepC w A0 (.sl false 1 (rows eY l)) v ∧ l.length ≤ maxLen ∧ ∀ v ∈ l, v < 256 := by
  obtain ⟨l, v, e, hr, hm, _⟩ := rd_slice (f := fun v : {v : Nat // v < 256} => eY v.1) uY cells5 (by decide) (fun _ => rfl) (fun _ _ _ h => by
    obtain ⟨n, e, hn⟩ := rd_U8 h
    subst e
    exact ⟨⟨n, hn⟩, _, _, rfl, ⟨rfl, rfl⟩, rfl⟩) h
  refine ⟨l.map (·.1), v, e, ?_, by simpa using hm, fun u hu => ?_⟩
  · have : rows eY (l.map (·.1)) = rows (fun v : {v : Nat // v < 256} => eY v.1) l := by simp [rows, Function.comp_def]
    rw [this]; exact hr
  · obtain ⟨a, _, rfl⟩ := List.mem_map.1 hu
    exact a.2
theorem rd_6 (h : DataW.trod enc Try.prog w base spare held fuel 127 cs = some x) : ∃ v : {v : V6 // v.ok}, RepVs w A0 (e6 v.1) cs := by
  obtain ⟨hl, m, hf⟩ := rd_array u127 h
  rw [cells127] at hl
  obtain ⟨y0, h0⟩ := hf 0 (by decide)
  obtain ⟨y1, h1⟩ := hf 1 (by decide)
  obtain ⟨y2, h2⟩ := hf 2 (by decide)
  obtain ⟨y3, h3⟩ := hf 3 (by decide)
  obtain ⟨y4, h4⟩ := hf 4 (by decide)
  obtain ⟨y5, h5⟩ := hf 5 (by decide)
  rw [cells5] at h0 h1 h2 h3 h4 h5
  match cs, hl with
  | [a, b, c, d, e, f], _ =>
    obtain ⟨n0, e0, p0⟩ := rd_U8 h0
    obtain ⟨n1, e1, p1⟩ := rd_U8 h1
    obtain ⟨n2, e2, p2⟩ := rd_U8 h2
    obtain ⟨n3, e3, p3⟩ := rd_U8 h3
    obtain ⟨n4, e4, p4⟩ := rd_U8 h4
    obtain ⟨n5, e5, p5⟩ := rd_U8 h5
    simp at e0 e1 e2 e3 e4 e5
    subst e0; subst e1; subst e2; subst e3; subst e4; subst e5
    exact ⟨⟨⟨n0, n1, n2, n3, n4, n5⟩, ⟨p0, p1, p2, p3, p4, p5⟩⟩, _, _, rfl, ⟨rfl, rfl⟩, _, _, rfl, ⟨rfl, rfl⟩, _, _, rfl, ⟨rfl, rfl⟩, _, _, rfl, ⟨rfl, rfl⟩, _, _, rfl, ⟨rfl, rfl⟩, _, _, rfl, ⟨rfl, rfl⟩, rfl⟩
theorem rd_3 (h : DataW.trod enc Try.prog w base spare held fuel 98 cs = some x) : ∃ v : {v : V3 // v.ok}, RepVs w A0 (e3 v.1) cs := by
  obtain ⟨hl, m, hf⟩ := rd_array u98 h
  rw [cells98] at hl
  obtain ⟨y0, h0⟩ := hf 0 (by decide)
  obtain ⟨y1, h1⟩ := hf 1 (by decide)
  obtain ⟨y2, h2⟩ := hf 2 (by decide)
  rw [cells5] at h0 h1 h2
  match cs, hl with
  | [a, b, c], _ =>
    obtain ⟨n0, e0, p0⟩ := rd_U8 h0
    obtain ⟨n1, e1, p1⟩ := rd_U8 h1
    obtain ⟨n2, e2, p2⟩ := rd_U8 h2
    simp at e0 e1 e2
    subst e0; subst e1; subst e2
    exact ⟨⟨⟨n0, n1, n2⟩, ⟨p0, p1, p2⟩⟩, _, _, rfl, ⟨rfl, rfl⟩, _, _, rfl, ⟨rfl, rfl⟩, _, _, rfl, ⟨rfl, rfl⟩, rfl⟩
theorem rd_6s (h : DataW.trod enc Try.prog w base spare held fuel 46 cs = some x) : ∃ (l : List V6) (v : Value), cs = [v] ∧ RepC w A0 (.sl false 6 (rows e6 l)) v ∧ l.length ≤ maxLen ∧ ∀ v ∈ l, v.ok := by
  obtain ⟨l, v, e, hr, hm, _⟩ := rd_slice (f := fun v : {v : V6 // v.ok} => e6 v.1) u46 cells127 (by decide) (fun _ => rfl) (fun _ _ _ h => rd_6 h) h
  refine ⟨l.map (·.1), v, e, ?_, by simpa using hm, fun u hu => ?_⟩
  · have : rows e6 (l.map (·.1)) = rows (fun v : {v : V6 // v.ok} => e6 v.1) l := by simp [rows, Function.comp_def]
    rw [this]; exact hr
  · obtain ⟨a, _, rfl⟩ := List.mem_map.1 hu
    exact a.2
theorem rd_3s {t : TypeId} (ht : Try.prog.underlying t = some (.slice 98)) (h : DataW.trod enc Try.prog w base spare held fuel t cs = some x) : ∃ (l : List V3) (v : Value), cs = [v] ∧ RepC w A0 (.sl false 3 (rows e3 l)) v ∧ l.length ≤ maxLen ∧ ∀ v ∈ l, v.ok := by
  obtain ⟨l, v, e, hr, hm, _⟩ := rd_slice (f := fun v : {v : V3 // v.ok} => e3 v.1) ht cells98 (by decide) (fun _ => rfl) (fun _ _ _ h => rd_3 h) h
  refine ⟨l.map (·.1), v, e, ?_, by simpa using hm, fun u hu => ?_⟩
  · have : rows e3 (l.map (·.1)) = rows (fun v : {v : V3 // v.ok} => e3 v.1) l := by simp [rows, Function.comp_def]
    rw [this]; exact hr
  · obtain ⟨a, _, rfl⟩ := List.mem_map.1 hu
    exact a.2
theorem rd_War (h : DataW.trod enc Try.prog w base spare held fuel 49 cs = some x) : ∃ l : War, l.ok ∧ RepVs w A0 [.sl false 6 (rows e6 l.papers), .sl false 3 (rows e3 l.flutes), .sl false 1 (rows eY l.by')] cs := by
  obtain ⟨hl, m, hf⟩ := rd_struct st49 h
  rw [cells49] at hl
  obtain ⟨y0, h0⟩ := hf 0 46 0 rfl
  obtain ⟨y1, h1⟩ := hf 1 47 1 rfl
  obtain ⟨y2, h2⟩ := hf 2 22 2 rfl
  rw [cells46] at h0
  rw [cells47] at h1
  rw [cells22] at h2
  match cs, hl with
  | [a, b, c], _ =>
    obtain ⟨l0, v0, e0, r0, _, p0⟩ := rd_6s h0
    obtain ⟨l1, v1, e1, r1, _, p1⟩ := rd_3s u47 h1
    obtain ⟨l2, v2, e2, r2, _, p2⟩ := rd_Y h2
    simp at e0 e1 e2
    subst e0; subst e1; subst e2
    exact ⟨⟨l0, l1, l2⟩, ⟨p0, p1, p2⟩, _, _, rfl, r0, _, _, rfl, r1, _, _, rfl, r2, rfl⟩
end
end Go.Dw.Seat
end
section
set_option linter.unusedSimpArgs false
set_option maxRecDepth 100000
namespace Go.Dw.Seat
open Go Go.Dw Go.Proofs Go.ChangeShapes Go.WideShapes Go.ChangeAt Go.RowKit
set_option maxHeartbeats 800000 in
theorem topTestedBoardLifted (os : Os) (started : os.Started) (H : Type) (enc : TypeId × Value → H) :
    ReturnsInHanded {} Try.checked os 6 .any (Ytmbgogijhpommaa.Rows.topTestedBoardSpec.pre6 enc Try.prog Try.f6 Ytmbgogijhpommaa.Rows.topTestedBoardRow.domain false) (Ytmbgogijhpommaa.Rows.topTestedBoardSpec.post enc Try.prog Try.f6 false true false false) := by
  refine returnsInHanded_of_change (C := Try.checked) tOwn started (by kernel_rfl) Try.func6
    (ChangeSpec.witness6 (enc := enc) (C := Try.checked) false ⟨#[], #[.agg #[.slice none 0 0, .slice none 0 0, .slice none 0 0], .agg #[.int .u8 0, .int .u8 0], .slice none 0 0], []⟩ 8 (by kernel_rfl) (by kernel_rfl) (by kernel_rfl) (by kernel_rfl)) ?_
  intro W base args ds gs before hval0 hW _ _
  have hval : ∀ (j : Nat) t v, Try.f6.params[j]? = some t → args[j]? = some v → Value.okWide Try.prog W .any base t v := hval0
  have hW' : DataW.Whole enc Try.prog Try.f6.params.toList [] false W args.toList ds gs before := hW
  obtain ⟨p, q, hA, hV, rfl, hfz, hnd⟩ := hW
  have hA : DataW.TrodAll enc Try.prog W 0 (fun _ => true) true [49, 24, 22] args.toList ds p := hA
  obtain ⟨rfl, rfl⟩ := trodVars_none hV
  obtain ⟨v0, vs0, d0, ds0, p0, q0, hargs, rfl, rfl, h0, r0⟩ := trodAll_cons hA
  obtain ⟨v1, vs1, d1, ds1, p1, q1, rfl, rfl, rfl, h1, r1⟩ := trodAll_cons r0
  obtain ⟨v2, vs2, d2, ds2, p2, q2, rfl, rfl, rfl, h2, r2⟩ := trodAll_cons r1
  obtain ⟨rfl, rfl, rfl⟩ := trodAll_nil r2
  obtain rfl : args = #[v0, v1, v2] := by cases args; simp_all
  obtain ⟨f49, hu49, _⟩ := structIs_spec st49
  obtain ⟨c0, rfl, _⟩ := okWide_struct hu49 (hval 0 49 v0 rfl rfl)
  obtain ⟨c1, rfl, _⟩ := okWide_array uA2 (hval 1 24 v1 rfl rfl)
  obtain ⟨a2, l2, k2, rfl⟩ := okWide_slice uY (hval 2 22 v2 rfl rfl)
  obtain ⟨fu0, h0⟩ := h0
  obtain ⟨fu1, h1⟩ := h1
  obtain ⟨fu2, h2⟩ := h2
  obtain ⟨wa, hwo, hwa⟩ := rd_War h0
  have hwa : RepVs W A0 [.sl false 6 (rows e6 wa.papers), .sl false 3 (rows e3 wa.flutes), .sl false 1 (rows eY wa.by')] c0.toList := by simpa [Value.cells] using hwa
  obtain ⟨na, nb, ja, jb, e1⟩ := rd_A2 h1
  have hr1 : RepVs W A0 [.v (.int .u8 na), .v (.int .u8 nb)] c1.toList := by
    have e : c1.toList = [.int .u8 na, .int .u8 nb] := by simpa [Value.cells] using e1
    rw [e]; exact ⟨_, _, rfl, ⟨rfl, rfl⟩, _, _, rfl, ⟨rfl, rfl⟩, rfl⟩
  obtain ⟨ys, yv, e2, hys, hyl, hyo⟩ := rd_Y h2
  have e2 : yv = Value.slice a2 l2 k2 := by simpa [Value.cells] using e2.symm
  subst e2
  refine ((tpTested false false wa hwo na nb ja jb ys hyo).calls (W := W) (vs := [.agg c0, .agg c1, .slice a2 l2 k2]) (laid0 W) (fun G => ?_)).mono ?_
  · exact ⟨_, _, rfl, ⟨c0, rfl, RepDs.ofVs hwa⟩, _, _, rfl, ⟨c1, rfl, RepDs.ofVs hr1⟩, _, _, rfl, hys, rfl⟩
  · rintro e W' ⟨v, rfl, ⟨G', A', hr⟩, hb⟩
    obtain ⟨rfl, _⟩ := hr
    exact ⟨_, rfl, post_true tLaid (by decide +kernel) hW' hb rfl rfl u4 rfl rfl rfl⟩
theorem topTestedBoardHolds : Ytmbgogijhpommaa.Rows.topTestedBoardRow.holds Ytmbgogijhpommaa.Try.pinned (OpenSpec.ofChange Ytmbgogijhpommaa.Rows.topTestedBoardSpec) :=
  OpenClaim.holds_of_wide 6 Try.f6 rfl rfl rfl rfl rfl rfl rfl ⟨rfl, rfl, rfl, rfl, rfl⟩ rfl rfl rfl rfl rfl (by kernel_rfl) Try.func6 (by kernel_rfl)
    (of_decide_eq_true (by kernel_rfl)) (by unfold Func.isWrapper; first | (rw [if_pos (by decide +kernel)]; kernel_rfl) | (rw [if_neg (by decide +kernel)]; exact ⟨rfl, rfl⟩))
    (fun os started H enc _ => topTestedBoardLifted os started H enc)
end Go.Dw.Seat
namespace Go.Proofs.Ytmbgogijhpommaa
theorem topTestedBoardSaid : Rows.TopTestedBoardSaid := Go.Dw.Seat.topTestedBoardHolds
end Go.Proofs.Ytmbgogijhpommaa
end
