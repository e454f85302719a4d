/- The law GlueOpens returns true for every rule, every rooms and every times, and changes nothing that was there before: the full statement GlueOpensSaid, without conditions.
   The walk of each function is in the texts before; that the least and the greatest time stand at two corners of a room is a plain law. -/
import Derived.Test.YtecgononbfgigaaI02
import Derived.Test.YtecgononbfgigaaRows
import Derived.ProofKit
import Derived.OpenShut
set_option linter.unusedVariables false
set_option linter.unusedSimpArgs false
section
set_option linter.unusedSimpArgs false
set_option maxRecDepth 100000
namespace Go.Dw.Seat
open Go Go.Dw Go.Proofs Go.IntWalk
def prU (r : Rule) (w d : Int) : Int :=
  if 0 < (r.mins * (1000 - r.deg * w + r.damp * d)).tmod 1000 then r.mins * (1000 - r.deg * w + r.damp * d) / 1000 + 1 else r.mins * (1000 - r.deg * w + r.damp * d) / 1000
def prS (r : Rule) (w d : Int) (a : Int × Int) : Int × Int := (if prU r w d < a.1 then prU r w d else a.1, if a.2 < prU r w d then prU r w d else a.2)
def prD (r : Rule) (w dl : Int) (n : Nat) (a : Int × Int) : Int × Int := foldU n (fun j a => prS r w (dl + (j : Nat)) a) a
def prW (r : Rule) (m : Room) (n : Nat) : Int × Int := foldU n (fun i a => prD r (m.wl + (i : Nat)) m.dl (m.dh - m.dl + 1).toNat a) (1099511627776, -1)
theorem c43 (r : Rule) (m : Room) (hr : ruleOk r = true) (hm : roomOk m = true) :
    DCall Try.prog 43 [dR r, .agg ((eR m).map D.c)] [] (.agg [dI (prW r m (m.wh - m.wl + 1).toNat).1, dI (prW r m (m.wh - m.wl + 1).toNat).2]) [] := by
  obtain ⟨r1, r2, r3⟩ := ruleOk_in hr
  obtain ⟨m1, m2⟩ := roomOk_in hm
  generalize hwn : (m.wh - m.wl + 1).toNat = wn
  refine DCall.of Try.func43 sf43 hb43 (Nat.le_of_ble_eq_true rfl) (okRes_nil fun _ => rfl) ?_; simp only [s43, idxs, Nat.reduceAdd]
  repeat' (first
    | (with_reducible refine DW.seq ?_)
    | (with_reducible refine DW.block ?_)
    | (with_reducible refine DW.skip ?_)
    | (with_reducible refine DW.exit ?_)
    | (with_reducible refine DW.ret ?_)
    | (with_reducible refine DW.reg ?_)
    | (simp (disch := omega) only [go_sem, Nat.reduceLT, Nat.reduceLeDiff, Nat.reduceAdd, Nat.reduceMul, Nat.reduceEqDiff, ↓reduceIte, reduceCtorEq, Nat.reduceBEq, Nat.reduceBNe, Nat.reducePow, Int.reduceLE, Int.reduceLT, Int.reduceNeg, Int.reduceToNat, Int.reduceEq, Int.reduceAdd, Int.reduceSub, Int.reduceMul, Int.reduceBEq, Int.reduceBNe, Blk.men, Blk.keysIn, List.map_cons, List.map_nil])
    | (exact retS_of rfl rfl rfl)
    | (refine DW.cond_tt rfl ?_)
    | (refine DW.cond_ff rfl ?_)
    | (refine DW.cond rfl ?_ ?_ <;> intro hc <;> (try simp only [go_sem] at hc))
    | (refine g_split ?_ ?_ <;> intro hc <;> (try simp only [hc]) <;> (try simp only [go_sem] at hc)))
  refine DW.loop (ι := { i : Nat // i ≤ wn }) (fun i => ⟨61, [(6, dI (m.wl + (i.1 : Nat))), (5, .box 5 0), (4, .box 4 0), (3, .box 3 0), (2, .box 2 0)],
    [(5, .box [dI (prW r m i.1).1, dI (prW r m i.1).2]), (4, .box [dI 0, dI 0]), (3, .box [dI m.wl, dI m.wh, dI m.dl, dI m.dh]), (2, .box [dI r.mins, dI r.deg, dI r.damp])]⟩) (fun i => wn - i.1) ⟨0, Nat.zero_le _⟩ ?_ ?_
  · refine Ent.to ?_ ?_ <;> simp (disch := omega) only [wkT_cons, wkX_cons, wkT_nil, wkX_nil, get, Nat.reduceEqDiff, ↓reduceIte, ex_some, wk_self, wk_top, wk_nil, wkB_self, and_self, dI, i64_in, and_true, true_and, Int.natCast_add, Int.natCast_one, Int.ofNat_zero, Int.natCast_zero, prW, foldU, Int.add_zero]
  rintro ⟨i, hi⟩
  dsimp only
  rcases Nat.lt_or_ge i wn with hlt | hge
  · have hd1 : decide (m.wl + (i : Int) ≤ m.wh) = true := by rw [decide_eq_true_eq]; omega
    have hstep : prW r m (i + 1) = prD r (m.wl + (i : Nat)) m.dl (m.dh - m.dl + 1).toNat (prW r m i) := rfl
    generalize prW r m i = acc at *
    have hw : 0 ≤ m.wl + (i : Int) ∧ m.wl + (i : Int) ≤ 30 := by omega
    generalize hww : m.wl + (i : Int) = w at *
    generalize hdn : (m.dh - m.dl + 1).toNat = dn at *
    repeat' (first
    | (with_reducible refine DW.seq ?_)
    | (with_reducible refine DW.block ?_)
    | (with_reducible refine DW.skip ?_)
    | (with_reducible refine DW.exit ?_)
    | (with_reducible refine DW.ret ?_)
    | (with_reducible refine DW.reg ?_)
    | (simp (disch := omega) only [go_sem, Nat.reduceLT, Nat.reduceLeDiff, Nat.reduceAdd, Nat.reduceMul, Nat.reduceEqDiff, ↓reduceIte, reduceCtorEq, Nat.reduceBEq, Nat.reduceBNe, Nat.reducePow, Int.reduceLE, Int.reduceLT, Int.reduceNeg, Int.reduceToNat, Int.reduceEq, Int.reduceAdd, Int.reduceSub, Int.reduceMul, Int.reduceBEq, Int.reduceBNe, Blk.men, Blk.keysIn, hd1])
    | (exact retS_of rfl rfl rfl)
    | (refine DW.cond_tt rfl ?_)
    | (refine DW.cond_ff rfl ?_)
    | (refine DW.cond rfl ?_ ?_ <;> intro hc <;> (try simp only [go_sem] at hc))
    | (refine g_split ?_ ?_ <;> intro hc <;> (try simp only [hc]) <;> (try simp only [go_sem] at hc)))
    refine DW.loop (ι := { j : Nat // j ≤ dn }) (fun j => ⟨61, [(7, dI (m.dl + (j.1 : Nat))), (6, dI w), (5, .box 5 0), (4, .box 4 0), (3, .box 3 0), (2, .box 2 0)],
      [(5, .box [dI (prD r w m.dl j.1 acc).1, dI (prD r w m.dl j.1 acc).2]), (4, .box [dI 0, dI 0]), (3, .box [dI m.wl, dI m.wh, dI m.dl, dI m.dh]), (2, .box [dI r.mins, dI r.deg, dI r.damp])]⟩) (fun j => dn - j.1) ⟨0, Nat.zero_le _⟩ ?_ ?_
    · refine Ent.to ?_ ?_ <;> simp (disch := omega) only [wkT_cons, wkX_cons, wkT_nil, wkX_nil, get, Nat.reduceEqDiff, ↓reduceIte, ex_some, wk_self, wk_top, wk_nil, wkB_self, and_self, dI, i64_in, and_true, true_and, Int.natCast_add, Int.natCast_one, Int.ofNat_zero, Int.natCast_zero, prD, foldU, Int.add_zero]
    rintro ⟨j, hj⟩
    dsimp only
    rcases Nat.lt_or_ge j dn with hlt2 | hge2
    · have hd2 : decide (m.dl + (j : Int) ≤ m.dh) = true := by rw [decide_eq_true_eq]; omega
      have hstep2 : prD r w m.dl (j + 1) acc = prS r w (m.dl + (j : Nat)) (prD r w m.dl j acc) := rfl
      generalize prD r w m.dl j acc = b at *
      have hdd : 0 ≤ m.dl + (j : Int) ∧ m.dl + (j : Int) ≤ 100 := by omega
      generalize hdw : m.dl + (j : Int) = d at *
      have e1 := mulB r2 hw
      have e2 := mulB r3 hdd
      have e3 := mulB (show 0 ≤ r.mins ∧ r.mins ≤ 600 by omega) (show 0 ≤ 1000 - r.deg * w + r.damp * d ∧ 1000 - r.deg * w + r.damp * d ≤ 3000 by omega)
      have hU : prU r w d = if 0 < (r.mins * (1000 - r.deg * w + r.damp * d)).tmod 1000 then r.mins * (1000 - r.deg * w + r.damp * d) / 1000 + 1 else r.mins * (1000 - r.deg * w + r.damp * d) / 1000 := rfl
      repeat' (first
    | (with_reducible refine DW.seq ?_)
    | (with_reducible refine DW.block ?_)
    | (with_reducible refine DW.skip ?_)
    | (with_reducible refine DW.exit ?_)
    | (with_reducible refine DW.ret ?_)
    | (with_reducible refine DW.reg ?_)
    | (simp (disch := omega) only [go_sem, Nat.reduceLT, Nat.reduceLeDiff, Nat.reduceAdd, Nat.reduceMul, Nat.reduceEqDiff, ↓reduceIte, reduceCtorEq, Nat.reduceBEq, Nat.reduceBNe, Nat.reducePow, Int.reduceLE, Int.reduceLT, Int.reduceNeg, Int.reduceToNat, Int.reduceEq, Int.reduceAdd, Int.reduceSub, Int.reduceMul, Int.reduceBEq, Int.reduceBNe, Blk.men, Blk.keysIn, hd2, i64_quo])
    | (exact retS_of rfl rfl rfl)
    | (refine DW.cond_tt rfl ?_)
    | (refine DW.cond_ff rfl ?_)
    | (refine DW.cond rfl ?_ ?_ <;> intro hc <;> (try simp only [go_sem] at hc))
    | (refine g_split ?_ ?_ <;> intro hc <;> (try simp only [hc]) <;> (try simp only [go_sem] at hc)))
      · have hU1 := hU.trans (if_pos hc)
        refine ⟨⟨j + 1, hlt2⟩, ?_, Ent.to ?_ ?_⟩ <;> first | (show _ < _; (try simp only); omega) | (simp (disch := omega) only [wkT_cons, wkX_cons, wkT_nil, wkX_nil, get, Nat.reduceEqDiff, ↓reduceIte, ex_some, wk_self, wk_top, wk_nil, wkB_self, and_self, dI, i64_in, and_true, true_and, Int.natCast_add, Int.natCast_one, Int.ofNat_zero, Int.natCast_zero,  hstep2, prS, hU1, ← Int.add_assoc, hdw])
      · have hU1 := hU.trans (if_neg (by omega))
        refine ⟨⟨j + 1, hlt2⟩, ?_, Ent.to ?_ ?_⟩ <;> first | (show _ < _; (try simp only); omega) | (simp (disch := omega) only [wkT_cons, wkX_cons, wkT_nil, wkX_nil, get, Nat.reduceEqDiff, ↓reduceIte, ex_some, wk_self, wk_top, wk_nil, wkB_self, and_self, dI, i64_in, and_true, true_and, Int.natCast_add, Int.natCast_one, Int.ofNat_zero, Int.natCast_zero,  hstep2, prS, hU1, ← Int.add_assoc, hdw])
    · obtain rfl : j = dn := by omega
      have hd2 : decide (m.dl + (j : Int) ≤ m.dh) = false := by rw [decide_eq_false_iff_not]; omega
      repeat' (first
    | (with_reducible refine DW.seq ?_)
    | (with_reducible refine DW.block ?_)
    | (with_reducible refine DW.skip ?_)
    | (with_reducible refine DW.exit ?_)
    | (with_reducible refine DW.ret ?_)
    | (with_reducible refine DW.reg ?_)
    | (simp (disch := omega) only [go_sem, Nat.reduceLT, Nat.reduceLeDiff, Nat.reduceAdd, Nat.reduceMul, Nat.reduceEqDiff, ↓reduceIte, reduceCtorEq, Nat.reduceBEq, Nat.reduceBNe, Nat.reducePow, Int.reduceLE, Int.reduceLT, Int.reduceNeg, Int.reduceToNat, Int.reduceEq, Int.reduceAdd, Int.reduceSub, Int.reduceMul, Int.reduceBEq, Int.reduceBNe, Blk.men, Blk.keysIn, hd2])
    | (exact retS_of rfl rfl rfl)
    | (refine DW.cond_tt rfl ?_)
    | (refine DW.cond_ff rfl ?_)
    | (refine DW.cond rfl ?_ ?_ <;> intro hc <;> (try simp only [go_sem] at hc))
    | (refine g_split ?_ ?_ <;> intro hc <;> (try simp only [hc]) <;> (try simp only [go_sem] at hc)))
      refine ⟨⟨i + 1, hlt⟩, ?_, Ent.to ?_ ?_⟩ <;> first | (show _ < _; (try simp only); omega) | (simp (disch := omega) only [wkT_cons, wkX_cons, wkT_nil, wkX_nil, get, Nat.reduceEqDiff, ↓reduceIte, ex_some, wk_self, wk_top, wk_nil, wkB_self, and_self, dI, i64_in, and_true, true_and, Int.natCast_add, Int.natCast_one, Int.ofNat_zero, Int.natCast_zero,  hstep, ← Int.add_assoc, hww])
  · obtain rfl : i = wn := by omega
    have hd1 : decide (m.wl + (i : Int) ≤ m.wh) = false := by rw [decide_eq_false_iff_not]; omega
    repeat' (first
    | (with_reducible refine DW.seq ?_)
    | (with_reducible refine DW.block ?_)
    | (with_reducible refine DW.skip ?_)
    | (with_reducible refine DW.exit ?_)
    | (with_reducible refine DW.ret ?_)
    | (with_reducible refine DW.reg ?_)
    | (simp (disch := omega) only [go_sem, Nat.reduceLT, Nat.reduceLeDiff, Nat.reduceAdd, Nat.reduceMul, Nat.reduceEqDiff, ↓reduceIte, reduceCtorEq, Nat.reduceBEq, Nat.reduceBNe, Nat.reducePow, Int.reduceLE, Int.reduceLT, Int.reduceNeg, Int.reduceToNat, Int.reduceEq, Int.reduceAdd, Int.reduceSub, Int.reduceMul, Int.reduceBEq, Int.reduceBNe, Blk.men, Blk.keysIn, hd1])
    | (exact retS_of rfl rfl rfl)
    | (refine DW.cond_tt rfl ?_)
    | (refine DW.cond_ff rfl ?_)
    | (refine DW.cond rfl ?_ ?_ <;> intro hc <;> (try simp only [go_sem] at hc))
    | (refine g_split ?_ ?_ <;> intro hc <;> (try simp only [hc]) <;> (try simp only [go_sem] at hc)))
end Go.Dw.Seat
end
section
set_option linter.unusedSimpArgs false
namespace Go.Dw.Seat
open Go Go.Dw
theorem prU_time {r : Rule} {w d : Int} (hr : ruleOk r = true) (hw : 0 ≤ w ∧ w ≤ 30) (hd : 0 ≤ d ∧ d ≤ 100) : prU r w d = timeI r w d := by
  obtain ⟨r1, r2, r3⟩ := ruleOk_in hr
  have e1 := mulB r2 hw
  have e2 := mulB r3 hd
  have e3 := mulB (show 0 ≤ r.mins ∧ r.mins ≤ 600 by omega) (show 0 ≤ 1000 - r.deg * w + r.damp * d ∧ 1000 - r.deg * w + r.damp * d ≤ 3000 by omega)
  unfold prU timeI
  generalize r.mins * (1000 - r.deg * w + r.damp * d) = n at *
  rw [Int.tmod_eq_emod_of_nonneg (by omega)]
  split <;> omega
theorem time_mono {r : Rule} {w d w' d' : Int} (hr : ruleOk r = true) (hw : w' ≤ w) (hd : d ≤ d') : timeI r w d ≤ timeI r w' d' := by
  obtain ⟨r1, r2, r3⟩ := ruleOk_in hr
  have h1 : r.deg * w' ≤ r.deg * w := Int.mul_le_mul_of_nonneg_left hw r2.1
  have h2 : r.damp * d ≤ r.damp * d' := Int.mul_le_mul_of_nonneg_left hd r3.1
  have h3 : r.mins * (1000 - r.deg * w + r.damp * d) ≤ r.mins * (1000 - r.deg * w' + r.damp * d') := Int.mul_le_mul_of_nonneg_left (by omega) (by omega)
  unfold timeI
  generalize r.mins * (1000 - r.deg * w + r.damp * d) = n at *
  generalize r.mins * (1000 - r.deg * w' + r.damp * d') = m at *
  omega
theorem time_in {r : Rule} {w d : Int} (hr : ruleOk r = true) (hw : 0 ≤ w ∧ w ≤ 30) (hd : 0 ≤ d ∧ d ≤ 100) : 0 ≤ timeI r w d ∧ timeI r w d ≤ 2000 := by
  obtain ⟨r1, r2, r3⟩ := ruleOk_in hr
  have e1 := mulB r2 hw
  have e2 := mulB r3 hd
  have e3 := mulB (show 0 ≤ r.mins ∧ r.mins ≤ 600 by omega) (show 0 ≤ 1000 - r.deg * w + r.damp * d ∧ 1000 - r.deg * w + r.damp * d ≤ 3000 by omega)
  unfold timeI
  generalize r.mins * (1000 - r.deg * w + r.damp * d) = n at *
  omega
theorem prD_eq {r : Rule} {w dl : Int} (hr : ruleOk r = true) (hw : 0 ≤ w ∧ w ≤ 30) (h0 : 0 ≤ dl) (a : Int × Int) : ∀ n : Nat, dl + (n : Nat) ≤ 100 →
    prD r w dl (n + 1) a = (if timeI r w dl < a.1 then timeI r w dl else a.1, if a.2 < timeI r w (dl + (n : Nat)) then timeI r w (dl + (n : Nat)) else a.2)
  | 0, h => by
    have e : prD r w dl (0 + 1) a = prS r w (dl + (0 : Nat)) a := rfl
    rw [e, prS, prU_time hr hw (by omega)]
    simp
  | n + 1, h => by
    have ih := prD_eq hr hw h0 a n (by omega)
    have e : prD r w dl (n + 1 + 1) a = prS r w (dl + ((n + 1 : Nat) : Int)) (prD r w dl (n + 1) a) := rfl
    have h1 : timeI r w dl ≤ timeI r w (dl + ((n + 1 : Nat) : Int)) := time_mono hr (Int.le_refl _) (by omega)
    have h2 : timeI r w (dl + (n : Nat)) ≤ timeI r w (dl + ((n + 1 : Nat) : Int)) := time_mono hr (Int.le_refl _) (by omega)
    rw [e, ih, prS, prU_time hr hw (by omega)]
    generalize timeI r w dl = x at *
    generalize timeI r w (dl + (n : Nat)) = y at *
    generalize timeI r w (dl + ((n + 1 : Nat) : Int)) = z at *
    simp only [Prod.mk.injEq]
    constructor
    · split <;> split <;> omega
    · split <;> split <;> omega
theorem prW_eq {r : Rule} {m : Room} (hr : ruleOk r = true) (hm : roomOk m = true) : ∀ n : Nat, m.wl + (n : Nat) ≤ m.wh →
    prW r m (n + 1) = (timeI r (m.wl + (n : Nat)) m.dl, timeI r m.wl m.dh) := by
  obtain ⟨m1, m2⟩ := roomOk_in hm
  have hdn : (m.dh - m.dl + 1).toNat = (m.dh - m.dl).toNat + 1 := by omega
  have hdh : m.dl + ((m.dh - m.dl).toNat : Int) = m.dh := by omega
  intro n
  induction n with
  | zero =>
    intro h
    have e : prW r m (0 + 1) = prD r (m.wl + (0 : Nat)) m.dl (m.dh - m.dl + 1).toNat (1099511627776, -1) := rfl
    have h1 := time_in (r := r) (w := m.wl) (d := m.dl) hr (by omega) (by omega)
    have h2 := time_in (r := r) (w := m.wl) (d := m.dh) hr (by omega) (by omega)
    rw [e, hdn, prD_eq hr (by omega) (by omega) _ _ (by omega), hdh]
    simp only [Int.ofNat_zero, Int.natCast_zero, Int.add_zero, Prod.mk.injEq]
    generalize timeI r m.wl m.dl = x at *
    generalize timeI r m.wl m.dh = y at *
    constructor
    · split <;> omega
    · split <;> omega
  | succ n ih =>
    intro h
    have ih := ih (by omega)
    have e : prW r m (n + 1 + 1) = prD r (m.wl + ((n + 1 : Nat) : Int)) m.dl (m.dh - m.dl + 1).toNat (prW r m (n + 1)) := rfl
    have h1 : timeI r (m.wl + ((n + 1 : Nat) : Int)) m.dl ≤ timeI r (m.wl + (n : Nat)) m.dl := time_mono hr (by omega) (Int.le_refl _)
    have h2 : timeI r (m.wl + ((n + 1 : Nat) : Int)) m.dh ≤ timeI r m.wl m.dh := time_mono hr (by omega) (Int.le_refl _)
    rw [e, ih, hdn, prD_eq hr (by omega) (by omega) _ _ (by omega), hdh]
    generalize timeI r (m.wl + ((n + 1 : Nat) : Int)) m.dl = x at *
    generalize timeI r (m.wl + (n : Nat)) m.dl = y at *
    generalize timeI r (m.wl + ((n + 1 : Nat) : Int)) m.dh = u at *
    generalize timeI r m.wl m.dh = v at *
    simp only [Prod.mk.injEq]
    constructor
    · split <;> omega
    · split <;> omega
theorem press_eq {r : Rule} {m : Room} (hr : ruleOk r = true) (hm : roomOk m = true) : prW r m (m.wh - m.wl + 1).toNat = (pressLo r m, pressHi r m) := by
  obtain ⟨m1, m2⟩ := roomOk_in hm
  have hn : (m.wh - m.wl + 1).toNat = (m.wh - m.wl).toNat + 1 := by omega
  have hw : m.wl + ((m.wh - m.wl).toNat : Int) = m.wh := by omega
  rw [hn, prW_eq hr hm _ (by omega), hw]
  rfl
end Go.Dw.Seat
end
section
set_option linter.unusedSimpArgs false
set_option maxRecDepth 100000
namespace Go.Dw.Seat
open Go Go.Dw Go.Proofs Go.IntWalk
theorem c36b (p q p' q' : Bool) (a b : List (List Int)) (ha : a.length ≤ 2 ^ 36) (hb : b.length ≤ 2 ^ 36) (ha' : ∀ x ∈ a, x.length ≤ 2 ^ 36) (hb' : ∀ x ∈ b, x.length ≤ 2 ^ 36) : DCall Try.prog 36 [.c (.sl p 1 (rows (eGb p') a)), .c (.sl q 1 (rows (eGb q') b))] [] (bD (decide (a = b))) [] := by
  refine DCall.of Try.func36 sf36 hb36 (Nat.le_of_ble_eq_true rfl) (okRes_nil fun _ => rfl) ?_; simp only [s36, idxs, Nat.reduceAdd]
  repeat' (first
    | (with_reducible refine DW.seq ?_)
    | (with_reducible refine DW.block ?_)
    | (with_reducible refine DW.skip ?_)
    | (with_reducible refine DW.exit ?_)
    | (with_reducible refine DW.ret ?_)
    | (with_reducible refine DW.reg ?_)
    | (refine DW.dreg rfl (WF.of (by first | rfl | simp (disch := omega) only [go_sem, Nat.reduceLT, Nat.reduceLeDiff, Nat.reduceAdd, Nat.reduceMul, Nat.reduceEqDiff, ↓reduceIte, reduceCtorEq, Nat.reduceBEq, Nat.reduceBNe, Nat.reducePow, Int.reduceLE, Int.reduceLT, Int.reduceNeg, Int.reduceToNat, Int.reduceEq, Int.reduceAdd, Int.reduceSub, Int.reduceMul, Int.reduceBEq, Int.reduceBNe, Blk.men, Blk.keysIn])) ?_)
    | (simp (disch := omega) only [go_sem, Nat.reduceLT, Nat.reduceLeDiff, Nat.reduceAdd, Nat.reduceMul, Nat.reduceEqDiff, ↓reduceIte, reduceCtorEq, Nat.reduceBEq, Nat.reduceBNe, Nat.reducePow, Int.reduceLE, Int.reduceLT, Int.reduceNeg, Int.reduceToNat, Int.reduceEq, Int.reduceAdd, Int.reduceSub, Int.reduceMul, Int.reduceBEq, Int.reduceBNe, Blk.men, Blk.keysIn])
    | (exact retS_of rfl rfl rfl)
    | (refine DW.cond_tt rfl ?_)
    | (refine DW.cond_ff rfl ?_)
    | (refine DW.cond rfl ?_ ?_ <;> intro hc <;> (try simp only [go_sem] at hc))
    | (refine g_split ?_ ?_ <;> intro hc <;> (try simp only [hc]) <;> (try simp only [go_sem] at hc)))
  · refine retS_of rfl ?_ rfl; simp only [oneD, St.op, get, Nat.reduceEqDiff, ↓reduceIte, Option.getD_some, bD, dI]
    have : a ≠ b := by rintro rfl; simp_all
    simp only [this, decide_false]
  refine DW.loop (ι := { i : Nat // i ≤ a.length ∧ ∀ j, j < i → a[j]? = b[j]? }) (fun i => ⟨27, [(5, dI i.1), (1, .c (.sl q 1 (rows (eGb q') b))), (0, .c (.sl p 1 (rows (eGb p') a)))], []⟩) (fun i => a.length - i.1) ⟨0, Nat.zero_le _, fun j h => by omega⟩ ?_ ?_
  · refine Ent.to ?_ ?_ <;> simp (disch := omega) only [wkT_cons, wkX_cons, wkT_nil, wkX_nil, get, Nat.reduceEqDiff, ↓reduceIte, ex_some, wk_self, wk_top, wk_nil, wkB_self, and_self, dI, i64_in, and_true, true_and, Int.natCast_add, Int.natCast_one, Int.ofNat_zero, Int.natCast_zero]
  rintro ⟨i, hi, hij⟩
  rcases at_or a i hi with ⟨v, hv, hlt, hd⟩ | ⟨he, hd⟩
  · obtain ⟨u, hu⟩ : ∃ u, b[i]? = some u := getE (by omega)
    repeat' (first
    | (with_reducible refine DW.seq ?_)
    | (with_reducible refine DW.block ?_)
    | (with_reducible refine DW.skip ?_)
    | (with_reducible refine DW.exit ?_)
    | (with_reducible refine DW.ret ?_)
    | (with_reducible refine DW.reg ?_)
    | (refine DW.dreg rfl (WF.of (by first | rfl | simp (disch := omega) only [go_sem, Nat.reduceLT, Nat.reduceLeDiff, Nat.reduceAdd, Nat.reduceMul, Nat.reduceEqDiff, ↓reduceIte, reduceCtorEq, Nat.reduceBEq, Nat.reduceBNe, Nat.reducePow, Int.reduceLE, Int.reduceLT, Int.reduceNeg, Int.reduceToNat, Int.reduceEq, Int.reduceAdd, Int.reduceSub, Int.reduceMul, Int.reduceBEq, Int.reduceBNe, Blk.men, Blk.keysIn, hd, hv, hu])) ?_)
    | (simp (disch := omega) only [go_sem, Nat.reduceLT, Nat.reduceLeDiff, Nat.reduceAdd, Nat.reduceMul, Nat.reduceEqDiff, ↓reduceIte, reduceCtorEq, Nat.reduceBEq, Nat.reduceBNe, Nat.reducePow, Int.reduceLE, Int.reduceLT, Int.reduceNeg, Int.reduceToNat, Int.reduceEq, Int.reduceAdd, Int.reduceSub, Int.reduceMul, Int.reduceBEq, Int.reduceBNe, Blk.men, Blk.keysIn, hd, hv, hu])
    | (exact retS_of rfl rfl rfl)
    | (refine DW.cond_tt rfl ?_)
    | (refine DW.cond_ff rfl ?_)
    | (refine DW.cond rfl ?_ ?_ <;> intro hc <;> (try simp only [go_sem] at hc))
    | (refine g_split ?_ ?_ <;> intro hc <;> (try simp only [hc]) <;> (try simp only [go_sem] at hc)))
    (refine call_c (c21 p' q' v u (ha' v (List.mem_of_getElem? hv)) (hb' u (List.mem_of_getElem? hu))) (by decide) ?_; simp (disch := omega) only [go_sem, Nat.reduceLT, Nat.reduceLeDiff, Nat.reduceAdd, Nat.reduceMul, Nat.reduceEqDiff, ↓reduceIte, reduceCtorEq, Nat.reduceBEq, Nat.reduceBNe, Nat.reducePow, Int.reduceLE, Int.reduceLT, Int.reduceNeg, Int.reduceToNat, Int.reduceEq, Int.reduceAdd, Int.reduceSub, Int.reduceMul, Int.reduceBEq, Int.reduceBNe, Blk.men, Blk.keysIn])
    repeat' (first
    | (with_reducible refine DW.seq ?_)
    | (with_reducible refine DW.block ?_)
    | (with_reducible refine DW.skip ?_)
    | (with_reducible refine DW.exit ?_)
    | (with_reducible refine DW.ret ?_)
    | (with_reducible refine DW.reg ?_)
    | (refine DW.dreg rfl (WF.of (by first | rfl | simp (disch := omega) only [go_sem, Nat.reduceLT, Nat.reduceLeDiff, Nat.reduceAdd, Nat.reduceMul, Nat.reduceEqDiff, ↓reduceIte, reduceCtorEq, Nat.reduceBEq, Nat.reduceBNe, Nat.reducePow, Int.reduceLE, Int.reduceLT, Int.reduceNeg, Int.reduceToNat, Int.reduceEq, Int.reduceAdd, Int.reduceSub, Int.reduceMul, Int.reduceBEq, Int.reduceBNe, Blk.men, Blk.keysIn])) ?_)
    | (simp (disch := omega) only [go_sem, Nat.reduceLT, Nat.reduceLeDiff, Nat.reduceAdd, Nat.reduceMul, Nat.reduceEqDiff, ↓reduceIte, reduceCtorEq, Nat.reduceBEq, Nat.reduceBNe, Nat.reducePow, Int.reduceLE, Int.reduceLT, Int.reduceNeg, Int.reduceToNat, Int.reduceEq, Int.reduceAdd, Int.reduceSub, Int.reduceMul, Int.reduceBEq, Int.reduceBNe, Blk.men, Blk.keysIn])
    | (exact retS_of rfl rfl rfl)
    | (refine DW.cond_tt rfl ?_)
    | (refine DW.cond_ff rfl ?_)
    | (refine DW.cond rfl ?_ ?_ <;> intro hc <;> (try simp only [go_sem] at hc))
    | (refine g_split ?_ ?_ <;> intro hc <;> (try simp only [hc]) <;> (try simp only [go_sem] at hc)))
    · refine retS_of rfl ?_ rfl; simp only [oneD, St.op, get, Nat.reduceEqDiff, ↓reduceIte, Option.getD_some, bD, dI]
      have : a ≠ b := by rintro rfl; simp_all
      simp only [this, decide_false]
    · refine ⟨⟨i + 1, by omega, upto1 hij (by rw [hv, hu]; congr 1)⟩, ?_, Ent.to ?_ ?_⟩ <;> first | (show _ < _; (try simp only); omega) | (simp (disch := omega) only [wkT_cons, wkX_cons, wkT_nil, wkX_nil, get, Nat.reduceEqDiff, ↓reduceIte, ex_some, wk_self, wk_top, wk_nil, wkB_self, and_self, dI, i64_in, and_true, true_and, Int.natCast_add, Int.natCast_one, Int.ofNat_zero, Int.natCast_zero])
  · repeat' (first
    | (with_reducible refine DW.seq ?_)
    | (with_reducible refine DW.block ?_)
    | (with_reducible refine DW.skip ?_)
    | (with_reducible refine DW.exit ?_)
    | (with_reducible refine DW.ret ?_)
    | (with_reducible refine DW.reg ?_)
    | (refine DW.dreg rfl (WF.of (by first | rfl | simp (disch := omega) only [go_sem, Nat.reduceLT, Nat.reduceLeDiff, Nat.reduceAdd, Nat.reduceMul, Nat.reduceEqDiff, ↓reduceIte, reduceCtorEq, Nat.reduceBEq, Nat.reduceBNe, Nat.reducePow, Int.reduceLE, Int.reduceLT, Int.reduceNeg, Int.reduceToNat, Int.reduceEq, Int.reduceAdd, Int.reduceSub, Int.reduceMul, Int.reduceBEq, Int.reduceBNe, Blk.men, Blk.keysIn, hd])) ?_)
    | (simp (disch := omega) only [go_sem, Nat.reduceLT, Nat.reduceLeDiff, Nat.reduceAdd, Nat.reduceMul, Nat.reduceEqDiff, ↓reduceIte, reduceCtorEq, Nat.reduceBEq, Nat.reduceBNe, Nat.reducePow, Int.reduceLE, Int.reduceLT, Int.reduceNeg, Int.reduceToNat, Int.reduceEq, Int.reduceAdd, Int.reduceSub, Int.reduceMul, Int.reduceBEq, Int.reduceBNe, Blk.men, Blk.keysIn, hd])
    | (exact retS_of rfl rfl rfl)
    | (refine DW.cond_tt rfl ?_)
    | (refine DW.cond_ff rfl ?_)
    | (refine DW.cond rfl ?_ ?_ <;> intro hc <;> (try simp only [go_sem] at hc))
    | (refine g_split ?_ ?_ <;> intro hc <;> (try simp only [hc]) <;> (try simp only [go_sem] at hc)))
    refine retS_of rfl ?_ rfl; simp only [oneD, St.op, get, Nat.reduceEqDiff, ↓reduceIte, Option.getD_some, bD, dI]
    have : a = b := ext_upto (by omega) (he ▸ hij)
    simp only [this, decide_true]
theorem k1 : boxOut ⟨6, [14, 18]⟩ [⟨0, 2, 0⟩, ⟨1, 2, 5⟩] 5 = [30, 54] ∧ boxErr ⟨6, [14, 18]⟩ [⟨0, 2, 0⟩, ⟨1, 2, 5⟩] 5 = 0 := ⟨by kernel_rfl, by kernel_rfl⟩
theorem k2 : boxOut ⟨6, [14, 18]⟩ [⟨0, 1, 3⟩, ⟨1, 3, 0⟩] 2 = [14, 0] ∧ boxErr ⟨6, [14, 18]⟩ [⟨0, 1, 3⟩, ⟨1, 3, 0⟩] 2 = 0 := ⟨by kernel_rfl, by kernel_rfl⟩
theorem k3 : (exOut ⟨6, [14, 18]⟩ [0] []).length = 25 ∧ exErr ⟨6, [14, 18]⟩ [0] [] = 0 := ⟨by kernel_rfl, by kernel_rfl⟩
theorem k4 : (exOut ⟨6, [14, 18]⟩ [0] [⟨0, 0, 1, false⟩]).length = 10 ∧ exErr ⟨6, [14, 18]⟩ [0] [⟨0, 0, 1, false⟩] = 0 ∧ (exOut ⟨6, [14, 18]⟩ [0] [⟨0, 0, 1, false⟩]).headD [] = [⟨0, 1, 0⟩] := ⟨by kernel_rfl, by kernel_rfl, by kernel_rfl⟩
theorem k5 : sureOut ⟨6, [14, 18]⟩ [0] [⟨0, 0, 1, false⟩] = [0] := by kernel_rfl
theorem k6 : nxAt ⟨6, [14, 18]⟩ [0] [⟨0, 0, 1, false⟩] 1 = ⟨0, 0, 2, false⟩ ∧ nxMost ⟨6, [14, 18]⟩ [0] [⟨0, 0, 1, false⟩] 1 = 5 ∧ nxErr ⟨6, [14, 18]⟩ [0] [⟨0, 0, 1, false⟩] 1 = 0 := ⟨by kernel_rfl, by kernel_rfl, by kernel_rfl⟩
theorem k7 : pressErr ⟨60, 10, 5⟩ ⟨0, 10, 20, 40⟩ = 0 ∧ pressLo ⟨60, 10, 5⟩ ⟨0, 10, 20, 40⟩ = 60 ∧ pressHi ⟨60, 10, 5⟩ ⟨0, 10, 20, 40⟩ = 72 := ⟨by kernel_rfl, by kernel_rfl, by kernel_rfl⟩
def kRooms : List Room := [⟨0, 10, 20, 40⟩, ⟨0, 10, 20, 40⟩, ⟨0, 10, 20, 40⟩, ⟨0, 10, 20, 40⟩]
theorem k8 : opOut (pressLo ⟨60, 10, 5⟩) ⟨60, 10, 5⟩ kRooms [59, 60, 71, 72] = [0] ∧ opOut (pressHi ⟨60, 10, 5⟩) ⟨60, 10, 5⟩ kRooms [59, 60, 71, 72] = [0, 1, 2] ∧ opErr ⟨60, 10, 5⟩ kRooms [59, 60, 71, 72] = 0 := ⟨by kernel_rfl, by kernel_rfl, by kernel_rfl⟩
theorem k9 : alOut ⟨6, [14, 18]⟩ [[], [⟨0, 4, 0⟩], [⟨0, 4, 2⟩]] 1 = [[0, 1, 2]] ∧ alErr ⟨6, [14, 18]⟩ [[], [⟨0, 4, 0⟩], [⟨0, 4, 2⟩]] 1 = 0 := ⟨by kernel_rfl, by kernel_rfl⟩
theorem k10 : apAt ⟨6, [14, 18]⟩ [⟨0, 4, 0⟩] [] 2 = ⟨1, 0, 1, false⟩ ∧ apErr ⟨6, [14, 18]⟩ [⟨0, 4, 0⟩] [] 2 = 0 := ⟨by kernel_rfl, by kernel_rfl⟩
end Go.Dw.Seat
end
section
set_option linter.unusedSimpArgs false
set_option maxRecDepth 100000
namespace Go.Dw.Seat
open Go Go.Dw Go.Proofs Go.IntWalk
set_option maxHeartbeats 4000000 in
theorem c15 : DCall Try.prog 15 [] [] (bD true) [] := by
  have h55a := c55 true ⟨6, [14, 18]⟩ [⟨0, 2, 0⟩, ⟨1, 2, 5⟩] 5 (by decide) (by decide)
  rw [k1.1, k1.2] at h55a
  have h55b := c55 true ⟨6, [14, 18]⟩ [⟨0, 1, 3⟩, ⟨1, 3, 0⟩] 2 (by decide) (by decide)
  rw [k2.1, k2.2] at h55b
  have h18a := (c18 true true ⟨6, [14, 18]⟩ [0] [] (by decide) (by decide) (by decide)).weakA (l := [dP false ⟨6, [14, 18]⟩, dIs true [0], .c (.v (.slice none 0 0))])
    (.cons (.inl rfl) (.cons (.inl rfl) (.cons (.inr ⟨_, _, rfl, rfl, .nil true 4⟩) .nil)))
  rw [k3.1, k3.2] at h18a
  have h18b := c18 true true ⟨6, [14, 18]⟩ [0] [⟨0, 0, 1, false⟩] (by decide) (by decide) (by decide)
  rw [k4.1, k4.2.1, k4.2.2] at h18b
  have h19 := c19 true true ⟨6, [14, 18]⟩ [0] [⟨0, 0, 1, false⟩] (by decide) (by decide) (by decide)
  rw [k5, k4.2.1] at h19
  have h26 := c26 true true ⟨6, [14, 18]⟩ [0] [⟨0, 0, 1, false⟩] 1 (by decide) (by decide) (by decide)
  rw [k6.1, k6.2.1, k6.2.2] at h26
  have h41 := c41 ⟨60, 10, 5⟩ ⟨0, 10, 20, 40⟩
  simp only [k7.1, k7.2.1, k7.2.2, if_true] at h41
  have h39 := c39 true true ⟨60, 10, 5⟩ kRooms [59, 60, 71, 72] (by decide) (by decide)
  rw [k8.1, k8.2.1, k8.2.2] at h39
  have h35 := (c35 true true ⟨6, [14, 18]⟩ [[], [⟨0, 4, 0⟩], [⟨0, 4, 2⟩]] 1 (by decide) (by decide) (by decide)).weakA (l := [dP false ⟨6, [14, 18]⟩, .c (.sl true 1 [[.v (.slice none 0 0)], [.sl true 3 (rows eC [⟨0, 4, 0⟩])], [.sl true 3 (rows eC [⟨0, 4, 2⟩])]]), dI 1])
    (.cons (.inl rfl) (.cons (.inr ⟨_, _, rfl, rfl, .sl (.cons (.cons (.nil true 3) .nil) (.cons (.cons (.refl _) .nil) (.cons (.cons (.refl _) .nil) .nil)))⟩) (.cons (.inl rfl) .nil)))
  rw [k9.1, k9.2] at h35
  have h30 := (c30 ⟨6, [14, 18]⟩ [⟨0, 4, 0⟩] [] 2 (by decide) (by decide) (by decide)).weakA (l := [dP false ⟨6, [14, 18]⟩, dCs false [⟨0, 4, 0⟩], .c (.v (.slice none 0 0)), dI 2])
    (.cons (.inl rfl) (.cons (.inl rfl) (.cons (.inr ⟨_, _, rfl, rfl, .nil false 3⟩) (.cons (.inl rfl) .nil))))
  rw [k10.1, k10.2] at h30
  have e1 := c21 false true (nL [30, 54]) [30, 54] (by decide) (by decide)
  rw [show decide (nL [30, 54] = [30, 54]) = true from by decide] at e1
  have e2 := c21 false true (nL [14, 0]) [14, 0] (by decide) (by decide)
  rw [show decide (nL [14, 0] = [14, 0]) = true from by decide] at e2
  have e3 := c24 false true [⟨0, 1, 0⟩] [⟨0, 1, 0⟩] (by decide) (by decide)
  rw [show decide (([⟨0, 1, 0⟩] : List Cause) = [⟨0, 1, 0⟩]) = true from by decide] at e3
  have e4 := c21 false true (nL [0]) [0] (by decide) (by decide)
  rw [show decide (nL [0] = [0]) = true from by decide] at e4
  have e5 := c21 false true (nL [0, 1, 2]) [0, 1, 2] (by decide) (by decide)
  rw [show decide (nL [0, 1, 2] = [0, 1, 2]) = true from by decide] at e5
  have e6 := c36b false true false true [[0, 1, 2]] [[0, 1, 2]] (by decide) (by decide) (by decide) (by decide)
  rw [show decide (([[0, 1, 2]] : List (List Int)) = [[0, 1, 2]]) = true from by decide] at e6
  refine DCall.of Try.func15 sf15 hb15 (Nat.le_of_ble_eq_true rfl) (okRes_nil fun _ => rfl) ?_; simp only [s15, idxs, Nat.reduceAdd]
  repeat' (first
    | (with_reducible refine DW.seq ?_)
    | (with_reducible refine DW.block ?_)
    | (with_reducible refine DW.skip ?_)
    | (with_reducible refine DW.exit ?_)
    | (with_reducible refine DW.ret ?_)
    | (with_reducible refine DW.reg ?_)
    | (refine DW.dreg rfl (WF.of (by first | rfl | simp (disch := omega) only [go_sem, Nat.reduceLT, Nat.reduceLeDiff, Nat.reduceAdd, Nat.reduceMul, Nat.reduceEqDiff, ↓reduceIte, reduceCtorEq, Nat.reduceBEq, Nat.reduceBNe, Nat.reducePow, Int.reduceLE, Int.reduceLT, Int.reduceNeg, Int.reduceToNat, Int.reduceEq, Int.reduceAdd, Int.reduceSub, Int.reduceMul, Int.reduceBEq, Int.reduceBNe, Blk.men, Blk.keysIn])) ?_)
    | (simp (disch := omega) only [go_sem, Nat.reduceLT, Nat.reduceLeDiff, Nat.reduceAdd, Nat.reduceMul, Nat.reduceEqDiff, ↓reduceIte, reduceCtorEq, Nat.reduceBEq, Nat.reduceBNe, Nat.reducePow, Int.reduceLE, Int.reduceLT, Int.reduceNeg, Int.reduceToNat, Int.reduceEq, Int.reduceAdd, Int.reduceSub, Int.reduceMul, Int.reduceBEq, Int.reduceBNe, Blk.men, Blk.keysIn])
    | (exact retS_of rfl rfl rfl)
    | (refine DW.cond_tt rfl ?_)
    | (refine call_c (c54 _ _ _ _) (by decide) ?_)
    | (refine call_c (c62) (by decide) ?_)
    | (refine call_c (c63 _ _ _) (by decide) ?_)
    | (refine call_c (c64) (by decide) ?_)
    | (refine call_c (h55a) (by decide) ?_)
    | (refine call_c (h55b) (by decide) ?_)
    | (refine call_c (h18a) (by decide) ?_)
    | (refine call_c (h18b) (by decide) ?_)
    | (refine call_c (h19) (by decide) ?_)
    | (refine call_c (h26) (by decide) ?_)
    | (refine call_c (h41) (by decide) ?_)
    | (refine call_c (h39) (by decide) ?_)
    | (refine call_c (e1) (by decide) ?_)
    | (refine call_c (e2) (by decide) ?_)
    | (refine call_c (e3) (by decide) ?_)
    | (refine call_c (e4) (by decide) ?_)
    | (refine call_c (e5) (by decide) ?_)
    | (refine DW.cond_ff rfl ?_)
    | (refine DW.cond rfl ?_ ?_ <;> intro hc <;> (try simp only [go_sem] at hc))
    | (refine g_split ?_ ?_ <;> intro hc <;> (try simp only [hc]) <;> (try simp only [go_sem] at hc)))
  refine call_n h35 rfl ?_ (by decide) ?_
  · simp (disch := omega) only [go_sem, Nat.reduceLT, Nat.reduceLeDiff, Nat.reduceAdd, Nat.reduceMul, Nat.reduceEqDiff, ↓reduceIte, reduceCtorEq, Nat.reduceBEq, Nat.reduceBNe, Nat.reducePow, Int.reduceLE, Int.reduceLT, Int.reduceNeg, Int.reduceToNat, Int.reduceEq, Int.reduceAdd, Int.reduceSub, Int.reduceMul, Int.reduceBEq, Int.reduceBNe, Blk.men, Blk.keysIn, closeE1, closeCs1, closeC1, closedEs, closedCs, rows]
  simp (disch := omega) only [go_sem, Nat.reduceLT, Nat.reduceLeDiff, Nat.reduceAdd, Nat.reduceMul, Nat.reduceEqDiff, ↓reduceIte, reduceCtorEq, Nat.reduceBEq, Nat.reduceBNe, Nat.reducePow, Int.reduceLE, Int.reduceLT, Int.reduceNeg, Int.reduceToNat, Int.reduceEq, Int.reduceAdd, Int.reduceSub, Int.reduceMul, Int.reduceBEq, Int.reduceBNe, Blk.men, Blk.keysIn]
  repeat' (first
    | (with_reducible refine DW.seq ?_)
    | (with_reducible refine DW.block ?_)
    | (with_reducible refine DW.skip ?_)
    | (with_reducible refine DW.exit ?_)
    | (with_reducible refine DW.ret ?_)
    | (with_reducible refine DW.reg ?_)
    | (refine DW.dreg rfl (WF.of (by first | rfl | simp (disch := omega) only [go_sem, Nat.reduceLT, Nat.reduceLeDiff, Nat.reduceAdd, Nat.reduceMul, Nat.reduceEqDiff, ↓reduceIte, reduceCtorEq, Nat.reduceBEq, Nat.reduceBNe, Nat.reducePow, Int.reduceLE, Int.reduceLT, Int.reduceNeg, Int.reduceToNat, Int.reduceEq, Int.reduceAdd, Int.reduceSub, Int.reduceMul, Int.reduceBEq, Int.reduceBNe, Blk.men, Blk.keysIn])) ?_)
    | (simp (disch := omega) only [go_sem, Nat.reduceLT, Nat.reduceLeDiff, Nat.reduceAdd, Nat.reduceMul, Nat.reduceEqDiff, ↓reduceIte, reduceCtorEq, Nat.reduceBEq, Nat.reduceBNe, Nat.reducePow, Int.reduceLE, Int.reduceLT, Int.reduceNeg, Int.reduceToNat, Int.reduceEq, Int.reduceAdd, Int.reduceSub, Int.reduceMul, Int.reduceBEq, Int.reduceBNe, Blk.men, Blk.keysIn])
    | (exact retS_of rfl rfl rfl)
    | (refine DW.cond_tt rfl ?_)
    | (refine call_c (c54 _ _ _ _) (by decide) ?_)
    | (refine call_c (c62) (by decide) ?_)
    | (refine call_c (c63 _ _ _) (by decide) ?_)
    | (refine call_c (c64) (by decide) ?_)
    | (refine call_c (e1) (by decide) ?_)
    | (refine call_c (e2) (by decide) ?_)
    | (refine call_c (e3) (by decide) ?_)
    | (refine call_c (e4) (by decide) ?_)
    | (refine call_c (e5) (by decide) ?_)
    | (refine DW.cond_ff rfl ?_)
    | (refine DW.cond rfl ?_ ?_ <;> intro hc <;> (try simp only [go_sem] at hc))
    | (refine g_split ?_ ?_ <;> intro hc <;> (try simp only [hc]) <;> (try simp only [go_sem] at hc)))
  refine call_e (Ent.rel 105 rfl) h30 rfl rfl (by decide) ?_
  simp (disch := omega) only [go_sem, Nat.reduceLT, Nat.reduceLeDiff, Nat.reduceAdd, Nat.reduceMul, Nat.reduceEqDiff, ↓reduceIte, reduceCtorEq, Nat.reduceBEq, Nat.reduceBNe, Nat.reducePow, Int.reduceLE, Int.reduceLT, Int.reduceNeg, Int.reduceToNat, Int.reduceEq, Int.reduceAdd, Int.reduceSub, Int.reduceMul, Int.reduceBEq, Int.reduceBNe, Blk.men, Blk.keysIn]
  repeat' (first
    | (with_reducible refine DW.seq ?_)
    | (with_reducible refine DW.block ?_)
    | (with_reducible refine DW.skip ?_)
    | (with_reducible refine DW.exit ?_)
    | (with_reducible refine DW.ret ?_)
    | (with_reducible refine DW.reg ?_)
    | (refine DW.dreg rfl (WF.of (by first | rfl | simp (disch := omega) only [go_sem, Nat.reduceLT, Nat.reduceLeDiff, Nat.reduceAdd, Nat.reduceMul, Nat.reduceEqDiff, ↓reduceIte, reduceCtorEq, Nat.reduceBEq, Nat.reduceBNe, Nat.reducePow, Int.reduceLE, Int.reduceLT, Int.reduceNeg, Int.reduceToNat, Int.reduceEq, Int.reduceAdd, Int.reduceSub, Int.reduceMul, Int.reduceBEq, Int.reduceBNe, Blk.men, Blk.keysIn])) ?_)
    | (simp (disch := omega) only [go_sem, Nat.reduceLT, Nat.reduceLeDiff, Nat.reduceAdd, Nat.reduceMul, Nat.reduceEqDiff, ↓reduceIte, reduceCtorEq, Nat.reduceBEq, Nat.reduceBNe, Nat.reducePow, Int.reduceLE, Int.reduceLT, Int.reduceNeg, Int.reduceToNat, Int.reduceEq, Int.reduceAdd, Int.reduceSub, Int.reduceMul, Int.reduceBEq, Int.reduceBNe, Blk.men, Blk.keysIn])
    | (exact retS_of rfl rfl rfl)
    | (refine DW.cond_tt rfl ?_)
    | (refine call_c (c54 _ _ _ _) (by decide) ?_)
    | (refine call_c (c62) (by decide) ?_)
    | (refine call_c (c63 _ _ _) (by decide) ?_)
    | (refine call_c (c64) (by decide) ?_)
    | (refine call_c (e1) (by decide) ?_)
    | (refine call_c (e2) (by decide) ?_)
    | (refine call_c (e3) (by decide) ?_)
    | (refine call_c (e4) (by decide) ?_)
    | (refine call_c (e5) (by decide) ?_)
    | (refine DW.cond_ff rfl ?_)
    | (refine DW.cond rfl ?_ ?_ <;> intro hc <;> (try simp only [go_sem] at hc))
    | (refine g_split ?_ ?_ <;> intro hc <;> (try simp only [hc]) <;> (try simp only [go_sem] at hc)))
  refine call_n e6 rfl ?_ (by decide) ?_
  · simp (disch := omega) only [go_sem, Nat.reduceLT, Nat.reduceLeDiff, Nat.reduceAdd, Nat.reduceMul, Nat.reduceEqDiff, ↓reduceIte, reduceCtorEq, Nat.reduceBEq, Nat.reduceBNe, Nat.reducePow, Int.reduceLE, Int.reduceLT, Int.reduceNeg, Int.reduceToNat, Int.reduceEq, Int.reduceAdd, Int.reduceSub, Int.reduceMul, Int.reduceBEq, Int.reduceBNe, Blk.men, Blk.keysIn, closeE1, closeCs1, closeC1, closedEs, closedCs, rows]
  simp (disch := omega) only [go_sem, Nat.reduceLT, Nat.reduceLeDiff, Nat.reduceAdd, Nat.reduceMul, Nat.reduceEqDiff, ↓reduceIte, reduceCtorEq, Nat.reduceBEq, Nat.reduceBNe, Nat.reducePow, Int.reduceLE, Int.reduceLT, Int.reduceNeg, Int.reduceToNat, Int.reduceEq, Int.reduceAdd, Int.reduceSub, Int.reduceMul, Int.reduceBEq, Int.reduceBNe, Blk.men, Blk.keysIn]
  repeat' (first
    | (with_reducible refine DW.seq ?_)
    | (with_reducible refine DW.block ?_)
    | (with_reducible refine DW.skip ?_)
    | (with_reducible refine DW.exit ?_)
    | (with_reducible refine DW.ret ?_)
    | (with_reducible refine DW.reg ?_)
    | (refine DW.dreg rfl (WF.of (by first | rfl | simp (disch := omega) only [go_sem, Nat.reduceLT, Nat.reduceLeDiff, Nat.reduceAdd, Nat.reduceMul, Nat.reduceEqDiff, ↓reduceIte, reduceCtorEq, Nat.reduceBEq, Nat.reduceBNe, Nat.reducePow, Int.reduceLE, Int.reduceLT, Int.reduceNeg, Int.reduceToNat, Int.reduceEq, Int.reduceAdd, Int.reduceSub, Int.reduceMul, Int.reduceBEq, Int.reduceBNe, Blk.men, Blk.keysIn])) ?_)
    | (simp (disch := omega) only [go_sem, Nat.reduceLT, Nat.reduceLeDiff, Nat.reduceAdd, Nat.reduceMul, Nat.reduceEqDiff, ↓reduceIte, reduceCtorEq, Nat.reduceBEq, Nat.reduceBNe, Nat.reducePow, Int.reduceLE, Int.reduceLT, Int.reduceNeg, Int.reduceToNat, Int.reduceEq, Int.reduceAdd, Int.reduceSub, Int.reduceMul, Int.reduceBEq, Int.reduceBNe, Blk.men, Blk.keysIn])
    | (exact retS_of rfl rfl rfl)
    | (refine DW.cond_tt rfl ?_)
    | (refine call_c (c54 _ _ _ _) (by decide) ?_)
    | (refine DW.cond_ff rfl ?_)
    | (refine DW.cond rfl ?_ ?_ <;> intro hc <;> (try simp only [go_sem] at hc))
    | (refine g_split ?_ ?_ <;> intro hc <;> (try simp only [hc]) <;> (try simp only [go_sem] at hc)))
end Go.Dw.Seat
end
section
set_option linter.unusedSimpArgs false
set_option maxRecDepth 100000
namespace Go.Dw.Seat
open Go Go.Dw Go.Proofs Go.ChangeShapes Go.WideShapes Go.ChangeAt Go.RowKit
theorem tOwn : ownKnob Try.prog.godebug = none := by kernel_rfl
theorem tLaid : laidOutB Try.prog = true := by kernel_rfl
theorem u3 : Try.prog.underlying 3 = some (.int .i64) := by kernel_rfl
theorem u4 : Try.prog.underlying 4 = some .bool := by kernel_rfl
theorem u22 : Try.prog.underlying 22 = some (.slice 3) := by kernel_rfl
theorem u32 : Try.prog.underlying 32 = some (.slice 104) := by kernel_rfl
theorem cells3 : Try.prog.cellsOf 3 = 1 := by kernel_rfl
theorem cells22 : Try.prog.cellsOf 22 = 1 := by kernel_rfl
section
variable {H : Type} {enc : TypeId × Value → H} {w : World} {base : Nat} {spare : Nat → Bool} {held : Bool} {fuel : Nat} {cs : List Value} {x : DataW H × List MemPlace}
theorem rd_I (h : DataW.trod enc Try.prog w base spare held fuel 3 cs = some x) : ∃ n : Int, RepVs w A0 (eI n) cs := by
  obtain ⟨n, rfl, _⟩ := rd_int u3 h
  exact ⟨n, _, _, rfl, ⟨rfl, rfl⟩, rfl⟩
theorem rd_Is (h : DataW.trod enc Try.prog w base spare held fuel 22 cs = some x) : ∃ (l : List Int) (v : Value), cs = [v] ∧ RepC w A0 (.sl false 1 (rows eI l)) v ∧ l.length ≤ maxLen ∧ szW x.1 = l.length :=
  rd_slice u22 cells3 (by decide) (fun _ => rfl) (fun _ _ _ h => rd_I h) h
end
end Go.Dw.Seat
namespace Go.Proofs.Ytecgononbfgigaa
end Go.Proofs.Ytecgononbfgigaa
end
section
set_option linter.unusedSimpArgs false
set_option maxRecDepth 100000
namespace Go.Dw.Seat
open Go Go.Dw Go.Proofs Go.IntWalk
theorem rule_eq (r : Rule) : ((decide (1 ≤ r.mins) && decide (r.mins ≤ 600)) && (decide (0 ≤ r.deg) && decide (r.deg ≤ 20)) && (decide (0 ≤ r.damp) && decide (r.damp ≤ 20))) = ruleOk r := by
  rw [Bool.eq_iff_iff]
  simp [ruleOk, wthn]
  omega
theorem room_eq (r : Room) : ((decide (0 ≤ r.wl) && decide (r.wl ≤ r.wh) && decide (r.wh ≤ 30)) && (decide (0 ≤ r.dl) && decide (r.dl ≤ r.dh) && decide (r.dh ≤ 100))) = roomOk r := by
  rw [Bool.eq_iff_iff]
  simp [roomOk, spanOk, wthn]
  omega
def opI (v : Int) : Bool := decide (0 ≤ v) && decide (v ≤ 2400)
def opB (rooms : List Room) (mins : List Int) : Nat → Bool
  | 0 => false
  | i + 1 => opB rooms mins i || !roomOk (rooms.getD i ⟨0, 0, 0, 0⟩) || (decide (i < mins.length) && !opI (mins.getD i 0))
theorem opB_false {rooms : List Room} {mins : List Int} : ∀ {n : Nat}, opB rooms mins n = false ↔ ∀ j, j < n → roomOk (rooms.getD j ⟨0, 0, 0, 0⟩) = true ∧ (j < mins.length → opI (mins.getD j 0) = true)
  | 0 => ⟨fun _ j h => absurd h (Nat.not_lt_zero j), fun _ => rfl⟩
  | n + 1 => by
    simp only [opB, Bool.or_eq_false_iff, Bool.not_eq_false', Bool.and_eq_false_iff, decide_eq_false_iff_not]
    rw [opB_false (n := n)]
    constructor
    · rintro ⟨⟨h1, h2⟩, h3⟩ j hj
      rcases Nat.lt_or_ge j n with h | h
      · exact h1 j h
      · obtain rfl : j = n := by omega
        exact ⟨h2, fun h => h3.resolve_left (fun h4 => h4 h)⟩
    · intro h
      refine ⟨⟨fun j hj => h j (by omega), (h n (by omega)).1⟩, ?_⟩
      rcases Nat.lt_or_ge n mins.length with h4 | h4
      · exact .inr ((h n (by omega)).2 h4)
      · exact .inl (by omega)
theorem opB_all {rooms : List Room} {mins : List Int} (he : mins.length = rooms.length) : opB rooms mins rooms.length = false ↔ (rooms.any fun m => !roomOk m) = false ∧ wthn 0 2400 mins = true := by
  rw [opB_false]
  constructor
  · intro h
    constructor
    · rw [List.any_eq_false]
      intro m hm
      obtain ⟨j, hj, rfl⟩ := List.mem_iff_getElem.1 hm
      have := (h j hj).1
      simpa [List.getD, hj] using this
    · simp only [wthn, Bool.not_eq_true', List.any_eq_false, Bool.or_eq_true, decide_eq_true_eq, not_or]
      intro v hv
      obtain ⟨j, hj, rfl⟩ := List.mem_iff_getElem.1 hv
      have h1 := (h j (by omega)).2 hj
      simp only [opI, List.getD, List.getElem?_eq_getElem hj, Option.getD_some, Bool.and_eq_true, decide_eq_true_eq] at h1
      omega
  · rintro ⟨h1, h2⟩ j hj
    constructor
    · have := List.any_eq_false.1 h1 rooms[j] (List.getElem_mem hj)
      simpa [List.getD, hj] using this
    · intro hj2
      simp only [wthn, Bool.not_eq_true', List.any_eq_false, Bool.or_eq_true, decide_eq_true_eq, not_or] at h2
      have := h2 mins[j] (List.getElem_mem hj2)
      simp only [opI, List.getD, List.getElem?_eq_getElem hj2, Option.getD_some, Bool.and_eq_true, decide_eq_true_eq]
      omega
def opZ (r : Rule) (rooms : List Room) (mins : List Int) : Int := if ruleOk r = false then 2 else if 50 < (rooms.length : Int) then 5 else if (mins.length : Int) ≠ rooms.length then 4 else 0
theorem opErr_eq (r : Rule) (rooms : List Room) (mins : List Int) : opErr r rooms mins = if opZ r rooms mins = 0 then (if opB rooms mins rooms.length then 3 else 0) else opZ r rooms mins := by
  unfold opErr opZ
  by_cases h1 : ruleOk r = false
  · simp only [if_pos h1]; rfl
  · simp only [if_neg h1]
    by_cases h2 : 50 < (rooms.length : Int)
    · simp only [if_pos h2]; rfl
    · simp only [if_neg h2]
      by_cases h3 : (mins.length : Int) ≠ rooms.length
      · simp only [if_pos h3]; rfl
      · simp only [if_neg h3, if_true]
        have he : mins.length = rooms.length := by omega
        have hb := opB_all he
        cases hc : opB rooms mins rooms.length with
        | false =>
          obtain ⟨h4, h5⟩ := hb.1 hc
          simp [h4, h5]
        | true =>
          rw [hc] at hb
          simp only [Bool.true_eq_false, false_iff, not_and, Bool.not_eq_true] at hb
          cases h4 : (rooms.any fun m => !roomOk m) with
          | true => simp
          | false => simp [hb h4]
structure OpS where
  i : Nat
  bad : Bool
  s : List Nat
  t : List Nat
abbrev opInv (r : Rule) (rooms : List Room) (mins : List Int) (q : OpS) : Prop :=
  q.i ≤ rooms.length ∧ q.s.length ≤ q.i ∧ q.t.length ≤ q.i ∧ q.bad = opB rooms mins q.i ∧ (ruleOk r = true → q.bad = false → mins.length = rooms.length → q.s = opF (pressLo r) rooms mins q.i ∧ q.t = opF (pressHi r) rooms mins q.i)
set_option maxHeartbeats 4000000 in
theorem c7 (b1 b2 : Bool) (r : Rule) (rooms : List Room) (mins : List Int) : DCall Try.prog 7 [dR r, .agg [.c (.sl b1 4 (rows eR rooms)), dIs b2 mins]] [] (bD true) [] := by
  by_cases hA : 60 < (rooms.length : Int)
  · have hd : decide ((60 : Int) < (rooms.length : Int)) = true := decide_eq_true hA
    refine DCall.of Try.func7 sf7 hb7 (Nat.le_of_ble_eq_true rfl) (okRes_nil fun _ => rfl) ?_; simp only [s7, idxs, Nat.reduceAdd]
    repeat' (first
    | (with_reducible refine DW.seq ?_)
    | (with_reducible refine DW.block ?_)
    | (with_reducible refine DW.skip ?_)
    | (with_reducible refine DW.exit ?_)
    | (with_reducible refine DW.ret ?_)
    | (with_reducible refine DW.reg ?_)
    | (refine DW.dreg rfl (WF.of (by first | rfl | simp (disch := omega) only [go_sem, Nat.reduceLT, Nat.reduceLeDiff, Nat.reduceAdd, Nat.reduceMul, Nat.reduceEqDiff, ↓reduceIte, reduceCtorEq, Nat.reduceBEq, Nat.reduceBNe, Nat.reducePow, Int.reduceLE, Int.reduceLT, Int.reduceNeg, Int.reduceToNat, Int.reduceEq, Int.reduceAdd, Int.reduceSub, Int.reduceMul, Int.reduceBEq, Int.reduceBNe, Blk.men, Blk.keysIn, hd])) ?_)
    | (refine DW.ord rfl (WF.of (by first | rfl | simp (disch := omega) only [go_sem, Nat.reduceLT, Nat.reduceLeDiff, Nat.reduceAdd, Nat.reduceMul, Nat.reduceEqDiff, ↓reduceIte, reduceCtorEq, Nat.reduceBEq, Nat.reduceBNe, Nat.reducePow, Int.reduceLE, Int.reduceLT, Int.reduceNeg, Int.reduceToNat, Int.reduceEq, Int.reduceAdd, Int.reduceSub, Int.reduceMul, Int.reduceBEq, Int.reduceBNe, Blk.men, Blk.keysIn, hd])) ?_ ?_ ?_; rotate_left)
    | rfl
    | (with_reducible refine And.intro ?_ ?_)
    | (simp (disch := omega) only [go_sem, Nat.reduceLT, Nat.reduceLeDiff, Nat.reduceAdd, Nat.reduceMul, Nat.reduceEqDiff, ↓reduceIte, reduceCtorEq, Nat.reduceBEq, Nat.reduceBNe, Nat.reducePow, Int.reduceLE, Int.reduceLT, Int.reduceNeg, Int.reduceToNat, Int.reduceEq, Int.reduceAdd, Int.reduceSub, Int.reduceMul, Int.reduceBEq, Int.reduceBNe, Blk.men, Blk.keysIn, hd])
    | (exact retS_of rfl rfl rfl)
    | (refine DW.cond_tt rfl ?_)
    | (refine call_c (c15) (by decide) ?_)
    | (refine DW.cond_ff rfl ?_)
    | (refine DW.cond rfl ?_ ?_ <;> intro hc <;> (try simp only [go_sem] at hc))
    | (refine g_split ?_ ?_ <;> intro hc <;> (try simp only [hc]) <;> (try simp only [go_sem] at hc)))
  have hd : decide ((60 : Int) < (rooms.length : Int)) = false := decide_eq_false hA
  by_cases hB : 60 < (mins.length : Int)
  · have hd2 : decide ((60 : Int) < (mins.length : Int)) = true := decide_eq_true hB
    refine DCall.of Try.func7 sf7 hb7 (Nat.le_of_ble_eq_true rfl) (okRes_nil fun _ => rfl) ?_; simp only [s7, idxs, Nat.reduceAdd]
    repeat' (first
    | (with_reducible refine DW.seq ?_)
    | (with_reducible refine DW.block ?_)
    | (with_reducible refine DW.skip ?_)
    | (with_reducible refine DW.exit ?_)
    | (with_reducible refine DW.ret ?_)
    | (with_reducible refine DW.reg ?_)
    | (refine DW.dreg rfl (WF.of (by first | rfl | simp (disch := omega) only [go_sem, Nat.reduceLT, Nat.reduceLeDiff, Nat.reduceAdd, Nat.reduceMul, Nat.reduceEqDiff, ↓reduceIte, reduceCtorEq, Nat.reduceBEq, Nat.reduceBNe, Nat.reducePow, Int.reduceLE, Int.reduceLT, Int.reduceNeg, Int.reduceToNat, Int.reduceEq, Int.reduceAdd, Int.reduceSub, Int.reduceMul, Int.reduceBEq, Int.reduceBNe, Blk.men, Blk.keysIn, hd, hd2])) ?_)
    | (refine DW.ord rfl (WF.of (by first | rfl | simp (disch := omega) only [go_sem, Nat.reduceLT, Nat.reduceLeDiff, Nat.reduceAdd, Nat.reduceMul, Nat.reduceEqDiff, ↓reduceIte, reduceCtorEq, Nat.reduceBEq, Nat.reduceBNe, Nat.reducePow, Int.reduceLE, Int.reduceLT, Int.reduceNeg, Int.reduceToNat, Int.reduceEq, Int.reduceAdd, Int.reduceSub, Int.reduceMul, Int.reduceBEq, Int.reduceBNe, Blk.men, Blk.keysIn, hd, hd2])) ?_ ?_ ?_; rotate_left)
    | rfl
    | (with_reducible refine And.intro ?_ ?_)
    | (simp (disch := omega) only [go_sem, Nat.reduceLT, Nat.reduceLeDiff, Nat.reduceAdd, Nat.reduceMul, Nat.reduceEqDiff, ↓reduceIte, reduceCtorEq, Nat.reduceBEq, Nat.reduceBNe, Nat.reducePow, Int.reduceLE, Int.reduceLT, Int.reduceNeg, Int.reduceToNat, Int.reduceEq, Int.reduceAdd, Int.reduceSub, Int.reduceMul, Int.reduceBEq, Int.reduceBNe, Blk.men, Blk.keysIn, hd, hd2])
    | (exact retS_of rfl rfl rfl)
    | (refine DW.cond_tt rfl ?_)
    | (refine call_c (c15) (by decide) ?_)
    | (refine DW.cond_ff rfl ?_)
    | (refine DW.cond rfl ?_ ?_ <;> intro hc <;> (try simp only [go_sem] at hc))
    | (refine g_split ?_ ?_ <;> intro hc <;> (try simp only [hc]) <;> (try simp only [go_sem] at hc)))
  have hd2 : decide ((60 : Int) < (mins.length : Int)) = false := decide_eq_false hB
  have hl : rooms.length ≤ 2 ^ 36 := by omega
  have hm : mins.length ≤ 2 ^ 36 := by omega
  have h38 := c38 b2 mins hm
  have h39 := c39 true false r rooms mins hl hm
  have h21 := c21 false b2 mins mins hm hm
  rw [show decide (mins = mins) = true from decide_eq_true rfl] at h21
  have h40 := c40 r
  rw [rule_eq] at h40
  generalize hlo : opOut (pressLo r) r rooms mins = la at *
  generalize hhi : opOut (pressHi r) r rooms mins = lb at *
  generalize her : opErr r rooms mins = le at *
  refine DCall.of Try.func7 sf7 hb7 (Nat.le_of_ble_eq_true rfl) (okRes_nil fun _ => rfl) ?_; simp only [s7, idxs, Nat.reduceAdd]
  repeat' (first
    | (with_reducible refine DW.seq ?_)
    | (with_reducible refine DW.block ?_)
    | (with_reducible refine DW.skip ?_)
    | (with_reducible refine DW.exit ?_)
    | (with_reducible refine DW.ret ?_)
    | (with_reducible refine DW.reg ?_)
    | (refine DW.dreg rfl (WF.of (by first | rfl | simp (disch := omega) only [go_sem, Nat.reduceLT, Nat.reduceLeDiff, Nat.reduceAdd, Nat.reduceMul, Nat.reduceEqDiff, ↓reduceIte, reduceCtorEq, Nat.reduceBEq, Nat.reduceBNe, Nat.reducePow, Int.reduceLE, Int.reduceLT, Int.reduceNeg, Int.reduceToNat, Int.reduceEq, Int.reduceAdd, Int.reduceSub, Int.reduceMul, Int.reduceBEq, Int.reduceBNe, Blk.men, Blk.keysIn, hd, hd2])) ?_)
    | (refine DW.ord rfl (WF.of (by first | rfl | simp (disch := omega) only [go_sem, Nat.reduceLT, Nat.reduceLeDiff, Nat.reduceAdd, Nat.reduceMul, Nat.reduceEqDiff, ↓reduceIte, reduceCtorEq, Nat.reduceBEq, Nat.reduceBNe, Nat.reducePow, Int.reduceLE, Int.reduceLT, Int.reduceNeg, Int.reduceToNat, Int.reduceEq, Int.reduceAdd, Int.reduceSub, Int.reduceMul, Int.reduceBEq, Int.reduceBNe, Blk.men, Blk.keysIn, hd, hd2])) ?_ ?_ ?_; rotate_left)
    | rfl
    | (with_reducible refine And.intro ?_ ?_)
    | (simp (disch := omega) only [go_sem, Nat.reduceLT, Nat.reduceLeDiff, Nat.reduceAdd, Nat.reduceMul, Nat.reduceEqDiff, ↓reduceIte, reduceCtorEq, Nat.reduceBEq, Nat.reduceBNe, Nat.reducePow, Int.reduceLE, Int.reduceLT, Int.reduceNeg, Int.reduceToNat, Int.reduceEq, Int.reduceAdd, Int.reduceSub, Int.reduceMul, Int.reduceBEq, Int.reduceBNe, Blk.men, Blk.keysIn, hd, hd2])
    | (exact retS_of rfl rfl rfl)
    | (refine DW.cond_tt rfl ?_)
    | (refine call_c (h38) (by decide) ?_)
    | (refine call_c (h39) (by decide) ?_)
    | (refine call_c (h21) (by decide) ?_)
    | (refine DW.cond_ff rfl ?_)
    | (refine DW.cond rfl ?_ ?_ <;> intro hc <;> (try simp only [go_sem] at hc))
    | (refine g_split ?_ ?_ <;> intro hc <;> (try simp only [hc]) <;> (try simp only [go_sem] at hc)))
  (refine call_c (h40) (by decide) ?_; simp (disch := omega) only [go_sem, Nat.reduceLT, Nat.reduceLeDiff, Nat.reduceAdd, Nat.reduceMul, Nat.reduceEqDiff, ↓reduceIte, reduceCtorEq, Nat.reduceBEq, Nat.reduceBNe, Nat.reducePow, Int.reduceLE, Int.reduceLT, Int.reduceNeg, Int.reduceToNat, Int.reduceEq, Int.reduceAdd, Int.reduceSub, Int.reduceMul, Int.reduceBEq, Int.reduceBNe, Blk.men, Blk.keysIn])
  refine DW.cutT ⟨239, [(11, bD false), (10, dI (opZ r rooms mins)), (9, dI le), (8, dIs false (nL lb)), (7, dIs false (nL la)), (5, .own 30), (3, .box 3 0), (2, .box 2 0)], [(30, .row 4 (rowC (rows eR rooms))), (3, .box [.c (.sl b1 4 (rows eR rooms)), dIs b2 mins]), (2, .box [dI r.mins, dI r.deg, dI r.damp])]⟩ ?_ ?_
  · cases hr : ruleOk r with
    | false =>
      have hz : opZ r rooms mins = 2 := by simp only [opZ, hr, if_true]
      repeat' (first
    | (with_reducible refine DW.seq ?_)
    | (with_reducible refine DW.block ?_)
    | (with_reducible refine DW.skip ?_)
    | (with_reducible refine DW.exit ?_)
    | (with_reducible refine DW.ret ?_)
    | (with_reducible refine DW.reg ?_)
    | (refine DW.dreg rfl (WF.of (by first | rfl | simp (disch := omega) only [go_sem, Nat.reduceLT, Nat.reduceLeDiff, Nat.reduceAdd, Nat.reduceMul, Nat.reduceEqDiff, ↓reduceIte, reduceCtorEq, Nat.reduceBEq, Nat.reduceBNe, Nat.reducePow, Int.reduceLE, Int.reduceLT, Int.reduceNeg, Int.reduceToNat, Int.reduceEq, Int.reduceAdd, Int.reduceSub, Int.reduceMul, Int.reduceBEq, Int.reduceBNe, Blk.men, Blk.keysIn, hr])) ?_)
    | (refine DW.ord rfl (WF.of (by first | rfl | simp (disch := omega) only [go_sem, Nat.reduceLT, Nat.reduceLeDiff, Nat.reduceAdd, Nat.reduceMul, Nat.reduceEqDiff, ↓reduceIte, reduceCtorEq, Nat.reduceBEq, Nat.reduceBNe, Nat.reducePow, Int.reduceLE, Int.reduceLT, Int.reduceNeg, Int.reduceToNat, Int.reduceEq, Int.reduceAdd, Int.reduceSub, Int.reduceMul, Int.reduceBEq, Int.reduceBNe, Blk.men, Blk.keysIn, hr])) ?_ ?_ ?_; rotate_left)
    | rfl
    | (with_reducible refine And.intro ?_ ?_)
    | (simp (disch := omega) only [go_sem, Nat.reduceLT, Nat.reduceLeDiff, Nat.reduceAdd, Nat.reduceMul, Nat.reduceEqDiff, ↓reduceIte, reduceCtorEq, Nat.reduceBEq, Nat.reduceBNe, Nat.reducePow, Int.reduceLE, Int.reduceLT, Int.reduceNeg, Int.reduceToNat, Int.reduceEq, Int.reduceAdd, Int.reduceSub, Int.reduceMul, Int.reduceBEq, Int.reduceBNe, Blk.men, Blk.keysIn, hr])
    | (exact retS_of rfl rfl rfl)
    | (refine DW.cond_tt rfl ?_)
    | (refine DW.cond_ff rfl ?_)
    | (refine DW.cond rfl ?_ ?_ <;> intro hc <;> (try simp only [go_sem] at hc))
    | (refine g_split ?_ ?_ <;> intro hc <;> (try simp only [hc]) <;> (try simp only [go_sem] at hc)))
      refine Ent.to ?_ ?_ <;> simp (disch := omega) only [wkT_cons, wkX_cons, wkT_nil, wkX_nil, get, Nat.reduceEqDiff, ↓reduceIte, ex_some, wk_self, wk_top, wk_nil, wkB_self, and_self, dI, i64_in, and_true, true_and, Int.natCast_add, Int.natCast_one, Int.ofNat_zero, Int.natCast_zero, hz, bD]
    | true =>
      by_cases h50 : 50 < (rooms.length : Int)
      · have hz : opZ r rooms mins = 5 := by simp only [opZ, hr, h50, if_true, Bool.true_eq_false, if_false]
        have hd3 : decide ((50 : Int) < (rooms.length : Int)) = true := decide_eq_true h50
        repeat' (first
    | (with_reducible refine DW.seq ?_)
    | (with_reducible refine DW.block ?_)
    | (with_reducible refine DW.skip ?_)
    | (with_reducible refine DW.exit ?_)
    | (with_reducible refine DW.ret ?_)
    | (with_reducible refine DW.reg ?_)
    | (refine DW.dreg rfl (WF.of (by first | rfl | simp (disch := omega) only [go_sem, Nat.reduceLT, Nat.reduceLeDiff, Nat.reduceAdd, Nat.reduceMul, Nat.reduceEqDiff, ↓reduceIte, reduceCtorEq, Nat.reduceBEq, Nat.reduceBNe, Nat.reducePow, Int.reduceLE, Int.reduceLT, Int.reduceNeg, Int.reduceToNat, Int.reduceEq, Int.reduceAdd, Int.reduceSub, Int.reduceMul, Int.reduceBEq, Int.reduceBNe, Blk.men, Blk.keysIn, hr, hd3])) ?_)
    | (refine DW.ord rfl (WF.of (by first | rfl | simp (disch := omega) only [go_sem, Nat.reduceLT, Nat.reduceLeDiff, Nat.reduceAdd, Nat.reduceMul, Nat.reduceEqDiff, ↓reduceIte, reduceCtorEq, Nat.reduceBEq, Nat.reduceBNe, Nat.reducePow, Int.reduceLE, Int.reduceLT, Int.reduceNeg, Int.reduceToNat, Int.reduceEq, Int.reduceAdd, Int.reduceSub, Int.reduceMul, Int.reduceBEq, Int.reduceBNe, Blk.men, Blk.keysIn, hr, hd3])) ?_ ?_ ?_; rotate_left)
    | rfl
    | (with_reducible refine And.intro ?_ ?_)
    | (simp (disch := omega) only [go_sem, Nat.reduceLT, Nat.reduceLeDiff, Nat.reduceAdd, Nat.reduceMul, Nat.reduceEqDiff, ↓reduceIte, reduceCtorEq, Nat.reduceBEq, Nat.reduceBNe, Nat.reducePow, Int.reduceLE, Int.reduceLT, Int.reduceNeg, Int.reduceToNat, Int.reduceEq, Int.reduceAdd, Int.reduceSub, Int.reduceMul, Int.reduceBEq, Int.reduceBNe, Blk.men, Blk.keysIn, hr, hd3])
    | (exact retS_of rfl rfl rfl)
    | (refine DW.cond_tt rfl ?_)
    | (refine DW.cond_ff rfl ?_)
    | (refine DW.cond rfl ?_ ?_ <;> intro hc <;> (try simp only [go_sem] at hc))
    | (refine g_split ?_ ?_ <;> intro hc <;> (try simp only [hc]) <;> (try simp only [go_sem] at hc)))
        refine Ent.to ?_ ?_ <;> simp (disch := omega) only [wkT_cons, wkX_cons, wkT_nil, wkX_nil, get, Nat.reduceEqDiff, ↓reduceIte, ex_some, wk_self, wk_top, wk_nil, wkB_self, and_self, dI, i64_in, and_true, true_and, Int.natCast_add, Int.natCast_one, Int.ofNat_zero, Int.natCast_zero, hz, bD]
      · have hd3 : decide ((50 : Int) < (rooms.length : Int)) = false := decide_eq_false h50
        by_cases hne : (mins.length : Int) = rooms.length
        · have hz : opZ r rooms mins = 0 := by simp only [opZ, hr, h50, hne, Bool.true_eq_false, if_false, ne_eq, not_true_eq_false]
          have hd4 : ((mins.length : Int) != (rooms.length : Int)) = false := by simpa using hne
          repeat' (first
    | (with_reducible refine DW.seq ?_)
    | (with_reducible refine DW.block ?_)
    | (with_reducible refine DW.skip ?_)
    | (with_reducible refine DW.exit ?_)
    | (with_reducible refine DW.ret ?_)
    | (with_reducible refine DW.reg ?_)
    | (refine DW.dreg rfl (WF.of (by first | rfl | simp (disch := omega) only [go_sem, Nat.reduceLT, Nat.reduceLeDiff, Nat.reduceAdd, Nat.reduceMul, Nat.reduceEqDiff, ↓reduceIte, reduceCtorEq, Nat.reduceBEq, Nat.reduceBNe, Nat.reducePow, Int.reduceLE, Int.reduceLT, Int.reduceNeg, Int.reduceToNat, Int.reduceEq, Int.reduceAdd, Int.reduceSub, Int.reduceMul, Int.reduceBEq, Int.reduceBNe, Blk.men, Blk.keysIn, hr, hd3, hd4])) ?_)
    | (refine DW.ord rfl (WF.of (by first | rfl | simp (disch := omega) only [go_sem, Nat.reduceLT, Nat.reduceLeDiff, Nat.reduceAdd, Nat.reduceMul, Nat.reduceEqDiff, ↓reduceIte, reduceCtorEq, Nat.reduceBEq, Nat.reduceBNe, Nat.reducePow, Int.reduceLE, Int.reduceLT, Int.reduceNeg, Int.reduceToNat, Int.reduceEq, Int.reduceAdd, Int.reduceSub, Int.reduceMul, Int.reduceBEq, Int.reduceBNe, Blk.men, Blk.keysIn, hr, hd3, hd4])) ?_ ?_ ?_; rotate_left)
    | rfl
    | (with_reducible refine And.intro ?_ ?_)
    | (simp (disch := omega) only [go_sem, Nat.reduceLT, Nat.reduceLeDiff, Nat.reduceAdd, Nat.reduceMul, Nat.reduceEqDiff, ↓reduceIte, reduceCtorEq, Nat.reduceBEq, Nat.reduceBNe, Nat.reducePow, Int.reduceLE, Int.reduceLT, Int.reduceNeg, Int.reduceToNat, Int.reduceEq, Int.reduceAdd, Int.reduceSub, Int.reduceMul, Int.reduceBEq, Int.reduceBNe, Blk.men, Blk.keysIn, hr, hd3, hd4])
    | (exact retS_of rfl rfl rfl)
    | (refine DW.cond_tt rfl ?_)
    | (refine DW.cond_ff rfl ?_)
    | (refine DW.cond rfl ?_ ?_ <;> intro hc <;> (try simp only [go_sem] at hc))
    | (refine g_split ?_ ?_ <;> intro hc <;> (try simp only [hc]) <;> (try simp only [go_sem] at hc)))
          refine Ent.to ?_ ?_ <;> simp (disch := omega) only [wkT_cons, wkX_cons, wkT_nil, wkX_nil, get, Nat.reduceEqDiff, ↓reduceIte, ex_some, wk_self, wk_top, wk_nil, wkB_self, and_self, dI, i64_in, and_true, true_and, Int.natCast_add, Int.natCast_one, Int.ofNat_zero, Int.natCast_zero, hz, bD]
        · have hz : opZ r rooms mins = 4 := by simp only [opZ, hr, h50, hne, Bool.true_eq_false, if_false, ne_eq, not_false_eq_true, if_true]
          have hd4 : ((mins.length : Int) != (rooms.length : Int)) = true := by simpa using hne
          repeat' (first
    | (with_reducible refine DW.seq ?_)
    | (with_reducible refine DW.block ?_)
    | (with_reducible refine DW.skip ?_)
    | (with_reducible refine DW.exit ?_)
    | (with_reducible refine DW.ret ?_)
    | (with_reducible refine DW.reg ?_)
    | (refine DW.dreg rfl (WF.of (by first | rfl | simp (disch := omega) only [go_sem, Nat.reduceLT, Nat.reduceLeDiff, Nat.reduceAdd, Nat.reduceMul, Nat.reduceEqDiff, ↓reduceIte, reduceCtorEq, Nat.reduceBEq, Nat.reduceBNe, Nat.reducePow, Int.reduceLE, Int.reduceLT, Int.reduceNeg, Int.reduceToNat, Int.reduceEq, Int.reduceAdd, Int.reduceSub, Int.reduceMul, Int.reduceBEq, Int.reduceBNe, Blk.men, Blk.keysIn, hr, hd3, hd4])) ?_)
    | (refine DW.ord rfl (WF.of (by first | rfl | simp (disch := omega) only [go_sem, Nat.reduceLT, Nat.reduceLeDiff, Nat.reduceAdd, Nat.reduceMul, Nat.reduceEqDiff, ↓reduceIte, reduceCtorEq, Nat.reduceBEq, Nat.reduceBNe, Nat.reducePow, Int.reduceLE, Int.reduceLT, Int.reduceNeg, Int.reduceToNat, Int.reduceEq, Int.reduceAdd, Int.reduceSub, Int.reduceMul, Int.reduceBEq, Int.reduceBNe, Blk.men, Blk.keysIn, hr, hd3, hd4])) ?_ ?_ ?_; rotate_left)
    | rfl
    | (with_reducible refine And.intro ?_ ?_)
    | (simp (disch := omega) only [go_sem, Nat.reduceLT, Nat.reduceLeDiff, Nat.reduceAdd, Nat.reduceMul, Nat.reduceEqDiff, ↓reduceIte, reduceCtorEq, Nat.reduceBEq, Nat.reduceBNe, Nat.reducePow, Int.reduceLE, Int.reduceLT, Int.reduceNeg, Int.reduceToNat, Int.reduceEq, Int.reduceAdd, Int.reduceSub, Int.reduceMul, Int.reduceBEq, Int.reduceBNe, Blk.men, Blk.keysIn, hr, hd3, hd4])
    | (exact retS_of rfl rfl rfl)
    | (refine DW.cond_tt rfl ?_)
    | (refine DW.cond_ff rfl ?_)
    | (refine DW.cond rfl ?_ ?_ <;> intro hc <;> (try simp only [go_sem] at hc))
    | (refine g_split ?_ ?_ <;> intro hc <;> (try simp only [hc]) <;> (try simp only [go_sem] at hc)))
          refine Ent.to ?_ ?_ <;> simp (disch := omega) only [wkT_cons, wkX_cons, wkT_nil, wkX_nil, get, Nat.reduceEqDiff, ↓reduceIte, ex_some, wk_self, wk_top, wk_nil, wkB_self, and_self, dI, i64_in, and_true, true_and, Int.natCast_add, Int.natCast_one, Int.ofNat_zero, Int.natCast_zero, hz, bD]
  have hZ := opErr_eq r rooms mins
  have hZ2 : opZ r rooms mins = 0 → ruleOk r = true ∧ mins.length = rooms.length := fun h => by
    unfold opZ at h
    split at h
    · cases h
    · rename_i h1
      split at h
      · cases h
      · split at h
        · cases h
        · exact ⟨by simpa using h1, by omega⟩
  generalize opZ r rooms mins = zz at *
  clear h38 h39 h21
  repeat' (first
    | (with_reducible refine DW.seq ?_)
    | (with_reducible refine DW.block ?_)
    | (with_reducible refine DW.skip ?_)
    | (with_reducible refine DW.exit ?_)
    | (with_reducible refine DW.ret ?_)
    | (with_reducible refine DW.reg ?_)
    | (refine DW.dreg rfl (WF.of (by first | rfl | simp (disch := omega) only [go_sem, Nat.reduceLT, Nat.reduceLeDiff, Nat.reduceAdd, Nat.reduceMul, Nat.reduceEqDiff, ↓reduceIte, reduceCtorEq, Nat.reduceBEq, Nat.reduceBNe, Nat.reducePow, Int.reduceLE, Int.reduceLT, Int.reduceNeg, Int.reduceToNat, Int.reduceEq, Int.reduceAdd, Int.reduceSub, Int.reduceMul, Int.reduceBEq, Int.reduceBNe, Blk.men, Blk.keysIn])) ?_)
    | (refine DW.ord rfl (WF.of (by first | rfl | simp (disch := omega) only [go_sem, Nat.reduceLT, Nat.reduceLeDiff, Nat.reduceAdd, Nat.reduceMul, Nat.reduceEqDiff, ↓reduceIte, reduceCtorEq, Nat.reduceBEq, Nat.reduceBNe, Nat.reducePow, Int.reduceLE, Int.reduceLT, Int.reduceNeg, Int.reduceToNat, Int.reduceEq, Int.reduceAdd, Int.reduceSub, Int.reduceMul, Int.reduceBEq, Int.reduceBNe, Blk.men, Blk.keysIn])) ?_ ?_ ?_; rotate_left)
    | rfl
    | (with_reducible refine And.intro ?_ ?_)
    | (simp (disch := omega) only [go_sem, Nat.reduceLT, Nat.reduceLeDiff, Nat.reduceAdd, Nat.reduceMul, Nat.reduceEqDiff, ↓reduceIte, reduceCtorEq, Nat.reduceBEq, Nat.reduceBNe, Nat.reducePow, Int.reduceLE, Int.reduceLT, Int.reduceNeg, Int.reduceToNat, Int.reduceEq, Int.reduceAdd, Int.reduceSub, Int.reduceMul, Int.reduceBEq, Int.reduceBNe, Blk.men, Blk.keysIn])
    | (exact retS_of rfl rfl rfl)
    | (refine DW.cond_tt rfl ?_)
    | (refine DW.cond_ff rfl ?_)
    | (refine DW.cond rfl ?_ ?_ <;> intro hc <;> (try simp only [go_sem] at hc))
    | (refine g_split ?_ ?_ <;> intro hc <;> (try simp only [hc]) <;> (try simp only [go_sem] at hc)))
  refine DW.loop (ι := { q : OpS // opInv r rooms mins q }) (fun q => ⟨239, [(14, dI q.1.i), (13, .own 73), (12, .own 72), (11, bD q.1.bad), (10, dI (zz)), (9, dI le), (8, dIs false (nL lb)), (7, dIs false (nL la)), (5, .own 30), (3, .box 3 0), (2, .box 2 0)],
    [(73, .row 1 (rowC (rows eI (nL q.1.t)))), (72, .row 1 (rowC (rows eI (nL q.1.s)))), (30, .row 4 (rowC (rows eR rooms))), (3, .box [.c (.sl b1 4 (rows eR rooms)), dIs b2 mins]), (2, .box [dI r.mins, dI r.deg, dI r.damp])]⟩) (fun q => rooms.length - q.1.i) ⟨⟨0, false, [], []⟩, ⟨Nat.zero_le _, Nat.le_refl _, Nat.le_refl _, rfl, fun _ _ _ => ⟨rfl, rfl⟩⟩⟩ ?_ ?_
  · refine Ent.to ?_ ?_ <;> simp (disch := omega) only [wkT_cons, wkX_cons, wkT_nil, wkX_nil, get, Nat.reduceEqDiff, ↓reduceIte, ex_some, wk_self, wk_top, wk_nil, wkB_self, and_self, dI, i64_in, and_true, true_and, Int.natCast_add, Int.natCast_one, Int.ofNat_zero, Int.natCast_zero, bD]
    all_goals exact .refl _
  rintro ⟨⟨i, bad, s, t⟩, hi, hs, ht, hbad, hinv⟩
  dsimp only at hi hs ht hbad hinv ⊢
  rcases at_or rooms i hi with ⟨m, hm0, hlt, hdd⟩ | ⟨hend, hdd⟩
  · have h41 := c41 r m
    have h42 := c42 m
    rw [room_eq] at h42
    generalize hpl : (if pressErr r m = 0 then pressLo r m else 0) = pl at h41
    generalize hph : (if pressErr r m = 0 then pressHi r m else 0) = ph at h41
    generalize hpe : pressErr r m = pe at h41
    have hg : rooms.getD i ⟨0, 0, 0, 0⟩ = m := by simp [List.getD, hm0]
    have hn : opB rooms mins (i + 1) = (bad || !roomOk m || (decide (i < mins.length) && !opI (mins.getD i 0))) := by rw [opB, hg, ← hbad]
    have hbf : opB rooms mins (i + 1) = false → bad = false ∧ roomOk m = true := fun h => by
      rw [hn] at h
      simp only [Bool.or_eq_false_iff, Bool.not_eq_false'] at h
      exact ⟨h.1.1, h.1.2⟩
    repeat' (first
    | (with_reducible refine DW.seq ?_)
    | (with_reducible refine DW.block ?_)
    | (with_reducible refine DW.skip ?_)
    | (with_reducible refine DW.exit ?_)
    | (with_reducible refine DW.ret ?_)
    | (with_reducible refine DW.reg ?_)
    | (refine DW.dreg rfl (WF.of (by first | rfl | simp (disch := omega) only [go_sem, Nat.reduceLT, Nat.reduceLeDiff, Nat.reduceAdd, Nat.reduceMul, Nat.reduceEqDiff, ↓reduceIte, reduceCtorEq, Nat.reduceBEq, Nat.reduceBNe, Nat.reducePow, Int.reduceLE, Int.reduceLT, Int.reduceNeg, Int.reduceToNat, Int.reduceEq, Int.reduceAdd, Int.reduceSub, Int.reduceMul, Int.reduceBEq, Int.reduceBNe, Blk.men, Blk.keysIn, hdd, hm0])) ?_)
    | (refine DW.ord rfl (WF.of (by first | rfl | simp (disch := omega) only [go_sem, Nat.reduceLT, Nat.reduceLeDiff, Nat.reduceAdd, Nat.reduceMul, Nat.reduceEqDiff, ↓reduceIte, reduceCtorEq, Nat.reduceBEq, Nat.reduceBNe, Nat.reducePow, Int.reduceLE, Int.reduceLT, Int.reduceNeg, Int.reduceToNat, Int.reduceEq, Int.reduceAdd, Int.reduceSub, Int.reduceMul, Int.reduceBEq, Int.reduceBNe, Blk.men, Blk.keysIn, hdd, hm0])) ?_ ?_ ?_; rotate_left)
    | rfl
    | (with_reducible refine And.intro ?_ ?_)
    | (simp (disch := omega) only [go_sem, Nat.reduceLT, Nat.reduceLeDiff, Nat.reduceAdd, Nat.reduceMul, Nat.reduceEqDiff, ↓reduceIte, reduceCtorEq, Nat.reduceBEq, Nat.reduceBNe, Nat.reducePow, Int.reduceLE, Int.reduceLT, Int.reduceNeg, Int.reduceToNat, Int.reduceEq, Int.reduceAdd, Int.reduceSub, Int.reduceMul, Int.reduceBEq, Int.reduceBNe, Blk.men, Blk.keysIn, hdd, hm0])
    | (exact retS_of rfl rfl rfl)
    | (refine DW.cond_tt rfl ?_)
    | (refine call_c (h41) (by decide) ?_)
    | (refine DW.cond_ff rfl ?_)
    | (refine DW.cond rfl ?_ ?_ <;> intro hc <;> (try simp only [go_sem] at hc))
    | (refine g_split ?_ ?_ <;> intro hc <;> (try simp only [hc]) <;> (try simp only [go_sem] at hc)))
    (refine call_c (h42) (by decide) ?_; simp (disch := omega) only [go_sem, Nat.reduceLT, Nat.reduceLeDiff, Nat.reduceAdd, Nat.reduceMul, Nat.reduceEqDiff, ↓reduceIte, reduceCtorEq, Nat.reduceBEq, Nat.reduceBNe, Nat.reducePow, Int.reduceLE, Int.reduceLT, Int.reduceNeg, Int.reduceToNat, Int.reduceEq, Int.reduceAdd, Int.reduceSub, Int.reduceMul, Int.reduceBEq, Int.reduceBNe, Blk.men, Blk.keysIn])
    refine DW.cut ⟨239, [(18, bD (roomOk m)), (17, .box 17 0), (16, dI pe), (15, .box 15 0), (14, dI i), (13, .own 73), (12, .own 72), (11, bD (opB rooms mins (i + 1))), (10, dI zz), (9, dI le), (8, dIs false (nL lb)), (7, dIs false (nL la)), (5, .own 30), (3, .box 3 0), (2, .box 2 0)],
      [(73, .row 1 (rowC (rows eI (nL t)))), (72, .row 1 (rowC (rows eI (nL s)))), (30, .row 4 (rowC (rows eR rooms))), (17, .box [dI 0, dI 0]), (15, .box [dI pl, dI ph]), (3, .box [.c (.sl b1 4 (rows eR rooms)), dIs b2 mins]), (2, .box [dI r.mins, dI r.deg, dI r.damp])]⟩ ?_ ?_
    · clear h40 h41 h42 hbf hZ hZ2
      rcases Nat.lt_or_ge i mins.length with hml | hml
      · obtain ⟨v, hv⟩ := getE hml
        have hgv : mins.getD i 0 = v := by simp [List.getD, hv]
        have h27 : DCall Try.prog 27 [dI v, dI 0, dI 2400] [] (bD (opI v)) [] := c27 v 0 2400
        have hd3 := dlt hml
        have hml2 : (i < mins.length) = True := eq_true hml
        rw [hgv, decide_eq_true hml] at hn
        generalize opB rooms mins (i + 1) = nb at *
        generalize roomOk m = ro at *
        generalize opI v = ov at *
        cases bad <;> cases ro <;> cases ov
        all_goals
          simp only [Bool.or_true, Bool.or_false, Bool.true_or, Bool.false_or, Bool.not_true, Bool.not_false, Bool.and_true, Bool.and_false, Bool.true_and] at hn
          subst hn
          repeat' (first
    | (with_reducible refine DW.seq ?_)
    | (with_reducible refine DW.block ?_)
    | (with_reducible refine DW.skip ?_)
    | (with_reducible refine DW.exit ?_)
    | (with_reducible refine DW.ret ?_)
    | (with_reducible refine DW.reg ?_)
    | (refine DW.dreg rfl (WF.of (by first | rfl | simp (disch := omega) only [go_sem, Nat.reduceLT, Nat.reduceLeDiff, Nat.reduceAdd, Nat.reduceMul, Nat.reduceEqDiff, ↓reduceIte, reduceCtorEq, Nat.reduceBEq, Nat.reduceBNe, Nat.reducePow, Int.reduceLE, Int.reduceLT, Int.reduceNeg, Int.reduceToNat, Int.reduceEq, Int.reduceAdd, Int.reduceSub, Int.reduceMul, Int.reduceBEq, Int.reduceBNe, Blk.men, Blk.keysIn, hd3, hv, hml2])) ?_)
    | (refine DW.ord rfl (WF.of (by first | rfl | simp (disch := omega) only [go_sem, Nat.reduceLT, Nat.reduceLeDiff, Nat.reduceAdd, Nat.reduceMul, Nat.reduceEqDiff, ↓reduceIte, reduceCtorEq, Nat.reduceBEq, Nat.reduceBNe, Nat.reducePow, Int.reduceLE, Int.reduceLT, Int.reduceNeg, Int.reduceToNat, Int.reduceEq, Int.reduceAdd, Int.reduceSub, Int.reduceMul, Int.reduceBEq, Int.reduceBNe, Blk.men, Blk.keysIn, hd3, hv, hml2])) ?_ ?_ ?_; rotate_left)
    | rfl
    | (with_reducible refine And.intro ?_ ?_)
    | (simp (disch := omega) only [go_sem, Nat.reduceLT, Nat.reduceLeDiff, Nat.reduceAdd, Nat.reduceMul, Nat.reduceEqDiff, ↓reduceIte, reduceCtorEq, Nat.reduceBEq, Nat.reduceBNe, Nat.reducePow, Int.reduceLE, Int.reduceLT, Int.reduceNeg, Int.reduceToNat, Int.reduceEq, Int.reduceAdd, Int.reduceSub, Int.reduceMul, Int.reduceBEq, Int.reduceBNe, Blk.men, Blk.keysIn, hd3, hv, hml2])
    | (exact retS_of rfl rfl rfl)
    | (refine DW.cond_tt rfl ?_)
    | (refine call_c (h27) (by decide) ?_)
    | (refine DW.cond_ff rfl ?_)
    | (refine DW.cond rfl ?_ ?_ <;> intro hc <;> (try simp only [go_sem] at hc))
    | (refine g_split ?_ ?_ <;> intro hc <;> (try simp only [hc]) <;> (try simp only [go_sem] at hc)))
          refine Ent.to ?_ ?_ <;> simp (disch := omega) only [wkT_cons, wkX_cons, wkT_nil, wkX_nil, get, Nat.reduceEqDiff, ↓reduceIte, ex_some, wk_self, wk_top, wk_nil, wkB_self, and_self, dI, i64_in, and_true, true_and, Int.natCast_add, Int.natCast_one, Int.ofNat_zero, Int.natCast_zero, bD]
      · have hd3 := dge hml
        rw [decide_eq_false (Nat.not_lt.2 hml)] at hn
        generalize opB rooms mins (i + 1) = nb at *
        generalize roomOk m = ro at *
        cases bad <;> cases ro
        all_goals
          simp only [Bool.or_true, Bool.or_false, Bool.true_or, Bool.false_or, Bool.not_true, Bool.not_false, Bool.and_true, Bool.and_false, Bool.true_and, Bool.false_and] at hn
          subst hn
          repeat' (first
    | (with_reducible refine DW.seq ?_)
    | (with_reducible refine DW.block ?_)
    | (with_reducible refine DW.skip ?_)
    | (with_reducible refine DW.exit ?_)
    | (with_reducible refine DW.ret ?_)
    | (with_reducible refine DW.reg ?_)
    | (refine DW.dreg rfl (WF.of (by first | rfl | simp (disch := omega) only [go_sem, Nat.reduceLT, Nat.reduceLeDiff, Nat.reduceAdd, Nat.reduceMul, Nat.reduceEqDiff, ↓reduceIte, reduceCtorEq, Nat.reduceBEq, Nat.reduceBNe, Nat.reducePow, Int.reduceLE, Int.reduceLT, Int.reduceNeg, Int.reduceToNat, Int.reduceEq, Int.reduceAdd, Int.reduceSub, Int.reduceMul, Int.reduceBEq, Int.reduceBNe, Blk.men, Blk.keysIn, hd3])) ?_)
    | (refine DW.ord rfl (WF.of (by first | rfl | simp (disch := omega) only [go_sem, Nat.reduceLT, Nat.reduceLeDiff, Nat.reduceAdd, Nat.reduceMul, Nat.reduceEqDiff, ↓reduceIte, reduceCtorEq, Nat.reduceBEq, Nat.reduceBNe, Nat.reducePow, Int.reduceLE, Int.reduceLT, Int.reduceNeg, Int.reduceToNat, Int.reduceEq, Int.reduceAdd, Int.reduceSub, Int.reduceMul, Int.reduceBEq, Int.reduceBNe, Blk.men, Blk.keysIn, hd3])) ?_ ?_ ?_; rotate_left)
    | rfl
    | (with_reducible refine And.intro ?_ ?_)
    | (simp (disch := omega) only [go_sem, Nat.reduceLT, Nat.reduceLeDiff, Nat.reduceAdd, Nat.reduceMul, Nat.reduceEqDiff, ↓reduceIte, reduceCtorEq, Nat.reduceBEq, Nat.reduceBNe, Nat.reducePow, Int.reduceLE, Int.reduceLT, Int.reduceNeg, Int.reduceToNat, Int.reduceEq, Int.reduceAdd, Int.reduceSub, Int.reduceMul, Int.reduceBEq, Int.reduceBNe, Blk.men, Blk.keysIn, hd3])
    | (exact retS_of rfl rfl rfl)
    | (refine DW.cond_tt rfl ?_)
    | (refine DW.cond_ff rfl ?_)
    | (refine DW.cond rfl ?_ ?_ <;> intro hc <;> (try simp only [go_sem] at hc))
    | (refine g_split ?_ ?_ <;> intro hc <;> (try simp only [hc]) <;> (try simp only [go_sem] at hc)))
          refine Ent.to ?_ ?_ <;> simp (disch := omega) only [wkT_cons, wkX_cons, wkT_nil, wkX_nil, get, Nat.reduceEqDiff, ↓reduceIte, ex_some, wk_self, wk_top, wk_nil, wkB_self, and_self, dI, i64_in, and_true, true_and, Int.natCast_add, Int.natCast_one, Int.ofNat_zero, Int.natCast_zero, bD]
    clear hn h41 h42
    have hil : (i < rooms.length) = True := eq_true hlt
    rcases Bool.eq_false_or_eq_true (ruleOk r) with hr | hr
    case inr =>
      rw [hr] at h40
      have e1 : pe = 2 := by rw [← hpe, pressErr, hr]; rfl
      have e2 : pl = 0 := by rw [← hpl, hpe, e1]; rfl
      have e3 : ph = 0 := by rw [← hph, hpe, e1]; rfl
      clear hpl hph hpe
      subst e1 e2 e3
      repeat' (first
    | (with_reducible refine DW.seq ?_)
    | (with_reducible refine DW.block ?_)
    | (with_reducible refine DW.skip ?_)
    | (with_reducible refine DW.exit ?_)
    | (with_reducible refine DW.ret ?_)
    | (with_reducible refine DW.reg ?_)
    | (refine DW.dreg rfl (WF.of (by first | rfl | simp (disch := omega) only [go_sem, Nat.reduceLT, Nat.reduceLeDiff, Nat.reduceAdd, Nat.reduceMul, Nat.reduceEqDiff, ↓reduceIte, reduceCtorEq, Nat.reduceBEq, Nat.reduceBNe, Nat.reducePow, Int.reduceLE, Int.reduceLT, Int.reduceNeg, Int.reduceToNat, Int.reduceEq, Int.reduceAdd, Int.reduceSub, Int.reduceMul, Int.reduceBEq, Int.reduceBNe, Blk.men, Blk.keysIn, hdd, hm0, hil])) ?_)
    | (refine DW.ord rfl (WF.of (by first | rfl | simp (disch := omega) only [go_sem, Nat.reduceLT, Nat.reduceLeDiff, Nat.reduceAdd, Nat.reduceMul, Nat.reduceEqDiff, ↓reduceIte, reduceCtorEq, Nat.reduceBEq, Nat.reduceBNe, Nat.reducePow, Int.reduceLE, Int.reduceLT, Int.reduceNeg, Int.reduceToNat, Int.reduceEq, Int.reduceAdd, Int.reduceSub, Int.reduceMul, Int.reduceBEq, Int.reduceBNe, Blk.men, Blk.keysIn, hdd, hm0, hil])) ?_ ?_ ?_; rotate_left)
    | rfl
    | (with_reducible refine And.intro ?_ ?_)
    | (simp (disch := omega) only [go_sem, Nat.reduceLT, Nat.reduceLeDiff, Nat.reduceAdd, Nat.reduceMul, Nat.reduceEqDiff, ↓reduceIte, reduceCtorEq, Nat.reduceBEq, Nat.reduceBNe, Nat.reducePow, Int.reduceLE, Int.reduceLT, Int.reduceNeg, Int.reduceToNat, Int.reduceEq, Int.reduceAdd, Int.reduceSub, Int.reduceMul, Int.reduceBEq, Int.reduceBNe, Blk.men, Blk.keysIn, hdd, hm0, hil])
    | (exact retS_of rfl rfl rfl)
    | (refine DW.cond_tt rfl ?_)
    | (refine call_c (h40) (by decide) ?_)
    | (refine DW.cond_ff rfl ?_)
    | (refine DW.cond rfl ?_ ?_ <;> intro hc <;> (try simp only [go_sem] at hc))
    | (refine g_split ?_ ?_ <;> intro hc <;> (try simp only [hc]) <;> (try simp only [go_sem] at hc)))
      refine ⟨⟨⟨i + 1, opB rooms mins (i + 1), s, t⟩, ⟨by dsimp only; omega, by dsimp only; omega, by dsimp only; omega, rfl, fun h => by rw [hr] at h; cases h⟩⟩, ?_, Ent.to ?_ ?_⟩ <;> first | (show _ < _; (try simp only); omega) | (simp (disch := omega) only [wkT_cons, wkX_cons, wkT_nil, wkX_nil, get, Nat.reduceEqDiff, ↓reduceIte, ex_some, wk_self, wk_top, wk_nil, wkB_self, and_self, dI, i64_in, and_true, true_and, Int.natCast_add, Int.natCast_one, Int.ofNat_zero, Int.natCast_zero,  bD])
    case inl =>
    rcases Bool.eq_false_or_eq_true (roomOk m) with hro | hro
    case inr =>
      rw [hr] at h40
      have e1 : pe = 3 := by rw [← hpe, pressErr, hr, hro]; rfl
      have e2 : pl = 0 := by rw [← hpl, hpe, e1]; rfl
      have e3 : ph = 0 := by rw [← hph, hpe, e1]; rfl
      clear hpl hph hpe
      subst e1 e2 e3
      repeat' (first
    | (with_reducible refine DW.seq ?_)
    | (with_reducible refine DW.block ?_)
    | (with_reducible refine DW.skip ?_)
    | (with_reducible refine DW.exit ?_)
    | (with_reducible refine DW.ret ?_)
    | (with_reducible refine DW.reg ?_)
    | (refine DW.dreg rfl (WF.of (by first | rfl | simp (disch := omega) only [go_sem, Nat.reduceLT, Nat.reduceLeDiff, Nat.reduceAdd, Nat.reduceMul, Nat.reduceEqDiff, ↓reduceIte, reduceCtorEq, Nat.reduceBEq, Nat.reduceBNe, Nat.reducePow, Int.reduceLE, Int.reduceLT, Int.reduceNeg, Int.reduceToNat, Int.reduceEq, Int.reduceAdd, Int.reduceSub, Int.reduceMul, Int.reduceBEq, Int.reduceBNe, Blk.men, Blk.keysIn, hdd, hm0, hil, hro])) ?_)
    | (refine DW.ord rfl (WF.of (by first | rfl | simp (disch := omega) only [go_sem, Nat.reduceLT, Nat.reduceLeDiff, Nat.reduceAdd, Nat.reduceMul, Nat.reduceEqDiff, ↓reduceIte, reduceCtorEq, Nat.reduceBEq, Nat.reduceBNe, Nat.reducePow, Int.reduceLE, Int.reduceLT, Int.reduceNeg, Int.reduceToNat, Int.reduceEq, Int.reduceAdd, Int.reduceSub, Int.reduceMul, Int.reduceBEq, Int.reduceBNe, Blk.men, Blk.keysIn, hdd, hm0, hil, hro])) ?_ ?_ ?_; rotate_left)
    | rfl
    | (with_reducible refine And.intro ?_ ?_)
    | (simp (disch := omega) only [go_sem, Nat.reduceLT, Nat.reduceLeDiff, Nat.reduceAdd, Nat.reduceMul, Nat.reduceEqDiff, ↓reduceIte, reduceCtorEq, Nat.reduceBEq, Nat.reduceBNe, Nat.reducePow, Int.reduceLE, Int.reduceLT, Int.reduceNeg, Int.reduceToNat, Int.reduceEq, Int.reduceAdd, Int.reduceSub, Int.reduceMul, Int.reduceBEq, Int.reduceBNe, Blk.men, Blk.keysIn, hdd, hm0, hil, hro])
    | (exact retS_of rfl rfl rfl)
    | (refine DW.cond_tt rfl ?_)
    | (refine call_c (h40) (by decide) ?_)
    | (refine DW.cond_ff rfl ?_)
    | (refine DW.cond rfl ?_ ?_ <;> intro hc <;> (try simp only [go_sem] at hc))
    | (refine g_split ?_ ?_ <;> intro hc <;> (try simp only [hc]) <;> (try simp only [go_sem] at hc)))
      refine ⟨⟨⟨i + 1, opB rooms mins (i + 1), s, t⟩, ⟨by dsimp only; omega, by dsimp only; omega, by dsimp only; omega, rfl, fun _ h => by have := (hbf h).2; rw [hro] at this; cases this⟩⟩, ?_, Ent.to ?_ ?_⟩ <;> first | (show _ < _; (try simp only); omega) | (simp (disch := omega) only [wkT_cons, wkX_cons, wkT_nil, wkX_nil, get, Nat.reduceEqDiff, ↓reduceIte, ex_some, wk_self, wk_top, wk_nil, wkB_self, and_self, dI, i64_in, and_true, true_and, Int.natCast_add, Int.natCast_one, Int.ofNat_zero, Int.natCast_zero,  bD])
    case inl =>
      rw [hr] at h40
      have h43 := c43 r m hr hro
      rw [press_eq hr hro] at h43
      dsimp only at h43
      have e1 : pe = 0 := by rw [← hpe, pressErr, hr, hro]; rfl
      have e2 : pl = pressLo r m := by rw [← hpl, hpe, e1]; rfl
      have e3 : ph = pressHi r m := by rw [← hph, hpe, e1]; rfl
      clear hpl hph hpe
      subst e1 e2 e3
      rcases Nat.lt_or_ge i mins.length with hml | hml
      · obtain ⟨v, hv⟩ := getE hml
        have hd3 := dlt hml
        have hml2 : (i < mins.length) = True := eq_true hml
        have hl1 := opF_succ (f := pressLo r) hm0 hv
        have hl2 := opF_succ (f := pressHi r) hm0 hv
        have hinv2 : opB rooms mins (i + 1) = false → mins.length = rooms.length → s ++ (if decide (v < pressLo r m) then [i] else []) = opF (pressLo r) rooms mins (i + 1) ∧ t ++ (if decide (v < pressHi r m) then [i] else []) = opF (pressHi r) rooms mins (i + 1) := fun h1 h2 => by
          obtain ⟨h3, h4⟩ := hinv hr (hbf h1).1 h2
          rw [hl1, hl2, h3, h4]; exact ⟨rfl, rfl⟩
        clear hbf hl1 hl2 hZ hZ2
        generalize pressLo r m = lo at *
        generalize pressHi r m = hi' at *
        have hal : (nL s).length + 1 ≤ 17592186044416 := by rw [nL_length]; omega
        have hcl : (nL t).length + 1 ≤ 17592186044416 := by rw [nL_length]; omega
        cases h1 : decide (v < lo) <;> cases h2 : decide (v < hi')
        all_goals simp only [h1, h2, Bool.false_eq_true, if_false, if_true, List.append_nil] at hinv2
        · repeat' (first
    | (with_reducible refine DW.seq ?_)
    | (with_reducible refine DW.block ?_)
    | (with_reducible refine DW.skip ?_)
    | (with_reducible refine DW.exit ?_)
    | (with_reducible refine DW.ret ?_)
    | (with_reducible refine DW.reg ?_)
    | (refine DW.dreg rfl (WF.of (by first | rfl | simp (disch := omega) only [go_sem, Nat.reduceLT, Nat.reduceLeDiff, Nat.reduceAdd, Nat.reduceMul, Nat.reduceEqDiff, ↓reduceIte, reduceCtorEq, Nat.reduceBEq, Nat.reduceBNe, Nat.reducePow, Int.reduceLE, Int.reduceLT, Int.reduceNeg, Int.reduceToNat, Int.reduceEq, Int.reduceAdd, Int.reduceSub, Int.reduceMul, Int.reduceBEq, Int.reduceBNe, Blk.men, Blk.keysIn, hdd, hm0, hil, hro, hv, hd3, hml2, h1, h2])) ?_)
    | (refine DW.ord rfl (WF.of (by first | rfl | simp (disch := omega) only [go_sem, Nat.reduceLT, Nat.reduceLeDiff, Nat.reduceAdd, Nat.reduceMul, Nat.reduceEqDiff, ↓reduceIte, reduceCtorEq, Nat.reduceBEq, Nat.reduceBNe, Nat.reducePow, Int.reduceLE, Int.reduceLT, Int.reduceNeg, Int.reduceToNat, Int.reduceEq, Int.reduceAdd, Int.reduceSub, Int.reduceMul, Int.reduceBEq, Int.reduceBNe, Blk.men, Blk.keysIn, hdd, hm0, hil, hro, hv, hd3, hml2, h1, h2])) ?_ ?_ ?_; rotate_left)
    | rfl
    | (with_reducible refine And.intro ?_ ?_)
    | (simp (disch := omega) only [go_sem, Nat.reduceLT, Nat.reduceLeDiff, Nat.reduceAdd, Nat.reduceMul, Nat.reduceEqDiff, ↓reduceIte, reduceCtorEq, Nat.reduceBEq, Nat.reduceBNe, Nat.reducePow, Int.reduceLE, Int.reduceLT, Int.reduceNeg, Int.reduceToNat, Int.reduceEq, Int.reduceAdd, Int.reduceSub, Int.reduceMul, Int.reduceBEq, Int.reduceBNe, Blk.men, Blk.keysIn, hdd, hm0, hil, hro, hv, hd3, hml2, h1, h2])
    | (exact retS_of rfl rfl rfl)
    | (refine DW.cond_tt rfl ?_)
    | (refine call_c (h40) (by decide) ?_)
    | (refine call_c (h43) (by decide) ?_)
    | (refine DW.cond_ff rfl ?_)
    | (refine DW.cond rfl ?_ ?_ <;> intro hc <;> (try simp only [go_sem] at hc))
    | (refine g_split ?_ ?_ <;> intro hc <;> (try simp only [hc]) <;> (try simp only [go_sem] at hc)))
          refine ⟨⟨⟨i + 1, opB rooms mins (i + 1), s, t⟩, ⟨by dsimp only; omega, by dsimp only; omega, by dsimp only; omega, rfl, fun _ h h' => hinv2 h h'⟩⟩, ?_, Ent.to ?_ ?_⟩ <;> first | (show _ < _; (try simp only); omega) | (simp (disch := omega) only [wkT_cons, wkX_cons, wkT_nil, wkX_nil, get, Nat.reduceEqDiff, ↓reduceIte, ex_some, wk_self, wk_top, wk_nil, wkB_self, and_self, dI, i64_in, and_true, true_and, Int.natCast_add, Int.natCast_one, Int.ofNat_zero, Int.natCast_zero,  bD])
        · repeat' (first
    | (with_reducible refine DW.seq ?_)
    | (with_reducible refine DW.block ?_)
    | (with_reducible refine DW.skip ?_)
    | (with_reducible refine DW.exit ?_)
    | (with_reducible refine DW.ret ?_)
    | (with_reducible refine DW.reg ?_)
    | (refine DW.dreg rfl (WF.of (by first | rfl | simp (disch := omega) only [go_sem, Nat.reduceLT, Nat.reduceLeDiff, Nat.reduceAdd, Nat.reduceMul, Nat.reduceEqDiff, ↓reduceIte, reduceCtorEq, Nat.reduceBEq, Nat.reduceBNe, Nat.reducePow, Int.reduceLE, Int.reduceLT, Int.reduceNeg, Int.reduceToNat, Int.reduceEq, Int.reduceAdd, Int.reduceSub, Int.reduceMul, Int.reduceBEq, Int.reduceBNe, Blk.men, Blk.keysIn, hdd, hm0, hil, hro, hv, hd3, hml2, h1, h2])) ?_)
    | (refine DW.ord rfl (WF.of (by first | rfl | simp (disch := omega) only [go_sem, Nat.reduceLT, Nat.reduceLeDiff, Nat.reduceAdd, Nat.reduceMul, Nat.reduceEqDiff, ↓reduceIte, reduceCtorEq, Nat.reduceBEq, Nat.reduceBNe, Nat.reducePow, Int.reduceLE, Int.reduceLT, Int.reduceNeg, Int.reduceToNat, Int.reduceEq, Int.reduceAdd, Int.reduceSub, Int.reduceMul, Int.reduceBEq, Int.reduceBNe, Blk.men, Blk.keysIn, hdd, hm0, hil, hro, hv, hd3, hml2, h1, h2])) ?_ ?_ ?_; rotate_left)
    | rfl
    | (with_reducible refine And.intro ?_ ?_)
    | (simp (disch := omega) only [go_sem, Nat.reduceLT, Nat.reduceLeDiff, Nat.reduceAdd, Nat.reduceMul, Nat.reduceEqDiff, ↓reduceIte, reduceCtorEq, Nat.reduceBEq, Nat.reduceBNe, Nat.reducePow, Int.reduceLE, Int.reduceLT, Int.reduceNeg, Int.reduceToNat, Int.reduceEq, Int.reduceAdd, Int.reduceSub, Int.reduceMul, Int.reduceBEq, Int.reduceBNe, Blk.men, Blk.keysIn, hdd, hm0, hil, hro, hv, hd3, hml2, h1, h2])
    | (exact retS_of rfl rfl rfl)
    | (refine DW.cond_tt rfl ?_)
    | (refine call_c (h40) (by decide) ?_)
    | (refine call_c (h43) (by decide) ?_)
    | (refine DW.cond_ff rfl ?_)
    | (refine DW.cond rfl ?_ ?_ <;> intro hc <;> (try simp only [go_sem] at hc))
    | (refine g_split ?_ ?_ <;> intro hc <;> (try simp only [hc]) <;> (try simp only [go_sem] at hc)))
          refine ⟨⟨⟨i + 1, opB rooms mins (i + 1), s, t ++ [i]⟩, ⟨by dsimp only; omega, by dsimp only; omega, by simp; omega, rfl, fun _ h h' => hinv2 h h'⟩⟩, ?_, Ent.to ?_ ?_⟩ <;> first | (show _ < _; (try simp only); omega) | (simp (disch := omega) only [wkT_cons, wkX_cons, wkT_nil, wkX_nil, get, Nat.reduceEqDiff, ↓reduceIte, ex_some, wk_self, wk_top, wk_nil, wkB_self, and_self, dI, i64_in, and_true, true_and, Int.natCast_add, Int.natCast_one, Int.ofNat_zero, Int.natCast_zero,  bD])
        · repeat' (first
    | (with_reducible refine DW.seq ?_)
    | (with_reducible refine DW.block ?_)
    | (with_reducible refine DW.skip ?_)
    | (with_reducible refine DW.exit ?_)
    | (with_reducible refine DW.ret ?_)
    | (with_reducible refine DW.reg ?_)
    | (refine DW.dreg rfl (WF.of (by first | rfl | simp (disch := omega) only [go_sem, Nat.reduceLT, Nat.reduceLeDiff, Nat.reduceAdd, Nat.reduceMul, Nat.reduceEqDiff, ↓reduceIte, reduceCtorEq, Nat.reduceBEq, Nat.reduceBNe, Nat.reducePow, Int.reduceLE, Int.reduceLT, Int.reduceNeg, Int.reduceToNat, Int.reduceEq, Int.reduceAdd, Int.reduceSub, Int.reduceMul, Int.reduceBEq, Int.reduceBNe, Blk.men, Blk.keysIn, hdd, hm0, hil, hro, hv, hd3, hml2, h1, h2])) ?_)
    | (refine DW.ord rfl (WF.of (by first | rfl | simp (disch := omega) only [go_sem, Nat.reduceLT, Nat.reduceLeDiff, Nat.reduceAdd, Nat.reduceMul, Nat.reduceEqDiff, ↓reduceIte, reduceCtorEq, Nat.reduceBEq, Nat.reduceBNe, Nat.reducePow, Int.reduceLE, Int.reduceLT, Int.reduceNeg, Int.reduceToNat, Int.reduceEq, Int.reduceAdd, Int.reduceSub, Int.reduceMul, Int.reduceBEq, Int.reduceBNe, Blk.men, Blk.keysIn, hdd, hm0, hil, hro, hv, hd3, hml2, h1, h2])) ?_ ?_ ?_; rotate_left)
    | rfl
    | (with_reducible refine And.intro ?_ ?_)
    | (simp (disch := omega) only [go_sem, Nat.reduceLT, Nat.reduceLeDiff, Nat.reduceAdd, Nat.reduceMul, Nat.reduceEqDiff, ↓reduceIte, reduceCtorEq, Nat.reduceBEq, Nat.reduceBNe, Nat.reducePow, Int.reduceLE, Int.reduceLT, Int.reduceNeg, Int.reduceToNat, Int.reduceEq, Int.reduceAdd, Int.reduceSub, Int.reduceMul, Int.reduceBEq, Int.reduceBNe, Blk.men, Blk.keysIn, hdd, hm0, hil, hro, hv, hd3, hml2, h1, h2])
    | (exact retS_of rfl rfl rfl)
    | (refine DW.cond_tt rfl ?_)
    | (refine call_c (h40) (by decide) ?_)
    | (refine call_c (h43) (by decide) ?_)
    | (refine DW.cond_ff rfl ?_)
    | (refine DW.cond rfl ?_ ?_ <;> intro hc <;> (try simp only [go_sem] at hc))
    | (refine g_split ?_ ?_ <;> intro hc <;> (try simp only [hc]) <;> (try simp only [go_sem] at hc)))
          refine ⟨⟨⟨i + 1, opB rooms mins (i + 1), s ++ [i], t⟩, ⟨by dsimp only; omega, by simp; omega, by dsimp only; omega, rfl, fun _ h h' => hinv2 h h'⟩⟩, ?_, Ent.to ?_ ?_⟩ <;> first | (show _ < _; (try simp only); omega) | (simp (disch := omega) only [wkT_cons, wkX_cons, wkT_nil, wkX_nil, get, Nat.reduceEqDiff, ↓reduceIte, ex_some, wk_self, wk_top, wk_nil, wkB_self, and_self, dI, i64_in, and_true, true_and, Int.natCast_add, Int.natCast_one, Int.ofNat_zero, Int.natCast_zero,  bD])
        · repeat' (first
    | (with_reducible refine DW.seq ?_)
    | (with_reducible refine DW.block ?_)
    | (with_reducible refine DW.skip ?_)
    | (with_reducible refine DW.exit ?_)
    | (with_reducible refine DW.ret ?_)
    | (with_reducible refine DW.reg ?_)
    | (refine DW.dreg rfl (WF.of (by first | rfl | simp (disch := omega) only [go_sem, Nat.reduceLT, Nat.reduceLeDiff, Nat.reduceAdd, Nat.reduceMul, Nat.reduceEqDiff, ↓reduceIte, reduceCtorEq, Nat.reduceBEq, Nat.reduceBNe, Nat.reducePow, Int.reduceLE, Int.reduceLT, Int.reduceNeg, Int.reduceToNat, Int.reduceEq, Int.reduceAdd, Int.reduceSub, Int.reduceMul, Int.reduceBEq, Int.reduceBNe, Blk.men, Blk.keysIn, hdd, hm0, hil, hro, hv, hd3, hml2, h1, h2])) ?_)
    | (refine DW.ord rfl (WF.of (by first | rfl | simp (disch := omega) only [go_sem, Nat.reduceLT, Nat.reduceLeDiff, Nat.reduceAdd, Nat.reduceMul, Nat.reduceEqDiff, ↓reduceIte, reduceCtorEq, Nat.reduceBEq, Nat.reduceBNe, Nat.reducePow, Int.reduceLE, Int.reduceLT, Int.reduceNeg, Int.reduceToNat, Int.reduceEq, Int.reduceAdd, Int.reduceSub, Int.reduceMul, Int.reduceBEq, Int.reduceBNe, Blk.men, Blk.keysIn, hdd, hm0, hil, hro, hv, hd3, hml2, h1, h2])) ?_ ?_ ?_; rotate_left)
    | rfl
    | (with_reducible refine And.intro ?_ ?_)
    | (simp (disch := omega) only [go_sem, Nat.reduceLT, Nat.reduceLeDiff, Nat.reduceAdd, Nat.reduceMul, Nat.reduceEqDiff, ↓reduceIte, reduceCtorEq, Nat.reduceBEq, Nat.reduceBNe, Nat.reducePow, Int.reduceLE, Int.reduceLT, Int.reduceNeg, Int.reduceToNat, Int.reduceEq, Int.reduceAdd, Int.reduceSub, Int.reduceMul, Int.reduceBEq, Int.reduceBNe, Blk.men, Blk.keysIn, hdd, hm0, hil, hro, hv, hd3, hml2, h1, h2])
    | (exact retS_of rfl rfl rfl)
    | (refine DW.cond_tt rfl ?_)
    | (refine call_c (h40) (by decide) ?_)
    | (refine call_c (h43) (by decide) ?_)
    | (refine DW.cond_ff rfl ?_)
    | (refine DW.cond rfl ?_ ?_ <;> intro hc <;> (try simp only [go_sem] at hc))
    | (refine g_split ?_ ?_ <;> intro hc <;> (try simp only [hc]) <;> (try simp only [go_sem] at hc)))
          refine ⟨⟨⟨i + 1, opB rooms mins (i + 1), s ++ [i], t ++ [i]⟩, ⟨by dsimp only; omega, by simp; omega, by simp; omega, rfl, fun _ h h' => hinv2 h h'⟩⟩, ?_, Ent.to ?_ ?_⟩ <;> first | (show _ < _; (try simp only); omega) | (simp (disch := omega) only [wkT_cons, wkX_cons, wkT_nil, wkX_nil, get, Nat.reduceEqDiff, ↓reduceIte, ex_some, wk_self, wk_top, wk_nil, wkB_self, and_self, dI, i64_in, and_true, true_and, Int.natCast_add, Int.natCast_one, Int.ofNat_zero, Int.natCast_zero,  bD])
      · have hd3 := dge hml
        repeat' (first
    | (with_reducible refine DW.seq ?_)
    | (with_reducible refine DW.block ?_)
    | (with_reducible refine DW.skip ?_)
    | (with_reducible refine DW.exit ?_)
    | (with_reducible refine DW.ret ?_)
    | (with_reducible refine DW.reg ?_)
    | (refine DW.dreg rfl (WF.of (by first | rfl | simp (disch := omega) only [go_sem, Nat.reduceLT, Nat.reduceLeDiff, Nat.reduceAdd, Nat.reduceMul, Nat.reduceEqDiff, ↓reduceIte, reduceCtorEq, Nat.reduceBEq, Nat.reduceBNe, Nat.reducePow, Int.reduceLE, Int.reduceLT, Int.reduceNeg, Int.reduceToNat, Int.reduceEq, Int.reduceAdd, Int.reduceSub, Int.reduceMul, Int.reduceBEq, Int.reduceBNe, Blk.men, Blk.keysIn, hdd, hm0, hil, hro, hd3])) ?_)
    | (refine DW.ord rfl (WF.of (by first | rfl | simp (disch := omega) only [go_sem, Nat.reduceLT, Nat.reduceLeDiff, Nat.reduceAdd, Nat.reduceMul, Nat.reduceEqDiff, ↓reduceIte, reduceCtorEq, Nat.reduceBEq, Nat.reduceBNe, Nat.reducePow, Int.reduceLE, Int.reduceLT, Int.reduceNeg, Int.reduceToNat, Int.reduceEq, Int.reduceAdd, Int.reduceSub, Int.reduceMul, Int.reduceBEq, Int.reduceBNe, Blk.men, Blk.keysIn, hdd, hm0, hil, hro, hd3])) ?_ ?_ ?_; rotate_left)
    | rfl
    | (with_reducible refine And.intro ?_ ?_)
    | (simp (disch := omega) only [go_sem, Nat.reduceLT, Nat.reduceLeDiff, Nat.reduceAdd, Nat.reduceMul, Nat.reduceEqDiff, ↓reduceIte, reduceCtorEq, Nat.reduceBEq, Nat.reduceBNe, Nat.reducePow, Int.reduceLE, Int.reduceLT, Int.reduceNeg, Int.reduceToNat, Int.reduceEq, Int.reduceAdd, Int.reduceSub, Int.reduceMul, Int.reduceBEq, Int.reduceBNe, Blk.men, Blk.keysIn, hdd, hm0, hil, hro, hd3])
    | (exact retS_of rfl rfl rfl)
    | (refine DW.cond_tt rfl ?_)
    | (refine call_c (h40) (by decide) ?_)
    | (refine call_c (h43) (by decide) ?_)
    | (refine DW.cond_ff rfl ?_)
    | (refine DW.cond rfl ?_ ?_ <;> intro hc <;> (try simp only [go_sem] at hc))
    | (refine g_split ?_ ?_ <;> intro hc <;> (try simp only [hc]) <;> (try simp only [go_sem] at hc)))
        refine ⟨⟨⟨i + 1, opB rooms mins (i + 1), s, t⟩, ⟨by dsimp only; omega, by dsimp only; omega, by dsimp only; omega, rfl, fun _ _ h => by omega⟩⟩, ?_, Ent.to ?_ ?_⟩ <;> first | (show _ < _; (try simp only); omega) | (simp (disch := omega) only [wkT_cons, wkX_cons, wkT_nil, wkX_nil, get, Nat.reduceEqDiff, ↓reduceIte, ex_some, wk_self, wk_top, wk_nil, wkB_self, and_self, dI, i64_in, and_true, true_and, Int.natCast_add, Int.natCast_one, Int.ofNat_zero, Int.natCast_zero,  bD])
  · subst hend
    rw [her] at hZ
    by_cases hz0 : zz = 0
    · obtain ⟨hr, hlen⟩ := hZ2 hz0
      rw [if_pos hz0, ← hbad] at hZ
      cases bad with
      | true =>
        simp only [if_true] at hZ
        have ha : la = [] := by rw [← hlo]; exact if_neg (by rw [her, hZ]; decide)
        have hb : lb = [] := by rw [← hhi]; exact if_neg (by rw [her, hZ]; decide)
        subst ha hb hZ hz0
        repeat' (first
    | (with_reducible refine DW.seq ?_)
    | (with_reducible refine DW.block ?_)
    | (with_reducible refine DW.skip ?_)
    | (with_reducible refine DW.exit ?_)
    | (with_reducible refine DW.ret ?_)
    | (with_reducible refine DW.reg ?_)
    | (refine DW.dreg rfl (WF.of (by first | rfl | simp (disch := omega) only [go_sem, Nat.reduceLT, Nat.reduceLeDiff, Nat.reduceAdd, Nat.reduceMul, Nat.reduceEqDiff, ↓reduceIte, reduceCtorEq, Nat.reduceBEq, Nat.reduceBNe, Nat.reducePow, Int.reduceLE, Int.reduceLT, Int.reduceNeg, Int.reduceToNat, Int.reduceEq, Int.reduceAdd, Int.reduceSub, Int.reduceMul, Int.reduceBEq, Int.reduceBNe, Blk.men, Blk.keysIn, hdd])) ?_)
    | (refine DW.ord rfl (WF.of (by first | rfl | simp (disch := omega) only [go_sem, Nat.reduceLT, Nat.reduceLeDiff, Nat.reduceAdd, Nat.reduceMul, Nat.reduceEqDiff, ↓reduceIte, reduceCtorEq, Nat.reduceBEq, Nat.reduceBNe, Nat.reducePow, Int.reduceLE, Int.reduceLT, Int.reduceNeg, Int.reduceToNat, Int.reduceEq, Int.reduceAdd, Int.reduceSub, Int.reduceMul, Int.reduceBEq, Int.reduceBNe, Blk.men, Blk.keysIn, hdd])) ?_ ?_ ?_; rotate_left)
    | rfl
    | (with_reducible refine And.intro ?_ ?_)
    | (simp (disch := omega) only [go_sem, Nat.reduceLT, Nat.reduceLeDiff, Nat.reduceAdd, Nat.reduceMul, Nat.reduceEqDiff, ↓reduceIte, reduceCtorEq, Nat.reduceBEq, Nat.reduceBNe, Nat.reducePow, Int.reduceLE, Int.reduceLT, Int.reduceNeg, Int.reduceToNat, Int.reduceEq, Int.reduceAdd, Int.reduceSub, Int.reduceMul, Int.reduceBEq, Int.reduceBNe, Blk.men, Blk.keysIn, hdd])
    | (exact retS_of rfl rfl rfl)
    | (refine DW.cond_tt rfl ?_)
    | (refine call_c (c15) (by decide) ?_)
    | (refine DW.cond_ff rfl ?_)
    | (refine DW.cond rfl ?_ ?_ <;> intro hc <;> (try simp only [go_sem] at hc))
    | (refine g_split ?_ ?_ <;> intro hc <;> (try simp only [hc]) <;> (try simp only [go_sem] at hc)))
      | false =>
        simp only [Bool.false_eq_true, if_false] at hZ
        obtain ⟨h1, h2⟩ := hinv hr rfl hlen
        have ha : la = s := by rw [← hlo, h1]; exact if_pos (by rw [her, hZ])
        have hb : lb = t := by rw [← hhi, h2]; exact if_pos (by rw [her, hZ])
        have hs2 : (nL s).length ≤ 2 ^ 36 := by rw [nL_length]; omega
        have ht2 : (nL t).length ≤ 2 ^ 36 := by rw [nL_length]; omega
        clear h1 h2 hlo hhi hZ2
        subst ha hb hZ hz0
        have h21a := c21 false true (nL la) (nL la) hs2 hs2
        have h21b := c21 false true (nL lb) (nL lb) ht2 ht2
        rw [show decide (nL la = nL la) = true from decide_eq_true rfl] at h21a
        rw [show decide (nL lb = nL lb) = true from decide_eq_true rfl] at h21b
        repeat' (first
    | (with_reducible refine DW.seq ?_)
    | (with_reducible refine DW.block ?_)
    | (with_reducible refine DW.skip ?_)
    | (with_reducible refine DW.exit ?_)
    | (with_reducible refine DW.ret ?_)
    | (with_reducible refine DW.reg ?_)
    | (refine DW.dreg rfl (WF.of (by first | rfl | simp (disch := omega) only [go_sem, Nat.reduceLT, Nat.reduceLeDiff, Nat.reduceAdd, Nat.reduceMul, Nat.reduceEqDiff, ↓reduceIte, reduceCtorEq, Nat.reduceBEq, Nat.reduceBNe, Nat.reducePow, Int.reduceLE, Int.reduceLT, Int.reduceNeg, Int.reduceToNat, Int.reduceEq, Int.reduceAdd, Int.reduceSub, Int.reduceMul, Int.reduceBEq, Int.reduceBNe, Blk.men, Blk.keysIn, hdd])) ?_)
    | (refine DW.ord rfl (WF.of (by first | rfl | simp (disch := omega) only [go_sem, Nat.reduceLT, Nat.reduceLeDiff, Nat.reduceAdd, Nat.reduceMul, Nat.reduceEqDiff, ↓reduceIte, reduceCtorEq, Nat.reduceBEq, Nat.reduceBNe, Nat.reducePow, Int.reduceLE, Int.reduceLT, Int.reduceNeg, Int.reduceToNat, Int.reduceEq, Int.reduceAdd, Int.reduceSub, Int.reduceMul, Int.reduceBEq, Int.reduceBNe, Blk.men, Blk.keysIn, hdd])) ?_ ?_ ?_; rotate_left)
    | rfl
    | (with_reducible refine And.intro ?_ ?_)
    | (simp (disch := omega) only [go_sem, Nat.reduceLT, Nat.reduceLeDiff, Nat.reduceAdd, Nat.reduceMul, Nat.reduceEqDiff, ↓reduceIte, reduceCtorEq, Nat.reduceBEq, Nat.reduceBNe, Nat.reducePow, Int.reduceLE, Int.reduceLT, Int.reduceNeg, Int.reduceToNat, Int.reduceEq, Int.reduceAdd, Int.reduceSub, Int.reduceMul, Int.reduceBEq, Int.reduceBNe, Blk.men, Blk.keysIn, hdd])
    | (exact retS_of rfl rfl rfl)
    | (refine DW.cond_tt rfl ?_)
    | (refine call_c (h21a) (by decide) ?_)
    | (refine call_c (h21b) (by decide) ?_)
    | (refine call_c (c15) (by decide) ?_)
    | (refine DW.cond_ff rfl ?_)
    | (refine DW.cond rfl ?_ ?_ <;> intro hc <;> (try simp only [go_sem] at hc))
    | (refine g_split ?_ ?_ <;> intro hc <;> (try simp only [hc]) <;> (try simp only [go_sem] at hc)))
    · rw [if_neg hz0] at hZ
      have ha : la = [] := by rw [← hlo]; exact if_neg (by rw [her, hZ]; exact hz0)
      have hb : lb = [] := by rw [← hhi]; exact if_neg (by rw [her, hZ]; exact hz0)
      subst ha hb hZ
      have hb1 : (le == 0) = false := by simpa using hz0
      have hb2 : (le != 0) = true := by simpa using hz0
      repeat' (first
    | (with_reducible refine DW.seq ?_)
    | (with_reducible refine DW.block ?_)
    | (with_reducible refine DW.skip ?_)
    | (with_reducible refine DW.exit ?_)
    | (with_reducible refine DW.ret ?_)
    | (with_reducible refine DW.reg ?_)
    | (refine DW.dreg rfl (WF.of (by first | rfl | simp (disch := omega) only [go_sem, Nat.reduceLT, Nat.reduceLeDiff, Nat.reduceAdd, Nat.reduceMul, Nat.reduceEqDiff, ↓reduceIte, reduceCtorEq, Nat.reduceBEq, Nat.reduceBNe, Nat.reducePow, Int.reduceLE, Int.reduceLT, Int.reduceNeg, Int.reduceToNat, Int.reduceEq, Int.reduceAdd, Int.reduceSub, Int.reduceMul, Int.reduceBEq, Int.reduceBNe, Blk.men, Blk.keysIn, hdd, hb1, hb2])) ?_)
    | (refine DW.ord rfl (WF.of (by first | rfl | simp (disch := omega) only [go_sem, Nat.reduceLT, Nat.reduceLeDiff, Nat.reduceAdd, Nat.reduceMul, Nat.reduceEqDiff, ↓reduceIte, reduceCtorEq, Nat.reduceBEq, Nat.reduceBNe, Nat.reducePow, Int.reduceLE, Int.reduceLT, Int.reduceNeg, Int.reduceToNat, Int.reduceEq, Int.reduceAdd, Int.reduceSub, Int.reduceMul, Int.reduceBEq, Int.reduceBNe, Blk.men, Blk.keysIn, hdd, hb1, hb2])) ?_ ?_ ?_; rotate_left)
    | rfl
    | (with_reducible refine And.intro ?_ ?_)
    | (simp (disch := omega) only [go_sem, Nat.reduceLT, Nat.reduceLeDiff, Nat.reduceAdd, Nat.reduceMul, Nat.reduceEqDiff, ↓reduceIte, reduceCtorEq, Nat.reduceBEq, Nat.reduceBNe, Nat.reducePow, Int.reduceLE, Int.reduceLT, Int.reduceNeg, Int.reduceToNat, Int.reduceEq, Int.reduceAdd, Int.reduceSub, Int.reduceMul, Int.reduceBEq, Int.reduceBNe, Blk.men, Blk.keysIn, hdd, hb1, hb2])
    | (exact retS_of rfl rfl rfl)
    | (refine DW.cond_tt rfl ?_)
    | (refine call_c (c15) (by decide) ?_)
    | (refine DW.cond_ff rfl ?_)
    | (refine DW.cond rfl ?_ ?_ <;> intro hc <;> (try simp only [go_sem] at hc))
    | (refine g_split ?_ ?_ <;> intro hc <;> (try simp only [hc]) <;> (try simp only [go_sem] at hc)))
end Go.Dw.Seat
end
section
set_option linter.unusedSimpArgs false
set_option maxRecDepth 100000
namespace Go.Dw.Seat
open Go Go.Dw Go.Proofs Go.ChangeShapes Go.WideShapes Go.ChangeAt Go.RowKit
theorem u73 : Try.prog.underlying 73 = some (.slice 85) := by kernel_rfl
theorem cells72 : Try.prog.cellsOf 72 = 3 := by kernel_rfl
theorem cells73 : Try.prog.cellsOf 73 = 1 := by kernel_rfl
theorem cells75 : Try.prog.cellsOf 75 = 2 := by kernel_rfl
theorem cells81 : Try.prog.cellsOf 81 = 2 := by kernel_rfl
theorem cells85 : Try.prog.cellsOf 85 = 4 := by kernel_rfl
theorem st72 : structIs Try.prog 72 [(3, 0), (3, 1), (3, 2)] = true := by kernel_rfl
theorem st75 : structIs Try.prog 75 [(73, 0), (22, 1)] = true := by kernel_rfl
theorem st81 : structIs Try.prog 81 [(3, 0), (3, 1)] = true := by kernel_rfl
theorem st85 : structIs Try.prog 85 [(81, 0), (81, 2)] = true := by kernel_rfl
section
variable {H : Type} {enc : TypeId × Value → H} {w : World} {base : Nat} {spare : Nat → Bool} {held : Bool} {fuel : Nat} {cs : List Value} {x : DataW H × List MemPlace}
theorem rd_R (h : DataW.trod enc Try.prog w base spare held fuel 72 cs = some x) : ∃ c : Rule, RepVs w A0 [.v (.int .i64 c.mins), .v (.int .i64 c.deg), .v (.int .i64 c.damp)] cs := by
  obtain ⟨hl, m, hf⟩ := rd_struct st72 h
  rw [cells72] at hl
  obtain ⟨y0, h0⟩ := hf 0 3 0 rfl
  obtain ⟨y1, h1⟩ := hf 1 3 1 rfl
  obtain ⟨y2, h2⟩ := hf 2 3 2 rfl
  rw [cells3] at h0 h1 h2
  match cs, hl with
  | [a, b, c], _ =>
    obtain ⟨n0, e0, _⟩ := rd_int u3 h0
    obtain ⟨n1, e1, _⟩ := rd_int u3 h1
    obtain ⟨n2, e2, _⟩ := rd_int u3 h2
    simp at e0 e1 e2
    subst e0; subst e1; subst e2
    exact ⟨⟨n0, n1, n2⟩, _, _, rfl, ⟨rfl, rfl⟩, _, _, rfl, ⟨rfl, rfl⟩, _, _, rfl, ⟨rfl, rfl⟩, rfl⟩
theorem rd_span (h : DataW.trod enc Try.prog w base spare held fuel 81 cs = some x) : ∃ lo hi : Int, cs = [.int .i64 lo, .int .i64 hi] := by
  obtain ⟨hl, m, hf⟩ := rd_struct st81 h
  rw [cells81] at hl
  obtain ⟨y0, h0⟩ := hf 0 3 0 rfl
  obtain ⟨y1, h1⟩ := hf 1 3 1 rfl
  rw [cells3] at h0 h1
  match cs, hl with
  | [a, b], _ =>
    obtain ⟨n0, e0, _⟩ := rd_int u3 h0
    obtain ⟨n1, e1, _⟩ := rd_int u3 h1
    simp at e0 e1
    subst e0; subst e1
    exact ⟨n0, n1, rfl⟩
theorem rd_Room (h : DataW.trod enc Try.prog w base spare held fuel 85 cs = some x) : ∃ c : Room, RepVs w A0 (eR c) cs := by
  obtain ⟨hl, m, hf⟩ := rd_struct st85 h
  rw [cells85] at hl
  obtain ⟨y0, h0⟩ := hf 0 81 0 rfl
  obtain ⟨y1, h1⟩ := hf 1 81 2 rfl
  rw [cells81] at h0 h1
  match cs, hl with
  | [a, b, c, d], _ =>
    obtain ⟨n0, n1, e0⟩ := rd_span h0
    obtain ⟨n2, n3, e1⟩ := rd_span h1
    simp at e0 e1
    obtain ⟨rfl, rfl⟩ := e0
    obtain ⟨rfl, rfl⟩ := e1
    exact ⟨⟨n0, n1, n2, n3⟩, _, _, rfl, ⟨rfl, rfl⟩, _, _, rfl, ⟨rfl, rfl⟩, _, _, rfl, ⟨rfl, rfl⟩, _, _, rfl, ⟨rfl, rfl⟩, rfl⟩
theorem rd_Rooms (h : DataW.trod enc Try.prog w base spare held fuel 73 cs = some x) : ∃ (l : List Room) (v : Value), cs = [v] ∧ RepC w A0 (.sl false 4 (rows eR l)) v ∧ l.length ≤ maxLen ∧ szW x.1 = l.length :=
  rd_slice u73 cells85 (by decide) (fun _ => rfl) (fun _ _ _ h => rd_Room h) h
theorem rd_Lot (h : DataW.trod enc Try.prog w base spare held fuel 75 cs = some x) : ∃ (l : List Room) (l' : List Int), RepVs w A0 [.sl false 4 (rows eR l), .sl false 1 (rows eI l')] cs := by
  obtain ⟨hl, m, hf⟩ := rd_struct st75 h
  rw [cells75] at hl
  obtain ⟨y0, h0⟩ := hf 0 73 0 rfl
  obtain ⟨y1, h1⟩ := hf 1 22 1 rfl
  rw [cells73] at h0
  rw [cells22] at h1
  match cs, hl with
  | [a, b], _ =>
    obtain ⟨l, v, e0, h2, h3, _⟩ := rd_Rooms h0
    obtain ⟨l', v', e1, h4, h5, _⟩ := rd_Is h1
    simp at e0 e1
    subst e0; subst e1
    exact ⟨l, l', _, _, rfl, h2, _, _, rfl, h4, rfl⟩
end
theorem opensLifted (os : Os) (started : os.Started) (H : Type) (enc : TypeId × Value → H) :
    ReturnsInHanded {} Try.checked os 7 .any (Ytecgononbfgigaa.Rows.glueOpensSpec.pre6 enc Try.prog Try.f7 Ytecgononbfgigaa.Rows.glueOpensRow.domain false) (Ytecgononbfgigaa.Rows.glueOpensSpec.post enc Try.prog Try.f7 false true false false) := by
  refine returnsInHanded_of_change (C := Try.checked) tOwn started (by kernel_rfl) Try.func7
    (ChangeSpec.witness6 (enc := enc) (C := Try.checked) false ⟨#[], #[.agg #[.int .i64 0, .int .i64 0, .int .i64 0], .agg #[.slice none 0 0, .slice none 0 0]], []⟩ 8 (by kernel_rfl) (by kernel_rfl) (by kernel_rfl) (by kernel_rfl)) ?_
  intro W base args ds gs before hval0 hW _ _
  have hval : ∀ (j : Nat) t v, Try.f7.params[j]? = some t → args[j]? = some v → Value.okWide Try.prog W .any base t v := hval0
  have hW' : DataW.Whole enc Try.prog Try.f7.params.toList [] false W args.toList ds gs before := hW
  obtain ⟨p, q, hA, hV, rfl, hfz, hnd⟩ := hW
  have hA : DataW.TrodAll enc Try.prog W 0 (fun _ => true) true [72, 75] args.toList ds p := hA
  obtain ⟨rfl, rfl⟩ := trodVars_none hV
  obtain ⟨v0, vs0, d0, ds0, p0, q0, hargs, rfl, rfl, h0, r0⟩ := trodAll_cons hA
  obtain ⟨v1, vs1, d1, ds1, p1, q1, rfl, rfl, rfl, h1, r1⟩ := trodAll_cons r0
  obtain ⟨rfl, rfl, rfl⟩ := trodAll_nil r1
  obtain rfl : args = #[v0, v1] := by cases args; simp_all
  obtain ⟨f72, hu72, _⟩ := structIs_spec st72
  obtain ⟨c0, rfl, _⟩ := okWide_struct hu72 (hval 0 72 v0 rfl rfl)
  obtain ⟨f75, hu75, _⟩ := structIs_spec st75
  obtain ⟨c1, rfl, _⟩ := okWide_struct hu75 (hval 1 75 v1 rfl rfl)
  obtain ⟨fu0, h0⟩ := h0
  obtain ⟨fu1, h1⟩ := h1
  obtain ⟨ru, hru⟩ := rd_R h0
  have hru : RepVs W A0 [.v (.int .i64 ru.mins), .v (.int .i64 ru.deg), .v (.int .i64 ru.damp)] c0.toList := by simpa [Value.cells] using hru
  obtain ⟨rs, ms, hlot⟩ := rd_Lot h1
  have hlot : RepVs W A0 [.sl false 4 (rows eR rs), .sl false 1 (rows eI ms)] c1.toList := by simpa [Value.cells] using hlot
  refine ((c7 false false ru rs ms).calls (W := W) (vs := [.agg c0, .agg c1]) (fun G => ?_)).mono ?_
  · exact ⟨_, _, rfl, ⟨c0, rfl, RepDs.ofVs hru⟩, _, _, rfl, ⟨c1, rfl, RepDs.ofVs hlot⟩, rfl⟩
  · rintro e W' ⟨v, rfl, ⟨G', A', hr⟩, hb⟩
    obtain ⟨rfl, _⟩ := hr
    exact ⟨_, rfl, post_true tLaid (by decide +kernel) hW' hb rfl rfl u4 rfl rfl rfl⟩
theorem opensHolds : Ytecgononbfgigaa.Rows.glueOpensRow.holds Ytecgononbfgigaa.Try.pinned (OpenSpec.ofChange Ytecgononbfgigaa.Rows.glueOpensSpec) :=
  OpenClaim.holds_of_wide 7 Try.f7 rfl rfl rfl rfl rfl rfl rfl ⟨rfl, rfl, rfl, rfl, rfl⟩ rfl rfl rfl rfl rfl (by kernel_rfl) Try.func7 (by kernel_rfl)
    (of_decide_eq_true (by kernel_rfl)) (by unfold Func.isWrapper; first | (rw [if_pos (by decide +kernel)]; kernel_rfl) | (rw [if_neg (by decide +kernel)]; exact ⟨rfl, rfl⟩))
    (fun os started H enc _ => opensLifted os started H enc)
end Go.Dw.Seat
namespace Go.Proofs.Ytecgononbfgigaa
theorem opensSaid : Rows.GlueOpensSaid := Go.Dw.Seat.opensHolds
end Go.Proofs.Ytecgononbfgigaa
end
