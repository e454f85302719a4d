/- The law TopRollStrength returns true for every input, and changes nothing that was there before: the full statement TopRollStrengthSaid, without conditions. -/
import Derived.Test.YtakhpmbcndkkfaaD01
import Derived.Test.YtakhpmbcndkkfaaRows
import Derived.ProofKit
import Derived.OpenShut
set_option linter.unusedVariables false
set_option linter.unusedSimpArgs false
section
set_option linter.unusedSimpArgs false
set_option maxRecDepth 100000
namespace Go.Dw.Seat
open Go Go.Dw Go.Proofs Go.IntWalk
structure T2 where
 v0 : Nat
 v1 : Nat
structure T2.ok (v : T2) : Prop where
 v0 : v.v0 < 256
 v1 : v.v1 < 256
def e2t (v : T2) : List C := [.v (.int .u8 v.v0), .v (.int .u8 v.v1)]
theorem e2t_nb (v : T2) : C.nbs (e2t v) = true := rfl
attribute [go_sem] e2t
structure ReelY where
 tail : Nat
 rolls : List T2
structure ReelY.ok (y : ReelY) : Prop where
 tail : y.tail < 256
 rolls : ∀ v ∈ y.rolls, v.ok
abbrev dReel (b : Bool) (y : ReelY) : D := .agg [d8 y.tail, .c (.sl b 2 (rows e2t y.rolls))]
def reelT (y : ReelY) : Int := ((y.tail % 50 : Nat) : Int)
def rollOf (t : Int) (v : T2) : Int × Int := (t + 1 + 10 * (v.v0 : Int), t + 1 + 10 * (v.v0 : Int) + ((v.v1 % 40 : Nat) : Int))
def reelN (y : ReelY) : Nat := min 5 y.rolls.length
def reelL (y : ReelY) (i : Nat) : List (Int × Int) := (y.rolls.take i).map (rollOf (reelT y))
def reelS (y : ReelY) (num den : Int) : RSt := ⟨num, den, reelT y, reelL y (reelN y)⟩
theorem reelT_b (y : ReelY) : 0 ≤ reelT y ∧ reelT y < 50 := by
 have : y.tail % 50 < 50 := Nat.mod_lt _ (by decide)
 unfold reelT
 omega
theorem rollOf_b {t : Int} (ht : 0 ≤ t ∧ t < 50) {v : T2} (h : v.ok) : t + 1 ≤ (rollOf t v).1 ∧ (rollOf t v).1 ≤ t + 2551 ∧ (rollOf t v).1 ≤ (rollOf t v).2 ∧ (rollOf t v).2 ≤ t + 2600 := by
 have h0 := h.v0
 have h1 : v.v1 % 40 < 40 := Nat.mod_lt _ (by decide)
 unfold rollOf
 dsimp only
 omega
theorem reelL_mem {y : ReelY} (hy : y.ok) {i : Nat} {r : Int × Int} (h : r ∈ reelL y i) : reelT y + 1 ≤ r.1 ∧ r.1 ≤ reelT y + 2551 ∧ r.1 ≤ r.2 ∧ r.2 ≤ reelT y + 2600 := by
 obtain ⟨v, hv, rfl⟩ := List.mem_map.1 h
 exact rollOf_b (reelT_b y) (hy.rolls v (List.mem_of_mem_take hv))
theorem reelS_ok {y : ReelY} (hy : y.ok) {num den : Int} (hd : 1 ≤ den ∧ den ≤ 10000) (hn : den ≤ num ∧ num ≤ 2 * den) : (reelS y num den).ok := by
 have ht := reelT_b y
 refine ⟨hd, hn, by show 0 ≤ reelT y ∧ reelT y ≤ 10000; omega, ?_, fun r hr => ?_⟩
 ·show (reelL y (reelN y)).length ≤ 6
  unfold reelL reelN
  rw [List.length_map, List.length_take]
  omega
 ·have := reelL_mem hy (i := reelN y) hr
  show reelT y + 1 ≤ r.1 ∧ r.1 ≤ r.2 ∧ r.2 ≤ 10000000
  omega
theorem t50 (m : Nat) : (m : Int).tmod 50 = ((m % 50 : Nat) : Int) := tmodN m 50
theorem t40 (m : Nat) : (m : Int).tmod 40 = ((m % 40 : Nat) : Int) := tmodN m 40
set_option maxHeartbeats 2000000 in
theorem arStand (b : Bool) (y : ReelY) (hy : y.ok) (num den : Int) : DCall Try.prog 34 [dReel b y, .agg [dI num, dI den]] [] (dRSt false (reelS y num den)) [] := by
 have ht := reelT_b y
 have hT : ((y.tail % 50 : Nat) : Int) = reelT y := rfl
 have hty := hy.tail
 refine DCall.of Try.func34 sf34 hb34 (Nat.le_of_ble_eq_true rfl) (okRes_nil fun _ => rfl) ?_; simp only [s34, idxs, Nat.reduceAdd]
 repeat' (first|(with_reducible first|apply qA|apply qB|apply qC|apply qD|apply qE|apply qF)|(refine qL rfl (WF.of ?_) ?_; first|rfl|skip)|(simp (disch:=omega) only [go_sem, simprocAttr, qN, qO, qP, qQ, t50, hT])|exact qM rfl rfl rfl|(refine qG rfl ?_)|(refine qH rfl ?_)|(refine qI rfl ?_ ?_<;>intro hc<;>(try simp only [go_sem] at hc))|(refine qJ ?_ ?_<;>intro hc<;>(try simp only [hc])<;>(try simp only [go_sem] at hc)))
 (refine DW.ent (Ent.adoptB 5 3 52 2 rfl rfl rfl rfl) ?_; simp only [ins, Nat.reduceLT, Nat.reduceEqDiff, ↓reduceIte, List.set_cons_zero, List.set_cons_succ])
 refine DW.loop (ι := { i : Nat // i ≤ reelN y }) (fun i => ⟨55, [(6, dI i.1), (5, .box 5 0), (4, .box 4 0), (2, .box 2 0)], [(52, .row 2 (rowC (rows eSp (reelL y i.1)))), (5, .box [dI num, dI den, dI (reelT y), .own 52]), (4, .box [dI 0, dI 0, dI 0, .c (.v (.slice none 0 0))]), (2, .box [d8 y.tail, .c (.sl b 2 (rows e2t y.rolls))])]⟩) (fun i => reelN y - i.1) ⟨0, Nat.zero_le _⟩ ?_ ?_
 ·refine Ent.to ?_ ?_ <;> simp (disch:=omega) only [qR,qS,qTw,qU,get,Nat.reduceEqDiff,↓reduceIte,qV,qW,qX,qY,qZ,and_self,dI,i64_in,and_true,true_and,rA,rB,rC,rD,reelL,List.take_zero,rG]
  all_goals first | exact .refl _ | exact ⟨.refl _, .refl _, .refl _, .refl _⟩ | exact ⟨.refl _, .refl _, .refl _⟩ | exact ⟨.refl _, .refl _⟩
 rintro ⟨i, hi⟩
 dsimp only
 rcases Nat.lt_or_ge i (reelN y) with hlt | hge
 ·have hl : i < y.rolls.length ∧ i < 5 := by unfold reelN at hlt; omega
  have d1 : decide ((i : Int) < (y.rolls.length : Int)) = true := decide_eq_true (by omega)
  have d2 : decide ((i : Int) < 5) = true := decide_eq_true (by omega)
  obtain ⟨v, hv⟩ := getE (l := y.rolls) (i := i) hl.1
  have hvo := hy.rolls v (List.mem_of_getElem? hv)
  have v0 := hvo.v0
  have v1 := hvo.v1
  have v2 : v.v1 % 40 < 40 := Nat.mod_lt _ (by decide)
  have c1 := arSpan (reelT y + 1 + 10 * (v.v0 : Int)) (reelT y + 1 + 10 * (v.v0 : Int) + ((v.v1 % 40 : Nat) : Int))
  have hsn : reelL y (i + 1) = reelL y i ++ [rollOf (reelT y) v] := by
   unfold reelL
   rw [List.take_add_one, hv, Option.toList_some, List.map_append]; rfl
  have hrow : rowC (rows eSp (reelL y i)) ++ [[D.c (.v (.int .i64 (reelT y + 1 + 10 * (v.v0 : Int)))), D.c (.v (.int .i64 (reelT y + 1 + 10 * (v.v0 : Int) + ((v.v1 % 40 : Nat) : Int))))]] = rowC (rows eSp (reelL y (i + 1))) := by rw [hsn]; simp [rowC, rows, eSp, rollOf]
  have hln : (reelL y i).length ≤ 5 := by unfold reelL; rw [List.length_map, List.length_take]; omega
  generalize reelL y i = A at *
  generalize hB : reelL y (i + 1) = B at *
  repeat' (first|(with_reducible first|apply qA|apply qB|apply qC|apply qD|apply qE|apply qF)|(refine qL rfl (WF.of ?_) ?_; first|rfl|skip)|(simp (disch:=omega) only [go_sem, simprocAttr, qN, qO, qP, qQ, d1, d2, hv, t40, hrow, rF, rG])|exact qM rfl rfl rfl|(refine qG rfl ?_)|(refine qK (c1) (by decide) ?_)|(refine qH rfl ?_)|(refine qI rfl ?_ ?_<;>intro hc<;>(try simp only [go_sem] at hc))|(refine qJ ?_ ?_<;>intro hc<;>(try simp only [hc])<;>(try simp only [go_sem] at hc)))
  refine ⟨⟨i + 1, hlt⟩, ?_, Ent.to ?_ ?_⟩ <;> first | (show _ < _; (try simp only); omega) | (simp (disch:=omega) only [qR,qS,qTw,qU,get,Nat.reduceEqDiff,↓reduceIte,qV,qW,qX,qY,qZ,and_self,dI,i64_in,and_true,true_and,rA,rB,rC,rD, hrow,hB])
  all_goals first | exact .refl _ | exact ⟨.refl _, .refl _, .refl _, .refl _⟩ | exact ⟨.refl _, .refl _, .refl _⟩ | exact ⟨.refl _, .refl _⟩
 ·obtain rfl : i = reelN y := by omega
  have hc : (decide ((reelN y : Int) < (y.rolls.length : Int)) = false) ∨ (decide ((reelN y : Int) < (y.rolls.length : Int)) = true ∧ decide ((reelN y : Int) < 5) = false) := by
   simp only [decide_eq_true_eq, decide_eq_false_iff_not]
   unfold reelN
   omega
  unfold reelS
  (refine DW.ent (Ent.rel 52 rfl) ?_; simp (disch:=omega) only [go_sem,simprocAttr,qN,qO,qP,qQ])
  rcases hc with d1 | ⟨d1, d2⟩
  ·repeat' (first|(with_reducible first|apply qA|apply qB|apply qC|apply qD|apply qE|apply qF)|(refine qL rfl (WF.of ?_) ?_; first|rfl|skip)|(simp (disch:=omega) only [go_sem, simprocAttr, qN, qO, qP, qQ, d1])|exact qM rfl rfl rfl|(refine qG rfl ?_)|(refine qH rfl ?_)|(refine qI rfl ?_ ?_<;>intro hc<;>(try simp only [go_sem] at hc))|(refine qJ ?_ ?_<;>intro hc<;>(try simp only [hc])<;>(try simp only [go_sem] at hc)))
   refine retS_wk rfl ?_ (by simp only [Blk.nb, rowC_nb, D.nb, D.nbs, C.nb, C.nbs, C.nbss, rows_nb eI_nb, Bool.and_true, Bool.not_false, Bool.and_self, bD, dI, iD, rows_nb eSp_nb, rows_nb e2t_nb]); exact .refl _
  ·repeat' (first|(with_reducible first|apply qA|apply qB|apply qC|apply qD|apply qE|apply qF)|(refine qL rfl (WF.of ?_) ?_; first|rfl|skip)|(simp (disch:=omega) only [go_sem, simprocAttr, qN, qO, qP, qQ, d1, d2])|exact qM rfl rfl rfl|(refine qG rfl ?_)|(refine qH rfl ?_)|(refine qI rfl ?_ ?_<;>intro hc<;>(try simp only [go_sem] at hc))|(refine qJ ?_ ?_<;>intro hc<;>(try simp only [hc])<;>(try simp only [go_sem] at hc)))
   refine retS_wk rfl ?_ (by simp only [Blk.nb, rowC_nb, D.nb, D.nbs, C.nb, C.nbs, C.nbss, rows_nb eI_nb, Bool.and_true, Bool.not_false, Bool.and_self, bD, dI, iD, rows_nb eSp_nb, rows_nb e2t_nb]); exact .refl _
theorem arRolls (b : Bool) (s : RSt) (hl : s.rolls.length ≤ 1000) : DCall Try.prog 36 [dRSt b s] [] (dRSt false s) [] := by
 refine DCall.of Try.func36 sf36 hb36 (Nat.le_of_ble_eq_true rfl) (okRes_nil fun _ => rfl) ?_; simp only [s36, o36_0, o36_1, o36_2, o36_3, o36_4, o36_5, o36_6, o36_7, o36_8, o36_9, idxs, Nat.reduceAdd]
 repeat' (first|(with_reducible first|apply qA|apply qB|apply qC|apply qD|apply qE|apply qF)|(refine DW.ord rfl (WF.of (by first|rfl|simp (disch:=omega) only [go_sem, simprocAttr, qN, qO, qP, qQ])) ?_ ?_ ?_; rotate_left)|rfl|(with_reducible refine And.intro ?_ ?_)|(simp (disch:=omega) only [go_sem, simprocAttr, qN, qO, qP, qQ])|exact qM rfl rfl rfl|(refine qG rfl ?_)|(refine qH rfl ?_)|(refine qI rfl ?_ ?_<;>intro hc<;>(try simp only [go_sem] at hc))|(refine qJ ?_ ?_<;>intro hc<;>(try simp only [hc])<;>(try simp only [go_sem] at hc)))
 (refine retS_ent (Ent.rel 7 rfl) ?_; simp (disch:=omega) only [go_sem,simprocAttr,qN,qO,qP,qQ])
 refine retS_wk rfl ?_ (by simp only [Blk.nb, rowC_nb, D.nb, D.nbs, C.nb, C.nbs, C.nbss, rows_nb eI_nb, Bool.and_true, Bool.not_false, Bool.and_self, bD, dI, iD, rows_nb eSp_nb, rows_nb e2t_nb]); exact .refl _
end Go.Dw.Seat
end
section
set_option linter.unusedSimpArgs false
set_option maxRecDepth 100000
namespace Go.Dw.Seat
open Go Go.Dw Go.Proofs Go.IntWalk
theorem wSto_strong {x : War} (h : x.ok) : ∀ p ∈ (wSto x).papers, 0 ≤ p.strong ∧ p.strong ≤ 2550 := by
 intro p hp
 obtain ⟨i, hi, rfl⟩ := List.mem_map.1 hp
 rw [List.mem_range] at hi
 have := (papV_ok h (i := i) (by unfold nPap at hi; omega)).v5
 show 0 ≤ 10 * ((papV x i).v5 : Int) ∧ 10 * ((papV x i).v5 : Int) ≤ 2550
 omega
end Go.Dw.Seat
end
section
set_option linter.unusedSimpArgs false
set_option maxRecDepth 100000
namespace Go.Dw.Seat
open Go Go.Dw Go.Proofs Go.IntWalk
structure SmallS (s : Sto) : Prop where
 th : ∀ p ∈ s.papers, p.th ≤ 336
 hh : ∀ f ∈ s.flutes, f.hh ≤ 3139
 weight : ∀ p ∈ s.papers, p.weight ≤ 305
 moist : ∀ p ∈ s.papers, p.mh ≤ 114
 strong : ∀ p ∈ s.papers, 0 ≤ p.strong ∧ p.strong ≤ 2550
theorem wSto_small {x : War} (h : x.ok) : SmallS (wSto x) := by
 have key : ∀ p ∈ (wSto x).papers, ∃ (v : V6) (i : Nat), v.ok ∧ p = papOf i v := by
  intro p hp
  obtain ⟨i, hi, rfl⟩ := List.mem_map.1 hp
  rw [List.mem_range] at hi
  exact ⟨_, i, papV_ok h (by unfold nPap at hi; omega), rfl⟩
 refine ⟨fun p hp => ?_, fun f hf => ?_, fun p hp => ?_, fun p hp => ?_, wSto_strong h⟩
 ·obtain ⟨v, i, hv, rfl⟩ := key p hp
  have h0 := hv.v0
  have h2 := hv.v2
  show 50 + (v.v2 : Int) + ((v.v0 / 8 : Nat) : Int) ≤ 336
  omega
 ·obtain ⟨i, _, rfl⟩ := List.mem_map.1 hf
  have hv := fluV_ok h i
  have h2 := hv.v2
  have h1 : (fluV x i).v1 % 90 < 90 := Nat.mod_lt _ (by decide)
  show 500 + 10 * ((fluV x i).v2 : Int) + (((fluV x i).v1 % 90 : Nat) : Int) ≤ 3139
  omega
 ·obtain ⟨v, i, hv, rfl⟩ := key p hp
  have h1 := hv.v1
  show 50 + (v.v1 : Int) ≤ 305
  omega
 ·obtain ⟨v, i, hv, rfl⟩ := key p hp
  have h3 := hv.v3
  have h4 : v.v3 % 100 < 100 := Nat.mod_lt _ (by decide)
  show ((v.v3 % 100 : Nat) : Int) + ((v.v3 / 16 : Nat) : Int) ≤ 114
  omega
theorem calP_hi {s : Sto} {m : Mak} (hm : m.ok s) (hS : SmallS s) : ∀ i, i ≤ m.papers.length → calP hiE s m i ≤ 336 * (((i + 1) / 2 : Nat) : Int)
 | 0, _ => by simp [calP]
 | i + 1, h => by
  have ih := calP_hi hm hS i (by omega)
  obtain ⟨v, hv⟩ := getE (l := m.papers) (i := i) (by omega)
  rw [calP, hv, Option.getD_some]
  have := hS.th _ (List.mem_of_getElem? (papAt_get (hm.papers v (List.mem_of_getElem? hv))))
  show calP hiE s m i + (if i % 2 = 0 then (papAt s v).th else 0) ≤ _
  split <;> omega
theorem calH_hi {s : Sto} {m : Mak} (hm : m.ok s) (hS : SmallS s) : ∀ i, i ≤ m.flutes.length → calH hiE s m i ≤ 3139 * (i : Int)
 | 0, _ => by simp [calH]
 | i + 1, h => by
  have ih := calH_hi hm hS i (by omega)
  obtain ⟨v, hv⟩ := getE (l := m.flutes) (i := i) (by omega)
  rw [calH, hv, Option.getD_some]
  have := hS.hh _ (List.mem_of_getElem? (fluAt_get (hm.flutes v (List.mem_of_getElem? hv))))
  show calH hiE s m i + (fluAt s v).hh ≤ _
  omega
theorem cal_hi {s : Sto} {m : Mak} (hm : m.ok s) (hS : SmallS s) : calI hiE s m ≤ 10000 := by
 have h1 := calP_hi hm hS _ (Nat.le_refl _)
 have h2 := calH_hi hm hS _ (Nat.le_refl _)
 have h3 := hm.nf
 have h4 := hm.np
 unfold calI
 omega
theorem weight_hi {s : Sto} {m : Mak} (hs : s.ok) (hm : m.ok s) (hS : SmallS s) : 0 ≤ moistI loE s m ∧ moistI loE s m ≤ moistI hiE s m ∧ moistI hiE s m ≤ 10000 := by
 have hw := wholeI_b hs hm
 have hl : ∀ e ∈ layersL s m, e.1 < s.papers.length ∧ 0 ≤ e.2 := fun e he => ⟨(layers_w hs hm e he).1, (layers_w hs hm e he).2.1⟩
 have hF : ∀ p ∈ s.papers, 0 ≤ moistF loE p ∧ moistF loE p ≤ moistF hiE p ∧ moistF hiE p ≤ 339770 := fun p hp => by
  have h1 := hS.weight p hp
  have h2 := hS.moist p hp
  have h3 := (hs.papers p hp).weight
  have h4 := (hs.papers p hp).moist
  show 0 ≤ p.weight * (1000 + p.ml) ∧ p.weight * (1000 + p.ml) ≤ p.weight * (1000 + p.mh) ∧ p.weight * (1000 + p.mh) ≤ 339770
  have := mulB0 (a := p.weight) (b := 1000 + p.mh) (A := 305) (B := 1114) (by omega) (by omega)
  exact ⟨Int.mul_nonneg (by omega) (by omega), Int.mul_le_mul_of_nonneg_left (by omega) (by omega), by omega⟩
 have q1 := sum_quot hs hm (moistF loE) 339770 (by decide) (fun p hp => ⟨(hF p hp).1, Int.le_trans (hF p hp).2.1 (hF p hp).2.2⟩)
 have q2 := sum_quot hs hm (moistF hiE) 339770 (by decide) (fun p hp => ⟨Int.le_trans (hF p hp).1 (hF p hp).2.1, (hF p hp).2.2⟩)
 have q3 : sumI (moistF loE) s m ≤ sumI (moistF hiE) s m := sumF_mono _ _ s (fun p hp => (hF p hp).2.1) _ _ _ hl (Int.le_refl _)
 unfold moistI
 generalize sumI (moistF loE) s m = a at *
 generalize sumI (moistF hiE) s m = b at *
 rw [Int.tdiv_eq_ediv_of_nonneg q1.1, Int.tdiv_eq_ediv_of_nonneg q2.1]
 refine ⟨Int.ediv_nonneg q1.1 (by omega), Int.ediv_le_ediv (by omega) q3, ?_⟩
 refine Int.le_of_lt_add_one (Int.ediv_lt_of_lt_mul (by omega) ?_)
 generalize wholeI s m = W at *
 omega
theorem endF_snoc (t : Int) (r : Int × Int) : ∀ (l : List (Int × Int)) (u : Int × Int), endF t u (l ++ [r]) = ((endF t u l).1 + r.1 - t, (endF t u l).2 + r.2 - t)
 | [], _ => rfl
 | q :: l, u => by
  show endF t (u.1 + q.1 - t, u.2 + q.2 - t) (l ++ [r]) = _
  rw [endF_snoc t r l]; rfl
def usbF (s : RSt) (i : Nat) : Int := (endF s.tail (0, 0) (s.rolls.take i)).1
theorem usbF_succ (s : RSt) {i : Nat} {r : Int × Int} (h : s.rolls[i]? = some r) : usbF s (i + 1) = usbF s i + (r.1 - s.tail) := by
 unfold usbF
 rw [List.take_add_one, h, Option.toList_some, endF_snoc]
 dsimp only
 omega
theorem usbF_b {y : ReelY} (hy : y.ok) (num den : Int) : ∀ i, i ≤ (reelS y num den).rolls.length → 0 ≤ usbF (reelS y num den) i ∧ usbF (reelS y num den) i ≤ 2551 * (i : Int)
 | 0, _ => by simp [usbF, endF]
 | i + 1, h => by
  have ih := usbF_b hy num den i (by omega)
  obtain ⟨r, hr⟩ := getE (l := (reelS y num den).rolls) (i := i) (by omega)
  have hb := reelL_mem hy (i := reelN y) (List.mem_of_getElem? hr)
  rw [usbF_succ _ hr]
  show 0 ≤ usbF (reelS y num den) i + (r.1 - reelT y) ∧ usbF (reelS y num den) i + (r.1 - reelT y) ≤ _
  omega
theorem reel_len (y : ReelY) (num den : Int) : (reelS y num den).rolls.length ≤ 5 := by
 show (reelL y (reelN y)).length ≤ 5
 unfold reelL reelN
 rw [List.length_map, List.length_take]
 omega
theorem lasts_law {s : RSt} {U : Int} (hU : U = usbF s s.rolls.length) (hU0 : 0 ≤ U) (hd : 1 ≤ s.den) (hn : s.den ≤ s.num) : (0 ≤ (lastsI s).1 ∧ (lastsI s).1 ≤ U) ∧ ∀ L : Int, 0 ≤ L → L ≤ (lastsI s).1 → (L * s.num + s.den - 1).tdiv s.den ≤ U := by
 have e : (lastsI s).1 = (U * s.den).tdiv s.num := by
  rw [hU]
  unfold usbF
  rw [List.take_length]
  rfl
 have hp : 0 ≤ U * s.den := Int.mul_nonneg hU0 (by omega)
 have hle : U * s.den ≤ U * s.num := Int.mul_le_mul_of_nonneg_left hn hU0
 rw [e, Int.tdiv_eq_ediv_of_nonneg hp]
 refine ⟨⟨Int.ediv_nonneg hp (by omega), Int.le_of_lt_add_one (Int.ediv_lt_of_lt_mul (by omega) (by rw [Int.add_mul, Int.one_mul]; omega))⟩, fun L h0 hL => ?_⟩
 have h1 : L * s.num ≤ U * s.den := Int.le_trans (Int.mul_le_mul_of_nonneg_right hL (by omega)) (Int.ediv_mul_le _ (by omega))
 rw [Int.tdiv_eq_ediv_of_nonneg (by have := Int.mul_nonneg h0 (show 0 ≤ s.num by omega); omega)]
 refine Int.le_of_lt_add_one (Int.ediv_lt_of_lt_mul (by omega) ?_)
 rw [Int.add_mul, Int.one_mul]
 omega
end Go.Dw.Seat
end
section
set_option linter.unusedSimpArgs false
set_option maxRecDepth 100000
namespace Go.Dw.Seat.Pa
open Go Go.Dw Go.Proofs Go.IntWalk
theorem plIdxI (b : Bool) (l : List (Int)) (hl : l.length ≤ 2 ^ 36) (g : FuncId) (fs caps : List C) (p : Int → Bool) (hp : ∀ x ∈ l, DCall Try.prog g (fs.map D.c ++ [dI x] ++ caps.map D.c) [] (bD (p x)) []) : DCall Try.prog 133 [.c (.sl b 1 (rows eI l)), .c (.fn (.func g) fs caps)] [] (dI (idxI p l)) [] := by
 refine DCall.of Try.func133 sf133 hb133 (Nat.le_of_ble_eq_true rfl) (okRes_nil fun _ => rfl) ?_; simp only [s133, idxs, Nat.reduceAdd]
 repeat' (first|(with_reducible first|apply qA|apply qB|apply qC|apply qD|apply qE|apply qF)|(simp (disch:=omega) only [go_sem, simprocAttr, Blk.men, Blk.keysIn])|exact qM rfl rfl rfl|(refine qG rfl ?_)|(refine qH rfl ?_)|(refine qI rfl ?_ ?_<;>intro hc<;>(try simp only [go_sem] at hc))|(refine qJ ?_ ?_<;>intro hc<;>(try simp only [hc])<;>(try simp only [go_sem] at hc)))
 refine DW.loop (ι := { i : Nat // i ≤ l.length ∧ ∀ j u, j < i → l[j]? = some u → p u = false }) (fun i => ⟨19, [(8, dI i.1), (7, dI l.length), (1, .c (.fn (.func g) fs caps)), (0, .c (.sl b 1 (rows eI l)))], []⟩) (fun i => l.length - i.1) ⟨0, Nat.zero_le _, fun j u h => by omega⟩ ?_ ?_
 ·refine Ent.to ?_ ?_ <;> simp (disch:=omega) only [qR,qS,qTw,qU,get,Nat.reduceEqDiff,↓reduceIte,qV,qW,qX,qY,qZ,and_self,dI,i64_in,and_true,true_and,rA,rB,rC,rD]
 rintro ⟨i, hi, hij⟩
 rcases at_or l i hi with ⟨v, hv, hlt, hd⟩ | ⟨he, hd⟩
 ·have hcall := hp v (List.mem_of_getElem? hv)
  repeat' (first|(with_reducible first|apply qA|apply qB|apply qC|apply qD|apply qE|apply qF)|(simp (disch:=omega) only [go_sem, simprocAttr, Blk.men, Blk.keysIn, hd, hv, closeDs_fn, rF, rG])|exact qM rfl rfl rfl|(refine qG rfl ?_)|(refine qH rfl ?_)|(refine qI rfl ?_ ?_<;>intro hc<;>(try simp only [go_sem] at hc))|(refine qJ ?_ ?_<;>intro hc<;>(try simp only [hc])<;>(try simp only [go_sem] at hc)))
  refine call_c hcall (by decide) ?_
  simp (disch:=omega) only [go_sem,simprocAttr,Blk.men,Blk.keysIn]
  refine DW.cond rfl ?_ ?_ <;> intro hc
  ·repeat' (first|(with_reducible first|apply qA|apply qB|apply qC|apply qD|apply qE|apply qF)|(simp (disch:=omega) only [go_sem, simprocAttr, Blk.men, Blk.keysIn])|exact qM rfl rfl rfl|(refine qG rfl ?_)|(refine qH rfl ?_)|(refine qI rfl ?_ ?_<;>intro hc<;>(try simp only [go_sem] at hc))|(refine qJ ?_ ?_<;>intro hc<;>(try simp only [hc])<;>(try simp only [go_sem] at hc)))
   refine retS_of rfl ?_ rfl; simp only [oneD, St.op, get, Nat.reduceEqDiff, ↓reduceIte, Option.getD_some, bD, dI]
   simp only [idxI, idxOf_some hij hv hc]
  ·repeat' (first|(with_reducible first|apply qA|apply qB|apply qC|apply qD|apply qE|apply qF)|(simp (disch:=omega) only [go_sem, simprocAttr, Blk.men, Blk.keysIn])|exact qM rfl rfl rfl|(refine qG rfl ?_)|(refine qH rfl ?_)|(refine qI rfl ?_ ?_<;>intro hc<;>(try simp only [go_sem] at hc))|(refine qJ ?_ ?_<;>intro hc<;>(try simp only [hc])<;>(try simp only [go_sem] at hc)))
   refine ⟨⟨i + 1, by omega, fun j u hj hu => by
    rcases Nat.lt_or_ge j i with h | h
    ·exact hij j u h hu
    ·have : j = i := by omega
     subst this
     rw [hv] at hu; cases hu; exact hc⟩, ?_, Ent.to ?_ ?_⟩ <;> first | (show _ < _; (try simp only); omega) | (simp (disch:=omega) only [qR,qS,qTw,qU,get,Nat.reduceEqDiff,↓reduceIte,qV,qW,qX,qY,qZ,and_self,dI,i64_in,and_true,true_and,rA,rB,rC,rD])
 ·repeat' (first|(with_reducible first|apply qA|apply qB|apply qC|apply qD|apply qE|apply qF)|(simp (disch:=omega) only [go_sem, simprocAttr, Blk.men, Blk.keysIn, hd])|exact qM rfl rfl rfl|(refine qG rfl ?_)|(refine qH rfl ?_)|(refine qI rfl ?_ ?_<;>intro hc<;>(try simp only [go_sem] at hc))|(refine qJ ?_ ?_<;>intro hc<;>(try simp only [hc])<;>(try simp only [go_sem] at hc)))
  refine retS_of rfl ?_ rfl; simp only [oneD, St.op, get, Nat.reduceEqDiff, ↓reduceIte, Option.getD_some, bD, dI]
  simp only [idxI, idxOf_none (he ▸ hij)]
theorem plAnyI (b : Bool) (l : List (Int)) (hl : l.length ≤ 2 ^ 36) (g : FuncId) (fs caps : List C) (p : Int → Bool) (hp : ∀ x ∈ l, DCall Try.prog g (fs.map D.c ++ [dI x] ++ caps.map D.c) [] (bD (p x)) []) : DCall Try.prog 97 [.c (.sl b 1 (rows eI l)), .c (.fn (.func g) fs caps)] [] (bD (l.any p)) [] := by
 refine DCall.of Try.func97 sf97 hb97 (Nat.le_of_ble_eq_true rfl) (okRes_nil fun _ => rfl) ?_; simp only [s97, idxs, Nat.reduceAdd]
 repeat' (first|(with_reducible first|apply qA|apply qB|apply qC|apply qD|apply qE|apply qF)|(simp (disch:=omega) only [go_sem, simprocAttr, Blk.men, Blk.keysIn])|exact qM rfl rfl rfl|(refine qG rfl ?_)|(refine qH rfl ?_)|(refine qI rfl ?_ ?_<;>intro hc<;>(try simp only [go_sem] at hc))|(refine qJ ?_ ?_<;>intro hc<;>(try simp only [hc])<;>(try simp only [go_sem] at hc)))
 refine call_c (plIdxI b l hl g fs caps p hp) (by decide) ?_
 repeat' (first|(with_reducible first|apply qA|apply qB|apply qC|apply qD|apply qE|apply qF)|(simp (disch:=omega) only [go_sem, simprocAttr, Blk.men, Blk.keysIn])|exact qM rfl rfl rfl|(refine qG rfl ?_)|(refine qH rfl ?_)|(refine qI rfl ?_ ?_<;>intro hc<;>(try simp only [go_sem] at hc))|(refine qJ ?_ ?_<;>intro hc<;>(try simp only [hc])<;>(try simp only [go_sem] at hc)))
 refine retS_of rfl ?_ rfl; simp only [oneD, St.op, get, Nat.reduceEqDiff, ↓reduceIte, Option.getD_some, bD, dI]
 rw [idxI_any]
def wthn (lo hi : Int) (l : List Int) : Bool := !(l.any fun n => decide (n < lo) || decide (hi < n))
theorem wthn_yes {lo hi : Int} {l : List Int} (h : ∀ v ∈ l, lo ≤ v ∧ v ≤ hi) : wthn lo hi l = true := by
 simp only [wthn, Bool.not_eq_true', List.any_eq_false, Bool.or_eq_true, decide_eq_true_eq]
 intro v hv
 have := h v hv
 omega
def spanOk (lo hi least most : Int) : Bool := wthn least most [lo, hi] && decide (lo ≤ hi)
end Go.Dw.Seat.Pa
end
section
set_option linter.unusedSimpArgs false
set_option maxRecDepth 100000
namespace Go.Dw.Seat.Pa
open Go Go.Dw Go.IntWalk
structure PBs where
 lg : Int
 wd : Int
 hi : Int
 ov : Int
 top : Int
 load : Int
structure PBx where
 lg : Int
 wd : Int
 hi : Int
 wl : Int
 wh : Int
 sl : Int
 sh : Int
structure PPl where
 x : Int
 y : Int
 t : Bool
deriving DecidableEq
structure PBs.ok (p : PBs) : Prop where
 lg : 1 ≤ p.lg ∧ p.lg ≤ 120
 wd : 1 ≤ p.wd ∧ p.wd ≤ 120
 hi : 0 ≤ p.hi ∧ p.hi ≤ 400
 top : 0 ≤ p.top ∧ p.top ≤ 400
 ov : 0 ≤ p.ov ∧ p.ov ≤ 10
 load : 0 ≤ p.load ∧ p.load ≤ 5000000
structure PBx.ok (b : PBx) : Prop where
 lg : 10 ≤ b.lg ∧ b.lg ≤ 100
 wd : 10 ≤ b.wd ∧ b.wd ≤ 100
 hi : 10 ≤ b.hi ∧ b.hi ≤ 100
 w : 0 ≤ b.wl ∧ b.wl ≤ b.wh ∧ b.wh ≤ 5000000
 s : 0 ≤ b.sl ∧ b.sl ≤ b.sh ∧ b.sh ≤ 20000000
def rmX (p : PBs) : Int := p.lg + 2 * p.ov
def rmY (p : PBs) : Int := p.wd + 2 * p.ov
def sdX (b : PBx) (q : PPl) : Int := if q.t then b.wd else b.lg
def sdY (b : PBx) (q : PPl) : Int := if q.t then b.lg else b.wd
def ovI (x a y c : Int) : Int := max 0 (min (x + a) (y + c) - max x y)
def comI (b : PBx) (q r : PPl) : Int := ovI q.x (sdX b q) r.x (sdX b r) * ovI q.y (sdY b q) r.y (sdY b r)
structure Lies (p : PBs) (b : PBx) (l : List PPl) : Prop where
 inn : ∀ q ∈ l, q.x + sdX b q ≤ rmX p ∧ q.y + sdY b q ≤ rmY p
 off : l.Pairwise fun q r => comI b r q ≤ 0
end Go.Dw.Seat.Pa
end
section
set_option linter.unusedSimpArgs false
set_option maxRecDepth 100000
namespace Go.Dw.Seat.Pa
open Go Go.Dw Go.Proofs Go.IntWalk
def eP (q : PPl) : List C := [.v (.int .i64 q.x), .v (.int .i64 q.y), .v (.bool q.t)]
theorem eP_nb (q : PPl) : C.nbs (eP q) = true := rfl
attribute [go_sem] eP
def eA (b : PBx) (q : PPl) : List C := [.v (.int .i64 q.x), .v (.int .i64 q.y), .v (.int .i64 (q.x + sdX b q)), .v (.int .i64 (q.y + sdY b q))]
attribute [go_sem] eA
end Go.Dw.Seat.Pa
end
section
set_option linter.unusedSimpArgs false
set_option maxRecDepth 100000
namespace Go.Dw.Seat.Pa
open Go Go.Dw Go.Proofs Go.IntWalk
def eLs (l : List PPl) : List C := [.sl false 3 (rows eP l)]
attribute [go_sem] eLs
end Go.Dw.Seat.Pa
end
section
set_option linter.unusedSimpArgs false
set_option maxRecDepth 100000
namespace Go.Dw.Seat.Pa
open Go Go.Dw Go.Proofs Go.IntWalk
structure PRs where
 on : List Int
 sh : Int
def eR (r : PRs) : List C := [.sl false 1 (rows eI r.on), .v (.int .i64 r.sh)]
attribute [go_sem] eR
abbrev rsD (r : PRs) : D := .agg [dIs false r.on, dI r.sh]
theorem rowC_snocI (l : List Int) (x : Int) : rowC (rows eI l) ++ [[D.c (.v (.int .i64 x))]] = rowC (rows eI (l ++ [x])) := by simp [rowC, rows, eI]
def enR (r : PRs) : List D := [rsD r]
attribute [go_sem] enR
end Go.Dw.Seat.Pa
end
section
set_option linter.unusedSimpArgs false
set_option maxRecDepth 100000
namespace Go.Dw.Seat.Pa
open Go Go.Dw Go.IntWalk
structure PLy where
 lg : Int
 fr : Int
 bk : Int
 fm : Int
 bm : Int
structure PIt where
 lg : Int
 wl : Int
 wh : Int
structure PLy.ok (l : PLy) : Prop where
 lg : 1 ≤ l.lg ∧ l.lg ≤ 2000
 ax : (0 ≤ l.fr ∧ l.fr < l.bk) ∧ l.bk ≤ l.lg
 fm : 0 ≤ l.fm ∧ l.fm ≤ 40000000
 bm : 0 ≤ l.bm ∧ l.bm ≤ 40000000
structure PIt.ok (x : PIt) : Prop where
 lg : 1 ≤ x.lg ∧ x.lg ≤ 2000
 w : 0 ≤ x.wl ∧ x.wl ≤ x.wh ∧ x.wh ≤ 5000000
def cF (l : PLy) (m : Int) : Int := 2 * l.bk - m
end Go.Dw.Seat.Pa
end
section
set_option linter.unusedSimpArgs false
set_option maxRecDepth 100000
namespace Go.Dw.Seat.Pa
open Go Go.Dw Go.Proofs Go.IntWalk
def eIt (x : PIt) : List C := [.v (.int .i64 x.lg), .v (.int .i64 x.wl), .v (.int .i64 x.wh)]
attribute [go_sem] eIt
end Go.Dw.Seat.Pa
end
section
set_option linter.unusedSimpArgs false
set_option maxRecDepth 100000
namespace Go.Dw.Seat.Pa
open Go Go.Dw Go.Proofs Go.IntWalk
def inI (n lo hi : Int) : Bool := decide (lo ≤ n) && decide (n ≤ hi)
end Go.Dw.Seat.Pa
end
section
set_option linter.unusedSimpArgs false
set_option maxRecDepth 100000
namespace Go.Dw.Seat.Pa
open Go Go.Dw Go.Proofs Go.IntWalk
theorem crW1 (n lo hi : Int) (p q : Bool) : DCall Try.prog 116 [dI n, .c (.ro p [.v (.int .i64 lo)] 0), .c (.ro q [.v (.int .i64 hi)] 0)] [] (bD (decide (n < lo) || decide (hi < n))) [] := by
 refine DCall.of Try.func116 sf116 hb116 (Nat.le_of_ble_eq_true rfl) (okRes_nil fun _ => rfl) ?_; simp only [s116, idxs, Nat.reduceAdd]
 repeat' (first|(with_reducible first|apply qA|apply qB|apply qC|apply qD|apply qE|apply qF)|(simp (disch:=omega) only [go_sem, simprocAttr, Blk.men, Blk.keysIn])|exact qM rfl rfl rfl|(refine qG rfl ?_)|(refine qH rfl ?_)|(refine qI rfl ?_ ?_<;>intro hc<;>(try simp only [go_sem] at hc))|(refine qJ ?_ ?_<;>intro hc<;>(try simp only [hc])<;>(try simp only [go_sem] at hc)))
theorem crWithin (b : Bool) (lo hi : Int) (l : List Int) (hl : l.length ≤ 2 ^ 36) : DCall Try.prog 69 [dI lo, dI hi, dIs b l] [] (bD (wthn lo hi l)) [] := by
 refine DCall.of Try.func69 sf69 hb69 (Nat.le_of_ble_eq_true rfl) (okRes_nil fun _ => rfl) ?_; simp only [s69, idxs, Nat.reduceAdd]
 repeat' (first|(with_reducible first|apply qA|apply qB|apply qC|apply qD|apply qE|apply qF)|(simp (disch:=omega) only [go_sem, simprocAttr, Blk.men, Blk.keysIn])|exact qM rfl rfl rfl|(refine qG rfl ?_)|(refine qH rfl ?_)|(refine qI rfl ?_ ?_<;>intro hc<;>(try simp only [go_sem] at hc))|(refine qJ ?_ ?_<;>intro hc<;>(try simp only [hc])<;>(try simp only [go_sem] at hc)))
 (refine call_c (plAnyI b l hl 116 [] [.ro true [.v (.int .i64 lo)] 0, .ro true [.v (.int .i64 hi)] 0] (fun n => decide (n < lo) || decide (hi < n)) (fun x _ => crW1 x lo hi true true)) (by decide) ?_; simp (disch:=omega) only [go_sem,simprocAttr,Blk.men,Blk.keysIn])
 repeat' (first|(with_reducible first|apply qA|apply qB|apply qC|apply qD|apply qE|apply qF)|(simp (disch:=omega) only [go_sem, simprocAttr, Blk.men, Blk.keysIn])|exact qM rfl rfl rfl|(refine qG rfl ?_)|(refine qH rfl ?_)|(refine qI rfl ?_ ?_<;>intro hc<;>(try simp only [go_sem] at hc))|(refine qJ ?_ ?_<;>intro hc<;>(try simp only [hc])<;>(try simp only [go_sem] at hc)))
theorem spanOk_yes {lo hi least most : Int} (h : least ≤ lo ∧ lo ≤ hi ∧ hi ≤ most) : spanOk lo hi least most = true := by
 unfold spanOk
 rw [wthn_yes (by simp; omega), decide_eq_true h.2.1]; rfl
theorem crSpanG (lo hi least most : Int) : DCall Try.prog 68 [.agg [dI lo, dI hi], dI least, dI most] [] (bD (spanOk lo hi least most)) [] := by
 have h1 := crWithin true least most [lo, hi] (by simp)
 unfold spanOk
 cases h : wthn least most [lo, hi] <;> rw [h] at h1 <;> simp only [Bool.true_and, Bool.false_and]
 ·refine DCall.of Try.func68 sf68 hb68 (Nat.le_of_ble_eq_true rfl) (okRes_nil fun _ => rfl) ?_; simp only [s68, idxs, Nat.reduceAdd]
  repeat' (first|(with_reducible first|apply qA|apply qB|apply qC|apply qD|apply qE|apply qF)|(simp (disch:=omega) only [go_sem, simprocAttr, Blk.men, Blk.keysIn])|exact qM rfl rfl rfl|(refine qG rfl ?_)|(refine qK (h1) (by decide) ?_)|(refine qH rfl ?_)|(refine qI rfl ?_ ?_<;>intro hc<;>(try simp only [go_sem] at hc))|(refine qJ ?_ ?_<;>intro hc<;>(try simp only [hc])<;>(try simp only [go_sem] at hc)))
 ·refine DCall.of Try.func68 sf68 hb68 (Nat.le_of_ble_eq_true rfl) (okRes_nil fun _ => rfl) ?_; simp only [s68, idxs, Nat.reduceAdd]
  repeat' (first|(with_reducible first|apply qA|apply qB|apply qC|apply qD|apply qE|apply qF)|(simp (disch:=omega) only [go_sem, simprocAttr, Blk.men, Blk.keysIn])|exact qM rfl rfl rfl|(refine qG rfl ?_)|(refine qK (h1) (by decide) ?_)|(refine qH rfl ?_)|(refine qI rfl ?_ ?_<;>intro hc<;>(try simp only [go_sem] at hc))|(refine qJ ?_ ?_<;>intro hc<;>(try simp only [hc])<;>(try simp only [go_sem] at hc)))
theorem mulB0 {a b A B : Int} (ha : 0 ≤ a ∧ a ≤ A) (hb : 0 ≤ b ∧ b ≤ B) : 0 ≤ a * b ∧ a * b ≤ A * B := by
 refine ⟨Int.mul_nonneg ha.1 hb.1, ?_⟩
 exact Int.le_trans (Int.mul_le_mul_of_nonneg_right ha.2 hb.1) (Int.mul_le_mul_of_nonneg_left hb.2 (Int.le_trans ha.1 ha.2))
theorem crIn (b : Bool) (lo hi : Int) (l : List Int) (hl : l.length ≤ 2 ^ 36) (h : ∀ v ∈ l, lo ≤ v ∧ v ≤ hi) : DCall Try.prog 69 [dI lo, dI hi, dIs b l] [] (bD true) [] := by
 have := crWithin b lo hi l hl
 rwa [wthn_yes h] at this
end Go.Dw.Seat.Pa
end
section
set_option linter.unusedSimpArgs false
set_option maxRecDepth 100000
namespace Go.Dw.Seat.Pa
open Go Go.Dw Go.Proofs Go.IntWalk
structure Lod where
 sl : Int
 sh : Int
 wl : Int
 wh : Int
def eLd (b : Lod) : List C := [.v (.int .i64 b.sl), .v (.int .i64 b.sh), .v (.int .i64 b.wl), .v (.int .i64 b.wh)]
theorem eLd_nb (v : Lod) : C.nbs (eLd v) = true := rfl
def eK (t : Int × Int) : List C := [.v (.int .i64 t.1), .v (.int .i64 t.2)]
theorem eK_nb (v : Int × Int) : C.nbs (eK v) = true := rfl
attribute [go_sem] eLd eK
structure Lod.ok (b : Lod) : Prop where
 strong : 0 ≤ b.sl ∧ b.sl ≤ b.sh ∧ b.sh ≤ 20000000
 weight : 0 ≤ b.wl ∧ b.wl ≤ b.wh ∧ b.wh ≤ 100000
def lodOk (b : Lod) : Bool := spanOk b.sl b.sh 0 20000000 && spanOk b.wl b.wh 0 100000
theorem lodOk_yes {b : Lod} (h : b.ok) : lodOk b = true := by
 simp only [lodOk, spanOk_yes h.strong, spanOk_yes h.weight, Bool.and_self]
theorem crBoxG (b : Lod) : DCall Try.prog 119 [.agg ((eLd b).map D.c)] [] (bD (!lodOk b)) [] := by
 have h1 := crSpanG b.sl b.sh 0 20000000
 have h2 := crSpanG b.wl b.wh 0 100000
 unfold lodOk
 cases e1 : spanOk b.sl b.sh 0 20000000 <;> rw [e1] at h1 <;> simp only [Bool.true_and, Bool.false_and, Bool.not_false]
 ·refine DCall.of Try.func119 sf119 hb119 (Nat.le_of_ble_eq_true rfl) (okRes_nil fun _ => rfl) ?_; simp only [s119, idxs, Nat.reduceAdd]
  repeat' (first|(with_reducible first|apply qA|apply qB|apply qC|apply qD|apply qE|apply qF)|(simp (disch:=omega) only [go_sem, simprocAttr, Blk.men, Blk.keysIn, rF, rG])|exact qM rfl rfl rfl|(refine qG rfl ?_)|(refine qK (h1) (by decide) ?_)|(refine qH rfl ?_)|(refine qI rfl ?_ ?_<;>intro hc<;>(try simp only [go_sem] at hc))|(refine qJ ?_ ?_<;>intro hc<;>(try simp only [hc])<;>(try simp only [go_sem] at hc)))
 ·refine DCall.of Try.func119 sf119 hb119 (Nat.le_of_ble_eq_true rfl) (okRes_nil fun _ => rfl) ?_; simp only [s119, idxs, Nat.reduceAdd]
  repeat' (first|(with_reducible first|apply qA|apply qB|apply qC|apply qD|apply qE|apply qF)|(simp (disch:=omega) only [go_sem, simprocAttr, Blk.men, Blk.keysIn, rF, rG])|exact qM rfl rfl rfl|(refine qG rfl ?_)|(refine qK (h1) (by decide) ?_)|(refine qK (h2) (by decide) ?_)|(refine qH rfl ?_)|(refine qI rfl ?_ ?_<;>intro hc<;>(try simp only [go_sem] at hc))|(refine qJ ?_ ?_<;>intro hc<;>(try simp only [hc])<;>(try simp only [go_sem] at hc)))
theorem crLIdx (b : Bool) (l : List (Lod)) (hl : l.length ≤ 2 ^ 36) (g : FuncId) (fs caps : List C) (p : Lod → Bool) (hp : ∀ x ∈ l, DCall Try.prog g (fs.map D.c ++ [.agg ((eLd x).map D.c)] ++ caps.map D.c) [] (bD (p x)) []) : DCall Try.prog 144 [.c (.sl b 4 (rows eLd l)), .c (.fn (.func g) fs caps)] [] (dI (idxI p l)) [] := by
 refine DCall.of Try.func144 sf144 hb144 (Nat.le_of_ble_eq_true rfl) (okRes_nil fun _ => rfl) ?_; simp only [s144, idxs, Nat.reduceAdd]
 repeat' (first|(with_reducible first|apply qA|apply qB|apply qC|apply qD|apply qE|apply qF)|(simp (disch:=omega) only [go_sem, simprocAttr, Blk.men, Blk.keysIn])|exact qM rfl rfl rfl|(refine qG rfl ?_)|(refine qH rfl ?_)|(refine qI rfl ?_ ?_<;>intro hc<;>(try simp only [go_sem] at hc))|(refine qJ ?_ ?_<;>intro hc<;>(try simp only [hc])<;>(try simp only [go_sem] at hc)))
 refine DW.loop (ι := { i : Nat // i ≤ l.length ∧ ∀ j u, j < i → l[j]? = some u → p u = false }) (fun i => ⟨19, [(8, dI i.1), (7, dI l.length), (1, .c (.fn (.func g) fs caps)), (0, .c (.sl b 4 (rows eLd l)))], []⟩) (fun i => l.length - i.1) ⟨0, Nat.zero_le _, fun j u h => by omega⟩ ?_ ?_
 ·refine Ent.to ?_ ?_ <;> simp (disch:=omega) only [qR,qS,qTw,qU,get,Nat.reduceEqDiff,↓reduceIte,qV,qW,qX,qY,qZ,and_self,dI,i64_in,and_true,true_and,rA,rB,rC,rD]
 rintro ⟨i, hi, hij⟩
 rcases at_or l i hi with ⟨v, hv, hlt, hd⟩ | ⟨he, hd⟩
 ·have hcall := hp v (List.mem_of_getElem? hv)
  repeat' (first|(with_reducible first|apply qA|apply qB|apply qC|apply qD|apply qE|apply qF)|(simp (disch:=omega) only [go_sem, simprocAttr, Blk.men, Blk.keysIn, hd, hv, closeDs_fn, rF, rG])|exact qM rfl rfl rfl|(refine qG rfl ?_)|(refine qH rfl ?_)|(refine qI rfl ?_ ?_<;>intro hc<;>(try simp only [go_sem] at hc))|(refine qJ ?_ ?_<;>intro hc<;>(try simp only [hc])<;>(try simp only [go_sem] at hc)))
  refine call_c hcall (by decide) ?_
  simp (disch:=omega) only [go_sem,simprocAttr,Blk.men,Blk.keysIn]
  refine DW.cond rfl ?_ ?_ <;> intro hc
  ·repeat' (first|(with_reducible first|apply qA|apply qB|apply qC|apply qD|apply qE|apply qF)|(simp (disch:=omega) only [go_sem, simprocAttr, Blk.men, Blk.keysIn])|exact qM rfl rfl rfl|(refine qG rfl ?_)|(refine qH rfl ?_)|(refine qI rfl ?_ ?_<;>intro hc<;>(try simp only [go_sem] at hc))|(refine qJ ?_ ?_<;>intro hc<;>(try simp only [hc])<;>(try simp only [go_sem] at hc)))
   refine retS_of rfl ?_ rfl; simp only [oneD, St.op, get, Nat.reduceEqDiff, ↓reduceIte, Option.getD_some, bD, dI]
   simp only [idxI, idxOf_some hij hv hc]
  ·repeat' (first|(with_reducible first|apply qA|apply qB|apply qC|apply qD|apply qE|apply qF)|(simp (disch:=omega) only [go_sem, simprocAttr, Blk.men, Blk.keysIn])|exact qM rfl rfl rfl|(refine qG rfl ?_)|(refine qH rfl ?_)|(refine qI rfl ?_ ?_<;>intro hc<;>(try simp only [go_sem] at hc))|(refine qJ ?_ ?_<;>intro hc<;>(try simp only [hc])<;>(try simp only [go_sem] at hc)))
   refine ⟨⟨i + 1, by omega, fun j u hj hu => by
    rcases Nat.lt_or_ge j i with h | h
    ·exact hij j u h hu
    ·have : j = i := by omega
     subst this
     rw [hv] at hu; cases hu; exact hc⟩, ?_, Ent.to ?_ ?_⟩ <;> first | (show _ < _; (try simp only); omega) | (simp (disch:=omega) only [qR,qS,qTw,qU,get,Nat.reduceEqDiff,↓reduceIte,qV,qW,qX,qY,qZ,and_self,dI,i64_in,and_true,true_and,rA,rB,rC,rD])
 ·repeat' (first|(with_reducible first|apply qA|apply qB|apply qC|apply qD|apply qE|apply qF)|(simp (disch:=omega) only [go_sem, simprocAttr, Blk.men, Blk.keysIn, hd])|exact qM rfl rfl rfl|(refine qG rfl ?_)|(refine qH rfl ?_)|(refine qI rfl ?_ ?_<;>intro hc<;>(try simp only [go_sem] at hc))|(refine qJ ?_ ?_<;>intro hc<;>(try simp only [hc])<;>(try simp only [go_sem] at hc)))
  refine retS_of rfl ?_ rfl; simp only [oneD, St.op, get, Nat.reduceEqDiff, ↓reduceIte, Option.getD_some, bD, dI]
  simp only [idxI, idxOf_none (he ▸ hij)]
theorem crLCon (b : Bool) (l : List (Lod)) (hl : l.length ≤ 2 ^ 36) (g : FuncId) (fs caps : List C) (p : Lod → Bool) (hp : ∀ x ∈ l, DCall Try.prog g (fs.map D.c ++ [.agg ((eLd x).map D.c)] ++ caps.map D.c) [] (bD (p x)) []) : DCall Try.prog 120 [.c (.sl b 4 (rows eLd l)), .c (.fn (.func g) fs caps)] [] (bD (l.any p)) [] := by
 refine DCall.of Try.func120 sf120 hb120 (Nat.le_of_ble_eq_true rfl) (okRes_nil fun _ => rfl) ?_; simp only [s120, idxs, Nat.reduceAdd]
 repeat' (first|(with_reducible first|apply qA|apply qB|apply qC|apply qD|apply qE|apply qF)|(simp (disch:=omega) only [go_sem, simprocAttr, Blk.men, Blk.keysIn])|exact qM rfl rfl rfl|(refine qG rfl ?_)|(refine qH rfl ?_)|(refine qI rfl ?_ ?_<;>intro hc<;>(try simp only [go_sem] at hc))|(refine qJ ?_ ?_<;>intro hc<;>(try simp only [hc])<;>(try simp only [go_sem] at hc)))
 refine call_c (crLIdx b l hl g fs caps p hp) (by decide) ?_
 repeat' (first|(with_reducible first|apply qA|apply qB|apply qC|apply qD|apply qE|apply qF)|(simp (disch:=omega) only [go_sem, simprocAttr, Blk.men, Blk.keysIn])|exact qM rfl rfl rfl|(refine qG rfl ?_)|(refine qH rfl ?_)|(refine qI rfl ?_ ?_<;>intro hc<;>(try simp only [go_sem] at hc))|(refine qJ ?_ ?_<;>intro hc<;>(try simp only [hc])<;>(try simp only [go_sem] at hc)))
 refine retS_of rfl ?_ rfl; simp only [oneD, St.op, get, Nat.reduceEqDiff, ↓reduceIte, Option.getD_some, bD, dI]
 rw [idxI_any]
def boxesE (l : List Lod) (most : Int) : Int := if most < l.length then 5 else if l.any (fun b => !lodOk b) then 2 else 0
theorem crBoxesG (b : Bool) (l : List Lod) (most : Int) (hl : l.length ≤ 2 ^ 36) : DCall Try.prog 72 [.c (.sl b 4 (rows eLd l)), dI most] [] (dI (boxesE l most)) [] := by
 have h1 := crLCon b l hl 119 [] [] (fun b => !lodOk b) (fun x _ => by simpa using crBoxG x)
 unfold boxesE
 by_cases hm : most < (l.length : Int)
 ·have hd : decide (most < (l.length : Int)) = true := decide_eq_true hm
  rw [if_pos hm]
  refine DCall.of Try.func72 sf72 hb72 (Nat.le_of_ble_eq_true rfl) (okRes_nil fun _ => rfl) ?_; simp only [s72, idxs, Nat.reduceAdd]
  repeat' (first|(with_reducible first|apply qA|apply qB|apply qC|apply qD|apply qE|apply qF)|(simp (disch:=omega) only [go_sem, simprocAttr, Blk.men, Blk.keysIn, hd])|exact qM rfl rfl rfl|(refine qG rfl ?_)|(refine qH rfl ?_)|(refine qI rfl ?_ ?_<;>intro hc<;>(try simp only [go_sem] at hc))|(refine qJ ?_ ?_<;>intro hc<;>(try simp only [hc])<;>(try simp only [go_sem] at hc)))
 have hd : decide (most < (l.length : Int)) = false := decide_eq_false hm
 rw [if_neg hm]
 cases e : l.any (fun b => !lodOk b) <;> rw [e] at h1
 ·rw [if_neg (by decide)]
  refine DCall.of Try.func72 sf72 hb72 (Nat.le_of_ble_eq_true rfl) (okRes_nil fun _ => rfl) ?_; simp only [s72, idxs, Nat.reduceAdd]
  repeat' (first|(with_reducible first|apply qA|apply qB|apply qC|apply qD|apply qE|apply qF)|(simp (disch:=omega) only [go_sem, simprocAttr, Blk.men, Blk.keysIn, hd])|exact qM rfl rfl rfl|(refine qG rfl ?_)|(refine qK (h1) (by decide) ?_)|(refine qH rfl ?_)|(refine qI rfl ?_ ?_<;>intro hc<;>(try simp only [go_sem] at hc))|(refine qJ ?_ ?_<;>intro hc<;>(try simp only [hc])<;>(try simp only [go_sem] at hc)))
 ·rw [if_pos rfl]
  refine DCall.of Try.func72 sf72 hb72 (Nat.le_of_ble_eq_true rfl) (okRes_nil fun _ => rfl) ?_; simp only [s72, idxs, Nat.reduceAdd]
  repeat' (first|(with_reducible first|apply qA|apply qB|apply qC|apply qD|apply qE|apply qF)|(simp (disch:=omega) only [go_sem, simprocAttr, Blk.men, Blk.keysIn, hd])|exact qM rfl rfl rfl|(refine qG rfl ?_)|(refine qK (h1) (by decide) ?_)|(refine qH rfl ?_)|(refine qI rfl ?_ ?_<;>intro hc<;>(try simp only [go_sem] at hc))|(refine qJ ?_ ?_<;>intro hc<;>(try simp only [hc])<;>(try simp only [go_sem] at hc)))
theorem boxesE_yes {l : List Lod} {most : Int} (h1 : (l.length : Int) ≤ most) (h : ∀ x ∈ l, x.ok) : boxesE l most = 0 := by
 unfold boxesE
 rw [if_neg (by omega), if_neg]
 simp only [Bool.not_eq_true, List.any_eq_false, Bool.not_eq_true', Bool.not_eq_false]
 exact fun x hx => lodOk_yes (h x hx)
theorem crBoxes (b : Bool) (l : List Lod) (most : Int) (hl : l.length ≤ 1000) (hm : (l.length : Int) ≤ most) (h : ∀ x ∈ l, x.ok) : DCall Try.prog 72 [.c (.sl b 4 (rows eLd l)), dI most] [] (dI 0) [] := by
 have := crBoxesG b l most (by omega)
 rwa [boxesE_yes hm h] at this
structure TabF (l : List (Int × Int)) : Prop where
 len : 1 ≤ l.length ∧ l.length ≤ 10
 first : ∀ u, l[0]? = some u → u.1 = 0
 mem : ∀ s ∈ l, (0 ≤ s.1 ∧ s.1 ≤ 10000) ∧ (0 ≤ s.2 ∧ s.2 ≤ 1000)
 step : ∀ (i : Nat) (u v : Int × Int), l[i]? = some u → l[i + 1]? = some v → u.1 < v.1 ∧ v.2 ≤ u.2
structure TabOk (l : List (Int × Int)) (days : Int) : Prop extends TabF l where
 days : 0 ≤ days ∧ days ≤ 10000
theorem crTable (l : List (Int × Int)) (days : Int) (h : TabOk l days) : DCall Try.prog 73 [.c (.sl false 2 (rows eK l)), dI days] [] (.tup [.agg [.c (.sl false 2 (rows eK l)), dI days], dI 0]) [] := by
 have hlen := h.len
 have h1 := crIn true 1 10 [(l.length : Int)] (by simp) (by simp; omega)
 have h2 := crIn true 0 10000 [days] (by simp) (by simpa using h.days)
 obtain ⟨f, hf⟩ := getE (l := l) (i := 0) (by omega)
 have hf0 := h.first f hf
 have hfe : (f.1 != 0) = false := by rw [hf0]; rfl
 refine DCall.of Try.func73 sf73 hb73 (Nat.le_of_ble_eq_true rfl) (okRes_nil fun _ => rfl) ?_; simp only [s73, idxs, Nat.reduceAdd]
 repeat' (first|(with_reducible first|apply qA|apply qB|apply qC|apply qD|apply qE|apply qF)|(refine qL rfl (WF.of ?_) ?_; first|rfl|skip)|(simp (disch:=omega) only [go_sem, simprocAttr, Blk.men, Blk.keysIn, hf, hfe, rF, rG])|exact qM rfl rfl rfl|(refine qG rfl ?_)|(refine qK (h1) (by decide) ?_)|(refine qH rfl ?_)|(refine qI rfl ?_ ?_<;>intro hc<;>(try simp only [go_sem] at hc))|(refine qJ ?_ ?_<;>intro hc<;>(try simp only [hc])<;>(try simp only [go_sem] at hc)))
 refine DW.loop (ι := { i : Nat // i ≤ l.length }) (fun i => ⟨76, [(23, dI i.1), (22, dI l.length), (21, .c (.sl false 2 (rows eK l))), (4, .box 4 0), (0, .c (.sl false 2 (rows eK l))), (1, dI days)], [(4, .box [.c (.v (.slice none 0 0)), dI 0])]⟩) (fun i => l.length - i.1) ⟨0, Nat.zero_le _⟩ ?_ ?_
 ·refine Ent.to ?_ ?_ <;> simp (disch:=omega) only [qR,qS,qTw,qU,get,Nat.reduceEqDiff,↓reduceIte,qV,qW,qX,qY,qZ,and_self,dI,i64_in,and_true,true_and,rA,rB,rC,rD]
 rintro ⟨i, hi⟩
 rcases at_or l i hi with ⟨v, hv, hlt, hd⟩ | ⟨he, hd⟩
 ·have hm := h.mem v (List.mem_of_getElem? hv)
  have h3 := crIn true 0 10000 [v.1] (by simp) (by simpa using hm.1)
  have h4 := crIn true 0 1000 [v.2] (by simp) (by simpa using hm.2)
  rcases i with _ | i
  ·have hd0 : decide ((0 : Int) < ((0 : Nat) : Int)) = false := by decide
   have hd' : decide ((0 : Int) < (l.length : Int)) = true := hd
   repeat' (first|(with_reducible first|apply qA|apply qB|apply qC|apply qD|apply qE|apply qF)|(refine qL rfl (WF.of ?_) ?_; first|rfl|skip)|(simp (disch:=omega) only [go_sem, simprocAttr, Blk.men, Blk.keysIn, hd', hv, hd0, rF, rG])|exact qM rfl rfl rfl|(refine qG rfl ?_)|(refine qK (h3) (by decide) ?_)|(refine qK (h4) (by decide) ?_)|(refine qH rfl ?_)|(refine qI rfl ?_ ?_<;>intro hc<;>(try simp only [go_sem] at hc))|(refine qJ ?_ ?_<;>intro hc<;>(try simp only [hc])<;>(try simp only [go_sem] at hc)))
   refine ⟨⟨1, hlt⟩, ?_, Ent.to ?_ ?_⟩ <;> first | (show _ < _; (try simp only); omega) | (simp (disch:=omega) only [qR,qS,qTw,qU,get,Nat.reduceEqDiff,↓reduceIte,qV,qW,qX,qY,qZ,and_self,dI,i64_in,and_true,true_and,rA,rB,rC,rD])
  ·have hd0 : decide ((0 : Int) < ((i + 1 : Nat) : Int)) = true := by rw [decide_eq_true_eq]; omega
   obtain ⟨u, hu⟩ := getE (l := l) (i := i) (by omega)
   have hs := h.step i u v hu hv
   have e1 : ((i + 1 : Nat) : Int) - 1 = (i : Int) := by omega
   have d1 : decide (v.1 ≤ u.1) = false := by rw [decide_eq_false_iff_not]; omega
   have d2 : decide (u.2 < v.2) = false := by rw [decide_eq_false_iff_not]; omega
   repeat' (first|(with_reducible first|apply qA|apply qB|apply qC|apply qD|apply qE|apply qF)|(refine qL rfl (WF.of ?_) ?_; first|rfl|skip)|(simp (disch:=omega) only [go_sem, simprocAttr, Blk.men, Blk.keysIn, hd, hv, hd0, hu, e1, d1, d2, rF, rG])|exact qM rfl rfl rfl|(refine qG rfl ?_)|(refine qK (h3) (by decide) ?_)|(refine qK (h4) (by decide) ?_)|(refine qH rfl ?_)|(refine qI rfl ?_ ?_<;>intro hc<;>(try simp only [go_sem] at hc))|(refine qJ ?_ ?_<;>intro hc<;>(try simp only [hc])<;>(try simp only [go_sem] at hc)))
   refine ⟨⟨i + 1 + 1, hlt⟩, ?_, Ent.to ?_ ?_⟩ <;> first | (show _ < _; (try simp only); omega) | (simp (disch:=omega) only [qR,qS,qTw,qU,get,Nat.reduceEqDiff,↓reduceIte,qV,qW,qX,qY,qZ,and_self,dI,i64_in,and_true,true_and,rA,rB,rC,rD])
 ·repeat' (first|(with_reducible first|apply qA|apply qB|apply qC|apply qD|apply qE|apply qF)|(refine qL rfl (WF.of ?_) ?_; first|rfl|skip)|(simp (disch:=omega) only [go_sem, simprocAttr, Blk.men, Blk.keysIn, hd])|exact qM rfl rfl rfl|(refine qG rfl ?_)|(refine qK (h2) (by decide) ?_)|(refine qH rfl ?_)|(refine qI rfl ?_ ?_<;>intro hc<;>(try simp only [go_sem] at hc))|(refine qJ ?_ ?_<;>intro hc<;>(try simp only [hc])<;>(try simp only [go_sem] at hc)))
  refine retS_wk rfl ?_ (by simp only [Blk.nb, rowC_nb, D.nb, D.nbs, C.nb, C.nbs, C.nbss, rows_nb eI_nb, Bool.and_true, Bool.not_false, Bool.and_self, bD, dI, iD, rows_nb eK_nb, rows_nb eLd_nb]); exact .tup (.cons (.refl _) (.cons (.refl _) .nil))
def lastI (days : Int) (l : List (Int × Int)) (k : Int) : Int := l.foldl (fun k s => if s.1 ≤ days then s.2 else k) k
theorem lastI_b (days : Int) : ∀ (l : List (Int × Int)) (k : Int), (∀ s ∈ l, 0 ≤ s.2 ∧ s.2 ≤ 1000) → (0 ≤ k ∧ k ≤ 1000) → 0 ≤ lastI days l k ∧ lastI days l k ≤ 1000
 | [], _, _, hk => hk
 | s :: t, k, h, hk => by
  refine lastI_b days t _ (fun x hx => h x (by simp [hx])) ?_
  have := h s (by simp)
  show 0 ≤ (if s.1 ≤ days then s.2 else k) ∧ (if s.1 ≤ days then s.2 else k) ≤ 1000
  split <;> omega
theorem lastI_take (days : Int) {l : List (Int × Int)} {i : Nat} {v : Int × Int} (hv : l[i]? = some v) : lastI days (l.take (i + 1)) 0 = if v.1 ≤ days then v.2 else lastI days (l.take i) 0 := by
 rw [List.take_add_one, hv]
 simp only [lastI, Option.toList_some, List.foldl_append, List.foldl_cons, List.foldl_nil]
theorem tdiv_b {a b : Int} {A : Int} (ha : 0 ≤ a ∧ a ≤ A) (hb : 0 ≤ b) : 0 ≤ a.tdiv b ∧ a.tdiv b ≤ A := by
 rw [Int.tdiv_eq_ediv_of_nonneg ha.1]
 exact ⟨Int.ediv_nonneg ha.1 hb, Int.le_trans (Int.ediv_le_self b ha.1) ha.2⟩
theorem crLast (b : Bool) (l : List (Int × Int)) (days : Int) (hl : l.length ≤ 1000) : DCall Try.prog 75 [.agg [.c (.sl b 2 (rows eK l)), dI days]] [] (dI (lastI days l 0)) [] := by
 refine DCall.of Try.func75 sf75 hb75 (Nat.le_of_ble_eq_true rfl) (okRes_nil fun _ => rfl) ?_; simp only [s75, idxs, Nat.reduceAdd]
 repeat' (first|(with_reducible first|apply qA|apply qB|apply qC|apply qD|apply qE|apply qF)|(simp (disch:=omega) only [go_sem, simprocAttr, Blk.men, Blk.keysIn])|exact qM rfl rfl rfl|(refine qG rfl ?_)|(refine qH rfl ?_)|(refine qI rfl ?_ ?_<;>intro hc<;>(try simp only [go_sem] at hc))|(refine qJ ?_ ?_<;>intro hc<;>(try simp only [hc])<;>(try simp only [go_sem] at hc)))
 refine DW.loop (ι := { i : Nat // i ≤ l.length }) (fun i => ⟨21, [(8, dI i.1), (7, dI l.length), (6, .c (.sl b 2 (rows eK l))), (2, dI (lastI days (l.take i.1) 0)), (1, .box 1 0)], [(1, .box [.c (.sl b 2 (rows eK l)), dI days])]⟩) (fun i => l.length - i.1) ⟨0, Nat.zero_le _⟩ ?_ ?_
 ·refine Ent.to ?_ ?_ <;> simp (disch:=omega) only [qR,qS,qTw,qU,get,Nat.reduceEqDiff,↓reduceIte,qV,qW,qX,qY,qZ,and_self,dI,i64_in,and_true,true_and,rA,rB,rC,rD,lastI,List.take_zero,List.foldl_nil]
 rintro ⟨i, hi⟩
 rcases at_or l i hi with ⟨v, hv, hlt, hd⟩ | ⟨he, hd⟩
 ·have hnx := lastI_take days hv
  cases hc : decide (v.1 ≤ days) with
  | true =>
   rw [if_pos (of_decide_eq_true hc)] at hnx
   repeat' (first|(with_reducible first|apply qA|apply qB|apply qC|apply qD|apply qE|apply qF)|(simp (disch:=omega) only [go_sem, simprocAttr, Blk.men, Blk.keysIn, hd, hv, hc, rF, rG])|exact qM rfl rfl rfl|(refine qG rfl ?_)|(refine qH rfl ?_)|(refine qI rfl ?_ ?_<;>intro hc<;>(try simp only [go_sem] at hc))|(refine qJ ?_ ?_<;>intro hc<;>(try simp only [hc])<;>(try simp only [go_sem] at hc)))
   refine ⟨⟨i + 1, hlt⟩, ?_, Ent.to ?_ ?_⟩ <;> first | (show _ < _; (try simp only); omega) | (simp (disch:=omega) only [qR,qS,qTw,qU,get,Nat.reduceEqDiff,↓reduceIte,qV,qW,qX,qY,qZ,and_self,dI,i64_in,and_true,true_and,rA,rB,rC,rD, hnx])
  | false =>
   rw [if_neg (of_decide_eq_false hc)] at hnx
   repeat' (first|(with_reducible first|apply qA|apply qB|apply qC|apply qD|apply qE|apply qF)|(simp (disch:=omega) only [go_sem, simprocAttr, Blk.men, Blk.keysIn, hd, hv, hc, rF, rG])|exact qM rfl rfl rfl|(refine qG rfl ?_)|(refine qH rfl ?_)|(refine qI rfl ?_ ?_<;>intro hc<;>(try simp only [go_sem] at hc))|(refine qJ ?_ ?_<;>intro hc<;>(try simp only [hc])<;>(try simp only [go_sem] at hc)))
   refine ⟨⟨i + 1, hlt⟩, ?_, Ent.to ?_ ?_⟩ <;> first | (show _ < _; (try simp only); omega) | (simp (disch:=omega) only [qR,qS,qTw,qU,get,Nat.reduceEqDiff,↓reduceIte,qV,qW,qX,qY,qZ,and_self,dI,i64_in,and_true,true_and,rA,rB,rC,rD, hnx])
 ·repeat' (first|(with_reducible first|apply qA|apply qB|apply qC|apply qD|apply qE|apply qF)|(simp (disch:=omega) only [go_sem, simprocAttr, Blk.men, Blk.keysIn, hd])|exact qM rfl rfl rfl|(refine qG rfl ?_)|(refine qH rfl ?_)|(refine qI rfl ?_ ?_<;>intro hc<;>(try simp only [go_sem] at hc))|(refine qJ ?_ ?_<;>intro hc<;>(try simp only [hc])<;>(try simp only [go_sem] at hc)))
  refine retS_of rfl ?_ rfl; simp only [oneD, St.op, get, Nat.reduceEqDiff, ↓reduceIte, Option.getD_some, bD, dI]
  rw [he, List.take_length]
def bearsI (b : Lod) (k : Int) : Int := (b.sl * k).tdiv 1000
theorem crBears (b : Lod) (h : b.ok) (k : Int) (hk : 0 ≤ k ∧ k ≤ 1000) : DCall Try.prog 74 [.agg ((eLd b).map D.c), dI k] [] (dI (bearsI b k)) [] := by
 have hs := h.strong
 have hm := mulB0 (a := b.sl) (b := k) (A := 20000000) (B := 1000) (by omega) hk
 have hq := tdiv_b (b := 1000) (A := 20000000000) (a := b.sl * k) (by omega) (by decide)
 unfold bearsI
 refine DCall.of Try.func74 sf74 hb74 (Nat.le_of_ble_eq_true rfl) (okRes_nil fun _ => rfl) ?_; simp only [s74, idxs, Nat.reduceAdd]
 repeat' (first|(with_reducible first|apply qA|apply qB|apply qC|apply qD|apply qE|apply qF)|(simp (disch:=omega) only [go_sem, simprocAttr, Blk.men, Blk.keysIn, rF, rG])|exact qM rfl rfl rfl|(refine qG rfl ?_)|(refine qH rfl ?_)|(refine qI rfl ?_ ?_<;>intro hc<;>(try simp only [go_sem] at hc))|(refine qJ ?_ ?_<;>intro hc<;>(try simp only [hc])<;>(try simp only [go_sem] at hc)))
def highI (b : Lod) (l : List (Int × Int)) (days : Int) : Int := if b.wh = 0 then 50 else if 1 + (bearsI b (lastI days l 0)).tdiv b.wh < 50 then 1 + (bearsI b (lastI days l 0)).tdiv b.wh else 50
theorem crHigh (b : Lod) (h : b.ok) (l : List (Int × Int)) (days : Int) (ht : TabOk l days) : DCall Try.prog 38 [.agg ((eLd b).map D.c), .c (.sl false 2 (rows eK l)), dI days] [] (.tup [dI (highI b l days), dI 0]) [] := by
 have h1 := crBoxes true [b] 1 (by simp) (by simp) (by simpa using h)
 have h2 := crTable l days ht
 have h3 := crLast false l days (by have := ht.len; omega)
 have hk := lastI_b days l 0 (fun s hs => (ht.mem s hs).2) (by decide)
 have h4 := crBears b h (lastI days l 0) hk
 have hs := h.strong
 have hw := h.weight
 unfold highI
 have hbb : 0 ≤ bearsI b (lastI days l 0) ∧ bearsI b (lastI days l 0) ≤ 20000000000 := by
  have hm := mulB0 (a := b.sl) (b := lastI days l 0) (A := 20000000) (B := 1000) (by omega) hk
  exact tdiv_b (by omega) (by decide)
 generalize lastI days l 0 = k at *
 generalize bearsI b k = be at *
 by_cases h0 : b.wh = 0
 ·have he : (b.wh == 0) = true := by rw [h0]; rfl
  rw [if_pos h0]
  refine DCall.of Try.func38 sf38 hb38 (Nat.le_of_ble_eq_true rfl) (okRes_nil fun _ => rfl) ?_; simp only [s38, idxs, Nat.reduceAdd]
  repeat' (first|(with_reducible first|apply qA|apply qB|apply qC|apply qD|apply qE|apply qF)|(refine qL rfl (WF.of ?_) ?_; first|rfl|skip)|(simp (disch:=omega) only [go_sem, simprocAttr, Blk.men, Blk.keysIn, rF, rG, he])|exact qM rfl rfl rfl|(refine qG rfl ?_)|(refine qK (h1) (by decide) ?_)|(refine qK (h2) (by decide) ?_)|(refine qH rfl ?_)|(refine qI rfl ?_ ?_<;>intro hc<;>(try simp only [go_sem] at hc))|(refine qJ ?_ ?_<;>intro hc<;>(try simp only [hc])<;>(try simp only [go_sem] at hc)))
 ·have he : (b.wh == 0) = false := by rw [beq_eq_false_iff_ne]; exact h0
  have hz : (b.wh = 0) = False := eq_false h0
  have hq := tdiv_b (b := b.wh) hbb (by omega)
  rw [if_neg h0]
  refine DCall.of Try.func38 sf38 hb38 (Nat.le_of_ble_eq_true rfl) (okRes_nil fun _ => rfl) ?_; simp only [s38, idxs, Nat.reduceAdd]
  repeat' (first|(with_reducible first|apply qA|apply qB|apply qC|apply qD|apply qE|apply qF)|(refine qL rfl (WF.of ?_) ?_; first|rfl|skip)|(simp (disch:=omega) only [go_sem, simprocAttr, Blk.men, Blk.keysIn, rF, rG, he, hz])|exact qM rfl rfl rfl|(refine qG rfl ?_)|(refine qK (h1) (by decide) ?_)|(refine qK (h2) (by decide) ?_)|(refine qK (h3) (by decide) ?_)|(refine qK (h4) (by decide) ?_)|(refine qH rfl ?_)|(refine qI rfl ?_ ?_<;>intro hc<;>(try simp only [go_sem] at hc))|(refine qJ ?_ ?_<;>intro hc<;>(try simp only [hc])<;>(try simp only [go_sem] at hc)))
end Go.Dw.Seat.Pa
end
section
set_option linter.unusedSimpArgs false
set_option maxRecDepth 100000
namespace Go.Dw.Seat.Pa
open Go Go.Dw Go.Proofs Go.IntWalk
def sumL : List Lod → Int
 | [] => 0
 | b :: t => sumL t + b.wl
def sumH : List Lod → Int
 | [] => 0
 | b :: t => sumH t + b.wh
theorem sum_b : ∀ {l : List Lod}, (∀ b ∈ l, b.ok) → (0 ≤ sumL l ∧ sumL l ≤ 100000 * (l.length : Int)) ∧ 0 ≤ sumH l ∧ sumH l ≤ 100000 * (l.length : Int)
 | [], _ => by simp [sumL, sumH]
 | b :: t, h => by
  have ih := sum_b (l := t) (fun x hx => h x (by simp [hx]))
  have hb := (h b (by simp)).weight
  simp only [sumL, sumH, List.length_cons, Int.natCast_add, Int.natCast_one]
  omega
def failN (k : Int) : List Lod → Option Nat
 | [] => none
 | b :: t => if bearsI b k < sumH t then some 0 else (failN k t).map (· + 1)
theorem failN_none {k : Int} : ∀ {l : List Lod}, (∀ j c, l[j]? = some c → ¬ bearsI c k < sumH (l.drop (j + 1))) → failN k l = none
 | [], _ => rfl
 | c :: t, h => by
  have h0 := h 0 c rfl
  have ih := failN_none (k := k) (l := t) (fun j d hd => h (j + 1) d hd)
  simp only [failN]
  rw [if_neg (show ¬ bearsI c k < sumH t from h0), ih]
  rfl
theorem bears_mono {b : Lod} (h : b.ok) {k k' : Int} (hk : 0 ≤ k) (hkk : k ≤ k') : bearsI b k ≤ bearsI b k' := by
 have hs := h.strong
 have m1 : 0 ≤ b.sl * k := Int.mul_nonneg hs.1 hk
 have m2 : b.sl * k ≤ b.sl * k' := Int.mul_le_mul_of_nonneg_left hkk hs.1
 unfold bearsI
 rw [Int.tdiv_eq_ediv_of_nonneg m1, Int.tdiv_eq_ediv_of_nonneg (by omega)]
 exact Int.ediv_le_ediv (by decide) m2
theorem bears_b {b : Lod} (h : b.ok) {k : Int} (hk : 0 ≤ k ∧ k ≤ 1000) : 0 ≤ bearsI b k ∧ bearsI b k ≤ 20000000 := by
 have hs := h.strong
 have m1 := mulB0 (a := b.sl) (b := k) (A := 20000000) (B := 1000) (by omega) hk
 unfold bearsI
 rw [Int.tdiv_eq_ediv_of_nonneg (by omega)]
 omega
theorem failN_mono {k k' : Int} (hk : 0 ≤ k) (hkk : k ≤ k') : ∀ {l : List Lod}, (∀ b ∈ l, b.ok) → failN k l = none → failN k' l = none
 | [], _, _ => rfl
 | b :: t, h, hf => by
  simp only [failN] at hf ⊢
  split at hf
  ·cases hf
  ·rename_i h1
   have := bears_mono (h b (by simp)) hk hkk
   rw [if_neg (by omega), failN_mono hk hkk (fun x hx => h x (by simp [hx])) (by simpa using hf)]
   rfl
def AscT : List (Int × Int) → Prop
 | [] => True
 | u :: t => (∀ v ∈ t, u.1 < v.1 ∧ v.2 ≤ u.2) ∧ AscT t
theorem ascT_of : ∀ {l : List (Int × Int)}, (∀ (i : Nat) (u v : Int × Int), l[i]? = some u → l[i + 1]? = some v → u.1 < v.1 ∧ v.2 ≤ u.2) → AscT l
 | [], _ => trivial
 | u :: t, h => by
  have ih := ascT_of (l := t) (fun i a b ha hb => h (i + 1) a b ha hb)
  refine ⟨?_, ih⟩
  rcases t with _ | ⟨w, t⟩
  ·intro v hv; cases hv
  ·have h0 := h 0 u w rfl rfl
   intro v hv
   rcases List.mem_cons.1 hv with rfl | hv
   ·exact h0
   ·have := ih.1 v hv
    omega
theorem TabF.asc {l : List (Int × Int)} (h : TabF l) : AscT l := ascT_of h.step
theorem lastI_cons (day : Int) (s : Int × Int) (t : List (Int × Int)) (k : Int) : lastI day (s :: t) k = lastI day t (if s.1 ≤ day then s.2 else k) := rfl
theorem lastI_past {day : Int} : ∀ {l : List (Int × Int)} {k : Int}, (∀ v ∈ l, day < v.1) → lastI day l k = k
 | [], _, _ => rfl
 | s :: t, k, h => by
  have := h s (by simp)
  rw [lastI_cons, if_neg (by omega)]
  exact lastI_past (fun v hv => h v (by simp [hv]))
theorem lastI_le {day : Int} : ∀ {l : List (Int × Int)} {k : Int}, AscT l → (∀ v ∈ l, v.2 ≤ k) → lastI day l k ≤ k
 | [], _, _, _ => Int.le_refl _
 | s :: t, k, ha, h => by
  have hs := h s (by simp)
  rw [lastI_cons]
  split
  ·have := lastI_le (day := day) (k := s.2) ha.2 (fun v hv => (ha.1 v hv).2)
   omega
  ·exact lastI_le ha.2 (fun v hv => h v (by simp [hv]))
theorem lastI_anti {day days : Int} (hd : day ≤ days) : ∀ {l : List (Int × Int)} {k : Int}, AscT l → (∀ v ∈ l, v.2 ≤ k) → lastI days l k ≤ lastI day l k
 | [], _, _, _ => Int.le_refl _
 | s :: t, k, ha, h => by
  have hs := h s (by simp)
  rw [lastI_cons, lastI_cons]
  by_cases h1 : s.1 ≤ day
  ·rw [if_pos h1, if_pos (by omega)]
   exact lastI_anti hd ha.2 (fun v hv => (ha.1 v hv).2)
  ·rw [if_neg h1]
   have h2 : lastI day t k = k := lastI_past (fun v hv => by have := (ha.1 v hv).1; omega)
   rw [h2]
   split
   ·have := lastI_le (day := days) (k := s.2) ha.2 (fun v hv => (ha.1 v hv).2)
    omega
   ·exact lastI_le ha.2 (fun v hv => h v (by simp [hv]))
def fallT (st : List Lod) (days : Int) : List (Int × Int) → Option (Int × Nat)
 | [] => none
 | s :: t => if days < s.1 then none else match failN s.2 st with
  | some i => some (s.1, i)
  | none => fallT st days t
theorem fall_none {st : List Lod} {days : Int} : ∀ {l : List (Int × Int)}, AscT l → fallT st days l = none → ∀ day k, day ≤ days → failN k st = none → failN (lastI day l k) st = none
 | [], _, _, _, _, _, hk => hk
 | s :: t, ha, hf, day, k, hd, hk => by
  simp only [fallT] at hf
  rw [lastI_cons]
  split at hf
  ·rename_i h1
   rw [if_neg (by omega), lastI_past (fun v hv => by have := (ha.1 v hv).1; omega)]
   exact hk
  ·split at hf
   ·cases hf
   ·rename_i h2
    split
    ·exact fall_none ha.2 hf day s.2 hd h2
    ·exact fall_none ha.2 hf day k hd hk
theorem fall_some {st : List Lod} {days d : Int} {i : Nat} : ∀ {l : List (Int × Int)}, AscT l → fallT st days l = some (d, i) → (d ≤ days ∧ (∃ v ∈ l, v.1 = d)) ∧ (∀ k, failN (lastI d l k) st = some i) ∧ ∀ day k, day < d → failN k st = none → failN (lastI day l k) st = none
 | s :: t, ha, hf => by
  simp only [fallT] at hf
  split at hf
  ·cases hf
  rename_i h1
  split at hf
  ·rename_i j hj
   cases hf
   refine ⟨⟨by omega, s, by simp, rfl⟩, fun k => ?_, fun day k hd hk => ?_⟩
   ·rw [lastI_cons, if_pos (Int.le_refl _), lastI_past (fun v hv => (ha.1 v hv).1)]
    exact hj
   ·rw [lastI_cons, if_neg (by omega), lastI_past (fun v hv => by have := (ha.1 v hv).1; omega)]
    exact hk
  ·rename_i hj
   obtain ⟨⟨h2, v, hv, rfl⟩, h3, h4⟩ := fall_some ha.2 hf
   have hsv := (ha.1 v hv).1
   refine ⟨⟨h2, v, by simp [hv], rfl⟩, fun k => ?_, fun day k hd hk => ?_⟩
   ·rw [lastI_cons]; exact h3 _
   ·rw [lastI_cons]
    split
    ·exact h4 day s.2 hd hj
    ·exact h4 day k hd hk
theorem TabF.head {l : List (Int × Int)} (h : TabF l) : ∃ k t, l = (0, k) :: t ∧ 0 ≤ k ∧ k ≤ 1000 := by
 rcases l with _ | ⟨⟨d, k⟩, t⟩
 ·have := h.len.1; simp at this
 ·have h0 : d = 0 := h.first (d, k) rfl
  subst h0
  exact ⟨k, t, rfl, (h.mem (0, k) (by simp)).2⟩
theorem kept_b {l : List (Int × Int)} (h : TabF l) (day : Int) : 0 ≤ lastI day l 0 ∧ lastI day l 0 ≤ 1000 := lastI_b day l 0 (fun s hs => (h.mem s hs).2) (by decide)
theorem fall_iff {st : List Lod} (hst : ∀ b ∈ st, b.ok) {l : List (Int × Int)} {days : Int} (h : TabOk l days) : fallT st days l = none ↔ failN (lastI days l 0) st = none := by
 obtain ⟨k, t, rfl, hk⟩ := h.head
 have ha := h.asc
 have hd := h.days
 constructor
 ·intro hf
  have h1 := hf
  simp only [fallT] at h1
  rw [if_neg (by omega)] at h1
  split at h1
  ·cases h1
  ·rename_i h2
   rw [lastI_cons, if_pos (by omega)]
   exact fall_none ha.2 h1 days k (Int.le_refl _) h2
 ·intro hl
  cases hf : fallT st days ((0, k) :: t) with
  | none => rfl
  | some p =>
   obtain ⟨d, i⟩ := p
   obtain ⟨⟨h1, v, hv, hvd⟩, h2, _⟩ := fall_some ha hf
   have h3 := h2 0
   have hd0 : 0 ≤ d := by have := (h.mem v hv).1; omega
   have e1 : ∀ day, 0 ≤ day → lastI day ((0, k) :: t) 0 = lastI day t k := fun day h => by rw [lastI_cons, if_pos h]
   rw [e1 d hd0] at h3
   have h5 := (kept_b h.toTabF days).1
   rw [e1 days hd.1] at hl h5
   have h4 := lastI_anti h1 (k := k) ha.2 (fun v hv => (ha.1 v hv).2)
   have := failN_mono h5 h4 hst hl
   rw [h3] at this; cases this
theorem sumH_rep (b : Lod) : ∀ n : Nat, sumH (List.replicate n b) = (n : Int) * b.wh
 | 0 => by simp [sumH]
 | n + 1 => by
  rw [List.replicate_succ, sumH, sumH_rep b n, Int.natCast_add, Int.natCast_one, Int.add_mul, Int.one_mul]
theorem failN_rep {b : Lod} (h : b.ok) {k : Int} (hk : 0 ≤ k ∧ k ≤ 1000) : ∀ n : Nat, failN k (List.replicate (n + 1) b) = none ↔ (n : Int) * b.wh ≤ bearsI b k
 | 0 => by
  have := bears_b h hk
  have e : failN k (List.replicate (0 + 1) b) = none := by
   simp only [List.replicate_succ, List.replicate_zero, failN]
   rw [if_neg (show ¬ bearsI b k < sumH [] by show ¬ _ < (0 : Int); omega)]; rfl
  rw [e]
  simp; omega
 | n + 1 => by
  have ih := failN_rep h hk n
  have hw := h.weight
  rw [List.replicate_succ, failN, sumH_rep]
  have e : ((n + 1 : Nat) : Int) * b.wh = (n : Int) * b.wh + b.wh := by rw [Int.natCast_add, Int.natCast_one, Int.add_mul, Int.one_mul]
  rw [e] at *
  split
  ·rename_i h1
   simp; omega
  ·rename_i h1
   have : failN k (List.replicate (n + 1) b) = none := ih.2 (by omega)
   rw [this]
   simp; omega
theorem high_iff {b : Lod} (h : b.ok) {l : List (Int × Int)} {days : Int} (ht : TabOk l days) (n : Nat) (hn : n < 50) : failN (lastI days l 0) (List.replicate (n + 1) b) = none ↔ ((n : Int) + 1 ≤ highI b l days) := by
 have hk := kept_b ht.toTabF days
 rw [failN_rep h hk]
 have hb := bears_b h hk
 have hw := h.weight
 unfold highI
 generalize bearsI b (lastI days l 0) = B at *
 by_cases h0 : b.wh = 0
 ·rw [if_pos h0, h0, Int.mul_zero]
  constructor <;> intro _ <;> omega
 ·rw [if_neg h0]
  have hp : 0 < b.wh := by omega
  rw [Int.tdiv_eq_ediv_of_nonneg hb.1]
  have key : (n : Int) * b.wh ≤ B ↔ (n : Int) ≤ B / b.wh := (Int.le_ediv_iff_mul_le hp).symm
  rw [key]
  generalize B / b.wh = q
  split <;> constructor <;> intro _ <;> omega
end Go.Dw.Seat.Pa
end
section
set_option linter.unusedSimpArgs false
set_option maxRecDepth 100000
namespace Go.Dw.Seat.Pa
open Go Go.Dw Go.Proofs Go.IntWalk
theorem crBackward (l : List (Lod)) : DCall Try.prog 146 [.c (.sl false 4 (rows eLd l))] [] (.fn (.func 154) [] [.c (.ro false [.sl false 4 (rows eLd l)] 0)]) [] := by
 refine DCall.of Try.func146 sf146 hb146 (Nat.le_of_ble_eq_true rfl) (okRes_nil fun _ => rfl) ?_; simp only [s146, idxs, Nat.reduceAdd]
 repeat' (first|(with_reducible first|apply qA|apply qB|apply qC|apply qD|apply qE|apply qF)|(simp (disch:=omega) only [go_sem, simprocAttr, qN, qO, qP, qQ])|exact qM rfl rfl rfl|(refine qG rfl ?_)|(refine qH rfl ?_)|(refine qI rfl ?_ ?_<;>intro hc<;>(try simp only [go_sem] at hc))|(refine qJ ?_ ?_<;>intro hc<;>(try simp only [hc])<;>(try simp only [go_sem] at hc)))
 (refine retS_ent (Ent.rel 1 rfl) ?_; simp (disch:=omega) only [go_sem,simprocAttr,qN,qO,qP,qQ])
 refine retS_wk rfl ?_ (by simp only [Blk.nb, rowC_nb, D.nb, D.nbs, C.nb, C.nbs, C.nbss, rows_nb eI_nb, Bool.and_true, Bool.not_false, Bool.and_self, bD, dI, iD, rows_nb eK_nb, rows_nb eLd_nb]); exact .refl _
def backL {α : Type} (l : List α) : List (α × Nat) := l.zipIdx.reverse
theorem backL_nil {α : Type} : backL ([] : List α) = [] := rfl
theorem backL_take {α : Type} (l : List α) (i : Nat) (v : α) (hv : l[i]? = some v) : backL (l.take (i + 1)) = (v, i) :: backL (l.take i) := by
 rw [List.take_add_one, hv]
 have hlt : i < l.length := by
  rcases Nat.lt_or_ge i l.length with h | h
  ·exact h
  ·rw [List.getElem?_eq_none h] at hv; cases hv
 simp only [backL, Option.toList_some, List.zipIdx_append, List.length_take, Nat.min_eq_left (Nat.le_of_lt hlt), List.zipIdx_singleton, List.reverse_append, List.reverse_cons, List.reverse_nil, List.nil_append, List.cons_append, Nat.zero_add]
def enBack (e : Lod × Nat) : List D := [dI e.2, .agg ((eLd e.1).map D.c)]
theorem crBack (l : List (Lod)) (hl : l.length ≤ 1000) (p : Bool) : ItD Try.prog 154 [] [.c (.ro p [.sl false 4 (rows eLd l)] 0)] enBack (fun e => l[e.2]? = some e.1) (backL l) := by
 intro ly β H stp live hW hY b0 hl0
 have hH : ∀ b, HidOk (H b) := fun b => (hW b).toHidOk
 refine DCall.of Try.func154 sf154 hb154 (Nat.le_of_ble_eq_true rfl) (hH _).res ?_
 simp only [s154, idxs, Nat.reduceAdd, List.map_nil, List.map_cons, List.nil_append, List.cons_append]
 repeat' (first|(with_reducible first|apply qA|apply qB|apply qC|apply qD|apply qE|apply qF)|(simp (disch:=omega) only [go_sem, simprocAttr, qN, qO, qP, qQ])|exact qM rfl rfl rfl|(refine qG rfl ?_)|(refine qH rfl ?_)|(refine qI rfl ?_ ?_<;>intro hc<;>(try simp only [go_sem] at hc))|(refine qJ ?_ ?_<;>intro hc<;>(try simp only [hc])<;>(try simp only [go_sem] at hc)))
 refine DW.loop (ι := { s : Nat × β // s.1 ≤ l.length ∧ live s.2 ∧ runB stp b0 (backL l) = runB stp s.2 (backL (l.take s.1)) })
  (fun s => ⟨19, [(3, dI ((s.1.1 : Int) - 1)), (0, .c (.fn (.yield ly) [] [])), (1, .c (.ro p [.sl false 4 (rows eLd l)] 0))], H s.1.2⟩) (fun s => s.1.1) ⟨(l.length, b0), Nat.le_refl _, hl0, by rw [List.take_length]⟩ ?_ ?_
 ·refine Ent.toT ?_; simp (disch:=omega) only [qR,qS,qTw,qU,get,Nat.reduceEqDiff,↓reduceIte,qV,qW,qX,qY,qZ,and_self,dI,i64_in,and_true,true_and,rA,rB,rC,rD]
 rintro ⟨⟨k, b1⟩, hk, hlv, hrun⟩
 dsimp only at hk hlv hrun
 rcases k with _ | k
 ·have hd : decide ((0 : Int) ≤ ((0 : Nat) : Int) - 1) = false := by decide
  rw [List.take_zero, backL_nil] at hrun
  simp only [runB] at hrun
  repeat' (first|(with_reducible first|apply qA|apply qB|apply qC|apply qD|apply qE|apply qF)|(simp (disch:=omega) only [go_sem, simprocAttr, qN, qO, qP, qQ, hd])|exact qM rfl rfl rfl|(refine qG rfl ?_)|(refine qH rfl ?_)|(refine qI rfl ?_ ?_<;>intro hc<;>(try simp only [go_sem] at hc))|(refine qJ ?_ ?_<;>intro hc<;>(try simp only [hc])<;>(try simp only [go_sem] at hc)))
  rw [hrun]
  exact retS_hid (own := []) (.inr rfl) (hH _) rfl
 ·have e1 : ((k + 1 : Nat) : Int) - 1 = (k : Int) := by omega
  have hd : decide ((0 : Int) ≤ (k : Int)) = true := by rw [decide_eq_true_eq]; omega
  obtain ⟨v, hv⟩ := getE (l := l) (i := k) (by omega)
  rw [backL_take l k v hv] at hrun
  obtain ⟨hyc, hlv4⟩ := hY b1 (v, k) hlv hv
  simp only [runB] at hrun
  dsimp only
  rw [e1]
  repeat' (first|(with_reducible first|apply qA|apply qB|apply qC|apply qD|apply qE|apply qF)|(simp (disch:=omega) only [go_sem, simprocAttr, qN, qO, qP, qQ, hd, hv, rF, rG])|exact qM rfl rfl rfl|(refine qG rfl ?_)|(refine qH rfl ?_)|(refine qI rfl ?_ ?_<;>intro hc<;>(try simp only [go_sem] at hc))|(refine qJ ?_ ?_<;>intro hc<;>(try simp only [hc])<;>(try simp only [go_sem] at hc)))
  refine call_y (own := []) hyc rfl rfl rfl (hH _) (hH _) (by decide) ?_
  cases hs : (stp b1 (v, k)).1 with
  | true =>
   rw [hs] at hrun hlv4
   simp (disch:=omega) only [go_sem,simprocAttr,qN,qO,qP,qQ]
   repeat' (first|(with_reducible first|apply qA|apply qB|apply qC|apply qD|apply qE|apply qF)|(simp (disch:=omega) only [go_sem, simprocAttr, qN, qO, qP, qQ])|exact qM rfl rfl rfl|(refine qG rfl ?_)|(refine qH rfl ?_)|(refine qI rfl ?_ ?_<;>intro hc<;>(try simp only [go_sem] at hc))|(refine qJ ?_ ?_<;>intro hc<;>(try simp only [hc])<;>(try simp only [go_sem] at hc)))
   refine ⟨⟨(k, (stp b1 (v, k)).2), by omega, hlv4 rfl, hrun⟩, by (show _ < _; (try simp only); omega), Ent.toT ?_⟩; simp (disch:=omega) only [qR,qS,qTw,qU,get,Nat.reduceEqDiff,↓reduceIte,qV,qW,qX,qY,qZ,and_self,dI,i64_in,and_true,true_and,rA,rB,rC,rD]
  | false =>
   rw [hs] at hrun
   simp (disch:=omega) only [go_sem,simprocAttr,qN,qO,qP,qQ]
   repeat' (first|(with_reducible first|apply qA|apply qB|apply qC|apply qD|apply qE|apply qF)|(simp (disch:=omega) only [go_sem, simprocAttr, qN, qO, qP, qQ])|exact qM rfl rfl rfl|(refine qG rfl ?_)|(refine qH rfl ?_)|(refine qI rfl ?_ ?_<;>intro hc<;>(try simp only [go_sem] at hc))|(refine qJ ?_ ?_<;>intro hc<;>(try simp only [hc])<;>(try simp only [go_sem] at hc)))
   rw [hrun]
   exact retS_hid (own := []) (.inl rfl) (hH _) rfl
def w64 (n : Int) : Int := IntKind.i64.wrap n
def fallS : Int → Int → List (Lod × Nat) → List (Nat × Int × Int)
 | _, _, [] => []
 | lo, hi, e :: t => (e.2, lo, hi) :: fallS (w64 (lo + e.1.wl)) (w64 (hi + e.1.wh)) t
def enF (e : Nat × Int × Int) : List D := [dI e.1, .agg [dI e.2.1, dI e.2.2]]
def falS {β : Type} (stp : β → Nat × Int × Int → Bool × β) (y : β × Int × Int) (e : Lod × Nat) : Option Exit × (β × Int × Int) :=
 if (stp y.1 (e.2, y.2.1, y.2.2)).1 = true then (none, ((stp y.1 (e.2, y.2.1, y.2.2)).2, w64 (y.2.1 + e.1.wl), w64 (y.2.2 + e.1.wh))) else (some .ret, ((stp y.1 (e.2, y.2.1, y.2.2)).2, y.2))
theorem falS_run {β : Type} (stp : β → Nat × Int × Int → Bool × β) : ∀ (L : List (Lod × Nat)) (b : β) (lo hi : Int),
  ((runIt (falS stp) (b, lo, hi) L).1 = some .ret ∨ (runIt (falS stp) (b, lo, hi) L).1 = none) ∧ (runIt (falS stp) (b, lo, hi) L).2.1 = runB stp b (fallS lo hi L)
 | [], b, lo, hi => ⟨.inr rfl, rfl⟩
 | e :: L, b, lo, hi => by
  simp only [runIt, falS, fallS, runB]
  by_cases hs : (stp b (e.2, lo, hi)).1 = true
  ·simp only [hs, if_true]
   exact falS_run stp L _ _ _
  ·simp [hs]
attribute [go_sem] enBack enF
theorem crFalling (l : List Lod) : DCall Try.prog 121 [.c (.sl false 4 (rows eLd l))] [] (.fn (.func 145) [] [.c (.ro false [.sl false 4 (rows eLd l)] 0)]) [] := by
 refine DCall.of Try.func121 sf121 hb121 (Nat.le_of_ble_eq_true rfl) (okRes_nil fun _ => rfl) ?_; simp only [s121, idxs, Nat.reduceAdd]
 repeat' (first|(with_reducible first|apply qA|apply qB|apply qC|apply qD|apply qE|apply qF)|(simp (disch:=omega) only [go_sem, simprocAttr, qN, qO, qP, qQ])|exact qM rfl rfl rfl|(refine qG rfl ?_)|(refine qH rfl ?_)|(refine qI rfl ?_ ?_<;>intro hc<;>(try simp only [go_sem] at hc))|(refine qJ ?_ ?_<;>intro hc<;>(try simp only [hc])<;>(try simp only [go_sem] at hc)))
 (refine retS_ent (Ent.rel 1 rfl) ?_; simp (disch:=omega) only [go_sem,simprocAttr,qN,qO,qP,qQ])
 refine retS_wk rfl ?_ (by simp only [Blk.nb, rowC_nb, D.nb, D.nbs, C.nb, C.nbs, C.nbss, rows_nb eI_nb, Bool.and_true, Bool.not_false, Bool.and_self, bD, dI, iD, rows_nb eK_nb, rows_nb eLd_nb]); exact .refl _
set_option maxHeartbeats 1000000 in
theorem crFall1 (l : List Lod) (hl : l.length ≤ 1000) (p : Bool) : ItD Try.prog 145 [] [.c (.ro p [.sl false 4 (rows eLd l)] 0)] enF (fun e => e.1 < l.length) (fallS 0 0 (backL l)) := by
 intro ly β H stp live hW hY b0 hl0
 have hH : ∀ b, HidOk (H b) := fun b => (hW b).toHidOk
 have hb := crBackward l
 have hit := crBack l hl false
 refine DCall.of Try.func145 sf145 hb145 (Nat.le_of_ble_eq_true rfl) (hH _).res ?_
 simp only [s145, idxs, Nat.reduceAdd, List.map_nil, List.map_cons, List.nil_append, List.cons_append]
 have f1 := hid_get (hH b0)
 have f2 := hid_ins (hH b0)
 have f3 := (hH b0).men
 have f4 := (hH b0).lo
 have f5 : ∀ k x, k < 1000 → ins k x (H b0) = H b0 ++ [(k, x)] := fun k x hk => by have := f2 k hk x []; rwa [List.append_nil] at this
 repeat' (first|(with_reducible first|apply qA|apply qB|apply qC|apply qD|apply qE|apply qF)|(simp (disch:=omega) only [go_sem, simprocAttr, qN, qO, qP, qQ, f1, f2, f3, f4, f5, ins])|exact qM rfl rfl rfl|(refine qG rfl ?_)|(refine qK (hb) (by decide) ?_)|(refine qH rfl ?_)|(refine qI rfl ?_ ?_<;>intro hc<;>(try simp only [go_sem] at hc))|(refine qJ ?_ ?_<;>intro hc<;>(try simp only [hc])<;>(try simp only [go_sem] at hc)))
 refine DW.ent (Ent.comm (hH b0) rfl).1 ?_
 refine DW.ent (σ' := ⟨28, [(7, .fn (.func 154) [] [.c (.ro false [.sl false 4 (rows eLd l)] 0)]), (3, .box 3 0), (2, .box 2 0)], [(3, .box [dI 0, dI 0]), (2, .box [.c (.fn (.yield ly) [] [])])] ++ H b0⟩) ?_ ?_
 ·refine Ent.toH (hH b0) rfl ?_ ?_ <;> simp (disch:=omega) only [qR,qS,qTw,qU,get,Nat.reduceEqDiff,↓reduceIte,qV,qW,qX,qY,qZ,and_self,dI,i64_in,and_true,true_and,rA,rB,rC,rD]
 refine DW.rngD (fs := []) (caps := [.c (.ro false [.sl false 4 (rows eLd l)] 0)]) rfl (fun _ => ⟨rfl, rfl⟩) (fun y : β × Int × Int => [(3, .box [dI y.2.1, dI y.2.2]), (2, .box [.c (.fn (.yield ly) [] [])])] ++ H y.1) (b0, 0, 0) rfl (falS stp) enBack (fun e => l[e.2]? = some e.1) (backL l) hit (fun y => live y.1) hl0 ?_ (by decide) (fun _ _ => rfl) (fun _ _ _ => rfl) (by simp only [List.map_cons, List.map_nil]; decide) ?_ ?_ ?_ ?_ ?_ ?_ ?_
 ·rintro ⟨b, lo, hi⟩ ⟨s, i⟩ hiv hs h1
  have hlt : i < l.length := (List.getElem?_eq_some_iff.1 hs).1
  simp only [falS] at h1 ⊢
  dsimp only at hiv
  split at h1
  ·rename_i hc
   rw [if_pos hc]
   exact (hY b (i, lo, hi) hiv hlt).2 hc
  ·cases h1
 ·intro y
  show get 999 (H y.1) = none
  exact (hH y.1).lo 999 (by decide)
 ·intro y
  have := (hW y.1).app2 (3, Blk.box [dI y.2.1, dI y.2.2]) (2, .box [.c (.fn (.yield ly) [] [])])
  simp only [List.cons_append, List.nil_append, wfB, List.all_cons, List.all_nil, this, Bool.and_true]
  rfl
 ·intro y j x hj
  rw [get_app] at hj
  cases hg : get j [(3, Blk.box [dI y.2.1, dI y.2.2]), (2, .box [.c (.fn (.yield ly) [] [])])] with
  | none => rw [hg] at hj; exact (hH y.1).nb j x hj
  | some x' =>
   rw [hg] at hj; cases hj
   have := get_mem hg
   simp only [List.mem_cons, Prod.mk.injEq, List.not_mem_nil, or_false] at this
   rcases this with ⟨_, rfl⟩ | ⟨_, rfl⟩ <;> rfl
 ·intro p hp
  simp only [List.mem_cons, List.not_mem_nil, or_false] at hp
  rcases hp with rfl | rfl | rfl
  ·simp only [D.nb, D.nbs, C.nb, C.nbs, rows_nb eLd_nb, Bool.and_self, Bool.not_false]
  ·rfl
  ·rfl
 ·intro y e
  simp only [falS]
  split <;> rfl
 ·rintro ⟨b, lo, hi⟩ hiv ⟨s, i⟩ hs v
  have hlt : i < l.length := (List.getElem?_eq_some_iff.1 hs).1
  dsimp only at hiv hs
  obtain ⟨hyc, hlv⟩ := hY b (i, lo, hi) hiv hlt
  have g1 := hid_get (hH b)
  have g2 := hid_ins (hH b)
  have g3 := (hH b).men
  have g4 := (hH b).lo
  refine DW.ent (Ent.swap ((hH b).lo 999 (by decide))).1 ?_
  have hS : falS stp (b, lo, hi) (s, i) = if (stp b (i, lo, hi)).1 = true then (none, ((stp b (i, lo, hi)).2, w64 (lo + s.wl), w64 (hi + s.wh))) else (some .ret, ((stp b (i, lo, hi)).2, lo, hi)) := rfl
  cases hc : (stp b (i, lo, hi)).1 with
  | true =>
   rw [hc, if_pos rfl] at hS
   rw [hc] at hyc
   rw [hS]
   simp (disch:=omega) only [go_sem,simprocAttr,qN,qO,qP,qQ,rF,rG,g3,g4]
   repeat' (first|(with_reducible first|apply qA|apply qB|apply qC|apply qD|apply qE|apply qF)|(simp (disch:=omega) only [go_sem, simprocAttr, qN, qO, qP, qQ, rF, rG, g3, g4])|exact qM rfl rfl rfl|(refine qG rfl ?_)|(refine qH rfl ?_)|(refine qI rfl ?_ ?_<;>intro hc<;>(try simp only [go_sem] at hc))|(refine qJ ?_ ?_<;>intro hc<;>(try simp only [hc])<;>(try simp only [go_sem] at hc)))
   refine call_y (own := [_, _, _, _]) hyc rfl rfl rfl (hH _) (hH _) (by decide) ?_
   simp (disch:=omega) only [go_sem,simprocAttr,qN,qO,qP,qQ]
   repeat' (first|(with_reducible first|apply qA|apply qB|apply qC|apply qD|apply qE|apply qF)|(simp (disch:=omega) only [go_sem, simprocAttr, qN, qO, qP, qQ])|exact qM rfl rfl rfl|(refine qG rfl ?_)|(refine qH rfl ?_)|(refine qI rfl ?_ ?_<;>intro hc<;>(try simp only [go_sem] at hc))|(refine qJ ?_ ?_<;>intro hc<;>(try simp only [hc])<;>(try simp only [go_sem] at hc)))
   refine round_end rfl rfl (Ent.trans ?_ (Ent.swap (o := [(3, Blk.box [dI (w64 (lo + s.wl)), dI (w64 (hi + s.wh))]), (2, Blk.box [D.c (C.fn (Fn.yield ly) [] [])])]) (c := capB v [(7, D.fn (Fn.func 154) [] [D.c (C.ro false [C.sl false 4 (rows eLd l)] 0)]), (3, D.box 3 0), (2, D.box 2 0)]) ((hH (stp b (i, lo, hi)).2).lo 999 (by decide))).2)
   refine Ent.toH (o := [_, _, _, _]) (o' := [_, _, _]) (hH _) ?_ ?_ ?_
   ·rfl
   ·simp (disch:=omega) only [qR,qS,qTw,qU,get,Nat.reduceEqDiff,↓reduceIte,qV,qW,qX,qY,qZ,and_self,dI,i64_in,and_true,true_and,rA,rB,rC,rD,capB]
   ·simp (disch:=omega) only [qR,qS,qTw,qU,get,Nat.reduceEqDiff,↓reduceIte,qV,qW,qX,qY,qZ,and_self,dI,i64_in,and_true,true_and,rA,rB,rC,rD,capB,w64]
  | false =>
   rw [hc, if_neg (by decide)] at hS
   rw [hc] at hyc
   rw [hS]
   simp (disch:=omega) only [go_sem,simprocAttr,qN,qO,qP,qQ,rF,rG,g3,g4]
   repeat' (first|(with_reducible first|apply qA|apply qB|apply qC|apply qD|apply qE|apply qF)|(simp (disch:=omega) only [go_sem, simprocAttr, qN, qO, qP, qQ, rF, rG, g3, g4])|exact qM rfl rfl rfl|(refine qG rfl ?_)|(refine qH rfl ?_)|(refine qI rfl ?_ ?_<;>intro hc<;>(try simp only [go_sem] at hc))|(refine qJ ?_ ?_<;>intro hc<;>(try simp only [hc])<;>(try simp only [go_sem] at hc)))
   refine call_y (own := [_, _, _, _]) hyc rfl rfl rfl (hH _) (hH _) (by decide) ?_
   simp (disch:=omega) only [go_sem,simprocAttr,qN,qO,qP,qQ]
   repeat' (first|(with_reducible first|apply qA|apply qB|apply qC|apply qD|apply qE|apply qF)|(simp (disch:=omega) only [go_sem, simprocAttr, qN, qO, qP, qQ])|exact qM rfl rfl rfl|(refine qG rfl ?_)|(refine qH rfl ?_)|(refine qI rfl ?_ ?_<;>intro hc<;>(try simp only [go_sem] at hc))|(refine qJ ?_ ?_<;>intro hc<;>(try simp only [hc])<;>(try simp only [go_sem] at hc)))
   refine round_end rfl rfl (Ent.trans ?_ (Ent.swap (o := [(3, Blk.box [dI lo, dI hi]), (2, Blk.box [D.c (C.fn (Fn.yield ly) [] [])])]) (c := capB v [(7, D.fn (Fn.func 154) [] [D.c (C.ro false [C.sl false 4 (rows eLd l)] 0)]), (3, D.box 3 0), (2, D.box 2 0)]) ((hH (stp b (i, lo, hi)).2).lo 999 (by decide))).2)
   refine Ent.toH (o := [_, _, _, _]) (o' := [_, _, _]) (hH _) ?_ ?_ ?_
   ·rfl
   ·simp (disch:=omega) only [qR,qS,qTw,qU,get,Nat.reduceEqDiff,↓reduceIte,qV,qW,qX,qY,qZ,and_self,dI,i64_in,and_true,true_and,rA,rB,rC,rD,capB]
   ·simp (disch:=omega) only [qR,qS,qTw,qU,get,Nat.reduceEqDiff,↓reduceIte,qV,qW,qX,qY,qZ,and_self,dI,i64_in,and_true,true_and,rA,rB,rC,rD,capB]
 ·have hrs := falS_run stp (backL l) b0 0 0
  generalize runIt (falS stp) (b0, 0, 0) (backL l) = R at *
  obtain ⟨o, b, lo, hi⟩ := R
  dsimp only at hrs ⊢
  rw [← hrs.2]
  rcases hrs.1 with rfl | rfl
  ·simp (disch:=omega) only [go_sem,simprocAttr,qN,qO,qP,qQ,Option.getD_some]
   exact retS_hid (own := [_, _]) (.inl rfl) (hH _) rfl
  ·simp (disch:=omega) only [go_sem,simprocAttr,qN,qO,qP,qQ,Option.getD_none]
   exact retS_hid (own := [_, _]) (.inr rfl) (hH _) rfl
end Go.Dw.Seat.Pa
end
section
set_option linter.unusedSimpArgs false
set_option maxRecDepth 100000
namespace Go.Dw.Seat.Pa
open Go Go.Dw Go.Proofs Go.IntWalk
theorem runIt_all {α ε : Type} {step : α → ε → Option Exit × α} (h : ∀ a e, (step a e).1 = none) : ∀ (L : List ε) (a : α), runIt step a L = (none, L.foldl (fun a e => (step a e).2) a)
 | [], a => rfl
 | e :: L, a => by
  have ih := runIt_all h L (step a e).2
  have hn := h a e
  rw [List.foldl_cons, ← ih]
  simp only [runIt]
  rcases he : step a e with ⟨o, a'⟩
  rw [he] at hn
  dsimp only at hn
  subst hn
  rfl
theorem w64_in {n : Int} (h : -9223372036854775808 ≤ n ∧ n < 9223372036854775808) : w64 n = n := i64_in n (by omega)
def loadsF : Nat → List Lod → List (Nat × Int × Int)
 | _, [] => []
 | i, _ :: t => (i, sumL t, sumH t) :: loadsF (i + 1) t
theorem fallS_app : ∀ (a b : List (Lod × Nat)) (lo hi lo' hi' : Int), lo' = a.foldl (fun s e => w64 (s + e.1.wl)) lo → hi' = a.foldl (fun s e => w64 (s + e.1.wh)) hi → fallS lo hi (a ++ b) = fallS lo hi a ++ fallS lo' hi' b
 | [], b, lo, hi, lo', hi', h1, h2 => by simp only [List.foldl_nil] at h1 h2; rw [h1, h2]; rfl
 | e :: a, b, lo, hi, lo', hi', h1, h2 => by
  simp only [List.cons_append, fallS]
  rw [fallS_app a b _ _ lo' hi' h1 h2]
theorem backL_cons (b : Lod) (t : List Lod) : backL (b :: t) = (backL t).map (fun e => (e.1, e.2 + 1)) ++ [(b, 0)] := by
 have : ∀ (l : List Lod) (n : Nat), l.zipIdx (n + 1) = (l.zipIdx n).map (fun e => (e.1, e.2 + 1)) := fun l => by
  induction l with
  | nil => intro n; rfl
  | cons x l ih => intro n; simp only [List.zipIdx_cons, List.map_cons, ih (n + 1)]
 simp only [backL, List.zipIdx_cons, Nat.zero_add, List.reverse_cons]
 rw [show t.zipIdx 1 = t.zipIdx (0 + 1) from rfl, this t 0, List.map_reverse]
theorem fallS_shift : ∀ (L : List (Lod × Nat)) (lo hi : Int), fallS lo hi (L.map (fun e => (e.1, e.2 + 1))) = (fallS lo hi L).map (fun e => (e.1 + 1, e.2))
 | [], _, _ => rfl
 | e :: L, lo, hi => by simp only [List.map_cons, fallS, fallS_shift L]
theorem loadsF_shift : ∀ (l : List Lod) (i : Nat), loadsF (i + 1) l = (loadsF i l).map (fun e => (e.1 + 1, e.2))
 | [], _ => rfl
 | b :: t, i => by simp only [loadsF, List.map_cons, loadsF_shift t (i + 1)]
theorem back_sums : ∀ (l : List Lod), (∀ b ∈ l, b.ok) → l.length ≤ 100000 → (backL l).foldl (fun s e => w64 (s + e.1.wl)) 0 = sumL l ∧ (backL l).foldl (fun s e => w64 (s + e.1.wh)) 0 = sumH l
 | [], _, _ => ⟨rfl, rfl⟩
 | b :: t, h, hl => by
  rw [List.length_cons] at hl
  have ht : ∀ x ∈ t, x.ok := fun x hx => h x (by simp [hx])
  obtain ⟨i1, i2⟩ := back_sums t ht (by omega)
  have hb := (h b (by simp)).weight
  obtain ⟨b1, b2⟩ := sum_b ht
  rw [backL_cons, List.foldl_append, List.foldl_append, List.foldl_map, List.foldl_map, i1, i2]
  simp only [List.foldl_cons, List.foldl_nil, sumL, sumH]
  exact ⟨w64_in (by omega), w64_in (by omega)⟩
theorem fallS_eq : ∀ (l : List Lod), (∀ b ∈ l, b.ok) → l.length ≤ 100000 → fallS 0 0 (backL l) = (loadsF 0 l).reverse
 | [], _, _ => rfl
 | b :: t, h, hl => by
  rw [List.length_cons] at hl
  have ht : ∀ x ∈ t, x.ok := fun x hx => h x (by simp [hx])
  have ih := fallS_eq t ht (by omega)
  obtain ⟨i1, i2⟩ := back_sums t ht (by omega)
  rw [backL_cons, fallS_app _ _ 0 0 (sumL t) (sumH t) (by rw [List.foldl_map, i1]) (by rw [List.foldl_map, i2]), fallS_shift, ih]
  simp only [fallS, loadsF, List.reverse_cons, loadsF_shift t 0, List.map_reverse]
def lowS (l : List Lod) (k : Int) (a : Int × Bool) (e : Nat × Int × Int) : Option Exit × (Int × Bool) := match l[e.1]? with
 | some v => if bearsI v k < e.2.2 then (none, ((e.1 : Int), true)) else (none, a)
 | none => (none, a)
theorem lowS_none (l : List Lod) (k : Int) (a : Int × Bool) (e : Nat × Int × Int) : (lowS l k a e).1 = none := by
 unfold lowS; split <;> (try split) <;> rfl
theorem low_fold (l : List Lod) (k : Int) (a : Int × Bool) : ∀ (t pre : List Lod), l = pre ++ t → (loadsF pre.length t).foldr (fun e a => (lowS l k a e).2) a = match failN k t with
  | some i => (((pre.length + i : Nat) : Int), true)
  | none => a
 | [], _, _ => rfl
 | b :: t, pre, hl => by
  have ih := low_fold l k a t (pre ++ [b]) (by simp [hl])
  simp only [List.length_append, List.length_singleton] at ih
  have hg : l[pre.length]? = some b := by rw [hl, List.getElem?_append_right (Nat.le_refl _), Nat.sub_self]; rfl
  simp only [loadsF, List.foldr_cons, failN, ih]
  unfold lowS
  simp only [hg]
  split
  ·simp
  ·cases hf : failN k t with
   | none => rfl
   | some i => simp only [Option.map_some]; congr 2; omega
def lowR (k : Int) (l : List Lod) : Int × Bool := match failN k l with
 | some i => ((i : Int), true)
 | none => (0, false)
theorem low_run (l : List Lod) (k : Int) (h : ∀ b ∈ l, b.ok) (hl : l.length ≤ 100000) : runIt (lowS l k) (0, false) (fallS 0 0 (backL l)) = (none, lowR k l) := by
 rw [runIt_all (lowS_none l k), fallS_eq l h hl, List.foldl_reverse]
 have := low_fold l k (0, false) l [] rfl
 simp only [List.length_nil, Nat.zero_add] at this
 rw [this]; rfl
set_option maxHeartbeats 1000000 in
theorem crLowest (l : List Lod) (h : ∀ b ∈ l, b.ok) (hl : l.length ≤ 1000) (k : Int) (hk : 0 ≤ k ∧ k ≤ 1000) : DCall Try.prog 76 [.c (.sl false 4 (rows eLd l)), dI k] [] (.tup [dI (lowR k l).1, bD (lowR k l).2]) [] := by
 have h1 := crFalling l
 have hit := crFall1 l hl false
 refine DCall.of Try.func76 sf76 hb76 (Nat.le_of_ble_eq_true rfl) (okRes_nil fun _ => rfl) ?_; simp only [s76, o76_0, o76_1, o76_2, o76_3, idxs, Nat.reduceAdd]
 repeat' (first|(with_reducible first|apply qA|apply qB|apply qC|apply qD|apply qE|apply qF)|(refine qL rfl (WF.of ?_) ?_; first|rfl|skip)|(refine DW.ord rfl (WF.of (by first|rfl|simp (disch:=omega) only [go_sem, simprocAttr, qN, qO, qP, qQ])) ?_ ?_ ?_; rotate_left)|rfl|(with_reducible refine And.intro ?_ ?_)|(simp (disch:=omega) only [go_sem, simprocAttr, qN, qO, qP, qQ])|exact qM rfl rfl rfl|(refine qG rfl ?_)|(refine qK (h1) (by decide) ?_)|(refine qH rfl ?_)|(refine qI rfl ?_ ?_<;>intro hc<;>(try simp only [go_sem] at hc))|(refine qJ ?_ ?_<;>intro hc<;>(try simp only [hc])<;>(try simp only [go_sem] at hc)))
 refine DW.rngBD (fs := []) (caps := [.c (.ro false [.sl false 4 (rows eLd l)] 0)]) (fun y : Int × Bool => [(5, .box [bD y.2]), (4, .box [dI y.1]), (3, .box [dI k]), (2, .box [.c (.sl false 4 (rows eLd l))])]) (0, false) (lowS l k) enF (fun e => e.1 < l.length) (fallS 0 0 (backL l)) hit (fun _ => True) trivial (fun _ _ _ _ _ => trivial) rfl (fun _ => ⟨rfl, rfl⟩) rfl (by decide) (fun _ _ => rfl) (fun _ _ _ => rfl) (by simp only [List.map_cons, List.map_nil]; decide) (fun _ => rfl) (fun _ => rfl) (fun _ => (by simp only [List.all_cons, List.all_nil, Blk.nb, rowC_nb, D.nb, D.nbs, C.nb, C.nbs, C.nbss, rows_nb eI_nb, Bool.and_true, Bool.not_false, Bool.and_self, bD, dI, iD, rows_nb eK_nb, rows_nb eLd_nb])) (by simp only [List.all_cons, List.all_nil, Blk.nb, rowC_nb, D.nb, D.nbs, C.nb, C.nbs, C.nbss, rows_nb eI_nb, Bool.and_true, Bool.not_false, Bool.and_self, bD, dI, iD, rows_nb eK_nb, rows_nb eLd_nb]) (fun a e => by rw [lowS_none]; rfl) ?_ ?_
 ·rintro ⟨bx, fl⟩ _ ⟨i, lo, hi⟩ hi' v
  dsimp only at hi'
  obtain ⟨u, hu⟩ := getE hi'
  have hbe := crBears u (h u (List.mem_of_getElem? hu)) k hk
  have hS : lowS l k (bx, fl) (i, lo, hi) = if bearsI u k < hi then (none, ((i : Int), true)) else (none, (bx, fl)) := by
   simp only [lowS, hu]
  rw [hS]
  by_cases hc : bearsI u k < hi
  ·have hd : decide (bearsI u k < hi) = true := decide_eq_true hc
   rw [if_pos hc]
   simp (disch:=omega) only [go_sem,simprocAttr,qN,qO,qP,qQ,rF,rG]
   repeat' (first|(with_reducible first|apply qA|apply qB|apply qC|apply qD|apply qE|apply qF)|(refine qL rfl (WF.of ?_) ?_; first|rfl|skip)|(refine DW.ord rfl (WF.of (by first|rfl|simp (disch:=omega) only [go_sem, simprocAttr, qN, qO, qP, qQ, hu, hd, rF, rG])) ?_ ?_ ?_; rotate_left)|rfl|(with_reducible refine And.intro ?_ ?_)|(simp (disch:=omega) only [go_sem, simprocAttr, qN, qO, qP, qQ, hu, hd, rF, rG])|exact qM rfl rfl rfl|(refine qG rfl ?_)|(refine qK (hbe) (by decide) ?_)|(refine qH rfl ?_)|(refine qI rfl ?_ ?_<;>intro hc<;>(try simp only [go_sem] at hc))|(refine qJ ?_ ?_<;>intro hc<;>(try simp only [hc])<;>(try simp only [go_sem] at hc)))
   refine round_end rfl rfl (Ent.to ?_ ?_) <;> simp (disch:=omega) only [qR,qS,qTw,qU,get,Nat.reduceEqDiff,↓reduceIte,qV,qW,qX,qY,qZ,and_self,dI,i64_in,and_true,true_and,rA,rB,rC,rD,capB,List.cons_append,List.nil_append]
  ·have hd : decide (bearsI u k < hi) = false := decide_eq_false hc
   rw [if_neg hc]
   simp (disch:=omega) only [go_sem,simprocAttr,qN,qO,qP,qQ,rF,rG]
   repeat' (first|(with_reducible first|apply qA|apply qB|apply qC|apply qD|apply qE|apply qF)|(refine qL rfl (WF.of ?_) ?_; first|rfl|skip)|(refine DW.ord rfl (WF.of (by first|rfl|simp (disch:=omega) only [go_sem, simprocAttr, qN, qO, qP, qQ, hu, hd, rF, rG])) ?_ ?_ ?_; rotate_left)|rfl|(with_reducible refine And.intro ?_ ?_)|(simp (disch:=omega) only [go_sem, simprocAttr, qN, qO, qP, qQ, hu, hd, rF, rG])|exact qM rfl rfl rfl|(refine qG rfl ?_)|(refine qK (hbe) (by decide) ?_)|(refine qH rfl ?_)|(refine qI rfl ?_ ?_<;>intro hc<;>(try simp only [go_sem] at hc))|(refine qJ ?_ ?_<;>intro hc<;>(try simp only [hc])<;>(try simp only [go_sem] at hc)))
   refine round_end rfl rfl (Ent.to ?_ ?_) <;> simp (disch:=omega) only [qR,qS,qTw,qU,get,Nat.reduceEqDiff,↓reduceIte,qV,qW,qX,qY,qZ,and_self,dI,i64_in,and_true,true_and,rA,rB,rC,rD,capB,List.cons_append,List.nil_append]
 ·rw [low_run l k h (by omega)]
  generalize lowR k l = R
  obtain ⟨x, y⟩ := R
  repeat' (first|(with_reducible first|apply qA|apply qB|apply qC|apply qD|apply qE|apply qF)|(refine qL rfl (WF.of ?_) ?_; first|rfl|skip)|(refine DW.ord rfl (WF.of (by first|rfl|simp (disch:=omega) only [go_sem, simprocAttr, qN, qO, qP, qQ])) ?_ ?_ ?_; rotate_left)|rfl|(with_reducible refine And.intro ?_ ?_)|(simp (disch:=omega) only [go_sem, simprocAttr, qN, qO, qP, qQ])|exact qM rfl rfl rfl|(refine qG rfl ?_)|(refine qH rfl ?_)|(refine qI rfl ?_ ?_<;>intro hc<;>(try simp only [go_sem] at hc))|(refine qJ ?_ ?_<;>intro hc<;>(try simp only [hc])<;>(try simp only [go_sem] at hc)))
end Go.Dw.Seat.Pa
end
section
set_option linter.unusedSimpArgs false
set_option maxRecDepth 100000
namespace Go.Dw.Seat.Pa
open Go Go.Dw Go.Proofs Go.IntWalk
def fallR (l : List Lod) (days : Int) (t : List (Int × Int)) : Int × Int × Int := match fallT l days t with
 | some (d, i) => (d, (i : Int), 0)
 | none => (0, 0, 7)
set_option maxHeartbeats 1000000 in
theorem crFall (l : List Lod) (h : ∀ b ∈ l, b.ok) (hl : l.length ≤ 50) (t : List (Int × Int)) (days : Int) (ht : TabOk t days) : DCall Try.prog 39 [.c (.sl false 4 (rows eLd l)), .c (.sl false 2 (rows eK t)), dI days] [] (.tup [dI (fallR l days t).1, dI (fallR l days t).2.1, dI (fallR l days t).2.2]) [] := by
 generalize hR : fallR l days t = R
 have h1 := crBoxes false l 50 (by omega) (by omega) h
 have h2 := crTable t days ht
 have hlen := ht.len
 refine DCall.of Try.func39 sf39 hb39 (Nat.le_of_ble_eq_true rfl) (okRes_nil fun _ => rfl) ?_; simp only [s39, idxs, Nat.reduceAdd]
 repeat' (first|(with_reducible first|apply qA|apply qB|apply qC|apply qD|apply qE|apply qF)|(simp (disch:=omega) only [go_sem, simprocAttr, qN, qO, qP, qQ])|exact qM rfl rfl rfl|(refine qG rfl ?_)|(refine qK (h1) (by decide) ?_)|(refine qK (h2) (by decide) ?_)|(refine qH rfl ?_)|(refine qI rfl ?_ ?_<;>intro hc<;>(try simp only [go_sem] at hc))|(refine qJ ?_ ?_<;>intro hc<;>(try simp only [hc])<;>(try simp only [go_sem] at hc)))
 refine DW.loop (ι := { i : Nat // i ≤ t.length ∧ fallR l days (t.drop i) = R }) (fun i => ⟨53, [(32, dI i.1), (31, dI t.length), (30, .c (.sl false 2 (rows eK t))), (10, .box 10 0), (0, .c (.sl false 4 (rows eLd l)))], [(10, .box [.c (.sl false 2 (rows eK t)), dI days])]⟩) (fun i => t.length - i.1) ⟨0, Nat.zero_le _, hR⟩ ?_ ?_
 ·refine Ent.to ?_ ?_ <;> simp (disch:=omega) only [qR,qS,qTw,qU,get,Nat.reduceEqDiff,↓reduceIte,qV,qW,qX,qY,qZ,and_self,dI,i64_in,and_true,true_and,rA,rB,rC,rD]
 rintro ⟨i, hi, hr⟩
 rcases at_or t i hi with ⟨v, hv, hlt, hd⟩ | ⟨he, hd⟩
 ·have hm := ht.mem v (List.mem_of_getElem? hv)
  have hlow := crLowest l h (by omega) v.2 hm.2
  have hdrop : t.drop i = v :: t.drop (i + 1) := by
   have e : t[i] = v := by
    have := List.getElem?_eq_getElem hlt
    rw [hv] at this; cases this; rfl
   rw [← e]; exact List.drop_eq_getElem_cons hlt
  rw [hdrop] at hr
  by_cases hc : days < v.1
  ·have hdd : decide (days < v.1) = true := decide_eq_true hc
   have hr' : R = (0, 0, 7) := by rw [← hr, fallR, fallT, if_pos hc]
   repeat' (first|(with_reducible first|apply qA|apply qB|apply qC|apply qD|apply qE|apply qF)|(simp (disch:=omega) only [go_sem, simprocAttr, qN, qO, qP, qQ, hd, hv, hdd, rF, rG])|exact qM rfl rfl rfl|(refine qG rfl ?_)|(refine qH rfl ?_)|(refine qI rfl ?_ ?_<;>intro hc<;>(try simp only [go_sem] at hc))|(refine qJ ?_ ?_<;>intro hc<;>(try simp only [hc])<;>(try simp only [go_sem] at hc)))
   refine retS_of rfl ?_ rfl; simp only [oneD, St.op, get, Nat.reduceEqDiff, ↓reduceIte, Option.getD_some, bD, dI]
   rw [hr']
  ·have hdd : decide (days < v.1) = false := decide_eq_false hc
   cases hf : failN v.2 l with
   | none =>
    have hr' : fallR l days (t.drop (i + 1)) = R := by rw [← hr, fallR, fallR, fallT, if_neg hc, hf]
    simp only [lowR, hf] at hlow
    repeat' (first|(with_reducible first|apply qA|apply qB|apply qC|apply qD|apply qE|apply qF)|(simp (disch:=omega) only [go_sem, simprocAttr, qN, qO, qP, qQ, hd, hv, hdd, rF, rG])|exact qM rfl rfl rfl|(refine qG rfl ?_)|(refine qK (hlow) (by decide) ?_)|(refine qH rfl ?_)|(refine qI rfl ?_ ?_<;>intro hc<;>(try simp only [go_sem] at hc))|(refine qJ ?_ ?_<;>intro hc<;>(try simp only [hc])<;>(try simp only [go_sem] at hc)))
    refine ⟨⟨i + 1, hlt, hr'⟩, ?_, Ent.to ?_ ?_⟩ <;> first | (show _ < _; (try simp only); omega) | (simp (disch:=omega) only [qR,qS,qTw,qU,get,Nat.reduceEqDiff,↓reduceIte,qV,qW,qX,qY,qZ,and_self,dI,i64_in,and_true,true_and,rA,rB,rC,rD])
   | some j =>
    have hr' : R = (v.1, (j : Int), 0) := by rw [← hr, fallR, fallT, if_neg hc, hf]
    simp only [lowR, hf] at hlow
    repeat' (first|(with_reducible first|apply qA|apply qB|apply qC|apply qD|apply qE|apply qF)|(simp (disch:=omega) only [go_sem, simprocAttr, qN, qO, qP, qQ, hd, hv, hdd, rF, rG])|exact qM rfl rfl rfl|(refine qG rfl ?_)|(refine qK (hlow) (by decide) ?_)|(refine qH rfl ?_)|(refine qI rfl ?_ ?_<;>intro hc<;>(try simp only [go_sem] at hc))|(refine qJ ?_ ?_<;>intro hc<;>(try simp only [hc])<;>(try simp only [go_sem] at hc)))
    refine retS_of rfl ?_ rfl; simp only [oneD, St.op, get, Nat.reduceEqDiff, ↓reduceIte, Option.getD_some, bD, dI]
    rw [hr']
 ·rw [he, List.drop_length] at hr
  have hr' : R = (0, 0, 7) := by rw [← hr]; rfl
  repeat' (first|(with_reducible first|apply qA|apply qB|apply qC|apply qD|apply qE|apply qF)|(simp (disch:=omega) only [go_sem, simprocAttr, qN, qO, qP, qQ, hd])|exact qM rfl rfl rfl|(refine qG rfl ?_)|(refine qH rfl ?_)|(refine qI rfl ?_ ?_<;>intro hc<;>(try simp only [go_sem] at hc))|(refine qJ ?_ ?_<;>intro hc<;>(try simp only [hc])<;>(try simp only [go_sem] at hc)))
  refine retS_of rfl ?_ rfl; simp only [oneD, St.op, get, Nat.reduceEqDiff, ↓reduceIte, Option.getD_some, bD, dI]
  rw [hr']
end Go.Dw.Seat.Pa
end
section
set_option linter.unusedSimpArgs false
set_option maxRecDepth 100000
namespace Go.Dw.Seat.Pa
open Go Go.Dw Go.Proofs Go.IntWalk
theorem fall_days {st : List Lod} {l : List (Int × Int)} {days : Int} (h : TabOk l days) : (fallT st days l = none → ∀ day, 0 ≤ day → day ≤ days → failN (lastI day l 0) st = none) ∧ ∀ d i, fallT st days l = some (d, i) → (0 ≤ d ∧ d ≤ days) ∧ failN (lastI d l 0) st = some i ∧ ∀ day, 0 ≤ day → day < d → failN (lastI day l 0) st = none := by
 obtain ⟨k, t, rfl, hk⟩ := h.head
 have ha := h.asc
 have hd := h.days
 have e1 : ∀ day, 0 ≤ day → lastI day ((0, k) :: t) 0 = lastI day t k := fun day h => by rw [lastI_cons, if_pos h]
 constructor
 ·intro hf day h0 h1
  have h2 := hf
  simp only [fallT] at h2
  rw [if_neg (by omega)] at h2
  split at h2
  ·cases h2
  ·rename_i h3
   rw [e1 day h0]
   exact fall_none ha.2 h2 day k h1 h3
 ·intro d i hf
  obtain ⟨⟨h1, v, hv, hvd⟩, h2, h3⟩ := fall_some ha hf
  have hd0 : 0 ≤ d := by have := (h.mem v hv).1; omega
  refine ⟨⟨hd0, h1⟩, h2 0, fun day h0 hlt => ?_⟩
  have h4 := hf
  simp only [fallT] at h4
  rw [if_neg (by omega)] at h4
  split at h4
  ·rename_i j hj
   cases h4
   omega
  ·rename_i hj
   rw [e1 day h0]
   exact (fall_some ha.2 h4).2.2 day k hlt hj
theorem rowC_snocL (l : List Lod) (x : Lod) : rowC (rows eLd l) ++ [[D.c (.v (.int .i64 x.sl)), D.c (.v (.int .i64 x.sh)), D.c (.v (.int .i64 x.wl)), D.c (.v (.int .i64 x.wh))]] = rowC (rows eLd (l ++ [x])) := by simp [rowC, rows, eLd]
end Go.Dw.Seat.Pa
end
section
set_option linter.unusedSimpArgs false
set_option maxRecDepth 100000
namespace Go.Dw.Seat.Pa
open Go Go.Dw Go.Proofs Go.IntWalk
theorem failN_rep0 (k : Int) (b : Lod) : failN k (List.replicate 0 b) = none := failN_none (by simp)
theorem rep_ok {b : Lod} (h : b.ok) (n : Nat) : ∀ x ∈ List.replicate n b, x.ok := fun x hx => by rw [List.eq_of_mem_replicate hx]; exact h
theorem failN_rep_up {b : Lod} (h : b.ok) {k : Int} (hk : 0 ≤ k ∧ k ≤ 1000) {m n : Nat} (hmn : m ≤ n) (hn : failN k (List.replicate n b) = none) : failN k (List.replicate m b) = none := by
 cases m with
 | zero => exact failN_rep0 k b
 | succ m =>
  obtain ⟨n, rfl⟩ : ∃ j, n = j + 1 := ⟨n - 1, by omega⟩
  rw [failN_rep h hk] at hn ⊢
  have hw := h.2
  have : (m : Int) * b.wh ≤ (n : Int) * b.wh := Int.mul_le_mul_of_nonneg_right (by omega) (by omega)
  omega
theorem stack_law {b : Lod} (h : b.ok) {t : List (Int × Int)} {d D : Int} (ht : TabOk t d) (hT : TabOk t D) (n : Nat) (hn : n < 50) (hh : (n : Int) + 1 ≤ highI b t d) :
  (fallR (List.replicate (n + 1) b) d t).2.2 = 7 ∧ ((fallR (List.replicate (n + 1) b) D t).2.2 = 7 ∨ (fallR (List.replicate (n + 1) b) D t).2.2 = 0 ∧ d < (fallR (List.replicate (n + 1) b) D t).1) ∧
  ((fallR (List.replicate n b) D t).2.2 = 7 ∨ (fallR (List.replicate n b) D t).2.2 = 0 ∧ (fallR (List.replicate (n + 1) b) D t).2.2 = 0 ∧ (fallR (List.replicate (n + 1) b) D t).1 ≤ (fallR (List.replicate n b) D t).1) := by
 have hst := (high_iff h ht n hn).2 hh
 have hds := ht.days
 refine ⟨?_, ?_, ?_⟩
 ·unfold fallR
  rw [(fall_iff (rep_ok h _) ht).2 hst]
 ·unfold fallR
  cases hf : fallT (List.replicate (n + 1) b) D t with
  | none => exact .inl rfl
  | some x =>
   obtain ⟨e, i⟩ := x
   refine .inr ⟨rfl, ?_⟩
   obtain ⟨h1, h2, _⟩ := (fall_days hT).2 e i hf
   have h3 := (fall_days ht).1 ((fall_iff (rep_ok h _) ht).2 hst)
   by_cases hc : d < e
   ·exact hc
   ·have := h3 e h1.1 (by omega)
    rw [h2] at this; cases this
 ·unfold fallR
  cases hf : fallT (List.replicate n b) D t with
  | none => exact .inl rfl
  | some x =>
   obtain ⟨e, i⟩ := x
   obtain ⟨h1, h2, _⟩ := (fall_days hT).2 e i hf
   have hup : failN (lastI e t 0) (List.replicate (n + 1) b) ≠ none := fun hno => by
    have := failN_rep_up h (kept_b hT.toTabF e) (Nat.le_succ n) hno
    rw [h2] at this; cases this
   refine .inr ⟨rfl, ?_⟩
   cases hg : fallT (List.replicate (n + 1) b) D t with
   | none => exact absurd ((fall_days hT).1 hg e h1.1 h1.2) hup
   | some y =>
    obtain ⟨e', i'⟩ := y
    refine ⟨rfl, ?_⟩
    obtain ⟨_, _, h6⟩ := (fall_days hT).2 e' i' hg
    by_cases hc : e < e'
    ·exact absurd (h6 e h1.1 hc) hup
    ·show e' ≤ e
     omega
end Go.Dw.Seat.Pa
end
section
set_option linter.unusedSimpArgs false
set_option maxRecDepth 100000
namespace Go.Dw.Seat.Pa
open Go Go.Dw Go.Proofs Go.IntWalk
def rsT : List (Int × Int) := [(0, 1000), (30, 600)]
theorem rsT_ok {d : Int} (hd : 0 ≤ d ∧ d ≤ 10000) : TabOk rsT d := by
 refine ⟨⟨by decide, fun v h => ?_, fun v h => ?_, fun i u v hu hv => ?_⟩, hd⟩
 ·simp [rsT] at h; subst h; rfl
 ·simp only [rsT, List.mem_cons, List.not_mem_nil, or_false] at h
  rcases h with rfl | rfl <;> decide
 ·match i with
  | 0 => simp [rsT] at hu hv; subst hu; subst hv; decide
  | i + 1 => simp [rsT] at hv
theorem rsStrong {e r u : Int} (he : 0 ≤ e ∧ e ≤ 25500) (hr : 0 ≤ r ∧ r ≤ 3800) (hu : 1 ≤ u ∧ u ≤ 256) : 0 ≤ (e * r * u).tdiv 100000 ∧ (e * r * u).tdiv 100000 ≤ 20000000 := by
 have h1 := mulB0 (a := e) (b := r) (A := 25500) (B := 3800) he hr
 have h2 := mulB0 (a := e * r) (b := u) (A := 96900000) (B := 256) (by omega) (by omega)
 rw [Int.tdiv_eq_ediv_of_nonneg h2.1]
 omega
theorem rsHigh_b (b : Lod) (hb : b.ok) (l : List (Int × Int)) (hl : ∀ s ∈ l, 0 ≤ s.2 ∧ s.2 ≤ 1000) (days : Int) : 1 ≤ highI b l days ∧ highI b l days ≤ 50 := by
 unfold highI
 split
 ·omega
 ·have h1 := lastI_b days l 0 hl (by decide)
  have h2 := bears_b hb h1
  have hw : 0 ≤ b.wh := by have := hb.2; omega
  have h3 : 0 ≤ Int.tdiv (bearsI b (lastI days l 0)) b.wh := by
   rw [Int.tdiv_eq_ediv_of_nonneg h2.1]
   exact Int.ediv_nonneg h2.1 hw
  split <;> omega
set_option maxHeartbeats 32000000 in
theorem tpRollStrength (b b' : Bool) (x : War) (hx : x.ok) (y : ReelY) (hy : y.ok) (va vb vc : Nat) (hva : va < 256) (hvb : vb < 256) (hvc : vc < 256) :
  DCall Try.prog 6 [dWar b x, dReel b' y, .agg [d8 va, d8 vb, d8 vc]] [] (bD true) [] := by
 have hbo := arBoard
 have hro := arRoll
 have hcr := arCrush
 have hS := arStore b x hx
 have hM := arMake b x hx
 have hs := wSto_ok hx
 have hm := wMak_ok x
 have hsm := wSto_small hx
 generalize wSto x = s at *
 generalize wMak x = m at *
 have hnp := hs.np
 have hnf := hs.nf
 have hmf := hm.nf
 have hmp := hm.np
 obtain ⟨f0, hf0⟩ := getE (l := m.flutes) (i := 0) (by omega)
 have hf0' := nL_at hf0
 have hf0s := hm.flutes f0 (List.mem_of_getElem? hf0)
 have hfg := fluAt_get hf0s
 have hfo := fluAt_ok hs hf0s
 have hpi := hfo.pitch
 have hdr := hfo.draw
 have n1e : ∀ L : Int, needI s m L 1 = (L * (fluAt s f0).draw + (fluAt s f0).pitch - 1).tdiv (fluAt s f0).pitch := fun L => by
  unfold needI
  rw [if_pos rfl, show 1 / 2 = 0 from rfl, hf0]; rfl
 generalize fluAt s f0 = F at *
 have cS := arStand b' y hy F.draw F.pitch
 have hst := reelS_ok hy (num := F.draw) (den := F.pitch) (by omega) (by omega)
 have hrl := reel_len y F.draw F.pitch
 have cR := arRolls false (reelS y F.draw F.pitch) (by omega)
 have cL := rlLasts (reelS y F.draw F.pitch) hst
 have hub := usbF_b hy F.draw F.pitch (reelS y F.draw F.pitch).rolls.length (Nat.le_refl _)
 have hlw := lasts_law (s := reelS y F.draw F.pitch) rfl hub.1 (by show 1 ≤ F.pitch; omega) (by show F.pitch ≤ F.draw; omega)
 generalize hST : reelS y F.draw F.pitch = S at *
 have hSd : S.den = F.pitch := by rw [← hST]; rfl
 have hSn : S.num = F.draw := by rw [← hST]; rfl
 rw [hSd, hSn] at hlw
 obtain ⟨⟨q1, q2⟩, q3⟩ := hlw
 generalize (lastsI S).1 = n at *
 generalize (lastsI S).2 = nh at *
 have hU : usbF S S.rolls.length ≤ 12755 := by omega
 have hsb := strongI_b hs hm 2550 (by decide) hsm.strong
 have hcp := calI_pos hs hm
 have hch := cal_hi hm hsm
 have hwh := weight_hi hs hm hsm
 have cM := bdMeasure s m hs hm
 have cE := bdStrength s m hs hm
 have a0 := arOwn s (by omega) (by omega)
 have aM := arMade m (by omega) (by omega)
 generalize moistI loE s m = w1 at *
 generalize moistI hiE s m = w2 at *
 generalize calI loE s m = cl at *
 generalize calI hiE s m = ch at *
 generalize strongI s m = e at *
 obtain ⟨lg, hlg⟩ : ∃ lg : Int, 200 + 2 * (va : Int) = lg := ⟨_, rfl⟩
 have hlb : 200 ≤ lg ∧ lg ≤ 710 := by omega
 obtain ⟨bx, hbx⟩ : ∃ bx : Nat, n.tdiv lg = (bx : Int) := ⟨(n.tdiv lg).toNat, by rw [Int.tdiv_eq_ediv_of_nonneg q1]; have := Int.ediv_nonneg q1 (show 0 ≤ lg by omega); omega⟩
 have hbl : (bx : Int) * lg ≤ n := by rw [← hbx, Int.tdiv_eq_ediv_of_nonneg q1]; exact Int.ediv_mul_le _ (by omega)
 have hbl0 : 0 ≤ (bx : Int) * lg := Int.mul_nonneg (by omega) (by omega)
 have hbb : (bx : Int) ≤ 20000 := by
  rw [← hbx, Int.tdiv_eq_ediv_of_nonneg q1]
  exact Int.le_trans (Int.ediv_le_self _ q1) (by omega)
 have cN := rlNeed s m hs hm ((bx : Int) * lg) (by omega)
 have hq3 := q3 ((bx : Int) * lg) hbl0 hbl
 rw [← n1e] at hq3
 have g0 : (needL s m ((bx : Int) * lg) m.papers.length)[0]? = some ((bx : Int) * lg) := by
  unfold needL
  rw [List.getElem?_map, List.getElem?_range (by omega)]; rfl
 have g1 : (needL s m ((bx : Int) * lg) m.papers.length)[1]? = some (needI s m ((bx : Int) * lg) 1) := by
  unfold needL
  rw [List.getElem?_map, List.getElem?_range (by omega)]; rfl
 have gl : (needL s m ((bx : Int) * lg) m.papers.length).length = m.papers.length := needL_len _ _ _ _
 generalize needI s m ((bx : Int) * lg) 1 = nd at *
 generalize needL s m ((bx : Int) * lg) m.papers.length = NL at *
 have hc0 : 0 ≤ cl * (2 * lg) := Int.mul_nonneg (by omega) (by omega)
 have hc1 : cl * (2 * lg) ≤ ch * (2 * lg) := Int.mul_le_mul_of_nonneg_right (by omega) (by omega)
 have hc2 := mulB0 (a := ch) (b := 2 * lg) (A := 10000) (B := 1420) (by omega) (by omega)
 obtain ⟨rl, hrl'⟩ := root_of hc0
 obtain ⟨rh, hrh⟩ := root_of (Int.le_trans hc0 hc1)
 have hrr := hrl'.mono hrh hc1
 have hr38 := (hrh.le (k := 3800) (by decide)).1 (by omega)
 have hvr : 1 ≤ 1 + (vb : Int) ∧ 1 + (vb : Int) ≤ 256 := by omega
 have hl0 := hrl'.pos
 have st1 := rsStrong (e := e) (r := rl) (u := 1 + (vb : Int)) (by omega) (by omega) hvr
 have st2 := rsStrong (e := e) (r := rh) (u := 1 + (vb : Int)) (by omega) (by have := hrh.pos; omega) hvr
 have st3 := strong_mono (e := e) (u := 1 + (vb : Int)) (by omega) hl0 hrr (by omega)
 have cT := crStrength ⟨e, e, cl, ch, 2 * lg, 1 + (vb : Int)⟩ ⟨by dsimp only; omega, by dsimp only; omega, by dsimp only; omega, by dsimp only; omega⟩ rl rh hrl' hrh
 dsimp only at cT
 generalize (e * rl * (1 + (vb : Int))).tdiv 100000 = t1 at *
 generalize (e * rh * (1 + (vb : Int))).tdiv 100000 = t2 at *
 have s1 := arSpan e e
 have e1 : w1.tdiv 10 = w1 / 10 := Int.tdiv_eq_ediv_of_nonneg hwh.1
 have e2 : w2.tdiv 10 = w2 / 10 := Int.tdiv_eq_ediv_of_nonneg (by omega)
 have s2 := arSpan (w1 / 10) (w2 / 10 + 1)
 obtain ⟨B, hB⟩ : ∃ B : Lod, B = ⟨t1, t2, w1 / 10, w2 / 10 + 1⟩ := ⟨_, rfl⟩
 have hBo : B.ok := by rw [hB]; exact ⟨by dsimp only; omega, by dsimp only; omega⟩
 have tOk : TabOk rsT (vc : Int) := rsT_ok (by omega)
 have hHi := crHigh ⟨t1, t2, w1 / 10, w2 / 10 + 1⟩ (by rw [← hB]; exact hBo) rsT (vc : Int) tOk
 have hHi : DCall Try.prog 38 [.agg [dI t1, dI t2, dI (w1 / 10), dI (w2 / 10 + 1)], .c (.sl true 2 (rows eK rsT)), dI vc] [] _ [] := DCall.lbl hHi rfl (.same (.sl (.same .nil)))
 rw [← hB] at hHi
 have hgb := rsHigh_b B hBo rsT (fun s hs => (tOk.mem s hs).2) (vc : Int)
 have hlaw := fun (k : Nat) (hk : k < 50) (hh : (k : Int) + 1 ≤ highI B rsT (vc : Int)) => (stack_law hBo tOk tOk k hk hh).1
 obtain ⟨hg, hhg⟩ : ∃ hg : Nat, highI B rsT (vc : Int) = hg := ⟨(highI B rsT (vc : Int)).toNat, by omega⟩
 rw [hhg] at hHi hgb hlaw
 obtain ⟨nn, hnn⟩ : ∃ nn : Nat, nn = min hg bx := ⟨_, rfl⟩
 have hF7 : (fallR (List.replicate nn B) (vc : Int) rsT).2.2 = 7 := by
  rcases Nat.eq_zero_or_pos nn with h0 | h0
  ·rw [h0]
   unfold fallR
   rw [(fall_iff (rep_ok hBo 0) tOk).2 (failN_rep0 _ B)]
  ·obtain ⟨k, rfl⟩ : ∃ k, nn = k + 1 := ⟨nn - 1, by omega⟩
   exact hlaw k (by omega) (by omega)
 have cF := crFall (List.replicate nn B) (rep_ok hBo nn) (by rw [List.length_replicate]; omega) rsT (vc : Int) tOk
 generalize fallR (List.replicate nn B) (vc : Int) rsT = FR at *
 obtain ⟨fr1, fr2, fr3⟩ := FR
 obtain rfl : fr3 = 7 := hF7
 dsimp only at cF
 have hl1 : (nL m.papers).length = m.papers.length := nL_length _
 have d1 : decide (n < 0) = false := decide_eq_false (by omega)
 have d2 : decide (20000 < n) = false := decide_eq_false (by omega)
 have d3 : decide (e < 0) = false := decide_eq_false (by omega)
 have d4 : decide (100000 < e) = false := decide_eq_false (by omega)
 have d5 : decide (cl < 1) = false := decide_eq_false (by omega)
 have d6 : decide (10000 < ch) = false := decide_eq_false (by omega)
 have d7 : decide (w1 < 0) = false := decide_eq_false (by omega)
 have d8' : decide (10000 < w2) = false := decide_eq_false (by omega)
 have z1 : (lg = 0) = False := eq_false (by omega)
 have l4 : ((m.papers.length : Int) != (m.papers.length : Int)) = false := by simp
 clear hlaw
 refine DCall.of Try.func6 sf6 hb6 (Nat.le_of_ble_eq_true rfl) (okRes_nil fun _ => rfl) ?_; simp only [s6, o6_0, o6_1, o6_2, o6_3, o6_4, o6_5, o6_6, o6_7, o6_8, o6_9, o6_10, o6_11, o6_12, o6_13, o6_14, o6_15, o6_16, o6_17, o6_18, o6_19, o6_20, o6_21, o6_22, o6_23, o6_24, o6_25, o6_26, o6_27, o6_28, o6_29, o6_30, o6_31, o6_32, o6_33, o6_34, o6_35, o6_36, o6_37, o6_38, o6_39, o6_40, o6_41, o6_42, o6_43, o6_44, idxs, Nat.reduceAdd]
 repeat' (first|(with_reducible first|apply qA|apply qB|apply qC|apply qD|apply qE|apply qF)|(refine qL rfl (WF.of ?_) ?_; first|rfl|skip)|(refine DW.ord rfl (WF.of (by first|rfl|simp (disch:=omega) only [go_sem, simprocAttr, qN, qO, qP, qQ, hf0', hfg, hlg, hbx, z1, gl, hl1, l4, d1, d2, d3, d4, d5, d6, d7, d8', rF, rG])) ?_ ?_ ?_; rotate_left)|rfl|(with_reducible refine And.intro ?_ ?_)|(simp (disch:=omega) only [go_sem, simprocAttr, qN, qO, qP, qQ, hf0', hfg, hlg, hbx, z1, gl, hl1, l4, d1, d2, d3, d4, d5, d6, d7, d8', rF, rG])|exact qM rfl rfl rfl|(refine qG rfl ?_)|(refine qK (hS) (by decide) ?_)|(refine qK (hM) (by decide) ?_)|(refine qK (cS) (by decide) ?_)|(refine qK (cR) (by decide) ?_)|(refine qK (cL) (by decide) ?_)|(refine qK (cE) (by decide) ?_)|(refine qK (cM) (by decide) ?_)|(refine qK (a0) (by decide) ?_)|(refine qK (aM) (by decide) ?_)|(refine qK (cN) (by decide) ?_)|(refine qH rfl ?_)|(refine qI rfl ?_ ?_<;>intro hc<;>(try simp only [go_sem] at hc))|(refine qJ ?_ ?_<;>intro hc<;>(try simp only [hc])<;>(try simp only [go_sem] at hc)))
 clear hS hM cS cR cL cE cM a0 aM cN
 refine DW.loop (ι := { i : Nat // i ≤ S.rolls.length }) (fun i => ⟨273, [(23, dI i.1), (22, dI (usbF S i.1)), (20, .c (.sl false 1 (rows eI NL))), (19, dI bx), (18, dI lg), (16, .box 16 0), (15, .box 15 0), (13, dI e), (10, .box 10 0), (5, .box 5 0)], [(16, .box [dI cl, dI ch]), (15, .box [dI w1, dI w2]), (10, .box [dI S.num, dI S.den, dI S.tail, .c (.sl false 2 (rows eSp S.rolls))]), (5, .box [d8 va, d8 vb, d8 vc])]⟩) (fun i => S.rolls.length - i.1) ⟨0, Nat.zero_le _⟩ ?_ ?_
 ·refine Ent.to ?_ ?_ <;> simp (disch:=omega) only [qR,qS,qTw,qU,get,Nat.reduceEqDiff,↓reduceIte,qV,qW,qX,qY,qZ,and_self,dI,i64_in,and_true,true_and,rA,rB,rC,rD,usbF,List.take_zero,endF]
  all_goals exact .refl _
 rintro ⟨i, hi⟩
 dsimp only
 rcases at_or S.rolls i hi with ⟨r, hr, hlt, hd⟩ | ⟨he, hd⟩
 ·have hnx := usbF_succ S hr
  have hb0 := usbF_b hy F.draw F.pitch i (by rw [hST]; omega)
  rw [hST] at hb0
  have hrb := hst.rolls r (List.mem_of_getElem? hr)
  have htl := hst.tail
  generalize usbF S i = u0 at *
  generalize hu1 : usbF S (i + 1) = u1 at *
  repeat' (first|(with_reducible first|apply qA|apply qB|apply qC|apply qD|apply qE|apply qF)|(refine qL rfl (WF.of ?_) ?_; first|rfl|skip)|(refine DW.ord rfl (WF.of (by first|rfl|simp (disch:=omega) only [go_sem, simprocAttr, qN, qO, qP, qQ, hd, hr, rF, rG])) ?_ ?_ ?_; rotate_left)|rfl|(with_reducible refine And.intro ?_ ?_)|(simp (disch:=omega) only [go_sem, simprocAttr, qN, qO, qP, qQ, hd, hr, rF, rG])|exact qM rfl rfl rfl|(refine qG rfl ?_)|(refine qH rfl ?_)|(refine qI rfl ?_ ?_<;>intro hc<;>(try simp only [go_sem] at hc))|(refine qJ ?_ ?_<;>intro hc<;>(try simp only [hc])<;>(try simp only [go_sem] at hc)))
  refine ⟨⟨i + 1, hlt⟩, ?_, Ent.to ?_ ?_⟩ <;> first | (show _ < _; (try simp only); omega) | (simp (disch:=omega) only [qR,qS,qTw,qU,get,Nat.reduceEqDiff,↓reduceIte,qV,qW,qX,qY,qZ,and_self,dI,i64_in,and_true,true_and,rA,rB,rC,rD, hu1,hnx])
  all_goals exact .refl _
 ·subst he
  generalize usbF S S.rolls.length = U at *
  have k1 : decide (U < nd) = false := decide_eq_false (by omega)
  have k2 : ((bx : Int) * lg != (bx : Int) * lg) = false := by simp
  have ud5 : Try.prog.underlying 5 = some (.int .u8) := by kernel_rfl
  have k3 : decide ((hg : Int) < 1) = false := decide_eq_false (by omega)
  have k4 : decide (50 < (hg : Int)) = false := decide_eq_false (by omega)
  repeat' (first|(with_reducible first|apply qA|apply qB|apply qC|apply qD|apply qE|apply qF)|(refine qL rfl (WF.of ?_) ?_; first|rfl|skip)|(refine DW.ord rfl (WF.of (by first|rfl|simp (disch:=omega) only [go_sem, simprocAttr, qN, qO, qP, qQ, hd, g0, g1, k1, k2, k3, k4, ud5, e1, e2])) ?_ ?_ ?_; rotate_left)|rfl|(with_reducible refine And.intro ?_ ?_)|(simp (disch:=omega) only [go_sem, simprocAttr, qN, qO, qP, qQ, hd, g0, g1, k1, k2, k3, k4, ud5, e1, e2])|exact qM rfl rfl rfl|(refine qG rfl ?_)|(refine qK (s1) (by decide) ?_)|(refine qK (cT) (by decide) ?_)|(refine qK (s2) (by decide) ?_)|(refine qK (hHi) (by decide) ?_)|(refine qH rfl ?_)|(refine qI rfl ?_ ?_<;>intro hc<;>(try simp only [go_sem] at hc))|(refine qJ ?_ ?_<;>intro hc<;>(try simp only [hc])<;>(try simp only [go_sem] at hc)))
  clear s1 cT s2 hHi
  have hmin : (if (bx : Int) < (hg : Int) then (bx : Int) else (hg : Int)) = (nn : Int) := by rw [hnn]; split <;> omega
  refine DW.loop (ι := { i : Nat // i ≤ nn }) (fun i => ⟨273, [(31, dI i.1), (30, .own 240), (28, dI hg), (27, .own 214), (26, .box 26 0), (19, dI bx), (5, .box 5 0)], [(240, .row 4 (rowC (rows eLd (List.replicate i.1 B)))), (214, .row 2 (rowC (rows eK rsT))), (26, .box [dI B.sl, dI B.sh, dI B.wl, dI B.wh]), (5, .box [d8 va, d8 vb, d8 vc])]⟩) (fun i => nn - i.1) ⟨0, Nat.zero_le _⟩ ?_ ?_
  ·refine Ent.to ?_ ?_ <;> simp (disch:=omega) only [qR,qS,qTw,qU,get,Nat.reduceEqDiff,↓reduceIte,qV,qW,qX,qY,qZ,and_self,dI,i64_in,and_true,true_and,rA,rB,rC,rD,List.replicate_zero,hB]
   all_goals first | exact ⟨.refl _, .refl _, .refl _, .refl _⟩ | exact ⟨.refl _, .refl _, .refl _⟩ | exact ⟨.refl _, .refl _⟩ | exact .refl _
  rintro ⟨i, hi⟩
  dsimp only
  by_cases hik : i < nn
  ·have hdi : decide ((i : Int) < (nn : Int)) = true := decide_eq_true (by omega)
   have hrp : List.replicate (i + 1) B = List.replicate i B ++ [B] := List.replicate_succ'
   have hrln : (List.replicate i B).length ≤ 50 := by rw [List.length_replicate]; omega
   have hsc2 : rowC (rows eLd (List.replicate i B)) ++ [[D.c (.v (.int .i64 B.sl)), D.c (.v (.int .i64 B.sh)), D.c (.v (.int .i64 B.wl)), D.c (.v (.int .i64 B.wh))]] = rowC (rows eLd (List.replicate (i + 1) B)) := by rw [hrp]; simp [rowC, rows, eLd]
   clear cF
   generalize List.replicate i B = Z at *
   generalize hA1 : List.replicate (i + 1) B = Z1 at *
   repeat' (first|(with_reducible first|apply qA|apply qB|apply qC|apply qD|apply qE|apply qF)|(refine qL rfl (WF.of ?_) ?_; first|rfl|skip)|(refine DW.ord rfl (WF.of (by first|rfl|simp (disch:=omega) only [go_sem, simprocAttr, qN, qO, qP, qQ, hmin, hdi, hsc2])) ?_ ?_ ?_; rotate_left)|rfl|(with_reducible refine And.intro ?_ ?_)|(simp (disch:=omega) only [go_sem, simprocAttr, qN, qO, qP, qQ, hmin, hdi, hsc2])|exact qM rfl rfl rfl|(refine qG rfl ?_)|(refine qH rfl ?_)|(refine qI rfl ?_ ?_<;>intro hc<;>(try simp only [go_sem] at hc))|(refine qJ ?_ ?_<;>intro hc<;>(try simp only [hc])<;>(try simp only [go_sem] at hc)))
   refine ⟨⟨i + 1, by omega⟩, ?_, Ent.to ?_ ?_⟩ <;> first | (show _ < _; (try simp only); omega) | (simp (disch:=omega) only [qR,qS,qTw,qU,get,Nat.reduceEqDiff,↓reduceIte,qV,qW,qX,qY,qZ,and_self,dI,i64_in,and_true,true_and,rA,rB,rC,rD, hsc2,hA1])
   all_goals first | exact ⟨.refl _, .refl _, .refl _, .refl _⟩ | exact ⟨.refl _, .refl _, .refl _⟩ | exact ⟨.refl _, .refl _⟩ | exact .refl _
  obtain rfl : i = nn := by omega
  have hdi : decide ((i : Int) < (i : Int)) = false := decide_eq_false (by omega)
  generalize List.replicate i B = Z at *
  (refine DW.ent (Ent.rel 240 rfl) ?_; simp (disch:=omega) only [go_sem,simprocAttr,qN,qO,qP,qQ])
  (refine DW.ent (Ent.rel 214 rfl) ?_; simp (disch:=omega) only [go_sem,simprocAttr,qN,qO,qP,qQ])
  repeat' (first|(with_reducible first|apply qA|apply qB|apply qC|apply qD|apply qE|apply qF)|(refine qL rfl (WF.of ?_) ?_; first|rfl|skip)|(refine DW.ord rfl (WF.of (by first|rfl|simp (disch:=omega) only [go_sem, simprocAttr, qN, qO, qP, qQ, hmin, hdi, ud5])) ?_ ?_ ?_; rotate_left)|rfl|(with_reducible refine And.intro ?_ ?_)|(simp (disch:=omega) only [go_sem, simprocAttr, qN, qO, qP, qQ, hmin, hdi, ud5])|exact qM rfl rfl rfl|(refine qG rfl ?_)|(refine qK (cF) (by decide) ?_)|(refine qK (hbo) (by decide) ?_)|(refine qK (hcr) (by decide) ?_)|(refine qK (hro) (by decide) ?_)|(refine qH rfl ?_)|(refine qI rfl ?_ ?_<;>intro hc<;>(try simp only [go_sem] at hc))|(refine qJ ?_ ?_<;>intro hc<;>(try simp only [hc])<;>(try simp only [go_sem] at hc)))
end Go.Dw.Seat.Pa
end
section
set_option linter.unusedSimpArgs false
set_option maxRecDepth 100000
namespace Go.Dw.Seat
open Go Go.Dw Go.Proofs Go.IntWalk
structure T3 where
 v0 : Nat
 v1 : Nat
 v2 : Nat
structure T3.ok (v : T3) : Prop where
 v0 : v.v0 < 256
 v1 : v.v1 < 256
 v2 : v.v2 < 256
def eT3 (v : T3) : List C := [.v (.int .u8 v.v0), .v (.int .u8 v.v1), .v (.int .u8 v.v2)]
attribute [go_sem] eT3
structure TripY where
 r0 : Nat
 r1 : Nat
 s0 : Nat
 s1 : Nat
 l : List T3
structure TripY.ok (x : TripY) : Prop where
 r0 : x.r0 < 256
 r1 : x.r1 < 256
 s0 : x.s0 < 256
 s1 : x.s1 < 256
 m : x.l.length ≤ maxLen
 l : ∀ v ∈ x.l, v.ok
end Go.Dw.Seat
end
section
set_option linter.unusedSimpArgs false
set_option maxRecDepth 100000
namespace Go.Dw.Seat
open Go Go.Dw Go.Proofs Go.IntWalk
def AllLt (b : Nat) (l : List Nat) : Prop := ∀ x ∈ l, x < b
def eN (l : List Nat) : List C := l.map fun n : Nat => .v (.int .u8 (n : Int))
def e1 (n : Nat) : List C := [.v (.int .u8 n)]
end Go.Dw.Seat
end
section
set_option linter.unusedSimpArgs false
set_option maxRecDepth 100000
namespace Go.Dw.Seat.Pa
open Go Go.Dw Go.Proofs Go.IntWalk
theorem rollStrengthY (x : War) (hx : x.ok) (y : ReelY) (hy : y.ok) (s : List Nat) (hs : s.length = 3 ∧ AllLt 256 s) :
  DCall Try.prog 6 [dWar false x, dReel false y, .agg ((eN s).map D.c)] [] (bD true) [] := by
 obtain ⟨h3, h4⟩ := hs
 match s, h3 with
 | [u, v, w], _ => exact tpRollStrength false false x hx y hy u v w (h4 _ (by simp)) (h4 _ (by simp)) (h4 _ (by simp))
end Go.Dw.Seat.Pa
end
section
set_option linter.unusedSimpArgs false
set_option maxRecDepth 100000
namespace Go.Dw.Seat.Pa
open Go Go.Dw Go.Proofs Go.ChangeShapes Go.WideShapes Go.ChangeAt Go.RowKit
theorem tOwn : ownKnob Try.prog.godebug = none := by kernel_rfl
theorem tLaid : laidOutB Try.prog = true := by kernel_rfl
theorem u4 : Try.prog.underlying 4 = some .bool := by kernel_rfl
theorem uT5 : Try.prog.underlying 5 = some (.int .u8) := by kernel_rfl
theorem clT5 : Try.prog.cellsOf 5 = 1 := by kernel_rfl
def bV (l : List Nat) : List Value := l.map fun n : Nat => Value.int .u8 (n : Int)
section
variable {H : Type} {enc : TypeId × Value → H} {w : World} {base : Nat} {spare : Nat → Bool} {held : Bool}
theorem wf8 {n : Int} (h : (Lit.int .u8 n).wf = true) : ∃ v : Nat, n = v ∧ v < 256 := by
 have e1 : IntKind.min .u8 = 0 := by decide
 have e2 : IntKind.max .u8 = 255 := by decide
 simp only [Lit.wf, e1, e2, Bool.and_eq_true, decide_eq_true_eq] at h
 exact ⟨n.toNat, by omega, by omega⟩
theorem rep_bytes : ∀ l : List Nat, RepVs w A0 (eN l) (bV l)
 | [] => rfl
 | _ :: l => ⟨_, _, rfl, ⟨rfl, rfl⟩, rep_bytes l⟩
theorem rd_Byte {fuel : Nat} {cs : List Value} {x : DataW H × List MemPlace} (h : DataW.trod enc Try.prog w base spare held fuel 5 cs = some x) : ∃ v : Nat, cs = [.int .u8 v] ∧ v < 256 := by
 obtain ⟨n, e, hw⟩ := rd_int uT5 h
 obtain ⟨v, rfl, hv⟩ := wf8 hw
 exact ⟨v, e, hv⟩
theorem rd_U8 {fuel : Nat} {cs : List Value} {x : DataW H × List MemPlace} (h : DataW.trod enc Try.prog w base spare held fuel 5 cs = some x) : ∃ l : List Nat, (l.length = 1 ∧ AllLt 256 l) ∧ cs = bV l := by
 obtain ⟨n, e, hw⟩ := rd_int uT5 h
 obtain ⟨v, rfl, hv⟩ := wf8 hw
 exact ⟨[v], ⟨rfl, fun x hx => by rw [List.mem_singleton] at hx; rw [hx]; exact hv⟩, e⟩
theorem bV_app (a b : List Nat) : bV (a ++ b) = bV a ++ bV b := by simp [bV]
theorem lt_app {b : Nat} {l l' : List Nat} (h : AllLt b l) (h' : AllLt b l') : AllLt b (l ++ l') := fun x hx => by
 rcases List.mem_append.1 hx with h1 | h1
 ·exact h x h1
 ·exact h' x h1
theorem rd_arrB {fuel : Nat} {cs : List Value} {x : DataW H × List MemPlace} {t e : TypeId} {n k : Nat} (ht : Try.prog.underlying t = some (.array n e)) (he : Try.prog.cellsOf e = k) (hc : Try.prog.cellsOf t = n * k)
  (hrd : ∀ m cs x, DataW.trod enc Try.prog w base spare held m e cs = some x → ∃ l : List Nat, (l.length = k ∧ AllLt 256 l) ∧ cs = bV l) (h : DataW.trod enc Try.prog w base spare held fuel t cs = some x) : ∃ l : List Nat, (l.length = n * k ∧ AllLt 256 l) ∧ cs = bV l := by
 obtain ⟨hl, m, hf⟩ := rd_array ht h
 rw [hc] at hl
 have key : ∀ j, j ≤ n → ∃ l : List Nat, (l.length = j * k ∧ AllLt 256 l) ∧ cs.take (j * k) = bV l := by
  intro j
  induction j with
  | zero => intro _; exact ⟨[], ⟨by simp, fun x hx => by cases hx⟩, by simp [bV]⟩
  | succ j ih =>
   intro hj
   obtain ⟨l, ⟨h1, h2⟩, h3⟩ := ih (by omega)
   obtain ⟨y, hy⟩ := hf j (by omega)
   rw [he] at hy
   obtain ⟨l', ⟨h4, h5⟩, h6⟩ := hrd _ _ _ hy
   refine ⟨l ++ l', ⟨by rw [List.length_append, h1, h4, Nat.succ_mul], lt_app h2 h5⟩, ?_⟩
   rw [Nat.succ_mul, List.take_add, h3, h6, bV_app]
 obtain ⟨l, h1, h2⟩ := key n (Nat.le_refl _)
 rw [List.take_of_length_le (by omega)] at h2
 exact ⟨l, h1, h2⟩
theorem uT118 : Try.prog.underlying 118 = some (.array 6 5) := by kernel_rfl
theorem clT118 : Try.prog.cellsOf 118 = 6 := by kernel_rfl
theorem rd_T118 {fuel : Nat} {cs : List Value} {x : DataW H × List MemPlace} (h : DataW.trod enc Try.prog w base spare held fuel 118 cs = some x) : ∃ l : List Nat, (l.length = 6 ∧ AllLt 256 l) ∧ cs = bV l := rd_arrB (n := 6) (k := 1) uT118 clT5 clT118 (fun _ _ _ h => rd_U8 h) h
theorem uT71 : Try.prog.underlying 71 = some (.array 3 5) := by kernel_rfl
theorem clT71 : Try.prog.cellsOf 71 = 3 := by kernel_rfl
theorem rd_T71 {fuel : Nat} {cs : List Value} {x : DataW H × List MemPlace} (h : DataW.trod enc Try.prog w base spare held fuel 71 cs = some x) : ∃ l : List Nat, (l.length = 3 ∧ AllLt 256 l) ∧ cs = bV l := rd_arrB (n := 3) (k := 1) uT71 clT5 clT71 (fun _ _ _ h => rd_U8 h) h
theorem uT24 : Try.prog.underlying 24 = some (.slice 5) := by kernel_rfl
theorem clT24 : Try.prog.cellsOf 24 = 1 := by kernel_rfl
theorem rd_T24 {fuel : Nat} {cs : List Value} {x : DataW H × List MemPlace} (h : DataW.trod enc Try.prog w base spare held fuel 24 cs = some x) : ∃ (l : List Nat) (v : Value), cs = [v] ∧ RepC w A0 (.sl false 1 (rows e1 l)) v ∧ l.length ≤ maxLen ∧ AllLt 256 l := by
 obtain ⟨l, v, e', hr, hm, _⟩ := rd_slice (f := fun v : {v : Nat // v < 256} => e1 v.1) uT24 clT5 (by decide) (fun _ => rfl) (fun m cs x h => by
  obtain ⟨n, e, hw⟩ := rd_int uT5 h
  obtain ⟨v, rfl, hv⟩ := wf8 hw
  subst e
  exact ⟨⟨v, hv⟩, _, _, rfl, ⟨rfl, rfl⟩, rfl⟩) h
 refine ⟨l.map (·.1), v, e', ?_, by simpa using hm, fun u hu => ?_⟩
 ·have : rows e1 (l.map (·.1)) = rows (fun v : {v : Nat // v < 256} => e1 v.1) l := by simp [rows, Function.comp_def]
  rw [this]; exact hr
 ·obtain ⟨a, _, rfl⟩ := List.mem_map.1 hu
  exact a.2
theorem uT22 : Try.prog.underlying 22 = some (.slice 118) := by kernel_rfl
theorem clT22 : Try.prog.cellsOf 22 = 1 := by kernel_rfl
theorem rd_W6 {fuel : Nat} {cs : List Value} {x : DataW H × List MemPlace} (h : DataW.trod enc Try.prog w base spare held fuel 118 cs = some x) : ∃ v : {v : V6 // v.ok}, RepVs w A0 (e6 v.1) cs := by
 obtain ⟨l, ⟨h1, h2⟩, h3⟩ := rd_T118 h
 subst h3
 match l, h1 with
 | [a, b, c, d, e, f], _ => exact ⟨⟨⟨a, b, c, d, e, f⟩, h2 a (by simp), h2 b (by simp), h2 c (by simp), h2 d (by simp), h2 e (by simp), h2 f (by simp)⟩, _, _, rfl, ⟨rfl, rfl⟩, _, _, rfl, ⟨rfl, rfl⟩, _, _, rfl, ⟨rfl, rfl⟩, _, _, rfl, ⟨rfl, rfl⟩, _, _, rfl, ⟨rfl, rfl⟩, _, _, rfl, ⟨rfl, rfl⟩, rfl⟩
theorem rd_X22 {fuel : Nat} {cs : List Value} {x : DataW H × List MemPlace} (h : DataW.trod enc Try.prog w base spare held fuel 22 cs = some x) : ∃ (l : List V6) (v : Value), cs = [v] ∧ RepC w A0 (.sl false 6 (rows e6 l)) v ∧ l.length ≤ maxLen ∧ ∀ v ∈ l, v.ok := by
 obtain ⟨l, v, e', hr, hm, _⟩ := rd_slice (f := fun v : {v : V6 // v.ok} => e6 v.1) uT22 clT118 (by decide) (fun _ => rfl) (fun m cs x h => rd_W6 h) h
 refine ⟨l.map (·.1), v, e', ?_, by simpa using hm, fun u hu => ?_⟩
 ·have : rows e6 (l.map (·.1)) = rows (fun v : {v : V6 // v.ok} => e6 v.1) l := by simp [rows, Function.comp_def]
  rw [this]; exact hr
 ·obtain ⟨a, _, rfl⟩ := List.mem_map.1 hu
  exact a.2
theorem uT23 : Try.prog.underlying 23 = some (.slice 71) := by kernel_rfl
theorem clT23 : Try.prog.cellsOf 23 = 1 := by kernel_rfl
theorem rd_W3 {fuel : Nat} {cs : List Value} {x : DataW H × List MemPlace} (h : DataW.trod enc Try.prog w base spare held fuel 71 cs = some x) : ∃ v : {v : V3 // v.ok}, RepVs w A0 (e3 v.1) cs := by
 obtain ⟨l, ⟨h1, h2⟩, h3⟩ := rd_T71 h
 subst h3
 match l, h1 with
 | [a, b, c], _ => exact ⟨⟨⟨a, b, c⟩, h2 a (by simp), h2 b (by simp), h2 c (by simp)⟩, _, _, rfl, ⟨rfl, rfl⟩, _, _, rfl, ⟨rfl, rfl⟩, _, _, rfl, ⟨rfl, rfl⟩, rfl⟩
theorem rd_X23 {fuel : Nat} {cs : List Value} {x : DataW H × List MemPlace} (h : DataW.trod enc Try.prog w base spare held fuel 23 cs = some x) : ∃ (l : List V3) (v : Value), cs = [v] ∧ RepC w A0 (.sl false 3 (rows e3 l)) v ∧ l.length ≤ maxLen ∧ ∀ v ∈ l, v.ok := by
 obtain ⟨l, v, e', hr, hm, _⟩ := rd_slice (f := fun v : {v : V3 // v.ok} => e3 v.1) uT23 clT71 (by decide) (fun _ => rfl) (fun m cs x h => rd_W3 h) h
 refine ⟨l.map (·.1), v, e', ?_, by simpa using hm, fun u hu => ?_⟩
 ·have : rows e3 (l.map (·.1)) = rows (fun v : {v : V3 // v.ok} => e3 v.1) l := by simp [rows, Function.comp_def]
  rw [this]; exact hr
 ·obtain ⟨a, _, rfl⟩ := List.mem_map.1 hu
  exact a.2
theorem uT26 : structIs Try.prog 26 [(22, 0), (23, 1), (24, 2)] = true := by kernel_rfl
theorem clT26 : Try.prog.cellsOf 26 = 3 := by kernel_rfl
def cWar (x : War) : List C := [.sl false 6 (rows e6 x.papers), .sl false 3 (rows e3 x.flutes), .sl false 1 (rows eY x.by')]
theorem rd_T26 {fuel : Nat} {cs : List Value} {x : DataW H × List MemPlace} (h : DataW.trod enc Try.prog w base spare held fuel 26 cs = some x) : ∃ s : War, s.ok ∧ RepVs w A0 (cWar s) cs := by
 obtain ⟨hl, m, hf⟩ := rd_struct uT26 h
 rw [clT26] at hl
 obtain ⟨y0, h0⟩ := hf 0 22 0 rfl
 obtain ⟨y1, h1⟩ := hf 1 23 1 rfl
 obtain ⟨y2, h2⟩ := hf 2 24 2 rfl
 rw [clT22] at h0
 rw [clT23] at h1
 rw [clT24] at h2
 obtain ⟨L0, v0, e0, r0, m0, p0⟩ := rd_X22 h0
 obtain ⟨L1, v1, e1, r1, m1, p1⟩ := rd_X23 h1
 obtain ⟨L2, v2, e2, r2, m2, p2⟩ := rd_T24 h2
 match cs, hl with
 | [c0, c1, c2], _ =>
  simp at e0 e1 e2
  subst e0; subst e1; subst e2
  exact ⟨⟨L0, L1, L2⟩, ⟨p0, p1, p2⟩, _, _, rfl, r0, _, _, rfl, r1, _, _, rfl, r2, rfl⟩
theorem uT27 : Try.prog.underlying 27 = some (.array 2 5) := by kernel_rfl
theorem clT27 : Try.prog.cellsOf 27 = 2 := by kernel_rfl
theorem rd_T27 {fuel : Nat} {cs : List Value} {x : DataW H × List MemPlace} (h : DataW.trod enc Try.prog w base spare held fuel 27 cs = some x) : ∃ l : List Nat, (l.length = 2 ∧ AllLt 256 l) ∧ cs = bV l := rd_arrB (n := 2) (k := 1) uT27 clT5 clT27 (fun _ _ _ h => rd_U8 h) h
theorem uT96 : Try.prog.underlying 96 = some (.slice 27) := by kernel_rfl
theorem clT96 : Try.prog.cellsOf 96 = 1 := by kernel_rfl
theorem rd_T2 {fuel : Nat} {cs : List Value} {x : DataW H × List MemPlace} (h : DataW.trod enc Try.prog w base spare held fuel 27 cs = some x) : ∃ v : {v : T2 // v.ok}, RepVs w A0 (e2t v.1) cs := by
 obtain ⟨l, ⟨h1, h2⟩, h3⟩ := rd_T27 h
 subst h3
 match l, h1 with
 | [a, b], _ => exact ⟨⟨⟨a, b⟩, h2 a (by simp), h2 b (by simp)⟩, _, _, rfl, ⟨rfl, rfl⟩, _, _, rfl, ⟨rfl, rfl⟩, rfl⟩
theorem rd_X96 {fuel : Nat} {cs : List Value} {x : DataW H × List MemPlace} (h : DataW.trod enc Try.prog w base spare held fuel 96 cs = some x) : ∃ (l : List T2) (v : Value), cs = [v] ∧ RepC w A0 (.sl false 2 (rows e2t l)) v ∧ l.length ≤ maxLen ∧ ∀ v ∈ l, v.ok := by
 obtain ⟨l, v, e', hr, hm, _⟩ := rd_slice (f := fun v : {v : T2 // v.ok} => e2t v.1) uT96 clT27 (by decide) (fun _ => rfl) (fun m cs x h => rd_T2 h) h
 refine ⟨l.map (·.1), v, e', ?_, by simpa using hm, fun u hu => ?_⟩
 ·have : rows e2t (l.map (·.1)) = rows (fun v : {v : T2 // v.ok} => e2t v.1) l := by simp [rows, Function.comp_def]
  rw [this]; exact hr
 ·obtain ⟨a, _, rfl⟩ := List.mem_map.1 hu
  exact a.2
theorem uT98 : structIs Try.prog 98 [(5, 0), (96, 1)] = true := by kernel_rfl
theorem clT98 : Try.prog.cellsOf 98 = 2 := by kernel_rfl
def cReel (x : ReelY) : List C := [.v (.int .u8 x.tail), .sl false 2 (rows e2t x.rolls)]
theorem rd_T98 {fuel : Nat} {cs : List Value} {x : DataW H × List MemPlace} (h : DataW.trod enc Try.prog w base spare held fuel 98 cs = some x) : ∃ s : ReelY, s.ok ∧ RepVs w A0 (cReel s) cs := by
 obtain ⟨hl, m, hf⟩ := rd_struct uT98 h
 rw [clT98] at hl
 obtain ⟨y0, h0⟩ := hf 0 5 0 rfl
 obtain ⟨y1, h1⟩ := hf 1 96 1 rfl
 rw [clT5] at h0
 rw [clT96] at h1
 obtain ⟨v0, e0, q0⟩ := rd_Byte h0
 obtain ⟨L1, v1, e1, r1, m1, p1⟩ := rd_X96 h1
 match cs, hl with
 | [c0, c1], _ =>
  simp at e0 e1
  subst e0; subst e1
  exact ⟨⟨v0, L1⟩, ⟨q0, p1⟩, _, _, rfl, ⟨rfl, rfl⟩, _, _, rfl, r1, rfl⟩
end
set_option maxHeartbeats 800000 in
theorem topRollStrengthLifted (os : Os) (started : os.Started) (H : Type) (enc : TypeId × Value → H) :
  ReturnsInHanded {} Try.checked os 6 .any (Ytakhpmbcndkkfaa.Rows.topRollStrengthSpec.pre6 enc Try.prog Try.f6 Ytakhpmbcndkkfaa.Rows.topRollStrengthRow.domain false) (Ytakhpmbcndkkfaa.Rows.topRollStrengthSpec.post enc Try.prog Try.f6 false true false false) := by
 refine returnsInHanded_of_change (C := Try.checked) tOwn started (by kernel_rfl) Try.func6
  (ChangeSpec.witness6 (enc := enc) (C := Try.checked) false ⟨#[], #[.agg #[.slice none 0 0, .slice none 0 0, .slice none 0 0], .agg #[.int .u8 0, .slice none 0 0], .agg #[.int .u8 0, .int .u8 0, .int .u8 0]], []⟩ 8 (by kernel_rfl) (by kernel_rfl) (by kernel_rfl) (by kernel_rfl)) ?_
 intro W base args ds gs before hval0 hW _ _
 have hval : ∀ (j : Nat) t v, Try.f6.params[j]? = some t → args[j]? = some v → Value.okWide Try.prog W .any base t v := hval0
 have hW' : DataW.Whole enc Try.prog Try.f6.params.toList [] false W args.toList ds gs before := hW
 obtain ⟨p, q, hA, hV, rfl, hfz, hnd⟩ := hW
 have hA : DataW.TrodAll enc Try.prog W 0 (fun _ => true) true [26, 98, 71] args.toList ds p := hA
 obtain ⟨rfl, rfl⟩ := trodVars_none hV
 obtain ⟨v0, vs0, d0, ds0, p0, q0, hargs, rfl, rfl, h0, r0⟩ := trodAll_cons hA
 obtain ⟨v1, vs1, d1, ds1, p1, q1, rfl, rfl, rfl, h1, r1⟩ := trodAll_cons r0
 obtain ⟨v2, vs2, d2, ds2, p2, q2, rfl, rfl, rfl, h2, r2⟩ := trodAll_cons r1
 obtain ⟨rfl, rfl, rfl⟩ := trodAll_nil r2
 obtain rfl : args = #[v0, v1, v2] := by cases args; simp_all
 obtain ⟨f0, hu0, _⟩ := structIs_spec uT26
 obtain ⟨c0, rfl, _⟩ := okWide_struct hu0 (hval 0 26 v0 rfl rfl)
 obtain ⟨f1, hu1, _⟩ := structIs_spec uT98
 obtain ⟨c1, rfl, _⟩ := okWide_struct hu1 (hval 1 98 v1 rfl rfl)
 obtain ⟨c2, rfl, _⟩ := okWide_array uT71 (hval 2 71 v2 rfl rfl)
 obtain ⟨fu0, h0⟩ := h0
 obtain ⟨fu1, h1⟩ := h1
 obtain ⟨fu2, h2⟩ := h2
 obtain ⟨s0, ho0, hr0⟩ := rd_T26 h0
 have hr0 : RepVs W A0 (cWar s0) c0.toList := by simpa [Value.cells] using hr0
 obtain ⟨s1, ho1, hr1⟩ := rd_T98 h1
 have hr1 : RepVs W A0 (cReel s1) c1.toList := by simpa [Value.cells] using hr1
 obtain ⟨s2, ho2, e2⟩ := rd_T71 h2
 have hr2 : RepVs W A0 (eN s2) c2.toList := by
  have e : c2.toList = bV s2 := by simpa [Value.cells] using e2
  rw [e]; exact rep_bytes s2
 refine ((rollStrengthY s0 ho0 s1 ho1 s2 ho2).calls (W := W) (vs := [.agg c0, .agg c1, .agg c2]) (laid0 W) (fun G => ?_)).mono ?_
 ·exact ⟨_, _, rfl, ⟨c0, rfl, RepDs.ofVs hr0⟩, _, _, rfl, ⟨c1, rfl, RepDs.ofVs hr1⟩, _, _, rfl, ⟨c2, rfl, RepDs.ofVs hr2⟩, rfl⟩
 ·rintro e W' ⟨v, rfl, ⟨G', A', hr⟩, hb⟩
  obtain ⟨rfl, _⟩ := hr
  exact ⟨_, rfl, post_true tLaid (by decide +kernel) hW' hb rfl rfl u4 rfl rfl rfl⟩
theorem topRollStrengthHolds : Ytakhpmbcndkkfaa.Rows.topRollStrengthRow.holds Ytakhpmbcndkkfaa.Try.pinned (OpenSpec.ofChange Ytakhpmbcndkkfaa.Rows.topRollStrengthSpec) :=
 OpenClaim.holds_of_wide 6 Try.f6 rfl rfl rfl rfl rfl rfl rfl ⟨rfl, rfl, rfl, rfl, rfl⟩ rfl rfl rfl rfl rfl (by kernel_rfl) Try.func6 (by kernel_rfl)
  (of_decide_eq_true (by kernel_rfl)) (by unfold Func.isWrapper; first | (rw [if_pos (by decide +kernel)]; kernel_rfl) | (rw [if_neg (by decide +kernel)]; exact ⟨rfl, rfl⟩))
  (fun os started H enc _ => topRollStrengthLifted os started H enc)
end Go.Dw.Seat.Pa
namespace Go.Proofs.Ytakhpmbcndkkfaa
theorem topRollStrengthSaid : Rows.TopRollStrengthSaid := Go.Dw.Seat.Pa.topRollStrengthHolds
end Go.Proofs.Ytakhpmbcndkkfaa
end
