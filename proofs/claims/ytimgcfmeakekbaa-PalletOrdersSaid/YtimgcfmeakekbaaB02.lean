/- The law PalletOrders returns true for every input, and changes nothing that was there before: the full statement PalletOrdersSaid, without conditions. -/
import Derived.Test.YtimgcfmeakekbaaB01
import Derived.Test.YtimgcfmeakekbaaRows
import Derived.ProofKit
import Derived.OpenShut
set_option linter.unusedVariables false
set_option linter.unusedSimpArgs false
section
set_option linter.unusedSimpArgs false
set_option maxRecDepth 100000
namespace Go.Dw.Seat
open Go Go.Dw Go.Proofs Go.IntWalk
def layX (p : PBs) (b : PBx) : List PPl := if chkE p b = 0 then layF (bLg b) (bWd b) (rxN p + ryN p + 1) 0 0 (rxN p) (ryN p) else []
def layD (p : PBs) (b : PBx) : D := if chkE p b = 0 then lyD false (layX p b) else .c nilC
abbrev sawB47 (p : PBs) (b : PBx) (RX RY : List Int) : List (Nat × Blk) := [(9, .box [dI p.lg, dI p.wd, dI p.hi, dI p.ov, dI p.top, dI p.load, dI b.lg, dI b.wd, dI b.hi, dI b.wl, dI b.wh, dI b.sl, dI b.sh, .c (.sl false 1 (rows eI RX)), .c (.sl false 1 (rows eI RY)), .hd 47]), (47, .map [] [])]
theorem sawB47_ok (p : PBs) (b : PBx) (RX RY : List Int) : okRes (.box 9 0) (sawB47 p b RX RY) := by
 have hg : ∀ j, get j (sawB47 p b RX RY) = none → j ≠ 9 ∧ j ≠ 47 := fun j hj => by
  constructor <;> (rintro rfl; cases hj)
 refine ⟨fun j hj => ?_, fun i x hi j hj => ?_⟩
 ·obtain ⟨h1, h2⟩ := hg j hj
  simp only [D.men, D.mens, Bool.or_false, beq_eq_false_iff_ne]
  omega
 ·obtain ⟨h1, h2⟩ := hg j hj
  have := get_mem hi
  simp only [List.mem_cons, Prod.mk.injEq, List.not_mem_nil, or_false] at this
  rcases this with ⟨_, rfl⟩ | ⟨_, rfl⟩
  ·simp only [Blk.men, D.men, D.mens, Bool.or_false, Bool.false_or, beq_eq_false_iff_ne]
   omega
  ·rfl
theorem plNewSaw47 (p : PBs) (b : PBx) (hp : p.ok) (hb : b.ok) : DCall Try.prog 64 [bedD p b] [] (.box 9 0) (sawB47 p b (rcL (bLg b) (bWd b) (rxN p)) (rcL (bLg b) (bWd b) (ryN p))) :=
 DCall.swap 7 47 (r := .box 9 0) (bo := sawBs p b (rcL (bLg b) (bWd b) (rxN p)) (rcL (bLg b) (bWd b) (ryN p))) (sawB47_ok p b _ _) (plNewSaw p b hp hb)
set_option maxHeartbeats 8000000 in
theorem plLayX (p : PBs) (b : PBx) : DCall Try.prog 17 [bsD p, bxD b] [] (.tup [layD p b, dI (chkE p b)]) [] := by
 have h0 := plCheck p b
 unfold layD layX
 by_cases hc : chkE p b = 0
 ·obtain ⟨hp, hb⟩ := chk_ok.1 hc
  rw [if_pos hc, if_pos hc]
  rw [hc] at h0 ⊢
  have hr := plRoom p b hp
  obtain ⟨hx, hy⟩ := rm_in hp
  have hX : rmX p = ((rxN p : Nat) : Int) := (Int.toNat_of_nonneg hx.1).symm
  have hY : rmY p = ((ryN p : Nat) : Int) := (Int.toNat_of_nonneg hy.1).symm
  have hnX : rxN p ≤ 140 := by show (rmX p).toNat ≤ 140; omega
  have hnY : ryN p ≤ 140 := by show (rmY p).toNat ≤ 140; omega
  rw [hX, hY] at hr
  have hsaw := plNewSaw47 p b hp hb
  obtain ⟨M1, _, hlay⟩ := plLay true p b hb _ _ _ _ (rcL_ok (bLg b) (bWd b) (rxN p)) (rcL_ok (bLg b) (bWd b) (ryN p)) hnX hnY (rxN p + ryN p + 1) 0 0 (rxN p) (ryN p) [] (mok_nil _ _) (Nat.le_refl _) (Nat.le_refl _) (by omega) (by omega) (by omega)
  generalize rcL (bLg b) (bWd b) (rxN p) = L1 at *
  generalize rcL (bLg b) (bWd b) (ryN p) = L2 at *
  generalize layF (bLg b) (bWd b) (rxN p + ryN p + 1) 0 0 (rxN p) (ryN p) = R at *
  generalize rxN p = nx at *
  generalize ryN p = ny at *
  have hlay' : ∀ lm, DCall Try.prog 66 [sawCL true p b L1 L2 lm, .agg [dI 0, dI 0], rctD nx ny] [(47, pinO lm (pinB 47 lm (.map [] [])))] (pinD 47 lm (.c (.sl false 3 (rows eP R)))) [(47, pinO lm (pinB 47 lm (.map (cK M1) (cD M1))))] := fun lm => by
   have h := layCl (hlay lm)
   show DCall Try.prog 66 _ _ _ [(47, .pmap lm (cK M1) (pinDs 47 lm (cD M1)))]
   rw [pinDs_cD]
   exact h
  refine DCall.of Try.func17 sf17 hb17 (Nat.le_of_ble_eq_true rfl) (okRes_nil fun _ => rfl) ?_; simp only [s17, o17_0, o17_1, o17_2, o17_3, o17_4, o17_5, idxs, Nat.reduceAdd]
  repeat' (first|(with_reducible first|apply qA|apply qB|apply qC|apply qD|apply qE|apply qF)|(refine DW.ord rfl (WF.of (by first|rfl|simp (disch:=omega) only [go_sem, simprocAttr, qN, qO, qP, qQ, del, cD_keys])) ?_ ?_ ?_; rotate_left)|rfl|(with_reducible refine And.intro ?_ ?_)|(simp (disch:=omega) only [go_sem, simprocAttr, qN, qO, qP, qQ, del, cD_keys])|exact qM rfl rfl rfl|(refine qG rfl ?_)|(refine qK (h0) (by decide) ?_)|(refine call_b (hsaw) ⟨⟨trivial, rfl, rfl, rfl⟩, rfl, rfl, rfl⟩ (by decide) ?_; simp only [St.addBs, St.putB, St.putO, St.put])|(refine qK (hr) (by decide) ?_)|(refine call_hp1 47 (fun lm => hlay' lm) rfl rfl rfl (fun _ => rfl) (fun _ => rfl) (fun _ => by simp (disch:=omega) only [go_sem, simprocAttr, qN, qO, qP, qQ, del, pinT, pinX, pinD, pinDs, pinB, pinO, Nat.reduceEqDiff, if_false, if_true]) (by decide) ?_)|(refine qH rfl ?_)|(refine qI rfl ?_ ?_<;>intro hc<;>(try simp only [go_sem] at hc))|(refine qJ ?_ ?_<;>intro hc<;>(try simp only [hc])<;>(try simp only [go_sem] at hc)))
  refine retS_wk rfl ?_ (by simp only [Blk.nb, rowC_nb, D.nb, D.nbs, C.nb, C.nbs, C.nbss, rows_nb eI_nb, Bool.and_true, Bool.not_false, Bool.and_self, bD, dI, iD, rows_nb eP_nb]); exact .refl _
 ·have h2 := chk_two hc
  rw [if_neg hc]
  rw [h2] at h0 ⊢
  refine DCall.of Try.func17 sf17 hb17 (Nat.le_of_ble_eq_true rfl) (okRes_nil fun _ => rfl) ?_; simp only [s17, o17_0, o17_1, o17_2, o17_3, o17_4, o17_5, idxs, Nat.reduceAdd]
  repeat' (first|(with_reducible first|apply qA|apply qB|apply qC|apply qD|apply qE|apply qF)|(refine DW.ord rfl (WF.of (by first|rfl|simp (disch:=omega) only [go_sem, simprocAttr, qN, qO, qP, qQ])) ?_ ?_ ?_; rotate_left)|rfl|(with_reducible refine And.intro ?_ ?_)|(simp (disch:=omega) only [go_sem, simprocAttr, qN, qO, qP, qQ])|exact qM rfl rfl rfl|(refine qG rfl ?_)|(refine qK (h0) (by decide) ?_)|(refine qH rfl ?_)|(refine qI rfl ?_ ?_<;>intro hc<;>(try simp only [go_sem] at hc))|(refine qJ ?_ ?_<;>intro hc<;>(try simp only [hc])<;>(try simp only [go_sem] at hc)))
end Go.Dw.Seat
end
section
set_option linter.unusedSimpArgs false
set_option maxRecDepth 100000
namespace Go.Dw.Seat
open Go Go.Dw Go.Proofs Go.IntWalk
theorem crW1 (n lo hi : Int) (p q : Bool) : DCall Try.prog 133 [dI n, .c (.ro p [.v (.int .i64 lo)] 0), .c (.ro q [.v (.int .i64 hi)] 0)] [] (bD (decide (n < lo) || decide (hi < n))) [] := by
 refine DCall.of Try.func133 sf133 hb133 (Nat.le_of_ble_eq_true rfl) (okRes_nil fun _ => rfl) ?_; simp only [s133, idxs, Nat.reduceAdd]
 repeat' (first|(with_reducible first|apply qA|apply qB|apply qC|apply qD|apply qE|apply qF)|(simp (disch:=omega) only [go_sem, simprocAttr, Blk.men, Blk.keysIn])|exact qM rfl rfl rfl|(refine qG rfl ?_)|(refine qH rfl ?_)|(refine qI rfl ?_ ?_<;>intro hc<;>(try simp only [go_sem] at hc))|(refine qJ ?_ ?_<;>intro hc<;>(try simp only [hc])<;>(try simp only [go_sem] at hc)))
theorem crWithin (b : Bool) (lo hi : Int) (l : List Int) (hl : l.length ≤ 2 ^ 36) : DCall Try.prog 123 [dI lo, dI hi, dIs b l] [] (bD (wthn lo hi l)) [] := by
 refine DCall.of Try.func123 sf123 hb123 (Nat.le_of_ble_eq_true rfl) (okRes_nil fun _ => rfl) ?_; simp only [s123, idxs, Nat.reduceAdd]
 repeat' (first|(with_reducible first|apply qA|apply qB|apply qC|apply qD|apply qE|apply qF)|(simp (disch:=omega) only [go_sem, simprocAttr, Blk.men, Blk.keysIn])|exact qM rfl rfl rfl|(refine qG rfl ?_)|(refine qH rfl ?_)|(refine qI rfl ?_ ?_<;>intro hc<;>(try simp only [go_sem] at hc))|(refine qJ ?_ ?_<;>intro hc<;>(try simp only [hc])<;>(try simp only [go_sem] at hc)))
 (refine call_c (plAnyI b l hl 133 [] [.ro true [.v (.int .i64 lo)] 0, .ro true [.v (.int .i64 hi)] 0] (fun n => decide (n < lo) || decide (hi < n)) (fun x _ => crW1 x lo hi true true)) (by decide) ?_; simp (disch:=omega) only [go_sem,simprocAttr,Blk.men,Blk.keysIn])
 repeat' (first|(with_reducible first|apply qA|apply qB|apply qC|apply qD|apply qE|apply qF)|(simp (disch:=omega) only [go_sem, simprocAttr, Blk.men, Blk.keysIn])|exact qM rfl rfl rfl|(refine qG rfl ?_)|(refine qH rfl ?_)|(refine qI rfl ?_ ?_<;>intro hc<;>(try simp only [go_sem] at hc))|(refine qJ ?_ ?_<;>intro hc<;>(try simp only [hc])<;>(try simp only [go_sem] at hc)))
theorem spanOk_yes {lo hi least most : Int} (h : least ≤ lo ∧ lo ≤ hi ∧ hi ≤ most) : spanOk lo hi least most = true := by
 unfold spanOk
 rw [wthn_yes (by simp; omega), decide_eq_true h.2.1]; rfl
theorem crSpanG (lo hi least most : Int) : DCall Try.prog 121 [.agg [dI lo, dI hi], dI least, dI most] [] (bD (spanOk lo hi least most)) [] := by
 have h1 := crWithin true least most [lo, hi] (by simp)
 unfold spanOk
 cases h : wthn least most [lo, hi] <;> rw [h] at h1 <;> simp only [Bool.true_and, Bool.false_and]
 ·refine DCall.of Try.func121 sf121 hb121 (Nat.le_of_ble_eq_true rfl) (okRes_nil fun _ => rfl) ?_; simp only [s121, idxs, Nat.reduceAdd]
  repeat' (first|(with_reducible first|apply qA|apply qB|apply qC|apply qD|apply qE|apply qF)|(simp (disch:=omega) only [go_sem, simprocAttr, Blk.men, Blk.keysIn])|exact qM rfl rfl rfl|(refine qG rfl ?_)|(refine qK (h1) (by decide) ?_)|(refine qH rfl ?_)|(refine qI rfl ?_ ?_<;>intro hc<;>(try simp only [go_sem] at hc))|(refine qJ ?_ ?_<;>intro hc<;>(try simp only [hc])<;>(try simp only [go_sem] at hc)))
 ·refine DCall.of Try.func121 sf121 hb121 (Nat.le_of_ble_eq_true rfl) (okRes_nil fun _ => rfl) ?_; simp only [s121, idxs, Nat.reduceAdd]
  repeat' (first|(with_reducible first|apply qA|apply qB|apply qC|apply qD|apply qE|apply qF)|(simp (disch:=omega) only [go_sem, simprocAttr, Blk.men, Blk.keysIn])|exact qM rfl rfl rfl|(refine qG rfl ?_)|(refine qK (h1) (by decide) ?_)|(refine qH rfl ?_)|(refine qI rfl ?_ ?_<;>intro hc<;>(try simp only [go_sem] at hc))|(refine qJ ?_ ?_<;>intro hc<;>(try simp only [hc])<;>(try simp only [go_sem] at hc)))
theorem mulB0 {a b A B : Int} (ha : 0 ≤ a ∧ a ≤ A) (hb : 0 ≤ b ∧ b ≤ B) : 0 ≤ a * b ∧ a * b ≤ A * B := by
 refine ⟨Int.mul_nonneg ha.1 hb.1, ?_⟩
 exact Int.le_trans (Int.mul_le_mul_of_nonneg_right ha.2 hb.1) (Int.mul_le_mul_of_nonneg_left hb.2 (Int.le_trans ha.1 ha.2))
theorem crIn (b : Bool) (lo hi : Int) (l : List Int) (hl : l.length ≤ 2 ^ 36) (h : ∀ v ∈ l, lo ≤ v ∧ v ≤ hi) : DCall Try.prog 123 [dI lo, dI hi, dIs b l] [] (bD true) [] := by
 have := crWithin b lo hi l hl
 rwa [wthn_yes h] at this
end Go.Dw.Seat
end
section
set_option linter.unusedSimpArgs false
set_option maxRecDepth 100000
namespace Go.Dw.Seat
open Go Go.Dw Go.Proofs Go.IntWalk
structure Lod where
 sl : Int
 sh : Int
 wl : Int
 wh : Int
def eLd (b : Lod) : List C := [.v (.int .i64 b.sl), .v (.int .i64 b.sh), .v (.int .i64 b.wl), .v (.int .i64 b.wh)]
theorem eLd_nb (v : Lod) : C.nbs (eLd v) = true := rfl
def eK (t : Int × Int) : List C := [.v (.int .i64 t.1), .v (.int .i64 t.2)]
theorem eK_nb (v : Int × Int) : C.nbs (eK v) = true := rfl
attribute [go_sem] eLd eK
structure Lod.ok (b : Lod) : Prop where
 strong : 0 ≤ b.sl ∧ b.sl ≤ b.sh ∧ b.sh ≤ 20000000
 weight : 0 ≤ b.wl ∧ b.wl ≤ b.wh ∧ b.wh ≤ 100000
def lodOk (b : Lod) : Bool := spanOk b.sl b.sh 0 20000000 && spanOk b.wl b.wh 0 100000
theorem lodOk_yes {b : Lod} (h : b.ok) : lodOk b = true := by
 simp only [lodOk, spanOk_yes h.strong, spanOk_yes h.weight, Bool.and_self]
theorem crBoxG (b : Lod) : DCall Try.prog 120 [.agg ((eLd b).map D.c)] [] (bD (!lodOk b)) [] := by
 have h1 := crSpanG b.sl b.sh 0 20000000
 have h2 := crSpanG b.wl b.wh 0 100000
 unfold lodOk
 cases e1 : spanOk b.sl b.sh 0 20000000 <;> rw [e1] at h1 <;> simp only [Bool.true_and, Bool.false_and, Bool.not_false]
 ·refine DCall.of Try.func120 sf120 hb120 (Nat.le_of_ble_eq_true rfl) (okRes_nil fun _ => rfl) ?_; simp only [s120, idxs, Nat.reduceAdd]
  repeat' (first|(with_reducible first|apply qA|apply qB|apply qC|apply qD|apply qE|apply qF)|(simp (disch:=omega) only [go_sem, simprocAttr, Blk.men, Blk.keysIn, rF, rG])|exact qM rfl rfl rfl|(refine qG rfl ?_)|(refine qK (h1) (by decide) ?_)|(refine qH rfl ?_)|(refine qI rfl ?_ ?_<;>intro hc<;>(try simp only [go_sem] at hc))|(refine qJ ?_ ?_<;>intro hc<;>(try simp only [hc])<;>(try simp only [go_sem] at hc)))
 ·refine DCall.of Try.func120 sf120 hb120 (Nat.le_of_ble_eq_true rfl) (okRes_nil fun _ => rfl) ?_; simp only [s120, idxs, Nat.reduceAdd]
  repeat' (first|(with_reducible first|apply qA|apply qB|apply qC|apply qD|apply qE|apply qF)|(simp (disch:=omega) only [go_sem, simprocAttr, Blk.men, Blk.keysIn, rF, rG])|exact qM rfl rfl rfl|(refine qG rfl ?_)|(refine qK (h1) (by decide) ?_)|(refine qK (h2) (by decide) ?_)|(refine qH rfl ?_)|(refine qI rfl ?_ ?_<;>intro hc<;>(try simp only [go_sem] at hc))|(refine qJ ?_ ?_<;>intro hc<;>(try simp only [hc])<;>(try simp only [go_sem] at hc)))
theorem crLIdx (b : Bool) (l : List (Lod)) (hl : l.length ≤ 2 ^ 36) (g : FuncId) (fs caps : List C) (p : Lod → Bool) (hp : ∀ x ∈ l, DCall Try.prog g (fs.map D.c ++ [.agg ((eLd x).map D.c)] ++ caps.map D.c) [] (bD (p x)) []) : DCall Try.prog 132 [.c (.sl b 4 (rows eLd l)), .c (.fn (.func g) fs caps)] [] (dI (idxI p l)) [] := by
 refine DCall.of Try.func132 sf132 hb132 (Nat.le_of_ble_eq_true rfl) (okRes_nil fun _ => rfl) ?_; simp only [s132, idxs, Nat.reduceAdd]
 repeat' (first|(with_reducible first|apply qA|apply qB|apply qC|apply qD|apply qE|apply qF)|(simp (disch:=omega) only [go_sem, simprocAttr, Blk.men, Blk.keysIn])|exact qM rfl rfl rfl|(refine qG rfl ?_)|(refine qH rfl ?_)|(refine qI rfl ?_ ?_<;>intro hc<;>(try simp only [go_sem] at hc))|(refine qJ ?_ ?_<;>intro hc<;>(try simp only [hc])<;>(try simp only [go_sem] at hc)))
 refine DW.loop (ι := { i : Nat // i ≤ l.length ∧ ∀ j u, j < i → l[j]? = some u → p u = false }) (fun i => ⟨19, [(8, dI i.1), (7, dI l.length), (1, .c (.fn (.func g) fs caps)), (0, .c (.sl b 4 (rows eLd l)))], []⟩) (fun i => l.length - i.1) ⟨0, Nat.zero_le _, fun j u h => by omega⟩ ?_ ?_
 ·refine Ent.to ?_ ?_ <;> simp (disch:=omega) only [qR,qS,qT,qU,get,Nat.reduceEqDiff,↓reduceIte,qV,qW,qX,qY,qZ,and_self,dI,i64_in,and_true,true_and,rA,rB,rC,rD]
 rintro ⟨i, hi, hij⟩
 rcases at_or l i hi with ⟨v, hv, hlt, hd⟩ | ⟨he, hd⟩
 ·have hcall := hp v (List.mem_of_getElem? hv)
  repeat' (first|(with_reducible first|apply qA|apply qB|apply qC|apply qD|apply qE|apply qF)|(simp (disch:=omega) only [go_sem, simprocAttr, Blk.men, Blk.keysIn, hd, hv, closeDs_fn, rF, rG])|exact qM rfl rfl rfl|(refine qG rfl ?_)|(refine qH rfl ?_)|(refine qI rfl ?_ ?_<;>intro hc<;>(try simp only [go_sem] at hc))|(refine qJ ?_ ?_<;>intro hc<;>(try simp only [hc])<;>(try simp only [go_sem] at hc)))
  refine call_c hcall (by decide) ?_
  simp (disch:=omega) only [go_sem,simprocAttr,Blk.men,Blk.keysIn]
  refine DW.cond rfl ?_ ?_ <;> intro hc
  ·repeat' (first|(with_reducible first|apply qA|apply qB|apply qC|apply qD|apply qE|apply qF)|(simp (disch:=omega) only [go_sem, simprocAttr, Blk.men, Blk.keysIn])|exact qM rfl rfl rfl|(refine qG rfl ?_)|(refine qH rfl ?_)|(refine qI rfl ?_ ?_<;>intro hc<;>(try simp only [go_sem] at hc))|(refine qJ ?_ ?_<;>intro hc<;>(try simp only [hc])<;>(try simp only [go_sem] at hc)))
   refine retS_of rfl ?_ rfl; simp only [oneD, St.op, get, Nat.reduceEqDiff, ↓reduceIte, Option.getD_some, bD, dI]
   simp only [idxI, idxOf_some hij hv hc]
  ·repeat' (first|(with_reducible first|apply qA|apply qB|apply qC|apply qD|apply qE|apply qF)|(simp (disch:=omega) only [go_sem, simprocAttr, Blk.men, Blk.keysIn])|exact qM rfl rfl rfl|(refine qG rfl ?_)|(refine qH rfl ?_)|(refine qI rfl ?_ ?_<;>intro hc<;>(try simp only [go_sem] at hc))|(refine qJ ?_ ?_<;>intro hc<;>(try simp only [hc])<;>(try simp only [go_sem] at hc)))
   refine ⟨⟨i + 1, by omega, fun j u hj hu => by
    rcases Nat.lt_or_ge j i with h | h
    ·exact hij j u h hu
    ·have : j = i := by omega
     subst this
     rw [hv] at hu; cases hu; exact hc⟩, ?_, Ent.to ?_ ?_⟩ <;> first | (show _ < _; (try simp only); omega) | (simp (disch:=omega) only [qR,qS,qT,qU,get,Nat.reduceEqDiff,↓reduceIte,qV,qW,qX,qY,qZ,and_self,dI,i64_in,and_true,true_and,rA,rB,rC,rD])
 ·repeat' (first|(with_reducible first|apply qA|apply qB|apply qC|apply qD|apply qE|apply qF)|(simp (disch:=omega) only [go_sem, simprocAttr, Blk.men, Blk.keysIn, hd])|exact qM rfl rfl rfl|(refine qG rfl ?_)|(refine qH rfl ?_)|(refine qI rfl ?_ ?_<;>intro hc<;>(try simp only [go_sem] at hc))|(refine qJ ?_ ?_<;>intro hc<;>(try simp only [hc])<;>(try simp only [go_sem] at hc)))
  refine retS_of rfl ?_ rfl; simp only [oneD, St.op, get, Nat.reduceEqDiff, ↓reduceIte, Option.getD_some, bD, dI]
  simp only [idxI, idxOf_none (he ▸ hij)]
theorem crLCon (b : Bool) (l : List (Lod)) (hl : l.length ≤ 2 ^ 36) (g : FuncId) (fs caps : List C) (p : Lod → Bool) (hp : ∀ x ∈ l, DCall Try.prog g (fs.map D.c ++ [.agg ((eLd x).map D.c)] ++ caps.map D.c) [] (bD (p x)) []) : DCall Try.prog 122 [.c (.sl b 4 (rows eLd l)), .c (.fn (.func g) fs caps)] [] (bD (l.any p)) [] := by
 refine DCall.of Try.func122 sf122 hb122 (Nat.le_of_ble_eq_true rfl) (okRes_nil fun _ => rfl) ?_; simp only [s122, idxs, Nat.reduceAdd]
 repeat' (first|(with_reducible first|apply qA|apply qB|apply qC|apply qD|apply qE|apply qF)|(simp (disch:=omega) only [go_sem, simprocAttr, Blk.men, Blk.keysIn])|exact qM rfl rfl rfl|(refine qG rfl ?_)|(refine qH rfl ?_)|(refine qI rfl ?_ ?_<;>intro hc<;>(try simp only [go_sem] at hc))|(refine qJ ?_ ?_<;>intro hc<;>(try simp only [hc])<;>(try simp only [go_sem] at hc)))
 refine call_c (crLIdx b l hl g fs caps p hp) (by decide) ?_
 repeat' (first|(with_reducible first|apply qA|apply qB|apply qC|apply qD|apply qE|apply qF)|(simp (disch:=omega) only [go_sem, simprocAttr, Blk.men, Blk.keysIn])|exact qM rfl rfl rfl|(refine qG rfl ?_)|(refine qH rfl ?_)|(refine qI rfl ?_ ?_<;>intro hc<;>(try simp only [go_sem] at hc))|(refine qJ ?_ ?_<;>intro hc<;>(try simp only [hc])<;>(try simp only [go_sem] at hc)))
 refine retS_of rfl ?_ rfl; simp only [oneD, St.op, get, Nat.reduceEqDiff, ↓reduceIte, Option.getD_some, bD, dI]
 rw [idxI_any]
def boxesE (l : List Lod) (most : Int) : Int := if most < l.length then 5 else if l.any (fun b => !lodOk b) then 2 else 0
theorem crBoxesG (b : Bool) (l : List Lod) (most : Int) (hl : l.length ≤ 2 ^ 36) : DCall Try.prog 93 [.c (.sl b 4 (rows eLd l)), dI most] [] (dI (boxesE l most)) [] := by
 have h1 := crLCon b l hl 120 [] [] (fun b => !lodOk b) (fun x _ => by simpa using crBoxG x)
 unfold boxesE
 by_cases hm : most < (l.length : Int)
 ·have hd : decide (most < (l.length : Int)) = true := decide_eq_true hm
  rw [if_pos hm]
  refine DCall.of Try.func93 sf93 hb93 (Nat.le_of_ble_eq_true rfl) (okRes_nil fun _ => rfl) ?_; simp only [s93, idxs, Nat.reduceAdd]
  repeat' (first|(with_reducible first|apply qA|apply qB|apply qC|apply qD|apply qE|apply qF)|(simp (disch:=omega) only [go_sem, simprocAttr, Blk.men, Blk.keysIn, hd])|exact qM rfl rfl rfl|(refine qG rfl ?_)|(refine qH rfl ?_)|(refine qI rfl ?_ ?_<;>intro hc<;>(try simp only [go_sem] at hc))|(refine qJ ?_ ?_<;>intro hc<;>(try simp only [hc])<;>(try simp only [go_sem] at hc)))
 have hd : decide (most < (l.length : Int)) = false := decide_eq_false hm
 rw [if_neg hm]
 cases e : l.any (fun b => !lodOk b) <;> rw [e] at h1
 ·rw [if_neg (by decide)]
  refine DCall.of Try.func93 sf93 hb93 (Nat.le_of_ble_eq_true rfl) (okRes_nil fun _ => rfl) ?_; simp only [s93, idxs, Nat.reduceAdd]
  repeat' (first|(with_reducible first|apply qA|apply qB|apply qC|apply qD|apply qE|apply qF)|(simp (disch:=omega) only [go_sem, simprocAttr, Blk.men, Blk.keysIn, hd])|exact qM rfl rfl rfl|(refine qG rfl ?_)|(refine qK (h1) (by decide) ?_)|(refine qH rfl ?_)|(refine qI rfl ?_ ?_<;>intro hc<;>(try simp only [go_sem] at hc))|(refine qJ ?_ ?_<;>intro hc<;>(try simp only [hc])<;>(try simp only [go_sem] at hc)))
 ·rw [if_pos rfl]
  refine DCall.of Try.func93 sf93 hb93 (Nat.le_of_ble_eq_true rfl) (okRes_nil fun _ => rfl) ?_; simp only [s93, idxs, Nat.reduceAdd]
  repeat' (first|(with_reducible first|apply qA|apply qB|apply qC|apply qD|apply qE|apply qF)|(simp (disch:=omega) only [go_sem, simprocAttr, Blk.men, Blk.keysIn, hd])|exact qM rfl rfl rfl|(refine qG rfl ?_)|(refine qK (h1) (by decide) ?_)|(refine qH rfl ?_)|(refine qI rfl ?_ ?_<;>intro hc<;>(try simp only [go_sem] at hc))|(refine qJ ?_ ?_<;>intro hc<;>(try simp only [hc])<;>(try simp only [go_sem] at hc)))
theorem boxesE_yes {l : List Lod} {most : Int} (h1 : (l.length : Int) ≤ most) (h : ∀ x ∈ l, x.ok) : boxesE l most = 0 := by
 unfold boxesE
 rw [if_neg (by omega), if_neg]
 simp only [Bool.not_eq_true, List.any_eq_false, Bool.not_eq_true', Bool.not_eq_false]
 exact fun x hx => lodOk_yes (h x hx)
theorem crBoxes (b : Bool) (l : List Lod) (most : Int) (hl : l.length ≤ 1000) (hm : (l.length : Int) ≤ most) (h : ∀ x ∈ l, x.ok) : DCall Try.prog 93 [.c (.sl b 4 (rows eLd l)), dI most] [] (dI 0) [] := by
 have := crBoxesG b l most (by omega)
 rwa [boxesE_yes hm h] at this
structure TabF (l : List (Int × Int)) : Prop where
 len : 1 ≤ l.length ∧ l.length ≤ 10
 first : ∀ u, l[0]? = some u → u.1 = 0
 mem : ∀ s ∈ l, (0 ≤ s.1 ∧ s.1 ≤ 10000) ∧ (0 ≤ s.2 ∧ s.2 ≤ 1000)
 step : ∀ (i : Nat) (u v : Int × Int), l[i]? = some u → l[i + 1]? = some v → u.1 < v.1 ∧ v.2 ≤ u.2
structure TabOk (l : List (Int × Int)) (days : Int) : Prop extends TabF l where
 days : 0 ≤ days ∧ days ≤ 10000
theorem crTable (l : List (Int × Int)) (days : Int) (h : TabOk l days) : DCall Try.prog 94 [.c (.sl false 2 (rows eK l)), dI days] [] (.tup [.agg [.c (.sl false 2 (rows eK l)), dI days], dI 0]) [] := by
 have hlen := h.len
 have h1 := crIn true 1 10 [(l.length : Int)] (by simp) (by simp; omega)
 have h2 := crIn true 0 10000 [days] (by simp) (by simpa using h.days)
 obtain ⟨f, hf⟩ := getE (l := l) (i := 0) (by omega)
 have hf0 := h.first f hf
 have hfe : (f.1 != 0) = false := by rw [hf0]; rfl
 refine DCall.of Try.func94 sf94 hb94 (Nat.le_of_ble_eq_true rfl) (okRes_nil fun _ => rfl) ?_; simp only [s94, idxs, Nat.reduceAdd]
 repeat' (first|(with_reducible first|apply qA|apply qB|apply qC|apply qD|apply qE|apply qF)|(refine qL rfl (WF.of ?_) ?_; first|rfl|skip)|(simp (disch:=omega) only [go_sem, simprocAttr, Blk.men, Blk.keysIn, hf, hfe, rF, rG])|exact qM rfl rfl rfl|(refine qG rfl ?_)|(refine qK (h1) (by decide) ?_)|(refine qH rfl ?_)|(refine qI rfl ?_ ?_<;>intro hc<;>(try simp only [go_sem] at hc))|(refine qJ ?_ ?_<;>intro hc<;>(try simp only [hc])<;>(try simp only [go_sem] at hc)))
 refine DW.loop (ι := { i : Nat // i ≤ l.length }) (fun i => ⟨76, [(23, dI i.1), (22, dI l.length), (21, .c (.sl false 2 (rows eK l))), (4, .box 4 0), (0, .c (.sl false 2 (rows eK l))), (1, dI days)], [(4, .box [.c (.v (.slice none 0 0)), dI 0])]⟩) (fun i => l.length - i.1) ⟨0, Nat.zero_le _⟩ ?_ ?_
 ·refine Ent.to ?_ ?_ <;> simp (disch:=omega) only [qR,qS,qT,qU,get,Nat.reduceEqDiff,↓reduceIte,qV,qW,qX,qY,qZ,and_self,dI,i64_in,and_true,true_and,rA,rB,rC,rD]
 rintro ⟨i, hi⟩
 rcases at_or l i hi with ⟨v, hv, hlt, hd⟩ | ⟨he, hd⟩
 ·have hm := h.mem v (List.mem_of_getElem? hv)
  have h3 := crIn true 0 10000 [v.1] (by simp) (by simpa using hm.1)
  have h4 := crIn true 0 1000 [v.2] (by simp) (by simpa using hm.2)
  rcases i with _ | i
  ·have hd0 : decide ((0 : Int) < ((0 : Nat) : Int)) = false := by decide
   have hd' : decide ((0 : Int) < (l.length : Int)) = true := hd
   repeat' (first|(with_reducible first|apply qA|apply qB|apply qC|apply qD|apply qE|apply qF)|(refine qL rfl (WF.of ?_) ?_; first|rfl|skip)|(simp (disch:=omega) only [go_sem, simprocAttr, Blk.men, Blk.keysIn, hd', hv, hd0, rF, rG])|exact qM rfl rfl rfl|(refine qG rfl ?_)|(refine qK (h3) (by decide) ?_)|(refine qK (h4) (by decide) ?_)|(refine qH rfl ?_)|(refine qI rfl ?_ ?_<;>intro hc<;>(try simp only [go_sem] at hc))|(refine qJ ?_ ?_<;>intro hc<;>(try simp only [hc])<;>(try simp only [go_sem] at hc)))
   refine ⟨⟨1, hlt⟩, ?_, Ent.to ?_ ?_⟩ <;> first | (show _ < _; (try simp only); omega) | (simp (disch:=omega) only [qR,qS,qT,qU,get,Nat.reduceEqDiff,↓reduceIte,qV,qW,qX,qY,qZ,and_self,dI,i64_in,and_true,true_and,rA,rB,rC,rD])
  ·have hd0 : decide ((0 : Int) < ((i + 1 : Nat) : Int)) = true := by rw [decide_eq_true_eq]; omega
   obtain ⟨u, hu⟩ := getE (l := l) (i := i) (by omega)
   have hs := h.step i u v hu hv
   have e1 : ((i + 1 : Nat) : Int) - 1 = (i : Int) := by omega
   have d1 : decide (v.1 ≤ u.1) = false := by rw [decide_eq_false_iff_not]; omega
   have d2 : decide (u.2 < v.2) = false := by rw [decide_eq_false_iff_not]; omega
   repeat' (first|(with_reducible first|apply qA|apply qB|apply qC|apply qD|apply qE|apply qF)|(refine qL rfl (WF.of ?_) ?_; first|rfl|skip)|(simp (disch:=omega) only [go_sem, simprocAttr, Blk.men, Blk.keysIn, hd, hv, hd0, hu, e1, d1, d2, rF, rG])|exact qM rfl rfl rfl|(refine qG rfl ?_)|(refine qK (h3) (by decide) ?_)|(refine qK (h4) (by decide) ?_)|(refine qH rfl ?_)|(refine qI rfl ?_ ?_<;>intro hc<;>(try simp only [go_sem] at hc))|(refine qJ ?_ ?_<;>intro hc<;>(try simp only [hc])<;>(try simp only [go_sem] at hc)))
   refine ⟨⟨i + 1 + 1, hlt⟩, ?_, Ent.to ?_ ?_⟩ <;> first | (show _ < _; (try simp only); omega) | (simp (disch:=omega) only [qR,qS,qT,qU,get,Nat.reduceEqDiff,↓reduceIte,qV,qW,qX,qY,qZ,and_self,dI,i64_in,and_true,true_and,rA,rB,rC,rD])
 ·repeat' (first|(with_reducible first|apply qA|apply qB|apply qC|apply qD|apply qE|apply qF)|(refine qL rfl (WF.of ?_) ?_; first|rfl|skip)|(simp (disch:=omega) only [go_sem, simprocAttr, Blk.men, Blk.keysIn, hd])|exact qM rfl rfl rfl|(refine qG rfl ?_)|(refine qK (h2) (by decide) ?_)|(refine qH rfl ?_)|(refine qI rfl ?_ ?_<;>intro hc<;>(try simp only [go_sem] at hc))|(refine qJ ?_ ?_<;>intro hc<;>(try simp only [hc])<;>(try simp only [go_sem] at hc)))
  refine retS_wk rfl ?_ (by simp only [Blk.nb, rowC_nb, D.nb, D.nbs, C.nb, C.nbs, C.nbss, rows_nb eI_nb, Bool.and_true, Bool.not_false, Bool.and_self, bD, dI, iD, rows_nb eK_nb, rows_nb eLd_nb]); exact .tup (.cons (.refl _) (.cons (.refl _) .nil))
def stepOk (l : List (Int × Int)) (j : Nat) : Prop := ∀ v, l[j]? = some v → ((0 ≤ v.1 ∧ v.1 ≤ 10000) ∧ (0 ≤ v.2 ∧ v.2 ≤ 1000)) ∧ ∀ k u, j = k + 1 → l[k]? = some u → u.1 < v.1 ∧ v.2 ≤ u.2
theorem tabF_of {l : List (Int × Int)} (h1 : 1 ≤ l.length ∧ l.length ≤ 10) (h2 : ∀ u, l[0]? = some u → u.1 = 0) (h3 : ∀ j, j < l.length → stepOk l j) : TabF l := by
 refine ⟨h1, h2, fun s hs => ?_, fun i u v hu hv => ?_⟩
 ·obtain ⟨j, hj⟩ := List.mem_iff_getElem?.1 hs
  exact (h3 j (List.getElem?_eq_some_iff.1 hj).1 s hj).1
 ·exact (h3 (i + 1) (List.getElem?_eq_some_iff.1 hv).1 v hv).2 i u rfl hu
def lastI (days : Int) (l : List (Int × Int)) (k : Int) : Int := l.foldl (fun k s => if s.1 ≤ days then s.2 else k) k
theorem lastI_b (days : Int) : ∀ (l : List (Int × Int)) (k : Int), (∀ s ∈ l, 0 ≤ s.2 ∧ s.2 ≤ 1000) → (0 ≤ k ∧ k ≤ 1000) → 0 ≤ lastI days l k ∧ lastI days l k ≤ 1000
 | [], _, _, hk => hk
 | s :: t, k, h, hk => by
  refine lastI_b days t _ (fun x hx => h x (by simp [hx])) ?_
  have := h s (by simp)
  show 0 ≤ (if s.1 ≤ days then s.2 else k) ∧ (if s.1 ≤ days then s.2 else k) ≤ 1000
  split <;> omega
theorem lastI_take (days : Int) {l : List (Int × Int)} {i : Nat} {v : Int × Int} (hv : l[i]? = some v) : lastI days (l.take (i + 1)) 0 = if v.1 ≤ days then v.2 else lastI days (l.take i) 0 := by
 rw [List.take_add_one, hv]
 simp only [lastI, Option.toList_some, List.foldl_append, List.foldl_cons, List.foldl_nil]
theorem tdiv_b {a b : Int} {A : Int} (ha : 0 ≤ a ∧ a ≤ A) (hb : 0 ≤ b) : 0 ≤ a.tdiv b ∧ a.tdiv b ≤ A := by
 rw [Int.tdiv_eq_ediv_of_nonneg ha.1]
 exact ⟨Int.ediv_nonneg ha.1 hb, Int.le_trans (Int.ediv_le_self b ha.1) ha.2⟩
theorem crLast (b : Bool) (l : List (Int × Int)) (days : Int) (hl : l.length ≤ 1000) : DCall Try.prog 119 [.agg [.c (.sl b 2 (rows eK l)), dI days]] [] (dI (lastI days l 0)) [] := by
 refine DCall.of Try.func119 sf119 hb119 (Nat.le_of_ble_eq_true rfl) (okRes_nil fun _ => rfl) ?_; simp only [s119, idxs, Nat.reduceAdd]
 repeat' (first|(with_reducible first|apply qA|apply qB|apply qC|apply qD|apply qE|apply qF)|(simp (disch:=omega) only [go_sem, simprocAttr, Blk.men, Blk.keysIn])|exact qM rfl rfl rfl|(refine qG rfl ?_)|(refine qH rfl ?_)|(refine qI rfl ?_ ?_<;>intro hc<;>(try simp only [go_sem] at hc))|(refine qJ ?_ ?_<;>intro hc<;>(try simp only [hc])<;>(try simp only [go_sem] at hc)))
 refine DW.loop (ι := { i : Nat // i ≤ l.length }) (fun i => ⟨21, [(8, dI i.1), (7, dI l.length), (6, .c (.sl b 2 (rows eK l))), (2, dI (lastI days (l.take i.1) 0)), (1, .box 1 0)], [(1, .box [.c (.sl b 2 (rows eK l)), dI days])]⟩) (fun i => l.length - i.1) ⟨0, Nat.zero_le _⟩ ?_ ?_
 ·refine Ent.to ?_ ?_ <;> simp (disch:=omega) only [qR,qS,qT,qU,get,Nat.reduceEqDiff,↓reduceIte,qV,qW,qX,qY,qZ,and_self,dI,i64_in,and_true,true_and,rA,rB,rC,rD,lastI,List.take_zero,List.foldl_nil]
 rintro ⟨i, hi⟩
 rcases at_or l i hi with ⟨v, hv, hlt, hd⟩ | ⟨he, hd⟩
 ·have hnx := lastI_take days hv
  cases hc : decide (v.1 ≤ days) with
  | true =>
   rw [if_pos (of_decide_eq_true hc)] at hnx
   repeat' (first|(with_reducible first|apply qA|apply qB|apply qC|apply qD|apply qE|apply qF)|(simp (disch:=omega) only [go_sem, simprocAttr, Blk.men, Blk.keysIn, hd, hv, hc, rF, rG])|exact qM rfl rfl rfl|(refine qG rfl ?_)|(refine qH rfl ?_)|(refine qI rfl ?_ ?_<;>intro hc<;>(try simp only [go_sem] at hc))|(refine qJ ?_ ?_<;>intro hc<;>(try simp only [hc])<;>(try simp only [go_sem] at hc)))
   refine ⟨⟨i + 1, hlt⟩, ?_, Ent.to ?_ ?_⟩ <;> first | (show _ < _; (try simp only); omega) | (simp (disch:=omega) only [qR,qS,qT,qU,get,Nat.reduceEqDiff,↓reduceIte,qV,qW,qX,qY,qZ,and_self,dI,i64_in,and_true,true_and,rA,rB,rC,rD, hnx])
  | false =>
   rw [if_neg (of_decide_eq_false hc)] at hnx
   repeat' (first|(with_reducible first|apply qA|apply qB|apply qC|apply qD|apply qE|apply qF)|(simp (disch:=omega) only [go_sem, simprocAttr, Blk.men, Blk.keysIn, hd, hv, hc, rF, rG])|exact qM rfl rfl rfl|(refine qG rfl ?_)|(refine qH rfl ?_)|(refine qI rfl ?_ ?_<;>intro hc<;>(try simp only [go_sem] at hc))|(refine qJ ?_ ?_<;>intro hc<;>(try simp only [hc])<;>(try simp only [go_sem] at hc)))
   refine ⟨⟨i + 1, hlt⟩, ?_, Ent.to ?_ ?_⟩ <;> first | (show _ < _; (try simp only); omega) | (simp (disch:=omega) only [qR,qS,qT,qU,get,Nat.reduceEqDiff,↓reduceIte,qV,qW,qX,qY,qZ,and_self,dI,i64_in,and_true,true_and,rA,rB,rC,rD, hnx])
 ·repeat' (first|(with_reducible first|apply qA|apply qB|apply qC|apply qD|apply qE|apply qF)|(simp (disch:=omega) only [go_sem, simprocAttr, Blk.men, Blk.keysIn, hd])|exact qM rfl rfl rfl|(refine qG rfl ?_)|(refine qH rfl ?_)|(refine qI rfl ?_ ?_<;>intro hc<;>(try simp only [go_sem] at hc))|(refine qJ ?_ ?_<;>intro hc<;>(try simp only [hc])<;>(try simp only [go_sem] at hc)))
  refine retS_of rfl ?_ rfl; simp only [oneD, St.op, get, Nat.reduceEqDiff, ↓reduceIte, Option.getD_some, bD, dI]
  rw [he, List.take_length]
def bearsI (b : Lod) (k : Int) : Int := (b.sl * k).tdiv 1000
theorem crBears (b : Lod) (h : b.ok) (k : Int) (hk : 0 ≤ k ∧ k ≤ 1000) : DCall Try.prog 118 [.agg ((eLd b).map D.c), dI k] [] (dI (bearsI b k)) [] := by
 have hs := h.strong
 have hm := mulB0 (a := b.sl) (b := k) (A := 20000000) (B := 1000) (by omega) hk
 have hq := tdiv_b (b := 1000) (A := 20000000000) (a := b.sl * k) (by omega) (by decide)
 unfold bearsI
 refine DCall.of Try.func118 sf118 hb118 (Nat.le_of_ble_eq_true rfl) (okRes_nil fun _ => rfl) ?_; simp only [s118, idxs, Nat.reduceAdd]
 repeat' (first|(with_reducible first|apply qA|apply qB|apply qC|apply qD|apply qE|apply qF)|(simp (disch:=omega) only [go_sem, simprocAttr, Blk.men, Blk.keysIn, rF, rG])|exact qM rfl rfl rfl|(refine qG rfl ?_)|(refine qH rfl ?_)|(refine qI rfl ?_ ?_<;>intro hc<;>(try simp only [go_sem] at hc))|(refine qJ ?_ ?_<;>intro hc<;>(try simp only [hc])<;>(try simp only [go_sem] at hc)))
def highI (b : Lod) (l : List (Int × Int)) (days : Int) : Int := if b.wh = 0 then 50 else if 1 + (bearsI b (lastI days l 0)).tdiv b.wh < 50 then 1 + (bearsI b (lastI days l 0)).tdiv b.wh else 50
theorem crHigh (b : Lod) (h : b.ok) (l : List (Int × Int)) (days : Int) (ht : TabOk l days) : DCall Try.prog 91 [.agg ((eLd b).map D.c), .c (.sl false 2 (rows eK l)), dI days] [] (.tup [dI (highI b l days), dI 0]) [] := by
 have h1 := crBoxes true [b] 1 (by simp) (by simp) (by simpa using h)
 have h2 := crTable l days ht
 have h3 := crLast false l days (by have := ht.len; omega)
 have hk := lastI_b days l 0 (fun s hs => (ht.mem s hs).2) (by decide)
 have h4 := crBears b h (lastI days l 0) hk
 have hs := h.strong
 have hw := h.weight
 unfold highI
 have hbb : 0 ≤ bearsI b (lastI days l 0) ∧ bearsI b (lastI days l 0) ≤ 20000000000 := by
  have hm := mulB0 (a := b.sl) (b := lastI days l 0) (A := 20000000) (B := 1000) (by omega) hk
  exact tdiv_b (by omega) (by decide)
 generalize lastI days l 0 = k at *
 generalize bearsI b k = be at *
 by_cases h0 : b.wh = 0
 ·have he : (b.wh == 0) = true := by rw [h0]; rfl
  rw [if_pos h0]
  refine DCall.of Try.func91 sf91 hb91 (Nat.le_of_ble_eq_true rfl) (okRes_nil fun _ => rfl) ?_; simp only [s91, idxs, Nat.reduceAdd]
  repeat' (first|(with_reducible first|apply qA|apply qB|apply qC|apply qD|apply qE|apply qF)|(refine qL rfl (WF.of ?_) ?_; first|rfl|skip)|(simp (disch:=omega) only [go_sem, simprocAttr, Blk.men, Blk.keysIn, rF, rG, he])|exact qM rfl rfl rfl|(refine qG rfl ?_)|(refine qK (h1) (by decide) ?_)|(refine qK (h2) (by decide) ?_)|(refine qH rfl ?_)|(refine qI rfl ?_ ?_<;>intro hc<;>(try simp only [go_sem] at hc))|(refine qJ ?_ ?_<;>intro hc<;>(try simp only [hc])<;>(try simp only [go_sem] at hc)))
 ·have he : (b.wh == 0) = false := by rw [beq_eq_false_iff_ne]; exact h0
  have hz : (b.wh = 0) = False := eq_false h0
  have hq := tdiv_b (b := b.wh) hbb (by omega)
  rw [if_neg h0]
  refine DCall.of Try.func91 sf91 hb91 (Nat.le_of_ble_eq_true rfl) (okRes_nil fun _ => rfl) ?_; simp only [s91, idxs, Nat.reduceAdd]
  repeat' (first|(with_reducible first|apply qA|apply qB|apply qC|apply qD|apply qE|apply qF)|(refine qL rfl (WF.of ?_) ?_; first|rfl|skip)|(simp (disch:=omega) only [go_sem, simprocAttr, Blk.men, Blk.keysIn, rF, rG, he, hz])|exact qM rfl rfl rfl|(refine qG rfl ?_)|(refine qK (h1) (by decide) ?_)|(refine qK (h2) (by decide) ?_)|(refine qK (h3) (by decide) ?_)|(refine qK (h4) (by decide) ?_)|(refine qH rfl ?_)|(refine qI rfl ?_ ?_<;>intro hc<;>(try simp only [go_sem] at hc))|(refine qJ ?_ ?_<;>intro hc<;>(try simp only [hc])<;>(try simp only [go_sem] at hc)))
end Go.Dw.Seat
end
section
set_option linter.unusedSimpArgs false
set_option maxRecDepth 100000
namespace Go.Dw.Seat
open Go Go.Dw Go.Proofs Go.IntWalk
def newt (n : Int) : Int := (n + 99) / 100
theorem plNewton (n : Int) (h : 0 ≤ n ∧ n ≤ 5000000) : DCall Try.prog 92 [dI n] [] (dI (newt n)) [] := by
 have ht : Int.tdiv (n + 99) 100 = (n + 99) / 100 := Int.tdiv_eq_ediv_of_nonneg (by omega)
 unfold newt
 refine DCall.of Try.func92 sf92 hb92 (Nat.le_of_ble_eq_true rfl) (okRes_nil fun _ => rfl) ?_; simp only [s92, idxs, Nat.reduceAdd]
 repeat' (first|(with_reducible first|apply qA|apply qB|apply qC|apply qD|apply qE|apply qF)|(simp (disch:=omega) only [go_sem, simprocAttr, qN, qO, qP, qQ, ht])|exact qM rfl rfl rfl|(refine qG rfl ?_)|(refine qH rfl ?_)|(refine qI rfl ?_ ?_<;>intro hc<;>(try simp only [go_sem] at hc))|(refine qJ ?_ ?_<;>intro hc<;>(try simp only [hc])<;>(try simp only [go_sem] at hc)))
def lodF (b : PBx) : Lod := ⟨b.sl, b.sh, newt b.wl, newt b.wh⟩
theorem lodF_ok {b : PBx} (hb : b.ok) : (lodF b).ok := by
 have h1 := hb.w
 have h2 := hb.s
 refine ⟨h2, ?_⟩
 simp only [lodF, newt]
 omega
def layI (p : PBs) (b : PBx) (n : Int) (hg : Int) : Int :=
 if 0 < n * b.wh then min (min (min 30 hg) (max 0 (p.top - p.hi) / b.hi)) (p.load / (n * b.wh)) else min (min 30 hg) (max 0 (p.top - p.hi) / b.hi)
set_option maxHeartbeats 4000000 in
theorem plLayersX (p : PBs) (b : PBx) (l : List PPl) (hl : l.length ≤ 2 ^ 36) (keep : List (Int × Int)) (days : Int) (ht : TabOk keep days) : DCall Try.prog 52 [bsD p, bxD b, lyD false l, .c (.sl false 2 (rows eK keep)), dI days] [] (.tup [dI (if rgtE p b [l] = 0 ∧ l ≠ [] then layI p b l.length (highI (lodF b) keep days) else 0), dI (if rgtE p b [l] ≠ 0 then rgtE p b [l] else if l = [] then 7 else 0)]) [] := by
 have h3 := plRight true p b [l] (by simp) (by simpa using hl)
 rw [one_ls] at h3
 by_cases hr : rgtE p b [l] = 0
 case neg =>
  rw [if_neg (fun h => hr h.1), if_pos hr]
  generalize rgtE p b [l] = e at *
  have hd : (e != 0) = true := by simpa using hr
  by_cases hc : chkE p b = 0
  ·rw [if_pos hc] at h3
   refine DCall.of Try.func52 sf52 hb52 (Nat.le_of_ble_eq_true rfl) (okRes_nil fun _ => rfl) ?_; simp only [s52, idxs, Nat.reduceAdd]
   repeat' (first|(with_reducible first|apply qA|apply qB|apply qC|apply qD|apply qE|apply qF)|(refine qL rfl (WF.of ?_) ?_; first|rfl|skip)|(simp (disch:=omega) only [go_sem, simprocAttr, qN, qO, qP, qQ, hd])|exact qM rfl rfl rfl|(refine qG rfl ?_)|(refine qK (h3) (by decide) ?_)|(refine qH rfl ?_)|(refine qI rfl ?_ ?_<;>intro hc<;>(try simp only [go_sem] at hc))|(refine qJ ?_ ?_<;>intro hc<;>(try simp only [hc])<;>(try simp only [go_sem] at hc)))
  ·rw [if_neg hc] at h3
   refine DCall.of Try.func52 sf52 hb52 (Nat.le_of_ble_eq_true rfl) (okRes_nil fun _ => rfl) ?_; simp only [s52, idxs, Nat.reduceAdd]
   repeat' (first|(with_reducible first|apply qA|apply qB|apply qC|apply qD|apply qE|apply qF)|(refine qL rfl (WF.of ?_) ?_; first|rfl|skip)|(simp (disch:=omega) only [go_sem, simprocAttr, qN, qO, qP, qQ, hd])|exact qM rfl rfl rfl|(refine qG rfl ?_)|(refine qK (h3) (by decide) ?_)|(refine qH rfl ?_)|(refine qI rfl ?_ ?_<;>intro hc<;>(try simp only [go_sem] at hc))|(refine qJ ?_ ?_<;>intro hc<;>(try simp only [hc])<;>(try simp only [go_sem] at hc)))
 obtain ⟨ho, hli⟩ := rgt_op hr
 obtain ⟨⟨hc, hy⟩, hp, hb⟩ := op_ok ho
 have k1 := ly_ok hy l (by simp)
 rw [hr, if_pos hc] at h3
 rw [hr]
 by_cases hn : l = []
 ·rw [if_neg (fun h => h.2 hn), if_neg (by simp), if_pos hn]
  have hd : ((l.length : Int) == 0) = true := by rw [hn]; rfl
  refine DCall.of Try.func52 sf52 hb52 (Nat.le_of_ble_eq_true rfl) (okRes_nil fun _ => rfl) ?_; simp only [s52, idxs, Nat.reduceAdd]
  repeat' (first|(with_reducible first|apply qA|apply qB|apply qC|apply qD|apply qE|apply qF)|(refine qL rfl (WF.of ?_) ?_; first|rfl|skip)|(simp (disch:=omega) only [go_sem, simprocAttr, qN, qO, qP, qQ, hd])|exact qM rfl rfl rfl|(refine qG rfl ?_)|(refine qK (h3) (by decide) ?_)|(refine qH rfl ?_)|(refine qI rfl ?_ ?_<;>intro hc<;>(try simp only [go_sem] at hc))|(refine qJ ?_ ?_<;>intro hc<;>(try simp only [hc])<;>(try simp only [go_sem] at hc)))
 have hnl : 0 < l.length := List.length_pos_iff.2 hn
 rw [if_pos ⟨rfl, hn⟩, if_neg (by simp), if_neg hn]
 have hd : ((l.length : Int) == 0) = false := by rw [beq_eq_false_iff_ne]; omega
 have hw := hb.w
 have hhi := hb.hi
 have hph := hp.hi
 have hpt := hp.top
 have hpl := hp.load
 have n1 := plNewton b.wl (by omega)
 have n2 := plNewton b.wh (by omega)
 have hH := crHigh (lodF b) (lodF_ok hb) keep days ht
 simp only [lodF, eLd, List.map_cons, List.map_nil] at hH
 generalize hhg : highI (lodF b) keep days = hg
 rw [show highI ⟨b.sl, b.sh, newt b.wl, newt b.wh⟩ keep days = hg from hhg] at hH
 have hz : (b.hi = 0) = False := eq_false (by omega)
 have hm0 : 0 ≤ (l.length : Int) * b.wh := Int.mul_nonneg (by omega) (by omega)
 have hm1 : (l.length : Int) * b.wh ≤ 200 * 5000000 := Int.mul_le_mul (by omega) (by omega) (by omega) (by omega)
 have w1 : IntKind.i64.wrap ((l.length : Int) * b.wh) = (l.length : Int) * b.wh := IntWalk.i64_in _ (by omega)
 have t1 : Int.tdiv (max 0 (p.top - p.hi)) b.hi = max 0 (p.top - p.hi) / b.hi := Int.tdiv_eq_ediv_of_nonneg (by omega)
 have q1 : 0 ≤ max 0 (p.top - p.hi) / b.hi := Int.ediv_nonneg (by omega) (by omega)
 have q2 : max 0 (p.top - p.hi) / b.hi ≤ max 0 (p.top - p.hi) := Int.ediv_le_self _ (by omega)
 have w2 : IntKind.i64.wrap (max 0 (p.top - p.hi) / b.hi) = max 0 (p.top - p.hi) / b.hi := IntWalk.i64_in _ (by omega)
 unfold layI
 by_cases h0 : 0 < (l.length : Int) * b.wh
 ·have d0 : decide (0 < (l.length : Int) * b.wh) = true := decide_eq_true h0
  have hz2 : ((l.length : Int) * b.wh = 0) = False := eq_false (by omega)
  have t2 : Int.tdiv p.load ((l.length : Int) * b.wh) = p.load / ((l.length : Int) * b.wh) := Int.tdiv_eq_ediv_of_nonneg (by omega)
  have q3 : 0 ≤ p.load / ((l.length : Int) * b.wh) := Int.ediv_nonneg (by omega) (by omega)
  have q4 : p.load / ((l.length : Int) * b.wh) ≤ p.load := Int.ediv_le_self _ (by omega)
  have w3 : IntKind.i64.wrap (p.load / ((l.length : Int) * b.wh)) = p.load / ((l.length : Int) * b.wh) := IntWalk.i64_in _ (by omega)
  rw [if_pos h0]
  refine DCall.of Try.func52 sf52 hb52 (Nat.le_of_ble_eq_true rfl) (okRes_nil fun _ => rfl) ?_; simp only [s52, idxs, Nat.reduceAdd]
  repeat' (first|(with_reducible first|apply qA|apply qB|apply qC|apply qD|apply qE|apply qF)|(refine qL rfl (WF.of ?_) ?_; first|rfl|skip)|(simp (disch:=omega) only [go_sem, simprocAttr, qN, qO, qP, qQ, hd, d0, hz, hz2, w1, w2, w3, t1, t2, min_if, max_if, rF, rG])|exact qM rfl rfl rfl|(refine qG rfl ?_)|(refine qK (h3) (by decide) ?_)|(refine qK (n1) (by decide) ?_)|(refine qK (n2) (by decide) ?_)|(refine qK (hH) (by decide) ?_)|(refine qH rfl ?_)|(refine qI rfl ?_ ?_<;>intro hc<;>(try simp only [go_sem] at hc))|(refine qJ ?_ ?_<;>intro hc<;>(try simp only [hc])<;>(try simp only [go_sem] at hc)))
  skip
 ·have d0 : decide (0 < (l.length : Int) * b.wh) = false := decide_eq_false h0
  rw [if_neg h0]
  refine DCall.of Try.func52 sf52 hb52 (Nat.le_of_ble_eq_true rfl) (okRes_nil fun _ => rfl) ?_; simp only [s52, idxs, Nat.reduceAdd]
  repeat' (first|(with_reducible first|apply qA|apply qB|apply qC|apply qD|apply qE|apply qF)|(refine qL rfl (WF.of ?_) ?_; first|rfl|skip)|(simp (disch:=omega) only [go_sem, simprocAttr, qN, qO, qP, qQ, hd, d0, hz, w1, w2, t1, min_if, max_if, rF, rG])|exact qM rfl rfl rfl|(refine qG rfl ?_)|(refine qK (h3) (by decide) ?_)|(refine qK (n1) (by decide) ?_)|(refine qK (n2) (by decide) ?_)|(refine qK (hH) (by decide) ?_)|(refine qH rfl ?_)|(refine qI rfl ?_ ?_<;>intro hc<;>(try simp only [go_sem] at hc))|(refine qJ ?_ ?_<;>intro hc<;>(try simp only [hc])<;>(try simp only [go_sem] at hc)))
  skip
end Go.Dw.Seat
end
section
set_option linter.unusedSimpArgs false
set_option maxRecDepth 100000
namespace Go.Dw.Seat
open Go Go.Dw Go.Proofs Go.IntWalk
def cells (xs : List Int) : List D := xs.map fun x => dI x
def tops (m : Nat) : List D := List.replicate m .top
theorem cells_get {xs : List Int} {m i : Nat} (h : i < xs.length) : (cells xs ++ tops m)[i]? = some (dI (xs.getD i 0)) := by
 rw [List.getElem?_append_left (by simpa [cells] using h), cells, List.getElem?_map, List.getElem?_eq_getElem h, List.getD_eq_getElem?_getD, List.getElem?_eq_getElem h]
 rfl
theorem cells_set {xs : List Int} {m i : Nat} (h : i < xs.length) (v : Int) : (cells xs ++ tops m).set i (D.c (.v (.int .i64 v))) = cells (xs.set i v) ++ tops m := by
 rw [List.set_append_left _ _ (by simpa [cells] using h), cells, cells, List.map_set]
theorem cells_spl {xs : List Int} {m i : Nat} (h : i < xs.length) (v : Int) : List.take i (cells xs ++ tops m) ++ [D.c (.v (.int .i64 v))] ++ List.drop (i + 1) (cells xs ++ tops m) = cells (xs.set i v) ++ tops m := by
 rw [← cells_set h, List.set_eq_take_append_cons_drop, if_pos (by rw [List.length_append]; have : (cells xs).length = xs.length := (by simp [cells]); omega), List.append_assoc]; rfl
theorem cells_len (xs : List Int) (m : Nat) : (cells xs ++ tops m).length = xs.length + m := by simp [cells, tops]
theorem cells_men (j : Nat) (xs : List Int) (m : Nat) : D.mens j (cells xs ++ tops m) = false := by
 induction xs with
 | nil =>
  show D.mens j (tops m) = false
  induction m with
  | zero => rfl
  | succ m ih => simpa [tops, List.replicate_succ, D.mens, D.men] using ih
 | cons x xs ih => simpa [cells, D.mens, D.men, dI] using ih
theorem cells_nb (xs : List Int) (m : Nat) : D.nbs (cells xs ++ tops m) = true := by
 induction xs with
 | nil =>
  show D.nbs (tops m) = true
  induction m with
  | zero => rfl
  | succ m ih => simp only [tops, List.replicate_succ, D.nbs, Bool.and_eq_true]; exact ⟨rfl, ih⟩
 | cons x xs ih => simp only [cells, List.map_cons, List.cons_append, D.nbs, Bool.and_eq_true]; exact ⟨rfl, ih⟩
theorem cells_keys (bx : List (Nat × Blk)) (xs : List Int) (m : Nat) : D.keysIns bx (cells xs ++ tops m) = true := by
 induction xs with
 | nil =>
  show D.keysIns bx (tops m) = true
  induction m with
  | zero => rfl
  | succ m ih => simpa [tops, List.replicate_succ, D.keysIns, D.keysIn] using ih
 | cons x xs ih => simpa [cells, D.keysIns, D.keysIn, dI] using ih
theorem bk_pbx (bx : List (Nat × Blk)) (l : Nat) (ds : List D) : Blk.keysIn bx (.pbox l ds) = D.keysIns bx ds := rfl
theorem bm_pbx (k l : Nat) (ds : List D) : Blk.men k (.pbox l ds) = D.mens k ds := rfl
attribute [go_sem] cells_keys bk_pbx bm_pbx cells_men
theorem flatI (xs : List Int) : (rowC (rows eI xs)).flatten = cells xs := by
 induction xs with
 | nil => rfl
 | cons x xs ih => simp only [rows, rowC, List.map_cons, List.flatten_cons] at ih ⊢; rw [ih]; rfl
def swp1 (xs : List Int) (i j : Nat) : List Int := (xs.set i (xs.getD j 0)).set j (xs.getD i 0)
def swpN (lo L : Nat) : Nat → List Int → List Int
 | 0, xs => xs
 | k + 1, xs => swp1 (swpN lo L k xs) (lo + k) (lo + L - 1 - k)
theorem swpN_len (lo L : Nat) (xs : List Int) : ∀ k, (swpN lo L k xs).length = xs.length
 | 0 => rfl
 | k + 1 => by rw [swpN, swp1, List.length_set, List.length_set, swpN_len lo L xs k]
def revF (lo L : Nat) (xs : List Int) : List Int := swpN lo L (L / 2) xs
theorem pb_ok (k l : Nat) (xs : List Int) (m : Nat) : okRes (.tup []) [(k, .pbox l (cells xs ++ tops m))] := by
 refine ⟨fun _ _ => rfl, fun j x hj i _ => ?_⟩
 simp only [get] at hj
 split at hj
 ·cases hj; exact cells_men i xs m
 ·cases hj
theorem pb_nb (k l : Nat) (xs : List Int) (m : Nat) {j : Nat} {x : Blk} (hk : get j [(k, Blk.pbox l (cells xs ++ tops m))] = some x) : j = k ∧ x = .pbox l (cells xs ++ tops m) ∧ x.nb = true := by
 simp only [get] at hk
 split at hk
 ·rename_i e; cases hk; exact ⟨e, rfl, cells_nb xs m⟩
 ·cases hk
theorem plReverse (l lo L cap m : Nat) (xs : List Int) (hx : xs.length ≤ 7) (hl : lo + L = xs.length) (hc : L ≤ cap) : DCall Try.prog 112 [.c (.v (.slice (some ⟨l, lo, none⟩) L cap))] [(9, .pbox l (cells xs ++ tops m))] (.tup []) [(9, .pbox l (cells (revF lo L xs) ++ tops m))] := by
 refine DCall.of Try.func112 sf112 hb112 (Nat.le_of_ble_eq_true rfl) (pb_ok _ _ _ _) ?_
 simp only [s112, o112_0, o112_1, o112_2, o112_3, o112_4, o112_5, o112_6, o112_7, o112_8, o112_9, o112_10, o112_11, o112_12, o112_13, o112_14, o112_15, idxs, Nat.reduceAdd]
 repeat' (first|(with_reducible first|apply qA|apply qB|apply qC|apply qD|apply qE|apply qF)|(refine DW.ord rfl (WF.of (by first|rfl|simp (disch:=omega) only [go_sem, simprocAttr, qN, qO, qP, qQ])) ?_ ?_ ?_; rotate_left)|rfl|(with_reducible refine And.intro ?_ ?_)|(simp (disch:=omega) only [go_sem, simprocAttr, qN, qO, qP, qQ])|exact qM rfl rfl rfl|(refine qG rfl ?_)|(refine qH rfl ?_)|(refine qI rfl ?_ ?_<;>intro hc<;>(try simp only [go_sem] at hc))|(refine qJ ?_ ?_<;>intro hc<;>(try simp only [hc])<;>(try simp only [go_sem] at hc)))
 refine DW.loop (ι := { i : Nat // i ≤ L / 2 }) (fun i => ⟨28, [(3, dI ((L : Int) - 1 - i.1)), (2, dI i.1), (0, .c (.v (.slice (some ⟨l, lo, none⟩) L cap)))], [(9, .pbox l (cells (swpN lo L i.1 xs) ++ tops m))]⟩) (fun i => L / 2 - i.1) ⟨0, Nat.zero_le _⟩ ?_ ?_
 ·refine Ent.to ?_ ?_ <;> simp (disch:=omega) only [qR,qS,qT,qU,get,Nat.reduceEqDiff,↓reduceIte,qV,qW,qX,qY,qZ,and_self,dI,i64_in,and_true,true_and,rA,rB,rC,rD,swpN,Int.sub_zero]
  all_goals first | exact ⟨.refl _, .refl _, .refl _⟩ | exact ⟨.refl _, .refl _⟩ | exact .refl _
 rintro ⟨i, hi⟩
 dsimp only
 by_cases hlt : i < L / 2
 ·have hj : (L : Int) - 1 - (i : Int) = ((L - 1 - i : Nat) : Int) := by omega
  have hd : decide ((i : Int) < ((L - 1 - i : Nat) : Int)) = true := decide_eq_true (by omega)
  have hlen := swpN_len lo L xs i
  have hst : swpN lo L (i + 1) xs = swp1 (swpN lo L i xs) (lo + i) (lo + L - 1 - i) := rfl
  have hjj : lo + L - 1 - i = lo + (L - 1 - i) := by omega
  rw [hjj] at hst
  have h1 := cells_get (xs := swpN lo L i xs) (m := m) (i := lo + i) (by omega)
  have h2 := cells_get (xs := swpN lo L i xs) (m := m) (i := lo + (L - 1 - i)) (by omega)
  have h3 := cells_len (swpN lo L i xs) m
  generalize swpN lo L i xs = ys at *
  have h4 := fun v => cells_spl (xs := ys) (m := m) (i := lo + i) (by omega) v
  have h5 := fun v w => cells_spl (xs := ys.set (lo + i) v) (m := m) (i := lo + (L - 1 - i)) (by rw [List.length_set]; omega) w
  have h6 := fun v => cells_get (xs := ys.set (lo + i) v) (m := m) (i := lo + (L - 1 - i)) (by rw [List.length_set]; omega)
  have h7 := fun v => cells_len (ys.set (lo + i) v) m
  have b1 : (i < L) = True := eq_true (by omega)
  have b2 : (L - 1 - i < L) = True := eq_true (by omega)
  have c1 : (lo + i + 1 ≤ ys.length + m) = True := eq_true (by omega)
  have c2 : (lo + (L - 1 - i) + 1 ≤ ys.length + m) = True := eq_true (by omega)
  rw [hj]
  generalize L - 1 - i = j at *
  repeat' (first|(with_reducible first|apply qA|apply qB|apply qC|apply qD|apply qE|apply qF)|(refine DW.ord rfl (WF.of (by first|rfl|simp (disch:=omega) only [go_sem, simprocAttr, qN, qO, qP, qQ, Nat.mul_one, hd, h1, h2, h3, h4, h5, h6, h7, b1, b2, c1, c2, List.length_set])) ?_ ?_ ?_; rotate_left)|rfl|(with_reducible refine And.intro ?_ ?_)|(simp (disch:=omega) only [go_sem, simprocAttr, qN, qO, qP, qQ, Nat.mul_one, hd, h1, h2, h3, h4, h5, h6, h7, b1, b2, c1, c2, List.length_set])|exact qM rfl rfl rfl|(refine qG rfl ?_)|(refine qH rfl ?_)|(refine qI rfl ?_ ?_<;>intro hc<;>(try simp only [go_sem] at hc))|(refine qJ ?_ ?_<;>intro hc<;>(try simp only [hc])<;>(try simp only [go_sem] at hc)))
  have hst2 : swpN lo L (i + 1) xs = (ys.set (lo + i) (ys.getD (lo + j) 0)).set (lo + j) (ys.getD (lo + i) 0) := hst
  have hj2 : (L : Int) - 1 - ((i + 1 : Nat) : Int) = (j : Int) - 1 := by omega
  refine ⟨⟨i + 1, by omega⟩, (by show _ < _; (try simp only); omega), Ent.to ?_ ?_⟩
  ·dsimp only
   rw [hj2]
   simp (disch:=omega) only [qR,qS,qT,qU,get,Nat.reduceEqDiff,↓reduceIte,qV,qW,qX,qY,qZ,and_self,dI,i64_in,and_true,true_and,rA,rB,rC,rD]
  ·dsimp only
   rw [hst2]
   simp (disch:=omega) only [qR,qS,qT,qU,get,Nat.reduceEqDiff,↓reduceIte,qV,qW,qX,qY,qZ,and_self,dI,i64_in,and_true,true_and,rA,rB,rC,rD]
 ·have hd : decide ((i : Int) < (L : Int) - 1 - (i : Int)) = false := decide_eq_false (by omega)
  obtain rfl : i = L / 2 := by omega
  rw [revF]
  repeat' (first|(with_reducible first|apply qA|apply qB|apply qC|apply qD|apply qE|apply qF)|(refine DW.ord rfl (WF.of (by first|rfl|simp (disch:=omega) only [go_sem, simprocAttr, qN, qO, qP, qQ, hd])) ?_ ?_ ?_; rotate_left)|rfl|(with_reducible refine And.intro ?_ ?_)|(simp (disch:=omega) only [go_sem, simprocAttr, qN, qO, qP, qQ, hd])|exact qM rfl rfl rfl|(refine qG rfl ?_)|(refine qH rfl ?_)|(refine qI rfl ?_ ?_<;>intro hc<;>(try simp only [go_sem] at hc))|(refine qJ ?_ ?_<;>intro hc<;>(try simp only [hc])<;>(try simp only [go_sem] at hc)))
  exact ⟨.inr rfl, _, [], Ent.refl _, rfl, .refl _, rfl, fun j x hj => by
   obtain ⟨rfl, rfl, hn⟩ := pb_nb 9 l _ m hj
   exact ⟨by simp (disch:=omega) only [go_sem,simprocAttr,qN,qO,qP,qQ], hn⟩⟩
end Go.Dw.Seat
end
section
set_option linter.unusedSimpArgs false
set_option maxRecDepth 100000
namespace Go.Dw.Seat
open Go Go.Dw Go.Proofs Go.IntWalk
def dscF (xs : List Int) : Nat → Nat
 | 0 => 0
 | c + 1 => if xs.getD (c + 1) 0 < xs.getD c 0 then dscF xs c else c + 1
def ascF (xs : List Int) (v : Int) : Nat → Nat
 | 0 => 0
 | j + 1 => if xs.getD (j + 1) 0 < v then ascF xs v j else j + 1
def nxtP (xs : List Int) : Option (List Int) := match dscF xs (xs.length - 1) with
 | 0 => none
 | i + 1 => some (revF (i + 1) (xs.length - (i + 1)) (swp1 xs i (ascF xs (xs.getD i 0) (xs.length - 1))))
def goP : Nat → List Int → List (List Int)
 | 0, _ => []
 | f + 1, xs => xs :: match nxtP xs with
  | none => []
  | some ys => goP f ys
def okP (n : Nat) : Nat → List Int → Bool
 | 0, _ => false
 | f + 1, xs => (xs.length == n && xs.all (fun x => decide (0 ≤ x) && decide (x < n))) && (match dscF xs (n - 1) with | 0 => true | i + 1 => decide (i + 1 < n) && decide (i < ascF xs (xs.getD i 0) (n - 1))) && match nxtP xs with
  | none => true
  | some ys => okP n f ys
def upN (n : Nat) : List Int := (List.range n).map fun i : Nat => (i : Int)
theorem upN_ok : ∀ n : Fin 7, okP n.1 721 (upN n.1) = true := by decide +kernel
theorem upN_succ (n : Nat) : upN (n + 1) = upN n ++ [(n : Int)] := by simp [upN, List.range_succ]
theorem upN_len (n : Nat) : (upN n).length = n := by simp [upN]
def enO (l : List Int) : List D := [dIs true l]
theorem plOrders0 (n : Nat) : DCall Try.prog 81 [dI n] [] (.fn (.func 111) [] [.c (.ro false [.v (.int .i64 n)] 0)]) [] := by
 refine DCall.of Try.func81 sf81 hb81 (Nat.le_of_ble_eq_true rfl) (okRes_nil fun _ => rfl) ?_; simp only [s81, idxs, Nat.reduceAdd]
 repeat' (first|(with_reducible first|apply qA|apply qB|apply qC|apply qD|apply qE|apply qF)|(refine DW.ord rfl (WF.of (by first|rfl|simp (disch:=omega) only [go_sem, simprocAttr, qN, qO, qP, qQ])) ?_ ?_ ?_; rotate_left)|rfl|(with_reducible refine And.intro ?_ ?_)|(simp (disch:=omega) only [go_sem, simprocAttr, qN, qO, qP, qQ])|exact qM rfl rfl rfl|(refine qG rfl ?_)|(refine qH rfl ?_)|(refine qI rfl ?_ ?_<;>intro hc<;>(try simp only [go_sem] at hc))|(refine qJ ?_ ?_<;>intro hc<;>(try simp only [hc])<;>(try simp only [go_sem] at hc)))
 (refine retS_ent (Ent.rel 1 rfl) ?_; simp (disch:=omega) only [go_sem,simprocAttr,qN,qO,qP,qQ])
 refine retS_wk rfl ?_ (by simp only [Blk.nb, rowC_nb, D.nb, D.nbs, C.nb, C.nbs, C.nbss, rows_nb eI_nb, Bool.and_true, Bool.not_false, Bool.and_self, bD, dI, iD]); exact .refl _
theorem del_none {k : Nat} : ∀ {l : List (Nat × Blk)}, get k l = none → del k l = l
 | [], _ => rfl
 | p :: l, h => by
  simp only [get] at h
  split at h
  ·cases h
  ·rename_i hne
   simp only [del]
   rw [if_neg (fun e => hne (by first | exact e | exact e.symm)), del_none h]
end Go.Dw.Seat
end
section
set_option linter.unusedSimpArgs false
set_option maxRecDepth 100000
namespace Go.Dw.Seat
open Go Go.Dw Go.Proofs Go.IntWalk
theorem rowI_len (xs : List Int) : (rowC (rows eI xs)).length = xs.length := by simp [rowC, rows]
theorem los_map (cs : List C) : D.los (cs.map D.c) = true := by
 induction cs with
 | nil => rfl
 | cons c cs ih => simp only [List.map_cons, D.los, D.lo, ih, Bool.and_self]
theorem lo_row (es : List (List C)) (n : Nat) : Blk.lo (.row n (rowC es)) = true := by
 simp only [Blk.lo, rowC, List.all_map, List.all_eq_true]
 intro e _
 exact los_map e
theorem loB9 {tm : List (Nat × D)} (xs : List Int) (h : tm.all (fun p => p.2.lo) = true) : loB tm [(9, .row 1 (rowC (rows eI xs)))] = true := by
 simp only [loB, h, List.all_cons, List.all_nil, lo_row, Bool.and_true]; rfl
set_option maxHeartbeats 8000000 in
theorem plOrders1 (n : Nat) (hn : n ≤ 6) : ItB true Try.prog 111 [] [.c (.ro false [.v (.int .i64 n)] 0)] enO (fun _ => True) (goP 721 (upN n)) := by
 intro ly β H stp live _ hW hY b0 hl0
 have hH : ∀ b, HidOk (H b) := fun b => (hW b).toHidOk
 refine DCall.of Try.func111 sf111 hb111 (Nat.le_of_ble_eq_true rfl) (hH _).res ?_
 simp only [s111, idxs, Nat.reduceAdd, List.map_nil, List.map_cons, List.nil_append, List.cons_append]
 have f1 := hid_get (hH b0)
 have f2 := hid_ins (hH b0)
 have f3 := (hH b0).men
 have f4 := (hH b0).lo
 have f5 : ∀ k x, k < 1000 → ins k x (H b0) = H b0 ++ [(k, x)] := fun k x hk => by have := f2 k hk x []; rwa [List.append_nil] at this
 have f6 := fun k (hk : k < 1000) => kill_hid (hH b0) k hk
 repeat' (first|(with_reducible first|apply qA|apply qB|apply qC|apply qD|apply qE|apply qF)|(refine qL rfl (WF.of ?_) ?_; first|rfl|skip)|(refine DW.ord rfl (WF.of (by first|rfl|simp (disch:=omega) only [go_sem, simprocAttr, qN, qO, qP, qQ, f1, f2, f3, f4, f5, ins, rF, rG])) ?_ ?_ ?_; rotate_left)|rfl|(with_reducible refine And.intro ?_ ?_)|(simp (disch:=omega) only [go_sem, simprocAttr, qN, qO, qP, qQ, f1, f2, f3, f4, f5, ins, rF, rG])|exact qM rfl rfl rfl|(refine qG rfl ?_)|(refine qH rfl ?_)|(refine qI rfl ?_ ?_<;>intro hc<;>(try simp only [go_sem] at hc))|(refine qJ ?_ ?_<;>intro hc<;>(try simp only [hc])<;>(try simp only [go_sem] at hc)))
 refine DW.ent (Ent.comm (hH b0) rfl).1 ?_
 simp (disch:=omega) only [go_sem,simprocAttr,qN,qO,qP,qQ,List.cons_append,List.nil_append]
 refine DW.loop (ι := { i : Nat // i ≤ n }) (fun i => ⟨77, [(11, dI i.1), (10, dI n), (3, .own 9), (0, .c (.fn (.yield ly) [] [])), (1, .c (.ro false [.v (.int .i64 n)] 0))], [(9, .row 1 (rowC (rows eI (upN i.1))))] ++ H b0⟩) (fun i => n - i.1) ⟨0, Nat.zero_le _⟩ ?_ ?_
 ·refine Ent.toH (o := [_]) (o' := [_]) (hH b0) rfl ?_ ?_ <;> simp (disch:=omega) only [qR,qS,qT,qU,get,Nat.reduceEqDiff,↓reduceIte,qV,qW,qX,qY,qZ,and_self,dI,i64_in,and_true,true_and,rA,rB,rC,rD,upN,List.range_zero,rG]
  all_goals first | exact ⟨.refl _, .refl _, .refl _⟩ | exact ⟨.refl _, .refl _⟩ | exact .refl _
 rintro ⟨i, hi⟩
 dsimp only
 have hul := upN_len i
 by_cases hlt : i < n
 ·have hd : decide ((i : Int) < (n : Int)) = true := decide_eq_true (by omega)
  have hs := upN_succ i
  generalize upN i = U at *
  repeat' (first|(with_reducible first|apply qA|apply qB|apply qC|apply qD|apply qE|apply qF)|(refine qL rfl (WF.of ?_) ?_; first|rfl|skip)|(refine DW.ord rfl (WF.of (by first|rfl|simp (disch:=omega) only [go_sem, simprocAttr, qN, qO, qP, qQ, f1, f2, f3, f4, f5, f6, ins, hd, hul, rF, rG])) ?_ ?_ ?_; rotate_left)|rfl|(with_reducible refine And.intro ?_ ?_)|(simp (disch:=omega) only [go_sem, simprocAttr, qN, qO, qP, qQ, f1, f2, f3, f4, f5, f6, ins, hd, hul, rF, rG])|exact qM rfl rfl rfl|(refine qG rfl ?_)|(refine qH rfl ?_)|(refine qI rfl ?_ ?_<;>intro hc<;>(try simp only [go_sem] at hc))|(refine qJ ?_ ?_<;>intro hc<;>(try simp only [hc])<;>(try simp only [go_sem] at hc)))
  refine ⟨⟨i + 1, hlt⟩, (by show _ < _; (try simp only); omega), Ent.toH (o := [_, _]) (o' := [_]) (hH b0) rfl ?_ ?_⟩ <;> simp (disch:=omega) only [qR,qS,qT,qU,get,Nat.reduceEqDiff,↓reduceIte,qV,qW,qX,qY,qZ,and_self,dI,i64_in,and_true,true_and,rA,rB,rC,rD,hs,rowC_snocI]
  all_goals first | exact ⟨.refl _, .refl _, .refl _⟩ | exact ⟨.refl _, .refl _⟩ | exact .refl _
 have hd : decide ((i : Int) < (n : Int)) = false := decide_eq_false (by omega)
 have hin : i = n := by omega
 subst hin
 have hok := upN_ok ⟨i, by omega⟩
 dsimp only at hok
 generalize upN i = U at *
 clear hlt
 obtain ⟨Z, hZ⟩ : ∃ Z, Z = runB stp b0 (goP 721 U) := ⟨_, rfl⟩
 rw [← hZ]
 repeat' (first|(with_reducible first|apply qA|apply qB|apply qC|apply qD|apply qE|apply qF)|(refine qL rfl (WF.of ?_) ?_; first|rfl|skip)|(refine DW.ord rfl (WF.of (by first|rfl|simp (disch:=omega) only [go_sem, simprocAttr, qN, qO, qP, qQ, hd])) ?_ ?_ ?_; rotate_left)|rfl|(with_reducible refine And.intro ?_ ?_)|(simp (disch:=omega) only [go_sem, simprocAttr, qN, qO, qP, qQ, hd])|exact qM rfl rfl rfl|(refine qG rfl ?_)|(refine qH rfl ?_)|(refine qI rfl ?_ ?_<;>intro hc<;>(try simp only [go_sem] at hc))|(refine qJ ?_ ?_<;>intro hc<;>(try simp only [hc])<;>(try simp only [go_sem] at hc)))
 refine DW.loop (ι := { y : (Nat × List Int) × β // okP i y.1.1 y.1.2 = true ∧ live (goP y.1.1 y.1.2) y.2 ∧ Z = runB stp y.2 (goP y.1.1 y.1.2) })
  (fun y => ⟨77, [(3, .own 9), (0, .c (.fn (.yield ly) [] [])), (1, .c (.ro false [.v (.int .i64 i)] 0))], [(9, .row 1 (rowC (rows eI y.1.1.2)))] ++ H y.1.2⟩) (fun y => y.1.1.1) ⟨((721, U), b0), hok, hl0, hZ⟩ ?_ ?_
 ·refine Ent.toH (o := [_]) (o' := [_]) (hH b0) rfl ?_ ?_ <;> simp (disch:=omega) only [qR,qS,qT,qU,get,Nat.reduceEqDiff,↓reduceIte,qV,qW,qX,qY,qZ,and_self,dI,i64_in,and_true,true_and,rA,rB,rC,rD]
  all_goals first | exact ⟨.refl _, .refl _, .refl _⟩ | exact ⟨.refl _, .refl _⟩ | exact .refl _
 clear f1 f2 f3 f4 f5 f6
 rintro ⟨⟨⟨f, xs⟩, b1⟩, hok, hlv, hrun⟩
 dsimp only at hok hlv hrun ⊢
 cases f with
 | zero => cases hok
 | succ f =>
  rw [okP, Bool.and_eq_true, Bool.and_eq_true, Bool.and_eq_true, beq_iff_eq] at hok
  obtain ⟨⟨⟨hlen, hall⟩, hst⟩, hnx⟩ := hok
  rw [goP] at hlv hrun
  rw [runB] at hrun
  obtain ⟨hyc, hlv2⟩ := hY b1 xs _ hlv trivial
  have hyc : YCall Try.prog ly [dIs true xs] (H b1) _ _ := hyc
  cases hc : (stp b1 xs).1 with
  | false =>
   rw [hc] at hyc
   rw [hc, if_neg Bool.false_ne_true] at hrun
   repeat' (first|(with_reducible first|apply qA|apply qB|apply qC|apply qD|apply qE|apply qF)|(refine qL rfl (WF.of ?_) ?_; first|rfl|skip)|(refine DW.ord rfl (WF.of (by first|rfl|simp (disch:=omega) only [go_sem, simprocAttr, qN, qO, qP, qQ, rF, rG])) ?_ ?_ ?_; rotate_left)|rfl|(with_reducible refine And.intro ?_ ?_)|(simp (disch:=omega) only [go_sem, simprocAttr, qN, qO, qP, qQ, rF, rG])|exact qM rfl rfl rfl|(refine qG rfl ?_)|(refine qH rfl ?_)|(refine qI rfl ?_ ?_<;>intro hc<;>(try simp only [go_sem] at hc))|(refine qJ ?_ ?_<;>intro hc<;>(try simp only [hc])<;>(try simp only [go_sem] at hc)))
   refine call_y (own := [_]) hyc rfl (by simp (disch:=omega) only [go_sem,simprocAttr,qN,qO,qP,qQ,rF,rG]) (loB9 xs rfl) (hH _) (hH _) (by decide) ?_
   simp (disch:=omega) only [go_sem,simprocAttr,qN,qO,qP,qQ]
   repeat' (first|(with_reducible first|apply qA|apply qB|apply qC|apply qD|apply qE|apply qF)|(refine qL rfl (WF.of ?_) ?_; first|rfl|skip)|(refine DW.ord rfl (WF.of (by first|rfl|simp (disch:=omega) only [go_sem, simprocAttr, qN, qO, qP, qQ])) ?_ ?_ ?_; rotate_left)|rfl|(with_reducible refine And.intro ?_ ?_)|(simp (disch:=omega) only [go_sem, simprocAttr, qN, qO, qP, qQ])|exact qM rfl rfl rfl|(refine qG rfl ?_)|(refine qH rfl ?_)|(refine qI rfl ?_ ?_<;>intro hc<;>(try simp only [go_sem] at hc))|(refine qJ ?_ ?_<;>intro hc<;>(try simp only [hc])<;>(try simp only [go_sem] at hc)))
   rw [hrun]
   exact retS_hid (own := [_]) (.inl rfl) (hH _) (loB9 xs rfl)
  | true =>
   rw [hc] at hyc
   rw [hc, if_pos rfl] at hrun
   have hlv2 := hlv2 hc
   repeat' (first|(with_reducible first|apply qA|apply qB|apply qC|apply qD|apply qE|apply qF)|(refine qL rfl (WF.of ?_) ?_; first|rfl|skip)|(refine DW.ord rfl (WF.of (by first|rfl|simp (disch:=omega) only [go_sem, simprocAttr, qN, qO, qP, qQ, rF, rG])) ?_ ?_ ?_; rotate_left)|rfl|(with_reducible refine And.intro ?_ ?_)|(simp (disch:=omega) only [go_sem, simprocAttr, qN, qO, qP, qQ, rF, rG])|exact qM rfl rfl rfl|(refine qG rfl ?_)|(refine qH rfl ?_)|(refine qI rfl ?_ ?_<;>intro hc<;>(try simp only [go_sem] at hc))|(refine qJ ?_ ?_<;>intro hc<;>(try simp only [hc])<;>(try simp only [go_sem] at hc)))
   refine call_y (own := [_]) hyc rfl (by simp (disch:=omega) only [go_sem,simprocAttr,qN,qO,qP,qQ,rF,rG]) (loB9 xs rfl) (hH _) (hH _) (by decide) ?_
   simp (disch:=omega) only [go_sem,simprocAttr,qN,qO,qP,qQ]
   generalize (stp b1 xs).2 = b2 at *
   have g1 := hid_get (hH b2)
   have g2 := hid_ins (hH b2)
   have g3 := (hH b2).men
   have g4 := (hH b2).lo
   have g5 : ∀ k x, k < 1000 → ins k x (H b2) = H b2 ++ [(k, x)] := fun k x hk => by have := g2 k hk x []; rwa [List.append_nil] at this
   have g6 := (hW b2).app4
   have g7 := (hW b2).app3
   have g8 := fun x => (hW b2).app [(9, x)]
   simp only [List.cons_append, List.nil_append] at g8
   repeat' (first|(with_reducible first|apply qA|apply qB|apply qC|apply qD|apply qE|apply qF)|(refine qL rfl (WF.of ?_) ?_; first|rfl|skip)|(refine DW.ord rfl (WF.of (by first|rfl|simp (disch:=omega) only [go_sem, simprocAttr, qN, qO, qP, qQ, g1, g2, g3, g4, g5, g6, g7, ins])) ?_ ?_ ?_; rotate_left)|rfl|(with_reducible refine And.intro ?_ ?_)|(simp (disch:=omega) only [go_sem, simprocAttr, qN, qO, qP, qQ, g1, g2, g3, g4, g5, g6, g7, ins])|exact qM rfl rfl rfl|(refine qG rfl ?_)|(refine qH rfl ?_)|(refine qI rfl ?_ ?_<;>intro hc<;>(try simp only [go_sem] at hc))|(refine qJ ?_ ?_<;>intro hc<;>(try simp only [hc])<;>(try simp only [go_sem] at hc)))
   obtain ⟨z, hz⟩ : ∃ z : Int, z = if i = 0 then -2 else -1 := ⟨_, rfl⟩
   have he0 : (i : Int) - 2 = ((i - 1 : Nat) : Int) + z := by rw [hz]; split <;> omega
   have hzn : z < 0 := by rw [hz]; split <;> omega
   refine DW.loop (ι := { c : Nat // c ≤ i - 1 ∧ dscF xs (i - 1) = dscF xs c }) (fun c => ⟨77, [(5, dI ((c.1 : Int) + z)), (3, .own 9), (0, .c (.fn (.yield ly) [] [])), (1, .c (.ro false [.v (.int .i64 i)] 0))], [(9, .row 1 (rowC (rows eI xs)))] ++ H b2⟩) (fun c => c.1) ⟨i - 1, Nat.le_refl _, rfl⟩ ?_ ?_
   ·refine Ent.toH (o := [_]) (o' := [_]) (hH b2) rfl ?_ ?_ <;> simp (disch:=omega) only [qR,qS,qT,qU,get,Nat.reduceEqDiff,↓reduceIte,qV,qW,qX,qY,qZ,and_self,dI,i64_in,and_true,true_and,rA,rB,rC,rD,he0]
    all_goals first | exact ⟨.refl _, .refl _, .refl _⟩ | exact ⟨.refl _, .refl _⟩ | exact .refl _
   rintro ⟨c, hc1, hc2⟩
   dsimp only
   cases c with
   | zero =>
    have hd : decide (0 ≤ z) = false := decide_eq_false (by omega)
    have hd2 : decide (z < 0) = true := decide_eq_true hzn
    have hz0 : ((0 : Nat) : Int) + z = z := by omega
    rw [hz0]
    have hnx0 : nxtP xs = none := by rw [nxtP, hlen, hc2]; rfl
    rw [hnx0, runB] at hrun
    repeat' (first|(with_reducible first|apply qA|apply qB|apply qC|apply qD|apply qE|apply qF)|(refine qL rfl (WF.of ?_) ?_; first|rfl|skip)|(refine DW.ord rfl (WF.of (by first|rfl|simp (disch:=omega) only [go_sem, simprocAttr, qN, qO, qP, qQ, g1, g2, g3, g4, g5, g6, g7, g8, ins, hd, hd2])) ?_ ?_ ?_; rotate_left)|rfl|(with_reducible refine And.intro ?_ ?_)|(simp (disch:=omega) only [go_sem, simprocAttr, qN, qO, qP, qQ, g1, g2, g3, g4, g5, g6, g7, g8, ins, hd, hd2])|exact qM rfl rfl rfl|(refine qG rfl ?_)|(refine qH rfl ?_)|(refine qI rfl ?_ ?_<;>intro hc<;>(try simp only [go_sem] at hc))|(refine qJ ?_ ?_<;>intro hc<;>(try simp only [hc])<;>(try simp only [go_sem] at hc)))
    rw [hrun]
    exact retS_hid (own := [_]) (.inl rfl) (hH _) (loB9 xs rfl)
   | succ c =>
    have hcz : ((c + 1 : Nat) : Int) + z = (c : Int) := by rw [hz, if_neg (by omega)]; omega
    rw [hcz]
    have hcm : (c : Int) + z = (c : Int) - 1 := by rw [hz, if_neg (by omega)]; omega
    have hd : decide (0 ≤ (c : Int)) = true := decide_eq_true (by omega)
    have hg0 : xs[c]? = some (xs.getD c 0) := by rw [List.getD_eq_getElem?_getD, List.getElem?_eq_getElem (by omega)]; rfl
    have hg1 : xs[c + 1]? = some (xs.getD (c + 1) 0) := by rw [List.getD_eq_getElem?_getD, List.getElem?_eq_getElem (by omega)]; rfl
    have hb0 : (c < i) = True := eq_true (by omega)
    have hb1 : (c + 1 < i) = True := eq_true (by omega)
    have hw : IntKind.i64.wrap ((c : Int) + 1) = ((c + 1 : Nat) : Int) := by rw [IntWalk.i64_in _ (by omega)]; omega
    rw [dscF] at hc2
    by_cases hgt : xs.getD (c + 1) 0 < xs.getD c 0
    ·have hd3 : decide (xs.getD (c + 1) 0 < xs.getD c 0) = true := decide_eq_true hgt
     rw [if_pos hgt] at hc2
     repeat' (first|(with_reducible first|apply qA|apply qB|apply qC|apply qD|apply qE|apply qF)|(refine qL rfl (WF.of ?_) ?_; first|rfl|skip)|(refine DW.ord rfl (WF.of (by first|rfl|simp (disch:=omega) only [go_sem, simprocAttr, qN, qO, qP, qQ, g1, g2, g3, g4, g5, g6, g7, g8, ins, hd, hg0, hg1, hb0, hb1, hw, hd3, hlen])) ?_ ?_ ?_; rotate_left)|rfl|(with_reducible refine And.intro ?_ ?_)|(simp (disch:=omega) only [go_sem, simprocAttr, qN, qO, qP, qQ, g1, g2, g3, g4, g5, g6, g7, g8, ins, hd, hg0, hg1, hb0, hb1, hw, hd3, hlen])|exact qM rfl rfl rfl|(refine qG rfl ?_)|(refine qH rfl ?_)|(refine qI rfl ?_ ?_<;>intro hc<;>(try simp only [go_sem] at hc))|(refine qJ ?_ ?_<;>intro hc<;>(try simp only [hc])<;>(try simp only [go_sem] at hc)))
     refine ⟨⟨c, by omega, hc2⟩, (by show _ < _; (try simp only); omega), Ent.toH (o := [_]) (o' := [_]) (hH b2) rfl ?_ ?_⟩ <;> simp (disch:=omega) only [qR,qS,qT,qU,get,Nat.reduceEqDiff,↓reduceIte,qV,qW,qX,qY,qZ,and_self,dI,i64_in,and_true,true_and,rA,rB,rC,rD,hcm]
     all_goals first | exact ⟨.refl _, .refl _, .refl _⟩ | exact ⟨.refl _, .refl _⟩ | exact .refl _
    ·have hd3 : decide (xs.getD (c + 1) 0 < xs.getD c 0) = false := decide_eq_false hgt
     have hd4 : decide ((c : Int) < 0) = false := decide_eq_false (by omega)
     rw [if_neg hgt] at hc2
     repeat' (first|(with_reducible first|apply qA|apply qB|apply qC|apply qD|apply qE|apply qF)|(refine qL rfl (WF.of ?_) ?_; first|rfl|skip)|(refine DW.ord rfl (WF.of (by first|rfl|simp (disch:=omega) only [go_sem, simprocAttr, qN, qO, qP, qQ, g1, g2, g3, g4, g5, g6, g7, g8, ins, hd, hg0, hg1, hb0, hb1, hw, hd3, hd4, hlen])) ?_ ?_ ?_; rotate_left)|rfl|(with_reducible refine And.intro ?_ ?_)|(simp (disch:=omega) only [go_sem, simprocAttr, qN, qO, qP, qQ, g1, g2, g3, g4, g5, g6, g7, g8, ins, hd, hg0, hg1, hb0, hb1, hw, hd3, hd4, hlen])|exact qM rfl rfl rfl|(refine qG rfl ?_)|(refine qH rfl ?_)|(refine qI rfl ?_ ?_<;>intro hc<;>(try simp only [go_sem] at hc))|(refine qJ ?_ ?_<;>intro hc<;>(try simp only [hc])<;>(try simp only [go_sem] at hc)))
     rw [hc2] at hst
     dsimp only at hst
     rw [Bool.and_eq_true, decide_eq_true_eq, decide_eq_true_eq] at hst
     have hi1 : (i : Int) - 1 = ((i - 1 : Nat) : Int) := by omega
     refine DW.loop (ι := { j : Nat // j ≤ i - 1 ∧ ascF xs (xs.getD c 0) (i - 1) = ascF xs (xs.getD c 0) j }) (fun j => ⟨77, [(6, dI j.1), (5, dI c), (3, .own 9), (0, .c (.fn (.yield ly) [] [])), (1, .c (.ro false [.v (.int .i64 i)] 0))], [(9, .row 1 (rowC (rows eI xs)))] ++ H b2⟩) (fun j => j.1) ⟨i - 1, Nat.le_refl _, rfl⟩ ?_ ?_
     ·refine Ent.toH (o := [_]) (o' := [_]) (hH b2) rfl ?_ ?_ <;> simp (disch:=omega) only [qR,qS,qT,qU,get,Nat.reduceEqDiff,↓reduceIte,qV,qW,qX,qY,qZ,and_self,dI,i64_in,and_true,true_and,rA,rB,rC,rD,hi1]
      all_goals first | exact ⟨.refl _, .refl _, .refl _⟩ | exact ⟨.refl _, .refl _⟩ | exact .refl _
     rintro ⟨j, hj1, hj2⟩
     dsimp only
     cases j with
     | zero => rw [hj2, ascF] at hst; omega
     | succ j =>
      have hgj : xs[j + 1]? = some (xs.getD (j + 1) 0) := by rw [List.getD_eq_getElem?_getD, List.getElem?_eq_getElem (by omega)]; rfl
      have hbj : (j + 1 < i) = True := eq_true (by omega)
      rw [ascF] at hj2
      by_cases hlt : xs.getD (j + 1) 0 < xs.getD c 0
      ·have hd5 : decide (xs.getD (j + 1) 0 < xs.getD c 0) = true := decide_eq_true hlt
       have hjm : ((j + 1 : Nat) : Int) - 1 = (j : Int) := by omega
       rw [if_pos hlt] at hj2
       repeat' (first|(with_reducible first|apply qA|apply qB|apply qC|apply qD|apply qE|apply qF)|(refine qL rfl (WF.of ?_) ?_; first|rfl|skip)|(refine DW.ord rfl (WF.of (by first|rfl|simp (disch:=omega) only [go_sem, simprocAttr, qN, qO, qP, qQ, g1, g2, g3, g4, g5, g6, g7, g8, ins, hg0, hgj, hb0, hbj, hd5, hlen])) ?_ ?_ ?_; rotate_left)|rfl|(with_reducible refine And.intro ?_ ?_)|(simp (disch:=omega) only [go_sem, simprocAttr, qN, qO, qP, qQ, g1, g2, g3, g4, g5, g6, g7, g8, ins, hg0, hgj, hb0, hbj, hd5, hlen])|exact qM rfl rfl rfl|(refine qG rfl ?_)|(refine qH rfl ?_)|(refine qI rfl ?_ ?_<;>intro hc<;>(try simp only [go_sem] at hc))|(refine qJ ?_ ?_<;>intro hc<;>(try simp only [hc])<;>(try simp only [go_sem] at hc)))
       refine ⟨⟨j, by omega, hj2⟩, (by show _ < _; (try simp only); omega), Ent.toH (o := [_]) (o' := [_]) (hH b2) rfl ?_ ?_⟩ <;> simp (disch:=omega) only [qR,qS,qT,qU,get,Nat.reduceEqDiff,↓reduceIte,qV,qW,qX,qY,qZ,and_self,dI,i64_in,and_true,true_and,rA,rB,rC,rD,Int.add_sub_cancel]
       all_goals first | exact ⟨.refl _, .refl _, .refl _⟩ | exact ⟨.refl _, .refl _⟩ | exact .refl _
      ·have hd5 : decide (xs.getD (j + 1) 0 < xs.getD c 0) = false := decide_eq_false hlt
       rw [if_neg hlt] at hj2
       repeat' (first|(with_reducible first|apply qA|apply qB|apply qC|apply qD|apply qE|apply qF)|(refine qL rfl (WF.of ?_) ?_; first|rfl|skip)|(refine DW.ord rfl (WF.of (by first|rfl|simp (disch:=omega) only [go_sem, simprocAttr, qN, qO, qP, qQ, g1, g2, g3, g4, g5, g6, g7, g8, ins, hg0, hgj, hb0, hbj, hd5, hlen, set_eI])) ?_ ?_ ?_; rotate_left)|rfl|(with_reducible refine And.intro ?_ ?_)|(simp (disch:=omega) only [go_sem, simprocAttr, qN, qO, qP, qQ, g1, g2, g3, g4, g5, g6, g7, g8, ins, hg0, hgj, hb0, hbj, hd5, hlen, set_eI])|exact qM rfl rfl rfl|(refine qG rfl ?_)|(refine qH rfl ?_)|(refine qI rfl ?_ ?_<;>intro hc<;>(try simp only [go_sem] at hc))|(refine qJ ?_ ?_<;>intro hc<;>(try simp only [hc])<;>(try simp only [go_sem] at hc)))
       have hgs : ∀ v, (xs.set c v)[j + 1]? = some (xs.getD (j + 1) 0) := fun v => by rw [List.getElem?_set_ne (by omega)]; exact hgj
       simp (disch:=omega) only [go_sem,simprocAttr,qN,qO,qP,qQ,g1,g2,g3,g4,g5,g6,g7,g8,ins,hgs,hbj,hlen,set_eI,List.length_set]
       obtain ⟨ys, hys⟩ : ∃ ys, ys = swp1 xs c (j + 1) := ⟨_, rfl⟩
       have hyl : ys.length = i := by rw [hys, swp1, List.length_set, List.length_set]; exact hlen
       rw [show (xs.set c (xs.getD (j + 1) 0)).set (j + 1) (xs.getD c 0) = ys from hys.symm]
       refine DW.ent (σ' := ⟨77, [(5, dI c), (3, .own 9), (0, .c (.fn (.yield ly) [] [])), (1, .c (.ro false [.v (.int .i64 i)] 0))], [(9, .row 1 (rowC (rows eI ys)))] ++ H b2⟩) (Ent.toH (o := [_]) (o' := [_]) (hH b2) rfl ?_ ?_) ?_
       ·simp (disch:=omega) only [qR,qS,qT,qU,get,Nat.reduceEqDiff,↓reduceIte,qV,qW,qX,qY,qZ,and_self,dI,i64_in,and_true,true_and,rA,rB,rC,rD]
       ·simp (disch:=omega) only [qR,qS,qT,qU,get,Nat.reduceEqDiff,↓reduceIte,qV,qW,qX,qY,qZ,and_self,dI,i64_in,and_true,true_and,rA,rB,rC,rD]
        all_goals first | exact ⟨.refl _, .refl _⟩ | exact .refl _
       have hci : (c + 1 ≤ i) = True := eq_true (by omega)
       repeat' (first|(with_reducible first|apply qA|apply qB|apply qC|apply qD|apply qE|apply qF)|(refine qL rfl (WF.of ?_) ?_; first|rfl|skip)|(refine DW.ord rfl (WF.of (by first|rfl|simp (disch:=omega) only [go_sem, simprocAttr, qN, qO, qP, qQ, g1, g2, g3, g4, g5, g6, g7, g8, ins, hw, hyl, hci, List.cons_append, List.nil_append])) ?_ ?_ ?_; rotate_left)|rfl|(with_reducible refine And.intro ?_ ?_)|(simp (disch:=omega) only [go_sem, simprocAttr, qN, qO, qP, qQ, g1, g2, g3, g4, g5, g6, g7, g8, ins, hw, hyl, hci, List.cons_append, List.nil_append])|exact qM rfl rfl rfl|(refine qG rfl ?_)|(refine qH rfl ?_)|(refine qI rfl ?_ ?_<;>intro hc<;>(try simp only [go_sem] at hc))|(refine qJ ?_ ?_<;>intro hc<;>(try simp only [hc])<;>(try simp only [go_sem] at hc)))
       refine call_row 9 (n := 1) (es := rowC (rows eI ys)) (es' := rowC (rows eI (revF (c + 1) (i - (c + 1)) ys))) (fs := fun _ => []) (caps := fun _ => []) («as» := fun p => [.c (.v (.slice (some ⟨p.l, (c + 1) * 1, none⟩) (i - (c + 1)) (p.cap - (c + 1))))]) (r := .tup []) ?_ rfl ?_ ?_ ?_ ?_ (fun _ => rfl) (fun _ => rfl) ?_ (fun _ _ => rfl) ?_ ?_ (by decide) ?_
       ·intro p hp
        have h1 := hp.len
        have h2 := hp.cap
        rw [rowI_len, hyl] at h1
        rw [RowAt.blk, RowAt.blk, flatI, flatI, Nat.mul_one]
        exact plReverse p.l (c + 1) (i - (c + 1)) (p.cap - (c + 1)) p.m ys (by omega) (by omega) (by omega)
       ·intro e
        have := congrArg List.length e
        rw [rowI_len, hyl, List.length_nil] at this
        omega
       ·rw [rowI_len, rowI_len, revF, swpN_len]
       ·intro e he
        simp only [rowC, rows, List.map_map, List.mem_map, Function.comp] at he
        obtain ⟨x, _, rfl⟩ := he
        rfl
       ·intro j'
        rw [flatI]
        have := cells_men j' (revF (c + 1) (i - (c + 1)) ys) 0
        rwa [tops, List.replicate_zero, List.append_nil] at this
       ·have e : del 9 ((9, Blk.row 1 (rowC (rows eI ys))) :: H b2) = H b2 := by
         simp only [del, if_true]
         exact del_none (g4 9 (by decide))
        rw [e, List.all_eq_true]
        intro q hq
        have := List.any_eq_false.1 (g3 9 (by decide)) q hq
        simpa using this
       ·intro p hp
        have h1 := hp.len
        have h2 := hp.cap
        rw [rowI_len, hyl] at h1
        have hcond : (c + 1 < p.cap ∧ c + 1 ≤ i ∧ i ≤ p.len) = True := eq_true (by omega)
        simp (disch:=omega) only [go_sem,simprocAttr,qN,qO,qP,qQ,rpT,rpD,hcond,rF,rG]
        skip
       ·intro p hp
        have h1 := hp.len
        have h2 := hp.cap
        rw [rowI_len, hyl] at h1
        have hcond : (c + 1 < p.cap ∧ c + 1 ≤ i ∧ i ≤ p.len) = True := eq_true (by omega)
        simp only [rpT, rpD, hcond, and_self, if_true, List.all_cons, List.all_nil, D.men]
        rfl
       ·have hn1 : nxtP xs = some (revF (c + 1) (i - (c + 1)) ys) := by
         rw [nxtP, hlen, hc2]
         dsimp only
         rw [hj2, hys]
        rw [hn1] at hnx hlv2 hrun
        dsimp only at hnx hlv2 hrun
        have e : del 9 ((9, Blk.row 1 (rowC (rows eI ys))) :: H b2) = H b2 := by
         simp only [del, if_true]
         exact del_none (g4 9 (by decide))
        rw [e]
        simp (disch:=omega) only [go_sem,simprocAttr,qN,qO,qP,qQ]
        repeat' (first|(with_reducible first|apply qA|apply qB|apply qC|apply qD|apply qE|apply qF)|(refine qL rfl (WF.of ?_) ?_; first|rfl|skip)|(refine DW.ord rfl (WF.of (by first|rfl|simp (disch:=omega) only [go_sem, simprocAttr, qN, qO, qP, qQ])) ?_ ?_ ?_; rotate_left)|rfl|(with_reducible refine And.intro ?_ ?_)|(simp (disch:=omega) only [go_sem, simprocAttr, qN, qO, qP, qQ])|exact qM rfl rfl rfl|(refine qG rfl ?_)|(refine qH rfl ?_)|(refine qI rfl ?_ ?_<;>intro hc<;>(try simp only [go_sem] at hc))|(refine qJ ?_ ?_<;>intro hc<;>(try simp only [hc])<;>(try simp only [go_sem] at hc)))
        refine ⟨⟨((f, revF (c + 1) (i - (c + 1)) ys), b2), hnx, hlv2, hrun⟩, (by show _ < _; (try simp only); omega), Ent.toH (o := [_]) (o' := [_]) (hH b2) rfl ?_ ?_⟩ <;> simp (disch:=omega) only [qR,qS,qT,qU,get,Nat.reduceEqDiff,↓reduceIte,qV,qW,qX,qY,qZ,and_self,dI,i64_in,and_true,true_and,rA,rB,rC,rD]
        all_goals first | exact ⟨.refl _, .refl _⟩ | exact .refl _
end Go.Dw.Seat
end
section
set_option linter.unusedSimpArgs false
set_option maxRecDepth 100000
namespace Go.Dw.Seat
open Go Go.Dw Go.Proofs Go.IntWalk
set_option maxHeartbeats 1000000 in
theorem plCloneC (b : Bool) (l : List Int) (hl : l.length ≤ 2 ^ 36) : DCall Try.prog 83 [dIs b l] [] (dIs false l) [] := by
 cases l with
 | nil =>
  refine DCall.nil1 (fun a c => ?_)
  cases a with
  | none =>
   refine DCall.of Try.func83 sf83 hb83 (Nat.le_of_ble_eq_true rfl) (okRes_nil fun _ => rfl) ?_; simp only [s83, idxs, Nat.reduceAdd]
   repeat' (first|(with_reducible first|apply qA|apply qB|apply qC|apply qD|apply qE|apply qF)|(simp (disch:=omega) only [go_sem, simprocAttr, qN, qO, qP, qQ, Option.isNone])|exact qM rfl rfl rfl|(refine qG rfl ?_)|(refine qH rfl ?_)|(refine qI rfl ?_ ?_<;>intro hc<;>(try simp only [go_sem] at hc))|(refine qJ ?_ ?_<;>intro hc<;>(try simp only [hc])<;>(try simp only [go_sem] at hc)))
   refine retS_wk rfl ?_ (by simp only [Blk.nb, rowC_nb, D.nb, D.nbs, C.nb, C.nbs, C.nbss, rows_nb eI_nb, Bool.and_true, Bool.not_false, Bool.and_self, bD, dI, iD]); exact .nil _ _
  | some a =>
   refine DCall.of Try.func83 sf83 hb83 (Nat.le_of_ble_eq_true rfl) (okRes_nil fun _ => rfl) ?_; simp only [s83, idxs, Nat.reduceAdd]
   refine DW.seq (DW.reg ?_)
   simp (disch:=omega) only [go_sem,simprocAttr,qN,qO,qP,qQ]
   refine DW.seq (DW.seq (DW.reg ?_))
   simp (disch:=omega) only [go_sem,simprocAttr,qN,qO,qP,qQ,Option.isNone]
   refine DW.cond_ff rfl (DW.skip ?_)
   simp (disch:=omega) only [go_sem,simprocAttr,qN,qO,qP,qQ]
   refine DW.ent (Ent.to (tm' := [(0, .c (.sl b 1 []))]) (bx' := []) (by simp (disch:=omega) only [qR,qS,qT,qU,get,Nat.reduceEqDiff,↓reduceIte,qV,qW,qX,qY,qZ,and_self,dI,i64_in,and_true,true_and,rA,rB,rC,rD]) trivial) ?_
   repeat' (first|(with_reducible first|apply qA|apply qB|apply qC|apply qD|apply qE|apply qF)|(simp (disch:=omega) only [go_sem, simprocAttr, qN, qO, qP, qQ])|exact qM rfl rfl rfl|(refine qG rfl ?_)|(refine qH rfl ?_)|(refine qI rfl ?_ ?_<;>intro hc<;>(try simp only [go_sem] at hc))|(refine qJ ?_ ?_<;>intro hc<;>(try simp only [hc])<;>(try simp only [go_sem] at hc)))
   (refine retS_ent (Ent.rel 5 rfl) ?_; simp (disch:=omega) only [go_sem,simprocAttr,qN,qO,qP,qQ])
   refine retS_wk rfl ?_ (by simp only [Blk.nb, rowC_nb, D.nb, D.nbs, C.nb, C.nbs, C.nbss, rows_nb eI_nb, Bool.and_true, Bool.not_false, Bool.and_self, bD, dI, iD]); exact .refl _
 | cons x l =>
  simp only [List.length_cons] at hl
  refine DCall.of Try.func83 sf83 hb83 (Nat.le_of_ble_eq_true rfl) (okRes_nil fun _ => rfl) ?_; simp only [s83, idxs, Nat.reduceAdd]
  repeat' (first|(with_reducible first|apply qA|apply qB|apply qC|apply qD|apply qE|apply qF)|(simp (disch:=omega) only [go_sem, simprocAttr, qN, qO, qP, qQ, rows_cons])|exact qM rfl rfl rfl|(refine qG rfl ?_)|(refine qH rfl ?_)|(refine qI rfl ?_ ?_<;>intro hc<;>(try simp only [go_sem] at hc))|(refine qJ ?_ ?_<;>intro hc<;>(try simp only [hc])<;>(try simp only [go_sem] at hc)))
  (refine retS_ent (Ent.rel 5 rfl) ?_; simp (disch:=omega) only [go_sem,simprocAttr,qN,qO,qP,qQ])
  refine retS_wk rfl ?_ (by simp only [Blk.nb, rowC_nb, D.nb, D.nbs, C.nb, C.nbs, C.nbss, rows_nb eI_nb, Bool.and_true, Bool.not_false, Bool.and_self, bD, dI, iD]); exact .refl _
end Go.Dw.Seat
end
section
set_option linter.unusedSimpArgs false
set_option maxRecDepth 100000
namespace Go.Dw.Seat
open Go Go.Dw Go.IntWalk
def allU (n : Nat) : Nat → List Bool → List (List Int)
 | 0, _ => [[]]
 | f + 1, u => (List.range n).flatMap fun i => if u.getD i true then [] else (allU n f (u.set i true)).map fun s => (i : Int) :: s
def u0 (n : Nat) : List Bool := List.replicate n false
theorem go_all : ∀ n : Fin 7, goP 721 (upN n.1) = allU n.1 n.1 (u0 n.1) := by decide +kernel
def fsome {α : Type} (g : Nat → Option α) : Nat → Nat → Option α
 | _, 0 => none
 | i, k + 1 => match g i with
  | some x => some x
  | none => fsome g (i + 1) k
def dfsF (n : Nat) (B : List Int → Bool) : Nat → List Bool → List Int → Option (List Int)
 | 0, _, bg => if B bg then some bg else none
 | f + 1, u, bg => fsome (fun i => if u.getD i true then none else dfsF n B f (u.set i true) (bg ++ [(i : Int)])) 0 n
theorem fsome_flat {α : Type} {h : Nat → List α} {p : α → Bool} {g : Nat → Option α} (hg : ∀ i, g i = (h i).find? p) : ∀ (k i : Nat), fsome g i k = ((List.range' i k).flatMap h).find? p
 | 0, i => rfl
 | k + 1, i => by
  rw [fsome, List.range'_succ, List.flatMap_cons, List.find?_append, hg i, fsome_flat hg k (i + 1)]
  cases (h i).find? p <;> rfl
theorem dfs_all (n : Nat) (B : List Int → Bool) : ∀ (f : Nat) (u : List Bool) (bg : List Int), dfsF n B f u bg = ((allU n f u).map (bg ++ ·)).find? B
 | 0, u, bg => by
  simp only [dfsF, allU, List.map_cons, List.map_nil, List.append_nil, List.find?_cons, List.find?_nil]
  cases B bg <;> rfl
 | f + 1, u, bg => by
  rw [dfsF, fsome_flat (h := fun i => ((if u.getD i true then [] else (allU n f (u.set i true)).map fun s => (i : Int) :: s)).map (bg ++ ·)) (p := B) ?_ n 0, allU, List.map_flatMap, List.range_eq_range']
  intro i
  split
  ·rfl
  ·rw [dfs_all n B f (u.set i true), List.map_map]
   congr 2
   funext s
   simp
theorem allU_step {n f i : Nat} {u : List Bool} (hi : i < n) (hu : u.getD i true = false) {t : List Int} (ht : t ∈ allU n f (u.set i true)) : (i : Int) :: t ∈ allU n (f + 1) u := by
 rw [allU, List.mem_flatMap]
 refine ⟨i, List.mem_range.2 hi, ?_⟩
 rw [if_neg (by rw [hu]; decide)]
 exact List.mem_map.2 ⟨t, ht, rfl⟩
end Go.Dw.Seat
end
section
set_option linter.unusedSimpArgs false
set_option maxRecDepth 100000
namespace Go.Dw.Seat
open Go Go.Dw Go.Proofs Go.IntWalk
theorem lohi_b {x : PIt} (hx : x.ok) {c : Int} (hc : -10000 ≤ c ∧ c ≤ 10000) : (-50000000000 ≤ loW x c ∧ loW x c ≤ 50000000000) ∧ (-50000000000 ≤ hiW x c ∧ hiW x c ≤ 50000000000) ∧ loW x c ≤ hiW x c := by
 have hw := hx.w
 have h1 := mul_abs (a := x.wl) (A := 5000000) (by omega) hc
 have h2 := mul_abs (a := x.wh) (A := 5000000) (by omega) hc
 unfold loW hiW
 omega
theorem sumM_b {c : Int → Int} (hc : ∀ m, 0 ≤ m → m ≤ 4000 → -10000 ≤ c m ∧ c m ≤ 10000) : ∀ {q : List PIt} {a : Int}, 0 ≤ a → a + lgI q ≤ 2000 → (∀ x ∈ q, x.ok) →
  (-(50000000000 * (q.length : Int)) ≤ sumM (fun m x => loW x (c m)) a q ∧ sumM (fun m x => loW x (c m)) a q ≤ 50000000000 * (q.length : Int)) ∧ (-(50000000000 * (q.length : Int)) ≤ sumM (fun m x => hiW x (c m)) a q ∧ sumM (fun m x => hiW x (c m)) a q ≤ 50000000000 * (q.length : Int)) ∧ sumM (fun m x => loW x (c m)) a q ≤ sumM (fun m x => hiW x (c m)) a q
 | [], a, _, _, _ => by simp [sumM]
 | x :: q, a, h0, h1, h2 => by
  have hx := h2 x (by simp)
  have hxl := hx.lg
  have hq := fun y hy => h2 y (List.mem_cons_of_mem x hy)
  have hn := lgI_nn hq
  rw [lgI] at h1
  have ih := sumM_b hc (q := q) (a := a + x.lg) (by omega) (by omega) hq
  have hb := lohi_b hx (hc (2 * a + x.lg) (by omega) (by omega))
  simp only [sumM, List.length_cons, Int.natCast_add, Int.natCast_one]
  omega
theorem cF_b {l : PLy} (hl : l.ok) (m : Int) (h1 : 0 ≤ m) (h2 : m ≤ 4000) : -10000 ≤ cF l m ∧ cF l m ≤ 10000 := by
 have := hl.ax
 have := hl.lg
 unfold cF; omega
theorem cB_b {l : PLy} (hl : l.ok) (m : Int) (h1 : 0 ≤ m) (h2 : m ≤ 4000) : -10000 ≤ cB l m ∧ cB l m ≤ 10000 := by
 have := hl.ax
 have := hl.lg
 unfold cB; omega
theorem lgI_take {q : List PIt} (h : ∀ x ∈ q, x.ok) (i : Nat) : lgI (q.take i) ≤ lgI q := by
 have e : ∀ a b : List PIt, lgI (a ++ b) = lgI a + lgI b := by
  intro a b
  induction a with
  | nil => simp [lgI]
  | cons x a ih => rw [List.cons_append, lgI, ih, lgI]; omega
 have h1 := e (q.take i) (q.drop i)
 rw [List.take_append_drop] at h1
 have h2 := lgI_nn (q := q.drop i) (fun x hx => h x (List.mem_of_mem_drop hx))
 omega
abbrev prtD (r : Prt) : D := .tup [.agg [dI r.fl, dI r.fh], .agg [dI r.bl, dI r.bh]]
set_option maxHeartbeats 4000000 in
theorem plParts (l : PLy) (lab : Bool) (q : List PIt) (h : LorOk l q) : DCall Try.prog 76 [lorD l lab q] [] (prtD (prtF l q)) [] := by
 have hl := h.ly
 have hlen := h.len
 have hits := h.its
 have hlg := h.lg
 have hll := hl.lg
 have hax := hl.ax
 refine DCall.of Try.func76 sf76 hb76 (Nat.le_of_ble_eq_true rfl) (okRes_nil fun _ => rfl) ?_; simp only [s76, o76_0, o76_1, o76_2, o76_3, idxs, Nat.reduceAdd]
 repeat' (first|(with_reducible first|apply qA|apply qB|apply qC|apply qD|apply qE|apply qF)|(refine qL rfl (WF.of ?_) ?_; first|rfl|skip)|(refine DW.ord rfl (WF.of (by first|rfl|simp (disch:=omega) only [go_sem, simprocAttr, qN, qO, qP, qQ])) ?_ ?_ ?_; rotate_left)|rfl|(with_reducible refine And.intro ?_ ?_)|(simp (disch:=omega) only [go_sem, simprocAttr, qN, qO, qP, qQ])|exact qM rfl rfl rfl|(refine qG rfl ?_)|(refine qH rfl ?_)|(refine qI rfl ?_ ?_<;>intro hc<;>(try simp only [go_sem] at hc))|(refine qJ ?_ ?_<;>intro hc<;>(try simp only [hc])<;>(try simp only [go_sem] at hc)))
 refine DW.loop (ι := { i : Nat // i ≤ q.length }) (fun i => ⟨49, [(11, dI i.1), (10, dI q.length), (9, itsD lab q), (4, dI (lgI (q.take i.1))), (3, .box 3 0), (2, .box 2 0), (1, .box 1 0)], [(3, .box [dI (prtF l (q.take i.1)).bl, dI (prtF l (q.take i.1)).bh]), (2, .box [dI (prtF l (q.take i.1)).fl, dI (prtF l (q.take i.1)).fh]), (1, .box [dI l.lg, dI l.fr, dI l.bk, dI l.fm, dI l.bm, itsD lab q])]⟩) (fun i => q.length - i.1) ⟨0, Nat.zero_le _⟩ ?_ ?_
 ·refine Ent.to ?_ ?_ <;> simp (disch:=omega) only [qR,qS,qT,qU,get,Nat.reduceEqDiff,↓reduceIte,qV,qW,qX,qY,qZ,and_self,dI,i64_in,and_true,true_and,rA,rB,rC,rD,List.take_zero,lgI,prtF,sumM]
  all_goals first | exact ⟨.refl _, .refl _, .refl _⟩ | exact ⟨.refl _, .refl _⟩ | exact .refl _
 rintro ⟨i, hi⟩
 dsimp only
 rcases at_or q i hi with ⟨x, hx, hlt, hd⟩ | ⟨he, hd⟩
 ·have hxo := hits x (List.mem_of_getElem? hx)
  have hxl := hxo.lg
  have htk : q.take (i + 1) = q.take i ++ [x] := by rw [List.take_add_one, hx]; rfl
  have htm : ∀ y ∈ q.take i, y.ok := fun y hy => hits y (List.mem_of_mem_take hy)
  have hsn := lgI_snoc (q.take i) x
  have hS1 := lgI_take hits (i + 1)
  rw [htk, hsn] at hS1
  have hS0 := lgI_nn htm
  have hl7 : (q.take i).length ≤ 7 := by rw [List.length_take]; omega
  have bF := sumM_b (cF_b hl) (q := q.take i) (a := 0) (by omega) (by omega) htm
  have bB := sumM_b (cB_b hl) (q := q.take i) (a := 0) (by omega) (by omega) htm
  have e1 := sumM_snoc (fun m x => loW x (cF l m)) (q.take i) 0 x
  have e2 := sumM_snoc (fun m x => hiW x (cF l m)) (q.take i) 0 x
  have e3 := sumM_snoc (fun m x => loW x (cB l m)) (q.take i) 0 x
  have e4 := sumM_snoc (fun m x => hiW x (cB l m)) (q.take i) 0 x
  rw [← htk, Int.zero_add] at e1 e2 e3 e4
  rw [← htk] at hsn
  have hP : prtF l (q.take i) = ⟨sumM (fun m x => loW x (cF l m)) 0 (q.take i), sumM (fun m x => hiW x (cF l m)) 0 (q.take i), sumM (fun m x => loW x (cB l m)) 0 (q.take i), sumM (fun m x => hiW x (cB l m)) 0 (q.take i)⟩ := rfl
  have hP1 : prtF l (q.take (i + 1)) = ⟨sumM (fun m x => loW x (cF l m)) 0 (q.take (i + 1)), sumM (fun m x => hiW x (cF l m)) 0 (q.take (i + 1)), sumM (fun m x => loW x (cB l m)) 0 (q.take (i + 1)), sumM (fun m x => hiW x (cB l m)) 0 (q.take (i + 1))⟩ := rfl
  rw [e1, e2, e3, e4] at hP1
  clear e1 e2 e3 e4
  generalize sumM (fun m x => loW x (cF l m)) 0 (q.take i) = A1 at *
  generalize sumM (fun m x => hiW x (cF l m)) 0 (q.take i) = A2 at *
  generalize sumM (fun m x => loW x (cB l m)) 0 (q.take i) = A3 at *
  generalize sumM (fun m x => hiW x (cB l m)) 0 (q.take i) = A4 at *
  generalize lgI (q.take i) = S at *
  have hm1 : 2 * l.bk - (2 * S + x.lg) = cF l (2 * S + x.lg) := rfl
  have hm2 : 2 * S + x.lg - 2 * l.fr = cB l (2 * S + x.lg) := rfl
  have c1 := cF_b hl (2 * S + x.lg) (by omega) (by omega)
  have c2 := cB_b hl (2 * S + x.lg) (by omega) (by omega)
  have t1 := plTimes x hxo _ c1
  have t2 := plTimes x hxo _ c2
  have b1 := lohi_b hxo c1
  have b2 := lohi_b hxo c2
  rw [hP]
  dsimp only
  have p1 := plPlus A1 A2 (loW x (cF l (2 * S + x.lg))) (hiW x (cF l (2 * S + x.lg))) (by omega) (by omega) (by omega) (by omega)
  have p2 := plPlus A3 A4 (loW x (cB l (2 * S + x.lg))) (hiW x (cB l (2 * S + x.lg))) (by omega) (by omega) (by omega) (by omega)
  repeat' (first|(with_reducible first|apply qA|apply qB|apply qC|apply qD|apply qE|apply qF)|(refine qL rfl (WF.of ?_) ?_; first|rfl|skip)|(refine DW.ord rfl (WF.of (by first|rfl|simp (disch:=omega) only [go_sem, simprocAttr, qN, qO, qP, qQ, hd, hx, hm1, hm2, rF, rG])) ?_ ?_ ?_; rotate_left)|rfl|(with_reducible refine And.intro ?_ ?_)|(simp (disch:=omega) only [go_sem, simprocAttr, qN, qO, qP, qQ, hd, hx, hm1, hm2, rF, rG])|exact qM rfl rfl rfl|(refine qG rfl ?_)|(refine qK (t1) (by decide) ?_)|(refine qK (t2) (by decide) ?_)|(refine qK (p1) (by decide) ?_)|(refine qK (p2) (by decide) ?_)|(refine qH rfl ?_)|(refine qI rfl ?_ ?_<;>intro hc<;>(try simp only [go_sem] at hc))|(refine qJ ?_ ?_<;>intro hc<;>(try simp only [hc])<;>(try simp only [go_sem] at hc)))
  refine ⟨⟨i + 1, hlt⟩, ?_, Ent.to ?_ ?_⟩ <;> first | (show _ < _; (try simp only); omega) | (simp (disch:=omega) only [qR,qS,qT,qU,get,Nat.reduceEqDiff,↓reduceIte,qV,qW,qX,qY,qZ,and_self,dI,i64_in,and_true,true_and,rA,rB,rC,rD, hsn,hP1])
  all_goals first | exact ⟨.refl _, .refl _, .refl _⟩ | exact ⟨.refl _, .refl _⟩ | exact .refl _
 ·have hti : q.take i = q := by rw [he, List.take_length]
  rw [hti]
  generalize prtF l q = R at *
  repeat' (first|(with_reducible first|apply qA|apply qB|apply qC|apply qD|apply qE|apply qF)|(refine qL rfl (WF.of ?_) ?_; first|rfl|skip)|(refine DW.ord rfl (WF.of (by first|rfl|simp (disch:=omega) only [go_sem, simprocAttr, qN, qO, qP, qQ, hd])) ?_ ?_ ?_; rotate_left)|rfl|(with_reducible refine And.intro ?_ ?_)|(simp (disch:=omega) only [go_sem, simprocAttr, qN, qO, qP, qQ, hd])|exact qM rfl rfl rfl|(refine qG rfl ?_)|(refine qH rfl ?_)|(refine qI rfl ?_ ?_<;>intro hc<;>(try simp only [go_sem] at hc))|(refine qJ ?_ ?_<;>intro hc<;>(try simp only [hc])<;>(try simp only [go_sem] at hc)))
theorem prt_b {l : PLy} {q : List PIt} (h : LorOk l q) : ((-350000000000 ≤ (prtF l q).fl ∧ (prtF l q).fl ≤ (prtF l q).fh) ∧ (prtF l q).fh ≤ 350000000000) ∧ (-350000000000 ≤ (prtF l q).bl ∧ (prtF l q).bl ≤ (prtF l q).bh) ∧ (prtF l q).bh ≤ 350000000000 := by
 have hlen := h.len
 have hll := h.ly.lg
 have hlg := h.lg
 have bF := sumM_b (cF_b h.ly) (q := q) (a := 0) (by omega) (by omega) h.its
 have bB := sumM_b (cB_b h.ly) (q := q) (a := 0) (by omega) (by omega) h.its
 unfold prtF
 dsimp only
 omega
def axD (l : PLy) (q : List PIt) : D := if lorE l q = 0 then .tup [.agg [dI ((prtF l q).fl / (2 * (l.bk - l.fr))), dI ((prtF l q).fh / (2 * (l.bk - l.fr)))], .agg [dI ((prtF l q).bl / (2 * (l.bk - l.fr))), dI ((prtF l q).bh / (2 * (l.bk - l.fr)))], dI 0] else .tup [.agg [dI 0, dI 0], .agg [dI 0, dI 0], dI (lorE l q)]
set_option maxHeartbeats 4000000 in
theorem plAxles (l : PLy) (q : List PIt) (hq : q.length ≤ 2 ^ 36) : DCall Try.prog 29 [lyrD l, itsD false q] [] (axD l q) [] := by
 have h1 := plCheckLorry false l q hq
 unfold axD
 by_cases he : lorE l q = 0
 ·have hL := lor_iff.1 he
  have hP := plParts l false q hL
  have hb := prt_b hL
  have hW := plWhole l hL.ly false q
  have hax := hL.ly.ax
  have hll := hL.ly.lg
  rw [if_pos he]
  rw [he] at h1
  generalize prtF l q = R at *
  obtain ⟨fl, fh, bl, bh⟩ := R
  dsimp only at hb ⊢
  have d1 := plDown fl fh (2 * (l.bk - l.fr)) (by omega) (by omega) (by omega)
  have d2 := plDown bl bh (2 * (l.bk - l.fr)) (by omega) (by omega) (by omega)
  refine DCall.of Try.func29 sf29 hb29 (Nat.le_of_ble_eq_true rfl) (okRes_nil fun _ => rfl) ?_; simp only [s29, o29_0, o29_1, o29_2, o29_3, o29_4, o29_5, idxs, Nat.reduceAdd]
  repeat' (first|(with_reducible first|apply qA|apply qB|apply qC|apply qD|apply qE|apply qF)|(refine qL rfl (WF.of ?_) ?_; first|rfl|skip)|(refine DW.ord rfl (WF.of (by first|rfl|simp (disch:=omega) only [go_sem, simprocAttr, qN, qO, qP, qQ])) ?_ ?_ ?_; rotate_left)|rfl|(with_reducible refine And.intro ?_ ?_)|(simp (disch:=omega) only [go_sem, simprocAttr, qN, qO, qP, qQ])|exact qM rfl rfl rfl|(refine qG rfl ?_)|(refine qK (h1) (by decide) ?_)|(refine qK (hP) (by decide) ?_)|(refine qK (hW) (by decide) ?_)|(refine qK (d1) (by decide) ?_)|(refine qK (d2) (by decide) ?_)|(refine qH rfl ?_)|(refine qI rfl ?_ ?_<;>intro hc<;>(try simp only [go_sem] at hc))|(refine qJ ?_ ?_<;>intro hc<;>(try simp only [hc])<;>(try simp only [go_sem] at hc)))
  skip
 ·rw [if_neg he]
  generalize lorE l q = e at *
  have hd : (e != 0) = true := by simpa using he
  refine DCall.of Try.func29 sf29 hb29 (Nat.le_of_ble_eq_true rfl) (okRes_nil fun _ => rfl) ?_; simp only [s29, o29_0, o29_1, o29_2, o29_3, o29_4, o29_5, idxs, Nat.reduceAdd]
  repeat' (first|(with_reducible first|apply qA|apply qB|apply qC|apply qD|apply qE|apply qF)|(refine qL rfl (WF.of ?_) ?_; first|rfl|skip)|(refine DW.ord rfl (WF.of (by first|rfl|simp (disch:=omega) only [go_sem, simprocAttr, qN, qO, qP, qQ, hd])) ?_ ?_ ?_; rotate_left)|rfl|(with_reducible refine And.intro ?_ ?_)|(simp (disch:=omega) only [go_sem, simprocAttr, qN, qO, qP, qQ, hd])|exact qM rfl rfl rfl|(refine qG rfl ?_)|(refine qK (h1) (by decide) ?_)|(refine qH rfl ?_)|(refine qI rfl ?_ ?_<;>intro hc<;>(try simp only [go_sem] at hc))|(refine qJ ?_ ?_<;>intro hc<;>(try simp only [hc])<;>(try simp only [go_sem] at hc)))
  skip
def bearX (l : PLy) (q : List PIt) : Bool := spanOk (prtF l q).fl (prtF l q).fh 0 (l.fm * (2 * (l.bk - l.fr))) && spanOk (prtF l q).bl (prtF l q).bh 0 (l.bm * (2 * (l.bk - l.fr)))
theorem bearX_eq {l : PLy} {q : List PIt} (h : LorOk l q) : bearX l q = bearB l q := by
 have hb := prt_b h
 rw [Bool.eq_iff_iff]
 simp only [bearX, bearB, Bool.and_eq_true, spanOk_iff, decide_eq_true_eq]
 omega
set_option maxHeartbeats 2000000 in
theorem plBears (l : PLy) (lab : Bool) (q : List PIt) (h : LorOk l q) : DCall Try.prog 82 [lorD l lab q] [] (bD (bearX l q)) [] := by
 have hP := plParts l lab q h
 have hW := plWhole l h.ly lab q
 have hax := h.ly.ax
 have hll := h.ly.lg
 have hfm := h.ly.fm
 have hbm := h.ly.bm
 have m1 := mul_abs (a := l.fm) (b := 2 * (l.bk - l.fr)) (A := 40000000) (B := 10000) (by omega) (by omega)
 have m2 := mul_abs (a := l.bm) (b := 2 * (l.bk - l.fr)) (A := 40000000) (B := 10000) (by omega) (by omega)
 have w1 : IntKind.i64.wrap (l.fm * (2 * (l.bk - l.fr))) = l.fm * (2 * (l.bk - l.fr)) := IntWalk.i64_in _ (by omega)
 have w2 : IntKind.i64.wrap (l.bm * (2 * (l.bk - l.fr))) = l.bm * (2 * (l.bk - l.fr)) := IntWalk.i64_in _ (by omega)
 unfold bearX
 generalize prtF l q = R at *
 obtain ⟨fl, fh, bl, bh⟩ := R
 dsimp only
 have s1 := plSpan fl fh 0 (l.fm * (2 * (l.bk - l.fr)))
 have s2 := plSpan bl bh 0 (l.bm * (2 * (l.bk - l.fr)))
 cases e1 : spanOk fl fh 0 (l.fm * (2 * (l.bk - l.fr))) <;> rw [e1] at s1 <;> simp only [Bool.true_and, Bool.false_and]
 ·refine DCall.of Try.func82 sf82 hb82 (Nat.le_of_ble_eq_true rfl) (okRes_nil fun _ => rfl) ?_; simp only [s82, idxs, Nat.reduceAdd]
  repeat' (first|(with_reducible first|apply qA|apply qB|apply qC|apply qD|apply qE|apply qF)|(refine qL rfl (WF.of ?_) ?_; first|rfl|skip)|(simp (disch:=omega) only [go_sem, simprocAttr, qN, qO, qP, qQ, w1, w2])|exact qM rfl rfl rfl|(refine qG rfl ?_)|(refine qK (hP) (by decide) ?_)|(refine qK (hW) (by decide) ?_)|(refine qK (s1) (by decide) ?_)|(refine qK (s2) (by decide) ?_)|(refine qH rfl ?_)|(refine qI rfl ?_ ?_<;>intro hc<;>(try simp only [go_sem] at hc))|(refine qJ ?_ ?_<;>intro hc<;>(try simp only [hc])<;>(try simp only [go_sem] at hc)))
 ·refine DCall.of Try.func82 sf82 hb82 (Nat.le_of_ble_eq_true rfl) (okRes_nil fun _ => rfl) ?_; simp only [s82, idxs, Nat.reduceAdd]
  repeat' (first|(with_reducible first|apply qA|apply qB|apply qC|apply qD|apply qE|apply qF)|(refine qL rfl (WF.of ?_) ?_; first|rfl|skip)|(simp (disch:=omega) only [go_sem, simprocAttr, qN, qO, qP, qQ, w1, w2])|exact qM rfl rfl rfl|(refine qG rfl ?_)|(refine qK (hP) (by decide) ?_)|(refine qK (hW) (by decide) ?_)|(refine qK (s1) (by decide) ?_)|(refine qK (s2) (by decide) ?_)|(refine qH rfl ?_)|(refine qI rfl ?_ ?_<;>intro hc<;>(try simp only [go_sem] at hc))|(refine qJ ?_ ?_<;>intro hc<;>(try simp only [hc])<;>(try simp only [go_sem] at hc)))
end Go.Dw.Seat
end
section
set_option linter.unusedSimpArgs false
set_option maxRecDepth 100000
namespace Go.Dw.Seat
open Go Go.Dw Go.Proofs Go.IntWalk
def pkI (q : List PIt) (e : List Int) : List PIt := e.map fun i => q.getD i.toNat ⟨1, 0, 0⟩
theorem go_perm : ∀ n : Fin 7, (goP 721 (upN n.1)).all (fun e => e.isPerm (upN n.1)) = true := by decide +kernel
theorem lgI_perm {a b : List PIt} (h : a.Perm b) : lgI a = lgI b := by
 induction h with
 | nil => rfl
 | cons x _ ih => rw [lgI, lgI, ih]
 | swap x y l => simp only [lgI]; omega
 | trans _ _ h1 h2 => rw [h1, h2]
theorem pk_up (q : List PIt) : pkI q (upN q.length) = q := by
 apply List.ext_getElem?
 intro i
 simp only [pkI, upN, List.map_map, List.getElem?_map, Function.comp]
 rcases Nat.lt_or_ge i q.length with h | h
 ·rw [List.getElem?_eq_getElem (by simpa using h), List.getElem?_eq_getElem h]
  simp [List.getD_eq_getElem?_getD, List.getElem?_eq_getElem h]
 ·rw [List.getElem?_eq_none (by simpa using h), List.getElem?_eq_none h]
  rfl
theorem pk_ok {l : PLy} {q : List PIt} (h : LorOk l q) {e : List Int} (he : e.isPerm (upN q.length) = true) : LorOk l (pkI q e) := by
 have hp : e.Perm (upN q.length) := List.isPerm_iff.1 he
 have h2 : (pkI q e).Perm q := by
  have := hp.map (fun i => q.getD i.toNat ⟨1, 0, 0⟩)
  have e1 := pk_up q
  unfold pkI at e1
  rw [e1] at this
  exact this
 exact ⟨h.ly, by rw [h2.length_eq]; exact h.len, fun x hx => h.its x (h2.mem_iff.1 hx), by rw [lgI_perm h2]; exact h.lg⟩
theorem pk_mem {n : Nat} {e : List Int} (he : e.isPerm (upN n) = true) : e.length = n ∧ ∀ x ∈ e, 0 ≤ x ∧ x < (n : Int) := by
 have hp : e.Perm (upN n) := List.isPerm_iff.1 he
 refine ⟨by rw [hp.length_eq, upN_len], fun x hx => ?_⟩
 have := hp.mem_iff.1 hx
 simp only [upN, List.mem_map, List.mem_range] at this
 obtain ⟨i, hi, rfl⟩ := this
 omega
theorem rowC_snocIt (l : List PIt) (x : PIt) : rowC (rows eIt l) ++ [[D.c (.v (.int .i64 x.lg)), D.c (.v (.int .i64 x.wl)), D.c (.v (.int .i64 x.wh))]] = rowC (rows eIt (l ++ [x])) := by simp [rowC, rows, eIt]
def ordS (l : PLy) (q : List PIt) (a : Option (List Int)) (e : List Int) : Option Exit × Option (List Int) := if bearX l (pkI q e) then (some .ret, some e) else (none, a)
theorem ord_run (l : PLy) (q : List PIt) : ∀ L : List (List Int), runIt (ordS l q) none L = (match L.find? (fun e => bearX l (pkI q e)) with | some e => (some .ret, some e) | none => (none, none))
 | [] => rfl
 | e :: L => by
  rw [runIt, ordS, List.find?_cons]
  cases bearX l (pkI q e)
  ·simp only [Bool.false_eq_true, if_false]
   exact ord_run l q L
  ·rfl
def oRes : Option (List Int) → D
 | some e => dIs false e
 | none => .c (.v (.slice none 0 0))
def oErr : Option (List Int) → Int
 | some _ => 0
 | none => 9
theorem oRes_men (k : Nat) (F : Option (List Int)) : D.men k (oRes F) = false := by cases F <;> rfl
theorem oRes_nb (F : Option (List Int)) : D.nb (oRes F) = true := by
 cases F
 ·rfl
 ·simp only [oRes, D.nb, C.nb, rows_nb eI_nb]; rfl
theorem oRes_keys (bx : List (Nat × Blk)) (F : Option (List Int)) : D.keysIn bx (oRes F) = true := by cases F <;> rfl
theorem oRes_kill (k : Nat) (F : Option (List Int)) : killD k (oRes F) = oRes F := by cases F <;> rfl
attribute [go_sem] oRes_men oRes_keys oRes_kill
def findO (l : PLy) (q : List PIt) : Option (List Int) := (goP 721 (upN q.length)).find? fun e => bearX l (pkI q e)
def ordD (l : PLy) (q : List PIt) : D := if lorE l q = 0 then .tup [oRes (findO l q), dI (oErr (findO l q))] else .tup [.c (.v (.slice none 0 0)), dI (lorE l q)]
set_option maxHeartbeats 8000000 in
theorem plOrder (l : PLy) (q : List PIt) (hq : q.length ≤ 2 ^ 36) (h6 : lorE l q = 0 → q.length ≤ 6) : DCall Try.prog 33 [lyrD l, itsD false q] [] (ordD l q) [] := by
 have h1 := plCheckLorry false l q hq
 unfold ordD
 by_cases he : lorE l q = 0
 case neg =>
  rw [if_neg he]
  generalize lorE l q = e at *
  have hd : (e != 0) = true := by simpa using he
  refine DCall.of Try.func33 sf33 hb33 (Nat.le_of_ble_eq_true rfl) (okRes_nil fun _ => rfl) ?_; simp only [s33, idxs, Nat.reduceAdd]
  repeat' (first|(with_reducible first|apply qA|apply qB|apply qC|apply qD|apply qE|apply qF)|(refine qL rfl (WF.of ?_) ?_; first|rfl|skip)|(simp (disch:=omega) only [go_sem, simprocAttr, qN, qO, qP, qQ, hd])|exact qM rfl rfl rfl|(refine qG rfl ?_)|(refine qK (h1) (by decide) ?_)|(refine qH rfl ?_)|(refine qI rfl ?_ ?_<;>intro hc<;>(try simp only [go_sem] at hc))|(refine qJ ?_ ?_<;>intro hc<;>(try simp only [hc])<;>(try simp only [go_sem] at hc)))
 rw [if_pos he]
 have hL := lor_iff.1 he
 have h6 := h6 he
 have h2 := plOrders0 q.length
 have hit := plOrders1 q.length h6
 have hperm := List.all_eq_true.1 (go_perm ⟨q.length, by omega⟩)
 have hrun := ord_run l q (goP 721 (upN q.length))
 rw [he] at h1
 unfold findO
 generalize goP 721 (upN q.length) = G at *
 refine DCall.of Try.func33 sf33 hb33 (Nat.le_of_ble_eq_true rfl) (okRes_nil fun k => by simp only [D.men, D.mens, oRes_men]; rfl) ?_
 simp only [s33, idxs, Nat.reduceAdd]
 repeat' (first|(with_reducible first|apply qA|apply qB|apply qC|apply qD|apply qE|apply qF)|(refine qL rfl (WF.of ?_) ?_; first|rfl|skip)|(simp (disch:=omega) only [go_sem, simprocAttr, qN, qO, qP, qQ])|exact qM rfl rfl rfl|(refine qG rfl ?_)|(refine qK (h1) (by decide) ?_)|(refine qK (h2) (by decide) ?_)|(refine qH rfl ?_)|(refine qI rfl ?_ ?_<;>intro hc<;>(try simp only [go_sem] at hc))|(refine qJ ?_ ?_<;>intro hc<;>(try simp only [hc])<;>(try simp only [go_sem] at hc)))
 refine DW.ent (σ' := ⟨43, [(19, .fn (.func 111) [] [.c (.ro false [.v (.int .i64 q.length)] 0)]), (5, .box 5 0), (4, .box 4 0), (3, .box 3 0), (2, .box 2 0)], [(5, .box [dI 0]), (4, .box [oRes none]), (3, .box [itsD false q]), (2, .box [dI l.lg, dI l.fr, dI l.bk, dI l.fm, dI l.bm])]⟩) (Ent.to ?_ ?_) ?_
 ·simp (disch:=omega) only [qR,qS,qT,qU,get,Nat.reduceEqDiff,↓reduceIte,qV,qW,qX,qY,qZ,and_self,dI,i64_in,and_true,true_and,rA,rB,rC,rD]
 ·simp (disch:=omega) only [qR,qS,qT,qU,get,Nat.reduceEqDiff,↓reduceIte,qV,qW,qX,qY,qZ,and_self,dI,i64_in,and_true,true_and,rA,rB,rC,rD,oRes]
  all_goals first | exact ⟨.refl _, .refl _⟩ | exact .refl _
 refine DW.rngBS (fs := []) (caps := [.c (.ro false [.v (.int .i64 q.length)] 0)]) (fun a : Option (List Int) => [(5, .box [dI 0]), (4, .box [oRes a]), (3, .box [itsD false q]), (2, .box [dI l.lg, dI l.fr, dI l.bk, dI l.fm, dI l.bm])]) none (ordS l q) enO (fun _ => True) G hit (fun t _ => ∀ e ∈ t, e.isPerm (upN q.length) = true) hperm (fun a e t h _ _ x hx => h x (List.mem_cons_of_mem _ hx)) rfl (fun _ => ⟨rfl, rfl⟩) rfl (by decide) (fun _ _ => rfl) (fun _ _ _ => rfl) (by simp only [List.map_cons, List.map_nil]; decide) (fun _ => rfl) (fun a => by cases a <;> rfl) (fun a => by show (_ && ((D.nb (oRes a) && _) && _)) = true; rw [oRes_nb]; exact (by simp only [List.all_cons, List.all_nil, Blk.nb, rowC_nb, D.nb, D.nbs, C.nb, C.nbs, C.nbss, rows_nb eI_nb, Bool.and_true, Bool.not_false, Bool.and_self, bD, dI, iD, rows_nb eIt_nb])) (by simp only [List.all_cons, List.all_nil, Blk.nb, rowC_nb, D.nb, D.nbs, C.nb, C.nbs, C.nbss, rows_nb eI_nb, Bool.and_true, Bool.not_false, Bool.and_self, bD, dI, iD, rows_nb eIt_nb]) (fun a e => by unfold ordS; split <;> rfl) ?_ ?_
 ·intro a e t hp _ v
  have hpe := hp e (by simp)
  obtain ⟨hel, hem⟩ := pk_mem hpe
  have hLe := pk_ok hL hpe
  have hb := plBears l true (pkI q e) hLe
  have hcl := plCloneC true e (by omega)
  clear hp hperm hrun hit
  simp (disch:=omega) only [go_sem,simprocAttr,qN,qO,qP,qQ,rF,rG,enO]
  repeat' (first|(with_reducible first|apply qA|apply qB|apply qC|apply qD|apply qE|apply qF)|(refine qL rfl (WF.of ?_) ?_; first|rfl|skip)|(simp (disch:=omega) only [go_sem, simprocAttr, qN, qO, qP, qQ, rF, rG])|exact qM rfl rfl rfl|(refine qG rfl ?_)|(refine qH rfl ?_)|(refine qI rfl ?_ ?_<;>intro hc<;>(try simp only [go_sem] at hc))|(refine qJ ?_ ?_<;>intro hc<;>(try simp only [hc])<;>(try simp only [go_sem] at hc)))
  refine DW.ent (Ent.adoptB 8 5 36 3 rfl rfl rfl ?_) ?_
  ·cases a <;> rfl
  simp only [ins, Nat.reduceLT, Nat.reduceEqDiff, ↓reduceIte, List.set_cons_zero, List.set_cons_succ]
  refine DW.loop (ι := { i : Nat // i ≤ e.length }) (fun i => ⟨43, [(25, dI i.1), (24, dI e.length), (23, dIs true e), (19, .fn (.func 111) [] [.c (.ro false [.v (.int .i64 q.length)] 0)]), (8, .box 8 0), (7, dIs true e), (5, .box 5 0), (4, .box 4 0), (3, .box 3 0), (2, .box 2 0)], [(5, .box [dI 0]), (4, .box [oRes a]), (3, .box [itsD false q]), (2, .box [dI l.lg, dI l.fr, dI l.bk, dI l.fm, dI l.bm]), capB v [(19, .fn (.func 111) [] [.c (.ro false [.v (.int .i64 q.length)] 0)]), (5, .box 5 0), (4, .box 4 0), (3, .box 3 0), (2, .box 2 0)], (8, .box [dI l.lg, dI l.fr, dI l.bk, dI l.fm, dI l.bm, .own 36]), (36, .row 3 (rowC (rows eIt (pkI q (e.take i.1)))))]⟩) (fun i => e.length - i.1) ⟨0, Nat.zero_le _⟩ ?_ ?_
  ·refine Ent.to ?_ ?_ <;> simp (disch:=omega) only [qR,qS,qT,qU,get,Nat.reduceEqDiff,↓reduceIte,qV,qW,qX,qY,qZ,and_self,dI,i64_in,and_true,true_and,rA,rB,rC,rD,capB,List.take_zero,pkI,rG]
   all_goals first | exact ⟨.refl _, .refl _, .refl _⟩ | exact ⟨.refl _, .refl _⟩ | exact .refl _ | skip
  rintro ⟨i, hi⟩
  dsimp only
  rcases at_or e i hi with ⟨x, hx, hlt, hd⟩ | ⟨he, hd⟩
  ·have hxb := hem x (List.mem_of_getElem? hx)
   obtain ⟨n, rfl⟩ : ∃ n : Nat, x = (n : Int) := ⟨x.toNat, by omega⟩
   have hnq : n < q.length := by omega
   obtain ⟨y, hy⟩ : ∃ y, q[n]? = some y := ⟨q[n], List.getElem?_eq_getElem hnq⟩
   have htk : pkI q (e.take (i + 1)) = pkI q (e.take i) ++ [y] := by
    have h1 : e.take (i + 1) = e.take i ++ [(n : Int)] := by rw [List.take_add_one, hx]; rfl
    rw [h1, pkI, List.map_append, pkI]
    simp [List.getD_eq_getElem?_getD, hy]
   have hnq' : (n < q.length) = True := eq_true hnq
   have hpl : (pkI q (e.take i)).length ≤ 10 := by rw [pkI, List.length_map, List.length_take]; omega
   have hsn := rowC_snocIt (pkI q (e.take i)) y
   generalize pkI q (e.take i) = A at *
   repeat' (first|(with_reducible first|apply qA|apply qB|apply qC|apply qD|apply qE|apply qF)|(refine qL rfl (WF.of ?_) ?_; first|rfl|skip)|(simp (disch:=omega) only [go_sem, simprocAttr, qN, qO, qP, qQ, hd, hx, hy, hnq', hsn, capB, rF, rG])|exact qM rfl rfl rfl|(refine qG rfl ?_)|(refine qH rfl ?_)|(refine qI rfl ?_ ?_<;>intro hc<;>(try simp only [go_sem] at hc))|(refine qJ ?_ ?_<;>intro hc<;>(try simp only [hc])<;>(try simp only [go_sem] at hc)))
   refine ⟨⟨i + 1, hlt⟩, ?_, Ent.to ?_ ?_⟩ <;> first | (show _ < _; (try simp only); omega) | (simp (disch:=omega) only [qR,qS,qT,qU,get,Nat.reduceEqDiff,↓reduceIte,qV,qW,qX,qY,qZ,and_self,dI,i64_in,and_true,true_and,rA,rB,rC,rD, htk,capB])
   all_goals first | exact ⟨.refl _, .refl _, .refl _⟩ | exact ⟨.refl _, .refl _⟩ | exact .refl _ | skip
  ·have hti : e.take i = e := by rw [he, List.take_length]
   rw [hti]
   unfold ordS
   generalize pkI q e = A at *
   cases hB : bearX l A <;> rw [hB] at hb
   ·rw [if_neg Bool.false_ne_true]
    repeat' (first|(with_reducible first|apply qA|apply qB|apply qC|apply qD|apply qE|apply qF)|(refine qL rfl (WF.of ?_) ?_; first|rfl|skip)|(simp (disch:=omega) only [go_sem, simprocAttr, qN, qO, qP, qQ, hd, capB, rF, rG])|exact qM rfl rfl rfl|(refine qG rfl ?_)|(refine qK (hb) (by decide) ?_)|(refine qH rfl ?_)|(refine qI rfl ?_ ?_<;>intro hc<;>(try simp only [go_sem] at hc))|(refine qJ ?_ ?_<;>intro hc<;>(try simp only [hc])<;>(try simp only [go_sem] at hc)))
    refine round_end rfl rfl (Ent.to ?_ ?_) <;> simp (disch:=omega) only [qR,qS,qT,qU,get,Nat.reduceEqDiff,↓reduceIte,qV,qW,qX,qY,qZ,and_self,dI,i64_in,and_true,true_and,rA,rB,rC,rD,capB,List.cons_append,List.nil_append]
   ·rw [if_pos rfl]
    repeat' (first|(with_reducible first|apply qA|apply qB|apply qC|apply qD|apply qE|apply qF)|(refine qL rfl (WF.of ?_) ?_; first|rfl|skip)|(simp (disch:=omega) only [go_sem, simprocAttr, qN, qO, qP, qQ, hd, capB, rF, rG])|exact qM rfl rfl rfl|(refine qG rfl ?_)|(refine qK (hb) (by decide) ?_)|(refine qK (hcl) (by decide) ?_)|(refine qH rfl ?_)|(refine qI rfl ?_ ?_<;>intro hc<;>(try simp only [go_sem] at hc))|(refine qJ ?_ ?_<;>intro hc<;>(try simp only [hc])<;>(try simp only [go_sem] at hc)))
    refine round_end rfl rfl (Ent.to ?_ ?_) <;> simp (disch:=omega) only [qR,qS,qT,qU,get,Nat.reduceEqDiff,↓reduceIte,qV,qW,qX,qY,qZ,and_self,dI,i64_in,and_true,true_and,rA,rB,rC,rD,capB,List.cons_append,List.nil_append,oRes]
 ·rw [hrun]
  cases G.find? (fun e => bearX l (pkI q e)) with
  | none =>
   dsimp only
   simp (disch:=omega) only [go_sem,simprocAttr,qN,qO,qP,qQ,Option.getD_none]
   repeat' (first|(with_reducible first|apply qA|apply qB|apply qC|apply qD|apply qE|apply qF)|(refine qL rfl (WF.of ?_) ?_; first|rfl|skip)|(simp (disch:=omega) only [go_sem, simprocAttr, qN, qO, qP, qQ, oRes])|exact qM rfl rfl rfl|(refine qG rfl ?_)|(refine qH rfl ?_)|(refine qI rfl ?_ ?_<;>intro hc<;>(try simp only [go_sem] at hc))|(refine qJ ?_ ?_<;>intro hc<;>(try simp only [hc])<;>(try simp only [go_sem] at hc)))
  | some e =>
   dsimp only
   simp (disch:=omega) only [go_sem,simprocAttr,qN,qO,qP,qQ,Option.getD_some]
   simp only [oRes, oErr]
   refine retS_wk rfl ?_ (by simp only [Blk.nb, rowC_nb, D.nb, D.nbs, C.nb, C.nbs, C.nbss, rows_nb eI_nb, Bool.and_true, Bool.not_false, Bool.and_self, bD, dI, iD, rows_nb eIt_nb]); exact .refl _
end Go.Dw.Seat
end
section
set_option linter.unusedSimpArgs false
set_option maxRecDepth 100000
namespace Go.Dw.Seat
open Go Go.Dw Go.Proofs Go.IntWalk
def ex3 : List PPl := [⟨0, 0, false⟩, ⟨40, 0, false⟩, ⟨0, 30, false⟩]
def ex8 : List PPl := [⟨0, 0, true⟩, ⟨30, 0, true⟩, ⟨60, 0, true⟩, ⟨90, 0, true⟩, ⟨0, 40, true⟩, ⟨30, 40, true⟩, ⟨60, 40, true⟩, ⟨90, 40, true⟩]
def ex3t : List PPl := [⟨80, 0, false⟩, ⟨40, 0, false⟩, ⟨80, 30, false⟩]
def exIt : List PIt := [⟨120, 1000000, 1000000⟩, ⟨120, 800000, 900000⟩]
def exR : List PRs := [⟨[], 0⟩, ⟨[1], 1000⟩, ⟨[], 0⟩]
theorem ex8_at : ∀ i : Fin 8, ex8.take i.1 ++ [⟨30 * ((i.1 % 4 : Nat) : Int), 40 * ((i.1 / 4 : Nat) : Int), true⟩] = ex8.take (i.1 + 1) := by decide +kernel
theorem exc0 : chkE (exBs 0) exBx = 0 := by decide +kernel
theorem exc5 : chkE (exBs 5) exBx = 0 := by decide +kernel
theorem exb0 : bndX (exBs 0) exBx = 8 := by decide +kernel
theorem exb5 : bndX (exBs 5) exBx = 9 := by decide +kernel
theorem exm : mostX (exBs 5) exBx = 9 := by decide +kernel
theorem exl : (layX (exBs 0) exBx).length = 8 := by decide +kernel
theorem ext1 : trnE (exBs 0) exBx ex3 2 = 0 := by decide +kernel
theorem ext2 : ex3.map (trnP (exBs 0) exBx 2) = ex3t := by decide +kernel
theorem exr1 : rgtE (exBs 0) exBx [ex3, ex3t] = 0 := by decide +kernel
theorem exr2 : (ex3t.map (rsF exBx ex3)).map (fun r => (r.on, r.sh)) = exR.map (fun r => (r.on, r.sh)) := by decide +kernel
theorem prs_ext : ∀ {a b : List PRs}, a.map (fun r => (r.on, r.sh)) = b.map (fun r => (r.on, r.sh)) → a = b
 | [], [], _ => rfl
 | [], _ :: _, h => by simp at h
 | _ :: _, [], h => by simp at h
 | ⟨o, s⟩ :: a, ⟨o', s'⟩ :: b, h => by
  simp only [List.map_cons, List.cons.injEq, Prod.mk.injEq] at h
  obtain ⟨⟨rfl, rfl⟩, h⟩ := h
  rw [prs_ext h]
theorem exr3 : ex3t.map (rsF exBx ex3) = exR := prs_ext exr2
theorem exn1 : rgtE (exBs 0) exBx [ex8] = 0 := by decide +kernel
theorem exn2 : bindS (exBs 0) exBx ex8 4 = (0, 0) := by decide +kernel
theorem exy1 : lorE exLy exIt = 0 := by decide +kernel
theorem exy2 : (prtF exLy exIt).fl / 800 = 1740000 ∧ (prtF exLy exIt).fh / 800 = 1820000 ∧ (prtF exLy exIt).bl / 800 = 60000 ∧ (prtF exLy exIt).bh / 800 = 80000 := by decide +kernel
theorem exo : findO exLy exIt = some [0, 1] := by decide +kernel
theorem exTab : TabOk [(0, 1000)] 0 := by
 refine ⟨tabF_of (by decide) (fun u h => ?_) (fun j hj v hv => ?_), by decide⟩
 ·simp at h; subst h; rfl
 ·have hj0 : j = 0 := by simp at hj; omega
  subst hj0
  simp at hv
  subst hv
  exact ⟨⟨by decide, by decide⟩, fun k u h => by omega⟩
theorem exh : layI (exBs 0) exBx 8 (highI (lodF exBx) [(0, 1000)] 0) = 6 := by decide +kernel
end Go.Dw.Seat
end
section
set_option linter.unusedSimpArgs false
set_option maxRecDepth 100000
namespace Go.Dw.Seat
open Go Go.Dw Go.Proofs Go.IntWalk
theorem laFlat : DCall Try.prog 60 [] [] (.c (.sl false 2 (rows eK [(0, 1000)]))) [] := by
 refine DCall.of Try.func60 sf60 hb60 (Nat.le_of_ble_eq_true rfl) (okRes_nil fun _ => rfl) ?_; simp only [s60, idxs, Nat.reduceAdd]
 repeat' (first|(with_reducible first|apply qA|apply qB|apply qC|apply qD|apply qE|apply qF)|(simp (disch:=omega) only [go_sem, simprocAttr, qN, qO, qP, qQ])|exact qM rfl rfl rfl|(refine qG rfl ?_)|(refine qH rfl ?_)|(refine qI rfl ?_ ?_<;>intro hc<;>(try simp only [go_sem] at hc))|(refine qJ ?_ ?_<;>intro hc<;>(try simp only [hc])<;>(try simp only [go_sem] at hc)))
 (refine retS_ent (Ent.rel 2 rfl) ?_; simp (disch:=omega) only [go_sem,simprocAttr,qN,qO,qP,qQ])
 refine retS_wk rfl ?_ (by simp only [Blk.nb, rowC_nb, D.nb, D.nbs, C.nb, C.nbs, C.nbss, rows_nb eI_nb, Bool.and_true, Bool.not_false, Bool.and_self, bD, dI, iD, rows_nb eP_nb, rows_nb eIt_nb, rows_nb eR_nb, rows_nb eK_nb]); exact .refl _
set_option maxHeartbeats 16000000 in
theorem laKnown : DCall Try.prog 14 [] [] (bD true) [] := by
 have a1 := laAt 0 0
 have a2 := laAt 40 0
 have a3 := laAt 0 30
 have a4 := laAt 80 0
 have a5 := laAt 80 30
 have b0 := laBase 0
 have b5 := laBase 5
 have bx := laBox
 have lo := laLorry
 have c1 := plBound (exBs 0) exBx
 rw [exb0, exc0] at c1
 have c2 := plBound (exBs 5) exBx
 rw [exb5, exc5] at c2
 have c3 := plMost (exBs 5) exBx
 rw [exm, exc5] at c3
 have c4 := plLayX (exBs 0) exBx
 rw [layD, if_pos exc0, exc0] at c4
 have hl := exl
 generalize layX (exBs 0) exBx = L at *
 have c5 := plTurnX (exBs 0) exBx ex3 (by decide) 2
 rw [trnD, ext1, if_pos rfl, show ((2 : Int).toNat) = 2 from rfl, ext2] at c5
 have c6 := plRestsX (exBs 0) exBx ex3 ex3t (by decide) (by decide)
 rw [rsX, exr1, if_pos rfl, exr3] at c6
 have c7 := plBind (exBs 0) exBx ex8 (by decide)
 rw [exn1, exn2] at c7
 simp only [if_true] at c7
 have c8 := plLayersX (exBs 0) exBx ex8 (by decide) [(0, 1000)] 0 exTab
 rw [exn1, if_pos ⟨rfl, by decide⟩, if_neg (by simp), if_neg (by decide), show ((ex8.length : Nat) : Int) = 8 from rfl, exh] at c8
 have c9 := plAxles exLy exIt (by decide)
 rw [axD, if_pos exy1, show 2 * (exLy.bk - exLy.fr) = 800 from rfl, exy2.1, exy2.2.1, exy2.2.2.1, exy2.2.2.2] at c9
 have c10 := plOrder exLy exIt (by decide) (fun _ => by decide)
 rw [ordD, if_pos exy1, exo] at c10
 simp only [oRes, oErr] at c10
 have o3 := laOwn true ex3 (by decide)
 have o3t := laOwn false ex3t (by decide)
 have o8 := laOwn true ex8 (by decide)
 have f1 := laFlat
 have s1 := laSpan 1000000 1000000
 have s2 := laSpan 800000 900000
 have s3 := laSpan 1740000 1820000
 have s4 := laSpan 60000 80000
 have i1 := reInts false true [1] [1] (by decide) (by decide)
 have i2 := reInts false true [0, 1] [0, 1] (by decide) (by decide)
 rw [decide_eq_true rfl] at i1 i2
 have sm := reSame false true ex3t ex3t (by decide) (by decide) true (sameY rfl rfl)
 refine DCall.of Try.func14 sf14 hb14 (Nat.le_of_ble_eq_true rfl) (okRes_nil fun _ => rfl) ?_; simp only [s14, idxs, Nat.reduceAdd]
 repeat' (first|(with_reducible first|apply qA|apply qB|apply qC|apply qD|apply qE|apply qF)|(refine qL rfl (WF.of ?_) ?_; first|rfl|skip)|(simp (disch:=omega) only [go_sem, simprocAttr, qN, qO, qP, qQ])|exact qM rfl rfl rfl|(refine qG rfl ?_)|(refine qK (a1) (by decide) ?_)|(refine qK (a2) (by decide) ?_)|(refine qK (a3) (by decide) ?_)|(refine qH rfl ?_)|(refine qI rfl ?_ ?_<;>intro hc<;>(try simp only [go_sem] at hc))|(refine qJ ?_ ?_<;>intro hc<;>(try simp only [hc])<;>(try simp only [go_sem] at hc)))
 refine DW.loop (ι := { i : Nat // i ≤ 8 }) (fun i => ⟨241, [(3, dI i.1), (2, .own 30), (1, .own 29), (0, bD false)], [(30, .row 3 (rowC (rows eP (ex8.take i.1)))), (29, .row 3 (rowC (rows eP ex3)))]⟩) (fun i => 8 - i.1) ⟨0, by decide⟩ ?_ ?_
 ·refine Ent.to ?_ ?_ <;> simp (disch:=omega) only [qR,qS,qT,qU,get,Nat.reduceEqDiff,↓reduceIte,qV,qW,qX,qY,qZ,and_self,dI,i64_in,and_true,true_and,rA,rB,rC,rD,List.take_zero,ex3]
  all_goals first | exact ⟨.refl _, .refl _⟩ | exact .refl _
 rintro ⟨i, hi⟩
 dsimp only
 rcases Nat.lt_or_ge i 8 with hlt | hge
 ·have hd : decide ((i : Int) < 8) = true := decide_eq_true (by omega)
  have t1 : Int.tmod (i : Int) 4 = ((i % 4 : Nat) : Int) := rfl
  have t2 : Int.tdiv (i : Int) 4 = ((i / 4 : Nat) : Int) := rfl
  have hk := ex8_at ⟨i, hlt⟩
  dsimp only at hk
  have hsn := rowC_snocP (ex8.take i) ⟨30 * ((i % 4 : Nat) : Int), 40 * ((i / 4 : Nat) : Int), true⟩
  rw [hk] at hsn
  dsimp only at hsn
  have htl : (ex8.take i).length ≤ 8 := by rw [List.length_take]; exact Nat.le_trans (Nat.min_le_left _ _) hi
  generalize ex8.take i = A at *
  repeat' (first|(with_reducible first|apply qA|apply qB|apply qC|apply qD|apply qE|apply qF)|(refine qL rfl (WF.of ?_) ?_; first|rfl|skip)|(simp (disch:=omega) only [go_sem, simprocAttr, qN, qO, qP, qQ, hd, t1, t2, hsn])|exact qM rfl rfl rfl|(refine qG rfl ?_)|(refine qH rfl ?_)|(refine qI rfl ?_ ?_<;>intro hc<;>(try simp only [go_sem] at hc))|(refine qJ ?_ ?_<;>intro hc<;>(try simp only [hc])<;>(try simp only [go_sem] at hc)))
  refine ⟨⟨i + 1, hlt⟩, ?_, Ent.to ?_ ?_⟩ <;> first | (show _ < _; (try simp only); omega) | (simp (disch:=omega) only [qR,qS,qT,qU,get,Nat.reduceEqDiff,↓reduceIte,qV,qW,qX,qY,qZ,and_self,dI,i64_in,and_true,true_and,rA,rB,rC,rD, hsn])
  all_goals first | exact ⟨.refl _, .refl _⟩ | exact .refl _
 obtain rfl : i = 8 := by omega
 have hti : ex8.take 8 = ex8 := by rfl
 rw [hti]
 repeat' (first|(with_reducible first|apply qA|apply qB|apply qC|apply qD|apply qE|apply qF)|(refine qL rfl (WF.of ?_) ?_; first|rfl|skip)|(simp (disch:=omega) only [go_sem, simprocAttr, qN, qO, qP, qQ])|exact qM rfl rfl rfl|(refine qG rfl ?_)|(refine qK (b0) (by decide) ?_)|(refine qK (b5) (by decide) ?_)|(refine qK (bx) (by decide) ?_)|(refine qK (c1) (by decide) ?_)|(refine qK (c2) (by decide) ?_)|(refine qK (c3) (by decide) ?_)|(refine qK (c4) (by decide) ?_)|(refine qK (o3) (by decide) ?_)|(refine qK (c5) (by decide) ?_)|(refine qK (o3t) (by decide) ?_)|(refine qK (c6) (by decide) ?_)|(refine qK (o8) (by decide) ?_)|(refine qK (c7) (by decide) ?_)|(refine qK (f1) (by decide) ?_)|(refine qK (c8) (by decide) ?_)|(refine qK (lo) (by decide) ?_)|(refine qK (s1) (by decide) ?_)|(refine qK (s2) (by decide) ?_)|(refine qH rfl ?_)|(refine qI rfl ?_ ?_<;>intro hc<;>(try simp only [go_sem] at hc))|(refine qJ ?_ ?_<;>intro hc<;>(try simp only [hc])<;>(try simp only [go_sem] at hc)))
 refine call_rel 111 rfl ?_
 simp (disch:=omega) only [go_sem,simprocAttr,qN,qO,qP,qQ]
 refine opsN.c c9 rfl rfl (by decide) ?_
 simp (disch:=omega) only [go_sem,simprocAttr,qN,qO,qP,qQ]
 repeat' (first|(with_reducible first|apply qA|apply qB|apply qC|apply qD|apply qE|apply qF)|(refine qL rfl (WF.of ?_) ?_; first|rfl|skip)|(simp (disch:=omega) only [go_sem, simprocAttr, qN, qO, qP, qQ])|exact qM rfl rfl rfl|(refine qG rfl ?_)|(refine qK (lo) (by decide) ?_)|(refine qK (s1) (by decide) ?_)|(refine qK (s2) (by decide) ?_)|(refine qH rfl ?_)|(refine qI rfl ?_ ?_<;>intro hc<;>(try simp only [go_sem] at hc))|(refine qJ ?_ ?_<;>intro hc<;>(try simp only [hc])<;>(try simp only [go_sem] at hc)))
 refine call_rel 122 rfl ?_
 simp (disch:=omega) only [go_sem,simprocAttr,qN,qO,qP,qQ]
 refine opsN.c c10 rfl rfl (by decide) ?_
 simp (disch:=omega) only [go_sem,simprocAttr,qN,qO,qP,qQ]
 have d0 : ((0 : Int) != 0) = false := rfl
 have d3 : ((3 : Int) != 3) = false := rfl
 have hl8 : ((L.length : Int) == 8) = true := by rw [hl]; rfl
 repeat' (first|(with_reducible first|apply qA|apply qB|apply qC|apply qD|apply qE|apply qF)|(refine qL rfl (WF.of ?_) ?_; first|rfl|skip)|(simp (disch:=omega) only [go_sem, simprocAttr, qN, qO, qP, qQ, d0, d3, hl8, exR])|exact qM rfl rfl rfl|(refine qG rfl ?_)|(refine qK (a2) (by decide) ?_)|(refine qK (a4) (by decide) ?_)|(refine qK (a5) (by decide) ?_)|(refine qK (sm) (by decide) ?_)|(refine qK (i1) (by decide) ?_)|(refine qK (i2) (by decide) ?_)|(refine qK (s3) (by decide) ?_)|(refine qK (s4) (by decide) ?_)|(refine qH rfl ?_)|(refine qI rfl ?_ ?_<;>intro hc<;>(try simp only [go_sem] at hc))|(refine qJ ?_ ?_<;>intro hc<;>(try simp only [hc])<;>(try simp only [go_sem] at hc)))
end Go.Dw.Seat
end
section
set_option linter.unusedSimpArgs false
set_option maxRecDepth 100000
namespace Go.Dw.Seat
open Go Go.Dw Go.IntWalk
def bitsB (n m : Nat) : List Bool := (List.range n).map fun i => m.testBit i
theorem bitsB_len (n m : Nat) : (bitsB n m).length = n := by simp [bitsB]
theorem bitsB_succ (n m : Nat) : bitsB (n + 1) m = m.testBit 0 :: bitsB n (m / 2) := by
 simp only [bitsB, List.range_succ_eq_map, List.map_cons, List.map_map]
 congr 1
 apply List.map_congr_left
 intro i _
 simp [Nat.testBit_succ]
theorem bits_ex : ∀ es : List Bool, ∃ m, m < 2 ^ es.length ∧ bitsB es.length m = es
 | [] => ⟨0, by decide, rfl⟩
 | e :: es => by
  obtain ⟨m, h1, h2⟩ := bits_ex es
  refine ⟨2 * m + (if e then 1 else 0), ?_, ?_⟩
  ·rw [List.length_cons, Nat.pow_succ]; split <;> omega
  ·rw [List.length_cons, bitsB_succ]
   have hd : (2 * m + if e = true then 1 else 0) / 2 = m := by split <;> omega
   rw [hd, h2]
   congr 1
   rw [Nat.testBit_zero]
   cases e
   ·simp
   ·simp
def exF (f : Nat → Int) : Nat → Int × Int
 | 0 => (0, 0)
 | n + 1 => (min (if n = 0 then f 0 else (exF f n).1) (f n), max (if n = 0 then f 0 else (exF f n).2) (f n))
theorem exF_of {f : Nat → Int} : ∀ {n : Nat}, 0 < n → (∀ m, m < n → (exF f n).1 ≤ f m ∧ f m ≤ (exF f n).2) ∧ (∃ m, m < n ∧ f m = (exF f n).1) ∧ ∃ m, m < n ∧ f m = (exF f n).2
 | 0, h => by omega
 | n + 1, _ => by
  rcases Nat.eq_zero_or_pos n with rfl | hn
  ·simp only [exF, if_true]
   refine ⟨fun m hm => ?_, ⟨0, by omega, by omega⟩, ⟨0, by omega, by omega⟩⟩
   rw [show m = 0 by omega]
   omega
  ·obtain ⟨h1, ⟨m1, h2, h3⟩, m2, h4, h5⟩ := exF_of (f := f) hn
   simp only [exF, if_neg (show ¬ n = 0 by omega)]
   refine ⟨fun m hm => ?_, ?_, ?_⟩
   ·rcases Nat.lt_or_ge m n with h | h
    ·have := h1 m h; omega
    ·rw [show m = n by omega]; omega
   ·rcases Int.le_total (exF f n).1 (f n) with h | h
    ·exact ⟨m1, by omega, by omega⟩
    ·exact ⟨n, by omega, by omega⟩
   ·rcases Int.le_total (exF f n).2 (f n) with h | h
    ·exact ⟨n, by omega, by omega⟩
    ·exact ⟨m2, by omega, by omega⟩
theorem exF_eq {f : Nat → Int} {n : Nat} {lo hi : Int} (h0 : 0 < n) (h : ∀ m, m < n → lo ≤ f m ∧ f m ≤ hi) (h1 : ∃ m, m < n ∧ f m = lo) (h2 : ∃ m, m < n ∧ f m = hi) : exF f n = (lo, hi) := by
 obtain ⟨a1, ⟨m1, a2, a3⟩, m2, a4, a5⟩ := exF_of (f := f) h0
 obtain ⟨k1, b1, b2⟩ := h1
 obtain ⟨k2, b3, b4⟩ := h2
 have := a1 k1 b1
 have := a1 k2 b3
 have := h m1 a2
 have := h m2 a4
 exact Prod.ext (by omega) (by omega)
theorem wsF_get : ∀ {q : List PIt} {e : List Bool} (i : Nat) (x : PIt) (w : Int), q[i]? = some x → (wsF q e)[i]? = some w → w = x.wl ∨ w = x.wh
 | [], _, _, _, _, h, _ => by simp at h
 | _ :: _, [], _, _, _, _, h => by simp [wsF] at h
 | y :: q, e :: es, 0, x, w, h1, h2 => by
  simp only [List.getElem?_cons_zero, Option.some.injEq] at h1
  simp only [wsF, List.getElem?_cons_zero, Option.some.injEq] at h2
  subst h1; subst h2
  split
  ·exact .inr rfl
  ·exact .inl rfl
 | y :: q, e :: es, i + 1, x, w, h1, h2 => by
  simp only [List.getElem?_cons_succ] at h1
  simp only [wsF, List.getElem?_cons_succ] at h2
  exact wsF_get i x w h1 h2
def wsB (q : List PIt) (m : Nat) : List Int := wsF q (bitsB q.length m)
theorem ends_eq (c : Int → Int) {q : List PIt} (h : ∀ x ∈ q, x.ok) : exF (fun m => sumR c 0 q (wsB q m)) (2 ^ q.length) = (sumM (fun m x => loW x (c m)) 0 q, sumM (fun m x => hiW x (c m)) 0 q) := by
 refine exF_eq (Nat.two_pow_pos _) (fun m _ => ?_) ?_ ?_
 ·refine sumR_between c (wsF_len (bitsB_len _ _)) fun i x w h1 h2 => ?_
  have hx := (h x (List.mem_of_getElem? h1)).w
  rcases wsF_get i x w h1 h2 with rfl | rfl <;> omega
 ·obtain ⟨m, h1, h2⟩ := bits_ex (endL c 0 q)
  rw [endL_len] at h1 h2
  exact ⟨m, h1, by rw [wsB, h2, endL_lo c h]⟩
 ·obtain ⟨m, h1, h2⟩ := bits_ex ((endL c 0 q).map (!·))
  rw [List.length_map, endL_len] at h1 h2
  exact ⟨m, h1, by rw [wsB, h2, endL_hi c h]⟩
end Go.Dw.Seat
end
section
set_option linter.unusedSimpArgs false
set_option maxRecDepth 100000
namespace Go.Dw.Seat
open Go Go.Dw Go.Proofs Go.IntWalk
abbrev lyL (l : PLy) : List D := [dI l.lg, dI l.fr, dI l.bk, dI l.fm, dI l.bm]
def lyR (l : PLy) : Bool := ((((inI l.lg 1 2000 && inI l.fr 0 l.lg) && inI l.bk 0 l.lg) && !decide (l.bk ≤ l.fr)) && inI l.fm 0 40000000) && inI l.bm 0 40000000
theorem lyR_eq (l : PLy) : lyR l = lyOk l := by
 rw [Bool.eq_iff_iff, lyOk_iff]
 simp only [lyR, inI, Bool.and_eq_true, decide_eq_true_eq, Bool.not_eq_true', decide_eq_false_iff_not]
 constructor
 ·intro h; exact ⟨by omega, by omega, by omega, by omega⟩
 ·rintro ⟨h1, h2, h3, h4⟩; omega
def itR (x : PIt) : Bool := inI x.lg 1 2000 && spanOk x.wl x.wh 0 5000000
theorem itR_eq (x : PIt) : itR x = itOk x := by rw [itR, itOk, inI_w]
set_option maxHeartbeats 4000000 in
theorem reLorry (lab : Bool) (l : PLy) (q : List PIt) (hq : q.length ≤ maxLen) : DCall Try.prog 31 [lyrD l, itsD lab q] [] (dI (lorE l q)) [] := by
 have hq : q.length ≤ 9223372036854775807 := hq
 have g1 := reIn l.lg 1 2000
 have g2 := reIn l.fr 0 l.lg
 have g3 := reIn l.bk 0 l.lg
 have g5 := reIn l.fm 0 40000000
 have g6 := reIn l.bm 0 40000000
 by_cases hL : lyOk l = false
 ·have hE : lorE l q = 2 := if_pos hL
  rw [hE]
  rw [← lyR_eq] at hL
  unfold lyR at hL
  generalize inI l.lg 1 2000 = w1 at *
  generalize inI l.fr 0 l.lg = w2 at *
  generalize inI l.bk 0 l.lg = w3 at *
  generalize inI l.fm 0 40000000 = w5 at *
  generalize inI l.bm 0 40000000 = w6 at *
  cases w1 <;> simp only [Bool.true_and, Bool.false_and] at hL
  ·refine DCall.of Try.func31 sf31 hb31 (Nat.le_of_ble_eq_true rfl) (okRes_nil fun _ => rfl) ?_; simp only [s31, idxs, Nat.reduceAdd]
   repeat' (first|(with_reducible first|apply qA|apply qB|apply qC|apply qD|apply qE|apply qF)|(simp (disch:=omega) only [go_sem, simprocAttr, qN, qO, qP, qQ])|exact qM rfl rfl rfl|(refine qG rfl ?_)|(refine qK (g1) (by decide) ?_)|(refine qH rfl ?_)|(refine qI rfl ?_ ?_<;>intro hc<;>(try simp only [go_sem] at hc))|(refine qJ ?_ ?_<;>intro hc<;>(try simp only [hc])<;>(try simp only [go_sem] at hc)))
  cases w2 <;> simp only [Bool.true_and, Bool.false_and] at hL
  ·refine DCall.of Try.func31 sf31 hb31 (Nat.le_of_ble_eq_true rfl) (okRes_nil fun _ => rfl) ?_; simp only [s31, idxs, Nat.reduceAdd]
   repeat' (first|(with_reducible first|apply qA|apply qB|apply qC|apply qD|apply qE|apply qF)|(simp (disch:=omega) only [go_sem, simprocAttr, qN, qO, qP, qQ])|exact qM rfl rfl rfl|(refine qG rfl ?_)|(refine qK (g1) (by decide) ?_)|(refine qK (g2) (by decide) ?_)|(refine qH rfl ?_)|(refine qI rfl ?_ ?_<;>intro hc<;>(try simp only [go_sem] at hc))|(refine qJ ?_ ?_<;>intro hc<;>(try simp only [hc])<;>(try simp only [go_sem] at hc)))
  cases w3 <;> simp only [Bool.true_and, Bool.false_and] at hL
  ·refine DCall.of Try.func31 sf31 hb31 (Nat.le_of_ble_eq_true rfl) (okRes_nil fun _ => rfl) ?_; simp only [s31, idxs, Nat.reduceAdd]
   repeat' (first|(with_reducible first|apply qA|apply qB|apply qC|apply qD|apply qE|apply qF)|(simp (disch:=omega) only [go_sem, simprocAttr, qN, qO, qP, qQ])|exact qM rfl rfl rfl|(refine qG rfl ?_)|(refine qK (g1) (by decide) ?_)|(refine qK (g2) (by decide) ?_)|(refine qK (g3) (by decide) ?_)|(refine qH rfl ?_)|(refine qI rfl ?_ ?_<;>intro hc<;>(try simp only [go_sem] at hc))|(refine qJ ?_ ?_<;>intro hc<;>(try simp only [hc])<;>(try simp only [go_sem] at hc)))
  cases e4 : decide (l.bk ≤ l.fr) <;> rw [e4] at hL <;> simp only [Bool.not_true, Bool.not_false, Bool.true_and, Bool.false_and] at hL
  case true =>
   refine DCall.of Try.func31 sf31 hb31 (Nat.le_of_ble_eq_true rfl) (okRes_nil fun _ => rfl) ?_; simp only [s31, idxs, Nat.reduceAdd]
   repeat' (first|(with_reducible first|apply qA|apply qB|apply qC|apply qD|apply qE|apply qF)|(simp (disch:=omega) only [go_sem, simprocAttr, qN, qO, qP, qQ, e4])|exact qM rfl rfl rfl|(refine qG rfl ?_)|(refine qK (g1) (by decide) ?_)|(refine qK (g2) (by decide) ?_)|(refine qK (g3) (by decide) ?_)|(refine qH rfl ?_)|(refine qI rfl ?_ ?_<;>intro hc<;>(try simp only [go_sem] at hc))|(refine qJ ?_ ?_<;>intro hc<;>(try simp only [hc])<;>(try simp only [go_sem] at hc)))
  cases w5 <;> simp only [Bool.true_and, Bool.false_and] at hL
  ·refine DCall.of Try.func31 sf31 hb31 (Nat.le_of_ble_eq_true rfl) (okRes_nil fun _ => rfl) ?_; simp only [s31, idxs, Nat.reduceAdd]
   repeat' (first|(with_reducible first|apply qA|apply qB|apply qC|apply qD|apply qE|apply qF)|(simp (disch:=omega) only [go_sem, simprocAttr, qN, qO, qP, qQ, e4])|exact qM rfl rfl rfl|(refine qG rfl ?_)|(refine qK (g1) (by decide) ?_)|(refine qK (g2) (by decide) ?_)|(refine qK (g3) (by decide) ?_)|(refine qK (g5) (by decide) ?_)|(refine qH rfl ?_)|(refine qI rfl ?_ ?_<;>intro hc<;>(try simp only [go_sem] at hc))|(refine qJ ?_ ?_<;>intro hc<;>(try simp only [hc])<;>(try simp only [go_sem] at hc)))
  subst hL
  refine DCall.of Try.func31 sf31 hb31 (Nat.le_of_ble_eq_true rfl) (okRes_nil fun _ => rfl) ?_; simp only [s31, idxs, Nat.reduceAdd]
  repeat' (first|(with_reducible first|apply qA|apply qB|apply qC|apply qD|apply qE|apply qF)|(simp (disch:=omega) only [go_sem, simprocAttr, qN, qO, qP, qQ, e4])|exact qM rfl rfl rfl|(refine qG rfl ?_)|(refine qK (g1) (by decide) ?_)|(refine qK (g2) (by decide) ?_)|(refine qK (g3) (by decide) ?_)|(refine qK (g5) (by decide) ?_)|(refine qK (g6) (by decide) ?_)|(refine qH rfl ?_)|(refine qI rfl ?_ ?_<;>intro hc<;>(try simp only [go_sem] at hc))|(refine qJ ?_ ?_<;>intro hc<;>(try simp only [hc])<;>(try simp only [go_sem] at hc)))
 simp only [Bool.not_eq_false] at hL
 have hl := lyOk_iff.1 hL
 have hL2 := hL
 rw [← lyR_eq] at hL2
 simp only [lyR, Bool.and_eq_true, Bool.not_eq_true'] at hL2
 obtain ⟨⟨⟨⟨⟨e1, e2⟩, e3⟩, e4⟩, e5⟩, e6⟩ := hL2
 rw [e1] at g1
 rw [e2] at g2
 rw [e3] at g3
 rw [e5] at g5
 rw [e6] at g6
 clear e1 e2 e3 e5 e6
 by_cases h7 : (7 : Int) < (q.length : Int)
 ·have d7 : decide ((7 : Int) < (q.length : Int)) = true := decide_eq_true h7
  have hE : lorE l q = 5 := by unfold lorE; rw [if_neg (by rw [hL]; decide), if_pos h7]
  rw [hE]
  refine DCall.of Try.func31 sf31 hb31 (Nat.le_of_ble_eq_true rfl) (okRes_nil fun _ => rfl) ?_; simp only [s31, idxs, Nat.reduceAdd]
  repeat' (first|(with_reducible first|apply qA|apply qB|apply qC|apply qD|apply qE|apply qF)|(simp (disch:=omega) only [go_sem, simprocAttr, qN, qO, qP, qQ, e4, d7])|exact qM rfl rfl rfl|(refine qG rfl ?_)|(refine qK (g1) (by decide) ?_)|(refine qK (g2) (by decide) ?_)|(refine qK (g3) (by decide) ?_)|(refine qK (g5) (by decide) ?_)|(refine qK (g6) (by decide) ?_)|(refine qH rfl ?_)|(refine qI rfl ?_ ?_<;>intro hc<;>(try simp only [go_sem] at hc))|(refine qJ ?_ ?_<;>intro hc<;>(try simp only [hc])<;>(try simp only [go_sem] at hc)))
 have d7 : decide ((7 : Int) < (q.length : Int)) = false := decide_eq_false h7
 have hE : lorE l q = if (q.any fun x => !itOk x) = true then 4 else if l.lg < lgI q then 3 else 0 := by unfold lorE; rw [if_neg (by rw [hL]; decide), if_neg h7]
 have hlg := hl.lg
 rw [hE]
 generalize hR : (if (q.any fun x => !itOk x) = true then (4 : Int) else if l.lg < lgI q then 3 else 0) = R
 refine DCall.of Try.func31 sf31 hb31 (Nat.le_of_ble_eq_true rfl) (okRes_nil fun _ => rfl) ?_; simp only [s31, idxs, Nat.reduceAdd]
 repeat' (first|(with_reducible first|apply qA|apply qB|apply qC|apply qD|apply qE|apply qF)|(simp (disch:=omega) only [go_sem, simprocAttr, qN, qO, qP, qQ, e4, d7])|exact qM rfl rfl rfl|(refine qG rfl ?_)|(refine qK (g1) (by decide) ?_)|(refine qK (g2) (by decide) ?_)|(refine qK (g3) (by decide) ?_)|(refine qK (g5) (by decide) ?_)|(refine qK (g6) (by decide) ?_)|(refine qH rfl ?_)|(refine qI rfl ?_ ?_<;>intro hc<;>(try simp only [go_sem] at hc))|(refine qJ ?_ ?_<;>intro hc<;>(try simp only [hc])<;>(try simp only [go_sem] at hc)))
 refine DW.loop (ι := { i : Nat // i ≤ q.length ∧ (∀ x ∈ q.take i, x.ok) ∧ (if ((q.drop i).any fun x => !itOk x) = true then (4 : Int) else if l.lg < lgI q then 3 else 0) = R }) (fun i => ⟨82, [(6, dI i.1), (5, dI (lgI (q.take i.1))), (2, .box 2 0), (1, itsD lab q)], [(2, .box (lyL l))]⟩) (fun i => q.length - i.1) ⟨0, Nat.zero_le _, by simp, hR⟩ ?_ ?_
 ·refine Ent.to ?_ ?_ <;> simp (disch:=omega) only [qR,qS,qT,qU,get,Nat.reduceEqDiff,↓reduceIte,qV,qW,qX,qY,qZ,and_self,dI,i64_in,and_true,true_and,rA,rB,rC,rD,List.take_zero,lgI]
  all_goals first | exact ⟨.refl _, .refl _⟩ | exact .refl _
 rintro ⟨i, hi, hok, hr⟩
 dsimp only
 rcases at_or q i hi with ⟨x, hx, hlt, hd⟩ | ⟨he, hd⟩
 ·have hdr : q.drop i = x :: q.drop (i + 1) := by rw [List.drop_eq_getElem_cons hlt, (List.getElem_eq_iff hlt).2 hx]
  have htk : q.take (i + 1) = q.take i ++ [x] := by rw [List.take_add_one, hx]; rfl
  have hsn := lgI_snoc (q.take i) x
  have hb := lgI_nn hok
  rw [List.length_take] at hb
  rw [hdr, List.any_cons] at hr
  have k1 := reIn x.lg 1 2000
  have k2 := reSpan x.wl x.wh 0 5000000
  have hio := itR_eq x
  unfold itR at hio
  rw [← hio] at hr
  cases c1 : inI x.lg 1 2000 <;> rw [c1] at k1 hr hio
  ·simp only [Bool.false_and, Bool.not_false, Bool.true_or, if_true] at hr
   subst hr
   repeat' (first|(with_reducible first|apply qA|apply qB|apply qC|apply qD|apply qE|apply qF)|(simp (disch:=omega) only [go_sem, simprocAttr, qN, qO, qP, qQ, hd, hx, rF, rG])|exact qM rfl rfl rfl|(refine qG rfl ?_)|(refine qK (k1) (by decide) ?_)|(refine qH rfl ?_)|(refine qI rfl ?_ ?_<;>intro hc<;>(try simp only [go_sem] at hc))|(refine qJ ?_ ?_<;>intro hc<;>(try simp only [hc])<;>(try simp only [go_sem] at hc)))
  cases c2 : spanOk x.wl x.wh 0 5000000 <;> rw [c2] at k2 hr hio
  ·simp only [Bool.and_false, Bool.not_false, Bool.true_or, if_true] at hr
   subst hr
   repeat' (first|(with_reducible first|apply qA|apply qB|apply qC|apply qD|apply qE|apply qF)|(simp (disch:=omega) only [go_sem, simprocAttr, qN, qO, qP, qQ, hd, hx, rF, rG])|exact qM rfl rfl rfl|(refine qG rfl ?_)|(refine qK (k1) (by decide) ?_)|(refine qK (k2) (by decide) ?_)|(refine qH rfl ?_)|(refine qI rfl ?_ ?_<;>intro hc<;>(try simp only [go_sem] at hc))|(refine qJ ?_ ?_<;>intro hc<;>(try simp only [hc])<;>(try simp only [go_sem] at hc)))
  ·simp only [Bool.and_self, Bool.not_true, Bool.false_or] at hr
   have hxo : x.ok := itOk_iff.1 (by rw [← hio]; rfl)
   have hxl := hxo.lg
   rw [← htk] at hsn
   have hok2 : ∀ y ∈ q.take (i + 1), y.ok := fun y hy => by
    rw [htk] at hy
    rcases List.mem_append.1 hy with h | h
    ·exact hok y h
    ·rw [List.mem_singleton.1 h]; exact hxo
   generalize lgI (q.take i) = S at *
   repeat' (first|(with_reducible first|apply qA|apply qB|apply qC|apply qD|apply qE|apply qF)|(simp (disch:=omega) only [go_sem, simprocAttr, qN, qO, qP, qQ, hd, hx, rF, rG])|exact qM rfl rfl rfl|(refine qG rfl ?_)|(refine qK (k1) (by decide) ?_)|(refine qK (k2) (by decide) ?_)|(refine qH rfl ?_)|(refine qI rfl ?_ ?_<;>intro hc<;>(try simp only [go_sem] at hc))|(refine qJ ?_ ?_<;>intro hc<;>(try simp only [hc])<;>(try simp only [go_sem] at hc)))
   refine ⟨⟨i + 1, hlt, hok2, hr⟩, ?_, Ent.to ?_ ?_⟩ <;> first | (show _ < _; (try simp only); omega) | (simp (disch:=omega) only [qR,qS,qT,qU,get,Nat.reduceEqDiff,↓reduceIte,qV,qW,qX,qY,qZ,and_self,dI,i64_in,and_true,true_and,rA,rB,rC,rD, hsn])
   all_goals first | exact ⟨.refl _, .refl _⟩ | exact .refl _
 ·have hti : lgI (q.take i) = lgI q := by rw [he, List.take_length]
  rw [hti]
  rw [List.drop_eq_nil_of_le (by omega)] at hr
  simp only [List.any_nil, Bool.false_eq_true, if_false] at hr
  by_cases hc : l.lg < lgI q
  ·have dc : decide (l.lg < lgI q) = true := decide_eq_true hc
   rw [if_pos hc] at hr
   subst hr
   repeat' (first|(with_reducible first|apply qA|apply qB|apply qC|apply qD|apply qE|apply qF)|(simp (disch:=omega) only [go_sem, simprocAttr, qN, qO, qP, qQ, hd, dc])|exact qM rfl rfl rfl|(refine qG rfl ?_)|(refine qH rfl ?_)|(refine qI rfl ?_ ?_<;>intro hc<;>(try simp only [go_sem] at hc))|(refine qJ ?_ ?_<;>intro hc<;>(try simp only [hc])<;>(try simp only [go_sem] at hc)))
  ·have dc : decide (l.lg < lgI q) = false := decide_eq_false hc
   rw [if_neg hc] at hr
   subst hr
   repeat' (first|(with_reducible first|apply qA|apply qB|apply qC|apply qD|apply qE|apply qF)|(simp (disch:=omega) only [go_sem, simprocAttr, qN, qO, qP, qQ, hd, dc])|exact qM rfl rfl rfl|(refine qG rfl ?_)|(refine qH rfl ?_)|(refine qI rfl ?_ ?_<;>intro hc<;>(try simp only [go_sem] at hc))|(refine qJ ?_ ?_<;>intro hc<;>(try simp only [hc])<;>(try simp only [go_sem] at hc)))
theorem sumR_app (c : Int → Int) : ∀ {q : List PIt} {ws : List Int} (a : Int) (x : PIt) (w : Int), ws.length = q.length → sumR c a (q ++ [x]) (ws ++ [w]) = sumR c a q ws + w * c (2 * (a + lgI q) + x.lg)
 | [], [], a, x, w, _ => by simp [sumR, lgI]
 | [], _ :: _, _, _, _, h => by simp at h
 | _ :: _, [], _, _, _, h => by simp at h
 | y :: q, v :: ws, a, x, w, h => by
  rw [List.cons_append, List.cons_append, sumR, sumR_app c (q := q) (ws := ws) (a + y.lg) x w (by simpa using h), sumR, lgI]
  rw [show a + y.lg + lgI q = a + (y.lg + lgI q) by omega]
  omega
def WOk (ws : List Int) : Prop := ∀ w ∈ ws, 0 ≤ w ∧ w ≤ 5000000
theorem sumR_b {c : Int → Int} (hc : ∀ m, 0 ≤ m → m ≤ 4000 → -10000 ≤ c m ∧ c m ≤ 10000) : ∀ {q : List PIt} {ws : List Int} {a : Int}, 0 ≤ a → a + lgI q ≤ 2000 → (∀ x ∈ q, x.ok) → WOk ws → -(50000000000 * (q.length : Int)) ≤ sumR c a q ws ∧ sumR c a q ws ≤ 50000000000 * (q.length : Int)
 | [], _, a, _, _, _, _ => by simp [sumR]
 | _ :: _, [], a, _, _, _, _ => by simp [sumR]; omega
 | x :: q, w :: ws, a, h0, h1, h2, hw => by
  have hx := (h2 x (by simp)).lg
  have hq := fun y hy => h2 y (List.mem_cons_of_mem x hy)
  have hn := lgI_nn hq
  rw [lgI] at h1
  have ih := sumR_b hc (q := q) (ws := ws) (a := a + x.lg) (by omega) (by omega) hq (fun v hv => hw v (by simp [hv]))
  have hcb := hc (2 * a + x.lg) (by omega) (by omega)
  have hwb := hw w (by simp)
  have m := mul_abs (a := w) (b := c (2 * a + x.lg)) (A := 5000000) (B := 10000) (by omega) (by omega)
  rw [sumR, List.length_cons]
  omega
set_option maxHeartbeats 4000000 in
theorem reParts (lab : Bool) (l : PLy) (q : List PIt) (h : LorOk l q) (lw : Bool) (ws : List Int) (hwl : ws.length = q.length) (hw : WOk ws) : DCall Try.prog 110 [lyrD l, itsD lab q, dIs lw ws] [] (.tup [dI (sumR (cF l) 0 q ws), dI (sumR (cB l) 0 q ws)]) [] := by
 have hl := h.ly
 have hlen := h.len
 have hits := h.its
 have hlg := h.lg
 have hll := hl.lg
 have hax := hl.ax
 refine DCall.of Try.func110 sf110 hb110 (Nat.le_of_ble_eq_true rfl) (okRes_nil fun _ => rfl) ?_; simp only [s110, idxs, Nat.reduceAdd]
 repeat' (first|(with_reducible first|apply qA|apply qB|apply qC|apply qD|apply qE|apply qF)|(refine qL rfl (WF.of ?_) ?_; first|rfl|skip)|(simp (disch:=omega) only [go_sem, simprocAttr, qN, qO, qP, qQ])|exact qM rfl rfl rfl|(refine qG rfl ?_)|(refine qH rfl ?_)|(refine qI rfl ?_ ?_<;>intro hc<;>(try simp only [go_sem] at hc))|(refine qJ ?_ ?_<;>intro hc<;>(try simp only [hc])<;>(try simp only [go_sem] at hc)))
 refine DW.loop (ι := { i : Nat // i ≤ q.length }) (fun i => ⟨60, [(11, dI i.1), (10, dI (lgI (q.take i.1))), (9, dI (sumR (cB l) 0 (q.take i.1) (ws.take i.1))), (8, dI (sumR (cF l) 0 (q.take i.1) (ws.take i.1))), (3, .box 3 0), (2, dIs lw ws), (1, itsD lab q)], [(3, .box (lyL l))]⟩) (fun i => q.length - i.1) ⟨0, Nat.zero_le _⟩ ?_ ?_
 ·refine Ent.to ?_ ?_ <;> simp (disch:=omega) only [qR,qS,qT,qU,get,Nat.reduceEqDiff,↓reduceIte,qV,qW,qX,qY,qZ,and_self,dI,i64_in,and_true,true_and,rA,rB,rC,rD,List.take_zero,lgI,sumR]
  all_goals first | exact ⟨.refl _, .refl _⟩ | exact .refl _
 rintro ⟨i, hi⟩
 dsimp only
 rcases at_or q i hi with ⟨x, hx, hlt, hd⟩ | ⟨he, hd⟩
 ·have hxo := hits x (List.mem_of_getElem? hx)
  have hxl := hxo.lg
  obtain ⟨w, hwi⟩ := getE (l := ws) (i := i) (by omega)
  have hwb := hw w (List.mem_of_getElem? hwi)
  have htk : q.take (i + 1) = q.take i ++ [x] := by rw [List.take_add_one, hx]; rfl
  have htw : ws.take (i + 1) = ws.take i ++ [w] := by rw [List.take_add_one, hwi]; rfl
  have htm : ∀ y ∈ q.take i, y.ok := fun y hy => hits y (List.mem_of_mem_take hy)
  have hsn := lgI_snoc (q.take i) x
  have hS1 := lgI_take hits (i + 1)
  rw [htk, hsn] at hS1
  have hS0 := lgI_nn htm
  have hl7 : (q.take i).length ≤ 7 := by rw [List.length_take]; omega
  have hwt : WOk (ws.take i) := fun v hv => hw v (List.mem_of_mem_take hv)
  have bF := sumR_b (cF_b hl) (q := q.take i) (ws := ws.take i) (a := 0) (by omega) (by omega) htm hwt
  have bB := sumR_b (cB_b hl) (q := q.take i) (ws := ws.take i) (a := 0) (by omega) (by omega) htm hwt
  have hlw : (ws.take i).length = (q.take i).length := by rw [List.length_take, List.length_take]; omega
  have e1 := sumR_app (cF l) 0 x w hlw
  have e3 := sumR_app (cB l) 0 x w hlw
  rw [← htk, ← htw, Int.zero_add] at e1 e3
  rw [← htk] at hsn
  generalize sumR (cF l) 0 (q.take i) (ws.take i) = A1 at *
  generalize sumR (cB l) 0 (q.take i) (ws.take i) = A3 at *
  generalize lgI (q.take i) = S at *
  have c1 := cF_b hl (2 * S + x.lg) (by omega) (by omega)
  have c2 := cB_b hl (2 * S + x.lg) (by omega) (by omega)
  have m1 := mul_abs (a := w) (b := cF l (2 * S + x.lg)) (A := 5000000) (B := 10000) (by omega) (by omega)
  have m2 := mul_abs (a := w) (b := cB l (2 * S + x.lg)) (A := 5000000) (B := 10000) (by omega) (by omega)
  unfold cF at m1
  unfold cB at m2
  have e1 : sumR (cF l) 0 (q.take (i + 1)) (ws.take (i + 1)) = A1 + w * (2 * l.bk - (2 * S + x.lg)) := e1
  have e3 : sumR (cB l) 0 (q.take (i + 1)) (ws.take (i + 1)) = A3 + w * (2 * S + x.lg - 2 * l.fr) := e3
  have w1 : IntKind.i64.wrap (w * (2 * l.bk - (2 * S + x.lg))) = w * (2 * l.bk - (2 * S + x.lg)) := IntWalk.i64_in _ (by omega)
  have w2 : IntKind.i64.wrap (w * (2 * S + x.lg - 2 * l.fr)) = w * (2 * S + x.lg - 2 * l.fr) := IntWalk.i64_in _ (by omega)
  repeat' (first|(with_reducible first|apply qA|apply qB|apply qC|apply qD|apply qE|apply qF)|(refine qL rfl (WF.of ?_) ?_; first|rfl|skip)|(simp (disch:=omega) only [go_sem, simprocAttr, qN, qO, qP, qQ, hd, hx, hwi, w1, w2, rF, rG])|exact qM rfl rfl rfl|(refine qG rfl ?_)|(refine qH rfl ?_)|(refine qI rfl ?_ ?_<;>intro hc<;>(try simp only [go_sem] at hc))|(refine qJ ?_ ?_<;>intro hc<;>(try simp only [hc])<;>(try simp only [go_sem] at hc)))
  refine ⟨⟨i + 1, hlt⟩, ?_, Ent.to ?_ ?_⟩ <;> first | (show _ < _; (try simp only); omega) | (simp (disch:=omega) only [qR,qS,qT,qU,get,Nat.reduceEqDiff,↓reduceIte,qV,qW,qX,qY,qZ,and_self,dI,i64_in,and_true,true_and,rA,rB,rC,rD, hsn,e1,e3])
  all_goals first | exact ⟨.refl _, .refl _⟩ | exact .refl _ | skip
 ·have hti : q.take i = q := by rw [he, List.take_length]
  have htj : ws.take i = ws := by rw [he, ← hwl, List.take_length]
  rw [hti, htj]
  repeat' (first|(with_reducible first|apply qA|apply qB|apply qC|apply qD|apply qE|apply qF)|(refine qL rfl (WF.of ?_) ?_; first|rfl|skip)|(simp (disch:=omega) only [go_sem, simprocAttr, qN, qO, qP, qQ, hd])|exact qM rfl rfl rfl|(refine qG rfl ?_)|(refine qH rfl ?_)|(refine qI rfl ?_ ?_<;>intro hc<;>(try simp only [go_sem] at hc))|(refine qJ ?_ ?_<;>intro hc<;>(try simp only [hc])<;>(try simp only [go_sem] at hc)))
end Go.Dw.Seat
end
section
set_option linter.unusedSimpArgs false
set_option maxRecDepth 100000
namespace Go.Dw.Seat
open Go Go.Dw Go.Proofs Go.IntWalk
theorem min_if' (a b : Int) : (if b < a then b else a) = min a b := by split <;> omega
theorem max_if' (a b : Int) : (if a < b then b else a) = max a b := by split <;> omega
theorem ud3 : Try.prog.underlying 3 = some (.int .i64) := by kernel_rfl
theorem exF_succ (f : Nat → Int) (m : Nat) : exF f (m + 1) = (if f m < (if m = 0 then f m else (exF f m).1) then f m else (if m = 0 then f m else (exF f m).1), if (if m = 0 then f m else (exF f m).2) < f m then f m else (if m = 0 then f m else (exF f m).2)) := by
 rw [exF, min_if', max_if']
 by_cases h : m = 0
 ·subst h; rfl
 ·rw [if_neg h, if_neg h, if_neg h, if_neg h]
theorem shl_two : ∀ n : Fin 8, shlI IntKind.i64 1 n.1 = ((2 ^ n.1 : Nat) : Int) := by decide +kernel
theorem bit_at : ∀ (m : Fin 128) (i : Fin 8), (andI IntKind.i64 ((m.1 >>> i.1 : Nat) : Int) 1 == 1) = m.1.testBit i.1 := by decide +kernel
theorem wsB_at {q : List PIt} {m i : Nat} {x : PIt} (hx : q[i]? = some x) : (wsB q m)[i]? = some (if m.testBit i then x.wh else x.wl) := by
 have key : ∀ (q : List PIt) (e : List Bool) (i : Nat) (x : PIt) (b : Bool), q[i]? = some x → e[i]? = some b → (wsF q e)[i]? = some (if b then x.wh else x.wl) := by
  intro q
  induction q with
  | nil => intro e i x b h; simp at h
  | cons y q ih =>
   intro e i x b h1 h2
   cases e with
   | nil => simp at h2
   | cons c e =>
    cases i with
    | zero =>
     simp only [List.getElem?_cons_zero, Option.some.injEq] at h1 h2
     subst h1; subst h2
     rfl
    | succ i =>
     simp only [List.getElem?_cons_succ] at h1 h2
     simp only [wsF, List.getElem?_cons_succ]
     exact ih e i x b h1 h2
 have hi : i < q.length := (List.getElem?_eq_some_iff.1 hx).1
 refine key q (bitsB q.length m) i x (m.testBit i) hx ?_
 simp only [bitsB, List.getElem?_map, List.getElem?_range hi, Option.map_some]
theorem wsB_len (q : List PIt) (m : Nat) : (wsB q m).length = q.length := wsF_len (bitsB_len _ _)
theorem wsB_ok {q : List PIt} (h : ∀ x ∈ q, x.ok) (m : Nat) : WOk (wsB q m) := fun w hw => by
 obtain ⟨i, hi, rfl⟩ := List.mem_iff_getElem.1 hw
 have hiq : i < q.length := by rw [wsB_len] at hi; exact hi
 have h1 := wsB_at (m := m) (List.getElem?_eq_getElem hiq)
 rw [List.getElem?_eq_getElem hi] at h1
 have hx := (h q[i] (List.getElem_mem _)).w
 injection h1 with h1
 rw [h1]
 split <;> omega
set_option maxHeartbeats 4000000 in
theorem reEnds (lab : Bool) (l : PLy) (q : List PIt) (h : LorOk l q) : DCall Try.prog 79 [lyrD l, itsD lab q] [] (prtD (prtF l q)) [] := by
 have hl := h.ly
 have hlen := h.len
 have hits := h.its
 have hlg := h.lg
 have hll := hl.lg
 have hF := ends_eq (cF l) hits
 have hB := ends_eq (cB l) hits
 have hsh := shl_two ⟨q.length, by omega⟩
 dsimp only at hsh
 have h2n : 2 ^ q.length ≤ 2 ^ 7 := Nat.pow_le_pow_right (by decide) hlen
 have hu : ((q.length : Int)).toNat = q.length := by omega
 refine DCall.of Try.func79 sf79 hb79 (Nat.le_of_ble_eq_true rfl) (okRes_nil fun _ => rfl) ?_; simp only [s79, o79_0, o79_1, o79_2, o79_3, idxs, Nat.reduceAdd]
 repeat' (first|(with_reducible first|apply qA|apply qB|apply qC|apply qD|apply qE|apply qF)|(refine DW.ord rfl (WF.of (by first|rfl|simp (disch:=omega) only [go_sem, simprocAttr, qN, qO, qP, qQ])) ?_ ?_ ?_; rotate_left)|rfl|(with_reducible refine And.intro ?_ ?_)|(simp (disch:=omega) only [go_sem, simprocAttr, qN, qO, qP, qQ])|exact qM rfl rfl rfl|(refine qG rfl ?_)|(refine qH rfl ?_)|(refine qI rfl ?_ ?_<;>intro hc<;>(try simp only [go_sem] at hc))|(refine qJ ?_ ?_<;>intro hc<;>(try simp only [hc])<;>(try simp only [go_sem] at hc)))
 refine DW.loop (ι := { m : Nat // m ≤ 2 ^ q.length }) (fun m => ⟨89, [(8, dI m.1), (7, .box 7 0), (6, .box 6 0), (5, .box 5 0), (4, .box 4 0), (2, .box 2 0), (1, itsD lab q)], [(7, .box [dI (exF (fun m => sumR (cB l) 0 q (wsB q m)) m.1).1, dI (exF (fun m => sumR (cB l) 0 q (wsB q m)) m.1).2]), (6, .box [dI (exF (fun m => sumR (cF l) 0 q (wsB q m)) m.1).1, dI (exF (fun m => sumR (cF l) 0 q (wsB q m)) m.1).2]), (5, .box [dI 0, dI 0]), (4, .box [dI 0, dI 0]), (2, .box (lyL l))]⟩) (fun m => 2 ^ q.length - m.1) ⟨0, Nat.zero_le _⟩ ?_ ?_
 ·refine Ent.to ?_ ?_ <;> simp (disch:=omega) only [qR,qS,qT,qU,get,Nat.reduceEqDiff,↓reduceIte,qV,qW,qX,qY,qZ,and_self,dI,i64_in,and_true,true_and,rA,rB,rC,rD,exF]
  all_goals first | exact ⟨.refl _, .refl _⟩ | exact .refl _
 rintro ⟨m, hm⟩
 dsimp only
 by_cases hc : m < 2 ^ q.length
 ·have hd : decide ((m : Int) < ((2 ^ q.length : Nat) : Int)) = true := decide_eq_true (by omega)
  have hw : IntKind.u64.wrap (q.length : Int) = (q.length : Int) := IntWalk.u64_in _ (by omega)
  have hPB := sumR_b (cB_b hl) (q := q) (ws := wsB q m) (a := 0) (by omega) (by omega) hits (wsB_ok hits m)
  have hPF := sumR_b (cF_b hl) (q := q) (ws := wsB q m) (a := 0) (by omega) (by omega) hits (wsB_ok hits m)
  have hp := reParts lab l q h true (wsB q m) (wsB_len q m) (wsB_ok hits m)
  have sF := exF_succ (fun m => sumR (cF l) 0 q (wsB q m)) m
  have sB := exF_succ (fun m => sumR (cB l) 0 q (wsB q m)) m
  have hWat := fun i x (hx : q[i]? = some x) => wsB_at (m := m) hx
  have hWl := wsB_len q m
  repeat' (first|(with_reducible first|apply qA|apply qB|apply qC|apply qD|apply qE|apply qF)|(refine DW.ord rfl (WF.of (by first|rfl|simp (disch:=omega) only [go_sem, simprocAttr, qN, qO, qP, qQ, hd, hsh, hu, ud3, hw])) ?_ ?_ ?_; rotate_left)|rfl|(with_reducible refine And.intro ?_ ?_)|(simp (disch:=omega) only [go_sem, simprocAttr, qN, qO, qP, qQ, hd, hsh, hu, ud3, hw])|exact qM rfl rfl rfl|(refine qG rfl ?_)|(refine qH rfl ?_)|(refine qI rfl ?_ ?_<;>intro hc<;>(try simp only [go_sem] at hc))|(refine qJ ?_ ?_<;>intro hc<;>(try simp only [hc])<;>(try simp only [go_sem] at hc)))
  generalize exF (fun m => sumR (cF l) 0 q (wsB q m)) m = FF at *
  generalize exF (fun m => sumR (cB l) 0 q (wsB q m)) m = FB at *
  generalize sumR (cF l) 0 q (wsB q m) = PF at *
  generalize sumR (cB l) 0 q (wsB q m) = PB at *
  generalize wsB q m = W at *
  obtain ⟨F1, F2⟩ := FF
  obtain ⟨B1, B2⟩ := FB
  dsimp only at sF sB ⊢
  refine DW.loop (ι := { i : Nat // i ≤ q.length }) (fun i => ⟨89, [(10, dI i.1), (9, .own 23), (8, dI m), (7, .box 7 0), (6, .box 6 0), (5, .box 5 0), (4, .box 4 0), (2, .box 2 0), (1, itsD lab q)], [(23, .row 1 (rowC (rows eI (W.take i.1)))), (7, .box [dI B1, dI B2]), (6, .box [dI F1, dI F2]), (5, .box [dI 0, dI 0]), (4, .box [dI 0, dI 0]), (2, .box (lyL l))]⟩) (fun i => q.length - i.1) ⟨0, Nat.zero_le _⟩ ?_ ?_
  ·refine Ent.to ?_ ?_ <;> simp (disch:=omega) only [qR,qS,qT,qU,get,Nat.reduceEqDiff,↓reduceIte,qV,qW,qX,qY,qZ,and_self,dI,i64_in,and_true,true_and,rA,rB,rC,rD,List.take_zero]
   all_goals first | exact ⟨.refl _, .refl _⟩ | exact .refl _
  rintro ⟨i, hi⟩
  dsimp only
  rcases at_or q i hi with ⟨x, hx, hlt, hdi⟩ | ⟨he, hdi⟩
  ·have hWx := hWat i x hx
   have hwi : IntKind.u64.wrap (i : Int) = (i : Int) := IntWalk.u64_in _ (by omega)
   have hui : ((i : Int)).toNat = i := by omega
   have hbit := bit_at ⟨m, by omega⟩ ⟨i, by omega⟩
   dsimp only at hbit
   have htk : W.take (i + 1) = W.take i ++ [if m.testBit i then x.wh else x.wl] := by rw [List.take_add_one, hWx]; rfl
   have htl : (W.take i).length ≤ 7 := by rw [List.length_take]; omega
   generalize W.take i = V at *
   cases hb : m.testBit i <;> rw [hb] at hbit htk
   ·rw [if_neg Bool.false_ne_true] at htk
    repeat' (first|(with_reducible first|apply qA|apply qB|apply qC|apply qD|apply qE|apply qF)|(refine DW.ord rfl (WF.of (by first|rfl|simp (disch:=omega) only [go_sem, simprocAttr, qN, qO, qP, qQ, hdi, ud3, hwi, hui, hbit, hx, rF, rG])) ?_ ?_ ?_; rotate_left)|rfl|(with_reducible refine And.intro ?_ ?_)|(simp (disch:=omega) only [go_sem, simprocAttr, qN, qO, qP, qQ, hdi, ud3, hwi, hui, hbit, hx, rF, rG])|exact qM rfl rfl rfl|(refine qG rfl ?_)|(refine qH rfl ?_)|(refine qI rfl ?_ ?_<;>intro hc<;>(try simp only [go_sem] at hc))|(refine qJ ?_ ?_<;>intro hc<;>(try simp only [hc])<;>(try simp only [go_sem] at hc)))
    refine ⟨⟨i + 1, hlt⟩, ?_, Ent.to ?_ ?_⟩ <;> first | (show _ < _; (try simp only); omega) | (simp (disch:=omega) only [qR,qS,qT,qU,get,Nat.reduceEqDiff,↓reduceIte,qV,qW,qX,qY,qZ,and_self,dI,i64_in,and_true,true_and,rA,rB,rC,rD, htk,rowC_snocI])
    all_goals first | exact ⟨.refl _, .refl _⟩ | exact .refl _
   ·rw [if_pos rfl] at htk
    repeat' (first|(with_reducible first|apply qA|apply qB|apply qC|apply qD|apply qE|apply qF)|(refine DW.ord rfl (WF.of (by first|rfl|simp (disch:=omega) only [go_sem, simprocAttr, qN, qO, qP, qQ, hdi, ud3, hwi, hui, hbit, hx, rF, rG])) ?_ ?_ ?_; rotate_left)|rfl|(with_reducible refine And.intro ?_ ?_)|(simp (disch:=omega) only [go_sem, simprocAttr, qN, qO, qP, qQ, hdi, ud3, hwi, hui, hbit, hx, rF, rG])|exact qM rfl rfl rfl|(refine qG rfl ?_)|(refine qH rfl ?_)|(refine qI rfl ?_ ?_<;>intro hc<;>(try simp only [go_sem] at hc))|(refine qJ ?_ ?_<;>intro hc<;>(try simp only [hc])<;>(try simp only [go_sem] at hc)))
    refine ⟨⟨i + 1, hlt⟩, ?_, Ent.to ?_ ?_⟩ <;> first | (show _ < _; (try simp only); omega) | (simp (disch:=omega) only [qR,qS,qT,qU,get,Nat.reduceEqDiff,↓reduceIte,qV,qW,qX,qY,qZ,and_self,dI,i64_in,and_true,true_and,rA,rB,rC,rD, htk,rowC_snocI])
    all_goals first | exact ⟨.refl _, .refl _⟩ | exact .refl _
  ·have hti : W.take i = W := by rw [he, ← hWl, List.take_length]
   rw [hti]
   by_cases hm0 : m = 0
   ·have dm : ((m : Int) == 0) = true := by simp [hm0]
    simp only [if_pos hm0] at sF sB
    repeat' (first|(with_reducible first|apply qA|apply qB|apply qC|apply qD|apply qE|apply qF)|(refine DW.ord rfl (WF.of (by first|rfl|simp (disch:=omega) only [go_sem, simprocAttr, qN, qO, qP, qQ, hdi, dm])) ?_ ?_ ?_; rotate_left)|rfl|(with_reducible refine And.intro ?_ ?_)|(simp (disch:=omega) only [go_sem, simprocAttr, qN, qO, qP, qQ, hdi, dm])|exact qM rfl rfl rfl|(refine qG rfl ?_)|(refine qK (hp) (by decide) ?_)|(refine qH rfl ?_)|(refine qI rfl ?_ ?_<;>intro hc<;>(try simp only [go_sem] at hc))|(refine qJ ?_ ?_<;>intro hc<;>(try simp only [hc])<;>(try simp only [go_sem] at hc)))
    refine ⟨⟨m + 1, hc⟩, ?_, Ent.to ?_ ?_⟩ <;> first | (show _ < _; (try simp only); omega) | (simp (disch:=omega) only [qR,qS,qT,qU,get,Nat.reduceEqDiff,↓reduceIte,qV,qW,qX,qY,qZ,and_self,dI,i64_in,and_true,true_and,rA,rB,rC,rD, sF,sB])
    all_goals first | exact ⟨.refl _, .refl _⟩ | exact .refl _
   ·have dm : ((m : Int) == 0) = false := by simp [hm0]
    simp only [if_neg hm0] at sF sB
    repeat' (first|(with_reducible first|apply qA|apply qB|apply qC|apply qD|apply qE|apply qF)|(refine DW.ord rfl (WF.of (by first|rfl|simp (disch:=omega) only [go_sem, simprocAttr, qN, qO, qP, qQ, hdi, dm])) ?_ ?_ ?_; rotate_left)|rfl|(with_reducible refine And.intro ?_ ?_)|(simp (disch:=omega) only [go_sem, simprocAttr, qN, qO, qP, qQ, hdi, dm])|exact qM rfl rfl rfl|(refine qG rfl ?_)|(refine qK (hp) (by decide) ?_)|(refine qH rfl ?_)|(refine qI rfl ?_ ?_<;>intro hc<;>(try simp only [go_sem] at hc))|(refine qJ ?_ ?_<;>intro hc<;>(try simp only [hc])<;>(try simp only [go_sem] at hc)))
    refine ⟨⟨m + 1, hc⟩, ?_, Ent.to ?_ ?_⟩ <;> first | (show _ < _; (try simp only); omega) | (simp (disch:=omega) only [qR,qS,qT,qU,get,Nat.reduceEqDiff,↓reduceIte,qV,qW,qX,qY,qZ,and_self,dI,i64_in,and_true,true_and,rA,rB,rC,rD, sF,sB])
    all_goals first | exact ⟨.refl _, .refl _⟩ | exact .refl _
 ·have hd : decide ((m : Int) < ((2 ^ q.length : Nat) : Int)) = false := decide_eq_false (by omega)
  have hw : IntKind.u64.wrap (q.length : Int) = (q.length : Int) := IntWalk.u64_in _ (by omega)
  have hme : m = 2 ^ q.length := by omega
  rw [← hme] at hF hB
  rw [hF, hB]
  unfold prtF
  generalize sumM (fun m x => loW x (cF l m)) 0 q = A1 at *
  generalize sumM (fun m x => hiW x (cF l m)) 0 q = A2 at *
  generalize sumM (fun m x => loW x (cB l m)) 0 q = A3 at *
  generalize sumM (fun m x => hiW x (cB l m)) 0 q = A4 at *
  generalize 2 ^ q.length = T at *
  repeat' (first|(with_reducible first|apply qA|apply qB|apply qC|apply qD|apply qE|apply qF)|(refine DW.ord rfl (WF.of (by first|rfl|simp (disch:=omega) only [go_sem, simprocAttr, qN, qO, qP, qQ, hd, hsh, hu, ud3, hw])) ?_ ?_ ?_; rotate_left)|rfl|(with_reducible refine And.intro ?_ ?_)|(simp (disch:=omega) only [go_sem, simprocAttr, qN, qO, qP, qQ, hd, hsh, hu, ud3, hw])|exact qM rfl rfl rfl|(refine qG rfl ?_)|(refine qH rfl ?_)|(refine qI rfl ?_ ?_<;>intro hc<;>(try simp only [go_sem] at hc))|(refine qJ ?_ ?_<;>intro hc<;>(try simp only [hc])<;>(try simp only [go_sem] at hc)))
set_option maxHeartbeats 4000000 in
theorem reBears (lab : Bool) (l : PLy) (q : List PIt) (h : LorOk l q) : DCall Try.prog 84 [lyrD l, itsD lab q] [] (bD (bearB l q)) [] := by
 have hE := reEnds lab l q h
 have hb := prt_b h
 have hax := h.ly.ax
 have hll := h.ly.lg
 have hfm := h.ly.fm
 have hbm := h.ly.bm
 have m1 := mul_abs (a := l.fm) (b := 2 * (l.bk - l.fr)) (A := 40000000) (B := 10000) (by omega) (by omega)
 have m2 := mul_abs (a := l.bm) (b := 2 * (l.bk - l.fr)) (A := 40000000) (B := 10000) (by omega) (by omega)
 have w1 : IntKind.i64.wrap (l.fm * (2 * (l.bk - l.fr))) = l.fm * (2 * (l.bk - l.fr)) := IntWalk.i64_in _ (by omega)
 have w2 : IntKind.i64.wrap (l.bm * (2 * (l.bk - l.fr))) = l.bm * (2 * (l.bk - l.fr)) := IntWalk.i64_in _ (by omega)
 unfold bearB
 generalize prtF l q = R at *
 obtain ⟨fl, fh, bl, bh⟩ := R
 dsimp only
 refine DCall.of Try.func84 sf84 hb84 (Nat.le_of_ble_eq_true rfl) (okRes_nil fun _ => rfl) ?_; simp only [s84, idxs, Nat.reduceAdd]
 repeat' (first|(with_reducible first|apply qA|apply qB|apply qC|apply qD|apply qE|apply qF)|(simp (disch:=omega) only [go_sem, simprocAttr, qN, qO, qP, qQ, w1, w2])|exact qM rfl rfl rfl|(refine qG rfl ?_)|(refine qK (hE) (by decide) ?_)|(refine qH rfl ?_)|(refine qI rfl ?_ ?_<;>intro hc<;>(try simp only [go_sem] at hc))|(refine qJ ?_ ?_<;>intro hc<;>(try simp only [hc])<;>(try simp only [go_sem] at hc)))
 all_goals trace_state
end Go.Dw.Seat
end
section
set_option linter.unusedSimpArgs false
set_option maxRecDepth 100000
namespace Go.Dw.Seat
open Go Go.Dw Go.Proofs Go.IntWalk
def cellsB (u : List Bool) : List D := u.map fun x => bD x
theorem cellsB_get {u : List Bool} {m i : Nat} (h : i < u.length) : (cellsB u ++ tops m)[i]? = some (bD (u.getD i true)) := by
 rw [List.getElem?_append_left (by simpa [cellsB] using h)]
 simp [cellsB, List.getD_eq_getElem?_getD, h]
theorem cellsB_spl {u : List Bool} {m i : Nat} (h : i < u.length) (v : Bool) : List.take i (cellsB u ++ tops m) ++ [D.c (.v (.bool v))] ++ List.drop (i + 1) (cellsB u ++ tops m) = cellsB (u.set i v) ++ tops m := by
 have h1 : i < (cellsB u).length := by simpa [cellsB] using h
 rw [List.take_append_of_le_length (by omega), List.drop_append_of_le_length (by omega), ← List.append_assoc]
 congr 1
 rw [cellsB, cellsB, List.map_set, List.set_eq_take_append_cons_drop, if_pos (by simpa using h)]
 simp
 rfl
theorem cellsB_len (u : List Bool) (m : Nat) : (cellsB u ++ tops m).length = u.length + m := by simp [cellsB, tops]
theorem cellsB_men (j : Nat) (u : List Bool) (m : Nat) : D.mens j (cellsB u ++ tops m) = false := by
 induction u with
 | nil => exact cells_men j [] m
 | cons x u ih => simpa [cellsB, D.mens, D.men, bD] using ih
theorem cellsB_nb (u : List Bool) (m : Nat) : D.nbs (cellsB u ++ tops m) = true := by
 induction u with
 | nil => exact cells_nb [] m
 | cons x u ih => simp only [cellsB, List.map_cons, List.cons_append, D.nbs, Bool.and_eq_true]; exact ⟨rfl, ih⟩
theorem cellsB_keys (bx : List (Nat × Blk)) (u : List Bool) (m : Nat) : D.keysIns bx (cellsB u ++ tops m) = true := by
 induction u with
 | nil => exact cells_keys bx [] m
 | cons x u ih => simpa [cellsB, D.keysIns, D.keysIn, bD] using ih
theorem killB_cellsB (k l : Nat) (u : List Bool) (m : Nat) : killB k (.pbox l (cellsB u ++ tops m)) = .pbox l (cellsB u ++ tops m) := by
 show Blk.pbox l ((cellsB u ++ tops m).map (killD k)) = _
 congr 1
 have h := cellsB_men k u m
 generalize cellsB u ++ tops m = ds at *
 induction ds with
 | nil => rfl
 | cons d ds ih =>
  simp only [D.mens, Bool.or_eq_false_iff] at h
  rw [List.map_cons, killD_of h.1, ih h.2]
theorem relDs_cellsB (k : Nat) (x : Blk) (u : List Bool) (m : Nat) : relDs k x (cellsB u ++ tops m) = cellsB u ++ tops m := relDs_of _ (cellsB_men k u m)
attribute [go_sem] cellsB_men cellsB_keys bk_pbx bm_pbx killB_cellsB relDs_cellsB
theorem set_back {u : List Bool} {i : Nat} (h : u.getD i true = false) : (u.set i true).set i false = u := by
 rw [List.set_set]
 apply List.ext_getElem?
 intro j
 rw [List.getElem?_set]
 by_cases h1 : i = j
 ·subst h1
  rw [if_pos rfl]
  rw [List.getD_eq_getElem?_getD] at h
  split
  ·rename_i h2
   rw [List.getElem?_eq_getElem h2] at h ⊢
   simp at h ⊢
   exact h
  ·rename_i h2
   rw [List.getElem?_eq_none (by omega)]
 ·rw [if_neg h1]
abbrev usB (lu : Nat) (u : List Bool) (m : Nat) : Nat × Blk := (9, .pbox lu (cellsB u ++ tops m))
theorem usB_ok (r : D) (hr : ∀ k, r.men k = false) (l : Nat) (u : List Bool) (m : Nat) : okRes r [usB l u m] := by
 refine ⟨fun k _ => hr k, fun j x hj i _ => ?_⟩
 simp only [get] at hj
 split at hj
 ·cases hj; exact cellsB_men i u m
 ·cases hj
theorem usB_nb (l : Nat) (u : List Bool) (m : Nat) {j : Nat} {x : Blk} (hk : get j [usB l u m] = some x) : j = 9 ∧ x = .pbox l (cellsB u ++ tops m) ∧ x.nb = true := by
 simp only [get] at hk
 split at hk
 ·rename_i e; cases hk; exact ⟨e, rfl, cellsB_nb u m⟩
 ·cases hk
def oRD (f : Nat) (bg : List Int) : Option (List Int) → D
 | some o => .tup [dIs false o, bD true]
 | none => .tup [if f = 0 then dIs false bg else .c (.v (.slice none 0 0)), bD false]
theorem oRD_men (f : Nat) (bg : List Int) (F : Option (List Int)) (k : Nat) : (oRD f bg F).men k = false := by
 unfold oRD
 split
 ·rfl
 ·split <;> rfl
def oB (l : PLy) (q : List PIt) (e : List Int) : Bool := bearB l (pkI q e)
def OrdC (l : PLy) (q : List PIt) (lab : Bool) (f : Nat) : Prop := ∀ (u : List Bool) (bg : List Int), u.length = q.length → bg.length + f = q.length → (∀ x ∈ bg, 0 ≤ x ∧ x < (q.length : Int)) → (∀ t ∈ allU q.length f u, LorOk l (pkI q (bg ++ t))) → ∀ lu cap m, DCall Try.prog 34 [lyrD l, itsD lab q, dIs false bg, .c (.v (.slice (some ⟨lu, 0, none⟩) q.length cap))] [usB lu u m] (oRD f bg (dfsF q.length (oB l q) f u bg)) [usB lu u m]
set_option maxHeartbeats 4000000 in
theorem reOrd0 (l : PLy) (q : List PIt) (hq7 : q.length ≤ 7) (lab : Bool) : OrdC l q lab 0 := by
 intro u bg hu hbl hbg hgood lu cap m
 have hL := hgood [] (by rw [allU]; exact List.mem_singleton.2 rfl)
 rw [List.append_nil] at hL
 have hbr := reBears true l (pkI q bg) hL
 have hD : oRD 0 bg (dfsF q.length (oB l q) 0 u bg) = .tup [dIs false bg, bD (oB l q bg)] := by
  unfold dfsF
  cases oB l q bg <;> rfl
 rw [hD]
 unfold oB
 generalize bearB l (pkI q bg) = B at *
 have hqe : ((bg.length : Int) == (q.length : Int)) = true := by rw [← hbl]; simp
 refine DCall.of Try.func34 sf34 hb34 (Nat.le_of_ble_eq_true rfl) (usB_ok _ (fun _ => rfl) _ _ _) ?_
 simp only [s34, o34_0, o34_1, o34_2, o34_3, o34_4, o34_5, o34_6, o34_7, o34_8, o34_9, o34_10, o34_11, o34_12, o34_13, idxs, Nat.reduceAdd]
 repeat' (first|(with_reducible first|apply qA|apply qB|apply qC|apply qD|apply qE|apply qF)|(refine DW.ord rfl (WF.of (by first|rfl|simp (disch:=omega) only [go_sem, simprocAttr, qN, qO, qP, qQ, hqe])) ?_ ?_ ?_; rotate_left)|rfl|(with_reducible refine And.intro ?_ ?_)|(simp (disch:=omega) only [go_sem, simprocAttr, qN, qO, qP, qQ, hqe])|exact qM rfl rfl rfl|(refine qG rfl ?_)|(refine qH rfl ?_)|(refine qI rfl ?_ ?_<;>intro hc<;>(try simp only [go_sem] at hc))|(refine qJ ?_ ?_<;>intro hc<;>(try simp only [hc])<;>(try simp only [go_sem] at hc)))
 refine DW.loop (ι := { i : Nat // i ≤ bg.length }) (fun i => ⟨72, [(11, dI i.1), (10, .own 20), (4, .box 4 0), (2, dIs false bg), (1, itsD lab q)], [(20, .row 3 (rowC (rows eIt (pkI q (bg.take i.1))))), usB lu u m, (4, .box (lyL l))]⟩) (fun i => bg.length - i.1) ⟨0, Nat.zero_le _⟩ ?_ ?_
 ·refine Ent.to ?_ ?_ <;> simp (disch:=omega) only [qR,qS,qT,qU,get,Nat.reduceEqDiff,↓reduceIte,qV,qW,qX,qY,qZ,and_self,dI,i64_in,and_true,true_and,rA,rB,rC,rD,pkI,List.take_zero,rG]
  all_goals first | exact ⟨.refl _, .refl _, .refl _⟩ | exact ⟨.refl _, .refl _⟩ | exact .refl _
 rintro ⟨i, hi⟩
 dsimp only
 rcases at_or bg i hi with ⟨x, hx, hlt, hd⟩ | ⟨he, hd⟩
 ·have hxb := hbg x (List.mem_of_getElem? hx)
  obtain ⟨n, rfl⟩ : ∃ n : Nat, x = (n : Int) := ⟨x.toNat, by omega⟩
  have hnq : n < q.length := by omega
  obtain ⟨y, hy⟩ := getE (l := q) hnq
  have htk : pkI q (bg.take (i + 1)) = pkI q (bg.take i) ++ [y] := by
   have h1 : bg.take (i + 1) = bg.take i ++ [(n : Int)] := by rw [List.take_add_one, hx]; rfl
   rw [h1, pkI, List.map_append, pkI]
   simp [List.getD_eq_getElem?_getD, hy]
  have hnq' : (n < q.length) = True := eq_true hnq
  have hpl : (pkI q (bg.take i)).length ≤ 10 := by rw [pkI, List.length_map, List.length_take]; omega
  have hsn := rowC_snocIt (pkI q (bg.take i)) y
  generalize pkI q (bg.take i) = A at *
  repeat' (first|(with_reducible first|apply qA|apply qB|apply qC|apply qD|apply qE|apply qF)|(refine DW.ord rfl (WF.of (by first|rfl|simp (disch:=omega) only [go_sem, simprocAttr, qN, qO, qP, qQ, hd, hx, hy, hnq', hsn, rF, rG])) ?_ ?_ ?_; rotate_left)|rfl|(with_reducible refine And.intro ?_ ?_)|(simp (disch:=omega) only [go_sem, simprocAttr, qN, qO, qP, qQ, hd, hx, hy, hnq', hsn, rF, rG])|exact qM rfl rfl rfl|(refine qG rfl ?_)|(refine qH rfl ?_)|(refine qI rfl ?_ ?_<;>intro hc<;>(try simp only [go_sem] at hc))|(refine qJ ?_ ?_<;>intro hc<;>(try simp only [hc])<;>(try simp only [go_sem] at hc)))
  refine ⟨⟨i + 1, hlt⟩, ?_, Ent.to ?_ ?_⟩ <;> first | (show _ < _; (try simp only); omega) | (simp (disch:=omega) only [qR,qS,qT,qU,get,Nat.reduceEqDiff,↓reduceIte,qV,qW,qX,qY,qZ,and_self,dI,i64_in,and_true,true_and,rA,rB,rC,rD, htk,hsn])
  all_goals first | exact ⟨.refl _, .refl _, .refl _⟩ | exact ⟨.refl _, .refl _⟩ | exact .refl _
 ·have hti : bg.take i = bg := by rw [he, List.take_length]
  rw [hti]
  generalize pkI q bg = A at *
  repeat' (first|(with_reducible first|apply qA|apply qB|apply qC|apply qD|apply qE|apply qF)|(refine DW.ord rfl (WF.of (by first|rfl|simp (disch:=omega) only [go_sem, simprocAttr, qN, qO, qP, qQ, hd])) ?_ ?_ ?_; rotate_left)|rfl|(with_reducible refine And.intro ?_ ?_)|(simp (disch:=omega) only [go_sem, simprocAttr, qN, qO, qP, qQ, hd])|exact qM rfl rfl rfl|(refine qG rfl ?_)|(refine qK (hbr) (by decide) ?_)|(refine qH rfl ?_)|(refine qI rfl ?_ ?_<;>intro hc<;>(try simp only [go_sem] at hc))|(refine qJ ?_ ?_<;>intro hc<;>(try simp only [hc])<;>(try simp only [go_sem] at hc)))
  exact retS_bs rfl rfl (by simp only [List.all_cons, List.all_nil, Blk.nb, rowC_nb, D.nb, D.nbs, C.nb, C.nbs, C.nbss, rows_nb eI_nb, Bool.and_true, Bool.not_false, Bool.and_self, bD, dI, iD, rows_nb eIt_nb]) (fun j x hj => by
   obtain ⟨rfl, rfl, hn⟩ := usB_nb lu _ _ hj
   exact ⟨rfl, hn⟩)
theorem fsome_pre {α : Type} {g : Nat → Option α} {o : Option α} : ∀ {k i : Nat}, (∀ j, i ≤ j → j < i + k → g j = none) → fsome g i k = none
 | 0, i, _ => rfl
 | k + 1, i, h => by
  rw [fsome, h i (by omega) (by omega)]
  exact fsome_pre (o := o) (fun j h1 h2 => h j (by omega) (by omega))
theorem fsome_at {α : Type} {g : Nat → Option α} {x : α} : ∀ {k i j : Nat}, i ≤ j → j < i + k → (∀ t, i ≤ t → t < j → g t = none) → g j = some x → fsome g i k = some x
 | 0, i, j, h1, h2, _, _ => by omega
 | k + 1, i, j, h1, h2, h3, h4 => by
  rw [fsome]
  rcases Nat.lt_or_ge i j with h | h
  ·rw [h3 i (by omega) h]
   exact fsome_at (by omega) (by omega) (fun t h5 h6 => h3 t (by omega) h6) h4
  ·rw [show i = j by omega, h4]
set_option maxHeartbeats 8000000 in
theorem reOrd1 (l : PLy) (q : List PIt) (hq7 : q.length ≤ 7) (lab : Bool) (f : Nat) (ih : OrdC l q lab f) : OrdC l q lab (f + 1) := by
 intro u bg hu hbl hbg hgood lu cap m
 obtain ⟨g, hg⟩ : ∃ g : Nat → Option (List Int), g = fun i => if u.getD i true then none else dfsF q.length (oB l q) f (u.set i true) (bg ++ [(i : Int)]) := ⟨_, rfl⟩
 have hD : dfsF q.length (oB l q) (f + 1) u bg = fsome g 0 q.length := by rw [dfsF, hg]
 rw [hD]
 have hqe : ((bg.length : Int) == (q.length : Int)) = false := by rw [beq_eq_false_iff_ne]; omega
 refine DCall.of Try.func34 sf34 hb34 (Nat.le_of_ble_eq_true rfl) (usB_ok _ (oRD_men _ _ _) _ _ _) ?_
 simp only [s34, o34_0, o34_1, o34_2, o34_3, o34_4, o34_5, o34_6, o34_7, o34_8, o34_9, o34_10, o34_11, o34_12, o34_13, idxs, Nat.reduceAdd]
 repeat' (first|(with_reducible first|apply qA|apply qB|apply qC|apply qD|apply qE|apply qF)|(refine DW.ord rfl (WF.of (by first|rfl|simp (disch:=omega) only [go_sem, simprocAttr, qN, qO, qP, qQ, hqe])) ?_ ?_ ?_; rotate_left)|rfl|(with_reducible refine And.intro ?_ ?_)|(simp (disch:=omega) only [go_sem, simprocAttr, qN, qO, qP, qQ, hqe])|exact qM rfl rfl rfl|(refine qG rfl ?_)|(refine qH rfl ?_)|(refine qI rfl ?_ ?_<;>intro hc<;>(try simp only [go_sem] at hc))|(refine qJ ?_ ?_<;>intro hc<;>(try simp only [hc])<;>(try simp only [go_sem] at hc)))
 refine DW.loop (ι := { i : Nat // i ≤ q.length ∧ ∀ j, 0 ≤ j → j < i → g j = none }) (fun i => ⟨72, [(12, dI i.1), (4, .box 4 0), (3, .c (.v (.slice (some ⟨lu, 0, none⟩) q.length cap))), (2, dIs false bg), (1, itsD lab q)], [usB lu u m, (4, .box (lyL l))]⟩) (fun i => q.length - i.1) ⟨0, Nat.zero_le _, fun j _ h => by omega⟩ ?_ ?_
 ·refine Ent.to ?_ ?_ <;> simp (disch:=omega) only [qR,qS,qT,qU,get,Nat.reduceEqDiff,↓reduceIte,qV,qW,qX,qY,qZ,and_self,dI,i64_in,and_true,true_and,rA,rB,rC,rD]
  all_goals first | exact ⟨.refl _, .refl _, .refl _⟩ | exact ⟨.refl _, .refl _⟩ | exact .refl _
 rintro ⟨i, hi, hnone⟩
 dsimp only
 rcases Nat.lt_or_ge i q.length with hlt | hge
 ·have hd : decide ((i : Int) < (q.length : Int)) = true := decide_eq_true (by omega)
  have hin : (i < q.length) = True := eq_true hlt
  have hiu : i < u.length := by omega
  have hus := cellsB_get (m := m) hiu
  have hulen := cellsB_len u m
  have hgi : g i = if u.getD i true then none else dfsF q.length (oB l q) f (u.set i true) (bg ++ [(i : Int)]) := by rw [hg]
  cases hb : u.getD i true with
  | true =>
   rw [hb, if_pos rfl] at hgi
   rw [hb] at hus
   have hnx : ∀ j, 0 ≤ j → j < i + 1 → g j = none := fun j h0 hj => by
    rcases Nat.lt_or_ge j i with h1 | h1
    ·exact hnone j h0 h1
    ·obtain rfl : j = i := by omega
     exact hgi
   repeat' (first|(with_reducible first|apply qA|apply qB|apply qC|apply qD|apply qE|apply qF)|(refine DW.ord rfl (WF.of (by first|rfl|simp (disch:=omega) only [go_sem, simprocAttr, qN, qO, qP, qQ, hd, hin, hus, Nat.mul_one])) ?_ ?_ ?_; rotate_left)|rfl|(with_reducible refine And.intro ?_ ?_)|(simp (disch:=omega) only [go_sem, simprocAttr, qN, qO, qP, qQ, hd, hin, hus, Nat.mul_one])|exact qM rfl rfl rfl|(refine qG rfl ?_)|(refine qH rfl ?_)|(refine qI rfl ?_ ?_<;>intro hc<;>(try simp only [go_sem] at hc))|(refine qJ ?_ ?_<;>intro hc<;>(try simp only [hc])<;>(try simp only [go_sem] at hc)))
   refine ⟨⟨i + 1, hlt, hnx⟩, ?_, Ent.to ?_ ?_⟩ <;> first | (show _ < _; (try simp only); omega) | (simp (disch:=omega) only [qR,qS,qT,qU,get,Nat.reduceEqDiff,↓reduceIte,qV,qW,qX,qY,qZ,and_self,dI,i64_in,and_true,true_and,rA,rB,rC,rD])
   all_goals first | exact ⟨.refl _, .refl _, .refl _⟩ | exact ⟨.refl _, .refl _⟩ | exact .refl _
  | false =>
   rw [hb, if_neg Bool.false_ne_true] at hgi
   rw [hb] at hus
   have hset := cellsB_spl (m := m) hiu true
   have hset2 := cellsB_spl (u := u.set i true) (m := m) (i := i) (by rw [List.length_set]; exact hiu) false
   rw [set_back hb] at hset2
   have hulen2 := cellsB_len (u.set i true) m
   have hle : (i + 1 ≤ u.length + m) = True := eq_true (by omega)
   have hbl2 : bg.length ≤ 7 := by omega
   have hrec := ih (u.set i true) (bg ++ [(i : Int)]) (by rw [List.length_set]; exact hu) (by rw [List.length_append, List.length_singleton]; omega) (fun x hx => by
    rcases List.mem_append.1 hx with h1 | h1
    ·exact hbg x h1
    ·rw [List.mem_singleton] at h1; omega) (fun t ht => by
    rw [List.append_assoc, List.singleton_append]
    exact hgood _ (allU_step hlt hb ht)) lu cap m
   rw [← hgi] at hrec
   have hsn := rowC_snocI bg (i : Int)
   cases ho : g i with
   | some o =>
    rw [ho, oRD] at hrec
    have hfin : fsome g 0 q.length = some o := fsome_at (Nat.zero_le _) (by omega) hnone ho
    rw [hfin, oRD]
    repeat' (first|(with_reducible first|apply qA|apply qB|apply qC|apply qD|apply qE|apply qF)|(refine DW.ord rfl (WF.of (by first|rfl|simp (disch:=omega) only [go_sem, simprocAttr, qN, qO, qP, qQ, hd, hin, hus, hulen, hulen2, hle, hset, hset2, Nat.mul_one, hsn, List.length_set])) ?_ ?_ ?_; rotate_left)|rfl|(with_reducible refine And.intro ?_ ?_)|(simp (disch:=omega) only [go_sem, simprocAttr, qN, qO, qP, qQ, hd, hin, hus, hulen, hulen2, hle, hset, hset2, Nat.mul_one, hsn, List.length_set])|exact qM rfl rfl rfl|(refine qG rfl ?_)|(refine qH rfl ?_)|(refine qI rfl ?_ ?_<;>intro hc<;>(try simp only [go_sem] at hc))|(refine qJ ?_ ?_<;>intro hc<;>(try simp only [hc])<;>(try simp only [go_sem] at hc)))
    ·refine call_rel 57 rfl ?_
     simp (disch:=omega) only [go_sem,simprocAttr,qN,qO,qP,qQ]
     refine opsN.hk 9 hrec rfl rfl (by simp (disch:=omega) only [go_sem,simprocAttr,qN,qO,qP,qQ,del]) (by simp (disch:=omega) only [go_sem,simprocAttr,qN,qO,qP,qQ,del]) (by decide) ?_
     simp (disch:=omega) only [go_sem,simprocAttr,qN,qO,qP,qQ,del]
     repeat' (first|(with_reducible first|apply qA|apply qB|apply qC|apply qD|apply qE|apply qF)|(refine DW.ord rfl (WF.of (by first|rfl|simp (disch:=omega) only [go_sem, simprocAttr, qN, qO, qP, qQ, hd, hin, hus, hulen, hulen2, hle, hset, hset2, Nat.mul_one, hsn, List.length_set])) ?_ ?_ ?_; rotate_left)|rfl|(with_reducible refine And.intro ?_ ?_)|(simp (disch:=omega) only [go_sem, simprocAttr, qN, qO, qP, qQ, hd, hin, hus, hulen, hulen2, hle, hset, hset2, Nat.mul_one, hsn, List.length_set])|exact qM rfl rfl rfl|(refine qG rfl ?_)|(refine qH rfl ?_)|(refine qI rfl ?_ ?_<;>intro hc<;>(try simp only [go_sem] at hc))|(refine qJ ?_ ?_<;>intro hc<;>(try simp only [hc])<;>(try simp only [go_sem] at hc)))
    repeat' (first|(with_reducible first|apply qA|apply qB|apply qC|apply qD|apply qE|apply qF)|(refine DW.ord rfl (WF.of (by first|rfl|simp (disch:=omega) only [go_sem, simprocAttr, qN, qO, qP, qQ, hd, hin, hus, hulen, hulen2, hle, hset, hset2, Nat.mul_one, hsn, List.length_set])) ?_ ?_ ?_; rotate_left)|rfl|(with_reducible refine And.intro ?_ ?_)|(simp (disch:=omega) only [go_sem, simprocAttr, qN, qO, qP, qQ, hd, hin, hus, hulen, hulen2, hle, hset, hset2, Nat.mul_one, hsn, List.length_set])|exact qM rfl rfl rfl|(refine qG rfl ?_)|(refine qH rfl ?_)|(refine qI rfl ?_ ?_<;>intro hc<;>(try simp only [go_sem] at hc))|(refine qJ ?_ ?_<;>intro hc<;>(try simp only [hc])<;>(try simp only [go_sem] at hc)))
    exact retS_bs rfl rfl (by simp only [List.all_cons, List.all_nil, Blk.nb, rowC_nb, D.nb, D.nbs, C.nb, C.nbs, C.nbss, rows_nb eI_nb, Bool.and_true, Bool.not_false, Bool.and_self, bD, dI, iD, rows_nb eIt_nb]) (fun j x hj => by
     obtain ⟨rfl, rfl, hn⟩ := usB_nb lu _ _ hj
     exact ⟨rfl, hn⟩)
   | none =>
    have hnx : ∀ j, 0 ≤ j → j < i + 1 → g j = none := fun j h0 hj => by
     rcases Nat.lt_or_ge j i with h1 | h1
     ·exact hnone j h0 h1
     ·obtain rfl : j = i := by omega
      exact ho
    rw [ho, oRD] at hrec
    by_cases hf0 : f = 0
    ·rw [if_pos hf0] at hrec
     repeat' (first|(with_reducible first|apply qA|apply qB|apply qC|apply qD|apply qE|apply qF)|(refine DW.ord rfl (WF.of (by first|rfl|simp (disch:=omega) only [go_sem, simprocAttr, qN, qO, qP, qQ, hd, hin, hus, hulen, hulen2, hle, hset, hset2, Nat.mul_one, hsn, List.length_set])) ?_ ?_ ?_; rotate_left)|rfl|(with_reducible refine And.intro ?_ ?_)|(simp (disch:=omega) only [go_sem, simprocAttr, qN, qO, qP, qQ, hd, hin, hus, hulen, hulen2, hle, hset, hset2, Nat.mul_one, hsn, List.length_set])|exact qM rfl rfl rfl|(refine qG rfl ?_)|(refine qH rfl ?_)|(refine qI rfl ?_ ?_<;>intro hc<;>(try simp only [go_sem] at hc))|(refine qJ ?_ ?_<;>intro hc<;>(try simp only [hc])<;>(try simp only [go_sem] at hc)))
     ·refine call_rel 57 rfl ?_
      simp (disch:=omega) only [go_sem,simprocAttr,qN,qO,qP,qQ]
      refine opsN.hk 9 hrec rfl rfl (by simp (disch:=omega) only [go_sem,simprocAttr,qN,qO,qP,qQ,del]) (by simp (disch:=omega) only [go_sem,simprocAttr,qN,qO,qP,qQ,del]) (by decide) ?_
      simp (disch:=omega) only [go_sem,simprocAttr,qN,qO,qP,qQ,del]
      repeat' (first|(with_reducible first|apply qA|apply qB|apply qC|apply qD|apply qE|apply qF)|(refine DW.ord rfl (WF.of (by first|rfl|simp (disch:=omega) only [go_sem, simprocAttr, qN, qO, qP, qQ, hd, hin, hus, hulen, hulen2, hle, hset, hset2, Nat.mul_one, hsn, List.length_set])) ?_ ?_ ?_; rotate_left)|rfl|(with_reducible refine And.intro ?_ ?_)|(simp (disch:=omega) only [go_sem, simprocAttr, qN, qO, qP, qQ, hd, hin, hus, hulen, hulen2, hle, hset, hset2, Nat.mul_one, hsn, List.length_set])|exact qM rfl rfl rfl|(refine qG rfl ?_)|(refine qH rfl ?_)|(refine qI rfl ?_ ?_<;>intro hc<;>(try simp only [go_sem] at hc))|(refine qJ ?_ ?_<;>intro hc<;>(try simp only [hc])<;>(try simp only [go_sem] at hc)))
     repeat' (first|(with_reducible first|apply qA|apply qB|apply qC|apply qD|apply qE|apply qF)|(refine DW.ord rfl (WF.of (by first|rfl|simp (disch:=omega) only [go_sem, simprocAttr, qN, qO, qP, qQ, hd, hin, hus, hulen, hulen2, hle, hset, hset2, Nat.mul_one, hsn, List.length_set])) ?_ ?_ ?_; rotate_left)|rfl|(with_reducible refine And.intro ?_ ?_)|(simp (disch:=omega) only [go_sem, simprocAttr, qN, qO, qP, qQ, hd, hin, hus, hulen, hulen2, hle, hset, hset2, Nat.mul_one, hsn, List.length_set])|exact qM rfl rfl rfl|(refine qG rfl ?_)|(refine qH rfl ?_)|(refine qI rfl ?_ ?_<;>intro hc<;>(try simp only [go_sem] at hc))|(refine qJ ?_ ?_<;>intro hc<;>(try simp only [hc])<;>(try simp only [go_sem] at hc)))
     refine ⟨⟨i + 1, hlt, hnx⟩, ?_, Ent.to ?_ ?_⟩ <;> first | (show _ < _; (try simp only); omega) | (simp (disch:=omega) only [qR,qS,qT,qU,get,Nat.reduceEqDiff,↓reduceIte,qV,qW,qX,qY,qZ,and_self,dI,i64_in,and_true,true_and,rA,rB,rC,rD])
     all_goals first | exact ⟨.refl _, .refl _, .refl _⟩ | exact ⟨.refl _, .refl _⟩ | exact .refl _
    ·rw [if_neg hf0] at hrec
     repeat' (first|(with_reducible first|apply qA|apply qB|apply qC|apply qD|apply qE|apply qF)|(refine DW.ord rfl (WF.of (by first|rfl|simp (disch:=omega) only [go_sem, simprocAttr, qN, qO, qP, qQ, hd, hin, hus, hulen, hulen2, hle, hset, hset2, Nat.mul_one, hsn, List.length_set])) ?_ ?_ ?_; rotate_left)|rfl|(with_reducible refine And.intro ?_ ?_)|(simp (disch:=omega) only [go_sem, simprocAttr, qN, qO, qP, qQ, hd, hin, hus, hulen, hulen2, hle, hset, hset2, Nat.mul_one, hsn, List.length_set])|exact qM rfl rfl rfl|(refine qG rfl ?_)|(refine qH rfl ?_)|(refine qI rfl ?_ ?_<;>intro hc<;>(try simp only [go_sem] at hc))|(refine qJ ?_ ?_<;>intro hc<;>(try simp only [hc])<;>(try simp only [go_sem] at hc)))
     ·refine call_rel 57 rfl ?_
      simp (disch:=omega) only [go_sem,simprocAttr,qN,qO,qP,qQ]
      refine opsN.hk 9 hrec rfl rfl (by simp (disch:=omega) only [go_sem,simprocAttr,qN,qO,qP,qQ,del]) (by simp (disch:=omega) only [go_sem,simprocAttr,qN,qO,qP,qQ,del]) (by decide) ?_
      simp (disch:=omega) only [go_sem,simprocAttr,qN,qO,qP,qQ,del]
      repeat' (first|(with_reducible first|apply qA|apply qB|apply qC|apply qD|apply qE|apply qF)|(refine DW.ord rfl (WF.of (by first|rfl|simp (disch:=omega) only [go_sem, simprocAttr, qN, qO, qP, qQ, hd, hin, hus, hulen, hulen2, hle, hset, hset2, Nat.mul_one, hsn, List.length_set])) ?_ ?_ ?_; rotate_left)|rfl|(with_reducible refine And.intro ?_ ?_)|(simp (disch:=omega) only [go_sem, simprocAttr, qN, qO, qP, qQ, hd, hin, hus, hulen, hulen2, hle, hset, hset2, Nat.mul_one, hsn, List.length_set])|exact qM rfl rfl rfl|(refine qG rfl ?_)|(refine qH rfl ?_)|(refine qI rfl ?_ ?_<;>intro hc<;>(try simp only [go_sem] at hc))|(refine qJ ?_ ?_<;>intro hc<;>(try simp only [hc])<;>(try simp only [go_sem] at hc)))
     repeat' (first|(with_reducible first|apply qA|apply qB|apply qC|apply qD|apply qE|apply qF)|(refine DW.ord rfl (WF.of (by first|rfl|simp (disch:=omega) only [go_sem, simprocAttr, qN, qO, qP, qQ, hd, hin, hus, hulen, hulen2, hle, hset, hset2, Nat.mul_one, hsn, List.length_set])) ?_ ?_ ?_; rotate_left)|rfl|(with_reducible refine And.intro ?_ ?_)|(simp (disch:=omega) only [go_sem, simprocAttr, qN, qO, qP, qQ, hd, hin, hus, hulen, hulen2, hle, hset, hset2, Nat.mul_one, hsn, List.length_set])|exact qM rfl rfl rfl|(refine qG rfl ?_)|(refine qH rfl ?_)|(refine qI rfl ?_ ?_<;>intro hc<;>(try simp only [go_sem] at hc))|(refine qJ ?_ ?_<;>intro hc<;>(try simp only [hc])<;>(try simp only [go_sem] at hc)))
     refine ⟨⟨i + 1, hlt, hnx⟩, ?_, Ent.to ?_ ?_⟩ <;> first | (show _ < _; (try simp only); omega) | (simp (disch:=omega) only [qR,qS,qT,qU,get,Nat.reduceEqDiff,↓reduceIte,qV,qW,qX,qY,qZ,and_self,dI,i64_in,and_true,true_and,rA,rB,rC,rD])
     all_goals first | exact ⟨.refl _, .refl _, .refl _⟩ | exact ⟨.refl _, .refl _⟩ | exact .refl _
 ·have hd : decide ((i : Int) < (q.length : Int)) = false := decide_eq_false (by omega)
  have hfin : fsome g 0 q.length = none := fsome_pre (o := none) (fun j h0 hj => hnone j h0 (by omega))
  rw [hfin, oRD, if_neg (by omega)]
  repeat' (first|(with_reducible first|apply qA|apply qB|apply qC|apply qD|apply qE|apply qF)|(refine DW.ord rfl (WF.of (by first|rfl|simp (disch:=omega) only [go_sem, simprocAttr, qN, qO, qP, qQ, hd])) ?_ ?_ ?_; rotate_left)|rfl|(with_reducible refine And.intro ?_ ?_)|(simp (disch:=omega) only [go_sem, simprocAttr, qN, qO, qP, qQ, hd])|exact qM rfl rfl rfl|(refine qG rfl ?_)|(refine qH rfl ?_)|(refine qI rfl ?_ ?_<;>intro hc<;>(try simp only [go_sem] at hc))|(refine qJ ?_ ?_<;>intro hc<;>(try simp only [hc])<;>(try simp only [go_sem] at hc)))
  exact retS_bs rfl rfl (by simp only [List.all_cons, List.all_nil, Blk.nb, rowC_nb, D.nb, D.nbs, C.nb, C.nbs, C.nbss, rows_nb eI_nb, Bool.and_true, Bool.not_false, Bool.and_self, bD, dI, iD, rows_nb eIt_nb]) (fun j x hj => by
   obtain ⟨rfl, rfl, hn⟩ := usB_nb lu _ _ hj
   exact ⟨rfl, hn⟩)
end Go.Dw.Seat
end
section
set_option linter.unusedSimpArgs false
set_option maxRecDepth 100000
namespace Go.Dw.Seat
open Go Go.Dw Go.Proofs Go.IntWalk
theorem cells_fal (n m : Nat) : (rowC (rows eB (u0 n))).flatten ++ List.replicate m D.top = cellsB (u0 n) ++ tops m := by
 congr 1
 unfold u0
 induction n with
 | zero => rfl
 | succ n ih => rw [List.replicate_succ, rows_cons, ← rowC_cons, List.flatten_cons, ih]; rfl
theorem fal_men (j n : Nat) : D.mens j (rowC (rows eB (u0 n))).flatten = false := by
 have := cellsB_men j (u0 n) 0
 have h := cells_fal n 0
 rw [tops, List.replicate_zero, List.append_nil] at this
 rw [List.replicate_zero, List.append_nil, tops, List.replicate_zero, List.append_nil] at h
 rw [h]; exact this
theorem reOrdC (l : PLy) (q : List PIt) (hq7 : q.length ≤ 7) (lab : Bool) : ∀ f, OrdC l q lab f
 | 0 => reOrd0 l q hq7 lab
 | f + 1 => reOrd1 l q hq7 lab f (reOrdC l q hq7 lab f)
theorem reOrdT (l : PLy) (q : List PIt) (h : LorOk l q) (h6 : q.length ≤ 6) (hne : q ≠ []) (lab : Bool) (j : Nat) :
  DCall Try.prog 34 [lyrD l, itsD lab q, .c (.v (.slice none 0 0)), .own j] [(j, .row 1 (rowC (rows eB (u0 q.length))))] (oRD q.length [] (dfsF q.length (oB l q) q.length (u0 q.length) [])) [] := by
 refine DCall.lend (pre := [lyrD l, itsD lab q, .c (.v (.slice none 0 0))]) 9 ?_ (oRD_men _ _ _) (fun _ => rfl) (fun j => fal_men j _) (fun lu cap m => ?_)
 ·cases q with
  | nil => exact absurd rfl hne
  | cons a l => intro e; cases e
 ·rw [cells_fal, rowC_length]
  have hl : (rows eB (u0 q.length)).length = q.length := by simp [rows, u0]
  rw [hl]
  have hg := go_all ⟨q.length, by omega⟩
  dsimp only at hg
  have hperm := List.all_eq_true.1 (go_perm ⟨q.length, by omega⟩)
  refine ⟨_, (reOrdC l q h.len lab q.length (u0 q.length) [] (by simp [u0]) (by simp) (fun x hx => by cases hx) (fun t ht => by
   rw [← hg] at ht
   rw [List.nil_append]
   exact pk_ok h (hperm t ht)) lu cap m).weakA ?_⟩
  refine .cons (.inl rfl) (.cons (.inl rfl) (.cons (.inr ⟨_, _, rfl, rfl, .nil false 1⟩) (.cons (.inl rfl) .nil)))
theorem find_ext {α : Type} {p r : α → Bool} : ∀ {l : List α}, (∀ x ∈ l, p x = r x) → l.find? p = l.find? r
 | [], _ => rfl
 | a :: l, h => by
  rw [List.find?_cons, List.find?_cons, h a (by simp), find_ext (fun x hx => h x (by simp [hx]))]
theorem find_same {l : PLy} {q : List PIt} (h : LorOk l q) (h6 : q.length ≤ 6) : dfsF q.length (oB l q) q.length (u0 q.length) [] = findO l q := by
 have hg := go_all ⟨q.length, by omega⟩
 dsimp only at hg
 have hperm := List.all_eq_true.1 (go_perm ⟨q.length, by omega⟩)
 rw [dfs_all, ← hg, findO]
 rw [show (goP 721 (upN q.length)).map (([] : List Int) ++ ·) = goP 721 (upN q.length) by simp]
 exact find_ext fun e he => by
  unfold oB
  rw [bearX_eq (pk_ok h (hperm e he))]
theorem find_len {l : PLy} {q : List PIt} (h6 : q.length ≤ 6) {e : List Int} (he : findO l q = some e) : e.length = q.length ∧ ∀ x ∈ e, 0 ≤ x ∧ x < (q.length : Int) := by
 have hperm := List.all_eq_true.1 (go_perm ⟨q.length, by omega⟩)
 exact pk_mem (hperm e (List.mem_of_find?_eq_some he))
set_option maxHeartbeats 4000000 in
theorem reOrdE (l : PLy) (h : LorOk l []) (lab b : Bool) : DCall Try.prog 34 [lyrD l, itsD lab [], .c (.v (.slice none 0 0)), .c (.sl b 1 [])] [] (.tup [.c (.v (.slice none 0 0)), bD (bearB l [])]) [] := by
 have hbr := reBears true l [] h
 generalize bearB l [] = B at *
 refine DCall.of Try.func34 sf34 hb34 (Nat.le_of_ble_eq_true rfl) (okRes_nil fun _ => rfl) ?_; simp only [s34, o34_0, o34_1, o34_2, o34_3, o34_4, o34_5, o34_6, o34_7, o34_8, o34_9, o34_10, o34_11, o34_12, o34_13, idxs, Nat.reduceAdd]
 repeat' (first|(with_reducible first|apply qA|apply qB|apply qC|apply qD|apply qE|apply qF)|(refine DW.ord rfl (WF.of (by first|rfl|simp (disch:=omega) only [go_sem, simprocAttr, qN, qO, qP, qQ])) ?_ ?_ ?_; rotate_left)|rfl|(with_reducible refine And.intro ?_ ?_)|(simp (disch:=omega) only [go_sem, simprocAttr, qN, qO, qP, qQ])|exact qM rfl rfl rfl|(refine qG rfl ?_)|(refine qH rfl ?_)|(refine qI rfl ?_ ?_<;>intro hc<;>(try simp only [go_sem] at hc))|(refine qJ ?_ ?_<;>intro hc<;>(try simp only [hc])<;>(try simp only [go_sem] at hc)))
 refine DW.loop (ι := Unit) (fun _ => ⟨72, [(11, dI 0), (10, .own 20), (4, .box 4 0), (2, .c (.v (.slice none 0 0)))], [(20, .row 3 []), (4, .box (lyL l))]⟩) (fun _ => 0) () ?_ ?_
 ·refine Ent.to ?_ ?_ <;> simp (disch:=omega) only [qR,qS,qT,qU,get,Nat.reduceEqDiff,↓reduceIte,qV,qW,qX,qY,qZ,and_self,dI,i64_in,and_true,true_and,rA,rB,rC,rD]
  all_goals first | exact ⟨.refl _, .refl _, .refl _⟩ | exact ⟨.refl _, .refl _⟩ | exact .refl _
 intro _
 repeat' (first|(with_reducible first|apply qA|apply qB|apply qC|apply qD|apply qE|apply qF)|(refine DW.ord rfl (WF.of (by first|rfl|simp (disch:=omega) only [go_sem, simprocAttr, qN, qO, qP, qQ])) ?_ ?_ ?_; rotate_left)|rfl|(with_reducible refine And.intro ?_ ?_)|(simp (disch:=omega) only [go_sem, simprocAttr, qN, qO, qP, qQ])|exact qM rfl rfl rfl|(refine qG rfl ?_)|(refine qK (hbr) (by decide) ?_)|(refine qH rfl ?_)|(refine qI rfl ?_ ?_<;>intro hc<;>(try simp only [go_sem] at hc))|(refine qJ ?_ ?_<;>intro hc<;>(try simp only [hc])<;>(try simp only [go_sem] at hc)))
theorem repl_u0 (n : Nat) : List.replicate n [C.v (.bool false)] = rows eB (u0 n) := by simp [rows, eB, u0]
set_option maxHeartbeats 4000000 in
theorem laOrders (l : PLy) (q : List PIt) (hm : q.length ≤ maxLen) : DCall Try.prog 6 [lyrD l, itsD false q] [] (bD true) [] := by
 have hk := laKnown
 have h4 := reLorry false l q hm
 by_cases h20 : (20 : Int) < (q.length : Int)
 ·have d : decide ((20 : Int) < (q.length : Int)) = true := decide_eq_true h20
  have hm : q.length ≤ 9223372036854775807 := hm
  refine DCall.of Try.func6 sf6 hb6 (Nat.le_of_ble_eq_true rfl) (okRes_nil fun _ => rfl) ?_; simp only [s6, idxs, Nat.reduceAdd]
  repeat' (first|(with_reducible first|apply qA|apply qB|apply qC|apply qD|apply qE|apply qF)|(refine DW.regL rfl (WF.of ?_) ?_; first|rfl|skip)|(simp (disch:=omega) only [go_sem, simprocAttr, qN, qO, qP, qQ, d])|exact qM rfl rfl rfl|(refine qG rfl ?_)|(refine qK (h4) (by decide) ?_)|(refine qK (hk) (by decide) ?_)|(refine qH rfl ?_)|(refine qI rfl ?_ ?_<;>intro hc<;>(try simp only [go_sem] at hc))|(refine qJ ?_ ?_<;>intro hc<;>(try simp only [hc])<;>(try simp only [go_sem] at hc)))
 have d : decide ((20 : Int) < (q.length : Int)) = false := decide_eq_false h20
 have hq : q.length ≤ 2 ^ 36 := by omega
 have h1 := laOurs false q hq
 have h3 := reItems false false q q hq hq true (sameY rfl rfl)
 by_cases he : lorE l q = 0
 case neg =>
  have h2 := plOrder l q hq (fun h => absurd h he)
  rw [ordD, if_neg he] at h2
  generalize lorE l q = e at *
  have hd : (e == 0) = false := by simpa using he
  have be : (e == e) = true := by simp
  refine DCall.of Try.func6 sf6 hb6 (Nat.le_of_ble_eq_true rfl) (okRes_nil fun _ => rfl) ?_; simp only [s6, idxs, Nat.reduceAdd]
  repeat' (first|(with_reducible first|apply qA|apply qB|apply qC|apply qD|apply qE|apply qF)|(refine DW.regL rfl (WF.of ?_) ?_; first|rfl|skip)|(simp (disch:=omega) only [go_sem, simprocAttr, qN, qO, qP, qQ, d, hd, be, Bool.and_self])|exact qM rfl rfl rfl|(refine qG rfl ?_)|(refine qK (h1) (by decide) ?_)|(refine qK (h2) (by decide) ?_)|(refine qK (h3) (by decide) ?_)|(refine qK (h4) (by decide) ?_)|(refine qK (hk) (by decide) ?_)|(refine qH rfl ?_)|(refine qI rfl ?_ ?_<;>intro hc<;>(try simp only [go_sem] at hc))|(refine qJ ?_ ?_<;>intro hc<;>(try simp only [hc])<;>(try simp only [go_sem] at hc)))
 have hL := lor_iff.1 he
 rw [he] at h4
 by_cases h5 : (5 : Int) < (q.length : Int)
 ·have d5 : decide ((5 : Int) < (q.length : Int)) = true := decide_eq_true h5
  refine DCall.of Try.func6 sf6 hb6 (Nat.le_of_ble_eq_true rfl) (okRes_nil fun _ => rfl) ?_; simp only [s6, idxs, Nat.reduceAdd]
  repeat' (first|(with_reducible first|apply qA|apply qB|apply qC|apply qD|apply qE|apply qF)|(refine DW.regL rfl (WF.of ?_) ?_; first|rfl|skip)|(simp (disch:=omega) only [go_sem, simprocAttr, qN, qO, qP, qQ, d, d5])|exact qM rfl rfl rfl|(refine qG rfl ?_)|(refine qK (h4) (by decide) ?_)|(refine qK (hk) (by decide) ?_)|(refine qH rfl ?_)|(refine qI rfl ?_ ?_<;>intro hc<;>(try simp only [go_sem] at hc))|(refine qJ ?_ ?_<;>intro hc<;>(try simp only [hc])<;>(try simp only [go_sem] at hc)))
 have d5 : decide ((5 : Int) < (q.length : Int)) = false := decide_eq_false h5
 have h2 := plOrder l q hq (fun _ => by omega)
 rw [ordD, if_pos he] at h2
 by_cases hne : q = []
 ·subst hne
  have hf : findO l [] = if bearX l [] then some [] else none := by
   show List.find? _ [[]] = _
   rw [List.find?_cons, List.find?_nil]
   show (match bearX l [] with | true => some [] | false => none) = _
   cases bearX l [] <;> rfl
  have hro := reOrdE l hL false true
  rw [← bearX_eq hL] at hro
  rw [hf] at h2
  have hs2 := (reInts false false [] [] (by decide) (by decide)).weakA (l := [dIs false [], .c (.v (.slice none 0 0))]) (.cons (.inl rfl) (.cons (.inr ⟨_, _, rfl, rfl, .nil false 1⟩) .nil))
  rw [decide_eq_true rfl] at hs2
  cases hB : bearX l [] with
  | true =>
   rw [hB, if_pos rfl] at h2
   rw [hB] at hro
   simp only [oRes, oErr] at h2
   refine DCall.of Try.func6 sf6 hb6 (Nat.le_of_ble_eq_true rfl) (okRes_nil fun _ => rfl) ?_; simp only [s6, idxs, Nat.reduceAdd]
   repeat' (first|(with_reducible first|apply qA|apply qB|apply qC|apply qD|apply qE|apply qF)|(refine DW.regL rfl (WF.of ?_) ?_; first|rfl|skip)|(simp (disch:=omega) only [go_sem, simprocAttr, qN, qO, qP, qQ, d, d5, rows, rG, rowC_nil, List.length_nil])|exact qM rfl rfl rfl|(refine qG rfl ?_)|(refine qK (h1) (by decide) ?_)|(refine qK (h2) (by decide) ?_)|(refine qK (h3) (by decide) ?_)|(refine qK (h4) (by decide) ?_)|(refine qK (hro) (by decide) ?_)|(refine qK (hs2) (by decide) ?_)|(refine qK (hk) (by decide) ?_)|(refine qH rfl ?_)|(refine qI rfl ?_ ?_<;>intro hc<;>(try simp only [go_sem] at hc))|(refine qJ ?_ ?_<;>intro hc<;>(try simp only [hc])<;>(try simp only [go_sem] at hc)))
  | false =>
   rw [hB, if_neg Bool.false_ne_true] at h2
   rw [hB] at hro
   simp only [oRes, oErr] at h2
   refine DCall.of Try.func6 sf6 hb6 (Nat.le_of_ble_eq_true rfl) (okRes_nil fun _ => rfl) ?_; simp only [s6, idxs, Nat.reduceAdd]
   repeat' (first|(with_reducible first|apply qA|apply qB|apply qC|apply qD|apply qE|apply qF)|(refine DW.regL rfl (WF.of ?_) ?_; first|rfl|skip)|(simp (disch:=omega) only [go_sem, simprocAttr, qN, qO, qP, qQ, d, d5, rows, rG, rowC_nil, List.length_nil])|exact qM rfl rfl rfl|(refine qG rfl ?_)|(refine qK (h1) (by decide) ?_)|(refine qK (h2) (by decide) ?_)|(refine qK (h3) (by decide) ?_)|(refine qK (h4) (by decide) ?_)|(refine qK (hro) (by decide) ?_)|(refine qK (hk) (by decide) ?_)|(refine qH rfl ?_)|(refine qI rfl ?_ ?_<;>intro hc<;>(try simp only [go_sem] at hc))|(refine qJ ?_ ?_<;>intro hc<;>(try simp only [hc])<;>(try simp only [go_sem] at hc)))
 have hro := reOrdT l q hL (by omega) hne false 46
 rw [find_same hL (by omega)] at hro
 have hl0 : ¬ q.length = 0 := fun e => hne (List.eq_nil_of_length_eq_zero e)
 have hfl := fun e => find_len (l := l) (q := q) (by omega) (e := e)
 have hru := repl_u0 q.length
 cases hF : findO l q with
 | none =>
  rw [hF] at h2 hro
  simp only [oRes, oErr] at h2
  rw [oRD, if_neg hl0] at hro
  refine DCall.of Try.func6 sf6 hb6 (Nat.le_of_ble_eq_true rfl) (okRes_nil fun _ => rfl) ?_; simp only [s6, idxs, Nat.reduceAdd]
  repeat' (first|(with_reducible first|apply qA|apply qB|apply qC|apply qD|apply qE|apply qF)|(refine DW.regL rfl (WF.of ?_) ?_; first|rfl|skip)|(simp (disch:=omega) only [go_sem, simprocAttr, qN, qO, qP, qQ, d, d5, hru])|exact qM rfl rfl rfl|(refine qG rfl ?_)|(refine qK (h1) (by decide) ?_)|(refine qK (h2) (by decide) ?_)|(refine qK (h3) (by decide) ?_)|(refine qK (h4) (by decide) ?_)|(refine qK (hk) (by decide) ?_)|(refine qH rfl ?_)|(refine qI rfl ?_ ?_<;>intro hc<;>(try simp only [go_sem] at hc))|(refine qJ ?_ ?_<;>intro hc<;>(try simp only [hc])<;>(try simp only [go_sem] at hc)))
  refine call_l 46 hro (by simp (disch:=omega) only [go_sem,simprocAttr,qN,qO,qP,qQ]) rfl (by simp (disch:=omega) only [go_sem,simprocAttr,qN,qO,qP,qQ,Option.some.injEq]) (by decide) ?_
  simp (disch:=omega) only [go_sem,simprocAttr,qN,qO,qP,qQ,del]
  repeat' (first|(with_reducible first|apply qA|apply qB|apply qC|apply qD|apply qE|apply qF)|(refine DW.regL rfl (WF.of ?_) ?_; first|rfl|skip)|(simp (disch:=omega) only [go_sem, simprocAttr, qN, qO, qP, qQ])|exact qM rfl rfl rfl|(refine qG rfl ?_)|(refine qK (hk) (by decide) ?_)|(refine qH rfl ?_)|(refine qI rfl ?_ ?_<;>intro hc<;>(try simp only [go_sem] at hc))|(refine qJ ?_ ?_<;>intro hc<;>(try simp only [hc])<;>(try simp only [go_sem] at hc)))
 | some o =>
  rw [hF] at h2 hro
  have hol := (hfl o hF).1
  simp only [oRes, oErr] at h2
  rw [oRD] at hro
  have hs2 := reInts false false o o (by omega) (by omega)
  rw [decide_eq_true rfl] at hs2
  refine DCall.of Try.func6 sf6 hb6 (Nat.le_of_ble_eq_true rfl) (okRes_nil fun _ => rfl) ?_; simp only [s6, idxs, Nat.reduceAdd]
  repeat' (first|(with_reducible first|apply qA|apply qB|apply qC|apply qD|apply qE|apply qF)|(refine DW.regL rfl (WF.of ?_) ?_; first|rfl|skip)|(simp (disch:=omega) only [go_sem, simprocAttr, qN, qO, qP, qQ, d, d5, hru])|exact qM rfl rfl rfl|(refine qG rfl ?_)|(refine qK (h1) (by decide) ?_)|(refine qK (h2) (by decide) ?_)|(refine qK (h3) (by decide) ?_)|(refine qK (h4) (by decide) ?_)|(refine qK (hk) (by decide) ?_)|(refine qH rfl ?_)|(refine qI rfl ?_ ?_<;>intro hc<;>(try simp only [go_sem] at hc))|(refine qJ ?_ ?_<;>intro hc<;>(try simp only [hc])<;>(try simp only [go_sem] at hc)))
  refine call_l 46 hro (by simp (disch:=omega) only [go_sem,simprocAttr,qN,qO,qP,qQ]) rfl (by simp (disch:=omega) only [go_sem,simprocAttr,qN,qO,qP,qQ,Option.some.injEq]) (by decide) ?_
  simp (disch:=omega) only [go_sem,simprocAttr,qN,qO,qP,qQ,del]
  repeat' (first|(with_reducible first|apply qA|apply qB|apply qC|apply qD|apply qE|apply qF)|(refine DW.regL rfl (WF.of ?_) ?_; first|rfl|skip)|(simp (disch:=omega) only [go_sem, simprocAttr, qN, qO, qP, qQ])|exact qM rfl rfl rfl|(refine qG rfl ?_)|(refine qK (hk) (by decide) ?_)|(refine qK (hs2) (by decide) ?_)|(refine qH rfl ?_)|(refine qI rfl ?_ ?_<;>intro hc<;>(try simp only [go_sem] at hc))|(refine qJ ?_ ?_<;>intro hc<;>(try simp only [hc])<;>(try simp only [go_sem] at hc)))
end Go.Dw.Seat
end
section
set_option linter.unusedSimpArgs false
set_option maxRecDepth 100000
namespace Go.Dw.Seat
open Go Go.Dw Go.IntWalk
structure Rct where
 x0 : Nat
 x1 : Nat
 y0 : Nat
 y1 : Nat
def Rct.off (r s : Rct) : Prop := r.x1 ≤ s.x0 ∨ s.x1 ≤ r.x0 ∨ r.y1 ≤ s.y0 ∨ s.y1 ≤ r.y0
end Go.Dw.Seat
end
section
set_option linter.unusedSimpArgs false
set_option maxRecDepth 100000
namespace Go.Dw.Seat
open Go Go.Dw Go.Proofs Go.IntWalk
def e1 (n : Nat) : List C := [.v (.int .u8 n)]
attribute [go_sem] e1
end Go.Dw.Seat
end
section
set_option linter.unusedSimpArgs false
set_option maxRecDepth 100000
namespace Go.Dw.Seat
open Go Go.Dw Go.Proofs Go.ChangeShapes Go.WideShapes Go.ChangeAt Go.RowKit
theorem tOwn : ownKnob Try.prog.godebug = none := by kernel_rfl
theorem tLaid : laidOutB Try.prog = true := by kernel_rfl
theorem u3 : Try.prog.underlying 3 = some (.int .i64) := by kernel_rfl
theorem u4 : Try.prog.underlying 4 = some .bool := by kernel_rfl
theorem u25 : structIs Try.prog 25 [(3, 0), (3, 1)] = true := by kernel_rfl
theorem u54 : structIs Try.prog 54 [(3, 0), (3, 1), (3, 2), (3, 3), (3, 4)] = true := by kernel_rfl
theorem u55 : Try.prog.underlying 55 = some (.slice 99) := by kernel_rfl
theorem u99 : structIs Try.prog 99 [(3, 0), (25, 1)] = true := by kernel_rfl
theorem cl3 : Try.prog.cellsOf 3 = 1 := by kernel_rfl
theorem cl25 : Try.prog.cellsOf 25 = 2 := by kernel_rfl
theorem cl54 : Try.prog.cellsOf 54 = 5 := by kernel_rfl
theorem cl99 : Try.prog.cellsOf 99 = 3 := by kernel_rfl
section
variable {H : Type} {enc : TypeId × Value → H} {w : World} {base : Nat} {spare : Nat → Bool} {held : Bool} {fuel : Nat} {cs : List Value} {x : DataW H × List MemPlace}
theorem rd_Span (h : DataW.trod enc Try.prog w base spare held fuel 25 cs = some x) : ∃ a b : Int, cs = [.int .i64 a, .int .i64 b] := by
 obtain ⟨hl, m, hf⟩ := rd_struct u25 h
 rw [cl25] at hl
 obtain ⟨y0, h0⟩ := hf 0 3 0 rfl
 obtain ⟨y1, h1⟩ := hf 1 3 1 rfl
 rw [cl3] at h0 h1
 match cs, hl with
 | [a, b], _ =>
  obtain ⟨n0, e0, _⟩ := rd_int u3 h0
  obtain ⟨n1, e1, _⟩ := rd_int u3 h1
  simp at e0 e1
  subst e0; subst e1
  exact ⟨n0, n1, rfl⟩
def cLr (l : PLy) : List C := [.v (.int .i64 l.lg), .v (.int .i64 l.fr), .v (.int .i64 l.bk), .v (.int .i64 l.fm), .v (.int .i64 l.bm)]
theorem rd_Lorry (h : DataW.trod enc Try.prog w base spare held fuel 54 cs = some x) : ∃ l : PLy, RepVs w A0 (cLr l) cs := by
 obtain ⟨hl, m, hf⟩ := rd_struct u54 h
 rw [cl54] at hl
 obtain ⟨y0, h0⟩ := hf 0 3 0 rfl
 obtain ⟨y1, h1⟩ := hf 1 3 1 rfl
 obtain ⟨y2, h2⟩ := hf 2 3 2 rfl
 obtain ⟨y3, h3⟩ := hf 3 3 3 rfl
 obtain ⟨y4, h4⟩ := hf 4 3 4 rfl
 rw [cl3] at h0 h1 h2 h3 h4
 match cs, hl with
 | [a, b, c, d, e], _ =>
  obtain ⟨n0, e0, _⟩ := rd_int u3 h0
  obtain ⟨n1, e1, _⟩ := rd_int u3 h1
  obtain ⟨n2, e2, _⟩ := rd_int u3 h2
  obtain ⟨n3, e3, _⟩ := rd_int u3 h3
  obtain ⟨n4, e4, _⟩ := rd_int u3 h4
  simp at e0 e1 e2 e3 e4
  subst e0; subst e1; subst e2; subst e3; subst e4
  exact ⟨⟨n0, n1, n2, n3, n4⟩, _, _, rfl, ⟨rfl, rfl⟩, _, _, rfl, ⟨rfl, rfl⟩, _, _, rfl, ⟨rfl, rfl⟩, _, _, rfl, ⟨rfl, rfl⟩, _, _, rfl, ⟨rfl, rfl⟩, rfl⟩
theorem rd_Item (h : DataW.trod enc Try.prog w base spare held fuel 99 cs = some x) : ∃ q : PIt, RepVs w A0 (eIt q) cs := by
 obtain ⟨hl, m, hf⟩ := rd_struct u99 h
 rw [cl99] at hl
 obtain ⟨y0, h0⟩ := hf 0 3 0 rfl
 obtain ⟨y1, h1⟩ := hf 1 25 1 rfl
 rw [cl3] at h0
 rw [cl25] at h1
 match cs, hl with
 | [a, b, c], _ =>
  obtain ⟨n0, e0, _⟩ := rd_int u3 h0
  obtain ⟨n1, n2, e1⟩ := rd_Span h1
  simp at e0 e1
  obtain ⟨rfl, rfl⟩ := e1
  subst e0
  exact ⟨⟨n0, n1, n2⟩, _, _, rfl, ⟨rfl, rfl⟩, _, _, rfl, ⟨rfl, rfl⟩, _, _, rfl, ⟨rfl, rfl⟩, rfl⟩
theorem rd_Items (h : DataW.trod enc Try.prog w base spare held fuel 55 cs = some x) : ∃ (l : List PIt) (v : Value), cs = [v] ∧ RepC w A0 (.sl false 3 (rows eIt l)) v ∧ l.length ≤ maxLen := by
 obtain ⟨l, v, e', hr, hm, _⟩ := rd_slice (f := eIt) u55 cl99 (by decide) (fun _ => rfl) (fun m cs x h => rd_Item h) h
 exact ⟨l, v, e', hr, hm⟩
end
end Go.Dw.Seat
end
section
set_option linter.unusedSimpArgs false
set_option maxRecDepth 100000
namespace Go.Dw.Seat
open Go Go.Dw Go.Proofs Go.ChangeShapes Go.WideShapes Go.ChangeAt Go.RowKit
set_option maxHeartbeats 800000 in
theorem palletOrdersLifted (os : Os) (started : os.Started) (H : Type) (enc : TypeId × Value → H) :
  ReturnsInHanded {} Try.checked os 6 .any (Ytimgcfmeakekbaa.Rows.palletOrdersSpec.pre6 enc Try.prog Try.f6 Ytimgcfmeakekbaa.Rows.palletOrdersRow.domain false) (Ytimgcfmeakekbaa.Rows.palletOrdersSpec.post enc Try.prog Try.f6 false true false false) := by
 refine returnsInHanded_of_change (C := Try.checked) tOwn started (by kernel_rfl) Try.func6
  (ChangeSpec.witness6 (enc := enc) (C := Try.checked) false ⟨#[], #[.agg #[.int .i64 0, .int .i64 0, .int .i64 0, .int .i64 0, .int .i64 0], .slice none 0 0], []⟩ 8 (by kernel_rfl) (by kernel_rfl) (by kernel_rfl) (by kernel_rfl)) ?_
 intro W base args ds gs before hval0 hW _ _
 have hval : ∀ (j : Nat) t v, Try.f6.params[j]? = some t → args[j]? = some v → Value.okWide Try.prog W .any base t v := hval0
 have hW' : DataW.Whole enc Try.prog Try.f6.params.toList [] false W args.toList ds gs before := hW
 obtain ⟨p, q, hA, hV, rfl, hfz, hnd⟩ := hW
 have hA : DataW.TrodAll enc Try.prog W 0 (fun _ => true) true [54, 55] args.toList ds p := hA
 obtain ⟨rfl, rfl⟩ := trodVars_none hV
 obtain ⟨v0, vs0, d0, ds0, p0, q0, hargs, rfl, rfl, h0, r0⟩ := trodAll_cons hA
 obtain ⟨v1, vs1, d1, ds1, p1, q1, rfl, rfl, rfl, h1, r1⟩ := trodAll_cons r0
 obtain ⟨rfl, rfl, rfl⟩ := trodAll_nil r1
 obtain rfl : args = #[v0, v1] := by cases args; simp_all
 obtain ⟨f0, hu0, _⟩ := structIs_spec u54
 obtain ⟨c0, rfl, _⟩ := okWide_struct hu0 (hval 0 54 v0 rfl rfl)
 obtain ⟨a1, l1, k1, rfl⟩ := okWide_slice u55 (hval 1 55 v1 rfl rfl)
 obtain ⟨fu0, h0⟩ := h0
 obtain ⟨fu1, h1⟩ := h1
 obtain ⟨s0, hr0⟩ := rd_Lorry h0
 have hr0 : RepVs W A0 (cLr s0) c0.toList := by simpa [Value.cells] using hr0
 obtain ⟨s1, sv1, e1, hs1, hl1⟩ := rd_Items h1
 have e1 : sv1 = Value.slice a1 l1 k1 := by simpa [Value.cells] using e1.symm
 subst e1
 refine ((laOrders s0  s1 hl1).calls (W := W) (vs := [.agg c0, .slice a1 l1 k1]) (laid0 W) (fun G => ?_)).mono ?_
 ·exact ⟨_, _, rfl, ⟨c0, rfl, RepDs.ofVs hr0⟩, _, _, rfl, hs1, rfl⟩
 ·rintro e W' ⟨v, rfl, ⟨G', A', hr⟩, hb⟩
  obtain ⟨rfl, _⟩ := hr
  exact ⟨_, rfl, post_true tLaid (by decide +kernel) hW' hb rfl rfl u4 rfl rfl rfl⟩
theorem palletOrdersHolds : Ytimgcfmeakekbaa.Rows.palletOrdersRow.holds Ytimgcfmeakekbaa.Try.pinned (OpenSpec.ofChange Ytimgcfmeakekbaa.Rows.palletOrdersSpec) :=
 OpenClaim.holds_of_wide 6 Try.f6 rfl rfl rfl rfl rfl rfl rfl ⟨rfl, rfl, rfl, rfl, rfl⟩ rfl rfl rfl rfl rfl (by kernel_rfl) Try.func6 (by kernel_rfl)
  (of_decide_eq_true (by kernel_rfl)) (by unfold Func.isWrapper; first | (rw [if_pos (by decide +kernel)]; kernel_rfl) | (rw [if_neg (by decide +kernel)]; exact ⟨rfl, rfl⟩))
  (fun os started H enc _ => palletOrdersLifted os started H enc)
end Go.Dw.Seat
namespace Go.Proofs.Ytimgcfmeakekbaa
theorem palletOrdersSaid : Rows.PalletOrdersSaid := Go.Dw.Seat.palletOrdersHolds
end Go.Proofs.Ytimgcfmeakekbaa
end
