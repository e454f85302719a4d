/- The law PalletDrives returns true for every input, and changes nothing that was there before: the full statement PalletDrivesSaid, without conditions. -/
import Derived.Test.YtimgcfmeakekbaaJ01
import Derived.Test.YtimgcfmeakekbaaRows
import Derived.ProofKit
import Derived.OpenShut
set_option linter.unusedVariables false
set_option linter.unusedSimpArgs false
section
set_option linter.unusedSimpArgs false
set_option maxRecDepth 100000
namespace Go.Dw.Seat
open Go Go.Dw Go.Proofs Go.IntWalk
def layX (p : PBs) (b : PBx) : List PPl := if chkE p b = 0 then layF (bLg b) (bWd b) (rxN p + ryN p + 1) 0 0 (rxN p) (ryN p) else []
def layD (p : PBs) (b : PBx) : D := if chkE p b = 0 then lyD false (layX p b) else .c nilC
abbrev sawB47 (p : PBs) (b : PBx) (RX RY : List Int) : List (Nat × Blk) := [(9, .box [dI p.lg, dI p.wd, dI p.hi, dI p.ov, dI p.top, dI p.load, dI b.lg, dI b.wd, dI b.hi, dI b.wl, dI b.wh, dI b.sl, dI b.sh, .c (.sl false 1 (rows eI RX)), .c (.sl false 1 (rows eI RY)), .hd 47]), (47, .map [] [])]
theorem sawB47_ok (p : PBs) (b : PBx) (RX RY : List Int) : okRes (.box 9 0) (sawB47 p b RX RY) := by
 have hg : ∀ j, get j (sawB47 p b RX RY) = none → j ≠ 9 ∧ j ≠ 47 := fun j hj => by
  constructor <;> (rintro rfl; cases hj)
 refine ⟨fun j hj => ?_, fun i x hi j hj => ?_⟩
 ·obtain ⟨h1, h2⟩ := hg j hj
  simp only [D.men, D.mens, Bool.or_false, beq_eq_false_iff_ne]
  omega
 ·obtain ⟨h1, h2⟩ := hg j hj
  have := get_mem hi
  simp only [List.mem_cons, Prod.mk.injEq, List.not_mem_nil, or_false] at this
  rcases this with ⟨_, rfl⟩ | ⟨_, rfl⟩
  ·simp only [Blk.men, D.men, D.mens, Bool.or_false, Bool.false_or, beq_eq_false_iff_ne]
   omega
  ·rfl
theorem plNewSaw47 (p : PBs) (b : PBx) (hp : p.ok) (hb : b.ok) : DCall Try.prog 64 [bedD p b] [] (.box 9 0) (sawB47 p b (rcL (bLg b) (bWd b) (rxN p)) (rcL (bLg b) (bWd b) (ryN p))) :=
 DCall.swap 7 47 (r := .box 9 0) (bo := sawBs p b (rcL (bLg b) (bWd b) (rxN p)) (rcL (bLg b) (bWd b) (ryN p))) (sawB47_ok p b _ _) (plNewSaw p b hp hb)
set_option maxHeartbeats 8000000 in
theorem plLayX (p : PBs) (b : PBx) : DCall Try.prog 17 [bsD p, bxD b] [] (.tup [layD p b, dI (chkE p b)]) [] := by
 have h0 := plCheck p b
 unfold layD layX
 by_cases hc : chkE p b = 0
 ·obtain ⟨hp, hb⟩ := chk_ok.1 hc
  rw [if_pos hc, if_pos hc]
  rw [hc] at h0 ⊢
  have hr := plRoom p b hp
  obtain ⟨hx, hy⟩ := rm_in hp
  have hX : rmX p = ((rxN p : Nat) : Int) := (Int.toNat_of_nonneg hx.1).symm
  have hY : rmY p = ((ryN p : Nat) : Int) := (Int.toNat_of_nonneg hy.1).symm
  have hnX : rxN p ≤ 140 := by show (rmX p).toNat ≤ 140; omega
  have hnY : ryN p ≤ 140 := by show (rmY p).toNat ≤ 140; omega
  rw [hX, hY] at hr
  have hsaw := plNewSaw47 p b hp hb
  obtain ⟨M1, _, hlay⟩ := plLay true p b hb _ _ _ _ (rcL_ok (bLg b) (bWd b) (rxN p)) (rcL_ok (bLg b) (bWd b) (ryN p)) hnX hnY (rxN p + ryN p + 1) 0 0 (rxN p) (ryN p) [] (mok_nil _ _) (Nat.le_refl _) (Nat.le_refl _) (by omega) (by omega) (by omega)
  generalize rcL (bLg b) (bWd b) (rxN p) = L1 at *
  generalize rcL (bLg b) (bWd b) (ryN p) = L2 at *
  generalize layF (bLg b) (bWd b) (rxN p + ryN p + 1) 0 0 (rxN p) (ryN p) = R at *
  generalize rxN p = nx at *
  generalize ryN p = ny at *
  have hlay' : ∀ lm, DCall Try.prog 66 [sawCL true p b L1 L2 lm, .agg [dI 0, dI 0], rctD nx ny] [(47, pinO lm (pinB 47 lm (.map [] [])))] (pinD 47 lm (.c (.sl false 3 (rows eP R)))) [(47, pinO lm (pinB 47 lm (.map (cK M1) (cD M1))))] := fun lm => by
   have h := layCl (hlay lm)
   show DCall Try.prog 66 _ _ _ [(47, .pmap lm (cK M1) (pinDs 47 lm (cD M1)))]
   rw [pinDs_cD]
   exact h
  refine DCall.of Try.func17 sf17 hb17 (Nat.le_of_ble_eq_true rfl) (okRes_nil fun _ => rfl) ?_; simp only [s17, o17_0, o17_1, o17_2, o17_3, o17_4, o17_5, idxs, Nat.reduceAdd]
  repeat' (first|(with_reducible first|apply qA|apply qB|apply qC|apply qD|apply qE|apply qF)|(refine DW.ord rfl (WF.of (by first|rfl|simp (disch:=omega) only [go_sem, simprocAttr, qN, qO, qP, qQ, del, cD_keys])) ?_ ?_ ?_; rotate_left)|rfl|(with_reducible refine And.intro ?_ ?_)|(simp (disch:=omega) only [go_sem, simprocAttr, qN, qO, qP, qQ, del, cD_keys])|exact qM rfl rfl rfl|(refine qG rfl ?_)|(refine qK (h0) (by decide) ?_)|(refine call_b (hsaw) ⟨⟨trivial, rfl, rfl, rfl⟩, rfl, rfl, rfl⟩ (by decide) ?_; simp only [St.addBs, St.putB, St.putO, St.put])|(refine qK (hr) (by decide) ?_)|(refine call_hp1 47 (fun lm => hlay' lm) rfl rfl rfl (fun _ => rfl) (fun _ => rfl) (fun _ => by simp (disch:=omega) only [go_sem, simprocAttr, qN, qO, qP, qQ, del, pinT, pinX, pinD, pinDs, pinB, pinO, Nat.reduceEqDiff, if_false, if_true]) (by decide) ?_)|(refine qH rfl ?_)|(refine qI rfl ?_ ?_<;>intro hc<;>(try simp only [go_sem] at hc))|(refine qJ ?_ ?_<;>intro hc<;>(try simp only [hc])<;>(try simp only [go_sem] at hc)))
  refine retS_wk rfl ?_ (by simp only [Blk.nb, rowC_nb, D.nb, D.nbs, C.nb, C.nbs, C.nbss, rows_nb eI_nb, Bool.and_true, Bool.not_false, Bool.and_self, bD, dI, iD, rows_nb eP_nb]); exact .refl _
 ·have h2 := chk_two hc
  rw [if_neg hc]
  rw [h2] at h0 ⊢
  refine DCall.of Try.func17 sf17 hb17 (Nat.le_of_ble_eq_true rfl) (okRes_nil fun _ => rfl) ?_; simp only [s17, o17_0, o17_1, o17_2, o17_3, o17_4, o17_5, idxs, Nat.reduceAdd]
  repeat' (first|(with_reducible first|apply qA|apply qB|apply qC|apply qD|apply qE|apply qF)|(refine DW.ord rfl (WF.of (by first|rfl|simp (disch:=omega) only [go_sem, simprocAttr, qN, qO, qP, qQ])) ?_ ?_ ?_; rotate_left)|rfl|(with_reducible refine And.intro ?_ ?_)|(simp (disch:=omega) only [go_sem, simprocAttr, qN, qO, qP, qQ])|exact qM rfl rfl rfl|(refine qG rfl ?_)|(refine qK (h0) (by decide) ?_)|(refine qH rfl ?_)|(refine qI rfl ?_ ?_<;>intro hc<;>(try simp only [go_sem] at hc))|(refine qJ ?_ ?_<;>intro hc<;>(try simp only [hc])<;>(try simp only [go_sem] at hc)))
end Go.Dw.Seat
end
section
set_option linter.unusedSimpArgs false
set_option maxRecDepth 100000
namespace Go.Dw.Seat
open Go Go.Dw Go.Proofs Go.IntWalk
theorem crW1 (n lo hi : Int) (p q : Bool) : DCall Try.prog 133 [dI n, .c (.ro p [.v (.int .i64 lo)] 0), .c (.ro q [.v (.int .i64 hi)] 0)] [] (bD (decide (n < lo) || decide (hi < n))) [] := by
 refine DCall.of Try.func133 sf133 hb133 (Nat.le_of_ble_eq_true rfl) (okRes_nil fun _ => rfl) ?_; simp only [s133, idxs, Nat.reduceAdd]
 repeat' (first|(with_reducible first|apply qA|apply qB|apply qC|apply qD|apply qE|apply qF)|(simp (disch:=omega) only [go_sem, simprocAttr, Blk.men, Blk.keysIn])|exact qM rfl rfl rfl|(refine qG rfl ?_)|(refine qH rfl ?_)|(refine qI rfl ?_ ?_<;>intro hc<;>(try simp only [go_sem] at hc))|(refine qJ ?_ ?_<;>intro hc<;>(try simp only [hc])<;>(try simp only [go_sem] at hc)))
theorem crWithin (b : Bool) (lo hi : Int) (l : List Int) (hl : l.length ≤ 2 ^ 36) : DCall Try.prog 123 [dI lo, dI hi, dIs b l] [] (bD (wthn lo hi l)) [] := by
 refine DCall.of Try.func123 sf123 hb123 (Nat.le_of_ble_eq_true rfl) (okRes_nil fun _ => rfl) ?_; simp only [s123, idxs, Nat.reduceAdd]
 repeat' (first|(with_reducible first|apply qA|apply qB|apply qC|apply qD|apply qE|apply qF)|(simp (disch:=omega) only [go_sem, simprocAttr, Blk.men, Blk.keysIn])|exact qM rfl rfl rfl|(refine qG rfl ?_)|(refine qH rfl ?_)|(refine qI rfl ?_ ?_<;>intro hc<;>(try simp only [go_sem] at hc))|(refine qJ ?_ ?_<;>intro hc<;>(try simp only [hc])<;>(try simp only [go_sem] at hc)))
 (refine call_c (plAnyI b l hl 133 [] [.ro true [.v (.int .i64 lo)] 0, .ro true [.v (.int .i64 hi)] 0] (fun n => decide (n < lo) || decide (hi < n)) (fun x _ => crW1 x lo hi true true)) (by decide) ?_; simp (disch:=omega) only [go_sem,simprocAttr,Blk.men,Blk.keysIn])
 repeat' (first|(with_reducible first|apply qA|apply qB|apply qC|apply qD|apply qE|apply qF)|(simp (disch:=omega) only [go_sem, simprocAttr, Blk.men, Blk.keysIn])|exact qM rfl rfl rfl|(refine qG rfl ?_)|(refine qH rfl ?_)|(refine qI rfl ?_ ?_<;>intro hc<;>(try simp only [go_sem] at hc))|(refine qJ ?_ ?_<;>intro hc<;>(try simp only [hc])<;>(try simp only [go_sem] at hc)))
theorem spanOk_yes {lo hi least most : Int} (h : least ≤ lo ∧ lo ≤ hi ∧ hi ≤ most) : spanOk lo hi least most = true := by
 unfold spanOk
 rw [wthn_yes (by simp; omega), decide_eq_true h.2.1]; rfl
theorem crSpanG (lo hi least most : Int) : DCall Try.prog 121 [.agg [dI lo, dI hi], dI least, dI most] [] (bD (spanOk lo hi least most)) [] := by
 have h1 := crWithin true least most [lo, hi] (by simp)
 unfold spanOk
 cases h : wthn least most [lo, hi] <;> rw [h] at h1 <;> simp only [Bool.true_and, Bool.false_and]
 ·refine DCall.of Try.func121 sf121 hb121 (Nat.le_of_ble_eq_true rfl) (okRes_nil fun _ => rfl) ?_; simp only [s121, idxs, Nat.reduceAdd]
  repeat' (first|(with_reducible first|apply qA|apply qB|apply qC|apply qD|apply qE|apply qF)|(simp (disch:=omega) only [go_sem, simprocAttr, Blk.men, Blk.keysIn])|exact qM rfl rfl rfl|(refine qG rfl ?_)|(refine qK (h1) (by decide) ?_)|(refine qH rfl ?_)|(refine qI rfl ?_ ?_<;>intro hc<;>(try simp only [go_sem] at hc))|(refine qJ ?_ ?_<;>intro hc<;>(try simp only [hc])<;>(try simp only [go_sem] at hc)))
 ·refine DCall.of Try.func121 sf121 hb121 (Nat.le_of_ble_eq_true rfl) (okRes_nil fun _ => rfl) ?_; simp only [s121, idxs, Nat.reduceAdd]
  repeat' (first|(with_reducible first|apply qA|apply qB|apply qC|apply qD|apply qE|apply qF)|(simp (disch:=omega) only [go_sem, simprocAttr, Blk.men, Blk.keysIn])|exact qM rfl rfl rfl|(refine qG rfl ?_)|(refine qK (h1) (by decide) ?_)|(refine qH rfl ?_)|(refine qI rfl ?_ ?_<;>intro hc<;>(try simp only [go_sem] at hc))|(refine qJ ?_ ?_<;>intro hc<;>(try simp only [hc])<;>(try simp only [go_sem] at hc)))
theorem mulB0 {a b A B : Int} (ha : 0 ≤ a ∧ a ≤ A) (hb : 0 ≤ b ∧ b ≤ B) : 0 ≤ a * b ∧ a * b ≤ A * B := by
 refine ⟨Int.mul_nonneg ha.1 hb.1, ?_⟩
 exact Int.le_trans (Int.mul_le_mul_of_nonneg_right ha.2 hb.1) (Int.mul_le_mul_of_nonneg_left hb.2 (Int.le_trans ha.1 ha.2))
theorem crIn (b : Bool) (lo hi : Int) (l : List Int) (hl : l.length ≤ 2 ^ 36) (h : ∀ v ∈ l, lo ≤ v ∧ v ≤ hi) : DCall Try.prog 123 [dI lo, dI hi, dIs b l] [] (bD true) [] := by
 have := crWithin b lo hi l hl
 rwa [wthn_yes h] at this
end Go.Dw.Seat
end
section
set_option linter.unusedSimpArgs false
set_option maxRecDepth 100000
namespace Go.Dw.Seat
open Go Go.Dw Go.Proofs Go.IntWalk
structure Lod where
 sl : Int
 sh : Int
 wl : Int
 wh : Int
def eLd (b : Lod) : List C := [.v (.int .i64 b.sl), .v (.int .i64 b.sh), .v (.int .i64 b.wl), .v (.int .i64 b.wh)]
theorem eLd_nb (v : Lod) : C.nbs (eLd v) = true := rfl
def eK (t : Int × Int) : List C := [.v (.int .i64 t.1), .v (.int .i64 t.2)]
theorem eK_nb (v : Int × Int) : C.nbs (eK v) = true := rfl
attribute [go_sem] eLd eK
structure Lod.ok (b : Lod) : Prop where
 strong : 0 ≤ b.sl ∧ b.sl ≤ b.sh ∧ b.sh ≤ 20000000
 weight : 0 ≤ b.wl ∧ b.wl ≤ b.wh ∧ b.wh ≤ 100000
def lodOk (b : Lod) : Bool := spanOk b.sl b.sh 0 20000000 && spanOk b.wl b.wh 0 100000
theorem lodOk_yes {b : Lod} (h : b.ok) : lodOk b = true := by
 simp only [lodOk, spanOk_yes h.strong, spanOk_yes h.weight, Bool.and_self]
theorem crBoxG (b : Lod) : DCall Try.prog 120 [.agg ((eLd b).map D.c)] [] (bD (!lodOk b)) [] := by
 have h1 := crSpanG b.sl b.sh 0 20000000
 have h2 := crSpanG b.wl b.wh 0 100000
 unfold lodOk
 cases e1 : spanOk b.sl b.sh 0 20000000 <;> rw [e1] at h1 <;> simp only [Bool.true_and, Bool.false_and, Bool.not_false]
 ·refine DCall.of Try.func120 sf120 hb120 (Nat.le_of_ble_eq_true rfl) (okRes_nil fun _ => rfl) ?_; simp only [s120, idxs, Nat.reduceAdd]
  repeat' (first|(with_reducible first|apply qA|apply qB|apply qC|apply qD|apply qE|apply qF)|(simp (disch:=omega) only [go_sem, simprocAttr, Blk.men, Blk.keysIn, rF, rG])|exact qM rfl rfl rfl|(refine qG rfl ?_)|(refine qK (h1) (by decide) ?_)|(refine qH rfl ?_)|(refine qI rfl ?_ ?_<;>intro hc<;>(try simp only [go_sem] at hc))|(refine qJ ?_ ?_<;>intro hc<;>(try simp only [hc])<;>(try simp only [go_sem] at hc)))
 ·refine DCall.of Try.func120 sf120 hb120 (Nat.le_of_ble_eq_true rfl) (okRes_nil fun _ => rfl) ?_; simp only [s120, idxs, Nat.reduceAdd]
  repeat' (first|(with_reducible first|apply qA|apply qB|apply qC|apply qD|apply qE|apply qF)|(simp (disch:=omega) only [go_sem, simprocAttr, Blk.men, Blk.keysIn, rF, rG])|exact qM rfl rfl rfl|(refine qG rfl ?_)|(refine qK (h1) (by decide) ?_)|(refine qK (h2) (by decide) ?_)|(refine qH rfl ?_)|(refine qI rfl ?_ ?_<;>intro hc<;>(try simp only [go_sem] at hc))|(refine qJ ?_ ?_<;>intro hc<;>(try simp only [hc])<;>(try simp only [go_sem] at hc)))
theorem crLIdx (b : Bool) (l : List (Lod)) (hl : l.length ≤ 2 ^ 36) (g : FuncId) (fs caps : List C) (p : Lod → Bool) (hp : ∀ x ∈ l, DCall Try.prog g (fs.map D.c ++ [.agg ((eLd x).map D.c)] ++ caps.map D.c) [] (bD (p x)) []) : DCall Try.prog 132 [.c (.sl b 4 (rows eLd l)), .c (.fn (.func g) fs caps)] [] (dI (idxI p l)) [] := by
 refine DCall.of Try.func132 sf132 hb132 (Nat.le_of_ble_eq_true rfl) (okRes_nil fun _ => rfl) ?_; simp only [s132, idxs, Nat.reduceAdd]
 repeat' (first|(with_reducible first|apply qA|apply qB|apply qC|apply qD|apply qE|apply qF)|(simp (disch:=omega) only [go_sem, simprocAttr, Blk.men, Blk.keysIn])|exact qM rfl rfl rfl|(refine qG rfl ?_)|(refine qH rfl ?_)|(refine qI rfl ?_ ?_<;>intro hc<;>(try simp only [go_sem] at hc))|(refine qJ ?_ ?_<;>intro hc<;>(try simp only [hc])<;>(try simp only [go_sem] at hc)))
 refine DW.loop (ι := { i : Nat // i ≤ l.length ∧ ∀ j u, j < i → l[j]? = some u → p u = false }) (fun i => ⟨19, [(8, dI i.1), (7, dI l.length), (1, .c (.fn (.func g) fs caps)), (0, .c (.sl b 4 (rows eLd l)))], []⟩) (fun i => l.length - i.1) ⟨0, Nat.zero_le _, fun j u h => by omega⟩ ?_ ?_
 ·refine Ent.to ?_ ?_ <;> simp (disch:=omega) only [qR,qS,qTw,qU,get,Nat.reduceEqDiff,↓reduceIte,qV,qW,qX,qY,qZ,and_self,dI,i64_in,and_true,true_and,rA,rB,rC,rD]
 rintro ⟨i, hi, hij⟩
 rcases at_or l i hi with ⟨v, hv, hlt, hd⟩ | ⟨he, hd⟩
 ·have hcall := hp v (List.mem_of_getElem? hv)
  repeat' (first|(with_reducible first|apply qA|apply qB|apply qC|apply qD|apply qE|apply qF)|(simp (disch:=omega) only [go_sem, simprocAttr, Blk.men, Blk.keysIn, hd, hv, closeDs_fn, rF, rG])|exact qM rfl rfl rfl|(refine qG rfl ?_)|(refine qH rfl ?_)|(refine qI rfl ?_ ?_<;>intro hc<;>(try simp only [go_sem] at hc))|(refine qJ ?_ ?_<;>intro hc<;>(try simp only [hc])<;>(try simp only [go_sem] at hc)))
  refine call_c hcall (by decide) ?_
  simp (disch:=omega) only [go_sem,simprocAttr,Blk.men,Blk.keysIn]
  refine DW.cond rfl ?_ ?_ <;> intro hc
  ·repeat' (first|(with_reducible first|apply qA|apply qB|apply qC|apply qD|apply qE|apply qF)|(simp (disch:=omega) only [go_sem, simprocAttr, Blk.men, Blk.keysIn])|exact qM rfl rfl rfl|(refine qG rfl ?_)|(refine qH rfl ?_)|(refine qI rfl ?_ ?_<;>intro hc<;>(try simp only [go_sem] at hc))|(refine qJ ?_ ?_<;>intro hc<;>(try simp only [hc])<;>(try simp only [go_sem] at hc)))
   refine retS_of rfl ?_ rfl; simp only [oneD, St.op, get, Nat.reduceEqDiff, ↓reduceIte, Option.getD_some, bD, dI]
   simp only [idxI, idxOf_some hij hv hc]
  ·repeat' (first|(with_reducible first|apply qA|apply qB|apply qC|apply qD|apply qE|apply qF)|(simp (disch:=omega) only [go_sem, simprocAttr, Blk.men, Blk.keysIn])|exact qM rfl rfl rfl|(refine qG rfl ?_)|(refine qH rfl ?_)|(refine qI rfl ?_ ?_<;>intro hc<;>(try simp only [go_sem] at hc))|(refine qJ ?_ ?_<;>intro hc<;>(try simp only [hc])<;>(try simp only [go_sem] at hc)))
   refine ⟨⟨i + 1, by omega, fun j u hj hu => by
    rcases Nat.lt_or_ge j i with h | h
    ·exact hij j u h hu
    ·have : j = i := by omega
     subst this
     rw [hv] at hu; cases hu; exact hc⟩, ?_, Ent.to ?_ ?_⟩ <;> first | (show _ < _; (try simp only); omega) | (simp (disch:=omega) only [qR,qS,qTw,qU,get,Nat.reduceEqDiff,↓reduceIte,qV,qW,qX,qY,qZ,and_self,dI,i64_in,and_true,true_and,rA,rB,rC,rD])
 ·repeat' (first|(with_reducible first|apply qA|apply qB|apply qC|apply qD|apply qE|apply qF)|(simp (disch:=omega) only [go_sem, simprocAttr, Blk.men, Blk.keysIn, hd])|exact qM rfl rfl rfl|(refine qG rfl ?_)|(refine qH rfl ?_)|(refine qI rfl ?_ ?_<;>intro hc<;>(try simp only [go_sem] at hc))|(refine qJ ?_ ?_<;>intro hc<;>(try simp only [hc])<;>(try simp only [go_sem] at hc)))
  refine retS_of rfl ?_ rfl; simp only [oneD, St.op, get, Nat.reduceEqDiff, ↓reduceIte, Option.getD_some, bD, dI]
  simp only [idxI, idxOf_none (he ▸ hij)]
theorem crLCon (b : Bool) (l : List (Lod)) (hl : l.length ≤ 2 ^ 36) (g : FuncId) (fs caps : List C) (p : Lod → Bool) (hp : ∀ x ∈ l, DCall Try.prog g (fs.map D.c ++ [.agg ((eLd x).map D.c)] ++ caps.map D.c) [] (bD (p x)) []) : DCall Try.prog 122 [.c (.sl b 4 (rows eLd l)), .c (.fn (.func g) fs caps)] [] (bD (l.any p)) [] := by
 refine DCall.of Try.func122 sf122 hb122 (Nat.le_of_ble_eq_true rfl) (okRes_nil fun _ => rfl) ?_; simp only [s122, idxs, Nat.reduceAdd]
 repeat' (first|(with_reducible first|apply qA|apply qB|apply qC|apply qD|apply qE|apply qF)|(simp (disch:=omega) only [go_sem, simprocAttr, Blk.men, Blk.keysIn])|exact qM rfl rfl rfl|(refine qG rfl ?_)|(refine qH rfl ?_)|(refine qI rfl ?_ ?_<;>intro hc<;>(try simp only [go_sem] at hc))|(refine qJ ?_ ?_<;>intro hc<;>(try simp only [hc])<;>(try simp only [go_sem] at hc)))
 refine call_c (crLIdx b l hl g fs caps p hp) (by decide) ?_
 repeat' (first|(with_reducible first|apply qA|apply qB|apply qC|apply qD|apply qE|apply qF)|(simp (disch:=omega) only [go_sem, simprocAttr, Blk.men, Blk.keysIn])|exact qM rfl rfl rfl|(refine qG rfl ?_)|(refine qH rfl ?_)|(refine qI rfl ?_ ?_<;>intro hc<;>(try simp only [go_sem] at hc))|(refine qJ ?_ ?_<;>intro hc<;>(try simp only [hc])<;>(try simp only [go_sem] at hc)))
 refine retS_of rfl ?_ rfl; simp only [oneD, St.op, get, Nat.reduceEqDiff, ↓reduceIte, Option.getD_some, bD, dI]
 rw [idxI_any]
def boxesE (l : List Lod) (most : Int) : Int := if most < l.length then 5 else if l.any (fun b => !lodOk b) then 2 else 0
theorem crBoxesG (b : Bool) (l : List Lod) (most : Int) (hl : l.length ≤ 2 ^ 36) : DCall Try.prog 93 [.c (.sl b 4 (rows eLd l)), dI most] [] (dI (boxesE l most)) [] := by
 have h1 := crLCon b l hl 120 [] [] (fun b => !lodOk b) (fun x _ => by simpa using crBoxG x)
 unfold boxesE
 by_cases hm : most < (l.length : Int)
 ·have hd : decide (most < (l.length : Int)) = true := decide_eq_true hm
  rw [if_pos hm]
  refine DCall.of Try.func93 sf93 hb93 (Nat.le_of_ble_eq_true rfl) (okRes_nil fun _ => rfl) ?_; simp only [s93, idxs, Nat.reduceAdd]
  repeat' (first|(with_reducible first|apply qA|apply qB|apply qC|apply qD|apply qE|apply qF)|(simp (disch:=omega) only [go_sem, simprocAttr, Blk.men, Blk.keysIn, hd])|exact qM rfl rfl rfl|(refine qG rfl ?_)|(refine qH rfl ?_)|(refine qI rfl ?_ ?_<;>intro hc<;>(try simp only [go_sem] at hc))|(refine qJ ?_ ?_<;>intro hc<;>(try simp only [hc])<;>(try simp only [go_sem] at hc)))
 have hd : decide (most < (l.length : Int)) = false := decide_eq_false hm
 rw [if_neg hm]
 cases e : l.any (fun b => !lodOk b) <;> rw [e] at h1
 ·rw [if_neg (by decide)]
  refine DCall.of Try.func93 sf93 hb93 (Nat.le_of_ble_eq_true rfl) (okRes_nil fun _ => rfl) ?_; simp only [s93, idxs, Nat.reduceAdd]
  repeat' (first|(with_reducible first|apply qA|apply qB|apply qC|apply qD|apply qE|apply qF)|(simp (disch:=omega) only [go_sem, simprocAttr, Blk.men, Blk.keysIn, hd])|exact qM rfl rfl rfl|(refine qG rfl ?_)|(refine qK (h1) (by decide) ?_)|(refine qH rfl ?_)|(refine qI rfl ?_ ?_<;>intro hc<;>(try simp only [go_sem] at hc))|(refine qJ ?_ ?_<;>intro hc<;>(try simp only [hc])<;>(try simp only [go_sem] at hc)))
 ·rw [if_pos rfl]
  refine DCall.of Try.func93 sf93 hb93 (Nat.le_of_ble_eq_true rfl) (okRes_nil fun _ => rfl) ?_; simp only [s93, idxs, Nat.reduceAdd]
  repeat' (first|(with_reducible first|apply qA|apply qB|apply qC|apply qD|apply qE|apply qF)|(simp (disch:=omega) only [go_sem, simprocAttr, Blk.men, Blk.keysIn, hd])|exact qM rfl rfl rfl|(refine qG rfl ?_)|(refine qK (h1) (by decide) ?_)|(refine qH rfl ?_)|(refine qI rfl ?_ ?_<;>intro hc<;>(try simp only [go_sem] at hc))|(refine qJ ?_ ?_<;>intro hc<;>(try simp only [hc])<;>(try simp only [go_sem] at hc)))
theorem boxesE_yes {l : List Lod} {most : Int} (h1 : (l.length : Int) ≤ most) (h : ∀ x ∈ l, x.ok) : boxesE l most = 0 := by
 unfold boxesE
 rw [if_neg (by omega), if_neg]
 simp only [Bool.not_eq_true, List.any_eq_false, Bool.not_eq_true', Bool.not_eq_false]
 exact fun x hx => lodOk_yes (h x hx)
theorem crBoxes (b : Bool) (l : List Lod) (most : Int) (hl : l.length ≤ 1000) (hm : (l.length : Int) ≤ most) (h : ∀ x ∈ l, x.ok) : DCall Try.prog 93 [.c (.sl b 4 (rows eLd l)), dI most] [] (dI 0) [] := by
 have := crBoxesG b l most (by omega)
 rwa [boxesE_yes hm h] at this
structure TabF (l : List (Int × Int)) : Prop where
 len : 1 ≤ l.length ∧ l.length ≤ 10
 first : ∀ u, l[0]? = some u → u.1 = 0
 mem : ∀ s ∈ l, (0 ≤ s.1 ∧ s.1 ≤ 10000) ∧ (0 ≤ s.2 ∧ s.2 ≤ 1000)
 step : ∀ (i : Nat) (u v : Int × Int), l[i]? = some u → l[i + 1]? = some v → u.1 < v.1 ∧ v.2 ≤ u.2
structure TabOk (l : List (Int × Int)) (days : Int) : Prop extends TabF l where
 days : 0 ≤ days ∧ days ≤ 10000
theorem crTable (l : List (Int × Int)) (days : Int) (h : TabOk l days) : DCall Try.prog 94 [.c (.sl false 2 (rows eK l)), dI days] [] (.tup [.agg [.c (.sl false 2 (rows eK l)), dI days], dI 0]) [] := by
 have hlen := h.len
 have h1 := crIn true 1 10 [(l.length : Int)] (by simp) (by simp; omega)
 have h2 := crIn true 0 10000 [days] (by simp) (by simpa using h.days)
 obtain ⟨f, hf⟩ := getE (l := l) (i := 0) (by omega)
 have hf0 := h.first f hf
 have hfe : (f.1 != 0) = false := by rw [hf0]; rfl
 refine DCall.of Try.func94 sf94 hb94 (Nat.le_of_ble_eq_true rfl) (okRes_nil fun _ => rfl) ?_; simp only [s94, idxs, Nat.reduceAdd]
 repeat' (first|(with_reducible first|apply qA|apply qB|apply qC|apply qD|apply qE|apply qF)|(refine qL rfl (WF.of ?_) ?_; first|rfl|skip)|(simp (disch:=omega) only [go_sem, simprocAttr, Blk.men, Blk.keysIn, hf, hfe, rF, rG])|exact qM rfl rfl rfl|(refine qG rfl ?_)|(refine qK (h1) (by decide) ?_)|(refine qH rfl ?_)|(refine qI rfl ?_ ?_<;>intro hc<;>(try simp only [go_sem] at hc))|(refine qJ ?_ ?_<;>intro hc<;>(try simp only [hc])<;>(try simp only [go_sem] at hc)))
 refine DW.loop (ι := { i : Nat // i ≤ l.length }) (fun i => ⟨76, [(23, dI i.1), (22, dI l.length), (21, .c (.sl false 2 (rows eK l))), (4, .box 4 0), (0, .c (.sl false 2 (rows eK l))), (1, dI days)], [(4, .box [.c (.v (.slice none 0 0)), dI 0])]⟩) (fun i => l.length - i.1) ⟨0, Nat.zero_le _⟩ ?_ ?_
 ·refine Ent.to ?_ ?_ <;> simp (disch:=omega) only [qR,qS,qTw,qU,get,Nat.reduceEqDiff,↓reduceIte,qV,qW,qX,qY,qZ,and_self,dI,i64_in,and_true,true_and,rA,rB,rC,rD]
 rintro ⟨i, hi⟩
 rcases at_or l i hi with ⟨v, hv, hlt, hd⟩ | ⟨he, hd⟩
 ·have hm := h.mem v (List.mem_of_getElem? hv)
  have h3 := crIn true 0 10000 [v.1] (by simp) (by simpa using hm.1)
  have h4 := crIn true 0 1000 [v.2] (by simp) (by simpa using hm.2)
  rcases i with _ | i
  ·have hd0 : decide ((0 : Int) < ((0 : Nat) : Int)) = false := by decide
   have hd' : decide ((0 : Int) < (l.length : Int)) = true := hd
   repeat' (first|(with_reducible first|apply qA|apply qB|apply qC|apply qD|apply qE|apply qF)|(refine qL rfl (WF.of ?_) ?_; first|rfl|skip)|(simp (disch:=omega) only [go_sem, simprocAttr, Blk.men, Blk.keysIn, hd', hv, hd0, rF, rG])|exact qM rfl rfl rfl|(refine qG rfl ?_)|(refine qK (h3) (by decide) ?_)|(refine qK (h4) (by decide) ?_)|(refine qH rfl ?_)|(refine qI rfl ?_ ?_<;>intro hc<;>(try simp only [go_sem] at hc))|(refine qJ ?_ ?_<;>intro hc<;>(try simp only [hc])<;>(try simp only [go_sem] at hc)))
   refine ⟨⟨1, hlt⟩, ?_, Ent.to ?_ ?_⟩ <;> first | (show _ < _; (try simp only); omega) | (simp (disch:=omega) only [qR,qS,qTw,qU,get,Nat.reduceEqDiff,↓reduceIte,qV,qW,qX,qY,qZ,and_self,dI,i64_in,and_true,true_and,rA,rB,rC,rD])
  ·have hd0 : decide ((0 : Int) < ((i + 1 : Nat) : Int)) = true := by rw [decide_eq_true_eq]; omega
   obtain ⟨u, hu⟩ := getE (l := l) (i := i) (by omega)
   have hs := h.step i u v hu hv
   have e1 : ((i + 1 : Nat) : Int) - 1 = (i : Int) := by omega
   have d1 : decide (v.1 ≤ u.1) = false := by rw [decide_eq_false_iff_not]; omega
   have d2 : decide (u.2 < v.2) = false := by rw [decide_eq_false_iff_not]; omega
   repeat' (first|(with_reducible first|apply qA|apply qB|apply qC|apply qD|apply qE|apply qF)|(refine qL rfl (WF.of ?_) ?_; first|rfl|skip)|(simp (disch:=omega) only [go_sem, simprocAttr, Blk.men, Blk.keysIn, hd, hv, hd0, hu, e1, d1, d2, rF, rG])|exact qM rfl rfl rfl|(refine qG rfl ?_)|(refine qK (h3) (by decide) ?_)|(refine qK (h4) (by decide) ?_)|(refine qH rfl ?_)|(refine qI rfl ?_ ?_<;>intro hc<;>(try simp only [go_sem] at hc))|(refine qJ ?_ ?_<;>intro hc<;>(try simp only [hc])<;>(try simp only [go_sem] at hc)))
   refine ⟨⟨i + 1 + 1, hlt⟩, ?_, Ent.to ?_ ?_⟩ <;> first | (show _ < _; (try simp only); omega) | (simp (disch:=omega) only [qR,qS,qTw,qU,get,Nat.reduceEqDiff,↓reduceIte,qV,qW,qX,qY,qZ,and_self,dI,i64_in,and_true,true_and,rA,rB,rC,rD])
 ·repeat' (first|(with_reducible first|apply qA|apply qB|apply qC|apply qD|apply qE|apply qF)|(refine qL rfl (WF.of ?_) ?_; first|rfl|skip)|(simp (disch:=omega) only [go_sem, simprocAttr, Blk.men, Blk.keysIn, hd])|exact qM rfl rfl rfl|(refine qG rfl ?_)|(refine qK (h2) (by decide) ?_)|(refine qH rfl ?_)|(refine qI rfl ?_ ?_<;>intro hc<;>(try simp only [go_sem] at hc))|(refine qJ ?_ ?_<;>intro hc<;>(try simp only [hc])<;>(try simp only [go_sem] at hc)))
  refine retS_wk rfl ?_ (by simp only [Blk.nb, rowC_nb, D.nb, D.nbs, C.nb, C.nbs, C.nbss, rows_nb eI_nb, Bool.and_true, Bool.not_false, Bool.and_self, bD, dI, iD, rows_nb eK_nb, rows_nb eLd_nb]); exact .tup (.cons (.refl _) (.cons (.refl _) .nil))
def stepOk (l : List (Int × Int)) (j : Nat) : Prop := ∀ v, l[j]? = some v → ((0 ≤ v.1 ∧ v.1 ≤ 10000) ∧ (0 ≤ v.2 ∧ v.2 ≤ 1000)) ∧ ∀ k u, j = k + 1 → l[k]? = some u → u.1 < v.1 ∧ v.2 ≤ u.2
theorem tabF_of {l : List (Int × Int)} (h1 : 1 ≤ l.length ∧ l.length ≤ 10) (h2 : ∀ u, l[0]? = some u → u.1 = 0) (h3 : ∀ j, j < l.length → stepOk l j) : TabF l := by
 refine ⟨h1, h2, fun s hs => ?_, fun i u v hu hv => ?_⟩
 ·obtain ⟨j, hj⟩ := List.mem_iff_getElem?.1 hs
  exact (h3 j (List.getElem?_eq_some_iff.1 hj).1 s hj).1
 ·exact (h3 (i + 1) (List.getElem?_eq_some_iff.1 hv).1 v hv).2 i u rfl hu
def lastI (days : Int) (l : List (Int × Int)) (k : Int) : Int := l.foldl (fun k s => if s.1 ≤ days then s.2 else k) k
theorem lastI_b (days : Int) : ∀ (l : List (Int × Int)) (k : Int), (∀ s ∈ l, 0 ≤ s.2 ∧ s.2 ≤ 1000) → (0 ≤ k ∧ k ≤ 1000) → 0 ≤ lastI days l k ∧ lastI days l k ≤ 1000
 | [], _, _, hk => hk
 | s :: t, k, h, hk => by
  refine lastI_b days t _ (fun x hx => h x (by simp [hx])) ?_
  have := h s (by simp)
  show 0 ≤ (if s.1 ≤ days then s.2 else k) ∧ (if s.1 ≤ days then s.2 else k) ≤ 1000
  split <;> omega
theorem lastI_take (days : Int) {l : List (Int × Int)} {i : Nat} {v : Int × Int} (hv : l[i]? = some v) : lastI days (l.take (i + 1)) 0 = if v.1 ≤ days then v.2 else lastI days (l.take i) 0 := by
 rw [List.take_add_one, hv]
 simp only [lastI, Option.toList_some, List.foldl_append, List.foldl_cons, List.foldl_nil]
theorem tdiv_b {a b : Int} {A : Int} (ha : 0 ≤ a ∧ a ≤ A) (hb : 0 ≤ b) : 0 ≤ a.tdiv b ∧ a.tdiv b ≤ A := by
 rw [Int.tdiv_eq_ediv_of_nonneg ha.1]
 exact ⟨Int.ediv_nonneg ha.1 hb, Int.le_trans (Int.ediv_le_self b ha.1) ha.2⟩
theorem crLast (b : Bool) (l : List (Int × Int)) (days : Int) (hl : l.length ≤ 1000) : DCall Try.prog 119 [.agg [.c (.sl b 2 (rows eK l)), dI days]] [] (dI (lastI days l 0)) [] := by
 refine DCall.of Try.func119 sf119 hb119 (Nat.le_of_ble_eq_true rfl) (okRes_nil fun _ => rfl) ?_; simp only [s119, idxs, Nat.reduceAdd]
 repeat' (first|(with_reducible first|apply qA|apply qB|apply qC|apply qD|apply qE|apply qF)|(simp (disch:=omega) only [go_sem, simprocAttr, Blk.men, Blk.keysIn])|exact qM rfl rfl rfl|(refine qG rfl ?_)|(refine qH rfl ?_)|(refine qI rfl ?_ ?_<;>intro hc<;>(try simp only [go_sem] at hc))|(refine qJ ?_ ?_<;>intro hc<;>(try simp only [hc])<;>(try simp only [go_sem] at hc)))
 refine DW.loop (ι := { i : Nat // i ≤ l.length }) (fun i => ⟨21, [(8, dI i.1), (7, dI l.length), (6, .c (.sl b 2 (rows eK l))), (2, dI (lastI days (l.take i.1) 0)), (1, .box 1 0)], [(1, .box [.c (.sl b 2 (rows eK l)), dI days])]⟩) (fun i => l.length - i.1) ⟨0, Nat.zero_le _⟩ ?_ ?_
 ·refine Ent.to ?_ ?_ <;> simp (disch:=omega) only [qR,qS,qTw,qU,get,Nat.reduceEqDiff,↓reduceIte,qV,qW,qX,qY,qZ,and_self,dI,i64_in,and_true,true_and,rA,rB,rC,rD,lastI,List.take_zero,List.foldl_nil]
 rintro ⟨i, hi⟩
 rcases at_or l i hi with ⟨v, hv, hlt, hd⟩ | ⟨he, hd⟩
 ·have hnx := lastI_take days hv
  cases hc : decide (v.1 ≤ days) with
  | true =>
   rw [if_pos (of_decide_eq_true hc)] at hnx
   repeat' (first|(with_reducible first|apply qA|apply qB|apply qC|apply qD|apply qE|apply qF)|(simp (disch:=omega) only [go_sem, simprocAttr, Blk.men, Blk.keysIn, hd, hv, hc, rF, rG])|exact qM rfl rfl rfl|(refine qG rfl ?_)|(refine qH rfl ?_)|(refine qI rfl ?_ ?_<;>intro hc<;>(try simp only [go_sem] at hc))|(refine qJ ?_ ?_<;>intro hc<;>(try simp only [hc])<;>(try simp only [go_sem] at hc)))
   refine ⟨⟨i + 1, hlt⟩, ?_, Ent.to ?_ ?_⟩ <;> first | (show _ < _; (try simp only); omega) | (simp (disch:=omega) only [qR,qS,qTw,qU,get,Nat.reduceEqDiff,↓reduceIte,qV,qW,qX,qY,qZ,and_self,dI,i64_in,and_true,true_and,rA,rB,rC,rD, hnx])
  | false =>
   rw [if_neg (of_decide_eq_false hc)] at hnx
   repeat' (first|(with_reducible first|apply qA|apply qB|apply qC|apply qD|apply qE|apply qF)|(simp (disch:=omega) only [go_sem, simprocAttr, Blk.men, Blk.keysIn, hd, hv, hc, rF, rG])|exact qM rfl rfl rfl|(refine qG rfl ?_)|(refine qH rfl ?_)|(refine qI rfl ?_ ?_<;>intro hc<;>(try simp only [go_sem] at hc))|(refine qJ ?_ ?_<;>intro hc<;>(try simp only [hc])<;>(try simp only [go_sem] at hc)))
   refine ⟨⟨i + 1, hlt⟩, ?_, Ent.to ?_ ?_⟩ <;> first | (show _ < _; (try simp only); omega) | (simp (disch:=omega) only [qR,qS,qTw,qU,get,Nat.reduceEqDiff,↓reduceIte,qV,qW,qX,qY,qZ,and_self,dI,i64_in,and_true,true_and,rA,rB,rC,rD, hnx])
 ·repeat' (first|(with_reducible first|apply qA|apply qB|apply qC|apply qD|apply qE|apply qF)|(simp (disch:=omega) only [go_sem, simprocAttr, Blk.men, Blk.keysIn, hd])|exact qM rfl rfl rfl|(refine qG rfl ?_)|(refine qH rfl ?_)|(refine qI rfl ?_ ?_<;>intro hc<;>(try simp only [go_sem] at hc))|(refine qJ ?_ ?_<;>intro hc<;>(try simp only [hc])<;>(try simp only [go_sem] at hc)))
  refine retS_of rfl ?_ rfl; simp only [oneD, St.op, get, Nat.reduceEqDiff, ↓reduceIte, Option.getD_some, bD, dI]
  rw [he, List.take_length]
def bearsI (b : Lod) (k : Int) : Int := (b.sl * k).tdiv 1000
theorem crBears (b : Lod) (h : b.ok) (k : Int) (hk : 0 ≤ k ∧ k ≤ 1000) : DCall Try.prog 118 [.agg ((eLd b).map D.c), dI k] [] (dI (bearsI b k)) [] := by
 have hs := h.strong
 have hm := mulB0 (a := b.sl) (b := k) (A := 20000000) (B := 1000) (by omega) hk
 have hq := tdiv_b (b := 1000) (A := 20000000000) (a := b.sl * k) (by omega) (by decide)
 unfold bearsI
 refine DCall.of Try.func118 sf118 hb118 (Nat.le_of_ble_eq_true rfl) (okRes_nil fun _ => rfl) ?_; simp only [s118, idxs, Nat.reduceAdd]
 repeat' (first|(with_reducible first|apply qA|apply qB|apply qC|apply qD|apply qE|apply qF)|(simp (disch:=omega) only [go_sem, simprocAttr, Blk.men, Blk.keysIn, rF, rG])|exact qM rfl rfl rfl|(refine qG rfl ?_)|(refine qH rfl ?_)|(refine qI rfl ?_ ?_<;>intro hc<;>(try simp only [go_sem] at hc))|(refine qJ ?_ ?_<;>intro hc<;>(try simp only [hc])<;>(try simp only [go_sem] at hc)))
def highI (b : Lod) (l : List (Int × Int)) (days : Int) : Int := if b.wh = 0 then 50 else if 1 + (bearsI b (lastI days l 0)).tdiv b.wh < 50 then 1 + (bearsI b (lastI days l 0)).tdiv b.wh else 50
theorem crHigh (b : Lod) (h : b.ok) (l : List (Int × Int)) (days : Int) (ht : TabOk l days) : DCall Try.prog 91 [.agg ((eLd b).map D.c), .c (.sl false 2 (rows eK l)), dI days] [] (.tup [dI (highI b l days), dI 0]) [] := by
 have h1 := crBoxes true [b] 1 (by simp) (by simp) (by simpa using h)
 have h2 := crTable l days ht
 have h3 := crLast false l days (by have := ht.len; omega)
 have hk := lastI_b days l 0 (fun s hs => (ht.mem s hs).2) (by decide)
 have h4 := crBears b h (lastI days l 0) hk
 have hs := h.strong
 have hw := h.weight
 unfold highI
 have hbb : 0 ≤ bearsI b (lastI days l 0) ∧ bearsI b (lastI days l 0) ≤ 20000000000 := by
  have hm := mulB0 (a := b.sl) (b := lastI days l 0) (A := 20000000) (B := 1000) (by omega) hk
  exact tdiv_b (by omega) (by decide)
 generalize lastI days l 0 = k at *
 generalize bearsI b k = be at *
 by_cases h0 : b.wh = 0
 ·have he : (b.wh == 0) = true := by rw [h0]; rfl
  rw [if_pos h0]
  refine DCall.of Try.func91 sf91 hb91 (Nat.le_of_ble_eq_true rfl) (okRes_nil fun _ => rfl) ?_; simp only [s91, idxs, Nat.reduceAdd]
  repeat' (first|(with_reducible first|apply qA|apply qB|apply qC|apply qD|apply qE|apply qF)|(refine qL rfl (WF.of ?_) ?_; first|rfl|skip)|(simp (disch:=omega) only [go_sem, simprocAttr, Blk.men, Blk.keysIn, rF, rG, he])|exact qM rfl rfl rfl|(refine qG rfl ?_)|(refine qK (h1) (by decide) ?_)|(refine qK (h2) (by decide) ?_)|(refine qH rfl ?_)|(refine qI rfl ?_ ?_<;>intro hc<;>(try simp only [go_sem] at hc))|(refine qJ ?_ ?_<;>intro hc<;>(try simp only [hc])<;>(try simp only [go_sem] at hc)))
 ·have he : (b.wh == 0) = false := by rw [beq_eq_false_iff_ne]; exact h0
  have hz : (b.wh = 0) = False := eq_false h0
  have hq := tdiv_b (b := b.wh) hbb (by omega)
  rw [if_neg h0]
  refine DCall.of Try.func91 sf91 hb91 (Nat.le_of_ble_eq_true rfl) (okRes_nil fun _ => rfl) ?_; simp only [s91, idxs, Nat.reduceAdd]
  repeat' (first|(with_reducible first|apply qA|apply qB|apply qC|apply qD|apply qE|apply qF)|(refine qL rfl (WF.of ?_) ?_; first|rfl|skip)|(simp (disch:=omega) only [go_sem, simprocAttr, Blk.men, Blk.keysIn, rF, rG, he, hz])|exact qM rfl rfl rfl|(refine qG rfl ?_)|(refine qK (h1) (by decide) ?_)|(refine qK (h2) (by decide) ?_)|(refine qK (h3) (by decide) ?_)|(refine qK (h4) (by decide) ?_)|(refine qH rfl ?_)|(refine qI rfl ?_ ?_<;>intro hc<;>(try simp only [go_sem] at hc))|(refine qJ ?_ ?_<;>intro hc<;>(try simp only [hc])<;>(try simp only [go_sem] at hc)))
end Go.Dw.Seat
end
section
set_option linter.unusedSimpArgs false
set_option maxRecDepth 100000
namespace Go.Dw.Seat
open Go Go.Dw Go.Proofs Go.IntWalk
def newt (n : Int) : Int := (n + 99) / 100
theorem plNewton (n : Int) (h : 0 ≤ n ∧ n ≤ 5000000) : DCall Try.prog 92 [dI n] [] (dI (newt n)) [] := by
 have ht : Int.tdiv (n + 99) 100 = (n + 99) / 100 := Int.tdiv_eq_ediv_of_nonneg (by omega)
 unfold newt
 refine DCall.of Try.func92 sf92 hb92 (Nat.le_of_ble_eq_true rfl) (okRes_nil fun _ => rfl) ?_; simp only [s92, idxs, Nat.reduceAdd]
 repeat' (first|(with_reducible first|apply qA|apply qB|apply qC|apply qD|apply qE|apply qF)|(simp (disch:=omega) only [go_sem, simprocAttr, qN, qO, qP, qQ, ht])|exact qM rfl rfl rfl|(refine qG rfl ?_)|(refine qH rfl ?_)|(refine qI rfl ?_ ?_<;>intro hc<;>(try simp only [go_sem] at hc))|(refine qJ ?_ ?_<;>intro hc<;>(try simp only [hc])<;>(try simp only [go_sem] at hc)))
def lodF (b : PBx) : Lod := ⟨b.sl, b.sh, newt b.wl, newt b.wh⟩
theorem lodF_ok {b : PBx} (hb : b.ok) : (lodF b).ok := by
 have h1 := hb.w
 have h2 := hb.s
 refine ⟨h2, ?_⟩
 simp only [lodF, newt]
 omega
def layI (p : PBs) (b : PBx) (n : Int) (hg : Int) : Int :=
 if 0 < n * b.wh then min (min (min 30 hg) (max 0 (p.top - p.hi) / b.hi)) (p.load / (n * b.wh)) else min (min 30 hg) (max 0 (p.top - p.hi) / b.hi)
set_option maxHeartbeats 4000000 in
theorem plLayersX (p : PBs) (b : PBx) (l : List PPl) (hl : l.length ≤ 2 ^ 36) (keep : List (Int × Int)) (days : Int) (ht : TabOk keep days) : DCall Try.prog 52 [bsD p, bxD b, lyD false l, .c (.sl false 2 (rows eK keep)), dI days] [] (.tup [dI (if rgtE p b [l] = 0 ∧ l ≠ [] then layI p b l.length (highI (lodF b) keep days) else 0), dI (if rgtE p b [l] ≠ 0 then rgtE p b [l] else if l = [] then 7 else 0)]) [] := by
 have h3 := plRight true p b [l] (by simp) (by simpa using hl)
 rw [one_ls] at h3
 by_cases hr : rgtE p b [l] = 0
 case neg =>
  rw [if_neg (fun h => hr h.1), if_pos hr]
  generalize rgtE p b [l] = e at *
  have hd : (e != 0) = true := by simpa using hr
  by_cases hc : chkE p b = 0
  ·rw [if_pos hc] at h3
   refine DCall.of Try.func52 sf52 hb52 (Nat.le_of_ble_eq_true rfl) (okRes_nil fun _ => rfl) ?_; simp only [s52, idxs, Nat.reduceAdd]
   repeat' (first|(with_reducible first|apply qA|apply qB|apply qC|apply qD|apply qE|apply qF)|(refine qL rfl (WF.of ?_) ?_; first|rfl|skip)|(simp (disch:=omega) only [go_sem, simprocAttr, qN, qO, qP, qQ, hd])|exact qM rfl rfl rfl|(refine qG rfl ?_)|(refine qK (h3) (by decide) ?_)|(refine qH rfl ?_)|(refine qI rfl ?_ ?_<;>intro hc<;>(try simp only [go_sem] at hc))|(refine qJ ?_ ?_<;>intro hc<;>(try simp only [hc])<;>(try simp only [go_sem] at hc)))
  ·rw [if_neg hc] at h3
   refine DCall.of Try.func52 sf52 hb52 (Nat.le_of_ble_eq_true rfl) (okRes_nil fun _ => rfl) ?_; simp only [s52, idxs, Nat.reduceAdd]
   repeat' (first|(with_reducible first|apply qA|apply qB|apply qC|apply qD|apply qE|apply qF)|(refine qL rfl (WF.of ?_) ?_; first|rfl|skip)|(simp (disch:=omega) only [go_sem, simprocAttr, qN, qO, qP, qQ, hd])|exact qM rfl rfl rfl|(refine qG rfl ?_)|(refine qK (h3) (by decide) ?_)|(refine qH rfl ?_)|(refine qI rfl ?_ ?_<;>intro hc<;>(try simp only [go_sem] at hc))|(refine qJ ?_ ?_<;>intro hc<;>(try simp only [hc])<;>(try simp only [go_sem] at hc)))
 obtain ⟨ho, hli⟩ := rgt_op hr
 obtain ⟨⟨hc, hy⟩, hp, hb⟩ := op_ok ho
 have k1 := ly_ok hy l (by simp)
 rw [hr, if_pos hc] at h3
 rw [hr]
 by_cases hn : l = []
 ·rw [if_neg (fun h => h.2 hn), if_neg (by simp), if_pos hn]
  have hd : ((l.length : Int) == 0) = true := by rw [hn]; rfl
  refine DCall.of Try.func52 sf52 hb52 (Nat.le_of_ble_eq_true rfl) (okRes_nil fun _ => rfl) ?_; simp only [s52, idxs, Nat.reduceAdd]
  repeat' (first|(with_reducible first|apply qA|apply qB|apply qC|apply qD|apply qE|apply qF)|(refine qL rfl (WF.of ?_) ?_; first|rfl|skip)|(simp (disch:=omega) only [go_sem, simprocAttr, qN, qO, qP, qQ, hd])|exact qM rfl rfl rfl|(refine qG rfl ?_)|(refine qK (h3) (by decide) ?_)|(refine qH rfl ?_)|(refine qI rfl ?_ ?_<;>intro hc<;>(try simp only [go_sem] at hc))|(refine qJ ?_ ?_<;>intro hc<;>(try simp only [hc])<;>(try simp only [go_sem] at hc)))
 have hnl : 0 < l.length := List.length_pos_iff.2 hn
 rw [if_pos ⟨rfl, hn⟩, if_neg (by simp), if_neg hn]
 have hd : ((l.length : Int) == 0) = false := by rw [beq_eq_false_iff_ne]; omega
 have hw := hb.w
 have hhi := hb.hi
 have hph := hp.hi
 have hpt := hp.top
 have hpl := hp.load
 have n1 := plNewton b.wl (by omega)
 have n2 := plNewton b.wh (by omega)
 have hH := crHigh (lodF b) (lodF_ok hb) keep days ht
 simp only [lodF, eLd, List.map_cons, List.map_nil] at hH
 generalize hhg : highI (lodF b) keep days = hg
 rw [show highI ⟨b.sl, b.sh, newt b.wl, newt b.wh⟩ keep days = hg from hhg] at hH
 have hz : (b.hi = 0) = False := eq_false (by omega)
 have hm0 : 0 ≤ (l.length : Int) * b.wh := Int.mul_nonneg (by omega) (by omega)
 have hm1 : (l.length : Int) * b.wh ≤ 200 * 5000000 := Int.mul_le_mul (by omega) (by omega) (by omega) (by omega)
 have w1 : IntKind.i64.wrap ((l.length : Int) * b.wh) = (l.length : Int) * b.wh := IntWalk.i64_in _ (by omega)
 have t1 : Int.tdiv (max 0 (p.top - p.hi)) b.hi = max 0 (p.top - p.hi) / b.hi := Int.tdiv_eq_ediv_of_nonneg (by omega)
 have q1 : 0 ≤ max 0 (p.top - p.hi) / b.hi := Int.ediv_nonneg (by omega) (by omega)
 have q2 : max 0 (p.top - p.hi) / b.hi ≤ max 0 (p.top - p.hi) := Int.ediv_le_self _ (by omega)
 have w2 : IntKind.i64.wrap (max 0 (p.top - p.hi) / b.hi) = max 0 (p.top - p.hi) / b.hi := IntWalk.i64_in _ (by omega)
 unfold layI
 by_cases h0 : 0 < (l.length : Int) * b.wh
 ·have d0 : decide (0 < (l.length : Int) * b.wh) = true := decide_eq_true h0
  have hz2 : ((l.length : Int) * b.wh = 0) = False := eq_false (by omega)
  have t2 : Int.tdiv p.load ((l.length : Int) * b.wh) = p.load / ((l.length : Int) * b.wh) := Int.tdiv_eq_ediv_of_nonneg (by omega)
  have q3 : 0 ≤ p.load / ((l.length : Int) * b.wh) := Int.ediv_nonneg (by omega) (by omega)
  have q4 : p.load / ((l.length : Int) * b.wh) ≤ p.load := Int.ediv_le_self _ (by omega)
  have w3 : IntKind.i64.wrap (p.load / ((l.length : Int) * b.wh)) = p.load / ((l.length : Int) * b.wh) := IntWalk.i64_in _ (by omega)
  rw [if_pos h0]
  refine DCall.of Try.func52 sf52 hb52 (Nat.le_of_ble_eq_true rfl) (okRes_nil fun _ => rfl) ?_; simp only [s52, idxs, Nat.reduceAdd]
  repeat' (first|(with_reducible first|apply qA|apply qB|apply qC|apply qD|apply qE|apply qF)|(refine qL rfl (WF.of ?_) ?_; first|rfl|skip)|(simp (disch:=omega) only [go_sem, simprocAttr, qN, qO, qP, qQ, hd, d0, hz, hz2, w1, w2, w3, t1, t2, min_if, max_if, rF, rG])|exact qM rfl rfl rfl|(refine qG rfl ?_)|(refine qK (h3) (by decide) ?_)|(refine qK (n1) (by decide) ?_)|(refine qK (n2) (by decide) ?_)|(refine qK (hH) (by decide) ?_)|(refine qH rfl ?_)|(refine qI rfl ?_ ?_<;>intro hc<;>(try simp only [go_sem] at hc))|(refine qJ ?_ ?_<;>intro hc<;>(try simp only [hc])<;>(try simp only [go_sem] at hc)))
  skip
 ·have d0 : decide (0 < (l.length : Int) * b.wh) = false := decide_eq_false h0
  rw [if_neg h0]
  refine DCall.of Try.func52 sf52 hb52 (Nat.le_of_ble_eq_true rfl) (okRes_nil fun _ => rfl) ?_; simp only [s52, idxs, Nat.reduceAdd]
  repeat' (first|(with_reducible first|apply qA|apply qB|apply qC|apply qD|apply qE|apply qF)|(refine qL rfl (WF.of ?_) ?_; first|rfl|skip)|(simp (disch:=omega) only [go_sem, simprocAttr, qN, qO, qP, qQ, hd, d0, hz, w1, w2, t1, min_if, max_if, rF, rG])|exact qM rfl rfl rfl|(refine qG rfl ?_)|(refine qK (h3) (by decide) ?_)|(refine qK (n1) (by decide) ?_)|(refine qK (n2) (by decide) ?_)|(refine qK (hH) (by decide) ?_)|(refine qH rfl ?_)|(refine qI rfl ?_ ?_<;>intro hc<;>(try simp only [go_sem] at hc))|(refine qJ ?_ ?_<;>intro hc<;>(try simp only [hc])<;>(try simp only [go_sem] at hc)))
  skip
end Go.Dw.Seat
end
section
set_option linter.unusedSimpArgs false
set_option maxRecDepth 100000
namespace Go.Dw.Seat
open Go Go.Dw Go.Proofs Go.IntWalk
def cells (xs : List Int) : List D := xs.map fun x => dI x
def tops (m : Nat) : List D := List.replicate m .top
theorem cells_get {xs : List Int} {m i : Nat} (h : i < xs.length) : (cells xs ++ tops m)[i]? = some (dI (xs.getD i 0)) := by
 rw [List.getElem?_append_left (by simpa [cells] using h), cells, List.getElem?_map, List.getElem?_eq_getElem h, List.getD_eq_getElem?_getD, List.getElem?_eq_getElem h]
 rfl
theorem cells_set {xs : List Int} {m i : Nat} (h : i < xs.length) (v : Int) : (cells xs ++ tops m).set i (D.c (.v (.int .i64 v))) = cells (xs.set i v) ++ tops m := by
 rw [List.set_append_left _ _ (by simpa [cells] using h), cells, cells, List.map_set]
theorem cells_spl {xs : List Int} {m i : Nat} (h : i < xs.length) (v : Int) : List.take i (cells xs ++ tops m) ++ [D.c (.v (.int .i64 v))] ++ List.drop (i + 1) (cells xs ++ tops m) = cells (xs.set i v) ++ tops m := by
 rw [← cells_set h, List.set_eq_take_append_cons_drop, if_pos (by rw [List.length_append]; have : (cells xs).length = xs.length := (by simp [cells]); omega), List.append_assoc]; rfl
theorem cells_len (xs : List Int) (m : Nat) : (cells xs ++ tops m).length = xs.length + m := by simp [cells, tops]
theorem cells_men (j : Nat) (xs : List Int) (m : Nat) : D.mens j (cells xs ++ tops m) = false := by
 induction xs with
 | nil =>
  show D.mens j (tops m) = false
  induction m with
  | zero => rfl
  | succ m ih => simpa [tops, List.replicate_succ, D.mens, D.men] using ih
 | cons x xs ih => simpa [cells, D.mens, D.men, dI] using ih
theorem cells_nb (xs : List Int) (m : Nat) : D.nbs (cells xs ++ tops m) = true := by
 induction xs with
 | nil =>
  show D.nbs (tops m) = true
  induction m with
  | zero => rfl
  | succ m ih => simp only [tops, List.replicate_succ, D.nbs, Bool.and_eq_true]; exact ⟨rfl, ih⟩
 | cons x xs ih => simp only [cells, List.map_cons, List.cons_append, D.nbs, Bool.and_eq_true]; exact ⟨rfl, ih⟩
theorem cells_keys (bx : List (Nat × Blk)) (xs : List Int) (m : Nat) : D.keysIns bx (cells xs ++ tops m) = true := by
 induction xs with
 | nil =>
  show D.keysIns bx (tops m) = true
  induction m with
  | zero => rfl
  | succ m ih => simpa [tops, List.replicate_succ, D.keysIns, D.keysIn] using ih
 | cons x xs ih => simpa [cells, D.keysIns, D.keysIn, dI] using ih
theorem bk_pbx (bx : List (Nat × Blk)) (l : Nat) (ds : List D) : Blk.keysIn bx (.pbox l ds) = D.keysIns bx ds := rfl
theorem bm_pbx (k l : Nat) (ds : List D) : Blk.men k (.pbox l ds) = D.mens k ds := rfl
attribute [go_sem] cells_keys bk_pbx bm_pbx cells_men
theorem flatI (xs : List Int) : (rowC (rows eI xs)).flatten = cells xs := by
 induction xs with
 | nil => rfl
 | cons x xs ih => simp only [rows, rowC, List.map_cons, List.flatten_cons] at ih ⊢; rw [ih]; rfl
def swp1 (xs : List Int) (i j : Nat) : List Int := (xs.set i (xs.getD j 0)).set j (xs.getD i 0)
def swpN (lo L : Nat) : Nat → List Int → List Int
 | 0, xs => xs
 | k + 1, xs => swp1 (swpN lo L k xs) (lo + k) (lo + L - 1 - k)
theorem swpN_len (lo L : Nat) (xs : List Int) : ∀ k, (swpN lo L k xs).length = xs.length
 | 0 => rfl
 | k + 1 => by rw [swpN, swp1, List.length_set, List.length_set, swpN_len lo L xs k]
def revF (lo L : Nat) (xs : List Int) : List Int := swpN lo L (L / 2) xs
theorem pb_ok (k l : Nat) (xs : List Int) (m : Nat) : okRes (.tup []) [(k, .pbox l (cells xs ++ tops m))] := by
 refine ⟨fun _ _ => rfl, fun j x hj i _ => ?_⟩
 simp only [get] at hj
 split at hj
 ·cases hj; exact cells_men i xs m
 ·cases hj
theorem pb_nb (k l : Nat) (xs : List Int) (m : Nat) {j : Nat} {x : Blk} (hk : get j [(k, Blk.pbox l (cells xs ++ tops m))] = some x) : j = k ∧ x = .pbox l (cells xs ++ tops m) ∧ x.nb = true := by
 simp only [get] at hk
 split at hk
 ·rename_i e; cases hk; exact ⟨e, rfl, cells_nb xs m⟩
 ·cases hk
theorem plReverse (l lo L cap m : Nat) (xs : List Int) (hx : xs.length ≤ 7) (hl : lo + L = xs.length) (hc : L ≤ cap) : DCall Try.prog 112 [.c (.v (.slice (some ⟨l, lo, none⟩) L cap))] [(9, .pbox l (cells xs ++ tops m))] (.tup []) [(9, .pbox l (cells (revF lo L xs) ++ tops m))] := by
 refine DCall.of Try.func112 sf112 hb112 (Nat.le_of_ble_eq_true rfl) (pb_ok _ _ _ _) ?_
 simp only [s112, o112_0, o112_1, o112_2, o112_3, o112_4, o112_5, o112_6, o112_7, o112_8, o112_9, o112_10, o112_11, o112_12, o112_13, o112_14, o112_15, idxs, Nat.reduceAdd]
 repeat' (first|(with_reducible first|apply qA|apply qB|apply qC|apply qD|apply qE|apply qF)|(refine DW.ord rfl (WF.of (by first|rfl|simp (disch:=omega) only [go_sem, simprocAttr, qN, qO, qP, qQ])) ?_ ?_ ?_; rotate_left)|rfl|(with_reducible refine And.intro ?_ ?_)|(simp (disch:=omega) only [go_sem, simprocAttr, qN, qO, qP, qQ])|exact qM rfl rfl rfl|(refine qG rfl ?_)|(refine qH rfl ?_)|(refine qI rfl ?_ ?_<;>intro hc<;>(try simp only [go_sem] at hc))|(refine qJ ?_ ?_<;>intro hc<;>(try simp only [hc])<;>(try simp only [go_sem] at hc)))
 refine DW.loop (ι := { i : Nat // i ≤ L / 2 }) (fun i => ⟨28, [(3, dI ((L : Int) - 1 - i.1)), (2, dI i.1), (0, .c (.v (.slice (some ⟨l, lo, none⟩) L cap)))], [(9, .pbox l (cells (swpN lo L i.1 xs) ++ tops m))]⟩) (fun i => L / 2 - i.1) ⟨0, Nat.zero_le _⟩ ?_ ?_
 ·refine Ent.to ?_ ?_ <;> simp (disch:=omega) only [qR,qS,qTw,qU,get,Nat.reduceEqDiff,↓reduceIte,qV,qW,qX,qY,qZ,and_self,dI,i64_in,and_true,true_and,rA,rB,rC,rD,swpN,Int.sub_zero]
  all_goals first | exact ⟨.refl _, .refl _, .refl _⟩ | exact ⟨.refl _, .refl _⟩ | exact .refl _
 rintro ⟨i, hi⟩
 dsimp only
 by_cases hlt : i < L / 2
 ·have hj : (L : Int) - 1 - (i : Int) = ((L - 1 - i : Nat) : Int) := by omega
  have hd : decide ((i : Int) < ((L - 1 - i : Nat) : Int)) = true := decide_eq_true (by omega)
  have hlen := swpN_len lo L xs i
  have hst : swpN lo L (i + 1) xs = swp1 (swpN lo L i xs) (lo + i) (lo + L - 1 - i) := rfl
  have hjj : lo + L - 1 - i = lo + (L - 1 - i) := by omega
  rw [hjj] at hst
  have h1 := cells_get (xs := swpN lo L i xs) (m := m) (i := lo + i) (by omega)
  have h2 := cells_get (xs := swpN lo L i xs) (m := m) (i := lo + (L - 1 - i)) (by omega)
  have h3 := cells_len (swpN lo L i xs) m
  generalize swpN lo L i xs = ys at *
  have h4 := fun v => cells_spl (xs := ys) (m := m) (i := lo + i) (by omega) v
  have h5 := fun v w => cells_spl (xs := ys.set (lo + i) v) (m := m) (i := lo + (L - 1 - i)) (by rw [List.length_set]; omega) w
  have h6 := fun v => cells_get (xs := ys.set (lo + i) v) (m := m) (i := lo + (L - 1 - i)) (by rw [List.length_set]; omega)
  have h7 := fun v => cells_len (ys.set (lo + i) v) m
  have b1 : (i < L) = True := eq_true (by omega)
  have b2 : (L - 1 - i < L) = True := eq_true (by omega)
  have c1 : (lo + i + 1 ≤ ys.length + m) = True := eq_true (by omega)
  have c2 : (lo + (L - 1 - i) + 1 ≤ ys.length + m) = True := eq_true (by omega)
  rw [hj]
  generalize L - 1 - i = j at *
  repeat' (first|(with_reducible first|apply qA|apply qB|apply qC|apply qD|apply qE|apply qF)|(refine DW.ord rfl (WF.of (by first|rfl|simp (disch:=omega) only [go_sem, simprocAttr, qN, qO, qP, qQ, Nat.mul_one, hd, h1, h2, h3, h4, h5, h6, h7, b1, b2, c1, c2, List.length_set])) ?_ ?_ ?_; rotate_left)|rfl|(with_reducible refine And.intro ?_ ?_)|(simp (disch:=omega) only [go_sem, simprocAttr, qN, qO, qP, qQ, Nat.mul_one, hd, h1, h2, h3, h4, h5, h6, h7, b1, b2, c1, c2, List.length_set])|exact qM rfl rfl rfl|(refine qG rfl ?_)|(refine qH rfl ?_)|(refine qI rfl ?_ ?_<;>intro hc<;>(try simp only [go_sem] at hc))|(refine qJ ?_ ?_<;>intro hc<;>(try simp only [hc])<;>(try simp only [go_sem] at hc)))
  have hst2 : swpN lo L (i + 1) xs = (ys.set (lo + i) (ys.getD (lo + j) 0)).set (lo + j) (ys.getD (lo + i) 0) := hst
  have hj2 : (L : Int) - 1 - ((i + 1 : Nat) : Int) = (j : Int) - 1 := by omega
  refine ⟨⟨i + 1, by omega⟩, (by show _ < _; (try simp only); omega), Ent.to ?_ ?_⟩
  ·dsimp only
   rw [hj2]
   simp (disch:=omega) only [qR,qS,qTw,qU,get,Nat.reduceEqDiff,↓reduceIte,qV,qW,qX,qY,qZ,and_self,dI,i64_in,and_true,true_and,rA,rB,rC,rD]
  ·dsimp only
   rw [hst2]
   simp (disch:=omega) only [qR,qS,qTw,qU,get,Nat.reduceEqDiff,↓reduceIte,qV,qW,qX,qY,qZ,and_self,dI,i64_in,and_true,true_and,rA,rB,rC,rD]
 ·have hd : decide ((i : Int) < (L : Int) - 1 - (i : Int)) = false := decide_eq_false (by omega)
  obtain rfl : i = L / 2 := by omega
  rw [revF]
  repeat' (first|(with_reducible first|apply qA|apply qB|apply qC|apply qD|apply qE|apply qF)|(refine DW.ord rfl (WF.of (by first|rfl|simp (disch:=omega) only [go_sem, simprocAttr, qN, qO, qP, qQ, hd])) ?_ ?_ ?_; rotate_left)|rfl|(with_reducible refine And.intro ?_ ?_)|(simp (disch:=omega) only [go_sem, simprocAttr, qN, qO, qP, qQ, hd])|exact qM rfl rfl rfl|(refine qG rfl ?_)|(refine qH rfl ?_)|(refine qI rfl ?_ ?_<;>intro hc<;>(try simp only [go_sem] at hc))|(refine qJ ?_ ?_<;>intro hc<;>(try simp only [hc])<;>(try simp only [go_sem] at hc)))
  exact ⟨.inr rfl, _, [], Ent.refl _, rfl, .refl _, rfl, fun j x hj => by
   obtain ⟨rfl, rfl, hn⟩ := pb_nb 9 l _ m hj
   exact ⟨by simp (disch:=omega) only [go_sem,simprocAttr,qN,qO,qP,qQ], hn⟩⟩
end Go.Dw.Seat
end
section
set_option linter.unusedSimpArgs false
set_option maxRecDepth 100000
namespace Go.Dw.Seat
open Go Go.Dw Go.Proofs Go.IntWalk
def dscF (xs : List Int) : Nat → Nat
 | 0 => 0
 | c + 1 => if xs.getD (c + 1) 0 < xs.getD c 0 then dscF xs c else c + 1
def ascF (xs : List Int) (v : Int) : Nat → Nat
 | 0 => 0
 | j + 1 => if xs.getD (j + 1) 0 < v then ascF xs v j else j + 1
def nxtP (xs : List Int) : Option (List Int) := match dscF xs (xs.length - 1) with
 | 0 => none
 | i + 1 => some (revF (i + 1) (xs.length - (i + 1)) (swp1 xs i (ascF xs (xs.getD i 0) (xs.length - 1))))
def goP : Nat → List Int → List (List Int)
 | 0, _ => []
 | f + 1, xs => xs :: match nxtP xs with
  | none => []
  | some ys => goP f ys
def okP (n : Nat) : Nat → List Int → Bool
 | 0, _ => false
 | f + 1, xs => (xs.length == n && xs.all (fun x => decide (0 ≤ x) && decide (x < n))) && (match dscF xs (n - 1) with | 0 => true | i + 1 => decide (i + 1 < n) && decide (i < ascF xs (xs.getD i 0) (n - 1))) && match nxtP xs with
  | none => true
  | some ys => okP n f ys
def upN (n : Nat) : List Int := (List.range n).map fun i : Nat => (i : Int)
theorem upN_ok : ∀ n : Fin 7, okP n.1 721 (upN n.1) = true := by decide +kernel
theorem upN_succ (n : Nat) : upN (n + 1) = upN n ++ [(n : Int)] := by simp [upN, List.range_succ]
theorem upN_len (n : Nat) : (upN n).length = n := by simp [upN]
def enO (l : List Int) : List D := [dIs true l]
theorem plOrders0 (n : Nat) : DCall Try.prog 81 [dI n] [] (.fn (.func 111) [] [.c (.ro false [.v (.int .i64 n)] 0)]) [] := by
 refine DCall.of Try.func81 sf81 hb81 (Nat.le_of_ble_eq_true rfl) (okRes_nil fun _ => rfl) ?_; simp only [s81, idxs, Nat.reduceAdd]
 repeat' (first|(with_reducible first|apply qA|apply qB|apply qC|apply qD|apply qE|apply qF)|(refine DW.ord rfl (WF.of (by first|rfl|simp (disch:=omega) only [go_sem, simprocAttr, qN, qO, qP, qQ])) ?_ ?_ ?_; rotate_left)|rfl|(with_reducible refine And.intro ?_ ?_)|(simp (disch:=omega) only [go_sem, simprocAttr, qN, qO, qP, qQ])|exact qM rfl rfl rfl|(refine qG rfl ?_)|(refine qH rfl ?_)|(refine qI rfl ?_ ?_<;>intro hc<;>(try simp only [go_sem] at hc))|(refine qJ ?_ ?_<;>intro hc<;>(try simp only [hc])<;>(try simp only [go_sem] at hc)))
 (refine retS_ent (Ent.rel 1 rfl) ?_; simp (disch:=omega) only [go_sem,simprocAttr,qN,qO,qP,qQ])
 refine retS_wk rfl ?_ (by simp only [Blk.nb, rowC_nb, D.nb, D.nbs, C.nb, C.nbs, C.nbss, rows_nb eI_nb, Bool.and_true, Bool.not_false, Bool.and_self, bD, dI, iD]); exact .refl _
theorem del_none {k : Nat} : ∀ {l : List (Nat × Blk)}, get k l = none → del k l = l
 | [], _ => rfl
 | p :: l, h => by
  simp only [get] at h
  split at h
  ·cases h
  ·rename_i hne
   simp only [del]
   rw [if_neg (fun e => hne (by first | exact e | exact e.symm)), del_none h]
end Go.Dw.Seat
end
section
set_option linter.unusedSimpArgs false
set_option maxRecDepth 100000
namespace Go.Dw.Seat
open Go Go.Dw Go.Proofs Go.IntWalk
theorem rowI_len (xs : List Int) : (rowC (rows eI xs)).length = xs.length := by simp [rowC, rows]
theorem los_map (cs : List C) : D.los (cs.map D.c) = true := by
 induction cs with
 | nil => rfl
 | cons c cs ih => simp only [List.map_cons, D.los, D.lo, ih, Bool.and_self]
theorem lo_row (es : List (List C)) (n : Nat) : Blk.lo (.row n (rowC es)) = true := by
 simp only [Blk.lo, rowC, List.all_map, List.all_eq_true]
 intro e _
 exact los_map e
theorem loB9 {tm : List (Nat × D)} (xs : List Int) (h : tm.all (fun p => p.2.lo) = true) : loB tm [(9, .row 1 (rowC (rows eI xs)))] = true := by
 simp only [loB, h, List.all_cons, List.all_nil, lo_row, Bool.and_true]; rfl
set_option maxHeartbeats 8000000 in
theorem plOrders1 (n : Nat) (hn : n ≤ 6) : ItB true Try.prog 111 [] [.c (.ro false [.v (.int .i64 n)] 0)] enO (fun _ => True) (goP 721 (upN n)) := by
 intro ly β H stp live _ hW hY b0 hl0
 have hH : ∀ b, HidOk (H b) := fun b => (hW b).toHidOk
 refine DCall.of Try.func111 sf111 hb111 (Nat.le_of_ble_eq_true rfl) (hH _).res ?_
 simp only [s111, idxs, Nat.reduceAdd, List.map_nil, List.map_cons, List.nil_append, List.cons_append]
 have f1 := hid_get (hH b0)
 have f2 := hid_ins (hH b0)
 have f3 := (hH b0).men
 have f4 := (hH b0).lo
 have f5 : ∀ k x, k < 1000 → ins k x (H b0) = H b0 ++ [(k, x)] := fun k x hk => by have := f2 k hk x []; rwa [List.append_nil] at this
 have f6 := fun k (hk : k < 1000) => kill_hid (hH b0) k hk
 repeat' (first|(with_reducible first|apply qA|apply qB|apply qC|apply qD|apply qE|apply qF)|(refine qL rfl (WF.of ?_) ?_; first|rfl|skip)|(refine DW.ord rfl (WF.of (by first|rfl|simp (disch:=omega) only [go_sem, simprocAttr, qN, qO, qP, qQ, f1, f2, f3, f4, f5, ins, rF, rG])) ?_ ?_ ?_; rotate_left)|rfl|(with_reducible refine And.intro ?_ ?_)|(simp (disch:=omega) only [go_sem, simprocAttr, qN, qO, qP, qQ, f1, f2, f3, f4, f5, ins, rF, rG])|exact qM rfl rfl rfl|(refine qG rfl ?_)|(refine qH rfl ?_)|(refine qI rfl ?_ ?_<;>intro hc<;>(try simp only [go_sem] at hc))|(refine qJ ?_ ?_<;>intro hc<;>(try simp only [hc])<;>(try simp only [go_sem] at hc)))
 refine DW.ent (Ent.comm (hH b0) rfl).1 ?_
 simp (disch:=omega) only [go_sem,simprocAttr,qN,qO,qP,qQ,List.cons_append,List.nil_append]
 refine DW.loop (ι := { i : Nat // i ≤ n }) (fun i => ⟨77, [(11, dI i.1), (10, dI n), (3, .own 9), (0, .c (.fn (.yield ly) [] [])), (1, .c (.ro false [.v (.int .i64 n)] 0))], [(9, .row 1 (rowC (rows eI (upN i.1))))] ++ H b0⟩) (fun i => n - i.1) ⟨0, Nat.zero_le _⟩ ?_ ?_
 ·refine Ent.toH (o := [_]) (o' := [_]) (hH b0) rfl ?_ ?_ <;> simp (disch:=omega) only [qR,qS,qTw,qU,get,Nat.reduceEqDiff,↓reduceIte,qV,qW,qX,qY,qZ,and_self,dI,i64_in,and_true,true_and,rA,rB,rC,rD,upN,List.range_zero,rG]
  all_goals first | exact ⟨.refl _, .refl _, .refl _⟩ | exact ⟨.refl _, .refl _⟩ | exact .refl _
 rintro ⟨i, hi⟩
 dsimp only
 have hul := upN_len i
 by_cases hlt : i < n
 ·have hd : decide ((i : Int) < (n : Int)) = true := decide_eq_true (by omega)
  have hs := upN_succ i
  generalize upN i = U at *
  repeat' (first|(with_reducible first|apply qA|apply qB|apply qC|apply qD|apply qE|apply qF)|(refine qL rfl (WF.of ?_) ?_; first|rfl|skip)|(refine DW.ord rfl (WF.of (by first|rfl|simp (disch:=omega) only [go_sem, simprocAttr, qN, qO, qP, qQ, f1, f2, f3, f4, f5, f6, ins, hd, hul, rF, rG])) ?_ ?_ ?_; rotate_left)|rfl|(with_reducible refine And.intro ?_ ?_)|(simp (disch:=omega) only [go_sem, simprocAttr, qN, qO, qP, qQ, f1, f2, f3, f4, f5, f6, ins, hd, hul, rF, rG])|exact qM rfl rfl rfl|(refine qG rfl ?_)|(refine qH rfl ?_)|(refine qI rfl ?_ ?_<;>intro hc<;>(try simp only [go_sem] at hc))|(refine qJ ?_ ?_<;>intro hc<;>(try simp only [hc])<;>(try simp only [go_sem] at hc)))
  refine ⟨⟨i + 1, hlt⟩, (by show _ < _; (try simp only); omega), Ent.toH (o := [_, _]) (o' := [_]) (hH b0) rfl ?_ ?_⟩ <;> simp (disch:=omega) only [qR,qS,qTw,qU,get,Nat.reduceEqDiff,↓reduceIte,qV,qW,qX,qY,qZ,and_self,dI,i64_in,and_true,true_and,rA,rB,rC,rD,hs,rowC_snocI]
  all_goals first | exact ⟨.refl _, .refl _, .refl _⟩ | exact ⟨.refl _, .refl _⟩ | exact .refl _
 have hd : decide ((i : Int) < (n : Int)) = false := decide_eq_false (by omega)
 have hin : i = n := by omega
 subst hin
 have hok := upN_ok ⟨i, by omega⟩
 dsimp only at hok
 generalize upN i = U at *
 clear hlt
 obtain ⟨Z, hZ⟩ : ∃ Z, Z = runB stp b0 (goP 721 U) := ⟨_, rfl⟩
 rw [← hZ]
 repeat' (first|(with_reducible first|apply qA|apply qB|apply qC|apply qD|apply qE|apply qF)|(refine qL rfl (WF.of ?_) ?_; first|rfl|skip)|(refine DW.ord rfl (WF.of (by first|rfl|simp (disch:=omega) only [go_sem, simprocAttr, qN, qO, qP, qQ, hd])) ?_ ?_ ?_; rotate_left)|rfl|(with_reducible refine And.intro ?_ ?_)|(simp (disch:=omega) only [go_sem, simprocAttr, qN, qO, qP, qQ, hd])|exact qM rfl rfl rfl|(refine qG rfl ?_)|(refine qH rfl ?_)|(refine qI rfl ?_ ?_<;>intro hc<;>(try simp only [go_sem] at hc))|(refine qJ ?_ ?_<;>intro hc<;>(try simp only [hc])<;>(try simp only [go_sem] at hc)))
 refine DW.loop (ι := { y : (Nat × List Int) × β // okP i y.1.1 y.1.2 = true ∧ live (goP y.1.1 y.1.2) y.2 ∧ Z = runB stp y.2 (goP y.1.1 y.1.2) })
  (fun y => ⟨77, [(3, .own 9), (0, .c (.fn (.yield ly) [] [])), (1, .c (.ro false [.v (.int .i64 i)] 0))], [(9, .row 1 (rowC (rows eI y.1.1.2)))] ++ H y.1.2⟩) (fun y => y.1.1.1) ⟨((721, U), b0), hok, hl0, hZ⟩ ?_ ?_
 ·refine Ent.toH (o := [_]) (o' := [_]) (hH b0) rfl ?_ ?_ <;> simp (disch:=omega) only [qR,qS,qTw,qU,get,Nat.reduceEqDiff,↓reduceIte,qV,qW,qX,qY,qZ,and_self,dI,i64_in,and_true,true_and,rA,rB,rC,rD]
  all_goals first | exact ⟨.refl _, .refl _, .refl _⟩ | exact ⟨.refl _, .refl _⟩ | exact .refl _
 clear f1 f2 f3 f4 f5 f6
 rintro ⟨⟨⟨f, xs⟩, b1⟩, hok, hlv, hrun⟩
 dsimp only at hok hlv hrun ⊢
 cases f with
 | zero => cases hok
 | succ f =>
  rw [okP, Bool.and_eq_true, Bool.and_eq_true, Bool.and_eq_true, beq_iff_eq] at hok
  obtain ⟨⟨⟨hlen, hall⟩, hst⟩, hnx⟩ := hok
  rw [goP] at hlv hrun
  rw [runB] at hrun
  obtain ⟨hyc, hlv2⟩ := hY b1 xs _ hlv trivial
  have hyc : YCall Try.prog ly [dIs true xs] (H b1) _ _ := hyc
  cases hc : (stp b1 xs).1 with
  | false =>
   rw [hc] at hyc
   rw [hc, if_neg Bool.false_ne_true] at hrun
   repeat' (first|(with_reducible first|apply qA|apply qB|apply qC|apply qD|apply qE|apply qF)|(refine qL rfl (WF.of ?_) ?_; first|rfl|skip)|(refine DW.ord rfl (WF.of (by first|rfl|simp (disch:=omega) only [go_sem, simprocAttr, qN, qO, qP, qQ, rF, rG])) ?_ ?_ ?_; rotate_left)|rfl|(with_reducible refine And.intro ?_ ?_)|(simp (disch:=omega) only [go_sem, simprocAttr, qN, qO, qP, qQ, rF, rG])|exact qM rfl rfl rfl|(refine qG rfl ?_)|(refine qH rfl ?_)|(refine qI rfl ?_ ?_<;>intro hc<;>(try simp only [go_sem] at hc))|(refine qJ ?_ ?_<;>intro hc<;>(try simp only [hc])<;>(try simp only [go_sem] at hc)))
   refine call_y (own := [_]) hyc rfl (by simp (disch:=omega) only [go_sem,simprocAttr,qN,qO,qP,qQ,rF,rG]) (loB9 xs rfl) (hH _) (hH _) (by decide) ?_
   simp (disch:=omega) only [go_sem,simprocAttr,qN,qO,qP,qQ]
   repeat' (first|(with_reducible first|apply qA|apply qB|apply qC|apply qD|apply qE|apply qF)|(refine qL rfl (WF.of ?_) ?_; first|rfl|skip)|(refine DW.ord rfl (WF.of (by first|rfl|simp (disch:=omega) only [go_sem, simprocAttr, qN, qO, qP, qQ])) ?_ ?_ ?_; rotate_left)|rfl|(with_reducible refine And.intro ?_ ?_)|(simp (disch:=omega) only [go_sem, simprocAttr, qN, qO, qP, qQ])|exact qM rfl rfl rfl|(refine qG rfl ?_)|(refine qH rfl ?_)|(refine qI rfl ?_ ?_<;>intro hc<;>(try simp only [go_sem] at hc))|(refine qJ ?_ ?_<;>intro hc<;>(try simp only [hc])<;>(try simp only [go_sem] at hc)))
   rw [hrun]
   exact retS_hid (own := [_]) (.inl rfl) (hH _) (loB9 xs rfl)
  | true =>
   rw [hc] at hyc
   rw [hc, if_pos rfl] at hrun
   have hlv2 := hlv2 hc
   repeat' (first|(with_reducible first|apply qA|apply qB|apply qC|apply qD|apply qE|apply qF)|(refine qL rfl (WF.of ?_) ?_; first|rfl|skip)|(refine DW.ord rfl (WF.of (by first|rfl|simp (disch:=omega) only [go_sem, simprocAttr, qN, qO, qP, qQ, rF, rG])) ?_ ?_ ?_; rotate_left)|rfl|(with_reducible refine And.intro ?_ ?_)|(simp (disch:=omega) only [go_sem, simprocAttr, qN, qO, qP, qQ, rF, rG])|exact qM rfl rfl rfl|(refine qG rfl ?_)|(refine qH rfl ?_)|(refine qI rfl ?_ ?_<;>intro hc<;>(try simp only [go_sem] at hc))|(refine qJ ?_ ?_<;>intro hc<;>(try simp only [hc])<;>(try simp only [go_sem] at hc)))
   refine call_y (own := [_]) hyc rfl (by simp (disch:=omega) only [go_sem,simprocAttr,qN,qO,qP,qQ,rF,rG]) (loB9 xs rfl) (hH _) (hH _) (by decide) ?_
   simp (disch:=omega) only [go_sem,simprocAttr,qN,qO,qP,qQ]
   generalize (stp b1 xs).2 = b2 at *
   have g1 := hid_get (hH b2)
   have g2 := hid_ins (hH b2)
   have g3 := (hH b2).men
   have g4 := (hH b2).lo
   have g5 : ∀ k x, k < 1000 → ins k x (H b2) = H b2 ++ [(k, x)] := fun k x hk => by have := g2 k hk x []; rwa [List.append_nil] at this
   have g6 := (hW b2).app4
   have g7 := (hW b2).app3
   have g8 := fun x => (hW b2).app [(9, x)]
   simp only [List.cons_append, List.nil_append] at g8
   repeat' (first|(with_reducible first|apply qA|apply qB|apply qC|apply qD|apply qE|apply qF)|(refine qL rfl (WF.of ?_) ?_; first|rfl|skip)|(refine DW.ord rfl (WF.of (by first|rfl|simp (disch:=omega) only [go_sem, simprocAttr, qN, qO, qP, qQ, g1, g2, g3, g4, g5, g6, g7, ins])) ?_ ?_ ?_; rotate_left)|rfl|(with_reducible refine And.intro ?_ ?_)|(simp (disch:=omega) only [go_sem, simprocAttr, qN, qO, qP, qQ, g1, g2, g3, g4, g5, g6, g7, ins])|exact qM rfl rfl rfl|(refine qG rfl ?_)|(refine qH rfl ?_)|(refine qI rfl ?_ ?_<;>intro hc<;>(try simp only [go_sem] at hc))|(refine qJ ?_ ?_<;>intro hc<;>(try simp only [hc])<;>(try simp only [go_sem] at hc)))
   obtain ⟨z, hz⟩ : ∃ z : Int, z = if i = 0 then -2 else -1 := ⟨_, rfl⟩
   have he0 : (i : Int) - 2 = ((i - 1 : Nat) : Int) + z := by rw [hz]; split <;> omega
   have hzn : z < 0 := by rw [hz]; split <;> omega
   refine DW.loop (ι := { c : Nat // c ≤ i - 1 ∧ dscF xs (i - 1) = dscF xs c }) (fun c => ⟨77, [(5, dI ((c.1 : Int) + z)), (3, .own 9), (0, .c (.fn (.yield ly) [] [])), (1, .c (.ro false [.v (.int .i64 i)] 0))], [(9, .row 1 (rowC (rows eI xs)))] ++ H b2⟩) (fun c => c.1) ⟨i - 1, Nat.le_refl _, rfl⟩ ?_ ?_
   ·refine Ent.toH (o := [_]) (o' := [_]) (hH b2) rfl ?_ ?_ <;> simp (disch:=omega) only [qR,qS,qTw,qU,get,Nat.reduceEqDiff,↓reduceIte,qV,qW,qX,qY,qZ,and_self,dI,i64_in,and_true,true_and,rA,rB,rC,rD,he0]
    all_goals first | exact ⟨.refl _, .refl _, .refl _⟩ | exact ⟨.refl _, .refl _⟩ | exact .refl _
   rintro ⟨c, hc1, hc2⟩
   dsimp only
   cases c with
   | zero =>
    have hd : decide (0 ≤ z) = false := decide_eq_false (by omega)
    have hd2 : decide (z < 0) = true := decide_eq_true hzn
    have hz0 : ((0 : Nat) : Int) + z = z := by omega
    rw [hz0]
    have hnx0 : nxtP xs = none := by rw [nxtP, hlen, hc2]; rfl
    rw [hnx0, runB] at hrun
    repeat' (first|(with_reducible first|apply qA|apply qB|apply qC|apply qD|apply qE|apply qF)|(refine qL rfl (WF.of ?_) ?_; first|rfl|skip)|(refine DW.ord rfl (WF.of (by first|rfl|simp (disch:=omega) only [go_sem, simprocAttr, qN, qO, qP, qQ, g1, g2, g3, g4, g5, g6, g7, g8, ins, hd, hd2])) ?_ ?_ ?_; rotate_left)|rfl|(with_reducible refine And.intro ?_ ?_)|(simp (disch:=omega) only [go_sem, simprocAttr, qN, qO, qP, qQ, g1, g2, g3, g4, g5, g6, g7, g8, ins, hd, hd2])|exact qM rfl rfl rfl|(refine qG rfl ?_)|(refine qH rfl ?_)|(refine qI rfl ?_ ?_<;>intro hc<;>(try simp only [go_sem] at hc))|(refine qJ ?_ ?_<;>intro hc<;>(try simp only [hc])<;>(try simp only [go_sem] at hc)))
    rw [hrun]
    exact retS_hid (own := [_]) (.inl rfl) (hH _) (loB9 xs rfl)
   | succ c =>
    have hcz : ((c + 1 : Nat) : Int) + z = (c : Int) := by rw [hz, if_neg (by omega)]; omega
    rw [hcz]
    have hcm : (c : Int) + z = (c : Int) - 1 := by rw [hz, if_neg (by omega)]; omega
    have hd : decide (0 ≤ (c : Int)) = true := decide_eq_true (by omega)
    have hg0 : xs[c]? = some (xs.getD c 0) := by rw [List.getD_eq_getElem?_getD, List.getElem?_eq_getElem (by omega)]; rfl
    have hg1 : xs[c + 1]? = some (xs.getD (c + 1) 0) := by rw [List.getD_eq_getElem?_getD, List.getElem?_eq_getElem (by omega)]; rfl
    have hb0 : (c < i) = True := eq_true (by omega)
    have hb1 : (c + 1 < i) = True := eq_true (by omega)
    have hw : IntKind.i64.wrap ((c : Int) + 1) = ((c + 1 : Nat) : Int) := by rw [IntWalk.i64_in _ (by omega)]; omega
    rw [dscF] at hc2
    by_cases hgt : xs.getD (c + 1) 0 < xs.getD c 0
    ·have hd3 : decide (xs.getD (c + 1) 0 < xs.getD c 0) = true := decide_eq_true hgt
     rw [if_pos hgt] at hc2
     repeat' (first|(with_reducible first|apply qA|apply qB|apply qC|apply qD|apply qE|apply qF)|(refine qL rfl (WF.of ?_) ?_; first|rfl|skip)|(refine DW.ord rfl (WF.of (by first|rfl|simp (disch:=omega) only [go_sem, simprocAttr, qN, qO, qP, qQ, g1, g2, g3, g4, g5, g6, g7, g8, ins, hd, hg0, hg1, hb0, hb1, hw, hd3, hlen])) ?_ ?_ ?_; rotate_left)|rfl|(with_reducible refine And.intro ?_ ?_)|(simp (disch:=omega) only [go_sem, simprocAttr, qN, qO, qP, qQ, g1, g2, g3, g4, g5, g6, g7, g8, ins, hd, hg0, hg1, hb0, hb1, hw, hd3, hlen])|exact qM rfl rfl rfl|(refine qG rfl ?_)|(refine qH rfl ?_)|(refine qI rfl ?_ ?_<;>intro hc<;>(try simp only [go_sem] at hc))|(refine qJ ?_ ?_<;>intro hc<;>(try simp only [hc])<;>(try simp only [go_sem] at hc)))
     refine ⟨⟨c, by omega, hc2⟩, (by show _ < _; (try simp only); omega), Ent.toH (o := [_]) (o' := [_]) (hH b2) rfl ?_ ?_⟩ <;> simp (disch:=omega) only [qR,qS,qTw,qU,get,Nat.reduceEqDiff,↓reduceIte,qV,qW,qX,qY,qZ,and_self,dI,i64_in,and_true,true_and,rA,rB,rC,rD,hcm]
     all_goals first | exact ⟨.refl _, .refl _, .refl _⟩ | exact ⟨.refl _, .refl _⟩ | exact .refl _
    ·have hd3 : decide (xs.getD (c + 1) 0 < xs.getD c 0) = false := decide_eq_false hgt
     have hd4 : decide ((c : Int) < 0) = false := decide_eq_false (by omega)
     rw [if_neg hgt] at hc2
     repeat' (first|(with_reducible first|apply qA|apply qB|apply qC|apply qD|apply qE|apply qF)|(refine qL rfl (WF.of ?_) ?_; first|rfl|skip)|(refine DW.ord rfl (WF.of (by first|rfl|simp (disch:=omega) only [go_sem, simprocAttr, qN, qO, qP, qQ, g1, g2, g3, g4, g5, g6, g7, g8, ins, hd, hg0, hg1, hb0, hb1, hw, hd3, hd4, hlen])) ?_ ?_ ?_; rotate_left)|rfl|(with_reducible refine And.intro ?_ ?_)|(simp (disch:=omega) only [go_sem, simprocAttr, qN, qO, qP, qQ, g1, g2, g3, g4, g5, g6, g7, g8, ins, hd, hg0, hg1, hb0, hb1, hw, hd3, hd4, hlen])|exact qM rfl rfl rfl|(refine qG rfl ?_)|(refine qH rfl ?_)|(refine qI rfl ?_ ?_<;>intro hc<;>(try simp only [go_sem] at hc))|(refine qJ ?_ ?_<;>intro hc<;>(try simp only [hc])<;>(try simp only [go_sem] at hc)))
     rw [hc2] at hst
     dsimp only at hst
     rw [Bool.and_eq_true, decide_eq_true_eq, decide_eq_true_eq] at hst
     have hi1 : (i : Int) - 1 = ((i - 1 : Nat) : Int) := by omega
     refine DW.loop (ι := { j : Nat // j ≤ i - 1 ∧ ascF xs (xs.getD c 0) (i - 1) = ascF xs (xs.getD c 0) j }) (fun j => ⟨77, [(6, dI j.1), (5, dI c), (3, .own 9), (0, .c (.fn (.yield ly) [] [])), (1, .c (.ro false [.v (.int .i64 i)] 0))], [(9, .row 1 (rowC (rows eI xs)))] ++ H b2⟩) (fun j => j.1) ⟨i - 1, Nat.le_refl _, rfl⟩ ?_ ?_
     ·refine Ent.toH (o := [_]) (o' := [_]) (hH b2) rfl ?_ ?_ <;> simp (disch:=omega) only [qR,qS,qTw,qU,get,Nat.reduceEqDiff,↓reduceIte,qV,qW,qX,qY,qZ,and_self,dI,i64_in,and_true,true_and,rA,rB,rC,rD,hi1]
      all_goals first | exact ⟨.refl _, .refl _, .refl _⟩ | exact ⟨.refl _, .refl _⟩ | exact .refl _
     rintro ⟨j, hj1, hj2⟩
     dsimp only
     cases j with
     | zero => rw [hj2, ascF] at hst; omega
     | succ j =>
      have hgj : xs[j + 1]? = some (xs.getD (j + 1) 0) := by rw [List.getD_eq_getElem?_getD, List.getElem?_eq_getElem (by omega)]; rfl
      have hbj : (j + 1 < i) = True := eq_true (by omega)
      rw [ascF] at hj2
      by_cases hlt : xs.getD (j + 1) 0 < xs.getD c 0
      ·have hd5 : decide (xs.getD (j + 1) 0 < xs.getD c 0) = true := decide_eq_true hlt
       have hjm : ((j + 1 : Nat) : Int) - 1 = (j : Int) := by omega
       rw [if_pos hlt] at hj2
       repeat' (first|(with_reducible first|apply qA|apply qB|apply qC|apply qD|apply qE|apply qF)|(refine qL rfl (WF.of ?_) ?_; first|rfl|skip)|(refine DW.ord rfl (WF.of (by first|rfl|simp (disch:=omega) only [go_sem, simprocAttr, qN, qO, qP, qQ, g1, g2, g3, g4, g5, g6, g7, g8, ins, hg0, hgj, hb0, hbj, hd5, hlen])) ?_ ?_ ?_; rotate_left)|rfl|(with_reducible refine And.intro ?_ ?_)|(simp (disch:=omega) only [go_sem, simprocAttr, qN, qO, qP, qQ, g1, g2, g3, g4, g5, g6, g7, g8, ins, hg0, hgj, hb0, hbj, hd5, hlen])|exact qM rfl rfl rfl|(refine qG rfl ?_)|(refine qH rfl ?_)|(refine qI rfl ?_ ?_<;>intro hc<;>(try simp only [go_sem] at hc))|(refine qJ ?_ ?_<;>intro hc<;>(try simp only [hc])<;>(try simp only [go_sem] at hc)))
       refine ⟨⟨j, by omega, hj2⟩, (by show _ < _; (try simp only); omega), Ent.toH (o := [_]) (o' := [_]) (hH b2) rfl ?_ ?_⟩ <;> simp (disch:=omega) only [qR,qS,qTw,qU,get,Nat.reduceEqDiff,↓reduceIte,qV,qW,qX,qY,qZ,and_self,dI,i64_in,and_true,true_and,rA,rB,rC,rD,Int.add_sub_cancel]
       all_goals first | exact ⟨.refl _, .refl _, .refl _⟩ | exact ⟨.refl _, .refl _⟩ | exact .refl _
      ·have hd5 : decide (xs.getD (j + 1) 0 < xs.getD c 0) = false := decide_eq_false hlt
       rw [if_neg hlt] at hj2
       repeat' (first|(with_reducible first|apply qA|apply qB|apply qC|apply qD|apply qE|apply qF)|(refine qL rfl (WF.of ?_) ?_; first|rfl|skip)|(refine DW.ord rfl (WF.of (by first|rfl|simp (disch:=omega) only [go_sem, simprocAttr, qN, qO, qP, qQ, g1, g2, g3, g4, g5, g6, g7, g8, ins, hg0, hgj, hb0, hbj, hd5, hlen, set_eI])) ?_ ?_ ?_; rotate_left)|rfl|(with_reducible refine And.intro ?_ ?_)|(simp (disch:=omega) only [go_sem, simprocAttr, qN, qO, qP, qQ, g1, g2, g3, g4, g5, g6, g7, g8, ins, hg0, hgj, hb0, hbj, hd5, hlen, set_eI])|exact qM rfl rfl rfl|(refine qG rfl ?_)|(refine qH rfl ?_)|(refine qI rfl ?_ ?_<;>intro hc<;>(try simp only [go_sem] at hc))|(refine qJ ?_ ?_<;>intro hc<;>(try simp only [hc])<;>(try simp only [go_sem] at hc)))
       have hgs : ∀ v, (xs.set c v)[j + 1]? = some (xs.getD (j + 1) 0) := fun v => by rw [List.getElem?_set_ne (by omega)]; exact hgj
       simp (disch:=omega) only [go_sem,simprocAttr,qN,qO,qP,qQ,g1,g2,g3,g4,g5,g6,g7,g8,ins,hgs,hbj,hlen,set_eI,List.length_set]
       obtain ⟨ys, hys⟩ : ∃ ys, ys = swp1 xs c (j + 1) := ⟨_, rfl⟩
       have hyl : ys.length = i := by rw [hys, swp1, List.length_set, List.length_set]; exact hlen
       rw [show (xs.set c (xs.getD (j + 1) 0)).set (j + 1) (xs.getD c 0) = ys from hys.symm]
       refine DW.ent (σ' := ⟨77, [(5, dI c), (3, .own 9), (0, .c (.fn (.yield ly) [] [])), (1, .c (.ro false [.v (.int .i64 i)] 0))], [(9, .row 1 (rowC (rows eI ys)))] ++ H b2⟩) (Ent.toH (o := [_]) (o' := [_]) (hH b2) rfl ?_ ?_) ?_
       ·simp (disch:=omega) only [qR,qS,qTw,qU,get,Nat.reduceEqDiff,↓reduceIte,qV,qW,qX,qY,qZ,and_self,dI,i64_in,and_true,true_and,rA,rB,rC,rD]
       ·simp (disch:=omega) only [qR,qS,qTw,qU,get,Nat.reduceEqDiff,↓reduceIte,qV,qW,qX,qY,qZ,and_self,dI,i64_in,and_true,true_and,rA,rB,rC,rD]
        all_goals first | exact ⟨.refl _, .refl _⟩ | exact .refl _
       have hci : (c + 1 ≤ i) = True := eq_true (by omega)
       repeat' (first|(with_reducible first|apply qA|apply qB|apply qC|apply qD|apply qE|apply qF)|(refine qL rfl (WF.of ?_) ?_; first|rfl|skip)|(refine DW.ord rfl (WF.of (by first|rfl|simp (disch:=omega) only [go_sem, simprocAttr, qN, qO, qP, qQ, g1, g2, g3, g4, g5, g6, g7, g8, ins, hw, hyl, hci, List.cons_append, List.nil_append])) ?_ ?_ ?_; rotate_left)|rfl|(with_reducible refine And.intro ?_ ?_)|(simp (disch:=omega) only [go_sem, simprocAttr, qN, qO, qP, qQ, g1, g2, g3, g4, g5, g6, g7, g8, ins, hw, hyl, hci, List.cons_append, List.nil_append])|exact qM rfl rfl rfl|(refine qG rfl ?_)|(refine qH rfl ?_)|(refine qI rfl ?_ ?_<;>intro hc<;>(try simp only [go_sem] at hc))|(refine qJ ?_ ?_<;>intro hc<;>(try simp only [hc])<;>(try simp only [go_sem] at hc)))
       refine call_row 9 (n := 1) (es := rowC (rows eI ys)) (es' := rowC (rows eI (revF (c + 1) (i - (c + 1)) ys))) (fs := fun _ => []) (caps := fun _ => []) («as» := fun p => [.c (.v (.slice (some ⟨p.l, (c + 1) * 1, none⟩) (i - (c + 1)) (p.cap - (c + 1))))]) (r := .tup []) ?_ rfl ?_ ?_ ?_ ?_ (fun _ => rfl) (fun _ => rfl) ?_ (fun _ _ => rfl) ?_ ?_ (by decide) ?_
       ·intro p hp
        have h1 := hp.len
        have h2 := hp.cap
        rw [rowI_len, hyl] at h1
        rw [RowAt.blk, RowAt.blk, flatI, flatI, Nat.mul_one]
        exact plReverse p.l (c + 1) (i - (c + 1)) (p.cap - (c + 1)) p.m ys (by omega) (by omega) (by omega)
       ·intro e
        have := congrArg List.length e
        rw [rowI_len, hyl, List.length_nil] at this
        omega
       ·rw [rowI_len, rowI_len, revF, swpN_len]
       ·intro e he
        simp only [rowC, rows, List.map_map, List.mem_map, Function.comp] at he
        obtain ⟨x, _, rfl⟩ := he
        rfl
       ·intro j'
        rw [flatI]
        have := cells_men j' (revF (c + 1) (i - (c + 1)) ys) 0
        rwa [tops, List.replicate_zero, List.append_nil] at this
       ·have e : del 9 ((9, Blk.row 1 (rowC (rows eI ys))) :: H b2) = H b2 := by
         simp only [del, if_true]
         exact del_none (g4 9 (by decide))
        rw [e, List.all_eq_true]
        intro q hq
        have := List.any_eq_false.1 (g3 9 (by decide)) q hq
        simpa using this
       ·intro p hp
        have h1 := hp.len
        have h2 := hp.cap
        rw [rowI_len, hyl] at h1
        have hcond : (c + 1 < p.cap ∧ c + 1 ≤ i ∧ i ≤ p.len) = True := eq_true (by omega)
        simp (disch:=omega) only [go_sem,simprocAttr,qN,qO,qP,qQ,rpT,rpD,hcond,rF,rG]
        skip
       ·intro p hp
        have h1 := hp.len
        have h2 := hp.cap
        rw [rowI_len, hyl] at h1
        have hcond : (c + 1 < p.cap ∧ c + 1 ≤ i ∧ i ≤ p.len) = True := eq_true (by omega)
        simp only [rpT, rpD, hcond, and_self, if_true, List.all_cons, List.all_nil, D.men]
        rfl
       ·have hn1 : nxtP xs = some (revF (c + 1) (i - (c + 1)) ys) := by
         rw [nxtP, hlen, hc2]
         dsimp only
         rw [hj2, hys]
        rw [hn1] at hnx hlv2 hrun
        dsimp only at hnx hlv2 hrun
        have e : del 9 ((9, Blk.row 1 (rowC (rows eI ys))) :: H b2) = H b2 := by
         simp only [del, if_true]
         exact del_none (g4 9 (by decide))
        rw [e]
        simp (disch:=omega) only [go_sem,simprocAttr,qN,qO,qP,qQ]
        repeat' (first|(with_reducible first|apply qA|apply qB|apply qC|apply qD|apply qE|apply qF)|(refine qL rfl (WF.of ?_) ?_; first|rfl|skip)|(refine DW.ord rfl (WF.of (by first|rfl|simp (disch:=omega) only [go_sem, simprocAttr, qN, qO, qP, qQ])) ?_ ?_ ?_; rotate_left)|rfl|(with_reducible refine And.intro ?_ ?_)|(simp (disch:=omega) only [go_sem, simprocAttr, qN, qO, qP, qQ])|exact qM rfl rfl rfl|(refine qG rfl ?_)|(refine qH rfl ?_)|(refine qI rfl ?_ ?_<;>intro hc<;>(try simp only [go_sem] at hc))|(refine qJ ?_ ?_<;>intro hc<;>(try simp only [hc])<;>(try simp only [go_sem] at hc)))
        refine ⟨⟨((f, revF (c + 1) (i - (c + 1)) ys), b2), hnx, hlv2, hrun⟩, (by show _ < _; (try simp only); omega), Ent.toH (o := [_]) (o' := [_]) (hH b2) rfl ?_ ?_⟩ <;> simp (disch:=omega) only [qR,qS,qTw,qU,get,Nat.reduceEqDiff,↓reduceIte,qV,qW,qX,qY,qZ,and_self,dI,i64_in,and_true,true_and,rA,rB,rC,rD]
        all_goals first | exact ⟨.refl _, .refl _⟩ | exact .refl _
end Go.Dw.Seat
end
section
set_option linter.unusedSimpArgs false
set_option maxRecDepth 100000
namespace Go.Dw.Seat
open Go Go.Dw Go.Proofs Go.IntWalk
set_option maxHeartbeats 1000000 in
theorem plCloneC (b : Bool) (l : List Int) (hl : l.length ≤ 2 ^ 36) : DCall Try.prog 83 [dIs b l] [] (dIs false l) [] := by
 cases l with
 | nil =>
  refine DCall.nil1 (fun a c => ?_)
  cases a with
  | none =>
   refine DCall.of Try.func83 sf83 hb83 (Nat.le_of_ble_eq_true rfl) (okRes_nil fun _ => rfl) ?_; simp only [s83, idxs, Nat.reduceAdd]
   repeat' (first|(with_reducible first|apply qA|apply qB|apply qC|apply qD|apply qE|apply qF)|(simp (disch:=omega) only [go_sem, simprocAttr, qN, qO, qP, qQ, Option.isNone])|exact qM rfl rfl rfl|(refine qG rfl ?_)|(refine qH rfl ?_)|(refine qI rfl ?_ ?_<;>intro hc<;>(try simp only [go_sem] at hc))|(refine qJ ?_ ?_<;>intro hc<;>(try simp only [hc])<;>(try simp only [go_sem] at hc)))
   refine retS_wk rfl ?_ (by simp only [Blk.nb, rowC_nb, D.nb, D.nbs, C.nb, C.nbs, C.nbss, rows_nb eI_nb, Bool.and_true, Bool.not_false, Bool.and_self, bD, dI, iD]); exact .nil _ _
  | some a =>
   refine DCall.of Try.func83 sf83 hb83 (Nat.le_of_ble_eq_true rfl) (okRes_nil fun _ => rfl) ?_; simp only [s83, idxs, Nat.reduceAdd]
   refine DW.seq (DW.reg ?_)
   simp (disch:=omega) only [go_sem,simprocAttr,qN,qO,qP,qQ]
   refine DW.seq (DW.seq (DW.reg ?_))
   simp (disch:=omega) only [go_sem,simprocAttr,qN,qO,qP,qQ,Option.isNone]
   refine DW.cond_ff rfl (DW.skip ?_)
   simp (disch:=omega) only [go_sem,simprocAttr,qN,qO,qP,qQ]
   refine DW.ent (Ent.to (tm' := [(0, .c (.sl b 1 []))]) (bx' := []) (by simp (disch:=omega) only [qR,qS,qTw,qU,get,Nat.reduceEqDiff,↓reduceIte,qV,qW,qX,qY,qZ,and_self,dI,i64_in,and_true,true_and,rA,rB,rC,rD]) trivial) ?_
   repeat' (first|(with_reducible first|apply qA|apply qB|apply qC|apply qD|apply qE|apply qF)|(simp (disch:=omega) only [go_sem, simprocAttr, qN, qO, qP, qQ])|exact qM rfl rfl rfl|(refine qG rfl ?_)|(refine qH rfl ?_)|(refine qI rfl ?_ ?_<;>intro hc<;>(try simp only [go_sem] at hc))|(refine qJ ?_ ?_<;>intro hc<;>(try simp only [hc])<;>(try simp only [go_sem] at hc)))
   (refine retS_ent (Ent.rel 5 rfl) ?_; simp (disch:=omega) only [go_sem,simprocAttr,qN,qO,qP,qQ])
   refine retS_wk rfl ?_ (by simp only [Blk.nb, rowC_nb, D.nb, D.nbs, C.nb, C.nbs, C.nbss, rows_nb eI_nb, Bool.and_true, Bool.not_false, Bool.and_self, bD, dI, iD]); exact .refl _
 | cons x l =>
  simp only [List.length_cons] at hl
  refine DCall.of Try.func83 sf83 hb83 (Nat.le_of_ble_eq_true rfl) (okRes_nil fun _ => rfl) ?_; simp only [s83, idxs, Nat.reduceAdd]
  repeat' (first|(with_reducible first|apply qA|apply qB|apply qC|apply qD|apply qE|apply qF)|(simp (disch:=omega) only [go_sem, simprocAttr, qN, qO, qP, qQ, rows_cons])|exact qM rfl rfl rfl|(refine qG rfl ?_)|(refine qH rfl ?_)|(refine qI rfl ?_ ?_<;>intro hc<;>(try simp only [go_sem] at hc))|(refine qJ ?_ ?_<;>intro hc<;>(try simp only [hc])<;>(try simp only [go_sem] at hc)))
  (refine retS_ent (Ent.rel 5 rfl) ?_; simp (disch:=omega) only [go_sem,simprocAttr,qN,qO,qP,qQ])
  refine retS_wk rfl ?_ (by simp only [Blk.nb, rowC_nb, D.nb, D.nbs, C.nb, C.nbs, C.nbss, rows_nb eI_nb, Bool.and_true, Bool.not_false, Bool.and_self, bD, dI, iD]); exact .refl _
end Go.Dw.Seat
end
section
set_option linter.unusedSimpArgs false
set_option maxRecDepth 100000
namespace Go.Dw.Seat
open Go Go.Dw Go.IntWalk
def allU (n : Nat) : Nat → List Bool → List (List Int)
 | 0, _ => [[]]
 | f + 1, u => (List.range n).flatMap fun i => if u.getD i true then [] else (allU n f (u.set i true)).map fun s => (i : Int) :: s
def u0 (n : Nat) : List Bool := List.replicate n false
theorem go_all : ∀ n : Fin 7, goP 721 (upN n.1) = allU n.1 n.1 (u0 n.1) := by decide +kernel
def ltL : List Int → List Int → Bool
 | a :: s, b :: t => if a ≠ b then decide (a < b) else ltL s t
 | _, _ => false
theorem ltL_self : ∀ a : List Int, ltL a a = false
 | [] => rfl
 | a :: s => by rw [ltL, if_neg (by simp), ltL_self s]
theorem u_set {u : List Bool} {i j : Nat} (h : (u.set i true).getD j true = false) : u.getD j true = false ∧ j ≠ i := by
 simp only [List.getD_eq_getElem?_getD, List.getElem?_set] at h ⊢
 by_cases hij : i = j
 ·subst hij
  rw [if_pos rfl] at h
  split at h <;> simp at h
 ·rw [if_neg hij] at h
  exact ⟨h, fun e => hij e.symm⟩
theorem allU_spec (n : Nat) : ∀ (f : Nat) (u : List Bool), ∀ s ∈ allU n f u, (s.length = f ∧ s.Nodup) ∧ ∀ x ∈ s, (0 ≤ x ∧ x < (n : Int)) ∧ u.getD x.toNat true = false
 | 0, u, s, h => by
  rw [allU, List.mem_singleton] at h
  subst h
  exact ⟨⟨rfl, .nil⟩, fun x hx => by cases hx⟩
 | f + 1, u, s, h => by
  rw [allU, List.mem_flatMap] at h
  obtain ⟨i, hi, hs⟩ := h
  have hi := List.mem_range.1 hi
  split at hs
  ·cases hs
  ·rename_i hu
   have hu : u.getD i true = false := by simpa using hu
   obtain ⟨t, ht, rfl⟩ := List.mem_map.1 hs
   obtain ⟨⟨h1, h2⟩, h3⟩ := allU_spec n f (u.set i true) t ht
   refine ⟨⟨by simp [h1], List.nodup_cons.2 ⟨fun hm => ?_, h2⟩⟩, fun x hx => ?_⟩
   ·have := (u_set (h3 _ hm).2).2
    simp at this
   ·rcases List.mem_cons.1 hx with rfl | hx
    ·exact ⟨by omega, by simpa using hu⟩
    ·exact ⟨(h3 x hx).1, (u_set (h3 x hx).2).1⟩
theorem allU_sorted (n : Nat) : ∀ (f : Nat) (u : List Bool), (allU n f u).Pairwise fun a b => ltL b a = false
 | 0, _ => List.pairwise_singleton _ _
 | f + 1, u => by
  rw [allU, List.pairwise_flatMap]
  constructor
  ·intro i _
   split
   ·exact .nil
   ·rw [List.pairwise_map]
    refine (allU_sorted n f (u.set i true)).imp fun {a b} h => ?_
    rw [ltL, if_neg (by simp)]
    exact h
  ·refine List.pairwise_lt_range.imp fun {i j} hij => ?_
   intro a ha b hb
   split at ha
   ·cases ha
   ·split at hb
    ·cases hb
    ·obtain ⟨s, _, rfl⟩ := List.mem_map.1 ha
     obtain ⟨t, _, rfl⟩ := List.mem_map.1 hb
     rw [ltL, if_pos (by omega)]
     exact decide_eq_false (by omega)
theorem find_first {α : Type} {B : α → Bool} {lt : α → α → Bool} (hself : ∀ a, lt a a = false) : ∀ {l : List α}, l.Pairwise (fun a b => lt b a = false) → ∀ {o x : α}, l.find? B = some o → x ∈ l → B x = true → lt x o = false
 | [], _, _, _, h, _, _ => by cases h
 | a :: l, hp, o, x, h, hx, hb => by
  rw [List.find?_cons] at h
  rw [List.pairwise_cons] at hp
  split at h
  ·cases h
   rcases List.mem_cons.1 hx with rfl | hx
   ·exact hself _
   ·exact hp.1 x hx
  ·rename_i hB
   rcases List.mem_cons.1 hx with rfl | hx
   ·rw [hb] at hB; cases hB
   ·exact find_first hself hp.2 h hx hb
theorem allU_step {n f i : Nat} {u : List Bool} (hi : i < n) (hu : u.getD i true = false) {t : List Int} (ht : t ∈ allU n f (u.set i true)) : (i : Int) :: t ∈ allU n (f + 1) u := by
 rw [allU, List.mem_flatMap]
 refine ⟨i, List.mem_range.2 hi, ?_⟩
 rw [if_neg (by rw [hu]; decide)]
 exact List.mem_map.2 ⟨t, ht, rfl⟩
end Go.Dw.Seat
end
section
set_option linter.unusedSimpArgs false
set_option maxRecDepth 100000
namespace Go.Dw.Seat
open Go Go.Dw Go.Proofs Go.IntWalk
theorem lohi_b {x : PIt} (hx : x.ok) {c : Int} (hc : -10000 ≤ c ∧ c ≤ 10000) : (-50000000000 ≤ loW x c ∧ loW x c ≤ 50000000000) ∧ (-50000000000 ≤ hiW x c ∧ hiW x c ≤ 50000000000) ∧ loW x c ≤ hiW x c := by
 have hw := hx.w
 have h1 := mul_abs (a := x.wl) (A := 5000000) (by omega) hc
 have h2 := mul_abs (a := x.wh) (A := 5000000) (by omega) hc
 unfold loW hiW
 omega
theorem sumM_b {c : Int → Int} (hc : ∀ m, 0 ≤ m → m ≤ 4000 → -10000 ≤ c m ∧ c m ≤ 10000) : ∀ {q : List PIt} {a : Int}, 0 ≤ a → a + lgI q ≤ 2000 → (∀ x ∈ q, x.ok) →
  (-(50000000000 * (q.length : Int)) ≤ sumM (fun m x => loW x (c m)) a q ∧ sumM (fun m x => loW x (c m)) a q ≤ 50000000000 * (q.length : Int)) ∧ (-(50000000000 * (q.length : Int)) ≤ sumM (fun m x => hiW x (c m)) a q ∧ sumM (fun m x => hiW x (c m)) a q ≤ 50000000000 * (q.length : Int)) ∧ sumM (fun m x => loW x (c m)) a q ≤ sumM (fun m x => hiW x (c m)) a q
 | [], a, _, _, _ => by simp [sumM]
 | x :: q, a, h0, h1, h2 => by
  have hx := h2 x (by simp)
  have hxl := hx.lg
  have hq := fun y hy => h2 y (List.mem_cons_of_mem x hy)
  have hn := lgI_nn hq
  rw [lgI] at h1
  have ih := sumM_b hc (q := q) (a := a + x.lg) (by omega) (by omega) hq
  have hb := lohi_b hx (hc (2 * a + x.lg) (by omega) (by omega))
  simp only [sumM, List.length_cons, Int.natCast_add, Int.natCast_one]
  omega
theorem cF_b {l : PLy} (hl : l.ok) (m : Int) (h1 : 0 ≤ m) (h2 : m ≤ 4000) : -10000 ≤ cF l m ∧ cF l m ≤ 10000 := by
 have := hl.ax
 have := hl.lg
 unfold cF; omega
theorem cB_b {l : PLy} (hl : l.ok) (m : Int) (h1 : 0 ≤ m) (h2 : m ≤ 4000) : -10000 ≤ cB l m ∧ cB l m ≤ 10000 := by
 have := hl.ax
 have := hl.lg
 unfold cB; omega
theorem lgI_take {q : List PIt} (h : ∀ x ∈ q, x.ok) (i : Nat) : lgI (q.take i) ≤ lgI q := by
 have e : ∀ a b : List PIt, lgI (a ++ b) = lgI a + lgI b := by
  intro a b
  induction a with
  | nil => simp [lgI]
  | cons x a ih => rw [List.cons_append, lgI, ih, lgI]; omega
 have h1 := e (q.take i) (q.drop i)
 rw [List.take_append_drop] at h1
 have h2 := lgI_nn (q := q.drop i) (fun x hx => h x (List.mem_of_mem_drop hx))
 omega
abbrev prtD (r : Prt) : D := .tup [.agg [dI r.fl, dI r.fh], .agg [dI r.bl, dI r.bh]]
set_option maxHeartbeats 4000000 in
theorem plParts (l : PLy) (lab : Bool) (q : List PIt) (h : LorOk l q) : DCall Try.prog 76 [lorD l lab q] [] (prtD (prtF l q)) [] := by
 have hl := h.ly
 have hlen := h.len
 have hits := h.its
 have hlg := h.lg
 have hll := hl.lg
 have hax := hl.ax
 refine DCall.of Try.func76 sf76 hb76 (Nat.le_of_ble_eq_true rfl) (okRes_nil fun _ => rfl) ?_; simp only [s76, o76_0, o76_1, o76_2, o76_3, idxs, Nat.reduceAdd]
 repeat' (first|(with_reducible first|apply qA|apply qB|apply qC|apply qD|apply qE|apply qF)|(refine qL rfl (WF.of ?_) ?_; first|rfl|skip)|(refine DW.ord rfl (WF.of (by first|rfl|simp (disch:=omega) only [go_sem, simprocAttr, qN, qO, qP, qQ])) ?_ ?_ ?_; rotate_left)|rfl|(with_reducible refine And.intro ?_ ?_)|(simp (disch:=omega) only [go_sem, simprocAttr, qN, qO, qP, qQ])|exact qM rfl rfl rfl|(refine qG rfl ?_)|(refine qH rfl ?_)|(refine qI rfl ?_ ?_<;>intro hc<;>(try simp only [go_sem] at hc))|(refine qJ ?_ ?_<;>intro hc<;>(try simp only [hc])<;>(try simp only [go_sem] at hc)))
 refine DW.loop (ι := { i : Nat // i ≤ q.length }) (fun i => ⟨49, [(11, dI i.1), (10, dI q.length), (9, itsD lab q), (4, dI (lgI (q.take i.1))), (3, .box 3 0), (2, .box 2 0), (1, .box 1 0)], [(3, .box [dI (prtF l (q.take i.1)).bl, dI (prtF l (q.take i.1)).bh]), (2, .box [dI (prtF l (q.take i.1)).fl, dI (prtF l (q.take i.1)).fh]), (1, .box [dI l.lg, dI l.fr, dI l.bk, dI l.fm, dI l.bm, itsD lab q])]⟩) (fun i => q.length - i.1) ⟨0, Nat.zero_le _⟩ ?_ ?_
 ·refine Ent.to ?_ ?_ <;> simp (disch:=omega) only [qR,qS,qTw,qU,get,Nat.reduceEqDiff,↓reduceIte,qV,qW,qX,qY,qZ,and_self,dI,i64_in,and_true,true_and,rA,rB,rC,rD,List.take_zero,lgI,prtF,sumM]
  all_goals first | exact ⟨.refl _, .refl _, .refl _⟩ | exact ⟨.refl _, .refl _⟩ | exact .refl _
 rintro ⟨i, hi⟩
 dsimp only
 rcases at_or q i hi with ⟨x, hx, hlt, hd⟩ | ⟨he, hd⟩
 ·have hxo := hits x (List.mem_of_getElem? hx)
  have hxl := hxo.lg
  have htk : q.take (i + 1) = q.take i ++ [x] := by rw [List.take_add_one, hx]; rfl
  have htm : ∀ y ∈ q.take i, y.ok := fun y hy => hits y (List.mem_of_mem_take hy)
  have hsn := lgI_snoc (q.take i) x
  have hS1 := lgI_take hits (i + 1)
  rw [htk, hsn] at hS1
  have hS0 := lgI_nn htm
  have hl7 : (q.take i).length ≤ 7 := by rw [List.length_take]; omega
  have bF := sumM_b (cF_b hl) (q := q.take i) (a := 0) (by omega) (by omega) htm
  have bB := sumM_b (cB_b hl) (q := q.take i) (a := 0) (by omega) (by omega) htm
  have e1 := sumM_snoc (fun m x => loW x (cF l m)) (q.take i) 0 x
  have e2 := sumM_snoc (fun m x => hiW x (cF l m)) (q.take i) 0 x
  have e3 := sumM_snoc (fun m x => loW x (cB l m)) (q.take i) 0 x
  have e4 := sumM_snoc (fun m x => hiW x (cB l m)) (q.take i) 0 x
  rw [← htk, Int.zero_add] at e1 e2 e3 e4
  rw [← htk] at hsn
  have hP : prtF l (q.take i) = ⟨sumM (fun m x => loW x (cF l m)) 0 (q.take i), sumM (fun m x => hiW x (cF l m)) 0 (q.take i), sumM (fun m x => loW x (cB l m)) 0 (q.take i), sumM (fun m x => hiW x (cB l m)) 0 (q.take i)⟩ := rfl
  have hP1 : prtF l (q.take (i + 1)) = ⟨sumM (fun m x => loW x (cF l m)) 0 (q.take (i + 1)), sumM (fun m x => hiW x (cF l m)) 0 (q.take (i + 1)), sumM (fun m x => loW x (cB l m)) 0 (q.take (i + 1)), sumM (fun m x => hiW x (cB l m)) 0 (q.take (i + 1))⟩ := rfl
  rw [e1, e2, e3, e4] at hP1
  clear e1 e2 e3 e4
  generalize sumM (fun m x => loW x (cF l m)) 0 (q.take i) = A1 at *
  generalize sumM (fun m x => hiW x (cF l m)) 0 (q.take i) = A2 at *
  generalize sumM (fun m x => loW x (cB l m)) 0 (q.take i) = A3 at *
  generalize sumM (fun m x => hiW x (cB l m)) 0 (q.take i) = A4 at *
  generalize lgI (q.take i) = S at *
  have hm1 : 2 * l.bk - (2 * S + x.lg) = cF l (2 * S + x.lg) := rfl
  have hm2 : 2 * S + x.lg - 2 * l.fr = cB l (2 * S + x.lg) := rfl
  have c1 := cF_b hl (2 * S + x.lg) (by omega) (by omega)
  have c2 := cB_b hl (2 * S + x.lg) (by omega) (by omega)
  have t1 := plTimes x hxo _ c1
  have t2 := plTimes x hxo _ c2
  have b1 := lohi_b hxo c1
  have b2 := lohi_b hxo c2
  rw [hP]
  dsimp only
  have p1 := plPlus A1 A2 (loW x (cF l (2 * S + x.lg))) (hiW x (cF l (2 * S + x.lg))) (by omega) (by omega) (by omega) (by omega)
  have p2 := plPlus A3 A4 (loW x (cB l (2 * S + x.lg))) (hiW x (cB l (2 * S + x.lg))) (by omega) (by omega) (by omega) (by omega)
  repeat' (first|(with_reducible first|apply qA|apply qB|apply qC|apply qD|apply qE|apply qF)|(refine qL rfl (WF.of ?_) ?_; first|rfl|skip)|(refine DW.ord rfl (WF.of (by first|rfl|simp (disch:=omega) only [go_sem, simprocAttr, qN, qO, qP, qQ, hd, hx, hm1, hm2, rF, rG])) ?_ ?_ ?_; rotate_left)|rfl|(with_reducible refine And.intro ?_ ?_)|(simp (disch:=omega) only [go_sem, simprocAttr, qN, qO, qP, qQ, hd, hx, hm1, hm2, rF, rG])|exact qM rfl rfl rfl|(refine qG rfl ?_)|(refine qK (t1) (by decide) ?_)|(refine qK (t2) (by decide) ?_)|(refine qK (p1) (by decide) ?_)|(refine qK (p2) (by decide) ?_)|(refine qH rfl ?_)|(refine qI rfl ?_ ?_<;>intro hc<;>(try simp only [go_sem] at hc))|(refine qJ ?_ ?_<;>intro hc<;>(try simp only [hc])<;>(try simp only [go_sem] at hc)))
  refine ⟨⟨i + 1, hlt⟩, ?_, Ent.to ?_ ?_⟩ <;> first | (show _ < _; (try simp only); omega) | (simp (disch:=omega) only [qR,qS,qTw,qU,get,Nat.reduceEqDiff,↓reduceIte,qV,qW,qX,qY,qZ,and_self,dI,i64_in,and_true,true_and,rA,rB,rC,rD, hsn,hP1])
  all_goals first | exact ⟨.refl _, .refl _, .refl _⟩ | exact ⟨.refl _, .refl _⟩ | exact .refl _
 ·have hti : q.take i = q := by rw [he, List.take_length]
  rw [hti]
  generalize prtF l q = R at *
  repeat' (first|(with_reducible first|apply qA|apply qB|apply qC|apply qD|apply qE|apply qF)|(refine qL rfl (WF.of ?_) ?_; first|rfl|skip)|(refine DW.ord rfl (WF.of (by first|rfl|simp (disch:=omega) only [go_sem, simprocAttr, qN, qO, qP, qQ, hd])) ?_ ?_ ?_; rotate_left)|rfl|(with_reducible refine And.intro ?_ ?_)|(simp (disch:=omega) only [go_sem, simprocAttr, qN, qO, qP, qQ, hd])|exact qM rfl rfl rfl|(refine qG rfl ?_)|(refine qH rfl ?_)|(refine qI rfl ?_ ?_<;>intro hc<;>(try simp only [go_sem] at hc))|(refine qJ ?_ ?_<;>intro hc<;>(try simp only [hc])<;>(try simp only [go_sem] at hc)))
theorem prt_b {l : PLy} {q : List PIt} (h : LorOk l q) : ((-350000000000 ≤ (prtF l q).fl ∧ (prtF l q).fl ≤ (prtF l q).fh) ∧ (prtF l q).fh ≤ 350000000000) ∧ (-350000000000 ≤ (prtF l q).bl ∧ (prtF l q).bl ≤ (prtF l q).bh) ∧ (prtF l q).bh ≤ 350000000000 := by
 have hlen := h.len
 have hll := h.ly.lg
 have hlg := h.lg
 have bF := sumM_b (cF_b h.ly) (q := q) (a := 0) (by omega) (by omega) h.its
 have bB := sumM_b (cB_b h.ly) (q := q) (a := 0) (by omega) (by omega) h.its
 unfold prtF
 dsimp only
 omega
def axD (l : PLy) (q : List PIt) : D := if lorE l q = 0 then .tup [.agg [dI ((prtF l q).fl / (2 * (l.bk - l.fr))), dI ((prtF l q).fh / (2 * (l.bk - l.fr)))], .agg [dI ((prtF l q).bl / (2 * (l.bk - l.fr))), dI ((prtF l q).bh / (2 * (l.bk - l.fr)))], dI 0] else .tup [.agg [dI 0, dI 0], .agg [dI 0, dI 0], dI (lorE l q)]
set_option maxHeartbeats 4000000 in
theorem plAxles (l : PLy) (q : List PIt) (hq : q.length ≤ 2 ^ 36) : DCall Try.prog 29 [lyrD l, itsD false q] [] (axD l q) [] := by
 have h1 := plCheckLorry false l q hq
 unfold axD
 by_cases he : lorE l q = 0
 ·have hL := lor_iff.1 he
  have hP := plParts l false q hL
  have hb := prt_b hL
  have hW := plWhole l hL.ly false q
  have hax := hL.ly.ax
  have hll := hL.ly.lg
  rw [if_pos he]
  rw [he] at h1
  generalize prtF l q = R at *
  obtain ⟨fl, fh, bl, bh⟩ := R
  dsimp only at hb ⊢
  have d1 := plDown fl fh (2 * (l.bk - l.fr)) (by omega) (by omega) (by omega)
  have d2 := plDown bl bh (2 * (l.bk - l.fr)) (by omega) (by omega) (by omega)
  refine DCall.of Try.func29 sf29 hb29 (Nat.le_of_ble_eq_true rfl) (okRes_nil fun _ => rfl) ?_; simp only [s29, o29_0, o29_1, o29_2, o29_3, o29_4, o29_5, idxs, Nat.reduceAdd]
  repeat' (first|(with_reducible first|apply qA|apply qB|apply qC|apply qD|apply qE|apply qF)|(refine qL rfl (WF.of ?_) ?_; first|rfl|skip)|(refine DW.ord rfl (WF.of (by first|rfl|simp (disch:=omega) only [go_sem, simprocAttr, qN, qO, qP, qQ])) ?_ ?_ ?_; rotate_left)|rfl|(with_reducible refine And.intro ?_ ?_)|(simp (disch:=omega) only [go_sem, simprocAttr, qN, qO, qP, qQ])|exact qM rfl rfl rfl|(refine qG rfl ?_)|(refine qK (h1) (by decide) ?_)|(refine qK (hP) (by decide) ?_)|(refine qK (hW) (by decide) ?_)|(refine qK (d1) (by decide) ?_)|(refine qK (d2) (by decide) ?_)|(refine qH rfl ?_)|(refine qI rfl ?_ ?_<;>intro hc<;>(try simp only [go_sem] at hc))|(refine qJ ?_ ?_<;>intro hc<;>(try simp only [hc])<;>(try simp only [go_sem] at hc)))
  skip
 ·rw [if_neg he]
  generalize lorE l q = e at *
  have hd : (e != 0) = true := by simpa using he
  refine DCall.of Try.func29 sf29 hb29 (Nat.le_of_ble_eq_true rfl) (okRes_nil fun _ => rfl) ?_; simp only [s29, o29_0, o29_1, o29_2, o29_3, o29_4, o29_5, idxs, Nat.reduceAdd]
  repeat' (first|(with_reducible first|apply qA|apply qB|apply qC|apply qD|apply qE|apply qF)|(refine qL rfl (WF.of ?_) ?_; first|rfl|skip)|(refine DW.ord rfl (WF.of (by first|rfl|simp (disch:=omega) only [go_sem, simprocAttr, qN, qO, qP, qQ, hd])) ?_ ?_ ?_; rotate_left)|rfl|(with_reducible refine And.intro ?_ ?_)|(simp (disch:=omega) only [go_sem, simprocAttr, qN, qO, qP, qQ, hd])|exact qM rfl rfl rfl|(refine qG rfl ?_)|(refine qK (h1) (by decide) ?_)|(refine qH rfl ?_)|(refine qI rfl ?_ ?_<;>intro hc<;>(try simp only [go_sem] at hc))|(refine qJ ?_ ?_<;>intro hc<;>(try simp only [hc])<;>(try simp only [go_sem] at hc)))
  skip
def bearX (l : PLy) (q : List PIt) : Bool := spanOk (prtF l q).fl (prtF l q).fh 0 (l.fm * (2 * (l.bk - l.fr))) && spanOk (prtF l q).bl (prtF l q).bh 0 (l.bm * (2 * (l.bk - l.fr)))
theorem bearX_eq {l : PLy} {q : List PIt} (h : LorOk l q) : bearX l q = bearB l q := by
 have hb := prt_b h
 rw [Bool.eq_iff_iff]
 simp only [bearX, bearB, Bool.and_eq_true, spanOk_iff, decide_eq_true_eq]
 omega
set_option maxHeartbeats 2000000 in
theorem plBears (l : PLy) (lab : Bool) (q : List PIt) (h : LorOk l q) : DCall Try.prog 82 [lorD l lab q] [] (bD (bearX l q)) [] := by
 have hP := plParts l lab q h
 have hW := plWhole l h.ly lab q
 have hax := h.ly.ax
 have hll := h.ly.lg
 have hfm := h.ly.fm
 have hbm := h.ly.bm
 have m1 := mul_abs (a := l.fm) (b := 2 * (l.bk - l.fr)) (A := 40000000) (B := 10000) (by omega) (by omega)
 have m2 := mul_abs (a := l.bm) (b := 2 * (l.bk - l.fr)) (A := 40000000) (B := 10000) (by omega) (by omega)
 have w1 : IntKind.i64.wrap (l.fm * (2 * (l.bk - l.fr))) = l.fm * (2 * (l.bk - l.fr)) := IntWalk.i64_in _ (by omega)
 have w2 : IntKind.i64.wrap (l.bm * (2 * (l.bk - l.fr))) = l.bm * (2 * (l.bk - l.fr)) := IntWalk.i64_in _ (by omega)
 unfold bearX
 generalize prtF l q = R at *
 obtain ⟨fl, fh, bl, bh⟩ := R
 dsimp only
 have s1 := plSpan fl fh 0 (l.fm * (2 * (l.bk - l.fr)))
 have s2 := plSpan bl bh 0 (l.bm * (2 * (l.bk - l.fr)))
 cases e1 : spanOk fl fh 0 (l.fm * (2 * (l.bk - l.fr))) <;> rw [e1] at s1 <;> simp only [Bool.true_and, Bool.false_and]
 ·refine DCall.of Try.func82 sf82 hb82 (Nat.le_of_ble_eq_true rfl) (okRes_nil fun _ => rfl) ?_; simp only [s82, idxs, Nat.reduceAdd]
  repeat' (first|(with_reducible first|apply qA|apply qB|apply qC|apply qD|apply qE|apply qF)|(refine qL rfl (WF.of ?_) ?_; first|rfl|skip)|(simp (disch:=omega) only [go_sem, simprocAttr, qN, qO, qP, qQ, w1, w2])|exact qM rfl rfl rfl|(refine qG rfl ?_)|(refine qK (hP) (by decide) ?_)|(refine qK (hW) (by decide) ?_)|(refine qK (s1) (by decide) ?_)|(refine qK (s2) (by decide) ?_)|(refine qH rfl ?_)|(refine qI rfl ?_ ?_<;>intro hc<;>(try simp only [go_sem] at hc))|(refine qJ ?_ ?_<;>intro hc<;>(try simp only [hc])<;>(try simp only [go_sem] at hc)))
 ·refine DCall.of Try.func82 sf82 hb82 (Nat.le_of_ble_eq_true rfl) (okRes_nil fun _ => rfl) ?_; simp only [s82, idxs, Nat.reduceAdd]
  repeat' (first|(with_reducible first|apply qA|apply qB|apply qC|apply qD|apply qE|apply qF)|(refine qL rfl (WF.of ?_) ?_; first|rfl|skip)|(simp (disch:=omega) only [go_sem, simprocAttr, qN, qO, qP, qQ, w1, w2])|exact qM rfl rfl rfl|(refine qG rfl ?_)|(refine qK (hP) (by decide) ?_)|(refine qK (hW) (by decide) ?_)|(refine qK (s1) (by decide) ?_)|(refine qK (s2) (by decide) ?_)|(refine qH rfl ?_)|(refine qI rfl ?_ ?_<;>intro hc<;>(try simp only [go_sem] at hc))|(refine qJ ?_ ?_<;>intro hc<;>(try simp only [hc])<;>(try simp only [go_sem] at hc)))
end Go.Dw.Seat
end
section
set_option linter.unusedSimpArgs false
set_option maxRecDepth 100000
namespace Go.Dw.Seat
open Go Go.Dw Go.Proofs Go.IntWalk
def pkI (q : List PIt) (e : List Int) : List PIt := e.map fun i => q.getD i.toNat ⟨1, 0, 0⟩
theorem go_perm : ∀ n : Fin 7, (goP 721 (upN n.1)).all (fun e => e.isPerm (upN n.1)) = true := by decide +kernel
theorem lgI_perm {a b : List PIt} (h : a.Perm b) : lgI a = lgI b := by
 induction h with
 | nil => rfl
 | cons x _ ih => rw [lgI, lgI, ih]
 | swap x y l => simp only [lgI]; omega
 | trans _ _ h1 h2 => rw [h1, h2]
theorem pk_up (q : List PIt) : pkI q (upN q.length) = q := by
 apply List.ext_getElem?
 intro i
 simp only [pkI, upN, List.map_map, List.getElem?_map, Function.comp]
 rcases Nat.lt_or_ge i q.length with h | h
 ·rw [List.getElem?_eq_getElem (by simpa using h), List.getElem?_eq_getElem h]
  simp [List.getD_eq_getElem?_getD, List.getElem?_eq_getElem h]
 ·rw [List.getElem?_eq_none (by simpa using h), List.getElem?_eq_none h]
  rfl
theorem pk_ok {l : PLy} {q : List PIt} (h : LorOk l q) {e : List Int} (he : e.isPerm (upN q.length) = true) : LorOk l (pkI q e) := by
 have hp : e.Perm (upN q.length) := List.isPerm_iff.1 he
 have h2 : (pkI q e).Perm q := by
  have := hp.map (fun i => q.getD i.toNat ⟨1, 0, 0⟩)
  have e1 := pk_up q
  unfold pkI at e1
  rw [e1] at this
  exact this
 exact ⟨h.ly, by rw [h2.length_eq]; exact h.len, fun x hx => h.its x (h2.mem_iff.1 hx), by rw [lgI_perm h2]; exact h.lg⟩
theorem pk_mem {n : Nat} {e : List Int} (he : e.isPerm (upN n) = true) : e.length = n ∧ ∀ x ∈ e, 0 ≤ x ∧ x < (n : Int) := by
 have hp : e.Perm (upN n) := List.isPerm_iff.1 he
 refine ⟨by rw [hp.length_eq, upN_len], fun x hx => ?_⟩
 have := hp.mem_iff.1 hx
 simp only [upN, List.mem_map, List.mem_range] at this
 obtain ⟨i, hi, rfl⟩ := this
 omega
theorem rowC_snocIt (l : List PIt) (x : PIt) : rowC (rows eIt l) ++ [[D.c (.v (.int .i64 x.lg)), D.c (.v (.int .i64 x.wl)), D.c (.v (.int .i64 x.wh))]] = rowC (rows eIt (l ++ [x])) := by simp [rowC, rows, eIt]
def ordS (l : PLy) (q : List PIt) (a : Option (List Int)) (e : List Int) : Option Exit × Option (List Int) := if bearX l (pkI q e) then (some .ret, some e) else (none, a)
theorem ord_run (l : PLy) (q : List PIt) : ∀ L : List (List Int), runIt (ordS l q) none L = (match L.find? (fun e => bearX l (pkI q e)) with | some e => (some .ret, some e) | none => (none, none))
 | [] => rfl
 | e :: L => by
  rw [runIt, ordS, List.find?_cons]
  cases bearX l (pkI q e)
  ·simp only [Bool.false_eq_true, if_false]
   exact ord_run l q L
  ·rfl
def oRes : Option (List Int) → D
 | some e => dIs false e
 | none => .c (.v (.slice none 0 0))
def oErr : Option (List Int) → Int
 | some _ => 0
 | none => 9
theorem oRes_men (k : Nat) (F : Option (List Int)) : D.men k (oRes F) = false := by cases F <;> rfl
theorem oRes_nb (F : Option (List Int)) : D.nb (oRes F) = true := by
 cases F
 ·rfl
 ·simp only [oRes, D.nb, C.nb, rows_nb eI_nb]; rfl
theorem oRes_keys (bx : List (Nat × Blk)) (F : Option (List Int)) : D.keysIn bx (oRes F) = true := by cases F <;> rfl
theorem oRes_kill (k : Nat) (F : Option (List Int)) : killD k (oRes F) = oRes F := by cases F <;> rfl
attribute [go_sem] oRes_men oRes_keys oRes_kill
def findO (l : PLy) (q : List PIt) : Option (List Int) := (goP 721 (upN q.length)).find? fun e => bearX l (pkI q e)
def ordD (l : PLy) (q : List PIt) : D := if lorE l q = 0 then .tup [oRes (findO l q), dI (oErr (findO l q))] else .tup [.c (.v (.slice none 0 0)), dI (lorE l q)]
set_option maxHeartbeats 8000000 in
theorem plOrder (l : PLy) (q : List PIt) (hq : q.length ≤ 2 ^ 36) (h6 : lorE l q = 0 → q.length ≤ 6) : DCall Try.prog 33 [lyrD l, itsD false q] [] (ordD l q) [] := by
 have h1 := plCheckLorry false l q hq
 unfold ordD
 by_cases he : lorE l q = 0
 case neg =>
  rw [if_neg he]
  generalize lorE l q = e at *
  have hd : (e != 0) = true := by simpa using he
  refine DCall.of Try.func33 sf33 hb33 (Nat.le_of_ble_eq_true rfl) (okRes_nil fun _ => rfl) ?_; simp only [s33, idxs, Nat.reduceAdd]
  repeat' (first|(with_reducible first|apply qA|apply qB|apply qC|apply qD|apply qE|apply qF)|(refine qL rfl (WF.of ?_) ?_; first|rfl|skip)|(simp (disch:=omega) only [go_sem, simprocAttr, qN, qO, qP, qQ, hd])|exact qM rfl rfl rfl|(refine qG rfl ?_)|(refine qK (h1) (by decide) ?_)|(refine qH rfl ?_)|(refine qI rfl ?_ ?_<;>intro hc<;>(try simp only [go_sem] at hc))|(refine qJ ?_ ?_<;>intro hc<;>(try simp only [hc])<;>(try simp only [go_sem] at hc)))
 rw [if_pos he]
 have hL := lor_iff.1 he
 have h6 := h6 he
 have h2 := plOrders0 q.length
 have hit := plOrders1 q.length h6
 have hperm := List.all_eq_true.1 (go_perm ⟨q.length, by omega⟩)
 have hrun := ord_run l q (goP 721 (upN q.length))
 rw [he] at h1
 unfold findO
 generalize goP 721 (upN q.length) = G at *
 refine DCall.of Try.func33 sf33 hb33 (Nat.le_of_ble_eq_true rfl) (okRes_nil fun k => by simp only [D.men, D.mens, oRes_men]; rfl) ?_
 simp only [s33, idxs, Nat.reduceAdd]
 repeat' (first|(with_reducible first|apply qA|apply qB|apply qC|apply qD|apply qE|apply qF)|(refine qL rfl (WF.of ?_) ?_; first|rfl|skip)|(simp (disch:=omega) only [go_sem, simprocAttr, qN, qO, qP, qQ])|exact qM rfl rfl rfl|(refine qG rfl ?_)|(refine qK (h1) (by decide) ?_)|(refine qK (h2) (by decide) ?_)|(refine qH rfl ?_)|(refine qI rfl ?_ ?_<;>intro hc<;>(try simp only [go_sem] at hc))|(refine qJ ?_ ?_<;>intro hc<;>(try simp only [hc])<;>(try simp only [go_sem] at hc)))
 refine DW.ent (σ' := ⟨43, [(19, .fn (.func 111) [] [.c (.ro false [.v (.int .i64 q.length)] 0)]), (5, .box 5 0), (4, .box 4 0), (3, .box 3 0), (2, .box 2 0)], [(5, .box [dI 0]), (4, .box [oRes none]), (3, .box [itsD false q]), (2, .box [dI l.lg, dI l.fr, dI l.bk, dI l.fm, dI l.bm])]⟩) (Ent.to ?_ ?_) ?_
 ·simp (disch:=omega) only [qR,qS,qTw,qU,get,Nat.reduceEqDiff,↓reduceIte,qV,qW,qX,qY,qZ,and_self,dI,i64_in,and_true,true_and,rA,rB,rC,rD]
 ·simp (disch:=omega) only [qR,qS,qTw,qU,get,Nat.reduceEqDiff,↓reduceIte,qV,qW,qX,qY,qZ,and_self,dI,i64_in,and_true,true_and,rA,rB,rC,rD,oRes]
  all_goals first | exact ⟨.refl _, .refl _⟩ | exact .refl _
 refine DW.rngBS (fs := []) (caps := [.c (.ro false [.v (.int .i64 q.length)] 0)]) (fun a : Option (List Int) => [(5, .box [dI 0]), (4, .box [oRes a]), (3, .box [itsD false q]), (2, .box [dI l.lg, dI l.fr, dI l.bk, dI l.fm, dI l.bm])]) none (ordS l q) enO (fun _ => True) G hit (fun t _ => ∀ e ∈ t, e.isPerm (upN q.length) = true) hperm (fun a e t h _ _ x hx => h x (List.mem_cons_of_mem _ hx)) rfl (fun _ => ⟨rfl, rfl⟩) rfl (by decide) (fun _ _ => rfl) (fun _ _ _ => rfl) (by simp only [List.map_cons, List.map_nil]; decide) (fun _ => rfl) (fun a => by cases a <;> rfl) (fun a => by show (_ && ((D.nb (oRes a) && _) && _)) = true; rw [oRes_nb]; exact (by simp only [List.all_cons, List.all_nil, Blk.nb, rowC_nb, D.nb, D.nbs, C.nb, C.nbs, C.nbss, rows_nb eI_nb, Bool.and_true, Bool.not_false, Bool.and_self, bD, dI, iD, rows_nb eIt_nb])) (by simp only [List.all_cons, List.all_nil, Blk.nb, rowC_nb, D.nb, D.nbs, C.nb, C.nbs, C.nbss, rows_nb eI_nb, Bool.and_true, Bool.not_false, Bool.and_self, bD, dI, iD, rows_nb eIt_nb]) (fun a e => by unfold ordS; split <;> rfl) ?_ ?_
 ·intro a e t hp _ v
  have hpe := hp e (by simp)
  obtain ⟨hel, hem⟩ := pk_mem hpe
  have hLe := pk_ok hL hpe
  have hb := plBears l true (pkI q e) hLe
  have hcl := plCloneC true e (by omega)
  clear hp hperm hrun hit
  simp (disch:=omega) only [go_sem,simprocAttr,qN,qO,qP,qQ,rF,rG,enO]
  repeat' (first|(with_reducible first|apply qA|apply qB|apply qC|apply qD|apply qE|apply qF)|(refine qL rfl (WF.of ?_) ?_; first|rfl|skip)|(simp (disch:=omega) only [go_sem, simprocAttr, qN, qO, qP, qQ, rF, rG])|exact qM rfl rfl rfl|(refine qG rfl ?_)|(refine qH rfl ?_)|(refine qI rfl ?_ ?_<;>intro hc<;>(try simp only [go_sem] at hc))|(refine qJ ?_ ?_<;>intro hc<;>(try simp only [hc])<;>(try simp only [go_sem] at hc)))
  refine DW.ent (Ent.adoptB 8 5 36 3 rfl rfl rfl ?_) ?_
  ·cases a <;> rfl
  simp only [ins, Nat.reduceLT, Nat.reduceEqDiff, ↓reduceIte, List.set_cons_zero, List.set_cons_succ]
  refine DW.loop (ι := { i : Nat // i ≤ e.length }) (fun i => ⟨43, [(25, dI i.1), (24, dI e.length), (23, dIs true e), (19, .fn (.func 111) [] [.c (.ro false [.v (.int .i64 q.length)] 0)]), (8, .box 8 0), (7, dIs true e), (5, .box 5 0), (4, .box 4 0), (3, .box 3 0), (2, .box 2 0)], [(5, .box [dI 0]), (4, .box [oRes a]), (3, .box [itsD false q]), (2, .box [dI l.lg, dI l.fr, dI l.bk, dI l.fm, dI l.bm]), capB v [(19, .fn (.func 111) [] [.c (.ro false [.v (.int .i64 q.length)] 0)]), (5, .box 5 0), (4, .box 4 0), (3, .box 3 0), (2, .box 2 0)], (8, .box [dI l.lg, dI l.fr, dI l.bk, dI l.fm, dI l.bm, .own 36]), (36, .row 3 (rowC (rows eIt (pkI q (e.take i.1)))))]⟩) (fun i => e.length - i.1) ⟨0, Nat.zero_le _⟩ ?_ ?_
  ·refine Ent.to ?_ ?_ <;> simp (disch:=omega) only [qR,qS,qTw,qU,get,Nat.reduceEqDiff,↓reduceIte,qV,qW,qX,qY,qZ,and_self,dI,i64_in,and_true,true_and,rA,rB,rC,rD,capB,List.take_zero,pkI,rG]
   all_goals first | exact ⟨.refl _, .refl _, .refl _⟩ | exact ⟨.refl _, .refl _⟩ | exact .refl _ | skip
  rintro ⟨i, hi⟩
  dsimp only
  rcases at_or e i hi with ⟨x, hx, hlt, hd⟩ | ⟨he, hd⟩
  ·have hxb := hem x (List.mem_of_getElem? hx)
   obtain ⟨n, rfl⟩ : ∃ n : Nat, x = (n : Int) := ⟨x.toNat, by omega⟩
   have hnq : n < q.length := by omega
   obtain ⟨y, hy⟩ : ∃ y, q[n]? = some y := ⟨q[n], List.getElem?_eq_getElem hnq⟩
   have htk : pkI q (e.take (i + 1)) = pkI q (e.take i) ++ [y] := by
    have h1 : e.take (i + 1) = e.take i ++ [(n : Int)] := by rw [List.take_add_one, hx]; rfl
    rw [h1, pkI, List.map_append, pkI]
    simp [List.getD_eq_getElem?_getD, hy]
   have hnq' : (n < q.length) = True := eq_true hnq
   have hpl : (pkI q (e.take i)).length ≤ 10 := by rw [pkI, List.length_map, List.length_take]; omega
   have hsn := rowC_snocIt (pkI q (e.take i)) y
   generalize pkI q (e.take i) = A at *
   repeat' (first|(with_reducible first|apply qA|apply qB|apply qC|apply qD|apply qE|apply qF)|(refine qL rfl (WF.of ?_) ?_; first|rfl|skip)|(simp (disch:=omega) only [go_sem, simprocAttr, qN, qO, qP, qQ, hd, hx, hy, hnq', hsn, capB, rF, rG])|exact qM rfl rfl rfl|(refine qG rfl ?_)|(refine qH rfl ?_)|(refine qI rfl ?_ ?_<;>intro hc<;>(try simp only [go_sem] at hc))|(refine qJ ?_ ?_<;>intro hc<;>(try simp only [hc])<;>(try simp only [go_sem] at hc)))
   refine ⟨⟨i + 1, hlt⟩, ?_, Ent.to ?_ ?_⟩ <;> first | (show _ < _; (try simp only); omega) | (simp (disch:=omega) only [qR,qS,qTw,qU,get,Nat.reduceEqDiff,↓reduceIte,qV,qW,qX,qY,qZ,and_self,dI,i64_in,and_true,true_and,rA,rB,rC,rD, htk,capB])
   all_goals first | exact ⟨.refl _, .refl _, .refl _⟩ | exact ⟨.refl _, .refl _⟩ | exact .refl _ | skip
  ·have hti : e.take i = e := by rw [he, List.take_length]
   rw [hti]
   unfold ordS
   generalize pkI q e = A at *
   cases hB : bearX l A <;> rw [hB] at hb
   ·rw [if_neg Bool.false_ne_true]
    repeat' (first|(with_reducible first|apply qA|apply qB|apply qC|apply qD|apply qE|apply qF)|(refine qL rfl (WF.of ?_) ?_; first|rfl|skip)|(simp (disch:=omega) only [go_sem, simprocAttr, qN, qO, qP, qQ, hd, capB, rF, rG])|exact qM rfl rfl rfl|(refine qG rfl ?_)|(refine qK (hb) (by decide) ?_)|(refine qH rfl ?_)|(refine qI rfl ?_ ?_<;>intro hc<;>(try simp only [go_sem] at hc))|(refine qJ ?_ ?_<;>intro hc<;>(try simp only [hc])<;>(try simp only [go_sem] at hc)))
    refine round_end rfl rfl (Ent.to ?_ ?_) <;> simp (disch:=omega) only [qR,qS,qTw,qU,get,Nat.reduceEqDiff,↓reduceIte,qV,qW,qX,qY,qZ,and_self,dI,i64_in,and_true,true_and,rA,rB,rC,rD,capB,List.cons_append,List.nil_append]
   ·rw [if_pos rfl]
    repeat' (first|(with_reducible first|apply qA|apply qB|apply qC|apply qD|apply qE|apply qF)|(refine qL rfl (WF.of ?_) ?_; first|rfl|skip)|(simp (disch:=omega) only [go_sem, simprocAttr, qN, qO, qP, qQ, hd, capB, rF, rG])|exact qM rfl rfl rfl|(refine qG rfl ?_)|(refine qK (hb) (by decide) ?_)|(refine qK (hcl) (by decide) ?_)|(refine qH rfl ?_)|(refine qI rfl ?_ ?_<;>intro hc<;>(try simp only [go_sem] at hc))|(refine qJ ?_ ?_<;>intro hc<;>(try simp only [hc])<;>(try simp only [go_sem] at hc)))
    refine round_end rfl rfl (Ent.to ?_ ?_) <;> simp (disch:=omega) only [qR,qS,qTw,qU,get,Nat.reduceEqDiff,↓reduceIte,qV,qW,qX,qY,qZ,and_self,dI,i64_in,and_true,true_and,rA,rB,rC,rD,capB,List.cons_append,List.nil_append,oRes]
 ·rw [hrun]
  cases G.find? (fun e => bearX l (pkI q e)) with
  | none =>
   dsimp only
   simp (disch:=omega) only [go_sem,simprocAttr,qN,qO,qP,qQ,Option.getD_none]
   repeat' (first|(with_reducible first|apply qA|apply qB|apply qC|apply qD|apply qE|apply qF)|(refine qL rfl (WF.of ?_) ?_; first|rfl|skip)|(simp (disch:=omega) only [go_sem, simprocAttr, qN, qO, qP, qQ, oRes])|exact qM rfl rfl rfl|(refine qG rfl ?_)|(refine qH rfl ?_)|(refine qI rfl ?_ ?_<;>intro hc<;>(try simp only [go_sem] at hc))|(refine qJ ?_ ?_<;>intro hc<;>(try simp only [hc])<;>(try simp only [go_sem] at hc)))
  | some e =>
   dsimp only
   simp (disch:=omega) only [go_sem,simprocAttr,qN,qO,qP,qQ,Option.getD_some]
   simp only [oRes, oErr]
   refine retS_wk rfl ?_ (by simp only [Blk.nb, rowC_nb, D.nb, D.nbs, C.nb, C.nbs, C.nbss, rows_nb eI_nb, Bool.and_true, Bool.not_false, Bool.and_self, bD, dI, iD, rows_nb eIt_nb]); exact .refl _
end Go.Dw.Seat
end
section
set_option linter.unusedSimpArgs false
set_option maxRecDepth 100000
namespace Go.Dw.Seat
open Go Go.Dw Go.Proofs Go.IntWalk
def ex3 : List PPl := [⟨0, 0, false⟩, ⟨40, 0, false⟩, ⟨0, 30, false⟩]
def ex8 : List PPl := [⟨0, 0, true⟩, ⟨30, 0, true⟩, ⟨60, 0, true⟩, ⟨90, 0, true⟩, ⟨0, 40, true⟩, ⟨30, 40, true⟩, ⟨60, 40, true⟩, ⟨90, 40, true⟩]
def ex3t : List PPl := [⟨80, 0, false⟩, ⟨40, 0, false⟩, ⟨80, 30, false⟩]
def exIt : List PIt := [⟨120, 1000000, 1000000⟩, ⟨120, 800000, 900000⟩]
def exR : List PRs := [⟨[], 0⟩, ⟨[1], 1000⟩, ⟨[], 0⟩]
theorem ex8_at : ∀ i : Fin 8, ex8.take i.1 ++ [⟨30 * ((i.1 % 4 : Nat) : Int), 40 * ((i.1 / 4 : Nat) : Int), true⟩] = ex8.take (i.1 + 1) := by decide +kernel
theorem exc0 : chkE (exBs 0) exBx = 0 := by decide +kernel
theorem exc5 : chkE (exBs 5) exBx = 0 := by decide +kernel
theorem exb0 : bndX (exBs 0) exBx = 8 := by decide +kernel
theorem exb5 : bndX (exBs 5) exBx = 9 := by decide +kernel
theorem exm : mostX (exBs 5) exBx = 9 := by decide +kernel
theorem exl : (layX (exBs 0) exBx).length = 8 := by decide +kernel
theorem ext1 : trnE (exBs 0) exBx ex3 2 = 0 := by decide +kernel
theorem ext2 : ex3.map (trnP (exBs 0) exBx 2) = ex3t := by decide +kernel
theorem exr1 : rgtE (exBs 0) exBx [ex3, ex3t] = 0 := by decide +kernel
theorem exr2 : (ex3t.map (rsF exBx ex3)).map (fun r => (r.on, r.sh)) = exR.map (fun r => (r.on, r.sh)) := by decide +kernel
theorem prs_ext : ∀ {a b : List PRs}, a.map (fun r => (r.on, r.sh)) = b.map (fun r => (r.on, r.sh)) → a = b
 | [], [], _ => rfl
 | [], _ :: _, h => by simp at h
 | _ :: _, [], h => by simp at h
 | ⟨o, s⟩ :: a, ⟨o', s'⟩ :: b, h => by
  simp only [List.map_cons, List.cons.injEq, Prod.mk.injEq] at h
  obtain ⟨⟨rfl, rfl⟩, h⟩ := h
  rw [prs_ext h]
theorem exr3 : ex3t.map (rsF exBx ex3) = exR := prs_ext exr2
theorem exn1 : rgtE (exBs 0) exBx [ex8] = 0 := by decide +kernel
theorem exn2 : bindS (exBs 0) exBx ex8 4 = (0, 0) := by decide +kernel
theorem exy1 : lorE exLy exIt = 0 := by decide +kernel
theorem exy2 : (prtF exLy exIt).fl / 800 = 1740000 ∧ (prtF exLy exIt).fh / 800 = 1820000 ∧ (prtF exLy exIt).bl / 800 = 60000 ∧ (prtF exLy exIt).bh / 800 = 80000 := by decide +kernel
theorem exo : findO exLy exIt = some [0, 1] := by decide +kernel
theorem exTab : TabOk [(0, 1000)] 0 := by
 refine ⟨tabF_of (by decide) (fun u h => ?_) (fun j hj v hv => ?_), by decide⟩
 ·simp at h; subst h; rfl
 ·have hj0 : j = 0 := by simp at hj; omega
  subst hj0
  simp at hv
  subst hv
  exact ⟨⟨by decide, by decide⟩, fun k u h => by omega⟩
theorem exh : layI (exBs 0) exBx 8 (highI (lodF exBx) [(0, 1000)] 0) = 6 := by decide +kernel
end Go.Dw.Seat
end
section
set_option linter.unusedSimpArgs false
set_option maxRecDepth 100000
namespace Go.Dw.Seat
open Go Go.Dw Go.Proofs Go.IntWalk
theorem laFlat : DCall Try.prog 60 [] [] (.c (.sl false 2 (rows eK [(0, 1000)]))) [] := by
 refine DCall.of Try.func60 sf60 hb60 (Nat.le_of_ble_eq_true rfl) (okRes_nil fun _ => rfl) ?_; simp only [s60, idxs, Nat.reduceAdd]
 repeat' (first|(with_reducible first|apply qA|apply qB|apply qC|apply qD|apply qE|apply qF)|(simp (disch:=omega) only [go_sem, simprocAttr, qN, qO, qP, qQ])|exact qM rfl rfl rfl|(refine qG rfl ?_)|(refine qH rfl ?_)|(refine qI rfl ?_ ?_<;>intro hc<;>(try simp only [go_sem] at hc))|(refine qJ ?_ ?_<;>intro hc<;>(try simp only [hc])<;>(try simp only [go_sem] at hc)))
 (refine retS_ent (Ent.rel 2 rfl) ?_; simp (disch:=omega) only [go_sem,simprocAttr,qN,qO,qP,qQ])
 refine retS_wk rfl ?_ (by simp only [Blk.nb, rowC_nb, D.nb, D.nbs, C.nb, C.nbs, C.nbss, rows_nb eI_nb, Bool.and_true, Bool.not_false, Bool.and_self, bD, dI, iD, rows_nb eP_nb, rows_nb eIt_nb, rows_nb eR_nb, rows_nb eK_nb]); exact .refl _
set_option maxHeartbeats 16000000 in
theorem laKnown : DCall Try.prog 14 [] [] (bD true) [] := by
 have a1 := laAt 0 0
 have a2 := laAt 40 0
 have a3 := laAt 0 30
 have a4 := laAt 80 0
 have a5 := laAt 80 30
 have b0 := laBase 0
 have b5 := laBase 5
 have bx := laBox
 have lo := laLorry
 have c1 := plBound (exBs 0) exBx
 rw [exb0, exc0] at c1
 have c2 := plBound (exBs 5) exBx
 rw [exb5, exc5] at c2
 have c3 := plMost (exBs 5) exBx
 rw [exm, exc5] at c3
 have c4 := plLayX (exBs 0) exBx
 rw [layD, if_pos exc0, exc0] at c4
 have hl := exl
 generalize layX (exBs 0) exBx = L at *
 have c5 := plTurnX (exBs 0) exBx ex3 (by decide) 2
 rw [trnD, ext1, if_pos rfl, show ((2 : Int).toNat) = 2 from rfl, ext2] at c5
 have c6 := plRestsX (exBs 0) exBx ex3 ex3t (by decide) (by decide)
 rw [rsX, exr1, if_pos rfl, exr3] at c6
 have c7 := plBind (exBs 0) exBx ex8 (by decide)
 rw [exn1, exn2] at c7
 simp only [if_true] at c7
 have c8 := plLayersX (exBs 0) exBx ex8 (by decide) [(0, 1000)] 0 exTab
 rw [exn1, if_pos ⟨rfl, by decide⟩, if_neg (by simp), if_neg (by decide), show ((ex8.length : Nat) : Int) = 8 from rfl, exh] at c8
 have c9 := plAxles exLy exIt (by decide)
 rw [axD, if_pos exy1, show 2 * (exLy.bk - exLy.fr) = 800 from rfl, exy2.1, exy2.2.1, exy2.2.2.1, exy2.2.2.2] at c9
 have c10 := plOrder exLy exIt (by decide) (fun _ => by decide)
 rw [ordD, if_pos exy1, exo] at c10
 simp only [oRes, oErr] at c10
 have o3 := laOwn true ex3 (by decide)
 have o3t := laOwn false ex3t (by decide)
 have o8 := laOwn true ex8 (by decide)
 have f1 := laFlat
 have s1 := laSpan 1000000 1000000
 have s2 := laSpan 800000 900000
 have s3 := laSpan 1740000 1820000
 have s4 := laSpan 60000 80000
 have i1 := reInts false true [1] [1] (by decide) (by decide)
 have i2 := reInts false true [0, 1] [0, 1] (by decide) (by decide)
 rw [decide_eq_true rfl] at i1 i2
 have sm := reSame false true ex3t ex3t (by decide) (by decide) true (sameY rfl rfl)
 refine DCall.of Try.func14 sf14 hb14 (Nat.le_of_ble_eq_true rfl) (okRes_nil fun _ => rfl) ?_; simp only [s14, idxs, Nat.reduceAdd]
 repeat' (first|(with_reducible first|apply qA|apply qB|apply qC|apply qD|apply qE|apply qF)|(refine qL rfl (WF.of ?_) ?_; first|rfl|skip)|(simp (disch:=omega) only [go_sem, simprocAttr, qN, qO, qP, qQ])|exact qM rfl rfl rfl|(refine qG rfl ?_)|(refine qK (a1) (by decide) ?_)|(refine qK (a2) (by decide) ?_)|(refine qK (a3) (by decide) ?_)|(refine qH rfl ?_)|(refine qI rfl ?_ ?_<;>intro hc<;>(try simp only [go_sem] at hc))|(refine qJ ?_ ?_<;>intro hc<;>(try simp only [hc])<;>(try simp only [go_sem] at hc)))
 refine DW.loop (ι := { i : Nat // i ≤ 8 }) (fun i => ⟨241, [(3, dI i.1), (2, .own 30), (1, .own 29), (0, bD false)], [(30, .row 3 (rowC (rows eP (ex8.take i.1)))), (29, .row 3 (rowC (rows eP ex3)))]⟩) (fun i => 8 - i.1) ⟨0, by decide⟩ ?_ ?_
 ·refine Ent.to ?_ ?_ <;> simp (disch:=omega) only [qR,qS,qTw,qU,get,Nat.reduceEqDiff,↓reduceIte,qV,qW,qX,qY,qZ,and_self,dI,i64_in,and_true,true_and,rA,rB,rC,rD,List.take_zero,ex3]
  all_goals first | exact ⟨.refl _, .refl _⟩ | exact .refl _
 rintro ⟨i, hi⟩
 dsimp only
 rcases Nat.lt_or_ge i 8 with hlt | hge
 ·have hd : decide ((i : Int) < 8) = true := decide_eq_true (by omega)
  have t1 : Int.tmod (i : Int) 4 = ((i % 4 : Nat) : Int) := rfl
  have t2 : Int.tdiv (i : Int) 4 = ((i / 4 : Nat) : Int) := rfl
  have hk := ex8_at ⟨i, hlt⟩
  dsimp only at hk
  have hsn := rowC_snocP (ex8.take i) ⟨30 * ((i % 4 : Nat) : Int), 40 * ((i / 4 : Nat) : Int), true⟩
  rw [hk] at hsn
  dsimp only at hsn
  have htl : (ex8.take i).length ≤ 8 := by rw [List.length_take]; exact Nat.le_trans (Nat.min_le_left _ _) hi
  generalize ex8.take i = A at *
  repeat' (first|(with_reducible first|apply qA|apply qB|apply qC|apply qD|apply qE|apply qF)|(refine qL rfl (WF.of ?_) ?_; first|rfl|skip)|(simp (disch:=omega) only [go_sem, simprocAttr, qN, qO, qP, qQ, hd, t1, t2, hsn])|exact qM rfl rfl rfl|(refine qG rfl ?_)|(refine qH rfl ?_)|(refine qI rfl ?_ ?_<;>intro hc<;>(try simp only [go_sem] at hc))|(refine qJ ?_ ?_<;>intro hc<;>(try simp only [hc])<;>(try simp only [go_sem] at hc)))
  refine ⟨⟨i + 1, hlt⟩, ?_, Ent.to ?_ ?_⟩ <;> first | (show _ < _; (try simp only); omega) | (simp (disch:=omega) only [qR,qS,qTw,qU,get,Nat.reduceEqDiff,↓reduceIte,qV,qW,qX,qY,qZ,and_self,dI,i64_in,and_true,true_and,rA,rB,rC,rD, hsn])
  all_goals first | exact ⟨.refl _, .refl _⟩ | exact .refl _
 obtain rfl : i = 8 := by omega
 have hti : ex8.take 8 = ex8 := by rfl
 rw [hti]
 repeat' (first|(with_reducible first|apply qA|apply qB|apply qC|apply qD|apply qE|apply qF)|(refine qL rfl (WF.of ?_) ?_; first|rfl|skip)|(simp (disch:=omega) only [go_sem, simprocAttr, qN, qO, qP, qQ])|exact qM rfl rfl rfl|(refine qG rfl ?_)|(refine qK (b0) (by decide) ?_)|(refine qK (b5) (by decide) ?_)|(refine qK (bx) (by decide) ?_)|(refine qK (c1) (by decide) ?_)|(refine qK (c2) (by decide) ?_)|(refine qK (c3) (by decide) ?_)|(refine qK (c4) (by decide) ?_)|(refine qK (o3) (by decide) ?_)|(refine qK (c5) (by decide) ?_)|(refine qK (o3t) (by decide) ?_)|(refine qK (c6) (by decide) ?_)|(refine qK (o8) (by decide) ?_)|(refine qK (c7) (by decide) ?_)|(refine qK (f1) (by decide) ?_)|(refine qK (c8) (by decide) ?_)|(refine qK (lo) (by decide) ?_)|(refine qK (s1) (by decide) ?_)|(refine qK (s2) (by decide) ?_)|(refine qH rfl ?_)|(refine qI rfl ?_ ?_<;>intro hc<;>(try simp only [go_sem] at hc))|(refine qJ ?_ ?_<;>intro hc<;>(try simp only [hc])<;>(try simp only [go_sem] at hc)))
 refine call_rel 111 rfl ?_
 simp (disch:=omega) only [go_sem,simprocAttr,qN,qO,qP,qQ]
 refine opsN.c c9 rfl rfl (by decide) ?_
 simp (disch:=omega) only [go_sem,simprocAttr,qN,qO,qP,qQ]
 repeat' (first|(with_reducible first|apply qA|apply qB|apply qC|apply qD|apply qE|apply qF)|(refine qL rfl (WF.of ?_) ?_; first|rfl|skip)|(simp (disch:=omega) only [go_sem, simprocAttr, qN, qO, qP, qQ])|exact qM rfl rfl rfl|(refine qG rfl ?_)|(refine qK (lo) (by decide) ?_)|(refine qK (s1) (by decide) ?_)|(refine qK (s2) (by decide) ?_)|(refine qH rfl ?_)|(refine qI rfl ?_ ?_<;>intro hc<;>(try simp only [go_sem] at hc))|(refine qJ ?_ ?_<;>intro hc<;>(try simp only [hc])<;>(try simp only [go_sem] at hc)))
 refine call_rel 122 rfl ?_
 simp (disch:=omega) only [go_sem,simprocAttr,qN,qO,qP,qQ]
 refine opsN.c c10 rfl rfl (by decide) ?_
 simp (disch:=omega) only [go_sem,simprocAttr,qN,qO,qP,qQ]
 have d0 : ((0 : Int) != 0) = false := rfl
 have d3 : ((3 : Int) != 3) = false := rfl
 have hl8 : ((L.length : Int) == 8) = true := by rw [hl]; rfl
 repeat' (first|(with_reducible first|apply qA|apply qB|apply qC|apply qD|apply qE|apply qF)|(refine qL rfl (WF.of ?_) ?_; first|rfl|skip)|(simp (disch:=omega) only [go_sem, simprocAttr, qN, qO, qP, qQ, d0, d3, hl8, exR])|exact qM rfl rfl rfl|(refine qG rfl ?_)|(refine qK (a2) (by decide) ?_)|(refine qK (a4) (by decide) ?_)|(refine qK (a5) (by decide) ?_)|(refine qK (sm) (by decide) ?_)|(refine qK (i1) (by decide) ?_)|(refine qK (i2) (by decide) ?_)|(refine qK (s3) (by decide) ?_)|(refine qK (s4) (by decide) ?_)|(refine qH rfl ?_)|(refine qI rfl ?_ ?_<;>intro hc<;>(try simp only [go_sem] at hc))|(refine qJ ?_ ?_<;>intro hc<;>(try simp only [hc])<;>(try simp only [go_sem] at hc)))
end Go.Dw.Seat
end
section
set_option linter.unusedSimpArgs false
set_option maxRecDepth 100000
namespace Go.Dw.Seat
open Go Go.Dw Go.Proofs Go.IntWalk
abbrev lyL (l : PLy) : List D := [dI l.lg, dI l.fr, dI l.bk, dI l.fm, dI l.bm]
theorem sumR_app (c : Int → Int) : ∀ {q : List PIt} {ws : List Int} (a : Int) (x : PIt) (w : Int), ws.length = q.length → sumR c a (q ++ [x]) (ws ++ [w]) = sumR c a q ws + w * c (2 * (a + lgI q) + x.lg)
 | [], [], a, x, w, _ => by simp [sumR, lgI]
 | [], _ :: _, _, _, _, h => by simp at h
 | _ :: _, [], _, _, _, h => by simp at h
 | y :: q, v :: ws, a, x, w, h => by
  rw [List.cons_append, List.cons_append, sumR, sumR_app c (q := q) (ws := ws) (a + y.lg) x w (by simpa using h), sumR, lgI]
  rw [show a + y.lg + lgI q = a + (y.lg + lgI q) by omega]
  omega
def WOk (ws : List Int) : Prop := ∀ w ∈ ws, 0 ≤ w ∧ w ≤ 5000000
theorem sumR_b {c : Int → Int} (hc : ∀ m, 0 ≤ m → m ≤ 4000 → -10000 ≤ c m ∧ c m ≤ 10000) : ∀ {q : List PIt} {ws : List Int} {a : Int}, 0 ≤ a → a + lgI q ≤ 2000 → (∀ x ∈ q, x.ok) → WOk ws → -(50000000000 * (q.length : Int)) ≤ sumR c a q ws ∧ sumR c a q ws ≤ 50000000000 * (q.length : Int)
 | [], _, a, _, _, _, _ => by simp [sumR]
 | _ :: _, [], a, _, _, _, _ => by simp [sumR]; omega
 | x :: q, w :: ws, a, h0, h1, h2, hw => by
  have hx := (h2 x (by simp)).lg
  have hq := fun y hy => h2 y (List.mem_cons_of_mem x hy)
  have hn := lgI_nn hq
  rw [lgI] at h1
  have ih := sumR_b hc (q := q) (ws := ws) (a := a + x.lg) (by omega) (by omega) hq (fun v hv => hw v (by simp [hv]))
  have hcb := hc (2 * a + x.lg) (by omega) (by omega)
  have hwb := hw w (by simp)
  have m := mul_abs (a := w) (b := c (2 * a + x.lg)) (A := 5000000) (B := 10000) (by omega) (by omega)
  rw [sumR, List.length_cons]
  omega
end Go.Dw.Seat
end
section
set_option linter.unusedSimpArgs false
set_option maxRecDepth 100000
namespace Go.Dw.Seat
open Go Go.Dw Go.Proofs Go.IntWalk
def cellsB (u : List Bool) : List D := u.map fun x => bD x
theorem cellsB_men (j : Nat) (u : List Bool) (m : Nat) : D.mens j (cellsB u ++ tops m) = false := by
 induction u with
 | nil => exact cells_men j [] m
 | cons x u ih => simpa [cellsB, D.mens, D.men, bD] using ih
theorem cellsB_keys (bx : List (Nat × Blk)) (u : List Bool) (m : Nat) : D.keysIns bx (cellsB u ++ tops m) = true := by
 induction u with
 | nil => exact cells_keys bx [] m
 | cons x u ih => simpa [cellsB, D.keysIns, D.keysIn, bD] using ih
theorem killB_cellsB (k l : Nat) (u : List Bool) (m : Nat) : killB k (.pbox l (cellsB u ++ tops m)) = .pbox l (cellsB u ++ tops m) := by
 show Blk.pbox l ((cellsB u ++ tops m).map (killD k)) = _
 congr 1
 have h := cellsB_men k u m
 generalize cellsB u ++ tops m = ds at *
 induction ds with
 | nil => rfl
 | cons d ds ih =>
  simp only [D.mens, Bool.or_eq_false_iff] at h
  rw [List.map_cons, killD_of h.1, ih h.2]
theorem relDs_cellsB (k : Nat) (x : Blk) (u : List Bool) (m : Nat) : relDs k x (cellsB u ++ tops m) = cellsB u ++ tops m := relDs_of _ (cellsB_men k u m)
attribute [go_sem] cellsB_men cellsB_keys bk_pbx bm_pbx killB_cellsB relDs_cellsB
end Go.Dw.Seat
end
section
set_option linter.unusedSimpArgs false
set_option maxRecDepth 100000
namespace Go.Dw.Seat
open Go Go.Dw Go.Proofs Go.IntWalk
theorem find_ext {α : Type} {p r : α → Bool} : ∀ {l : List α}, (∀ x ∈ l, p x = r x) → l.find? p = l.find? r
 | [], _ => rfl
 | a :: l, h => by
  rw [List.find?_cons, List.find?_cons, h a (by simp), find_ext (fun x hx => h x (by simp [hx]))]
end Go.Dw.Seat
end
section
set_option linter.unusedSimpArgs false
set_option maxRecDepth 100000
namespace Go.Dw.Seat
open Go Go.Dw Go.Proofs Go.IntWalk
def gW (g : Bool) (x : PIt) (c : Int) : Int := if g then hiW x c else loW x c
def endW (g : Bool) (x : PIt) (c : Int) : Int := if (decide (0 ≤ c) == g) then x.wh else x.wl
theorem end_mul {x : PIt} (h : x.wl ≤ x.wh) (g : Bool) (c : Int) : c * endW g x c = gW g x c := by
 rw [Int.mul_comm]
 unfold endW gW hiW loW
 rcases Int.lt_or_le c 0 with hc | hc
 ·have h1 := Int.mul_le_mul_of_nonpos_right h (by omega : c ≤ 0)
  rw [decide_eq_false (by omega)]
  cases g
  ·show x.wh * c = min (x.wl * c) (x.wh * c); omega
  ·show x.wl * c = max (x.wl * c) (x.wh * c); omega
 ·have h1 := Int.mul_le_mul_of_nonneg_right h hc
  rw [decide_eq_true hc]
  cases g
  ·show x.wl * c = min (x.wl * c) (x.wh * c); omega
  ·show x.wh * c = max (x.wl * c) (x.wh * c); omega
theorem laEnd (a b : Int) (g : Bool) : DCall Try.prog 115 [.agg [dI a, dI b], bD g] [] (dI (if g then b else a)) [] := by
 cases g
 ·refine DCall.of Try.func115 sf115 hb115 (Nat.le_of_ble_eq_true rfl) (okRes_nil fun _ => rfl) ?_; simp only [s115, idxs, Nat.reduceAdd]
  repeat' (first|(with_reducible first|apply qA|apply qB|apply qC|apply qD|apply qE|apply qF)|(simp (disch:=omega) only [go_sem, simprocAttr, qN, qO, qP, qQ])|exact qM rfl rfl rfl|(refine qG rfl ?_)|(refine qH rfl ?_)|(refine qI rfl ?_ ?_<;>intro hc<;>(try simp only [go_sem] at hc))|(refine qJ ?_ ?_<;>intro hc<;>(try simp only [hc])<;>(try simp only [go_sem] at hc)))
 ·refine DCall.of Try.func115 sf115 hb115 (Nat.le_of_ble_eq_true rfl) (okRes_nil fun _ => rfl) ?_; simp only [s115, idxs, Nat.reduceAdd]
  repeat' (first|(with_reducible first|apply qA|apply qB|apply qC|apply qD|apply qE|apply qF)|(simp (disch:=omega) only [go_sem, simprocAttr, qN, qO, qP, qQ])|exact qM rfl rfl rfl|(refine qG rfl ?_)|(refine qH rfl ?_)|(refine qI rfl ?_ ?_<;>intro hc<;>(try simp only [go_sem] at hc))|(refine qJ ?_ ?_<;>intro hc<;>(try simp only [hc])<;>(try simp only [go_sem] at hc)))
theorem sumG (c : Int → Int) : ∀ (g : Bool), (fun m x => gW g x (c m)) = if g then (fun m x => hiW x (c m)) else (fun m x => loW x (c m)) := fun g => by cases g <;> rfl
theorem sumG_b {c : Int → Int} (hc : ∀ m, 0 ≤ m → m ≤ 4000 → -10000 ≤ c m ∧ c m ≤ 10000) (g : Bool) {q : List PIt} {a : Int} (h0 : 0 ≤ a) (h1 : a + lgI q ≤ 2000) (h2 : ∀ x ∈ q, x.ok) : -(50000000000 * (q.length : Int)) ≤ sumM (fun m x => gW g x (c m)) a q ∧ sumM (fun m x => gW g x (c m)) a q ≤ 50000000000 * (q.length : Int) := by
 have h := sumM_b hc h0 h1 h2
 rw [sumG]
 cases g
 ·rw [if_neg Bool.false_ne_true]; exact h.1
 ·rw [if_pos rfl]; exact h.2.1
set_option maxHeartbeats 4000000 in
theorem laParts (lab lo : Bool) (l : PLy) (q : List PIt) (o : List Int) (h : LorOk l (pkI q o)) (ho : ∀ x ∈ o, 0 ≤ x ∧ x < (q.length : Int)) (hq : q.length ≤ 2 ^ 36) (g : Bool) : DCall Try.prog 88 [lyrD l, itsD lab q, dIs lo o, bD g] [] (.tup [dI (sumM (fun m x => gW g x (cB l m)) 0 (pkI q o)), dI (sumM (fun m x => gW g x (cF l m)) 0 (pkI q o))]) [] := by
 have hl := h.ly
 have hlen := h.len
 have hits := h.its
 have hlg := h.lg
 have hll := hl.lg
 have hax := hl.ax
 have hol : (pkI q o).length = o.length := by rw [pkI, List.length_map]
 refine DCall.of Try.func88 sf88 hb88 (Nat.le_of_ble_eq_true rfl) (okRes_nil fun _ => rfl) ?_; simp only [s88, idxs, Nat.reduceAdd]
 repeat' (first|(with_reducible first|apply qA|apply qB|apply qC|apply qD|apply qE|apply qF)|(refine qL rfl (WF.of ?_) ?_; first|rfl|skip)|(simp (disch:=omega) only [go_sem, simprocAttr, qN, qO, qP, qQ])|exact qM rfl rfl rfl|(refine qG rfl ?_)|(refine qH rfl ?_)|(refine qI rfl ?_ ?_<;>intro hc<;>(try simp only [go_sem] at hc))|(refine qJ ?_ ?_<;>intro hc<;>(try simp only [hc])<;>(try simp only [go_sem] at hc)))
 refine DW.loop (ι := { i : Nat // i ≤ o.length }) (fun i => ⟨74, [(13, dI i.1), (12, dI (sumM (fun m x => gW g x (cF l m)) 0 ((pkI q o).take i.1))), (11, dI (sumM (fun m x => gW g x (cB l m)) 0 ((pkI q o).take i.1))), (10, dI (lgI ((pkI q o).take i.1))), (4, .box 4 0), (3, bD g), (2, dIs lo o), (1, itsD lab q)], [(4, .box (lyL l))]⟩) (fun i => o.length - i.1) ⟨0, Nat.zero_le _⟩ ?_ ?_
 ·refine Ent.to ?_ ?_ <;> simp (disch:=omega) only [qR,qS,qTw,qU,get,Nat.reduceEqDiff,↓reduceIte,qV,qW,qX,qY,qZ,and_self,dI,i64_in,and_true,true_and,rA,rB,rC,rD,List.take_zero,lgI,sumM]
  all_goals first | exact ⟨.refl _, .refl _⟩ | exact .refl _
 rintro ⟨i, hi⟩
 dsimp only
 rcases at_or o i hi with ⟨z, hz, hlt, hd⟩ | ⟨he, hd⟩
 ·have hzb := ho z (List.mem_of_getElem? hz)
  obtain ⟨n, rfl⟩ : ∃ n : Nat, z = (n : Int) := ⟨z.toNat, by omega⟩
  have hnq : n < q.length := by omega
  obtain ⟨x, hx⟩ := getE (l := q) hnq
  have hnq' : (n < q.length) = True := eq_true hnq
  have hxp : (pkI q o)[i]? = some x := by
   rw [pkI, List.getElem?_map, hz]
   simp [List.getD_eq_getElem?_getD, hx]
  generalize pkI q o = Q at *
  have hxo := hits x (List.mem_of_getElem? hxp)
  have hxl := hxo.lg
  have hxw := hxo.w
  have htk : Q.take (i + 1) = Q.take i ++ [x] := by rw [List.take_add_one, hxp]; rfl
  have htm : ∀ y ∈ Q.take i, y.ok := fun y hy => hits y (List.mem_of_mem_take hy)
  have hsn := lgI_snoc (Q.take i) x
  have hS1 := lgI_take hits (i + 1)
  rw [htk, hsn] at hS1
  have hS0 := lgI_nn htm
  have hl7 : (Q.take i).length ≤ 7 := by rw [List.length_take]; omega
  have bF := sumG_b (cF_b hl) g (q := Q.take i) (a := 0) (by omega) (by omega) htm
  have bB := sumG_b (cB_b hl) g (q := Q.take i) (a := 0) (by omega) (by omega) htm
  have e1 := sumM_snoc (fun m x => gW g x (cF l m)) (Q.take i) 0 x
  have e3 := sumM_snoc (fun m x => gW g x (cB l m)) (Q.take i) 0 x
  rw [← htk, Int.zero_add] at e1 e3
  rw [← htk] at hsn
  generalize sumM (fun m x => gW g x (cF l m)) 0 (Q.take i) = A1 at *
  generalize sumM (fun m x => gW g x (cB l m)) 0 (Q.take i) = A3 at *
  generalize lgI (Q.take i) = S at *
  have c1 := cF_b hl (2 * S + x.lg) (by omega) (by omega)
  have c2 := cB_b hl (2 * S + x.lg) (by omega) (by omega)
  have u1 := end_mul hxw.2.1 g (cF l (2 * S + x.lg))
  have u2 := end_mul hxw.2.1 g (cB l (2 * S + x.lg))
  rw [← u1] at e1
  rw [← u2] at e3
  have f1 := laEnd x.wl x.wh (decide (0 ≤ cF l (2 * S + x.lg)) == g)
  have f2 := laEnd x.wl x.wh (decide (0 ≤ cB l (2 * S + x.lg)) == g)
  have w1 : 0 ≤ endW g x (cF l (2 * S + x.lg)) ∧ endW g x (cF l (2 * S + x.lg)) ≤ 5000000 := by unfold endW; split <;> omega
  have w2 : 0 ≤ endW g x (cB l (2 * S + x.lg)) ∧ endW g x (cB l (2 * S + x.lg)) ≤ 5000000 := by unfold endW; split <;> omega
  have m1 := mul_abs (a := cF l (2 * S + x.lg)) (b := endW g x (cF l (2 * S + x.lg))) (A := 10000) (B := 5000000) c1 (by omega)
  have m2 := mul_abs (a := cB l (2 * S + x.lg)) (b := endW g x (cB l (2 * S + x.lg))) (A := 10000) (B := 5000000) c2 (by omega)
  change DCall Try.prog 115 [.agg [dI x.wl, dI x.wh], bD _] [] (dI (endW g x (cF l (2 * S + x.lg)))) [] at f1
  change DCall Try.prog 115 [.agg [dI x.wl, dI x.wh], bD _] [] (dI (endW g x (cB l (2 * S + x.lg)))) [] at f2
  generalize endW g x (cF l (2 * S + x.lg)) = E1 at *
  generalize endW g x (cB l (2 * S + x.lg)) = E2 at *
  have hm1 : 2 * l.bk - (2 * S + x.lg) = cF l (2 * S + x.lg) := rfl
  have hm2 : 2 * S + x.lg - 2 * l.fr = cB l (2 * S + x.lg) := rfl
  generalize cF l (2 * S + x.lg) = CF at *
  generalize cB l (2 * S + x.lg) = CB at *
  generalize hP1 : CF * E1 = P1 at *
  generalize hP2 : CB * E2 = P2 at *
  generalize hg1 : (decide (0 ≤ CF) == g) = g1 at *
  generalize hg2 : (decide (0 ≤ CB) == g) = g2 at *
  repeat' (first|(with_reducible first|apply qA|apply qB|apply qC|apply qD|apply qE|apply qF)|(refine qL rfl (WF.of ?_) ?_; first|rfl|skip)|(simp (disch:=omega) only [go_sem, simprocAttr, qN, qO, qP, qQ, hd, hz, hx, hnq', hm1, hm2, hP1, hP2, hg1, hg2, rF, rG])|exact qM rfl rfl rfl|(refine qG rfl ?_)|(refine qK (f1) (by decide) ?_)|(refine qK (f2) (by decide) ?_)|(refine qH rfl ?_)|(refine qI rfl ?_ ?_<;>intro hc<;>(try simp only [go_sem] at hc))|(refine qJ ?_ ?_<;>intro hc<;>(try simp only [hc])<;>(try simp only [go_sem] at hc)))
  refine ⟨⟨i + 1, hlt⟩, ?_, Ent.to ?_ ?_⟩ <;> first | (show _ < _; (try simp only); omega) | (simp (disch:=omega) only [qR,qS,qTw,qU,get,Nat.reduceEqDiff,↓reduceIte,qV,qW,qX,qY,qZ,and_self,dI,i64_in,and_true,true_and,rA,rB,rC,rD, hsn,e1,e3])
  all_goals first | exact ⟨.refl _, .refl _⟩ | exact .refl _ | skip
 ·have hti : (pkI q o).take i = pkI q o := by rw [he, ← hol, List.take_length]
  rw [hti]
  repeat' (first|(with_reducible first|apply qA|apply qB|apply qC|apply qD|apply qE|apply qF)|(refine qL rfl (WF.of ?_) ?_; first|rfl|skip)|(simp (disch:=omega) only [go_sem, simprocAttr, qN, qO, qP, qQ, hd])|exact qM rfl rfl rfl|(refine qG rfl ?_)|(refine qH rfl ?_)|(refine qI rfl ?_ ?_<;>intro hc<;>(try simp only [go_sem] at hc))|(refine qJ ?_ ?_<;>intro hc<;>(try simp only [hc])<;>(try simp only [go_sem] at hc)))
theorem laBears (lab lo : Bool) (l : PLy) (q : List PIt) (o : List Int) (h : LorOk l (pkI q o)) (ho : ∀ x ∈ o, 0 ≤ x ∧ x < (q.length : Int)) (hq : q.length ≤ 2 ^ 36) : DCall Try.prog 45 [lyrD l, itsD lab q, dIs lo o] [] (bD (bearB l (pkI q o))) [] := by
 have p1 := laParts lab lo l q o h ho hq false
 have p2 := laParts lab lo l q o h ho hq true
 have hb := prt_b h
 have hl := h.ly
 have hll := hl.lg
 have hax := hl.ax
 have hfm := hl.fm
 have hbm := hl.bm
 rw [sumG, sumG, if_neg Bool.false_ne_true, if_neg Bool.false_ne_true] at p1
 rw [sumG, sumG, if_pos rfl, if_pos rfl] at p2
 change DCall Try.prog 88 [lyrD l, itsD lab q, dIs lo o, bD false] [] (.tup [dI (prtF l (pkI q o)).bl, dI (prtF l (pkI q o)).fl]) [] at p1
 change DCall Try.prog 88 [lyrD l, itsD lab q, dIs lo o, bD true] [] (.tup [dI (prtF l (pkI q o)).bh, dI (prtF l (pkI q o)).fh]) [] at p2
 unfold bearB
 generalize prtF l (pkI q o) = R at *
 obtain ⟨fl, fh, bl, bh⟩ := R
 dsimp only at hb p1 p2 ⊢
 have m1 := mul_abs (a := l.fm) (b := 2 * (l.bk - l.fr)) (A := 40000000) (B := 4000) (by omega) (by omega)
 have m2 := mul_abs (a := l.bm) (b := 2 * (l.bk - l.fr)) (A := 40000000) (B := 4000) (by omega) (by omega)
 generalize hF : l.fm * (2 * (l.bk - l.fr)) = FM at *
 generalize hB : l.bm * (2 * (l.bk - l.fr)) = BM at *
 refine DCall.of Try.func45 sf45 hb45 (Nat.le_of_ble_eq_true rfl) (okRes_nil fun _ => rfl) ?_; simp only [s45, idxs, Nat.reduceAdd]
 by_cases k1 : 0 ≤ bl
 ·have d1 := decide_eq_true k1
  by_cases k2 : 0 ≤ fl
  ·have d2 := decide_eq_true k2
   by_cases k3 : bh ≤ BM
   ·have d3 := decide_eq_true k3
    repeat' (first|(with_reducible first|apply qA|apply qB|apply qC|apply qD|apply qE|apply qF)|(simp (disch:=omega) only [go_sem, simprocAttr, qN, qO, qP, qQ, d1, d2, d3, hF, hB, Bool.and_true, Bool.true_and])|exact qM rfl rfl rfl|(refine qG rfl ?_)|(refine qK (p1) (by decide) ?_)|(refine qK (p2) (by decide) ?_)|(refine qH rfl ?_)|(refine qI rfl ?_ ?_<;>intro hc<;>(try simp only [go_sem] at hc))|(refine qJ ?_ ?_<;>intro hc<;>(try simp only [hc])<;>(try simp only [go_sem] at hc)))
   ·have d3 := decide_eq_false k3
    repeat' (first|(with_reducible first|apply qA|apply qB|apply qC|apply qD|apply qE|apply qF)|(simp (disch:=omega) only [go_sem, simprocAttr, qN, qO, qP, qQ, d1, d2, d3, hF, hB, Bool.and_false, Bool.and_true])|exact qM rfl rfl rfl|(refine qG rfl ?_)|(refine qK (p1) (by decide) ?_)|(refine qK (p2) (by decide) ?_)|(refine qH rfl ?_)|(refine qI rfl ?_ ?_<;>intro hc<;>(try simp only [go_sem] at hc))|(refine qJ ?_ ?_<;>intro hc<;>(try simp only [hc])<;>(try simp only [go_sem] at hc)))
  ·have d2 := decide_eq_false k2
   repeat' (first|(with_reducible first|apply qA|apply qB|apply qC|apply qD|apply qE|apply qF)|(simp (disch:=omega) only [go_sem, simprocAttr, qN, qO, qP, qQ, d1, d2, hF, hB, Bool.false_and])|exact qM rfl rfl rfl|(refine qG rfl ?_)|(refine qK (p1) (by decide) ?_)|(refine qK (p2) (by decide) ?_)|(refine qH rfl ?_)|(refine qI rfl ?_ ?_<;>intro hc<;>(try simp only [go_sem] at hc))|(refine qJ ?_ ?_<;>intro hc<;>(try simp only [hc])<;>(try simp only [go_sem] at hc)))
 ·have d1 := decide_eq_false k1
  repeat' (first|(with_reducible first|apply qA|apply qB|apply qC|apply qD|apply qE|apply qF)|(simp (disch:=omega) only [go_sem, simprocAttr, qN, qO, qP, qQ, d1, hF, hB, Bool.and_false, Bool.false_and])|exact qM rfl rfl rfl|(refine qG rfl ?_)|(refine qK (p1) (by decide) ?_)|(refine qK (p2) (by decide) ?_)|(refine qH rfl ?_)|(refine qI rfl ?_ ?_<;>intro hc<;>(try simp only [go_sem] at hc))|(refine qJ ?_ ?_<;>intro hc<;>(try simp only [hc])<;>(try simp only [go_sem] at hc)))
theorem ltL_drop {a b : List Int} {i : Nat} {x y : Int} (h1 : a[i]? = some x) (h2 : b[i]? = some y) : ltL (a.drop i) (b.drop i) = if x ≠ y then decide (x < y) else ltL (a.drop (i + 1)) (b.drop (i + 1)) := by
 obtain ⟨p1, e1⟩ := List.getElem?_eq_some_iff.1 h1
 obtain ⟨p2, e2⟩ := List.getElem?_eq_some_iff.1 h2
 rw [List.drop_eq_getElem_cons p1, List.drop_eq_getElem_cons p2, ltL, e1, e2]
theorem laSmall (la lb : Bool) (a b : List Int) (ha : a.length ≤ 2 ^ 36) (hab : a.length = b.length) : DCall Try.prog 46 [dIs la a, dIs lb b] [] (bD (ltL a b)) [] := by
 generalize hR : ltL a b = R
 refine DCall.of Try.func46 sf46 hb46 (Nat.le_of_ble_eq_true rfl) (okRes_nil fun _ => rfl) ?_; simp only [s46, idxs, Nat.reduceAdd]
 repeat' (first|(with_reducible first|apply qA|apply qB|apply qC|apply qD|apply qE|apply qF)|(refine qL rfl (WF.of ?_) ?_; first|rfl|skip)|(simp (disch:=omega) only [go_sem, simprocAttr, qN, qO, qP, qQ])|exact qM rfl rfl rfl|(refine qG rfl ?_)|(refine qH rfl ?_)|(refine qI rfl ?_ ?_<;>intro hc<;>(try simp only [go_sem] at hc))|(refine qJ ?_ ?_<;>intro hc<;>(try simp only [hc])<;>(try simp only [go_sem] at hc)))
 refine DW.loop (ι := { i : Nat // i ≤ a.length ∧ ltL (a.drop i) (b.drop i) = R }) (fun i => ⟨36, [(5, dI i.1), (1, dIs lb b), (0, dIs la a)], []⟩) (fun i => a.length - i.1) ⟨0, Nat.zero_le _, hR⟩ ?_ ?_
 ·refine Ent.to ?_ ?_ <;> simp (disch:=omega) only [qR,qS,qTw,qU,get,Nat.reduceEqDiff,↓reduceIte,qV,qW,qX,qY,qZ,and_self,dI,i64_in,and_true,true_and,rA,rB,rC,rD]
 rintro ⟨i, hi, hr⟩
 dsimp only
 rcases at_or a i hi with ⟨x, hx, hlt, hd⟩ | ⟨he, hd⟩
 ·obtain ⟨y, hy⟩ := getE (l := b) (i := i) (by omega)
  rw [ltL_drop hx hy] at hr
  have hd2 : decide ((i : Int) < (b.length : Int)) = true := decide_eq_true (by omega)
  by_cases hxy : x = y
  ·have hb : (x != y) = false := by simp [hxy]
   rw [if_neg (by simp [hxy])] at hr
   repeat' (first|(with_reducible first|apply qA|apply qB|apply qC|apply qD|apply qE|apply qF)|(refine qL rfl (WF.of ?_) ?_; first|rfl|skip)|(simp (disch:=omega) only [go_sem, simprocAttr, qN, qO, qP, qQ, hd, hd2, hx, hy, hb, rF, rG])|exact qM rfl rfl rfl|(refine qG rfl ?_)|(refine qH rfl ?_)|(refine qI rfl ?_ ?_<;>intro hc<;>(try simp only [go_sem] at hc))|(refine qJ ?_ ?_<;>intro hc<;>(try simp only [hc])<;>(try simp only [go_sem] at hc)))
   refine ⟨⟨i + 1, hlt, hr⟩, ?_, Ent.to ?_ ?_⟩ <;> first | (show _ < _; (try simp only); omega) | (simp (disch:=omega) only [qR,qS,qTw,qU,get,Nat.reduceEqDiff,↓reduceIte,qV,qW,qX,qY,qZ,and_self,dI,i64_in,and_true,true_and,rA,rB,rC,rD])
  ·have hb : (x != y) = true := by simp [hxy]
   rw [if_pos hxy] at hr
   repeat' (first|(with_reducible first|apply qA|apply qB|apply qC|apply qD|apply qE|apply qF)|(refine qL rfl (WF.of ?_) ?_; first|rfl|skip)|(simp (disch:=omega) only [go_sem, simprocAttr, qN, qO, qP, qQ, hd, hd2, hx, hy, hb, hr, rF, rG])|exact qM rfl rfl rfl|(refine qG rfl ?_)|(refine qH rfl ?_)|(refine qI rfl ?_ ?_<;>intro hc<;>(try simp only [go_sem] at hc))|(refine qJ ?_ ?_<;>intro hc<;>(try simp only [hc])<;>(try simp only [go_sem] at hc)))
 ·rw [List.drop_eq_nil_of_le (by omega), ltL] at hr
  ·subst hr
   repeat' (first|(with_reducible first|apply qA|apply qB|apply qC|apply qD|apply qE|apply qF)|(refine qL rfl (WF.of ?_) ?_; first|rfl|skip)|(simp (disch:=omega) only [go_sem, simprocAttr, qN, qO, qP, qQ, hd])|exact qM rfl rfl rfl|(refine qG rfl ?_)|(refine qH rfl ?_)|(refine qI rfl ?_ ?_<;>intro hc<;>(try simp only [go_sem] at hc))|(refine qJ ?_ ?_<;>intro hc<;>(try simp only [hc])<;>(try simp only [go_sem] at hc)))
  ·intros; simp_all
end Go.Dw.Seat
end
section
set_option linter.unusedSimpArgs false
set_option maxRecDepth 100000
namespace Go.Dw.Seat
open Go Go.Dw Go.IntWalk
def byN (l : List Nat) (i : Nat) : Nat := if l.length = 0 then 0 else l.getD (i % l.length) 0
theorem byN_lt {l : List Nat} (h : ∀ v ∈ l, v < 256) (i : Nat) : byN l i < 256 := by
 unfold byN
 split
 ·decide
 ·rw [List.getD_eq_getElem?_getD, List.getElem?_eq_getElem (Nat.mod_lt _ (by omega))]
  exact h _ (List.getElem_mem _)
end Go.Dw.Seat
end
section
set_option linter.unusedSimpArgs false
set_option maxRecDepth 100000
namespace Go.Dw.Seat
open Go Go.Dw Go.IntWalk
structure Rct where
 x0 : Nat
 x1 : Nat
 y0 : Nat
 y1 : Nat
def Rct.off (r s : Rct) : Prop := r.x1 ≤ s.x0 ∨ s.x1 ≤ r.x0 ∨ r.y1 ≤ s.y0 ∨ s.y1 ≤ r.y0
end Go.Dw.Seat
end
section
set_option linter.unusedSimpArgs false
set_option maxRecDepth 100000
namespace Go.Dw.Seat
open Go Go.Dw Go.Proofs Go.IntWalk
abbrev dU (n : Nat) : D := .c (.v (.int .u8 n))
def e1 (n : Nat) : List C := [.v (.int .u8 n)]
def AllLt (b : Nat) (l : List Nat) : Prop := ∀ x ∈ l, x < b
attribute [go_sem] e1
theorem ud5 : Try.prog.underlying 5 = some (.int .u8) := by kernel_rfl
theorem laByte (lab : Bool) (l : List Nat) (hm : l.length ≤ maxLen) (hb : ∀ v ∈ l, v < 256) (i : Nat) : DCall Try.prog 44 [.c (.sl lab 1 (rows e1 l)), dI i] [] (dI (byN l i)) [] := by
 have hl : l.length ≤ 9223372036854775807 := hm
 have hlt := byN_lt hb i
 unfold byN at hlt ⊢
 by_cases h0 : l.length = 0
 ·have d0 : ((l.length : Int) == 0) = true := by simp [h0]
  rw [if_pos h0]
  refine DCall.of Try.func44 sf44 hb44 (Nat.le_of_ble_eq_true rfl) (okRes_nil fun _ => rfl) ?_; simp only [s44, idxs, Nat.reduceAdd]
  repeat' (first|(with_reducible first|apply qA|apply qB|apply qC|apply qD|apply qE|apply qF)|(simp (disch:=omega) only [go_sem, simprocAttr, qN, qO, qP, qQ, d0])|exact qM rfl rfl rfl|(refine qG rfl ?_)|(refine qH rfl ?_)|(refine qI rfl ?_ ?_<;>intro hc<;>(try simp only [go_sem] at hc))|(refine qJ ?_ ?_<;>intro hc<;>(try simp only [hc])<;>(try simp only [go_sem] at hc)))
 ·have d0 : ((l.length : Int) == 0) = false := by simp [h0]
  rw [if_neg h0] at hlt ⊢
  have hm : i % l.length < l.length := Nat.mod_lt _ (by omega)
  have t1 : Int.tmod (i : Int) (l.length : Int) = ((i % l.length : Nat) : Int) := rfl
  have z1 : ((l.length : Int) = 0) = False := eq_false (by omega)
  have g1 : l[i % l.length]? = some (l.getD (i % l.length) 0) := by rw [List.getD_eq_getElem?_getD, List.getElem?_eq_getElem hm]; rfl
  have b1 : (i % l.length < l.length) = True := eq_true hm
  generalize l.getD (i % l.length) 0 = v at *
  generalize i % l.length = j at *
  refine DCall.of Try.func44 sf44 hb44 (Nat.le_of_ble_eq_true rfl) (okRes_nil fun _ => rfl) ?_; simp only [s44, idxs, Nat.reduceAdd]
  repeat' (first|(with_reducible first|apply qA|apply qB|apply qC|apply qD|apply qE|apply qF)|(simp (disch:=omega) only [go_sem, simprocAttr, qN, qO, qP, qQ, ud5, d0, t1, z1, g1, b1])|exact qM rfl rfl rfl|(refine qG rfl ?_)|(refine qH rfl ?_)|(refine qI rfl ?_ ?_<;>intro hc<;>(try simp only [go_sem] at hc))|(refine qJ ?_ ?_<;>intro hc<;>(try simp only [hc])<;>(try simp only [go_sem] at hc)))
end Go.Dw.Seat
end
section
set_option linter.unusedSimpArgs false
set_option maxRecDepth 100000
namespace Go.Dw.Seat
open Go Go.Dw Go.Proofs Go.IntWalk
structure PT3 where
 a : Nat
 b : Nat
 c : Nat
def eT (t : PT3) : List C := [.v (.int .u8 t.a), .v (.int .u8 t.b), .v (.int .u8 t.c)]
theorem eT_nb (t : PT3) : C.nbs (eT t) = true := rfl
attribute [go_sem] eT
structure PT3.ok (t : PT3) : Prop where
 a : t.a < 256
 b : t.b < 256
 c : t.c < 256
def itT (t : PT3) : PIt := ⟨20 + ((t.a % 150 : Nat) : Int), 1000 * (t.b : Int), 1000 * (t.b : Int) + 100 * (t.c : Int)⟩
theorem itT_b {t : PT3} (h : t.ok) : (20 ≤ (itT t).lg ∧ (itT t).lg ≤ 169) ∧ (0 ≤ (itT t).wl ∧ (itT t).wl ≤ (itT t).wh) ∧ (itT t).wh ≤ 280500 := by
 have := h.a
 have := h.b
 have := h.c
 unfold itT
 dsimp only
 omega
def lgT (a : Nat) (S : Int) : Int := S + 1 + ((a % 200 : Nat) : Int)
def frT (b : Nat) (G : Int) : Int := ((b % 120 : Nat) : Int) * G / 1000
def bkT (c : Nat) (G F : Int) : Int := min G (F + 1 + G * (100 + ((c % 150 : Nat) : Int)) / 300)
def lyT (a b c d : Nat) (S : Int) : PLy := ⟨lgT a S, frT b (lgT a S), bkT c (lgT a S) (frT b (lgT a S)), 3000 * (d : Int), 2000 * (300 - (d : Int))⟩
def qT (T : List PT3) : List PIt := (T.take 6).map itT
theorem lgT_b {T : List PIt} (h : ∀ x ∈ T, 20 ≤ x.lg ∧ x.lg ≤ 169) : 20 * (T.length : Int) ≤ lgI T ∧ lgI T ≤ 169 * (T.length : Int) := by
 induction T with
 | nil => simp [lgI]
 | cons x T ih =>
  have h1 := h x (by simp)
  have h2 := ih (fun y hy => h y (by simp [hy]))
  rw [lgI, List.length_cons]
  omega
theorem frT_b (b : Nat) {G : Int} (h : 1 ≤ G ∧ G ≤ 2000) : 0 ≤ frT b G ∧ frT b G < G := by
 unfold frT
 have m := mul_abs (a := ((b % 120 : Nat) : Int)) (b := G) (A := 119) (B := 2000) (by omega) (by omega)
 have m0 : 0 ≤ ((b % 120 : Nat) : Int) * G := Int.mul_nonneg (by omega) (by omega)
 have m1 : ((b % 120 : Nat) : Int) * G ≤ 119 * G := Int.mul_le_mul_of_nonneg_right (by omega) (by omega)
 omega
theorem bkT_b (c : Nat) {G F : Int} (h : 1 ≤ G ∧ G ≤ 2000) (hF : 0 ≤ F ∧ F < G) : F < bkT c G F ∧ bkT c G F ≤ G := by
 unfold bkT
 have m0 : 0 ≤ G * (100 + ((c % 150 : Nat) : Int)) := Int.mul_nonneg (by omega) (by omega)
 omega
theorem truck_ok {a b c d : Nat} (hd : d < 256) {T : List PT3} (hT : ∀ t ∈ T, t.ok) : LorOk (lyT a b c d (lgI (qT T))) (qT T) := by
 have hlen : (qT T).length ≤ 6 := by rw [qT, List.length_map, List.length_take]; omega
 have hb : ∀ x ∈ qT T, (20 ≤ x.lg ∧ x.lg ≤ 169) ∧ (0 ≤ x.wl ∧ x.wl ≤ x.wh) ∧ x.wh ≤ 280500 := fun x hx => by
  obtain ⟨t, ht, rfl⟩ := List.mem_map.1 hx
  exact itT_b (hT t (List.mem_of_mem_take ht))
 have hS := lgT_b (fun x hx => (hb x hx).1)
 generalize qT T = q at *
 generalize hSq : lgI q = S at *
 have hG : 1 ≤ lgT a S ∧ lgT a S ≤ 2000 ∧ S ≤ lgT a S := by unfold lgT; omega
 unfold lyT
 generalize lgT a S = G at *
 have hF := frT_b b (G := G) (by omega)
 generalize frT b G = F at *
 have hK := bkT_b c (G := G) (F := F) (by omega) hF
 generalize bkT c G F = K at *
 refine ⟨⟨⟨hG.1, hG.2.1⟩, ⟨⟨hF.1, hK.1⟩, hK.2⟩, ⟨by dsimp only; omega, by dsimp only; omega⟩, ⟨by dsimp only; omega, by dsimp only; omega⟩⟩, by omega, fun x hx => ?_, by rw [hSq]; exact hG.2.2⟩
 have := hb x hx
 exact ⟨by omega, by omega⟩
abbrev trL (lab : Bool) (a b c d : Nat) (T : List PT3) : List D := [dU a, dU b, dU c, dU d, .c (.sl lab 3 (rows eT T))]
theorem sz54 : Try.prog.types[54].size = 5 := by kernel_rfl
set_option maxHeartbeats 8000000 in
theorem laTruck (lab : Bool) (a b c d : Nat) (ha : a < 256) (hb : b < 256) (hc : c < 256) (hd : d < 256) (T : List PT3) (hm : T.length ≤ maxLen) (hT : ∀ t ∈ T, t.ok) : DCall Try.prog 43 [.agg (trL lab a b c d T)] [] (.tup [lyrD (lyT a b c d (lgI (qT T))), itsD false (qT T)]) [] := by
 have hm : T.length ≤ 9223372036854775807 := hm
 refine DCall.of Try.func43 sf43 hb43 (Nat.le_of_ble_eq_true rfl) (okRes_nil fun _ => rfl) ?_; simp only [s43, o43_0, o43_1, o43_2, o43_3, o43_4, o43_5, o43_6, o43_7, o43_8, o43_9, o43_10, o43_11, o43_12, o43_13, o43_14, idxs, Nat.reduceAdd]
 repeat' (first|(with_reducible first|apply qA|apply qB|apply qC|apply qD|apply qE|apply qF)|(refine qL rfl (WF.of ?_) ?_; first|rfl|skip)|(refine DW.ord rfl (WF.of (by first|rfl|simp (disch:=omega) only [go_sem, simprocAttr, qN, qO, qP, qQ])) ?_ ?_ ?_; rotate_left)|rfl|(with_reducible refine And.intro ?_ ?_)|(simp (disch:=omega) only [go_sem, simprocAttr, qN, qO, qP, qQ])|exact qM rfl rfl rfl|(refine qG rfl ?_)|(refine qH rfl ?_)|(refine qI rfl ?_ ?_<;>intro hc<;>(try simp only [go_sem] at hc))|(refine qJ ?_ ?_<;>intro hc<;>(try simp only [hc])<;>(try simp only [go_sem] at hc)))
 refine DW.loop (ι := { i : Nat // i ≤ (T.take 6).length }) (fun i => ⟨109, [(7, dI i.1), (6, .own 10), (5, dI (lgI (((T.take 6).take i.1).map itT))), (4, .box 4 0), (2, .box 2 0), (1, .box 1 0)], [(10, .row 3 (rowC (rows eIt (((T.take 6).take i.1).map itT)))), (4, .box [dI 0, dI 0, dI 0, dI 0, dI 0]), (2, .box [dI 0, dI 0, dI 0, dI 0, dI 0]), (1, .box (trL lab a b c d T))]⟩) (fun i => (T.take 6).length - i.1) ⟨0, Nat.zero_le _⟩ ?_ ?_
 ·refine Ent.to ?_ ?_ <;> simp (disch:=omega) only [qR,qS,qTw,qU,get,Nat.reduceEqDiff,↓reduceIte,qV,qW,qX,qY,qZ,and_self,dI,i64_in,and_true,true_and,rA,rB,rC,rD,List.take_zero,rG,lgI]
  all_goals first | exact ⟨.refl _, .refl _⟩ | exact .refl _
 rintro ⟨i, hi⟩
 dsimp only
 have hl6 : (T.take 6).length = min 6 T.length := List.length_take ..
 rcases at_or (T.take 6) i hi with ⟨t, ht, hlt, _⟩ | ⟨he, _⟩
 ·have hi6 : i < 6 := by omega
  have hiT : i < T.length := by omega
  have htT : T[i]? = some t := by rwa [List.getElem?_take_of_lt hi6] at ht
  have hto := hT t (List.mem_of_getElem? htT)
  have htb := itT_b hto
  have hd1 : decide ((i : Int) < (T.length : Int)) = true := decide_eq_true (by omega)
  have hd2 : decide ((i : Int) < 6) = true := decide_eq_true (by omega)
  have htk : ((T.take 6).take (i + 1)).map itT = ((T.take 6).take i).map itT ++ [itT t] := by rw [List.take_add_one, ht]; simp
  have hml : (((T.take 6).take i).map itT).length ≤ 6 := by rw [List.length_map, List.length_take]; omega
  have hmb : ∀ x ∈ ((T.take 6).take i).map itT, 20 ≤ x.lg ∧ x.lg ≤ 169 := fun x hx => by
   obtain ⟨v, hv, rfl⟩ := List.mem_map.1 hx
   exact (itT_b (hT v (List.mem_of_mem_take (List.mem_of_mem_take hv)))).1
  have hS := lgT_b hmb
  generalize ((T.take 6).take i).map itT = A at *
  have hsn := rowC_snocIt A (itT t)
  have hsl := lgI_snoc A (itT t)
  generalize lgI A = S at *
  obtain ⟨u, v, w⟩ := t
  have h1 := hto.a
  have h2 := hto.b
  have h3 := hto.c
  dsimp only at h1 h2 h3
  have hsp := laSpan (1000 * (v : Int)) (1000 * (v : Int) + 100 * (w : Int))
  have t1 : Int.tmod ((u : Nat) : Int) 150 = ((u % 150 : Nat) : Int) := rfl
  dsimp only [itT] at hsn hsl
  repeat' (first|(with_reducible first|apply qA|apply qB|apply qC|apply qD|apply qE|apply qF)|(refine qL rfl (WF.of ?_) ?_; first|rfl|skip)|(refine DW.ord rfl (WF.of (by first|rfl|simp (disch:=omega) only [go_sem, simprocAttr, qN, qO, qP, qQ, ud5, hd1, hd2, htT, t1, hsn, rF, rG])) ?_ ?_ ?_; rotate_left)|rfl|(with_reducible refine And.intro ?_ ?_)|(simp (disch:=omega) only [go_sem, simprocAttr, qN, qO, qP, qQ, ud5, hd1, hd2, htT, t1, hsn, rF, rG])|exact qM rfl rfl rfl|(refine qG rfl ?_)|(refine qK (hsp) (by decide) ?_)|(refine qH rfl ?_)|(refine qI rfl ?_ ?_<;>intro hc<;>(try simp only [go_sem] at hc))|(refine qJ ?_ ?_<;>intro hc<;>(try simp only [hc])<;>(try simp only [go_sem] at hc)))
  refine ⟨⟨i + 1, hlt⟩, ?_, Ent.to ?_ ?_⟩ <;> first | (show _ < _; (try simp only); omega) | (simp (disch:=omega) only [qR,qS,qTw,qU,get,Nat.reduceEqDiff,↓reduceIte,qV,qW,qX,qY,qZ,and_self,dI,i64_in,and_true,true_and,rA,rB,rC,rD, htk,hsn,hsl,itT])
  all_goals first | exact ⟨.refl _, .refl _⟩ | exact .refl _
 ·have hti : ((T.take 6).take i).map itT = qT T := by rw [he, List.take_length]; rfl
  rw [hti]
  have hlq : (qT T).length = i := by rw [qT, List.length_map, he]
  have hqb : ∀ x ∈ qT T, 20 ≤ x.lg ∧ x.lg ≤ 169 := fun x hx => by
   obtain ⟨v, hv, rfl⟩ := List.mem_map.1 hx
   exact (itT_b (hT v (List.mem_of_mem_take hv))).1
  have hS := lgT_b hqb
  generalize qT T = q at *
  generalize lgI q = S at *
  have hi6 : i ≤ 6 := by omega
  have hG : 1 ≤ lgT a S ∧ lgT a S ≤ 2000 := by unfold lgT; omega
  have hGe : S + 1 + ((a % 200 : Nat) : Int) = lgT a S := rfl
  have hF := frT_b b hG
  unfold lyT
  generalize lgT a S = G at *
  have hFe : frT b G = ((b % 120 : Nat) : Int) * G / 1000 := rfl
  have hKe : bkT c G (frT b G) = min G (frT b G + 1 + G * (100 + ((c % 150 : Nat) : Int)) / 300) := rfl
  have hP1 : 0 ≤ ((b % 120 : Nat) : Int) * G ∧ ((b % 120 : Nat) : Int) * G ≤ 119 * 2000 := ⟨Int.mul_nonneg (by omega) (by omega), Int.mul_le_mul (by omega) (by omega) (by omega) (by omega)⟩
  have hP2 : 0 ≤ G * (100 + ((c % 150 : Nat) : Int)) ∧ G * (100 + ((c % 150 : Nat) : Int)) ≤ 2000 * 249 := ⟨Int.mul_nonneg (by omega) (by omega), Int.mul_le_mul (by omega) (by omega) (by omega) (by omega)⟩
  generalize bkT c G (frT b G) = K at *
  generalize frT b G = F at *
  generalize hM1 : ((b % 120 : Nat) : Int) * G = M1 at *
  generalize hM2 : G * (100 + ((c % 150 : Nat) : Int)) = M2 at *
  have q1 : Int.tdiv M1 1000 = F := by rw [Int.tdiv_eq_ediv_of_nonneg (by omega), hFe]
  have q2 : Int.tdiv M2 300 = M2 / 300 := Int.tdiv_eq_ediv_of_nonneg (by omega)
  have hK2 : (if F + 1 + M2 / 300 < G then F + 1 + M2 / 300 else G) = K := by rw [hKe]; split <;> omega
  have t1 : Int.tmod ((a : Nat) : Int) 200 = ((a % 200 : Nat) : Int) := rfl
  have t2 : Int.tmod ((b : Nat) : Int) 120 = ((b % 120 : Nat) : Int) := rfl
  have t3 : Int.tmod ((c : Nat) : Int) 150 = ((c % 150 : Nat) : Int) := rfl
  by_cases hi1 : i < T.length
  ·have hd1 : decide ((i : Int) < (T.length : Int)) = true := decide_eq_true (by omega)
   have hd2 : decide ((i : Int) < 6) = false := decide_eq_false (by omega)
   repeat' (first|(with_reducible first|apply qA|apply qB|apply qC|apply qD|apply qE|apply qF)|(refine qL rfl (WF.of ?_) ?_; first|rfl|skip)|(refine DW.ord rfl (WF.of (by first|rfl|simp (disch:=omega) only [go_sem, simprocAttr, qN, qO, qP, qQ, ud5, hd1, hd2, t1, t2, t3, hGe, hM1, hM2, q1, q2])) ?_ ?_ ?_; rotate_left)|rfl|(with_reducible refine And.intro ?_ ?_)|(simp (disch:=omega) only [go_sem, simprocAttr, qN, qO, qP, qQ, ud5, hd1, hd2, t1, t2, t3, hGe, hM1, hM2, q1, q2])|exact qM rfl rfl rfl|(refine qG rfl ?_)|(refine qH rfl ?_)|(refine qI rfl ?_ ?_<;>intro hc<;>(try simp only [go_sem] at hc))|(refine qJ ?_ ?_<;>intro hc<;>(try simp only [hc])<;>(try simp only [go_sem] at hc)))
   (refine retS_ent (Ent.rel 10 rfl) ?_; simp (disch:=omega) only [go_sem,simprocAttr,qN,qO,qP,qQ])
   refine retS_wk rfl ?_ (by simp only [List.all_cons, List.all_nil, Blk.nb, rowC_nb, D.nb, D.nbs, C.nb, C.nbs, C.nbss, rows_nb eI_nb, Bool.and_true, Bool.not_false, Bool.and_self, bD, dI, iD, rows_nb eIt_nb, rows_nb eT_nb])
   simp (disch:=omega) only [go_sem,simprocAttr,qN,qO,qP,qQ,oneD,St.op,sz54,hK2]
   exact .refl _
  ·have hd1 : decide ((i : Int) < (T.length : Int)) = false := decide_eq_false (by omega)
   repeat' (first|(with_reducible first|apply qA|apply qB|apply qC|apply qD|apply qE|apply qF)|(refine qL rfl (WF.of ?_) ?_; first|rfl|skip)|(refine DW.ord rfl (WF.of (by first|rfl|simp (disch:=omega) only [go_sem, simprocAttr, qN, qO, qP, qQ, ud5, hd1, t1, t2, t3, hGe, hM1, hM2, q1, q2])) ?_ ?_ ?_; rotate_left)|rfl|(with_reducible refine And.intro ?_ ?_)|(simp (disch:=omega) only [go_sem, simprocAttr, qN, qO, qP, qQ, ud5, hd1, t1, t2, t3, hGe, hM1, hM2, q1, q2])|exact qM rfl rfl rfl|(refine qG rfl ?_)|(refine qH rfl ?_)|(refine qI rfl ?_ ?_<;>intro hc<;>(try simp only [go_sem] at hc))|(refine qJ ?_ ?_<;>intro hc<;>(try simp only [hc])<;>(try simp only [go_sem] at hc)))
   (refine retS_ent (Ent.rel 10 rfl) ?_; simp (disch:=omega) only [go_sem,simprocAttr,qN,qO,qP,qQ])
   refine retS_wk rfl ?_ (by simp only [List.all_cons, List.all_nil, Blk.nb, rowC_nb, D.nb, D.nbs, C.nb, C.nbs, C.nbss, rows_nb eI_nb, Bool.and_true, Bool.not_false, Bool.and_self, bD, dI, iD, rows_nb eIt_nb, rows_nb eT_nb])
   simp (disch:=omega) only [go_sem,simprocAttr,qN,qO,qP,qQ,oneD,St.op,sz54,hK2]
   exact .refl _
end Go.Dw.Seat
end
section
set_option linter.unusedSimpArgs false
set_option maxRecDepth 100000
namespace Go.Dw.Seat
open Go Go.Dw Go.Proofs Go.IntWalk
def wT (r : List Nat) (i : Nat) (x : PIt) : Int := x.wl + (byN r i : Int) * (x.wh - x.wl) / 255
def wsT (r : List Nat) (q : List PIt) : List Int := q.mapIdx (wT r)
theorem wsT_len (r : List Nat) (q : List PIt) : (wsT r q).length = q.length := by simp [wsT]
theorem wsT_get {r : List Nat} {q : List PIt} {i : Nat} {x : PIt} (h : q[i]? = some x) : (wsT r q)[i]? = some (wT r i x) := by simp [wsT, h]
theorem wT_b {r : List Nat} (hr : AllLt 256 r) (i : Nat) {x : PIt} (hx : x.wl ≤ x.wh) : x.wl ≤ wT r i x ∧ wT r i x ≤ x.wh := by
 have hb := byN_lt hr i
 unfold wT
 have m0 : 0 ≤ (byN r i : Int) * (x.wh - x.wl) := Int.mul_nonneg (by omega) (by omega)
 have m1 : (byN r i : Int) * (x.wh - x.wl) ≤ 255 * (x.wh - x.wl) := Int.mul_le_mul_of_nonneg_right (by omega) (by omega)
 omega
def sumI : List Int → Int
 | [] => 0
 | w :: l => w + sumI l
theorem sumI_app : ∀ (l : List Int) (w : Int), sumI (l ++ [w]) = sumI l + w
 | [], w => by simp [sumI]
 | a :: l, w => by rw [List.cons_append, sumI, sumI_app l, sumI]; omega
theorem sumI_b : ∀ {l : List Int}, WOk l → 0 ≤ sumI l ∧ sumI l ≤ 5000000 * (l.length : Int)
 | [], _ => by simp [sumI]
 | a :: l, h => by
  have h1 := h a (by simp)
  have h2 := sumI_b (l := l) (fun w hw => h w (by simp [hw]))
  rw [sumI, List.length_cons]
  omega
theorem sumR_all (l : PLy) : ∀ {q : List PIt} {ws : List Int} {a : Int}, ws.length = q.length → sumR (cF l) a q ws + sumR (cB l) a q ws = sumI ws * (2 * (l.bk - l.fr))
 | [], [], _, _ => by simp [sumR, sumI]
 | [], _ :: _, _, h => by simp at h
 | _ :: _, [], _, h => by simp at h
 | x :: q, w :: ws, a, h => by
  have ih := sumR_all l (q := q) (ws := ws) (a := a + x.lg) (by simpa using h)
  rw [sumR, sumR, sumI, Int.add_mul, ← ih]
  have e : w * cF l (2 * a + x.lg) + w * cB l (2 * a + x.lg) = w * (2 * (l.bk - l.fr)) := by
   rw [← Int.mul_add]
   congr 1
   unfold cF cB
   omega
  omega
def OtI (n : Nat) (left other : List Int) : Prop := (other.length + left.length = n ∧ left.Nodup) ∧ ∃ u : List Bool, u.length = n ∧ (∀ x ∈ left, (0 ≤ x ∧ x < (n : Int)) ∧ u.getD x.toNat true = false) ∧ ∀ t ∈ allU n left.length u, other ++ t ∈ allU n n (u0 n)
theorem ot_zero (n : Nat) : OtI n (upN n) [] := by
 refine ⟨⟨by simp [upN_len], ?_⟩, u0 n, by simp [u0], fun x hx => ?_, fun t ht => ?_⟩
 ·unfold upN
  rw [List.Nodup, List.pairwise_map]
  have hh : List.Pairwise (fun a b : Nat => a ≠ b) (List.range n) := List.nodup_range
  exact hh.imp fun {a b} h e => h (by omega)
 ·simp only [upN, List.mem_map, List.mem_range] at hx
  obtain ⟨i, hi, rfl⟩ := hx
  refine ⟨by omega, ?_⟩
  simp [u0, List.getD_eq_getElem?_getD, hi]
 ·rw [upN_len] at ht
  exact ht
theorem ot_step {n : Nat} {left other : List Int} {k : Nat} {x : Int} (h : OtI n left other) (hx : left[k]? = some x) : OtI n (left.take k ++ left.drop (k + 1)) (other ++ [x]) := by
 obtain ⟨⟨h1, h2⟩, u, hu, h3, h4⟩ := h
 obtain ⟨hk, he⟩ := List.getElem?_eq_some_iff.1 hx
 have hxm : x ∈ left := List.mem_of_getElem? hx
 obtain ⟨hxb, hxu⟩ := h3 x hxm
 obtain ⟨m, rfl⟩ : ∃ m : Nat, x = (m : Int) := ⟨x.toNat, by omega⟩
 rw [Int.toNat_natCast] at hxu
 have hsp : left = left.take k ++ (m : Int) :: left.drop (k + 1) := by
  rw [← he, ← List.drop_eq_getElem_cons hk, List.take_append_drop]
 have hln : (left.take k ++ left.drop (k + 1)).length + 1 = left.length := by
  rw [List.length_append, List.length_take, List.length_drop]; omega
 have hnd : (m : Int) ∉ left.take k ++ left.drop (k + 1) ∧ (left.take k ++ left.drop (k + 1)).Nodup := by
  rw [hsp] at h2
  exact List.nodup_cons.1 (List.perm_middle.nodup_iff.1 h2)
 have hsub : ∀ y ∈ left.take k ++ left.drop (k + 1), y ∈ left := fun y hy => by
  rcases List.mem_append.1 hy with h | h
  ·exact List.mem_of_mem_take h
  ·exact List.mem_of_mem_drop h
 refine ⟨⟨by rw [List.length_append, List.length_singleton]; omega, hnd.2⟩, u.set m true, by rw [List.length_set]; exact hu, fun y hy => ?_, fun t ht => ?_⟩
 ·obtain ⟨hyb, hyu⟩ := h3 y (hsub y hy)
  refine ⟨hyb, ?_⟩
  have hne : m ≠ y.toNat := fun e => hnd.1 (by rw [show (m : Int) = y by omega]; exact hy)
  rw [List.getD_eq_getElem?_getD, List.getElem?_set_ne hne, ← List.getD_eq_getElem?_getD]
  exact hyu
 ·rw [List.append_assoc]
  refine h4 _ ?_
  rw [← hln]
  exact allU_step (by omega) hxu ht
theorem ot_end {n : Nat} {other : List Int} (h : OtI n [] other) : other ∈ allU n n (u0 n) := by
 obtain ⟨_, u, _, _, h4⟩ := h
 have := h4 [] (by simp [allU])
 rwa [List.append_nil] at this
theorem ot_perm {n : Nat} (h6 : n ≤ 6) {o : List Int} (h : o ∈ allU n n (u0 n)) : o.isPerm (upN n) = true := by
 have hg := go_all ⟨n, by omega⟩
 dsimp only at hg
 rw [← hg] at h
 exact List.all_eq_true.1 (go_perm ⟨n, by omega⟩) o h
theorem find_ot {l : PLy} {q : List PIt} (hL : LorOk l q) (h6 : q.length ≤ 6) : findO l q = (allU q.length q.length (u0 q.length)).find? fun e => bearB l (pkI q e) := by
 have hg := go_all ⟨q.length, by omega⟩
 dsimp only at hg
 rw [findO, hg]
 exact find_ext fun e he => bearX_eq (pk_ok hL (ot_perm h6 he))
theorem ot_found {l : PLy} {q : List PIt} (hL : LorOk l q) (h6 : q.length ≤ 6) {o : List Int} (ho : o ∈ allU q.length q.length (u0 q.length)) (hB : bearB l (pkI q o) = true) : ∃ e, findO l q = some e ∧ ltL o e = false := by
 rw [find_ot hL h6]
 cases hF : (allU q.length q.length (u0 q.length)).find? fun e => bearB l (pkI q e) with
 | none =>
  have := List.find?_eq_none.1 hF o ho
  exact absurd hB this
 | some e => exact ⟨e, rfl, find_first ltL_self (allU_sorted _ _ _) hF ho hB⟩
theorem ot_bears {l : PLy} {q : List PIt} (hL : LorOk l q) (h6 : q.length ≤ 6) {o : List Int} (h : findO l q = some o) : (o ∈ allU q.length q.length (u0 q.length)) ∧ bearB l (pkI q o) = true := by
 rw [find_ot hL h6] at h
 exact ⟨List.mem_of_find?_eq_some h, by simpa using List.find?_some h⟩
theorem floor_ok {s lo hi y : Int} (hy : 0 < y) (h : lo ≤ s ∧ s ≤ hi) : ¬ s < lo / y * y ∧ ¬ (hi / y + 1) * y ≤ s := by
 have h1 := Int.ediv_mul_le lo (Int.ne_of_gt hy)
 have h2 := Int.lt_ediv_add_one_mul_self hi hy
 omega
end Go.Dw.Seat
end
section
set_option linter.unusedSimpArgs false
set_option maxRecDepth 100000
namespace Go.Dw.Seat
open Go Go.Dw Go.Proofs Go.IntWalk
def usM (o : List Int) : Memo := o.foldl (fun m x => mUpd m x.toNat true) []
theorem usM_snoc (o : List Int) (x : Int) : usM (o ++ [x]) = mUpd (usM o) x.toNat true := by simp [usM]
theorem usM_none {n : Nat} : ∀ {o : List Int} {m : Memo}, (∀ x ∈ o, 0 ≤ x) → (n : Int) ∉ o → mFind m n = none → mFind (o.foldl (fun m x => mUpd m x.toNat true) m) n = none
 | [], _, _, _, h => h
 | x :: o, m, h0, hn, h => by
  rw [List.foldl_cons]
  refine usM_none (fun y hy => h0 y (by simp [hy])) (fun hh => hn (by simp [hh])) ?_
  rw [find_upd, if_neg ?_]
  ·exact h
  ·intro e
   have := h0 x (by simp)
   exact hn (by simp; omega)
theorem oRes_rel (k : Nat) (x : Blk) (F : Option (List Int)) : relD k x (oRes F) = oRes F := by cases F <;> rfl
theorem look1_mK2 (k : IntKind) (s : Nat) (m : Memo) (b0 : Bool) : lookIn (.c (.v (.bool b0))) (mK k m) (mD m) (.int k s) false = some (.c (.v (.bool ((mFind m s).getD b0)))) := look1_mK k s m b0
theorem quo_b {n y B : Int} (hy : 0 < y) (h : -B ≤ n ∧ n ≤ B) : -(B + 1) ≤ n / y ∧ n / y ≤ B := by
 have h1 := Int.ediv_mul_le n (Int.ne_of_gt hy)
 have h2 := Int.lt_ediv_add_one_mul_self n hy
 generalize n / y = Q at *
 rcases Int.lt_or_le Q 0 with hQ | hQ
 ·have h3 : (Q + 1) * y ≤ (Q + 1) * 1 := Int.mul_le_mul_of_nonpos_left (by omega) (by omega)
  omega
 ·have h3 : Q * 1 ≤ Q * y := Int.mul_le_mul_of_nonneg_left (by omega) hQ
  omega
set_option maxHeartbeats 16000000 in
theorem laDrives (a b c d : Nat) (ha : a < 256) (hb : b < 256) (hc : c < 256) (hd : d < 256) (T : List PT3) (hmT : T.length ≤ maxLen) (hT : ∀ t ∈ T, t.ok) (re : List Nat) (hmr : re.length ≤ maxLen) (hre : AllLt 256 re) (mx : List Nat) (hmm : mx.length ≤ maxLen) (hmx : AllLt 256 mx) : DCall Try.prog 9 [.agg (trL false a b c d T), .c (.sl false 1 (rows e1 re)), .c (.sl false 1 (rows e1 mx))] [] (bD true) [] := by
 have hk := laKnown
 have htr := laTruck false a b c d ha hb hc hd T hmT hT
 have hL := truck_ok (a := a) (b := b) (c := c) hd hT
 have h6 : (qT T).length ≤ 6 := by rw [qT, List.length_map, List.length_take]; omega
 generalize lyT a b c d (lgI (qT T)) = l at *
 generalize qT T = q at *
 have hit := hL.its
 have hll := hL.ly.lg
 have hax := hL.ly.ax
 have hlg := hL.lg
 have h1 := laOurs false q (by omega)
 have h2 := plAxles l q (by omega)
 rw [axD, if_pos (lor_iff.2 hL)] at h2
 have hbt := fun i => laByte false re hmr hre i
 have hbm := fun i => laByte false mx hmm hmx i
 have hPb := prt_b hL
 generalize hF1 : (prtF l q).fl / (2 * (l.bk - l.fr)) = F1 at *
 generalize hF2 : (prtF l q).fh / (2 * (l.bk - l.fr)) = F2 at *
 generalize hF3 : (prtF l q).bl / (2 * (l.bk - l.fr)) = F3 at *
 generalize hF4 : (prtF l q).bh / (2 * (l.bk - l.fr)) = F4 at *
 refine DCall.of Try.func9 sf9 hb9 (Nat.le_of_ble_eq_true rfl) (okRes_nil fun _ => rfl) ?_; simp only [s9, o9_0, o9_1, o9_2, o9_3, o9_4, o9_5, o9_6, o9_7, o9_8, o9_9, o9_10, o9_11, o9_12, o9_13, o9_14, o9_15, o9_16, o9_17, o9_18, o9_19, o9_20, o9_21, o9_22, o9_23, o9_24, o9_25, o9_26, o9_27, o9_28, o9_29, o9_30, o9_31, o9_32, o9_33, o9_34, o9_35, o9_36, o9_37, o9_38, o9_39, o9_40, o9_41, o9_42, o9_43, o9_44, o9_45, o9_46, o9_47, o9_48, o9_49, o9_50, o9_51, idxs, Nat.reduceAdd]
 repeat' (first|(with_reducible first|apply qA|apply qB|apply qC|apply qD|apply qE|apply qF)|(refine qL rfl (WF.of ?_) ?_; first|rfl|skip)|(refine DW.ord rfl (WF.of (by first|rfl|simp (disch:=omega) only [go_sem, simprocAttr, qN, qO, qP, qQ, rF, rG])) ?_ ?_ ?_; rotate_left)|rfl|(with_reducible refine And.intro ?_ ?_)|(simp (disch:=omega) only [go_sem, simprocAttr, qN, qO, qP, qQ, rF, rG])|exact qM rfl rfl rfl|(refine qG rfl ?_)|(refine qK (htr) (by decide) ?_)|(refine qK (h1) (by decide) ?_)|(refine qK (h2) (by decide) ?_)|(refine qH rfl ?_)|(refine qI rfl ?_ ?_<;>intro hc<;>(try simp only [go_sem] at hc))|(refine qJ ?_ ?_<;>intro hc<;>(try simp only [hc])<;>(try simp only [go_sem] at hc)))
 refine DW.loop (ι := { i : Nat // i ≤ q.length }) (fun i => ⟨281, [(17, dI i.1), (16, .own 49), (15, dI (sumI ((wsT re q).take i.1))), (14, .box 14 0), (13, dI (lgI (q.take i.1))), (12, dI (2 * (l.bk - l.fr))), (10, .box 10 0), (9, .box 9 0), (8, itsD false q), (7, .box 7 0), (2, .c (.sl false 1 (rows e1 mx))), (1, .c (.sl false 1 (rows e1 re)))], [(49, .row 1 (rowC (rows eI (upN i.1)))), (14, .box [dI (sumR (cF l) 0 (q.take i.1) ((wsT re q).take i.1)), dI (sumR (cB l) 0 (q.take i.1) ((wsT re q).take i.1))]), (10, .box [dI F3, dI F4]), (9, .box [dI F1, dI F2]), (7, .box (lyL l))]⟩) (fun i => q.length - i.1) ⟨0, Nat.zero_le _⟩ ?_ ?_
 ·refine Ent.to ?_ ?_ <;> simp (disch:=omega) only [qR,qS,qTw,qU,get,Nat.reduceEqDiff,↓reduceIte,qV,qW,qX,qY,qZ,and_self,dI,i64_in,and_true,true_and,rA,rB,rC,rD,List.take_zero,lgI,sumR,sumI,upN,List.range_zero,rG]
  all_goals first | exact ⟨.refl _, .refl _⟩ | exact .refl _
 rintro ⟨i, hi⟩
 dsimp only
 rcases at_or q i hi with ⟨x, hx, hlt, hdi⟩ | ⟨he, hdi⟩
 ·have hxo := hit x (List.mem_of_getElem? hx)
  have hxl := hxo.lg
  have hxw := hxo.w
  have hlw := wsT_len re q
  have hwi := wsT_get (r := re) hx
  have hwb := wT_b hre i hxw.2.1
  have hwe : wT re i x = x.wl + (byN re i : Int) * (x.wh - x.wl) / 255 := rfl
  have hby := byN_lt hre i
  have hpb : 0 ≤ (byN re i : Int) * (x.wh - x.wl) ∧ (byN re i : Int) * (x.wh - x.wl) ≤ 256 * 5000000 := ⟨Int.mul_nonneg (by omega) (by omega), Int.mul_le_mul (by omega) (by omega) (by omega) (by omega)⟩
  have hWO : WOk (wsT re q) := fun w hw => by
   obtain ⟨j, hj⟩ := List.getElem?_of_mem hw
   have hjl : j < q.length := by
    have := (List.getElem?_eq_some_iff.1 hj).1
    omega
   obtain ⟨y, hy⟩ := getE (l := q) hjl
   rw [wsT_get hy] at hj
   cases hj
   have hyo := hit y (List.mem_of_getElem? hy)
   have := hyo.w
   have := wT_b hre j (x := y) (by omega)
   omega
  generalize wsT re q = ws at *
  have htk : q.take (i + 1) = q.take i ++ [x] := by rw [List.take_add_one, hx]; rfl
  have htw : ws.take (i + 1) = ws.take i ++ [wT re i x] := by rw [List.take_add_one, hwi]; rfl
  have htm : ∀ y ∈ q.take i, y.ok := fun y hy => hit y (List.mem_of_mem_take hy)
  have hsn := lgI_snoc (q.take i) x
  have hS1 := lgI_take hit (i + 1)
  rw [htk, hsn] at hS1
  have hS0 := lgI_nn htm
  have hl7 : (q.take i).length ≤ 7 := by rw [List.length_take]; omega
  have hw7 : (ws.take i).length ≤ 7 := by rw [List.length_take]; omega
  have hwt : WOk (ws.take i) := fun v hv => hWO v (List.mem_of_mem_take hv)
  have bF := sumR_b (cF_b hL.ly) (q := q.take i) (ws := ws.take i) (a := 0) (by omega) (by omega) htm hwt
  have bB := sumR_b (cB_b hL.ly) (q := q.take i) (ws := ws.take i) (a := 0) (by omega) (by omega) htm hwt
  have bI := sumI_b hwt
  have hlw2 : (ws.take i).length = (q.take i).length := by rw [List.length_take, List.length_take]; omega
  have e1 := sumR_app (cF l) 0 x (wT re i x) hlw2
  have e3 := sumR_app (cB l) 0 x (wT re i x) hlw2
  have e4 := sumI_app (ws.take i) (wT re i x)
  rw [← htk, ← htw, Int.zero_add] at e1 e3
  rw [← htw] at e4
  rw [← htk] at hsn
  generalize sumR (cF l) 0 (q.take i) (ws.take i) = A1 at *
  generalize sumR (cB l) 0 (q.take i) (ws.take i) = A3 at *
  generalize sumI (ws.take i) = A4 at *
  generalize lgI (q.take i) = S at *
  generalize hw0 : wT re i x = w at *
  have c1 := cF_b hL.ly (2 * S + x.lg) (by omega) (by omega)
  have c2 := cB_b hL.ly (2 * S + x.lg) (by omega) (by omega)
  have m1 := mul_abs (a := w) (b := cF l (2 * S + x.lg)) (A := 5000000) (B := 10000) (by omega) (by omega)
  have m2 := mul_abs (a := w) (b := cB l (2 * S + x.lg)) (A := 5000000) (B := 10000) (by omega) (by omega)
  have hm1 : 2 * l.bk - (2 * S + x.lg) = cF l (2 * S + x.lg) := rfl
  have hm2 : 2 * S + x.lg - 2 * l.fr = cB l (2 * S + x.lg) := rfl
  generalize cF l (2 * S + x.lg) = CF at *
  generalize cB l (2 * S + x.lg) = CB at *
  generalize hP1 : w * CF = P1 at *
  generalize hP2 : w * CB = P2 at *
  have hbi := hbt i
  generalize (byN re i : Int) = B at *
  generalize hP0 : B * (x.wh - x.wl) = P0 at *
  have hq0 : Int.tdiv P0 255 = P0 / 255 := Int.tdiv_eq_ediv_of_nonneg (by omega)
  have hwe2 : x.wl + P0 / 255 = w := hwe.symm
  have hup := upN_succ i
  have hul : (upN i).length ≤ 10 := by rw [upN_len]; omega
  have hsi := rowC_snocI (upN i) (i : Int)
  generalize upN i = U at *
  repeat' (first|(with_reducible first|apply qA|apply qB|apply qC|apply qD|apply qE|apply qF)|(refine qL rfl (WF.of ?_) ?_; first|rfl|skip)|(refine DW.ord rfl (WF.of (by first|rfl|simp (disch:=omega) only [go_sem, simprocAttr, qN, qO, qP, qQ, hdi, hx, hP0, hq0, hwe2, hm1, hm2, hP1, hP2, hsi, rF, rG])) ?_ ?_ ?_; rotate_left)|rfl|(with_reducible refine And.intro ?_ ?_)|(simp (disch:=omega) only [go_sem, simprocAttr, qN, qO, qP, qQ, hdi, hx, hP0, hq0, hwe2, hm1, hm2, hP1, hP2, hsi, rF, rG])|exact qM rfl rfl rfl|(refine qG rfl ?_)|(refine qK (hbi) (by decide) ?_)|(refine qH rfl ?_)|(refine qI rfl ?_ ?_<;>intro hc<;>(try simp only [go_sem] at hc))|(refine qJ ?_ ?_<;>intro hc<;>(try simp only [hc])<;>(try simp only [go_sem] at hc)))
  refine ⟨⟨i + 1, hlt⟩, ?_, Ent.to ?_ ?_⟩ <;> first | (show _ < _; (try simp only); omega) | (simp (disch:=omega) only [qR,qS,qTw,qU,get,Nat.reduceEqDiff,↓reduceIte,qV,qW,qX,qY,qZ,and_self,dI,i64_in,and_true,true_and,rA,rB,rC,rD, hsn,e1,e3,e4,hup,hsi])
  all_goals first | exact ⟨.refl _, .refl _⟩ | exact .refl _
 have hlw := wsT_len re q
 have hti : q.take i = q := by rw [he, List.take_length]
 have htj : (wsT re q).take i = wsT re q := by rw [he, ← hlw, List.take_length]
 have hupq : upN i = upN q.length := by rw [he]
 rw [hti, htj, hupq]
 have hWx : ∀ (j : Nat) x w, q[j]? = some x → (wsT re q)[j]? = some w → x.wl ≤ w ∧ w ≤ x.wh := fun j x w h1 h2 => by
  rw [wsT_get h1] at h2
  cases h2
  have hxo := (hit x (List.mem_of_getElem? h1)).w
  exact wT_b hre j (by omega)
 have hWO : WOk (wsT re q) := fun w hw => by
  obtain ⟨j, hj⟩ := List.getElem?_of_mem hw
  have hjl : j < q.length := by
   have := (List.getElem?_eq_some_iff.1 hj).1
   omega
  obtain ⟨y, hy⟩ := getE (l := q) hjl
  have hyo := (hit y (List.mem_of_getElem? hy)).w
  have := hWx j y w hy hj
  omega
 have sF := sumR_between (cF l) (at' := 0) hlw hWx
 have sB := sumR_between (cB l) (at' := 0) hlw hWx
 have sA := sumR_all l (a := 0) hlw
 have bI := sumI_b hWO
 generalize sumR (cF l) 0 q (wsT re q) = A1 at *
 generalize sumR (cB l) 0 q (wsT re q) = A3 at *
 generalize sumI (wsT re q) = A4 at *
 have sF : (prtF l q).fl ≤ A1 ∧ A1 ≤ (prtF l q).fh := sF
 have sB : (prtF l q).bl ≤ A3 ∧ A3 ≤ (prtF l q).bh := sB
 have hY : 0 < 2 * (l.bk - l.fr) ∧ 2 * (l.bk - l.fr) ≤ 4000 := by omega
 have f1 := floor_ok hY.1 sF
 have f2 := floor_ok hY.1 sB
 have g1 := quo_b (n := (prtF l q).fl) (B := 350000000000) hY.1 (by omega)
 have g2 := quo_b (n := (prtF l q).fh) (B := 350000000000) hY.1 (by omega)
 have g3 := quo_b (n := (prtF l q).bl) (B := 350000000000) hY.1 (by omega)
 have g4 := quo_b (n := (prtF l q).bh) (B := 350000000000) hY.1 (by omega)
 rw [hF1, hF2] at f1
 rw [hF3, hF4] at f2
 rw [hF1] at g1
 rw [hF2] at g2
 rw [hF3] at g3
 rw [hF4] at g4
 clear hF1 hF2 hF3 hF4
 generalize 2 * (l.bk - l.fr) = Y at *
 have b1 := mul_abs (a := F1) (b := Y) (A := 350000000001) (B := 4000) (by omega) (by omega)
 have b2 := mul_abs (a := F2 + 1) (b := Y) (A := 350000000001) (B := 4000) (by omega) (by omega)
 have b3 := mul_abs (a := F3) (b := Y) (A := 350000000001) (B := 4000) (by omega) (by omega)
 have b4 := mul_abs (a := F4 + 1) (b := Y) (A := 350000000001) (B := 4000) (by omega) (by omega)
 generalize hZ0 : A4 * Y = Z0 at *
 generalize hZ1 : F1 * Y = Z1 at *
 generalize hZ2 : (F2 + 1) * Y = Z2 at *
 generalize hZ3 : F3 * Y = Z3 at *
 generalize hZ4 : (F4 + 1) * Y = Z4 at *
 have d0 : (A1 + A3 != Z0) = false := by simp [sA]
 have d1 := decide_eq_false f1.1
 have d2 := decide_eq_false f1.2
 have d3 := decide_eq_false f2.1
 have d4 := decide_eq_false f2.2
 have h3 := plOrder l q (by omega) (fun _ => h6)
 rw [ordD, if_pos (lor_iff.2 hL)] at h3
 have hfo := fun o => ot_bears hL h6 (o := o)
 have hot := fun o => ot_found hL h6 (o := o)
 generalize findO l q = O at *
 rcases hO : O with _ | o
 case' none =>
  rw [hO] at h3
  simp only [oRes, oErr] at h3
  repeat' (first|(with_reducible first|apply qA|apply qB|apply qC|apply qD|apply qE|apply qF)|(refine qL rfl (WF.of ?_) ?_; first|rfl|skip)|(refine DW.ord rfl (WF.of (by first|rfl|simp (disch:=omega) only [go_sem, simprocAttr, qN, qO, qP, qQ, hdi, d0, d1, d2, d3, d4, hZ0, hZ1, hZ2, hZ3, hZ4])) ?_ ?_ ?_; rotate_left)|rfl|(with_reducible refine And.intro ?_ ?_)|(simp (disch:=omega) only [go_sem, simprocAttr, qN, qO, qP, qQ, hdi, d0, d1, d2, d3, d4, hZ0, hZ1, hZ2, hZ3, hZ4])|exact qM rfl rfl rfl|(refine qG rfl ?_)|(refine qK (h1) (by decide) ?_)|(refine qK (h3) (by decide) ?_)|(refine qH rfl ?_)|(refine qI rfl ?_ ?_<;>intro hc<;>(try simp only [go_sem] at hc))|(refine qJ ?_ ?_<;>intro hc<;>(try simp only [hc])<;>(try simp only [go_sem] at hc)))
 case' some =>
  rw [hO] at h3
  simp only [oRes, oErr] at h3
  have hfo := hfo o hO
  have hos := allU_spec q.length q.length (u0 q.length) o hfo.1
  have hop := ot_perm h6 hfo.1
  have hbo := laBears false false l q o (pk_ok hL hop) (pk_mem hop).2 (by omega)
  rw [hfo.2] at hbo
  have hol := hos.1.1
  have hob : ∀ x ∈ o, 0 ≤ x ∧ x < (q.length : Int) := (pk_mem hop).2
  repeat' (first|(with_reducible first|apply qA|apply qB|apply qC|apply qD|apply qE|apply qF)|(refine qL rfl (WF.of ?_) ?_; first|rfl|skip)|(refine DW.ord rfl (WF.of (by first|rfl|simp (disch:=omega) only [go_sem, simprocAttr, qN, qO, qP, qQ, hdi, d0, d1, d2, d3, d4, hZ0, hZ1, hZ2, hZ3, hZ4])) ?_ ?_ ?_; rotate_left)|rfl|(with_reducible refine And.intro ?_ ?_)|(simp (disch:=omega) only [go_sem, simprocAttr, qN, qO, qP, qQ, hdi, d0, d1, d2, d3, d4, hZ0, hZ1, hZ2, hZ3, hZ4])|exact qM rfl rfl rfl|(refine qG rfl ?_)|(refine qK (h1) (by decide) ?_)|(refine qK (h3) (by decide) ?_)|(refine qH rfl ?_)|(refine qI rfl ?_ ?_<;>intro hc<;>(try simp only [go_sem] at hc))|(refine qJ ?_ ?_<;>intro hc<;>(try simp only [hc])<;>(try simp only [go_sem] at hc)))
  refine DW.loop (ι := { i : Nat // i ≤ o.length }) (fun i => ⟨281, [(23, dI i.1), (22, .hd 192), (21, dI 0), (20, dIs false o), (16, .own 49), (8, itsD false q), (7, .box 7 0), (2, .c (.sl false 1 (rows e1 mx)))], [(192, .map (mK .i64 (usM (o.take i.1))) (mD (usM (o.take i.1)))), (49, .row 1 (rowC (rows eI (upN q.length)))), (7, .box (lyL l))]⟩) (fun i => o.length - i.1) ⟨0, Nat.zero_le _⟩ ?_ ?_
  ·refine Ent.to ?_ ?_ <;> simp (disch:=omega) only [qR,qS,qTw,qU,get,Nat.reduceEqDiff,↓reduceIte,qV,qW,qX,qY,qZ,and_self,dI,i64_in,and_true,true_and,rA,rB,rC,rD,List.take_zero,usM,List.foldl_nil]
   all_goals first | exact ⟨.refl _, .refl _⟩ | exact .refl _
  rintro ⟨i, hi⟩
  dsimp only
  rcases at_or o i hi with ⟨x, hx, hlt, hdo⟩ | ⟨heo, hdo⟩
  ·have hxb := hob x (List.mem_of_getElem? hx)
   obtain ⟨n, rfl⟩ : ∃ n : Nat, x = (n : Int) := ⟨x.toNat, by omega⟩
   have hus := usM_snoc (o.take i) (n : Int)
   have htk : o.take (i + 1) = o.take i ++ [(n : Int)] := by rw [List.take_add_one, hx]; rfl
   have hnm : (n : Int) ∉ o.take i := by
    have h := hos.1.2
    have e : o = o.take (i + 1) ++ o.drop (i + 1) := (List.take_append_drop _ _).symm
    rw [e, htk] at h
    have h := (List.nodup_append.1 h).1
    intro hh
    exact (List.nodup_append.1 h).2.2 _ hh _ (by simp) rfl
   have hmf : (mFind (usM (o.take i)) n).getD false = false := by
    rw [usM, usM_none (fun y hy => (hob y (List.mem_of_mem_take hy)).1) hnm rfl]; rfl
   rw [← htk, Int.toNat_natCast] at hus
   generalize usM (o.take i) = M at *
   have k1 : decide ((n : Int) < 0) = false := decide_eq_false (by omega)
   have k2 : decide ((q.length : Int) ≤ (n : Int)) = false := decide_eq_false (by omega)
   repeat' (first|(with_reducible first|apply qA|apply qB|apply qC|apply qD|apply qE|apply qF)|(refine qL rfl (WF.of ?_) ?_; first|rfl|skip)|(refine DW.ord rfl (WF.of (by first|rfl|simp (disch:=omega) only [go_sem, simprocAttr, qN, qO, qP, qQ, hdo, hx, k1, k2, look1_mK2, hmf, upd_mK', rF, rG])) ?_ ?_ ?_; rotate_left)|rfl|(with_reducible refine And.intro ?_ ?_)|(simp (disch:=omega) only [go_sem, simprocAttr, qN, qO, qP, qQ, hdo, hx, k1, k2, look1_mK2, hmf, upd_mK', rF, rG])|exact qM rfl rfl rfl|(refine qG rfl ?_)|(refine qH rfl ?_)|(refine qI rfl ?_ ?_<;>intro hc<;>(try simp only [go_sem] at hc))|(refine qJ ?_ ?_<;>intro hc<;>(try simp only [hc])<;>(try simp only [go_sem] at hc)))
   refine ⟨⟨i + 1, hlt⟩, ?_, Ent.to ?_ ?_⟩ <;> first | (show _ < _; (try simp only); omega) | (simp (disch:=omega) only [qR,qS,qTw,qU,get,Nat.reduceEqDiff,↓reduceIte,qV,qW,qX,qY,qZ,and_self,dI,i64_in,and_true,true_and,rA,rB,rC,rD, hus])
  have k3 : ((o.length : Int) != (q.length : Int)) = false := by simp [hol]
  repeat' (first|(with_reducible first|apply qA|apply qB|apply qC|apply qD|apply qE|apply qF)|(refine qL rfl (WF.of ?_) ?_; first|rfl|skip)|(refine DW.ord rfl (WF.of (by first|rfl|simp (disch:=omega) only [go_sem, simprocAttr, qN, qO, qP, qQ, hdo, k3])) ?_ ?_ ?_; rotate_left)|rfl|(with_reducible refine And.intro ?_ ?_)|(simp (disch:=omega) only [go_sem, simprocAttr, qN, qO, qP, qQ, hdo, k3])|exact qM rfl rfl rfl|(refine qG rfl ?_)|(refine qK (hbo) (by decide) ?_)|(refine qH rfl ?_)|(refine qI rfl ?_ ?_<;>intro hc<;>(try simp only [go_sem] at hc))|(refine qJ ?_ ?_<;>intro hc<;>(try simp only [hc])<;>(try simp only [go_sem] at hc)))
 all_goals
  clear hZ0 hZ1 hZ2 hZ3 hZ4 d0 d1 d2 d3 d4
  (refine DW.ent (Ent.rel 49 rfl) ?_; simp (disch:=omega) only [go_sem,simprocAttr,qN,qO,qP,qQ])
  refine DW.loop (ι := { s : List Int × List Int // OtI q.length s.1 s.2 }) (fun s => ⟨281, [(25, dI s.1.2.length), (24, .own 238), (21, dI (oErr O)), (20, oRes O), (16, dIs false s.1.1), (8, itsD false q), (7, .box 7 0), (2, .c (.sl false 1 (rows e1 mx)))], [(238, .row 1 (rowC (rows eI s.1.2))), (7, .box (lyL l))]⟩) (fun s => s.1.1.length) ⟨(upN q.length, []), ot_zero _⟩ ?_ ?_
  ·refine Ent.to ?_ ?_ <;> simp (disch:=omega) only [qR,qS,qTw,qU,get,Nat.reduceEqDiff,↓reduceIte,qV,qW,qX,qY,qZ,and_self,dI,i64_in,and_true,true_and,rA,rB,rC,rD,hO,oRes,oErr,List.length_nil]
   all_goals first | exact ⟨.refl _, .refl _⟩ | exact .refl _
  rintro ⟨⟨L, X⟩, hI⟩
  dsimp only at hI ⊢
  have hIl := hI.1.1
  by_cases hL0 : L.length = 0
  ·obtain rfl : L = [] := List.eq_nil_of_length_eq_zero hL0
   have hdl : decide ((0 : Int) < (([] : List Int).length : Int)) = false := decide_eq_false (by decide)
   have hXm := ot_end hI
   have hXp := ot_perm h6 hXm
   have hXl := pk_mem hXp
   have hbe := laBears false true l q X (pk_ok hL hXp) hXl.2 (by omega)
   have hot := hot X hXm
   cases hB : bearB l (pkI q X) with
   | false =>
    rw [hB] at hbe
    repeat' (first|(with_reducible first|apply qA|apply qB|apply qC|apply qD|apply qE|apply qF)|(refine qL rfl (WF.of ?_) ?_; first|rfl|skip)|(refine DW.ord rfl (WF.of (by first|rfl|simp (disch:=omega) only [go_sem, simprocAttr, qN, qO, qP, qQ, hdl])) ?_ ?_ ?_; rotate_left)|rfl|(with_reducible refine And.intro ?_ ?_)|(simp (disch:=omega) only [go_sem, simprocAttr, qN, qO, qP, qQ, hdl])|exact qM rfl rfl rfl|(refine qG rfl ?_)|(refine qK (hbe) (by decide) ?_)|(refine qK (hk) (by decide) ?_)|(refine qH rfl ?_)|(refine qI rfl ?_ ?_<;>intro hc<;>(try simp only [go_sem] at hc))|(refine qJ ?_ ?_<;>intro hc<;>(try simp only [hc])<;>(try simp only [go_sem] at hc)))
   | true =>
    obtain ⟨e, hOe, hlt⟩ := hot hB
    rw [hB] at hbe
    rw [hO] at hOe
    cases hOe
    try
     have hsm := laSmall true false X o (by omega) (by have := hI.1.1; rw [List.length_nil] at this; omega)
     rw [hlt] at hsm
     repeat' (first|(with_reducible first|apply qA|apply qB|apply qC|apply qD|apply qE|apply qF)|(refine qL rfl (WF.of ?_) ?_; first|rfl|skip)|(refine DW.ord rfl (WF.of (by first|rfl|simp (disch:=omega) only [go_sem, simprocAttr, qN, qO, qP, qQ, hdl, hO, oRes, oErr])) ?_ ?_ ?_; rotate_left)|rfl|(with_reducible refine And.intro ?_ ?_)|(simp (disch:=omega) only [go_sem, simprocAttr, qN, qO, qP, qQ, hdl, hO, oRes, oErr])|exact qM rfl rfl rfl|(refine qG rfl ?_)|(refine qK (hbe) (by decide) ?_)|(refine qK (hsm) (by decide) ?_)|(refine qK (hk) (by decide) ?_)|(refine qH rfl ?_)|(refine qI rfl ?_ ?_<;>intro hc<;>(try simp only [go_sem] at hc))|(refine qJ ?_ ?_<;>intro hc<;>(try simp only [hc])<;>(try simp only [go_sem] at hc)))
  ·have hdl : decide ((0 : Int) < (L.length : Int)) = true := decide_eq_true (by omega)
   have hbi := hbm X.length
   have hby := byN_lt hmx X.length
   have hkl : byN mx X.length % L.length < L.length := Nat.mod_lt _ (by omega)
   have t1 : Int.tmod (byN mx X.length : Int) (L.length : Int) = ((byN mx X.length % L.length : Nat) : Int) := rfl
   have z1 : ((L.length : Int) = 0) = False := eq_false (by omega)
   generalize byN mx X.length % L.length = k at *
   generalize byN mx X.length = B at *
   obtain ⟨x, hx⟩ := getE (l := L) hkl
   have hkl' : (k < L.length) = True := eq_true hkl
   have hst := ot_step hI hx
   have hsx := rowC_snocI X x
   have hs2 : ((X ++ [x]).length : Int) = (X.length : Int) + 1 := by simp
   have hlen2 : (L.take k ++ L.drop (k + 1)).length < L.length := by simp only [List.length_append, List.length_take, List.length_drop]; omega
   have hk3 : (L.take k).length ≤ 6 := by rw [List.length_take]; omega
   have hk4 : (L.drop (k + 1)).length ≤ 6 := by rw [List.length_drop]; omega
   have rt := rows_take (e := eI) L k
   have rd := rows_drop (e := eI) L (k + 1)
   repeat' (first|(with_reducible first|apply qA|apply qB|apply qC|apply qD|apply qE|apply qF)|(refine qL rfl (WF.of ?_) ?_; first|rfl|skip)|(refine DW.ord rfl (WF.of (by first|rfl|simp (disch:=omega) only [go_sem, simprocAttr, qN, qO, qP, qQ, hdl, t1, z1, hx, hkl', hsx, rt, rd, rF, rG])) ?_ ?_ ?_; rotate_left)|rfl|(with_reducible refine And.intro ?_ ?_)|(simp (disch:=omega) only [go_sem, simprocAttr, qN, qO, qP, qQ, hdl, t1, z1, hx, hkl', hsx, rt, rd, rF, rG])|exact qM rfl rfl rfl|(refine qG rfl ?_)|(refine qK (hbi) (by decide) ?_)|(refine qH rfl ?_)|(refine qI rfl ?_ ?_<;>intro hc<;>(try simp only [go_sem] at hc))|(refine qJ ?_ ?_<;>intro hc<;>(try simp only [hc])<;>(try simp only [go_sem] at hc)))
   refine ⟨⟨(L.take k ++ L.drop (k + 1), X ++ [x]), hst⟩, by (show _ < _; (try simp only); omega), (Ent.rel 257 rfl).trans ?_⟩; simp (disch:=omega) only [go_sem,simprocAttr,qN,qO,qP,qQ, hs2,oRes_rel]; refine Ent.to ?_ ?_ <;> (simp (disch:=omega) only [qR,qS,qTw,qU,get,Nat.reduceEqDiff,↓reduceIte,qV,qW,qX,qY,qZ,and_self,dI,i64_in,and_true,true_and,rA,rB,rC,rD, hs2,oRes_rel])
   all_goals first | exact ⟨.refl _, .refl _⟩ | exact .refl _
end Go.Dw.Seat
end
section
set_option linter.unusedSimpArgs false
set_option maxRecDepth 100000
namespace Go.Dw.Seat
open Go Go.Dw Go.Proofs Go.ChangeShapes Go.WideShapes Go.ChangeAt Go.RowKit
theorem tOwn : ownKnob Try.prog.godebug = none := by kernel_rfl
theorem tLaid : laidOutB Try.prog = true := by kernel_rfl
theorem u3 : Try.prog.underlying 3 = some (.int .i64) := by kernel_rfl
theorem u4 : Try.prog.underlying 4 = some .bool := by kernel_rfl
theorem und5 : Try.prog.underlying 5 = some (.int .u8) := by kernel_rfl
theorem u71 : Try.prog.underlying 71 = some (.array 3 5) := by kernel_rfl
theorem u74 : Try.prog.underlying 74 = some (.slice 5) := by kernel_rfl
theorem u91 : Try.prog.underlying 91 = some (.array 4 5) := by kernel_rfl
theorem u92 : Try.prog.underlying 92 = some (.slice 71) := by kernel_rfl
theorem u94 : structIs Try.prog 94 [(91, 0), (92, 4)] = true := by kernel_rfl
theorem cl5 : Try.prog.cellsOf 5 = 1 := by kernel_rfl
theorem cl71 : Try.prog.cellsOf 71 = 3 := by kernel_rfl
theorem cl91 : Try.prog.cellsOf 91 = 4 := by kernel_rfl
theorem cl92 : Try.prog.cellsOf 92 = 1 := by kernel_rfl
theorem cl94 : Try.prog.cellsOf 94 = 5 := by kernel_rfl
def bV (l : List Nat) : List Value := l.map fun n : Nat => Value.int .u8 (n : Int)
section
variable {H : Type} {enc : TypeId × Value → H} {w : World} {base : Nat} {spare : Nat → Bool} {held : Bool} {fuel : Nat} {cs : List Value} {x : DataW H × List MemPlace}
theorem wf8 {n : Int} (h : (Lit.int .u8 n).wf = true) : ∃ v : Nat, n = v ∧ v < 256 := by
 have e1 : IntKind.min .u8 = 0 := by decide
 have e2 : IntKind.max .u8 = 255 := by decide
 simp only [Lit.wf, e1, e2, Bool.and_eq_true, decide_eq_true_eq] at h
 exact ⟨n.toNat, by omega, by omega⟩
theorem rd_U8 (h : DataW.trod enc Try.prog w base spare held fuel 5 cs = some x) : ∃ l : List Nat, (l.length = 1 ∧ AllLt 256 l) ∧ cs = bV l := by
 obtain ⟨n, e, hw⟩ := rd_int und5 h
 obtain ⟨v, rfl, hv⟩ := wf8 hw
 exact ⟨[v], ⟨rfl, fun x hx => by rw [List.mem_singleton] at hx; rw [hx]; exact hv⟩, e⟩
theorem bV_app (a b : List Nat) : bV (a ++ b) = bV a ++ bV b := by simp [bV]
theorem lt_app {b : Nat} {l l' : List Nat} (h : AllLt b l) (h' : AllLt b l') : AllLt b (l ++ l') := fun x hx => by
 rcases List.mem_append.1 hx with h1 | h1
 ·exact h x h1
 ·exact h' x h1
theorem rd_arrB {t e : TypeId} {n k : Nat} (ht : Try.prog.underlying t = some (.array n e)) (he : Try.prog.cellsOf e = k) (hc : Try.prog.cellsOf t = n * k)
  (hrd : ∀ m cs x, DataW.trod enc Try.prog w base spare held m e cs = some x → ∃ l : List Nat, (l.length = k ∧ AllLt 256 l) ∧ cs = bV l) (h : DataW.trod enc Try.prog w base spare held fuel t cs = some x) : ∃ l : List Nat, (l.length = n * k ∧ AllLt 256 l) ∧ cs = bV l := by
 obtain ⟨hl, m, hf⟩ := rd_array ht h
 rw [hc] at hl
 have key : ∀ j, j ≤ n → ∃ l : List Nat, (l.length = j * k ∧ AllLt 256 l) ∧ cs.take (j * k) = bV l := by
  intro j
  induction j with
  | zero => intro _; exact ⟨[], ⟨by simp, fun x hx => by cases hx⟩, by simp [bV]⟩
  | succ j ih =>
   intro hj
   obtain ⟨l, ⟨h1, h2⟩, h3⟩ := ih (by omega)
   obtain ⟨y, hy⟩ := hf j (by omega)
   rw [he] at hy
   obtain ⟨l', ⟨h4, h5⟩, h6⟩ := hrd _ _ _ hy
   refine ⟨l ++ l', ⟨by rw [List.length_append, h1, h4, Nat.succ_mul], lt_app h2 h5⟩, ?_⟩
   rw [Nat.succ_mul, List.take_add, h3, h6, bV_app]
 obtain ⟨l, h1, h2⟩ := key n (Nat.le_refl _)
 rw [List.take_of_length_le (by omega)] at h2
 exact ⟨l, h1, h2⟩
theorem rd_A3 (h : DataW.trod enc Try.prog w base spare held fuel 71 cs = some x) : ∃ l : List Nat, (l.length = 3 ∧ AllLt 256 l) ∧ cs = bV l := rd_arrB (n := 3) (k := 1) u71 cl5 cl71 (fun _ _ _ h => rd_U8 h) h
theorem rd_A4 (h : DataW.trod enc Try.prog w base spare held fuel 91 cs = some x) : ∃ l : List Nat, (l.length = 4 ∧ AllLt 256 l) ∧ cs = bV l := rd_arrB (n := 4) (k := 1) u91 cl5 cl91 (fun _ _ _ h => rd_U8 h) h
theorem rd_Us (h : DataW.trod enc Try.prog w base spare held fuel 74 cs = some x) : ∃ (l : List Nat) (v : Value), cs = [v] ∧ RepC w A0 (.sl false 1 (rows e1 l)) v ∧ l.length ≤ maxLen ∧ AllLt 256 l := by
 obtain ⟨l, v, e', hr, hm, _⟩ := rd_slice (f := fun v : {v : Nat // v < 256} => e1 v.1) u74 cl5 (by decide) (fun _ => rfl) (fun m cs x h => by
  obtain ⟨n, e, hw⟩ := rd_int und5 h
  obtain ⟨v, rfl, hv⟩ := wf8 hw
  subst e
  exact ⟨⟨v, hv⟩, _, _, rfl, ⟨rfl, rfl⟩, rfl⟩) h
 refine ⟨l.map (·.1), v, e', ?_, by simpa using hm, fun u hu => ?_⟩
 ·have : rows e1 (l.map (·.1)) = rows (fun v : {v : Nat // v < 256} => e1 v.1) l := by simp [rows, Function.comp_def]
  rw [this]; exact hr
 ·obtain ⟨a, _, rfl⟩ := List.mem_map.1 hu
  exact a.2
end
end Go.Dw.Seat
end
section
set_option linter.unusedSimpArgs false
set_option maxRecDepth 100000
namespace Go.Dw.Seat
open Go Go.Dw Go.Proofs Go.ChangeShapes Go.WideShapes Go.ChangeAt Go.RowKit
structure PTr where
 a : Nat
 b : Nat
 c : Nat
 d : Nat
 T : List PT3
structure PTr.ok (s : PTr) : Prop where
 a : s.a < 256
 b : s.b < 256
 c : s.c < 256
 d : s.d < 256
 m : s.T.length ≤ maxLen
 t : ∀ t ∈ s.T, t.ok
def cTr (s : PTr) : List C := [.v (.int .u8 s.a), .v (.int .u8 s.b), .v (.int .u8 s.c), .v (.int .u8 s.d), .sl false 3 (rows eT s.T)]
section
variable {H : Type} {enc : TypeId × Value → H} {w : World} {base : Nat} {spare : Nat → Bool} {held : Bool} {fuel : Nat} {cs : List Value} {x : DataW H × List MemPlace}
theorem rd_T3 (h : DataW.trod enc Try.prog w base spare held fuel 71 cs = some x) : ∃ t : PT3, t.ok ∧ RepVs w A0 (eT t) cs := by
 obtain ⟨l, hl, rfl⟩ := rd_A3 h
 obtain ⟨h1, h2⟩ := hl
 match l, h1 with
 | [a, b, c], _ => exact ⟨⟨a, b, c⟩, ⟨h2 a (by simp), h2 b (by simp), h2 c (by simp)⟩, _, _, rfl, ⟨rfl, rfl⟩, _, _, rfl, ⟨rfl, rfl⟩, _, _, rfl, ⟨rfl, rfl⟩, rfl⟩
theorem rd_T3s (h : DataW.trod enc Try.prog w base spare held fuel 92 cs = some x) : ∃ (l : List PT3) (v : Value), cs = [v] ∧ RepC w A0 (.sl false 3 (rows eT l)) v ∧ l.length ≤ maxLen ∧ ∀ t ∈ l, t.ok := by
 obtain ⟨l, v, e', hr, hm, _⟩ := rd_slice (f := fun v : {t : PT3 // t.ok} => eT v.1) u92 cl71 (by decide) (fun _ => rfl) (fun m cs x h => by
  obtain ⟨t, ht, hr⟩ := rd_T3 h
  exact ⟨⟨t, ht⟩, hr⟩) h
 refine ⟨l.map (·.1), v, e', ?_, by simpa using hm, fun u hu => ?_⟩
 ·have : rows eT (l.map (·.1)) = rows (fun v : {t : PT3 // t.ok} => eT v.1) l := by simp [rows, Function.comp_def]
  rw [this]; exact hr
 ·obtain ⟨a, _, rfl⟩ := List.mem_map.1 hu
  exact a.2
theorem rd_Truck (h : DataW.trod enc Try.prog w base spare held fuel 94 cs = some x) : ∃ s : PTr, s.ok ∧ RepVs w A0 (cTr s) cs := by
 obtain ⟨hl, m, hf⟩ := rd_struct u94 h
 rw [cl94] at hl
 obtain ⟨y0, h0⟩ := hf 0 91 0 rfl
 obtain ⟨y1, h1⟩ := hf 1 92 4 rfl
 rw [cl91] at h0
 rw [cl92] at h1
 obtain ⟨l0, p0, e0⟩ := rd_A4 h0
 obtain ⟨T, v, e1, hr, hm, hT⟩ := rd_T3s h1
 have s1 : (cs.drop 4).take 1 = cs.drop 4 := List.take_of_length_le (by rw [List.length_drop]; omega)
 rw [s1] at e1
 rw [List.drop_zero] at e0
 have hcs : cs = cs.take 4 ++ cs.drop 4 := (List.take_append_drop 4 cs).symm
 rw [e0, e1] at hcs
 subst hcs
 obtain ⟨h3, h4⟩ := p0
 match l0, h3 with
 | [a, b, c, d], _ => exact ⟨⟨a, b, c, d, T⟩, ⟨h4 a (by simp), h4 b (by simp), h4 c (by simp), h4 d (by simp), hm, hT⟩, _, _, rfl, ⟨rfl, rfl⟩, _, _, rfl, ⟨rfl, rfl⟩, _, _, rfl, ⟨rfl, rfl⟩, _, _, rfl, ⟨rfl, rfl⟩, _, _, rfl, hr, rfl⟩
end
theorem laDrives2 (s : PTr) (hs : s.ok) (re : List Nat) (hmr : re.length ≤ maxLen) (hre : AllLt 256 re) (mx : List Nat) (hmm : mx.length ≤ maxLen) (hmx : AllLt 256 mx) : DCall Try.prog 9 [.agg ((cTr s).map D.c), .c (.sl false 1 (rows e1 re)), .c (.sl false 1 (rows e1 mx))] [] (bD true) [] := laDrives s.a s.b s.c s.d hs.a hs.b hs.c hs.d s.T hs.m hs.t re hmr hre mx hmm hmx
set_option maxHeartbeats 800000 in
theorem palletDrivesLifted (os : Os) (started : os.Started) (H : Type) (enc : TypeId × Value → H) :
  ReturnsInHanded {} Try.checked os 9 .any (Ytimgcfmeakekbaa.Rows.palletDrivesSpec.pre6 enc Try.prog Try.f9 Ytimgcfmeakekbaa.Rows.palletDrivesRow.domain false) (Ytimgcfmeakekbaa.Rows.palletDrivesSpec.post enc Try.prog Try.f9 false true false false) := by
 refine returnsInHanded_of_change (C := Try.checked) tOwn started (by kernel_rfl) Try.func9
  (ChangeSpec.witness6 (enc := enc) (C := Try.checked) false ⟨#[], #[.agg #[.int .u8 0, .int .u8 0, .int .u8 0, .int .u8 0, .slice none 0 0], .slice none 0 0, .slice none 0 0], []⟩ 8 (by kernel_rfl) (by kernel_rfl) (by kernel_rfl) (by kernel_rfl)) ?_
 intro W base args ds gs before hval0 hW _ _
 have hval : ∀ (j : Nat) t v, Try.f9.params[j]? = some t → args[j]? = some v → Value.okWide Try.prog W .any base t v := hval0
 have hW' : DataW.Whole enc Try.prog Try.f9.params.toList [] false W args.toList ds gs before := hW
 obtain ⟨p, q, hA, hV, rfl, hfz, hnd⟩ := hW
 have hA : DataW.TrodAll enc Try.prog W 0 (fun _ => true) true [94, 74, 74] args.toList ds p := hA
 obtain ⟨rfl, rfl⟩ := trodVars_none hV
 obtain ⟨v0, vs0, d0, ds0, p0, q0, hargs, rfl, rfl, h0, r0⟩ := trodAll_cons hA
 obtain ⟨v1, vs1, d1, ds1, p1, q1, rfl, rfl, rfl, h1, r1⟩ := trodAll_cons r0
 obtain ⟨v2, vs2, d2, ds2, p2, q2, rfl, rfl, rfl, h2, r2⟩ := trodAll_cons r1
 obtain ⟨rfl, rfl, rfl⟩ := trodAll_nil r2
 obtain rfl : args = #[v0, v1, v2] := by cases args; simp_all
 obtain ⟨f0, hu0, _⟩ := structIs_spec u94
 obtain ⟨c0, rfl, _⟩ := okWide_struct hu0 (hval 0 94 v0 rfl rfl)
 obtain ⟨a1, l1, k1, rfl⟩ := okWide_slice u74 (hval 1 74 v1 rfl rfl)
 obtain ⟨a2, l2, k2, rfl⟩ := okWide_slice u74 (hval 2 74 v2 rfl rfl)
 obtain ⟨fu0, h0⟩ := h0
 obtain ⟨fu1, h1⟩ := h1
 obtain ⟨fu2, h2⟩ := h2
 obtain ⟨s0, ho0, hr0⟩ := rd_Truck h0
 have hr0 : RepVs W A0 (cTr s0) c0.toList := by simpa [Value.cells] using hr0
 obtain ⟨s1, sv1, e1, hs1, hl1, ho1⟩ := rd_Us h1
 have e1 : sv1 = Value.slice a1 l1 k1 := by simpa [Value.cells] using e1.symm
 subst e1
 obtain ⟨s2, sv2, e2, hs2, hl2, ho2⟩ := rd_Us h2
 have e2 : sv2 = Value.slice a2 l2 k2 := by simpa [Value.cells] using e2.symm
 subst e2
 refine ((laDrives2 s0 ho0 s1 hl1 ho1 s2 hl2 ho2).calls (W := W) (vs := [.agg c0, .slice a1 l1 k1, .slice a2 l2 k2]) (laid0 W) (fun G => ?_)).mono ?_
 ·exact ⟨_, _, rfl, ⟨c0, rfl, RepDs.ofVs hr0⟩, _, _, rfl, hs1, _, _, rfl, hs2, rfl⟩
 ·rintro e W' ⟨v, rfl, ⟨G', A', hr⟩, hb⟩
  obtain ⟨rfl, _⟩ := hr
  exact ⟨_, rfl, post_true tLaid (by decide +kernel) hW' hb rfl rfl u4 rfl rfl rfl⟩
theorem palletDrivesHolds : Ytimgcfmeakekbaa.Rows.palletDrivesRow.holds Ytimgcfmeakekbaa.Try.pinned (OpenSpec.ofChange Ytimgcfmeakekbaa.Rows.palletDrivesSpec) :=
 OpenClaim.holds_of_wide 9 Try.f9 rfl rfl rfl rfl rfl rfl rfl ⟨rfl, rfl, rfl, rfl, rfl⟩ rfl rfl rfl rfl rfl (by kernel_rfl) Try.func9 (by kernel_rfl)
  (of_decide_eq_true (by kernel_rfl)) (by unfold Func.isWrapper; first | (rw [if_pos (by decide +kernel)]; kernel_rfl) | (rw [if_neg (by decide +kernel)]; exact ⟨rfl, rfl⟩))
  (fun os started H enc _ => palletDrivesLifted os started H enc)
end Go.Dw.Seat
namespace Go.Proofs.Ytimgcfmeakekbaa
theorem palletDrivesSaid : Rows.PalletDrivesSaid := Go.Dw.Seat.palletDrivesHolds
end Go.Proofs.Ytimgcfmeakekbaa
end
