/- Helpers of a proof. -/
import Derived.Test.YtimgcfmeakekbaaGreatA01
set_option linter.unusedVariables false
set_option linter.unusedSimpArgs false
section
set_option linter.unusedSimpArgs false
set_option maxRecDepth 100000
namespace Go.Dw.Seat
open Go Go.Dw Go.Proofs Go.IntWalk
theorem rm_in {p : PBs} (hp : p.ok) : (0 ≤ rmX p ∧ rmX p ≤ 140) ∧ 0 ≤ rmY p ∧ rmY p ≤ 140 := by
 have := hp.lg
 have := hp.wd
 have := hp.ov
 unfold rmX rmY
 omega
abbrev rxN (p : PBs) : Nat := (rmX p).toNat
abbrev ryN (p : PBs) : Nat := (rmY p).toNat
def bndX (p : PBs) (b : PBx) : Int := if chkE p b = 0 then ((bndF (bLg b) (bWd b) (rxN p) (ryN p) : Nat) : Int) else 0
set_option maxHeartbeats 4000000 in
theorem plBound (p : PBs) (b : PBx) : DCall Tryz.prog 19 [bsD p,bxD b] [] (.tup [dI (bndX p b),dI (chkE p b)]) [] := by
 have h0 := plCheck p b
 unfold bndX
 by_cases hc : chkE p b = 0
 ·obtain ⟨hp,hb⟩ := chk_ok.1 hc
  rw [if_pos hc]
  rw [hc] at h0 ⊢
  have hr := plRoom p b hp
  obtain ⟨hx,hy⟩ := rm_in hp
  have hX : rmX p = ((rxN p : Nat) : Int) := (Int.toNat_of_nonneg hx.1).symm
  have hY : rmY p = ((ryN p : Nat) : Int) := (Int.toNat_of_nonneg hy.1).symm
  have hnX : rxN p ≤ 140 := by show (rmX p).toNat ≤ 140; omega
  have hnY : ryN p ≤ 140 := by show (rmY p).toNat ≤ 140; omega
  rw [hX,hY] at hr
  have c1 := plReach b hb (rxN p) (by omega)
  have c2 := plReach b hb (ryN p) (by omega)
  have hbl := hb.lg
  have hbw := hb.wd
  have ea : b.lg = ((bLg b : Nat) : Int) := (Int.toNat_of_nonneg (by omega)).symm
  have ec : b.wd = ((bWd b : Nat) : Int) := (Int.toNat_of_nonneg (by omega)).symm
  unfold bndF
  have g1 := rcL_get (a := bLg b) (c := bWd b) (n := rxN p) (Nat.le_refl _)
  have g2 := rcL_get (a := bLg b) (c := bWd b) (n := ryN p) (Nat.le_refl _)
  have l1 := rcL_len (bLg b) (bWd b) (rxN p)
  have l2 := rcL_len (bLg b) (bWd b) (ryN p)
  have r1 := rch_le (bLg b) (bWd b) (rxN p)
  have r2 := rch_le (bLg b) (bWd b) (ryN p)
  generalize rcL (bLg b) (bWd b) (rxN p) = L1 at *
  generalize rcL (bLg b) (bWd b) (ryN p) = L2 at *
  generalize rchF (bLg b) (bWd b) (rxN p) = X at *
  generalize rchF (bLg b) (bWd b) (ryN p) = Y at *
  generalize rxN p = nx at *
  generalize ryN p = ny at *
  generalize bLg b = a at *
  generalize bWd b = c at *
  have m1 : X * Y ≤ 140 * 140 := Nat.mul_le_mul (by omega) (by omega)
  have m2 : a * c ≤ 100 * 100 := Nat.mul_le_mul (by omega) (by omega)
  have m3 : 0 < a * c := Nat.mul_pos (by omega) (by omega)
  have w1 : IntKind.i64.wrap ((X : Int) * (Y : Int)) = ((X * Y : Nat) : Int) := by rw [← Int.natCast_mul]; exact IntWalk.i64_in _ (by omega)
  have w2 : IntKind.i64.wrap (b.lg * b.wd) = ((a * c : Nat) : Int) := by rw [ea,ec,← Int.natCast_mul]; exact IntWalk.i64_in _ (by omega)
  have hq := Nat.div_le_self (X * Y) (a * c)
  have t1 : Int.tdiv ((X * Y : Nat) : Int) ((a * c : Nat) : Int) = ((X * Y / (a * c) : Nat) : Int) := by
   rw [Int.tdiv_eq_ediv_of_nonneg (by omega)]; rfl
  have w3 : IntKind.i64.wrap ((X * Y / (a * c) : Nat) : Int) = ((X * Y / (a * c) : Nat) : Int) := IntWalk.i64_in _ (by generalize X * Y / (a * c) = q at *; omega)
  have z1 : ((((a * c : Nat) : Int)) = 0) = False := eq_false (by omega)
  have i1 : (nx < nx + 1) = True := eq_true (by omega)
  have i2 : (ny < ny + 1) = True := eq_true (by omega)
  generalize a * c = ac at *
  generalize X * Y = xy at *
  generalize xy / ac = q at *
  refine DCall.of Tryz.func19 sf19 hb19 (Nat.le_of_ble_eq_true rfl) (okRes_nil fun _ => rfl) ?_; simp only [s19,idxs,Nat.reduceAdd]
  repeat' (first|(with_reducible first|apply qA|apply qB|apply qC|apply qD|apply qE|apply qF)|(refine qL rfl (WF.of ?_) ?_; first|rfl|skip)|(simp (disch:=omega) only [go_sem,simprocAttr,qN,qO,qP,qQ,g1,g2,l1,l2,w1,w2,w3,t1,z1,i1,i2])|exact qM rfl rfl rfl|(refine qG rfl ?_)|(refine qK (h0) (by decide) ?_)|(refine qK (hr) (by decide) ?_)|(refine qK (c1) (by decide) ?_)|(refine qK (c2) (by decide) ?_)|(refine qH rfl ?_)|(refine qI rfl ?_ ?_<;>intro hc<;>(try simp only [go_sem] at hc))|(refine qJ ?_ ?_<;>intro hc<;>(try simp only [hc])<;>(try simp only [go_sem] at hc)))
 ·have h2 := chk_two hc
  rw [if_neg hc]
  rw [h2] at h0 ⊢
  refine DCall.of Tryz.func19 sf19 hb19 (Nat.le_of_ble_eq_true rfl) (okRes_nil fun _ => rfl) ?_; simp only [s19,idxs,Nat.reduceAdd]
  repeat' (first|(with_reducible first|apply qA|apply qB|apply qC|apply qD|apply qE|apply qF)|(refine qL rfl (WF.of ?_) ?_; first|rfl|skip)|(simp (disch:=omega) only [go_sem,simprocAttr,qN,qO,qP,qQ])|exact qM rfl rfl rfl|(refine qG rfl ?_)|(refine qK (h0) (by decide) ?_)|(refine qH rfl ?_)|(refine qI rfl ?_ ?_<;>intro hc<;>(try simp only [go_sem] at hc))|(refine qJ ?_ ?_<;>intro hc<;>(try simp only [hc])<;>(try simp only [go_sem] at hc)))
end Go.Dw.Seat
end
section
set_option linter.unusedSimpArgs false
set_option maxRecDepth 100000
namespace Go.Dw.Seat
open Go Go.Dw Go.IntWalk
def layF (a c : Nat) : Nat → Nat → Nat → Nat → Nat → List PPl
 | 0,_,_,_,_ => []
 | f + 1,fx,fy,x,y => if (cutI a c x y).n = 0 then [] else match (cutI a c x y).ln with
  | none => [⟨fx,fy,!(decide (a ≤ x) && decide (c ≤ y))⟩]
  | some l => layF a c f fx fy (oneF (rchF a c x) (rchF a c y) l).1 (oneF (rchF a c x) (rchF a c y) l).2 ++ layF a c f (fx + if l.1 then 0 else l.2) (fy + if l.1 then l.2 else 0) (twoF (rchF a c x) (rchF a c y) l).1 (twoF (rchF a c x) (rchF a c y) l).2
theorem rch_ge {a c s n : Nat} (hs : sumB a c s = true) : s ≤ rchF a c n ↔ s ≤ n := ⟨fun h => Nat.le_trans h (rch_le a c n),fun h => rch_max h hs⟩
theorem fit_rch {a c : Nat} (ha : 0 < a) (x y : Nat) : fitB a c (rchF a c x) (rchF a c y) = fitB a c x y := by
 have h1 := sumB_a (c := c) ha
 have h2 := sumB_c (c := c) ha
 unfold fitB
 rw [decide_eq_decide.2 (rch_ge h1),decide_eq_decide.2 (rch_ge h2),decide_eq_decide.2 (rch_ge h2),decide_eq_decide.2 (rch_ge h1)]
structure LayOk (b : PBx) (fx fy x y : Nat) (l : List PPl) : Prop where
 inn : ∀ q ∈ l,((fx : Int) ≤ q.x ∧ q.x + sdX b q ≤ fx + x) ∧ (fy : Int) ≤ q.y ∧ q.y + sdY b q ≤ fy + y
 off : l.Pairwise fun q r => comI b r q ≤ 0
theorem off_x {b : PBx} {q r : PPl} (h : q.x + sdX b q ≤ r.x ∨ q.y + sdY b q ≤ r.y) : comI b r q ≤ 0 := by
 have hn : ¬ 0 < comI b r q := by
  rw [com_pos,ov_pos,ov_pos]; omega
 omega
theorem lay_ok {b : PBx} {a c : Nat} (ha : 0 < a) (hbl : b.lg = a) (hbw : b.wd = c) : ∀ (f fx fy x y : Nat),x + y < f → (layF a c f fx fy x y).length = mst a c x y ∧ LayOk b fx fy x y (layF a c f fx fy x y)
 | 0,_,_,_,_,h => by omega
 | f + 1,fx,fy,x,y,h => by
  have l1 := rch_le a c x
  have l2 := rch_le a c y
  rw [layF]
  cases cut_ok a c x y with
  | no h0 e =>
   rw [mst_no h0,e,if_pos rfl]
   exact ⟨rfl,fun q hq => (by cases hq),.nil⟩
  | one h0 e =>
   rw [mst,e,if_neg (by decide)]
   refine ⟨rfl,fun q hq => ?_,List.pairwise_singleton _ _⟩
   rw [fit_rch ha] at h0
   obtain rfl := List.mem_singleton.1 hq
   simp only [fitB,Bool.or_eq_true,Bool.and_eq_true,decide_eq_true_eq] at h0
   by_cases hf : a ≤ x ∧ c ≤ y
   ·simp only [sdX,sdY,decide_eq_true hf.1,decide_eq_true hf.2,Bool.and_self,Bool.not_true,Bool.false_eq_true,if_false]
    omega
   ·have hff : (decide (a ≤ x) && decide (c ≤ y)) = false := by
     rw [Bool.and_eq_false_iff,decide_eq_false_iff_not,decide_eq_false_iff_not]; omega
    simp only [sdX,sdY,hff,Bool.not_false,if_true]
    omega
  | two l h0 e hl h1 e2 =>
   have hn : ¬ (cutI a c x y).n = 0 := by
    have : 1 ≤ (cutI a c x y).n := h1
    omega
   rw [if_neg hn,e,e2]
   dsimp only
   have hls := ln_less hl
   obtain ⟨d,v⟩ := l
   have hh := hl.half
   have hp := hl.pos
   obtain ⟨i1,j1⟩ := lay_ok ha hbl hbw f fx fy (oneF (rchF a c x) (rchF a c y) (d,v)).1 (oneF (rchF a c x) (rchF a c y) (d,v)).2 (by omega)
   obtain ⟨i2,j2⟩ := lay_ok ha hbl hbw f (fx + if d then 0 else v) (fy + if d then v else 0) (twoF (rchF a c x) (rchF a c y) (d,v)).1 (twoF (rchF a c x) (rchF a c y) (d,v)).2 (by omega)
   refine ⟨by rw [List.length_append,i1,i2],fun q hq => ?_,List.pairwise_append.2 ⟨j1.off,j2.off,fun q hq r hr => off_x ?_⟩⟩
   ·rcases List.mem_append.1 hq with hq | hq
    ·have := j1.inn q hq
     cases d <;> simp [oneF] at this hh <;> omega
    ·have := j2.inn q hq
     cases d <;> simp [twoF] at this hh <;> omega
   ·have g1 := j1.inn q hq
    have g2 := j2.inn r hr
    cases d
    ·simp [oneF,twoF] at g1 g2 hh; omega
    ·simp [oneF,twoF] at g1 g2 hh; omega
end Go.Dw.Seat
end
section
set_option linter.unusedSimpArgs false
set_option maxRecDepth 100000
namespace Go.Dw.Seat
open Go Go.Dw Go.Proofs Go.IntWalk
abbrev bsL (p : PBs) : List D := [dI p.lg,dI p.wd,dI p.hi,dI p.ov,dI p.top,dI p.load]
abbrev bxL (b : PBx) : List D := [dI b.lg,dI b.wd,dI b.hi,dI b.wl,dI b.wh,dI b.sl,dI b.sh]
set_option maxHeartbeats 4000000 in
theorem reFault (p : PBs) (b : PBx) (hp : p.ok) (hb : b.ok) (lab : Bool) (l : List PPl) (hl : l.length ≤ 1000) (hf : ∀ q ∈ l,q.fine) : DCall Tryz.prog 12 [bsD p,bxD b,lyD lab l] [] (.tup [dI (fltF p b l).1,dI (fltF p b l).2]) [] := by
 have hr := reRoom p hp
 have hrm := rm_in hp
 generalize hR : fltF p b l = R
 obtain ⟨R1,R2⟩ := R
 dsimp only
 refine DCall.of Tryz.func12 sf12 hb12 (Nat.le_of_ble_eq_true rfl) (okRes_nil fun _ => rfl) ?_; simp only [s12,idxs,Nat.reduceAdd]
 repeat' (first|(with_reducible first|apply qA|apply qB|apply qC|apply qD|apply qE|apply qF)|(refine qL rfl (WF.of ?_) ?_; first|rfl|skip)|(simp (disch:=omega) only [go_sem,simprocAttr,qN,qO,qP,qQ])|exact qM rfl rfl rfl|(refine qG rfl ?_)|(refine qK (hr) (by decide) ?_)|(refine qH rfl ?_)|(refine qI rfl ?_ ?_<;>intro hc<;>(try simp only [go_sem] at hc))|(refine qJ ?_ ?_<;>intro hc<;>(try simp only [hc])<;>(try simp only [go_sem] at hc)))
 refine DW.loop (ι := { i : Nat // i ≤ l.length ∧ faultF p b (l.take i) (l.drop i) = (R1,R2) }) (fun i => ⟨72,[(10,dI i.1),(9,dI (rmY p)),(8,dI (rmX p)),(4,.box 4 0),(3,.box 3 0),(2,lyD lab l)],[(4,.box (bxL b)),(3,.box (bsL p))]⟩) (fun i => l.length - i.1) ⟨0,Nat.zero_le _,hR⟩ ?_ ?_
 ·refine Ent.to ?_ ?_ <;> simp (disch:=omega) only [qR,qS,qT,qU,get,Nat.reduceEqDiff,↓reduceIte,qV,qW,qX,qY,qZ,and_self,dI,i64_in,and_true,true_and,rA,rB,rC,rD]
  all_goals first | exact ⟨.refl _,.refl _⟩ | exact .refl _
 rintro ⟨i,hi,hr⟩
 dsimp only
 rcases at_or l i hi with ⟨q,hq,hlt,hd⟩ | ⟨he,hd⟩
 ·have hqf := hf q (List.mem_of_getElem? hq)
  have hqx := hqf.x
  have hqy := hqf.y
  have hs := side_pos hb q
  have h1 := reSides b q
  have htk : l.take (i + 1) = l.take i ++ [q] := by rw [List.take_add_one,hq]; rfl
  have hdr : l.drop i = q :: l.drop (i + 1) := by rw [List.drop_eq_getElem_cons hlt,(List.getElem_eq_iff hlt).2 hq]
  rw [hdr,faultF,List.length_take,Nat.min_eq_left (by omega),← htk] at hr
  unfold outB at hr
  by_cases e1 : rmX p < q.x + sdX b q
  ·have d1 : decide (rmX p < q.x + sdX b q) = true := decide_eq_true e1
   rw [d1,Bool.true_or,if_pos rfl] at hr
   cases hr
   repeat' (first|(with_reducible first|apply qA|apply qB|apply qC|apply qD|apply qE|apply qF)|(refine qL rfl (WF.of ?_) ?_; first|rfl|skip)|(simp (disch:=omega) only [go_sem,simprocAttr,qN,qO,qP,qQ,hd,hq,d1,rF,rG])|exact qM rfl rfl rfl|(refine qG rfl ?_)|(refine qK (h1) (by decide) ?_)|(refine qH rfl ?_)|(refine qI rfl ?_ ?_<;>intro hc<;>(try simp only [go_sem] at hc))|(refine qJ ?_ ?_<;>intro hc<;>(try simp only [hc])<;>(try simp only [go_sem] at hc)))
  have d1 : decide (rmX p < q.x + sdX b q) = false := decide_eq_false e1
  by_cases e2 : rmY p < q.y + sdY b q
  ·have d2 : decide (rmY p < q.y + sdY b q) = true := decide_eq_true e2
   rw [d2,Bool.or_true,if_pos rfl] at hr
   cases hr
   repeat' (first|(with_reducible first|apply qA|apply qB|apply qC|apply qD|apply qE|apply qF)|(refine qL rfl (WF.of ?_) ?_; first|rfl|skip)|(simp (disch:=omega) only [go_sem,simprocAttr,qN,qO,qP,qQ,hd,hq,d1,d2,rF,rG])|exact qM rfl rfl rfl|(refine qG rfl ?_)|(refine qK (h1) (by decide) ?_)|(refine qH rfl ?_)|(refine qI rfl ?_ ?_<;>intro hc<;>(try simp only [go_sem] at hc))|(refine qJ ?_ ?_<;>intro hc<;>(try simp only [hc])<;>(try simp only [go_sem] at hc)))
  have d2 : decide (rmY p < q.y + sdY b q) = false := decide_eq_false e2
  rw [d1,d2,Bool.or_self,if_neg Bool.false_ne_true] at hr
  generalize hS : intoB b q (l.take i) = S at hr
  repeat' (first|(with_reducible first|apply qA|apply qB|apply qC|apply qD|apply qE|apply qF)|(refine qL rfl (WF.of ?_) ?_; first|rfl|skip)|(simp (disch:=omega) only [go_sem,simprocAttr,qN,qO,qP,qQ,hd,hq,d1,d2,rF,rG])|exact qM rfl rfl rfl|(refine qG rfl ?_)|(refine qK (h1) (by decide) ?_)|(refine qH rfl ?_)|(refine qI rfl ?_ ?_<;>intro hc<;>(try simp only [go_sem] at hc))|(refine qJ ?_ ?_<;>intro hc<;>(try simp only [hc])<;>(try simp only [go_sem] at hc)))
  refine DW.loop (ι := { k : Nat // k ≤ i ∧ intoB b q ((l.take i).drop k) = S }) (fun k => ⟨72,[(13,dI k.1),(10,dI i),(9,dI (rmY p)),(8,dI (rmX p)),(4,.box 4 0),(3,.box 3 0),(2,lyD lab l)],[(4,.box (bxL b)),(3,.box (bsL p))]⟩) (fun k => i - k.1) ⟨0,Nat.zero_le _,hS⟩ ?_ ?_
  ·refine Ent.to ?_ ?_ <;> simp (disch:=omega) only [qR,qS,qT,qU,get,Nat.reduceEqDiff,↓reduceIte,qV,qW,qX,qY,qZ,and_self,dI,i64_in,and_true,true_and,rA,rB,rC,rD]
   all_goals first | exact ⟨.refl _,.refl _⟩ | exact .refl _
  rintro ⟨k,hk,hks⟩
  dsimp only
  have hl2 : (l.take i).length = i := by rw [List.length_take]; omega
  by_cases hki : k < i
  ·have dk : decide ((k : Int) < (i : Int)) = true := decide_eq_true (by omega)
   have hkl : k < l.length := by omega
   obtain ⟨r,hrk⟩ := getE hkl
   have hrk2 : (l.take i)[k]? = some r := by rw [List.getElem?_take,if_pos hki]; exact hrk
   have hdr2 : (l.take i).drop k = r :: (l.take i).drop (k + 1) := by rw [List.drop_eq_getElem_cons (by omega),(List.getElem_eq_iff (by omega)).2 hrk2]
   have hrf := hf r (List.mem_of_getElem? hrk)
   have h2 := reCommon b hb q r hqf hrf
   rw [hdr2,intoB,List.any_cons] at hks
   by_cases hc : 0 < comI b q r
   ·have dc : decide (0 < comI b q r) = true := decide_eq_true hc
    rw [dc,Bool.true_or] at hks
    subst hks
    rw [if_pos rfl] at hr
    cases hr
    repeat' (first|(with_reducible first|apply qA|apply qB|apply qC|apply qD|apply qE|apply qF)|(refine qL rfl (WF.of ?_) ?_; first|rfl|skip)|(simp (disch:=omega) only [go_sem,simprocAttr,qN,qO,qP,qQ,hq,dk,hrk,dc,rF,rG])|exact qM rfl rfl rfl|(refine qG rfl ?_)|(refine qK (h2) (by decide) ?_)|(refine qH rfl ?_)|(refine qI rfl ?_ ?_<;>intro hc<;>(try simp only [go_sem] at hc))|(refine qJ ?_ ?_<;>intro hc<;>(try simp only [hc])<;>(try simp only [go_sem] at hc)))
   ·have dc : decide (0 < comI b q r) = false := decide_eq_false hc
    rw [dc,Bool.false_or] at hks
    repeat' (first|(with_reducible first|apply qA|apply qB|apply qC|apply qD|apply qE|apply qF)|(refine qL rfl (WF.of ?_) ?_; first|rfl|skip)|(simp (disch:=omega) only [go_sem,simprocAttr,qN,qO,qP,qQ,hq,dk,hrk,dc,rF,rG])|exact qM rfl rfl rfl|(refine qG rfl ?_)|(refine qK (h2) (by decide) ?_)|(refine qH rfl ?_)|(refine qI rfl ?_ ?_<;>intro hc<;>(try simp only [go_sem] at hc))|(refine qJ ?_ ?_<;>intro hc<;>(try simp only [hc])<;>(try simp only [go_sem] at hc)))
    refine ⟨⟨k + 1,hki,hks⟩,?_,Ent.to ?_ ?_⟩ <;> first | (show _ < _; (try simp only); omega) | (simp (disch:=omega) only [qR,qS,qT,qU,get,Nat.reduceEqDiff,↓reduceIte,qV,qW,qX,qY,qZ,and_self,dI,i64_in,and_true,true_and,rA,rB,rC,rD])
    all_goals first | exact ⟨.refl _,.refl _⟩ | exact .refl _
  ·have dk : decide ((k : Int) < (i : Int)) = false := decide_eq_false (by omega)
   rw [List.drop_eq_nil_of_le (by omega)] at hks
   have hSf : S = false := by rw [← hks]; rfl
   rw [hSf,if_neg Bool.false_ne_true] at hr
   repeat' (first|(with_reducible first|apply qA|apply qB|apply qC|apply qD|apply qE|apply qF)|(refine qL rfl (WF.of ?_) ?_; first|rfl|skip)|(simp (disch:=omega) only [go_sem,simprocAttr,qN,qO,qP,qQ,dk])|exact qM rfl rfl rfl|(refine qG rfl ?_)|(refine qH rfl ?_)|(refine qI rfl ?_ ?_<;>intro hc<;>(try simp only [go_sem] at hc))|(refine qJ ?_ ?_<;>intro hc<;>(try simp only [hc])<;>(try simp only [go_sem] at hc)))
   refine ⟨⟨i + 1,hlt,hr⟩,?_,Ent.to ?_ ?_⟩ <;> first | (show _ < _; (try simp only); omega) | (simp (disch:=omega) only [qR,qS,qT,qU,get,Nat.reduceEqDiff,↓reduceIte,qV,qW,qX,qY,qZ,and_self,dI,i64_in,and_true,true_and,rA,rB,rC,rD])
   all_goals first | exact ⟨.refl _,.refl _⟩ | exact .refl _
 ·rw [List.drop_eq_nil_of_le (by omega)] at hr
  cases hr
  repeat' (first|(with_reducible first|apply qA|apply qB|apply qC|apply qD|apply qE|apply qF)|(refine qL rfl (WF.of ?_) ?_; first|rfl|skip)|(simp (disch:=omega) only [go_sem,simprocAttr,qN,qO,qP,qQ,hd])|exact qM rfl rfl rfl|(refine qG rfl ?_)|(refine qH rfl ?_)|(refine qI rfl ?_ ?_<;>intro hc<;>(try simp only [go_sem] at hc))|(refine qJ ?_ ?_<;>intro hc<;>(try simp only [hc])<;>(try simp only [go_sem] at hc)))
end Go.Dw.Seat
end
section
set_option linter.unusedSimpArgs false
set_option maxRecDepth 100000
namespace Go.Dw.Seat
open Go Go.Dw Go.Proofs Go.IntWalk
set_option maxHeartbeats 4000000 in
theorem reTurn (p : PBs) (b : PBx) (hp : p.ok) (hb : b.ok) (lab : Bool) (l : List PPl) (hl : l.length ≤ 1000) (hf : ∀ q ∈ l,q.fine) (k : Nat) (hk : k < 4) : DCall Tryz.prog 73 [bsD p,bxD b,lyD lab l,dI k] [] (lyD false (l.map (trnP p b k))) [] := by
 have hr := reRoom p hp
 have hrm := rm_in hp
 refine DCall.of Tryz.func73 sf73 hb73 (Nat.le_of_ble_eq_true rfl) (okRes_nil fun _ => rfl) ?_; simp only [s73,idxs,Nat.reduceAdd]
 repeat' (first|(with_reducible first|apply qA|apply qB|apply qC|apply qD|apply qE|apply qF)|(simp (disch:=omega) only [go_sem,simprocAttr,qN,qO,qP,qQ])|exact qM rfl rfl rfl|(refine qG rfl ?_)|(refine qK (hr) (by decide) ?_)|(refine qH rfl ?_)|(refine qI rfl ?_ ?_<;>intro hc<;>(try simp only [go_sem] at hc))|(refine qJ ?_ ?_<;>intro hc<;>(try simp only [hc])<;>(try simp only [go_sem] at hc)))
 refine DW.loop (ι := { i : Nat // i ≤ l.length }) (fun i => ⟨69,[(12,dI i.1),(11,.own 21),(10,dI (rmY p)),(9,dI (rmX p)),(5,.box 5 0),(4,.box 4 0),(3,dI k),(2,lyD lab l)],[(21,.row 3 (rowC (rows eP ((l.take i.1).map (trnP p b k))))),(5,.box (bxL b)),(4,.box (bsL p))]⟩) (fun i => l.length - i.1) ⟨0,Nat.zero_le _⟩ ?_ ?_
 ·refine Ent.to ?_ ?_ <;> simp (disch:=omega) only [qR,qS,qT,qU,get,Nat.reduceEqDiff,↓reduceIte,qV,qW,qX,qY,qZ,and_self,dI,i64_in,and_true,true_and,rA,rB,rC,rD,List.take_zero,rG]
  all_goals first | exact ⟨.refl _,.refl _⟩ | exact .refl _
 rintro ⟨i,hi⟩
 dsimp only
 rcases at_or l i hi with ⟨q,hq,hlt,hd⟩ | ⟨he,hd⟩
 ·have hqf := hf q (List.mem_of_getElem? hq)
  have ha := reSides b q
  have hqx := hqf.x
  have hqy := hqf.y
  have hqs := side_pos hb q
  have e1 : rmX p - (q.x + sdX b q) = rmX p - q.x - sdX b q := by omega
  have e2 : rmY p - (q.y + sdY b q) = rmY p - q.y - sdY b q := by omega
  have htk : (l.take (i + 1)).map (trnP p b k) = (l.take i).map (trnP p b k) ++ [trnP p b k q] := by rw [List.take_add_one,hq]; simp
  have htl : ((l.take i).map (trnP p b k)).length ≤ 1000 := by rw [List.length_map,List.length_take]; omega
  generalize (l.take i).map (trnP p b k) = M at *
  have hsn := rowC_snocP M (trnP p b k q)
  match k,hk with
  | 0,_ =>
   have e : trnP p b 0 q = ⟨q.x,q.y,q.t⟩ := by rfl
   rw [e] at hsn htk
   dsimp only at hsn
   repeat' (first|(with_reducible first|apply qA|apply qB|apply qC|apply qD|apply qE|apply qF)|(simp (disch:=omega) only [go_sem,simprocAttr,qN,qO,qP,qQ,hd,hq,hsn,rF,rG])|exact qM rfl rfl rfl|(refine qG rfl ?_)|(refine qK (ha) (by decide) ?_)|(refine qH rfl ?_)|(refine qI rfl ?_ ?_<;>intro hc<;>(try simp only [go_sem] at hc))|(refine qJ ?_ ?_<;>intro hc<;>(try simp only [hc])<;>(try simp only [go_sem] at hc)))
   refine ⟨⟨i + 1,hlt⟩,?_,Ent.to ?_ ?_⟩ <;> first | (show _ < _; (try simp only); omega) | (simp (disch:=omega) only [qR,qS,qT,qU,get,Nat.reduceEqDiff,↓reduceIte,qV,qW,qX,qY,qZ,and_self,dI,i64_in,and_true,true_and,rA,rB,rC,rD,htk,hsn])
   all_goals first | exact ⟨.refl _,.refl _⟩ | exact .refl _
  | 1,_ =>
   have e : trnP p b 1 q = ⟨rmX p - q.x - sdX b q,rmY p - q.y - sdY b q,q.t⟩ := by simp [trnP,trnX,trnY,← e1,← e2]
   rw [e] at hsn htk
   dsimp only at hsn
   repeat' (first|(with_reducible first|apply qA|apply qB|apply qC|apply qD|apply qE|apply qF)|(simp (disch:=omega) only [go_sem,simprocAttr,qN,qO,qP,qQ,hd,hq,hsn,rF,rG])|exact qM rfl rfl rfl|(refine qG rfl ?_)|(refine qK (ha) (by decide) ?_)|(refine qH rfl ?_)|(refine qI rfl ?_ ?_<;>intro hc<;>(try simp only [go_sem] at hc))|(refine qJ ?_ ?_<;>intro hc<;>(try simp only [hc])<;>(try simp only [go_sem] at hc)))
   refine ⟨⟨i + 1,hlt⟩,?_,Ent.to ?_ ?_⟩ <;> first | (show _ < _; (try simp only); omega) | (simp (disch:=omega) only [qR,qS,qT,qU,get,Nat.reduceEqDiff,↓reduceIte,qV,qW,qX,qY,qZ,and_self,dI,i64_in,and_true,true_and,rA,rB,rC,rD,htk,hsn])
   all_goals first | exact ⟨.refl _,.refl _⟩ | exact .refl _
  | 2,_ =>
   have e : trnP p b 2 q = ⟨rmX p - q.x - sdX b q,q.y,q.t⟩ := by simp [trnP,trnX,trnY,← e1,← e2]
   rw [e] at hsn htk
   dsimp only at hsn
   repeat' (first|(with_reducible first|apply qA|apply qB|apply qC|apply qD|apply qE|apply qF)|(simp (disch:=omega) only [go_sem,simprocAttr,qN,qO,qP,qQ,hd,hq,hsn,rF,rG])|exact qM rfl rfl rfl|(refine qG rfl ?_)|(refine qK (ha) (by decide) ?_)|(refine qH rfl ?_)|(refine qI rfl ?_ ?_<;>intro hc<;>(try simp only [go_sem] at hc))|(refine qJ ?_ ?_<;>intro hc<;>(try simp only [hc])<;>(try simp only [go_sem] at hc)))
   refine ⟨⟨i + 1,hlt⟩,?_,Ent.to ?_ ?_⟩ <;> first | (show _ < _; (try simp only); omega) | (simp (disch:=omega) only [qR,qS,qT,qU,get,Nat.reduceEqDiff,↓reduceIte,qV,qW,qX,qY,qZ,and_self,dI,i64_in,and_true,true_and,rA,rB,rC,rD,htk,hsn])
   all_goals first | exact ⟨.refl _,.refl _⟩ | exact .refl _
  | 3,_ =>
   have e : trnP p b 3 q = ⟨q.x,rmY p - q.y - sdY b q,q.t⟩ := by simp [trnP,trnX,trnY,← e1,← e2]
   rw [e] at hsn htk
   dsimp only at hsn
   repeat' (first|(with_reducible first|apply qA|apply qB|apply qC|apply qD|apply qE|apply qF)|(simp (disch:=omega) only [go_sem,simprocAttr,qN,qO,qP,qQ,hd,hq,hsn,rF,rG])|exact qM rfl rfl rfl|(refine qG rfl ?_)|(refine qK (ha) (by decide) ?_)|(refine qH rfl ?_)|(refine qI rfl ?_ ?_<;>intro hc<;>(try simp only [go_sem] at hc))|(refine qJ ?_ ?_<;>intro hc<;>(try simp only [hc])<;>(try simp only [go_sem] at hc)))
   refine ⟨⟨i + 1,hlt⟩,?_,Ent.to ?_ ?_⟩ <;> first | (show _ < _; (try simp only); omega) | (simp (disch:=omega) only [qR,qS,qT,qU,get,Nat.reduceEqDiff,↓reduceIte,qV,qW,qX,qY,qZ,and_self,dI,i64_in,and_true,true_and,rA,rB,rC,rD,htk,hsn])
   all_goals first | exact ⟨.refl _,.refl _⟩ | exact .refl _
 ·have hti : l.take i = l := by rw [he,List.take_length]
  rw [hti]
  repeat' (first|(with_reducible first|apply qA|apply qB|apply qC|apply qD|apply qE|apply qF)|(simp (disch:=omega) only [go_sem,simprocAttr,qN,qO,qP,qQ,hd])|exact qM rfl rfl rfl|(refine qG rfl ?_)|(refine qH rfl ?_)|(refine qI rfl ?_ ?_<;>intro hc<;>(try simp only [go_sem] at hc))|(refine qJ ?_ ?_<;>intro hc<;>(try simp only [hc])<;>(try simp only [go_sem] at hc)))
  (refine retS_ent (Ent.rel 21 rfl) ?_; simp (disch:=omega) only [go_sem,simprocAttr,qN,qO,qP,qQ])
  refine retS_wk rfl ?_ (by simp only [Blk.nb,rowC_nb,D.nb,D.nbs,C.nb,C.nbs,C.nbss,rows_nb eI_nb,Bool.and_true,Bool.not_false,Bool.and_self,bD,dI,iD,rows_nb eP_nb,rows_nb eR_nb]); exact .refl _
set_option maxHeartbeats 4000000 in
theorem reRests (b : PBx) (hb : b.ok) (lb la : Bool) (below above : List PPl) (hl1 : below.length ≤ 1000) (hl2 : above.length ≤ 1000) (hf1 : ∀ q ∈ below,q.fine) (hf2 : ∀ q ∈ above,q.fine) : DCall Tryz.prog 72 [bxD b,lyD lb below,lyD la above] [] (rsL false (above.map (rsF b below))) [] := by
 have hbl := hb.lg
 have hbw := hb.wd
 refine DCall.of Tryz.func72 sf72 hb72 (Nat.le_of_ble_eq_true rfl) (okRes_nil fun _ => rfl) ?_; simp only [s72,idxs,Nat.reduceAdd]
 repeat' (first|(with_reducible first|apply qA|apply qB|apply qC|apply qD|apply qE|apply qF)|(refine qL rfl (WF.of ?_) ?_; first|rfl|skip)|(simp (disch:=omega) only [go_sem,simprocAttr,qN,qO,qP,qQ])|exact qM rfl rfl rfl|(refine qG rfl ?_)|(refine qH rfl ?_)|(refine qI rfl ?_ ?_<;>intro hc<;>(try simp only [go_sem] at hc))|(refine qJ ?_ ?_<;>intro hc<;>(try simp only [hc])<;>(try simp only [go_sem] at hc)))
 refine DW.loop (ι := { k : Nat // k ≤ above.length }) (fun k => ⟨62,[(8,dI k.1),(7,.own 13),(3,.box 3 0),(2,lyD la above),(1,lyD lb below)],[(13,.row 2 (rowC (rows eR ((above.take k.1).map (rsF b below))))),(3,.box (bxL b))]⟩) (fun k => above.length - k.1) ⟨0,Nat.zero_le _⟩ ?_ ?_
 ·refine Ent.to ?_ ?_ <;> simp (disch:=omega) only [qR,qS,qT,qU,get,Nat.reduceEqDiff,↓reduceIte,qV,qW,qX,qY,qZ,and_self,dI,i64_in,and_true,true_and,rA,rB,rC,rD,List.take_zero,rG]
  all_goals first | exact ⟨.refl _,.refl _⟩ | exact .refl _
 rintro ⟨k,hk⟩
 dsimp only
 rcases at_or above k hk with ⟨q,hq,hlt,hd⟩ | ⟨he,hd⟩
 ·have hqf := hf2 q (List.mem_of_getElem? hq)
  have htkA : (above.take (k + 1)).map (rsF b below) = (above.take k).map (rsF b below) ++ [rsF b below q] := by rw [List.take_add_one,hq]; simp
  have htl : ((above.take k).map (rsF b below)).length ≤ 1000 := by rw [List.length_map,List.length_take]; omega
  generalize (above.take k).map (rsF b below) = M at *
  repeat' (first|(with_reducible first|apply qA|apply qB|apply qC|apply qD|apply qE|apply qF)|(refine qL rfl (WF.of ?_) ?_; first|rfl|skip)|(simp (disch:=omega) only [go_sem,simprocAttr,qN,qO,qP,qQ,hd,rF,rG])|exact qM rfl rfl rfl|(refine qG rfl ?_)|(refine qH rfl ?_)|(refine qI rfl ?_ ?_<;>intro hc<;>(try simp only [go_sem] at hc))|(refine qJ ?_ ?_<;>intro hc<;>(try simp only [hc])<;>(try simp only [go_sem] at hc)))
  refine DW.ent (Ent.adoptB 9 0 38 1 rfl rfl rfl (by simp (disch:=omega) only [go_sem,simprocAttr,qN,qO,qP,qQ,menS,List.any_cons,List.any_nil])) ?_
  simp only [ins,Nat.reduceLT,Nat.reduceEqDiff,↓reduceIte,List.set_cons_zero,List.set_cons_succ]
  refine DW.loop (ι := { i : Nat // i ≤ below.length }) (fun i => ⟨62,[(11,dI i.1),(10,dI (arF b q (below.take i.1))),(9,.box 9 0),(8,dI k),(7,.own 13),(3,.box 3 0),(2,lyD la above),(1,lyD lb below)],[(38,.row 1 (rowC (rows eI (onF b q 0 (below.take i.1))))),(13,.row 2 (rowC (rows eR M))),(9,.box [.own 38,dI 0]),(3,.box (bxL b))]⟩) (fun i => below.length - i.1) ⟨0,Nat.zero_le _⟩ ?_ ?_
  ·refine Ent.to ?_ ?_ <;> simp (disch:=omega) only [qR,qS,qT,qU,get,Nat.reduceEqDiff,↓reduceIte,qV,qW,qX,qY,qZ,and_self,dI,i64_in,and_true,true_and,rA,rB,rC,rD,List.take_zero,onF,arF]
   all_goals first | exact ⟨.refl _,.refl _,.refl _⟩ | exact ⟨.refl _,.refl _⟩ | exact .refl _
  rintro ⟨i,hi⟩
  dsimp only
  rcases at_or below i hi with ⟨r,hr,hlti,hdi⟩ | ⟨hei,hdi⟩
  ·have hrf := hf1 r (List.mem_of_getElem? hr)
   have hc := reCommon b hb q r hqf hrf
   have hcb := com_le hb q r
   have htk : below.take (i + 1) = below.take i ++ [r] := by rw [List.take_add_one,hr]; rfl
   have htl : (below.take i).length = i := by rw [List.length_take]; omega
   have hab := arF_b hb q (below.take i)
   have hol := onF_len b q (below.take i) 0
   have hS := arF_app b q (below.take i) r
   have hO := onF_app b q (below.take i) 0 r
   rw [← htk,htl,Nat.zero_add] at hO
   rw [← htk] at hS
   rw [htl] at hab hol
   generalize arF b q (below.take i) = S at *
   generalize onF b q 0 (below.take i) = O at *
   by_cases hpos : 0 < comI b q r
   ·have dp : decide (0 < comI b q r) = true := decide_eq_true hpos
    rw [if_pos hpos] at hO
    repeat' (first|(with_reducible first|apply qA|apply qB|apply qC|apply qD|apply qE|apply qF)|(refine qL rfl (WF.of ?_) ?_; first|rfl|skip)|(simp (disch:=omega) only [go_sem,simprocAttr,qN,qO,qP,qQ,hdi,hr,hq,dp,rF,rG])|exact qM rfl rfl rfl|(refine qG rfl ?_)|(refine qK (hc) (by decide) ?_)|(refine qH rfl ?_)|(refine qI rfl ?_ ?_<;>intro hc<;>(try simp only [go_sem] at hc))|(refine qJ ?_ ?_<;>intro hc<;>(try simp only [hc])<;>(try simp only [go_sem] at hc)))
    refine ⟨⟨i + 1,hlti⟩,?_,Ent.to ?_ ?_⟩ <;> first | (show _ < _; (try simp only); omega) | (simp (disch:=omega) only [qR,qS,qT,qU,get,Nat.reduceEqDiff,↓reduceIte,qV,qW,qX,qY,qZ,and_self,dI,i64_in,and_true,true_and,rA,rB,rC,rD,hS,hO,rowC_snocI])
    all_goals first | exact ⟨.refl _,.refl _,.refl _⟩ | exact ⟨.refl _,.refl _⟩ | exact .refl _
   ·have dp : decide (0 < comI b q r) = false := decide_eq_false hpos
    rw [if_neg hpos,List.append_nil] at hO
    have h0 : comI b q r = 0 := by omega
    repeat' (first|(with_reducible first|apply qA|apply qB|apply qC|apply qD|apply qE|apply qF)|(refine qL rfl (WF.of ?_) ?_; first|rfl|skip)|(simp (disch:=omega) only [go_sem,simprocAttr,qN,qO,qP,qQ,hdi,hr,hq,dp,rF,rG])|exact qM rfl rfl rfl|(refine qG rfl ?_)|(refine qK (hc) (by decide) ?_)|(refine qH rfl ?_)|(refine qI rfl ?_ ?_<;>intro hc<;>(try simp only [go_sem] at hc))|(refine qJ ?_ ?_<;>intro hc<;>(try simp only [hc])<;>(try simp only [go_sem] at hc)))
    refine ⟨⟨i + 1,hlti⟩,?_,Ent.to ?_ ?_⟩ <;> first | (show _ < _; (try simp only); omega) | (simp (disch:=omega) only [qR,qS,qT,qU,get,Nat.reduceEqDiff,↓reduceIte,qV,qW,qX,qY,qZ,and_self,dI,i64_in,and_true,true_and,rA,rB,rC,rD,hS,hO,h0,Int.add_zero])
    all_goals first | exact ⟨.refl _,.refl _,.refl _⟩ | exact ⟨.refl _,.refl _⟩ | exact .refl _
  ·have hti : below.take i = below := List.take_of_length_le (by omega)
   rw [hti]
   have hab := arF_b hb q below
   have hm1 : 0 < b.lg * b.wd := Int.mul_pos (by omega) (by omega)
   have hm2 : b.lg * b.wd ≤ 100 * 100 := Int.mul_le_mul hbl.2 hbw.2 (by omega) (by omega)
   have w1 : IntKind.i64.wrap (b.lg * b.wd) = b.lg * b.wd := IntWalk.i64_in _ (by omega)
   have hz : (b.lg * b.wd = 0) = False := eq_false (by omega)
   have w2 : IntKind.i64.wrap (1000 * arF b q below) = 1000 * arF b q below := IntWalk.i64_in _ (by omega)
   have hq0 : 0 ≤ 1000 * arF b q below / (b.lg * b.wd) := Int.ediv_nonneg (by omega) (by omega)
   have hq1 : 1000 * arF b q below / (b.lg * b.wd) ≤ 1000 * arF b q below := Int.ediv_le_self _ (by omega)
   have ht : Int.tdiv (1000 * arF b q below) (b.lg * b.wd) = 1000 * arF b q below / (b.lg * b.wd) := Int.tdiv_eq_ediv_of_nonneg (by omega)
   have w3 : IntKind.i64.wrap (1000 * arF b q below / (b.lg * b.wd)) = 1000 * arF b q below / (b.lg * b.wd) := IntWalk.i64_in _ (by omega)
   have hrs : rsF b below q = ⟨onF b q 0 below,1000 * arF b q below / (b.lg * b.wd)⟩ := rfl
   generalize rsF b below q = Rs at *
   subst hrs
   generalize onF b q 0 below = O at *
   generalize 1000 * arF b q below / (b.lg * b.wd) = Q at *
   have hsn := rowC_snocR M ⟨O,Q⟩
   refine DW.ent (Ent.rel 38 rfl) ?_
   simp (disch:=omega) only [go_sem,simprocAttr,qN,qO,qP,qQ]
   repeat' (first|(with_reducible first|apply qA|apply qB|apply qC|apply qD|apply qE|apply qF)|(refine qL rfl (WF.of ?_) ?_; first|rfl|skip)|(simp (disch:=omega) only [go_sem,simprocAttr,qN,qO,qP,qQ,hdi,w1,w2,w3,hz,ht,hsn,rF,rG])|exact qM rfl rfl rfl|(refine qG rfl ?_)|(refine qH rfl ?_)|(refine qI rfl ?_ ?_<;>intro hc<;>(try simp only [go_sem] at hc))|(refine qJ ?_ ?_<;>intro hc<;>(try simp only [hc])<;>(try simp only [go_sem] at hc)))
   refine ⟨⟨k + 1,hlt⟩,?_,Ent.to ?_ ?_⟩ <;> first | (show _ < _; (try simp only); omega) | (simp (disch:=omega) only [qR,qS,qT,qU,get,Nat.reduceEqDiff,↓reduceIte,qV,qW,qX,qY,qZ,and_self,dI,i64_in,and_true,true_and,rA,rB,rC,rD,htkA,hsn])
   all_goals first | exact ⟨.refl _,.refl _,.refl _⟩ | exact ⟨.refl _,.refl _⟩ | exact .refl _
 ·have hti : above.take k = above := by rw [he,List.take_length]
  rw [hti]
  repeat' (first|(with_reducible first|apply qA|apply qB|apply qC|apply qD|apply qE|apply qF)|(refine qL rfl (WF.of ?_) ?_; first|rfl|skip)|(simp (disch:=omega) only [go_sem,simprocAttr,qN,qO,qP,qQ,hd])|exact qM rfl rfl rfl|(refine qG rfl ?_)|(refine qH rfl ?_)|(refine qI rfl ?_ ?_<;>intro hc<;>(try simp only [go_sem] at hc))|(refine qJ ?_ ?_<;>intro hc<;>(try simp only [hc])<;>(try simp only [go_sem] at hc)))
  (refine retS_ent (Ent.rel 13 rfl) ?_; simp (disch:=omega) only [go_sem,simprocAttr,qN,qO,qP,qQ])
  refine retS_wk rfl ?_ (by simp only [Blk.nb,rowC_nb,D.nb,D.nbs,C.nb,C.nbs,C.nbss,rows_nb eI_nb,Bool.and_true,Bool.not_false,Bool.and_self,bD,dI,iD,rows_nb eP_nb,rows_nb eR_nb]); exact .refl _
end Go.Dw.Seat
end
section
set_option linter.unusedSimpArgs false
set_option maxRecDepth 100000
namespace Go.Dw.Seat
open Go Go.Dw Go.Proofs Go.IntWalk
def newt (n : Int) : Int := (n + 99) / 100
theorem plNewton (n : Int) (h : 0 ≤ n ∧ n ≤ 5000000) : DCall Tryz.prog 37 [dI n] [] (dI (newt n)) [] := by
 have ht : Int.tdiv (n + 99) 100 = (n + 99) / 100 := Int.tdiv_eq_ediv_of_nonneg (by omega)
 unfold newt
 refine DCall.of Tryz.func37 sf37 hb37 (Nat.le_of_ble_eq_true rfl) (okRes_nil fun _ => rfl) ?_; simp only [s37,idxs,Nat.reduceAdd]
 repeat' (first|(with_reducible first|apply qA|apply qB|apply qC|apply qD|apply qE|apply qF)|(simp (disch:=omega) only [go_sem,simprocAttr,qN,qO,qP,qQ,ht])|exact qM rfl rfl rfl|(refine qG rfl ?_)|(refine qH rfl ?_)|(refine qI rfl ?_ ?_<;>intro hc<;>(try simp only [go_sem] at hc))|(refine qJ ?_ ?_<;>intro hc<;>(try simp only [hc])<;>(try simp only [go_sem] at hc)))
def lodF (b : PBx) : Lod := ⟨b.sl,b.sh,newt b.wl,newt b.wh⟩
theorem lodF_ok {b : PBx} (hb : b.ok) : (lodF b).ok := by
 have h1 := hb.w
 have h2 := hb.s
 refine ⟨h2,?_⟩
 simp only [lodF,newt]
 omega
def layI (p : PBs) (b : PBx) (n : Int) (hg : Int) : Int :=
 if 0 < n * b.wh then min (min (min 30 hg) (max 0 (p.top - p.hi) / b.hi)) (p.load / (n * b.wh)) else min (min 30 hg) (max 0 (p.top - p.hi) / b.hi)
set_option maxHeartbeats 4000000 in
theorem plLayersX (p : PBs) (b : PBx) (l : List PPl) (hl : l.length ≤ 2 ^ 36) (keep : List (Int × Int)) (days : Int) (ht : TabOk keep days) : DCall Tryz.prog 9 [bsD p,bxD b,lyD false l,.c (.sl false 2 (rows eK keep)),dI days] [] (.tup [dI (if rgtE p b [l] = 0 ∧ l ≠ [] then layI p b l.length (highI (lodF b) keep days) else 0),dI (if rgtE p b [l] ≠ 0 then rgtE p b [l] else if l = [] then 7 else 0)]) [] := by
 have h3 := plRight true p b [l] (by simp) (by simpa using hl)
 rw [one_ls] at h3
 by_cases hr : rgtE p b [l] = 0
 case neg =>
  rw [if_neg (fun h => hr h.1),if_pos hr]
  generalize rgtE p b [l] = e at *
  have hd : (e != 0) = true := by simpa using hr
  by_cases hc : chkE p b = 0
  ·rw [if_pos hc] at h3
   refine DCall.of Tryz.func9 sf9 hb9 (Nat.le_of_ble_eq_true rfl) (okRes_nil fun _ => rfl) ?_; simp only [s9,idxs,Nat.reduceAdd]
   repeat' (first|(with_reducible first|apply qA|apply qB|apply qC|apply qD|apply qE|apply qF)|(refine qL rfl (WF.of ?_) ?_; first|rfl|skip)|(simp (disch:=omega) only [go_sem,simprocAttr,qN,qO,qP,qQ,hd])|exact qM rfl rfl rfl|(refine qG rfl ?_)|(refine qK (h3) (by decide) ?_)|(refine qH rfl ?_)|(refine qI rfl ?_ ?_<;>intro hc<;>(try simp only [go_sem] at hc))|(refine qJ ?_ ?_<;>intro hc<;>(try simp only [hc])<;>(try simp only [go_sem] at hc)))
  ·rw [if_neg hc] at h3
   refine DCall.of Tryz.func9 sf9 hb9 (Nat.le_of_ble_eq_true rfl) (okRes_nil fun _ => rfl) ?_; simp only [s9,idxs,Nat.reduceAdd]
   repeat' (first|(with_reducible first|apply qA|apply qB|apply qC|apply qD|apply qE|apply qF)|(refine qL rfl (WF.of ?_) ?_; first|rfl|skip)|(simp (disch:=omega) only [go_sem,simprocAttr,qN,qO,qP,qQ,hd])|exact qM rfl rfl rfl|(refine qG rfl ?_)|(refine qK (h3) (by decide) ?_)|(refine qH rfl ?_)|(refine qI rfl ?_ ?_<;>intro hc<;>(try simp only [go_sem] at hc))|(refine qJ ?_ ?_<;>intro hc<;>(try simp only [hc])<;>(try simp only [go_sem] at hc)))
 obtain ⟨ho,hli⟩ := rgt_op hr
 obtain ⟨⟨hc,hy⟩,hp,hb⟩ := op_ok ho
 have k1 := ly_ok hy l (by simp)
 rw [hr,if_pos hc] at h3
 rw [hr]
 by_cases hn : l = []
 ·rw [if_neg (fun h => h.2 hn),if_neg (by simp),if_pos hn]
  have hd : ((l.length : Int) == 0) = true := by rw [hn]; rfl
  refine DCall.of Tryz.func9 sf9 hb9 (Nat.le_of_ble_eq_true rfl) (okRes_nil fun _ => rfl) ?_; simp only [s9,idxs,Nat.reduceAdd]
  repeat' (first|(with_reducible first|apply qA|apply qB|apply qC|apply qD|apply qE|apply qF)|(refine qL rfl (WF.of ?_) ?_; first|rfl|skip)|(simp (disch:=omega) only [go_sem,simprocAttr,qN,qO,qP,qQ,hd])|exact qM rfl rfl rfl|(refine qG rfl ?_)|(refine qK (h3) (by decide) ?_)|(refine qH rfl ?_)|(refine qI rfl ?_ ?_<;>intro hc<;>(try simp only [go_sem] at hc))|(refine qJ ?_ ?_<;>intro hc<;>(try simp only [hc])<;>(try simp only [go_sem] at hc)))
 have hnl : 0 < l.length := List.length_pos_iff.2 hn
 rw [if_pos ⟨rfl,hn⟩,if_neg (by simp),if_neg hn]
 have hd : ((l.length : Int) == 0) = false := by rw [beq_eq_false_iff_ne]; omega
 have hw := hb.w
 have hhi := hb.hi
 have hph := hp.hi
 have hpt := hp.top
 have hpl := hp.load
 have n1 := plNewton b.wl (by omega)
 have n2 := plNewton b.wh (by omega)
 have hH := crHigh (lodF b) (lodF_ok hb) keep days ht
 simp only [lodF,eLd,List.map_cons,List.map_nil] at hH
 generalize hhg : highI (lodF b) keep days = hg
 rw [show highI ⟨b.sl,b.sh,newt b.wl,newt b.wh⟩ keep days = hg from hhg] at hH
 have hz : (b.hi = 0) = False := eq_false (by omega)
 have hm0 : 0 ≤ (l.length : Int) * b.wh := Int.mul_nonneg (by omega) (by omega)
 have hm1 : (l.length : Int) * b.wh ≤ 200 * 5000000 := Int.mul_le_mul (by omega) (by omega) (by omega) (by omega)
 have w1 : IntKind.i64.wrap ((l.length : Int) * b.wh) = (l.length : Int) * b.wh := IntWalk.i64_in _ (by omega)
 have t1 : Int.tdiv (max 0 (p.top - p.hi)) b.hi = max 0 (p.top - p.hi) / b.hi := Int.tdiv_eq_ediv_of_nonneg (by omega)
 have q1 : 0 ≤ max 0 (p.top - p.hi) / b.hi := Int.ediv_nonneg (by omega) (by omega)
 have q2 : max 0 (p.top - p.hi) / b.hi ≤ max 0 (p.top - p.hi) := Int.ediv_le_self _ (by omega)
 have w2 : IntKind.i64.wrap (max 0 (p.top - p.hi) / b.hi) = max 0 (p.top - p.hi) / b.hi := IntWalk.i64_in _ (by omega)
 unfold layI
 by_cases h0 : 0 < (l.length : Int) * b.wh
 ·have d0 : decide (0 < (l.length : Int) * b.wh) = true := decide_eq_true h0
  have hz2 : ((l.length : Int) * b.wh = 0) = False := eq_false (by omega)
  have t2 : Int.tdiv p.load ((l.length : Int) * b.wh) = p.load / ((l.length : Int) * b.wh) := Int.tdiv_eq_ediv_of_nonneg (by omega)
  have q3 : 0 ≤ p.load / ((l.length : Int) * b.wh) := Int.ediv_nonneg (by omega) (by omega)
  have q4 : p.load / ((l.length : Int) * b.wh) ≤ p.load := Int.ediv_le_self _ (by omega)
  have w3 : IntKind.i64.wrap (p.load / ((l.length : Int) * b.wh)) = p.load / ((l.length : Int) * b.wh) := IntWalk.i64_in _ (by omega)
  rw [if_pos h0]
  refine DCall.of Tryz.func9 sf9 hb9 (Nat.le_of_ble_eq_true rfl) (okRes_nil fun _ => rfl) ?_; simp only [s9,idxs,Nat.reduceAdd]
  repeat' (first|(with_reducible first|apply qA|apply qB|apply qC|apply qD|apply qE|apply qF)|(refine qL rfl (WF.of ?_) ?_; first|rfl|skip)|(simp (disch:=omega) only [go_sem,simprocAttr,qN,qO,qP,qQ,hd,d0,hz,hz2,w1,w2,w3,t1,t2,min_if,max_if,rF,rG])|exact qM rfl rfl rfl|(refine qG rfl ?_)|(refine qK (h3) (by decide) ?_)|(refine qK (n1) (by decide) ?_)|(refine qK (n2) (by decide) ?_)|(refine qK (hH) (by decide) ?_)|(refine qH rfl ?_)|(refine qI rfl ?_ ?_<;>intro hc<;>(try simp only [go_sem] at hc))|(refine qJ ?_ ?_<;>intro hc<;>(try simp only [hc])<;>(try simp only [go_sem] at hc)))
  skip
 ·have d0 : decide (0 < (l.length : Int) * b.wh) = false := decide_eq_false h0
  rw [if_neg h0]
  refine DCall.of Tryz.func9 sf9 hb9 (Nat.le_of_ble_eq_true rfl) (okRes_nil fun _ => rfl) ?_; simp only [s9,idxs,Nat.reduceAdd]
  repeat' (first|(with_reducible first|apply qA|apply qB|apply qC|apply qD|apply qE|apply qF)|(refine qL rfl (WF.of ?_) ?_; first|rfl|skip)|(simp (disch:=omega) only [go_sem,simprocAttr,qN,qO,qP,qQ,hd,d0,hz,w1,w2,t1,min_if,max_if,rF,rG])|exact qM rfl rfl rfl|(refine qG rfl ?_)|(refine qK (h3) (by decide) ?_)|(refine qK (n1) (by decide) ?_)|(refine qK (n2) (by decide) ?_)|(refine qK (hH) (by decide) ?_)|(refine qH rfl ?_)|(refine qI rfl ?_ ?_<;>intro hc<;>(try simp only [go_sem] at hc))|(refine qJ ?_ ?_<;>intro hc<;>(try simp only [hc])<;>(try simp only [go_sem] at hc)))
  skip
end Go.Dw.Seat
end
section
set_option linter.unusedSimpArgs false
set_option maxRecDepth 100000
namespace Go.Dw.Seat
open Go Go.Dw Go.Proofs Go.IntWalk
theorem le_div_iff {k a c : Int} (hc : 0 < c) : k ≤ a / c ↔ k * c ≤ a := Int.le_ediv_iff_mul_le hc
theorem high_b (b : Lod) (hb : b.ok) (l : List (Int × Int)) (hl : ∀ s ∈ l,0 ≤ s.2 ∧ s.2 ≤ 1000) (days : Int) : 1 ≤ highI b l days ∧ highI b l days ≤ 50 := by
 unfold highI
 split
 ·omega
 ·have h1 := lastI_b days l 0 hl (by decide)
  have h2 := bears_b hb h1
  have hw : 0 ≤ b.wh := by have := hb.2; omega
  have h3 : 0 ≤ Int.tdiv (bearsI b (lastI days l 0)) b.wh := by
   rw [Int.tdiv_eq_ediv_of_nonneg h2.1]
   exact Int.ediv_nonneg h2.1 hw
  split <;> omega
theorem lay_iff {p : PBs} {b : PBx} (hp : p.ok) (hb : b.ok) {n hg : Int} (hn : 1 ≤ n) {k : Int} (hk : 1 ≤ k) : k ≤ layI p b n hg ↔ (k ≤ 30 ∧ k ≤ hg) ∧ p.hi + k * b.hi ≤ p.top ∧ k * n * b.wh ≤ p.load := by
 have hh := hb.hi
 have hw := hb.w
 have hl := hp.load
 have h0 := hp.hi
 have h1 := hp.top
 have e1 : k ≤ max 0 (p.top - p.hi) / b.hi ↔ p.hi + k * b.hi ≤ p.top := by
  rw [le_div_iff (by omega)]
  have : 1 * b.hi ≤ k * b.hi := Int.mul_le_mul_of_nonneg_right hk (by omega)
  omega
 unfold layI
 have hm : 0 ≤ n * b.wh := Int.mul_nonneg (by omega) (by omega)
 by_cases hw0 : 0 < n * b.wh
 ·rw [if_pos hw0]
  have e2 : k ≤ p.load / (n * b.wh) ↔ k * n * b.wh ≤ p.load := by rw [le_div_iff hw0,Int.mul_assoc]
  rw [← e1,← e2]
  omega
 ·rw [if_neg hw0]
  have e3 : k * n * b.wh = 0 := by rw [Int.mul_assoc,show n * b.wh = 0 by omega,Int.mul_zero]
  rw [e3,← e1]
  omega
theorem lay_b {p : PBs} {b : PBx} (hp : p.ok) (hb : b.ok) {n hg : Int} (hn : 1 ≤ n) (hg0 : 0 ≤ hg) : 0 ≤ layI p b n hg ∧ layI p b n hg ≤ 30 := by
 have hh := hb.hi
 have hl := hp.load
 have h1 : 0 ≤ max 0 (p.top - p.hi) / b.hi := Int.ediv_nonneg (by omega) (by omega)
 unfold layI
 split
 ·rename_i h
  have h2 : 0 ≤ p.load / (n * b.wh) := Int.ediv_nonneg (by omega) (by omega)
  omega
 ·omega
end Go.Dw.Seat
end
section
set_option linter.unusedSimpArgs false
set_option maxRecDepth 100000
namespace Go.Dw.Seat
open Go Go.Dw Go.Proofs Go.IntWalk
def bindR (p : PBs) (b : PBx) (l : List PPl) : Nat → Int × Int
 | 0 => (0,-1)
 | k + 1 => if (bindR p b l k).2 < bndT p b l k then ((k : Int),bndT p b l k) else bindR p b l k
theorem bind_same (p : PBs) (b : PBx) (l : List PPl) : ∀ k,bindR p b l (k + 1) = bindS p b l (k + 1)
 | 0 => by
  have h := twoN_b ((l.map (trnP p b 0)).map (rsF b l))
  change 0 ≤ bndT p b l 0 ∧ _ at h
  have e1 : bindR p b l 1 = if (-1 : Int) < bndT p b l 0 then (((0 : Nat) : Int),bndT p b l 0) else (0,-1) := rfl
  have e2 : bindS p b l 1 = if (0 : Int) < bndT p b l 0 then (((0 : Nat) : Int),bndT p b l 0) else (0,0) := rfl
  rw [e1,e2,if_pos (by omega)]
  split
  ·rfl
  ·rw [show bndT p b l 0 = 0 by omega]; rfl
 | k + 1 => by
  rw [bindR,bindS,bind_same p b l k]
def lyrR (p : PBs) (b : PBx) (n hg : Int) : Nat → Int
 | 0 => 0
 | k + 1 => if (p.hi + ((k : Int) + 1) * b.hi ≤ p.top ∧ ((k : Int) + 1) * n * b.wh ≤ p.load) ∧ (k : Int) + 1 ≤ hg then (k : Int) + 1 else lyrR p b n hg k
theorem lyrR_eq {p : PBs} {b : PBx} (hp : p.ok) (hb : b.ok) {n hg : Int} (hn : 1 ≤ n) (hg0 : 0 ≤ hg) : ∀ k : Nat,k ≤ 30 → lyrR p b n hg k = min (k : Int) (layI p b n hg)
 | 0,_ => by
  have := lay_b hp hb hn hg0
  rw [lyrR]; omega
 | k + 1,h => by
  have h1 := lay_iff hp hb hn (hg := hg) (k := (k : Int) + 1) (by omega)
  have ih := lyrR_eq hp hb hn hg0 k (by omega)
  have h2 : ((p.hi + ((k : Int) + 1) * b.hi ≤ p.top ∧ ((k : Int) + 1) * n * b.wh ≤ p.load) ∧ (k : Int) + 1 ≤ hg) ↔ (k : Int) + 1 ≤ layI p b n hg := by
   rw [h1]
   constructor
   ·rintro ⟨⟨a,c⟩,d⟩
    exact ⟨⟨by omega,d⟩,a,c⟩
   ·rintro ⟨⟨_,d⟩,a,c⟩
    exact ⟨⟨a,c⟩,d⟩
  rw [lyrR,ih]
  by_cases hc : (k : Int) + 1 ≤ layI p b n hg
  ·rw [if_pos (h2.2 hc)]
   push_cast
   omega
  ·rw [if_neg (fun hh => hc (h2.1 hh))]
   push_cast
   omega
theorem lyrR_full {p : PBs} {b : PBx} (hp : p.ok) (hb : b.ok) {n hg : Int} (hn : 1 ≤ n) (hg0 : 0 ≤ hg) : lyrR p b n hg 30 = layI p b n hg := by
 have := lay_b hp hb hn hg0
 rw [lyrR_eq hp hb hn hg0 30 (by decide)]
 omega
end Go.Dw.Seat
end
section
set_option linter.unusedSimpArgs false
set_option maxRecDepth 100000
namespace Go.Dw.Seat
open Go Go.Dw Go.Proofs Go.IntWalk
theorem twoN_snoc (l : List PRs) (r : PRs) : twoN (l ++ [r]) = twoN l + if 2 ≤ r.on.length then 1 else 0 := by
 induction l with
 | nil => simp [twoN]
 | cons a l ih => rw [List.cons_append,twoN,ih,twoN]; omega
set_option maxHeartbeats 2000000 in
theorem reTwo (p : PBs) (b : PBx) (hp : p.ok) (hb : b.ok) (lab : Bool) (l : List PPl) (hl : l.length ≤ 200) (hf : ∀ q ∈ l,(0 ≤ q.x ∧ q.x ≤ 140) ∧ 0 ≤ q.y ∧ q.y ≤ 140) (k : Nat) (hk : k < 4) : DCall Tryz.prog 41 [bsD p,bxD b,lyD lab l,dI k] [] (dI (bndT p b l k)) [] := by
 have h1 := reTurn p b hp hb lab l (by omega) (fun q hq => fine_of (hf q hq)) k hk
 have h2 := reRests b hb lab false l (l.map (trnP p b k)) (by omega) (by rw [List.length_map]; omega) (fun q hq => fine_of (hf q hq)) (fun q hq => by
  obtain ⟨u,hu,rfl⟩ := List.mem_map.1 hq
  exact trn_fine hp hb k (hf u hu))
 have hl2 : ((l.map (trnP p b k)).map (rsF b l)).length ≤ 200 := by rw [List.length_map,List.length_map]; exact hl
 unfold bndT
 generalize l.map (trnP p b k) = M at *
 generalize M.map (rsF b l) = L at *
 refine DCall.of Tryz.func41 sf41 hb41 (Nat.le_of_ble_eq_true rfl) (okRes_nil fun _ => rfl) ?_; simp only [s41,idxs,Nat.reduceAdd]
 repeat' (first|(with_reducible first|apply qA|apply qB|apply qC|apply qD|apply qE|apply qF)|(refine qL rfl (WF.of ?_) ?_; first|rfl|skip)|(simp (disch:=omega) only [go_sem,simprocAttr,qN,qO,qP,qQ])|exact qM rfl rfl rfl|(refine qG rfl ?_)|(refine qK (h1) (by decide) ?_)|(refine qK (h2) (by decide) ?_)|(refine qH rfl ?_)|(refine qI rfl ?_ ?_<;>intro hc<;>(try simp only [go_sem] at hc))|(refine qJ ?_ ?_<;>intro hc<;>(try simp only [hc])<;>(try simp only [go_sem] at hc)))
 refine DW.loop (ι := { i : Nat // i ≤ L.length }) (fun i => ⟨36,[(11,dI i.1),(10,dI (twoN (L.take i.1))),(9,rsL false L)],[]⟩) (fun i => L.length - i.1) ⟨0,Nat.zero_le _⟩ ?_ ?_
 ·refine Ent.to ?_ ?_ <;> simp (disch:=omega) only [qR,qS,qT,qU,get,Nat.reduceEqDiff,↓reduceIte,qV,qW,qX,qY,qZ,and_self,dI,i64_in,and_true,true_and,rA,rB,rC,rD,List.take_zero,twoN]
 rintro ⟨i,hi⟩
 dsimp only
 rcases at_or L i hi with ⟨r,hr,hlt,hd⟩ | ⟨he,hd⟩
 ·have htk : L.take (i + 1) = L.take i ++ [r] := by rw [List.take_add_one,hr]; rfl
  have hsn := twoN_snoc (L.take i) r
  rw [← htk] at hsn
  have hb2 := twoN_b (L.take i)
  have hlen : (L.take i).length ≤ 200 := by rw [List.length_take]; omega
  generalize twoN (L.take i) = S at *
  by_cases h3 : 2 ≤ r.on.length
  ·have d2 : decide ((1 : Int) < (r.on.length : Int)) = true := decide_eq_true (by omega)
   rw [if_pos h3] at hsn
   repeat' (first|(with_reducible first|apply qA|apply qB|apply qC|apply qD|apply qE|apply qF)|(refine qL rfl (WF.of ?_) ?_; first|rfl|skip)|(simp (disch:=omega) only [go_sem,simprocAttr,qN,qO,qP,qQ,hd,hr,d2,rF,rG])|exact qM rfl rfl rfl|(refine qG rfl ?_)|(refine qH rfl ?_)|(refine qI rfl ?_ ?_<;>intro hc<;>(try simp only [go_sem] at hc))|(refine qJ ?_ ?_<;>intro hc<;>(try simp only [hc])<;>(try simp only [go_sem] at hc)))
   refine ⟨⟨i + 1,hlt⟩,?_,Ent.to ?_ ?_⟩ <;> first | (show _ < _; (try simp only); omega) | (simp (disch:=omega) only [qR,qS,qT,qU,get,Nat.reduceEqDiff,↓reduceIte,qV,qW,qX,qY,qZ,and_self,dI,i64_in,and_true,true_and,rA,rB,rC,rD,hsn])
  ·have d2 : decide ((1 : Int) < (r.on.length : Int)) = false := decide_eq_false (by omega)
   rw [if_neg h3,Int.add_zero] at hsn
   repeat' (first|(with_reducible first|apply qA|apply qB|apply qC|apply qD|apply qE|apply qF)|(refine qL rfl (WF.of ?_) ?_; first|rfl|skip)|(simp (disch:=omega) only [go_sem,simprocAttr,qN,qO,qP,qQ,hd,hr,d2,rF,rG])|exact qM rfl rfl rfl|(refine qG rfl ?_)|(refine qH rfl ?_)|(refine qI rfl ?_ ?_<;>intro hc<;>(try simp only [go_sem] at hc))|(refine qJ ?_ ?_<;>intro hc<;>(try simp only [hc])<;>(try simp only [go_sem] at hc)))
   refine ⟨⟨i + 1,hlt⟩,?_,Ent.to ?_ ?_⟩ <;> first | (show _ < _; (try simp only); omega) | (simp (disch:=omega) only [qR,qS,qT,qU,get,Nat.reduceEqDiff,↓reduceIte,qV,qW,qX,qY,qZ,and_self,dI,i64_in,and_true,true_and,rA,rB,rC,rD,hsn])
 ·have hti : L.take i = L := by rw [he,List.take_length]
  rw [hti]
  repeat' (first|(with_reducible first|apply qA|apply qB|apply qC|apply qD|apply qE|apply qF)|(refine qL rfl (WF.of ?_) ?_; first|rfl|skip)|(simp (disch:=omega) only [go_sem,simprocAttr,qN,qO,qP,qQ,hd])|exact qM rfl rfl rfl|(refine qG rfl ?_)|(refine qH rfl ?_)|(refine qI rfl ?_ ?_<;>intro hc<;>(try simp only [go_sem] at hc))|(refine qJ ?_ ?_<;>intro hc<;>(try simp only [hc])<;>(try simp only [go_sem] at hc)))
set_option maxHeartbeats 2000000 in
theorem reBind (p : PBs) (b : PBx) (hp : p.ok) (hb : b.ok) (lab : Bool) (l : List PPl) (hl : l.length ≤ 200) (hf : ∀ q ∈ l,(0 ≤ q.x ∧ q.x ≤ 140) ∧ 0 ≤ q.y ∧ q.y ≤ 140) : DCall Tryz.prog 13 [bsD p,bxD b,lyD lab l] [] (.tup [dI (bindS p b l 4).1,dI (bindS p b l 4).2]) [] := by
 have h1 := fun k hk => reTwo p b hp hb lab l hl hf k hk
 rw [← bind_same p b l 3]
 refine DCall.of Tryz.func13 sf13 hb13 (Nat.le_of_ble_eq_true rfl) (okRes_nil fun _ => rfl) ?_; simp only [s13,idxs,Nat.reduceAdd]
 repeat' (first|(with_reducible first|apply qA|apply qB|apply qC|apply qD|apply qE|apply qF)|(simp (disch:=omega) only [go_sem,simprocAttr,qN,qO,qP,qQ])|exact qM rfl rfl rfl|(refine qG rfl ?_)|(refine qH rfl ?_)|(refine qI rfl ?_ ?_<;>intro hc<;>(try simp only [go_sem] at hc))|(refine qJ ?_ ?_<;>intro hc<;>(try simp only [hc])<;>(try simp only [go_sem] at hc)))
 refine DW.loop (ι := { k : Nat // k ≤ 4 }) (fun k => ⟨28,[(10,dI k.1),(9,dI (bindR p b l k.1).2),(8,dI (bindR p b l k.1).1),(4,.box 4 0),(3,.box 3 0),(2,lyD lab l)],[(4,.box (bxL b)),(3,.box (bsL p))]⟩) (fun k => 4 - k.1) ⟨0,by decide⟩ ?_ ?_
 ·refine Ent.to ?_ ?_ <;> simp (disch:=omega) only [qR,qS,qT,qU,get,Nat.reduceEqDiff,↓reduceIte,qV,qW,qX,qY,qZ,and_self,dI,i64_in,and_true,true_and,rA,rB,rC,rD,bindR]
  all_goals first | exact ⟨.refl _,.refl _⟩ | exact .refl _
 rintro ⟨k,hk⟩
 dsimp only
 by_cases hlt : k < 4
 ·have hd : decide ((k : Int) ≤ 3) = true := decide_eq_true (by omega)
  have h2 := h1 k hlt
  have hs : bindR p b l (k + 1) = if (bindR p b l k).2 < bndT p b l k then ((k : Int),bndT p b l k) else bindR p b l k := rfl
  generalize bindR p b l k = B at *
  obtain ⟨B1,B2⟩ := B
  dsimp only at hs ⊢
  by_cases hc : B2 < bndT p b l k
  ·have d2 : decide (B2 < bndT p b l k) = true := decide_eq_true hc
   rw [if_pos hc] at hs
   generalize bndT p b l k = T at *
   repeat' (first|(with_reducible first|apply qA|apply qB|apply qC|apply qD|apply qE|apply qF)|(simp (disch:=omega) only [go_sem,simprocAttr,qN,qO,qP,qQ,hd,d2])|exact qM rfl rfl rfl|(refine qG rfl ?_)|(refine qK (h2) (by decide) ?_)|(refine qH rfl ?_)|(refine qI rfl ?_ ?_<;>intro hc<;>(try simp only [go_sem] at hc))|(refine qJ ?_ ?_<;>intro hc<;>(try simp only [hc])<;>(try simp only [go_sem] at hc)))
   refine ⟨⟨k + 1,hlt⟩,?_,Ent.to ?_ ?_⟩ <;> first | (show _ < _; (try simp only); omega) | (simp (disch:=omega) only [qR,qS,qT,qU,get,Nat.reduceEqDiff,↓reduceIte,qV,qW,qX,qY,qZ,and_self,dI,i64_in,and_true,true_and,rA,rB,rC,rD,hs])
   all_goals first | exact ⟨.refl _,.refl _⟩ | exact .refl _
  ·have d2 : decide (B2 < bndT p b l k) = false := decide_eq_false hc
   rw [if_neg hc] at hs
   generalize bndT p b l k = T at *
   repeat' (first|(with_reducible first|apply qA|apply qB|apply qC|apply qD|apply qE|apply qF)|(simp (disch:=omega) only [go_sem,simprocAttr,qN,qO,qP,qQ,hd,d2])|exact qM rfl rfl rfl|(refine qG rfl ?_)|(refine qK (h2) (by decide) ?_)|(refine qH rfl ?_)|(refine qI rfl ?_ ?_<;>intro hc<;>(try simp only [go_sem] at hc))|(refine qJ ?_ ?_<;>intro hc<;>(try simp only [hc])<;>(try simp only [go_sem] at hc)))
   refine ⟨⟨k + 1,hlt⟩,?_,Ent.to ?_ ?_⟩ <;> first | (show _ < _; (try simp only); omega) | (simp (disch:=omega) only [qR,qS,qT,qU,get,Nat.reduceEqDiff,↓reduceIte,qV,qW,qX,qY,qZ,and_self,dI,i64_in,and_true,true_and,rA,rB,rC,rD,hs])
   all_goals first | exact ⟨.refl _,.refl _⟩ | exact .refl _
 ·obtain rfl : k = 4 := by omega
  have hd : decide (((4 : Nat) : Int) ≤ 3) = false := by decide
  generalize bindR p b l 4 = B at *
  repeat' (first|(with_reducible first|apply qA|apply qB|apply qC|apply qD|apply qE|apply qF)|(simp (disch:=omega) only [go_sem,simprocAttr,qN,qO,qP,qQ,hd])|exact qM rfl rfl rfl|(refine qG rfl ?_)|(refine qH rfl ?_)|(refine qI rfl ?_ ?_<;>intro hc<;>(try simp only [go_sem] at hc))|(refine qJ ?_ ?_<;>intro hc<;>(try simp only [hc])<;>(try simp only [go_sem] at hc)))
theorem reLd9 (b : PBx) (hb : b.ok) : DCall Tryz.prog 45 [bxD b] [] (.agg ((eLd (lodF b)).map D.c)) [] := by
 have hw := hb.w
 have n1 : Int.tdiv (b.wl + 99) 100 = newt b.wl := by rw [Int.tdiv_eq_ediv_of_nonneg (by omega)]; rfl
 have n2 : Int.tdiv (b.wh + 99) 100 = newt b.wh := by rw [Int.tdiv_eq_ediv_of_nonneg (by omega)]; rfl
 have n3 : 0 ≤ newt b.wl ∧ newt b.wl ≤ 100000 := by unfold newt; omega
 have n4 : 0 ≤ newt b.wh ∧ newt b.wh ≤ 100000 := by unfold newt; omega
 unfold lodF
 refine DCall.of Tryz.func45 sf45 hb45 (Nat.le_of_ble_eq_true rfl) (okRes_nil fun _ => rfl) ?_; simp only [s45,idxs,Nat.reduceAdd]
 repeat' (first|(with_reducible first|apply qA|apply qB|apply qC|apply qD|apply qE|apply qF)|(simp (disch:=omega) only [go_sem,simprocAttr,qN,qO,qP,qQ,n1,n2,rF,rG])|exact qM rfl rfl rfl|(refine qG rfl ?_)|(refine qH rfl ?_)|(refine qI rfl ?_ ?_<;>intro hc<;>(try simp only [go_sem] at hc))|(refine qJ ?_ ?_<;>intro hc<;>(try simp only [hc])<;>(try simp only [go_sem] at hc)))
set_option maxHeartbeats 2000000 in
theorem reLayers (p : PBs) (b : PBx) (hp : p.ok) (hb : b.ok) (n : Nat) (hn : 1 ≤ n ∧ n ≤ 200) (lab : Bool) (t : List (Int × Int)) (days : Int) (ht : TabOk t days) : DCall Tryz.prog 15 [bsD p,bxD b,dI n,.c (.sl lab 2 (rows eK t)),dI days] [] (dI (layI p b n (highI (lodF b) t days))) [] := by
 have h1 := reLd9 b hb
 have h2 := reHigh lab (lodF b) (lodF_ok hb) t days ht
 have hgb := high_b (lodF b) (lodF_ok hb) t (fun s hs => (ht.mem s hs).2) days
 generalize highI (lodF b) t days = hg at *
 rw [← lyrR_full hp hb (n := (n : Int)) (by omega) (hg0 := by omega)]
 have hxw := hb.w
 have hxh := hb.hi
 have hph := hp.hi
 refine DCall.of Tryz.func15 sf15 hb15 (Nat.le_of_ble_eq_true rfl) (okRes_nil fun _ => rfl) ?_; simp only [s15,idxs,Nat.reduceAdd]
 repeat' (first|(with_reducible first|apply qA|apply qB|apply qC|apply qD|apply qE|apply qF)|(simp (disch:=omega) only [go_sem,simprocAttr,qN,qO,qP,qQ,rF,rG])|exact qM rfl rfl rfl|(refine qG rfl ?_)|(refine qK (h1) (by decide) ?_)|(refine qK (h2) (by decide) ?_)|(refine qH rfl ?_)|(refine qI rfl ?_ ?_<;>intro hc<;>(try simp only [go_sem] at hc))|(refine qJ ?_ ?_<;>intro hc<;>(try simp only [hc])<;>(try simp only [go_sem] at hc)))
 refine DW.loop (ι := { k : Nat // k ≤ 30 }) (fun k => ⟨52,[(13,dI ((k.1 : Int) + 1)),(12,dI hg),(11,dI (lyrR p b n hg k.1)),(6,.box 6 0),(5,.box 5 0),(2,dI n)],[(6,.box (bxL b)),(5,.box (bsL p))]⟩) (fun k => 30 - k.1) ⟨0,by decide⟩ ?_ ?_
 ·refine Ent.to ?_ ?_ <;> simp (disch:=omega) only [qR,qS,qT,qU,get,Nat.reduceEqDiff,↓reduceIte,qV,qW,qX,qY,qZ,and_self,dI,i64_in,and_true,true_and,rA,rB,rC,rD,lyrR]
  all_goals first | exact ⟨.refl _,.refl _⟩ | exact .refl _
 rintro ⟨k,hk⟩
 dsimp only
 by_cases hlt : k < 30
 ·have hd : decide ((k : Int) + 1 ≤ 30) = true := decide_eq_true (by omega)
  have hs : lyrR p b n hg (k + 1) = if (p.hi + ((k : Int) + 1) * b.hi ≤ p.top ∧ ((k : Int) + 1) * n * b.wh ≤ p.load) ∧ (k : Int) + 1 ≤ hg then (k : Int) + 1 else lyrR p b n hg k := rfl
  have hcast : (((k + 1 : Nat) : Int)) = (k : Int) + 1 := by omega
  generalize lyrR p b n hg k = R at *
  obtain ⟨P1,hP1⟩ : ∃ P1,((k : Int) + 1) * b.hi = P1 := ⟨_,rfl⟩
  obtain ⟨P2,hP2⟩ : ∃ P2,((k : Int) + 1) * (n : Int) = P2 := ⟨_,rfl⟩
  obtain ⟨P3,hP3⟩ : ∃ P3,P2 * b.wh = P3 := ⟨_,rfl⟩
  have b1 : 0 ≤ P1 ∧ P1 ≤ 30 * 100 := by
   rw [← hP1]
   exact ⟨Int.mul_nonneg (by omega) (by omega),Int.mul_le_mul (by omega) hxh.2 (by omega) (by omega)⟩
  have b2 : 0 ≤ P2 ∧ P2 ≤ 30 * 200 := by
   rw [← hP2]
   exact ⟨Int.mul_nonneg (by omega) (by omega),Int.mul_le_mul (by omega) (by omega) (by omega) (by omega)⟩
  have b3 : 0 ≤ P3 ∧ P3 ≤ 30 * 200 * 5000000 := by
   rw [← hP3]
   exact ⟨Int.mul_nonneg b2.1 (by omega),Int.mul_le_mul b2.2 hxw.2.2 (by omega) (by omega)⟩
  rw [hP1,hP2,hP3] at hs
  by_cases c1 : p.hi + P1 ≤ p.top
  ·have e1 := decide_eq_true c1
   by_cases c2 : P3 ≤ p.load
   ·have e2 := decide_eq_true c2
    by_cases c3 : (k : Int) + 1 ≤ hg
    ·have e3 := decide_eq_true c3
     rw [if_pos ⟨⟨c1,c2⟩,c3⟩] at hs
     repeat' (first|(with_reducible first|apply qA|apply qB|apply qC|apply qD|apply qE|apply qF)|(simp (disch:=omega) only [go_sem,simprocAttr,qN,qO,qP,qQ,hd,hP1,hP2,hP3,e1,e2,e3])|exact qM rfl rfl rfl|(refine qG rfl ?_)|(refine qH rfl ?_)|(refine qI rfl ?_ ?_<;>intro hc<;>(try simp only [go_sem] at hc))|(refine qJ ?_ ?_<;>intro hc<;>(try simp only [hc])<;>(try simp only [go_sem] at hc)))
     refine ⟨⟨k + 1,hlt⟩,?_,Ent.to ?_ ?_⟩ <;> first | (show _ < _; (try simp only); omega) | (simp (disch:=omega) only [qR,qS,qT,qU,get,Nat.reduceEqDiff,↓reduceIte,qV,qW,qX,qY,qZ,and_self,dI,i64_in,and_true,true_and,rA,rB,rC,rD,hs])
     all_goals first | exact ⟨.refl _,.refl _⟩ | exact .refl _
    ·have e3 := decide_eq_false c3
     rw [if_neg (fun h => c3 h.2)] at hs
     repeat' (first|(with_reducible first|apply qA|apply qB|apply qC|apply qD|apply qE|apply qF)|(simp (disch:=omega) only [go_sem,simprocAttr,qN,qO,qP,qQ,hd,hP1,hP2,hP3,e1,e2,e3])|exact qM rfl rfl rfl|(refine qG rfl ?_)|(refine qH rfl ?_)|(refine qI rfl ?_ ?_<;>intro hc<;>(try simp only [go_sem] at hc))|(refine qJ ?_ ?_<;>intro hc<;>(try simp only [hc])<;>(try simp only [go_sem] at hc)))
     refine ⟨⟨k + 1,hlt⟩,?_,Ent.to ?_ ?_⟩ <;> first | (show _ < _; (try simp only); omega) | (simp (disch:=omega) only [qR,qS,qT,qU,get,Nat.reduceEqDiff,↓reduceIte,qV,qW,qX,qY,qZ,and_self,dI,i64_in,and_true,true_and,rA,rB,rC,rD,hs])
     all_goals first | exact ⟨.refl _,.refl _⟩ | exact .refl _
   ·have e2 := decide_eq_false c2
    rw [if_neg (fun h => c2 h.1.2)] at hs
    repeat' (first|(with_reducible first|apply qA|apply qB|apply qC|apply qD|apply qE|apply qF)|(simp (disch:=omega) only [go_sem,simprocAttr,qN,qO,qP,qQ,hd,hP1,hP2,hP3,e1,e2])|exact qM rfl rfl rfl|(refine qG rfl ?_)|(refine qH rfl ?_)|(refine qI rfl ?_ ?_<;>intro hc<;>(try simp only [go_sem] at hc))|(refine qJ ?_ ?_<;>intro hc<;>(try simp only [hc])<;>(try simp only [go_sem] at hc)))
    refine ⟨⟨k + 1,hlt⟩,?_,Ent.to ?_ ?_⟩ <;> first | (show _ < _; (try simp only); omega) | (simp (disch:=omega) only [qR,qS,qT,qU,get,Nat.reduceEqDiff,↓reduceIte,qV,qW,qX,qY,qZ,and_self,dI,i64_in,and_true,true_and,rA,rB,rC,rD,hs])
    all_goals first | exact ⟨.refl _,.refl _⟩ | exact .refl _
  ·have e1 := decide_eq_false c1
   rw [if_neg (fun h => c1 h.1.1)] at hs
   repeat' (first|(with_reducible first|apply qA|apply qB|apply qC|apply qD|apply qE|apply qF)|(simp (disch:=omega) only [go_sem,simprocAttr,qN,qO,qP,qQ,hd,hP1,e1])|exact qM rfl rfl rfl|(refine qG rfl ?_)|(refine qH rfl ?_)|(refine qI rfl ?_ ?_<;>intro hc<;>(try simp only [go_sem] at hc))|(refine qJ ?_ ?_<;>intro hc<;>(try simp only [hc])<;>(try simp only [go_sem] at hc)))
   refine ⟨⟨k + 1,hlt⟩,?_,Ent.to ?_ ?_⟩ <;> first | (show _ < _; (try simp only); omega) | (simp (disch:=omega) only [qR,qS,qT,qU,get,Nat.reduceEqDiff,↓reduceIte,qV,qW,qX,qY,qZ,and_self,dI,i64_in,and_true,true_and,rA,rB,rC,rD,hs])
   all_goals first | exact ⟨.refl _,.refl _⟩ | exact .refl _
 ·obtain rfl : k = 30 := by omega
  have hd : decide (((30 : Nat) : Int) + 1 ≤ 30) = false := by decide
  repeat' (first|(with_reducible first|apply qA|apply qB|apply qC|apply qD|apply qE|apply qF)|(simp (disch:=omega) only [go_sem,simprocAttr,qN,qO,qP,qQ,hd])|exact qM rfl rfl rfl|(refine qG rfl ?_)|(refine qH rfl ?_)|(refine qI rfl ?_ ?_<;>intro hc<;>(try simp only [go_sem] at hc))|(refine qJ ?_ ?_<;>intro hc<;>(try simp only [hc])<;>(try simp only [go_sem] at hc)))
end Go.Dw.Seat
end
section
set_option linter.unusedSimpArgs false
set_option maxRecDepth 100000
namespace Go.Dw.Seat
open Go Go.Dw Go.Proofs Go.IntWalk
theorem plLayersN (p : PBs) (b : PBx) (l : List PPl) (hl : l.length ≤ 2 ^ 36) (keep : List (Int × Int)) (days : Int) (h : rgtE p b [l] ≠ 0 ∨ l = []) : DCall Tryz.prog 9 [bsD p,bxD b,lyD false l,.c (.sl false 2 (rows eK keep)),dI days] [] (.tup [dI 0,dI (if rgtE p b [l] ≠ 0 then rgtE p b [l] else 7)]) [] := by
 have h3 := plRight true p b [l] (by simp) (by simpa using hl)
 rw [one_ls] at h3
 by_cases hr : rgtE p b [l] = 0
 case neg =>
  rw [if_pos hr]
  generalize rgtE p b [l] = e at *
  have hd : (e != 0) = true := by simpa using hr
  by_cases hc : chkE p b = 0
  ·rw [if_pos hc] at h3
   refine DCall.of Tryz.func9 sf9 hb9 (Nat.le_of_ble_eq_true rfl) (okRes_nil fun _ => rfl) ?_; simp only [s9,idxs,Nat.reduceAdd]
   repeat' (first|(with_reducible first|apply qA|apply qB|apply qC|apply qD|apply qE|apply qF)|(refine qL rfl (WF.of ?_) ?_; first|rfl|skip)|(simp (disch:=omega) only [go_sem,simprocAttr,qN,qO,qP,qQ,hd])|exact qM rfl rfl rfl|(refine qG rfl ?_)|(refine qK (h3) (by decide) ?_)|(refine qH rfl ?_)|(refine qI rfl ?_ ?_<;>intro hc<;>(try simp only [go_sem] at hc))|(refine qJ ?_ ?_<;>intro hc<;>(try simp only [hc])<;>(try simp only [go_sem] at hc)))
  ·rw [if_neg hc] at h3
   refine DCall.of Tryz.func9 sf9 hb9 (Nat.le_of_ble_eq_true rfl) (okRes_nil fun _ => rfl) ?_; simp only [s9,idxs,Nat.reduceAdd]
   repeat' (first|(with_reducible first|apply qA|apply qB|apply qC|apply qD|apply qE|apply qF)|(refine qL rfl (WF.of ?_) ?_; first|rfl|skip)|(simp (disch:=omega) only [go_sem,simprocAttr,qN,qO,qP,qQ,hd])|exact qM rfl rfl rfl|(refine qG rfl ?_)|(refine qK (h3) (by decide) ?_)|(refine qH rfl ?_)|(refine qI rfl ?_ ?_<;>intro hc<;>(try simp only [go_sem] at hc))|(refine qJ ?_ ?_<;>intro hc<;>(try simp only [hc])<;>(try simp only [go_sem] at hc)))
 have hn : l = [] := h.resolve_left (fun hh => hh hr)
 obtain ⟨ho,hli⟩ := rgt_op hr
 obtain ⟨⟨hc,hy⟩,hp,hb⟩ := op_ok ho
 rw [hr,if_pos hc] at h3
 rw [hr,if_neg (by simp)]
 have hd : ((l.length : Int) == 0) = true := by rw [hn]; rfl
 refine DCall.of Tryz.func9 sf9 hb9 (Nat.le_of_ble_eq_true rfl) (okRes_nil fun _ => rfl) ?_; simp only [s9,idxs,Nat.reduceAdd]
 repeat' (first|(with_reducible first|apply qA|apply qB|apply qC|apply qD|apply qE|apply qF)|(refine qL rfl (WF.of ?_) ?_; first|rfl|skip)|(simp (disch:=omega) only [go_sem,simprocAttr,qN,qO,qP,qQ,hd])|exact qM rfl rfl rfl|(refine qG rfl ?_)|(refine qK (h3) (by decide) ?_)|(refine qH rfl ?_)|(refine qI rfl ?_ ?_<;>intro hc<;>(try simp only [go_sem] at hc))|(refine qJ ?_ ?_<;>intro hc<;>(try simp only [hc])<;>(try simp only [go_sem] at hc)))
theorem plLayersT (p : PBs) (b : PBx) (l : List PPl) (hl : l.length ≤ 2 ^ 36) (keep : List (Int × Int)) (hkl : keep.length ≤ 2 ^ 36) (days : Int) (hr : rgtE p b [l] = 0) (hn : l ≠ []) (he : thrE keep days ≠ 0) : DCall Tryz.prog 9 [bsD p,bxD b,lyD false l,.c (.sl false 2 (rows eK keep)),dI days] [] (.tup [dI 0,dI (thrE keep days)]) [] := by
 have h3 := plRight true p b [l] (by simp) (by simpa using hl)
 rw [one_ls] at h3
 obtain ⟨ho,hli⟩ := rgt_op hr
 obtain ⟨⟨hc,hy⟩,hp,hb⟩ := op_ok ho
 rw [hr,if_pos hc] at h3
 have hnl : 0 < l.length := List.length_pos_iff.2 hn
 have hd : ((l.length : Int) == 0) = false := by rw [beq_eq_false_iff_ne]; omega
 have hw := hb.w
 have n1 := plNewton b.wl (by omega)
 have n2 := plNewton b.wh (by omega)
 have hH := crHighE2 false (lodF b) keep days (lodF_ok hb) (thrE keep days) he (crTableE false keep days hkl he)
 simp only [lodF,eLd,List.map_cons,List.map_nil] at hH
 generalize thrE keep days = e at *
 have hd2 : (e != 0) = true := by simpa using he
 refine DCall.of Tryz.func9 sf9 hb9 (Nat.le_of_ble_eq_true rfl) (okRes_nil fun _ => rfl) ?_; simp only [s9,idxs,Nat.reduceAdd]
 repeat' (first|(with_reducible first|apply qA|apply qB|apply qC|apply qD|apply qE|apply qF)|(refine qL rfl (WF.of ?_) ?_; first|rfl|skip)|(simp (disch:=omega) only [go_sem,simprocAttr,qN,qO,qP,qQ,hd,hd2,rF,rG])|exact qM rfl rfl rfl|(refine qG rfl ?_)|(refine qK (h3) (by decide) ?_)|(refine qK (n1) (by decide) ?_)|(refine qK (n2) (by decide) ?_)|(refine qK (hH) (by decide) ?_)|(refine qH rfl ?_)|(refine qI rfl ?_ ?_<;>intro hc<;>(try simp only [go_sem] at hc))|(refine qJ ?_ ?_<;>intro hc<;>(try simp only [hc])<;>(try simp only [go_sem] at hc)))
theorem laSteps (b : Bool) (l : List (Int × Int)) (hl : l.length ≤ 2 ^ 36) : DCall Tryz.prog 7 [.c (.sl b 2 (rows eK l))] [] (.c (.sl false 2 (rows eK l))) [] := by
 refine DCall.of Tryz.func7 sf7 hb7 (Nat.le_of_ble_eq_true rfl) (okRes_nil fun _ => rfl) ?_; simp only [s7,idxs,Nat.reduceAdd]
 repeat' (first|(with_reducible first|apply qA|apply qB|apply qC|apply qD|apply qE|apply qF)|(simp (disch:=omega) only [go_sem,simprocAttr,qN,qO,qP,qQ])|exact qM rfl rfl rfl|(refine qG rfl ?_)|(refine qH rfl ?_)|(refine qI rfl ?_ ?_<;>intro hc<;>(try simp only [go_sem] at hc))|(refine qJ ?_ ?_<;>intro hc<;>(try simp only [hc])<;>(try simp only [go_sem] at hc)))
 (refine retS_ent (Ent.rel 3 rfl) ?_; simp (disch:=omega) only [go_sem,simprocAttr,qN,qO,qP,qQ])
 refine retS_wk rfl ?_ (by simp only [Blk.nb,rowC_nb,D.nb,D.nbs,C.nb,C.nbs,C.nbss,rows_nb eI_nb,Bool.and_true,Bool.not_false,Bool.and_self,bD,dI,iD,rows_nb eP_nb,rows_nb eLs_nb,rows_nb eR_nb,rows_nb eK_nb,rows_nb eLd_nb]); exact .refl _
end Go.Dw.Seat
end
section
set_option linter.unusedSimpArgs false
set_option maxRecDepth 100000
namespace Go.Dw.Seat
open Go Go.Dw Go.Proofs Go.IntWalk
abbrev sawC (p : PBs) (b : PBx) (RX RY : List Int) (lm : Nat) : C := .ro false [.v (.int .i64 p.lg),.v (.int .i64 p.wd),.v (.int .i64 p.hi),.v (.int .i64 p.ov),.v (.int .i64 p.top),.v (.int .i64 p.load),.v (.int .i64 b.lg),.v (.int .i64 b.wd),.v (.int .i64 b.hi),.v (.int .i64 b.wl),.v (.int .i64 b.wh),.v (.int .i64 b.sl),.v (.int .i64 b.sh),.sl false 1 (rows eI RX),.sl false 1 (rows eI RY),.v (.map (some lm))] 0
abbrev sawD (p : PBs) (b : PBx) (RX RY : List Int) (lm : Nat) : D := .c (sawC p b RX RY lm)
abbrev rctD (X Y : Nat) : D := .agg [dI X,dI Y]
def fitT (a c X Y : Nat) : Bool × Bool := if a ≤ X ∧ c ≤ Y then (false,true) else if c ≤ X ∧ a ≤ Y then (true,true) else (false,false)
theorem fitT_snd (a c X Y : Nat) : (fitT a c X Y).2 = fitB a c X Y := by
 unfold fitT fitB
 by_cases h1 : a ≤ X ∧ c ≤ Y
 ·rw [if_pos h1,decide_eq_true h1.1,decide_eq_true h1.2]; rfl
 ·rw [if_neg h1]
  by_cases h2 : c ≤ X ∧ a ≤ Y
  ·rw [if_pos h2,decide_eq_true h2.1,decide_eq_true h2.2]; simp
  ·rw [if_neg h2]
   symm
   rw [Bool.or_eq_false_iff,Bool.and_eq_false_iff,Bool.and_eq_false_iff,decide_eq_false_iff_not,decide_eq_false_iff_not,decide_eq_false_iff_not,decide_eq_false_iff_not]
   omega
set_option maxHeartbeats 4000000 in
theorem plFits (p : PBs) (b : PBx) (hb : b.ok) (RX RY : List Int) (lm X Y : Nat) : DCall Tryz.prog 77 [sawD p b RX RY lm,rctD X Y] [] (.tup [bD (fitT (bLg b) (bWd b) X Y).1,bD (fitT (bLg b) (bWd b) X Y).2]) [] := by
 have hbl := hb.lg
 have hbw := hb.wd
 have ea : b.lg = ((bLg b : Nat) : Int) := (Int.toNat_of_nonneg (by omega)).symm
 have ec : b.wd = ((bWd b : Nat) : Int) := (Int.toNat_of_nonneg (by omega)).symm
 have hs := plSizes b 18
 have hf : fitT (bLg b) (bWd b) X Y = if (decide (b.lg ≤ (X : Int)) && decide (b.wd ≤ (Y : Int))) then (false,true) else if (decide (b.wd ≤ (X : Int)) && decide (b.lg ≤ (Y : Int))) then (true,true) else (false,false) := by
  rw [ea,ec]
  unfold fitT
  simp only [Bool.and_eq_true,decide_eq_true_eq,Int.ofNat_le]
 rw [hf]
 obtain ⟨u1,e1⟩ : ∃ u,decide (b.lg ≤ (X : Int)) = u := ⟨_,rfl⟩
 obtain ⟨u2,e2⟩ : ∃ u,decide (b.wd ≤ (Y : Int)) = u := ⟨_,rfl⟩
 obtain ⟨u3,e3⟩ : ∃ u,decide (b.wd ≤ (X : Int)) = u := ⟨_,rfl⟩
 obtain ⟨u4,e4⟩ : ∃ u,decide (b.lg ≤ (Y : Int)) = u := ⟨_,rfl⟩
 rw [e1,e2,e3,e4]
 refine DCall.of Tryz.func77 sf77 hb77 (Nat.le_of_ble_eq_true rfl) (okRes_nil fun _ => rfl) ?_; simp only [s77,idxs,Nat.reduceAdd]
 repeat' (first|(with_reducible first|apply qA|apply qB|apply qC|apply qD|apply qE|apply qF)|(simp (disch:=omega) only [go_sem,simprocAttr,qN,qO,qP,qQ,rF,rG])|exact qM rfl rfl rfl|(refine qG rfl ?_)|(refine qH rfl ?_)|(refine qI rfl ?_ ?_<;>intro hc<;>(try simp only [go_sem] at hc))|(refine qJ ?_ ?_<;>intro hc<;>(try simp only [hc])<;>(try simp only [go_sem] at hc)))
 refine DW.loop (ι := { k : Nat // k ≤ 2 ∧ (1 ≤ k → (u1 && u2) = false) ∧ (2 ≤ k → (u3 && u4) = false) }) (fun k => ⟨35,[(10,dI k.1),(9,.agg [bD false,bD true]),(5,bD false),(4,bD false),(3,.box 3 0),(0,sawD p b RX RY lm)],[(3,.box [dI X,dI Y])]⟩) (fun k => 2 - k.1) ⟨0,by decide,by omega,by omega⟩ ?_ ?_
 ·refine Ent.to ?_ ?_ <;> simp (disch:=omega) only [qR,qS,qT,qU,get,Nat.reduceEqDiff,↓reduceIte,qV,qW,qX,qY,qZ,and_self,dI,i64_in,and_true,true_and,rA,rB,rC,rD]
  all_goals first | exact ⟨.refl _,.refl _⟩ | exact .refl _
 rintro ⟨k,hk,h1,h2⟩
 dsimp only
 match k,hk,h1,h2 with
 | 0,_,_,_ =>
  repeat' (first|(with_reducible first|apply qA|apply qB|apply qC|apply qD|apply qE|apply qF)|(simp (disch:=omega) only [go_sem,simprocAttr,qN,qO,qP,qQ,rF,rG])|exact qM rfl rfl rfl|(refine qG rfl ?_)|(refine qH rfl ?_)|(refine qI rfl ?_ ?_<;>intro hc<;>(try simp only [go_sem] at hc))|(refine qJ ?_ ?_<;>intro hc<;>(try simp only [hc])<;>(try simp only [go_sem] at hc)))
  (refine call_r (hs) (by decide) (by first | rfl | simp (disch:=omega) only [go_sem,simprocAttr,qN,qO,qP,qQ]) (by first | rfl | simp (disch:=omega) only [go_sem,simprocAttr,qN,qO,qP,qQ]) ?_; simp (disch:=omega) only [go_sem,simprocAttr,qN,qO,qP,qQ])
  cases u1
  ·repeat' (first|(with_reducible first|apply qA|apply qB|apply qC|apply qD|apply qE|apply qF)|(simp (disch:=omega) only [go_sem,simprocAttr,qN,qO,qP,qQ,findL,keyEq,keysOK,KK.is,List.all_nil,List.all_cons,lookIn,commaD,rF,rG,e1])|exact qM rfl rfl rfl|(refine qG rfl ?_)|(refine qH rfl ?_)|(refine qI rfl ?_ ?_<;>intro hc<;>(try simp only [go_sem] at hc))|(refine qJ ?_ ?_<;>intro hc<;>(try simp only [hc])<;>(try simp only [go_sem] at hc)))
   refine ⟨⟨1,by decide,fun _ => rfl,by omega⟩,?_,Ent.to ?_ ?_⟩ <;> first | (show _ < _; (try simp only); omega) | (simp (disch:=omega) only [qR,qS,qT,qU,get,Nat.reduceEqDiff,↓reduceIte,qV,qW,qX,qY,qZ,and_self,dI,i64_in,and_true,true_and,rA,rB,rC,rD])
   all_goals first | exact ⟨.refl _,.refl _⟩ | exact .refl _
  cases u2
  ·repeat' (first|(with_reducible first|apply qA|apply qB|apply qC|apply qD|apply qE|apply qF)|(simp (disch:=omega) only [go_sem,simprocAttr,qN,qO,qP,qQ,findL,keyEq,keysOK,KK.is,List.all_nil,List.all_cons,lookIn,commaD,rF,rG,e1,e2])|exact qM rfl rfl rfl|(refine qG rfl ?_)|(refine qH rfl ?_)|(refine qI rfl ?_ ?_<;>intro hc<;>(try simp only [go_sem] at hc))|(refine qJ ?_ ?_<;>intro hc<;>(try simp only [hc])<;>(try simp only [go_sem] at hc)))
   refine ⟨⟨1,by decide,fun _ => rfl,by omega⟩,?_,Ent.to ?_ ?_⟩ <;> first | (show _ < _; (try simp only); omega) | (simp (disch:=omega) only [qR,qS,qT,qU,get,Nat.reduceEqDiff,↓reduceIte,qV,qW,qX,qY,qZ,and_self,dI,i64_in,and_true,true_and,rA,rB,rC,rD])
   all_goals first | exact ⟨.refl _,.refl _⟩ | exact .refl _
  ·repeat' (first|(with_reducible first|apply qA|apply qB|apply qC|apply qD|apply qE|apply qF)|(simp (disch:=omega) only [go_sem,simprocAttr,qN,qO,qP,qQ,findL,keyEq,keysOK,KK.is,List.all_nil,List.all_cons,lookIn,commaD,rF,rG,e1,e2])|exact qM rfl rfl rfl|(refine qG rfl ?_)|(refine qH rfl ?_)|(refine qI rfl ?_ ?_<;>intro hc<;>(try simp only [go_sem] at hc))|(refine qJ ?_ ?_<;>intro hc<;>(try simp only [hc])<;>(try simp only [go_sem] at hc)))
   skip
 | 1,_,h1,_ =>
  have h1 := h1 (Nat.le_refl _)
  rw [if_neg (by rw [h1]; exact Bool.false_ne_true)]
  repeat' (first|(with_reducible first|apply qA|apply qB|apply qC|apply qD|apply qE|apply qF)|(simp (disch:=omega) only [go_sem,simprocAttr,qN,qO,qP,qQ,rF,rG])|exact qM rfl rfl rfl|(refine qG rfl ?_)|(refine qH rfl ?_)|(refine qI rfl ?_ ?_<;>intro hc<;>(try simp only [go_sem] at hc))|(refine qJ ?_ ?_<;>intro hc<;>(try simp only [hc])<;>(try simp only [go_sem] at hc)))
  (refine call_r (hs) (by decide) (by first | rfl | simp (disch:=omega) only [go_sem,simprocAttr,qN,qO,qP,qQ]) (by first | rfl | simp (disch:=omega) only [go_sem,simprocAttr,qN,qO,qP,qQ]) ?_; simp (disch:=omega) only [go_sem,simprocAttr,qN,qO,qP,qQ])
  cases u3
  ·repeat' (first|(with_reducible first|apply qA|apply qB|apply qC|apply qD|apply qE|apply qF)|(simp (disch:=omega) only [go_sem,simprocAttr,qN,qO,qP,qQ,findL,keyEq,keysOK,KK.is,List.all_nil,List.all_cons,lookIn,commaD,rF,rG,e3])|exact qM rfl rfl rfl|(refine qG rfl ?_)|(refine qH rfl ?_)|(refine qI rfl ?_ ?_<;>intro hc<;>(try simp only [go_sem] at hc))|(refine qJ ?_ ?_<;>intro hc<;>(try simp only [hc])<;>(try simp only [go_sem] at hc)))
   refine ⟨⟨2,by decide,fun _ => h1,fun _ => rfl⟩,?_,Ent.to ?_ ?_⟩ <;> first | (show _ < _; (try simp only); omega) | (simp (disch:=omega) only [qR,qS,qT,qU,get,Nat.reduceEqDiff,↓reduceIte,qV,qW,qX,qY,qZ,and_self,dI,i64_in,and_true,true_and,rA,rB,rC,rD])
   all_goals first | exact ⟨.refl _,.refl _⟩ | exact .refl _
  cases u4
  ·repeat' (first|(with_reducible first|apply qA|apply qB|apply qC|apply qD|apply qE|apply qF)|(simp (disch:=omega) only [go_sem,simprocAttr,qN,qO,qP,qQ,findL,keyEq,keysOK,KK.is,List.all_nil,List.all_cons,lookIn,commaD,rF,rG,e3,e4])|exact qM rfl rfl rfl|(refine qG rfl ?_)|(refine qH rfl ?_)|(refine qI rfl ?_ ?_<;>intro hc<;>(try simp only [go_sem] at hc))|(refine qJ ?_ ?_<;>intro hc<;>(try simp only [hc])<;>(try simp only [go_sem] at hc)))
   refine ⟨⟨2,by decide,fun _ => h1,fun _ => rfl⟩,?_,Ent.to ?_ ?_⟩ <;> first | (show _ < _; (try simp only); omega) | (simp (disch:=omega) only [qR,qS,qT,qU,get,Nat.reduceEqDiff,↓reduceIte,qV,qW,qX,qY,qZ,and_self,dI,i64_in,and_true,true_and,rA,rB,rC,rD])
   all_goals first | exact ⟨.refl _,.refl _⟩ | exact .refl _
  ·repeat' (first|(with_reducible first|apply qA|apply qB|apply qC|apply qD|apply qE|apply qF)|(simp (disch:=omega) only [go_sem,simprocAttr,qN,qO,qP,qQ,findL,keyEq,keysOK,KK.is,List.all_nil,List.all_cons,lookIn,commaD,rF,rG,e3,e4])|exact qM rfl rfl rfl|(refine qG rfl ?_)|(refine qH rfl ?_)|(refine qI rfl ?_ ?_<;>intro hc<;>(try simp only [go_sem] at hc))|(refine qJ ?_ ?_<;>intro hc<;>(try simp only [hc])<;>(try simp only [go_sem] at hc)))
   skip
 | 2,_,h1,h2 =>
  have h1 := h1 (by omega)
  have h2 := h2 (by omega)
  rw [if_neg (by rw [h1]; exact Bool.false_ne_true),if_neg (by rw [h2]; exact Bool.false_ne_true)]
  repeat' (first|(with_reducible first|apply qA|apply qB|apply qC|apply qD|apply qE|apply qF)|(simp (disch:=omega) only [go_sem,simprocAttr,qN,qO,qP,qQ])|exact qM rfl rfl rfl|(refine qG rfl ?_)|(refine qH rfl ?_)|(refine qI rfl ?_ ?_<;>intro hc<;>(try simp only [go_sem] at hc))|(refine qJ ?_ ?_<;>intro hc<;>(try simp only [hc])<;>(try simp only [go_sem] at hc)))
  skip
abbrev sdI (s : Bool) : Int := if s then 1 else 0
abbrev lnD (l : Ln) : D := .agg [dI (sdI l.1),dI l.2]
theorem plLnParts (X Y : Nat) (l : Ln) (hX : X ≤ 1000) (hY : Y ≤ 1000) (h1 : l.2 ≤ if l.1 then Y else X) : DCall Tryz.prog 79 [lnD l,rctD X Y] [] (.tup [rctD (oneF X Y l).1 (oneF X Y l).2,rctD (twoF X Y l).1 (twoF X Y l).2]) [] := by
 obtain ⟨s,t⟩ := l
 cases s
 ·have h1 : t ≤ X := h1
  have hw : IntKind.i64.wrap ((X : Int) - (t : Int)) = ((X - t : Nat) : Int) := by rw [IntWalk.i64_in _ (by omega)]; omega
  show DCall Tryz.prog 79 [.agg [dI 0,dI t],.agg [dI X,dI Y]] [] (.tup [.agg [dI t,dI Y],.agg [dI (X - t : Nat),dI Y]]) []
  refine DCall.of Tryz.func79 sf79 hb79 (Nat.le_of_ble_eq_true rfl) (okRes_nil fun _ => rfl) ?_; simp only [s79,o79_0,o79_1,o79_2,o79_3,o79_4,o79_5,o79_6,o79_7,o79_8,o79_9,o79_10,o79_11,o79_12,o79_13,o79_14,o79_15,o79_16,o79_17,o79_18,o79_19,o79_20,o79_21,o79_22,o79_23,o79_24,idxs,Nat.reduceAdd]
  repeat' (first|(with_reducible first|apply qA|apply qB|apply qC|apply qD|apply qE|apply qF)|(refine DW.ord rfl (WF.of (by first|rfl|simp (disch:=omega) only [go_sem,simprocAttr,qN,qO,qP,qQ,hw])) ?_ ?_ ?_; rotate_left)|rfl|(with_reducible refine And.intro ?_ ?_)|(simp (disch:=omega) only [go_sem,simprocAttr,qN,qO,qP,qQ,hw])|exact qM rfl rfl rfl|(refine qG rfl ?_)|(refine qH rfl ?_)|(refine qI rfl ?_ ?_<;>intro hc<;>(try simp only [go_sem] at hc))|(refine qJ ?_ ?_<;>intro hc<;>(try simp only [hc])<;>(try simp only [go_sem] at hc)))
  skip
 ·have h1 : t ≤ Y := h1
  have hw : IntKind.i64.wrap ((Y : Int) - (t : Int)) = ((Y - t : Nat) : Int) := by rw [IntWalk.i64_in _ (by omega)]; omega
  show DCall Tryz.prog 79 [.agg [dI 1,dI t],.agg [dI X,dI Y]] [] (.tup [.agg [dI X,dI t],.agg [dI X,dI (Y - t : Nat)]]) []
  refine DCall.of Tryz.func79 sf79 hb79 (Nat.le_of_ble_eq_true rfl) (okRes_nil fun _ => rfl) ?_; simp only [s79,o79_0,o79_1,o79_2,o79_3,o79_4,o79_5,o79_6,o79_7,o79_8,o79_9,o79_10,o79_11,o79_12,o79_13,o79_14,o79_15,o79_16,o79_17,o79_18,o79_19,o79_20,o79_21,o79_22,o79_23,o79_24,idxs,Nat.reduceAdd]
  repeat' (first|(with_reducible first|apply qA|apply qB|apply qC|apply qD|apply qE|apply qF)|(refine DW.ord rfl (WF.of (by first|rfl|simp (disch:=omega) only [go_sem,simprocAttr,qN,qO,qP,qQ,hw])) ?_ ?_ ?_; rotate_left)|rfl|(with_reducible refine And.intro ?_ ?_)|(simp (disch:=omega) only [go_sem,simprocAttr,qN,qO,qP,qQ,hw])|exact qM rfl rfl rfl|(refine qG rfl ?_)|(refine qH rfl ?_)|(refine qI rfl ?_ ?_<;>intro hc<;>(try simp only [go_sem] at hc))|(refine qJ ?_ ?_<;>intro hc<;>(try simp only [hc])<;>(try simp only [go_sem] at hc)))
  skip
theorem plLines (p : PBs) (b : PBx) (RX RY : List Int) (lm X Y : Nat) : DCall Tryz.prog 78 [sawD p b RX RY lm,rctD X Y] [] (.fn (.func 99) [] [.c (.ro false [.v (.int .i64 X),.v (.int .i64 Y)] 0),.c (.ro false [sawC p b RX RY lm] 0)]) [] := by
 refine DCall.of Tryz.func78 sf78 hb78 (Nat.le_of_ble_eq_true rfl) (okRes_nil fun _ => rfl) ?_; simp only [s78,idxs,Nat.reduceAdd]
 repeat' (first|(with_reducible first|apply qA|apply qB|apply qC|apply qD|apply qE|apply qF)|(simp (disch:=omega) only [go_sem,simprocAttr,qN,qO,qP,qQ])|exact qM rfl rfl rfl|(refine qG rfl ?_)|(refine qH rfl ?_)|(refine qI rfl ?_ ?_<;>intro hc<;>(try simp only [go_sem] at hc))|(refine qJ ?_ ?_<;>intro hc<;>(try simp only [hc])<;>(try simp only [go_sem] at hc)))
 (refine retS_ent (Ent.rel 2 rfl) ?_; simp (disch:=omega) only [go_sem,simprocAttr,qN,qO,qP,qQ])
 (refine retS_ent (Ent.rel 3 rfl) ?_; simp (disch:=omega) only [go_sem,simprocAttr,qN,qO,qP,qQ])
 refine retS_wk rfl ?_ (by simp only [Blk.nb,rowC_nb,D.nb,D.nbs,C.nb,C.nbs,C.nbss,rows_nb eI_nb,Bool.and_true,Bool.not_false,Bool.and_self,bD,dI,iD]); exact .refl _
end Go.Dw.Seat
end
section
set_option linter.unusedSimpArgs false
set_option maxRecDepth 100000
namespace Go.Dw.Seat
open Go Go.Dw Go.Proofs Go.IntWalk
def enL (l : Ln) : List D := [lnD l]
structure Rch (a c : Nat) (R : List Int) (n : Nat) : Prop where
 len : R.length = n + 1
 get : ∀ j,j ≤ n → R[j]? = some ((rchF a c j : Nat) : Int)
theorem rcL_ok (a c n : Nat) : Rch a c (rcL a c n) n := ⟨rcL_len a c n,fun _ h => rcL_get h⟩
def lnsR (a c x t : Nat) : List Nat := (List.range' t (x / 2 - t)).filterMap fun t => if sumB a c (t + 1) then some (t + 1) else none
theorem lnsR_0 (a c x : Nat) : lnsR a c x 0 = lnX a c x := by rw [lnsR,lnX,Nat.sub_zero,List.range_eq_range']
theorem lnsR_end {a c x t : Nat} (h : x < 2 * (t + 1)) : lnsR a c x t = [] := by
 rw [lnsR,show x / 2 - t = 0 by omega]; rfl
theorem lnsR_step {a c x t : Nat} (h : 2 * (t + 1) ≤ x) : lnsR a c x t = if sumB a c (t + 1) then (t + 1) :: lnsR a c x (t + 1) else lnsR a c x (t + 1) := by
 obtain ⟨m,hm⟩ : ∃ m,x / 2 - t = m + 1 := ⟨x / 2 - t - 1,by omega⟩
 rw [lnsR,lnsR,hm,show x / 2 - (t + 1) = m by omega,List.range'_succ,List.filterMap_cons]
 by_cases h1 : sumB a c (t + 1) = true
 ·rw [if_pos h1,if_pos h1]
 ·rw [if_neg h1,if_neg h1]
def lnsT (a c X Y k t : Nat) : List Ln := match k with
 | 0 => (lnsR a c X t).map (fun t => (false,t)) ++ (lnX a c Y).map (fun t => (true,t))
 | 1 => (lnsR a c Y t).map fun t => (true,t)
 | _ => []
theorem rch_sumB {a c t : Nat} : sumB a c (t + 1) = decide (t + 1 = rchF a c (t + 1)) := by
 cases h : sumB a c (t + 1) with
 | true => rw [rch_eq h]; simp
 | false =>
  symm
  rw [decide_eq_false_iff_not]
  intro e
  have := rch_sum a c (t + 1)
  rw [← e,h] at this; cases this
theorem rch_sumJ {a c j : Nat} (h : 1 ≤ j) : sumB a c j = decide (j = rchF a c j) := by
 obtain ⟨t,rfl⟩ : ∃ t,j = t + 1 := ⟨j - 1,by omega⟩
 exact rch_sumB
theorem lnsT0_step {a c X Y j : Nat} (h : 1 ≤ j) (hX : 2 * j ≤ X) : lnsT a c X Y 0 (j - 1) = if sumB a c j then (false,j) :: lnsT a c X Y 0 (j + 1 - 1) else lnsT a c X Y 0 (j + 1 - 1) := by
 obtain ⟨t,rfl⟩ : ∃ t,j = t + 1 := ⟨j - 1,by omega⟩
 rw [lnsT,lnsT,Nat.add_sub_cancel,Nat.add_sub_cancel,lnsR_step hX]
 split <;> rfl
theorem lnsT1_step {a c X Y j : Nat} (h : 1 ≤ j) (hX : 2 * j ≤ Y) : lnsT a c X Y 1 (j - 1) = if sumB a c j then (true,j) :: lnsT a c X Y 1 (j + 1 - 1) else lnsT a c X Y 1 (j + 1 - 1) := by
 obtain ⟨t,rfl⟩ : ∃ t,j = t + 1 := ⟨j - 1,by omega⟩
 rw [lnsT,lnsT,Nat.add_sub_cancel,Nat.add_sub_cancel,lnsR_step hX]
 split <;> rfl
theorem lnsT0_end {a c X Y j : Nat} (h : 1 ≤ j) (hX : X < 2 * j) : lnsT a c X Y 0 (j - 1) = lnsT a c X Y 1 0 := by
 rw [lnsT,lnsT,lnsR_end (by omega),lnsR_0]; rfl
theorem lnsT1_end {a c X Y j : Nat} (h : 1 ≤ j) (hX : Y < 2 * j) : lnsT a c X Y 1 (j - 1) = lnsT a c X Y 2 0 := by
 rw [lnsT,lnsR_end (by omega)]; rfl
set_option maxHeartbeats 4000000 in
theorem plLines1 (p : PBs) (b : PBx) (RX RY : List Int) (nx ny : Nat) (hrx : Rch (bLg b) (bWd b) RX nx) (hry : Rch (bLg b) (bWd b) RY ny) (hnx : nx ≤ 1000) (hny : ny ≤ 1000) (lm X Y : Nat) (hX : X ≤ nx) (hY : Y ≤ ny) :
  ItB true Tryz.prog 99 [] [.c (.ro false [.v (.int .i64 X),.v (.int .i64 Y)] 0),.c (.ro false [sawC p b RX RY lm] 0)] enL (fun l => l ∈ lnsF (bLg b) (bWd b) X Y) (lnsF (bLg b) (bWd b) X Y) := by
 generalize bLg b = a at *
 generalize bWd b = c at *
 intro ly β H stp live _ hW hY' b0 hl0
 have hH : ∀ b,HidOk (H b) := fun b => (hW b).toHidOk
 have hYC : ∀ (b1 : β) (s : Bool) (t : Nat) (tl : List Ln),(s,t) ∈ lnsF a c X Y → live ((s,t) :: tl) b1 → YCall Tryz.prog ly [.agg [dI (sdI s),dI t]] (H b1) (bD (stp b1 (s,t)).1) (H (stp b1 (s,t)).2) ∧ ((stp b1 (s,t)).1 = true → live tl (stp b1 (s,t)).2) := fun b1 s t tl hm hl => hY' b1 (s,t) tl hl hm
 refine DCall.of Tryz.func99 sf99 hb99 (Nat.le_of_ble_eq_true rfl) (hH _).res ?_
 simp only [s99,idxs,Nat.reduceAdd,List.map_nil,List.map_cons,List.nil_append,List.cons_append]
 have f1 := hid_get (hH b0)
 have f2 := hid_ins (hH b0)
 have f3 := (hH b0).men
 have f4 := (hH b0).lo
 repeat' (first|(with_reducible first|apply qA|apply qB|apply qC|apply qD|apply qE|apply qF)|(simp (disch:=omega) only [go_sem,simprocAttr,qN,qO,qP,qQ,f1,f2,f3,f4,ins,rF,rG])|exact qM rfl rfl rfl|(refine qG rfl ?_)|(refine qH rfl ?_)|(refine qI rfl ?_ ?_<;>intro hc<;>(try simp only [go_sem] at hc))|(refine qJ ?_ ?_<;>intro hc<;>(try simp only [hc])<;>(try simp only [go_sem] at hc)))
 have hl00 : live (lnsT a c X Y 0 0) b0 := by rw [lnsT,lnsR_0]; exact hl0
 have hr00 : runB stp b0 (lnsF a c X Y) = runB stp b0 (lnsT a c X Y 0 0) := by rw [lnsT,lnsR_0]; rfl
 refine DW.loop (ι := { y : Nat × β // y.1 ≤ 2 ∧ live (lnsT a c X Y y.1 0) y.2 ∧ runB stp b0 (lnsF a c X Y) = runB stp y.2 (lnsT a c X Y y.1 0) })
  (fun y => ⟨37,[(6,dI y.1.1),(0,.c (.fn (.yield ly) [] [])),(1,.c (.ro false [.v (.int .i64 X),.v (.int .i64 Y)] 0)),(2,.c (.ro false [sawC p b RX RY lm] 0))],H y.1.2⟩) (fun y => 2 - y.1.1) ⟨(0,b0),Nat.zero_le _,hl00,hr00⟩ ?_ ?_
 ·refine Ent.toH (o := []) (o' := []) (hH b0) rfl ?_ ?_ <;> simp (disch:=omega) only [qR,qS,qT,qU,get,Nat.reduceEqDiff,↓reduceIte,qV,qW,qX,qY,qZ,and_self,dI,i64_in,and_true,true_and,rA,rB,rC,rD]
 rintro ⟨⟨k,b1⟩,hk,hlv,hrun⟩
 dsimp only at hk hlv hrun ⊢
 have g1 := hid_get (hH b1)
 have g2 := hid_ins (hH b1)
 have g3 := (hH b1).men
 have g4 := (hH b1).lo
 match k,hk with
 | 0,_ =>
  repeat' (first|(with_reducible first|apply qA|apply qB|apply qC|apply qD|apply qE|apply qF)|(simp (disch:=omega) only [go_sem,simprocAttr,qN,qO,qP,qQ,g1,g2,g3,g4,ins,rF,rG])|exact qM rfl rfl rfl|(refine qG rfl ?_)|(refine qH rfl ?_)|(refine qI rfl ?_ ?_<;>intro hc<;>(try simp only [go_sem] at hc))|(refine qJ ?_ ?_<;>intro hc<;>(try simp only [hc])<;>(try simp only [go_sem] at hc)))
  refine DW.loop (ι := { y : Nat × β // (1 ≤ y.1 ∧ 2 * y.1 ≤ X + 2) ∧ live (lnsT a c X Y 0 (y.1 - 1)) y.2 ∧ runB stp b0 (lnsF a c X Y) = runB stp y.2 (lnsT a c X Y 0 (y.1 - 1)) })
   (fun y => ⟨37,[(6,dI 0),(5,dI (y.1.1 : Nat)),(4,dI 0),(0,.c (.fn (.yield ly) [] [])),(1,.c (.ro false [.v (.int .i64 X),.v (.int .i64 Y)] 0)),(2,.c (.ro false [sawC p b RX RY lm] 0))],H y.1.2⟩) (fun y => X + 1 - y.1.1) ⟨(1,b1),by omega,hlv,hrun⟩ ?_ ?_
  ·refine Ent.toH (o := []) (o' := []) (hH b1) rfl ?_ ?_ <;> simp (disch:=omega) only [qR,qS,qT,qU,get,Nat.reduceEqDiff,↓reduceIte,qV,qW,qX,qY,qZ,and_self,dI,i64_in,and_true,true_and,rA,rB,rC,rD]
  clear g1 g2 g3 g4
  rintro ⟨⟨j,b1⟩,hj,hlv,hrun⟩
  dsimp only at hj hlv hrun ⊢
  have g1 := hid_get (hH b1)
  have g2 := hid_ins (hH b1)
  have g3 := (hH b1).men
  have g4 := (hH b1).lo
  by_cases hle : 2 * j ≤ X
  ·have hd : decide (2 * (j : Int) ≤ (X : Int)) = true := decide_eq_true (by omega)
   have hg := hrx.get j (by omega)
   have hl := hrx.len
   have hjn : (j < nx + 1) = True := eq_true (by omega)
   have hst := lnsT0_step (a := a) (c := c) (X := X) (Y := Y) hj.1 hle
   cases hs : sumB a c j with
   | false =>
    have he : (((rchF a c j : Nat) : Int) == (j : Int)) = false := by rw [beq_eq_false_iff_ne]; intro e; rw [rch_sumJ hj.1,decide_eq_false_iff_not] at hs; omega
    rw [hs,if_neg Bool.false_ne_true] at hst
    rw [hst] at hlv hrun
    repeat' (first|(with_reducible first|apply qA|apply qB|apply qC|apply qD|apply qE|apply qF)|(simp (disch:=omega) only [go_sem,simprocAttr,qN,qO,qP,qQ,g1,g2,g3,g4,ins,hd,hg,hl,hjn,he,rF,rG])|exact qM rfl rfl rfl|(refine qG rfl ?_)|(refine qH rfl ?_)|(refine qI rfl ?_ ?_<;>intro hc<;>(try simp only [go_sem] at hc))|(refine qJ ?_ ?_<;>intro hc<;>(try simp only [hc])<;>(try simp only [go_sem] at hc)))
    refine ⟨⟨(j + 1,b1),by dsimp only; omega,hlv,hrun⟩,(by show _ < _; (try simp only); omega),Ent.toH (o := []) (o' := []) (hH _) rfl ?_ ?_⟩ <;> simp (disch:=omega) only [qR,qS,qT,qU,get,Nat.reduceEqDiff,↓reduceIte,qV,qW,qX,qY,qZ,and_self,dI,i64_in,and_true,true_and,rA,rB,rC,rD]
   | true =>
    have he : (((rchF a c j : Nat) : Int) == (j : Int)) = true := by rw [rch_eq hs,beq_self_eq_true]
    have hmem : ((false,j) : Ln) ∈ lnsF a c X Y := lns_mem.2 ⟨hj.1,by simpa using hle,hs⟩
    rw [hs,if_pos rfl] at hst
    rw [hst] at hlv hrun
    obtain ⟨hyc,hlv2⟩ := hYC b1 false j _ hmem hlv
    rw [runB] at hrun
    have hyc : YCall Tryz.prog ly [.agg [dI 0,dI j]] (H b1) _ _ := hyc
    cases hc : (stp b1 (false,j)).1 with
    | true =>
     rw [hc] at hyc
     rw [hc,if_pos rfl] at hrun
     repeat' (first|(with_reducible first|apply qA|apply qB|apply qC|apply qD|apply qE|apply qF)|(simp (disch:=omega) only [go_sem,simprocAttr,qN,qO,qP,qQ,g1,g2,g3,g4,ins,hd,hg,hl,hjn,he,rF,rG])|exact qM rfl rfl rfl|(refine qG rfl ?_)|(refine qH rfl ?_)|(refine qI rfl ?_ ?_<;>intro hc<;>(try simp only [go_sem] at hc))|(refine qJ ?_ ?_<;>intro hc<;>(try simp only [hc])<;>(try simp only [go_sem] at hc)))
     refine call_y (own := []) hyc rfl rfl rfl (hH _) (hH _) (by decide) ?_
     simp (disch:=omega) only [go_sem,simprocAttr,qN,qO,qP,qQ]
     repeat' (first|(with_reducible first|apply qA|apply qB|apply qC|apply qD|apply qE|apply qF)|(simp (disch:=omega) only [go_sem,simprocAttr,qN,qO,qP,qQ])|exact qM rfl rfl rfl|(refine qG rfl ?_)|(refine qH rfl ?_)|(refine qI rfl ?_ ?_<;>intro hc<;>(try simp only [go_sem] at hc))|(refine qJ ?_ ?_<;>intro hc<;>(try simp only [hc])<;>(try simp only [go_sem] at hc)))
     refine ⟨⟨(j + 1,(stp b1 (false,j)).2),by dsimp only; omega,hlv2 hc,hrun⟩,(by show _ < _; (try simp only); omega),Ent.toH (o := []) (o' := []) (hH _) rfl ?_ ?_⟩ <;> simp (disch:=omega) only [qR,qS,qT,qU,get,Nat.reduceEqDiff,↓reduceIte,qV,qW,qX,qY,qZ,and_self,dI,i64_in,and_true,true_and,rA,rB,rC,rD]
    | false =>
     rw [hc] at hyc
     rw [hc,if_neg Bool.false_ne_true] at hrun
     repeat' (first|(with_reducible first|apply qA|apply qB|apply qC|apply qD|apply qE|apply qF)|(simp (disch:=omega) only [go_sem,simprocAttr,qN,qO,qP,qQ,g1,g2,g3,g4,ins,hd,hg,hl,hjn,he,rF,rG])|exact qM rfl rfl rfl|(refine qG rfl ?_)|(refine qH rfl ?_)|(refine qI rfl ?_ ?_<;>intro hc<;>(try simp only [go_sem] at hc))|(refine qJ ?_ ?_<;>intro hc<;>(try simp only [hc])<;>(try simp only [go_sem] at hc)))
     refine call_y (own := []) hyc rfl rfl rfl (hH _) (hH _) (by decide) ?_
     simp (disch:=omega) only [go_sem,simprocAttr,qN,qO,qP,qQ]
     repeat' (first|(with_reducible first|apply qA|apply qB|apply qC|apply qD|apply qE|apply qF)|(simp (disch:=omega) only [go_sem,simprocAttr,qN,qO,qP,qQ])|exact qM rfl rfl rfl|(refine qG rfl ?_)|(refine qH rfl ?_)|(refine qI rfl ?_ ?_<;>intro hc<;>(try simp only [go_sem] at hc))|(refine qJ ?_ ?_<;>intro hc<;>(try simp only [hc])<;>(try simp only [go_sem] at hc)))
     rw [hrun]
     exact retS_hid (own := []) (.inl rfl) (hH _) rfl
  ·have hd : decide (2 * (j : Int) ≤ (X : Int)) = false := decide_eq_false (by omega)
   rw [lnsT0_end (a := a) (c := c) (X := X) (Y := Y) hj.1 (by omega)] at hlv hrun
   repeat' (first|(with_reducible first|apply qA|apply qB|apply qC|apply qD|apply qE|apply qF)|(simp (disch:=omega) only [go_sem,simprocAttr,qN,qO,qP,qQ,g1,g2,g3,g4,ins,hd,rF,rG])|exact qM rfl rfl rfl|(refine qG rfl ?_)|(refine qH rfl ?_)|(refine qI rfl ?_ ?_<;>intro hc<;>(try simp only [go_sem] at hc))|(refine qJ ?_ ?_<;>intro hc<;>(try simp only [hc])<;>(try simp only [go_sem] at hc)))
   refine ⟨⟨(1,b1),by dsimp only; omega,hlv,hrun⟩,(by show _ < _; (try simp only); omega),Ent.toH (o := []) (o' := []) (hH _) rfl ?_ ?_⟩ <;> simp (disch:=omega) only [qR,qS,qT,qU,get,Nat.reduceEqDiff,↓reduceIte,qV,qW,qX,qY,qZ,and_self,dI,i64_in,and_true,true_and,rA,rB,rC,rD]
 | 1,_ =>
  repeat' (first|(with_reducible first|apply qA|apply qB|apply qC|apply qD|apply qE|apply qF)|(simp (disch:=omega) only [go_sem,simprocAttr,qN,qO,qP,qQ,g1,g2,g3,g4,ins,rF,rG])|exact qM rfl rfl rfl|(refine qG rfl ?_)|(refine qH rfl ?_)|(refine qI rfl ?_ ?_<;>intro hc<;>(try simp only [go_sem] at hc))|(refine qJ ?_ ?_<;>intro hc<;>(try simp only [hc])<;>(try simp only [go_sem] at hc)))
  refine DW.loop (ι := { y : Nat × β // (1 ≤ y.1 ∧ 2 * y.1 ≤ Y + 2) ∧ live (lnsT a c X Y 1 (y.1 - 1)) y.2 ∧ runB stp b0 (lnsF a c X Y) = runB stp y.2 (lnsT a c X Y 1 (y.1 - 1)) })
   (fun y => ⟨37,[(6,dI 1),(5,dI (y.1.1 : Nat)),(4,dI 1),(0,.c (.fn (.yield ly) [] [])),(1,.c (.ro false [.v (.int .i64 X),.v (.int .i64 Y)] 0)),(2,.c (.ro false [sawC p b RX RY lm] 0))],H y.1.2⟩) (fun y => Y + 1 - y.1.1) ⟨(1,b1),by omega,hlv,hrun⟩ ?_ ?_
  ·refine Ent.toH (o := []) (o' := []) (hH b1) rfl ?_ ?_ <;> simp (disch:=omega) only [qR,qS,qT,qU,get,Nat.reduceEqDiff,↓reduceIte,qV,qW,qX,qY,qZ,and_self,dI,i64_in,and_true,true_and,rA,rB,rC,rD]
  clear g1 g2 g3 g4
  rintro ⟨⟨j,b1⟩,hj,hlv,hrun⟩
  dsimp only at hj hlv hrun ⊢
  have g1 := hid_get (hH b1)
  have g2 := hid_ins (hH b1)
  have g3 := (hH b1).men
  have g4 := (hH b1).lo
  by_cases hle : 2 * j ≤ Y
  ·have hd : decide (2 * (j : Int) ≤ (Y : Int)) = true := decide_eq_true (by omega)
   have hg := hry.get j (by omega)
   have hl := hry.len
   have hjn : (j < ny + 1) = True := eq_true (by omega)
   have hst := lnsT1_step (a := a) (c := c) (X := X) (Y := Y) hj.1 hle
   cases hs : sumB a c j with
   | false =>
    have he : (((rchF a c j : Nat) : Int) == (j : Int)) = false := by rw [beq_eq_false_iff_ne]; intro e; rw [rch_sumJ hj.1,decide_eq_false_iff_not] at hs; omega
    rw [hs,if_neg Bool.false_ne_true] at hst
    rw [hst] at hlv hrun
    repeat' (first|(with_reducible first|apply qA|apply qB|apply qC|apply qD|apply qE|apply qF)|(simp (disch:=omega) only [go_sem,simprocAttr,qN,qO,qP,qQ,g1,g2,g3,g4,ins,hd,hg,hl,hjn,he,rF,rG])|exact qM rfl rfl rfl|(refine qG rfl ?_)|(refine qH rfl ?_)|(refine qI rfl ?_ ?_<;>intro hc<;>(try simp only [go_sem] at hc))|(refine qJ ?_ ?_<;>intro hc<;>(try simp only [hc])<;>(try simp only [go_sem] at hc)))
    refine ⟨⟨(j + 1,b1),by dsimp only; omega,hlv,hrun⟩,(by show _ < _; (try simp only); omega),Ent.toH (o := []) (o' := []) (hH _) rfl ?_ ?_⟩ <;> simp (disch:=omega) only [qR,qS,qT,qU,get,Nat.reduceEqDiff,↓reduceIte,qV,qW,qX,qY,qZ,and_self,dI,i64_in,and_true,true_and,rA,rB,rC,rD]
   | true =>
    have he : (((rchF a c j : Nat) : Int) == (j : Int)) = true := by rw [rch_eq hs,beq_self_eq_true]
    have hmem : ((true,j) : Ln) ∈ lnsF a c X Y := lns_mem.2 ⟨hj.1,by simpa using hle,hs⟩
    rw [hs,if_pos rfl] at hst
    rw [hst] at hlv hrun
    obtain ⟨hyc,hlv2⟩ := hYC b1 true j _ hmem hlv
    rw [runB] at hrun
    have hyc : YCall Tryz.prog ly [.agg [dI 1,dI j]] (H b1) _ _ := hyc
    cases hc : (stp b1 (true,j)).1 with
    | true =>
     rw [hc] at hyc
     rw [hc,if_pos rfl] at hrun
     repeat' (first|(with_reducible first|apply qA|apply qB|apply qC|apply qD|apply qE|apply qF)|(simp (disch:=omega) only [go_sem,simprocAttr,qN,qO,qP,qQ,g1,g2,g3,g4,ins,hd,hg,hl,hjn,he,rF,rG])|exact qM rfl rfl rfl|(refine qG rfl ?_)|(refine qH rfl ?_)|(refine qI rfl ?_ ?_<;>intro hc<;>(try simp only [go_sem] at hc))|(refine qJ ?_ ?_<;>intro hc<;>(try simp only [hc])<;>(try simp only [go_sem] at hc)))
     refine call_y (own := []) hyc rfl rfl rfl (hH _) (hH _) (by decide) ?_
     simp (disch:=omega) only [go_sem,simprocAttr,qN,qO,qP,qQ]
     repeat' (first|(with_reducible first|apply qA|apply qB|apply qC|apply qD|apply qE|apply qF)|(simp (disch:=omega) only [go_sem,simprocAttr,qN,qO,qP,qQ])|exact qM rfl rfl rfl|(refine qG rfl ?_)|(refine qH rfl ?_)|(refine qI rfl ?_ ?_<;>intro hc<;>(try simp only [go_sem] at hc))|(refine qJ ?_ ?_<;>intro hc<;>(try simp only [hc])<;>(try simp only [go_sem] at hc)))
     refine ⟨⟨(j + 1,(stp b1 (true,j)).2),by dsimp only; omega,hlv2 hc,hrun⟩,(by show _ < _; (try simp only); omega),Ent.toH (o := []) (o' := []) (hH _) rfl ?_ ?_⟩ <;> simp (disch:=omega) only [qR,qS,qT,qU,get,Nat.reduceEqDiff,↓reduceIte,qV,qW,qX,qY,qZ,and_self,dI,i64_in,and_true,true_and,rA,rB,rC,rD]
    | false =>
     rw [hc] at hyc
     rw [hc,if_neg Bool.false_ne_true] at hrun
     repeat' (first|(with_reducible first|apply qA|apply qB|apply qC|apply qD|apply qE|apply qF)|(simp (disch:=omega) only [go_sem,simprocAttr,qN,qO,qP,qQ,g1,g2,g3,g4,ins,hd,hg,hl,hjn,he,rF,rG])|exact qM rfl rfl rfl|(refine qG rfl ?_)|(refine qH rfl ?_)|(refine qI rfl ?_ ?_<;>intro hc<;>(try simp only [go_sem] at hc))|(refine qJ ?_ ?_<;>intro hc<;>(try simp only [hc])<;>(try simp only [go_sem] at hc)))
     refine call_y (own := []) hyc rfl rfl rfl (hH _) (hH _) (by decide) ?_
     simp (disch:=omega) only [go_sem,simprocAttr,qN,qO,qP,qQ]
     repeat' (first|(with_reducible first|apply qA|apply qB|apply qC|apply qD|apply qE|apply qF)|(simp (disch:=omega) only [go_sem,simprocAttr,qN,qO,qP,qQ])|exact qM rfl rfl rfl|(refine qG rfl ?_)|(refine qH rfl ?_)|(refine qI rfl ?_ ?_<;>intro hc<;>(try simp only [go_sem] at hc))|(refine qJ ?_ ?_<;>intro hc<;>(try simp only [hc])<;>(try simp only [go_sem] at hc)))
     rw [hrun]
     exact retS_hid (own := []) (.inl rfl) (hH _) rfl
  ·have hd : decide (2 * (j : Int) ≤ (Y : Int)) = false := decide_eq_false (by omega)
   rw [lnsT1_end (a := a) (c := c) (X := X) (Y := Y) hj.1 (by omega)] at hlv hrun
   repeat' (first|(with_reducible first|apply qA|apply qB|apply qC|apply qD|apply qE|apply qF)|(simp (disch:=omega) only [go_sem,simprocAttr,qN,qO,qP,qQ,g1,g2,g3,g4,ins,hd,rF,rG])|exact qM rfl rfl rfl|(refine qG rfl ?_)|(refine qH rfl ?_)|(refine qI rfl ?_ ?_<;>intro hc<;>(try simp only [go_sem] at hc))|(refine qJ ?_ ?_<;>intro hc<;>(try simp only [hc])<;>(try simp only [go_sem] at hc)))
   refine ⟨⟨(2,b1),by dsimp only; omega,hlv,hrun⟩,(by show _ < _; (try simp only); omega),Ent.toH (o := []) (o' := []) (hH _) rfl ?_ ?_⟩ <;> simp (disch:=omega) only [qR,qS,qT,qU,get,Nat.reduceEqDiff,↓reduceIte,qV,qW,qX,qY,qZ,and_self,dI,i64_in,and_true,true_and,rA,rB,rC,rD]
   all_goals exact .refl _
 | 2,_ =>
  rw [lnsT,runB] at hrun
  repeat' (first|(with_reducible first|apply qA|apply qB|apply qC|apply qD|apply qE|apply qF)|(simp (disch:=omega) only [go_sem,simprocAttr,qN,qO,qP,qQ,g1,g2,g3,g4,ins,rF,rG])|exact qM rfl rfl rfl|(refine qG rfl ?_)|(refine qH rfl ?_)|(refine qI rfl ?_ ?_<;>intro hc<;>(try simp only [go_sem] at hc))|(refine qJ ?_ ?_<;>intro hc<;>(try simp only [hc])<;>(try simp only [go_sem] at hc)))
  all_goals first | exact id | (rw [hrun]; exact retS_hid (own := []) (.inr rfl) (hH _) rfl)
end Go.Dw.Seat
end
section
set_option linter.unusedSimpArgs false
set_option maxRecDepth 100000
namespace Go.Dw.Seat
open Go Go.Dw Go.Proofs Go.IntWalk
abbrev nilC : C := .v (.slice none 0 0)
abbrev sawBx (p : PBs) (b : PBx) (RX RY : C) : Blk := .box [dI p.lg,dI p.wd,dI p.hi,dI p.ov,dI p.top,dI p.load,dI b.lg,dI b.wd,dI b.hi,dI b.wl,dI b.wh,dI b.sl,dI b.sh,.c RX,.c RY,.hd 7]
abbrev sawBs (p : PBs) (b : PBx) (RX RY : List Int) : List (Nat × Blk) := [(9,sawBx p b (.sl false 1 (rows eI RX)) (.sl false 1 (rows eI RY))),(7,.map [] [])]
theorem sawBs_ok (p : PBs) (b : PBx) (RX RY : List Int) : okRes (.box 9 0) (sawBs p b RX RY) := by
 have hg : ∀ j,get j (sawBs p b RX RY) = none → j ≠ 9 ∧ j ≠ 7 := fun j hj => by
  constructor <;> (rintro rfl; cases hj)
 refine ⟨fun j hj => ?_,fun i x hi j hj => ?_⟩
 ·obtain ⟨h1,h2⟩ := hg j hj
  simp only [D.men,D.mens,Bool.or_false,beq_eq_false_iff_ne]
  omega
 ·obtain ⟨h1,h2⟩ := hg j hj
  have := get_mem hi
  simp only [List.mem_cons,Prod.mk.injEq,List.not_mem_nil,or_false] at this
  rcases this with ⟨_,rfl⟩ | ⟨_,rfl⟩
  ·simp only [Blk.men,D.men,D.mens,Bool.or_false,Bool.false_or,beq_eq_false_iff_ne]
   omega
  ·rfl
set_option maxHeartbeats 2000000 in
theorem plNewSaw (p : PBs) (b : PBx) (hp : p.ok) (hb : b.ok) : DCall Tryz.prog 51 [bedD p b] [] (.box 9 0) (sawBs p b (rcL (bLg b) (bWd b) (rxN p)) (rcL (bLg b) (bWd b) (ryN p))) := by
 have hr := plRoom p b hp
 obtain ⟨hx,hy⟩ := rm_in hp
 have hX : rmX p = ((rxN p : Nat) : Int) := (Int.toNat_of_nonneg hx.1).symm
 have hY : rmY p = ((ryN p : Nat) : Int) := (Int.toNat_of_nonneg hy.1).symm
 have hnX : rxN p ≤ 140 := by show (rmX p).toNat ≤ 140; omega
 have hnY : ryN p ≤ 140 := by show (rmY p).toNat ≤ 140; omega
 rw [hX,hY] at hr
 have c1 := plReach b hb (rxN p) (by omega)
 have c2 := plReach b hb (ryN p) (by omega)
 have hok := sawBs_ok p b (rcL (bLg b) (bWd b) (rxN p)) (rcL (bLg b) (bWd b) (ryN p))
 generalize rcL (bLg b) (bWd b) (rxN p) = L1 at *
 generalize rcL (bLg b) (bWd b) (ryN p) = L2 at *
 generalize rxN p = nx at *
 generalize ryN p = ny at *
 refine DCall.of Tryz.func51 sf51 hb51 (Nat.le_of_ble_eq_true rfl) hok ?_
 simp only [s51,idxs,Nat.reduceAdd]
 repeat' (first|(with_reducible first|apply qA|apply qB|apply qC|apply qD|apply qE|apply qF)|(refine qL rfl (WF.of ?_) ?_; first|rfl|skip)|(simp (disch:=omega) only [go_sem,simprocAttr,qN,qO,qP,qQ])|exact qM rfl rfl rfl|(refine qG rfl ?_)|(refine qK (hr) (by decide) ?_)|(refine qH rfl ?_)|(refine qI rfl ?_ ?_<;>intro hc<;>(try simp only [go_sem] at hc))|(refine qJ ?_ ?_<;>intro hc<;>(try simp only [hc])<;>(try simp only [go_sem] at hc)))
 obtain ⟨r0,hr0⟩ : ∃ r : Nat → C,r 0 = nilC ∧ r 1 = .sl false 1 (rows eI L1) ∧ r 2 = .sl false 1 (rows eI L1) := ⟨fun k => if k = 0 then nilC else .sl false 1 (rows eI L1),rfl,rfl,rfl⟩
 obtain ⟨r1,hr1⟩ : ∃ r : Nat → C,r 0 = nilC ∧ r 1 = nilC ∧ r 2 = .sl false 1 (rows eI L2) := ⟨fun k => if k ≤ 1 then nilC else .sl false 1 (rows eI L2),rfl,rfl,rfl⟩
 refine DW.loop (ι := { k : Nat // k ≤ 2 }) (fun k => ⟨27,[(12,dI k.1),(11,.agg [dI nx,dI ny]),(3,.box 9 0),(1,.box 1 0)],[(9,sawBx p b (r0 k.1) (r1 k.1)),(7,.map [] []),(1,.box [dI p.lg,dI p.wd,dI p.hi,dI p.ov,dI p.top,dI p.load,dI b.lg,dI b.wd,dI b.hi,dI b.wl,dI b.wh,dI b.sl,dI b.sh])]⟩) (fun k => 2 - k.1) ⟨0,by decide⟩ ?_ ?_
 ·refine Ent.to ?_ ?_ <;> simp (disch:=omega) only [qR,qS,qT,qU,get,Nat.reduceEqDiff,↓reduceIte,qV,qW,qX,qY,qZ,and_self,dI,i64_in,and_true,true_and,rA,rB,rC,rD,hr0.1,hr1.1]
  all_goals first | exact ⟨.refl _,.refl _,.refl _⟩ | exact ⟨.refl _,.refl _⟩ | exact .refl _
 rintro ⟨k,hk⟩
 dsimp only
 match k,hk with
 | 0,_ =>
  rw [hr0.1,hr1.1]
  repeat' (first|(with_reducible first|apply qA|apply qB|apply qC|apply qD|apply qE|apply qF)|(refine qL rfl (WF.of ?_) ?_; first|rfl|skip)|(simp (disch:=omega) only [go_sem,simprocAttr,qN,qO,qP,qQ])|exact qM rfl rfl rfl|(refine qG rfl ?_)|(refine qK (c1) (by decide) ?_)|(refine qH rfl ?_)|(refine qI rfl ?_ ?_<;>intro hc<;>(try simp only [go_sem] at hc))|(refine qJ ?_ ?_<;>intro hc<;>(try simp only [hc])<;>(try simp only [go_sem] at hc)))
  refine ⟨⟨1,by decide⟩,?_,Ent.to ?_ ?_⟩ <;> first | (show _ < _; (try simp only); omega) | (simp (disch:=omega) only [qR,qS,qT,qU,get,Nat.reduceEqDiff,↓reduceIte,qV,qW,qX,qY,qZ,and_self,dI,i64_in,and_true,true_and,rA,rB,rC,rD,hr0.2.1,hr1.2.1])
  all_goals first | exact ⟨.refl _,.refl _,.refl _⟩ | exact ⟨.refl _,.refl _⟩ | exact .refl _
 | 1,_ =>
  rw [hr0.2.1,hr1.2.1]
  repeat' (first|(with_reducible first|apply qA|apply qB|apply qC|apply qD|apply qE|apply qF)|(refine qL rfl (WF.of ?_) ?_; first|rfl|skip)|(simp (disch:=omega) only [go_sem,simprocAttr,qN,qO,qP,qQ])|exact qM rfl rfl rfl|(refine qG rfl ?_)|(refine qK (c2) (by decide) ?_)|(refine qH rfl ?_)|(refine qI rfl ?_ ?_<;>intro hc<;>(try simp only [go_sem] at hc))|(refine qJ ?_ ?_<;>intro hc<;>(try simp only [hc])<;>(try simp only [go_sem] at hc)))
  refine ⟨⟨2,by decide⟩,?_,Ent.to ?_ ?_⟩ <;> first | (show _ < _; (try simp only); omega) | (simp (disch:=omega) only [qR,qS,qT,qU,get,Nat.reduceEqDiff,↓reduceIte,qV,qW,qX,qY,qZ,and_self,dI,i64_in,and_true,true_and,rA,rB,rC,rD,hr0.2.2,hr1.2.2])
  all_goals first | exact ⟨.refl _,.refl _,.refl _⟩ | exact ⟨.refl _,.refl _⟩ | exact .refl _
 | 2,_ =>
  rw [hr0.2.2,hr1.2.2]
  repeat' (first|(with_reducible first|apply qA|apply qB|apply qC|apply qD|apply qE|apply qF)|(refine qL rfl (WF.of ?_) ?_; first|rfl|skip)|(simp (disch:=omega) only [go_sem,simprocAttr,qN,qO,qP,qQ])|exact qM rfl rfl rfl|(refine qG rfl ?_)|(refine qH rfl ?_)|(refine qI rfl ?_ ?_<;>intro hc<;>(try simp only [go_sem] at hc))|(refine qJ ?_ ?_<;>intro hc<;>(try simp only [hc])<;>(try simp only [go_sem] at hc)))
  refine retS_bs rfl rfl rfl (get_all (p := fun k x => get k _ = some x ∧ x.nb = true) ?_)
  intro q hq
  simp only [List.mem_cons,Prod.mk.injEq,List.not_mem_nil,or_false] at hq
  rcases hq with rfl | rfl
  ·exact ⟨rfl,(by simp only [List.all_cons,List.all_nil,Blk.nb,rowC_nb,D.nb,D.nbs,C.nb,C.nbs,C.nbss,rows_nb eI_nb,Bool.and_true,Bool.not_false,Bool.and_self,bD,dI,iD])⟩
  ·exact ⟨rfl,rfl⟩
end Go.Dw.Seat
end
section
set_option linter.unusedSimpArgs false
set_option maxRecDepth 100000
namespace Go.Dw.Seat
open Go Go.Dw Go.IntWalk
abbrev CMemo := List ((Nat × Nat) × Cut)
def cFind : CMemo → Nat × Nat → Option Cut
 | [],_ => none
 | p :: t,k => if k = p.1 then some p.2 else cFind t k
def cUpd : CMemo → Nat × Nat → Cut → CMemo
 | [],k,v => [(k,v)]
 | p :: t,k,v => if k = p.1 then (k,v) :: t else p :: cUpd t k v
theorem cFind_upd {k j : Nat × Nat} {v : Cut} : ∀ M : CMemo,cFind (cUpd M k v) j = if j = k then some v else cFind M j
 | [] => by simp only [cUpd,cFind]
 | p :: t => by
  simp only [cUpd]
  by_cases h : k = p.1
  ·rw [if_pos h]
   simp only [cFind]
   by_cases h2 : j = k
   ·rw [if_pos h2,if_pos h2]
   ·rw [if_neg h2,if_neg h2,if_neg (by rw [← h]; exact h2)]
  ·rw [if_neg h]
   simp only [cFind,cFind_upd t]
   by_cases h2 : j = p.1
   ·rw [if_pos h2,if_neg (by rw [h2]; exact fun e => h e.symm),if_pos h2]
   ·rw [if_neg h2,if_neg h2]
def stepM (rec : Nat → Nat → CMemo → Cut × CMemo) (x y : Nat) (s : Cut × CMemo) (l : Ln) : Cut × CMemo :=
 (if s.1.n < (rec (oneF x y l).1 (oneF x y l).2 s.2).1.n + (rec (twoF x y l).1 (twoF x y l).2 (rec (oneF x y l).1 (oneF x y l).2 s.2).2).1.n then ⟨(rec (oneF x y l).1 (oneF x y l).2 s.2).1.n + (rec (twoF x y l).1 (twoF x y l).2 (rec (oneF x y l).1 (oneF x y l).2 s.2).2).1.n,some l⟩ else s.1,(rec (twoF x y l).1 (twoF x y l).2 (rec (oneF x y l).1 (oneF x y l).2 s.2).2).2)
def cutM (a c : Nat) : Nat → Nat → Nat → CMemo → Cut × CMemo
 | 0,_,_,M => (⟨0,none⟩,M)
 | f + 1,x,y,M => match cFind M (rchF a c x,rchF a c y) with
  | some v => (v,M)
  | none =>
   let s := if fitB a c (rchF a c x) (rchF a c y) then (lnsF a c (rchF a c x) (rchF a c y)).foldl (stepM (cutM a c f) (rchF a c x) (rchF a c y)) (⟨1,none⟩,M) else (⟨0,none⟩,M)
   (s.1,cUpd s.2 (rchF a c x,rchF a c y) s.1)
def MOk (a c : Nat) (M : CMemo) : Prop := ∀ k v,cFind M k = some v → v = cutI a c k.1 k.2
theorem foldM_ok {a c f x y : Nat} (hrec : ∀ u v M,u + v < x + y → MOk a c M → (cutM a c f u v M).1 = cutI a c u v ∧ MOk a c (cutM a c f u v M).2) : ∀ (ls : List Ln) (b : Cut) (M : CMemo),(∀ l ∈ ls,IsLn a c x y l) → MOk a c M →
  (ls.foldl (stepM (cutM a c f) x y) (b,M)).1 = ls.foldl (stepC (mst a c) x y) b ∧ MOk a c (ls.foldl (stepM (cutM a c f) x y) (b,M)).2
 | [],b,M,_,hM => ⟨rfl,hM⟩
 | l :: ls,b,M,h,hM => by
  have hl := ln_less (h l (by simp))
  obtain ⟨h1,h2⟩ := hrec (oneF x y l).1 (oneF x y l).2 M hl.1 hM
  obtain ⟨h3,h4⟩ := hrec (twoF x y l).1 (twoF x y l).2 _ hl.2 h2
  rw [List.foldl_cons,List.foldl_cons]
  have e : stepM (cutM a c f) x y (b,M) l = (stepC (mst a c) x y b l,(cutM a c f (twoF x y l).1 (twoF x y l).2 (cutM a c f (oneF x y l).1 (oneF x y l).2 M).2).2) := by
   unfold stepM stepC mst
   dsimp only
   rw [h1,h3]
  rw [e]
  exact foldM_ok hrec ls _ _ (fun t ht => h t (by simp [ht])) h4
theorem cutM_ok (a c : Nat) : ∀ (f x y : Nat) (M : CMemo),x + y < f → MOk a c M → (cutM a c f x y M).1 = cutI a c x y ∧ MOk a c (cutM a c f x y M).2
 | 0,_,_,_,h,_ => by omega
 | f + 1,x,y,M,h,hM => by
  have l1 := rch_le a c x
  have l2 := rch_le a c y
  rw [cutM]
  cases hf : cFind M (rchF a c x,rchF a c y) with
  | some v =>
   dsimp only
   exact ⟨by rw [hM _ _ hf]; exact cutI_rch a c x y,hM⟩
  | none =>
   dsimp only
   have upd : ∀ {v : Cut} {M' : CMemo},v = cutI a c x y → MOk a c M' → MOk a c (cUpd M' (rchF a c x,rchF a c y) v) := fun hv hM' k u hk => by
    rw [cFind_upd] at hk
    split at hk
    ·rename_i e
     cases hk
     rw [hv,e]
     exact (cutI_rch a c x y).symm
    ·exact hM' k u hk
   have e := cutI_eq a c x y
   cases hfit : fitB a c (rchF a c x) (rchF a c y) with
   | false =>
    rw [hfit,if_neg Bool.false_ne_true] at e
    rw [if_neg Bool.false_ne_true]
    exact ⟨e.symm,upd e.symm hM⟩
   | true =>
    rw [hfit,if_pos rfl] at e
    rw [if_pos rfl]
    obtain ⟨h1,h2⟩ := foldM_ok (a := a) (c := c) (f := f) (x := rchF a c x) (y := rchF a c y) (fun u v M' huv hM' => cutM_ok a c f u v M' (by omega) hM') (lnsF a c (rchF a c x) (rchF a c y)) ⟨1,none⟩ M (fun l hl => lns_mem.1 hl) hM
    rw [← e] at h1
    exact ⟨h1,upd h1 h2⟩
theorem mok_nil (a c : Nat) : MOk a c [] := fun k v h => by cases h
end Go.Dw.Seat
end
section
set_option linter.unusedSimpArgs false
set_option maxRecDepth 100000
namespace Go.Dw.Seat
open Go Go.Dw Go.Proofs Go.IntWalk
def lnS : Option Ln → Int
 | none => -1
 | some l => sdI l.1
def lnA : Option Ln → Nat
 | none => 0
 | some l => l.2
abbrev cutV (v : Cut) : D := .agg [dI v.n,dI (lnS v.ln),dI (lnA v.ln)]
abbrev ckV (k : Nat × Nat) : Value := .agg #[.int .i64 k.1,.int .i64 k.2]
def cK (M : CMemo) : List Value := M.map fun p => ckV p.1
def cD (M : CMemo) : List D := M.map fun p => cutV p.2
theorem cK_ok (X Y : Nat) (M : CMemo) : keysOK (.arr .i64 2) (.agg #[.int .i64 X,.int .i64 Y]) (cK M) = true := by
 simp only [keysOK,cK,List.all_map,Bool.and_eq_true,List.all_eq_true]
 exact ⟨rfl,fun p _ => rfl⟩
theorem findL_cK (s : Nat × Nat) : ∀ (M : CMemo) (n : Nat),(match cFind M s with
  | some b => ∃ i,findL (ckV s) (cK M) n = some (n + i) ∧ (cD M)[i]? = some (cutV b) ∧ ∀ c,(cK M).set i (ckV s) = cK (cUpd M s c) ∧ (cD M).set i (cutV c) = cD (cUpd M s c)
  | none => findL (ckV s) (cK M) n = none ∧ ∀ c,cK M ++ [ckV s] = cK (cUpd M s c) ∧ cD M ++ [cutV c] = cD (cUpd M s c))
 | [],n => ⟨rfl,fun c => ⟨rfl,rfl⟩⟩
 | p :: t,n => by
  have ih := findL_cK s t (n + 1)
  simp only [cFind,cUpd]
  by_cases h : s = p.1
  ·rw [if_pos h]
   have hk : keyEq (ckV s) (ckV p.1) = true := by simp [keyEq,eqVs,h]
   refine ⟨0,?_,rfl,fun c => ?_⟩
   ·simp only [cK,List.map_cons,findL,hk,if_true]; rfl
   ·simp only [if_pos h]
    exact ⟨rfl,rfl⟩
  ·rw [if_neg h]
   have hk : keyEq (ckV s) (ckV p.1) = false := by
    have h' : ¬ (s.1 = p.1.1 ∧ s.2 = p.1.2) := fun e => h (Prod.ext e.1 e.2)
    simp only [keyEq,eqVs,Bool.and_true,Bool.and_eq_false_iff,beq_eq_false_iff_ne]
    omega
   cases hf : cFind t s with
   | some b =>
    rw [hf] at ih
    obtain ⟨i,h1,h2,h3⟩ := ih
    refine ⟨i + 1,?_,h2,fun c => ?_⟩
    ·have : n + (i + 1) = n + 1 + i := by omega
     rw [this]
     simpa only [cK,List.map_cons,findL,hk,Bool.false_eq_true,if_false] using h1
    ·obtain ⟨h4,h5⟩ := h3 c
     simp only [if_neg h]
     exact ⟨by simpa [cK] using h4,by simpa [cD] using h5⟩
   | none =>
    rw [hf] at ih
    obtain ⟨h1,h3⟩ := ih
    refine ⟨by simpa only [cK,List.map_cons,findL,hk,Bool.false_eq_true,if_false] using h1,fun c => ?_⟩
    obtain ⟨h4,h5⟩ := h3 c
    simp only [if_neg h]
    exact ⟨by simpa [cK] using h4,by simpa [cD] using h5⟩
theorem look_cK (X Y : Nat) (M : CMemo) (z : D) : lookIn z (cK M) (cD M) (.agg #[.int .i64 X,.int .i64 Y]) true = some (.tup [match cFind M (X,Y) with | some b => cutV b | none => z,.c (.v (.bool (cFind M (X,Y)).isSome))]) := by
 have h := findL_cK (X,Y) M 0
 unfold lookIn
 cases hf : cFind M (X,Y) with
 | some b =>
  rw [hf] at h
  obtain ⟨i,h1,h2,_⟩ := h
  rw [Nat.zero_add] at h1
  simp only [h1,h2,commaD,if_true]; rfl
 | none =>
  rw [hf] at h
  simp only [h.1,commaD,if_true]; rfl
theorem upd_cK (X Y : Nat) (M : CMemo) (c : Cut) : updK (cK M) (cD M) (.agg #[.int .i64 X,.int .i64 Y]) (.agg [dI c.n,dI (lnS c.ln),dI (lnA c.ln)]) = (cK (cUpd M (X,Y) c),cD (cUpd M (X,Y) c)) := by
 have h := findL_cK (X,Y) M 0
 unfold updK
 cases hf : cFind M (X,Y) with
 | some b =>
  rw [hf] at h
  obtain ⟨i,h1,h2,h3⟩ := h
  rw [Nat.zero_add] at h1
  simp only [h1,(h3 c).1,(h3 c).2]
 | none =>
  rw [hf] at h
  simp only [h.1,(h.2 c).1,(h.2 c).2]
theorem cD_nb (M : CMemo) : D.nbs (cD M) = true := by
 induction M with
 | nil => rfl
 | cons p m ih => simp only [cD,List.map_cons,D.nbs,Bool.and_eq_true]; exact ⟨rfl,ih⟩
theorem cD_men (k : Nat) (M : CMemo) : D.mens k (cD M) = false := by
 induction M with
 | nil => rfl
 | cons p m ih => simpa [cD,D.mens,D.men,dI] using ih
theorem cD_keys (bx : List (Nat × Blk)) (M : CMemo) : D.keysIns bx (cD M) = true := by
 induction M with
 | nil => rfl
 | cons p m ih => simpa [cD,D.keysIns,D.keysIn,dI] using ih
theorem killB_cD [Lays] (k l : Nat) (ks : List Value) (M : CMemo) : killB k (.pmap l ks (cD M)) = .pmap l ks (cD M) := by
 show Blk.pmap l ks ((cD M).map (killD k)) = _
 rw [map_killD_of (cD_men k M)]
abbrev ctB (lm : Nat) (M : CMemo) : Nat × Blk := (7,.pmap lm (cK M) (cD M))
attribute [go_sem] killB_cD cK_ok look_cK upd_cK cD_men cD_keys ctB sawD sawC
theorem ctB_ok (r : D) (hr : ∀ k,r.men k = false) (lm : Nat) (M : CMemo) : okRes r [ctB lm M] := by
 refine ⟨fun k _ => hr k,fun j x hj k hk => ?_⟩
 simp only [get] at hj
 split at hj
 ·cases hj; exact cD_men k M
 ·cases hj
theorem ctB_nb (lm : Nat) (M : CMemo) {k : Nat} {x : Blk} (hk : get k [ctB lm M] = some x) : k = 7 ∧ x = .pmap lm (cK M) (cD M) ∧ x.nb = true := by
 simp only [get] at hk
 split at hk
 ·rename_i e; cases hk; exact ⟨e,rfl,cD_nb M⟩
 ·cases hk
end Go.Dw.Seat
end
section
set_option linter.unusedSimpArgs false
set_option maxRecDepth 100000
namespace Go.Dw.Seat
open Go Go.Dw Go.Proofs Go.IntWalk
def CutC (p : PBs) (b : PBx) (RX RY : List Int) (nx ny lm f : Nat) : Prop := ∀ X Y M,MOk (bLg b) (bWd b) M → X ≤ nx → Y ≤ ny → X + Y < f → DCall Tryz.prog 52 [sawD p b RX RY lm,rctD X Y] [ctB lm M] (cutV (cutI (bLg b) (bWd b) X Y)) [ctB lm (cutM (bLg b) (bWd b) f X Y M).2]
def stS (a c f X Y : Nat) (s : Cut × CMemo) (l : Ln) : Option Exit × (Cut × CMemo) := (none,stepM (cutM a c f) X Y s l)
theorem st_run (a c f X Y : Nat) : ∀ (L : List Ln) (s : Cut × CMemo),runIt (stS a c f X Y) s L = (none,L.foldl (stepM (cutM a c f) X Y) s)
 | [],_ => rfl
 | l :: L,s => by simp only [runIt,stS,List.foldl_cons]; exact st_run a c f X Y L _
theorem one_le {a c X Y : Nat} {l : Ln} (h : l ∈ lnsF a c X Y) : ((oneF X Y l).1 ≤ X ∧ (oneF X Y l).2 ≤ Y) ∧ ((twoF X Y l).1 ≤ X ∧ (twoF X Y l).2 ≤ Y) ∧ l.2 ≤ if l.1 then Y else X := by
 have h1 := (lns_mem.1 h).half
 obtain ⟨s,t⟩ := l
 cases s <;> simp [oneF,twoF] at h1 ⊢ <;> omega
theorem mst_xy {a c : Nat} (ha : 0 < a) (hc : 0 < c) {x y : Nat} (hx : x ≤ 140) (hy : y ≤ 140) : mst a c x y ≤ 19600 := by
 have h1 := mst_bnd ha hc x y
 have h2 := Nat.div_le_self (rchF a c x * rchF a c y) (a * c)
 have h3 : rchF a c x * rchF a c y ≤ 140 * 140 := Nat.mul_le_mul (Nat.le_trans (rch_le a c x) hx) (Nat.le_trans (rch_le a c y) hy)
 unfold bndF at h1
 omega
set_option maxHeartbeats 4000000 in
theorem plCut1 (p : PBs) (b : PBx) (hb : b.ok) (RX RY : List Int) (nx ny : Nat) (hrx : Rch (bLg b) (bWd b) RX nx) (hry : Rch (bLg b) (bWd b) RY ny) (hnx : nx ≤ 140) (hny : ny ≤ 140) (lm f : Nat) (ih : CutC p b RX RY nx ny lm f) : CutC p b RX RY nx ny lm (f + 1) := by
 intro X Y M hMO hX hY hf
 have ha : 0 < bLg b := by have := hb.lg; show 0 < b.lg.toNat; omega
 have hc : 0 < bWd b := by have := hb.wd; show 0 < b.wd.toNat; omega
 rw [← (cutM_ok (bLg b) (bWd b) (f + 1) X Y M hf hMO).1]
 have hl1 := rch_le (bLg b) (bWd b) X
 have hl2 := rch_le (bLg b) (bWd b) Y
 have hgx := hrx.get X hX
 have hgy := hry.get Y hY
 have hlx := hrx.len
 have hly := hry.len
 have hiX : (X < nx + 1) = True := eq_true (by omega)
 have hiY : (Y < ny + 1) = True := eq_true (by omega)
 have hfits := plFits p b hb RX RY lm (rchF (bLg b) (bWd b) X) (rchF (bLg b) (bWd b) Y)
 have hsnd := fitT_snd (bLg b) (bWd b) (rchF (bLg b) (bWd b) X) (rchF (bLg b) (bWd b) Y)
 have hlines := plLines p b RX RY lm (rchF (bLg b) (bWd b) X) (rchF (bLg b) (bWd b) Y)
 have hit := plLines1 p b RX RY nx ny hrx hry (by omega) (by omega) lm (rchF (bLg b) (bWd b) X) (rchF (bLg b) (bWd b) Y) (by omega) (by omega)
 rw [cutM]
 unfold CutC at ih
 generalize bLg b = a at *
 generalize bWd b = c at *
 have hone := fun l => one_le (a := a) (c := c) (X := rchF a c X) (Y := rchF a c Y) (l := l)
 have hless := fun l (h : l ∈ lnsF a c (rchF a c X) (rchF a c Y)) => ln_less (lns_mem.1 h)
 generalize rchF a c X = X' at *
 generalize rchF a c Y = Y' at *
 refine DCall.of Tryz.func52 sf52 hb52 (Nat.le_of_ble_eq_true rfl) (ctB_ok _ (fun _ => rfl) _ _) ?_
 simp only [s52,o52_0,o52_1,o52_2,o52_3,o52_4,o52_5,o52_6,o52_7,o52_8,o52_9,o52_10,o52_11,o52_12,o52_13,o52_14,o52_15,o52_16,o52_17,o52_18,o52_19,idxs,Nat.reduceAdd]
 repeat' (first|(with_reducible first|apply qA|apply qB|apply qC|apply qD|apply qE|apply qF)|(refine qL rfl (WF.of ?_) ?_; first|rfl|skip)|(refine DW.ord rfl (WF.of (by first|rfl|simp (disch:=omega) only [go_sem,simprocAttr,qN,qO,qP,qQ])) ?_ ?_ ?_; rotate_left)|rfl|(with_reducible refine And.intro ?_ ?_)|(simp (disch:=omega) only [go_sem,simprocAttr,qN,qO,qP,qQ])|exact qM rfl rfl rfl|(refine qG rfl ?_)|(refine qH rfl ?_)|(refine qI rfl ?_ ?_<;>intro hc<;>(try simp only [go_sem] at hc))|(refine qJ ?_ ?_<;>intro hc<;>(try simp only [hc])<;>(try simp only [go_sem] at hc)))
 obtain ⟨r0,hr0⟩ : ∃ r : Nat → Nat,r 0 = X ∧ r 1 = X' ∧ r 2 = X' := ⟨fun k => if k = 0 then X else X',rfl,rfl,rfl⟩
 obtain ⟨r1,hr1⟩ : ∃ r : Nat → Nat,r 0 = Y ∧ r 1 = Y ∧ r 2 = Y' := ⟨fun k => if k ≤ 1 then Y else Y',rfl,rfl,rfl⟩
 refine DW.loop (ι := { k : Nat // k ≤ 2 }) (fun k => ⟨86,[(15,dI k.1),(4,.box 4 0),(3,.box 3 0),(2,.box 2 0)],[ctB lm M,(4,.box [dI 0,dI 0,dI 0]),(3,.box [dI (r0 k.1),dI (r1 k.1)]),(2,.box [sawD p b RX RY lm])]⟩) (fun k => 2 - k.1) ⟨0,by decide⟩ ?_ ?_
 ·refine Ent.to ?_ ?_ <;> simp (disch:=omega) only [qR,qS,qT,qU,get,Nat.reduceEqDiff,↓reduceIte,qV,qW,qX,qY,qZ,and_self,dI,i64_in,and_true,true_and,rA,rB,rC,rD,hr0.1,hr1.1]
  all_goals first | exact ⟨.refl _,.refl _,.refl _⟩ | exact ⟨.refl _,.refl _⟩ | exact .refl _
 rintro ⟨k,hk⟩
 dsimp only
 match k,hk with
 | 0,_ =>
  rw [hr0.1,hr1.1]
  repeat' (first|(with_reducible first|apply qA|apply qB|apply qC|apply qD|apply qE|apply qF)|(refine qL rfl (WF.of ?_) ?_; first|rfl|skip)|(refine DW.ord rfl (WF.of (by first|rfl|simp (disch:=omega) only [go_sem,simprocAttr,qN,qO,qP,qQ,hgx,hlx,hiX,rF,rG])) ?_ ?_ ?_; rotate_left)|rfl|(with_reducible refine And.intro ?_ ?_)|(simp (disch:=omega) only [go_sem,simprocAttr,qN,qO,qP,qQ,hgx,hlx,hiX,rF,rG])|exact qM rfl rfl rfl|(refine qG rfl ?_)|(refine qH rfl ?_)|(refine qI rfl ?_ ?_<;>intro hc<;>(try simp only [go_sem] at hc))|(refine qJ ?_ ?_<;>intro hc<;>(try simp only [hc])<;>(try simp only [go_sem] at hc)))
  refine ⟨⟨1,by decide⟩,?_,Ent.to ?_ ?_⟩ <;> first | (show _ < _; (try simp only); omega) | (simp (disch:=omega) only [qR,qS,qT,qU,get,Nat.reduceEqDiff,↓reduceIte,qV,qW,qX,qY,qZ,and_self,dI,i64_in,and_true,true_and,rA,rB,rC,rD,hr0.2.1,hr1.2.1])
  all_goals first | exact ⟨.refl _,.refl _,.refl _⟩ | exact ⟨.refl _,.refl _⟩ | exact .refl _
 | 1,_ =>
  rw [hr0.2.1,hr1.2.1]
  repeat' (first|(with_reducible first|apply qA|apply qB|apply qC|apply qD|apply qE|apply qF)|(refine qL rfl (WF.of ?_) ?_; first|rfl|skip)|(refine DW.ord rfl (WF.of (by first|rfl|simp (disch:=omega) only [go_sem,simprocAttr,qN,qO,qP,qQ,hgy,hly,hiY,rF,rG])) ?_ ?_ ?_; rotate_left)|rfl|(with_reducible refine And.intro ?_ ?_)|(simp (disch:=omega) only [go_sem,simprocAttr,qN,qO,qP,qQ,hgy,hly,hiY,rF,rG])|exact qM rfl rfl rfl|(refine qG rfl ?_)|(refine qH rfl ?_)|(refine qI rfl ?_ ?_<;>intro hc<;>(try simp only [go_sem] at hc))|(refine qJ ?_ ?_<;>intro hc<;>(try simp only [hc])<;>(try simp only [go_sem] at hc)))
  refine ⟨⟨2,by decide⟩,?_,Ent.to ?_ ?_⟩ <;> first | (show _ < _; (try simp only); omega) | (simp (disch:=omega) only [qR,qS,qT,qU,get,Nat.reduceEqDiff,↓reduceIte,qV,qW,qX,qY,qZ,and_self,dI,i64_in,and_true,true_and,rA,rB,rC,rD,hr0.2.2,hr1.2.2])
  all_goals first | exact ⟨.refl _,.refl _,.refl _⟩ | exact ⟨.refl _,.refl _⟩ | exact .refl _
 | 2,_ =>
  rw [hr0.2.2,hr1.2.2]
  clear hr0 hr1 hgx hgy hlx hly hiX hiY
  cases hm : cFind M (X',Y') with
  | some v =>
   repeat' (first|(with_reducible first|apply qA|apply qB|apply qC|apply qD|apply qE|apply qF)|(refine qL rfl (WF.of ?_) ?_; first|rfl|skip)|(refine DW.ord rfl (WF.of (by first|rfl|simp (disch:=omega) only [go_sem,simprocAttr,qN,qO,qP,qQ,hm,Option.isSome_some,rF,rG])) ?_ ?_ ?_; rotate_left)|rfl|(with_reducible refine And.intro ?_ ?_)|(simp (disch:=omega) only [go_sem,simprocAttr,qN,qO,qP,qQ,hm,Option.isSome_some,rF,rG])|exact qM rfl rfl rfl|(refine qG rfl ?_)|(refine qH rfl ?_)|(refine qI rfl ?_ ?_<;>intro hc<;>(try simp only [go_sem] at hc))|(refine qJ ?_ ?_<;>intro hc<;>(try simp only [hc])<;>(try simp only [go_sem] at hc)))
   exact retS_bs rfl rfl rfl (fun j x hj => by
    obtain ⟨rfl,rfl,hn⟩ := ctB_nb lm M hj
    exact ⟨rfl,hn⟩)
  | none =>
   generalize fitT a c X' Y' = ft at *
   obtain ⟨ft1,ft2⟩ := ft
   dsimp only at hsnd hfits ⊢
   rw [← hsnd]
   clear hsnd
   cases ft2 with
   | false =>
    rw [if_neg Bool.false_ne_true]
    dsimp only
    have hupd : updK (cK M) (cD M) (.agg #[.int .i64 X',.int .i64 Y']) (.agg [dI 0,dI (-1),dI 0]) = (cK (cUpd M (X',Y') ⟨0,none⟩),cD (cUpd M (X',Y') ⟨0,none⟩)) := upd_cK X' Y' M ⟨0,none⟩
    repeat' (first|(with_reducible first|apply qA|apply qB|apply qC|apply qD|apply qE|apply qF)|(refine qL rfl (WF.of ?_) ?_; first|rfl|skip)|(refine DW.ord rfl (WF.of (by first|rfl|simp (disch:=omega) only [go_sem,simprocAttr,qN,qO,qP,qQ,hm,Option.isSome_none,hupd,rF,rG])) ?_ ?_ ?_; rotate_left)|rfl|(with_reducible refine And.intro ?_ ?_)|(simp (disch:=omega) only [go_sem,simprocAttr,qN,qO,qP,qQ,hm,Option.isSome_none,hupd,rF,rG])|exact qM rfl rfl rfl|(refine qG rfl ?_)|(refine qK (hfits) (by decide) ?_)|(refine qH rfl ?_)|(refine qI rfl ?_ ?_<;>intro hc<;>(try simp only [go_sem] at hc))|(refine qJ ?_ ?_<;>intro hc<;>(try simp only [hc])<;>(try simp only [go_sem] at hc)))
    exact retS_bs rfl rfl rfl (fun j x hj => by
     obtain ⟨rfl,rfl,hn⟩ := ctB_nb lm _ hj
     exact ⟨rfl,hn⟩)
   | true =>
    rw [if_pos rfl]
    repeat' (first|(with_reducible first|apply qA|apply qB|apply qC|apply qD|apply qE|apply qF)|(refine qL rfl (WF.of ?_) ?_; first|rfl|skip)|(refine DW.ord rfl (WF.of (by first|rfl|simp (disch:=omega) only [go_sem,simprocAttr,qN,qO,qP,qQ,hm,Option.isSome_none,rF,rG])) ?_ ?_ ?_; rotate_left)|rfl|(with_reducible refine And.intro ?_ ?_)|(simp (disch:=omega) only [go_sem,simprocAttr,qN,qO,qP,qQ,hm,Option.isSome_none,rF,rG])|exact qM rfl rfl rfl|(refine qG rfl ?_)|(refine qK (hfits) (by decide) ?_)|(refine qK (hlines) (by decide) ?_)|(refine qH rfl ?_)|(refine qI rfl ?_ ?_<;>intro hc<;>(try simp only [go_sem] at hc))|(refine qJ ?_ ?_<;>intro hc<;>(try simp only [hc])<;>(try simp only [go_sem] at hc)))
    have htM : ∀ l ∈ lnsF a c X' Y',∀ M1,MOk a c M1 → ((cutM a c f (oneF X' Y' l).1 (oneF X' Y' l).2 M1).1 = cutI a c (oneF X' Y' l).1 (oneF X' Y' l).2 ∧ MOk a c (cutM a c f (oneF X' Y' l).1 (oneF X' Y' l).2 M1).2) ∧ (cutM a c f (twoF X' Y' l).1 (twoF X' Y' l).2 (cutM a c f (oneF X' Y' l).1 (oneF X' Y' l).2 M1).2).1 = cutI a c (twoF X' Y' l).1 (twoF X' Y' l).2 ∧ MOk a c (cutM a c f (twoF X' Y' l).1 (twoF X' Y' l).2 (cutM a c f (oneF X' Y' l).1 (oneF X' Y' l).2 M1).2).2 := fun l hl M1 h1 => by
     have hle := hless l hl
     have e1 := cutM_ok a c f (oneF X' Y' l).1 (oneF X' Y' l).2 M1 (by omega) h1
     exact ⟨e1,cutM_ok a c f (twoF X' Y' l).1 (twoF X' Y' l).2 _ (by omega) e1.2⟩
    refine DW.ent (σ' := ⟨86,[(55,.fn (.func 99) [] [.c (.ro false [.v (.int .i64 X'),.v (.int .i64 Y')] 0),.c (.ro false [sawC p b RX RY lm] 0)]),(8,.box 8 0),(4,.box 4 0),(3,.box 3 0),(2,.box 2 0)],[ctB lm M,(8,.box [dI 1,dI (-1),dI 0]),(4,.box [dI 0,dI 0,dI 0]),(3,.box [dI X',dI Y']),(2,.box [sawD p b RX RY lm])]⟩) (Ent.to ?_ ?_) ?_
    ·simp (disch:=omega) only [qR,qS,qT,qU,get,Nat.reduceEqDiff,↓reduceIte,qV,qW,qX,qY,qZ,and_self,dI,i64_in,and_true,true_and,rA,rB,rC,rD]
    ·simp (disch:=omega) only [qR,qS,qT,qU,get,Nat.reduceEqDiff,↓reduceIte,qV,qW,qX,qY,qZ,and_self,dI,i64_in,and_true,true_and,rA,rB,rC,rD]
    refine DW.rngBS (fs := []) (caps := [.c (.ro false [.v (.int .i64 X'),.v (.int .i64 Y')] 0),.c (.ro false [sawC p b RX RY lm] 0)]) (fun y : Cut × CMemo => [ctB lm y.2,(8,.box [dI y.1.n,dI (lnS y.1.ln),dI (lnA y.1.ln)]),(4,.box [dI 0,dI 0,dI 0]),(3,.box [dI X',dI Y']),(2,.box [sawD p b RX RY lm])]) (⟨1,none⟩,M) (stS a c f X' Y') enL (fun l => l ∈ lnsF a c X' Y') (lnsF a c X' Y') hit (fun _ y => MOk a c y.2) hMO (fun y l t hy hl _ => (htM l hl y.2 hy).2.2) rfl (fun _ => ⟨rfl,rfl⟩) rfl (by decide) (fun _ _ => rfl) (fun _ _ _ => rfl) (by simp only [List.map_cons,List.map_nil]; decide) (fun _ => rfl) (fun y => by show (_ && (D.keysIns _ (cD y.2) && _)) = true; rw [cD_keys]; rfl) (fun y => by show (D.nbs (cD y.2) && _) = true; rw [cD_nb,Bool.true_and]; exact (by simp only [List.all_cons,List.all_nil,Blk.nb,rowC_nb,D.nb,D.nbs,C.nb,C.nbs,C.nbss,rows_nb eI_nb,Bool.and_true,Bool.not_false,Bool.and_self,bD,dI,iD])) (by simp only [List.all_cons,List.all_nil,Blk.nb,rowC_nb,D.nb,D.nbs,C.nb,C.nbs,C.nbss,rows_nb eI_nb,Bool.and_true,Bool.not_false,Bool.and_self,bD,dI,iD]) (fun _ _ => rfl) ?_ ?_
    ·rintro ⟨y,M1⟩ l t hM1 hl v
     dsimp only at hM1
     obtain ⟨⟨e1,hM2⟩,e2,hM3⟩ := htM l hl M1 hM1
     have hle := hless l hl
     obtain ⟨hl1,hl2,hl3⟩ := hone l hl
     have hparts := plLnParts X' Y' l (by omega) (by omega) hl3
     have h1 := ih (oneF X' Y' l).1 (oneF X' Y' l).2 M1 hM1 (by omega) (by omega) (by omega)
     have h2 := ih (twoF X' Y' l).1 (twoF X' Y' l).2 _ hM2 (by omega) (by omega) (by omega)
     have b1 := mst_xy ha hc (x := (oneF X' Y' l).1) (y := (oneF X' Y' l).2) (by omega) (by omega)
     have b2 := mst_xy ha hc (x := (twoF X' Y' l).1) (y := (twoF X' Y' l).2) (by omega) (by omega)
     rw [mst] at b1 b2
     have hS : stS a c f X' Y' (y,M1) l = (none,(if y.n < (cutI a c (oneF X' Y' l).1 (oneF X' Y' l).2).n + (cutI a c (twoF X' Y' l).1 (twoF X' Y' l).2).n then ⟨(cutI a c (oneF X' Y' l).1 (oneF X' Y' l).2).n + (cutI a c (twoF X' Y' l).1 (twoF X' Y' l).2).n,some l⟩ else y,(cutM a c f (twoF X' Y' l).1 (twoF X' Y' l).2 (cutM a c f (oneF X' Y' l).1 (oneF X' Y' l).2 M1).2).2)) := by
      unfold stS stepM
      dsimp only
      rw [e1,e2]
     rw [hS]
     clear hS e1 e2 htM hone hless hit ih
     generalize (cutM a c f (twoF X' Y' l).1 (twoF X' Y' l).2 (cutM a c f (oneF X' Y' l).1 (oneF X' Y' l).2 M1).2).2 = M3 at *
     generalize (cutM a c f (oneF X' Y' l).1 (oneF X' Y' l).2 M1).2 = M2 at *
     generalize cutI a c (oneF X' Y' l).1 (oneF X' Y' l).2 = C1 at *
     generalize cutI a c (twoF X' Y' l).1 (twoF X' Y' l).2 = C2 at *
     generalize (oneF X' Y' l).1 = o1 at *
     generalize (oneF X' Y' l).2 = o2 at *
     generalize (twoF X' Y' l).1 = q1 at *
     generalize (twoF X' Y' l).2 = q2 at *
     simp (disch:=omega) only [go_sem,simprocAttr,qN,qO,qP,qQ,rF,rG,enL]
     by_cases hlt : y.n < C1.n + C2.n
     ·have hd : decide ((y.n : Int) < (C1.n : Int) + (C2.n : Int)) = true := decide_eq_true (by omega)
      rw [if_pos hlt]
      repeat' (first|(with_reducible first|apply qA|apply qB|apply qC|apply qD|apply qE|apply qF)|(refine qL rfl (WF.of ?_) ?_; first|rfl|skip)|(refine DW.ord rfl (WF.of (by first|rfl|simp (disch:=omega) only [go_sem,simprocAttr,qN,qO,qP,qQ,rF,rG,del,cD_keys,hd,Bool.and_self,Bool.and_true,Bool.true_and])) ?_ ?_ ?_; rotate_left)|rfl|(with_reducible refine And.intro ?_ ?_)|(simp (disch:=omega) only [go_sem,simprocAttr,qN,qO,qP,qQ,rF,rG,del,cD_keys,hd,Bool.and_self,Bool.and_true,Bool.true_and])|exact qM rfl rfl rfl|(refine qG rfl ?_)|(refine qK (hparts) (by decide) ?_)|(refine call_hk 7 (h1) rfl rfl rfl (by simp (disch:=omega) only [go_sem,simprocAttr,qN,qO,qP,qQ,del]) (by decide) ?_)|(refine call_hk 7 (h2) rfl rfl rfl (by simp (disch:=omega) only [go_sem,simprocAttr,qN,qO,qP,qQ,del]) (by decide) ?_)|(refine qH rfl ?_)|(refine qI rfl ?_ ?_<;>intro hc<;>(try simp only [go_sem] at hc))|(refine qJ ?_ ?_<;>intro hc<;>(try simp only [hc])<;>(try simp only [go_sem] at hc)))
      refine round_end rfl rfl (Ent.to ?_ ?_) <;> simp (disch:=omega) only [qR,qS,qT,qU,get,Nat.reduceEqDiff,↓reduceIte,qV,qW,qX,qY,qZ,and_self,dI,i64_in,and_true,true_and,rA,rB,rC,rD,capB,List.cons_append,List.nil_append,lnS,lnA,rA]
      all_goals first | exact ⟨.refl _,.refl _,.refl _⟩ | exact ⟨.refl _,.refl _⟩ | exact .refl _
     ·have hd : decide ((y.n : Int) < (C1.n : Int) + (C2.n : Int)) = false := decide_eq_false (by omega)
      rw [if_neg hlt]
      repeat' (first|(with_reducible first|apply qA|apply qB|apply qC|apply qD|apply qE|apply qF)|(refine qL rfl (WF.of ?_) ?_; first|rfl|skip)|(refine DW.ord rfl (WF.of (by first|rfl|simp (disch:=omega) only [go_sem,simprocAttr,qN,qO,qP,qQ,rF,rG,del,cD_keys,hd,Bool.and_self,Bool.and_true,Bool.true_and])) ?_ ?_ ?_; rotate_left)|rfl|(with_reducible refine And.intro ?_ ?_)|(simp (disch:=omega) only [go_sem,simprocAttr,qN,qO,qP,qQ,rF,rG,del,cD_keys,hd,Bool.and_self,Bool.and_true,Bool.true_and])|exact qM rfl rfl rfl|(refine qG rfl ?_)|(refine qK (hparts) (by decide) ?_)|(refine call_hk 7 (h1) rfl rfl rfl (by simp (disch:=omega) only [go_sem,simprocAttr,qN,qO,qP,qQ,del]) (by decide) ?_)|(refine call_hk 7 (h2) rfl rfl rfl (by simp (disch:=omega) only [go_sem,simprocAttr,qN,qO,qP,qQ,del]) (by decide) ?_)|(refine qH rfl ?_)|(refine qI rfl ?_ ?_<;>intro hc<;>(try simp only [go_sem] at hc))|(refine qJ ?_ ?_<;>intro hc<;>(try simp only [hc])<;>(try simp only [go_sem] at hc)))
      refine round_end rfl rfl (Ent.to ?_ ?_) <;> simp (disch:=omega) only [qR,qS,qT,qU,get,Nat.reduceEqDiff,↓reduceIte,qV,qW,qX,qY,qZ,and_self,dI,i64_in,and_true,true_and,rA,rB,rC,rD,capB,List.cons_append,List.nil_append]
    ·rw [st_run]
     generalize (lnsF a c X' Y').foldl (stepM (cutM a c f) X' Y') (⟨1,none⟩,M) = R at *
     obtain ⟨v,M3⟩ := R
     dsimp only
     simp (disch:=omega) only [go_sem,simprocAttr,qN,qO,qP,qQ,Option.getD_none]
     have hupd := upd_cK X' Y' M3 v
     repeat' (first|(with_reducible first|apply qA|apply qB|apply qC|apply qD|apply qE|apply qF)|(refine qL rfl (WF.of ?_) ?_; first|rfl|skip)|(refine DW.ord rfl (WF.of (by first|rfl|simp (disch:=omega) only [go_sem,simprocAttr,qN,qO,qP,qQ,hupd,rF,rG])) ?_ ?_ ?_; rotate_left)|rfl|(with_reducible refine And.intro ?_ ?_)|(simp (disch:=omega) only [go_sem,simprocAttr,qN,qO,qP,qQ,hupd,rF,rG])|exact qM rfl rfl rfl|(refine qG rfl ?_)|(refine qH rfl ?_)|(refine qI rfl ?_ ?_<;>intro hc<;>(try simp only [go_sem] at hc))|(refine qJ ?_ ?_<;>intro hc<;>(try simp only [hc])<;>(try simp only [go_sem] at hc)))
     exact retS_bs rfl rfl rfl (fun j x hj => by
      obtain ⟨rfl,rfl,hn⟩ := ctB_nb lm _ hj
      exact ⟨rfl,hn⟩)
theorem plCut (p : PBs) (b : PBx) (hb : b.ok) (RX RY : List Int) (nx ny : Nat) (hrx : Rch (bLg b) (bWd b) RX nx) (hry : Rch (bLg b) (bWd b) RY ny) (hnx : nx ≤ 140) (hny : ny ≤ 140) (lm : Nat) : ∀ f,CutC p b RX RY nx ny lm f
 | 0 => fun _ _ _ _ _ _ h => by omega
 | f + 1 => plCut1 p b hb RX RY nx ny hrx hry hnx hny lm f (plCut p b hb RX RY nx ny hrx hry hnx hny lm f)
end Go.Dw.Seat
end
section
set_option linter.unusedSimpArgs false
set_option maxRecDepth 100000
namespace Go.Dw.Seat
open Go Go.Dw Go.Proofs Go.IntWalk
abbrev sawCL (lab : Bool) (p : PBs) (b : PBx) (RX RY : List Int) (lm : Nat) : D := .c (.ro lab [.v (.int .i64 p.lg),.v (.int .i64 p.wd),.v (.int .i64 p.hi),.v (.int .i64 p.ov),.v (.int .i64 p.top),.v (.int .i64 p.load),.v (.int .i64 b.lg),.v (.int .i64 b.wd),.v (.int .i64 b.hi),.v (.int .i64 b.wl),.v (.int .i64 b.wh),.v (.int .i64 b.sl),.v (.int .i64 b.sh),.sl false 1 (rows eI RX),.sl false 1 (rows eI RY),.v (.map (some lm))] 0)
attribute [go_sem] sawCL
theorem cD_pl (M : CMemo) : D.pls (cD M) = true := by
 induction M with
 | nil => rfl
 | cons p m ih => simp only [cD,List.map_cons,D.pls,Bool.and_eq_true]; exact ⟨rfl,ih⟩
theorem pinDs_cD (k p : Nat) (M : CMemo) : pinDs k p (cD M) = cD M := by
 induction M with
 | nil => rfl
 | cons q m ih => simp only [cD,List.map_cons,pinDs] at ih ⊢; rw [ih]; rfl
attribute [go_sem] pinDs_cD
theorem plCutL (lab : Bool) (p : PBs) (b : PBx) (hb : b.ok) (RX RY : List Int) (nx ny : Nat) (hrx : Rch (bLg b) (bWd b) RX nx) (hry : Rch (bLg b) (bWd b) RY ny) (hnx : nx ≤ 140) (hny : ny ≤ 140) (lm X Y : Nat) (hX : X ≤ nx) (hY : Y ≤ ny) (M : CMemo) (hM : MOk (bLg b) (bWd b) M) :
  DCall Tryz.prog 52 [sawCL lab p b RX RY lm,rctD X Y] [ctB lm M] (cutV (cutI (bLg b) (bWd b) X Y)) [ctB lm (cutM (bLg b) (bWd b) (X + Y + 1) X Y M).2] :=
 DCall.lblM (plCut p b hb RX RY nx ny hrx hry hnx hny lm (X + Y + 1) X Y M hM hX hY (by omega)) rfl (cD_pl _) (cD_pl _) (.ro (.same .nil))
def mostX (p : PBs) (b : PBx) : Int := if chkE p b = 0 then ((mst (bLg b) (bWd b) (rxN p) (ryN p) : Nat) : Int) else 0
set_option maxHeartbeats 4000000 in
theorem plMost (p : PBs) (b : PBx) : DCall Tryz.prog 22 [bsD p,bxD b] [] (.tup [dI (mostX p b),dI (chkE p b)]) [] := by
 have h0 := plCheck p b
 unfold mostX
 by_cases hc : chkE p b = 0
 ·obtain ⟨hp,hb⟩ := chk_ok.1 hc
  rw [if_pos hc]
  rw [hc] at h0 ⊢
  have hr := plRoom p b hp
  obtain ⟨hx,hy⟩ := rm_in hp
  have hX : rmX p = ((rxN p : Nat) : Int) := (Int.toNat_of_nonneg hx.1).symm
  have hY : rmY p = ((ryN p : Nat) : Int) := (Int.toNat_of_nonneg hy.1).symm
  have hnX : rxN p ≤ 140 := by show (rmX p).toNat ≤ 140; omega
  have hnY : ryN p ≤ 140 := by show (rmY p).toNat ≤ 140; omega
  rw [hX,hY] at hr
  have hsaw := plNewSaw p b hp hb
  have hcut := fun lm => plCutL true p b hb _ _ _ _ (rcL_ok (bLg b) (bWd b) (rxN p)) (rcL_ok (bLg b) (bWd b) (ryN p)) hnX hnY lm (rxN p) (ryN p) (Nat.le_refl _) (Nat.le_refl _) [] (mok_nil _ _)
  rw [mst]
  generalize rcL (bLg b) (bWd b) (rxN p) = L1 at *
  generalize rcL (bLg b) (bWd b) (ryN p) = L2 at *
  generalize (cutM (bLg b) (bWd b) (rxN p + ryN p + 1) (rxN p) (ryN p) []).2 = M1 at *
  generalize cutI (bLg b) (bWd b) (rxN p) (ryN p) = C at *
  generalize rxN p = nx at *
  generalize ryN p = ny at *
  have hcut' : ∀ lm,DCall Tryz.prog 52 [sawCL true p b L1 L2 lm,rctD nx ny] [(7,pinO lm (pinB 7 lm (.map [] [])))] (pinD 7 lm (cutV C)) [(7,pinO lm (pinB 7 lm (.map (cK M1) (cD M1))))] := fun lm => by
   have h := hcut lm
   show DCall Tryz.prog 52 _ _ _ [(7,.pmap lm (cK M1) (pinDs 7 lm (cD M1)))]
   rw [pinDs_cD]
   exact h
  refine DCall.of Tryz.func22 sf22 hb22 (Nat.le_of_ble_eq_true rfl) (okRes_nil fun _ => rfl) ?_; simp only [s22,o22_0,o22_1,o22_2,o22_3,o22_4,o22_5,idxs,Nat.reduceAdd]
  repeat' (first|(with_reducible first|apply qA|apply qB|apply qC|apply qD|apply qE|apply qF)|(simp (disch:=omega) only [go_sem,simprocAttr,qN,qO,qP,qQ])|exact qM rfl rfl rfl|(refine qG rfl ?_)|(refine qK (h0) (by decide) ?_)|(refine qH rfl ?_)|(refine qI rfl ?_ ?_<;>intro hc<;>(try simp only [go_sem] at hc))|(refine qJ ?_ ?_<;>intro hc<;>(try simp only [hc])<;>(try simp only [go_sem] at hc)))
  refine DW.ent (Ent.swk 7 47) ?_
  simp (disch:=omega) only [go_sem,simprocAttr,qN,qO,qP,qQ,swT,swX,swD,swDs,swB,swk]
  repeat' (first|(with_reducible first|apply qA|apply qB|apply qC|apply qD|apply qE|apply qF)|(refine DW.ord rfl (WF.of (by first|rfl|simp (disch:=omega) only [go_sem,simprocAttr,qN,qO,qP,qQ,del])) ?_ ?_ ?_; rotate_left)|rfl|(with_reducible refine And.intro ?_ ?_)|(simp (disch:=omega) only [go_sem,simprocAttr,qN,qO,qP,qQ,del])|exact qM rfl rfl rfl|(refine qG rfl ?_)|(refine call_b (hsaw) ⟨⟨trivial,rfl,rfl,rfl⟩,rfl,rfl,rfl⟩ (by decide) ?_; simp only [St.addBs,St.putB,St.putO,St.put])|(refine qK (hr) (by decide) ?_)|(refine call_hp1 7 (fun lm => hcut' lm) rfl rfl rfl (fun _ => rfl) (fun _ => rfl) (fun _ => by simp (disch:=omega) only [go_sem,simprocAttr,qN,qO,qP,qQ,del,pinT,pinX,pinD,pinDs,pinB,pinO,Nat.reduceEqDiff,if_false,if_true]) (by decide) ?_)|(refine qH rfl ?_)|(refine qI rfl ?_ ?_<;>intro hc<;>(try simp only [go_sem] at hc))|(refine qJ ?_ ?_<;>intro hc<;>(try simp only [hc])<;>(try simp only [go_sem] at hc)))
  skip
 ·have h2 := chk_two hc
  rw [if_neg hc]
  rw [h2] at h0 ⊢
  refine DCall.of Tryz.func22 sf22 hb22 (Nat.le_of_ble_eq_true rfl) (okRes_nil fun _ => rfl) ?_; simp only [s22,o22_0,o22_1,o22_2,o22_3,o22_4,o22_5,idxs,Nat.reduceAdd]
  repeat' (first|(with_reducible first|apply qA|apply qB|apply qC|apply qD|apply qE|apply qF)|(refine DW.ord rfl (WF.of (by first|rfl|simp (disch:=omega) only [go_sem,simprocAttr,qN,qO,qP,qQ])) ?_ ?_ ?_; rotate_left)|rfl|(with_reducible refine And.intro ?_ ?_)|(simp (disch:=omega) only [go_sem,simprocAttr,qN,qO,qP,qQ])|exact qM rfl rfl rfl|(refine qG rfl ?_)|(refine qK (h0) (by decide) ?_)|(refine qH rfl ?_)|(refine qI rfl ?_ ?_<;>intro hc<;>(try simp only [go_sem] at hc))|(refine qJ ?_ ?_<;>intro hc<;>(try simp only [hc])<;>(try simp only [go_sem] at hc)))
end Go.Dw.Seat
end
section
set_option linter.unusedSimpArgs false
set_option maxRecDepth 100000
namespace Go.Dw.Seat
open Go Go.Dw Go.Proofs Go.IntWalk
theorem retS_ent [Lays] {P : Program} {res : List ResultVar} {r : D} {bo : List (Nat × Blk)} {σ σ' : St} (he : Ent σ σ') (h : retS P res r bo .ret σ') : retS P res r bo .ret σ := by
 obtain ⟨h0,σ2,ds,h1,h2⟩ := h
 exact ⟨h0,σ2,ds,fun N O0 w0 a w hi => h1 _ _ _ _ _ (he _ _ _ _ _ hi),h2⟩
abbrev mpB (lm : Nat) (M : CMemo) : Nat × Blk := (47,.pmap lm (cK M) (cD M))
abbrev rwB (l : List PPl) : Nat × Blk := (77,.row 3 (rowC (rows eP l)))
attribute [go_sem] mpB rwB
theorem mpB_ok (lm : Nat) (M : CMemo) (l : List PPl) : okRes (.own 77) [mpB lm M,rwB l] := by
 have hg : ∀ j,get j [mpB lm M,rwB l] = none → j ≠ 47 ∧ j ≠ 77 := fun j hj => by
  constructor <;> (rintro rfl; cases hj)
 refine ⟨fun j hj => ?_,fun i x hi j hj => ?_⟩
 ·obtain ⟨h1,h2⟩ := hg j hj
  simp only [D.men,beq_eq_false_iff_ne]
  omega
 ·have := get_mem hi
  simp only [List.mem_cons,Prod.mk.injEq,List.not_mem_nil,or_false] at this
  rcases this with ⟨_,rfl⟩ | ⟨_,rfl⟩
  ·exact cD_men j M
  ·exact rowC_men j 3 _
theorem mpB_get (lm : Nat) (M : CMemo) (l : List PPl) {j : Nat} {x : Blk} {σ : St} (h1 : get 47 σ.bx = some (.pmap lm (cK M) (cD M))) (h2 : get 77 σ.bx = some (.row 3 (rowC (rows eP l)))) (hj : get j [mpB lm M,rwB l] = some x) : get j σ.bx = some x ∧ x.nb = true := by
 have := get_mem hj
 simp only [List.mem_cons,Prod.mk.injEq,List.not_mem_nil,or_false] at this
 rcases this with ⟨rfl,rfl⟩ | ⟨rfl,rfl⟩
 ·exact ⟨h1,cD_nb M⟩
 ·exact ⟨h2,rowC_nb (n := 3) (rows_nb eP_nb l)⟩
theorem fitsL (lab : Bool) (p : PBs) (b : PBx) (hb : b.ok) (RX RY : List Int) (lm X Y : Nat) : DCall Tryz.prog 77 [sawCL lab p b RX RY lm,rctD X Y] [] (.tup [bD (fitT (bLg b) (bWd b) X Y).1,bD (fitT (bLg b) (bWd b) X Y).2]) [] :=
 DCall.lbl (plFits p b hb RX RY lm X Y) rfl (.ro (.same .nil))
theorem swDs_cD (i j : Nat) (M : CMemo) : swDs i j (cD M) = cD M := by
 induction M with
 | nil => rfl
 | cons q m ih => simp only [cD,List.map_cons,swDs] at ih ⊢; rw [ih]; rfl
theorem cutK (lab : Bool) (p : PBs) (b : PBx) (hb : b.ok) (RX RY : List Int) (nx ny : Nat) (hrx : Rch (bLg b) (bWd b) RX nx) (hry : Rch (bLg b) (bWd b) RY ny) (hnx : nx ≤ 140) (hny : ny ≤ 140) (X Y : Nat) (hX : X ≤ nx) (hY : Y ≤ ny) (M : CMemo) (hM : MOk (bLg b) (bWd b) M) :
  ∃ M',MOk (bLg b) (bWd b) M' ∧ ∀ lm,DCall Tryz.prog 52 [sawCL lab p b RX RY lm,rctD X Y] [mpB lm M] (cutV (cutI (bLg b) (bWd b) X Y)) [mpB lm M'] :=
 ⟨_,(cutM_ok (bLg b) (bWd b) (X + Y + 1) X Y M (by omega) hM).2,fun lm => DCall.renK (k0 := 7) (plCutL lab p b hb RX RY nx ny hrx hry hnx hny lm X Y hX hY M hM) rfl rfl (cD_pl _) (cD_pl _)⟩
def LayC (lab : Bool) (p : PBs) (b : PBx) (RX RY : List Int) (nx ny f : Nat) : Prop := ∀ fx fy x y M,MOk (bLg b) (bWd b) M → x ≤ nx → y ≤ ny → fx + x ≤ 140 → fy + y ≤ 140 → x + y < f →
 ∃ M',MOk (bLg b) (bWd b) M' ∧ ∀ lm,DCall Tryz.prog 53 [sawCL lab p b RX RY lm,rctD fx fy,rctD x y] [mpB lm M] (.own 77) [mpB lm M',rwB (layF (bLg b) (bWd b) f fx fy x y)]
theorem layCl {lm : Nat} {ar : List D} {M M' : CMemo} {l : List PPl} (h : DCall Tryz.prog 53 ar [mpB lm M] (.own 77) [mpB lm M',rwB l]) : DCall Tryz.prog 53 ar [mpB lm M] (.c (.sl false 3 (rows eP l))) [mpB lm M'] := by
 have e : relD 77 (.row 3 (rowC (rows eP l))) (.own 77) = .c (.sl false 3 (rows eP l)) := by
  simp (disch:=omega) only [go_sem,simprocAttr,qN,qO,qP,qQ,relD]
 have := DCall.relM (show (47 : Nat) ≠ 77 by decide) (cD_pl M') (by rw [e]; exact ⟨fun _ _ => rfl,fun j x hj k _ => by
  simp only [get] at hj
  split at hj
  ·cases hj; exact cD_men k M'
  ·cases hj⟩) h
 rwa [e] at this
set_option maxHeartbeats 8000000 in
theorem plLay1 (lab : Bool) (p : PBs) (b : PBx) (hb : b.ok) (RX RY : List Int) (nx ny : Nat) (hrx : Rch (bLg b) (bWd b) RX nx) (hry : Rch (bLg b) (bWd b) RY ny) (hnx : nx ≤ 140) (hny : ny ≤ 140) (f : Nat) (ih : LayC lab p b RX RY nx ny f) : LayC lab p b RX RY nx ny (f + 1) := by
 intro fx fy X Y M hMO hX hY hfx hfy hf
 have hbl := hb.lg
 have hbw := hb.wd
 have hbE : b.lg = ((bLg b : Nat) : Int) := (Int.toNat_of_nonneg (by omega)).symm
 have hbF : b.wd = ((bWd b : Nat) : Int) := (Int.toNat_of_nonneg (by omega)).symm
 have hc : 0 < bWd b := by omega
 have ha : 0 < bLg b := by have := hb.lg; show 0 < b.lg.toNat; omega
 obtain ⟨M1,hM1,hcut⟩ := cutK lab p b hb RX RY nx ny hrx hry hnx hny X Y hX hY M hMO
 rw [layF]
 cases cut_ok (bLg b) (bWd b) X Y with
 | no h0 e =>
  rw [e] at hcut ⊢
  rw [if_pos rfl]
  refine ⟨M1,hM1,fun lm => ?_⟩
  have hcut := hcut lm
  have hcut : DCall Tryz.prog 52 [sawCL lab p b RX RY lm,rctD X Y] [mpB lm M] (.agg [dI 0,dI (-1),dI 0]) [mpB lm M1] := hcut
  refine DCall.of Tryz.func53 sf53 hb53 (Nat.le_of_ble_eq_true rfl) (mpB_ok _ _ _) ?_
  simp only [s53,o53_0,o53_1,o53_2,o53_3,o53_4,o53_5,o53_6,o53_7,idxs,Nat.reduceAdd]
  repeat' (first|(with_reducible first|apply qA|apply qB|apply qC|apply qD|apply qE|apply qF)|(refine qL rfl (WF.of ?_) ?_; first|rfl|skip)|(refine DW.ord rfl (WF.of (by first|rfl|simp (disch:=omega) only [go_sem,simprocAttr,qN,qO,qP,qQ,del,rF,rG])) ?_ ?_ ?_; rotate_left)|rfl|(with_reducible refine And.intro ?_ ?_)|(simp (disch:=omega) only [go_sem,simprocAttr,qN,qO,qP,qQ,del,rF,rG])|exact qM rfl rfl rfl|(refine qG rfl ?_)|(refine call_hk 47 (hcut) rfl rfl rfl (by simp (disch:=omega) only [go_sem,simprocAttr,qN,qO,qP,qQ,del]) (by decide) ?_)|(refine qH rfl ?_)|(refine qI rfl ?_ ?_<;>intro hc<;>(try simp only [go_sem] at hc))|(refine qJ ?_ ?_<;>intro hc<;>(try simp only [hc])<;>(try simp only [go_sem] at hc)))
  refine retS_ent (Ent.adopt 6 77 3 rfl rfl (by simp (disch:=omega) only [go_sem,simprocAttr,qN,qO,qP,qQ,menS])) ?_
  exact retS_bs rfl rfl rfl (fun j x hj => mpB_get lm M1 [] rfl rfl hj)
 | one h0 e =>
  rw [e] at hcut ⊢
  rw [if_neg (by decide)]
  dsimp only
  refine ⟨M1,hM1,fun lm => ?_⟩
  have hcut := hcut lm
  have hcut : DCall Tryz.prog 52 [sawCL lab p b RX RY lm,rctD X Y] [mpB lm M] (.agg [dI 1,dI (-1),dI 0]) [mpB lm M1] := hcut
  have hfits := fitsL lab p b hb RX RY lm X Y
  have hft : fitT (bLg b) (bWd b) X Y = (!(decide (bLg b ≤ X) && decide (bWd b ≤ Y)),true) := by
   rw [fit_rch ha] at h0
   unfold fitT
   unfold fitB at h0
   by_cases h1 : bLg b ≤ X ∧ bWd b ≤ Y
   ·rw [if_pos h1,decide_eq_true h1.1,decide_eq_true h1.2]; rfl
   ·rw [if_neg h1]
    have h3 : (decide (bLg b ≤ X) && decide (bWd b ≤ Y)) = false := by
     rw [Bool.and_eq_false_iff,decide_eq_false_iff_not,decide_eq_false_iff_not]; omega
    rw [h3,Bool.false_or,Bool.and_eq_true,decide_eq_true_eq,decide_eq_true_eq] at h0
    rw [if_pos h0,h3]; rfl
  rw [hft] at hfits
  generalize (!(decide (bLg b ≤ X) && decide (bWd b ≤ Y))) = tn at *
  refine DCall.of Tryz.func53 sf53 hb53 (Nat.le_of_ble_eq_true rfl) (mpB_ok _ _ _) ?_
  simp only [s53,o53_0,o53_1,o53_2,o53_3,o53_4,o53_5,o53_6,o53_7,idxs,Nat.reduceAdd]
  repeat' (first|(with_reducible first|apply qA|apply qB|apply qC|apply qD|apply qE|apply qF)|(refine qL rfl (WF.of ?_) ?_; first|rfl|skip)|(refine DW.ord rfl (WF.of (by first|rfl|simp (disch:=omega) only [go_sem,simprocAttr,qN,qO,qP,qQ,del,rF,rG])) ?_ ?_ ?_; rotate_left)|rfl|(with_reducible refine And.intro ?_ ?_)|(simp (disch:=omega) only [go_sem,simprocAttr,qN,qO,qP,qQ,del,rF,rG])|exact qM rfl rfl rfl|(refine qG rfl ?_)|(refine call_hk 47 (hcut) rfl rfl rfl (by simp (disch:=omega) only [go_sem,simprocAttr,qN,qO,qP,qQ,del]) (by decide) ?_)|(refine qK (hfits) (by decide) ?_)|(refine qH rfl ?_)|(refine qI rfl ?_ ?_<;>intro hc<;>(try simp only [go_sem] at hc))|(refine qJ ?_ ?_<;>intro hc<;>(try simp only [hc])<;>(try simp only [go_sem] at hc)))
  refine retS_ent (Ent.swk 38 77) ?_
  simp (disch:=omega) only [go_sem,simprocAttr,qN,qO,qP,qQ,swT,swX,swD,swDs,swB,swk,swDs_cD]
  exact retS_bs rfl rfl rfl (fun j x hj => mpB_get lm M1 [⟨fx,fy,tn⟩] rfl rfl hj)
 | two l h0 hln hl h1 e2 =>
  have hn : ¬ (cutI (bLg b) (bWd b) X Y).n = 0 := by
   have : 1 ≤ (cutI (bLg b) (bWd b) X Y).n := h1
   omega
  rw [if_neg hn,hln]
  dsimp only
  have hl1 := rch_le (bLg b) (bWd b) X
  have hl2 := rch_le (bLg b) (bWd b) Y
  have hgx := hrx.get X hX
  have hgy := hry.get Y hY
  have hlx := hrx.len
  have hly := hry.len
  have hiX : (X < nx + 1) = True := eq_true (by omega)
  have hiY : (Y < ny + 1) = True := eq_true (by omega)
  have hls := ln_less hl
  obtain ⟨ho,ht,hh⟩ := one_le (lns_mem.2 hl)
  have hparts := plLnParts (rchF (bLg b) (bWd b) X) (rchF (bLg b) (bWd b) Y) l (by omega) (by omega) hh
  obtain ⟨M2,hM2,hlay1⟩ := ih fx fy (oneF (rchF (bLg b) (bWd b) X) (rchF (bLg b) (bWd b) Y) l).1 (oneF (rchF (bLg b) (bWd b) X) (rchF (bLg b) (bWd b) Y) l).2 M1 hM1 (by omega) (by omega) (by omega) (by omega) (by omega)
  have hft : fx + (if l.1 then 0 else l.2) + (twoF (rchF (bLg b) (bWd b) X) (rchF (bLg b) (bWd b) Y) l).1 ≤ 140 ∧ fy + (if l.1 then l.2 else 0) + (twoF (rchF (bLg b) (bWd b) X) (rchF (bLg b) (bWd b) Y) l).2 ≤ 140 := by
   obtain ⟨s,v⟩ := l
   cases s <;> simp [twoF] at hh ht ⊢ <;> omega
  obtain ⟨M3,hM3,hlay2⟩ := ih (fx + if l.1 then 0 else l.2) (fy + if l.1 then l.2 else 0) (twoF (rchF (bLg b) (bWd b) X) (rchF (bLg b) (bWd b) Y) l).1 (twoF (rchF (bLg b) (bWd b) X) (rchF (bLg b) (bWd b) Y) l).2 M2 hM2 (by omega) (by omega) hft.1 hft.2 (by omega)
  refine ⟨M3,hM3,fun lm => ?_⟩
  have hcut := hcut lm
  have hlay1 := hlay1 lm
  have hlay2 := layCl (hlay2 lm)
  have hlS : lnS (cutI (bLg b) (bWd b) X Y).ln = sdI l.1 := by rw [hln]; rfl
  have hlA : lnA (cutI (bLg b) (bWd b) X Y).ln = l.2 := by rw [hln]; rfl
  rw [cutV,hlS,hlA] at hcut
  have hz : (((cutI (bLg b) (bWd b) X Y).n : Int) == 0) = false := by rw [beq_eq_false_iff_ne]; omega
  generalize (cutI (bLg b) (bWd b) X Y).n = cn at *
  clear hln hlS hlA h1 e2 ih h0
  have hsm1 : (layF (bLg b) (bWd b) f fx fy (oneF (rchF (bLg b) (bWd b) X) (rchF (bLg b) (bWd b) Y) l).1 (oneF (rchF (bLg b) (bWd b) X) (rchF (bLg b) (bWd b) Y) l).2).length ≤ 19600 := by
   rw [(lay_ok ha hbE hbF f fx fy _ _ (by omega)).1]
   exact mst_xy ha hc (by omega) (by omega)
  have hsm2 : (layF (bLg b) (bWd b) f (fx + if l.1 then 0 else l.2) (fy + if l.1 then l.2 else 0) (twoF (rchF (bLg b) (bWd b) X) (rchF (bLg b) (bWd b) Y) l).1 (twoF (rchF (bLg b) (bWd b) X) (rchF (bLg b) (bWd b) Y) l).2).length ≤ 19600 := by
   rw [(lay_ok ha hbE hbF f _ _ _ _ (by omega)).1]
   exact mst_xy ha hc (by omega) (by omega)
  clear hls ho ht
  generalize layF (bLg b) (bWd b) f fx fy (oneF (rchF (bLg b) (bWd b) X) (rchF (bLg b) (bWd b) Y) l).1 (oneF (rchF (bLg b) (bWd b) X) (rchF (bLg b) (bWd b) Y) l).2 = L1 at *
  generalize layF (bLg b) (bWd b) f (fx + if l.1 then 0 else l.2) (fy + if l.1 then l.2 else 0) (twoF (rchF (bLg b) (bWd b) X) (rchF (bLg b) (bWd b) Y) l).1 (twoF (rchF (bLg b) (bWd b) X) (rchF (bLg b) (bWd b) Y) l).2 = L2 at *
  generalize (oneF (rchF (bLg b) (bWd b) X) (rchF (bLg b) (bWd b) Y) l).1 = o1 at *
  generalize (oneF (rchF (bLg b) (bWd b) X) (rchF (bLg b) (bWd b) Y) l).2 = o2 at *
  generalize (twoF (rchF (bLg b) (bWd b) X) (rchF (bLg b) (bWd b) Y) l).1 = q1 at *
  generalize (twoF (rchF (bLg b) (bWd b) X) (rchF (bLg b) (bWd b) Y) l).2 = q2 at *
  generalize rchF (bLg b) (bWd b) X = X' at *
  generalize rchF (bLg b) (bWd b) Y = Y' at *
  refine DCall.of Tryz.func53 sf53 hb53 (Nat.le_of_ble_eq_true rfl) (mpB_ok _ _ _) ?_
  simp only [s53,o53_0,o53_1,o53_2,o53_3,o53_4,o53_5,o53_6,o53_7,idxs,Nat.reduceAdd]
  obtain ⟨s,v⟩ := l
  dsimp only at *
  have hv : v ≤ 140 := by cases s <;> simp at hh <;> omega
  clear hh hl
  have hsml : small (L1.length + L2.length) 24 = True := small_true ⟨by omega,by decide⟩
  have hsm : (((sdI s) : Int) == -1) = false := by cases s <;> rfl
  repeat' (first|(with_reducible first|apply qA|apply qB|apply qC|apply qD|apply qE|apply qF)|(refine qL rfl (WF.of ?_) ?_; first|rfl|skip)|(refine DW.ord rfl (WF.of (by first|rfl|simp (disch:=omega) only [go_sem,simprocAttr,qN,qO,qP,qQ,del,rF,rG,hz,hsm])) ?_ ?_ ?_; rotate_left)|rfl|(with_reducible refine And.intro ?_ ?_)|(simp (disch:=omega) only [go_sem,simprocAttr,qN,qO,qP,qQ,del,rF,rG,hz,hsm])|exact qM rfl rfl rfl|(refine qG rfl ?_)|(refine call_hk 47 (hcut) rfl rfl rfl (by simp (disch:=omega) only [go_sem,simprocAttr,qN,qO,qP,qQ,del]) (by decide) ?_)|(refine qH rfl ?_)|(refine qI rfl ?_ ?_<;>intro hc<;>(try simp only [go_sem] at hc))|(refine qJ ?_ ?_<;>intro hc<;>(try simp only [hc])<;>(try simp only [go_sem] at hc)))
  obtain ⟨r0,hr0⟩ : ∃ r : Nat → Nat,r 0 = X ∧ r 1 = X' ∧ r 2 = X' := ⟨fun k => if k = 0 then X else X',rfl,rfl,rfl⟩
  obtain ⟨r1,hr1⟩ : ∃ r : Nat → Nat,r 0 = Y ∧ r 1 = Y ∧ r 2 = Y' := ⟨fun k => if k ≤ 1 then Y else Y',rfl,rfl,rfl⟩
  refine DW.loop (ι := { k : Nat // k ≤ 2 }) (fun k => ⟨83,[(39,dI k.1),(7,.box 7 0),(5,.box 5 0),(4,.box 4 0),(0,sawCL lab p b RX RY lm)],[mpB lm M1,(7,.box [dI cn,dI (sdI s),dI v]),(5,.box [dI (r0 k.1),dI (r1 k.1)]),(4,.box [dI fx,dI fy])]⟩) (fun k => 2 - k.1) ⟨0,by decide⟩ ?_ ?_
  ·refine Ent.to ?_ ?_ <;> simp (disch:=omega) only [qR,qS,qT,qU,get,Nat.reduceEqDiff,↓reduceIte,qV,qW,qX,qY,qZ,and_self,dI,i64_in,and_true,true_and,rA,rB,rC,rD,hr0.1,hr1.1]
   all_goals first | exact ⟨.refl _,.refl _,.refl _⟩ | exact ⟨.refl _,.refl _⟩ | exact .refl _
  rintro ⟨k,hk⟩
  dsimp only
  match k,hk with
  | 0,_ =>
   rw [hr0.1,hr1.1]
   repeat' (first|(with_reducible first|apply qA|apply qB|apply qC|apply qD|apply qE|apply qF)|(refine qL rfl (WF.of ?_) ?_; first|rfl|skip)|(refine DW.ord rfl (WF.of (by first|rfl|simp (disch:=omega) only [go_sem,simprocAttr,qN,qO,qP,qQ,hgx,hlx,hiX,rF,rG])) ?_ ?_ ?_; rotate_left)|rfl|(with_reducible refine And.intro ?_ ?_)|(simp (disch:=omega) only [go_sem,simprocAttr,qN,qO,qP,qQ,hgx,hlx,hiX,rF,rG])|exact qM rfl rfl rfl|(refine qG rfl ?_)|(refine qH rfl ?_)|(refine qI rfl ?_ ?_<;>intro hc<;>(try simp only [go_sem] at hc))|(refine qJ ?_ ?_<;>intro hc<;>(try simp only [hc])<;>(try simp only [go_sem] at hc)))
   refine ⟨⟨1,by decide⟩,?_,Ent.to ?_ ?_⟩ <;> first | (show _ < _; (try simp only); omega) | (simp (disch:=omega) only [qR,qS,qT,qU,get,Nat.reduceEqDiff,↓reduceIte,qV,qW,qX,qY,qZ,and_self,dI,i64_in,and_true,true_and,rA,rB,rC,rD,hr0.2.1,hr1.2.1])
   all_goals first | exact ⟨.refl _,.refl _,.refl _⟩ | exact ⟨.refl _,.refl _⟩ | exact .refl _
  | 1,_ =>
   rw [hr0.2.1,hr1.2.1]
   repeat' (first|(with_reducible first|apply qA|apply qB|apply qC|apply qD|apply qE|apply qF)|(refine qL rfl (WF.of ?_) ?_; first|rfl|skip)|(refine DW.ord rfl (WF.of (by first|rfl|simp (disch:=omega) only [go_sem,simprocAttr,qN,qO,qP,qQ,hgy,hly,hiY,rF,rG])) ?_ ?_ ?_; rotate_left)|rfl|(with_reducible refine And.intro ?_ ?_)|(simp (disch:=omega) only [go_sem,simprocAttr,qN,qO,qP,qQ,hgy,hly,hiY,rF,rG])|exact qM rfl rfl rfl|(refine qG rfl ?_)|(refine qH rfl ?_)|(refine qI rfl ?_ ?_<;>intro hc<;>(try simp only [go_sem] at hc))|(refine qJ ?_ ?_<;>intro hc<;>(try simp only [hc])<;>(try simp only [go_sem] at hc)))
   refine ⟨⟨2,by decide⟩,?_,Ent.to ?_ ?_⟩ <;> first | (show _ < _; (try simp only); omega) | (simp (disch:=omega) only [qR,qS,qT,qU,get,Nat.reduceEqDiff,↓reduceIte,qV,qW,qX,qY,qZ,and_self,dI,i64_in,and_true,true_and,rA,rB,rC,rD,hr0.2.2,hr1.2.2])
   all_goals first | exact ⟨.refl _,.refl _,.refl _⟩ | exact ⟨.refl _,.refl _⟩ | exact .refl _
  | 2,_ =>
   rw [hr0.2.2,hr1.2.2]
   clear hr0 hr1 hgx hgy hlx hly hiX hiY
   cases s with
   | false =>
    have hparts : DCall Tryz.prog 79 [.agg [dI 0,dI v],rctD X' Y'] [] (.tup [rctD o1 o2,rctD q1 q2]) [] := hparts
    have hlay2 : DCall Tryz.prog 53 [sawCL lab p b RX RY lm,.agg [dI ((fx : Int) + v),dI fy],rctD q1 q2] [mpB lm M2] (.c (.sl false 3 (rows eP L2))) [mpB lm M3] := hlay2
    have hs0 : sdI false = 0 := rfl
    repeat' (first|(with_reducible first|apply qA|apply qB|apply qC|apply qD|apply qE|apply qF)|(refine qL rfl (WF.of ?_) ?_; first|rfl|skip)|(refine DW.ord rfl (WF.of (by first|rfl|simp (disch:=omega) only [go_sem,simprocAttr,qN,qO,qP,qQ,del,rF,rG,cD_keys,hs0,hsml])) ?_ ?_ ?_; rotate_left)|rfl|(with_reducible refine And.intro ?_ ?_)|(simp (disch:=omega) only [go_sem,simprocAttr,qN,qO,qP,qQ,del,rF,rG,cD_keys,hs0,hsml])|exact qM rfl rfl rfl|(refine qG rfl ?_)|(refine call_hk2 47 (hlay1) rfl rfl rfl (by simp (disch:=omega) only [go_sem,simprocAttr,qN,qO,qP,qQ,del]) rfl (by simp (disch:=omega) only [go_sem,simprocAttr,qN,qO,qP,qQ,del]) (by decide) ?_)|(refine call_hk 47 (hlay2) rfl rfl rfl (by simp (disch:=omega) only [go_sem,simprocAttr,qN,qO,qP,qQ,del]) (by decide) ?_)|(refine qK (hparts) (by decide) ?_)|(refine qH rfl ?_)|(refine qI rfl ?_ ?_<;>intro hc<;>(try simp only [go_sem] at hc))|(refine qJ ?_ ?_<;>intro hc<;>(try simp only [hc])<;>(try simp only [go_sem] at hc)))
    exact retS_bs rfl rfl rfl (fun j x hj => mpB_get lm M3 (L1 ++ L2) rfl rfl hj)
   | true =>
    have hparts : DCall Tryz.prog 79 [.agg [dI 1,dI v],rctD X' Y'] [] (.tup [rctD o1 o2,rctD q1 q2]) [] := hparts
    have hlay2 : DCall Tryz.prog 53 [sawCL lab p b RX RY lm,.agg [dI fx,dI ((fy : Int) + v)],rctD q1 q2] [mpB lm M2] (.c (.sl false 3 (rows eP L2))) [mpB lm M3] := hlay2
    have hs0 : sdI true = 1 := rfl
    repeat' (first|(with_reducible first|apply qA|apply qB|apply qC|apply qD|apply qE|apply qF)|(refine qL rfl (WF.of ?_) ?_; first|rfl|skip)|(refine DW.ord rfl (WF.of (by first|rfl|simp (disch:=omega) only [go_sem,simprocAttr,qN,qO,qP,qQ,del,rF,rG,cD_keys,hs0,hsml])) ?_ ?_ ?_; rotate_left)|rfl|(with_reducible refine And.intro ?_ ?_)|(simp (disch:=omega) only [go_sem,simprocAttr,qN,qO,qP,qQ,del,rF,rG,cD_keys,hs0,hsml])|exact qM rfl rfl rfl|(refine qG rfl ?_)|(refine call_hk2 47 (hlay1) rfl rfl rfl (by simp (disch:=omega) only [go_sem,simprocAttr,qN,qO,qP,qQ,del]) rfl (by simp (disch:=omega) only [go_sem,simprocAttr,qN,qO,qP,qQ,del]) (by decide) ?_)|(refine call_hk 47 (hlay2) rfl rfl rfl (by simp (disch:=omega) only [go_sem,simprocAttr,qN,qO,qP,qQ,del]) (by decide) ?_)|(refine qK (hparts) (by decide) ?_)|(refine qH rfl ?_)|(refine qI rfl ?_ ?_<;>intro hc<;>(try simp only [go_sem] at hc))|(refine qJ ?_ ?_<;>intro hc<;>(try simp only [hc])<;>(try simp only [go_sem] at hc)))
    exact retS_bs rfl rfl rfl (fun j x hj => mpB_get lm M3 (L1 ++ L2) rfl rfl hj)
theorem plLay (lab : Bool) (p : PBs) (b : PBx) (hb : b.ok) (RX RY : List Int) (nx ny : Nat) (hrx : Rch (bLg b) (bWd b) RX nx) (hry : Rch (bLg b) (bWd b) RY ny) (hnx : nx ≤ 140) (hny : ny ≤ 140) : ∀ f,LayC lab p b RX RY nx ny f
 | 0 => fun _ _ _ _ _ _ _ _ _ _ h => by omega
 | f + 1 => plLay1 lab p b hb RX RY nx ny hrx hry hnx hny f (plLay lab p b hb RX RY nx ny hrx hry hnx hny f)
end Go.Dw.Seat
end
section
set_option linter.unusedSimpArgs false
set_option maxRecDepth 100000
namespace Go.Dw.Seat
open Go Go.Dw Go.Proofs Go.IntWalk
def layX (p : PBs) (b : PBx) : List PPl := if chkE p b = 0 then layF (bLg b) (bWd b) (rxN p + ryN p + 1) 0 0 (rxN p) (ryN p) else []
def layD (p : PBs) (b : PBx) : D := if chkE p b = 0 then lyD false (layX p b) else .c nilC
abbrev sawB47 (p : PBs) (b : PBx) (RX RY : List Int) : List (Nat × Blk) := [(9,.box [dI p.lg,dI p.wd,dI p.hi,dI p.ov,dI p.top,dI p.load,dI b.lg,dI b.wd,dI b.hi,dI b.wl,dI b.wh,dI b.sl,dI b.sh,.c (.sl false 1 (rows eI RX)),.c (.sl false 1 (rows eI RY)),.hd 47]),(47,.map [] [])]
theorem sawB47_ok (p : PBs) (b : PBx) (RX RY : List Int) : okRes (.box 9 0) (sawB47 p b RX RY) := by
 have hg : ∀ j,get j (sawB47 p b RX RY) = none → j ≠ 9 ∧ j ≠ 47 := fun j hj => by
  constructor <;> (rintro rfl; cases hj)
 refine ⟨fun j hj => ?_,fun i x hi j hj => ?_⟩
 ·obtain ⟨h1,h2⟩ := hg j hj
  simp only [D.men,D.mens,Bool.or_false,beq_eq_false_iff_ne]
  omega
 ·obtain ⟨h1,h2⟩ := hg j hj
  have := get_mem hi
  simp only [List.mem_cons,Prod.mk.injEq,List.not_mem_nil,or_false] at this
  rcases this with ⟨_,rfl⟩ | ⟨_,rfl⟩
  ·simp only [Blk.men,D.men,D.mens,Bool.or_false,Bool.false_or,beq_eq_false_iff_ne]
   omega
  ·rfl
theorem plNewSaw47 (p : PBs) (b : PBx) (hp : p.ok) (hb : b.ok) : DCall Tryz.prog 51 [bedD p b] [] (.box 9 0) (sawB47 p b (rcL (bLg b) (bWd b) (rxN p)) (rcL (bLg b) (bWd b) (ryN p))) :=
 DCall.swap 7 47 (r := .box 9 0) (bo := sawBs p b (rcL (bLg b) (bWd b) (rxN p)) (rcL (bLg b) (bWd b) (ryN p))) (sawB47_ok p b _ _) (plNewSaw p b hp hb)
set_option maxHeartbeats 8000000 in
theorem plLayX (p : PBs) (b : PBx) : DCall Tryz.prog 23 [bsD p,bxD b] [] (.tup [layD p b,dI (chkE p b)]) [] := by
 have h0 := plCheck p b
 unfold layD layX
 by_cases hc : chkE p b = 0
 ·obtain ⟨hp,hb⟩ := chk_ok.1 hc
  rw [if_pos hc,if_pos hc]
  rw [hc] at h0 ⊢
  have hr := plRoom p b hp
  obtain ⟨hx,hy⟩ := rm_in hp
  have hX : rmX p = ((rxN p : Nat) : Int) := (Int.toNat_of_nonneg hx.1).symm
  have hY : rmY p = ((ryN p : Nat) : Int) := (Int.toNat_of_nonneg hy.1).symm
  have hnX : rxN p ≤ 140 := by show (rmX p).toNat ≤ 140; omega
  have hnY : ryN p ≤ 140 := by show (rmY p).toNat ≤ 140; omega
  rw [hX,hY] at hr
  have hsaw := plNewSaw47 p b hp hb
  obtain ⟨M1,_,hlay⟩ := plLay true p b hb _ _ _ _ (rcL_ok (bLg b) (bWd b) (rxN p)) (rcL_ok (bLg b) (bWd b) (ryN p)) hnX hnY (rxN p + ryN p + 1) 0 0 (rxN p) (ryN p) [] (mok_nil _ _) (Nat.le_refl _) (Nat.le_refl _) (by omega) (by omega) (by omega)
  generalize rcL (bLg b) (bWd b) (rxN p) = L1 at *
  generalize rcL (bLg b) (bWd b) (ryN p) = L2 at *
  generalize layF (bLg b) (bWd b) (rxN p + ryN p + 1) 0 0 (rxN p) (ryN p) = R at *
  generalize rxN p = nx at *
  generalize ryN p = ny at *
  have hlay' : ∀ lm,DCall Tryz.prog 53 [sawCL true p b L1 L2 lm,.agg [dI 0,dI 0],rctD nx ny] [(47,pinO lm (pinB 47 lm (.map [] [])))] (pinD 47 lm (.c (.sl false 3 (rows eP R)))) [(47,pinO lm (pinB 47 lm (.map (cK M1) (cD M1))))] := fun lm => by
   have h := layCl (hlay lm)
   show DCall Tryz.prog 53 _ _ _ [(47,.pmap lm (cK M1) (pinDs 47 lm (cD M1)))]
   rw [pinDs_cD]
   exact h
  refine DCall.of Tryz.func23 sf23 hb23 (Nat.le_of_ble_eq_true rfl) (okRes_nil fun _ => rfl) ?_; simp only [s23,o23_0,o23_1,o23_2,o23_3,o23_4,o23_5,idxs,Nat.reduceAdd]
  repeat' (first|(with_reducible first|apply qA|apply qB|apply qC|apply qD|apply qE|apply qF)|(refine DW.ord rfl (WF.of (by first|rfl|simp (disch:=omega) only [go_sem,simprocAttr,qN,qO,qP,qQ,del,cD_keys])) ?_ ?_ ?_; rotate_left)|rfl|(with_reducible refine And.intro ?_ ?_)|(simp (disch:=omega) only [go_sem,simprocAttr,qN,qO,qP,qQ,del,cD_keys])|exact qM rfl rfl rfl|(refine qG rfl ?_)|(refine qK (h0) (by decide) ?_)|(refine call_b (hsaw) ⟨⟨trivial,rfl,rfl,rfl⟩,rfl,rfl,rfl⟩ (by decide) ?_; simp only [St.addBs,St.putB,St.putO,St.put])|(refine qK (hr) (by decide) ?_)|(refine call_hp1 47 (fun lm => hlay' lm) rfl rfl rfl (fun _ => rfl) (fun _ => rfl) (fun _ => by simp (disch:=omega) only [go_sem,simprocAttr,qN,qO,qP,qQ,del,pinT,pinX,pinD,pinDs,pinB,pinO,Nat.reduceEqDiff,if_false,if_true]) (by decide) ?_)|(refine qH rfl ?_)|(refine qI rfl ?_ ?_<;>intro hc<;>(try simp only [go_sem] at hc))|(refine qJ ?_ ?_<;>intro hc<;>(try simp only [hc])<;>(try simp only [go_sem] at hc)))
  refine retS_wk rfl ?_ (by simp only [Blk.nb,rowC_nb,D.nb,D.nbs,C.nb,C.nbs,C.nbss,rows_nb eI_nb,Bool.and_true,Bool.not_false,Bool.and_self,bD,dI,iD,rows_nb eP_nb]); exact .refl _
 ·have h2 := chk_two hc
  rw [if_neg hc]
  rw [h2] at h0 ⊢
  refine DCall.of Tryz.func23 sf23 hb23 (Nat.le_of_ble_eq_true rfl) (okRes_nil fun _ => rfl) ?_; simp only [s23,o23_0,o23_1,o23_2,o23_3,o23_4,o23_5,idxs,Nat.reduceAdd]
  repeat' (first|(with_reducible first|apply qA|apply qB|apply qC|apply qD|apply qE|apply qF)|(refine DW.ord rfl (WF.of (by first|rfl|simp (disch:=omega) only [go_sem,simprocAttr,qN,qO,qP,qQ])) ?_ ?_ ?_; rotate_left)|rfl|(with_reducible refine And.intro ?_ ?_)|(simp (disch:=omega) only [go_sem,simprocAttr,qN,qO,qP,qQ])|exact qM rfl rfl rfl|(refine qG rfl ?_)|(refine qK (h0) (by decide) ?_)|(refine qH rfl ?_)|(refine qI rfl ?_ ?_<;>intro hc<;>(try simp only [go_sem] at hc))|(refine qJ ?_ ?_<;>intro hc<;>(try simp only [hc])<;>(try simp only [go_sem] at hc)))
end Go.Dw.Seat
end
section
set_option linter.unusedSimpArgs false
set_option maxRecDepth 100000
namespace Go.Dw.Seat
open Go Go.Dw Go.Proofs Go.IntWalk
def cells (xs : List Int) : List D := xs.map fun x => dI x
def tops (m : Nat) : List D := List.replicate m .top
theorem cells_get {xs : List Int} {m i : Nat} (h : i < xs.length) : (cells xs ++ tops m)[i]? = some (dI (xs.getD i 0)) := by
 rw [List.getElem?_append_left (by simpa [cells] using h),cells,List.getElem?_map,List.getElem?_eq_getElem h,List.getD_eq_getElem?_getD,List.getElem?_eq_getElem h]
 rfl
theorem cells_set {xs : List Int} {m i : Nat} (h : i < xs.length) (v : Int) : (cells xs ++ tops m).set i (D.c (.v (.int .i64 v))) = cells (xs.set i v) ++ tops m := by
 rw [List.set_append_left _ _ (by simpa [cells] using h),cells,cells,List.map_set]
theorem cells_spl {xs : List Int} {m i : Nat} (h : i < xs.length) (v : Int) : List.take i (cells xs ++ tops m) ++ [D.c (.v (.int .i64 v))] ++ List.drop (i + 1) (cells xs ++ tops m) = cells (xs.set i v) ++ tops m := by
 rw [← cells_set h,List.set_eq_take_append_cons_drop,if_pos (by rw [List.length_append]; have : (cells xs).length = xs.length := (by simp [cells]); omega),List.append_assoc]; rfl
theorem cells_len (xs : List Int) (m : Nat) : (cells xs ++ tops m).length = xs.length + m := by simp [cells,tops]
theorem cells_men (j : Nat) (xs : List Int) (m : Nat) : D.mens j (cells xs ++ tops m) = false := by
 induction xs with
 | nil =>
  show D.mens j (tops m) = false
  induction m with
  | zero => rfl
  | succ m ih => simpa [tops,List.replicate_succ,D.mens,D.men] using ih
 | cons x xs ih => simpa [cells,D.mens,D.men,dI] using ih
theorem cells_nb (xs : List Int) (m : Nat) : D.nbs (cells xs ++ tops m) = true := by
 induction xs with
 | nil =>
  show D.nbs (tops m) = true
  induction m with
  | zero => rfl
  | succ m ih => simp only [tops,List.replicate_succ,D.nbs,Bool.and_eq_true]; exact ⟨rfl,ih⟩
 | cons x xs ih => simp only [cells,List.map_cons,List.cons_append,D.nbs,Bool.and_eq_true]; exact ⟨rfl,ih⟩
theorem cells_keys (bx : List (Nat × Blk)) (xs : List Int) (m : Nat) : D.keysIns bx (cells xs ++ tops m) = true := by
 induction xs with
 | nil =>
  show D.keysIns bx (tops m) = true
  induction m with
  | zero => rfl
  | succ m ih => simpa [tops,List.replicate_succ,D.keysIns,D.keysIn] using ih
 | cons x xs ih => simpa [cells,D.keysIns,D.keysIn,dI] using ih
theorem bk_pbx (bx : List (Nat × Blk)) (l : Nat) (ds : List D) : Blk.keysIn bx (.pbox l ds) = D.keysIns bx ds := rfl
theorem bm_pbx (k l : Nat) (ds : List D) : Blk.men k (.pbox l ds) = D.mens k ds := rfl
attribute [go_sem] cells_keys bk_pbx bm_pbx cells_men
theorem flatI (xs : List Int) : (rowC (rows eI xs)).flatten = cells xs := by
 induction xs with
 | nil => rfl
 | cons x xs ih => simp only [rows,rowC,List.map_cons,List.flatten_cons] at ih ⊢; rw [ih]; rfl
def swp1 (xs : List Int) (i j : Nat) : List Int := (xs.set i (xs.getD j 0)).set j (xs.getD i 0)
def swpN (lo L : Nat) : Nat → List Int → List Int
 | 0,xs => xs
 | k + 1,xs => swp1 (swpN lo L k xs) (lo + k) (lo + L - 1 - k)
theorem swpN_len (lo L : Nat) (xs : List Int) : ∀ k,(swpN lo L k xs).length = xs.length
 | 0 => rfl
 | k + 1 => by rw [swpN,swp1,List.length_set,List.length_set,swpN_len lo L xs k]
def revF (lo L : Nat) (xs : List Int) : List Int := swpN lo L (L / 2) xs
theorem pb_ok (k l : Nat) (xs : List Int) (m : Nat) : okRes (.tup []) [(k,.pbox l (cells xs ++ tops m))] := by
 refine ⟨fun _ _ => rfl,fun j x hj i _ => ?_⟩
 simp only [get] at hj
 split at hj
 ·cases hj; exact cells_men i xs m
 ·cases hj
theorem pb_nb (k l : Nat) (xs : List Int) (m : Nat) {j : Nat} {x : Blk} (hk : get j [(k,Blk.pbox l (cells xs ++ tops m))] = some x) : j = k ∧ x = .pbox l (cells xs ++ tops m) ∧ x.nb = true := by
 simp only [get] at hk
 split at hk
 ·rename_i e; cases hk; exact ⟨e,rfl,cells_nb xs m⟩
 ·cases hk
theorem plReverse (l lo L cap m : Nat) (xs : List Int) (hx : xs.length ≤ 7) (hl : lo + L = xs.length) (hc : L ≤ cap) : DCall Tryz.prog 90 [.c (.v (.slice (some ⟨l,lo,none⟩) L cap))] [(9,.pbox l (cells xs ++ tops m))] (.tup []) [(9,.pbox l (cells (revF lo L xs) ++ tops m))] := by
 refine DCall.of Tryz.func90 sf90 hb90 (Nat.le_of_ble_eq_true rfl) (pb_ok _ _ _ _) ?_
 simp only [s90,o90_0,o90_1,o90_2,o90_3,o90_4,o90_5,o90_6,o90_7,o90_8,o90_9,o90_10,o90_11,o90_12,o90_13,o90_14,o90_15,idxs,Nat.reduceAdd]
 repeat' (first|(with_reducible first|apply qA|apply qB|apply qC|apply qD|apply qE|apply qF)|(refine DW.ord rfl (WF.of (by first|rfl|simp (disch:=omega) only [go_sem,simprocAttr,qN,qO,qP,qQ])) ?_ ?_ ?_; rotate_left)|rfl|(with_reducible refine And.intro ?_ ?_)|(simp (disch:=omega) only [go_sem,simprocAttr,qN,qO,qP,qQ])|exact qM rfl rfl rfl|(refine qG rfl ?_)|(refine qH rfl ?_)|(refine qI rfl ?_ ?_<;>intro hc<;>(try simp only [go_sem] at hc))|(refine qJ ?_ ?_<;>intro hc<;>(try simp only [hc])<;>(try simp only [go_sem] at hc)))
 refine DW.loop (ι := { i : Nat // i ≤ L / 2 }) (fun i => ⟨28,[(3,dI ((L : Int) - 1 - i.1)),(2,dI i.1),(0,.c (.v (.slice (some ⟨l,lo,none⟩) L cap)))],[(9,.pbox l (cells (swpN lo L i.1 xs) ++ tops m))]⟩) (fun i => L / 2 - i.1) ⟨0,Nat.zero_le _⟩ ?_ ?_
 ·refine Ent.to ?_ ?_ <;> simp (disch:=omega) only [qR,qS,qT,qU,get,Nat.reduceEqDiff,↓reduceIte,qV,qW,qX,qY,qZ,and_self,dI,i64_in,and_true,true_and,rA,rB,rC,rD,swpN,Int.sub_zero]
  all_goals first | exact ⟨.refl _,.refl _,.refl _⟩ | exact ⟨.refl _,.refl _⟩ | exact .refl _
 rintro ⟨i,hi⟩
 dsimp only
 by_cases hlt : i < L / 2
 ·have hj : (L : Int) - 1 - (i : Int) = ((L - 1 - i : Nat) : Int) := by omega
  have hd : decide ((i : Int) < ((L - 1 - i : Nat) : Int)) = true := decide_eq_true (by omega)
  have hlen := swpN_len lo L xs i
  have hst : swpN lo L (i + 1) xs = swp1 (swpN lo L i xs) (lo + i) (lo + L - 1 - i) := rfl
  have hjj : lo + L - 1 - i = lo + (L - 1 - i) := by omega
  rw [hjj] at hst
  have h1 := cells_get (xs := swpN lo L i xs) (m := m) (i := lo + i) (by omega)
  have h2 := cells_get (xs := swpN lo L i xs) (m := m) (i := lo + (L - 1 - i)) (by omega)
  have h3 := cells_len (swpN lo L i xs) m
  generalize swpN lo L i xs = ys at *
  have h4 := fun v => cells_spl (xs := ys) (m := m) (i := lo + i) (by omega) v
  have h5 := fun v w => cells_spl (xs := ys.set (lo + i) v) (m := m) (i := lo + (L - 1 - i)) (by rw [List.length_set]; omega) w
  have h6 := fun v => cells_get (xs := ys.set (lo + i) v) (m := m) (i := lo + (L - 1 - i)) (by rw [List.length_set]; omega)
  have h7 := fun v => cells_len (ys.set (lo + i) v) m
  have b1 : (i < L) = True := eq_true (by omega)
  have b2 : (L - 1 - i < L) = True := eq_true (by omega)
  have c1 : (lo + i + 1 ≤ ys.length + m) = True := eq_true (by omega)
  have c2 : (lo + (L - 1 - i) + 1 ≤ ys.length + m) = True := eq_true (by omega)
  rw [hj]
  generalize L - 1 - i = j at *
  repeat' (first|(with_reducible first|apply qA|apply qB|apply qC|apply qD|apply qE|apply qF)|(refine DW.ord rfl (WF.of (by first|rfl|simp (disch:=omega) only [go_sem,simprocAttr,qN,qO,qP,qQ,Nat.mul_one,hd,h1,h2,h3,h4,h5,h6,h7,b1,b2,c1,c2,List.length_set])) ?_ ?_ ?_; rotate_left)|rfl|(with_reducible refine And.intro ?_ ?_)|(simp (disch:=omega) only [go_sem,simprocAttr,qN,qO,qP,qQ,Nat.mul_one,hd,h1,h2,h3,h4,h5,h6,h7,b1,b2,c1,c2,List.length_set])|exact qM rfl rfl rfl|(refine qG rfl ?_)|(refine qH rfl ?_)|(refine qI rfl ?_ ?_<;>intro hc<;>(try simp only [go_sem] at hc))|(refine qJ ?_ ?_<;>intro hc<;>(try simp only [hc])<;>(try simp only [go_sem] at hc)))
  have hst2 : swpN lo L (i + 1) xs = (ys.set (lo + i) (ys.getD (lo + j) 0)).set (lo + j) (ys.getD (lo + i) 0) := hst
  have hj2 : (L : Int) - 1 - ((i + 1 : Nat) : Int) = (j : Int) - 1 := by omega
  refine ⟨⟨i + 1,by omega⟩,(by show _ < _; (try simp only); omega),Ent.to ?_ ?_⟩
  ·dsimp only
   rw [hj2]
   simp (disch:=omega) only [qR,qS,qT,qU,get,Nat.reduceEqDiff,↓reduceIte,qV,qW,qX,qY,qZ,and_self,dI,i64_in,and_true,true_and,rA,rB,rC,rD]
  ·dsimp only
   rw [hst2]
   simp (disch:=omega) only [qR,qS,qT,qU,get,Nat.reduceEqDiff,↓reduceIte,qV,qW,qX,qY,qZ,and_self,dI,i64_in,and_true,true_and,rA,rB,rC,rD]
 ·have hd : decide ((i : Int) < (L : Int) - 1 - (i : Int)) = false := decide_eq_false (by omega)
  obtain rfl : i = L / 2 := by omega
  rw [revF]
  repeat' (first|(with_reducible first|apply qA|apply qB|apply qC|apply qD|apply qE|apply qF)|(refine DW.ord rfl (WF.of (by first|rfl|simp (disch:=omega) only [go_sem,simprocAttr,qN,qO,qP,qQ,hd])) ?_ ?_ ?_; rotate_left)|rfl|(with_reducible refine And.intro ?_ ?_)|(simp (disch:=omega) only [go_sem,simprocAttr,qN,qO,qP,qQ,hd])|exact qM rfl rfl rfl|(refine qG rfl ?_)|(refine qH rfl ?_)|(refine qI rfl ?_ ?_<;>intro hc<;>(try simp only [go_sem] at hc))|(refine qJ ?_ ?_<;>intro hc<;>(try simp only [hc])<;>(try simp only [go_sem] at hc)))
  exact ⟨.inr rfl,_,[],Ent.refl _,rfl,.refl _,rfl,fun j x hj => by
   obtain ⟨rfl,rfl,hn⟩ := pb_nb 9 l _ m hj
   exact ⟨by simp (disch:=omega) only [go_sem,simprocAttr,qN,qO,qP,qQ],hn⟩⟩
end Go.Dw.Seat
end
section
set_option linter.unusedSimpArgs false
set_option maxRecDepth 100000
namespace Go.Dw.Seat
open Go Go.Dw Go.Proofs Go.IntWalk
def dscF (xs : List Int) : Nat → Nat
 | 0 => 0
 | c + 1 => if xs.getD (c + 1) 0 < xs.getD c 0 then dscF xs c else c + 1
def ascF (xs : List Int) (v : Int) : Nat → Nat
 | 0 => 0
 | j + 1 => if xs.getD (j + 1) 0 < v then ascF xs v j else j + 1
def nxtP (xs : List Int) : Option (List Int) := match dscF xs (xs.length - 1) with
 | 0 => none
 | i + 1 => some (revF (i + 1) (xs.length - (i + 1)) (swp1 xs i (ascF xs (xs.getD i 0) (xs.length - 1))))
def goP : Nat → List Int → List (List Int)
 | 0,_ => []
 | f + 1,xs => xs :: match nxtP xs with
  | none => []
  | some ys => goP f ys
def okP (n : Nat) : Nat → List Int → Bool
 | 0,_ => false
 | f + 1,xs => (xs.length == n && xs.all (fun x => decide (0 ≤ x) && decide (x < n))) && (match dscF xs (n - 1) with | 0 => true | i + 1 => decide (i + 1 < n) && decide (i < ascF xs (xs.getD i 0) (n - 1))) && match nxtP xs with
  | none => true
  | some ys => okP n f ys
def upN (n : Nat) : List Int := (List.range n).map fun i : Nat => (i : Int)
theorem upN_ok : ∀ n : Fin 7,okP n.1 721 (upN n.1) = true := by decide +kernel
theorem upN_succ (n : Nat) : upN (n + 1) = upN n ++ [(n : Int)] := by simp [upN,List.range_succ]
theorem upN_len (n : Nat) : (upN n).length = n := by simp [upN]
def enO (l : List Int) : List D := [dIs true l]
theorem plOrders0 (n : Nat) : DCall Tryz.prog 61 [dI n] [] (.fn (.func 89) [] [.c (.ro false [.v (.int .i64 n)] 0)]) [] := by
 refine DCall.of Tryz.func61 sf61 hb61 (Nat.le_of_ble_eq_true rfl) (okRes_nil fun _ => rfl) ?_; simp only [s61,idxs,Nat.reduceAdd]
 repeat' (first|(with_reducible first|apply qA|apply qB|apply qC|apply qD|apply qE|apply qF)|(refine DW.ord rfl (WF.of (by first|rfl|simp (disch:=omega) only [go_sem,simprocAttr,qN,qO,qP,qQ])) ?_ ?_ ?_; rotate_left)|rfl|(with_reducible refine And.intro ?_ ?_)|(simp (disch:=omega) only [go_sem,simprocAttr,qN,qO,qP,qQ])|exact qM rfl rfl rfl|(refine qG rfl ?_)|(refine qH rfl ?_)|(refine qI rfl ?_ ?_<;>intro hc<;>(try simp only [go_sem] at hc))|(refine qJ ?_ ?_<;>intro hc<;>(try simp only [hc])<;>(try simp only [go_sem] at hc)))
 (refine retS_ent (Ent.rel 1 rfl) ?_; simp (disch:=omega) only [go_sem,simprocAttr,qN,qO,qP,qQ])
 refine retS_wk rfl ?_ (by simp only [Blk.nb,rowC_nb,D.nb,D.nbs,C.nb,C.nbs,C.nbss,rows_nb eI_nb,Bool.and_true,Bool.not_false,Bool.and_self,bD,dI,iD]); exact .refl _
theorem del_none {k : Nat} : ∀ {l : List (Nat × Blk)},get k l = none → del k l = l
 | [],_ => rfl
 | p :: l,h => by
  simp only [get] at h
  split at h
  ·cases h
  ·rename_i hne
   simp only [del]
   rw [if_neg (fun e => hne (by first | exact e | exact e.symm)),del_none h]
end Go.Dw.Seat
end
section
set_option linter.unusedSimpArgs false
set_option maxRecDepth 100000
namespace Go.Dw.Seat
open Go Go.Dw Go.Proofs Go.IntWalk
theorem rowI_len (xs : List Int) : (rowC (rows eI xs)).length = xs.length := by simp [rowC,rows]
theorem los_map (cs : List C) : D.los (cs.map D.c) = true := by
 induction cs with
 | nil => rfl
 | cons c cs ih => simp only [List.map_cons,D.los,D.lo,ih,Bool.and_self]
theorem lo_row (es : List (List C)) (n : Nat) : Blk.lo (.row n (rowC es)) = true := by
 simp only [Blk.lo,rowC,List.all_map,List.all_eq_true]
 intro e _
 exact los_map e
theorem loB9 {tm : List (Nat × D)} (xs : List Int) (h : tm.all (fun p => p.2.lo) = true) : loB tm [(9,.row 1 (rowC (rows eI xs)))] = true := by
 simp only [loB,h,List.all_cons,List.all_nil,lo_row,Bool.and_true]; rfl
set_option maxHeartbeats 8000000 in
theorem plOrders1 (n : Nat) (hn : n ≤ 6) : ItB true Tryz.prog 89 [] [.c (.ro false [.v (.int .i64 n)] 0)] enO (fun _ => True) (goP 721 (upN n)) := by
 intro ly β H stp live _ hW hY b0 hl0
 have hH : ∀ b,HidOk (H b) := fun b => (hW b).toHidOk
 refine DCall.of Tryz.func89 sf89 hb89 (Nat.le_of_ble_eq_true rfl) (hH _).res ?_
 simp only [s89,idxs,Nat.reduceAdd,List.map_nil,List.map_cons,List.nil_append,List.cons_append]
 have f1 := hid_get (hH b0)
 have f2 := hid_ins (hH b0)
 have f3 := (hH b0).men
 have f4 := (hH b0).lo
 have f5 : ∀ k x,k < 1000 → ins k x (H b0) = H b0 ++ [(k,x)] := fun k x hk => by have := f2 k hk x []; rwa [List.append_nil] at this
 have f6 := fun k (hk : k < 1000) => kill_hid (hH b0) k hk
 repeat' (first|(with_reducible first|apply qA|apply qB|apply qC|apply qD|apply qE|apply qF)|(refine qL rfl (WF.of ?_) ?_; first|rfl|skip)|(refine DW.ord rfl (WF.of (by first|rfl|simp (disch:=omega) only [go_sem,simprocAttr,qN,qO,qP,qQ,f1,f2,f3,f4,f5,ins,rF,rG])) ?_ ?_ ?_; rotate_left)|rfl|(with_reducible refine And.intro ?_ ?_)|(simp (disch:=omega) only [go_sem,simprocAttr,qN,qO,qP,qQ,f1,f2,f3,f4,f5,ins,rF,rG])|exact qM rfl rfl rfl|(refine qG rfl ?_)|(refine qH rfl ?_)|(refine qI rfl ?_ ?_<;>intro hc<;>(try simp only [go_sem] at hc))|(refine qJ ?_ ?_<;>intro hc<;>(try simp only [hc])<;>(try simp only [go_sem] at hc)))
 refine DW.ent (Ent.comm (hH b0) rfl).1 ?_
 simp (disch:=omega) only [go_sem,simprocAttr,qN,qO,qP,qQ,List.cons_append,List.nil_append]
 refine DW.loop (ι := { i : Nat // i ≤ n }) (fun i => ⟨77,[(11,dI i.1),(10,dI n),(3,.own 9),(0,.c (.fn (.yield ly) [] [])),(1,.c (.ro false [.v (.int .i64 n)] 0))],[(9,.row 1 (rowC (rows eI (upN i.1))))] ++ H b0⟩) (fun i => n - i.1) ⟨0,Nat.zero_le _⟩ ?_ ?_
 ·refine Ent.toH (o := [_]) (o' := [_]) (hH b0) rfl ?_ ?_ <;> simp (disch:=omega) only [qR,qS,qT,qU,get,Nat.reduceEqDiff,↓reduceIte,qV,qW,qX,qY,qZ,and_self,dI,i64_in,and_true,true_and,rA,rB,rC,rD,upN,List.range_zero,rG]
  all_goals first | exact ⟨.refl _,.refl _,.refl _⟩ | exact ⟨.refl _,.refl _⟩ | exact .refl _
 rintro ⟨i,hi⟩
 dsimp only
 have hul := upN_len i
 by_cases hlt : i < n
 ·have hd : decide ((i : Int) < (n : Int)) = true := decide_eq_true (by omega)
  have hs := upN_succ i
  generalize upN i = U at *
  repeat' (first|(with_reducible first|apply qA|apply qB|apply qC|apply qD|apply qE|apply qF)|(refine qL rfl (WF.of ?_) ?_; first|rfl|skip)|(refine DW.ord rfl (WF.of (by first|rfl|simp (disch:=omega) only [go_sem,simprocAttr,qN,qO,qP,qQ,f1,f2,f3,f4,f5,f6,ins,hd,hul,rF,rG])) ?_ ?_ ?_; rotate_left)|rfl|(with_reducible refine And.intro ?_ ?_)|(simp (disch:=omega) only [go_sem,simprocAttr,qN,qO,qP,qQ,f1,f2,f3,f4,f5,f6,ins,hd,hul,rF,rG])|exact qM rfl rfl rfl|(refine qG rfl ?_)|(refine qH rfl ?_)|(refine qI rfl ?_ ?_<;>intro hc<;>(try simp only [go_sem] at hc))|(refine qJ ?_ ?_<;>intro hc<;>(try simp only [hc])<;>(try simp only [go_sem] at hc)))
  refine ⟨⟨i + 1,hlt⟩,(by show _ < _; (try simp only); omega),Ent.toH (o := [_,_]) (o' := [_]) (hH b0) rfl ?_ ?_⟩ <;> simp (disch:=omega) only [qR,qS,qT,qU,get,Nat.reduceEqDiff,↓reduceIte,qV,qW,qX,qY,qZ,and_self,dI,i64_in,and_true,true_and,rA,rB,rC,rD,hs,rowC_snocI]
  all_goals first | exact ⟨.refl _,.refl _,.refl _⟩ | exact ⟨.refl _,.refl _⟩ | exact .refl _
 have hd : decide ((i : Int) < (n : Int)) = false := decide_eq_false (by omega)
 have hin : i = n := by omega
 subst hin
 have hok := upN_ok ⟨i,by omega⟩
 dsimp only at hok
 generalize upN i = U at *
 clear hlt
 obtain ⟨Z,hZ⟩ : ∃ Z,Z = runB stp b0 (goP 721 U) := ⟨_,rfl⟩
 rw [← hZ]
 repeat' (first|(with_reducible first|apply qA|apply qB|apply qC|apply qD|apply qE|apply qF)|(refine qL rfl (WF.of ?_) ?_; first|rfl|skip)|(refine DW.ord rfl (WF.of (by first|rfl|simp (disch:=omega) only [go_sem,simprocAttr,qN,qO,qP,qQ,hd])) ?_ ?_ ?_; rotate_left)|rfl|(with_reducible refine And.intro ?_ ?_)|(simp (disch:=omega) only [go_sem,simprocAttr,qN,qO,qP,qQ,hd])|exact qM rfl rfl rfl|(refine qG rfl ?_)|(refine qH rfl ?_)|(refine qI rfl ?_ ?_<;>intro hc<;>(try simp only [go_sem] at hc))|(refine qJ ?_ ?_<;>intro hc<;>(try simp only [hc])<;>(try simp only [go_sem] at hc)))
 refine DW.loop (ι := { y : (Nat × List Int) × β // okP i y.1.1 y.1.2 = true ∧ live (goP y.1.1 y.1.2) y.2 ∧ Z = runB stp y.2 (goP y.1.1 y.1.2) })
  (fun y => ⟨77,[(3,.own 9),(0,.c (.fn (.yield ly) [] [])),(1,.c (.ro false [.v (.int .i64 i)] 0))],[(9,.row 1 (rowC (rows eI y.1.1.2)))] ++ H y.1.2⟩) (fun y => y.1.1.1) ⟨((721,U),b0),hok,hl0,hZ⟩ ?_ ?_
 ·refine Ent.toH (o := [_]) (o' := [_]) (hH b0) rfl ?_ ?_ <;> simp (disch:=omega) only [qR,qS,qT,qU,get,Nat.reduceEqDiff,↓reduceIte,qV,qW,qX,qY,qZ,and_self,dI,i64_in,and_true,true_and,rA,rB,rC,rD]
  all_goals first | exact ⟨.refl _,.refl _,.refl _⟩ | exact ⟨.refl _,.refl _⟩ | exact .refl _
 clear f1 f2 f3 f4 f5 f6
 rintro ⟨⟨⟨f,xs⟩,b1⟩,hok,hlv,hrun⟩
 dsimp only at hok hlv hrun ⊢
 cases f with
 | zero => cases hok
 | succ f =>
  rw [okP,Bool.and_eq_true,Bool.and_eq_true,Bool.and_eq_true,beq_iff_eq] at hok
  obtain ⟨⟨⟨hlen,hall⟩,hst⟩,hnx⟩ := hok
  rw [goP] at hlv hrun
  rw [runB] at hrun
  obtain ⟨hyc,hlv2⟩ := hY b1 xs _ hlv trivial
  have hyc : YCall Tryz.prog ly [dIs true xs] (H b1) _ _ := hyc
  cases hc : (stp b1 xs).1 with
  | false =>
   rw [hc] at hyc
   rw [hc,if_neg Bool.false_ne_true] at hrun
   repeat' (first|(with_reducible first|apply qA|apply qB|apply qC|apply qD|apply qE|apply qF)|(refine qL rfl (WF.of ?_) ?_; first|rfl|skip)|(refine DW.ord rfl (WF.of (by first|rfl|simp (disch:=omega) only [go_sem,simprocAttr,qN,qO,qP,qQ,rF,rG])) ?_ ?_ ?_; rotate_left)|rfl|(with_reducible refine And.intro ?_ ?_)|(simp (disch:=omega) only [go_sem,simprocAttr,qN,qO,qP,qQ,rF,rG])|exact qM rfl rfl rfl|(refine qG rfl ?_)|(refine qH rfl ?_)|(refine qI rfl ?_ ?_<;>intro hc<;>(try simp only [go_sem] at hc))|(refine qJ ?_ ?_<;>intro hc<;>(try simp only [hc])<;>(try simp only [go_sem] at hc)))
   refine call_y (own := [_]) hyc rfl (by simp (disch:=omega) only [go_sem,simprocAttr,qN,qO,qP,qQ,rF,rG]) (loB9 xs rfl) (hH _) (hH _) (by decide) ?_
   simp (disch:=omega) only [go_sem,simprocAttr,qN,qO,qP,qQ]
   repeat' (first|(with_reducible first|apply qA|apply qB|apply qC|apply qD|apply qE|apply qF)|(refine qL rfl (WF.of ?_) ?_; first|rfl|skip)|(refine DW.ord rfl (WF.of (by first|rfl|simp (disch:=omega) only [go_sem,simprocAttr,qN,qO,qP,qQ])) ?_ ?_ ?_; rotate_left)|rfl|(with_reducible refine And.intro ?_ ?_)|(simp (disch:=omega) only [go_sem,simprocAttr,qN,qO,qP,qQ])|exact qM rfl rfl rfl|(refine qG rfl ?_)|(refine qH rfl ?_)|(refine qI rfl ?_ ?_<;>intro hc<;>(try simp only [go_sem] at hc))|(refine qJ ?_ ?_<;>intro hc<;>(try simp only [hc])<;>(try simp only [go_sem] at hc)))
   rw [hrun]
   exact retS_hid (own := [_]) (.inl rfl) (hH _) (loB9 xs rfl)
  | true =>
   rw [hc] at hyc
   rw [hc,if_pos rfl] at hrun
   have hlv2 := hlv2 hc
   repeat' (first|(with_reducible first|apply qA|apply qB|apply qC|apply qD|apply qE|apply qF)|(refine qL rfl (WF.of ?_) ?_; first|rfl|skip)|(refine DW.ord rfl (WF.of (by first|rfl|simp (disch:=omega) only [go_sem,simprocAttr,qN,qO,qP,qQ,rF,rG])) ?_ ?_ ?_; rotate_left)|rfl|(with_reducible refine And.intro ?_ ?_)|(simp (disch:=omega) only [go_sem,simprocAttr,qN,qO,qP,qQ,rF,rG])|exact qM rfl rfl rfl|(refine qG rfl ?_)|(refine qH rfl ?_)|(refine qI rfl ?_ ?_<;>intro hc<;>(try simp only [go_sem] at hc))|(refine qJ ?_ ?_<;>intro hc<;>(try simp only [hc])<;>(try simp only [go_sem] at hc)))
   refine call_y (own := [_]) hyc rfl (by simp (disch:=omega) only [go_sem,simprocAttr,qN,qO,qP,qQ,rF,rG]) (loB9 xs rfl) (hH _) (hH _) (by decide) ?_
   simp (disch:=omega) only [go_sem,simprocAttr,qN,qO,qP,qQ]
   generalize (stp b1 xs).2 = b2 at *
   have g1 := hid_get (hH b2)
   have g2 := hid_ins (hH b2)
   have g3 := (hH b2).men
   have g4 := (hH b2).lo
   have g5 : ∀ k x,k < 1000 → ins k x (H b2) = H b2 ++ [(k,x)] := fun k x hk => by have := g2 k hk x []; rwa [List.append_nil] at this
   have g6 := (hW b2).app4
   have g7 := (hW b2).app3
   have g8 := fun x => (hW b2).app [(9,x)]
   simp only [List.cons_append,List.nil_append] at g8
   repeat' (first|(with_reducible first|apply qA|apply qB|apply qC|apply qD|apply qE|apply qF)|(refine qL rfl (WF.of ?_) ?_; first|rfl|skip)|(refine DW.ord rfl (WF.of (by first|rfl|simp (disch:=omega) only [go_sem,simprocAttr,qN,qO,qP,qQ,g1,g2,g3,g4,g5,g6,g7,ins])) ?_ ?_ ?_; rotate_left)|rfl|(with_reducible refine And.intro ?_ ?_)|(simp (disch:=omega) only [go_sem,simprocAttr,qN,qO,qP,qQ,g1,g2,g3,g4,g5,g6,g7,ins])|exact qM rfl rfl rfl|(refine qG rfl ?_)|(refine qH rfl ?_)|(refine qI rfl ?_ ?_<;>intro hc<;>(try simp only [go_sem] at hc))|(refine qJ ?_ ?_<;>intro hc<;>(try simp only [hc])<;>(try simp only [go_sem] at hc)))
   obtain ⟨z,hz⟩ : ∃ z : Int,z = if i = 0 then -2 else -1 := ⟨_,rfl⟩
   have he0 : (i : Int) - 2 = ((i - 1 : Nat) : Int) + z := by rw [hz]; split <;> omega
   have hzn : z < 0 := by rw [hz]; split <;> omega
   refine DW.loop (ι := { c : Nat // c ≤ i - 1 ∧ dscF xs (i - 1) = dscF xs c }) (fun c => ⟨77,[(5,dI ((c.1 : Int) + z)),(3,.own 9),(0,.c (.fn (.yield ly) [] [])),(1,.c (.ro false [.v (.int .i64 i)] 0))],[(9,.row 1 (rowC (rows eI xs)))] ++ H b2⟩) (fun c => c.1) ⟨i - 1,Nat.le_refl _,rfl⟩ ?_ ?_
   ·refine Ent.toH (o := [_]) (o' := [_]) (hH b2) rfl ?_ ?_ <;> simp (disch:=omega) only [qR,qS,qT,qU,get,Nat.reduceEqDiff,↓reduceIte,qV,qW,qX,qY,qZ,and_self,dI,i64_in,and_true,true_and,rA,rB,rC,rD,he0]
    all_goals first | exact ⟨.refl _,.refl _,.refl _⟩ | exact ⟨.refl _,.refl _⟩ | exact .refl _
   rintro ⟨c,hc1,hc2⟩
   dsimp only
   cases c with
   | zero =>
    have hd : decide (0 ≤ z) = false := decide_eq_false (by omega)
    have hd2 : decide (z < 0) = true := decide_eq_true hzn
    have hz0 : ((0 : Nat) : Int) + z = z := by omega
    rw [hz0]
    have hnx0 : nxtP xs = none := by rw [nxtP,hlen,hc2]; rfl
    rw [hnx0,runB] at hrun
    repeat' (first|(with_reducible first|apply qA|apply qB|apply qC|apply qD|apply qE|apply qF)|(refine qL rfl (WF.of ?_) ?_; first|rfl|skip)|(refine DW.ord rfl (WF.of (by first|rfl|simp (disch:=omega) only [go_sem,simprocAttr,qN,qO,qP,qQ,g1,g2,g3,g4,g5,g6,g7,g8,ins,hd,hd2])) ?_ ?_ ?_; rotate_left)|rfl|(with_reducible refine And.intro ?_ ?_)|(simp (disch:=omega) only [go_sem,simprocAttr,qN,qO,qP,qQ,g1,g2,g3,g4,g5,g6,g7,g8,ins,hd,hd2])|exact qM rfl rfl rfl|(refine qG rfl ?_)|(refine qH rfl ?_)|(refine qI rfl ?_ ?_<;>intro hc<;>(try simp only [go_sem] at hc))|(refine qJ ?_ ?_<;>intro hc<;>(try simp only [hc])<;>(try simp only [go_sem] at hc)))
    rw [hrun]
    exact retS_hid (own := [_]) (.inl rfl) (hH _) (loB9 xs rfl)
   | succ c =>
    have hcz : ((c + 1 : Nat) : Int) + z = (c : Int) := by rw [hz,if_neg (by omega)]; omega
    rw [hcz]
    have hcm : (c : Int) + z = (c : Int) - 1 := by rw [hz,if_neg (by omega)]; omega
    have hd : decide (0 ≤ (c : Int)) = true := decide_eq_true (by omega)
    have hg0 : xs[c]? = some (xs.getD c 0) := by rw [List.getD_eq_getElem?_getD,List.getElem?_eq_getElem (by omega)]; rfl
    have hg1 : xs[c + 1]? = some (xs.getD (c + 1) 0) := by rw [List.getD_eq_getElem?_getD,List.getElem?_eq_getElem (by omega)]; rfl
    have hb0 : (c < i) = True := eq_true (by omega)
    have hb1 : (c + 1 < i) = True := eq_true (by omega)
    have hw : IntKind.i64.wrap ((c : Int) + 1) = ((c + 1 : Nat) : Int) := by rw [IntWalk.i64_in _ (by omega)]; omega
    rw [dscF] at hc2
    by_cases hgt : xs.getD (c + 1) 0 < xs.getD c 0
    ·have hd3 : decide (xs.getD (c + 1) 0 < xs.getD c 0) = true := decide_eq_true hgt
     rw [if_pos hgt] at hc2
     repeat' (first|(with_reducible first|apply qA|apply qB|apply qC|apply qD|apply qE|apply qF)|(refine qL rfl (WF.of ?_) ?_; first|rfl|skip)|(refine DW.ord rfl (WF.of (by first|rfl|simp (disch:=omega) only [go_sem,simprocAttr,qN,qO,qP,qQ,g1,g2,g3,g4,g5,g6,g7,g8,ins,hd,hg0,hg1,hb0,hb1,hw,hd3,hlen])) ?_ ?_ ?_; rotate_left)|rfl|(with_reducible refine And.intro ?_ ?_)|(simp (disch:=omega) only [go_sem,simprocAttr,qN,qO,qP,qQ,g1,g2,g3,g4,g5,g6,g7,g8,ins,hd,hg0,hg1,hb0,hb1,hw,hd3,hlen])|exact qM rfl rfl rfl|(refine qG rfl ?_)|(refine qH rfl ?_)|(refine qI rfl ?_ ?_<;>intro hc<;>(try simp only [go_sem] at hc))|(refine qJ ?_ ?_<;>intro hc<;>(try simp only [hc])<;>(try simp only [go_sem] at hc)))
     refine ⟨⟨c,by omega,hc2⟩,(by show _ < _; (try simp only); omega),Ent.toH (o := [_]) (o' := [_]) (hH b2) rfl ?_ ?_⟩ <;> simp (disch:=omega) only [qR,qS,qT,qU,get,Nat.reduceEqDiff,↓reduceIte,qV,qW,qX,qY,qZ,and_self,dI,i64_in,and_true,true_and,rA,rB,rC,rD,hcm]
     all_goals first | exact ⟨.refl _,.refl _,.refl _⟩ | exact ⟨.refl _,.refl _⟩ | exact .refl _
    ·have hd3 : decide (xs.getD (c + 1) 0 < xs.getD c 0) = false := decide_eq_false hgt
     have hd4 : decide ((c : Int) < 0) = false := decide_eq_false (by omega)
     rw [if_neg hgt] at hc2
     repeat' (first|(with_reducible first|apply qA|apply qB|apply qC|apply qD|apply qE|apply qF)|(refine qL rfl (WF.of ?_) ?_; first|rfl|skip)|(refine DW.ord rfl (WF.of (by first|rfl|simp (disch:=omega) only [go_sem,simprocAttr,qN,qO,qP,qQ,g1,g2,g3,g4,g5,g6,g7,g8,ins,hd,hg0,hg1,hb0,hb1,hw,hd3,hd4,hlen])) ?_ ?_ ?_; rotate_left)|rfl|(with_reducible refine And.intro ?_ ?_)|(simp (disch:=omega) only [go_sem,simprocAttr,qN,qO,qP,qQ,g1,g2,g3,g4,g5,g6,g7,g8,ins,hd,hg0,hg1,hb0,hb1,hw,hd3,hd4,hlen])|exact qM rfl rfl rfl|(refine qG rfl ?_)|(refine qH rfl ?_)|(refine qI rfl ?_ ?_<;>intro hc<;>(try simp only [go_sem] at hc))|(refine qJ ?_ ?_<;>intro hc<;>(try simp only [hc])<;>(try simp only [go_sem] at hc)))
     rw [hc2] at hst
     dsimp only at hst
     rw [Bool.and_eq_true,decide_eq_true_eq,decide_eq_true_eq] at hst
     have hi1 : (i : Int) - 1 = ((i - 1 : Nat) : Int) := by omega
     refine DW.loop (ι := { j : Nat // j ≤ i - 1 ∧ ascF xs (xs.getD c 0) (i - 1) = ascF xs (xs.getD c 0) j }) (fun j => ⟨77,[(6,dI j.1),(5,dI c),(3,.own 9),(0,.c (.fn (.yield ly) [] [])),(1,.c (.ro false [.v (.int .i64 i)] 0))],[(9,.row 1 (rowC (rows eI xs)))] ++ H b2⟩) (fun j => j.1) ⟨i - 1,Nat.le_refl _,rfl⟩ ?_ ?_
     ·refine Ent.toH (o := [_]) (o' := [_]) (hH b2) rfl ?_ ?_ <;> simp (disch:=omega) only [qR,qS,qT,qU,get,Nat.reduceEqDiff,↓reduceIte,qV,qW,qX,qY,qZ,and_self,dI,i64_in,and_true,true_and,rA,rB,rC,rD,hi1]
      all_goals first | exact ⟨.refl _,.refl _,.refl _⟩ | exact ⟨.refl _,.refl _⟩ | exact .refl _
     rintro ⟨j,hj1,hj2⟩
     dsimp only
     cases j with
     | zero => rw [hj2,ascF] at hst; omega
     | succ j =>
      have hgj : xs[j + 1]? = some (xs.getD (j + 1) 0) := by rw [List.getD_eq_getElem?_getD,List.getElem?_eq_getElem (by omega)]; rfl
      have hbj : (j + 1 < i) = True := eq_true (by omega)
      rw [ascF] at hj2
      by_cases hlt : xs.getD (j + 1) 0 < xs.getD c 0
      ·have hd5 : decide (xs.getD (j + 1) 0 < xs.getD c 0) = true := decide_eq_true hlt
       have hjm : ((j + 1 : Nat) : Int) - 1 = (j : Int) := by omega
       rw [if_pos hlt] at hj2
       repeat' (first|(with_reducible first|apply qA|apply qB|apply qC|apply qD|apply qE|apply qF)|(refine qL rfl (WF.of ?_) ?_; first|rfl|skip)|(refine DW.ord rfl (WF.of (by first|rfl|simp (disch:=omega) only [go_sem,simprocAttr,qN,qO,qP,qQ,g1,g2,g3,g4,g5,g6,g7,g8,ins,hg0,hgj,hb0,hbj,hd5,hlen])) ?_ ?_ ?_; rotate_left)|rfl|(with_reducible refine And.intro ?_ ?_)|(simp (disch:=omega) only [go_sem,simprocAttr,qN,qO,qP,qQ,g1,g2,g3,g4,g5,g6,g7,g8,ins,hg0,hgj,hb0,hbj,hd5,hlen])|exact qM rfl rfl rfl|(refine qG rfl ?_)|(refine qH rfl ?_)|(refine qI rfl ?_ ?_<;>intro hc<;>(try simp only [go_sem] at hc))|(refine qJ ?_ ?_<;>intro hc<;>(try simp only [hc])<;>(try simp only [go_sem] at hc)))
       refine ⟨⟨j,by omega,hj2⟩,(by show _ < _; (try simp only); omega),Ent.toH (o := [_]) (o' := [_]) (hH b2) rfl ?_ ?_⟩ <;> simp (disch:=omega) only [qR,qS,qT,qU,get,Nat.reduceEqDiff,↓reduceIte,qV,qW,qX,qY,qZ,and_self,dI,i64_in,and_true,true_and,rA,rB,rC,rD,Int.add_sub_cancel]
       all_goals first | exact ⟨.refl _,.refl _,.refl _⟩ | exact ⟨.refl _,.refl _⟩ | exact .refl _
      ·have hd5 : decide (xs.getD (j + 1) 0 < xs.getD c 0) = false := decide_eq_false hlt
       rw [if_neg hlt] at hj2
       repeat' (first|(with_reducible first|apply qA|apply qB|apply qC|apply qD|apply qE|apply qF)|(refine qL rfl (WF.of ?_) ?_; first|rfl|skip)|(refine DW.ord rfl (WF.of (by first|rfl|simp (disch:=omega) only [go_sem,simprocAttr,qN,qO,qP,qQ,g1,g2,g3,g4,g5,g6,g7,g8,ins,hg0,hgj,hb0,hbj,hd5,hlen,set_eI])) ?_ ?_ ?_; rotate_left)|rfl|(with_reducible refine And.intro ?_ ?_)|(simp (disch:=omega) only [go_sem,simprocAttr,qN,qO,qP,qQ,g1,g2,g3,g4,g5,g6,g7,g8,ins,hg0,hgj,hb0,hbj,hd5,hlen,set_eI])|exact qM rfl rfl rfl|(refine qG rfl ?_)|(refine qH rfl ?_)|(refine qI rfl ?_ ?_<;>intro hc<;>(try simp only [go_sem] at hc))|(refine qJ ?_ ?_<;>intro hc<;>(try simp only [hc])<;>(try simp only [go_sem] at hc)))
       have hgs : ∀ v,(xs.set c v)[j + 1]? = some (xs.getD (j + 1) 0) := fun v => by rw [List.getElem?_set_ne (by omega)]; exact hgj
       simp (disch:=omega) only [go_sem,simprocAttr,qN,qO,qP,qQ,g1,g2,g3,g4,g5,g6,g7,g8,ins,hgs,hbj,hlen,set_eI,List.length_set]
       obtain ⟨ys,hys⟩ : ∃ ys,ys = swp1 xs c (j + 1) := ⟨_,rfl⟩
       have hyl : ys.length = i := by rw [hys,swp1,List.length_set,List.length_set]; exact hlen
       rw [show (xs.set c (xs.getD (j + 1) 0)).set (j + 1) (xs.getD c 0) = ys from hys.symm]
       refine DW.ent (σ' := ⟨77,[(5,dI c),(3,.own 9),(0,.c (.fn (.yield ly) [] [])),(1,.c (.ro false [.v (.int .i64 i)] 0))],[(9,.row 1 (rowC (rows eI ys)))] ++ H b2⟩) (Ent.toH (o := [_]) (o' := [_]) (hH b2) rfl ?_ ?_) ?_
       ·simp (disch:=omega) only [qR,qS,qT,qU,get,Nat.reduceEqDiff,↓reduceIte,qV,qW,qX,qY,qZ,and_self,dI,i64_in,and_true,true_and,rA,rB,rC,rD]
       ·simp (disch:=omega) only [qR,qS,qT,qU,get,Nat.reduceEqDiff,↓reduceIte,qV,qW,qX,qY,qZ,and_self,dI,i64_in,and_true,true_and,rA,rB,rC,rD]
        all_goals first | exact ⟨.refl _,.refl _⟩ | exact .refl _
       have hci : (c + 1 ≤ i) = True := eq_true (by omega)
       repeat' (first|(with_reducible first|apply qA|apply qB|apply qC|apply qD|apply qE|apply qF)|(refine qL rfl (WF.of ?_) ?_; first|rfl|skip)|(refine DW.ord rfl (WF.of (by first|rfl|simp (disch:=omega) only [go_sem,simprocAttr,qN,qO,qP,qQ,g1,g2,g3,g4,g5,g6,g7,g8,ins,hw,hyl,hci,List.cons_append,List.nil_append])) ?_ ?_ ?_; rotate_left)|rfl|(with_reducible refine And.intro ?_ ?_)|(simp (disch:=omega) only [go_sem,simprocAttr,qN,qO,qP,qQ,g1,g2,g3,g4,g5,g6,g7,g8,ins,hw,hyl,hci,List.cons_append,List.nil_append])|exact qM rfl rfl rfl|(refine qG rfl ?_)|(refine qH rfl ?_)|(refine qI rfl ?_ ?_<;>intro hc<;>(try simp only [go_sem] at hc))|(refine qJ ?_ ?_<;>intro hc<;>(try simp only [hc])<;>(try simp only [go_sem] at hc)))
       refine call_row 9 (n := 1) (es := rowC (rows eI ys)) (es' := rowC (rows eI (revF (c + 1) (i - (c + 1)) ys))) (fs := fun _ => []) (caps := fun _ => []) («as» := fun p => [.c (.v (.slice (some ⟨p.l,(c + 1) * 1,none⟩) (i - (c + 1)) (p.cap - (c + 1))))]) (r := .tup []) ?_ rfl ?_ ?_ ?_ ?_ (fun _ => rfl) (fun _ => rfl) ?_ (fun _ _ => rfl) ?_ ?_ (by decide) ?_
       ·intro p hp
        have h1 := hp.len
        have h2 := hp.cap
        rw [rowI_len,hyl] at h1
        rw [RowAt.blk,RowAt.blk,flatI,flatI,Nat.mul_one]
        exact plReverse p.l (c + 1) (i - (c + 1)) (p.cap - (c + 1)) p.m ys (by omega) (by omega) (by omega)
       ·intro e
        have := congrArg List.length e
        rw [rowI_len,hyl,List.length_nil] at this
        omega
       ·rw [rowI_len,rowI_len,revF,swpN_len]
       ·intro e he
        simp only [rowC,rows,List.map_map,List.mem_map,Function.comp] at he
        obtain ⟨x,_,rfl⟩ := he
        rfl
       ·intro j'
        rw [flatI]
        have := cells_men j' (revF (c + 1) (i - (c + 1)) ys) 0
        rwa [tops,List.replicate_zero,List.append_nil] at this
       ·have e : del 9 ((9,Blk.row 1 (rowC (rows eI ys))) :: H b2) = H b2 := by
         simp only [del,if_true]
         exact del_none (g4 9 (by decide))
        rw [e,List.all_eq_true]
        intro q hq
        have := List.any_eq_false.1 (g3 9 (by decide)) q hq
        simpa using this
       ·intro p hp
        have h1 := hp.len
        have h2 := hp.cap
        rw [rowI_len,hyl] at h1
        have hcond : (c + 1 < p.cap ∧ c + 1 ≤ i ∧ i ≤ p.len) = True := eq_true (by omega)
        simp (disch:=omega) only [go_sem,simprocAttr,qN,qO,qP,qQ,rpT,rpD,hcond,rF,rG]
        skip
       ·intro p hp
        have h1 := hp.len
        have h2 := hp.cap
        rw [rowI_len,hyl] at h1
        have hcond : (c + 1 < p.cap ∧ c + 1 ≤ i ∧ i ≤ p.len) = True := eq_true (by omega)
        simp only [rpT,rpD,hcond,and_self,if_true,List.all_cons,List.all_nil,D.men]
        rfl
       ·have hn1 : nxtP xs = some (revF (c + 1) (i - (c + 1)) ys) := by
         rw [nxtP,hlen,hc2]
         dsimp only
         rw [hj2,hys]
        rw [hn1] at hnx hlv2 hrun
        dsimp only at hnx hlv2 hrun
        have e : del 9 ((9,Blk.row 1 (rowC (rows eI ys))) :: H b2) = H b2 := by
         simp only [del,if_true]
         exact del_none (g4 9 (by decide))
        rw [e]
        simp (disch:=omega) only [go_sem,simprocAttr,qN,qO,qP,qQ]
        repeat' (first|(with_reducible first|apply qA|apply qB|apply qC|apply qD|apply qE|apply qF)|(refine qL rfl (WF.of ?_) ?_; first|rfl|skip)|(refine DW.ord rfl (WF.of (by first|rfl|simp (disch:=omega) only [go_sem,simprocAttr,qN,qO,qP,qQ])) ?_ ?_ ?_; rotate_left)|rfl|(with_reducible refine And.intro ?_ ?_)|(simp (disch:=omega) only [go_sem,simprocAttr,qN,qO,qP,qQ])|exact qM rfl rfl rfl|(refine qG rfl ?_)|(refine qH rfl ?_)|(refine qI rfl ?_ ?_<;>intro hc<;>(try simp only [go_sem] at hc))|(refine qJ ?_ ?_<;>intro hc<;>(try simp only [hc])<;>(try simp only [go_sem] at hc)))
        refine ⟨⟨((f,revF (c + 1) (i - (c + 1)) ys),b2),hnx,hlv2,hrun⟩,(by show _ < _; (try simp only); omega),Ent.toH (o := [_]) (o' := [_]) (hH b2) rfl ?_ ?_⟩ <;> simp (disch:=omega) only [qR,qS,qT,qU,get,Nat.reduceEqDiff,↓reduceIte,qV,qW,qX,qY,qZ,and_self,dI,i64_in,and_true,true_and,rA,rB,rC,rD]
        all_goals first | exact ⟨.refl _,.refl _⟩ | exact .refl _
end Go.Dw.Seat
end
section
set_option linter.unusedSimpArgs false
set_option maxRecDepth 100000
namespace Go.Dw.Seat
open Go Go.Dw Go.Proofs Go.IntWalk
set_option maxHeartbeats 1000000 in
theorem plCloneC (b : Bool) (l : List Int) (hl : l.length ≤ 2 ^ 36) : DCall Tryz.prog 63 [dIs b l] [] (dIs false l) [] := by
 cases l with
 | nil =>
  refine DCall.nil1 (fun a c => ?_)
  cases a with
  | none =>
   refine DCall.of Tryz.func63 sf63 hb63 (Nat.le_of_ble_eq_true rfl) (okRes_nil fun _ => rfl) ?_; simp only [s63,idxs,Nat.reduceAdd]
   repeat' (first|(with_reducible first|apply qA|apply qB|apply qC|apply qD|apply qE|apply qF)|(simp (disch:=omega) only [go_sem,simprocAttr,qN,qO,qP,qQ,Option.isNone])|exact qM rfl rfl rfl|(refine qG rfl ?_)|(refine qH rfl ?_)|(refine qI rfl ?_ ?_<;>intro hc<;>(try simp only [go_sem] at hc))|(refine qJ ?_ ?_<;>intro hc<;>(try simp only [hc])<;>(try simp only [go_sem] at hc)))
   refine retS_wk rfl ?_ (by simp only [Blk.nb,rowC_nb,D.nb,D.nbs,C.nb,C.nbs,C.nbss,rows_nb eI_nb,Bool.and_true,Bool.not_false,Bool.and_self,bD,dI,iD]); exact .nil _ _
  | some a =>
   refine DCall.of Tryz.func63 sf63 hb63 (Nat.le_of_ble_eq_true rfl) (okRes_nil fun _ => rfl) ?_; simp only [s63,idxs,Nat.reduceAdd]
   refine DW.seq (DW.reg ?_)
   simp (disch:=omega) only [go_sem,simprocAttr,qN,qO,qP,qQ]
   refine DW.seq (DW.seq (DW.reg ?_))
   simp (disch:=omega) only [go_sem,simprocAttr,qN,qO,qP,qQ,Option.isNone]
   refine DW.cond_ff rfl (DW.skip ?_)
   simp (disch:=omega) only [go_sem,simprocAttr,qN,qO,qP,qQ]
   refine DW.ent (Ent.to (tm' := [(0,.c (.sl b 1 []))]) (bx' := []) (by simp (disch:=omega) only [qR,qS,qT,qU,get,Nat.reduceEqDiff,↓reduceIte,qV,qW,qX,qY,qZ,and_self,dI,i64_in,and_true,true_and,rA,rB,rC,rD]) trivial) ?_
   repeat' (first|(with_reducible first|apply qA|apply qB|apply qC|apply qD|apply qE|apply qF)|(simp (disch:=omega) only [go_sem,simprocAttr,qN,qO,qP,qQ])|exact qM rfl rfl rfl|(refine qG rfl ?_)|(refine qH rfl ?_)|(refine qI rfl ?_ ?_<;>intro hc<;>(try simp only [go_sem] at hc))|(refine qJ ?_ ?_<;>intro hc<;>(try simp only [hc])<;>(try simp only [go_sem] at hc)))
   (refine retS_ent (Ent.rel 5 rfl) ?_; simp (disch:=omega) only [go_sem,simprocAttr,qN,qO,qP,qQ])
   refine retS_wk rfl ?_ (by simp only [Blk.nb,rowC_nb,D.nb,D.nbs,C.nb,C.nbs,C.nbss,rows_nb eI_nb,Bool.and_true,Bool.not_false,Bool.and_self,bD,dI,iD]); exact .refl _
 | cons x l =>
  simp only [List.length_cons] at hl
  refine DCall.of Tryz.func63 sf63 hb63 (Nat.le_of_ble_eq_true rfl) (okRes_nil fun _ => rfl) ?_; simp only [s63,idxs,Nat.reduceAdd]
  repeat' (first|(with_reducible first|apply qA|apply qB|apply qC|apply qD|apply qE|apply qF)|(simp (disch:=omega) only [go_sem,simprocAttr,qN,qO,qP,qQ,rows_cons])|exact qM rfl rfl rfl|(refine qG rfl ?_)|(refine qH rfl ?_)|(refine qI rfl ?_ ?_<;>intro hc<;>(try simp only [go_sem] at hc))|(refine qJ ?_ ?_<;>intro hc<;>(try simp only [hc])<;>(try simp only [go_sem] at hc)))
  (refine retS_ent (Ent.rel 5 rfl) ?_; simp (disch:=omega) only [go_sem,simprocAttr,qN,qO,qP,qQ])
  refine retS_wk rfl ?_ (by simp only [Blk.nb,rowC_nb,D.nb,D.nbs,C.nb,C.nbs,C.nbss,rows_nb eI_nb,Bool.and_true,Bool.not_false,Bool.and_self,bD,dI,iD]); exact .refl _
end Go.Dw.Seat
end
section
set_option linter.unusedSimpArgs false
set_option maxRecDepth 100000
namespace Go.Dw.Seat
open Go Go.Dw Go.Proofs Go.IntWalk
theorem lohi_b {x : PIt} (hx : x.ok) {c : Int} (hc : -10000 ≤ c ∧ c ≤ 10000) : (-50000000000 ≤ loW x c ∧ loW x c ≤ 50000000000) ∧ (-50000000000 ≤ hiW x c ∧ hiW x c ≤ 50000000000) ∧ loW x c ≤ hiW x c := by
 have hw := hx.w
 have h1 := mul_abs (a := x.wl) (A := 5000000) (by omega) hc
 have h2 := mul_abs (a := x.wh) (A := 5000000) (by omega) hc
 unfold loW hiW
 omega
theorem sumM_b {c : Int → Int} (hc : ∀ m,0 ≤ m → m ≤ 4000 → -10000 ≤ c m ∧ c m ≤ 10000) : ∀ {q : List PIt} {a : Int},0 ≤ a → a + lgI q ≤ 2000 → (∀ x ∈ q,x.ok) →
  (-(50000000000 * (q.length : Int)) ≤ sumM (fun m x => loW x (c m)) a q ∧ sumM (fun m x => loW x (c m)) a q ≤ 50000000000 * (q.length : Int)) ∧ (-(50000000000 * (q.length : Int)) ≤ sumM (fun m x => hiW x (c m)) a q ∧ sumM (fun m x => hiW x (c m)) a q ≤ 50000000000 * (q.length : Int)) ∧ sumM (fun m x => loW x (c m)) a q ≤ sumM (fun m x => hiW x (c m)) a q
 | [],a,_,_,_ => by simp [sumM]
 | x :: q,a,h0,h1,h2 => by
  have hx := h2 x (by simp)
  have hxl := hx.lg
  have hq := fun y hy => h2 y (List.mem_cons_of_mem x hy)
  have hn := lgI_nn hq
  rw [lgI] at h1
  have ih := sumM_b hc (q := q) (a := a + x.lg) (by omega) (by omega) hq
  have hb := lohi_b hx (hc (2 * a + x.lg) (by omega) (by omega))
  simp only [sumM,List.length_cons,Int.natCast_add,Int.natCast_one]
  omega
theorem cF_b {l : PLy} (hl : l.ok) (m : Int) (h1 : 0 ≤ m) (h2 : m ≤ 4000) : -10000 ≤ cF l m ∧ cF l m ≤ 10000 := by
 have := hl.ax
 have := hl.lg
 unfold cF; omega
theorem cB_b {l : PLy} (hl : l.ok) (m : Int) (h1 : 0 ≤ m) (h2 : m ≤ 4000) : -10000 ≤ cB l m ∧ cB l m ≤ 10000 := by
 have := hl.ax
 have := hl.lg
 unfold cB; omega
theorem lgI_take {q : List PIt} (h : ∀ x ∈ q,x.ok) (i : Nat) : lgI (q.take i) ≤ lgI q := by
 have e : ∀ a b : List PIt,lgI (a ++ b) = lgI a + lgI b := by
  intro a b
  induction a with
  | nil => simp [lgI]
  | cons x a ih => rw [List.cons_append,lgI,ih,lgI]; omega
 have h1 := e (q.take i) (q.drop i)
 rw [List.take_append_drop] at h1
 have h2 := lgI_nn (q := q.drop i) (fun x hx => h x (List.mem_of_mem_drop hx))
 omega
abbrev prtD (r : Prt) : D := .tup [.agg [dI r.fl,dI r.fh],.agg [dI r.bl,dI r.bh]]
set_option maxHeartbeats 4000000 in
theorem plParts (l : PLy) (lab : Bool) (q : List PIt) (h : LorOk l q) : DCall Tryz.prog 58 [lorD l lab q] [] (prtD (prtF l q)) [] := by
 have hl := h.ly
 have hlen := h.len
 have hits := h.its
 have hlg := h.lg
 have hll := hl.lg
 have hax := hl.ax
 refine DCall.of Tryz.func58 sf58 hb58 (Nat.le_of_ble_eq_true rfl) (okRes_nil fun _ => rfl) ?_; simp only [s58,o58_0,o58_1,o58_2,o58_3,idxs,Nat.reduceAdd]
 repeat' (first|(with_reducible first|apply qA|apply qB|apply qC|apply qD|apply qE|apply qF)|(refine qL rfl (WF.of ?_) ?_; first|rfl|skip)|(refine DW.ord rfl (WF.of (by first|rfl|simp (disch:=omega) only [go_sem,simprocAttr,qN,qO,qP,qQ])) ?_ ?_ ?_; rotate_left)|rfl|(with_reducible refine And.intro ?_ ?_)|(simp (disch:=omega) only [go_sem,simprocAttr,qN,qO,qP,qQ])|exact qM rfl rfl rfl|(refine qG rfl ?_)|(refine qH rfl ?_)|(refine qI rfl ?_ ?_<;>intro hc<;>(try simp only [go_sem] at hc))|(refine qJ ?_ ?_<;>intro hc<;>(try simp only [hc])<;>(try simp only [go_sem] at hc)))
 refine DW.loop (ι := { i : Nat // i ≤ q.length }) (fun i => ⟨49,[(11,dI i.1),(10,dI q.length),(9,itsD lab q),(4,dI (lgI (q.take i.1))),(3,.box 3 0),(2,.box 2 0),(1,.box 1 0)],[(3,.box [dI (prtF l (q.take i.1)).bl,dI (prtF l (q.take i.1)).bh]),(2,.box [dI (prtF l (q.take i.1)).fl,dI (prtF l (q.take i.1)).fh]),(1,.box [dI l.lg,dI l.fr,dI l.bk,dI l.fm,dI l.bm,itsD lab q])]⟩) (fun i => q.length - i.1) ⟨0,Nat.zero_le _⟩ ?_ ?_
 ·refine Ent.to ?_ ?_ <;> simp (disch:=omega) only [qR,qS,qT,qU,get,Nat.reduceEqDiff,↓reduceIte,qV,qW,qX,qY,qZ,and_self,dI,i64_in,and_true,true_and,rA,rB,rC,rD,List.take_zero,lgI,prtF,sumM]
  all_goals first | exact ⟨.refl _,.refl _,.refl _⟩ | exact ⟨.refl _,.refl _⟩ | exact .refl _
 rintro ⟨i,hi⟩
 dsimp only
 rcases at_or q i hi with ⟨x,hx,hlt,hd⟩ | ⟨he,hd⟩
 ·have hxo := hits x (List.mem_of_getElem? hx)
  have hxl := hxo.lg
  have htk : q.take (i + 1) = q.take i ++ [x] := by rw [List.take_add_one,hx]; rfl
  have htm : ∀ y ∈ q.take i,y.ok := fun y hy => hits y (List.mem_of_mem_take hy)
  have hsn := lgI_snoc (q.take i) x
  have hS1 := lgI_take hits (i + 1)
  rw [htk,hsn] at hS1
  have hS0 := lgI_nn htm
  have hl7 : (q.take i).length ≤ 7 := by rw [List.length_take]; omega
  have bF := sumM_b (cF_b hl) (q := q.take i) (a := 0) (by omega) (by omega) htm
  have bB := sumM_b (cB_b hl) (q := q.take i) (a := 0) (by omega) (by omega) htm
  have e1 := sumM_snoc (fun m x => loW x (cF l m)) (q.take i) 0 x
  have e2 := sumM_snoc (fun m x => hiW x (cF l m)) (q.take i) 0 x
  have e3 := sumM_snoc (fun m x => loW x (cB l m)) (q.take i) 0 x
  have e4 := sumM_snoc (fun m x => hiW x (cB l m)) (q.take i) 0 x
  rw [← htk,Int.zero_add] at e1 e2 e3 e4
  rw [← htk] at hsn
  have hP : prtF l (q.take i) = ⟨sumM (fun m x => loW x (cF l m)) 0 (q.take i),sumM (fun m x => hiW x (cF l m)) 0 (q.take i),sumM (fun m x => loW x (cB l m)) 0 (q.take i),sumM (fun m x => hiW x (cB l m)) 0 (q.take i)⟩ := rfl
  have hP1 : prtF l (q.take (i + 1)) = ⟨sumM (fun m x => loW x (cF l m)) 0 (q.take (i + 1)),sumM (fun m x => hiW x (cF l m)) 0 (q.take (i + 1)),sumM (fun m x => loW x (cB l m)) 0 (q.take (i + 1)),sumM (fun m x => hiW x (cB l m)) 0 (q.take (i + 1))⟩ := rfl
  rw [e1,e2,e3,e4] at hP1
  clear e1 e2 e3 e4
  generalize sumM (fun m x => loW x (cF l m)) 0 (q.take i) = A1 at *
  generalize sumM (fun m x => hiW x (cF l m)) 0 (q.take i) = A2 at *
  generalize sumM (fun m x => loW x (cB l m)) 0 (q.take i) = A3 at *
  generalize sumM (fun m x => hiW x (cB l m)) 0 (q.take i) = A4 at *
  generalize lgI (q.take i) = S at *
  have hm1 : 2 * l.bk - (2 * S + x.lg) = cF l (2 * S + x.lg) := rfl
  have hm2 : 2 * S + x.lg - 2 * l.fr = cB l (2 * S + x.lg) := rfl
  have c1 := cF_b hl (2 * S + x.lg) (by omega) (by omega)
  have c2 := cB_b hl (2 * S + x.lg) (by omega) (by omega)
  have t1 := plTimes x hxo _ c1
  have t2 := plTimes x hxo _ c2
  have b1 := lohi_b hxo c1
  have b2 := lohi_b hxo c2
  rw [hP]
  dsimp only
  have p1 := plPlus A1 A2 (loW x (cF l (2 * S + x.lg))) (hiW x (cF l (2 * S + x.lg))) (by omega) (by omega) (by omega) (by omega)
  have p2 := plPlus A3 A4 (loW x (cB l (2 * S + x.lg))) (hiW x (cB l (2 * S + x.lg))) (by omega) (by omega) (by omega) (by omega)
  repeat' (first|(with_reducible first|apply qA|apply qB|apply qC|apply qD|apply qE|apply qF)|(refine qL rfl (WF.of ?_) ?_; first|rfl|skip)|(refine DW.ord rfl (WF.of (by first|rfl|simp (disch:=omega) only [go_sem,simprocAttr,qN,qO,qP,qQ,hd,hx,hm1,hm2,rF,rG])) ?_ ?_ ?_; rotate_left)|rfl|(with_reducible refine And.intro ?_ ?_)|(simp (disch:=omega) only [go_sem,simprocAttr,qN,qO,qP,qQ,hd,hx,hm1,hm2,rF,rG])|exact qM rfl rfl rfl|(refine qG rfl ?_)|(refine qK (t1) (by decide) ?_)|(refine qK (t2) (by decide) ?_)|(refine qK (p1) (by decide) ?_)|(refine qK (p2) (by decide) ?_)|(refine qH rfl ?_)|(refine qI rfl ?_ ?_<;>intro hc<;>(try simp only [go_sem] at hc))|(refine qJ ?_ ?_<;>intro hc<;>(try simp only [hc])<;>(try simp only [go_sem] at hc)))
  refine ⟨⟨i + 1,hlt⟩,?_,Ent.to ?_ ?_⟩ <;> first | (show _ < _; (try simp only); omega) | (simp (disch:=omega) only [qR,qS,qT,qU,get,Nat.reduceEqDiff,↓reduceIte,qV,qW,qX,qY,qZ,and_self,dI,i64_in,and_true,true_and,rA,rB,rC,rD,hsn,hP1])
  all_goals first | exact ⟨.refl _,.refl _,.refl _⟩ | exact ⟨.refl _,.refl _⟩ | exact .refl _
 ·have hti : q.take i = q := by rw [he,List.take_length]
  rw [hti]
  generalize prtF l q = R at *
  repeat' (first|(with_reducible first|apply qA|apply qB|apply qC|apply qD|apply qE|apply qF)|(refine qL rfl (WF.of ?_) ?_; first|rfl|skip)|(refine DW.ord rfl (WF.of (by first|rfl|simp (disch:=omega) only [go_sem,simprocAttr,qN,qO,qP,qQ,hd])) ?_ ?_ ?_; rotate_left)|rfl|(with_reducible refine And.intro ?_ ?_)|(simp (disch:=omega) only [go_sem,simprocAttr,qN,qO,qP,qQ,hd])|exact qM rfl rfl rfl|(refine qG rfl ?_)|(refine qH rfl ?_)|(refine qI rfl ?_ ?_<;>intro hc<;>(try simp only [go_sem] at hc))|(refine qJ ?_ ?_<;>intro hc<;>(try simp only [hc])<;>(try simp only [go_sem] at hc)))
theorem prt_b {l : PLy} {q : List PIt} (h : LorOk l q) : ((-350000000000 ≤ (prtF l q).fl ∧ (prtF l q).fl ≤ (prtF l q).fh) ∧ (prtF l q).fh ≤ 350000000000) ∧ (-350000000000 ≤ (prtF l q).bl ∧ (prtF l q).bl ≤ (prtF l q).bh) ∧ (prtF l q).bh ≤ 350000000000 := by
 have hlen := h.len
 have hll := h.ly.lg
 have hlg := h.lg
 have bF := sumM_b (cF_b h.ly) (q := q) (a := 0) (by omega) (by omega) h.its
 have bB := sumM_b (cB_b h.ly) (q := q) (a := 0) (by omega) (by omega) h.its
 unfold prtF
 dsimp only
 omega
def axD (l : PLy) (q : List PIt) : D := if lorE l q = 0 then .tup [.agg [dI ((prtF l q).fl / (2 * (l.bk - l.fr))),dI ((prtF l q).fh / (2 * (l.bk - l.fr)))],.agg [dI ((prtF l q).bl / (2 * (l.bk - l.fr))),dI ((prtF l q).bh / (2 * (l.bk - l.fr)))],dI 0] else .tup [.agg [dI 0,dI 0],.agg [dI 0,dI 0],dI (lorE l q)]
set_option maxHeartbeats 4000000 in
theorem plAxles (l : PLy) (q : List PIt) (hq : q.length ≤ 2 ^ 36) : DCall Tryz.prog 27 [lyrD l,itsD false q] [] (axD l q) [] := by
 have h1 := plCheckLorry false l q hq
 unfold axD
 by_cases he : lorE l q = 0
 ·have hL := lor_iff.1 he
  have hP := plParts l false q hL
  have hb := prt_b hL
  have hW := plWhole l hL.ly false q
  have hax := hL.ly.ax
  have hll := hL.ly.lg
  rw [if_pos he]
  rw [he] at h1
  generalize prtF l q = R at *
  obtain ⟨fl,fh,bl,bh⟩ := R
  dsimp only at hb ⊢
  have d1 := plDown fl fh (2 * (l.bk - l.fr)) (by omega) (by omega) (by omega)
  have d2 := plDown bl bh (2 * (l.bk - l.fr)) (by omega) (by omega) (by omega)
  refine DCall.of Tryz.func27 sf27 hb27 (Nat.le_of_ble_eq_true rfl) (okRes_nil fun _ => rfl) ?_; simp only [s27,o27_0,o27_1,o27_2,o27_3,o27_4,o27_5,idxs,Nat.reduceAdd]
  repeat' (first|(with_reducible first|apply qA|apply qB|apply qC|apply qD|apply qE|apply qF)|(refine qL rfl (WF.of ?_) ?_; first|rfl|skip)|(refine DW.ord rfl (WF.of (by first|rfl|simp (disch:=omega) only [go_sem,simprocAttr,qN,qO,qP,qQ])) ?_ ?_ ?_; rotate_left)|rfl|(with_reducible refine And.intro ?_ ?_)|(simp (disch:=omega) only [go_sem,simprocAttr,qN,qO,qP,qQ])|exact qM rfl rfl rfl|(refine qG rfl ?_)|(refine qK (h1) (by decide) ?_)|(refine qK (hP) (by decide) ?_)|(refine qK (hW) (by decide) ?_)|(refine qK (d1) (by decide) ?_)|(refine qK (d2) (by decide) ?_)|(refine qH rfl ?_)|(refine qI rfl ?_ ?_<;>intro hc<;>(try simp only [go_sem] at hc))|(refine qJ ?_ ?_<;>intro hc<;>(try simp only [hc])<;>(try simp only [go_sem] at hc)))
  skip
 ·rw [if_neg he]
  generalize lorE l q = e at *
  have hd : (e != 0) = true := by simpa using he
  refine DCall.of Tryz.func27 sf27 hb27 (Nat.le_of_ble_eq_true rfl) (okRes_nil fun _ => rfl) ?_; simp only [s27,o27_0,o27_1,o27_2,o27_3,o27_4,o27_5,idxs,Nat.reduceAdd]
  repeat' (first|(with_reducible first|apply qA|apply qB|apply qC|apply qD|apply qE|apply qF)|(refine qL rfl (WF.of ?_) ?_; first|rfl|skip)|(refine DW.ord rfl (WF.of (by first|rfl|simp (disch:=omega) only [go_sem,simprocAttr,qN,qO,qP,qQ,hd])) ?_ ?_ ?_; rotate_left)|rfl|(with_reducible refine And.intro ?_ ?_)|(simp (disch:=omega) only [go_sem,simprocAttr,qN,qO,qP,qQ,hd])|exact qM rfl rfl rfl|(refine qG rfl ?_)|(refine qK (h1) (by decide) ?_)|(refine qH rfl ?_)|(refine qI rfl ?_ ?_<;>intro hc<;>(try simp only [go_sem] at hc))|(refine qJ ?_ ?_<;>intro hc<;>(try simp only [hc])<;>(try simp only [go_sem] at hc)))
  skip
def bearX (l : PLy) (q : List PIt) : Bool := spanOk (prtF l q).fl (prtF l q).fh 0 (l.fm * (2 * (l.bk - l.fr))) && spanOk (prtF l q).bl (prtF l q).bh 0 (l.bm * (2 * (l.bk - l.fr)))
set_option maxHeartbeats 2000000 in
theorem plBears (l : PLy) (lab : Bool) (q : List PIt) (h : LorOk l q) : DCall Tryz.prog 62 [lorD l lab q] [] (bD (bearX l q)) [] := by
 have hP := plParts l lab q h
 have hW := plWhole l h.ly lab q
 have hax := h.ly.ax
 have hll := h.ly.lg
 have hfm := h.ly.fm
 have hbm := h.ly.bm
 have m1 := mul_abs (a := l.fm) (b := 2 * (l.bk - l.fr)) (A := 40000000) (B := 10000) (by omega) (by omega)
 have m2 := mul_abs (a := l.bm) (b := 2 * (l.bk - l.fr)) (A := 40000000) (B := 10000) (by omega) (by omega)
 have w1 : IntKind.i64.wrap (l.fm * (2 * (l.bk - l.fr))) = l.fm * (2 * (l.bk - l.fr)) := IntWalk.i64_in _ (by omega)
 have w2 : IntKind.i64.wrap (l.bm * (2 * (l.bk - l.fr))) = l.bm * (2 * (l.bk - l.fr)) := IntWalk.i64_in _ (by omega)
 unfold bearX
 generalize prtF l q = R at *
 obtain ⟨fl,fh,bl,bh⟩ := R
 dsimp only
 have s1 := plSpan fl fh 0 (l.fm * (2 * (l.bk - l.fr)))
 have s2 := plSpan bl bh 0 (l.bm * (2 * (l.bk - l.fr)))
 cases e1 : spanOk fl fh 0 (l.fm * (2 * (l.bk - l.fr))) <;> rw [e1] at s1 <;> simp only [Bool.true_and,Bool.false_and]
 ·refine DCall.of Tryz.func62 sf62 hb62 (Nat.le_of_ble_eq_true rfl) (okRes_nil fun _ => rfl) ?_; simp only [s62,idxs,Nat.reduceAdd]
  repeat' (first|(with_reducible first|apply qA|apply qB|apply qC|apply qD|apply qE|apply qF)|(refine qL rfl (WF.of ?_) ?_; first|rfl|skip)|(simp (disch:=omega) only [go_sem,simprocAttr,qN,qO,qP,qQ,w1,w2])|exact qM rfl rfl rfl|(refine qG rfl ?_)|(refine qK (hP) (by decide) ?_)|(refine qK (hW) (by decide) ?_)|(refine qK (s1) (by decide) ?_)|(refine qK (s2) (by decide) ?_)|(refine qH rfl ?_)|(refine qI rfl ?_ ?_<;>intro hc<;>(try simp only [go_sem] at hc))|(refine qJ ?_ ?_<;>intro hc<;>(try simp only [hc])<;>(try simp only [go_sem] at hc)))
 ·refine DCall.of Tryz.func62 sf62 hb62 (Nat.le_of_ble_eq_true rfl) (okRes_nil fun _ => rfl) ?_; simp only [s62,idxs,Nat.reduceAdd]
  repeat' (first|(with_reducible first|apply qA|apply qB|apply qC|apply qD|apply qE|apply qF)|(refine qL rfl (WF.of ?_) ?_; first|rfl|skip)|(simp (disch:=omega) only [go_sem,simprocAttr,qN,qO,qP,qQ,w1,w2])|exact qM rfl rfl rfl|(refine qG rfl ?_)|(refine qK (hP) (by decide) ?_)|(refine qK (hW) (by decide) ?_)|(refine qK (s1) (by decide) ?_)|(refine qK (s2) (by decide) ?_)|(refine qH rfl ?_)|(refine qI rfl ?_ ?_<;>intro hc<;>(try simp only [go_sem] at hc))|(refine qJ ?_ ?_<;>intro hc<;>(try simp only [hc])<;>(try simp only [go_sem] at hc)))
end Go.Dw.Seat
end
section
set_option linter.unusedSimpArgs false
set_option maxRecDepth 100000
namespace Go.Dw.Seat
open Go Go.Dw Go.Proofs Go.IntWalk
def pkI (q : List PIt) (e : List Int) : List PIt := e.map fun i => q.getD i.toNat ⟨1,0,0⟩
theorem go_perm : ∀ n : Fin 7,(goP 721 (upN n.1)).all (fun e => e.isPerm (upN n.1)) = true := by decide +kernel
theorem lgI_perm {a b : List PIt} (h : a.Perm b) : lgI a = lgI b := by
 induction h with
 | nil => rfl
 | cons x _ ih => rw [lgI,lgI,ih]
 | swap x y l => simp only [lgI]; omega
 | trans _ _ h1 h2 => rw [h1,h2]
theorem pk_up (q : List PIt) : pkI q (upN q.length) = q := by
 apply List.ext_getElem?
 intro i
 simp only [pkI,upN,List.map_map,List.getElem?_map,Function.comp]
 rcases Nat.lt_or_ge i q.length with h | h
 ·rw [List.getElem?_eq_getElem (by simpa using h),List.getElem?_eq_getElem h]
  simp [List.getD_eq_getElem?_getD,List.getElem?_eq_getElem h]
 ·rw [List.getElem?_eq_none (by simpa using h),List.getElem?_eq_none h]
  rfl
theorem pk_ok {l : PLy} {q : List PIt} (h : LorOk l q) {e : List Int} (he : e.isPerm (upN q.length) = true) : LorOk l (pkI q e) := by
 have hp : e.Perm (upN q.length) := List.isPerm_iff.1 he
 have h2 : (pkI q e).Perm q := by
  have := hp.map (fun i => q.getD i.toNat ⟨1,0,0⟩)
  have e1 := pk_up q
  unfold pkI at e1
  rw [e1] at this
  exact this
 exact ⟨h.ly,by rw [h2.length_eq]; exact h.len,fun x hx => h.its x (h2.mem_iff.1 hx),by rw [lgI_perm h2]; exact h.lg⟩
theorem pk_mem {n : Nat} {e : List Int} (he : e.isPerm (upN n) = true) : e.length = n ∧ ∀ x ∈ e,0 ≤ x ∧ x < (n : Int) := by
 have hp : e.Perm (upN n) := List.isPerm_iff.1 he
 refine ⟨by rw [hp.length_eq,upN_len],fun x hx => ?_⟩
 have := hp.mem_iff.1 hx
 simp only [upN,List.mem_map,List.mem_range] at this
 obtain ⟨i,hi,rfl⟩ := this
 omega
theorem rowC_snocIt (l : List PIt) (x : PIt) : rowC (rows eIt l) ++ [[D.c (.v (.int .i64 x.lg)),D.c (.v (.int .i64 x.wl)),D.c (.v (.int .i64 x.wh))]] = rowC (rows eIt (l ++ [x])) := by simp [rowC,rows,eIt]
def ordS (l : PLy) (q : List PIt) (a : Option (List Int)) (e : List Int) : Option Exit × Option (List Int) := if bearX l (pkI q e) then (some .ret,some e) else (none,a)
theorem ord_run (l : PLy) (q : List PIt) : ∀ L : List (List Int),runIt (ordS l q) none L = (match L.find? (fun e => bearX l (pkI q e)) with | some e => (some .ret,some e) | none => (none,none))
 | [] => rfl
 | e :: L => by
  rw [runIt,ordS,List.find?_cons]
  cases bearX l (pkI q e)
  ·simp only [Bool.false_eq_true,if_false]
   exact ord_run l q L
  ·rfl
def oRes : Option (List Int) → D
 | some e => dIs false e
 | none => .c (.v (.slice none 0 0))
def oErr : Option (List Int) → Int
 | some _ => 0
 | none => 9
theorem oRes_men (k : Nat) (F : Option (List Int)) : D.men k (oRes F) = false := by cases F <;> rfl
theorem oRes_nb (F : Option (List Int)) : D.nb (oRes F) = true := by
 cases F
 ·rfl
 ·simp only [oRes,D.nb,C.nb,rows_nb eI_nb]; rfl
theorem oRes_keys (bx : List (Nat × Blk)) (F : Option (List Int)) : D.keysIn bx (oRes F) = true := by cases F <;> rfl
theorem oRes_kill (k : Nat) (F : Option (List Int)) : killD k (oRes F) = oRes F := by cases F <;> rfl
attribute [go_sem] oRes_men oRes_keys oRes_kill
def findO (l : PLy) (q : List PIt) : Option (List Int) := (goP 721 (upN q.length)).find? fun e => bearX l (pkI q e)
def ordD (l : PLy) (q : List PIt) : D := if lorE l q = 0 then .tup [oRes (findO l q),dI (oErr (findO l q))] else .tup [.c (.v (.slice none 0 0)),dI (lorE l q)]
set_option maxHeartbeats 8000000 in
theorem plOrder (l : PLy) (q : List PIt) (hq : q.length ≤ 2 ^ 36) (h6 : lorE l q = 0 → q.length ≤ 6) : DCall Tryz.prog 30 [lyrD l,itsD false q] [] (ordD l q) [] := by
 have h1 := plCheckLorry false l q hq
 unfold ordD
 by_cases he : lorE l q = 0
 case neg =>
  rw [if_neg he]
  generalize lorE l q = e at *
  have hd : (e != 0) = true := by simpa using he
  refine DCall.of Tryz.func30 sf30 hb30 (Nat.le_of_ble_eq_true rfl) (okRes_nil fun _ => rfl) ?_; simp only [s30,idxs,Nat.reduceAdd]
  repeat' (first|(with_reducible first|apply qA|apply qB|apply qC|apply qD|apply qE|apply qF)|(refine qL rfl (WF.of ?_) ?_; first|rfl|skip)|(simp (disch:=omega) only [go_sem,simprocAttr,qN,qO,qP,qQ,hd])|exact qM rfl rfl rfl|(refine qG rfl ?_)|(refine qK (h1) (by decide) ?_)|(refine qH rfl ?_)|(refine qI rfl ?_ ?_<;>intro hc<;>(try simp only [go_sem] at hc))|(refine qJ ?_ ?_<;>intro hc<;>(try simp only [hc])<;>(try simp only [go_sem] at hc)))
 rw [if_pos he]
 have hL := lor_iff.1 he
 have h6 := h6 he
 have h2 := plOrders0 q.length
 have hit := plOrders1 q.length h6
 have hperm := List.all_eq_true.1 (go_perm ⟨q.length,by omega⟩)
 have hrun := ord_run l q (goP 721 (upN q.length))
 rw [he] at h1
 unfold findO
 generalize goP 721 (upN q.length) = G at *
 refine DCall.of Tryz.func30 sf30 hb30 (Nat.le_of_ble_eq_true rfl) (okRes_nil fun k => by simp only [D.men,D.mens,oRes_men]; rfl) ?_
 simp only [s30,idxs,Nat.reduceAdd]
 repeat' (first|(with_reducible first|apply qA|apply qB|apply qC|apply qD|apply qE|apply qF)|(refine qL rfl (WF.of ?_) ?_; first|rfl|skip)|(simp (disch:=omega) only [go_sem,simprocAttr,qN,qO,qP,qQ])|exact qM rfl rfl rfl|(refine qG rfl ?_)|(refine qK (h1) (by decide) ?_)|(refine qK (h2) (by decide) ?_)|(refine qH rfl ?_)|(refine qI rfl ?_ ?_<;>intro hc<;>(try simp only [go_sem] at hc))|(refine qJ ?_ ?_<;>intro hc<;>(try simp only [hc])<;>(try simp only [go_sem] at hc)))
 refine DW.ent (σ' := ⟨43,[(19,.fn (.func 89) [] [.c (.ro false [.v (.int .i64 q.length)] 0)]),(5,.box 5 0),(4,.box 4 0),(3,.box 3 0),(2,.box 2 0)],[(5,.box [dI 0]),(4,.box [oRes none]),(3,.box [itsD false q]),(2,.box [dI l.lg,dI l.fr,dI l.bk,dI l.fm,dI l.bm])]⟩) (Ent.to ?_ ?_) ?_
 ·simp (disch:=omega) only [qR,qS,qT,qU,get,Nat.reduceEqDiff,↓reduceIte,qV,qW,qX,qY,qZ,and_self,dI,i64_in,and_true,true_and,rA,rB,rC,rD]
 ·simp (disch:=omega) only [qR,qS,qT,qU,get,Nat.reduceEqDiff,↓reduceIte,qV,qW,qX,qY,qZ,and_self,dI,i64_in,and_true,true_and,rA,rB,rC,rD,oRes]
  all_goals first | exact ⟨.refl _,.refl _⟩ | exact .refl _
 refine DW.rngBS (fs := []) (caps := [.c (.ro false [.v (.int .i64 q.length)] 0)]) (fun a : Option (List Int) => [(5,.box [dI 0]),(4,.box [oRes a]),(3,.box [itsD false q]),(2,.box [dI l.lg,dI l.fr,dI l.bk,dI l.fm,dI l.bm])]) none (ordS l q) enO (fun _ => True) G hit (fun t _ => ∀ e ∈ t,e.isPerm (upN q.length) = true) hperm (fun a e t h _ _ x hx => h x (List.mem_cons_of_mem _ hx)) rfl (fun _ => ⟨rfl,rfl⟩) rfl (by decide) (fun _ _ => rfl) (fun _ _ _ => rfl) (by simp only [List.map_cons,List.map_nil]; decide) (fun _ => rfl) (fun a => by cases a <;> rfl) (fun a => by show (_ && ((D.nb (oRes a) && _) && _)) = true; rw [oRes_nb]; exact (by simp only [List.all_cons,List.all_nil,Blk.nb,rowC_nb,D.nb,D.nbs,C.nb,C.nbs,C.nbss,rows_nb eI_nb,Bool.and_true,Bool.not_false,Bool.and_self,bD,dI,iD,rows_nb eIt_nb])) (by simp only [List.all_cons,List.all_nil,Blk.nb,rowC_nb,D.nb,D.nbs,C.nb,C.nbs,C.nbss,rows_nb eI_nb,Bool.and_true,Bool.not_false,Bool.and_self,bD,dI,iD,rows_nb eIt_nb]) (fun a e => by unfold ordS; split <;> rfl) ?_ ?_
 ·intro a e t hp _ v
  have hpe := hp e (by simp)
  obtain ⟨hel,hem⟩ := pk_mem hpe
  have hLe := pk_ok hL hpe
  have hb := plBears l true (pkI q e) hLe
  have hcl := plCloneC true e (by omega)
  clear hp hperm hrun hit
  simp (disch:=omega) only [go_sem,simprocAttr,qN,qO,qP,qQ,rF,rG,enO]
  repeat' (first|(with_reducible first|apply qA|apply qB|apply qC|apply qD|apply qE|apply qF)|(refine qL rfl (WF.of ?_) ?_; first|rfl|skip)|(simp (disch:=omega) only [go_sem,simprocAttr,qN,qO,qP,qQ,rF,rG])|exact qM rfl rfl rfl|(refine qG rfl ?_)|(refine qH rfl ?_)|(refine qI rfl ?_ ?_<;>intro hc<;>(try simp only [go_sem] at hc))|(refine qJ ?_ ?_<;>intro hc<;>(try simp only [hc])<;>(try simp only [go_sem] at hc)))
  refine DW.ent (Ent.adoptB 8 5 36 3 rfl rfl rfl ?_) ?_
  ·cases a <;> rfl
  simp only [ins,Nat.reduceLT,Nat.reduceEqDiff,↓reduceIte,List.set_cons_zero,List.set_cons_succ]
  refine DW.loop (ι := { i : Nat // i ≤ e.length }) (fun i => ⟨43,[(25,dI i.1),(24,dI e.length),(23,dIs true e),(19,.fn (.func 89) [] [.c (.ro false [.v (.int .i64 q.length)] 0)]),(8,.box 8 0),(7,dIs true e),(5,.box 5 0),(4,.box 4 0),(3,.box 3 0),(2,.box 2 0)],[(5,.box [dI 0]),(4,.box [oRes a]),(3,.box [itsD false q]),(2,.box [dI l.lg,dI l.fr,dI l.bk,dI l.fm,dI l.bm]),capB v [(19,.fn (.func 89) [] [.c (.ro false [.v (.int .i64 q.length)] 0)]),(5,.box 5 0),(4,.box 4 0),(3,.box 3 0),(2,.box 2 0)],(8,.box [dI l.lg,dI l.fr,dI l.bk,dI l.fm,dI l.bm,.own 36]),(36,.row 3 (rowC (rows eIt (pkI q (e.take i.1)))))]⟩) (fun i => e.length - i.1) ⟨0,Nat.zero_le _⟩ ?_ ?_
  ·refine Ent.to ?_ ?_ <;> simp (disch:=omega) only [qR,qS,qT,qU,get,Nat.reduceEqDiff,↓reduceIte,qV,qW,qX,qY,qZ,and_self,dI,i64_in,and_true,true_and,rA,rB,rC,rD,capB,List.take_zero,pkI,rG]
   all_goals first | exact ⟨.refl _,.refl _,.refl _⟩ | exact ⟨.refl _,.refl _⟩ | exact .refl _ | skip
  rintro ⟨i,hi⟩
  dsimp only
  rcases at_or e i hi with ⟨x,hx,hlt,hd⟩ | ⟨he,hd⟩
  ·have hxb := hem x (List.mem_of_getElem? hx)
   obtain ⟨n,rfl⟩ : ∃ n : Nat,x = (n : Int) := ⟨x.toNat,by omega⟩
   have hnq : n < q.length := by omega
   obtain ⟨y,hy⟩ : ∃ y,q[n]? = some y := ⟨q[n],List.getElem?_eq_getElem hnq⟩
   have htk : pkI q (e.take (i + 1)) = pkI q (e.take i) ++ [y] := by
    have h1 : e.take (i + 1) = e.take i ++ [(n : Int)] := by rw [List.take_add_one,hx]; rfl
    rw [h1,pkI,List.map_append,pkI]
    simp [List.getD_eq_getElem?_getD,hy]
   have hnq' : (n < q.length) = True := eq_true hnq
   have hpl : (pkI q (e.take i)).length ≤ 10 := by rw [pkI,List.length_map,List.length_take]; omega
   have hsn := rowC_snocIt (pkI q (e.take i)) y
   generalize pkI q (e.take i) = A at *
   repeat' (first|(with_reducible first|apply qA|apply qB|apply qC|apply qD|apply qE|apply qF)|(refine qL rfl (WF.of ?_) ?_; first|rfl|skip)|(simp (disch:=omega) only [go_sem,simprocAttr,qN,qO,qP,qQ,hd,hx,hy,hnq',hsn,capB,rF,rG])|exact qM rfl rfl rfl|(refine qG rfl ?_)|(refine qH rfl ?_)|(refine qI rfl ?_ ?_<;>intro hc<;>(try simp only [go_sem] at hc))|(refine qJ ?_ ?_<;>intro hc<;>(try simp only [hc])<;>(try simp only [go_sem] at hc)))
   refine ⟨⟨i + 1,hlt⟩,?_,Ent.to ?_ ?_⟩ <;> first | (show _ < _; (try simp only); omega) | (simp (disch:=omega) only [qR,qS,qT,qU,get,Nat.reduceEqDiff,↓reduceIte,qV,qW,qX,qY,qZ,and_self,dI,i64_in,and_true,true_and,rA,rB,rC,rD,htk,capB])
   all_goals first | exact ⟨.refl _,.refl _,.refl _⟩ | exact ⟨.refl _,.refl _⟩ | exact .refl _ | skip
  ·have hti : e.take i = e := by rw [he,List.take_length]
   rw [hti]
   unfold ordS
   generalize pkI q e = A at *
   cases hB : bearX l A <;> rw [hB] at hb
   ·rw [if_neg Bool.false_ne_true]
    repeat' (first|(with_reducible first|apply qA|apply qB|apply qC|apply qD|apply qE|apply qF)|(refine qL rfl (WF.of ?_) ?_; first|rfl|skip)|(simp (disch:=omega) only [go_sem,simprocAttr,qN,qO,qP,qQ,hd,capB,rF,rG])|exact qM rfl rfl rfl|(refine qG rfl ?_)|(refine qK (hb) (by decide) ?_)|(refine qH rfl ?_)|(refine qI rfl ?_ ?_<;>intro hc<;>(try simp only [go_sem] at hc))|(refine qJ ?_ ?_<;>intro hc<;>(try simp only [hc])<;>(try simp only [go_sem] at hc)))
    refine round_end rfl rfl (Ent.to ?_ ?_) <;> simp (disch:=omega) only [qR,qS,qT,qU,get,Nat.reduceEqDiff,↓reduceIte,qV,qW,qX,qY,qZ,and_self,dI,i64_in,and_true,true_and,rA,rB,rC,rD,capB,List.cons_append,List.nil_append]
   ·rw [if_pos rfl]
    repeat' (first|(with_reducible first|apply qA|apply qB|apply qC|apply qD|apply qE|apply qF)|(refine qL rfl (WF.of ?_) ?_; first|rfl|skip)|(simp (disch:=omega) only [go_sem,simprocAttr,qN,qO,qP,qQ,hd,capB,rF,rG])|exact qM rfl rfl rfl|(refine qG rfl ?_)|(refine qK (hb) (by decide) ?_)|(refine qK (hcl) (by decide) ?_)|(refine qH rfl ?_)|(refine qI rfl ?_ ?_<;>intro hc<;>(try simp only [go_sem] at hc))|(refine qJ ?_ ?_<;>intro hc<;>(try simp only [hc])<;>(try simp only [go_sem] at hc)))
    refine round_end rfl rfl (Ent.to ?_ ?_) <;> simp (disch:=omega) only [qR,qS,qT,qU,get,Nat.reduceEqDiff,↓reduceIte,qV,qW,qX,qY,qZ,and_self,dI,i64_in,and_true,true_and,rA,rB,rC,rD,capB,List.cons_append,List.nil_append,oRes]
 ·rw [hrun]
  cases G.find? (fun e => bearX l (pkI q e)) with
  | none =>
   dsimp only
   simp (disch:=omega) only [go_sem,simprocAttr,qN,qO,qP,qQ,Option.getD_none]
   repeat' (first|(with_reducible first|apply qA|apply qB|apply qC|apply qD|apply qE|apply qF)|(refine qL rfl (WF.of ?_) ?_; first|rfl|skip)|(simp (disch:=omega) only [go_sem,simprocAttr,qN,qO,qP,qQ,oRes])|exact qM rfl rfl rfl|(refine qG rfl ?_)|(refine qH rfl ?_)|(refine qI rfl ?_ ?_<;>intro hc<;>(try simp only [go_sem] at hc))|(refine qJ ?_ ?_<;>intro hc<;>(try simp only [hc])<;>(try simp only [go_sem] at hc)))
  | some e =>
   dsimp only
   simp (disch:=omega) only [go_sem,simprocAttr,qN,qO,qP,qQ,Option.getD_some]
   simp only [oRes,oErr]
   refine retS_wk rfl ?_ (by simp only [Blk.nb,rowC_nb,D.nb,D.nbs,C.nb,C.nbs,C.nbss,rows_nb eI_nb,Bool.and_true,Bool.not_false,Bool.and_self,bD,dI,iD,rows_nb eIt_nb]); exact .refl _
end Go.Dw.Seat
end
section
set_option linter.unusedSimpArgs false
set_option maxRecDepth 100000
namespace Go.Dw.Seat
open Go Go.Dw Go.Proofs Go.IntWalk
def ex3 : List PPl := [⟨0,0,false⟩,⟨40,0,false⟩,⟨0,30,false⟩]
def ex8 : List PPl := [⟨0,0,true⟩,⟨30,0,true⟩,⟨60,0,true⟩,⟨90,0,true⟩,⟨0,40,true⟩,⟨30,40,true⟩,⟨60,40,true⟩,⟨90,40,true⟩]
def ex3t : List PPl := [⟨80,0,false⟩,⟨40,0,false⟩,⟨80,30,false⟩]
def exIt : List PIt := [⟨120,1000000,1000000⟩,⟨120,800000,900000⟩]
def exR : List PRs := [⟨[],0⟩,⟨[1],1000⟩,⟨[],0⟩]
theorem ex8_at : ∀ i : Fin 8,ex8.take i.1 ++ [⟨30 * ((i.1 % 4 : Nat) : Int),40 * ((i.1 / 4 : Nat) : Int),true⟩] = ex8.take (i.1 + 1) := by decide +kernel
theorem exc0 : chkE (exBs 0) exBx = 0 := by decide +kernel
theorem exc5 : chkE (exBs 5) exBx = 0 := by decide +kernel
theorem exb0 : bndX (exBs 0) exBx = 8 := by decide +kernel
theorem exb5 : bndX (exBs 5) exBx = 9 := by decide +kernel
theorem exm : mostX (exBs 5) exBx = 9 := by decide +kernel
theorem exl : (layX (exBs 0) exBx).length = 8 := by decide +kernel
theorem ext1 : trnE (exBs 0) exBx ex3 2 = 0 := by decide +kernel
theorem ext2 : ex3.map (trnP (exBs 0) exBx 2) = ex3t := by decide +kernel
theorem exr1 : rgtE (exBs 0) exBx [ex3,ex3t] = 0 := by decide +kernel
theorem exr2 : (ex3t.map (rsF exBx ex3)).map (fun r => (r.on,r.sh)) = exR.map (fun r => (r.on,r.sh)) := by decide +kernel
theorem prs_ext : ∀ {a b : List PRs},a.map (fun r => (r.on,r.sh)) = b.map (fun r => (r.on,r.sh)) → a = b
 | [],[],_ => rfl
 | [],_ :: _,h => by simp at h
 | _ :: _,[],h => by simp at h
 | ⟨o,s⟩ :: a,⟨o',s'⟩ :: b,h => by
  simp only [List.map_cons,List.cons.injEq,Prod.mk.injEq] at h
  obtain ⟨⟨rfl,rfl⟩,h⟩ := h
  rw [prs_ext h]
theorem exr3 : ex3t.map (rsF exBx ex3) = exR := prs_ext exr2
theorem exn1 : rgtE (exBs 0) exBx [ex8] = 0 := by decide +kernel
theorem exn2 : bindS (exBs 0) exBx ex8 4 = (0,0) := by decide +kernel
theorem exy1 : lorE exLy exIt = 0 := by decide +kernel
theorem exy2 : (prtF exLy exIt).fl / 800 = 1740000 ∧ (prtF exLy exIt).fh / 800 = 1820000 ∧ (prtF exLy exIt).bl / 800 = 60000 ∧ (prtF exLy exIt).bh / 800 = 80000 := by decide +kernel
theorem exo : findO exLy exIt = some [0,1] := by decide +kernel
theorem exTab : TabOk [(0,1000)] 0 := by
 refine ⟨tabF_of (by decide) (fun u h => ?_) (fun j hj v hv => ?_),by decide⟩
 ·simp at h; subst h; rfl
 ·have hj0 : j = 0 := by simp at hj; omega
  subst hj0
  simp at hv
  subst hv
  exact ⟨⟨by decide,by decide⟩,fun k u h => by omega⟩
theorem exh : layI (exBs 0) exBx 8 (highI (lodF exBx) [(0,1000)] 0) = 6 := by decide +kernel
end Go.Dw.Seat
end
section
set_option linter.unusedSimpArgs false
set_option maxRecDepth 100000
namespace Go.Dw.Seat
open Go Go.Dw Go.Proofs Go.IntWalk
theorem laFlat : DCall Tryz.prog 26 [] [] (.c (.sl false 2 (rows eK [(0,1000)]))) [] := by
 refine DCall.of Tryz.func26 sf26 hb26 (Nat.le_of_ble_eq_true rfl) (okRes_nil fun _ => rfl) ?_; simp only [s26,idxs,Nat.reduceAdd]
 repeat' (first|(with_reducible first|apply qA|apply qB|apply qC|apply qD|apply qE|apply qF)|(simp (disch:=omega) only [go_sem,simprocAttr,qN,qO,qP,qQ])|exact qM rfl rfl rfl|(refine qG rfl ?_)|(refine qH rfl ?_)|(refine qI rfl ?_ ?_<;>intro hc<;>(try simp only [go_sem] at hc))|(refine qJ ?_ ?_<;>intro hc<;>(try simp only [hc])<;>(try simp only [go_sem] at hc)))
 (refine retS_ent (Ent.rel 2 rfl) ?_; simp (disch:=omega) only [go_sem,simprocAttr,qN,qO,qP,qQ])
 refine retS_wk rfl ?_ (by simp only [Blk.nb,rowC_nb,D.nb,D.nbs,C.nb,C.nbs,C.nbss,rows_nb eI_nb,Bool.and_true,Bool.not_false,Bool.and_self,bD,dI,iD,rows_nb eP_nb,rows_nb eIt_nb,rows_nb eR_nb,rows_nb eK_nb]); exact .refl _
set_option maxHeartbeats 16000000 in
theorem laKnown : DCall Tryz.prog 5 [] [] (bD true) [] := by
 have a1 := laAt 0 0
 have a2 := laAt 40 0
 have a3 := laAt 0 30
 have a4 := laAt 80 0
 have a5 := laAt 80 30
 have b0 := laBase 0
 have b5 := laBase 5
 have bx := laBox
 have lo := laLorry
 have c1 := plBound (exBs 0) exBx
 rw [exb0,exc0] at c1
 have c2 := plBound (exBs 5) exBx
 rw [exb5,exc5] at c2
 have c3 := plMost (exBs 5) exBx
 rw [exm,exc5] at c3
 have c4 := plLayX (exBs 0) exBx
 rw [layD,if_pos exc0,exc0] at c4
 have hl := exl
 generalize layX (exBs 0) exBx = L at *
 have c5 := plTurnX (exBs 0) exBx ex3 (by decide) 2
 rw [trnD,ext1,if_pos rfl,show ((2 : Int).toNat) = 2 from rfl,ext2] at c5
 have c6 := plRestsX (exBs 0) exBx ex3 ex3t (by decide) (by decide)
 rw [rsX,exr1,if_pos rfl,exr3] at c6
 have c7 := plBind (exBs 0) exBx ex8 (by decide)
 rw [exn1,exn2] at c7
 simp only [if_true] at c7
 have c8 := plLayersX (exBs 0) exBx ex8 (by decide) [(0,1000)] 0 exTab
 rw [exn1,if_pos ⟨rfl,by decide⟩,if_neg (by simp),if_neg (by decide),show ((ex8.length : Nat) : Int) = 8 from rfl,exh] at c8
 have c9 := plAxles exLy exIt (by decide)
 rw [axD,if_pos exy1,show 2 * (exLy.bk - exLy.fr) = 800 from rfl,exy2.1,exy2.2.1,exy2.2.2.1,exy2.2.2.2] at c9
 have c10 := plOrder exLy exIt (by decide) (fun _ => by decide)
 rw [ordD,if_pos exy1,exo] at c10
 simp only [oRes,oErr] at c10
 have o3 := laOwn true ex3 (by decide)
 have o3t := laOwn false ex3t (by decide)
 have o8 := laOwn true ex8 (by decide)
 have f1 := laFlat
 have s1 := laSpan 1000000 1000000
 have s2 := laSpan 800000 900000
 have s3 := laSpan 1740000 1820000
 have s4 := laSpan 60000 80000
 have i1 := reInts false true [1] [1] (by decide) (by decide)
 have i2 := reInts false true [0,1] [0,1] (by decide) (by decide)
 rw [decide_eq_true rfl] at i1 i2
 have sm := reSame false true ex3t ex3t (by decide) (by decide) true (sameY rfl rfl)
 refine DCall.of Tryz.func5 sf5 hb5 (Nat.le_of_ble_eq_true rfl) (okRes_nil fun _ => rfl) ?_; simp only [s5,idxs,Nat.reduceAdd]
 repeat' (first|(with_reducible first|apply qA|apply qB|apply qC|apply qD|apply qE|apply qF)|(refine qL rfl (WF.of ?_) ?_; first|rfl|skip)|(simp (disch:=omega) only [go_sem,simprocAttr,qN,qO,qP,qQ])|exact qM rfl rfl rfl|(refine qG rfl ?_)|(refine qK (a1) (by decide) ?_)|(refine qK (a2) (by decide) ?_)|(refine qK (a3) (by decide) ?_)|(refine qH rfl ?_)|(refine qI rfl ?_ ?_<;>intro hc<;>(try simp only [go_sem] at hc))|(refine qJ ?_ ?_<;>intro hc<;>(try simp only [hc])<;>(try simp only [go_sem] at hc)))
 refine DW.loop (ι := { i : Nat // i ≤ 8 }) (fun i => ⟨241,[(3,dI i.1),(2,.own 30),(1,.own 29),(0,bD false)],[(30,.row 3 (rowC (rows eP (ex8.take i.1)))),(29,.row 3 (rowC (rows eP ex3)))]⟩) (fun i => 8 - i.1) ⟨0,by decide⟩ ?_ ?_
 ·refine Ent.to ?_ ?_ <;> simp (disch:=omega) only [qR,qS,qT,qU,get,Nat.reduceEqDiff,↓reduceIte,qV,qW,qX,qY,qZ,and_self,dI,i64_in,and_true,true_and,rA,rB,rC,rD,List.take_zero,ex3]
  all_goals first | exact ⟨.refl _,.refl _⟩ | exact .refl _
 rintro ⟨i,hi⟩
 dsimp only
 rcases Nat.lt_or_ge i 8 with hlt | hge
 ·have hd : decide ((i : Int) < 8) = true := decide_eq_true (by omega)
  have t1 : Int.tmod (i : Int) 4 = ((i % 4 : Nat) : Int) := rfl
  have t2 : Int.tdiv (i : Int) 4 = ((i / 4 : Nat) : Int) := rfl
  have hk := ex8_at ⟨i,hlt⟩
  dsimp only at hk
  have hsn := rowC_snocP (ex8.take i) ⟨30 * ((i % 4 : Nat) : Int),40 * ((i / 4 : Nat) : Int),true⟩
  rw [hk] at hsn
  dsimp only at hsn
  have htl : (ex8.take i).length ≤ 8 := by rw [List.length_take]; exact Nat.le_trans (Nat.min_le_left _ _) hi
  generalize ex8.take i = A at *
  repeat' (first|(with_reducible first|apply qA|apply qB|apply qC|apply qD|apply qE|apply qF)|(refine qL rfl (WF.of ?_) ?_; first|rfl|skip)|(simp (disch:=omega) only [go_sem,simprocAttr,qN,qO,qP,qQ,hd,t1,t2,hsn])|exact qM rfl rfl rfl|(refine qG rfl ?_)|(refine qH rfl ?_)|(refine qI rfl ?_ ?_<;>intro hc<;>(try simp only [go_sem] at hc))|(refine qJ ?_ ?_<;>intro hc<;>(try simp only [hc])<;>(try simp only [go_sem] at hc)))
  refine ⟨⟨i + 1,hlt⟩,?_,Ent.to ?_ ?_⟩ <;> first | (show _ < _; (try simp only); omega) | (simp (disch:=omega) only [qR,qS,qT,qU,get,Nat.reduceEqDiff,↓reduceIte,qV,qW,qX,qY,qZ,and_self,dI,i64_in,and_true,true_and,rA,rB,rC,rD,hsn])
  all_goals first | exact ⟨.refl _,.refl _⟩ | exact .refl _
 obtain rfl : i = 8 := by omega
 have hti : ex8.take 8 = ex8 := by rfl
 rw [hti]
 repeat' (first|(with_reducible first|apply qA|apply qB|apply qC|apply qD|apply qE|apply qF)|(refine qL rfl (WF.of ?_) ?_; first|rfl|skip)|(simp (disch:=omega) only [go_sem,simprocAttr,qN,qO,qP,qQ])|exact qM rfl rfl rfl|(refine qG rfl ?_)|(refine qK (b0) (by decide) ?_)|(refine qK (b5) (by decide) ?_)|(refine qK (bx) (by decide) ?_)|(refine qK (c1) (by decide) ?_)|(refine qK (c2) (by decide) ?_)|(refine qK (c3) (by decide) ?_)|(refine qK (c4) (by decide) ?_)|(refine qK (o3) (by decide) ?_)|(refine qK (c5) (by decide) ?_)|(refine qK (o3t) (by decide) ?_)|(refine qK (c6) (by decide) ?_)|(refine qK (o8) (by decide) ?_)|(refine qK (c7) (by decide) ?_)|(refine qK (f1) (by decide) ?_)|(refine qK (c8) (by decide) ?_)|(refine qK (lo) (by decide) ?_)|(refine qK (s1) (by decide) ?_)|(refine qK (s2) (by decide) ?_)|(refine qH rfl ?_)|(refine qI rfl ?_ ?_<;>intro hc<;>(try simp only [go_sem] at hc))|(refine qJ ?_ ?_<;>intro hc<;>(try simp only [hc])<;>(try simp only [go_sem] at hc)))
 refine call_rel 111 rfl ?_
 simp (disch:=omega) only [go_sem,simprocAttr,qN,qO,qP,qQ]
 refine opsN.c c9 rfl rfl (by decide) ?_
 simp (disch:=omega) only [go_sem,simprocAttr,qN,qO,qP,qQ]
 repeat' (first|(with_reducible first|apply qA|apply qB|apply qC|apply qD|apply qE|apply qF)|(refine qL rfl (WF.of ?_) ?_; first|rfl|skip)|(simp (disch:=omega) only [go_sem,simprocAttr,qN,qO,qP,qQ])|exact qM rfl rfl rfl|(refine qG rfl ?_)|(refine qK (lo) (by decide) ?_)|(refine qK (s1) (by decide) ?_)|(refine qK (s2) (by decide) ?_)|(refine qH rfl ?_)|(refine qI rfl ?_ ?_<;>intro hc<;>(try simp only [go_sem] at hc))|(refine qJ ?_ ?_<;>intro hc<;>(try simp only [hc])<;>(try simp only [go_sem] at hc)))
 refine call_rel 122 rfl ?_
 simp (disch:=omega) only [go_sem,simprocAttr,qN,qO,qP,qQ]
 refine opsN.c c10 rfl rfl (by decide) ?_
 simp (disch:=omega) only [go_sem,simprocAttr,qN,qO,qP,qQ]
 have d0 : ((0 : Int) != 0) = false := rfl
 have d3 : ((3 : Int) != 3) = false := rfl
 have hl8 : ((L.length : Int) == 8) = true := by rw [hl]; rfl
 repeat' (first|(with_reducible first|apply qA|apply qB|apply qC|apply qD|apply qE|apply qF)|(refine qL rfl (WF.of ?_) ?_; first|rfl|skip)|(simp (disch:=omega) only [go_sem,simprocAttr,qN,qO,qP,qQ,d0,d3,hl8,exR])|exact qM rfl rfl rfl|(refine qG rfl ?_)|(refine qK (a2) (by decide) ?_)|(refine qK (a4) (by decide) ?_)|(refine qK (a5) (by decide) ?_)|(refine qK (sm) (by decide) ?_)|(refine qK (i1) (by decide) ?_)|(refine qK (i2) (by decide) ?_)|(refine qK (s3) (by decide) ?_)|(refine qK (s4) (by decide) ?_)|(refine qH rfl ?_)|(refine qI rfl ?_ ?_<;>intro hc<;>(try simp only [go_sem] at hc))|(refine qJ ?_ ?_<;>intro hc<;>(try simp only [hc])<;>(try simp only [go_sem] at hc)))
end Go.Dw.Seat
end
