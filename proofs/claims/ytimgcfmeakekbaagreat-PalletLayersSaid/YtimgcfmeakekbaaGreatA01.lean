/- Helpers of a proof. -/
import Derived.Test.YtimgcfmeakekbaaGreatA00
set_option linter.unusedVariables false
set_option linter.unusedSimpArgs false
section
set_option linter.unusedSimpArgs false
set_option maxRecDepth 100000
namespace Go.Dw.Seat
open Go Go.Dw Go.Proofs Go.IntWalk
theorem ly_ok : ∀ {ls : List (List PPl)},lyE ls = 0 → ∀ l ∈ ls,l.length ≤ 200 ∧ ∀ q ∈ l,(0 ≤ q.x ∧ q.x ≤ 140) ∧ 0 ≤ q.y ∧ q.y ≤ 140
 | [],_,l,h => by cases h
 | a :: t,h,l,hl => by
  rw [lyE] at h
  split at h
  ·cases h
  ·rename_i h1
   split at h
   ·cases h
   ·rename_i h2
    rcases List.mem_cons.1 hl with rfl | hl
    ·refine ⟨by omega,fun q hq => plBad_no.1 ?_⟩
     simp only [List.any_eq_true,not_exists,not_and,Bool.not_eq_true] at h2
     exact h2 q hq
    ·exact ly_ok h l hl
theorem fine_of {q : PPl} (h : (0 ≤ q.x ∧ q.x ≤ 140) ∧ 0 ≤ q.y ∧ q.y ≤ 140) : q.fine := ⟨by omega,by omega⟩
theorem op_ok {p : PBs} {b : PBx} {ls : List (List PPl)} (h : opE p b ls = 0) : (chkE p b = 0 ∧ lyE ls = 0) ∧ p.ok ∧ b.ok := by
 unfold opE at h
 split at h
 ·rename_i h1; exact absurd h h1
 ·rename_i h1
  have h1 : chkE p b = 0 := by simpa using h1
  exact ⟨⟨h1,h⟩,chk_ok.1 h1⟩
theorem one_ls (lab : Bool) (l : List PPl) : D.c (.sl lab 1 (rows eLs [l])) = D.c (.sl lab 1 [[C.sl false 3 (rows eP l)]]) := rfl
def rgtE (p : PBs) (b : PBx) (ls : List (List PPl)) : Int := if opE p b ls ≠ 0 then opE p b ls else if ls.all (fun l => decide ((fltF p b l).2 = 0)) then 0 else 9
abbrev bedL (p : PBs) (b : PBx) : List D := [dI p.lg,dI p.wd,dI p.hi,dI p.ov,dI p.top,dI p.load,dI b.lg,dI b.wd,dI b.hi,dI b.wl,dI b.wh,dI b.sl,dI b.sh]
abbrev nonL : List D := [dI 0,dI 0,dI 0,dI 0,dI 0,dI 0,dI 0,dI 0,dI 0,dI 0,dI 0,dI 0,dI 0]
set_option maxHeartbeats 4000000 in
theorem plRight (lab : Bool) (p : PBs) (b : PBx) (ls : List (List PPl)) (hs : ls.length ≤ 1000) (hl : ∀ l ∈ ls,l.length ≤ 2 ^ 36) : DCall Tryz.prog 32 [bsD p,bxD b,.c (.sl lab 1 (rows eLs ls))] [] (.tup [if chkE p b = 0 then bedD p b else noneBed,dI (rgtE p b ls)]) [] := by
 by_cases hc : chkE p b = 0
 case neg =>
  have h1 := plOpenE lab p b ls hc
  have hE : opE p b ls = chkE p b := if_pos hc
  rw [rgtE,hE,if_pos hc,if_neg hc]
  generalize chkE p b = e at *
  have hd : (e != 0) = true := by simpa using hc
  refine DCall.of Tryz.func32 sf32 hb32 (Nat.le_of_ble_eq_true rfl) (okRes_nil fun _ => rfl) ?_; simp only [s32,idxs,Nat.reduceAdd]
  repeat' (first|(with_reducible first|apply qA|apply qB|apply qC|apply qD|apply qE|apply qF)|(simp (disch:=omega) only [go_sem,simprocAttr,qN,qO,qP,qQ])|exact qM rfl rfl rfl|(refine qG rfl ?_)|(refine qK (h1) (by decide) ?_)|(refine qH rfl ?_)|(refine qI rfl ?_ ?_<;>intro hc<;>(try simp only [go_sem] at hc))|(refine qJ ?_ ?_<;>intro hc<;>(try simp only [hc])<;>(try simp only [go_sem] at hc)))
  refine DW.loop (ι := Unit) (fun _ => ⟨42,[(23,dI 0),(22,dI ls.length),(21,.c (.sl lab 1 (rows eLs ls))),(9,dI e),(8,.box 8 0),(6,.box 6 0)],[(8,.box nonL),(6,.box nonL)]⟩) (fun _ => 0) () ?_ ?_
  ·refine Ent.to ?_ ?_ <;> simp (disch:=omega) only [qR,qS,qT,qU,get,Nat.reduceEqDiff,↓reduceIte,qV,qW,qX,qY,qZ,and_self,dI,i64_in,and_true,true_and,rA,rB,rC,rD]
   all_goals first | exact ⟨.refl _,.refl _,.refl _⟩ | exact ⟨.refl _,.refl _⟩ | exact .refl _
  rintro ⟨⟩
  cases ls with
  | nil =>
   have hd0 : decide ((0 : Int) < ((([] : List (List PPl)).length : Nat) : Int)) = false := rfl
   repeat' (first|(with_reducible first|apply qA|apply qB|apply qC|apply qD|apply qE|apply qF)|(simp (disch:=omega) only [go_sem,simprocAttr,qN,qO,qP,qQ,hd0])|exact qM rfl rfl rfl|(refine qG rfl ?_)|(refine qH rfl ?_)|(refine qI rfl ?_ ?_<;>intro hc<;>(try simp only [go_sem] at hc))|(refine qJ ?_ ?_<;>intro hc<;>(try simp only [hc])<;>(try simp only [go_sem] at hc)))
  | cons l t =>
   have hd0 : decide ((0 : Int) < (((l :: t).length : Nat) : Int)) = true := decide_eq_true (by simp only [List.length_cons]; omega)
   have hg : (l :: t)[0]? = some l := rfl
   generalize l :: t = ls at *
   repeat' (first|(with_reducible first|apply qA|apply qB|apply qC|apply qD|apply qE|apply qF)|(simp (disch:=omega) only [go_sem,simprocAttr,qN,qO,qP,qQ,hd0,hd,hg,rF,rG])|exact qM rfl rfl rfl|(refine qG rfl ?_)|(refine qH rfl ?_)|(refine qI rfl ?_ ?_<;>intro hc<;>(try simp only [go_sem] at hc))|(refine qJ ?_ ?_<;>intro hc<;>(try simp only [hc])<;>(try simp only [go_sem] at hc)))
 have h1 := plOpen lab p b ls hs hl hc
 have hE : opE p b ls = lyE ls := if_neg (by rw [hc]; decide)
 rw [rgtE,hE,if_pos hc]
 obtain ⟨hp,hb⟩ := chk_ok.1 hc
 by_cases hy : lyE ls = 0
 case neg =>
  rw [if_pos hy]
  generalize lyE ls = e at *
  have hd : (e != 0) = true := by simpa using hy
  refine DCall.of Tryz.func32 sf32 hb32 (Nat.le_of_ble_eq_true rfl) (okRes_nil fun _ => rfl) ?_; simp only [s32,idxs,Nat.reduceAdd]
  repeat' (first|(with_reducible first|apply qA|apply qB|apply qC|apply qD|apply qE|apply qF)|(simp (disch:=omega) only [go_sem,simprocAttr,qN,qO,qP,qQ])|exact qM rfl rfl rfl|(refine qG rfl ?_)|(refine qK (h1) (by decide) ?_)|(refine qH rfl ?_)|(refine qI rfl ?_ ?_<;>intro hc<;>(try simp only [go_sem] at hc))|(refine qJ ?_ ?_<;>intro hc<;>(try simp only [hc])<;>(try simp only [go_sem] at hc)))
  refine DW.loop (ι := Unit) (fun _ => ⟨42,[(23,dI 0),(22,dI ls.length),(21,.c (.sl lab 1 (rows eLs ls))),(9,dI e),(8,.box 8 0),(6,.box 6 0)],[(8,.box (bedL p b)),(6,.box nonL)]⟩) (fun _ => 0) () ?_ ?_
  ·refine Ent.to ?_ ?_ <;> simp (disch:=omega) only [qR,qS,qT,qU,get,Nat.reduceEqDiff,↓reduceIte,qV,qW,qX,qY,qZ,and_self,dI,i64_in,and_true,true_and,rA,rB,rC,rD]
   all_goals first | exact ⟨.refl _,.refl _,.refl _⟩ | exact ⟨.refl _,.refl _⟩ | exact .refl _
  rintro ⟨⟩
  cases ls with
  | nil =>
   have hd0 : decide ((0 : Int) < ((([] : List (List PPl)).length : Nat) : Int)) = false := rfl
   repeat' (first|(with_reducible first|apply qA|apply qB|apply qC|apply qD|apply qE|apply qF)|(simp (disch:=omega) only [go_sem,simprocAttr,qN,qO,qP,qQ,hd0])|exact qM rfl rfl rfl|(refine qG rfl ?_)|(refine qH rfl ?_)|(refine qI rfl ?_ ?_<;>intro hc<;>(try simp only [go_sem] at hc))|(refine qJ ?_ ?_<;>intro hc<;>(try simp only [hc])<;>(try simp only [go_sem] at hc)))
  | cons l t =>
   have hd0 : decide ((0 : Int) < (((l :: t).length : Nat) : Int)) = true := decide_eq_true (by simp only [List.length_cons]; omega)
   have hg : (l :: t)[0]? = some l := rfl
   generalize l :: t = ls at *
   repeat' (first|(with_reducible first|apply qA|apply qB|apply qC|apply qD|apply qE|apply qF)|(simp (disch:=omega) only [go_sem,simprocAttr,qN,qO,qP,qQ,hd0,hd,hg,rF,rG])|exact qM rfl rfl rfl|(refine qG rfl ?_)|(refine qH rfl ?_)|(refine qI rfl ?_ ?_<;>intro hc<;>(try simp only [go_sem] at hc))|(refine qJ ?_ ?_<;>intro hc<;>(try simp only [hc])<;>(try simp only [go_sem] at hc)))
 rw [if_neg (by rw [hy]; decide)]
 rw [hy] at h1
 obtain ⟨R,hR⟩ : ∃ R,(if ls.all (fun l => decide ((fltF p b l).2 = 0)) then (0 : Int) else 9) = R := ⟨_,rfl⟩
 rw [hR]
 refine DCall.of Tryz.func32 sf32 hb32 (Nat.le_of_ble_eq_true rfl) (okRes_nil fun _ => rfl) ?_; simp only [s32,idxs,Nat.reduceAdd]
 repeat' (first|(with_reducible first|apply qA|apply qB|apply qC|apply qD|apply qE|apply qF)|(simp (disch:=omega) only [go_sem,simprocAttr,qN,qO,qP,qQ])|exact qM rfl rfl rfl|(refine qG rfl ?_)|(refine qK (h1) (by decide) ?_)|(refine qH rfl ?_)|(refine qI rfl ?_ ?_<;>intro hc<;>(try simp only [go_sem] at hc))|(refine qJ ?_ ?_<;>intro hc<;>(try simp only [hc])<;>(try simp only [go_sem] at hc)))
 refine DW.loop (ι := { y : Nat × Int // y.1 ≤ ls.length ∧ ((y.2 = 0 ∧ (if (ls.drop y.1).all (fun l => decide ((fltF p b l).2 = 0)) then (0 : Int) else 9) = R) ∨ (y.2 = 9 ∧ R = 9)) }) (fun y => ⟨42,[(23,dI y.1.1),(22,dI ls.length),(21,.c (.sl lab 1 (rows eLs ls))),(9,dI y.1.2),(8,.box 8 0),(6,.box 6 0)],[(8,.box (bedL p b)),(6,.box nonL)]⟩) (fun y => ls.length - y.1.1) ⟨(0,0),Nat.zero_le _,.inl ⟨rfl,hR⟩⟩ ?_ ?_
 ·refine Ent.to ?_ ?_ <;> simp (disch:=omega) only [qR,qS,qT,qU,get,Nat.reduceEqDiff,↓reduceIte,qV,qW,qX,qY,qZ,and_self,dI,i64_in,and_true,true_and,rA,rB,rC,rD]
  all_goals first | exact ⟨.refl _,.refl _,.refl _⟩ | exact ⟨.refl _,.refl _⟩ | exact .refl _
 rintro ⟨⟨i,e⟩,hi,hr⟩
 dsimp only at hi hr ⊢
 rcases at_or ls i hi with ⟨l,hg,hlt,hd⟩ | ⟨he,hd⟩
 ·rcases hr with ⟨rfl,hr⟩ | ⟨rfl,hr⟩
  ·have h2 : ls.drop i = l :: ls.drop (i + 1) := by rw [List.drop_eq_getElem_cons hlt,(List.getElem_eq_iff hlt).2 hg]
   obtain ⟨h200,hpl⟩ := ly_ok hy l (List.mem_of_getElem? hg)
   have h3 := plFlt p b hp hb false l (by omega) (fun q hq => fine_of (hpl q hq))
   rw [h2,List.all_cons] at hr
   by_cases hf : (fltF p b l).2 = 0
   ·rw [decide_eq_true hf,Bool.true_and] at hr
    rw [hf] at h3
    generalize (fltF p b l).1 = a at *
    repeat' (first|(with_reducible first|apply qA|apply qB|apply qC|apply qD|apply qE|apply qF)|(simp (disch:=omega) only [go_sem,simprocAttr,qN,qO,qP,qQ,hd,hg,rF,rG])|exact qM rfl rfl rfl|(refine qG rfl ?_)|(refine qK (h3) (by decide) ?_)|(refine qH rfl ?_)|(refine qI rfl ?_ ?_<;>intro hc<;>(try simp only [go_sem] at hc))|(refine qJ ?_ ?_<;>intro hc<;>(try simp only [hc])<;>(try simp only [go_sem] at hc)))
    refine ⟨⟨(i + 1,0),hlt,.inl ⟨rfl,hr⟩⟩,?_,Ent.to ?_ ?_⟩ <;> first | (show _ < _; (try simp only); omega) | (simp (disch:=omega) only [qR,qS,qT,qU,get,Nat.reduceEqDiff,↓reduceIte,qV,qW,qX,qY,qZ,and_self,dI,i64_in,and_true,true_and,rA,rB,rC,rD])
    all_goals first | exact ⟨.refl _,.refl _,.refl _⟩ | exact ⟨.refl _,.refl _⟩ | exact .refl _
   ·rw [decide_eq_false hf,Bool.false_and,if_neg Bool.false_ne_true] at hr
    have hd2 : ((fltF p b l).2 != 0) = true := by simpa using hf
    generalize (fltF p b l).1 = a at *
    generalize (fltF p b l).2 = c at *
    repeat' (first|(with_reducible first|apply qA|apply qB|apply qC|apply qD|apply qE|apply qF)|(simp (disch:=omega) only [go_sem,simprocAttr,qN,qO,qP,qQ,hd,hg,hd2,rF,rG])|exact qM rfl rfl rfl|(refine qG rfl ?_)|(refine qK (h3) (by decide) ?_)|(refine qH rfl ?_)|(refine qI rfl ?_ ?_<;>intro hc<;>(try simp only [go_sem] at hc))|(refine qJ ?_ ?_<;>intro hc<;>(try simp only [hc])<;>(try simp only [go_sem] at hc)))
    refine ⟨⟨(i + 1,9),hlt,.inr ⟨rfl,hr.symm⟩⟩,?_,Ent.to ?_ ?_⟩ <;> first | (show _ < _; (try simp only); omega) | (simp (disch:=omega) only [qR,qS,qT,qU,get,Nat.reduceEqDiff,↓reduceIte,qV,qW,qX,qY,qZ,and_self,dI,i64_in,and_true,true_and,rA,rB,rC,rD])
    all_goals first | exact ⟨.refl _,.refl _,.refl _⟩ | exact ⟨.refl _,.refl _⟩ | exact .refl _
  ·subst hr
   repeat' (first|(with_reducible first|apply qA|apply qB|apply qC|apply qD|apply qE|apply qF)|(simp (disch:=omega) only [go_sem,simprocAttr,qN,qO,qP,qQ,hd,hg,rF,rG])|exact qM rfl rfl rfl|(refine qG rfl ?_)|(refine qH rfl ?_)|(refine qI rfl ?_ ?_<;>intro hc<;>(try simp only [go_sem] at hc))|(refine qJ ?_ ?_<;>intro hc<;>(try simp only [hc])<;>(try simp only [go_sem] at hc)))
 ·have hRe : e = R := by
   rcases hr with ⟨rfl,hr⟩ | ⟨rfl,hr⟩
   ·rw [List.drop_eq_nil_of_le (by omega)] at hr
    exact hr
   ·exact hr.symm
  subst hRe
  repeat' (first|(with_reducible first|apply qA|apply qB|apply qC|apply qD|apply qE|apply qF)|(simp (disch:=omega) only [go_sem,simprocAttr,qN,qO,qP,qQ,hd])|exact qM rfl rfl rfl|(refine qG rfl ?_)|(refine qH rfl ?_)|(refine qI rfl ?_ ?_<;>intro hc<;>(try simp only [go_sem] at hc))|(refine qJ ?_ ?_<;>intro hc<;>(try simp only [hc])<;>(try simp only [go_sem] at hc)))
abbrev trnL : List (List C) := [[.v (.bool false),.v (.bool false)],[.v (.bool true),.v (.bool true)],[.v (.bool true),.v (.bool false)],[.v (.bool false),.v (.bool true)]]
theorem plTurns : DCall Tryz.prog 33 [] [] (.c (.sl false 2 trnL)) [] := by
 refine DCall.of Tryz.func33 sf33 hb33 (Nat.le_of_ble_eq_true rfl) (okRes_nil fun _ => rfl) ?_; simp only [s33,idxs,Nat.reduceAdd]
 repeat' (first|(with_reducible first|apply qA|apply qB|apply qC|apply qD|apply qE|apply qF)|(simp (disch:=omega) only [go_sem,simprocAttr,qN,qO,qP,qQ])|exact qM rfl rfl rfl|(refine qG rfl ?_)|(refine qH rfl ?_)|(refine qI rfl ?_ ?_<;>intro hc<;>(try simp only [go_sem] at hc))|(refine qJ ?_ ?_<;>intro hc<;>(try simp only [hc])<;>(try simp only [go_sem] at hc)))
 (refine retS_ent (Ent.rel 5 rfl) ?_; simp (disch:=omega) only [go_sem,simprocAttr,qN,qO,qP,qQ])
 exact retS_of rfl rfl rfl
def trnX (k : Nat) : Bool := k == 1 || k == 2
def trnY (k : Nat) : Bool := k == 1 || k == 3
def trnP (p : PBs) (b : PBx) (k : Nat) (q : PPl) : PPl := ⟨if trnX k then rmX p - (q.x + sdX b q) else q.x,if trnY k then rmY p - (q.y + sdY b q) else q.y,q.t⟩
theorem trn_get {k : Nat} (hk : k < 4) : trnL[k]? = some [.v (.bool (trnX k)),.v (.bool (trnY k))] := by
 match k,hk with
 | 0,_ => rfl
 | 1,_ => rfl
 | 2,_ => rfl
 | 3,_ => rfl
theorem rowC_snocP (l : List PPl) (q : PPl) : rowC (rows eP l) ++ [[D.c (.v (.int .i64 q.x)),D.c (.v (.int .i64 q.y)),D.c (.v (.bool q.t))]] = rowC (rows eP (l ++ [q])) := by simp [rowC,rows,eP]
set_option maxHeartbeats 4000000 in
theorem plTurned (p : PBs) (b : PBx) (hp : p.ok) (hb : b.ok) (lab : Bool) (l : List PPl) (hl : l.length ≤ 1000) (hf : ∀ q ∈ l,q.fine) (k : Nat) (hk : k < 4) : DCall Tryz.prog 35 [bedD p b,lyD lab l,dI k] [] (lyD false (l.map (trnP p b k))) [] := by
 have hr := plRoom p b hp
 have ht := plTurns
 have hg := trn_get hk
 have hk4 : (k < 4) = True := eq_true hk
 generalize trnL = T at *
 refine DCall.of Tryz.func35 sf35 hb35 (Nat.le_of_ble_eq_true rfl) (okRes_nil fun _ => rfl) ?_; simp only [s35,o35_0,o35_1,o35_2,o35_3,o35_4,o35_5,o35_6,o35_7,o35_8,o35_9,idxs,Nat.reduceAdd]
 repeat' (first|(with_reducible first|apply qA|apply qB|apply qC|apply qD|apply qE|apply qF)|(refine DW.ord rfl (WF.of (by first|rfl|simp (disch:=omega) only [go_sem,simprocAttr,qN,qO,qP,qQ,hg,hk4])) ?_ ?_ ?_; rotate_left)|rfl|(with_reducible refine And.intro ?_ ?_)|(simp (disch:=omega) only [go_sem,simprocAttr,qN,qO,qP,qQ,hg,hk4])|exact qM rfl rfl rfl|(refine qG rfl ?_)|(refine qK (hr) (by decide) ?_)|(refine qK (ht) (by decide) ?_)|(refine qH rfl ?_)|(refine qI rfl ?_ ?_<;>intro hc<;>(try simp only [go_sem] at hc))|(refine qJ ?_ ?_<;>intro hc<;>(try simp only [hc])<;>(try simp only [go_sem] at hc)))
 refine DW.ent (Ent.adopt 6 48 3 rfl rfl rfl) ?_
 refine DW.loop (ι := { i : Nat // i ≤ l.length }) (fun i => ⟨51,[(20,dI i.1),(19,dI l.length),(18,lyD lab l),(8,.box 8 0),(7,.box 7 0),(6,.own 48),(3,.box 3 0)],[(48,.row 3 (rowC (rows eP ((l.take i.1).map (trnP p b k))))),(8,.box [bD (trnX k),bD (trnY k)]),(7,.box [dI (rmX p),dI (rmY p)]),(3,.box (bedL p b))]⟩) (fun i => l.length - i.1) ⟨0,Nat.zero_le _⟩ ?_ ?_
 ·refine Ent.to ?_ ?_ <;> simp (disch:=omega) only [qR,qS,qT,qU,get,Nat.reduceEqDiff,↓reduceIte,qV,qW,qX,qY,qZ,and_self,dI,i64_in,and_true,true_and,rA,rB,rC,rD,ins,Nat.reduceLT,List.take_zero,rG]
  all_goals first | exact ⟨.refl _,.refl _,.refl _⟩ | exact ⟨.refl _,.refl _⟩ | exact .refl _
 rintro ⟨i,hi⟩
 dsimp only
 rcases at_or l i hi with ⟨q,hq,hlt,hd⟩ | ⟨he,hd⟩
 ·have hqf := hf q (List.mem_of_getElem? hq)
  have ha := plArea p b hb q hqf
  have hqx := hqf.x
  have hqy := hqf.y
  have hqs := side_pos hb q
  have hrx : 1 ≤ rmX p ∧ rmX p ≤ 140 := by have := hp.lg; have := hp.ov; unfold rmX; omega
  have hry : 1 ≤ rmY p ∧ rmY p ≤ 140 := by have := hp.wd; have := hp.ov; unfold rmY; omega
  have w1 : IntKind.i64.wrap (rmX p - (q.x + sdX b q)) = rmX p - (q.x + sdX b q) := IntWalk.i64_in _ (by omega)
  have w2 : IntKind.i64.wrap (rmY p - (q.y + sdY b q)) = rmY p - (q.y + sdY b q) := IntWalk.i64_in _ (by omega)
  have htk : (l.take (i + 1)).map (trnP p b k) = (l.take i).map (trnP p b k) ++ [trnP p b k q] := by rw [List.take_add_one,hq]; simp
  have htl : ((l.take i).map (trnP p b k)).length ≤ 1000 := by rw [List.length_map,List.length_take]; omega
  generalize (l.take i).map (trnP p b k) = M at *
  cases hx : trnX k <;> cases hy : trnY k
  all_goals
   have hsn := rowC_snocP M (trnP p b k q)
   simp only [trnP,hx,hy,if_true,Bool.false_eq_true,if_false] at hsn htk
   repeat' (first|(with_reducible first|apply qA|apply qB|apply qC|apply qD|apply qE|apply qF)|(refine DW.ord rfl (WF.of (by first|rfl|simp (disch:=omega) only [go_sem,simprocAttr,qN,qO,qP,qQ,hd,hq,w1,w2,hsn,rF,rG])) ?_ ?_ ?_; rotate_left)|rfl|(with_reducible refine And.intro ?_ ?_)|(simp (disch:=omega) only [go_sem,simprocAttr,qN,qO,qP,qQ,hd,hq,w1,w2,hsn,rF,rG])|exact qM rfl rfl rfl|(refine qG rfl ?_)|(refine qK (ha) (by decide) ?_)|(refine qH rfl ?_)|(refine qI rfl ?_ ?_<;>intro hc<;>(try simp only [go_sem] at hc))|(refine qJ ?_ ?_<;>intro hc<;>(try simp only [hc])<;>(try simp only [go_sem] at hc)))
   refine ⟨⟨i + 1,hlt⟩,?_,Ent.to ?_ ?_⟩ <;> first | (show _ < _; (try simp only); omega) | (simp (disch:=omega) only [qR,qS,qT,qU,get,Nat.reduceEqDiff,↓reduceIte,qV,qW,qX,qY,qZ,and_self,dI,i64_in,and_true,true_and,rA,rB,rC,rD,htk,hsn,hx,hy])
   all_goals first | exact ⟨.refl _,.refl _,.refl _⟩ | exact ⟨.refl _,.refl _⟩ | exact .refl _
 ·have hti : l.take i = l := by rw [he,List.take_length]
  rw [hti]
  repeat' (first|(with_reducible first|apply qA|apply qB|apply qC|apply qD|apply qE|apply qF)|(refine DW.ord rfl (WF.of (by first|rfl|simp (disch:=omega) only [go_sem,simprocAttr,qN,qO,qP,qQ,hd])) ?_ ?_ ?_; rotate_left)|rfl|(with_reducible refine And.intro ?_ ?_)|(simp (disch:=omega) only [go_sem,simprocAttr,qN,qO,qP,qQ,hd])|exact qM rfl rfl rfl|(refine qG rfl ?_)|(refine qH rfl ?_)|(refine qI rfl ?_ ?_<;>intro hc<;>(try simp only [go_sem] at hc))|(refine qJ ?_ ?_<;>intro hc<;>(try simp only [hc])<;>(try simp only [go_sem] at hc)))
  (refine retS_ent (Ent.rel 48 rfl) ?_; simp (disch:=omega) only [go_sem,simprocAttr,qN,qO,qP,qQ])
  refine retS_wk rfl ?_ (by simp only [Blk.nb,rowC_nb,D.nb,D.nbs,C.nb,C.nbs,C.nbss,rows_nb eI_nb,Bool.and_true,Bool.not_false,Bool.and_self,bD,dI,iD,rows_nb eP_nb,rows_nb eLs_nb]); exact .refl _
def trnE (p : PBs) (b : PBx) (l : List PPl) (k : Int) : Int := if opE p b [l] ≠ 0 then opE p b [l] else if ¬ (0 ≤ k ∧ k ≤ 3) then 3 else rgtE p b [l]
def trnD (p : PBs) (b : PBx) (l : List PPl) (k : Int) : D := if trnE p b l k = 0 then lyD false (l.map (trnP p b k.toNat)) else .c (.v (.slice none 0 0))
set_option maxHeartbeats 2000000 in
theorem plTurnX (p : PBs) (b : PBx) (l : List PPl) (hl : l.length ≤ 2 ^ 36) (k : Int) : DCall Tryz.prog 24 [bsD p,bxD b,lyD false l,dI k] [] (.tup [trnD p b l k,dI (trnE p b l k)]) [] := by
 have ht := plTurns
 by_cases hc : chkE p b = 0
 case neg =>
  have h1 := plOpenE true p b [l] hc
  rw [one_ls] at h1
  have hE : opE p b [l] = chkE p b := if_pos hc
  have hT : trnE p b l k = chkE p b := by unfold trnE; rw [hE,if_pos hc]
  rw [trnD,hT,if_neg hc]
  generalize chkE p b = e at *
  have hd : (e != 0) = true := by simpa using hc
  refine DCall.of Tryz.func24 sf24 hb24 (Nat.le_of_ble_eq_true rfl) (okRes_nil fun _ => rfl) ?_; simp only [s24,idxs,Nat.reduceAdd]
  repeat' (first|(with_reducible first|apply qA|apply qB|apply qC|apply qD|apply qE|apply qF)|(simp (disch:=omega) only [go_sem,simprocAttr,qN,qO,qP,qQ,hd])|exact qM rfl rfl rfl|(refine qG rfl ?_)|(refine qK (h1) (by decide) ?_)|(refine qH rfl ?_)|(refine qI rfl ?_ ?_<;>intro hc<;>(try simp only [go_sem] at hc))|(refine qJ ?_ ?_<;>intro hc<;>(try simp only [hc])<;>(try simp only [go_sem] at hc)))
 have h1 := plOpen true p b [l] (by simp) (by simpa using hl) hc
 rw [one_ls] at h1
 have hE : opE p b [l] = lyE [l] := if_neg (by rw [hc]; decide)
 by_cases hy : lyE [l] = 0
 case neg =>
  have hT : trnE p b l k = lyE [l] := by unfold trnE; rw [hE,if_pos hy]
  rw [trnD,hT,if_neg hy]
  generalize lyE [l] = e at *
  have hd : (e != 0) = true := by simpa using hy
  refine DCall.of Tryz.func24 sf24 hb24 (Nat.le_of_ble_eq_true rfl) (okRes_nil fun _ => rfl) ?_; simp only [s24,idxs,Nat.reduceAdd]
  repeat' (first|(with_reducible first|apply qA|apply qB|apply qC|apply qD|apply qE|apply qF)|(simp (disch:=omega) only [go_sem,simprocAttr,qN,qO,qP,qQ,hd])|exact qM rfl rfl rfl|(refine qG rfl ?_)|(refine qK (h1) (by decide) ?_)|(refine qH rfl ?_)|(refine qI rfl ?_ ?_<;>intro hc<;>(try simp only [go_sem] at hc))|(refine qJ ?_ ?_<;>intro hc<;>(try simp only [hc])<;>(try simp only [go_sem] at hc)))
 obtain ⟨h200,hpl⟩ := ly_ok hy l (by simp)
 obtain ⟨hp,hb⟩ := chk_ok.1 hc
 rw [hy] at h1
 have h2 := plWithin true 0 3 [k] (by simp)
 by_cases hk : 0 ≤ k ∧ k ≤ 3
 case neg =>
  have hT : trnE p b l k = 3 := by unfold trnE; rw [hE,if_neg (by rw [hy]; decide),if_pos hk]
  rw [trnD,hT,if_neg (by decide)]
  have hw : wthn 0 3 [k] = false := by
   rw [← Bool.not_eq_true,wthn_iff]
   intro h
   exact hk (h k (by simp))
  rw [hw] at h2
  refine DCall.of Tryz.func24 sf24 hb24 (Nat.le_of_ble_eq_true rfl) (okRes_nil fun _ => rfl) ?_; simp only [s24,idxs,Nat.reduceAdd]
  repeat' (first|(with_reducible first|apply qA|apply qB|apply qC|apply qD|apply qE|apply qF)|(simp (disch:=omega) only [go_sem,simprocAttr,qN,qO,qP,qQ])|exact qM rfl rfl rfl|(refine qG rfl ?_)|(refine qK (h1) (by decide) ?_)|(refine qK (h2) (by decide) ?_)|(refine qK (ht) (by decide) ?_)|(refine qH rfl ?_)|(refine qI rfl ?_ ?_<;>intro hc<;>(try simp only [go_sem] at hc))|(refine qJ ?_ ?_<;>intro hc<;>(try simp only [hc])<;>(try simp only [go_sem] at hc)))
 have hw : wthn 0 3 [k] = true := wthn_iff.2 (by simpa using hk)
 rw [hw] at h2
 have h3 := plRight true p b [l] (by simp) (by simpa using hl)
 rw [one_ls,if_pos hc] at h3
 have hT : trnE p b l k = rgtE p b [l] := by unfold trnE; rw [hE,if_neg (by rw [hy]; decide),if_neg (by simpa using hk)]
 obtain ⟨n,rfl⟩ : ∃ n : Nat,k = (n : Int) := ⟨k.toNat,by omega⟩
 have h4 := plTurned p b hp hb false l (by omega) (fun q hq => fine_of (hpl q hq)) n (by omega)
 by_cases hr : rgtE p b [l] = 0
 ·rw [trnD,hT,if_pos hr,Int.toNat_natCast]
  rw [hr] at h3 ⊢
  refine DCall.of Tryz.func24 sf24 hb24 (Nat.le_of_ble_eq_true rfl) (okRes_nil fun _ => rfl) ?_; simp only [s24,idxs,Nat.reduceAdd]
  repeat' (first|(with_reducible first|apply qA|apply qB|apply qC|apply qD|apply qE|apply qF)|(simp (disch:=omega) only [go_sem,simprocAttr,qN,qO,qP,qQ])|exact qM rfl rfl rfl|(refine qG rfl ?_)|(refine qK (h1) (by decide) ?_)|(refine qK (h2) (by decide) ?_)|(refine qK (h3) (by decide) ?_)|(refine qK (h4) (by decide) ?_)|(refine qK (ht) (by decide) ?_)|(refine qH rfl ?_)|(refine qI rfl ?_ ?_<;>intro hc<;>(try simp only [go_sem] at hc))|(refine qJ ?_ ?_<;>intro hc<;>(try simp only [hc])<;>(try simp only [go_sem] at hc)))
  refine retS_wk rfl ?_ (by simp only [Blk.nb,rowC_nb,D.nb,D.nbs,C.nb,C.nbs,C.nbss,rows_nb eI_nb,Bool.and_true,Bool.not_false,Bool.and_self,bD,dI,iD,rows_nb eP_nb,rows_nb eLs_nb]); exact .refl _
 ·rw [trnD,hT,if_neg hr]
  generalize rgtE p b [l] = e at *
  have hd : (e != 0) = true := by simpa using hr
  refine DCall.of Tryz.func24 sf24 hb24 (Nat.le_of_ble_eq_true rfl) (okRes_nil fun _ => rfl) ?_; simp only [s24,idxs,Nat.reduceAdd]
  repeat' (first|(with_reducible first|apply qA|apply qB|apply qC|apply qD|apply qE|apply qF)|(simp (disch:=omega) only [go_sem,simprocAttr,qN,qO,qP,qQ,hd])|exact qM rfl rfl rfl|(refine qG rfl ?_)|(refine qK (h1) (by decide) ?_)|(refine qK (h2) (by decide) ?_)|(refine qK (h3) (by decide) ?_)|(refine qK (ht) (by decide) ?_)|(refine qH rfl ?_)|(refine qI rfl ?_ ?_<;>intro hc<;>(try simp only [go_sem] at hc))|(refine qJ ?_ ?_<;>intro hc<;>(try simp only [hc])<;>(try simp only [go_sem] at hc)))
end Go.Dw.Seat
end
section
set_option linter.unusedSimpArgs false
set_option maxRecDepth 100000
namespace Go.Dw.Seat
open Go Go.Dw Go.Proofs Go.IntWalk
def onF (b : PBx) (q : PPl) : Nat → List PPl → List Int
 | _,[] => []
 | i,r :: l => if 0 < comI b q r then (i : Int) :: onF b q (i + 1) l else onF b q (i + 1) l
def arF (b : PBx) (q : PPl) : List PPl → Int
 | [] => 0
 | r :: l => comI b q r + arF b q l
structure PRs where
 on : List Int
 sh : Int
def rsF (b : PBx) (l : List PPl) (q : PPl) : PRs := ⟨onF b q 0 l,1000 * arF b q l / (b.lg * b.wd)⟩
def eR (r : PRs) : List C := [.sl false 1 (rows eI r.on),.v (.int .i64 r.sh)]
theorem eR_nb (r : PRs) : C.nbs (eR r) = true := by
 simp only [eR,C.nbs,C.nb,rows_nb eI_nb,Bool.and_self,Bool.not_false]
attribute [go_sem] eR
theorem onF_app (b : PBx) (q : PPl) : ∀ (l : List PPl) (i : Nat) (r : PPl),onF b q i (l ++ [r]) = onF b q i l ++ (if 0 < comI b q r then [((i + l.length : Nat) : Int)] else [])
 | [],i,r => by simp only [List.nil_append,onF,List.length_nil,Nat.add_zero]
 | a :: l,i,r => by
  rw [List.cons_append,onF,onF_app b q l,onF,List.length_cons,show i + 1 + l.length = i + (l.length + 1) by omega]
  split <;> rfl
theorem arF_app (b : PBx) (q : PPl) : ∀ (l : List PPl) (r : PPl),arF b q (l ++ [r]) = arF b q l + comI b q r
 | [],r => by simp [arF]
 | a :: l,r => by rw [List.cons_append,arF,arF_app b q l,arF]; omega
theorem onF_len (b : PBx) (q : PPl) : ∀ (l : List PPl) (i : Nat),(onF b q i l).length ≤ l.length
 | [],_ => Nat.le_refl _
 | a :: l,i => by
  have := onF_len b q l (i + 1)
  rw [onF]
  split <;> simp only [List.length_cons] <;> omega
theorem com_le {b : PBx} (hb : b.ok) (q r : PPl) : 0 ≤ comI b q r ∧ comI b q r ≤ 10000 := by
 have hov := ov_b hb q r
 have h1 := Int.mul_le_mul hov.1.2 hov.2.2 hov.2.1 (by omega : (0 : Int) ≤ 100)
 have h2 := Int.mul_nonneg hov.1.1 hov.2.1
 unfold comI
 omega
theorem arF_b {b : PBx} (hb : b.ok) (q : PPl) : ∀ l : List PPl,0 ≤ arF b q l ∧ arF b q l ≤ 10000 * (l.length : Int)
 | [] => by simp [arF]
 | a :: l => by
  have := arF_b hb q l
  have := com_le hb q a
  rw [arF,List.length_cons]
  omega
abbrev rsD (r : PRs) : D := .agg [dIs false r.on,dI r.sh]
theorem rowC_snocI (l : List Int) (x : Int) : rowC (rows eI l) ++ [[D.c (.v (.int .i64 x))]] = rowC (rows eI (l ++ [x])) := by simp [rowC,rows,eI]
def enR (r : PRs) : List D := [rsD r]
attribute [go_sem] enR
abbrev bedC (p : PBs) (b : PBx) : List C := [.v (.int .i64 p.lg),.v (.int .i64 p.wd),.v (.int .i64 p.hi),.v (.int .i64 p.ov),.v (.int .i64 p.top),.v (.int .i64 p.load),.v (.int .i64 b.lg),.v (.int .i64 b.wd),.v (.int .i64 b.hi),.v (.int .i64 b.wl),.v (.int .i64 b.wh),.v (.int .i64 b.sl),.v (.int .i64 b.sh)]
theorem plRests0 (p : PBs) (b : PBx) (below above : List PPl) : DCall Tryz.prog 34 [bedD p b,lyD false below,lyD false above] [] (.fn (.func 65) [] [.c (.ro false [.sl false 3 (rows eP above)] 0),.c (.ro false [.sl false 3 (rows eP below)] 0),.c (.ro false (bedC p b) 0)]) [] := by
 refine DCall.of Tryz.func34 sf34 hb34 (Nat.le_of_ble_eq_true rfl) (okRes_nil fun _ => rfl) ?_; simp only [s34,idxs,Nat.reduceAdd]
 repeat' (first|(with_reducible first|apply qA|apply qB|apply qC|apply qD|apply qE|apply qF)|(simp (disch:=omega) only [go_sem,simprocAttr,qN,qO,qP,qQ])|exact qM rfl rfl rfl|(refine qG rfl ?_)|(refine qH rfl ?_)|(refine qI rfl ?_ ?_<;>intro hc<;>(try simp only [go_sem] at hc))|(refine qJ ?_ ?_<;>intro hc<;>(try simp only [hc])<;>(try simp only [go_sem] at hc)))
 (refine retS_ent (Ent.rel 3 rfl) ?_; simp (disch:=omega) only [go_sem,simprocAttr,qN,qO,qP,qQ])
 (refine retS_ent (Ent.rel 4 rfl) ?_; simp (disch:=omega) only [go_sem,simprocAttr,qN,qO,qP,qQ])
 (refine retS_ent (Ent.rel 5 rfl) ?_; simp (disch:=omega) only [go_sem,simprocAttr,qN,qO,qP,qQ])
 refine retS_wk rfl ?_ (by simp only [Blk.nb,rowC_nb,D.nb,D.nbs,C.nb,C.nbs,C.nbss,rows_nb eI_nb,Bool.and_true,Bool.not_false,Bool.and_self,bD,dI,iD,rows_nb eP_nb,rows_nb eLs_nb]); exact .refl _
set_option maxHeartbeats 4000000 in
theorem plRests1 (p : PBs) (b : PBx) (hb : b.ok) (below above : List PPl) (hl1 : below.length ≤ 1000) (hl2 : above.length ≤ 1000) (hf1 : ∀ q ∈ below,q.fine) (hf2 : ∀ q ∈ above,q.fine) : ItB true Tryz.prog 65 [] [.c (.ro false [.sl false 3 (rows eP above)] 0),.c (.ro false [.sl false 3 (rows eP below)] 0),.c (.ro false (bedC p b) 0)] enR (fun _ => True) (above.map (rsF b below)) := by
 intro ly β H stp live _ hW hY b0 hl0
 have hH : ∀ b,HidOk (H b) := fun b => (hW b).toHidOk
 refine DCall.of Tryz.func65 sf65 hb65 (Nat.le_of_ble_eq_true rfl) (hH _).res ?_
 simp only [s65,idxs,Nat.reduceAdd,List.map_nil,List.map_cons,List.nil_append,List.cons_append]
 have f1 := hid_get (hH b0)
 have f2 := hid_ins (hH b0)
 have f3 := (hH b0).men
 have f4 := (hH b0).lo
 repeat' (first|(with_reducible first|apply qA|apply qB|apply qC|apply qD|apply qE|apply qF)|(refine qL rfl (WF.of ?_) ?_; first|rfl|skip)|(simp (disch:=omega) only [go_sem,simprocAttr,qN,qO,qP,qQ,f1,f2,f3,f4,ins,rF,rG])|exact qM rfl rfl rfl|(refine qG rfl ?_)|(refine qH rfl ?_)|(refine qI rfl ?_ ?_<;>intro hc<;>(try simp only [go_sem] at hc))|(refine qJ ?_ ?_<;>intro hc<;>(try simp only [hc])<;>(try simp only [go_sem] at hc)))
 refine DW.loop (ι := { y : Nat × β // y.1 ≤ above.length ∧ live ((above.drop y.1).map (rsF b below)) y.2 ∧ runB stp b0 (above.map (rsF b below)) = runB stp y.2 ((above.drop y.1).map (rsF b below)) })
  (fun y => ⟨60,[(14,dI y.1.1),(13,dI above.length),(12,lyD false above),(0,.c (.fn (.yield ly) [] [])),(2,.c (.ro false [.sl false 3 (rows eP below)] 0)),(3,.c (.ro false (bedC p b) 0))],H y.1.2⟩) (fun y => above.length - y.1.1) ⟨(0,b0),Nat.zero_le _,by simpa using hl0,by simp⟩ ?_ ?_
 ·refine Ent.toH (o := []) (o' := []) (hH b0) rfl ?_ ?_ <;> simp (disch:=omega) only [qR,qS,qT,qU,get,Nat.reduceEqDiff,↓reduceIte,qV,qW,qX,qY,qZ,and_self,dI,i64_in,and_true,true_and,rA,rB,rC,rD]
 rintro ⟨⟨k,b1⟩,hk,hlv,hrun⟩
 dsimp only at hk hlv hrun ⊢
 have g1 := hid_get (hH b1)
 have g2 := hid_ins (hH b1)
 have g3 := (hH b1).men
 have g4 := (hH b1).lo
 have g5 : ∀ k x,k < 1000 → ins k x (H b1) = H b1 ++ [(k,x)] := fun k x hk => by have := g2 k hk x []; rwa [List.append_nil] at this
 have g6 := (hW b1).app4
 have g7 := (hW b1).app3
 have g8 := fun k x (hk : k < 1000) => relX_hid (hH b1) k hk x
 have g9 := fun k (hk : k < 1000) => kill_hid (hH b1) k hk
 rcases at_or above k hk with ⟨q,hq,hlt,hd⟩ | ⟨he,hd⟩
 ·have hqf := hf2 q (List.mem_of_getElem? hq)
  have ha := plArea p b hb q hqf
  have hbl := hb.lg
  have hbw := hb.wd
  repeat' (first|(with_reducible first|apply qA|apply qB|apply qC|apply qD|apply qE|apply qF)|(refine qL rfl (WF.of ?_) ?_; first|rfl|skip)|(simp (disch:=omega) only [go_sem,simprocAttr,qN,qO,qP,qQ,g1,g2,g3,g4,g5,ins,hd,hq,rF,rG])|exact qM rfl rfl rfl|(refine qG rfl ?_)|(refine qH rfl ?_)|(refine qI rfl ?_ ?_<;>intro hc<;>(try simp only [go_sem] at hc))|(refine qJ ?_ ?_<;>intro hc<;>(try simp only [hc])<;>(try simp only [go_sem] at hc)))
  refine DW.ent (Ent.comm (hH b1) rfl).1 ?_
  simp (disch:=omega) only [go_sem,simprocAttr,qN,qO,qP,qQ,List.cons_append,List.nil_append]
  refine DW.ent (Ent.adoptB 7 0 38 1 rfl rfl (by simp (disch:=omega) only [go_sem,simprocAttr,qN,qO,qP,qQ,g4]) (by simp (disch:=omega) only [go_sem,simprocAttr,qN,qO,qP,qQ,g3,menS,List.any_cons])) ?_
  simp only [ins,Nat.reduceLT,Nat.reduceEqDiff,↓reduceIte,List.set_cons_zero,List.set_cons_succ]
  refine DW.loop (ι := { i : Nat // i ≤ below.length }) (fun i => ⟨60,[(20,dI i.1),(19,dI below.length),(18,lyD false below),(14,dI k),(13,dI above.length),(12,lyD false above),(8,dI (arF b q (below.take i.1))),(7,.box 7 0),(6,.box 6 0),(0,.c (.fn (.yield ly) [] [])),(2,.c (.ro false [.sl false 3 (rows eP below)] 0)),(3,.c (.ro false (bedC p b) 0))],[(38,.row 1 (rowC (rows eI (onF b q 0 (below.take i.1))))),(7,.box [.own 38,dI 0]),(6,.box [dI q.x,dI q.y,bD q.t])] ++ H b1⟩) (fun i => below.length - i.1) ⟨0,Nat.zero_le _⟩ ?_ ?_
  ·refine Ent.toH (o := [_,_,_]) (o' := [_,_,_]) (hH b1) rfl ?_ ?_ <;> simp (disch:=omega) only [qR,qS,qT,qU,get,Nat.reduceEqDiff,↓reduceIte,qV,qW,qX,qY,qZ,and_self,dI,i64_in,and_true,true_and,rA,rB,rC,rD,List.take_zero,onF,arF]
   all_goals first | exact ⟨.refl _,.refl _,.refl _⟩ | exact ⟨.refl _,.refl _⟩ | exact .refl _
  rintro ⟨i,hi⟩
  dsimp only
  rcases at_or below i hi with ⟨r,hr,hlti,hdi⟩ | ⟨hei,hdi⟩
  ·have hrf := hf1 r (List.mem_of_getElem? hr)
   have ha2 := plArea p b hb r hrf
   have hc := plCommon b hb q r hqf hrf
   have hcb := com_le hb q r
   have htk : below.take (i + 1) = below.take i ++ [r] := by rw [List.take_add_one,hr]; rfl
   have htl : (below.take i).length = i := by rw [List.length_take]; omega
   have hab := arF_b hb q (below.take i)
   have hol := onF_len b q (below.take i) 0
   have hS := arF_app b q (below.take i) r
   have hO := onF_app b q (below.take i) 0 r
   rw [← htk,htl,Nat.zero_add] at hO
   rw [← htk] at hS
   rw [htl] at hab hol
   generalize arF b q (below.take i) = S at *
   generalize onF b q 0 (below.take i) = O at *
   by_cases hpos : 0 < comI b q r
   ·have dp : decide (0 < comI b q r) = true := decide_eq_true hpos
    rw [if_pos hpos] at hO
    repeat' (first|(with_reducible first|apply qA|apply qB|apply qC|apply qD|apply qE|apply qF)|(refine qL rfl (WF.of ?_) ?_; first|rfl|skip)|(simp (disch:=omega) only [go_sem,simprocAttr,qN,qO,qP,qQ,g1,g2,g3,g4,g5,g6,g7,g9,ins,hdi,hr,dp,rF,rG])|exact qM rfl rfl rfl|(refine qG rfl ?_)|(refine qK (ha) (by decide) ?_)|(refine qK (ha2) (by decide) ?_)|(refine qK (hc) (by decide) ?_)|(refine qH rfl ?_)|(refine qI rfl ?_ ?_<;>intro hc<;>(try simp only [go_sem] at hc))|(refine qJ ?_ ?_<;>intro hc<;>(try simp only [hc])<;>(try simp only [go_sem] at hc)))
    have wS : IntKind.i64.wrap (S + comI b q r) = S + comI b q r := IntWalk.i64_in _ (by omega)
    refine ⟨⟨i + 1,hlti⟩,(by show _ < _; (try simp only); omega),Ent.toH (o := [_,_,_,_,_]) (o' := [_,_,_]) (hH b1) rfl ?_ ?_⟩ <;> simp (disch:=omega) only [qR,qS,qT,qU,get,Nat.reduceEqDiff,↓reduceIte,qV,qW,qX,qY,qZ,and_self,dI,i64_in,and_true,true_and,rA,rB,rC,rD,hS,hO,rowC_snocI]
    all_goals first | exact ⟨.refl _,.refl _,.refl _⟩ | exact ⟨.refl _,.refl _⟩ | exact .refl _
   ·have dp : decide (0 < comI b q r) = false := decide_eq_false hpos
    rw [if_neg hpos,List.append_nil] at hO
    have h0 : comI b q r = 0 := by omega
    repeat' (first|(with_reducible first|apply qA|apply qB|apply qC|apply qD|apply qE|apply qF)|(refine qL rfl (WF.of ?_) ?_; first|rfl|skip)|(simp (disch:=omega) only [go_sem,simprocAttr,qN,qO,qP,qQ,g1,g2,g3,g4,g5,g6,g7,g9,ins,hdi,hr,dp,rF,rG])|exact qM rfl rfl rfl|(refine qG rfl ?_)|(refine qK (ha) (by decide) ?_)|(refine qK (ha2) (by decide) ?_)|(refine qK (hc) (by decide) ?_)|(refine qH rfl ?_)|(refine qI rfl ?_ ?_<;>intro hc<;>(try simp only [go_sem] at hc))|(refine qJ ?_ ?_<;>intro hc<;>(try simp only [hc])<;>(try simp only [go_sem] at hc)))
    refine ⟨⟨i + 1,hlti⟩,(by show _ < _; (try simp only); omega),Ent.toH (o := [_,_,_,_]) (o' := [_,_,_]) (hH b1) rfl ?_ ?_⟩ <;> simp (disch:=omega) only [qR,qS,qT,qU,get,Nat.reduceEqDiff,↓reduceIte,qV,qW,qX,qY,qZ,and_self,dI,i64_in,and_true,true_and,rA,rB,rC,rD,hS,hO,h0,Int.add_zero]
    all_goals first | exact ⟨.refl _,.refl _,.refl _⟩ | exact ⟨.refl _,.refl _⟩ | exact .refl _
  ·have hti : below.take i = below := List.take_of_length_le (by omega)
   rw [hti]
   have hab := arF_b hb q below
   have hm1 : 0 < b.lg * b.wd := Int.mul_pos (by omega) (by omega)
   have hm2 : b.lg * b.wd ≤ 100 * 100 := Int.mul_le_mul hbl.2 hbw.2 (by omega) (by omega)
   have w1 : IntKind.i64.wrap (b.lg * b.wd) = b.lg * b.wd := IntWalk.i64_in _ (by omega)
   have hz : (b.lg * b.wd = 0) = False := eq_false (by omega)
   have w2 : IntKind.i64.wrap (1000 * arF b q below) = 1000 * arF b q below := IntWalk.i64_in _ (by omega)
   have hq0 : 0 ≤ 1000 * arF b q below / (b.lg * b.wd) := Int.ediv_nonneg (by omega) (by omega)
   have hq1 : 1000 * arF b q below / (b.lg * b.wd) ≤ 1000 * arF b q below := Int.ediv_le_self _ (by omega)
   have ht : Int.tdiv (1000 * arF b q below) (b.lg * b.wd) = 1000 * arF b q below / (b.lg * b.wd) := Int.tdiv_eq_ediv_of_nonneg (by omega)
   have w3 : IntKind.i64.wrap (1000 * arF b q below / (b.lg * b.wd)) = 1000 * arF b q below / (b.lg * b.wd) := IntWalk.i64_in _ (by omega)
   have hrs : rsF b below q = ⟨onF b q 0 below,1000 * arF b q below / (b.lg * b.wd)⟩ := rfl
   have hdk : above.drop k = q :: above.drop (k + 1) := by rw [List.drop_eq_getElem_cons hlt,(List.getElem_eq_iff hlt).2 hq]
   rw [hdk,List.map_cons] at hlv hrun
   obtain ⟨hyc,hlv2⟩ := hY b1 (rsF b below q) _ hlv trivial
   rw [runB] at hrun
   generalize rsF b below q = Rs at *
   subst hrs
   generalize onF b q 0 below = O at *
   generalize 1000 * arF b q below / (b.lg * b.wd) = Q at *
   refine DW.ent (Ent.rel 38 rfl) ?_
   simp (disch:=omega) only [go_sem,simprocAttr,qN,qO,qP,qQ,g8,List.cons_append,List.nil_append]
   cases hc : (stp b1 ⟨O,Q⟩).1 with
   | true =>
    rw [hc] at hyc
    rw [hc,if_pos rfl] at hrun
    repeat' (first|(with_reducible first|apply qA|apply qB|apply qC|apply qD|apply qE|apply qF)|(refine qL rfl (WF.of ?_) ?_; first|rfl|skip)|(simp (disch:=omega) only [go_sem,simprocAttr,qN,qO,qP,qQ,g1,g2,g3,g4,g5,g6,g7,g9,ins,hdi,w1,w2,w3,hz,ht,rF,rG])|exact qM rfl rfl rfl|(refine qG rfl ?_)|(refine qH rfl ?_)|(refine qI rfl ?_ ?_<;>intro hc<;>(try simp only [go_sem] at hc))|(refine qJ ?_ ?_<;>intro hc<;>(try simp only [hc])<;>(try simp only [go_sem] at hc)))
    refine call_y (own := [_,_]) hyc rfl rfl rfl (hH _) (hH _) (by decide) ?_
    simp (disch:=omega) only [go_sem,simprocAttr,qN,qO,qP,qQ]
    repeat' (first|(with_reducible first|apply qA|apply qB|apply qC|apply qD|apply qE|apply qF)|(refine qL rfl (WF.of ?_) ?_; first|rfl|skip)|(simp (disch:=omega) only [go_sem,simprocAttr,qN,qO,qP,qQ])|exact qM rfl rfl rfl|(refine qG rfl ?_)|(refine qH rfl ?_)|(refine qI rfl ?_ ?_<;>intro hc<;>(try simp only [go_sem] at hc))|(refine qJ ?_ ?_<;>intro hc<;>(try simp only [hc])<;>(try simp only [go_sem] at hc)))
    refine ⟨⟨(k + 1,(stp b1 ⟨O,Q⟩).2),hlt,hlv2 hc,hrun⟩,(by show _ < _; (try simp only); omega),Ent.toH (o := [_,_]) (o' := []) (hH _) rfl ?_ ?_⟩ <;> simp (disch:=omega) only [qR,qS,qT,qU,get,Nat.reduceEqDiff,↓reduceIte,qV,qW,qX,qY,qZ,and_self,dI,i64_in,and_true,true_and,rA,rB,rC,rD]
    all_goals first | exact ⟨.refl _,.refl _,.refl _⟩ | exact ⟨.refl _,.refl _⟩ | exact .refl _
   | false =>
    rw [hc] at hyc
    rw [hc,if_neg Bool.false_ne_true] at hrun
    repeat' (first|(with_reducible first|apply qA|apply qB|apply qC|apply qD|apply qE|apply qF)|(refine qL rfl (WF.of ?_) ?_; first|rfl|skip)|(simp (disch:=omega) only [go_sem,simprocAttr,qN,qO,qP,qQ,g1,g2,g3,g4,g5,g6,g7,g9,ins,hdi,w1,w2,w3,hz,ht,rF,rG])|exact qM rfl rfl rfl|(refine qG rfl ?_)|(refine qH rfl ?_)|(refine qI rfl ?_ ?_<;>intro hc<;>(try simp only [go_sem] at hc))|(refine qJ ?_ ?_<;>intro hc<;>(try simp only [hc])<;>(try simp only [go_sem] at hc)))
    refine call_y (own := [_,_]) hyc rfl rfl rfl (hH _) (hH _) (by decide) ?_
    simp (disch:=omega) only [go_sem,simprocAttr,qN,qO,qP,qQ]
    repeat' (first|(with_reducible first|apply qA|apply qB|apply qC|apply qD|apply qE|apply qF)|(refine qL rfl (WF.of ?_) ?_; first|rfl|skip)|(simp (disch:=omega) only [go_sem,simprocAttr,qN,qO,qP,qQ])|exact qM rfl rfl rfl|(refine qG rfl ?_)|(refine qH rfl ?_)|(refine qI rfl ?_ ?_<;>intro hc<;>(try simp only [go_sem] at hc))|(refine qJ ?_ ?_<;>intro hc<;>(try simp only [hc])<;>(try simp only [go_sem] at hc)))
    rw [hrun]
    exact retS_hid (own := [_,_]) (.inl rfl) (hH _) rfl
 ·have hnil : above.drop k = [] := List.drop_eq_nil_of_le (by omega)
  rw [hnil,List.map_nil,runB] at hrun
  repeat' (first|(with_reducible first|apply qA|apply qB|apply qC|apply qD|apply qE|apply qF)|(refine qL rfl (WF.of ?_) ?_; first|rfl|skip)|(simp (disch:=omega) only [go_sem,simprocAttr,qN,qO,qP,qQ,hd])|exact qM rfl rfl rfl|(refine qG rfl ?_)|(refine qH rfl ?_)|(refine qI rfl ?_ ?_<;>intro hc<;>(try simp only [go_sem] at hc))|(refine qJ ?_ ?_<;>intro hc<;>(try simp only [hc])<;>(try simp only [go_sem] at hc)))
  rw [hrun]
  exact retS_hid (own := []) (.inr rfl) (hH _) rfl
end Go.Dw.Seat
end
section
set_option linter.unusedSimpArgs false
set_option maxRecDepth 100000
namespace Go.Dw.Seat
open Go Go.Dw Go.IntWalk
structure PLy where
 lg : Int
 fr : Int
 bk : Int
 fm : Int
 bm : Int
structure PIt where
 lg : Int
 wl : Int
 wh : Int
structure PLy.ok (l : PLy) : Prop where
 lg : 1 ≤ l.lg ∧ l.lg ≤ 2000
 ax : (0 ≤ l.fr ∧ l.fr < l.bk) ∧ l.bk ≤ l.lg
 fm : 0 ≤ l.fm ∧ l.fm ≤ 40000000
 bm : 0 ≤ l.bm ∧ l.bm ≤ 40000000
structure PIt.ok (x : PIt) : Prop where
 lg : 1 ≤ x.lg ∧ x.lg ≤ 2000
 w : 0 ≤ x.wl ∧ x.wl ≤ x.wh ∧ x.wh ≤ 5000000
def lgI : List PIt → Int
 | [] => 0
 | x :: t => x.lg + lgI t
def sumM (g : Int → PIt → Int) : Int → List PIt → Int
 | _,[] => 0
 | at',x :: t => g (2 * at' + x.lg) x + sumM g (at' + x.lg) t
def cF (l : PLy) (m : Int) : Int := 2 * l.bk - m
def cB (l : PLy) (m : Int) : Int := m - 2 * l.fr
def loW (x : PIt) (c : Int) : Int := min (x.wl * c) (x.wh * c)
def hiW (x : PIt) (c : Int) : Int := max (x.wl * c) (x.wh * c)
structure Prt where
 fl : Int
 fh : Int
 bl : Int
 bh : Int
def prtF (l : PLy) (q : List PIt) : Prt := ⟨sumM (fun m x => loW x (cF l m)) 0 q,sumM (fun m x => hiW x (cF l m)) 0 q,sumM (fun m x => loW x (cB l m)) 0 q,sumM (fun m x => hiW x (cB l m)) 0 q⟩
theorem sumM_snoc (g : Int → PIt → Int) : ∀ (q : List PIt) (at' : Int) (x : PIt),sumM g at' (q ++ [x]) = sumM g at' q + g (2 * (at' + lgI q) + x.lg) x
 | [],at',x => by simp [sumM,lgI]
 | y :: q,at',x => by rw [List.cons_append,sumM,sumM_snoc g q,sumM,lgI,Int.add_assoc,Int.add_assoc]
theorem lgI_snoc : ∀ (q : List PIt) (x : PIt),lgI (q ++ [x]) = lgI q + x.lg
 | [],x => by simp [lgI]
 | y :: q,x => by rw [List.cons_append,lgI,lgI_snoc q,lgI]; omega
theorem lgI_nn : ∀ {q : List PIt},(∀ x ∈ q,x.ok) → 0 ≤ lgI q ∧ lgI q ≤ 2000 * (q.length : Int)
 | [],_ => by simp [lgI]
 | x :: q,h => by
  have := lgI_nn (q := q) (fun y hy => h y (by simp [hy]))
  have := (h x (by simp)).lg
  rw [lgI,List.length_cons]; omega
theorem floor_eq {n y : Int} (hy : 0 < y) : Int.tdiv (n - Int.tmod (Int.tmod n y + y) y) y = n / y := by
 have e1 : Int.tmod (Int.tmod n y + y) y = n % y := by
  have hlt := Int.tmod_lt_of_pos n hy
  have hgt : -y < Int.tmod n y := by
   rcases Int.le_total 0 n with h | h
   ·have := Int.tmod_nonneg y h; omega
   ·have h2 := Int.tmod_lt_of_pos (-n) hy
    rw [Int.neg_tmod] at h2; omega
  rw [Int.tmod_eq_emod_of_nonneg (by omega),Int.add_emod_right]
  have hd := Int.tmod_add_mul_tdiv n y
  rw [show Int.tmod n y = n - y * Int.tdiv n y by omega,Int.sub_mul_emod_self_left]
 rw [e1]
 have h2 := Int.mul_ediv_add_emod n y
 have : n - n % y = y * (n / y) := by omega
 rw [this,Int.mul_tdiv_cancel_left _ (by omega)]
end Go.Dw.Seat
end
section
set_option linter.unusedSimpArgs false
set_option maxRecDepth 100000
namespace Go.Dw.Seat
open Go Go.Dw Go.Proofs Go.IntWalk
abbrev lyrD (l : PLy) : D := .agg [dI l.lg,dI l.fr,dI l.bk,dI l.fm,dI l.bm]
def eIt (x : PIt) : List C := [.v (.int .i64 x.lg),.v (.int .i64 x.wl),.v (.int .i64 x.wh)]
theorem eIt_nb (x : PIt) : C.nbs (eIt x) = true := rfl
attribute [go_sem] eIt
abbrev itsD (b : Bool) (q : List PIt) : D := .c (.sl b 3 (rows eIt q))
abbrev lorD (l : PLy) (b : Bool) (q : List PIt) : D := .agg [dI l.lg,dI l.fr,dI l.bk,dI l.fm,dI l.bm,itsD b q]
def itOk (x : PIt) : Bool := wthn 1 2000 [x.lg] && spanOk x.wl x.wh 0 5000000
theorem itOk_iff {x : PIt} : itOk x = true ↔ x.ok := by
 simp only [itOk,Bool.and_eq_true,wthn_iff,spanOk_iff,List.mem_cons,List.not_mem_nil,or_false,forall_eq]
 exact ⟨fun h => ⟨h.1,h.2⟩,fun h => ⟨h.1,h.2⟩⟩
def lyOk (l : PLy) : Bool := ((wthn 1 2000 [l.lg] && wthn 0 l.lg [l.fr,l.bk]) && !decide (l.bk ≤ l.fr)) && wthn 0 40000000 [l.fm,l.bm]
theorem lyOk_iff {l : PLy} : lyOk l = true ↔ l.ok := by
 simp only [lyOk,Bool.and_eq_true,wthn_iff,Bool.not_eq_true',decide_eq_false_iff_not,List.mem_cons,List.not_mem_nil,or_false,forall_eq_or_imp,forall_eq]
 constructor
 ·rintro ⟨⟨⟨h1,h2⟩,h3⟩,h4⟩; exact ⟨h1,by omega,h4.1,h4.2⟩
 ·rintro ⟨h1,h2,h3,h4⟩; exact ⟨⟨⟨h1,by omega⟩,by omega⟩,h3,h4⟩
def lorE (l : PLy) (q : List PIt) : Int := if lyOk l = false then 2 else if (7 : Int) < (q.length : Int) then 5 else if (q.any fun x => !itOk x) = true then 4 else if l.lg < lgI q then 3 else 0
structure LorOk (l : PLy) (q : List PIt) : Prop where
 ly : l.ok
 len : q.length ≤ 7
 its : ∀ x ∈ q,x.ok
 lg : lgI q ≤ l.lg
theorem lor_iff {l : PLy} {q : List PIt} : lorE l q = 0 ↔ LorOk l q := by
 unfold lorE
 constructor
 ·intro h
  split at h
  ·cases h
  ·rename_i h1
   split at h
   ·cases h
   ·rename_i h2
    split at h
    ·cases h
    ·rename_i h3
     split at h
     ·cases h
     ·rename_i h4
      refine ⟨lyOk_iff.1 (by simpa using h1),by omega,fun x hx => itOk_iff.1 ?_,by omega⟩
      simp only [List.any_eq_true,not_exists,not_and,Bool.not_eq_true,Bool.not_eq_false'] at h3
      exact h3 x hx
 ·rintro ⟨h1,h2,h3,h4⟩
  rw [if_neg (by rw [lyOk_iff.2 h1]; decide),if_neg (by omega),if_neg,if_neg (by omega)]
  simp only [List.any_eq_true,not_exists,not_and,Bool.not_eq_true,Bool.not_eq_false']
  exact fun x hx => itOk_iff.2 (h3 x hx)
theorem plIt1 (x : PIt) : DCall Tryz.prog 84 [.agg ((eIt x).map D.c)] [] (bD (!itOk x)) [] := by
 have h1 := plWithin true 1 2000 [x.lg] (by simp)
 have h2 := plSpan x.wl x.wh 0 5000000
 unfold itOk
 cases e1 : wthn 1 2000 [x.lg] <;> rw [e1] at h1 <;> simp only [Bool.true_and,Bool.false_and,Bool.not_false]
 ·refine DCall.of Tryz.func84 sf84 hb84 (Nat.le_of_ble_eq_true rfl) (okRes_nil fun _ => rfl) ?_; simp only [s84,idxs,Nat.reduceAdd]
  repeat' (first|(with_reducible first|apply qA|apply qB|apply qC|apply qD|apply qE|apply qF)|(simp (disch:=omega) only [go_sem,simprocAttr,qN,qO,qP,qQ,rF,rG])|exact qM rfl rfl rfl|(refine qG rfl ?_)|(refine qK (h1) (by decide) ?_)|(refine qH rfl ?_)|(refine qI rfl ?_ ?_<;>intro hc<;>(try simp only [go_sem] at hc))|(refine qJ ?_ ?_<;>intro hc<;>(try simp only [hc])<;>(try simp only [go_sem] at hc)))
 ·refine DCall.of Tryz.func84 sf84 hb84 (Nat.le_of_ble_eq_true rfl) (okRes_nil fun _ => rfl) ?_; simp only [s84,idxs,Nat.reduceAdd]
  repeat' (first|(with_reducible first|apply qA|apply qB|apply qC|apply qD|apply qE|apply qF)|(simp (disch:=omega) only [go_sem,simprocAttr,qN,qO,qP,qQ,rF,rG])|exact qM rfl rfl rfl|(refine qG rfl ?_)|(refine qK (h1) (by decide) ?_)|(refine qK (h2) (by decide) ?_)|(refine qH rfl ?_)|(refine qI rfl ?_ ?_<;>intro hc<;>(try simp only [go_sem] at hc))|(refine qJ ?_ ?_<;>intro hc<;>(try simp only [hc])<;>(try simp only [go_sem] at hc)))
theorem plItIdx (lab : Bool) (l : List PIt) (hl : l.length ≤ 2 ^ 36) (g : FuncId) (fs caps : List C) (p : PIt → Bool) (hp : ∀ x ∈ l,DCall Tryz.prog g (fs.map D.c ++ [.agg ((eIt x).map D.c)] ++ caps.map D.c) [] (bD (p x)) []) : DCall Tryz.prog 103 [itsD lab l,.c (.fn (.func g) fs caps)] [] (dI (idxI p l)) [] := by
 refine DCall.of Tryz.func103 sf103 hb103 (Nat.le_of_ble_eq_true rfl) (okRes_nil fun _ => rfl) ?_; simp only [s103,idxs,Nat.reduceAdd]
 repeat' (first|(with_reducible first|apply qA|apply qB|apply qC|apply qD|apply qE|apply qF)|(simp (disch:=omega) only [go_sem,simprocAttr,qN,qO,qP,qQ])|exact qM rfl rfl rfl|(refine qG rfl ?_)|(refine qH rfl ?_)|(refine qI rfl ?_ ?_<;>intro hc<;>(try simp only [go_sem] at hc))|(refine qJ ?_ ?_<;>intro hc<;>(try simp only [hc])<;>(try simp only [go_sem] at hc)))
 refine DW.loop (ι := { i : Nat // i ≤ l.length ∧ ∀ j u,j < i → l[j]? = some u → p u = false }) (fun i => ⟨19,[(8,dI i.1),(7,dI l.length),(1,.c (.fn (.func g) fs caps)),(0,itsD lab l)],[]⟩) (fun i => l.length - i.1) ⟨0,Nat.zero_le _,fun j u h => by omega⟩ ?_ ?_
 ·refine Ent.to ?_ ?_ <;> simp (disch:=omega) only [qR,qS,qT,qU,get,Nat.reduceEqDiff,↓reduceIte,qV,qW,qX,qY,qZ,and_self,dI,i64_in,and_true,true_and,rA,rB,rC,rD]
  all_goals exact .refl _
 rintro ⟨i,hi,hij⟩
 rcases at_or l i hi with ⟨v,hv,hlt,hd⟩ | ⟨he,hd⟩
 ·have hcall := hp v (List.mem_of_getElem? hv)
  repeat' (first|(with_reducible first|apply qA|apply qB|apply qC|apply qD|apply qE|apply qF)|(simp (disch:=omega) only [go_sem,simprocAttr,qN,qO,qP,qQ,hd,hv,closeDs_fn,rF,rG])|exact qM rfl rfl rfl|(refine qG rfl ?_)|(refine qH rfl ?_)|(refine qI rfl ?_ ?_<;>intro hc<;>(try simp only [go_sem] at hc))|(refine qJ ?_ ?_<;>intro hc<;>(try simp only [hc])<;>(try simp only [go_sem] at hc)))
  refine call_c hcall (by decide) ?_
  simp (disch:=omega) only [go_sem,simprocAttr,qN,qO,qP,qQ]
  refine DW.cond rfl ?_ ?_ <;> intro hc
  ·repeat' (first|(with_reducible first|apply qA|apply qB|apply qC|apply qD|apply qE|apply qF)|(simp (disch:=omega) only [go_sem,simprocAttr,qN,qO,qP,qQ])|exact qM rfl rfl rfl|(refine qG rfl ?_)|(refine qH rfl ?_)|(refine qI rfl ?_ ?_<;>intro hc<;>(try simp only [go_sem] at hc))|(refine qJ ?_ ?_<;>intro hc<;>(try simp only [hc])<;>(try simp only [go_sem] at hc)))
   refine retS_of rfl ?_ rfl; simp only [oneD,St.op,get,Nat.reduceEqDiff,↓reduceIte,Option.getD_some,bD,dI]
   simp only [idxI,idxOf_some hij hv hc]
  ·repeat' (first|(with_reducible first|apply qA|apply qB|apply qC|apply qD|apply qE|apply qF)|(simp (disch:=omega) only [go_sem,simprocAttr,qN,qO,qP,qQ])|exact qM rfl rfl rfl|(refine qG rfl ?_)|(refine qH rfl ?_)|(refine qI rfl ?_ ?_<;>intro hc<;>(try simp only [go_sem] at hc))|(refine qJ ?_ ?_<;>intro hc<;>(try simp only [hc])<;>(try simp only [go_sem] at hc)))
   refine ⟨⟨i + 1,by omega,fun j u hj hu => by
    rcases Nat.lt_or_ge j i with h | h
    ·exact hij j u h hu
    ·have : j = i := by omega
     subst this
     rw [hv] at hu; cases hu; exact hc⟩,?_,Ent.to ?_ ?_⟩ <;> first | (show _ < _; (try simp only); omega) | (simp (disch:=omega) only [qR,qS,qT,qU,get,Nat.reduceEqDiff,↓reduceIte,qV,qW,qX,qY,qZ,and_self,dI,i64_in,and_true,true_and,rA,rB,rC,rD])
   all_goals exact .refl _
 ·repeat' (first|(with_reducible first|apply qA|apply qB|apply qC|apply qD|apply qE|apply qF)|(simp (disch:=omega) only [go_sem,simprocAttr,qN,qO,qP,qQ,hd])|exact qM rfl rfl rfl|(refine qG rfl ?_)|(refine qH rfl ?_)|(refine qI rfl ?_ ?_<;>intro hc<;>(try simp only [go_sem] at hc))|(refine qJ ?_ ?_<;>intro hc<;>(try simp only [hc])<;>(try simp only [go_sem] at hc)))
  refine retS_of rfl ?_ rfl; simp only [oneD,St.op,get,Nat.reduceEqDiff,↓reduceIte,Option.getD_some,bD,dI]
  simp only [idxI,idxOf_none (he ▸ hij)]
theorem plItAny (lab : Bool) (l : List PIt) (hl : l.length ≤ 2 ^ 36) (g : FuncId) (fs caps : List C) (p : PIt → Bool) (hp : ∀ x ∈ l,DCall Tryz.prog g (fs.map D.c ++ [.agg ((eIt x).map D.c)] ++ caps.map D.c) [] (bD (p x)) []) : DCall Tryz.prog 85 [itsD lab l,.c (.fn (.func g) fs caps)] [] (bD (l.any p)) [] := by
 refine DCall.of Tryz.func85 sf85 hb85 (Nat.le_of_ble_eq_true rfl) (okRes_nil fun _ => rfl) ?_; simp only [s85,idxs,Nat.reduceAdd]
 repeat' (first|(with_reducible first|apply qA|apply qB|apply qC|apply qD|apply qE|apply qF)|(simp (disch:=omega) only [go_sem,simprocAttr,qN,qO,qP,qQ])|exact qM rfl rfl rfl|(refine qG rfl ?_)|(refine qH rfl ?_)|(refine qI rfl ?_ ?_<;>intro hc<;>(try simp only [go_sem] at hc))|(refine qJ ?_ ?_<;>intro hc<;>(try simp only [hc])<;>(try simp only [go_sem] at hc)))
 refine call_c (plItIdx lab l hl g fs caps p hp) (by decide) ?_
 repeat' (first|(with_reducible first|apply qA|apply qB|apply qC|apply qD|apply qE|apply qF)|(simp (disch:=omega) only [go_sem,simprocAttr,qN,qO,qP,qQ])|exact qM rfl rfl rfl|(refine qG rfl ?_)|(refine qH rfl ?_)|(refine qI rfl ?_ ?_<;>intro hc<;>(try simp only [go_sem] at hc))|(refine qJ ?_ ?_<;>intro hc<;>(try simp only [hc])<;>(try simp only [go_sem] at hc)))
 refine retS_of rfl ?_ rfl; simp only [oneD,St.op,get,Nat.reduceEqDiff,↓reduceIte,Option.getD_some,bD,dI]
 rw [idxI_any]
set_option maxHeartbeats 2000000 in
theorem plCheckLorry (lab : Bool) (l : PLy) (q : List PIt) (hq : q.length ≤ 2 ^ 36) : DCall Tryz.prog 57 [lyrD l,itsD lab q] [] (dI (lorE l q)) [] := by
 have h1 := plWithin true 1 2000 [l.lg] (by simp)
 have h2 := plWithin true 0 l.lg [l.fr,l.bk] (by simp)
 have h3 := plWithin true 0 40000000 [l.fm,l.bm] (by simp)
 have h4 := plItAny lab q hq 84 [] [] (fun x => !itOk x) (fun x _ => plIt1 x)
 unfold lorE lyOk
 cases e1 : wthn 1 2000 [l.lg] <;> rw [e1] at h1 <;> simp only [Bool.true_and,Bool.false_and,if_true]
 ·refine DCall.of Tryz.func57 sf57 hb57 (Nat.le_of_ble_eq_true rfl) (okRes_nil fun _ => rfl) ?_; simp only [s57,idxs,Nat.reduceAdd]
  repeat' (first|(with_reducible first|apply qA|apply qB|apply qC|apply qD|apply qE|apply qF)|(simp (disch:=omega) only [go_sem,simprocAttr,qN,qO,qP,qQ])|exact qM rfl rfl rfl|(refine qG rfl ?_)|(refine qK (h1) (by decide) ?_)|(refine qH rfl ?_)|(refine qI rfl ?_ ?_<;>intro hc<;>(try simp only [go_sem] at hc))|(refine qJ ?_ ?_<;>intro hc<;>(try simp only [hc])<;>(try simp only [go_sem] at hc)))
 cases e2 : wthn 0 l.lg [l.fr,l.bk] <;> rw [e2] at h2 <;> simp only [Bool.true_and,Bool.false_and,if_true]
 ·refine DCall.of Tryz.func57 sf57 hb57 (Nat.le_of_ble_eq_true rfl) (okRes_nil fun _ => rfl) ?_; simp only [s57,idxs,Nat.reduceAdd]
  repeat' (first|(with_reducible first|apply qA|apply qB|apply qC|apply qD|apply qE|apply qF)|(simp (disch:=omega) only [go_sem,simprocAttr,qN,qO,qP,qQ])|exact qM rfl rfl rfl|(refine qG rfl ?_)|(refine qK (h1) (by decide) ?_)|(refine qK (h2) (by decide) ?_)|(refine qH rfl ?_)|(refine qI rfl ?_ ?_<;>intro hc<;>(try simp only [go_sem] at hc))|(refine qJ ?_ ?_<;>intro hc<;>(try simp only [hc])<;>(try simp only [go_sem] at hc)))
 cases e3 : decide (l.bk ≤ l.fr) <;> simp only [Bool.not_false,Bool.not_true,Bool.true_and,Bool.false_and,if_true]
 case true =>
  refine DCall.of Tryz.func57 sf57 hb57 (Nat.le_of_ble_eq_true rfl) (okRes_nil fun _ => rfl) ?_; simp only [s57,idxs,Nat.reduceAdd]
  repeat' (first|(with_reducible first|apply qA|apply qB|apply qC|apply qD|apply qE|apply qF)|(simp (disch:=omega) only [go_sem,simprocAttr,qN,qO,qP,qQ,e3])|exact qM rfl rfl rfl|(refine qG rfl ?_)|(refine qK (h1) (by decide) ?_)|(refine qK (h2) (by decide) ?_)|(refine qH rfl ?_)|(refine qI rfl ?_ ?_<;>intro hc<;>(try simp only [go_sem] at hc))|(refine qJ ?_ ?_<;>intro hc<;>(try simp only [hc])<;>(try simp only [go_sem] at hc)))
 cases e4 : wthn 0 40000000 [l.fm,l.bm] <;> rw [e4] at h3 <;> simp only [if_true,Bool.true_eq_false,Bool.false_eq_true,if_false,reduceCtorEq]
 ·refine DCall.of Tryz.func57 sf57 hb57 (Nat.le_of_ble_eq_true rfl) (okRes_nil fun _ => rfl) ?_; simp only [s57,idxs,Nat.reduceAdd]
  repeat' (first|(with_reducible first|apply qA|apply qB|apply qC|apply qD|apply qE|apply qF)|(simp (disch:=omega) only [go_sem,simprocAttr,qN,qO,qP,qQ,e3])|exact qM rfl rfl rfl|(refine qG rfl ?_)|(refine qK (h1) (by decide) ?_)|(refine qK (h2) (by decide) ?_)|(refine qK (h3) (by decide) ?_)|(refine qH rfl ?_)|(refine qI rfl ?_ ?_<;>intro hc<;>(try simp only [go_sem] at hc))|(refine qJ ?_ ?_<;>intro hc<;>(try simp only [hc])<;>(try simp only [go_sem] at hc)))
 by_cases h7 : (7 : Int) < (q.length : Int)
 ·have d7 : decide ((7 : Int) < (q.length : Int)) = true := decide_eq_true h7
  rw [if_pos h7]
  refine DCall.of Tryz.func57 sf57 hb57 (Nat.le_of_ble_eq_true rfl) (okRes_nil fun _ => rfl) ?_; simp only [s57,idxs,Nat.reduceAdd]
  repeat' (first|(with_reducible first|apply qA|apply qB|apply qC|apply qD|apply qE|apply qF)|(simp (disch:=omega) only [go_sem,simprocAttr,qN,qO,qP,qQ,e3,d7])|exact qM rfl rfl rfl|(refine qG rfl ?_)|(refine qK (h1) (by decide) ?_)|(refine qK (h2) (by decide) ?_)|(refine qK (h3) (by decide) ?_)|(refine qH rfl ?_)|(refine qI rfl ?_ ?_<;>intro hc<;>(try simp only [go_sem] at hc))|(refine qJ ?_ ?_<;>intro hc<;>(try simp only [hc])<;>(try simp only [go_sem] at hc)))
 have d7 : decide ((7 : Int) < (q.length : Int)) = false := decide_eq_false h7
 rw [if_neg h7]
 cases e5 : (q.any fun x => !itOk x) <;> rw [e5] at h4 <;> simp only [if_true,Bool.false_eq_true,if_false]
 case true =>
  refine DCall.of Tryz.func57 sf57 hb57 (Nat.le_of_ble_eq_true rfl) (okRes_nil fun _ => rfl) ?_; simp only [s57,idxs,Nat.reduceAdd]
  repeat' (first|(with_reducible first|apply qA|apply qB|apply qC|apply qD|apply qE|apply qF)|(simp (disch:=omega) only [go_sem,simprocAttr,qN,qO,qP,qQ,e3,d7])|exact qM rfl rfl rfl|(refine qG rfl ?_)|(refine qK (h1) (by decide) ?_)|(refine qK (h2) (by decide) ?_)|(refine qK (h3) (by decide) ?_)|(refine qK (h4) (by decide) ?_)|(refine qH rfl ?_)|(refine qI rfl ?_ ?_<;>intro hc<;>(try simp only [go_sem] at hc))|(refine qJ ?_ ?_<;>intro hc<;>(try simp only [hc])<;>(try simp only [go_sem] at hc)))
 have hits : ∀ x ∈ q,x.ok := fun x hx => itOk_iff.1 (by
  simp only [List.any_eq_false,Bool.not_eq_true,Bool.not_eq_false'] at e5
  exact e5 x hx)
 have hlg := wthn_one e1
 obtain ⟨R,hR⟩ : ∃ R,(if l.lg < lgI q then (3 : Int) else 0) = R := ⟨_,rfl⟩
 rw [hR]
 refine DCall.of Tryz.func57 sf57 hb57 (Nat.le_of_ble_eq_true rfl) (okRes_nil fun _ => rfl) ?_; simp only [s57,idxs,Nat.reduceAdd]
 repeat' (first|(with_reducible first|apply qA|apply qB|apply qC|apply qD|apply qE|apply qF)|(simp (disch:=omega) only [go_sem,simprocAttr,qN,qO,qP,qQ,e3,d7])|exact qM rfl rfl rfl|(refine qG rfl ?_)|(refine qK (h1) (by decide) ?_)|(refine qK (h2) (by decide) ?_)|(refine qK (h3) (by decide) ?_)|(refine qK (h4) (by decide) ?_)|(refine qH rfl ?_)|(refine qI rfl ?_ ?_<;>intro hc<;>(try simp only [go_sem] at hc))|(refine qJ ?_ ?_<;>intro hc<;>(try simp only [hc])<;>(try simp only [go_sem] at hc)))
 refine DW.loop (ι := { i : Nat // i ≤ q.length }) (fun i => ⟨59,[(46,dI i.1),(45,dI q.length),(44,itsD lab q),(6,dI (lgI (q.take i.1))),(2,.box 2 0)],[(2,.box [dI l.lg,dI l.fr,dI l.bk,dI l.fm,dI l.bm])]⟩) (fun i => q.length - i.1) ⟨0,Nat.zero_le _⟩ ?_ ?_
 ·refine Ent.to ?_ ?_ <;> simp (disch:=omega) only [qR,qS,qT,qU,get,Nat.reduceEqDiff,↓reduceIte,qV,qW,qX,qY,qZ,and_self,dI,i64_in,and_true,true_and,rA,rB,rC,rD,List.take_zero,lgI]
  all_goals first | exact ⟨.refl _,.refl _,.refl _⟩ | exact ⟨.refl _,.refl _⟩ | exact .refl _
 rintro ⟨i,hi⟩
 dsimp only
 rcases at_or q i hi with ⟨x,hx,hlt,hd⟩ | ⟨he,hd⟩
 ·have hxo := (hits x (List.mem_of_getElem? hx)).lg
  have htk : q.take (i + 1) = q.take i ++ [x] := by rw [List.take_add_one,hx]; rfl
  have hsn := lgI_snoc (q.take i) x
  have hb := lgI_nn (q := q.take i) (fun y hy => hits y (List.mem_of_mem_take hy))
  rw [List.length_take] at hb
  rw [← htk] at hsn
  generalize lgI (q.take i) = S at *
  repeat' (first|(with_reducible first|apply qA|apply qB|apply qC|apply qD|apply qE|apply qF)|(simp (disch:=omega) only [go_sem,simprocAttr,qN,qO,qP,qQ,hd,hx,rF,rG])|exact qM rfl rfl rfl|(refine qG rfl ?_)|(refine qH rfl ?_)|(refine qI rfl ?_ ?_<;>intro hc<;>(try simp only [go_sem] at hc))|(refine qJ ?_ ?_<;>intro hc<;>(try simp only [hc])<;>(try simp only [go_sem] at hc)))
  refine ⟨⟨i + 1,hlt⟩,?_,Ent.to ?_ ?_⟩ <;> first | (show _ < _; (try simp only); omega) | (simp (disch:=omega) only [qR,qS,qT,qU,get,Nat.reduceEqDiff,↓reduceIte,qV,qW,qX,qY,qZ,and_self,dI,i64_in,and_true,true_and,rA,rB,rC,rD,hsn])
  all_goals first | exact ⟨.refl _,.refl _,.refl _⟩ | exact ⟨.refl _,.refl _⟩ | exact .refl _
 ·have hti : q.take i = q := by rw [he,List.take_length]
  rw [hti]
  by_cases h8 : l.lg < lgI q
  ·have d8 : decide (l.lg < lgI q) = true := decide_eq_true h8
   rw [if_pos h8] at hR
   subst hR
   repeat' (first|(with_reducible first|apply qA|apply qB|apply qC|apply qD|apply qE|apply qF)|(simp (disch:=omega) only [go_sem,simprocAttr,qN,qO,qP,qQ,hd,d8])|exact qM rfl rfl rfl|(refine qG rfl ?_)|(refine qH rfl ?_)|(refine qI rfl ?_ ?_<;>intro hc<;>(try simp only [go_sem] at hc))|(refine qJ ?_ ?_<;>intro hc<;>(try simp only [hc])<;>(try simp only [go_sem] at hc)))
  ·have d8 : decide (l.lg < lgI q) = false := decide_eq_false h8
   rw [if_neg h8] at hR
   subst hR
   repeat' (first|(with_reducible first|apply qA|apply qB|apply qC|apply qD|apply qE|apply qF)|(simp (disch:=omega) only [go_sem,simprocAttr,qN,qO,qP,qQ,hd,d8])|exact qM rfl rfl rfl|(refine qG rfl ?_)|(refine qH rfl ?_)|(refine qI rfl ?_ ?_<;>intro hc<;>(try simp only [go_sem] at hc))|(refine qJ ?_ ?_<;>intro hc<;>(try simp only [hc])<;>(try simp only [go_sem] at hc)))
theorem plWhole (l : PLy) (hl : l.ok) (lab : Bool) (q : List PIt) : DCall Tryz.prog 60 [lorD l lab q] [] (dI (2 * (l.bk - l.fr))) [] := by
 have := hl.ax
 have := hl.lg
 refine DCall.of Tryz.func60 sf60 hb60 (Nat.le_of_ble_eq_true rfl) (okRes_nil fun _ => rfl) ?_; simp only [s60,idxs,Nat.reduceAdd]
 repeat' (first|(with_reducible first|apply qA|apply qB|apply qC|apply qD|apply qE|apply qF)|(simp (disch:=omega) only [go_sem,simprocAttr,qN,qO,qP,qQ])|exact qM rfl rfl rfl|(refine qG rfl ?_)|(refine qH rfl ?_)|(refine qI rfl ?_ ?_<;>intro hc<;>(try simp only [go_sem] at hc))|(refine qJ ?_ ?_<;>intro hc<;>(try simp only [hc])<;>(try simp only [go_sem] at hc)))
theorem mul_abs {a b A B : Int} (ha : -A ≤ a ∧ a ≤ A) (hb : -B ≤ b ∧ b ≤ B) : -(A * B) ≤ a * b ∧ a * b ≤ A * B := by
 have hA : 0 ≤ A := by omega
 have hB : 0 ≤ B := by omega
 have h1 : 0 ≤ (A - a) * (B - b) := Int.mul_nonneg (by omega) (by omega)
 have h2 : 0 ≤ (A + a) * (B + b) := Int.mul_nonneg (by omega) (by omega)
 have h3 : 0 ≤ (A - a) * (B + b) := Int.mul_nonneg (by omega) (by omega)
 have h4 : 0 ≤ (A + a) * (B - b) := Int.mul_nonneg (by omega) (by omega)
 simp only [Int.sub_mul,Int.mul_sub,Int.add_mul,Int.mul_add] at h1 h2 h3 h4
 omega
theorem plTimes (x : PIt) (hx : x.ok) (c : Int) (hc : -10000 ≤ c ∧ c ≤ 10000) : DCall Tryz.prog 87 [.agg [dI x.wl,dI x.wh],dI c] [] (.agg [dI (loW x c),dI (hiW x c)]) [] := by
 have hw := hx.w
 have h1 := mul_abs (a := x.wl) (A := 5000000) (by omega) hc
 have h2 := mul_abs (a := x.wh) (A := 5000000) (by omega) hc
 have w1 : IntKind.i64.wrap (x.wl * c) = x.wl * c := IntWalk.i64_in _ (by omega)
 have w2 : IntKind.i64.wrap (x.wh * c) = x.wh * c := IntWalk.i64_in _ (by omega)
 unfold loW hiW
 refine DCall.of Tryz.func87 sf87 hb87 (Nat.le_of_ble_eq_true rfl) (okRes_nil fun _ => rfl) ?_; simp only [s87,idxs,Nat.reduceAdd]
 repeat' (first|(with_reducible first|apply qA|apply qB|apply qC|apply qD|apply qE|apply qF)|(simp (disch:=omega) only [go_sem,simprocAttr,qN,qO,qP,qQ,w1,w2,min_if,max_if])|exact qM rfl rfl rfl|(refine qG rfl ?_)|(refine qH rfl ?_)|(refine qI rfl ?_ ?_<;>intro hc<;>(try simp only [go_sem] at hc))|(refine qJ ?_ ?_<;>intro hc<;>(try simp only [hc])<;>(try simp only [go_sem] at hc)))
theorem plPlus (a b c d : Int) (ha : -1000000000000000 ≤ a ∧ a ≤ 1000000000000000) (hb : -1000000000000000 ≤ b ∧ b ≤ 1000000000000000) (hc : -1000000000000000 ≤ c ∧ c ≤ 1000000000000000) (hd : -1000000000000000 ≤ d ∧ d ≤ 1000000000000000) : DCall Tryz.prog 86 [.agg [dI a,dI b],.agg [dI c,dI d]] [] (.agg [dI (a + c),dI (b + d)]) [] := by
 refine DCall.of Tryz.func86 sf86 hb86 (Nat.le_of_ble_eq_true rfl) (okRes_nil fun _ => rfl) ?_; simp only [s86,idxs,Nat.reduceAdd]
 repeat' (first|(with_reducible first|apply qA|apply qB|apply qC|apply qD|apply qE|apply qF)|(simp (disch:=omega) only [go_sem,simprocAttr,qN,qO,qP,qQ])|exact qM rfl rfl rfl|(refine qG rfl ?_)|(refine qH rfl ?_)|(refine qI rfl ?_ ?_<;>intro hc<;>(try simp only [go_sem] at hc))|(refine qJ ?_ ?_<;>intro hc<;>(try simp only [hc])<;>(try simp only [go_sem] at hc)))
theorem plDown1 (n y : Int) (lab : Bool) (hn : -1000000000000000 ≤ n ∧ n ≤ 1000000000000000) (hy : 0 < y ∧ y ≤ 10000) : DCall Tryz.prog 88 [dI n,.c (.ro lab [.v (.int .i64 y)] 0)] [] (dI (n / y)) [] := by
 have hf := floor_eq (n := n) hy.1
 have h1 : -y < Int.tmod n y ∧ Int.tmod n y < y := by
  have hlt := Int.tmod_lt_of_pos n hy.1
  refine ⟨?_,hlt⟩
  rcases Int.le_total 0 n with h | h
  ·have := Int.tmod_nonneg y h; omega
  ·have h2 := Int.tmod_lt_of_pos (-n) hy.1
   rw [Int.neg_tmod] at h2; omega
 have hz : (y = 0) = False := eq_false (by omega)
 have h3 := Int.tmod_lt_of_pos (Int.tmod n y + y) hy.1
 have h4 := Int.tmod_nonneg y (show 0 ≤ Int.tmod n y + y by omega)
 have h5 : -1000000000000000 - 10000 ≤ n / y ∧ n / y ≤ 1000000000000000 := by
  have e1 := Int.mul_ediv_add_emod n y
  have e2 := Int.emod_nonneg n (show y ≠ 0 by omega)
  have e3 := Int.emod_lt_of_pos n hy.1
  rcases Int.le_total 0 (n / y) with h | h
  ·have : n / y ≤ y * (n / y) := by
    have := Int.mul_le_mul_of_nonneg_right (show 1 ≤ y by omega) h
    omega
   omega
  ·have : y * (n / y) ≤ n / y := by
    have := Int.mul_le_mul_of_nonpos_right (show 1 ≤ y by omega) h
    omega
   omega
 have w1 : IntKind.i64.wrap (Int.tmod n y) = Int.tmod n y := IntWalk.i64_in _ (by omega)
 have w2 : IntKind.i64.wrap (Int.tmod n y + y) = Int.tmod n y + y := IntWalk.i64_in _ (by omega)
 have w3 : IntKind.i64.wrap (Int.tmod (Int.tmod n y + y) y) = Int.tmod (Int.tmod n y + y) y := IntWalk.i64_in _ (by omega)
 have w4 : IntKind.i64.wrap (n - Int.tmod (Int.tmod n y + y) y) = n - Int.tmod (Int.tmod n y + y) y := IntWalk.i64_in _ (by omega)
 have w5 : IntKind.i64.wrap (n / y) = n / y := IntWalk.i64_in _ (by omega)
 refine DCall.of Tryz.func88 sf88 hb88 (Nat.le_of_ble_eq_true rfl) (okRes_nil fun _ => rfl) ?_; simp only [s88,idxs,Nat.reduceAdd]
 repeat' (first|(with_reducible first|apply qA|apply qB|apply qC|apply qD|apply qE|apply qF)|(refine qL rfl (WF.of ?_) ?_; first|rfl|skip)|(simp (disch:=omega) only [go_sem,simprocAttr,qN,qO,qP,qQ,hz,w1,w2,w3,w4,hf,w5])|exact qM rfl rfl rfl|(refine qG rfl ?_)|(refine qH rfl ?_)|(refine qI rfl ?_ ?_<;>intro hc<;>(try simp only [go_sem] at hc))|(refine qJ ?_ ?_<;>intro hc<;>(try simp only [hc])<;>(try simp only [go_sem] at hc)))
theorem plDown (a b y : Int) (ha : -1000000000000000 ≤ a ∧ a ≤ 1000000000000000) (hb : -1000000000000000 ≤ b ∧ b ≤ 1000000000000000) (hy : 0 < y ∧ y ≤ 10000) : DCall Tryz.prog 59 [.agg [dI a,dI b],dI y] [] (.agg [dI (a / y),dI (b / y)]) [] := by
 have h1 := plDown1 a y true ha hy
 have h2 := plDown1 b y true hb hy
 refine DCall.of Tryz.func59 sf59 hb59 (Nat.le_of_ble_eq_true rfl) (okRes_nil fun _ => rfl) ?_; simp only [s59,idxs,Nat.reduceAdd]
 repeat' (first|(with_reducible first|apply qA|apply qB|apply qC|apply qD|apply qE|apply qF)|(refine qL rfl (WF.of ?_) ?_; first|rfl|skip)|(simp (disch:=omega) only [go_sem,simprocAttr,qN,qO,qP,qQ])|exact qM rfl rfl rfl|(refine qG rfl ?_)|(refine qK (h1) (by decide) ?_)|(refine qK (h2) (by decide) ?_)|(refine qH rfl ?_)|(refine qI rfl ?_ ?_<;>intro hc<;>(try simp only [go_sem] at hc))|(refine qJ ?_ ?_<;>intro hc<;>(try simp only [hc])<;>(try simp only [go_sem] at hc)))
end Go.Dw.Seat
end
section
set_option linter.unusedSimpArgs false
set_option maxRecDepth 100000
namespace Go.Dw.Seat
open Go Go.Dw Go.Proofs Go.IntWalk
def inI (n lo hi : Int) : Bool := decide (lo ≤ n) && decide (n ≤ hi)
theorem reIn (n lo hi : Int) : DCall Tryz.prog 46 [dI n,dI lo,dI hi] [] (bD (inI n lo hi)) [] := by
 unfold inI
 cases h1 : decide (lo ≤ n)
 ·refine DCall.of Tryz.func46 sf46 hb46 (Nat.le_of_ble_eq_true rfl) (okRes_nil fun _ => rfl) ?_; simp only [s46,idxs,Nat.reduceAdd]
  repeat' (first|(with_reducible first|apply qA|apply qB|apply qC|apply qD|apply qE|apply qF)|(simp (disch:=omega) only [go_sem,simprocAttr,Blk.men,Blk.keysIn,h1])|exact qM rfl rfl rfl|(refine qG rfl ?_)|(refine qH rfl ?_)|(refine qI rfl ?_ ?_<;>intro hc<;>(try simp only [go_sem] at hc))|(refine qJ ?_ ?_<;>intro hc<;>(try simp only [hc])<;>(try simp only [go_sem] at hc)))
 ·refine DCall.of Tryz.func46 sf46 hb46 (Nat.le_of_ble_eq_true rfl) (okRes_nil fun _ => rfl) ?_; simp only [s46,idxs,Nat.reduceAdd]
  repeat' (first|(with_reducible first|apply qA|apply qB|apply qC|apply qD|apply qE|apply qF)|(simp (disch:=omega) only [go_sem,simprocAttr,Blk.men,Blk.keysIn,h1])|exact qM rfl rfl rfl|(refine qG rfl ?_)|(refine qH rfl ?_)|(refine qI rfl ?_ ?_<;>intro hc<;>(try simp only [go_sem] at hc))|(refine qJ ?_ ?_<;>intro hc<;>(try simp only [hc])<;>(try simp only [go_sem] at hc)))
def spI (a b lo hi : Int) : Bool := inI a lo b && decide (b ≤ hi)
theorem spI_w (a b lo hi : Int) : spI a b lo hi = spanOk a b lo hi := by
 rw [Bool.eq_iff_iff,spanOk_iff]
 simp only [spI,inI,Bool.and_eq_true,decide_eq_true_eq]
 omega
theorem reSpan (a b lo hi : Int) : DCall Tryz.prog 47 [.agg [dI a,dI b],dI lo,dI hi] [] (bD (spanOk a b lo hi)) [] := by
 have h1 := reIn a lo b
 rw [← spI_w]
 unfold spI
 cases e : inI a lo b <;> rw [e] at h1
 ·refine DCall.of Tryz.func47 sf47 hb47 (Nat.le_of_ble_eq_true rfl) (okRes_nil fun _ => rfl) ?_; simp only [s47,idxs,Nat.reduceAdd]
  repeat' (first|(with_reducible first|apply qA|apply qB|apply qC|apply qD|apply qE|apply qF)|(simp (disch:=omega) only [go_sem,simprocAttr,Blk.men,Blk.keysIn])|exact qM rfl rfl rfl|(refine qG rfl ?_)|(refine qK (h1) (by decide) ?_)|(refine qH rfl ?_)|(refine qI rfl ?_ ?_<;>intro hc<;>(try simp only [go_sem] at hc))|(refine qJ ?_ ?_<;>intro hc<;>(try simp only [hc])<;>(try simp only [go_sem] at hc)))
 ·refine DCall.of Tryz.func47 sf47 hb47 (Nat.le_of_ble_eq_true rfl) (okRes_nil fun _ => rfl) ?_; simp only [s47,idxs,Nat.reduceAdd]
  repeat' (first|(with_reducible first|apply qA|apply qB|apply qC|apply qD|apply qE|apply qF)|(simp (disch:=omega) only [go_sem,simprocAttr,Blk.men,Blk.keysIn])|exact qM rfl rfl rfl|(refine qG rfl ?_)|(refine qK (h1) (by decide) ?_)|(refine qH rfl ?_)|(refine qI rfl ?_ ?_<;>intro hc<;>(try simp only [go_sem] at hc))|(refine qJ ?_ ?_<;>intro hc<;>(try simp only [hc])<;>(try simp only [go_sem] at hc)))
def baseR (p : PBs) : Bool := ((((inI p.lg 1 120 && inI p.wd 1 120) && inI p.hi 0 400) && inI p.ov 0 10) && inI p.top 0 400) && inI p.load 0 5000000
def boxR (b : PBx) : Bool := (((inI b.lg 10 100 && inI b.wd 10 100) && inI b.hi 10 100) && spanOk b.wl b.wh 0 5000000) && spanOk b.sl b.sh 0 20000000
theorem baseR_eq (p : PBs) : baseR p = baseB p := by
 rw [Bool.eq_iff_iff,baseB_iff]
 simp only [baseR,inI,Bool.and_eq_true,decide_eq_true_eq]
 constructor
 ·intro h; exact ⟨by omega,by omega,by omega,by omega,by omega,by omega⟩
 ·rintro ⟨h1,h2,h3,h4,h5,h6⟩; omega
theorem boxR_eq (b : PBx) : boxR b = boxB b := by
 rw [Bool.eq_iff_iff,boxB_iff]
 simp only [boxR,inI,Bool.and_eq_true,decide_eq_true_eq,spanOk_iff]
 constructor
 ·intro h; exact ⟨by omega,by omega,by omega,by omega,by omega⟩
 ·rintro ⟨h1,h2,h3,h4,h5⟩; omega
set_option maxHeartbeats 2000000 in
theorem reCheck (p : PBs) (b : PBx) : DCall Tryz.prog 16 [bsD p,bxD b] [] (dI (chkE p b)) [] := by
 have g1 := reIn p.lg 1 120
 have g2 := reIn p.wd 1 120
 have g3 := reIn p.hi 0 400
 have g4 := reIn p.ov 0 10
 have g5 := reIn p.top 0 400
 have g6 := reIn p.load 0 5000000
 have g7 := reIn b.lg 10 100
 have g8 := reIn b.wd 10 100
 have g9 := reIn b.hi 10 100
 have g10 := reSpan b.wl b.wh 0 5000000
 have g11 := reSpan b.sl b.sh 0 20000000
 unfold chkE
 rw [← baseR_eq,← boxR_eq]
 unfold baseR boxR
 generalize inI p.lg 1 120 = w1 at *
 generalize inI p.wd 1 120 = w2 at *
 generalize inI p.hi 0 400 = w3 at *
 generalize inI p.ov 0 10 = w4 at *
 generalize inI p.top 0 400 = w5 at *
 generalize inI p.load 0 5000000 = w6 at *
 generalize inI b.lg 10 100 = w7 at *
 generalize inI b.wd 10 100 = w8 at *
 generalize inI b.hi 10 100 = w9 at *
 generalize spanOk b.wl b.wh 0 5000000 = w10 at *
 generalize spanOk b.sl b.sh 0 20000000 = w11 at *
 refine DCall.of Tryz.func16 sf16 hb16 (Nat.le_of_ble_eq_true rfl) (okRes_nil fun _ => rfl) ?_; simp only [s16,idxs,Nat.reduceAdd]
 repeat' (first|(with_reducible first|apply qA|apply qB|apply qC|apply qD|apply qE|apply qF)|(simp (disch:=omega) only [go_sem,simprocAttr,Blk.men,Blk.keysIn])|exact qM rfl rfl rfl|(refine qG rfl ?_)|(refine qK (g1) (by decide) ?_)|(refine qK (g2) (by decide) ?_)|(refine qK (g3) (by decide) ?_)|(refine qK (g4) (by decide) ?_)|(refine qK (g5) (by decide) ?_)|(refine qK (g6) (by decide) ?_)|(refine qK (g7) (by decide) ?_)|(refine qK (g8) (by decide) ?_)|(refine qK (g9) (by decide) ?_)|(refine qK (g10) (by decide) ?_)|(refine qK (g11) (by decide) ?_)|(refine qH rfl ?_)|(refine qI rfl ?_ ?_<;>intro hc<;>(try simp only [go_sem] at hc))|(refine qJ ?_ ?_<;>intro hc<;>(try simp only [hc])<;>(try simp only [go_sem] at hc)))
 all_goals (subst_vars; first | exact retS_of rfl rfl rfl | (cases w6 <;> cases w11 <;> first | contradiction | exact retS_of rfl rfl rfl))
theorem badR (q : PPl) : plBad q = !(inI q.x 0 140 && inI q.y 0 140) := by
 unfold plBad
 rw [Bool.eq_iff_iff]
 simp only [Bool.not_eq_true',← Bool.not_eq_true,wthn_iff,List.mem_cons,List.not_mem_nil,or_false,forall_eq_or_imp,forall_eq,inI,Bool.and_eq_true,decide_eq_true_eq]
set_option maxHeartbeats 1000000 in
theorem reLayer (lab : Bool) (l : List PPl) (hl : l.length ≤ maxLen) : DCall Tryz.prog 17 [lyD lab l] [] (dI (lyE [l])) [] := by
 have hl : l.length ≤ 9223372036854775807 := hl
 simp only [lyE]
 by_cases h2 : (200 : Int) < (l.length : Int)
 ·have d2 : decide ((200 : Int) < (l.length : Int)) = true := decide_eq_true h2
  rw [if_pos h2]
  refine DCall.of Tryz.func17 sf17 hb17 (Nat.le_of_ble_eq_true rfl) (okRes_nil fun _ => rfl) ?_; simp only [s17,idxs,Nat.reduceAdd]
  repeat' (first|(with_reducible first|apply qA|apply qB|apply qC|apply qD|apply qE|apply qF)|(simp (disch:=omega) only [go_sem,simprocAttr,Blk.men,Blk.keysIn,d2])|exact qM rfl rfl rfl|(refine qG rfl ?_)|(refine qH rfl ?_)|(refine qI rfl ?_ ?_<;>intro hc<;>(try simp only [go_sem] at hc))|(refine qJ ?_ ?_<;>intro hc<;>(try simp only [hc])<;>(try simp only [go_sem] at hc)))
 have d2 : decide ((200 : Int) < (l.length : Int)) = false := decide_eq_false h2
 rw [if_neg h2]
 generalize hR : (if l.any plBad = true then (4 : Int) else 0) = R
 refine DCall.of Tryz.func17 sf17 hb17 (Nat.le_of_ble_eq_true rfl) (okRes_nil fun _ => rfl) ?_; simp only [s17,idxs,Nat.reduceAdd]
 repeat' (first|(with_reducible first|apply qA|apply qB|apply qC|apply qD|apply qE|apply qF)|(simp (disch:=omega) only [go_sem,simprocAttr,Blk.men,Blk.keysIn,d2])|exact qM rfl rfl rfl|(refine qG rfl ?_)|(refine qH rfl ?_)|(refine qI rfl ?_ ?_<;>intro hc<;>(try simp only [go_sem] at hc))|(refine qJ ?_ ?_<;>intro hc<;>(try simp only [hc])<;>(try simp only [go_sem] at hc)))
 refine DW.loop (ι := { i : Nat // i ≤ l.length ∧ (if (l.drop i).any plBad = true then (4 : Int) else 0) = R }) (fun i => ⟨29,[(3,dI i.1),(0,lyD lab l)],[]⟩) (fun i => l.length - i.1) ⟨0,Nat.zero_le _,hR⟩ ?_ ?_
 ·refine Ent.to ?_ ?_ <;> simp (disch:=omega) only [qR,qS,qT,qU,get,Nat.reduceEqDiff,↓reduceIte,qV,qW,qX,qY,qZ,and_self,dI,i64_in,and_true,true_and,rA,rB,rC,rD]
  all_goals exact .refl _
 rintro ⟨i,hi,hr⟩
 dsimp only
 rcases at_or l i hi with ⟨q,hq,hlt,hd⟩ | ⟨he,hd⟩
 ·have hdr : l.drop i = q :: l.drop (i + 1) := by rw [List.drop_eq_getElem_cons hlt,(List.getElem_eq_iff hlt).2 hq]
  rw [hdr,List.any_cons,badR] at hr
  have g1 := reIn q.x 0 140
  have g2 := reIn q.y 0 140
  cases e1 : inI q.x 0 140 <;> rw [e1] at g1 hr
  ·simp only [Bool.false_and,Bool.not_false,Bool.true_or,if_true] at hr
   subst hr
   repeat' (first|(with_reducible first|apply qA|apply qB|apply qC|apply qD|apply qE|apply qF)|(simp (disch:=omega) only [go_sem,simprocAttr,Blk.men,Blk.keysIn,hd,hq,rF,rG])|exact qM rfl rfl rfl|(refine qG rfl ?_)|(refine qK (g1) (by decide) ?_)|(refine qH rfl ?_)|(refine qI rfl ?_ ?_<;>intro hc<;>(try simp only [go_sem] at hc))|(refine qJ ?_ ?_<;>intro hc<;>(try simp only [hc])<;>(try simp only [go_sem] at hc)))
  cases e2 : inI q.y 0 140 <;> rw [e2] at g2 hr
  ·simp only [Bool.and_false,Bool.not_false,Bool.true_or,if_true] at hr
   subst hr
   repeat' (first|(with_reducible first|apply qA|apply qB|apply qC|apply qD|apply qE|apply qF)|(simp (disch:=omega) only [go_sem,simprocAttr,Blk.men,Blk.keysIn,hd,hq,rF,rG])|exact qM rfl rfl rfl|(refine qG rfl ?_)|(refine qK (g1) (by decide) ?_)|(refine qK (g2) (by decide) ?_)|(refine qH rfl ?_)|(refine qI rfl ?_ ?_<;>intro hc<;>(try simp only [go_sem] at hc))|(refine qJ ?_ ?_<;>intro hc<;>(try simp only [hc])<;>(try simp only [go_sem] at hc)))
  ·simp only [Bool.and_self,Bool.not_true,Bool.false_or] at hr
   repeat' (first|(with_reducible first|apply qA|apply qB|apply qC|apply qD|apply qE|apply qF)|(simp (disch:=omega) only [go_sem,simprocAttr,Blk.men,Blk.keysIn,hd,hq,rF,rG])|exact qM rfl rfl rfl|(refine qG rfl ?_)|(refine qK (g1) (by decide) ?_)|(refine qK (g2) (by decide) ?_)|(refine qH rfl ?_)|(refine qI rfl ?_ ?_<;>intro hc<;>(try simp only [go_sem] at hc))|(refine qJ ?_ ?_<;>intro hc<;>(try simp only [hc])<;>(try simp only [go_sem] at hc)))
   refine ⟨⟨i + 1,hlt,hr⟩,?_,Ent.to ?_ ?_⟩ <;> first | (show _ < _; (try simp only); omega) | (simp (disch:=omega) only [qR,qS,qT,qU,get,Nat.reduceEqDiff,↓reduceIte,qV,qW,qX,qY,qZ,and_self,dI,i64_in,and_true,true_and,rA,rB,rC,rD])
   all_goals exact .refl _
 ·rw [List.drop_eq_nil_of_le (by omega)] at hr
  simp only [List.any_nil,Bool.false_eq_true,if_false] at hr
  subst hr
  repeat' (first|(with_reducible first|apply qA|apply qB|apply qC|apply qD|apply qE|apply qF)|(simp (disch:=omega) only [go_sem,simprocAttr,Blk.men,Blk.keysIn,hd])|exact qM rfl rfl rfl|(refine qG rfl ?_)|(refine qH rfl ?_)|(refine qI rfl ?_ ?_<;>intro hc<;>(try simp only [go_sem] at hc))|(refine qJ ?_ ?_<;>intro hc<;>(try simp only [hc])<;>(try simp only [go_sem] at hc)))
theorem reOpen (lab : Bool) (p : PBs) (b : PBx) (l : List PPl) (hl : l.length ≤ maxLen) : DCall Tryz.prog 4 [bsD p,bxD b,lyD lab l] [] (dI (opE p b [l])) [] := by
 have h1 := reCheck p b
 have h2 := reLayer lab l hl
 unfold opE
 by_cases hc : chkE p b = 0
 ·rw [hc] at h1 ⊢
  rw [if_neg (by decide)]
  refine DCall.of Tryz.func4 sf4 hb4 (Nat.le_of_ble_eq_true rfl) (okRes_nil fun _ => rfl) ?_; simp only [s4,idxs,Nat.reduceAdd]
  repeat' (first|(with_reducible first|apply qA|apply qB|apply qC|apply qD|apply qE|apply qF)|(simp (disch:=omega) only [go_sem,simprocAttr,Blk.men,Blk.keysIn])|exact qM rfl rfl rfl|(refine qG rfl ?_)|(refine qK (h1) (by decide) ?_)|(refine qK (h2) (by decide) ?_)|(refine qH rfl ?_)|(refine qI rfl ?_ ?_<;>intro hc<;>(try simp only [go_sem] at hc))|(refine qJ ?_ ?_<;>intro hc<;>(try simp only [hc])<;>(try simp only [go_sem] at hc)))
 ·rw [if_pos hc]
  generalize chkE p b = e at *
  have hd : (e != 0) = true := by simpa using hc
  refine DCall.of Tryz.func4 sf4 hb4 (Nat.le_of_ble_eq_true rfl) (okRes_nil fun _ => rfl) ?_; simp only [s4,idxs,Nat.reduceAdd]
  repeat' (first|(with_reducible first|apply qA|apply qB|apply qC|apply qD|apply qE|apply qF)|(simp (disch:=omega) only [go_sem,simprocAttr,Blk.men,Blk.keysIn,hd])|exact qM rfl rfl rfl|(refine qG rfl ?_)|(refine qK (h1) (by decide) ?_)|(refine qH rfl ?_)|(refine qI rfl ?_ ?_<;>intro hc<;>(try simp only [go_sem] at hc))|(refine qJ ?_ ?_<;>intro hc<;>(try simp only [hc])<;>(try simp only [go_sem] at hc)))
theorem reRoom (p : PBs) (hp : p.ok) : DCall Tryz.prog 38 [bsD p] [] (.tup [dI (rmX p),dI (rmY p)]) [] := by
 have := hp.lg
 have := hp.wd
 have := hp.ov
 unfold rmX rmY
 refine DCall.of Tryz.func38 sf38 hb38 (Nat.le_of_ble_eq_true rfl) (okRes_nil fun _ => rfl) ?_; simp only [s38,idxs,Nat.reduceAdd]
 repeat' (first|(with_reducible first|apply qA|apply qB|apply qC|apply qD|apply qE|apply qF)|(refine qL rfl (WF.of ?_) ?_; first|rfl|skip)|(simp (disch:=omega) only [go_sem,simprocAttr,Blk.men,Blk.keysIn])|exact qM rfl rfl rfl|(refine qG rfl ?_)|(refine qH rfl ?_)|(refine qI rfl ?_ ?_<;>intro hc<;>(try simp only [go_sem] at hc))|(refine qJ ?_ ?_<;>intro hc<;>(try simp only [hc])<;>(try simp only [go_sem] at hc)))
theorem reSides (b : PBx) (q : PPl) : DCall Tryz.prog 39 [bxD b,plD q] [] (.tup [dI (sdX b q),dI (sdY b q)]) [] := by
 obtain ⟨x,y,t⟩ := q
 unfold sdX sdY
 cases t
 ·refine DCall.of Tryz.func39 sf39 hb39 (Nat.le_of_ble_eq_true rfl) (okRes_nil fun _ => rfl) ?_; simp only [s39,idxs,Nat.reduceAdd]
  repeat' (first|(with_reducible first|apply qA|apply qB|apply qC|apply qD|apply qE|apply qF)|(refine qL rfl (WF.of ?_) ?_; first|rfl|skip)|(simp (disch:=omega) only [go_sem,simprocAttr,Blk.men,Blk.keysIn,rF,rG])|exact qM rfl rfl rfl|(refine qG rfl ?_)|(refine qH rfl ?_)|(refine qI rfl ?_ ?_<;>intro hc<;>(try simp only [go_sem] at hc))|(refine qJ ?_ ?_<;>intro hc<;>(try simp only [hc])<;>(try simp only [go_sem] at hc)))
  skip
 ·refine DCall.of Tryz.func39 sf39 hb39 (Nat.le_of_ble_eq_true rfl) (okRes_nil fun _ => rfl) ?_; simp only [s39,idxs,Nat.reduceAdd]
  repeat' (first|(with_reducible first|apply qA|apply qB|apply qC|apply qD|apply qE|apply qF)|(refine qL rfl (WF.of ?_) ?_; first|rfl|skip)|(simp (disch:=omega) only [go_sem,simprocAttr,Blk.men,Blk.keysIn,rF,rG])|exact qM rfl rfl rfl|(refine qG rfl ?_)|(refine qH rfl ?_)|(refine qI rfl ?_ ?_<;>intro hc<;>(try simp only [go_sem] at hc))|(refine qJ ?_ ?_<;>intro hc<;>(try simp only [hc])<;>(try simp only [go_sem] at hc)))
  skip
set_option maxHeartbeats 1000000 in
theorem reCommon (b : PBx) (hb : b.ok) (q r : PPl) (hq : q.fine) (hr : r.fine) : DCall Tryz.prog 40 [bxD b,plD q,plD r] [] (dI (comI b q r)) [] := by
 have h1 := reSides b q
 have h2 := reSides b r
 have s1 := side_pos hb q
 have s2 := side_pos hb r
 have hv := ov_b hb q r
 have x1 := hq.x
 have x2 := hq.y
 have x3 := hr.x
 have x4 := hr.y
 have m := mul_abs (a := ovI q.x (sdX b q) r.x (sdX b r)) (b := ovI q.y (sdY b q) r.y (sdY b r)) (A := 100) (B := 100) (by omega) (by omega)
 unfold comI at *
 unfold ovI at *
 generalize sdX b q = a1 at *
 generalize sdY b q = a2 at *
 generalize sdX b r = a3 at *
 generalize sdY b r = a4 at *
 refine DCall.of Tryz.func40 sf40 hb40 (Nat.le_of_ble_eq_true rfl) (okRes_nil fun _ => rfl) ?_; simp only [s40,idxs,Nat.reduceAdd]
 repeat' (first|(with_reducible first|apply qA|apply qB|apply qC|apply qD|apply qE|apply qF)|(refine qL rfl (WF.of ?_) ?_; first|rfl|skip)|(simp (disch:=omega) only [go_sem,simprocAttr,Blk.men,Blk.keysIn,rF,rG,min_if,max_if])|exact qM rfl rfl rfl|(refine qG rfl ?_)|(refine qK (h1) (by decide) ?_)|(refine qK (h2) (by decide) ?_)|(refine qH rfl ?_)|(refine qI rfl ?_ ?_<;>intro hc<;>(try simp only [go_sem] at hc))|(refine qJ ?_ ?_<;>intro hc<;>(try simp only [hc])<;>(try simp only [go_sem] at hc)))
 skip
end Go.Dw.Seat
end
section
set_option linter.unusedSimpArgs false
set_option maxRecDepth 100000
namespace Go.Dw.Seat
open Go Go.Dw Go.Proofs Go.IntWalk
theorem crW1 (n lo hi : Int) (p q : Bool) : DCall Tryz.prog 106 [dI n,.c (.ro p [.v (.int .i64 lo)] 0),.c (.ro q [.v (.int .i64 hi)] 0)] [] (bD (decide (n < lo) || decide (hi < n))) [] := by
 refine DCall.of Tryz.func106 sf106 hb106 (Nat.le_of_ble_eq_true rfl) (okRes_nil fun _ => rfl) ?_; simp only [s106,idxs,Nat.reduceAdd]
 repeat' (first|(with_reducible first|apply qA|apply qB|apply qC|apply qD|apply qE|apply qF)|(simp (disch:=omega) only [go_sem,simprocAttr,Blk.men,Blk.keysIn])|exact qM rfl rfl rfl|(refine qG rfl ?_)|(refine qH rfl ?_)|(refine qI rfl ?_ ?_<;>intro hc<;>(try simp only [go_sem] at hc))|(refine qJ ?_ ?_<;>intro hc<;>(try simp only [hc])<;>(try simp only [go_sem] at hc)))
theorem crWithin (b : Bool) (lo hi : Int) (l : List Int) (hl : l.length ≤ 2 ^ 36) : DCall Tryz.prog 97 [dI lo,dI hi,dIs b l] [] (bD (wthn lo hi l)) [] := by
 refine DCall.of Tryz.func97 sf97 hb97 (Nat.le_of_ble_eq_true rfl) (okRes_nil fun _ => rfl) ?_; simp only [s97,idxs,Nat.reduceAdd]
 repeat' (first|(with_reducible first|apply qA|apply qB|apply qC|apply qD|apply qE|apply qF)|(simp (disch:=omega) only [go_sem,simprocAttr,Blk.men,Blk.keysIn])|exact qM rfl rfl rfl|(refine qG rfl ?_)|(refine qH rfl ?_)|(refine qI rfl ?_ ?_<;>intro hc<;>(try simp only [go_sem] at hc))|(refine qJ ?_ ?_<;>intro hc<;>(try simp only [hc])<;>(try simp only [go_sem] at hc)))
 (refine call_c (plAnyI b l hl 106 [] [.ro true [.v (.int .i64 lo)] 0,.ro true [.v (.int .i64 hi)] 0] (fun n => decide (n < lo) || decide (hi < n)) (fun x _ => crW1 x lo hi true true)) (by decide) ?_; simp (disch:=omega) only [go_sem,simprocAttr,Blk.men,Blk.keysIn])
 repeat' (first|(with_reducible first|apply qA|apply qB|apply qC|apply qD|apply qE|apply qF)|(simp (disch:=omega) only [go_sem,simprocAttr,Blk.men,Blk.keysIn])|exact qM rfl rfl rfl|(refine qG rfl ?_)|(refine qH rfl ?_)|(refine qI rfl ?_ ?_<;>intro hc<;>(try simp only [go_sem] at hc))|(refine qJ ?_ ?_<;>intro hc<;>(try simp only [hc])<;>(try simp only [go_sem] at hc)))
theorem spanOk_yes {lo hi least most : Int} (h : least ≤ lo ∧ lo ≤ hi ∧ hi ≤ most) : spanOk lo hi least most = true := by
 unfold spanOk
 rw [wthn_yes (by simp; omega),decide_eq_true h.2.1]; rfl
theorem crSpanG (lo hi least most : Int) : DCall Tryz.prog 95 [.agg [dI lo,dI hi],dI least,dI most] [] (bD (spanOk lo hi least most)) [] := by
 have h1 := crWithin true least most [lo,hi] (by simp)
 unfold spanOk
 cases h : wthn least most [lo,hi] <;> rw [h] at h1 <;> simp only [Bool.true_and,Bool.false_and]
 ·refine DCall.of Tryz.func95 sf95 hb95 (Nat.le_of_ble_eq_true rfl) (okRes_nil fun _ => rfl) ?_; simp only [s95,idxs,Nat.reduceAdd]
  repeat' (first|(with_reducible first|apply qA|apply qB|apply qC|apply qD|apply qE|apply qF)|(simp (disch:=omega) only [go_sem,simprocAttr,Blk.men,Blk.keysIn])|exact qM rfl rfl rfl|(refine qG rfl ?_)|(refine qK (h1) (by decide) ?_)|(refine qH rfl ?_)|(refine qI rfl ?_ ?_<;>intro hc<;>(try simp only [go_sem] at hc))|(refine qJ ?_ ?_<;>intro hc<;>(try simp only [hc])<;>(try simp only [go_sem] at hc)))
 ·refine DCall.of Tryz.func95 sf95 hb95 (Nat.le_of_ble_eq_true rfl) (okRes_nil fun _ => rfl) ?_; simp only [s95,idxs,Nat.reduceAdd]
  repeat' (first|(with_reducible first|apply qA|apply qB|apply qC|apply qD|apply qE|apply qF)|(simp (disch:=omega) only [go_sem,simprocAttr,Blk.men,Blk.keysIn])|exact qM rfl rfl rfl|(refine qG rfl ?_)|(refine qK (h1) (by decide) ?_)|(refine qH rfl ?_)|(refine qI rfl ?_ ?_<;>intro hc<;>(try simp only [go_sem] at hc))|(refine qJ ?_ ?_<;>intro hc<;>(try simp only [hc])<;>(try simp only [go_sem] at hc)))
theorem mulB0 {a b A B : Int} (ha : 0 ≤ a ∧ a ≤ A) (hb : 0 ≤ b ∧ b ≤ B) : 0 ≤ a * b ∧ a * b ≤ A * B := by
 refine ⟨Int.mul_nonneg ha.1 hb.1,?_⟩
 exact Int.le_trans (Int.mul_le_mul_of_nonneg_right ha.2 hb.1) (Int.mul_le_mul_of_nonneg_left hb.2 (Int.le_trans ha.1 ha.2))
theorem crIn (b : Bool) (lo hi : Int) (l : List Int) (hl : l.length ≤ 2 ^ 36) (h : ∀ v ∈ l,lo ≤ v ∧ v ≤ hi) : DCall Tryz.prog 97 [dI lo,dI hi,dIs b l] [] (bD true) [] := by
 have := crWithin b lo hi l hl
 rwa [wthn_yes h] at this
end Go.Dw.Seat
end
section
set_option linter.unusedSimpArgs false
set_option maxRecDepth 100000
namespace Go.Dw.Seat
open Go Go.Dw Go.Proofs Go.IntWalk
structure Lod where
 sl : Int
 sh : Int
 wl : Int
 wh : Int
def eLd (b : Lod) : List C := [.v (.int .i64 b.sl),.v (.int .i64 b.sh),.v (.int .i64 b.wl),.v (.int .i64 b.wh)]
theorem eLd_nb (v : Lod) : C.nbs (eLd v) = true := rfl
def eK (t : Int × Int) : List C := [.v (.int .i64 t.1),.v (.int .i64 t.2)]
theorem eK_nb (v : Int × Int) : C.nbs (eK v) = true := rfl
attribute [go_sem] eLd eK
structure Lod.ok (b : Lod) : Prop where
 strong : 0 ≤ b.sl ∧ b.sl ≤ b.sh ∧ b.sh ≤ 20000000
 weight : 0 ≤ b.wl ∧ b.wl ≤ b.wh ∧ b.wh ≤ 100000
def lodOk (b : Lod) : Bool := spanOk b.sl b.sh 0 20000000 && spanOk b.wl b.wh 0 100000
theorem lodOk_yes {b : Lod} (h : b.ok) : lodOk b = true := by
 simp only [lodOk,spanOk_yes h.strong,spanOk_yes h.weight,Bool.and_self]
theorem crBoxG (b : Lod) : DCall Tryz.prog 94 [.agg ((eLd b).map D.c)] [] (bD (!lodOk b)) [] := by
 have h1 := crSpanG b.sl b.sh 0 20000000
 have h2 := crSpanG b.wl b.wh 0 100000
 unfold lodOk
 cases e1 : spanOk b.sl b.sh 0 20000000 <;> rw [e1] at h1 <;> simp only [Bool.true_and,Bool.false_and,Bool.not_false]
 ·refine DCall.of Tryz.func94 sf94 hb94 (Nat.le_of_ble_eq_true rfl) (okRes_nil fun _ => rfl) ?_; simp only [s94,idxs,Nat.reduceAdd]
  repeat' (first|(with_reducible first|apply qA|apply qB|apply qC|apply qD|apply qE|apply qF)|(simp (disch:=omega) only [go_sem,simprocAttr,Blk.men,Blk.keysIn,rF,rG])|exact qM rfl rfl rfl|(refine qG rfl ?_)|(refine qK (h1) (by decide) ?_)|(refine qH rfl ?_)|(refine qI rfl ?_ ?_<;>intro hc<;>(try simp only [go_sem] at hc))|(refine qJ ?_ ?_<;>intro hc<;>(try simp only [hc])<;>(try simp only [go_sem] at hc)))
 ·refine DCall.of Tryz.func94 sf94 hb94 (Nat.le_of_ble_eq_true rfl) (okRes_nil fun _ => rfl) ?_; simp only [s94,idxs,Nat.reduceAdd]
  repeat' (first|(with_reducible first|apply qA|apply qB|apply qC|apply qD|apply qE|apply qF)|(simp (disch:=omega) only [go_sem,simprocAttr,Blk.men,Blk.keysIn,rF,rG])|exact qM rfl rfl rfl|(refine qG rfl ?_)|(refine qK (h1) (by decide) ?_)|(refine qK (h2) (by decide) ?_)|(refine qH rfl ?_)|(refine qI rfl ?_ ?_<;>intro hc<;>(try simp only [go_sem] at hc))|(refine qJ ?_ ?_<;>intro hc<;>(try simp only [hc])<;>(try simp only [go_sem] at hc)))
theorem crLIdx (b : Bool) (l : List (Lod)) (hl : l.length ≤ 2 ^ 36) (g : FuncId) (fs caps : List C) (p : Lod → Bool) (hp : ∀ x ∈ l,DCall Tryz.prog g (fs.map D.c ++ [.agg ((eLd x).map D.c)] ++ caps.map D.c) [] (bD (p x)) []) : DCall Tryz.prog 105 [.c (.sl b 4 (rows eLd l)),.c (.fn (.func g) fs caps)] [] (dI (idxI p l)) [] := by
 refine DCall.of Tryz.func105 sf105 hb105 (Nat.le_of_ble_eq_true rfl) (okRes_nil fun _ => rfl) ?_; simp only [s105,idxs,Nat.reduceAdd]
 repeat' (first|(with_reducible first|apply qA|apply qB|apply qC|apply qD|apply qE|apply qF)|(simp (disch:=omega) only [go_sem,simprocAttr,Blk.men,Blk.keysIn])|exact qM rfl rfl rfl|(refine qG rfl ?_)|(refine qH rfl ?_)|(refine qI rfl ?_ ?_<;>intro hc<;>(try simp only [go_sem] at hc))|(refine qJ ?_ ?_<;>intro hc<;>(try simp only [hc])<;>(try simp only [go_sem] at hc)))
 refine DW.loop (ι := { i : Nat // i ≤ l.length ∧ ∀ j u,j < i → l[j]? = some u → p u = false }) (fun i => ⟨19,[(8,dI i.1),(7,dI l.length),(1,.c (.fn (.func g) fs caps)),(0,.c (.sl b 4 (rows eLd l)))],[]⟩) (fun i => l.length - i.1) ⟨0,Nat.zero_le _,fun j u h => by omega⟩ ?_ ?_
 ·refine Ent.to ?_ ?_ <;> simp (disch:=omega) only [qR,qS,qT,qU,get,Nat.reduceEqDiff,↓reduceIte,qV,qW,qX,qY,qZ,and_self,dI,i64_in,and_true,true_and,rA,rB,rC,rD]
 rintro ⟨i,hi,hij⟩
 rcases at_or l i hi with ⟨v,hv,hlt,hd⟩ | ⟨he,hd⟩
 ·have hcall := hp v (List.mem_of_getElem? hv)
  repeat' (first|(with_reducible first|apply qA|apply qB|apply qC|apply qD|apply qE|apply qF)|(simp (disch:=omega) only [go_sem,simprocAttr,Blk.men,Blk.keysIn,hd,hv,closeDs_fn,rF,rG])|exact qM rfl rfl rfl|(refine qG rfl ?_)|(refine qH rfl ?_)|(refine qI rfl ?_ ?_<;>intro hc<;>(try simp only [go_sem] at hc))|(refine qJ ?_ ?_<;>intro hc<;>(try simp only [hc])<;>(try simp only [go_sem] at hc)))
  refine call_c hcall (by decide) ?_
  simp (disch:=omega) only [go_sem,simprocAttr,Blk.men,Blk.keysIn]
  refine DW.cond rfl ?_ ?_ <;> intro hc
  ·repeat' (first|(with_reducible first|apply qA|apply qB|apply qC|apply qD|apply qE|apply qF)|(simp (disch:=omega) only [go_sem,simprocAttr,Blk.men,Blk.keysIn])|exact qM rfl rfl rfl|(refine qG rfl ?_)|(refine qH rfl ?_)|(refine qI rfl ?_ ?_<;>intro hc<;>(try simp only [go_sem] at hc))|(refine qJ ?_ ?_<;>intro hc<;>(try simp only [hc])<;>(try simp only [go_sem] at hc)))
   refine retS_of rfl ?_ rfl; simp only [oneD,St.op,get,Nat.reduceEqDiff,↓reduceIte,Option.getD_some,bD,dI]
   simp only [idxI,idxOf_some hij hv hc]
  ·repeat' (first|(with_reducible first|apply qA|apply qB|apply qC|apply qD|apply qE|apply qF)|(simp (disch:=omega) only [go_sem,simprocAttr,Blk.men,Blk.keysIn])|exact qM rfl rfl rfl|(refine qG rfl ?_)|(refine qH rfl ?_)|(refine qI rfl ?_ ?_<;>intro hc<;>(try simp only [go_sem] at hc))|(refine qJ ?_ ?_<;>intro hc<;>(try simp only [hc])<;>(try simp only [go_sem] at hc)))
   refine ⟨⟨i + 1,by omega,fun j u hj hu => by
    rcases Nat.lt_or_ge j i with h | h
    ·exact hij j u h hu
    ·have : j = i := by omega
     subst this
     rw [hv] at hu; cases hu; exact hc⟩,?_,Ent.to ?_ ?_⟩ <;> first | (show _ < _; (try simp only); omega) | (simp (disch:=omega) only [qR,qS,qT,qU,get,Nat.reduceEqDiff,↓reduceIte,qV,qW,qX,qY,qZ,and_self,dI,i64_in,and_true,true_and,rA,rB,rC,rD])
 ·repeat' (first|(with_reducible first|apply qA|apply qB|apply qC|apply qD|apply qE|apply qF)|(simp (disch:=omega) only [go_sem,simprocAttr,Blk.men,Blk.keysIn,hd])|exact qM rfl rfl rfl|(refine qG rfl ?_)|(refine qH rfl ?_)|(refine qI rfl ?_ ?_<;>intro hc<;>(try simp only [go_sem] at hc))|(refine qJ ?_ ?_<;>intro hc<;>(try simp only [hc])<;>(try simp only [go_sem] at hc)))
  refine retS_of rfl ?_ rfl; simp only [oneD,St.op,get,Nat.reduceEqDiff,↓reduceIte,Option.getD_some,bD,dI]
  simp only [idxI,idxOf_none (he ▸ hij)]
theorem crLCon (b : Bool) (l : List (Lod)) (hl : l.length ≤ 2 ^ 36) (g : FuncId) (fs caps : List C) (p : Lod → Bool) (hp : ∀ x ∈ l,DCall Tryz.prog g (fs.map D.c ++ [.agg ((eLd x).map D.c)] ++ caps.map D.c) [] (bD (p x)) []) : DCall Tryz.prog 96 [.c (.sl b 4 (rows eLd l)),.c (.fn (.func g) fs caps)] [] (bD (l.any p)) [] := by
 refine DCall.of Tryz.func96 sf96 hb96 (Nat.le_of_ble_eq_true rfl) (okRes_nil fun _ => rfl) ?_; simp only [s96,idxs,Nat.reduceAdd]
 repeat' (first|(with_reducible first|apply qA|apply qB|apply qC|apply qD|apply qE|apply qF)|(simp (disch:=omega) only [go_sem,simprocAttr,Blk.men,Blk.keysIn])|exact qM rfl rfl rfl|(refine qG rfl ?_)|(refine qH rfl ?_)|(refine qI rfl ?_ ?_<;>intro hc<;>(try simp only [go_sem] at hc))|(refine qJ ?_ ?_<;>intro hc<;>(try simp only [hc])<;>(try simp only [go_sem] at hc)))
 refine call_c (crLIdx b l hl g fs caps p hp) (by decide) ?_
 repeat' (first|(with_reducible first|apply qA|apply qB|apply qC|apply qD|apply qE|apply qF)|(simp (disch:=omega) only [go_sem,simprocAttr,Blk.men,Blk.keysIn])|exact qM rfl rfl rfl|(refine qG rfl ?_)|(refine qH rfl ?_)|(refine qI rfl ?_ ?_<;>intro hc<;>(try simp only [go_sem] at hc))|(refine qJ ?_ ?_<;>intro hc<;>(try simp only [hc])<;>(try simp only [go_sem] at hc)))
 refine retS_of rfl ?_ rfl; simp only [oneD,St.op,get,Nat.reduceEqDiff,↓reduceIte,Option.getD_some,bD,dI]
 rw [idxI_any]
def boxesE (l : List Lod) (most : Int) : Int := if most < l.length then 5 else if l.any (fun b => !lodOk b) then 2 else 0
theorem crBoxesG (b : Bool) (l : List Lod) (most : Int) (hl : l.length ≤ 2 ^ 36) : DCall Tryz.prog 68 [.c (.sl b 4 (rows eLd l)),dI most] [] (dI (boxesE l most)) [] := by
 have h1 := crLCon b l hl 94 [] [] (fun b => !lodOk b) (fun x _ => by simpa using crBoxG x)
 unfold boxesE
 by_cases hm : most < (l.length : Int)
 ·have hd : decide (most < (l.length : Int)) = true := decide_eq_true hm
  rw [if_pos hm]
  refine DCall.of Tryz.func68 sf68 hb68 (Nat.le_of_ble_eq_true rfl) (okRes_nil fun _ => rfl) ?_; simp only [s68,idxs,Nat.reduceAdd]
  repeat' (first|(with_reducible first|apply qA|apply qB|apply qC|apply qD|apply qE|apply qF)|(simp (disch:=omega) only [go_sem,simprocAttr,Blk.men,Blk.keysIn,hd])|exact qM rfl rfl rfl|(refine qG rfl ?_)|(refine qH rfl ?_)|(refine qI rfl ?_ ?_<;>intro hc<;>(try simp only [go_sem] at hc))|(refine qJ ?_ ?_<;>intro hc<;>(try simp only [hc])<;>(try simp only [go_sem] at hc)))
 have hd : decide (most < (l.length : Int)) = false := decide_eq_false hm
 rw [if_neg hm]
 cases e : l.any (fun b => !lodOk b) <;> rw [e] at h1
 ·rw [if_neg (by decide)]
  refine DCall.of Tryz.func68 sf68 hb68 (Nat.le_of_ble_eq_true rfl) (okRes_nil fun _ => rfl) ?_; simp only [s68,idxs,Nat.reduceAdd]
  repeat' (first|(with_reducible first|apply qA|apply qB|apply qC|apply qD|apply qE|apply qF)|(simp (disch:=omega) only [go_sem,simprocAttr,Blk.men,Blk.keysIn,hd])|exact qM rfl rfl rfl|(refine qG rfl ?_)|(refine qK (h1) (by decide) ?_)|(refine qH rfl ?_)|(refine qI rfl ?_ ?_<;>intro hc<;>(try simp only [go_sem] at hc))|(refine qJ ?_ ?_<;>intro hc<;>(try simp only [hc])<;>(try simp only [go_sem] at hc)))
 ·rw [if_pos rfl]
  refine DCall.of Tryz.func68 sf68 hb68 (Nat.le_of_ble_eq_true rfl) (okRes_nil fun _ => rfl) ?_; simp only [s68,idxs,Nat.reduceAdd]
  repeat' (first|(with_reducible first|apply qA|apply qB|apply qC|apply qD|apply qE|apply qF)|(simp (disch:=omega) only [go_sem,simprocAttr,Blk.men,Blk.keysIn,hd])|exact qM rfl rfl rfl|(refine qG rfl ?_)|(refine qK (h1) (by decide) ?_)|(refine qH rfl ?_)|(refine qI rfl ?_ ?_<;>intro hc<;>(try simp only [go_sem] at hc))|(refine qJ ?_ ?_<;>intro hc<;>(try simp only [hc])<;>(try simp only [go_sem] at hc)))
theorem boxesE_yes {l : List Lod} {most : Int} (h1 : (l.length : Int) ≤ most) (h : ∀ x ∈ l,x.ok) : boxesE l most = 0 := by
 unfold boxesE
 rw [if_neg (by omega),if_neg]
 simp only [Bool.not_eq_true,List.any_eq_false,Bool.not_eq_true',Bool.not_eq_false]
 exact fun x hx => lodOk_yes (h x hx)
theorem crBoxes (b : Bool) (l : List Lod) (most : Int) (hl : l.length ≤ 1000) (hm : (l.length : Int) ≤ most) (h : ∀ x ∈ l,x.ok) : DCall Tryz.prog 68 [.c (.sl b 4 (rows eLd l)),dI most] [] (dI 0) [] := by
 have := crBoxesG b l most (by omega)
 rwa [boxesE_yes hm h] at this
structure TabF (l : List (Int × Int)) : Prop where
 len : 1 ≤ l.length ∧ l.length ≤ 10
 first : ∀ u,l[0]? = some u → u.1 = 0
 mem : ∀ s ∈ l,(0 ≤ s.1 ∧ s.1 ≤ 10000) ∧ (0 ≤ s.2 ∧ s.2 ≤ 1000)
 step : ∀ (i : Nat) (u v : Int × Int),l[i]? = some u → l[i + 1]? = some v → u.1 < v.1 ∧ v.2 ≤ u.2
structure TabOk (l : List (Int × Int)) (days : Int) : Prop extends TabF l where
 days : 0 ≤ days ∧ days ≤ 10000
theorem crTable (l : List (Int × Int)) (days : Int) (h : TabOk l days) : DCall Tryz.prog 69 [.c (.sl false 2 (rows eK l)),dI days] [] (.tup [.agg [.c (.sl false 2 (rows eK l)),dI days],dI 0]) [] := by
 have hlen := h.len
 have h1 := crIn true 1 10 [(l.length : Int)] (by simp) (by simp; omega)
 have h2 := crIn true 0 10000 [days] (by simp) (by simpa using h.days)
 obtain ⟨f,hf⟩ := getE (l := l) (i := 0) (by omega)
 have hf0 := h.first f hf
 have hfe : (f.1 != 0) = false := by rw [hf0]; rfl
 refine DCall.of Tryz.func69 sf69 hb69 (Nat.le_of_ble_eq_true rfl) (okRes_nil fun _ => rfl) ?_; simp only [s69,idxs,Nat.reduceAdd]
 repeat' (first|(with_reducible first|apply qA|apply qB|apply qC|apply qD|apply qE|apply qF)|(refine qL rfl (WF.of ?_) ?_; first|rfl|skip)|(simp (disch:=omega) only [go_sem,simprocAttr,Blk.men,Blk.keysIn,hf,hfe,rF,rG])|exact qM rfl rfl rfl|(refine qG rfl ?_)|(refine qK (h1) (by decide) ?_)|(refine qH rfl ?_)|(refine qI rfl ?_ ?_<;>intro hc<;>(try simp only [go_sem] at hc))|(refine qJ ?_ ?_<;>intro hc<;>(try simp only [hc])<;>(try simp only [go_sem] at hc)))
 refine DW.loop (ι := { i : Nat // i ≤ l.length }) (fun i => ⟨76,[(23,dI i.1),(22,dI l.length),(21,.c (.sl false 2 (rows eK l))),(4,.box 4 0),(0,.c (.sl false 2 (rows eK l))),(1,dI days)],[(4,.box [.c (.v (.slice none 0 0)),dI 0])]⟩) (fun i => l.length - i.1) ⟨0,Nat.zero_le _⟩ ?_ ?_
 ·refine Ent.to ?_ ?_ <;> simp (disch:=omega) only [qR,qS,qT,qU,get,Nat.reduceEqDiff,↓reduceIte,qV,qW,qX,qY,qZ,and_self,dI,i64_in,and_true,true_and,rA,rB,rC,rD]
 rintro ⟨i,hi⟩
 rcases at_or l i hi with ⟨v,hv,hlt,hd⟩ | ⟨he,hd⟩
 ·have hm := h.mem v (List.mem_of_getElem? hv)
  have h3 := crIn true 0 10000 [v.1] (by simp) (by simpa using hm.1)
  have h4 := crIn true 0 1000 [v.2] (by simp) (by simpa using hm.2)
  rcases i with _ | i
  ·have hd0 : decide ((0 : Int) < ((0 : Nat) : Int)) = false := by decide
   have hd' : decide ((0 : Int) < (l.length : Int)) = true := hd
   repeat' (first|(with_reducible first|apply qA|apply qB|apply qC|apply qD|apply qE|apply qF)|(refine qL rfl (WF.of ?_) ?_; first|rfl|skip)|(simp (disch:=omega) only [go_sem,simprocAttr,Blk.men,Blk.keysIn,hd',hv,hd0,rF,rG])|exact qM rfl rfl rfl|(refine qG rfl ?_)|(refine qK (h3) (by decide) ?_)|(refine qK (h4) (by decide) ?_)|(refine qH rfl ?_)|(refine qI rfl ?_ ?_<;>intro hc<;>(try simp only [go_sem] at hc))|(refine qJ ?_ ?_<;>intro hc<;>(try simp only [hc])<;>(try simp only [go_sem] at hc)))
   refine ⟨⟨1,hlt⟩,?_,Ent.to ?_ ?_⟩ <;> first | (show _ < _; (try simp only); omega) | (simp (disch:=omega) only [qR,qS,qT,qU,get,Nat.reduceEqDiff,↓reduceIte,qV,qW,qX,qY,qZ,and_self,dI,i64_in,and_true,true_and,rA,rB,rC,rD])
  ·have hd0 : decide ((0 : Int) < ((i + 1 : Nat) : Int)) = true := by rw [decide_eq_true_eq]; omega
   obtain ⟨u,hu⟩ := getE (l := l) (i := i) (by omega)
   have hs := h.step i u v hu hv
   have e1 : ((i + 1 : Nat) : Int) - 1 = (i : Int) := by omega
   have d1 : decide (v.1 ≤ u.1) = false := by rw [decide_eq_false_iff_not]; omega
   have d2 : decide (u.2 < v.2) = false := by rw [decide_eq_false_iff_not]; omega
   repeat' (first|(with_reducible first|apply qA|apply qB|apply qC|apply qD|apply qE|apply qF)|(refine qL rfl (WF.of ?_) ?_; first|rfl|skip)|(simp (disch:=omega) only [go_sem,simprocAttr,Blk.men,Blk.keysIn,hd,hv,hd0,hu,e1,d1,d2,rF,rG])|exact qM rfl rfl rfl|(refine qG rfl ?_)|(refine qK (h3) (by decide) ?_)|(refine qK (h4) (by decide) ?_)|(refine qH rfl ?_)|(refine qI rfl ?_ ?_<;>intro hc<;>(try simp only [go_sem] at hc))|(refine qJ ?_ ?_<;>intro hc<;>(try simp only [hc])<;>(try simp only [go_sem] at hc)))
   refine ⟨⟨i + 1 + 1,hlt⟩,?_,Ent.to ?_ ?_⟩ <;> first | (show _ < _; (try simp only); omega) | (simp (disch:=omega) only [qR,qS,qT,qU,get,Nat.reduceEqDiff,↓reduceIte,qV,qW,qX,qY,qZ,and_self,dI,i64_in,and_true,true_and,rA,rB,rC,rD])
 ·repeat' (first|(with_reducible first|apply qA|apply qB|apply qC|apply qD|apply qE|apply qF)|(refine qL rfl (WF.of ?_) ?_; first|rfl|skip)|(simp (disch:=omega) only [go_sem,simprocAttr,Blk.men,Blk.keysIn,hd])|exact qM rfl rfl rfl|(refine qG rfl ?_)|(refine qK (h2) (by decide) ?_)|(refine qH rfl ?_)|(refine qI rfl ?_ ?_<;>intro hc<;>(try simp only [go_sem] at hc))|(refine qJ ?_ ?_<;>intro hc<;>(try simp only [hc])<;>(try simp only [go_sem] at hc)))
  refine retS_wk rfl ?_ (by simp only [Blk.nb,rowC_nb,D.nb,D.nbs,C.nb,C.nbs,C.nbss,rows_nb eI_nb,Bool.and_true,Bool.not_false,Bool.and_self,bD,dI,iD,rows_nb eK_nb,rows_nb eLd_nb]); exact .tup (.cons (.refl _) (.cons (.refl _) .nil))
def stepOk (l : List (Int × Int)) (j : Nat) : Prop := ∀ v,l[j]? = some v → ((0 ≤ v.1 ∧ v.1 ≤ 10000) ∧ (0 ≤ v.2 ∧ v.2 ≤ 1000)) ∧ ∀ k u,j = k + 1 → l[k]? = some u → u.1 < v.1 ∧ v.2 ≤ u.2
theorem tabF_of {l : List (Int × Int)} (h1 : 1 ≤ l.length ∧ l.length ≤ 10) (h2 : ∀ u,l[0]? = some u → u.1 = 0) (h3 : ∀ j,j < l.length → stepOk l j) : TabF l := by
 refine ⟨h1,h2,fun s hs => ?_,fun i u v hu hv => ?_⟩
 ·obtain ⟨j,hj⟩ := List.mem_iff_getElem?.1 hs
  exact (h3 j (List.getElem?_eq_some_iff.1 hj).1 s hj).1
 ·exact (h3 (i + 1) (List.getElem?_eq_some_iff.1 hv).1 v hv).2 i u rfl hu
set_option maxHeartbeats 2000000 in
theorem crTableBad (b : Bool) (l : List (Int × Int)) (days : Int) (hl : l.length ≤ 2 ^ 36) (h : ¬ TabF l) : DCall Tryz.prog 69 [.c (.sl b 2 (rows eK l)),dI days] [] (.tup [.agg [.c (.v (.slice none 0 0)),dI 0],dI 4]) [] := by
 have h1 := crWithin true 1 10 [(l.length : Int)] (by simp)
 cases e1 : wthn 1 10 [(l.length : Int)] <;> rw [e1] at h1
 ·refine DCall.of Tryz.func69 sf69 hb69 (Nat.le_of_ble_eq_true rfl) (okRes_nil fun _ => rfl) ?_; simp only [s69,idxs,Nat.reduceAdd]
  repeat' (first|(with_reducible first|apply qA|apply qB|apply qC|apply qD|apply qE|apply qF)|(refine qL rfl (WF.of ?_) ?_; first|rfl|skip)|(simp (disch:=omega) only [go_sem,simprocAttr,Blk.men,Blk.keysIn])|exact qM rfl rfl rfl|(refine qG rfl ?_)|(refine qK (h1) (by decide) ?_)|(refine qH rfl ?_)|(refine qI rfl ?_ ?_<;>intro hc<;>(try simp only [go_sem] at hc))|(refine qJ ?_ ?_<;>intro hc<;>(try simp only [hc])<;>(try simp only [go_sem] at hc)))
 have hlen : 1 ≤ l.length ∧ l.length ≤ 10 := by have := wthn_one e1; omega
 obtain ⟨f,hf⟩ := getE (l := l) (i := 0) (by omega)
 by_cases hf0 : f.1 = 0
 case neg =>
  have hfe : (f.1 != 0) = true := by simpa using hf0
  refine DCall.of Tryz.func69 sf69 hb69 (Nat.le_of_ble_eq_true rfl) (okRes_nil fun _ => rfl) ?_; simp only [s69,idxs,Nat.reduceAdd]
  repeat' (first|(with_reducible first|apply qA|apply qB|apply qC|apply qD|apply qE|apply qF)|(refine qL rfl (WF.of ?_) ?_; first|rfl|skip)|(simp (disch:=omega) only [go_sem,simprocAttr,Blk.men,Blk.keysIn,hf,hfe,rF,rG])|exact qM rfl rfl rfl|(refine qG rfl ?_)|(refine qK (h1) (by decide) ?_)|(refine qH rfl ?_)|(refine qI rfl ?_ ?_<;>intro hc<;>(try simp only [go_sem] at hc))|(refine qJ ?_ ?_<;>intro hc<;>(try simp only [hc])<;>(try simp only [go_sem] at hc)))
 have hfirst : ∀ u,l[0]? = some u → u.1 = 0 := fun u hu => by rw [hf] at hu; cases hu; exact hf0
 have hfe : (f.1 != 0) = false := by rw [hf0]; rfl
 refine DCall.of Tryz.func69 sf69 hb69 (Nat.le_of_ble_eq_true rfl) (okRes_nil fun _ => rfl) ?_; simp only [s69,idxs,Nat.reduceAdd]
 repeat' (first|(with_reducible first|apply qA|apply qB|apply qC|apply qD|apply qE|apply qF)|(refine qL rfl (WF.of ?_) ?_; first|rfl|skip)|(simp (disch:=omega) only [go_sem,simprocAttr,Blk.men,Blk.keysIn,hf,hfe,rF,rG])|exact qM rfl rfl rfl|(refine qG rfl ?_)|(refine qK (h1) (by decide) ?_)|(refine qH rfl ?_)|(refine qI rfl ?_ ?_<;>intro hc<;>(try simp only [go_sem] at hc))|(refine qJ ?_ ?_<;>intro hc<;>(try simp only [hc])<;>(try simp only [go_sem] at hc)))
 refine DW.loop (ι := { i : Nat // i ≤ l.length ∧ ∀ j,j < i → stepOk l j }) (fun i => ⟨76,[(23,dI i.1),(22,dI l.length),(21,.c (.sl b 2 (rows eK l))),(4,.box 4 0),(0,.c (.sl b 2 (rows eK l))),(1,dI days)],[(4,.box [.c (.v (.slice none 0 0)),dI 0])]⟩) (fun i => l.length - i.1) ⟨0,Nat.zero_le _,fun j h => by omega⟩ ?_ ?_
 ·refine Ent.to ?_ ?_ <;> simp (disch:=omega) only [qR,qS,qT,qU,get,Nat.reduceEqDiff,↓reduceIte,qV,qW,qX,qY,qZ,and_self,dI,i64_in,and_true,true_and,rA,rB,rC,rD]
 rintro ⟨i,hi,hij⟩
 rcases at_or l i hi with ⟨v,hv,hlt,hd⟩ | ⟨he,hd⟩
 ·have h3 := crWithin true 0 10000 [v.1] (by simp)
  have h4 := crWithin true 0 1000 [v.2] (by simp)
  have hnx : (wthn 0 10000 [v.1] = true ∧ wthn 0 1000 [v.2] = true ∧ ∀ k u,i = k + 1 → l[k]? = some u → u.1 < v.1 ∧ v.2 ≤ u.2) → ∀ j,j < i + 1 → stepOk l j := fun hs j hj => by
   rcases Nat.lt_or_ge j i with h | h
   ·exact hij j h
   ·obtain rfl : j = i := by omega
    intro w hw
    rw [hv] at hw; cases hw
    exact ⟨⟨wthn_one hs.1,wthn_one hs.2.1⟩,hs.2.2⟩
  have hd' : i = 0 → decide ((0 : Int) < (l.length : Int)) = true := fun h => by subst h; exact hd
  cases e3 : wthn 0 10000 [v.1] <;> rw [e3] at h3
  ·rcases i with _ | i
   ·repeat' (first|(with_reducible first|apply qA|apply qB|apply qC|apply qD|apply qE|apply qF)|(refine qL rfl (WF.of ?_) ?_; first|rfl|skip)|(simp (disch:=omega) only [go_sem,simprocAttr,Blk.men,Blk.keysIn,hd' rfl,hv,rF,rG])|exact qM rfl rfl rfl|(refine qG rfl ?_)|(refine qK (h3) (by decide) ?_)|(refine qH rfl ?_)|(refine qI rfl ?_ ?_<;>intro hc<;>(try simp only [go_sem] at hc))|(refine qJ ?_ ?_<;>intro hc<;>(try simp only [hc])<;>(try simp only [go_sem] at hc)))
   ·repeat' (first|(with_reducible first|apply qA|apply qB|apply qC|apply qD|apply qE|apply qF)|(refine qL rfl (WF.of ?_) ?_; first|rfl|skip)|(simp (disch:=omega) only [go_sem,simprocAttr,Blk.men,Blk.keysIn,hd,hv,rF,rG])|exact qM rfl rfl rfl|(refine qG rfl ?_)|(refine qK (h3) (by decide) ?_)|(refine qH rfl ?_)|(refine qI rfl ?_ ?_<;>intro hc<;>(try simp only [go_sem] at hc))|(refine qJ ?_ ?_<;>intro hc<;>(try simp only [hc])<;>(try simp only [go_sem] at hc)))
  cases e4 : wthn 0 1000 [v.2] <;> rw [e4] at h4
  ·rcases i with _ | i
   ·repeat' (first|(with_reducible first|apply qA|apply qB|apply qC|apply qD|apply qE|apply qF)|(refine qL rfl (WF.of ?_) ?_; first|rfl|skip)|(simp (disch:=omega) only [go_sem,simprocAttr,Blk.men,Blk.keysIn,hd' rfl,hv,rF,rG])|exact qM rfl rfl rfl|(refine qG rfl ?_)|(refine qK (h3) (by decide) ?_)|(refine qK (h4) (by decide) ?_)|(refine qH rfl ?_)|(refine qI rfl ?_ ?_<;>intro hc<;>(try simp only [go_sem] at hc))|(refine qJ ?_ ?_<;>intro hc<;>(try simp only [hc])<;>(try simp only [go_sem] at hc)))
   ·repeat' (first|(with_reducible first|apply qA|apply qB|apply qC|apply qD|apply qE|apply qF)|(refine qL rfl (WF.of ?_) ?_; first|rfl|skip)|(simp (disch:=omega) only [go_sem,simprocAttr,Blk.men,Blk.keysIn,hd,hv,rF,rG])|exact qM rfl rfl rfl|(refine qG rfl ?_)|(refine qK (h3) (by decide) ?_)|(refine qK (h4) (by decide) ?_)|(refine qH rfl ?_)|(refine qI rfl ?_ ?_<;>intro hc<;>(try simp only [go_sem] at hc))|(refine qJ ?_ ?_<;>intro hc<;>(try simp only [hc])<;>(try simp only [go_sem] at hc)))
  rcases i with _ | i
  ·have hd0 : decide ((0 : Int) < ((0 : Nat) : Int)) = false := by decide
   repeat' (first|(with_reducible first|apply qA|apply qB|apply qC|apply qD|apply qE|apply qF)|(refine qL rfl (WF.of ?_) ?_; first|rfl|skip)|(simp (disch:=omega) only [go_sem,simprocAttr,Blk.men,Blk.keysIn,hd' rfl,hv,hd0,rF,rG])|exact qM rfl rfl rfl|(refine qG rfl ?_)|(refine qK (h3) (by decide) ?_)|(refine qK (h4) (by decide) ?_)|(refine qH rfl ?_)|(refine qI rfl ?_ ?_<;>intro hc<;>(try simp only [go_sem] at hc))|(refine qJ ?_ ?_<;>intro hc<;>(try simp only [hc])<;>(try simp only [go_sem] at hc)))
   refine ⟨⟨1,hlt,hnx ⟨e3,e4,fun k u h => by omega⟩⟩,?_,Ent.to ?_ ?_⟩ <;> first | (show _ < _; (try simp only); omega) | (simp (disch:=omega) only [qR,qS,qT,qU,get,Nat.reduceEqDiff,↓reduceIte,qV,qW,qX,qY,qZ,and_self,dI,i64_in,and_true,true_and,rA,rB,rC,rD])
  ·have hd0 : decide ((0 : Int) < ((i + 1 : Nat) : Int)) = true := by rw [decide_eq_true_eq]; omega
   obtain ⟨u,hu⟩ := getE (l := l) (i := i) (by omega)
   have e1 : ((i + 1 : Nat) : Int) - 1 = (i : Int) := by omega
   by_cases hs1 : v.1 ≤ u.1
   ·have d1 : decide (v.1 ≤ u.1) = true := decide_eq_true hs1
    repeat' (first|(with_reducible first|apply qA|apply qB|apply qC|apply qD|apply qE|apply qF)|(refine qL rfl (WF.of ?_) ?_; first|rfl|skip)|(simp (disch:=omega) only [go_sem,simprocAttr,Blk.men,Blk.keysIn,hd,hv,hd0,hu,e1,d1,rF,rG])|exact qM rfl rfl rfl|(refine qG rfl ?_)|(refine qK (h3) (by decide) ?_)|(refine qK (h4) (by decide) ?_)|(refine qH rfl ?_)|(refine qI rfl ?_ ?_<;>intro hc<;>(try simp only [go_sem] at hc))|(refine qJ ?_ ?_<;>intro hc<;>(try simp only [hc])<;>(try simp only [go_sem] at hc)))
   by_cases hs2 : u.2 < v.2
   ·have d1 : decide (v.1 ≤ u.1) = false := decide_eq_false hs1
    have d2 : decide (u.2 < v.2) = true := decide_eq_true hs2
    repeat' (first|(with_reducible first|apply qA|apply qB|apply qC|apply qD|apply qE|apply qF)|(refine qL rfl (WF.of ?_) ?_; first|rfl|skip)|(simp (disch:=omega) only [go_sem,simprocAttr,Blk.men,Blk.keysIn,hd,hv,hd0,hu,e1,d1,d2,rF,rG])|exact qM rfl rfl rfl|(refine qG rfl ?_)|(refine qK (h3) (by decide) ?_)|(refine qK (h4) (by decide) ?_)|(refine qH rfl ?_)|(refine qI rfl ?_ ?_<;>intro hc<;>(try simp only [go_sem] at hc))|(refine qJ ?_ ?_<;>intro hc<;>(try simp only [hc])<;>(try simp only [go_sem] at hc)))
   have d1 : decide (v.1 ≤ u.1) = false := decide_eq_false hs1
   have d2 : decide (u.2 < v.2) = false := decide_eq_false hs2
   repeat' (first|(with_reducible first|apply qA|apply qB|apply qC|apply qD|apply qE|apply qF)|(refine qL rfl (WF.of ?_) ?_; first|rfl|skip)|(simp (disch:=omega) only [go_sem,simprocAttr,Blk.men,Blk.keysIn,hd,hv,hd0,hu,e1,d1,d2,rF,rG])|exact qM rfl rfl rfl|(refine qG rfl ?_)|(refine qK (h3) (by decide) ?_)|(refine qK (h4) (by decide) ?_)|(refine qH rfl ?_)|(refine qI rfl ?_ ?_<;>intro hc<;>(try simp only [go_sem] at hc))|(refine qJ ?_ ?_<;>intro hc<;>(try simp only [hc])<;>(try simp only [go_sem] at hc)))
   refine ⟨⟨i + 1 + 1,hlt,hnx ⟨e3,e4,fun k u' h hk => by
    obtain rfl : k = i := by omega
    rw [hu] at hk; cases hk; omega⟩⟩,?_,Ent.to ?_ ?_⟩ <;> first | (show _ < _; (try simp only); omega) | (simp (disch:=omega) only [qR,qS,qT,qU,get,Nat.reduceEqDiff,↓reduceIte,qV,qW,qX,qY,qZ,and_self,dI,i64_in,and_true,true_and,rA,rB,rC,rD])
 ·exact absurd (tabF_of hlen hfirst (he ▸ hij)) h
set_option maxHeartbeats 1000000 in
theorem crTableDays (b : Bool) (l : List (Int × Int)) (days : Int) (h : TabF l) (hds : wthn 0 10000 [days] = false) : DCall Tryz.prog 69 [.c (.sl b 2 (rows eK l)),dI days] [] (.tup [.agg [.c (.v (.slice none 0 0)),dI 0],dI 3]) [] := by
 have hlen := h.len
 have h1 := crIn true 1 10 [(l.length : Int)] (by simp) (by simp; omega)
 have h2 := crWithin true 0 10000 [days] (by simp)
 rw [hds] at h2
 obtain ⟨f,hf⟩ := getE (l := l) (i := 0) (by omega)
 have hf0 := h.first f hf
 have hfe : (f.1 != 0) = false := by rw [hf0]; rfl
 refine DCall.of Tryz.func69 sf69 hb69 (Nat.le_of_ble_eq_true rfl) (okRes_nil fun _ => rfl) ?_; simp only [s69,idxs,Nat.reduceAdd]
 repeat' (first|(with_reducible first|apply qA|apply qB|apply qC|apply qD|apply qE|apply qF)|(refine qL rfl (WF.of ?_) ?_; first|rfl|skip)|(simp (disch:=omega) only [go_sem,simprocAttr,Blk.men,Blk.keysIn,hf,hfe,rF,rG])|exact qM rfl rfl rfl|(refine qG rfl ?_)|(refine qK (h1) (by decide) ?_)|(refine qH rfl ?_)|(refine qI rfl ?_ ?_<;>intro hc<;>(try simp only [go_sem] at hc))|(refine qJ ?_ ?_<;>intro hc<;>(try simp only [hc])<;>(try simp only [go_sem] at hc)))
 refine DW.loop (ι := { i : Nat // i ≤ l.length }) (fun i => ⟨76,[(23,dI i.1),(22,dI l.length),(21,.c (.sl b 2 (rows eK l))),(4,.box 4 0),(0,.c (.sl b 2 (rows eK l))),(1,dI days)],[(4,.box [.c (.v (.slice none 0 0)),dI 0])]⟩) (fun i => l.length - i.1) ⟨0,Nat.zero_le _⟩ ?_ ?_
 ·refine Ent.to ?_ ?_ <;> simp (disch:=omega) only [qR,qS,qT,qU,get,Nat.reduceEqDiff,↓reduceIte,qV,qW,qX,qY,qZ,and_self,dI,i64_in,and_true,true_and,rA,rB,rC,rD]
 rintro ⟨i,hi⟩
 rcases at_or l i hi with ⟨v,hv,hlt,hd⟩ | ⟨he,hd⟩
 ·have hm := h.mem v (List.mem_of_getElem? hv)
  have h3 := crIn true 0 10000 [v.1] (by simp) (by simpa using hm.1)
  have h4 := crIn true 0 1000 [v.2] (by simp) (by simpa using hm.2)
  rcases i with _ | i
  ·have hd0 : decide ((0 : Int) < ((0 : Nat) : Int)) = false := by decide
   have hd' : decide ((0 : Int) < (l.length : Int)) = true := hd
   repeat' (first|(with_reducible first|apply qA|apply qB|apply qC|apply qD|apply qE|apply qF)|(refine qL rfl (WF.of ?_) ?_; first|rfl|skip)|(simp (disch:=omega) only [go_sem,simprocAttr,Blk.men,Blk.keysIn,hd',hv,hd0,rF,rG])|exact qM rfl rfl rfl|(refine qG rfl ?_)|(refine qK (h3) (by decide) ?_)|(refine qK (h4) (by decide) ?_)|(refine qH rfl ?_)|(refine qI rfl ?_ ?_<;>intro hc<;>(try simp only [go_sem] at hc))|(refine qJ ?_ ?_<;>intro hc<;>(try simp only [hc])<;>(try simp only [go_sem] at hc)))
   refine ⟨⟨1,hlt⟩,?_,Ent.to ?_ ?_⟩ <;> first | (show _ < _; (try simp only); omega) | (simp (disch:=omega) only [qR,qS,qT,qU,get,Nat.reduceEqDiff,↓reduceIte,qV,qW,qX,qY,qZ,and_self,dI,i64_in,and_true,true_and,rA,rB,rC,rD])
  ·have hd0 : decide ((0 : Int) < ((i + 1 : Nat) : Int)) = true := by rw [decide_eq_true_eq]; omega
   obtain ⟨u,hu⟩ := getE (l := l) (i := i) (by omega)
   have hs := h.step i u v hu hv
   have e1 : ((i + 1 : Nat) : Int) - 1 = (i : Int) := by omega
   have d1 : decide (v.1 ≤ u.1) = false := by rw [decide_eq_false_iff_not]; omega
   have d2 : decide (u.2 < v.2) = false := by rw [decide_eq_false_iff_not]; omega
   repeat' (first|(with_reducible first|apply qA|apply qB|apply qC|apply qD|apply qE|apply qF)|(refine qL rfl (WF.of ?_) ?_; first|rfl|skip)|(simp (disch:=omega) only [go_sem,simprocAttr,Blk.men,Blk.keysIn,hd,hv,hd0,hu,e1,d1,d2,rF,rG])|exact qM rfl rfl rfl|(refine qG rfl ?_)|(refine qK (h3) (by decide) ?_)|(refine qK (h4) (by decide) ?_)|(refine qH rfl ?_)|(refine qI rfl ?_ ?_<;>intro hc<;>(try simp only [go_sem] at hc))|(refine qJ ?_ ?_<;>intro hc<;>(try simp only [hc])<;>(try simp only [go_sem] at hc)))
   refine ⟨⟨i + 1 + 1,hlt⟩,?_,Ent.to ?_ ?_⟩ <;> first | (show _ < _; (try simp only); omega) | (simp (disch:=omega) only [qR,qS,qT,qU,get,Nat.reduceEqDiff,↓reduceIte,qV,qW,qX,qY,qZ,and_self,dI,i64_in,and_true,true_and,rA,rB,rC,rD])
 ·repeat' (first|(with_reducible first|apply qA|apply qB|apply qC|apply qD|apply qE|apply qF)|(refine qL rfl (WF.of ?_) ?_; first|rfl|skip)|(simp (disch:=omega) only [go_sem,simprocAttr,Blk.men,Blk.keysIn,hd])|exact qM rfl rfl rfl|(refine qG rfl ?_)|(refine qK (h2) (by decide) ?_)|(refine qH rfl ?_)|(refine qI rfl ?_ ?_<;>intro hc<;>(try simp only [go_sem] at hc))|(refine qJ ?_ ?_<;>intro hc<;>(try simp only [hc])<;>(try simp only [go_sem] at hc)))
def lastI (days : Int) (l : List (Int × Int)) (k : Int) : Int := l.foldl (fun k s => if s.1 ≤ days then s.2 else k) k
theorem lastI_b (days : Int) : ∀ (l : List (Int × Int)) (k : Int),(∀ s ∈ l,0 ≤ s.2 ∧ s.2 ≤ 1000) → (0 ≤ k ∧ k ≤ 1000) → 0 ≤ lastI days l k ∧ lastI days l k ≤ 1000
 | [],_,_,hk => hk
 | s :: t,k,h,hk => by
  refine lastI_b days t _ (fun x hx => h x (by simp [hx])) ?_
  have := h s (by simp)
  show 0 ≤ (if s.1 ≤ days then s.2 else k) ∧ (if s.1 ≤ days then s.2 else k) ≤ 1000
  split <;> omega
theorem lastI_take (days : Int) {l : List (Int × Int)} {i : Nat} {v : Int × Int} (hv : l[i]? = some v) : lastI days (l.take (i + 1)) 0 = if v.1 ≤ days then v.2 else lastI days (l.take i) 0 := by
 rw [List.take_add_one,hv]
 simp only [lastI,Option.toList_some,List.foldl_append,List.foldl_cons,List.foldl_nil]
theorem tdiv_b {a b : Int} {A : Int} (ha : 0 ≤ a ∧ a ≤ A) (hb : 0 ≤ b) : 0 ≤ a.tdiv b ∧ a.tdiv b ≤ A := by
 rw [Int.tdiv_eq_ediv_of_nonneg ha.1]
 exact ⟨Int.ediv_nonneg ha.1 hb,Int.le_trans (Int.ediv_le_self b ha.1) ha.2⟩
theorem crLast (b : Bool) (l : List (Int × Int)) (days : Int) (hl : l.length ≤ 1000) : DCall Tryz.prog 71 [.agg [.c (.sl b 2 (rows eK l)),dI days]] [] (dI (lastI days l 0)) [] := by
 refine DCall.of Tryz.func71 sf71 hb71 (Nat.le_of_ble_eq_true rfl) (okRes_nil fun _ => rfl) ?_; simp only [s71,idxs,Nat.reduceAdd]
 repeat' (first|(with_reducible first|apply qA|apply qB|apply qC|apply qD|apply qE|apply qF)|(simp (disch:=omega) only [go_sem,simprocAttr,Blk.men,Blk.keysIn])|exact qM rfl rfl rfl|(refine qG rfl ?_)|(refine qH rfl ?_)|(refine qI rfl ?_ ?_<;>intro hc<;>(try simp only [go_sem] at hc))|(refine qJ ?_ ?_<;>intro hc<;>(try simp only [hc])<;>(try simp only [go_sem] at hc)))
 refine DW.loop (ι := { i : Nat // i ≤ l.length }) (fun i => ⟨21,[(8,dI i.1),(7,dI l.length),(6,.c (.sl b 2 (rows eK l))),(2,dI (lastI days (l.take i.1) 0)),(1,.box 1 0)],[(1,.box [.c (.sl b 2 (rows eK l)),dI days])]⟩) (fun i => l.length - i.1) ⟨0,Nat.zero_le _⟩ ?_ ?_
 ·refine Ent.to ?_ ?_ <;> simp (disch:=omega) only [qR,qS,qT,qU,get,Nat.reduceEqDiff,↓reduceIte,qV,qW,qX,qY,qZ,and_self,dI,i64_in,and_true,true_and,rA,rB,rC,rD,lastI,List.take_zero,List.foldl_nil]
 rintro ⟨i,hi⟩
 rcases at_or l i hi with ⟨v,hv,hlt,hd⟩ | ⟨he,hd⟩
 ·have hnx := lastI_take days hv
  cases hc : decide (v.1 ≤ days) with
  | true =>
   rw [if_pos (of_decide_eq_true hc)] at hnx
   repeat' (first|(with_reducible first|apply qA|apply qB|apply qC|apply qD|apply qE|apply qF)|(simp (disch:=omega) only [go_sem,simprocAttr,Blk.men,Blk.keysIn,hd,hv,hc,rF,rG])|exact qM rfl rfl rfl|(refine qG rfl ?_)|(refine qH rfl ?_)|(refine qI rfl ?_ ?_<;>intro hc<;>(try simp only [go_sem] at hc))|(refine qJ ?_ ?_<;>intro hc<;>(try simp only [hc])<;>(try simp only [go_sem] at hc)))
   refine ⟨⟨i + 1,hlt⟩,?_,Ent.to ?_ ?_⟩ <;> first | (show _ < _; (try simp only); omega) | (simp (disch:=omega) only [qR,qS,qT,qU,get,Nat.reduceEqDiff,↓reduceIte,qV,qW,qX,qY,qZ,and_self,dI,i64_in,and_true,true_and,rA,rB,rC,rD,hnx])
  | false =>
   rw [if_neg (of_decide_eq_false hc)] at hnx
   repeat' (first|(with_reducible first|apply qA|apply qB|apply qC|apply qD|apply qE|apply qF)|(simp (disch:=omega) only [go_sem,simprocAttr,Blk.men,Blk.keysIn,hd,hv,hc,rF,rG])|exact qM rfl rfl rfl|(refine qG rfl ?_)|(refine qH rfl ?_)|(refine qI rfl ?_ ?_<;>intro hc<;>(try simp only [go_sem] at hc))|(refine qJ ?_ ?_<;>intro hc<;>(try simp only [hc])<;>(try simp only [go_sem] at hc)))
   refine ⟨⟨i + 1,hlt⟩,?_,Ent.to ?_ ?_⟩ <;> first | (show _ < _; (try simp only); omega) | (simp (disch:=omega) only [qR,qS,qT,qU,get,Nat.reduceEqDiff,↓reduceIte,qV,qW,qX,qY,qZ,and_self,dI,i64_in,and_true,true_and,rA,rB,rC,rD,hnx])
 ·repeat' (first|(with_reducible first|apply qA|apply qB|apply qC|apply qD|apply qE|apply qF)|(simp (disch:=omega) only [go_sem,simprocAttr,Blk.men,Blk.keysIn,hd])|exact qM rfl rfl rfl|(refine qG rfl ?_)|(refine qH rfl ?_)|(refine qI rfl ?_ ?_<;>intro hc<;>(try simp only [go_sem] at hc))|(refine qJ ?_ ?_<;>intro hc<;>(try simp only [hc])<;>(try simp only [go_sem] at hc)))
  refine retS_of rfl ?_ rfl; simp only [oneD,St.op,get,Nat.reduceEqDiff,↓reduceIte,Option.getD_some,bD,dI]
  rw [he,List.take_length]
def bearsI (b : Lod) (k : Int) : Int := (b.sl * k).tdiv 1000
theorem crBears (b : Lod) (h : b.ok) (k : Int) (hk : 0 ≤ k ∧ k ≤ 1000) : DCall Tryz.prog 70 [.agg ((eLd b).map D.c),dI k] [] (dI (bearsI b k)) [] := by
 have hs := h.strong
 have hm := mulB0 (a := b.sl) (b := k) (A := 20000000) (B := 1000) (by omega) hk
 have hq := tdiv_b (b := 1000) (A := 20000000000) (a := b.sl * k) (by omega) (by decide)
 unfold bearsI
 refine DCall.of Tryz.func70 sf70 hb70 (Nat.le_of_ble_eq_true rfl) (okRes_nil fun _ => rfl) ?_; simp only [s70,idxs,Nat.reduceAdd]
 repeat' (first|(with_reducible first|apply qA|apply qB|apply qC|apply qD|apply qE|apply qF)|(simp (disch:=omega) only [go_sem,simprocAttr,Blk.men,Blk.keysIn,rF,rG])|exact qM rfl rfl rfl|(refine qG rfl ?_)|(refine qH rfl ?_)|(refine qI rfl ?_ ?_<;>intro hc<;>(try simp only [go_sem] at hc))|(refine qJ ?_ ?_<;>intro hc<;>(try simp only [hc])<;>(try simp only [go_sem] at hc)))
def highI (b : Lod) (l : List (Int × Int)) (days : Int) : Int := if b.wh = 0 then 50 else if 1 + (bearsI b (lastI days l 0)).tdiv b.wh < 50 then 1 + (bearsI b (lastI days l 0)).tdiv b.wh else 50
theorem crHigh (b : Lod) (h : b.ok) (l : List (Int × Int)) (days : Int) (ht : TabOk l days) : DCall Tryz.prog 36 [.agg ((eLd b).map D.c),.c (.sl false 2 (rows eK l)),dI days] [] (.tup [dI (highI b l days),dI 0]) [] := by
 have h1 := crBoxes true [b] 1 (by simp) (by simp) (by simpa using h)
 have h2 := crTable l days ht
 have h3 := crLast false l days (by have := ht.len; omega)
 have hk := lastI_b days l 0 (fun s hs => (ht.mem s hs).2) (by decide)
 have h4 := crBears b h (lastI days l 0) hk
 have hs := h.strong
 have hw := h.weight
 unfold highI
 have hbb : 0 ≤ bearsI b (lastI days l 0) ∧ bearsI b (lastI days l 0) ≤ 20000000000 := by
  have hm := mulB0 (a := b.sl) (b := lastI days l 0) (A := 20000000) (B := 1000) (by omega) hk
  exact tdiv_b (by omega) (by decide)
 generalize lastI days l 0 = k at *
 generalize bearsI b k = be at *
 by_cases h0 : b.wh = 0
 ·have he : (b.wh == 0) = true := by rw [h0]; rfl
  rw [if_pos h0]
  refine DCall.of Tryz.func36 sf36 hb36 (Nat.le_of_ble_eq_true rfl) (okRes_nil fun _ => rfl) ?_; simp only [s36,idxs,Nat.reduceAdd]
  repeat' (first|(with_reducible first|apply qA|apply qB|apply qC|apply qD|apply qE|apply qF)|(refine qL rfl (WF.of ?_) ?_; first|rfl|skip)|(simp (disch:=omega) only [go_sem,simprocAttr,Blk.men,Blk.keysIn,rF,rG,he])|exact qM rfl rfl rfl|(refine qG rfl ?_)|(refine qK (h1) (by decide) ?_)|(refine qK (h2) (by decide) ?_)|(refine qH rfl ?_)|(refine qI rfl ?_ ?_<;>intro hc<;>(try simp only [go_sem] at hc))|(refine qJ ?_ ?_<;>intro hc<;>(try simp only [hc])<;>(try simp only [go_sem] at hc)))
 ·have he : (b.wh == 0) = false := by rw [beq_eq_false_iff_ne]; exact h0
  have hz : (b.wh = 0) = False := eq_false h0
  have hq := tdiv_b (b := b.wh) hbb (by omega)
  rw [if_neg h0]
  refine DCall.of Tryz.func36 sf36 hb36 (Nat.le_of_ble_eq_true rfl) (okRes_nil fun _ => rfl) ?_; simp only [s36,idxs,Nat.reduceAdd]
  repeat' (first|(with_reducible first|apply qA|apply qB|apply qC|apply qD|apply qE|apply qF)|(refine qL rfl (WF.of ?_) ?_; first|rfl|skip)|(simp (disch:=omega) only [go_sem,simprocAttr,Blk.men,Blk.keysIn,rF,rG,he,hz])|exact qM rfl rfl rfl|(refine qG rfl ?_)|(refine qK (h1) (by decide) ?_)|(refine qK (h2) (by decide) ?_)|(refine qK (h3) (by decide) ?_)|(refine qK (h4) (by decide) ?_)|(refine qH rfl ?_)|(refine qI rfl ?_ ?_<;>intro hc<;>(try simp only [go_sem] at hc))|(refine qJ ?_ ?_<;>intro hc<;>(try simp only [hc])<;>(try simp only [go_sem] at hc)))
theorem crHighE2 (b0 : Bool) (b : Lod) (l : List (Int × Int)) (days : Int) (h : b.ok) (e : Int) (he : e ≠ 0) (ht : DCall Tryz.prog 69 [.c (.sl b0 2 (rows eK l)),dI days] [] (.tup [.agg [.c (.v (.slice none 0 0)),dI 0],dI e]) []) : DCall Tryz.prog 36 [.agg ((eLd b).map D.c),.c (.sl b0 2 (rows eK l)),dI days] [] (.tup [dI 0,dI e]) [] := by
 have h1 := crBoxes true [b] 1 (by simp) (by simp) (by simpa using h)
 have hee : (e != 0) = true := by simpa using he
 refine DCall.of Tryz.func36 sf36 hb36 (Nat.le_of_ble_eq_true rfl) (okRes_nil fun _ => rfl) ?_; simp only [s36,idxs,Nat.reduceAdd]
 repeat' (first|(with_reducible first|apply qA|apply qB|apply qC|apply qD|apply qE|apply qF)|(refine qL rfl (WF.of ?_) ?_; first|rfl|skip)|(simp (disch:=omega) only [go_sem,simprocAttr,Blk.men,Blk.keysIn,rF,rG,hee])|exact qM rfl rfl rfl|(refine qG rfl ?_)|(refine qK (h1) (by decide) ?_)|(refine qK (ht) (by decide) ?_)|(refine qH rfl ?_)|(refine qI rfl ?_ ?_<;>intro hc<;>(try simp only [go_sem] at hc))|(refine qJ ?_ ?_<;>intro hc<;>(try simp only [hc])<;>(try simp only [go_sem] at hc)))
end Go.Dw.Seat
end
section
set_option linter.unusedSimpArgs false
set_option maxRecDepth 100000
namespace Go.Dw.Seat
open Go Go.Dw Go.Proofs Go.IntWalk
def sumL : List Lod → Int
 | [] => 0
 | b :: t => sumL t + b.wl
def sumH : List Lod → Int
 | [] => 0
 | b :: t => sumH t + b.wh
theorem sum_b : ∀ {l : List Lod},(∀ b ∈ l,b.ok) → (0 ≤ sumL l ∧ sumL l ≤ 100000 * (l.length : Int)) ∧ 0 ≤ sumH l ∧ sumH l ≤ 100000 * (l.length : Int)
 | [],_ => by simp [sumL,sumH]
 | b :: t,h => by
  have ih := sum_b (l := t) (fun x hx => h x (by simp [hx]))
  have hb := (h b (by simp)).weight
  simp only [sumL,sumH,List.length_cons,Int.natCast_add,Int.natCast_one]
  omega
def failN (k : Int) : List Lod → Option Nat
 | [] => none
 | b :: t => if bearsI b k < sumH t then some 0 else (failN k t).map (· + 1)
theorem failN_get {k : Int} : ∀ {l : List Lod} {i : Nat} {b : Lod},l[i]? = some b → (∀ j,j < i → ∀ c,l[j]? = some c → ¬ bearsI c k < sumH (l.drop (j + 1))) → bearsI b k < sumH (l.drop (i + 1)) → failN k l = some i
 | c :: t,0,b,hb,_,h => by
  cases hb
  simp only [failN]
  rw [if_pos (show bearsI c k < sumH t from h)]
 | c :: t,i + 1,b,hb,hj,h => by
  have h0 := hj 0 (by omega) c rfl
  have ih := failN_get (k := k) (l := t) (i := i) (b := b) hb (fun j hji d hd => hj (j + 1) (by omega) d hd) h
  simp only [failN]
  rw [if_neg (show ¬ bearsI c k < sumH t from h0),ih]
  rfl
theorem failN_none {k : Int} : ∀ {l : List Lod},(∀ j c,l[j]? = some c → ¬ bearsI c k < sumH (l.drop (j + 1))) → failN k l = none
 | [],_ => rfl
 | c :: t,h => by
  have h0 := h 0 c rfl
  have ih := failN_none (k := k) (l := t) (fun j d hd => h (j + 1) d hd)
  simp only [failN]
  rw [if_neg (show ¬ bearsI c k < sumH t from h0),ih]
  rfl
theorem bears_mono {b : Lod} (h : b.ok) {k k' : Int} (hk : 0 ≤ k) (hkk : k ≤ k') : bearsI b k ≤ bearsI b k' := by
 have hs := h.strong
 have m1 : 0 ≤ b.sl * k := Int.mul_nonneg hs.1 hk
 have m2 : b.sl * k ≤ b.sl * k' := Int.mul_le_mul_of_nonneg_left hkk hs.1
 unfold bearsI
 rw [Int.tdiv_eq_ediv_of_nonneg m1,Int.tdiv_eq_ediv_of_nonneg (by omega)]
 exact Int.ediv_le_ediv (by decide) m2
theorem bears_b {b : Lod} (h : b.ok) {k : Int} (hk : 0 ≤ k ∧ k ≤ 1000) : 0 ≤ bearsI b k ∧ bearsI b k ≤ 20000000 := by
 have hs := h.strong
 have m1 := mulB0 (a := b.sl) (b := k) (A := 20000000) (B := 1000) (by omega) hk
 unfold bearsI
 rw [Int.tdiv_eq_ediv_of_nonneg (by omega)]
 omega
theorem failN_mono {k k' : Int} (hk : 0 ≤ k) (hkk : k ≤ k') : ∀ {l : List Lod},(∀ b ∈ l,b.ok) → failN k l = none → failN k' l = none
 | [],_,_ => rfl
 | b :: t,h,hf => by
  simp only [failN] at hf ⊢
  split at hf
  ·cases hf
  ·rename_i h1
   have := bears_mono (h b (by simp)) hk hkk
   rw [if_neg (by omega),failN_mono hk hkk (fun x hx => h x (by simp [hx])) (by simpa using hf)]
   rfl
def AscT : List (Int × Int) → Prop
 | [] => True
 | u :: t => (∀ v ∈ t,u.1 < v.1 ∧ v.2 ≤ u.2) ∧ AscT t
theorem ascT_of : ∀ {l : List (Int × Int)},(∀ (i : Nat) (u v : Int × Int),l[i]? = some u → l[i + 1]? = some v → u.1 < v.1 ∧ v.2 ≤ u.2) → AscT l
 | [],_ => trivial
 | u :: t,h => by
  have ih := ascT_of (l := t) (fun i a b ha hb => h (i + 1) a b ha hb)
  refine ⟨?_,ih⟩
  rcases t with _ | ⟨w,t⟩
  ·intro v hv; cases hv
  ·have h0 := h 0 u w rfl rfl
   intro v hv
   rcases List.mem_cons.1 hv with rfl | hv
   ·exact h0
   ·have := ih.1 v hv
    omega
theorem TabF.asc {l : List (Int × Int)} (h : TabF l) : AscT l := ascT_of h.step
theorem lastI_cons (day : Int) (s : Int × Int) (t : List (Int × Int)) (k : Int) : lastI day (s :: t) k = lastI day t (if s.1 ≤ day then s.2 else k) := rfl
theorem lastI_past {day : Int} : ∀ {l : List (Int × Int)} {k : Int},(∀ v ∈ l,day < v.1) → lastI day l k = k
 | [],_,_ => rfl
 | s :: t,k,h => by
  have := h s (by simp)
  rw [lastI_cons,if_neg (by omega)]
  exact lastI_past (fun v hv => h v (by simp [hv]))
theorem lastI_le {day : Int} : ∀ {l : List (Int × Int)} {k : Int},AscT l → (∀ v ∈ l,v.2 ≤ k) → lastI day l k ≤ k
 | [],_,_,_ => Int.le_refl _
 | s :: t,k,ha,h => by
  have hs := h s (by simp)
  rw [lastI_cons]
  split
  ·have := lastI_le (day := day) (k := s.2) ha.2 (fun v hv => (ha.1 v hv).2)
   omega
  ·exact lastI_le ha.2 (fun v hv => h v (by simp [hv]))
theorem lastI_anti {day days : Int} (hd : day ≤ days) : ∀ {l : List (Int × Int)} {k : Int},AscT l → (∀ v ∈ l,v.2 ≤ k) → lastI days l k ≤ lastI day l k
 | [],_,_,_ => Int.le_refl _
 | s :: t,k,ha,h => by
  have hs := h s (by simp)
  rw [lastI_cons,lastI_cons]
  by_cases h1 : s.1 ≤ day
  ·rw [if_pos h1,if_pos (by omega)]
   exact lastI_anti hd ha.2 (fun v hv => (ha.1 v hv).2)
  ·rw [if_neg h1]
   have h2 : lastI day t k = k := lastI_past (fun v hv => by have := (ha.1 v hv).1; omega)
   rw [h2]
   split
   ·have := lastI_le (day := days) (k := s.2) ha.2 (fun v hv => (ha.1 v hv).2)
    omega
   ·exact lastI_le ha.2 (fun v hv => h v (by simp [hv]))
def fallT (st : List Lod) (days : Int) : List (Int × Int) → Option (Int × Nat)
 | [] => none
 | s :: t => if days < s.1 then none else match failN s.2 st with
  | some i => some (s.1,i)
  | none => fallT st days t
theorem fall_none {st : List Lod} {days : Int} : ∀ {l : List (Int × Int)},AscT l → fallT st days l = none → ∀ day k,day ≤ days → failN k st = none → failN (lastI day l k) st = none
 | [],_,_,_,_,_,hk => hk
 | s :: t,ha,hf,day,k,hd,hk => by
  simp only [fallT] at hf
  rw [lastI_cons]
  split at hf
  ·rename_i h1
   rw [if_neg (by omega),lastI_past (fun v hv => by have := (ha.1 v hv).1; omega)]
   exact hk
  ·split at hf
   ·cases hf
   ·rename_i h2
    split
    ·exact fall_none ha.2 hf day s.2 hd h2
    ·exact fall_none ha.2 hf day k hd hk
theorem fall_some {st : List Lod} {days d : Int} {i : Nat} : ∀ {l : List (Int × Int)},AscT l → fallT st days l = some (d,i) → (d ≤ days ∧ (∃ v ∈ l,v.1 = d)) ∧ (∀ k,failN (lastI d l k) st = some i) ∧ ∀ day k,day < d → failN k st = none → failN (lastI day l k) st = none
 | s :: t,ha,hf => by
  simp only [fallT] at hf
  split at hf
  ·cases hf
  rename_i h1
  split at hf
  ·rename_i j hj
   cases hf
   refine ⟨⟨by omega,s,by simp,rfl⟩,fun k => ?_,fun day k hd hk => ?_⟩
   ·rw [lastI_cons,if_pos (Int.le_refl _),lastI_past (fun v hv => (ha.1 v hv).1)]
    exact hj
   ·rw [lastI_cons,if_neg (by omega),lastI_past (fun v hv => by have := (ha.1 v hv).1; omega)]
    exact hk
  ·rename_i hj
   obtain ⟨⟨h2,v,hv,rfl⟩,h3,h4⟩ := fall_some ha.2 hf
   have hsv := (ha.1 v hv).1
   refine ⟨⟨h2,v,by simp [hv],rfl⟩,fun k => ?_,fun day k hd hk => ?_⟩
   ·rw [lastI_cons]; exact h3 _
   ·rw [lastI_cons]
    split
    ·exact h4 day s.2 hd hj
    ·exact h4 day k hd hk
theorem TabF.head {l : List (Int × Int)} (h : TabF l) : ∃ k t,l = (0,k) :: t ∧ 0 ≤ k ∧ k ≤ 1000 := by
 rcases l with _ | ⟨⟨d,k⟩,t⟩
 ·have := h.len.1; simp at this
 ·have h0 : d = 0 := h.first (d,k) rfl
  subst h0
  exact ⟨k,t,rfl,(h.mem (0,k) (by simp)).2⟩
theorem kept_b {l : List (Int × Int)} (h : TabF l) (day : Int) : 0 ≤ lastI day l 0 ∧ lastI day l 0 ≤ 1000 := lastI_b day l 0 (fun s hs => (h.mem s hs).2) (by decide)
theorem fall_iff {st : List Lod} (hst : ∀ b ∈ st,b.ok) {l : List (Int × Int)} {days : Int} (h : TabOk l days) : fallT st days l = none ↔ failN (lastI days l 0) st = none := by
 obtain ⟨k,t,rfl,hk⟩ := h.head
 have ha := h.asc
 have hd := h.days
 constructor
 ·intro hf
  have h1 := hf
  simp only [fallT] at h1
  rw [if_neg (by omega)] at h1
  split at h1
  ·cases h1
  ·rename_i h2
   rw [lastI_cons,if_pos (by omega)]
   exact fall_none ha.2 h1 days k (Int.le_refl _) h2
 ·intro hl
  cases hf : fallT st days ((0,k) :: t) with
  | none => rfl
  | some p =>
   obtain ⟨d,i⟩ := p
   obtain ⟨⟨h1,v,hv,hvd⟩,h2,_⟩ := fall_some ha hf
   have h3 := h2 0
   have hd0 : 0 ≤ d := by have := (h.mem v hv).1; omega
   have e1 : ∀ day,0 ≤ day → lastI day ((0,k) :: t) 0 = lastI day t k := fun day h => by rw [lastI_cons,if_pos h]
   rw [e1 d hd0] at h3
   have h5 := (kept_b h.toTabF days).1
   rw [e1 days hd.1] at hl h5
   have h4 := lastI_anti h1 (k := k) ha.2 (fun v hv => (ha.1 v hv).2)
   have := failN_mono h5 h4 hst hl
   rw [h3] at this; cases this
theorem sumH_rep (b : Lod) : ∀ n : Nat,sumH (List.replicate n b) = (n : Int) * b.wh
 | 0 => by simp [sumH]
 | n + 1 => by
  rw [List.replicate_succ,sumH,sumH_rep b n,Int.natCast_add,Int.natCast_one,Int.add_mul,Int.one_mul]
theorem failN_rep {b : Lod} (h : b.ok) {k : Int} (hk : 0 ≤ k ∧ k ≤ 1000) : ∀ n : Nat,failN k (List.replicate (n + 1) b) = none ↔ (n : Int) * b.wh ≤ bearsI b k
 | 0 => by
  have := bears_b h hk
  have e : failN k (List.replicate (0 + 1) b) = none := by
   simp only [List.replicate_succ,List.replicate_zero,failN]
   rw [if_neg (show ¬ bearsI b k < sumH [] by show ¬ _ < (0 : Int); omega)]; rfl
  rw [e]
  simp; omega
 | n + 1 => by
  have ih := failN_rep h hk n
  have hw := h.weight
  rw [List.replicate_succ,failN,sumH_rep]
  have e : ((n + 1 : Nat) : Int) * b.wh = (n : Int) * b.wh + b.wh := by rw [Int.natCast_add,Int.natCast_one,Int.add_mul,Int.one_mul]
  rw [e] at *
  split
  ·rename_i h1
   simp; omega
  ·rename_i h1
   have : failN k (List.replicate (n + 1) b) = none := ih.2 (by omega)
   rw [this]
   simp; omega
theorem high_iff {b : Lod} (h : b.ok) {l : List (Int × Int)} {days : Int} (ht : TabOk l days) (n : Nat) (hn : n < 50) : failN (lastI days l 0) (List.replicate (n + 1) b) = none ↔ ((n : Int) + 1 ≤ highI b l days) := by
 have hk := kept_b ht.toTabF days
 rw [failN_rep h hk]
 have hb := bears_b h hk
 have hw := h.weight
 unfold highI
 generalize bearsI b (lastI days l 0) = B at *
 by_cases h0 : b.wh = 0
 ·rw [if_pos h0,h0,Int.mul_zero]
  constructor <;> intro _ <;> omega
 ·rw [if_neg h0]
  have hp : 0 < b.wh := by omega
  rw [Int.tdiv_eq_ediv_of_nonneg hb.1]
  have key : (n : Int) * b.wh ≤ B ↔ (n : Int) ≤ B / b.wh := (Int.le_ediv_iff_mul_le hp).symm
  rw [key]
  generalize B / b.wh = q
  split <;> constructor <;> intro _ <;> omega
end Go.Dw.Seat
end
section
set_option linter.unusedSimpArgs false
set_option maxRecDepth 100000
namespace Go.Dw.Seat
open Go Go.Dw Go.Proofs Go.IntWalk
def enBack (e : Lod × Nat) : List D := [dI e.2,.agg ((eLd e.1).map D.c)]
def enF (e : Nat × Int × Int) : List D := [dI e.1,.agg [dI e.2.1,dI e.2.2]]
attribute [go_sem] enBack enF
end Go.Dw.Seat
end
section
set_option linter.unusedSimpArgs false
set_option maxRecDepth 100000
namespace Go.Dw.Seat
open Go Go.Dw Go.Proofs Go.IntWalk
theorem drop_cons {α : Type} {l : List α} {i : Nat} {v : α} (h : l[i]? = some v) : l.drop i = v :: l.drop (i + 1) := by
 have hlt := (List.getElem?_eq_some_iff.1 h).1
 have e : l[i] = v := (List.getElem?_eq_some_iff.1 h).2
 rw [← e]; exact List.drop_eq_getElem_cons hlt
theorem wthn_inI (lo hi n : Int) : wthn lo hi [n] = inI n lo hi := by
 rw [Bool.eq_iff_iff]
 simp only [wthn,inI,List.any_cons,List.any_nil,Bool.or_false,Bool.not_eq_true',Bool.or_eq_false_iff,decide_eq_false_iff_not,Bool.and_eq_true,decide_eq_true_eq]
 omega
theorem reIn3 (n lo hi : Int) : DCall Tryz.prog 43 [dI n,dI lo,dI hi] [] (bD (inI n lo hi)) [] := by
 unfold inI
 cases h1 : decide (lo ≤ n) <;> simp only [Bool.true_and,Bool.false_and]
 ·refine DCall.of Tryz.func43 sf43 hb43 (Nat.le_of_ble_eq_true rfl) (okRes_nil fun _ => rfl) ?_; simp only [s43,idxs,Nat.reduceAdd]
  repeat' (first|(with_reducible first|apply qA|apply qB|apply qC|apply qD|apply qE|apply qF)|(simp (disch:=omega) only [go_sem,simprocAttr,qN,qO,qP,qQ,h1])|exact qM rfl rfl rfl|(refine qG rfl ?_)|(refine qH rfl ?_)|(refine qI rfl ?_ ?_<;>intro hc<;>(try simp only [go_sem] at hc))|(refine qJ ?_ ?_<;>intro hc<;>(try simp only [hc])<;>(try simp only [go_sem] at hc)))
 ·refine DCall.of Tryz.func43 sf43 hb43 (Nat.le_of_ble_eq_true rfl) (okRes_nil fun _ => rfl) ?_; simp only [s43,idxs,Nat.reduceAdd]
  repeat' (first|(with_reducible first|apply qA|apply qB|apply qC|apply qD|apply qE|apply qF)|(simp (disch:=omega) only [go_sem,simprocAttr,qN,qO,qP,qQ,h1])|exact qM rfl rfl rfl|(refine qG rfl ?_)|(refine qH rfl ?_)|(refine qI rfl ?_ ?_<;>intro hc<;>(try simp only [go_sem] at hc))|(refine qJ ?_ ?_<;>intro hc<;>(try simp only [hc])<;>(try simp only [go_sem] at hc)))
theorem reTableT (b : Bool) (l : List (Int × Int)) (h : TabF l) : DCall Tryz.prog 42 [.c (.sl b 2 (rows eK l))] [] (bD true) [] := by
 have hlen := h.len
 have i1 := reIn3 (l.length : Int) 1 10
 have e1 : inI (l.length : Int) 1 10 = true := by simp [inI]; omega
 rw [e1] at i1
 obtain ⟨f,hf⟩ := getE (l := l) (i := 0) (by omega)
 have hfe : (f.1 != 0) = false := by rw [h.first f hf]; rfl
 refine DCall.of Tryz.func42 sf42 hb42 (Nat.le_of_ble_eq_true rfl) (okRes_nil fun _ => rfl) ?_; simp only [s42,idxs,Nat.reduceAdd]
 repeat' (first|(with_reducible first|apply qA|apply qB|apply qC|apply qD|apply qE|apply qF)|(refine qL rfl (WF.of ?_) ?_; first|rfl|skip)|(simp (disch:=omega) only [go_sem,simprocAttr,qN,qO,qP,qQ,hf,hfe,rF,rG])|exact qM rfl rfl rfl|(refine qG rfl ?_)|(refine qK (i1) (by decide) ?_)|(refine qH rfl ?_)|(refine qI rfl ?_ ?_<;>intro hc<;>(try simp only [go_sem] at hc))|(refine qJ ?_ ?_<;>intro hc<;>(try simp only [hc])<;>(try simp only [go_sem] at hc)))
 refine DW.loop (ι := { i : Nat // i ≤ l.length }) (fun i => ⟨69,[(3,dI i.1),(0,.c (.sl b 2 (rows eK l)))],[]⟩) (fun i => l.length - i.1) ⟨0,Nat.zero_le _⟩ ?_ ?_
 ·refine Ent.to ?_ ?_ <;> simp (disch:=omega) only [qR,qS,qT,qU,get,Nat.reduceEqDiff,↓reduceIte,qV,qW,qX,qY,qZ,and_self,dI,i64_in,and_true,true_and,rA,rB,rC,rD]
 rintro ⟨i,hi⟩
 rcases at_or l i hi with ⟨v,hv,hlt,hd⟩ | ⟨he,hd⟩
 ·have hm := h.mem v (List.mem_of_getElem? hv)
  have i2 := reIn3 v.1 0 10000
  have i3 := reIn3 v.2 0 1000
  have e2 : inI v.1 0 10000 = true := by simp [inI]; omega
  have e3 : inI v.2 0 1000 = true := by simp [inI]; omega
  rw [e2] at i2
  rw [e3] at i3
  rcases i with _ | i
  ·have hd' : decide ((0 : Int) < (l.length : Int)) = true := hd
   repeat' (first|(with_reducible first|apply qA|apply qB|apply qC|apply qD|apply qE|apply qF)|(refine qL rfl (WF.of ?_) ?_; first|rfl|skip)|(simp (disch:=omega) only [go_sem,simprocAttr,qN,qO,qP,qQ,hd',hv,rF,rG])|exact qM rfl rfl rfl|(refine qG rfl ?_)|(refine qK (i2) (by decide) ?_)|(refine qK (i3) (by decide) ?_)|(refine qH rfl ?_)|(refine qI rfl ?_ ?_<;>intro hc<;>(try simp only [go_sem] at hc))|(refine qJ ?_ ?_<;>intro hc<;>(try simp only [hc])<;>(try simp only [go_sem] at hc)))
   refine ⟨⟨1,hlt⟩,?_,Ent.to ?_ ?_⟩ <;> first | (show _ < _; (try simp only); omega) | (simp (disch:=omega) only [qR,qS,qT,qU,get,Nat.reduceEqDiff,↓reduceIte,qV,qW,qX,qY,qZ,and_self,dI,i64_in,and_true,true_and,rA,rB,rC,rD])
  ·have hd0 : decide ((0 : Int) < ((i + 1 : Nat) : Int)) = true := by rw [decide_eq_true_eq]; omega
   obtain ⟨u,hu⟩ := getE (l := l) (i := i) (by omega)
   have hs := h.step i u v hu hv
   have e1 : ((i + 1 : Nat) : Int) - 1 = (i : Int) := by omega
   have d1 : decide (v.1 ≤ u.1) = false := by rw [decide_eq_false_iff_not]; omega
   have d2 : decide (u.2 < v.2) = false := by rw [decide_eq_false_iff_not]; omega
   repeat' (first|(with_reducible first|apply qA|apply qB|apply qC|apply qD|apply qE|apply qF)|(refine qL rfl (WF.of ?_) ?_; first|rfl|skip)|(simp (disch:=omega) only [go_sem,simprocAttr,qN,qO,qP,qQ,hd,hv,hd0,hu,e1,d1,d2,rF,rG])|exact qM rfl rfl rfl|(refine qG rfl ?_)|(refine qK (i2) (by decide) ?_)|(refine qK (i3) (by decide) ?_)|(refine qH rfl ?_)|(refine qI rfl ?_ ?_<;>intro hc<;>(try simp only [go_sem] at hc))|(refine qJ ?_ ?_<;>intro hc<;>(try simp only [hc])<;>(try simp only [go_sem] at hc)))
   refine ⟨⟨i + 1 + 1,hlt⟩,?_,Ent.to ?_ ?_⟩ <;> first | (show _ < _; (try simp only); omega) | (simp (disch:=omega) only [qR,qS,qT,qU,get,Nat.reduceEqDiff,↓reduceIte,qV,qW,qX,qY,qZ,and_self,dI,i64_in,and_true,true_and,rA,rB,rC,rD])
 ·repeat' (first|(with_reducible first|apply qA|apply qB|apply qC|apply qD|apply qE|apply qF)|(refine qL rfl (WF.of ?_) ?_; first|rfl|skip)|(simp (disch:=omega) only [go_sem,simprocAttr,qN,qO,qP,qQ,hd])|exact qM rfl rfl rfl|(refine qG rfl ?_)|(refine qH rfl ?_)|(refine qI rfl ?_ ?_<;>intro hc<;>(try simp only [go_sem] at hc))|(refine qJ ?_ ?_<;>intro hc<;>(try simp only [hc])<;>(try simp only [go_sem] at hc)))
set_option maxHeartbeats 2000000 in
theorem reTableF (b : Bool) (l : List (Int × Int)) (hl : l.length ≤ 2 ^ 36) (h : ¬ TabF l) : DCall Tryz.prog 42 [.c (.sl b 2 (rows eK l))] [] (bD false) [] := by
 have i1 := reIn3 (l.length : Int) 1 10
 cases e1 : inI (l.length : Int) 1 10 <;> rw [e1] at i1
 ·refine DCall.of Tryz.func42 sf42 hb42 (Nat.le_of_ble_eq_true rfl) (okRes_nil fun _ => rfl) ?_; simp only [s42,idxs,Nat.reduceAdd]
  repeat' (first|(with_reducible first|apply qA|apply qB|apply qC|apply qD|apply qE|apply qF)|(refine qL rfl (WF.of ?_) ?_; first|rfl|skip)|(simp (disch:=omega) only [go_sem,simprocAttr,qN,qO,qP,qQ])|exact qM rfl rfl rfl|(refine qG rfl ?_)|(refine qK (i1) (by decide) ?_)|(refine qH rfl ?_)|(refine qI rfl ?_ ?_<;>intro hc<;>(try simp only [go_sem] at hc))|(refine qJ ?_ ?_<;>intro hc<;>(try simp only [hc])<;>(try simp only [go_sem] at hc)))
 have hlen : 1 ≤ l.length ∧ l.length ≤ 10 := by simp [inI] at e1; omega
 obtain ⟨f,hf⟩ := getE (l := l) (i := 0) (by omega)
 by_cases hf0 : f.1 = 0
 case neg =>
  have hfe : (f.1 != 0) = true := by simpa using hf0
  refine DCall.of Tryz.func42 sf42 hb42 (Nat.le_of_ble_eq_true rfl) (okRes_nil fun _ => rfl) ?_; simp only [s42,idxs,Nat.reduceAdd]
  repeat' (first|(with_reducible first|apply qA|apply qB|apply qC|apply qD|apply qE|apply qF)|(refine qL rfl (WF.of ?_) ?_; first|rfl|skip)|(simp (disch:=omega) only [go_sem,simprocAttr,qN,qO,qP,qQ,hf,hfe,rF,rG])|exact qM rfl rfl rfl|(refine qG rfl ?_)|(refine qK (i1) (by decide) ?_)|(refine qH rfl ?_)|(refine qI rfl ?_ ?_<;>intro hc<;>(try simp only [go_sem] at hc))|(refine qJ ?_ ?_<;>intro hc<;>(try simp only [hc])<;>(try simp only [go_sem] at hc)))
 have hfirst : ∀ u,l[0]? = some u → u.1 = 0 := fun u hu => by rw [hf] at hu; cases hu; exact hf0
 have hfe : (f.1 != 0) = false := by rw [hf0]; rfl
 refine DCall.of Tryz.func42 sf42 hb42 (Nat.le_of_ble_eq_true rfl) (okRes_nil fun _ => rfl) ?_; simp only [s42,idxs,Nat.reduceAdd]
 repeat' (first|(with_reducible first|apply qA|apply qB|apply qC|apply qD|apply qE|apply qF)|(refine qL rfl (WF.of ?_) ?_; first|rfl|skip)|(simp (disch:=omega) only [go_sem,simprocAttr,qN,qO,qP,qQ,hf,hfe,rF,rG])|exact qM rfl rfl rfl|(refine qG rfl ?_)|(refine qK (i1) (by decide) ?_)|(refine qH rfl ?_)|(refine qI rfl ?_ ?_<;>intro hc<;>(try simp only [go_sem] at hc))|(refine qJ ?_ ?_<;>intro hc<;>(try simp only [hc])<;>(try simp only [go_sem] at hc)))
 refine DW.loop (ι := { i : Nat // i ≤ l.length ∧ ∀ j,j < i → stepOk l j }) (fun i => ⟨69,[(3,dI i.1),(0,.c (.sl b 2 (rows eK l)))],[]⟩) (fun i => l.length - i.1) ⟨0,Nat.zero_le _,fun j h => by omega⟩ ?_ ?_
 ·refine Ent.to ?_ ?_ <;> simp (disch:=omega) only [qR,qS,qT,qU,get,Nat.reduceEqDiff,↓reduceIte,qV,qW,qX,qY,qZ,and_self,dI,i64_in,and_true,true_and,rA,rB,rC,rD]
 rintro ⟨i,hi,hij⟩
 rcases at_or l i hi with ⟨v,hv,hlt,hd⟩ | ⟨he,hd⟩
 ·have i2 := reIn3 v.1 0 10000
  have i3 := reIn3 v.2 0 1000
  have hd' : i = 0 → decide ((0 : Int) < (l.length : Int)) = true := fun h => by subst h; exact hd
  cases e3 : inI v.1 0 10000 <;> rw [e3] at i2
  ·rcases i with _ | i
   ·repeat' (first|(with_reducible first|apply qA|apply qB|apply qC|apply qD|apply qE|apply qF)|(refine qL rfl (WF.of ?_) ?_; first|rfl|skip)|(simp (disch:=omega) only [go_sem,simprocAttr,qN,qO,qP,qQ,hd' rfl,hv,rF,rG])|exact qM rfl rfl rfl|(refine qG rfl ?_)|(refine qK (i2) (by decide) ?_)|(refine qH rfl ?_)|(refine qI rfl ?_ ?_<;>intro hc<;>(try simp only [go_sem] at hc))|(refine qJ ?_ ?_<;>intro hc<;>(try simp only [hc])<;>(try simp only [go_sem] at hc)))
   ·repeat' (first|(with_reducible first|apply qA|apply qB|apply qC|apply qD|apply qE|apply qF)|(refine qL rfl (WF.of ?_) ?_; first|rfl|skip)|(simp (disch:=omega) only [go_sem,simprocAttr,qN,qO,qP,qQ,hd,hv,rF,rG])|exact qM rfl rfl rfl|(refine qG rfl ?_)|(refine qK (i2) (by decide) ?_)|(refine qH rfl ?_)|(refine qI rfl ?_ ?_<;>intro hc<;>(try simp only [go_sem] at hc))|(refine qJ ?_ ?_<;>intro hc<;>(try simp only [hc])<;>(try simp only [go_sem] at hc)))
  cases e4 : inI v.2 0 1000 <;> rw [e4] at i3
  ·rcases i with _ | i
   ·repeat' (first|(with_reducible first|apply qA|apply qB|apply qC|apply qD|apply qE|apply qF)|(refine qL rfl (WF.of ?_) ?_; first|rfl|skip)|(simp (disch:=omega) only [go_sem,simprocAttr,qN,qO,qP,qQ,hd' rfl,hv,rF,rG])|exact qM rfl rfl rfl|(refine qG rfl ?_)|(refine qK (i2) (by decide) ?_)|(refine qK (i3) (by decide) ?_)|(refine qH rfl ?_)|(refine qI rfl ?_ ?_<;>intro hc<;>(try simp only [go_sem] at hc))|(refine qJ ?_ ?_<;>intro hc<;>(try simp only [hc])<;>(try simp only [go_sem] at hc)))
   ·repeat' (first|(with_reducible first|apply qA|apply qB|apply qC|apply qD|apply qE|apply qF)|(refine qL rfl (WF.of ?_) ?_; first|rfl|skip)|(simp (disch:=omega) only [go_sem,simprocAttr,qN,qO,qP,qQ,hd,hv,rF,rG])|exact qM rfl rfl rfl|(refine qG rfl ?_)|(refine qK (i2) (by decide) ?_)|(refine qK (i3) (by decide) ?_)|(refine qH rfl ?_)|(refine qI rfl ?_ ?_<;>intro hc<;>(try simp only [go_sem] at hc))|(refine qJ ?_ ?_<;>intro hc<;>(try simp only [hc])<;>(try simp only [go_sem] at hc)))
  have hnx : (∀ k u,i = k + 1 → l[k]? = some u → u.1 < v.1 ∧ v.2 ≤ u.2) → ∀ j,j < i + 1 → stepOk l j := fun hs j hj => by
   rcases Nat.lt_or_ge j i with h | h
   ·exact hij j h
   ·obtain rfl : j = i := by omega
    intro w hw
    rw [hv] at hw; cases hw
    exact ⟨⟨by simpa [inI] using e3,by simpa [inI] using e4⟩,hs⟩
  rcases i with _ | i
  ·repeat' (first|(with_reducible first|apply qA|apply qB|apply qC|apply qD|apply qE|apply qF)|(refine qL rfl (WF.of ?_) ?_; first|rfl|skip)|(simp (disch:=omega) only [go_sem,simprocAttr,qN,qO,qP,qQ,hd' rfl,hv,rF,rG])|exact qM rfl rfl rfl|(refine qG rfl ?_)|(refine qK (i2) (by decide) ?_)|(refine qK (i3) (by decide) ?_)|(refine qH rfl ?_)|(refine qI rfl ?_ ?_<;>intro hc<;>(try simp only [go_sem] at hc))|(refine qJ ?_ ?_<;>intro hc<;>(try simp only [hc])<;>(try simp only [go_sem] at hc)))
   refine ⟨⟨1,hlt,hnx (fun k u h => by omega)⟩,?_,Ent.to ?_ ?_⟩ <;> first | (show _ < _; (try simp only); omega) | (simp (disch:=omega) only [qR,qS,qT,qU,get,Nat.reduceEqDiff,↓reduceIte,qV,qW,qX,qY,qZ,and_self,dI,i64_in,and_true,true_and,rA,rB,rC,rD])
  ·have hd0 : decide ((0 : Int) < ((i + 1 : Nat) : Int)) = true := by rw [decide_eq_true_eq]; omega
   obtain ⟨u,hu⟩ := getE (l := l) (i := i) (by omega)
   have e1 : ((i + 1 : Nat) : Int) - 1 = (i : Int) := by omega
   by_cases hs1 : v.1 ≤ u.1
   ·have d1 : decide (v.1 ≤ u.1) = true := decide_eq_true hs1
    repeat' (first|(with_reducible first|apply qA|apply qB|apply qC|apply qD|apply qE|apply qF)|(refine qL rfl (WF.of ?_) ?_; first|rfl|skip)|(simp (disch:=omega) only [go_sem,simprocAttr,qN,qO,qP,qQ,hd,hv,hd0,hu,e1,d1,rF,rG])|exact qM rfl rfl rfl|(refine qG rfl ?_)|(refine qK (i2) (by decide) ?_)|(refine qK (i3) (by decide) ?_)|(refine qH rfl ?_)|(refine qI rfl ?_ ?_<;>intro hc<;>(try simp only [go_sem] at hc))|(refine qJ ?_ ?_<;>intro hc<;>(try simp only [hc])<;>(try simp only [go_sem] at hc)))
   by_cases hs2 : u.2 < v.2
   ·have d1 : decide (v.1 ≤ u.1) = false := decide_eq_false hs1
    have d2 : decide (u.2 < v.2) = true := decide_eq_true hs2
    repeat' (first|(with_reducible first|apply qA|apply qB|apply qC|apply qD|apply qE|apply qF)|(refine qL rfl (WF.of ?_) ?_; first|rfl|skip)|(simp (disch:=omega) only [go_sem,simprocAttr,qN,qO,qP,qQ,hd,hv,hd0,hu,e1,d1,d2,rF,rG])|exact qM rfl rfl rfl|(refine qG rfl ?_)|(refine qK (i2) (by decide) ?_)|(refine qK (i3) (by decide) ?_)|(refine qH rfl ?_)|(refine qI rfl ?_ ?_<;>intro hc<;>(try simp only [go_sem] at hc))|(refine qJ ?_ ?_<;>intro hc<;>(try simp only [hc])<;>(try simp only [go_sem] at hc)))
   have d1 : decide (v.1 ≤ u.1) = false := decide_eq_false hs1
   have d2 : decide (u.2 < v.2) = false := decide_eq_false hs2
   repeat' (first|(with_reducible first|apply qA|apply qB|apply qC|apply qD|apply qE|apply qF)|(refine qL rfl (WF.of ?_) ?_; first|rfl|skip)|(simp (disch:=omega) only [go_sem,simprocAttr,qN,qO,qP,qQ,hd,hv,hd0,hu,e1,d1,d2,rF,rG])|exact qM rfl rfl rfl|(refine qG rfl ?_)|(refine qK (i2) (by decide) ?_)|(refine qK (i3) (by decide) ?_)|(refine qH rfl ?_)|(refine qI rfl ?_ ?_<;>intro hc<;>(try simp only [go_sem] at hc))|(refine qJ ?_ ?_<;>intro hc<;>(try simp only [hc])<;>(try simp only [go_sem] at hc)))
   refine ⟨⟨i + 1 + 1,hlt,hnx (fun k u' h hk => by
    obtain rfl : k = i := by omega
    rw [hu] at hk; cases hk; omega)⟩,?_,Ent.to ?_ ?_⟩ <;> first | (show _ < _; (try simp only); omega) | (simp (disch:=omega) only [qR,qS,qT,qU,get,Nat.reduceEqDiff,↓reduceIte,qV,qW,qX,qY,qZ,and_self,dI,i64_in,and_true,true_and,rA,rB,rC,rD])
 ·exact absurd (tabF_of hlen hfirst (he ▸ hij)) h
open Classical in
noncomputable def thrE (l : List (Int × Int)) (days : Int) : Int := if TabF l then (if inI days 0 10000 = true then 0 else 3) else 4
theorem thrE_ok {l : List (Int × Int)} {days : Int} (h : thrE l days = 0) : TabOk l days := by
 unfold thrE at h
 split at h
 ·rename_i h1
  split at h
  ·rename_i h2
   exact ⟨h1,by simpa [inI] using h2⟩
  ·cases h
 ·cases h
theorem reThrough (b : Bool) (l : List (Int × Int)) (days : Int) (hl : l.length ≤ 2 ^ 36) : DCall Tryz.prog 14 [.c (.sl b 2 (rows eK l)),dI days] [] (dI (thrE l days)) [] := by
 have h2 := reIn3 days 0 10000
 unfold thrE
 by_cases h : TabF l
 ·have h1 := reTableT b l h
  rw [if_pos h]
  cases e : inI days 0 10000 <;> rw [e] at h2
  ·rw [if_neg (by decide)]
   refine DCall.of Tryz.func14 sf14 hb14 (Nat.le_of_ble_eq_true rfl) (okRes_nil fun _ => rfl) ?_; simp only [s14,idxs,Nat.reduceAdd]
   repeat' (first|(with_reducible first|apply qA|apply qB|apply qC|apply qD|apply qE|apply qF)|(simp (disch:=omega) only [go_sem,simprocAttr,qN,qO,qP,qQ])|exact qM rfl rfl rfl|(refine qG rfl ?_)|(refine qK (h1) (by decide) ?_)|(refine qK (h2) (by decide) ?_)|(refine qH rfl ?_)|(refine qI rfl ?_ ?_<;>intro hc<;>(try simp only [go_sem] at hc))|(refine qJ ?_ ?_<;>intro hc<;>(try simp only [hc])<;>(try simp only [go_sem] at hc)))
  ·rw [if_pos rfl]
   refine DCall.of Tryz.func14 sf14 hb14 (Nat.le_of_ble_eq_true rfl) (okRes_nil fun _ => rfl) ?_; simp only [s14,idxs,Nat.reduceAdd]
   repeat' (first|(with_reducible first|apply qA|apply qB|apply qC|apply qD|apply qE|apply qF)|(simp (disch:=omega) only [go_sem,simprocAttr,qN,qO,qP,qQ])|exact qM rfl rfl rfl|(refine qG rfl ?_)|(refine qK (h1) (by decide) ?_)|(refine qK (h2) (by decide) ?_)|(refine qH rfl ?_)|(refine qI rfl ?_ ?_<;>intro hc<;>(try simp only [go_sem] at hc))|(refine qJ ?_ ?_<;>intro hc<;>(try simp only [hc])<;>(try simp only [go_sem] at hc)))
 ·have h1 := reTableF b l hl h
  rw [if_neg h]
  refine DCall.of Tryz.func14 sf14 hb14 (Nat.le_of_ble_eq_true rfl) (okRes_nil fun _ => rfl) ?_; simp only [s14,idxs,Nat.reduceAdd]
  repeat' (first|(with_reducible first|apply qA|apply qB|apply qC|apply qD|apply qE|apply qF)|(simp (disch:=omega) only [go_sem,simprocAttr,qN,qO,qP,qQ])|exact qM rfl rfl rfl|(refine qG rfl ?_)|(refine qK (h1) (by decide) ?_)|(refine qH rfl ?_)|(refine qI rfl ?_ ?_<;>intro hc<;>(try simp only [go_sem] at hc))|(refine qJ ?_ ?_<;>intro hc<;>(try simp only [hc])<;>(try simp only [go_sem] at hc)))
theorem crTableE (b : Bool) (l : List (Int × Int)) (days : Int) (hl : l.length ≤ 2 ^ 36) (h : thrE l days ≠ 0) : DCall Tryz.prog 69 [.c (.sl b 2 (rows eK l)),dI days] [] (.tup [.agg [.c (.v (.slice none 0 0)),dI 0],dI (thrE l days)]) [] := by
 by_cases ht : TabF l
 ·have e : thrE l days = 3 := by
   unfold thrE at h ⊢
   rw [if_pos ht] at h ⊢
   split at h
   ·exact absurd rfl h
   ·rename_i h2; rw [if_neg h2]
  have h2 : wthn 0 10000 [days] = false := by
   rw [wthn_inI]
   cases hi : inI days 0 10000 with
   | false => rfl
   | true =>
    unfold thrE at h
    rw [if_pos ht,if_pos hi] at h
    exact absurd rfl h
  rw [e]
  exact crTableDays b l days ht h2
 ·have e : thrE l days = 4 := by unfold thrE; rw [if_neg ht]
  rw [e]
  exact crTableBad b l days hl ht
theorem reKept (b : Bool) (l : List (Int × Int)) (day : Int) (hl : l.length ≤ 1000) : DCall Tryz.prog 107 [.c (.sl b 2 (rows eK l)),dI day] [] (dI (lastI day l 0)) [] := by
 refine DCall.of Tryz.func107 sf107 hb107 (Nat.le_of_ble_eq_true rfl) (okRes_nil fun _ => rfl) ?_; simp only [s107,idxs,Nat.reduceAdd]
 repeat' (first|(with_reducible first|apply qA|apply qB|apply qC|apply qD|apply qE|apply qF)|(simp (disch:=omega) only [go_sem,simprocAttr,qN,qO,qP,qQ])|exact qM rfl rfl rfl|(refine qG rfl ?_)|(refine qH rfl ?_)|(refine qI rfl ?_ ?_<;>intro hc<;>(try simp only [go_sem] at hc))|(refine qJ ?_ ?_<;>intro hc<;>(try simp only [hc])<;>(try simp only [go_sem] at hc)))
 refine DW.loop (ι := { i : Nat // i ≤ l.length }) (fun i => ⟨26,[(6,dI i.1),(5,dI (lastI day (l.take i.1) 0)),(1,dI day),(0,.c (.sl b 2 (rows eK l)))],[]⟩) (fun i => l.length - i.1) ⟨0,Nat.zero_le _⟩ ?_ ?_
 ·refine Ent.to ?_ ?_ <;> simp (disch:=omega) only [qR,qS,qT,qU,get,Nat.reduceEqDiff,↓reduceIte,qV,qW,qX,qY,qZ,and_self,dI,i64_in,and_true,true_and,rA,rB,rC,rD,lastI,List.take_zero,List.foldl_nil]
 rintro ⟨i,hi⟩
 rcases at_or l i hi with ⟨v,hv,hlt,hd⟩ | ⟨he,hd⟩
 ·have hnx := lastI_take day hv
  cases hc : decide (v.1 ≤ day) with
  | true =>
   rw [if_pos (of_decide_eq_true hc)] at hnx
   repeat' (first|(with_reducible first|apply qA|apply qB|apply qC|apply qD|apply qE|apply qF)|(simp (disch:=omega) only [go_sem,simprocAttr,qN,qO,qP,qQ,hd,hv,hc,rF,rG])|exact qM rfl rfl rfl|(refine qG rfl ?_)|(refine qH rfl ?_)|(refine qI rfl ?_ ?_<;>intro hc<;>(try simp only [go_sem] at hc))|(refine qJ ?_ ?_<;>intro hc<;>(try simp only [hc])<;>(try simp only [go_sem] at hc)))
   refine ⟨⟨i + 1,hlt⟩,?_,Ent.to ?_ ?_⟩ <;> first | (show _ < _; (try simp only); omega) | (simp (disch:=omega) only [qR,qS,qT,qU,get,Nat.reduceEqDiff,↓reduceIte,qV,qW,qX,qY,qZ,and_self,dI,i64_in,and_true,true_and,rA,rB,rC,rD,hnx])
  | false =>
   rw [if_neg (of_decide_eq_false hc)] at hnx
   repeat' (first|(with_reducible first|apply qA|apply qB|apply qC|apply qD|apply qE|apply qF)|(simp (disch:=omega) only [go_sem,simprocAttr,qN,qO,qP,qQ,hd,hv,hc,rF,rG])|exact qM rfl rfl rfl|(refine qG rfl ?_)|(refine qH rfl ?_)|(refine qI rfl ?_ ?_<;>intro hc<;>(try simp only [go_sem] at hc))|(refine qJ ?_ ?_<;>intro hc<;>(try simp only [hc])<;>(try simp only [go_sem] at hc)))
   refine ⟨⟨i + 1,hlt⟩,?_,Ent.to ?_ ?_⟩ <;> first | (show _ < _; (try simp only); omega) | (simp (disch:=omega) only [qR,qS,qT,qU,get,Nat.reduceEqDiff,↓reduceIte,qV,qW,qX,qY,qZ,and_self,dI,i64_in,and_true,true_and,rA,rB,rC,rD,hnx])
 ·repeat' (first|(with_reducible first|apply qA|apply qB|apply qC|apply qD|apply qE|apply qF)|(simp (disch:=omega) only [go_sem,simprocAttr,qN,qO,qP,qQ,hd])|exact qM rfl rfl rfl|(refine qG rfl ?_)|(refine qH rfl ?_)|(refine qI rfl ?_ ?_<;>intro hc<;>(try simp only [go_sem] at hc))|(refine qJ ?_ ?_<;>intro hc<;>(try simp only [hc])<;>(try simp only [go_sem] at hc)))
  refine retS_of rfl ?_ rfl; simp only [oneD,St.op,get,Nat.reduceEqDiff,↓reduceIte,Option.getD_some,bD,dI]
  rw [he,List.take_length]
set_option maxHeartbeats 1000000 in
theorem reLoad3 (b : Bool) (l : List Lod) (h : ∀ x ∈ l,x.ok) (hl : l.length ≤ 1000) (k : Nat) (hk : k < l.length) : DCall Tryz.prog 110 [.c (.sl b 4 (rows eLd l)),dI k] [] (.agg [dI (sumL (l.drop (k + 1))),dI (sumH (l.drop (k + 1)))]) [] := by
 have hB := sum_b (l := l.drop (k + 1)) (fun x hx => h x (List.mem_of_mem_drop hx))
 rw [List.length_drop] at hB
 generalize hSL : sumL (l.drop (k + 1)) = SL at *
 generalize hSH : sumH (l.drop (k + 1)) = SH at *
 refine DCall.of Tryz.func110 sf110 hb110 (Nat.le_of_ble_eq_true rfl) (okRes_nil fun _ => rfl) ?_; simp only [s110,idxs,Nat.reduceAdd]
 repeat' (first|(with_reducible first|apply qA|apply qB|apply qC|apply qD|apply qE|apply qF)|(refine qL rfl (WF.of ?_) ?_; first|rfl|skip)|(simp (disch:=omega) only [go_sem,simprocAttr,qN,qO,qP,qQ])|exact qM rfl rfl rfl|(refine qG rfl ?_)|(refine qH rfl ?_)|(refine qI rfl ?_ ?_<;>intro hc<;>(try simp only [go_sem] at hc))|(refine qJ ?_ ?_<;>intro hc<;>(try simp only [hc])<;>(try simp only [go_sem] at hc)))
 refine DW.loop (ι := { y : Nat × Int × Int // (k + 1 ≤ y.1 ∧ y.1 ≤ l.length) ∧ (y.2.1 + sumL (l.drop y.1) = SL ∧ y.2.2 + sumH (l.drop y.1) = SH) ∧ 0 ≤ y.2.1 ∧ 0 ≤ y.2.2 }) (fun y => ⟨36,[(6,dI y.1.1),(5,.box 5 0),(4,.box 4 0),(0,.c (.sl b 4 (rows eLd l)))],[(5,.box [dI y.1.2.1,dI y.1.2.2]),(4,.box [dI 0,dI 0])]⟩) (fun y => l.length - y.1.1) ⟨(k + 1,0,0),⟨Nat.le_refl _,hk⟩,⟨by rw [← hSL]; simp,by rw [← hSH]; simp⟩,Int.le_refl _,Int.le_refl _⟩ ?_ ?_
 ·refine Ent.to ?_ ?_ <;> simp (disch:=omega) only [qR,qS,qT,qU,get,Nat.reduceEqDiff,↓reduceIte,qV,qW,qX,qY,qZ,and_self,dI,i64_in,and_true,true_and,rA,rB,rC,rD]
 rintro ⟨⟨i,lo,hi⟩,i1,i2,i3,i4⟩
 dsimp only at i1 i2 i3 i4 ⊢
 rcases at_or l i i1.2 with ⟨v,hv,hlt,hd⟩ | ⟨he,hd⟩
 ·have hvw := (h v (List.mem_of_getElem? hv)).weight
  have hdr := drop_cons hv
  rw [hdr] at i2
  simp only [sumL,sumH] at i2
  have hB2 := sum_b (l := l.drop (i + 1)) (fun x hx => h x (List.mem_of_mem_drop hx))
  repeat' (first|(with_reducible first|apply qA|apply qB|apply qC|apply qD|apply qE|apply qF)|(refine qL rfl (WF.of ?_) ?_; first|rfl|skip)|(simp (disch:=omega) only [go_sem,simprocAttr,qN,qO,qP,qQ,hd,hv,rF,rG])|exact qM rfl rfl rfl|(refine qG rfl ?_)|(refine qH rfl ?_)|(refine qI rfl ?_ ?_<;>intro hc<;>(try simp only [go_sem] at hc))|(refine qJ ?_ ?_<;>intro hc<;>(try simp only [hc])<;>(try simp only [go_sem] at hc)))
  refine ⟨⟨(i + 1,lo + v.wl,hi + v.wh),⟨by omega,hlt⟩,⟨by dsimp only; omega,by dsimp only; omega⟩,by dsimp only; omega,by dsimp only; omega⟩,?_,Ent.to ?_ ?_⟩ <;> first | (show _ < _; (try simp only); omega) | (simp (disch:=omega) only [qR,qS,qT,qU,get,Nat.reduceEqDiff,↓reduceIte,qV,qW,qX,qY,qZ,and_self,dI,i64_in,and_true,true_and,rA,rB,rC,rD])
 ·rw [List.drop_of_length_le (by omega : l.length ≤ i)] at i2
  simp only [sumL,sumH,Int.add_zero] at i2
  obtain ⟨rfl,rfl⟩ := i2
  repeat' (first|(with_reducible first|apply qA|apply qB|apply qC|apply qD|apply qE|apply qF)|(refine qL rfl (WF.of ?_) ?_; first|rfl|skip)|(simp (disch:=omega) only [go_sem,simprocAttr,qN,qO,qP,qQ,hd])|exact qM rfl rfl rfl|(refine qG rfl ?_)|(refine qH rfl ?_)|(refine qI rfl ?_ ?_<;>intro hc<;>(try simp only [go_sem] at hc))|(refine qJ ?_ ?_<;>intro hc<;>(try simp only [hc])<;>(try simp only [go_sem] at hc)))
def failI (l : List Lod) (k : Int) : Int := match failN k l with
 | some i => (i : Int)
 | none => -1
set_option maxHeartbeats 1000000 in
theorem reFails (b1 b2 : Bool) (l : List Lod) (h : ∀ x ∈ l,x.ok) (hl : l.length ≤ 1000) (t : List (Int × Int)) (ht : TabF t) (day : Int) : DCall Tryz.prog 108 [.c (.sl b1 4 (rows eLd l)),.c (.sl b2 2 (rows eK t)),dI day] [] (dI (failI l (lastI day t 0))) [] := by
 have hk := kept_b ht day
 have h2 := reKept b2 t day (by have := ht.len; omega)
 generalize lastI day t 0 = k at *
 refine DCall.of Tryz.func108 sf108 hb108 (Nat.le_of_ble_eq_true rfl) (okRes_nil fun _ => rfl) ?_; simp only [s108,idxs,Nat.reduceAdd]
 repeat' (first|(with_reducible first|apply qA|apply qB|apply qC|apply qD|apply qE|apply qF)|(refine qL rfl (WF.of ?_) ?_; first|rfl|skip)|(simp (disch:=omega) only [go_sem,simprocAttr,qN,qO,qP,qQ])|exact qM rfl rfl rfl|(refine qG rfl ?_)|(refine qH rfl ?_)|(refine qI rfl ?_ ?_<;>intro hc<;>(try simp only [go_sem] at hc))|(refine qJ ?_ ?_<;>intro hc<;>(try simp only [hc])<;>(try simp only [go_sem] at hc)))
 refine DW.loop (ι := { i : Nat // i ≤ l.length ∧ ∀ j,j < i → ∀ c,l[j]? = some c → ¬ bearsI c k < sumH (l.drop (j + 1)) }) (fun i => ⟨31,[(7,dI i.1),(2,dI day),(1,.c (.sl b2 2 (rows eK t))),(0,.c (.sl b1 4 (rows eLd l)))],[]⟩) (fun i => l.length - i.1) ⟨0,Nat.zero_le _,fun j h => by omega⟩ ?_ ?_
 ·refine Ent.to ?_ ?_ <;> simp (disch:=omega) only [qR,qS,qT,qU,get,Nat.reduceEqDiff,↓reduceIte,qV,qW,qX,qY,qZ,and_self,dI,i64_in,and_true,true_and,rA,rB,rC,rD]
 rintro ⟨i,hi,hij⟩
 rcases at_or l i hi with ⟨v,hv,hlt,hd⟩ | ⟨he,hd⟩
 ·have hvo := h v (List.mem_of_getElem? hv)
  have hvs := hvo.strong
  have h1 := reLoad3 b1 l h hl i hlt
  have hbb := bears_b hvo hk
  have hm := mulB0 (a := v.sl) (b := k) (A := 20000000) (B := 1000) (by omega) hk
  have hbe : (v.sl * k).tdiv 1000 = bearsI v k := rfl
  by_cases hc : bearsI v k < sumH (l.drop (i + 1))
  ·have hr : failI l k = (i : Int) := by rw [failI,failN_get hv hij hc]
   have hdc : decide (bearsI v k < sumH (l.drop (i + 1))) = true := decide_eq_true hc
   generalize bearsI v k = B at *
   repeat' (first|(with_reducible first|apply qA|apply qB|apply qC|apply qD|apply qE|apply qF)|(refine qL rfl (WF.of ?_) ?_; first|rfl|skip)|(simp (disch:=omega) only [go_sem,simprocAttr,qN,qO,qP,qQ,hd,hv,hbe,hdc,rF,rG])|exact qM rfl rfl rfl|(refine qG rfl ?_)|(refine qK (h1) (by decide) ?_)|(refine qK (h2) (by decide) ?_)|(refine qH rfl ?_)|(refine qI rfl ?_ ?_<;>intro hc<;>(try simp only [go_sem] at hc))|(refine qJ ?_ ?_<;>intro hc<;>(try simp only [hc])<;>(try simp only [go_sem] at hc)))
   refine retS_of rfl ?_ rfl; simp only [oneD,St.op,get,Nat.reduceEqDiff,↓reduceIte,Option.getD_some,bD,dI]
   rw [hr]
  ·have hdc : decide (bearsI v k < sumH (l.drop (i + 1))) = false := decide_eq_false hc
   have hnx : ∀ j,j < i + 1 → ∀ c,l[j]? = some c → ¬ bearsI c k < sumH (l.drop (j + 1)) := fun j hj c hcj => by
    rcases Nat.lt_or_ge j i with h | h
    ·exact hij j h c hcj
    ·obtain rfl : j = i := by omega
     rw [hv] at hcj; cases hcj; exact hc
   generalize bearsI v k = B at *
   repeat' (first|(with_reducible first|apply qA|apply qB|apply qC|apply qD|apply qE|apply qF)|(refine qL rfl (WF.of ?_) ?_; first|rfl|skip)|(simp (disch:=omega) only [go_sem,simprocAttr,qN,qO,qP,qQ,hd,hv,hbe,hdc,rF,rG])|exact qM rfl rfl rfl|(refine qG rfl ?_)|(refine qK (h1) (by decide) ?_)|(refine qK (h2) (by decide) ?_)|(refine qH rfl ?_)|(refine qI rfl ?_ ?_<;>intro hc<;>(try simp only [go_sem] at hc))|(refine qJ ?_ ?_<;>intro hc<;>(try simp only [hc])<;>(try simp only [go_sem] at hc)))
   refine ⟨⟨i + 1,hlt,hnx⟩,?_,Ent.to ?_ ?_⟩ <;> first | (show _ < _; (try simp only); omega) | (simp (disch:=omega) only [qR,qS,qT,qU,get,Nat.reduceEqDiff,↓reduceIte,qV,qW,qX,qY,qZ,and_self,dI,i64_in,and_true,true_and,rA,rB,rC,rD])
 ·have hr : failI l k = -1 := by
   rw [failI,failN_none (fun j c hc => hij j (by have := (List.getElem?_eq_some_iff.1 hc).1; omega) c hc)]
  repeat' (first|(with_reducible first|apply qA|apply qB|apply qC|apply qD|apply qE|apply qF)|(refine qL rfl (WF.of ?_) ?_; first|rfl|skip)|(simp (disch:=omega) only [go_sem,simprocAttr,qN,qO,qP,qQ,hd])|exact qM rfl rfl rfl|(refine qG rfl ?_)|(refine qH rfl ?_)|(refine qI rfl ?_ ?_<;>intro hc<;>(try simp only [go_sem] at hc))|(refine qJ ?_ ?_<;>intro hc<;>(try simp only [hc])<;>(try simp only [go_sem] at hc)))
  refine retS_of rfl ?_ rfl; simp only [oneD,St.op,get,Nat.reduceEqDiff,↓reduceIte,Option.getD_some,bD,dI]
  rw [hr]
end Go.Dw.Seat
end
section
set_option linter.unusedSimpArgs false
set_option maxRecDepth 100000
namespace Go.Dw.Seat
open Go Go.Dw Go.Proofs Go.IntWalk
theorem fall_days {st : List Lod} {l : List (Int × Int)} {days : Int} (h : TabOk l days) : (fallT st days l = none → ∀ day,0 ≤ day → day ≤ days → failN (lastI day l 0) st = none) ∧ ∀ d i,fallT st days l = some (d,i) → (0 ≤ d ∧ d ≤ days) ∧ failN (lastI d l 0) st = some i ∧ ∀ day,0 ≤ day → day < d → failN (lastI day l 0) st = none := by
 obtain ⟨k,t,rfl,hk⟩ := h.head
 have ha := h.asc
 have hd := h.days
 have e1 : ∀ day,0 ≤ day → lastI day ((0,k) :: t) 0 = lastI day t k := fun day h => by rw [lastI_cons,if_pos h]
 constructor
 ·intro hf day h0 h1
  have h2 := hf
  simp only [fallT] at h2
  rw [if_neg (by omega)] at h2
  split at h2
  ·cases h2
  ·rename_i h3
   rw [e1 day h0]
   exact fall_none ha.2 h2 day k h1 h3
 ·intro d i hf
  obtain ⟨⟨h1,v,hv,hvd⟩,h2,h3⟩ := fall_some ha hf
  have hd0 : 0 ≤ d := by have := (h.mem v hv).1; omega
  refine ⟨⟨hd0,h1⟩,h2 0,fun day h0 hlt => ?_⟩
  have h4 := hf
  simp only [fallT] at h4
  rw [if_neg (by omega)] at h4
  split at h4
  ·rename_i j hj
   cases h4
   omega
  ·rename_i hj
   rw [e1 day h0]
   exact (fall_some ha.2 h4).2.2 day k hlt hj
def fallQ (l : List Lod) (days : Int) (t : List (Int × Int)) : Int × Int × Bool := match fallT l days t with
 | some (d,i) => (d,(i : Int),true)
 | none => (0,0,false)
set_option maxHeartbeats 1000000 in
theorem reFall (b1 b2 : Bool) (l : List Lod) (h : ∀ x ∈ l,x.ok) (hl : l.length ≤ 1000) (t : List (Int × Int)) (days : Int) (ht : TabOk t days) : DCall Tryz.prog 98 [.c (.sl b1 4 (rows eLd l)),.c (.sl b2 2 (rows eK t)),dI days] [] (.tup [dI (fallQ l days t).1,dI (fallQ l days t).2.1,bD (fallQ l days t).2.2]) [] := by
 have hds := ht.days
 obtain ⟨f1,f2⟩ := fall_days (st := l) ht
 obtain ⟨D,hD⟩ : ∃ D : Nat,days = D := ⟨days.toNat,by omega⟩
 refine DCall.of Tryz.func98 sf98 hb98 (Nat.le_of_ble_eq_true rfl) (okRes_nil fun _ => rfl) ?_; simp only [s98,idxs,Nat.reduceAdd]
 repeat' (first|(with_reducible first|apply qA|apply qB|apply qC|apply qD|apply qE|apply qF)|(simp (disch:=omega) only [go_sem,simprocAttr,qN,qO,qP,qQ])|exact qM rfl rfl rfl|(refine qG rfl ?_)|(refine qH rfl ?_)|(refine qI rfl ?_ ?_<;>intro hc<;>(try simp only [go_sem] at hc))|(refine qJ ?_ ?_<;>intro hc<;>(try simp only [hc])<;>(try simp only [go_sem] at hc)))
 refine DW.loop (ι := { y : Nat × Int // y.1 ≤ D + 1 ∧ (y.2 ≠ -1 → failN y.2 l = none) ∧ ∀ day : Nat,day < y.1 → failN (lastI day t 0) l = none }) (fun y => ⟨33,[(10,dI y.1.1),(9,dI y.1.2),(2,dI days),(1,.c (.sl b2 2 (rows eK t))),(0,.c (.sl b1 4 (rows eLd l)))],[]⟩) (fun y => D + 1 - y.1.1) ⟨(0,-1),Nat.zero_le _,fun h => absurd rfl h,fun day h => by dsimp only at h; omega⟩ ?_ ?_
 ·refine Ent.to ?_ ?_ <;> simp (disch:=omega) only [qR,qS,qT,qU,get,Nat.reduceEqDiff,↓reduceIte,qV,qW,qX,qY,qZ,and_self,dI,i64_in,and_true,true_and,rA,rB,rC,rD]
 rintro ⟨⟨i,was⟩,i1,i2,i3⟩
 dsimp only at i1 i2 i3 ⊢
 rcases Nat.lt_or_ge i (D + 1) with hlt | hge
 ·have hd : decide ((i : Int) ≤ days) = true := by rw [decide_eq_true_eq]; omega
  have hkp := reKept b2 t i (by have := ht.len; omega)
  have hfl := reFails b1 b2 l h hl t ht.toTabF i
  have hkb := kept_b ht.toTabF i
  generalize hnow : lastI (i : Int) t 0 = now at *
  have hnx : failN now l = none → ∀ day : Nat,day < i + 1 → failN (lastI day t 0) l = none := fun hn day hday => by
   rcases Nat.lt_or_ge day i with h | h
   ·exact i3 day h
   ·obtain rfl : day = i := by omega
    rw [hnow]; exact hn
  by_cases hw : now = was
  ·have hne : (now != was) = false := by rw [hw]; simp
   have hn : failN now l = none := by rw [hw]; exact i2 (by omega)
   repeat' (first|(with_reducible first|apply qA|apply qB|apply qC|apply qD|apply qE|apply qF)|(simp (disch:=omega) only [go_sem,simprocAttr,qN,qO,qP,qQ,hd,hne])|exact qM rfl rfl rfl|(refine qG rfl ?_)|(refine qK (hkp) (by decide) ?_)|(refine qH rfl ?_)|(refine qI rfl ?_ ?_<;>intro hc<;>(try simp only [go_sem] at hc))|(refine qJ ?_ ?_<;>intro hc<;>(try simp only [hc])<;>(try simp only [go_sem] at hc)))
   refine ⟨⟨(i + 1,was),hlt,i2,hnx hn⟩,?_,Ent.to ?_ ?_⟩ <;> first | (show _ < _; (try simp only); omega) | (simp (disch:=omega) only [qR,qS,qT,qU,get,Nat.reduceEqDiff,↓reduceIte,qV,qW,qX,qY,qZ,and_self,dI,i64_in,and_true,true_and,rA,rB,rC,rD])
  ·have hne : (now != was) = true := by simpa using hw
   cases hf : failN now l with
   | none =>
    have hfi : failI l now = -1 := by rw [failI,hf]
    rw [hfi] at hfl
    repeat' (first|(with_reducible first|apply qA|apply qB|apply qC|apply qD|apply qE|apply qF)|(simp (disch:=omega) only [go_sem,simprocAttr,qN,qO,qP,qQ,hd,hne])|exact qM rfl rfl rfl|(refine qG rfl ?_)|(refine qK (hkp) (by decide) ?_)|(refine qK (hfl) (by decide) ?_)|(refine qH rfl ?_)|(refine qI rfl ?_ ?_<;>intro hc<;>(try simp only [go_sem] at hc))|(refine qJ ?_ ?_<;>intro hc<;>(try simp only [hc])<;>(try simp only [go_sem] at hc)))
    refine ⟨⟨(i + 1,now),hlt,fun _ => hf,hnx hf⟩,?_,Ent.to ?_ ?_⟩ <;> first | (show _ < _; (try simp only); omega) | (simp (disch:=omega) only [qR,qS,qT,qU,get,Nat.reduceEqDiff,↓reduceIte,qV,qW,qX,qY,qZ,and_self,dI,i64_in,and_true,true_and,rA,rB,rC,rD])
   | some j =>
    have hfi : failI l now = (j : Int) := by rw [failI,hf]
    rw [hfi] at hfl
    have hq : fallQ l days t = ((i : Int),(j : Int),true) := by
     unfold fallQ
     cases hT : fallT l days t with
     | none =>
      have := f1 hT i (by omega) (by omega)
      rw [hnow,hf] at this; cases this
     | some p =>
      obtain ⟨d,m⟩ := p
      obtain ⟨⟨g1,g2⟩,g3,g4⟩ := f2 d m hT
      have hdi : d = (i : Int) := by
       rcases Int.lt_trichotomy d i with h | h | h
       ·have := i3 d.toNat (by omega)
        rw [Int.toNat_of_nonneg g1,g3] at this; cases this
       ·exact h
       ·have := g4 i (by omega) h
        rw [hnow,hf] at this; cases this
      rw [hdi,hnow,hf] at g3
      cases g3
      simp only [hdi]
    repeat' (first|(with_reducible first|apply qA|apply qB|apply qC|apply qD|apply qE|apply qF)|(simp (disch:=omega) only [go_sem,simprocAttr,qN,qO,qP,qQ,hd,hne])|exact qM rfl rfl rfl|(refine qG rfl ?_)|(refine qK (hkp) (by decide) ?_)|(refine qK (hfl) (by decide) ?_)|(refine qH rfl ?_)|(refine qI rfl ?_ ?_<;>intro hc<;>(try simp only [go_sem] at hc))|(refine qJ ?_ ?_<;>intro hc<;>(try simp only [hc])<;>(try simp only [go_sem] at hc)))
    refine retS_of rfl ?_ rfl; simp only [oneD,St.op,get,Nat.reduceEqDiff,↓reduceIte,Option.getD_some,bD,dI]
    rw [hq]
 ·obtain rfl : i = D + 1 := by omega
  have hd : decide (((D + 1 : Nat) : Int) ≤ days) = false := by rw [decide_eq_false_iff_not]; omega
  have hq : fallQ l days t = (0,0,false) := by
   unfold fallQ
   cases hT : fallT l days t with
   | none => rfl
   | some p =>
    obtain ⟨d,m⟩ := p
    obtain ⟨⟨g1,g2⟩,g3,g4⟩ := f2 d m hT
    have := i3 d.toNat (by omega)
    rw [Int.toNat_of_nonneg g1,g3] at this; cases this
  repeat' (first|(with_reducible first|apply qA|apply qB|apply qC|apply qD|apply qE|apply qF)|(simp (disch:=omega) only [go_sem,simprocAttr,qN,qO,qP,qQ,hd])|exact qM rfl rfl rfl|(refine qG rfl ?_)|(refine qH rfl ?_)|(refine qI rfl ?_ ?_<;>intro hc<;>(try simp only [go_sem] at hc))|(refine qJ ?_ ?_<;>intro hc<;>(try simp only [hc])<;>(try simp only [go_sem] at hc)))
  refine retS_of rfl ?_ rfl; simp only [oneD,St.op,get,Nat.reduceEqDiff,↓reduceIte,Option.getD_some,bD,dI]
  rw [hq]
theorem reStands (b1 b2 : Bool) (l : List Lod) (h : ∀ x ∈ l,x.ok) (hl : l.length ≤ 1000) (t : List (Int × Int)) (days : Int) (ht : TabOk t days) : DCall Tryz.prog 74 [.c (.sl b1 4 (rows eLd l)),.c (.sl b2 2 (rows eK t)),dI days] [] (bD (failN (lastI days t 0) l).isNone) [] := by
 have h1 := reFall b1 b2 l h hl t days ht
 have hi := fall_iff h ht
 have hq : (fallQ l days t).2.2 = !(failN (lastI days t 0) l).isNone := by
  unfold fallQ
  cases hT : fallT l days t with
  | none => rw [hi.1 hT]; rfl
  | some p =>
   cases hF : failN (lastI days t 0) l with
   | none => rw [hi.2 hF] at hT; cases hT
   | some _ => rfl
 rw [hq] at h1
 generalize (failN (lastI days t 0) l).isNone = B at *
 refine DCall.of Tryz.func74 sf74 hb74 (Nat.le_of_ble_eq_true rfl) (okRes_nil fun _ => rfl) ?_; simp only [s74,idxs,Nat.reduceAdd]
 repeat' (first|(with_reducible first|apply qA|apply qB|apply qC|apply qD|apply qE|apply qF)|(simp (disch:=omega) only [go_sem,simprocAttr,qN,qO,qP,qQ])|exact qM rfl rfl rfl|(refine qG rfl ?_)|(refine qK (h1) (by decide) ?_)|(refine qH rfl ?_)|(refine qI rfl ?_ ?_<;>intro hc<;>(try simp only [go_sem] at hc))|(refine qJ ?_ ?_<;>intro hc<;>(try simp only [hc])<;>(try simp only [go_sem] at hc)))
 refine retS_of rfl ?_ rfl; simp only [oneD,St.op,get,Nat.reduceEqDiff,↓reduceIte,Option.getD_some,bD,dI]
 rw [Bool.not_not]
theorem rep_snoc {α : Type} (n : Nat) (a : α) : List.replicate n a ++ [a] = List.replicate (n + 1) a := by rw [← List.replicate_succ']
theorem rowC_snocL (l : List Lod) (x : Lod) : rowC (rows eLd l) ++ [[D.c (.v (.int .i64 x.sl)),D.c (.v (.int .i64 x.sh)),D.c (.v (.int .i64 x.wl)),D.c (.v (.int .i64 x.wh))]] = rowC (rows eLd (l ++ [x])) := by simp [rowC,rows,eLd]
def minH (H : Int) (i : Nat) : Int := if (i : Int) < H then (i : Int) else H
set_option maxHeartbeats 1000000 in
theorem reHigh (b2 : Bool) (b : Lod) (h : b.ok) (t : List (Int × Int)) (days : Int) (ht : TabOk t days) : DCall Tryz.prog 44 [.agg ((eLd b).map D.c),.c (.sl b2 2 (rows eK t)),dI days] [] (dI (highI b t days)) [] := by
 have hhi := fun n hn => high_iff h ht n hn
 have hH : 1 ≤ highI b t days ∧ highI b t days ≤ 50 := by
  unfold highI
  split
  ·omega
  ·have := tdiv_b (b := b.wh) (A := 20000000) (bears_b h (kept_b ht.toTabF days)) (by have := h.weight; omega)
   split <;> omega
 generalize highI b t days = H at *
 refine DCall.of Tryz.func44 sf44 hb44 (Nat.le_of_ble_eq_true rfl) (okRes_nil fun _ => rfl) ?_; simp only [s44,idxs,Nat.reduceAdd]
 repeat' (first|(with_reducible first|apply qA|apply qB|apply qC|apply qD|apply qE|apply qF)|(simp (disch:=omega) only [go_sem,simprocAttr,qN,qO,qP,qQ,rF,rG])|exact qM rfl rfl rfl|(refine qG rfl ?_)|(refine qH rfl ?_)|(refine qI rfl ?_ ?_<;>intro hc<;>(try simp only [go_sem] at hc))|(refine qJ ?_ ?_<;>intro hc<;>(try simp only [hc])<;>(try simp only [go_sem] at hc)))
 refine DW.loop (ι := { i : Nat // i ≤ 50 }) (fun i => ⟨25,[(9,dI ((i.1 : Int) + 1)),(8,.own 10),(7,dI (minH H i.1)),(3,.box 3 0),(2,dI days),(1,.c (.sl b2 2 (rows eK t)))],[(10,.row 4 (rowC (rows eLd (List.replicate i.1 b)))),(3,.box [dI b.sl,dI b.sh,dI b.wl,dI b.wh])]⟩) (fun i => 50 - i.1) ⟨0,Nat.zero_le _⟩ ?_ ?_
 ·have e0 : minH H 0 = 0 := by rw [minH,if_pos (by omega)]; rfl
  refine Ent.to ?_ ?_ <;> simp (disch:=omega) only [qR,qS,qT,qU,get,Nat.reduceEqDiff,↓reduceIte,qV,qW,qX,qY,qZ,and_self,dI,i64_in,and_true,true_and,rA,rB,rC,rD,e0,List.replicate]
  all_goals exact .refl _
 rintro ⟨i,hi⟩
 dsimp only
 rcases Nat.lt_or_ge i 50 with hlt | hge
 ·have hd : decide ((i : Int) + 1 ≤ 50) = true := by rw [decide_eq_true_eq]; omega
  have hrep : List.replicate i b ++ [b] = List.replicate (i + 1) b := rep_snoc i b
  have hlr : (List.replicate i b).length = i := List.length_replicate
  have hst := reStands true b2 (List.replicate (i + 1) b) (fun x hx => by rw [List.eq_of_mem_replicate hx]; exact h) (by rw [List.length_replicate]; omega) t days ht
  have hiff := hhi i hlt
  generalize List.replicate i b = R at *
  generalize hR2 : List.replicate (i + 1) b = R2 at *
  have hm1 : minH H (i + 1) = if failN (lastI days t 0) R2 = none then (i : Int) + 1 else minH H i := by
   unfold minH
   by_cases hc : failN (lastI days t 0) R2 = none
   ·have := hiff.1 hc
    rw [if_pos hc]
    split <;> omega
   ·have : ¬ ((i : Int) + 1 ≤ H) := fun h => hc (hiff.2 h)
    rw [if_neg hc,if_neg (by omega),if_neg (by omega)]
  generalize minH H i = M at *
  cases hc : (failN (lastI days t 0) R2).isNone with
  | true =>
   rw [hc] at hst
   have hm2 : minH H (i + 1) = (i : Int) + 1 := by rw [hm1]; exact if_pos (by simpa using hc)
   repeat' (first|(with_reducible first|apply qA|apply qB|apply qC|apply qD|apply qE|apply qF)|(simp (disch:=omega) only [go_sem,simprocAttr,qN,qO,qP,qQ,hd,rowC_snocL,hrep,rF,rG])|exact qM rfl rfl rfl|(refine qG rfl ?_)|(refine qK (hst) (by decide) ?_)|(refine qH rfl ?_)|(refine qI rfl ?_ ?_<;>intro hc<;>(try simp only [go_sem] at hc))|(refine qJ ?_ ?_<;>intro hc<;>(try simp only [hc])<;>(try simp only [go_sem] at hc)))
   refine ⟨⟨i + 1,hlt⟩,?_,Ent.to ?_ ?_⟩ <;> first | (show _ < _; (try simp only); omega) | (simp (disch:=omega) only [qR,qS,qT,qU,get,Nat.reduceEqDiff,↓reduceIte,qV,qW,qX,qY,qZ,and_self,dI,i64_in,and_true,true_and,rA,rB,rC,rD,hm2,hR2])
  | false =>
   rw [hc] at hst
   have hm2 : minH H (i + 1) = M := by rw [hm1]; exact if_neg (by intro e; rw [e] at hc; cases hc)
   repeat' (first|(with_reducible first|apply qA|apply qB|apply qC|apply qD|apply qE|apply qF)|(simp (disch:=omega) only [go_sem,simprocAttr,qN,qO,qP,qQ,hd,rowC_snocL,hrep,rF,rG])|exact qM rfl rfl rfl|(refine qG rfl ?_)|(refine qK (hst) (by decide) ?_)|(refine qH rfl ?_)|(refine qI rfl ?_ ?_<;>intro hc<;>(try simp only [go_sem] at hc))|(refine qJ ?_ ?_<;>intro hc<;>(try simp only [hc])<;>(try simp only [go_sem] at hc)))
   refine ⟨⟨i + 1,hlt⟩,?_,Ent.to ?_ ?_⟩ <;> first | (show _ < _; (try simp only); omega) | (simp (disch:=omega) only [qR,qS,qT,qU,get,Nat.reduceEqDiff,↓reduceIte,qV,qW,qX,qY,qZ,and_self,dI,i64_in,and_true,true_and,rA,rB,rC,rD,hm2,hR2])
 ·obtain rfl : i = 50 := by omega
  have hd : decide (((50 : Nat) : Int) + 1 ≤ 50) = false := by decide
  have hm : minH H 50 = H := by rw [minH,if_neg (by omega)]
  repeat' (first|(with_reducible first|apply qA|apply qB|apply qC|apply qD|apply qE|apply qF)|(simp (disch:=omega) only [go_sem,simprocAttr,qN,qO,qP,qQ,hd,hm])|exact qM rfl rfl rfl|(refine qG rfl ?_)|(refine qH rfl ?_)|(refine qI rfl ?_ ?_<;>intro hc<;>(try simp only [go_sem] at hc))|(refine qJ ?_ ?_<;>intro hc<;>(try simp only [hc])<;>(try simp only [go_sem] at hc)))
theorem reTables (b1 b2 : Bool) (l : List (Int × Int)) (hl : l.length ≤ 2 ^ 36) : DCall Tryz.prog 11 [.c (.sl b1 2 (rows eK l)),.c (.sl b2 2 (rows eK l))] [] (bD true) [] := by
 have e : ((l.length : Int) != l.length) = false := by simp
 refine DCall.of Tryz.func11 sf11 hb11 (Nat.le_of_ble_eq_true rfl) (okRes_nil fun _ => rfl) ?_; simp only [s11,idxs,Nat.reduceAdd]
 repeat' (first|(with_reducible first|apply qA|apply qB|apply qC|apply qD|apply qE|apply qF)|(refine qL rfl (WF.of ?_) ?_; first|rfl|skip)|(simp (disch:=omega) only [go_sem,simprocAttr,qN,qO,qP,qQ,e])|exact qM rfl rfl rfl|(refine qG rfl ?_)|(refine qH rfl ?_)|(refine qI rfl ?_ ?_<;>intro hc<;>(try simp only [go_sem] at hc))|(refine qJ ?_ ?_<;>intro hc<;>(try simp only [hc])<;>(try simp only [go_sem] at hc)))
 refine DW.loop (ι := { i : Nat // i ≤ l.length }) (fun i => ⟨26,[(5,dI i.1),(1,.c (.sl b2 2 (rows eK l))),(0,.c (.sl b1 2 (rows eK l)))],[]⟩) (fun i => l.length - i.1) ⟨0,Nat.zero_le _⟩ ?_ ?_
 ·refine Ent.to ?_ ?_ <;> simp (disch:=omega) only [qR,qS,qT,qU,get,Nat.reduceEqDiff,↓reduceIte,qV,qW,qX,qY,qZ,and_self,dI,i64_in,and_true,true_and,rA,rB,rC,rD]
 rintro ⟨i,hi⟩
 rcases at_or l i hi with ⟨v,hv,hlt,hd⟩ | ⟨he,hd⟩
 ·repeat' (first|(with_reducible first|apply qA|apply qB|apply qC|apply qD|apply qE|apply qF)|(refine qL rfl (WF.of ?_) ?_; first|rfl|skip)|(simp (disch:=omega) only [go_sem,simprocAttr,qN,qO,qP,qQ,hd,hv,rF,rG])|exact qM rfl rfl rfl|(refine qG rfl ?_)|(refine qH rfl ?_)|(refine qI rfl ?_ ?_<;>intro hc<;>(try simp only [go_sem] at hc))|(refine qJ ?_ ?_<;>intro hc<;>(try simp only [hc])<;>(try simp only [go_sem] at hc)))
  refine ⟨⟨i + 1,hlt⟩,?_,Ent.to ?_ ?_⟩ <;> first | (show _ < _; (try simp only); omega) | (simp (disch:=omega) only [qR,qS,qT,qU,get,Nat.reduceEqDiff,↓reduceIte,qV,qW,qX,qY,qZ,and_self,dI,i64_in,and_true,true_and,rA,rB,rC,rD])
 ·repeat' (first|(with_reducible first|apply qA|apply qB|apply qC|apply qD|apply qE|apply qF)|(refine qL rfl (WF.of ?_) ?_; first|rfl|skip)|(simp (disch:=omega) only [go_sem,simprocAttr,qN,qO,qP,qQ,hd])|exact qM rfl rfl rfl|(refine qG rfl ?_)|(refine qH rfl ?_)|(refine qI rfl ?_ ?_<;>intro hc<;>(try simp only [go_sem] at hc))|(refine qJ ?_ ?_<;>intro hc<;>(try simp only [hc])<;>(try simp only [go_sem] at hc)))
end Go.Dw.Seat
end
section
set_option linter.unusedSimpArgs false
set_option maxRecDepth 100000
namespace Go.Dw.Seat
open Go Go.Dw Go.Proofs Go.IntWalk
abbrev rsL (b : Bool) (l : List PRs) : D := .c (.sl b 2 (rows eR l))
theorem rowC_snocR (l : List PRs) (x : PRs) : rowC (rows eR l) ++ [[D.c (.sl false 1 (rows eI x.on)),D.c (.v (.int .i64 x.sh))]] = rowC (rows eR (l ++ [x])) := by simp [rowC,rows,eR]
def apRS (a : List PRs) (e : PRs) : Option Exit × List PRs := (none,a ++ [e])
theorem apR_run : ∀ (L : List PRs) (a : List PRs),runIt apRS a L = (none,a ++ L)
 | [],a => by simp [runIt]
 | e :: L,a => by
  simp only [runIt,apRS,apR_run L]
  simp
abbrev rsC (p : PBs) (b : PBx) (below above : List PPl) : List C := [.ro false [.sl false 3 (rows eP above)] 0,.ro false [.sl false 3 (rows eP below)] 0,.ro false (bedC p b) 0]
set_option maxHeartbeats 1000000 in
theorem plAppSeq (p : PBs) (b : PBx) (hb : b.ok) (below above : List PPl) (hl1 : below.length ≤ 1000) (hl2 : above.length ≤ 1000) (hf1 : ∀ q ∈ below,q.fine) (hf2 : ∀ q ∈ above,q.fine) : DCall Tryz.prog 83 [.c (.v (.slice none 0 0)),.c (.fn (.func 65) [] (rsC p b below above))] [] (rsL false (above.map (rsF b below))) [] := by
 have hit := plRests1 p b hb below above hl1 hl2 hf1 hf2
 have hbl : (above.map (rsF b below)).length ≤ 1000 := by rw [List.length_map]; exact hl2
 generalize above.map (rsF b below) = L at *
 refine DCall.of Tryz.func83 sf83 hb83 (Nat.le_of_ble_eq_true rfl) (okRes_nil fun _ => rfl) ?_; simp only [s83,idxs,Nat.reduceAdd]
 repeat' (first|(with_reducible first|apply qA|apply qB|apply qC|apply qD|apply qE|apply qF)|(simp (disch:=omega) only [go_sem,simprocAttr,qN,qO,qP,qQ])|exact qM rfl rfl rfl|(refine qG rfl ?_)|(refine qH rfl ?_)|(refine qI rfl ?_ ?_<;>intro hc<;>(try simp only [go_sem] at hc))|(refine qJ ?_ ?_<;>intro hc<;>(try simp only [hc])<;>(try simp only [go_sem] at hc)))
 (refine DW.ent (Ent.adoptB 2 0 11 2 rfl rfl rfl rfl) ?_; simp only [ins,Nat.reduceLT,Nat.reduceEqDiff,↓reduceIte,List.set_cons_zero,List.set_cons_succ])
 refine DW.rngBS (fs := []) (caps := [.c (.ro false [.sl false 3 (rows eP above)] 0),.c (.ro false [.sl false 3 (rows eP below)] 0),.c (.ro false (bedC p b) 0)]) (fun y : List PRs => [(11,.row 2 (rowC (rows eR y))),(2,.box [.own 11])]) [] apRS enR (fun _ => True) L hit (fun t y => y.length + t.length ≤ 1000) (by simpa using hbl) (fun a e t ha he _ => by simp only [apRS,List.length_append,List.length_cons,List.length_nil] at ha ⊢; omega) rfl (fun _ => ⟨rfl,rfl⟩) rfl (by decide) (fun _ _ => rfl) (fun _ _ _ => rfl) (by simp only [List.map_cons,List.map_nil]; decide) (fun _ => rfl) (fun _ => wf_row rfl rfl) (fun _ => nb_row eR_nb _ rfl) (by simp only [List.all_cons,List.all_nil,Blk.nb,rowC_nb,D.nb,D.nbs,C.nb,C.nbs,C.nbss,rows_nb eI_nb,Bool.and_true,Bool.not_false,Bool.and_self,bD,dI,iD,rows_nb eP_nb,rows_nb eLs_nb,rows_nb eR_nb]) (fun _ _ => rfl) ?_ ?_
 ·rintro y e t hy he v
  simp only [List.length_cons] at hy
  have hy : y.length ≤ 1000 := by omega
  simp (disch:=omega) only [go_sem,simprocAttr,qN,qO,qP,qQ,rF,rG,apRS]
  repeat' (first|(with_reducible first|apply qA|apply qB|apply qC|apply qD|apply qE|apply qF)|(simp (disch:=omega) only [go_sem,simprocAttr,qN,qO,qP,qQ,rF,rG])|exact qM rfl rfl rfl|(refine qG rfl ?_)|(refine qH rfl ?_)|(refine qI rfl ?_ ?_<;>intro hc<;>(try simp only [go_sem] at hc))|(refine qJ ?_ ?_<;>intro hc<;>(try simp only [hc])<;>(try simp only [go_sem] at hc)))
  refine round_end rfl rfl (Ent.to ?_ ?_) <;> simp (disch:=omega) only [qR,qS,qT,qU,get,Nat.reduceEqDiff,↓reduceIte,qV,qW,qX,qY,qZ,and_self,dI,i64_in,and_true,true_and,rA,rB,rC,rD,capB,List.cons_append,List.nil_append,rowC_snocR]
 ·rw [apR_run]
  repeat' (first|(with_reducible first|apply qA|apply qB|apply qC|apply qD|apply qE|apply qF)|(simp (disch:=omega) only [go_sem,simprocAttr,qN,qO,qP,qQ])|exact qM rfl rfl rfl|(refine qG rfl ?_)|(refine qH rfl ?_)|(refine qI rfl ?_ ?_<;>intro hc<;>(try simp only [go_sem] at hc))|(refine qJ ?_ ?_<;>intro hc<;>(try simp only [hc])<;>(try simp only [go_sem] at hc)))
  (refine retS_ent (Ent.rel 11 rfl) ?_; simp (disch:=omega) only [go_sem,simprocAttr,qN,qO,qP,qQ])
  refine retS_wk rfl ?_ (by simp only [Blk.nb,rowC_nb,D.nb,D.nbs,C.nb,C.nbs,C.nbss,rows_nb eI_nb,Bool.and_true,Bool.not_false,Bool.and_self,bD,dI,iD,rows_nb eP_nb,rows_nb eLs_nb,rows_nb eR_nb]); exact .refl _
theorem plCollect (p : PBs) (b : PBx) (hb : b.ok) (below above : List PPl) (hl1 : below.length ≤ 1000) (hl2 : above.length ≤ 1000) (hf1 : ∀ q ∈ below,q.fine) (hf2 : ∀ q ∈ above,q.fine) : DCall Tryz.prog 56 [.c (.fn (.func 65) [] (rsC p b below above))] [] (rsL false (above.map (rsF b below))) [] := by
 have h1 := plAppSeq p b hb below above hl1 hl2 hf1 hf2
 refine DCall.of Tryz.func56 sf56 hb56 (Nat.le_of_ble_eq_true rfl) (okRes_nil fun _ => rfl) ?_; simp only [s56,idxs,Nat.reduceAdd]
 repeat' (first|(with_reducible first|apply qA|apply qB|apply qC|apply qD|apply qE|apply qF)|(simp (disch:=omega) only [go_sem,simprocAttr,qN,qO,qP,qQ])|exact qM rfl rfl rfl|(refine qG rfl ?_)|(refine qK (h1) (by decide) ?_)|(refine qH rfl ?_)|(refine qI rfl ?_ ?_<;>intro hc<;>(try simp only [go_sem] at hc))|(refine qJ ?_ ?_<;>intro hc<;>(try simp only [hc])<;>(try simp only [go_sem] at hc)))
 refine retS_wk rfl ?_ (by simp only [Blk.nb,rowC_nb,D.nb,D.nbs,C.nb,C.nbs,C.nbss,rows_nb eI_nb,Bool.and_true,Bool.not_false,Bool.and_self,bD,dI,iD,rows_nb eP_nb,rows_nb eLs_nb,rows_nb eR_nb]); exact .refl _
theorem two_ls (lab : Bool) (l m : List PPl) : D.c (.sl lab 1 (rows eLs [l,m])) = D.c (.sl lab 1 [[C.sl false 3 (rows eP l)],[C.sl false 3 (rows eP m)]]) := rfl
def rsX (p : PBs) (b : PBx) (below above : List PPl) : D := if rgtE p b [below,above] = 0 then rsL false (above.map (rsF b below)) else .c (.v (.slice none 0 0))
theorem rgt_op {p : PBs} {b : PBx} {ls : List (List PPl)} (h : rgtE p b ls = 0) : opE p b ls = 0 ∧ ∀ l ∈ ls,Lies p b l := by
 unfold rgtE at h
 split at h
 ·rename_i h1; exact absurd h h1
 ·rename_i h1
  split at h
  ·rename_i h2
   refine ⟨by simpa using h1,fun l hl => flt_lies.1 ?_⟩
   have := List.all_eq_true.1 h2 l hl
   simpa using this
  ·cases h
set_option maxHeartbeats 2000000 in
theorem plRestsX (p : PBs) (b : PBx) (below above : List PPl) (hl1 : below.length ≤ 2 ^ 36) (hl2 : above.length ≤ 2 ^ 36) : DCall Tryz.prog 25 [bsD p,bxD b,lyD false below,lyD false above] [] (.tup [rsX p b below above,dI (rgtE p b [below,above])]) [] := by
 have hls : ∀ l ∈ [below,above],l.length ≤ 2 ^ 36 := by simp [hl1,hl2]
 by_cases hc : chkE p b = 0
 case neg =>
  have h1 := plOpenE true p b [below,above] hc
  rw [two_ls] at h1
  have hE : opE p b [below,above] = chkE p b := if_pos hc
  have hT : rgtE p b [below,above] = chkE p b := by unfold rgtE; rw [hE,if_pos hc]
  rw [rsX,hT,if_neg hc]
  generalize chkE p b = e at *
  have hd : (e != 0) = true := by simpa using hc
  refine DCall.of Tryz.func25 sf25 hb25 (Nat.le_of_ble_eq_true rfl) (okRes_nil fun _ => rfl) ?_; simp only [s25,idxs,Nat.reduceAdd]
  repeat' (first|(with_reducible first|apply qA|apply qB|apply qC|apply qD|apply qE|apply qF)|(simp (disch:=omega) only [go_sem,simprocAttr,qN,qO,qP,qQ,hd])|exact qM rfl rfl rfl|(refine qG rfl ?_)|(refine qK (h1) (by decide) ?_)|(refine qH rfl ?_)|(refine qI rfl ?_ ?_<;>intro hc<;>(try simp only [go_sem] at hc))|(refine qJ ?_ ?_<;>intro hc<;>(try simp only [hc])<;>(try simp only [go_sem] at hc)))
 have h1 := plOpen true p b [below,above] (by simp) hls hc
 rw [two_ls] at h1
 have hE : opE p b [below,above] = lyE [below,above] := if_neg (by rw [hc]; decide)
 by_cases hy : lyE [below,above] = 0
 case neg =>
  have hT : rgtE p b [below,above] = lyE [below,above] := by unfold rgtE; rw [hE,if_pos hy]
  rw [rsX,hT,if_neg hy]
  generalize lyE [below,above] = e at *
  have hd : (e != 0) = true := by simpa using hy
  refine DCall.of Tryz.func25 sf25 hb25 (Nat.le_of_ble_eq_true rfl) (okRes_nil fun _ => rfl) ?_; simp only [s25,idxs,Nat.reduceAdd]
  repeat' (first|(with_reducible first|apply qA|apply qB|apply qC|apply qD|apply qE|apply qF)|(simp (disch:=omega) only [go_sem,simprocAttr,qN,qO,qP,qQ,hd])|exact qM rfl rfl rfl|(refine qG rfl ?_)|(refine qK (h1) (by decide) ?_)|(refine qH rfl ?_)|(refine qI rfl ?_ ?_<;>intro hc<;>(try simp only [go_sem] at hc))|(refine qJ ?_ ?_<;>intro hc<;>(try simp only [hc])<;>(try simp only [go_sem] at hc)))
 have k1 := ly_ok hy below (by simp)
 have k2 := ly_ok hy above (by simp)
 obtain ⟨hp,hb⟩ := chk_ok.1 hc
 rw [hy] at h1
 have h3 := plRight true p b [below,above] (by simp) hls
 rw [two_ls,if_pos hc] at h3
 have h4 := plRests0 p b below above
 have h5 := plCollect p b hb below above (by omega) (by omega) (fun q hq => fine_of (k1.2 q hq)) (fun q hq => fine_of (k2.2 q hq))
 by_cases hr : rgtE p b [below,above] = 0
 ·rw [rsX,if_pos hr]
  rw [hr] at h3 ⊢
  refine DCall.of Tryz.func25 sf25 hb25 (Nat.le_of_ble_eq_true rfl) (okRes_nil fun _ => rfl) ?_; simp only [s25,idxs,Nat.reduceAdd]
  repeat' (first|(with_reducible first|apply qA|apply qB|apply qC|apply qD|apply qE|apply qF)|(simp (disch:=omega) only [go_sem,simprocAttr,qN,qO,qP,qQ])|exact qM rfl rfl rfl|(refine qG rfl ?_)|(refine qK (h1) (by decide) ?_)|(refine qK (h3) (by decide) ?_)|(refine qK (h4) (by decide) ?_)|(refine qK (h5) (by decide) ?_)|(refine qH rfl ?_)|(refine qI rfl ?_ ?_<;>intro hc<;>(try simp only [go_sem] at hc))|(refine qJ ?_ ?_<;>intro hc<;>(try simp only [hc])<;>(try simp only [go_sem] at hc)))
  refine retS_wk rfl ?_ (by simp only [Blk.nb,rowC_nb,D.nb,D.nbs,C.nb,C.nbs,C.nbss,rows_nb eI_nb,Bool.and_true,Bool.not_false,Bool.and_self,bD,dI,iD,rows_nb eP_nb,rows_nb eLs_nb,rows_nb eR_nb]); exact .refl _
 ·rw [rsX,if_neg hr]
  generalize rgtE p b [below,above] = e at *
  have hd : (e != 0) = true := by simpa using hr
  refine DCall.of Tryz.func25 sf25 hb25 (Nat.le_of_ble_eq_true rfl) (okRes_nil fun _ => rfl) ?_; simp only [s25,idxs,Nat.reduceAdd]
  repeat' (first|(with_reducible first|apply qA|apply qB|apply qC|apply qD|apply qE|apply qF)|(simp (disch:=omega) only [go_sem,simprocAttr,qN,qO,qP,qQ,hd])|exact qM rfl rfl rfl|(refine qG rfl ?_)|(refine qK (h1) (by decide) ?_)|(refine qK (h3) (by decide) ?_)|(refine qH rfl ?_)|(refine qI rfl ?_ ?_<;>intro hc<;>(try simp only [go_sem] at hc))|(refine qJ ?_ ?_<;>intro hc<;>(try simp only [hc])<;>(try simp only [go_sem] at hc)))
def twoN : List PRs → Int
 | [] => 0
 | r :: l => (if 2 ≤ r.on.length then 1 else 0) + twoN l
def bndT (p : PBs) (b : PBx) (l : List PPl) (k : Nat) : Int := twoN ((l.map (trnP p b k)).map (rsF b l))
def bindS (p : PBs) (b : PBx) (l : List PPl) : Nat → Int × Int
 | 0 => (0,0)
 | k + 1 => if (bindS p b l k).2 < bndT p b l k then ((k : Int),bndT p b l k) else bindS p b l k
def cnS (a : Int) (e : PRs) : Option Exit × Int := (none,a + if 2 ≤ e.on.length then 1 else 0)
theorem cn_run : ∀ (L : List PRs) (a : Int),runIt cnS a L = (none,a + twoN L)
 | [],a => by simp [runIt,twoN]
 | e :: L,a => by
  simp only [runIt,cnS,cn_run L,twoN,Int.add_assoc]
theorem twoN_b : ∀ L : List PRs,0 ≤ twoN L ∧ twoN L ≤ (L.length : Int)
 | [] => by simp [twoN]
 | e :: L => by
  have := twoN_b L
  rw [twoN,List.length_cons]
  split <;> omega
theorem trn_fine {p : PBs} (hp : p.ok) {b : PBx} (hb : b.ok) (k : Nat) {q : PPl} (h : (0 ≤ q.x ∧ q.x ≤ 140) ∧ 0 ≤ q.y ∧ q.y ≤ 140) : (trnP p b k q).fine := by
 have hs := side_pos hb q
 have := hp.lg
 have := hp.wd
 have := hp.ov
 unfold trnP rmX rmY
 constructor <;> dsimp only <;> split <;> omega
set_option maxHeartbeats 4000000 in
theorem plBind (p : PBs) (b : PBx) (l : List PPl) (hl : l.length ≤ 2 ^ 36) : DCall Tryz.prog 8 [bsD p,bxD b,lyD false l] [] (.tup [dI (if rgtE p b [l] = 0 then (bindS p b l 4).1 else 0),dI (if rgtE p b [l] = 0 then (bindS p b l 4).2 else 0),dI (rgtE p b [l])]) [] := by
 have h3 := plRight true p b [l] (by simp) (by simpa using hl)
 rw [one_ls] at h3
 by_cases hr : rgtE p b [l] = 0
 case neg =>
  rw [if_neg hr,if_neg hr]
  generalize rgtE p b [l] = e at *
  have hd : (e != 0) = true := by simpa using hr
  by_cases hc : chkE p b = 0
  ·rw [if_pos hc] at h3
   refine DCall.of Tryz.func8 sf8 hb8 (Nat.le_of_ble_eq_true rfl) (okRes_nil fun _ => rfl) ?_; simp only [s8,idxs,Nat.reduceAdd]
   repeat' (first|(with_reducible first|apply qA|apply qB|apply qC|apply qD|apply qE|apply qF)|(refine qL rfl (WF.of ?_) ?_; first|rfl|skip)|(simp (disch:=omega) only [go_sem,simprocAttr,qN,qO,qP,qQ,hd])|exact qM rfl rfl rfl|(refine qG rfl ?_)|(refine qK (h3) (by decide) ?_)|(refine qH rfl ?_)|(refine qI rfl ?_ ?_<;>intro hc<;>(try simp only [go_sem] at hc))|(refine qJ ?_ ?_<;>intro hc<;>(try simp only [hc])<;>(try simp only [go_sem] at hc)))
  ·rw [if_neg hc] at h3
   refine DCall.of Tryz.func8 sf8 hb8 (Nat.le_of_ble_eq_true rfl) (okRes_nil fun _ => rfl) ?_; simp only [s8,idxs,Nat.reduceAdd]
   repeat' (first|(with_reducible first|apply qA|apply qB|apply qC|apply qD|apply qE|apply qF)|(refine qL rfl (WF.of ?_) ?_; first|rfl|skip)|(simp (disch:=omega) only [go_sem,simprocAttr,qN,qO,qP,qQ,hd])|exact qM rfl rfl rfl|(refine qG rfl ?_)|(refine qK (h3) (by decide) ?_)|(refine qH rfl ?_)|(refine qI rfl ?_ ?_<;>intro hc<;>(try simp only [go_sem] at hc))|(refine qJ ?_ ?_<;>intro hc<;>(try simp only [hc])<;>(try simp only [go_sem] at hc)))
 obtain ⟨ho,hli⟩ := rgt_op hr
 obtain ⟨⟨hc,hy⟩,hp,hb⟩ := op_ok ho
 rw [if_pos hr,if_pos hr,hr]
 rw [hr,if_pos hc] at h3
 have k1 := ly_ok hy l (by simp)
 have ht := plTurns
 refine DCall.of Tryz.func8 sf8 hb8 (Nat.le_of_ble_eq_true rfl) (okRes_nil fun _ => rfl) ?_; simp only [s8,idxs,Nat.reduceAdd]
 repeat' (first|(with_reducible first|apply qA|apply qB|apply qC|apply qD|apply qE|apply qF)|(refine qL rfl (WF.of ?_) ?_; first|rfl|skip)|(simp (disch:=omega) only [go_sem,simprocAttr,qN,qO,qP,qQ])|exact qM rfl rfl rfl|(refine qG rfl ?_)|(refine qK (h3) (by decide) ?_)|(refine qK (ht) (by decide) ?_)|(refine qH rfl ?_)|(refine qI rfl ?_ ?_<;>intro hc<;>(try simp only [go_sem] at hc))|(refine qJ ?_ ?_<;>intro hc<;>(try simp only [hc])<;>(try simp only [go_sem] at hc)))
 refine DW.loop (ι := { k : Nat // k ≤ 4 }) (fun k => ⟨51,[(26,dI k.1),(25,dI 4),(9,.box 9 0),(7,dI (bindS p b l k.1).2),(6,dI (bindS p b l k.1).1),(2,lyD false l)],[(9,.box (bedL p b))]⟩) (fun k => 4 - k.1) ⟨0,by decide⟩ ?_ ?_
 ·refine Ent.to ?_ ?_ <;> simp (disch:=omega) only [qR,qS,qT,qU,get,Nat.reduceEqDiff,↓reduceIte,qV,qW,qX,qY,qZ,and_self,dI,i64_in,and_true,true_and,rA,rB,rC,rD,bindS]
  all_goals first | exact ⟨.refl _,.refl _,.refl _⟩ | exact ⟨.refl _,.refl _⟩ | exact .refl _
 rintro ⟨k,hk⟩
 dsimp only
 by_cases hlt : k < 4
 ·have hd : decide ((k : Int) < 4) = true := decide_eq_true (by omega)
  have h4 := plTurned p b hp hb false l (by omega) (fun q hq => fine_of (k1.2 q hq)) k hlt
  have h5 := plRests0 p b l (l.map (trnP p b k))
  have hit := plRests1 p b hb l (l.map (trnP p b k)) (by omega) (by rw [List.length_map]; omega) (fun q hq => fine_of (k1.2 q hq)) (fun q hq => by
   obtain ⟨u,hu,rfl⟩ := List.mem_map.1 hq
   exact trn_fine hp hb k (k1.2 u hu))
  have hbl : (l.map (trnP p b k)).length ≤ 200 := by rw [List.length_map]; omega
  have hbT : bndT p b l k = twoN ((l.map (trnP p b k)).map (rsF b l)) := rfl
  have hbb : bindS p b l (k + 1) = if (bindS p b l k).2 < bndT p b l k then ((k : Int),bndT p b l k) else bindS p b l k := rfl
  have htn := twoN_b ((l.map (trnP p b k)).map (rsF b l))
  rw [List.length_map,← hbT] at htn
  repeat' (first|(with_reducible first|apply qA|apply qB|apply qC|apply qD|apply qE|apply qF)|(refine qL rfl (WF.of ?_) ?_; first|rfl|skip)|(simp (disch:=omega) only [go_sem,simprocAttr,qN,qO,qP,qQ,hd])|exact qM rfl rfl rfl|(refine qG rfl ?_)|(refine qK (h4) (by decide) ?_)|(refine qK (h5) (by decide) ?_)|(refine qH rfl ?_)|(refine qI rfl ?_ ?_<;>intro hc<;>(try simp only [go_sem] at hc))|(refine qJ ?_ ?_<;>intro hc<;>(try simp only [hc])<;>(try simp only [go_sem] at hc)))
  refine DW.ent (σ' := ⟨51,[(35,.fn (.func 65) [] [.c (.ro false [.sl false 3 (rows eP (l.map (trnP p b k)))] 0),.c (.ro false [.sl false 3 (rows eP l)] 0),.c (.ro false (bedC p b) 0)]),(26,dI k),(25,dI 4),(11,.box 11 0),(10,dI k),(9,.box 9 0),(7,dI (bindS p b l k).2),(6,dI (bindS p b l k).1),(2,lyD false l)],[(11,.box [dI 0]),(9,.box (bedL p b))]⟩) ?_ ?_
  ·refine Ent.to ?_ ?_ <;> simp (disch:=omega) only [qR,qS,qT,qU,get,Nat.reduceEqDiff,↓reduceIte,qV,qW,qX,qY,qZ,and_self,dI,i64_in,and_true,true_and,rA,rB,rC,rD]
   all_goals first | exact ⟨.refl _,.refl _,.refl _⟩ | exact ⟨.refl _,.refl _⟩ | exact .refl _
  have hll : ((l.map (trnP p b k)).map (rsF b l)).length ≤ 200 := by rw [List.length_map]; exact hbl
  generalize l.map (trnP p b k) = M at *
  generalize M.map (rsF b l) = L at *
  refine DW.rngBS (fs := []) (caps := [.c (.ro false [.sl false 3 (rows eP M)] 0),.c (.ro false [.sl false 3 (rows eP l)] 0),.c (.ro false (bedC p b) 0)]) (fun y : Int => [(11,.box [dI y]),(9,.box (bedL p b))]) 0 cnS enR (fun _ => True) L hit (fun t y => 0 ≤ y ∧ y + (t.length : Int) ≤ 1000) (by omega) (fun a e t ha he _ => by
   simp only [cnS,List.length_cons] at ha ⊢
   split <;> omega) rfl (fun _ => ⟨rfl,rfl⟩) rfl (by decide) (fun _ _ => rfl) (fun _ _ _ => rfl) (by simp only [List.map_cons,List.map_nil]; decide) (fun _ => rfl) (fun _ => rfl) (fun _ => (by simp only [List.all_cons,List.all_nil,Blk.nb,rowC_nb,D.nb,D.nbs,C.nb,C.nbs,C.nbss,rows_nb eI_nb,Bool.and_true,Bool.not_false,Bool.and_self,bD,dI,iD,rows_nb eP_nb,rows_nb eLs_nb,rows_nb eR_nb])) (by simp only [List.all_cons,List.all_nil,Blk.nb,rowC_nb,D.nb,D.nbs,C.nb,C.nbs,C.nbss,rows_nb eI_nb,Bool.and_true,Bool.not_false,Bool.and_self,bD,dI,iD,rows_nb eP_nb,rows_nb eLs_nb,rows_nb eR_nb]) (fun _ _ => rfl) ?_ ?_
  ·rintro y e t hy he v
   simp only [List.length_cons] at hy
   by_cases h2 : 2 ≤ e.on.length
   ·have d2 : decide ((2 : Int) ≤ (e.on.length : Int)) = true := decide_eq_true (by omega)
    have hS : cnS y e = (none,y + 1) := by rw [cnS,if_pos h2]
    rw [hS]
    simp (disch:=omega) only [go_sem,simprocAttr,qN,qO,qP,qQ,rF,rG]
    repeat' (first|(with_reducible first|apply qA|apply qB|apply qC|apply qD|apply qE|apply qF)|(refine qL rfl (WF.of ?_) ?_; first|rfl|skip)|(simp (disch:=omega) only [go_sem,simprocAttr,qN,qO,qP,qQ,rF,rG,d2])|exact qM rfl rfl rfl|(refine qG rfl ?_)|(refine qH rfl ?_)|(refine qI rfl ?_ ?_<;>intro hc<;>(try simp only [go_sem] at hc))|(refine qJ ?_ ?_<;>intro hc<;>(try simp only [hc])<;>(try simp only [go_sem] at hc)))
    refine round_end rfl rfl (Ent.to ?_ ?_) <;> simp (disch:=omega) only [qR,qS,qT,qU,get,Nat.reduceEqDiff,↓reduceIte,qV,qW,qX,qY,qZ,and_self,dI,i64_in,and_true,true_and,rA,rB,rC,rD,capB,List.cons_append,List.nil_append]
   ·have d2 : decide ((2 : Int) ≤ (e.on.length : Int)) = false := decide_eq_false (by omega)
    have hS : cnS y e = (none,y) := by rw [cnS,if_neg h2,Int.add_zero]
    rw [hS]
    simp (disch:=omega) only [go_sem,simprocAttr,qN,qO,qP,qQ,rF,rG]
    repeat' (first|(with_reducible first|apply qA|apply qB|apply qC|apply qD|apply qE|apply qF)|(refine qL rfl (WF.of ?_) ?_; first|rfl|skip)|(simp (disch:=omega) only [go_sem,simprocAttr,qN,qO,qP,qQ,rF,rG,d2])|exact qM rfl rfl rfl|(refine qG rfl ?_)|(refine qH rfl ?_)|(refine qI rfl ?_ ?_<;>intro hc<;>(try simp only [go_sem] at hc))|(refine qJ ?_ ?_<;>intro hc<;>(try simp only [hc])<;>(try simp only [go_sem] at hc)))
    refine round_end rfl rfl (Ent.to ?_ ?_) <;> simp (disch:=omega) only [qR,qS,qT,qU,get,Nat.reduceEqDiff,↓reduceIte,qV,qW,qX,qY,qZ,and_self,dI,i64_in,and_true,true_and,rA,rB,rC,rD,capB,List.cons_append,List.nil_append]
  ·rw [cn_run,← hbT,Int.zero_add]
   generalize bindS p b l k = B at *
   obtain ⟨B1,B2⟩ := B
   dsimp only at hbb
   by_cases hlt2 : B2 < bndT p b l k
   ·have d2 : decide (B2 < bndT p b l k) = true := decide_eq_true hlt2
    rw [if_pos hlt2] at hbb
    generalize bndT p b l k = T at *
    repeat' (first|(with_reducible first|apply qA|apply qB|apply qC|apply qD|apply qE|apply qF)|(refine qL rfl (WF.of ?_) ?_; first|rfl|skip)|(simp (disch:=omega) only [go_sem,simprocAttr,qN,qO,qP,qQ,d2])|exact qM rfl rfl rfl|(refine qG rfl ?_)|(refine qH rfl ?_)|(refine qI rfl ?_ ?_<;>intro hc<;>(try simp only [go_sem] at hc))|(refine qJ ?_ ?_<;>intro hc<;>(try simp only [hc])<;>(try simp only [go_sem] at hc)))
    refine ⟨⟨k + 1,hlt⟩,?_,Ent.to ?_ ?_⟩ <;> first | (show _ < _; (try simp only); omega) | (simp (disch:=omega) only [qR,qS,qT,qU,get,Nat.reduceEqDiff,↓reduceIte,qV,qW,qX,qY,qZ,and_self,dI,i64_in,and_true,true_and,rA,rB,rC,rD,hbb])
    all_goals first | exact ⟨.refl _,.refl _,.refl _⟩ | exact ⟨.refl _,.refl _⟩ | exact .refl _
   ·have d2 : decide (B2 < bndT p b l k) = false := decide_eq_false hlt2
    rw [if_neg hlt2] at hbb
    generalize bndT p b l k = T at *
    repeat' (first|(with_reducible first|apply qA|apply qB|apply qC|apply qD|apply qE|apply qF)|(refine qL rfl (WF.of ?_) ?_; first|rfl|skip)|(simp (disch:=omega) only [go_sem,simprocAttr,qN,qO,qP,qQ,d2])|exact qM rfl rfl rfl|(refine qG rfl ?_)|(refine qH rfl ?_)|(refine qI rfl ?_ ?_<;>intro hc<;>(try simp only [go_sem] at hc))|(refine qJ ?_ ?_<;>intro hc<;>(try simp only [hc])<;>(try simp only [go_sem] at hc)))
    refine ⟨⟨k + 1,hlt⟩,?_,Ent.to ?_ ?_⟩ <;> first | (show _ < _; (try simp only); omega) | (simp (disch:=omega) only [qR,qS,qT,qU,get,Nat.reduceEqDiff,↓reduceIte,qV,qW,qX,qY,qZ,and_self,dI,i64_in,and_true,true_and,rA,rB,rC,rD,hbb])
    all_goals first | exact ⟨.refl _,.refl _,.refl _⟩ | exact ⟨.refl _,.refl _⟩ | exact .refl _
 ·obtain rfl : k = 4 := by omega
  repeat' (first|(with_reducible first|apply qA|apply qB|apply qC|apply qD|apply qE|apply qF)|(refine qL rfl (WF.of ?_) ?_; first|rfl|skip)|(simp (disch:=omega) only [go_sem,simprocAttr,qN,qO,qP,qQ])|exact qM rfl rfl rfl|(refine qG rfl ?_)|(refine qH rfl ?_)|(refine qI rfl ?_ ?_<;>intro hc<;>(try simp only [go_sem] at hc))|(refine qJ ?_ ?_<;>intro hc<;>(try simp only [hc])<;>(try simp only [go_sem] at hc)))
end Go.Dw.Seat
end
section
set_option linter.unusedSimpArgs false
set_option maxRecDepth 100000
namespace Go.Dw.Seat
open Go Go.Dw Go.Proofs Go.IntWalk
theorem list_same {α : Type} {s t : List α} {i : Nat} (hl : s.length = t.length) (hi : i = s.length) (h : ∀ j,j < i → s[j]? = t[j]?) : s = t := by
 apply List.ext_getElem?
 intro j
 rcases Nat.lt_or_ge j i with h1 | h1
 ·exact h j h1
 ·rw [List.getElem?_eq_none (by omega),List.getElem?_eq_none (by omega)]
theorem upto_succ {p : Nat → Prop} {i : Nat} (h : ∀ j,j < i → p j) (hp : p i) : ∀ j,j < i + 1 → p j := fun j hj => by
 rcases Nat.lt_or_ge j i with h1 | h1
 ·exact h j h1
 ·obtain rfl : j = i := by omega
  exact hp
theorem getE {α : Type} {l : List α} {i : Nat} (h : i < l.length) : ∃ v,l[i]? = some v := ⟨l[i],List.getElem?_eq_getElem h⟩
theorem sameY {R : Bool} {α : Type} {s t : List α} (h : s = t) (hR : R = true) : (R = true ↔ s = t) := by simp [h,hR]
theorem reInts (b1 b2 : Bool) (s t : List Int) (hs : s.length ≤ 2 ^ 36) (ht : t.length ≤ 2 ^ 36) : DCall Tryz.prog 31 [dIs b1 s,dIs b2 t] [] (bD (decide (s = t))) [] := by
 by_cases hl : s.length = t.length
 ·have e : ((s.length : Int) != t.length) = false := by rw [hl]; simp
  generalize hR : decide (s = t) = R
  refine DCall.of Tryz.func31 sf31 hb31 (Nat.le_of_ble_eq_true rfl) (okRes_nil fun _ => rfl) ?_; simp only [s31,idxs,Nat.reduceAdd]
  repeat' (first|(with_reducible first|apply qA|apply qB|apply qC|apply qD|apply qE|apply qF)|(refine qL rfl (WF.of ?_) ?_; first|rfl|skip)|(simp (disch:=omega) only [go_sem,simprocAttr,qN,qO,qP,qQ,e])|exact qM rfl rfl rfl|(refine qG rfl ?_)|(refine qH rfl ?_)|(refine qI rfl ?_ ?_<;>intro hc<;>(try simp only [go_sem] at hc))|(refine qJ ?_ ?_<;>intro hc<;>(try simp only [hc])<;>(try simp only [go_sem] at hc)))
  refine DW.loop (ι := { i : Nat // i ≤ s.length ∧ ∀ j,j < i → s[j]? = t[j]? }) (fun i => ⟨26,[(5,dI i.1),(1,dIs b2 t),(0,dIs b1 s)],[]⟩) (fun i => s.length - i.1) ⟨0,Nat.zero_le _,fun j h => by omega⟩ ?_ ?_
  ·refine Ent.to ?_ ?_ <;> simp (disch:=omega) only [qR,qS,qT,qU,get,Nat.reduceEqDiff,↓reduceIte,qV,qW,qX,qY,qZ,and_self,dI,i64_in,and_true,true_and,rA,rB,rC,rD]
  rintro ⟨i,hi,hij⟩
  dsimp only
  rcases at_or s i hi with ⟨v,hv,hlt,hd⟩ | ⟨he,hd⟩
  ·obtain ⟨u,hu⟩ := getE (l := t) (i := i) (by omega)
   by_cases hvu : v = u
   ·have d1 : (v != u) = false := by rw [hvu]; simp
    repeat' (first|(with_reducible first|apply qA|apply qB|apply qC|apply qD|apply qE|apply qF)|(refine qL rfl (WF.of ?_) ?_; first|rfl|skip)|(simp (disch:=omega) only [go_sem,simprocAttr,qN,qO,qP,qQ,hd,hv,hu,d1])|exact qM rfl rfl rfl|(refine qG rfl ?_)|(refine qH rfl ?_)|(refine qI rfl ?_ ?_<;>intro hc<;>(try simp only [go_sem] at hc))|(refine qJ ?_ ?_<;>intro hc<;>(try simp only [hc])<;>(try simp only [go_sem] at hc)))
    refine ⟨⟨i + 1,by omega,upto_succ hij (by rw [hv,hu,hvu])⟩,?_,Ent.to ?_ ?_⟩ <;> first | (show _ < _; (try simp only); omega) | (simp (disch:=omega) only [qR,qS,qT,qU,get,Nat.reduceEqDiff,↓reduceIte,qV,qW,qX,qY,qZ,and_self,dI,i64_in,and_true,true_and,rA,rB,rC,rD])
   ·have d1 : (v != u) = true := by simpa using hvu
    have hne : R = false := by
     rw [← hR,decide_eq_false_iff_not]
     rintro rfl
     rw [hv] at hu; cases hu; exact hvu rfl
    subst hne
    repeat' (first|(with_reducible first|apply qA|apply qB|apply qC|apply qD|apply qE|apply qF)|(refine qL rfl (WF.of ?_) ?_; first|rfl|skip)|(simp (disch:=omega) only [go_sem,simprocAttr,qN,qO,qP,qQ,hd,hv,hu,d1])|exact qM rfl rfl rfl|(refine qG rfl ?_)|(refine qH rfl ?_)|(refine qI rfl ?_ ?_<;>intro hc<;>(try simp only [go_sem] at hc))|(refine qJ ?_ ?_<;>intro hc<;>(try simp only [hc])<;>(try simp only [go_sem] at hc)))
  ·have hst : R = true := by rw [← hR,decide_eq_true_eq]; exact list_same hl he hij
   subst hst
   repeat' (first|(with_reducible first|apply qA|apply qB|apply qC|apply qD|apply qE|apply qF)|(refine qL rfl (WF.of ?_) ?_; first|rfl|skip)|(simp (disch:=omega) only [go_sem,simprocAttr,qN,qO,qP,qQ,hd])|exact qM rfl rfl rfl|(refine qG rfl ?_)|(refine qH rfl ?_)|(refine qI rfl ?_ ?_<;>intro hc<;>(try simp only [go_sem] at hc))|(refine qJ ?_ ?_<;>intro hc<;>(try simp only [hc])<;>(try simp only [go_sem] at hc)))
 ·have e : ((s.length : Int) != t.length) = true := by rw [bne_iff_ne]; omega
  have hne : decide (s = t) = false := by rw [decide_eq_false_iff_not]; rintro rfl; exact hl rfl
  rw [hne]
  refine DCall.of Tryz.func31 sf31 hb31 (Nat.le_of_ble_eq_true rfl) (okRes_nil fun _ => rfl) ?_; simp only [s31,idxs,Nat.reduceAdd]
  repeat' (first|(with_reducible first|apply qA|apply qB|apply qC|apply qD|apply qE|apply qF)|(refine qL rfl (WF.of ?_) ?_; first|rfl|skip)|(simp (disch:=omega) only [go_sem,simprocAttr,qN,qO,qP,qQ,e])|exact qM rfl rfl rfl|(refine qG rfl ?_)|(refine qH rfl ?_)|(refine qI rfl ?_ ?_<;>intro hc<;>(try simp only [go_sem] at hc))|(refine qJ ?_ ?_<;>intro hc<;>(try simp only [hc])<;>(try simp only [go_sem] at hc)))
def eqP (a b : PPl) : Bool := (a.x == b.x) && ((a.y == b.y) && (a.t == b.t))
theorem eqP_iff {a b : PPl} : eqP a b = true ↔ a = b := by
 obtain ⟨a1,a2,a3⟩ := a
 obtain ⟨b1,b2,b3⟩ := b
 simp [eqP]
theorem reSame (b1 b2 : Bool) (s t : List PPl) (hs : s.length ≤ 2 ^ 36) (ht : t.length ≤ 2 ^ 36) (R : Bool) (hR : (R = true ↔ s = t)) : DCall Tryz.prog 10 [lyD b1 s,lyD b2 t] [] (bD R) [] := by
 by_cases hl : s.length = t.length
 ·have e : ((s.length : Int) != t.length) = false := by rw [hl]; simp
  refine DCall.of Tryz.func10 sf10 hb10 (Nat.le_of_ble_eq_true rfl) (okRes_nil fun _ => rfl) ?_; simp only [s10,idxs,Nat.reduceAdd]
  repeat' (first|(with_reducible first|apply qA|apply qB|apply qC|apply qD|apply qE|apply qF)|(refine qL rfl (WF.of ?_) ?_; first|rfl|skip)|(simp (disch:=omega) only [go_sem,simprocAttr,qN,qO,qP,qQ,e])|exact qM rfl rfl rfl|(refine qG rfl ?_)|(refine qH rfl ?_)|(refine qI rfl ?_ ?_<;>intro hc<;>(try simp only [go_sem] at hc))|(refine qJ ?_ ?_<;>intro hc<;>(try simp only [hc])<;>(try simp only [go_sem] at hc)))
  refine DW.loop (ι := { i : Nat // i ≤ s.length ∧ ∀ j,j < i → s[j]? = t[j]? }) (fun i => ⟨26,[(5,dI i.1),(1,lyD b2 t),(0,lyD b1 s)],[]⟩) (fun i => s.length - i.1) ⟨0,Nat.zero_le _,fun j h => by omega⟩ ?_ ?_
  ·refine Ent.to ?_ ?_ <;> simp (disch:=omega) only [qR,qS,qT,qU,get,Nat.reduceEqDiff,↓reduceIte,qV,qW,qX,qY,qZ,and_self,dI,i64_in,and_true,true_and,rA,rB,rC,rD]
   all_goals first | exact ⟨.refl _,.refl _⟩ | exact .refl _
  rintro ⟨i,hi,hij⟩
  dsimp only
  rcases at_or s i hi with ⟨v,hv,hlt,hd⟩ | ⟨he,hd⟩
  ·obtain ⟨u,hu⟩ := getE (l := t) (i := i) (by omega)
   by_cases hvu : v = u
   ·have d1 : ((v.x == u.x) && ((v.y == u.y) && (v.t == u.t))) = true := eqP_iff.2 hvu
    repeat' (first|(with_reducible first|apply qA|apply qB|apply qC|apply qD|apply qE|apply qF)|(refine qL rfl (WF.of ?_) ?_; first|rfl|skip)|(simp (disch:=omega) only [go_sem,simprocAttr,qN,qO,qP,qQ,hd,hv,hu,d1,rF,rG])|exact qM rfl rfl rfl|(refine qG rfl ?_)|(refine qH rfl ?_)|(refine qI rfl ?_ ?_<;>intro hc<;>(try simp only [go_sem] at hc))|(refine qJ ?_ ?_<;>intro hc<;>(try simp only [hc])<;>(try simp only [go_sem] at hc)))
    refine ⟨⟨i + 1,by omega,upto_succ hij (by rw [hv,hu,hvu])⟩,?_,Ent.to ?_ ?_⟩ <;> first | (show _ < _; (try simp only); omega) | (simp (disch:=omega) only [qR,qS,qT,qU,get,Nat.reduceEqDiff,↓reduceIte,qV,qW,qX,qY,qZ,and_self,dI,i64_in,and_true,true_and,rA,rB,rC,rD])
    all_goals first | exact ⟨.refl _,.refl _⟩ | exact .refl _
   ·have d1 : ((v.x == u.x) && ((v.y == u.y) && (v.t == u.t))) = false := by
     have : ¬ eqP v u = true := fun h => hvu (eqP_iff.1 h)
     simpa [eqP] using this
    have hne : R = false := by
     cases R with
     | false => rfl
     | true =>
      have := hR.1 rfl
      subst this
      rw [hv] at hu; cases hu; exact absurd rfl hvu
    subst hne
    repeat' (first|(with_reducible first|apply qA|apply qB|apply qC|apply qD|apply qE|apply qF)|(refine qL rfl (WF.of ?_) ?_; first|rfl|skip)|(simp (disch:=omega) only [go_sem,simprocAttr,qN,qO,qP,qQ,hd,hv,hu,d1,rF,rG])|exact qM rfl rfl rfl|(refine qG rfl ?_)|(refine qH rfl ?_)|(refine qI rfl ?_ ?_<;>intro hc<;>(try simp only [go_sem] at hc))|(refine qJ ?_ ?_<;>intro hc<;>(try simp only [hc])<;>(try simp only [go_sem] at hc)))
  ·have hst : R = true := hR.2 (list_same hl he hij)
   subst hst
   repeat' (first|(with_reducible first|apply qA|apply qB|apply qC|apply qD|apply qE|apply qF)|(refine qL rfl (WF.of ?_) ?_; first|rfl|skip)|(simp (disch:=omega) only [go_sem,simprocAttr,qN,qO,qP,qQ,hd])|exact qM rfl rfl rfl|(refine qG rfl ?_)|(refine qH rfl ?_)|(refine qI rfl ?_ ?_<;>intro hc<;>(try simp only [go_sem] at hc))|(refine qJ ?_ ?_<;>intro hc<;>(try simp only [hc])<;>(try simp only [go_sem] at hc)))
 ·have e : ((s.length : Int) != t.length) = true := by rw [bne_iff_ne]; omega
  have hne : R = false := by
   cases R with
   | false => rfl
   | true =>
    have := hR.1 rfl
    subst this
    exact absurd rfl hl
  subst hne
  refine DCall.of Tryz.func10 sf10 hb10 (Nat.le_of_ble_eq_true rfl) (okRes_nil fun _ => rfl) ?_; simp only [s10,idxs,Nat.reduceAdd]
  repeat' (first|(with_reducible first|apply qA|apply qB|apply qC|apply qD|apply qE|apply qF)|(refine qL rfl (WF.of ?_) ?_; first|rfl|skip)|(simp (disch:=omega) only [go_sem,simprocAttr,qN,qO,qP,qQ,e])|exact qM rfl rfl rfl|(refine qG rfl ?_)|(refine qH rfl ?_)|(refine qI rfl ?_ ?_<;>intro hc<;>(try simp only [go_sem] at hc))|(refine qJ ?_ ?_<;>intro hc<;>(try simp only [hc])<;>(try simp only [go_sem] at hc)))
theorem laSpan (a b : Int) : DCall Tryz.prog 29 [dI a,dI b] [] (.agg [dI a,dI b]) [] := by
 refine DCall.of Tryz.func29 sf29 hb29 (Nat.le_of_ble_eq_true rfl) (okRes_nil fun _ => rfl) ?_; simp only [s29,idxs,Nat.reduceAdd]
 repeat' (first|(with_reducible first|apply qA|apply qB|apply qC|apply qD|apply qE|apply qF)|(simp (disch:=omega) only [go_sem,simprocAttr,qN,qO,qP,qQ])|exact qM rfl rfl rfl|(refine qG rfl ?_)|(refine qH rfl ?_)|(refine qI rfl ?_ ?_<;>intro hc<;>(try simp only [go_sem] at hc))|(refine qJ ?_ ?_<;>intro hc<;>(try simp only [hc])<;>(try simp only [go_sem] at hc)))
def exBs (o : Int) : PBs := ⟨120,80,15,o,180,500000⟩
def exBx : PBx := ⟨40,30,25,5000,6000,900,1000⟩
def exLy : PLy := ⟨600,100,500,3000000,3000000⟩
theorem laBase (o : Int) : DCall Tryz.prog 20 [dI o] [] (bsD (exBs o)) [] := by
 refine DCall.of Tryz.func20 sf20 hb20 (Nat.le_of_ble_eq_true rfl) (okRes_nil fun _ => rfl) ?_; simp only [s20,idxs,Nat.reduceAdd]
 repeat' (first|(with_reducible first|apply qA|apply qB|apply qC|apply qD|apply qE|apply qF)|(simp (disch:=omega) only [go_sem,simprocAttr,qN,qO,qP,qQ,exBs])|exact qM rfl rfl rfl|(refine qG rfl ?_)|(refine qH rfl ?_)|(refine qI rfl ?_ ?_<;>intro hc<;>(try simp only [go_sem] at hc))|(refine qJ ?_ ?_<;>intro hc<;>(try simp only [hc])<;>(try simp only [go_sem] at hc)))
theorem laBox : DCall Tryz.prog 21 [] [] (bxD exBx) [] := by
 have h1 := laSpan 5000 6000
 have h2 := laSpan 900 1000
 refine DCall.of Tryz.func21 sf21 hb21 (Nat.le_of_ble_eq_true rfl) (okRes_nil fun _ => rfl) ?_; simp only [s21,idxs,Nat.reduceAdd]
 repeat' (first|(with_reducible first|apply qA|apply qB|apply qC|apply qD|apply qE|apply qF)|(simp (disch:=omega) only [go_sem,simprocAttr,qN,qO,qP,qQ,exBx])|exact qM rfl rfl rfl|(refine qG rfl ?_)|(refine qK (h1) (by decide) ?_)|(refine qK (h2) (by decide) ?_)|(refine qH rfl ?_)|(refine qI rfl ?_ ?_<;>intro hc<;>(try simp only [go_sem] at hc))|(refine qJ ?_ ?_<;>intro hc<;>(try simp only [hc])<;>(try simp only [go_sem] at hc)))
theorem laAt (x y : Int) : DCall Tryz.prog 18 [dI x,dI y] [] (plD ⟨x,y,false⟩) [] := by
 refine DCall.of Tryz.func18 sf18 hb18 (Nat.le_of_ble_eq_true rfl) (okRes_nil fun _ => rfl) ?_; simp only [s18,idxs,Nat.reduceAdd]
 repeat' (first|(with_reducible first|apply qA|apply qB|apply qC|apply qD|apply qE|apply qF)|(simp (disch:=omega) only [go_sem,simprocAttr,qN,qO,qP,qQ,rF,rG])|exact qM rfl rfl rfl|(refine qG rfl ?_)|(refine qH rfl ?_)|(refine qI rfl ?_ ?_<;>intro hc<;>(try simp only [go_sem] at hc))|(refine qJ ?_ ?_<;>intro hc<;>(try simp only [hc])<;>(try simp only [go_sem] at hc)))
 skip
theorem laLorry : DCall Tryz.prog 28 [] [] (lyrD exLy) [] := by
 refine DCall.of Tryz.func28 sf28 hb28 (Nat.le_of_ble_eq_true rfl) (okRes_nil fun _ => rfl) ?_; simp only [s28,idxs,Nat.reduceAdd]
 repeat' (first|(with_reducible first|apply qA|apply qB|apply qC|apply qD|apply qE|apply qF)|(simp (disch:=omega) only [go_sem,simprocAttr,qN,qO,qP,qQ,exLy])|exact qM rfl rfl rfl|(refine qG rfl ?_)|(refine qH rfl ?_)|(refine qI rfl ?_ ?_<;>intro hc<;>(try simp only [go_sem] at hc))|(refine qJ ?_ ?_<;>intro hc<;>(try simp only [hc])<;>(try simp only [go_sem] at hc)))
theorem laOwn (b : Bool) (l : List PPl) (hl : l.length ≤ 2 ^ 36) : DCall Tryz.prog 6 [lyD b l] [] (lyD false l) [] := by
 refine DCall.of Tryz.func6 sf6 hb6 (Nat.le_of_ble_eq_true rfl) (okRes_nil fun _ => rfl) ?_; simp only [s6,idxs,Nat.reduceAdd]
 repeat' (first|(with_reducible first|apply qA|apply qB|apply qC|apply qD|apply qE|apply qF)|(simp (disch:=omega) only [go_sem,simprocAttr,qN,qO,qP,qQ])|exact qM rfl rfl rfl|(refine qG rfl ?_)|(refine qH rfl ?_)|(refine qI rfl ?_ ?_<;>intro hc<;>(try simp only [go_sem] at hc))|(refine qJ ?_ ?_<;>intro hc<;>(try simp only [hc])<;>(try simp only [go_sem] at hc)))
 (refine retS_ent (Ent.rel 3 rfl) ?_; simp (disch:=omega) only [go_sem,simprocAttr,qN,qO,qP,qQ])
 refine retS_wk rfl ?_ (by simp only [Blk.nb,rowC_nb,D.nb,D.nbs,C.nb,C.nbs,C.nbss,rows_nb eI_nb,Bool.and_true,Bool.not_false,Bool.and_self,bD,dI,iD,rows_nb eP_nb,rows_nb eIt_nb,rows_nb eR_nb]); exact .refl _
end Go.Dw.Seat
end
section
set_option linter.unusedSimpArgs false
set_option maxRecDepth 100000
namespace Go.Dw.Seat
open Go Go.Dw Go.Proofs Go.IntWalk
def eB (v : Bool) : List C := [.v (.bool v)]
theorem eB_nb (v : Bool) : C.nbs (eB v) = true := rfl
attribute [go_sem] eB
abbrev bLg (b : PBx) : Nat := b.lg.toNat
abbrev bWd (b : PBx) : Nat := b.wd.toNat
def rdL (a c n i : Nat) : List Bool := (List.range (n + 1)).map fun j => if j < i then sumB a c j else decide (j = 0)
theorem rdL_len (a c n i : Nat) : (rdL a c n i).length = n + 1 := by simp [rdL]
theorem rdL_get {a c n i j : Nat} (h : j ≤ n) : (rdL a c n i)[j]? = some (if j < i then sumB a c j else decide (j = 0)) := by
 rw [rdL,List.getElem?_map,List.getElem?_range (by omega),Option.map_some]
theorem rdL_set {a c n i : Nat} (h : i ≤ n) (v : Bool) (hv : v = sumB a c i) : (rdL a c n i).set i v = rdL a c n (i + 1) := by
 apply List.ext_getElem?
 intro j
 rw [List.getElem?_set,rdL_len]
 by_cases hj : j ≤ n
 ·rw [rdL_get hj,rdL_get hj]
  by_cases e : i = j
  ·subst e
   rw [if_pos rfl,if_pos (by omega),if_pos (by omega),hv]
  ·rw [if_neg e]
   congr 1
   by_cases h1 : j < i
   ·rw [if_pos h1,if_pos (by omega)]
   ·rw [if_neg h1,if_neg (by omega)]
 ·rw [List.getElem?_eq_none (by rw [rdL_len]; omega),List.getElem?_eq_none (by rw [rdL_len]; omega)]
  rw [if_neg (by omega)]
theorem set_eB (l : List Bool) (i : Nat) (v : Bool) : (rowC (rows eB l)).set i [D.c (.v (.bool v))] = rowC (rows eB (l.set i v)) := by
 rw [rows,rows,List.map_set,rowC,rowC,List.map_set]; rfl
theorem replB (n : Nat) : List.replicate n [C.v (.bool false)] = rows eB (List.replicate n false) := by simp [rows,eB]
set_option maxHeartbeats 4000000 in
theorem plReached (b : PBx) (hb : b.ok) (n : Nat) (hn : n ≤ 1000) : DCall Tryz.prog 76 [bxD b,dI n] [] (.c (.sl false 1 (rows eB ((List.range (n + 1)).map (sumB (bLg b) (bWd b)))))) [] := by
 have hbl := hb.lg
 have hbw := hb.wd
 have ea : b.lg = ((bLg b : Nat) : Int) := (Int.toNat_of_nonneg (by omega)).symm
 have ec : b.wd = ((bWd b : Nat) : Int) := (Int.toNat_of_nonneg (by omega)).symm
 have ha : 0 < bLg b := by omega
 have h0 : (List.replicate (n + 1) false).set 0 true = rdL (bLg b) (bWd b) n 0 := by
  apply List.ext_getElem?
  intro j
  by_cases hj : j ≤ n
  ·rw [rdL_get hj,List.getElem?_set]
   simp only [List.length_replicate,Nat.not_lt_zero,if_false]
   by_cases e : 0 = j
   ·subst e; simp
   ·rw [if_neg e,List.getElem?_replicate,if_pos (by omega),decide_eq_false (by omega)]
  ·rw [List.getElem?_eq_none (by simp; omega),List.getElem?_eq_none (by rw [rdL_len]; omega)]
 obtain ⟨N,hN⟩ : ∃ N,N = n + 1 := ⟨_,rfl⟩
 have hrl : (rdL (bLg b) (bWd b) n N) = (List.range (n + 1)).map (sumB (bLg b) (bWd b)) := by
  rw [rdL]
  apply List.map_congr_left
  intro j hj
  rw [if_pos (by rw [hN]; exact List.mem_range.1 hj)]
 rw [← hrl]
 rw [← hN] at h0
 have hll := fun i => rdL_len (bLg b) (bWd b) n i
 rw [← hN] at hll
 have hn1 : ((n : Int) + 1).toNat = N := by omega
 have hlr : (List.replicate N false).length = N := by simp
 have hpos : (0 < N) = True := eq_true (by omega)
 have hset := fun (i : Nat) (hi : i ≤ n) v hv => rdL_set (a := bLg b) (c := bWd b) hi v hv
 have hget := fun (i j : Nat) (hj : j ≤ n) => rdL_get (a := bLg b) (c := bWd b) (i := i) hj
 have hrec := fun (i : Nat) (hi : 0 < i) => sumB_rec (a := bLg b) (c := bWd b) ha hi
 have hs0 := sumB_zero (bLg b) (bWd b)
 generalize bLg b = a at *
 generalize bWd b = c at *
 have hr0 : (List.replicate N false)[0]? = some false := by rw [List.getElem?_replicate,if_pos (by omega)]
 refine DCall.of Tryz.func76 sf76 hb76 (Nat.le_of_ble_eq_true rfl) (okRes_nil fun _ => rfl) ?_; simp only [s76,idxs,Nat.reduceAdd]
 repeat' (first|(with_reducible first|apply qA|apply qB|apply qC|apply qD|apply qE|apply qF)|(simp (disch:=omega) only [go_sem,simprocAttr,qN,qO,qP,qQ,hn1,hr0,replB,set_eB,h0,hlr,hpos])|exact qM rfl rfl rfl|(refine qG rfl ?_)|(refine qH rfl ?_)|(refine qI rfl ?_ ?_<;>intro hc<;>(try simp only [go_sem] at hc))|(refine qJ ?_ ?_<;>intro hc<;>(try simp only [hc])<;>(try simp only [go_sem] at hc)))
 refine DW.loop (ι := { i : Nat // i ≤ N }) (fun i => ⟨50,[(16,dI i.1),(15,dI N),(5,.own 11),(2,.box 2 0)],[(11,.row 1 (rowC (rows eB (rdL a c n i.1)))),(2,.box [dI b.lg,dI b.wd,dI b.hi,dI b.wl,dI b.wh,dI b.sl,dI b.sh])]⟩) (fun i => N - i.1) ⟨0,Nat.zero_le _⟩ ?_ ?_
 ·refine Ent.to ?_ ?_ <;> simp (disch:=omega) only [qR,qS,qT,qU,get,Nat.reduceEqDiff,↓reduceIte,qV,qW,qX,qY,qZ,and_self,dI,i64_in,and_true,true_and,rA,rB,rC,rD,h0,hll]
  all_goals first | exact ⟨.refl _,.refl _,.refl _⟩ | exact ⟨.refl _,.refl _⟩ | exact .refl _
 rintro ⟨i,hi⟩
 dsimp only
 by_cases hlt : i < N
 ·have hd : decide ((i : Int) < (N : Int)) = true := decide_eq_true (by omega)
  have hiN : (i < N) = True := eq_true hlt
  have hli := hll i
  have hgi := hget i i (by omega)
  rw [if_neg (by omega)] at hgi
  have hga : a ≤ i → (rdL a c n i)[i - a]? = some (sumB a c (i - a)) := fun h => by rw [hget i _ (by omega),if_pos (by omega)]
  have hgc : c ≤ i → (rdL a c n i)[i - c]? = some (sumB a c (i - c)) := fun h => by rw [hget i _ (by omega),if_pos (by omega)]
  have hsi := hset i (by omega)
  obtain ⟨L,hL⟩ : ∃ L,L = rdL a c n i := ⟨_,rfl⟩
  rw [← hL] at hli hgi hga hgc hsi
  have hLL : ∀ v,(L.set i v).length = N := fun v => by rw [List.length_set]; exact hli
  have hLi : ∀ v,(L.set i v)[i]? = some v := fun v => List.getElem?_set_self (by omega)
  have hLa : ∀ v,a ≤ i → (L.set i v)[i - a]? = some (sumB a c (i - a)) := fun v h => by rw [List.getElem?_set_ne (by omega)]; exact hga h
  have hLc : ∀ v,c ≤ i → (L.set i v)[i - c]? = some (sumB a c (i - c)) := fun v h => by rw [List.getElem?_set_ne (by omega)]; exact hgc h
  rw [← hL]
  repeat' (first|(with_reducible first|apply qA|apply qB|apply qC|apply qD|apply qE|apply qF)|(simp (disch:=omega) only [go_sem,simprocAttr,qN,qO,qP,qQ,hd,ea,ec])|exact qM rfl rfl rfl|(refine qG rfl ?_)|(refine qH rfl ?_)|(refine qI rfl ?_ ?_<;>intro hc<;>(try simp only [go_sem] at hc))|(refine qJ ?_ ?_<;>intro hc<;>(try simp only [hc])<;>(try simp only [go_sem] at hc)))
  obtain ⟨v,hv0,hv1,hv2⟩ : ∃ v : Nat → Bool,v 0 = decide (i = 0) ∧ v 1 = (v 0 || (decide (a ≤ i) && sumB a c (i - a))) ∧ v 2 = (v 1 || (decide (c ≤ i) && sumB a c (i - c))) :=
   ⟨fun k => if k = 0 then decide (i = 0) else if k = 1 then (decide (i = 0) || (decide (a ≤ i) && sumB a c (i - a))) else ((decide (i = 0) || (decide (a ≤ i) && sumB a c (i - a))) || (decide (c ≤ i) && sumB a c (i - c))),rfl,rfl,rfl⟩
  have hvE : v 2 = sumB a c i := by
   rw [hv2,hv1,hv0]
   by_cases h : i = 0
   ·rw [h,hs0]; simp
   ·rw [decide_eq_false h,Bool.false_or,hrec i (by omega)]
  have hvL : L.set i (v 0) = L := by
   rw [hv0]
   apply List.ext_getElem?
   intro j
   rw [List.getElem?_set]
   by_cases e : i = j
   ·subst e; rw [if_pos rfl,if_pos (by omega),hgi]
   ·rw [if_neg e]
  refine DW.loop (ι := { k : Nat // k ≤ 2 }) (fun k => ⟨50,[(24,dI k.1),(23,.agg [dI a,dI c]),(16,dI i),(15,dI N),(6,dI i),(5,.own 11),(2,.box 2 0)],[(11,.row 1 (rowC (rows eB (L.set i (v k.1))))),(2,.box [dI a,dI c,dI b.hi,dI b.wl,dI b.wh,dI b.sl,dI b.sh])]⟩) (fun k => 2 - k.1) ⟨0,by decide⟩ ?_ ?_
  ·refine Ent.to ?_ ?_ <;> simp (disch:=omega) only [qR,qS,qT,qU,get,Nat.reduceEqDiff,↓reduceIte,qV,qW,qX,qY,qZ,and_self,dI,i64_in,and_true,true_and,rA,rB,rC,rD,hvL]
   all_goals first | exact ⟨.refl _,.refl _,.refl _⟩ | exact ⟨.refl _,.refl _⟩ | exact .refl _
  rintro ⟨k,hk⟩
  dsimp only
  match k,hk with
  | 0,_ =>
   have hLv := hLi (v 0)
   have hLl := hLL (v 0)
   cases h0 : v 0 with
   | true =>
    rw [h0] at hv1 hLv hLl
    rw [Bool.true_or] at hv1
    repeat' (first|(with_reducible first|apply qA|apply qB|apply qC|apply qD|apply qE|apply qF)|(simp (disch:=omega) only [go_sem,simprocAttr,qN,qO,qP,qQ,hiN,hLl,hLv,set_eB,List.set_set,rF,rG])|exact qM rfl rfl rfl|(refine qG rfl ?_)|(refine qH rfl ?_)|(refine qI rfl ?_ ?_<;>intro hc<;>(try simp only [go_sem] at hc))|(refine qJ ?_ ?_<;>intro hc<;>(try simp only [hc])<;>(try simp only [go_sem] at hc)))
    refine ⟨⟨1,by decide⟩,?_,Ent.to ?_ ?_⟩ <;> first | (show _ < _; (try simp only); omega) | (simp (disch:=omega) only [qR,qS,qT,qU,get,Nat.reduceEqDiff,↓reduceIte,qV,qW,qX,qY,qZ,and_self,dI,i64_in,and_true,true_and,rA,rB,rC,rD,hv1])
    all_goals first | exact ⟨.refl _,.refl _,.refl _⟩ | exact ⟨.refl _,.refl _⟩ | exact .refl _
   | false =>
    have hLa' := hLa (v 0)
    rw [h0] at hv1 hLv hLl hLa'
    rw [Bool.false_or] at hv1
    by_cases hai : a ≤ i
    ·have da : decide ((a : Int) ≤ (i : Int)) = true := decide_eq_true (by omega)
     have wa : IntKind.i64.wrap ((i : Int) - (a : Int)) = ((i - a : Nat) : Int) := by rw [IntWalk.i64_in _ (by omega)]; omega
     have hia : (i - a < N) = True := eq_true (by omega)
     have hLg := hLa' hai
     rw [decide_eq_true hai,Bool.true_and] at hv1
     repeat' (first|(with_reducible first|apply qA|apply qB|apply qC|apply qD|apply qE|apply qF)|(simp (disch:=omega) only [go_sem,simprocAttr,qN,qO,qP,qQ,hiN,hia,hLl,hLv,hLg,da,wa,set_eB,List.set_set,rF,rG])|exact qM rfl rfl rfl|(refine qG rfl ?_)|(refine qH rfl ?_)|(refine qI rfl ?_ ?_<;>intro hc<;>(try simp only [go_sem] at hc))|(refine qJ ?_ ?_<;>intro hc<;>(try simp only [hc])<;>(try simp only [go_sem] at hc)))
     refine ⟨⟨1,by decide⟩,?_,Ent.to ?_ ?_⟩ <;> first | (show _ < _; (try simp only); omega) | (simp (disch:=omega) only [qR,qS,qT,qU,get,Nat.reduceEqDiff,↓reduceIte,qV,qW,qX,qY,qZ,and_self,dI,i64_in,and_true,true_and,rA,rB,rC,rD,hv1])
     all_goals first | exact ⟨.refl _,.refl _,.refl _⟩ | exact ⟨.refl _,.refl _⟩ | exact .refl _
    ·have da : decide ((a : Int) ≤ (i : Int)) = false := decide_eq_false (by omega)
     rw [decide_eq_false hai,Bool.false_and] at hv1
     repeat' (first|(with_reducible first|apply qA|apply qB|apply qC|apply qD|apply qE|apply qF)|(simp (disch:=omega) only [go_sem,simprocAttr,qN,qO,qP,qQ,hiN,hLl,hLv,da,set_eB,List.set_set,rF,rG])|exact qM rfl rfl rfl|(refine qG rfl ?_)|(refine qH rfl ?_)|(refine qI rfl ?_ ?_<;>intro hc<;>(try simp only [go_sem] at hc))|(refine qJ ?_ ?_<;>intro hc<;>(try simp only [hc])<;>(try simp only [go_sem] at hc)))
     refine ⟨⟨1,by decide⟩,?_,Ent.to ?_ ?_⟩ <;> first | (show _ < _; (try simp only); omega) | (simp (disch:=omega) only [qR,qS,qT,qU,get,Nat.reduceEqDiff,↓reduceIte,qV,qW,qX,qY,qZ,and_self,dI,i64_in,and_true,true_and,rA,rB,rC,rD,hv1])
     all_goals first | exact ⟨.refl _,.refl _,.refl _⟩ | exact ⟨.refl _,.refl _⟩ | exact .refl _
  | 1,_ =>
   have hLv := hLi (v 1)
   have hLl := hLL (v 1)
   cases h0 : v 1 with
   | true =>
    rw [h0] at hv2 hLv hLl
    rw [Bool.true_or] at hv2
    repeat' (first|(with_reducible first|apply qA|apply qB|apply qC|apply qD|apply qE|apply qF)|(simp (disch:=omega) only [go_sem,simprocAttr,qN,qO,qP,qQ,hiN,hLl,hLv,set_eB,List.set_set,rF,rG])|exact qM rfl rfl rfl|(refine qG rfl ?_)|(refine qH rfl ?_)|(refine qI rfl ?_ ?_<;>intro hc<;>(try simp only [go_sem] at hc))|(refine qJ ?_ ?_<;>intro hc<;>(try simp only [hc])<;>(try simp only [go_sem] at hc)))
    refine ⟨⟨2,by decide⟩,?_,Ent.to ?_ ?_⟩ <;> first | (show _ < _; (try simp only); omega) | (simp (disch:=omega) only [qR,qS,qT,qU,get,Nat.reduceEqDiff,↓reduceIte,qV,qW,qX,qY,qZ,and_self,dI,i64_in,and_true,true_and,rA,rB,rC,rD,hv2])
    all_goals first | exact ⟨.refl _,.refl _,.refl _⟩ | exact ⟨.refl _,.refl _⟩ | exact .refl _
   | false =>
    have hLa' := hLc (v 1)
    rw [h0] at hv2 hLv hLl hLa'
    rw [Bool.false_or] at hv2
    by_cases hai : c ≤ i
    ·have da : decide ((c : Int) ≤ (i : Int)) = true := decide_eq_true (by omega)
     have wa : IntKind.i64.wrap ((i : Int) - (c : Int)) = ((i - c : Nat) : Int) := by rw [IntWalk.i64_in _ (by omega)]; omega
     have hia : (i - c < N) = True := eq_true (by omega)
     have hLg := hLa' hai
     rw [decide_eq_true hai,Bool.true_and] at hv2
     repeat' (first|(with_reducible first|apply qA|apply qB|apply qC|apply qD|apply qE|apply qF)|(simp (disch:=omega) only [go_sem,simprocAttr,qN,qO,qP,qQ,hiN,hia,hLl,hLv,hLg,da,wa,set_eB,List.set_set,rF,rG])|exact qM rfl rfl rfl|(refine qG rfl ?_)|(refine qH rfl ?_)|(refine qI rfl ?_ ?_<;>intro hc<;>(try simp only [go_sem] at hc))|(refine qJ ?_ ?_<;>intro hc<;>(try simp only [hc])<;>(try simp only [go_sem] at hc)))
     refine ⟨⟨2,by decide⟩,?_,Ent.to ?_ ?_⟩ <;> first | (show _ < _; (try simp only); omega) | (simp (disch:=omega) only [qR,qS,qT,qU,get,Nat.reduceEqDiff,↓reduceIte,qV,qW,qX,qY,qZ,and_self,dI,i64_in,and_true,true_and,rA,rB,rC,rD,hv2])
     all_goals first | exact ⟨.refl _,.refl _,.refl _⟩ | exact ⟨.refl _,.refl _⟩ | exact .refl _
    ·have da : decide ((c : Int) ≤ (i : Int)) = false := decide_eq_false (by omega)
     rw [decide_eq_false hai,Bool.false_and] at hv2
     repeat' (first|(with_reducible first|apply qA|apply qB|apply qC|apply qD|apply qE|apply qF)|(simp (disch:=omega) only [go_sem,simprocAttr,qN,qO,qP,qQ,hiN,hLl,hLv,da,set_eB,List.set_set,rF,rG])|exact qM rfl rfl rfl|(refine qG rfl ?_)|(refine qH rfl ?_)|(refine qI rfl ?_ ?_<;>intro hc<;>(try simp only [go_sem] at hc))|(refine qJ ?_ ?_<;>intro hc<;>(try simp only [hc])<;>(try simp only [go_sem] at hc)))
     refine ⟨⟨2,by decide⟩,?_,Ent.to ?_ ?_⟩ <;> first | (show _ < _; (try simp only); omega) | (simp (disch:=omega) only [qR,qS,qT,qU,get,Nat.reduceEqDiff,↓reduceIte,qV,qW,qX,qY,qZ,and_self,dI,i64_in,and_true,true_and,rA,rB,rC,rD,hv2])
     all_goals first | exact ⟨.refl _,.refl _,.refl _⟩ | exact ⟨.refl _,.refl _⟩ | exact .refl _
  | 2,_ =>
   have hfin := hsi (v 2) hvE
   repeat' (first|(with_reducible first|apply qA|apply qB|apply qC|apply qD|apply qE|apply qF)|(simp (disch:=omega) only [go_sem,simprocAttr,qN,qO,qP,qQ])|exact qM rfl rfl rfl|(refine qG rfl ?_)|(refine qH rfl ?_)|(refine qI rfl ?_ ?_<;>intro hc<;>(try simp only [go_sem] at hc))|(refine qJ ?_ ?_<;>intro hc<;>(try simp only [hc])<;>(try simp only [go_sem] at hc)))
   refine ⟨⟨i + 1,hlt⟩,?_,Ent.to ?_ ?_⟩ <;> first | (show _ < _; (try simp only); omega) | (simp (disch:=omega) only [qR,qS,qT,qU,get,Nat.reduceEqDiff,↓reduceIte,qV,qW,qX,qY,qZ,and_self,dI,i64_in,and_true,true_and,rA,rB,rC,rD,hfin,ea,ec])
   all_goals first | exact ⟨.refl _,.refl _,.refl _⟩ | exact ⟨.refl _,.refl _⟩ | exact .refl _
 ·obtain rfl : i = N := by omega
  have hd : decide ((i : Int) < (i : Int)) = false := decide_eq_false (by omega)
  repeat' (first|(with_reducible first|apply qA|apply qB|apply qC|apply qD|apply qE|apply qF)|(simp (disch:=omega) only [go_sem,simprocAttr,qN,qO,qP,qQ,hd])|exact qM rfl rfl rfl|(refine qG rfl ?_)|(refine qH rfl ?_)|(refine qI rfl ?_ ?_<;>intro hc<;>(try simp only [go_sem] at hc))|(refine qJ ?_ ?_<;>intro hc<;>(try simp only [hc])<;>(try simp only [go_sem] at hc)))
  (refine retS_ent (Ent.rel 11 rfl) ?_; simp (disch:=omega) only [go_sem,simprocAttr,qN,qO,qP,qQ])
  refine retS_wk rfl ?_ (by simp only [Blk.nb,rowC_nb,D.nb,D.nbs,C.nb,C.nbs,C.nbss,rows_nb eI_nb,Bool.and_true,Bool.not_false,Bool.and_self,bD,dI,iD,rows_nb eB_nb]); exact .refl _
def rcL (a c n : Nat) : List Int := (List.range (n + 1)).map fun j => ((rchF a c j : Nat) : Int)
theorem rcL_len (a c n : Nat) : (rcL a c n).length = n + 1 := by simp [rcL]
theorem rcL_get {a c n j : Nat} (h : j ≤ n) : (rcL a c n)[j]? = some ((rchF a c j : Nat) : Int) := by
 rw [rcL,List.getElem?_map,List.getElem?_range (by omega),Option.map_some]
def rcP (a c n i : Nat) : List Int := (List.range (n + 1)).map fun j => if j < i then ((rchF a c j : Nat) : Int) else 0
theorem rcP_len (a c n i : Nat) : (rcP a c n i).length = n + 1 := by simp [rcP]
theorem rcP_set {a c n i : Nat} (h : i ≤ n) : (rcP a c n i).set i ((rchF a c i : Nat) : Int) = rcP a c n (i + 1) := by
 apply List.ext_getElem?
 intro j
 rw [List.getElem?_set,rcP_len]
 by_cases hj : j ≤ n
 ·rw [rcP,rcP,List.getElem?_map,List.getElem?_map,List.getElem?_range (by omega),Option.map_some,Option.map_some]
  by_cases e : i = j
  ·subst e
   rw [if_pos rfl,if_pos (by omega),if_pos (by omega)]
  ·rw [if_neg e]
   congr 1
   by_cases h1 : j < i
   ·rw [if_pos h1,if_pos (by omega)]
   ·rw [if_neg h1,if_neg (by omega)]
 ·rw [if_neg (by omega),List.getElem?_eq_none (by rw [rcP_len]; omega),List.getElem?_eq_none (by rw [rcP_len]; omega)]
theorem set_eI (l : List Int) (i : Nat) (v : Int) : (rowC (rows eI l)).set i [D.c (.v (.int .i64 v))] = rowC (rows eI (l.set i v)) := by
 rw [rows,rows,List.map_set,rowC,rowC,List.map_set]; rfl
theorem replI (n : Nat) : List.replicate n [C.v (.int .i64 0)] = rows eI (List.replicate n 0) := by simp [rows,eI]
set_option maxHeartbeats 4000000 in
theorem plReach (b : PBx) (hb : b.ok) (n : Nat) (hn : n ≤ 1000) : DCall Tryz.prog 50 [bxD b,dI n] [] (.c (.sl false 1 (rows eI (rcL (bLg b) (bWd b) n)))) [] := by
 have h1 := plReached b hb n hn
 have ha : 0 < bLg b := by have := hb.lg; show 0 < b.lg.toNat; omega
 generalize bLg b = a at *
 generalize bWd b = c at *
 obtain ⟨N,hN⟩ : ∃ N,N = n + 1 := ⟨_,rfl⟩
 have h0 : List.replicate N (0 : Int) = rcP a c n 0 := by
  rw [rcP,hN]
  apply List.ext_getElem?
  intro j
  rw [List.getElem?_replicate,List.getElem?_map]
  by_cases hj : j < n + 1
  ·rw [if_pos hj,List.getElem?_range hj]; simp
  ·rw [if_neg hj,List.getElem?_eq_none (by simp; omega)]; rfl
 have hz : rcP a c n N = rcL a c n := by
  rw [rcP,rcL]
  apply List.map_congr_left
  intro j hj
  rw [if_pos (by rw [hN]; exact List.mem_range.1 hj)]
 have hll := fun i => rcP_len a c n i
 have hset := fun (i : Nat) (hi : i ≤ n) => rcP_set (a := a) (c := c) hi
 rw [← hN] at h1 hll
 obtain ⟨S,hS⟩ : ∃ S,S = (List.range N).map (sumB a c) := ⟨_,rfl⟩
 have hSl : S.length = N := by rw [hS]; simp
 have hSg : ∀ j,j < N → S[j]? = some (sumB a c j) := fun j hj => by rw [hS,List.getElem?_map,List.getElem?_range hj]; rfl
 rw [← hS] at h1
 have hn1 : ((n : Int) + 1).toNat = N := by omega
 refine DCall.of Tryz.func50 sf50 hb50 (Nat.le_of_ble_eq_true rfl) (okRes_nil fun _ => rfl) ?_; simp only [s50,idxs,Nat.reduceAdd]
 repeat' (first|(with_reducible first|apply qA|apply qB|apply qC|apply qD|apply qE|apply qF)|(simp (disch:=omega) only [go_sem,simprocAttr,qN,qO,qP,qQ,hn1,replI,h0,hSl])|exact qM rfl rfl rfl|(refine qG rfl ?_)|(refine qK (h1) (by decide) ?_)|(refine qH rfl ?_)|(refine qI rfl ?_ ?_<;>intro hc<;>(try simp only [go_sem] at hc))|(refine qJ ?_ ?_<;>intro hc<;>(try simp only [hc])<;>(try simp only [go_sem] at hc)))
 refine DW.loop (ι := { i : Nat // i ≤ N }) (fun i => ⟨29,[(16,dI i.1),(15,dI N),(14,.c (.sl false 1 (rows eB S))),(6,dI (((rchF a c (i.1 - 1)) : Nat) : Int)),(5,.own 11)],[(11,.row 1 (rowC (rows eI (rcP a c n i.1))))]⟩) (fun i => N - i.1) ⟨0,Nat.zero_le _⟩ ?_ ?_
 ·refine Ent.to ?_ ?_ <;> simp (disch:=omega) only [qR,qS,qT,qU,get,Nat.reduceEqDiff,↓reduceIte,qV,qW,qX,qY,qZ,and_self,dI,i64_in,and_true,true_and,rA,rB,rC,rD,rchF,Nat.zero_sub]
  all_goals first | exact ⟨.refl _,.refl _,.refl _⟩ | exact ⟨.refl _,.refl _⟩ | exact .refl _
 rintro ⟨i,hi⟩
 dsimp only
 by_cases hlt : i < N
 ·have hd : decide ((i : Int) < (N : Int)) = true := decide_eq_true (by omega)
  have hiN : (i < N) = True := eq_true hlt
  have hg := hSg i hlt
  have hst := hset i (by omega)
  have hli := hll i
  obtain ⟨z,hzg⟩ : ∃ z,(rcP a c n i)[i]? = some z := ⟨_,List.getElem?_eq_getElem (by rw [hli]; exact hlt)⟩
  have hrE : (if sumB a c i = true then i else rchF a c (i - 1)) = rchF a c i := by
   cases i with
   | zero => rw [sumB_zero]; rfl
   | succ i => rw [rchF,Nat.add_sub_cancel]
  cases hs : sumB a c i with
  | true =>
   rw [hs] at hg
   rw [hs,if_pos rfl] at hrE
   rw [← hrE] at hst
   repeat' (first|(with_reducible first|apply qA|apply qB|apply qC|apply qD|apply qE|apply qF)|(simp (disch:=omega) only [go_sem,simprocAttr,qN,qO,qP,qQ,hd,hiN,hg,hzg,hli,set_eI,hst,rF,rG])|exact qM rfl rfl rfl|(refine qG rfl ?_)|(refine qH rfl ?_)|(refine qI rfl ?_ ?_<;>intro hc<;>(try simp only [go_sem] at hc))|(refine qJ ?_ ?_<;>intro hc<;>(try simp only [hc])<;>(try simp only [go_sem] at hc)))
   refine ⟨⟨i + 1,hlt⟩,?_,Ent.to ?_ ?_⟩ <;> first | (show _ < _; (try simp only); omega) | (simp (disch:=omega) only [qR,qS,qT,qU,get,Nat.reduceEqDiff,↓reduceIte,qV,qW,qX,qY,qZ,and_self,dI,i64_in,and_true,true_and,rA,rB,rC,rD,Nat.add_sub_cancel,hrE.symm])
   all_goals first | exact ⟨.refl _,.refl _,.refl _⟩ | exact ⟨.refl _,.refl _⟩ | exact .refl _
  | false =>
   rw [hs] at hg
   rw [hs,if_neg Bool.false_ne_true] at hrE
   rw [← hrE] at hst
   repeat' (first|(with_reducible first|apply qA|apply qB|apply qC|apply qD|apply qE|apply qF)|(simp (disch:=omega) only [go_sem,simprocAttr,qN,qO,qP,qQ,hd,hiN,hg,hzg,hli,set_eI,hst,rF,rG])|exact qM rfl rfl rfl|(refine qG rfl ?_)|(refine qH rfl ?_)|(refine qI rfl ?_ ?_<;>intro hc<;>(try simp only [go_sem] at hc))|(refine qJ ?_ ?_<;>intro hc<;>(try simp only [hc])<;>(try simp only [go_sem] at hc)))
   refine ⟨⟨i + 1,hlt⟩,?_,Ent.to ?_ ?_⟩ <;> first | (show _ < _; (try simp only); omega) | (simp (disch:=omega) only [qR,qS,qT,qU,get,Nat.reduceEqDiff,↓reduceIte,qV,qW,qX,qY,qZ,and_self,dI,i64_in,and_true,true_and,rA,rB,rC,rD,Nat.add_sub_cancel,hrE.symm])
   all_goals first | exact ⟨.refl _,.refl _,.refl _⟩ | exact ⟨.refl _,.refl _⟩ | exact .refl _
 ·obtain rfl : i = N := by omega
  have hd : decide ((i : Int) < (i : Int)) = false := decide_eq_false (by omega)
  rw [hz]
  repeat' (first|(with_reducible first|apply qA|apply qB|apply qC|apply qD|apply qE|apply qF)|(simp (disch:=omega) only [go_sem,simprocAttr,qN,qO,qP,qQ,hd])|exact qM rfl rfl rfl|(refine qG rfl ?_)|(refine qH rfl ?_)|(refine qI rfl ?_ ?_<;>intro hc<;>(try simp only [go_sem] at hc))|(refine qJ ?_ ?_<;>intro hc<;>(try simp only [hc])<;>(try simp only [go_sem] at hc)))
  (refine retS_ent (Ent.rel 11 rfl) ?_; simp (disch:=omega) only [go_sem,simprocAttr,qN,qO,qP,qQ])
  refine retS_wk rfl ?_ (by simp only [Blk.nb,rowC_nb,D.nb,D.nbs,C.nb,C.nbs,C.nbss,rows_nb eI_nb,Bool.and_true,Bool.not_false,Bool.and_self,bD,dI,iD,rows_nb eB_nb]); exact .refl _
end Go.Dw.Seat
end
