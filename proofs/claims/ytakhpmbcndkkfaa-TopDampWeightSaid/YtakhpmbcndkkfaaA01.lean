/- The law TopDampWeight returns true for every input, and changes nothing that was there before: the full statement TopDampWeightSaid, without conditions. -/
import Derived.Test.YtakhpmbcndkkfaaA00
import Derived.Test.YtakhpmbcndkkfaaRows
import Derived.ProofKit
import Derived.OpenShut
set_option linter.unusedVariables false
set_option linter.unusedSimpArgs false
section
set_option linter.unusedSimpArgs false
set_option maxRecDepth 100000
namespace Go.Dw.Seat
open Go Go.Dw Go.Proofs Go.IntWalk
theorem bdCaliper (s : Sto) (m : Mak) (hs : s.ok) (h : m.ok s) {g : FuncId} {ef : Int → Int → Int} (he : EndOk g ef) : DCall Try.prog 88 [dShe s m (wholeI s m), .c (.fn (.func g) [] [])] [] (dI (calI ef s m)) [] := by
 have hf := h.nf
 have hn := h.np
 have hl1 : (nL m.papers).length = m.papers.length := nL_length _
 have hl2 : (nL m.flutes).length = m.flutes.length := nL_length _
 refine DCall.of Try.func88 sf88 hb88 (Nat.le_of_ble_eq_true rfl) (okRes_nil fun _ => rfl) ?_; simp only [s88, idxs, Nat.reduceAdd]
 repeat' (first|(with_reducible first|apply qA|apply qB|apply qC|apply qD|apply qE|apply qF)|(simp (disch:=omega) only [go_sem, simprocAttr, Blk.men, Blk.keysIn, hl1])|exact qM rfl rfl rfl|(refine qG rfl ?_)|(refine qH rfl ?_)|(refine qI rfl ?_ ?_<;>intro hc<;>(try simp only [go_sem] at hc))|(refine qJ ?_ ?_<;>intro hc<;>(try simp only [hc])<;>(try simp only [go_sem] at hc)))
 refine DW.loop (ι := { i : Nat // i ≤ m.papers.length }) (fun i => ⟨54, [(13, dI i.1), (12, dI m.papers.length), (11, .c (.sl false 1 (rows eI (nL m.papers)))), (4, dI (calP ef s m i.1)), (2, .box 2 0), (1, .c (.fn (.func g) [] []))], [(2, .box [.c (.sl false 1 (rows eI (nL m.papers))), .c (.sl false 1 (rows eI (nL m.flutes))), .c (.sl false 8 (rows eP s.papers)), .c (.sl false 4 (rows eF s.flutes)), dI (wholeI s m)])]⟩) (fun i => m.papers.length - i.1) ⟨0, Nat.zero_le _⟩ ?_ ?_
 ·refine Ent.to ?_ ?_ <;> simp (disch:=omega) only [qR,qS,qTw,qU,get,Nat.reduceEqDiff,↓reduceIte,qV,qW,qX,qY,qZ,and_self,dI,i64_in,and_true,true_and,rA,rB,rC,rD,calP]
 rintro ⟨i, hi⟩
 rcases Nat.lt_or_ge i m.papers.length with hlt | hge
 ·have hd : decide ((i : Int) < (m.papers.length : Int)) = true := by rw [decide_eq_true_eq]; omega
  obtain ⟨v, hv⟩ := getE (l := m.papers) (i := i) hlt
  have hv' := nL_at hv
  have hvs := h.papers v (List.mem_of_getElem? hv)
  have hp := papAt_get hvs
  have ho := (papAt_ok hs hvs).thick
  have hcb := calP_b he hs h i hi
  have hnx : calP ef s m (i + 1) = calP ef s m i + (if i % 2 = 0 then ef (papAt s v).tl (papAt s v).th else 0) := by rw [calP, hv, Option.getD_some]
  have hm := he.mem _ _ ho.2.1
  have hcall := he.call (papAt s v).tl (papAt s v).th
  generalize papAt s v = p at *
  have hrem : (i : Int).tmod 2 = ((i % 2 : Nat) : Int) := by rw [Int.tmod_eq_emod_of_nonneg (by omega)]; omega
  rcases (by omega : i % 2 = 0 ∨ i % 2 = 1) with hod | hod
  ·rw [hod] at hrem
   rw [if_pos hod] at hnx
   repeat' (first|(with_reducible first|apply qA|apply qB|apply qC|apply qD|apply qE|apply qF)|(simp (disch:=omega) only [go_sem, simprocAttr, Blk.men, Blk.keysIn, hd, hv', hp, hrem, rF, rG])|exact qM rfl rfl rfl|(refine qG rfl ?_)|(refine qH rfl ?_)|(refine qI rfl ?_ ?_<;>intro hc<;>(try simp only [go_sem] at hc))|(refine qJ ?_ ?_<;>intro hc<;>(try simp only [hc])<;>(try simp only [go_sem] at hc)))
   refine call_c hcall (by decide) ?_
   simp (disch:=omega) only [go_sem,simprocAttr,Blk.men,Blk.keysIn]
   repeat' (first|(with_reducible first|apply qA|apply qB|apply qC|apply qD|apply qE|apply qF)|(simp (disch:=omega) only [go_sem, simprocAttr, Blk.men, Blk.keysIn])|exact qM rfl rfl rfl|(refine qG rfl ?_)|(refine qH rfl ?_)|(refine qI rfl ?_ ?_<;>intro hc<;>(try simp only [go_sem] at hc))|(refine qJ ?_ ?_<;>intro hc<;>(try simp only [hc])<;>(try simp only [go_sem] at hc)))
   refine ⟨⟨i + 1, hlt⟩, ?_, Ent.to ?_ ?_⟩ <;> first | (show _ < _; (try simp only); omega) | (simp (disch:=omega) only [qR,qS,qTw,qU,get,Nat.reduceEqDiff,↓reduceIte,qV,qW,qX,qY,qZ,and_self,dI,i64_in,and_true,true_and,rA,rB,rC,rD, hnx])
  ·rw [hod] at hrem
   rw [if_neg (by omega), Int.add_zero] at hnx
   repeat' (first|(with_reducible first|apply qA|apply qB|apply qC|apply qD|apply qE|apply qF)|(simp (disch:=omega) only [go_sem, simprocAttr, Blk.men, Blk.keysIn, hd, hv', hp, hrem, rF, rG])|exact qM rfl rfl rfl|(refine qG rfl ?_)|(refine qH rfl ?_)|(refine qI rfl ?_ ?_<;>intro hc<;>(try simp only [go_sem] at hc))|(refine qJ ?_ ?_<;>intro hc<;>(try simp only [hc])<;>(try simp only [go_sem] at hc)))
   refine ⟨⟨i + 1, hlt⟩, ?_, Ent.to ?_ ?_⟩ <;> first | (show _ < _; (try simp only); omega) | (simp (disch:=omega) only [qR,qS,qTw,qU,get,Nat.reduceEqDiff,↓reduceIte,qV,qW,qX,qY,qZ,and_self,dI,i64_in,and_true,true_and,rA,rB,rC,rD, hnx])
 ·obtain rfl : i = m.papers.length := by omega
  have hd : decide ((m.papers.length : Int) < (m.papers.length : Int)) = false := by rw [decide_eq_false_iff_not]; omega
  have hcb := calP_b he hs h m.papers.length (Nat.le_refl _)
  unfold calI
  generalize calP ef s m m.papers.length = cp at *
  repeat' (first|(with_reducible first|apply qA|apply qB|apply qC|apply qD|apply qE|apply qF)|(simp (disch:=omega) only [go_sem, simprocAttr, Blk.men, Blk.keysIn, hd, hl2])|exact qM rfl rfl rfl|(refine qG rfl ?_)|(refine qH rfl ?_)|(refine qI rfl ?_ ?_<;>intro hc<;>(try simp only [go_sem] at hc))|(refine qJ ?_ ?_<;>intro hc<;>(try simp only [hc])<;>(try simp only [go_sem] at hc)))
  refine DW.loop (ι := { i : Nat // i ≤ m.flutes.length }) (fun i => ⟨54, [(37, dI i.1), (36, dI m.flutes.length), (35, .c (.sl false 1 (rows eI (nL m.flutes)))), (4, dI (cp + calH ef s m i.1)), (2, .box 2 0), (1, .c (.fn (.func g) [] []))], [(2, .box [.c (.sl false 1 (rows eI (nL m.papers))), .c (.sl false 1 (rows eI (nL m.flutes))), .c (.sl false 8 (rows eP s.papers)), .c (.sl false 4 (rows eF s.flutes)), dI (wholeI s m)])]⟩) (fun i => m.flutes.length - i.1) ⟨0, Nat.zero_le _⟩ ?_ ?_
  ·refine Ent.to ?_ ?_ <;> simp (disch:=omega) only [qR,qS,qTw,qU,get,Nat.reduceEqDiff,↓reduceIte,qV,qW,qX,qY,qZ,and_self,dI,i64_in,and_true,true_and,rA,rB,rC,rD,calH,Int.add_zero]
  rintro ⟨i, hi⟩
  rcases Nat.lt_or_ge i m.flutes.length with hlt | hge
  ·have hd : decide ((i : Int) < (m.flutes.length : Int)) = true := by rw [decide_eq_true_eq]; omega
   obtain ⟨v, hv⟩ := getE (l := m.flutes) (i := i) hlt
   have hv' := nL_at hv
   have hvs := h.flutes v (List.mem_of_getElem? hv)
   have hp := fluAt_get hvs
   have ho := (fluAt_ok hs hvs).high
   have hhb := calH_b he hs h i hi
   have hnx : cp + calH ef s m (i + 1) = cp + calH ef s m i + ef (fluAt s v).hl (fluAt s v).hh := by rw [calH, hv, Option.getD_some]; omega
   have hm := he.mem _ _ ho.2.1
   have hcall := he.call (fluAt s v).hl (fluAt s v).hh
   generalize fluAt s v = p at *
   repeat' (first|(with_reducible first|apply qA|apply qB|apply qC|apply qD|apply qE|apply qF)|(simp (disch:=omega) only [go_sem, simprocAttr, Blk.men, Blk.keysIn, hd, hv', hp, rF, rG])|exact qM rfl rfl rfl|(refine qG rfl ?_)|(refine qH rfl ?_)|(refine qI rfl ?_ ?_<;>intro hc<;>(try simp only [go_sem] at hc))|(refine qJ ?_ ?_<;>intro hc<;>(try simp only [hc])<;>(try simp only [go_sem] at hc)))
   refine call_c hcall (by decide) ?_
   simp (disch:=omega) only [go_sem,simprocAttr,Blk.men,Blk.keysIn]
   repeat' (first|(with_reducible first|apply qA|apply qB|apply qC|apply qD|apply qE|apply qF)|(simp (disch:=omega) only [go_sem, simprocAttr, Blk.men, Blk.keysIn])|exact qM rfl rfl rfl|(refine qG rfl ?_)|(refine qH rfl ?_)|(refine qI rfl ?_ ?_<;>intro hc<;>(try simp only [go_sem] at hc))|(refine qJ ?_ ?_<;>intro hc<;>(try simp only [hc])<;>(try simp only [go_sem] at hc)))
   refine ⟨⟨i + 1, hlt⟩, ?_, Ent.to ?_ ?_⟩ <;> first | (show _ < _; (try simp only); omega) | (simp (disch:=omega) only [qR,qS,qTw,qU,get,Nat.reduceEqDiff,↓reduceIte,qV,qW,qX,qY,qZ,and_self,dI,i64_in,and_true,true_and,rA,rB,rC,rD, hnx])
  ·obtain rfl : i = m.flutes.length := by omega
   have hd : decide ((m.flutes.length : Int) < (m.flutes.length : Int)) = false := by rw [decide_eq_false_iff_not]; omega
   repeat' (first|(with_reducible first|apply qA|apply qB|apply qC|apply qD|apply qE|apply qF)|(simp (disch:=omega) only [go_sem, simprocAttr, Blk.men, Blk.keysIn, hd])|exact qM rfl rfl rfl|(refine qG rfl ?_)|(refine qH rfl ?_)|(refine qI rfl ?_ ?_<;>intro hc<;>(try simp only [go_sem] at hc))|(refine qJ ?_ ?_<;>intro hc<;>(try simp only [hc])<;>(try simp only [go_sem] at hc)))
def loE (lo _ : Int) : Int := lo
def hiE (_ hi : Int) : Int := hi
theorem loE_ok : EndOk 85 loE := ⟨bdLow, fun _ _ h => ⟨Int.le_refl _, h⟩⟩
theorem hiE_ok : EndOk 86 hiE := ⟨bdHigh, fun _ _ h => ⟨h, Int.le_refl _⟩⟩
theorem bdMeas (s : Sto) (m : Mak) (hs : s.ok) (h : m.ok s) : DCall Try.prog 46 [dShe s m (wholeI s m)] [] (.tup [.agg [dI (moistI loE s m), dI (moistI hiE s m)], .agg [dI (calI loE s m), dI (calI hiE s m)]]) [] := by
 have h1 := bdMoist s m hs h loE_ok
 have h2 := bdMoist s m hs h hiE_ok
 have h3 := bdCaliper s m hs h loE_ok
 have h4 := bdCaliper s m hs h hiE_ok
 refine DCall.of Try.func46 sf46 hb46 (Nat.le_of_ble_eq_true rfl) (okRes_nil fun _ => rfl) ?_; simp only [s46, o46_0, o46_1, o46_2, o46_3, o46_4, o46_5, o46_6, o46_7, o46_8, o46_9, o46_10, o46_11, o46_12, o46_13, o46_14, o46_15, idxs, Nat.reduceAdd]
 repeat' (first|(with_reducible first|apply qA|apply qB|apply qC|apply qD|apply qE|apply qF)|(refine DW.ord rfl (WF.of (by first|rfl|simp (disch:=omega) only [go_sem, simprocAttr, Blk.men, Blk.keysIn])) ?_ ?_ ?_; rotate_left)|rfl|(with_reducible refine And.intro ?_ ?_)|(simp (disch:=omega) only [go_sem, simprocAttr, Blk.men, Blk.keysIn])|exact qM rfl rfl rfl|(refine qG rfl ?_)|(refine qK (h1) (by decide) ?_)|(refine qK (h2) (by decide) ?_)|(refine qK (h3) (by decide) ?_)|(refine qK (h4) (by decide) ?_)|(refine qH rfl ?_)|(refine qI rfl ?_ ?_<;>intro hc<;>(try simp only [go_sem] at hc))|(refine qJ ?_ ?_<;>intro hc<;>(try simp only [hc])<;>(try simp only [go_sem] at hc)))
theorem bdMeasure (s : Sto) (m : Mak) (hs : s.ok) (h : m.ok s) : DCall Try.prog 16 [dSto s, dMak m] [] (.tup [.agg [dI (moistI loE s m), dI (moistI hiE s m)], .agg [dI (calI loE s m), dI (calI hiE s m)], dI 0]) [] := by
 have h1 := bdNew s m hs h
 have h2 := bdMeas s m hs h
 refine DCall.of Try.func16 sf16 hb16 (Nat.le_of_ble_eq_true rfl) (okRes_nil fun _ => rfl) ?_; simp only [s16, o16_0, o16_1, o16_2, o16_3, o16_4, o16_5, o16_6, o16_7, o16_8, o16_9, o16_10, idxs, Nat.reduceAdd]
 repeat' (first|(with_reducible first|apply qA|apply qB|apply qC|apply qD|apply qE|apply qF)|(refine DW.ord rfl (WF.of (by first|rfl|simp (disch:=omega) only [go_sem, simprocAttr, Blk.men, Blk.keysIn])) ?_ ?_ ?_; rotate_left)|rfl|(with_reducible refine And.intro ?_ ?_)|(simp (disch:=omega) only [go_sem, simprocAttr, Blk.men, Blk.keysIn])|exact qM rfl rfl rfl|(refine qG rfl ?_)|(refine qK (h1) (by decide) ?_)|(refine qK (h2) (by decide) ?_)|(refine qH rfl ?_)|(refine qI rfl ?_ ?_<;>intro hc<;>(try simp only [go_sem] at hc))|(refine qJ ?_ ?_<;>intro hc<;>(try simp only [hc])<;>(try simp only [go_sem] at hc)))
def strongI (s : Sto) (m : Mak) : Int := (sumI Pap.strong s m).tdiv (wholeI s m)
theorem strong_b {s : Sto} (hs : s.ok) : ∀ p ∈ s.papers, 0 ≤ p.strong ∧ p.strong ≤ 1000000000 := fun p hp => by have := (hs.papers p hp).strong; omega
theorem weight_b {s : Sto} (hs : s.ok) : ∀ p ∈ s.papers, 0 ≤ p.weight ∧ p.weight ≤ 1000000000 := fun p hp => by have := (hs.papers p hp).weight; omega
theorem bdStren (s : Sto) (m : Mak) (hs : s.ok) (h : m.ok s) : DCall Try.prog 51 [dShe s m (wholeI s m)] [] (dI (strongI s m)) [] := by
 have hsum := bdSum s m hs h 89 [] rfl Pap.strong (strong_b hs) (fun p _ => bdStrong p)
 have hb := (sumI_b hs h Pap.strong (strong_b hs)).2
 have hw := wholeI_b hs h
 have h0 : (wholeI s m = 0) = False := eq_false (by omega)
 have hq := tdiv_b (b := wholeI s m) hb (by omega)
 unfold strongI
 refine DCall.of Try.func51 sf51 hb51 (Nat.le_of_ble_eq_true rfl) (okRes_nil fun _ => rfl) ?_; simp only [s51, idxs, Nat.reduceAdd]
 repeat' (first|(with_reducible first|apply qA|apply qB|apply qC|apply qD|apply qE|apply qF)|(refine qL rfl (WF.of ?_) ?_; first|rfl|skip)|(simp (disch:=omega) only [go_sem, simprocAttr, Blk.men, Blk.keysIn, h0])|exact qM rfl rfl rfl|(refine qG rfl ?_)|(refine qK (hsum) (by decide) ?_)|(refine qH rfl ?_)|(refine qI rfl ?_ ?_<;>intro hc<;>(try simp only [go_sem] at hc))|(refine qJ ?_ ?_<;>intro hc<;>(try simp only [hc])<;>(try simp only [go_sem] at hc)))
theorem bdStrength (s : Sto) (m : Mak) (hs : s.ok) (h : m.ok s) : DCall Try.prog 19 [dSto s, dMak m] [] (.tup [dI (strongI s m), dI 0]) [] := by
 have h1 := bdNew s m hs h
 have h2 := bdStren s m hs h
 refine DCall.of Try.func19 sf19 hb19 (Nat.le_of_ble_eq_true rfl) (okRes_nil fun _ => rfl) ?_; simp only [s19, idxs, Nat.reduceAdd]
 repeat' (first|(with_reducible first|apply qA|apply qB|apply qC|apply qD|apply qE|apply qF)|(simp (disch:=omega) only [go_sem, simprocAttr, Blk.men, Blk.keysIn])|exact qM rfl rfl rfl|(refine qG rfl ?_)|(refine qK (h1) (by decide) ?_)|(refine qK (h2) (by decide) ?_)|(refine qH rfl ?_)|(refine qI rfl ?_ ?_<;>intro hc<;>(try simp only [go_sem] at hc))|(refine qJ ?_ ?_<;>intro hc<;>(try simp only [hc])<;>(try simp only [go_sem] at hc)))
end Go.Dw.Seat
end
section
set_option linter.unusedSimpArgs false
set_option maxRecDepth 100000
namespace Go.Dw.Seat
open Go Go.Dw Go.Proofs Go.IntWalk
structure Lod where
 sl : Int
 sh : Int
 wl : Int
 wh : Int
def eLd (b : Lod) : List C := [.v (.int .i64 b.sl), .v (.int .i64 b.sh), .v (.int .i64 b.wl), .v (.int .i64 b.wh)]
def eK (t : Int × Int) : List C := [.v (.int .i64 t.1), .v (.int .i64 t.2)]
attribute [go_sem] eLd eK
structure Lod.ok (b : Lod) : Prop where
 strong : 0 ≤ b.sl ∧ b.sl ≤ b.sh ∧ b.sh ≤ 20000000
 weight : 0 ≤ b.wl ∧ b.wl ≤ b.wh ∧ b.wh ≤ 100000
theorem arSpan (a b : Int) : DCall Try.prog 15 [dI a, dI b] [] (.agg [dI a, dI b]) [] := by
 refine DCall.of Try.func15 sf15 hb15 (Nat.le_of_ble_eq_true rfl) (okRes_nil fun _ => rfl) ?_; simp only [s15, idxs, Nat.reduceAdd]
 repeat' (first|(with_reducible first|apply qA|apply qB|apply qC|apply qD|apply qE|apply qF)|(simp (disch:=omega) only [go_sem, simprocAttr, Blk.men, Blk.keysIn])|exact qM rfl rfl rfl|(refine qG rfl ?_)|(refine qH rfl ?_)|(refine qI rfl ?_ ?_<;>intro hc<;>(try simp only [go_sem] at hc))|(refine qJ ?_ ?_<;>intro hc<;>(try simp only [hc])<;>(try simp only [go_sem] at hc)))
def exS : Sto := ⟨[⟨1, 200, 250, 270, 60, 80, 400000, 300⟩, ⟨2, 120, 180, 190, 70, 90, 300000, 200⟩], [⟨8000, 12000, 3600, 3700⟩]⟩
def exM : Mak := ⟨[0, 1, 0], [0]⟩
theorem exS_ok : exS.ok := by
 refine ⟨by decide, by decide, ?_, ?_⟩
 ·intro p hp
  simp only [exS, List.mem_cons, List.not_mem_nil, or_false] at hp
  rcases hp with rfl | rfl <;> exact ⟨by decide, by decide, by decide, by decide, by decide, by decide⟩
 ·intro p hp
  simp only [exS, List.mem_cons, List.not_mem_nil, or_false] at hp
  rcases hp with rfl
  exact ⟨by decide, by decide, by decide⟩
theorem exM_ok : exM.ok exS := by
 refine ⟨by decide, by decide, by decide, by decide, ?_⟩
 intro i n p h1 h2
 match i, h1 with
 | 0, h1 => cases h1; cases h2; rfl
 | 1, h1 => cases h1; cases h2; rfl
 | 2, h1 => cases h1; cases h2; rfl
 | i + 3, h1 => cases h1
theorem exB : moistI loE exS exM = 616 ∧ moistI hiE exS exM = 628 ∧ calI loE exS exM = 4100 ∧ calI hiE exS exM = 4240 ∧ strongI exS exM = 900 := ⟨by kernel_rfl, by kernel_rfl, by kernel_rfl, by kernel_rfl, by kernel_rfl⟩
theorem arBoard : DCall Try.prog 20 [] [] (bD true) [] := by
 have h1 := bdMeasure exS exM exS_ok exM_ok
 have h2 := bdStrength exS exM exS_ok exM_ok
 obtain ⟨e1, e2, e3, e4, e5⟩ := exB
 rw [e1, e2, e3, e4] at h1
 rw [e5] at h2
 have n1 : nL exM.papers = [0, 1, 0] := rfl
 have n2 : nL exM.flutes = [0] := rfl
 unfold dMak dSto at h1 h2
 rw [n1, n2] at h1 h2
 unfold exS at h1 h2
 have s1 := arSpan 250 270
 have s2 := arSpan 60 80
 have s3 := arSpan 180 190
 have s4 := arSpan 70 90
 have s5 := arSpan 3600 3700
 have s6 := arSpan 616 628
 have s7 := arSpan 4100 4240
 refine DCall.of Try.func20 sf20 hb20 (Nat.le_of_ble_eq_true rfl) (okRes_nil fun _ => rfl) ?_; simp only [s20, idxs, Nat.reduceAdd]
 refine DW.seq (DW.reg ?_)
 simp (disch:=omega) only [go_sem,simprocAttr,Blk.men,Blk.keysIn]
 refine DW.seq (DW.reg ?_)
 simp (disch:=omega) only [go_sem,simprocAttr,Blk.men,Blk.keysIn]
 (refine call_c (s1) (by decide) ?_; simp (disch:=omega) only [go_sem,simprocAttr,Blk.men,Blk.keysIn])
 (refine call_c (s2) (by decide) ?_; simp (disch:=omega) only [go_sem,simprocAttr,Blk.men,Blk.keysIn])
 (refine call_c (s3) (by decide) ?_; simp (disch:=omega) only [go_sem,simprocAttr,Blk.men,Blk.keysIn])
 (refine call_c (s4) (by decide) ?_; simp (disch:=omega) only [go_sem,simprocAttr,Blk.men,Blk.keysIn])
 (refine call_c (s5) (by decide) ?_; simp (disch:=omega) only [go_sem,simprocAttr,Blk.men,Blk.keysIn])
 refine DW.seq (DW.reg ?_)
 simp (disch:=omega) only [go_sem,simprocAttr,Blk.men,Blk.keysIn]
 (refine DW.ent (Ent.rel 20 rfl) ?_; simp (disch:=omega) only [go_sem,simprocAttr,Blk.men,Blk.keysIn])
 (refine DW.ent (Ent.rel 19 rfl) ?_; simp (disch:=omega) only [go_sem,simprocAttr,Blk.men,Blk.keysIn])
 (refine DW.ent (Ent.rel 17 rfl) ?_; simp (disch:=omega) only [go_sem,simprocAttr,Blk.men,Blk.keysIn])
 (refine DW.ent (Ent.rel 14 rfl) ?_; simp (disch:=omega) only [go_sem,simprocAttr,Blk.men,Blk.keysIn])
 repeat' (first|(with_reducible first|apply qA|apply qB|apply qC|apply qD|apply qE|apply qF)|(refine qL rfl (WF.of ?_) ?_; first|rfl|skip)|(simp (disch:=omega) only [go_sem, simprocAttr, Blk.men, Blk.keysIn])|exact qM rfl rfl rfl|(refine qG rfl ?_)|(refine qK (h1) (by decide) ?_)|(refine qK (h2) (by decide) ?_)|(refine qK (s6) (by decide) ?_)|(refine qK (s7) (by decide) ?_)|(refine qH rfl ?_)|(refine qI rfl ?_ ?_<;>intro hc<;>(try simp only [go_sem] at hc))|(refine qJ ?_ ?_<;>intro hc<;>(try simp only [hc])<;>(try simp only [go_sem] at hc)))
end Go.Dw.Seat
end
section
set_option linter.unusedSimpArgs false
set_option maxRecDepth 100000
namespace Go.Dw.Seat
open Go Go.Dw Go.Proofs Go.IntWalk
structure V6 where
 v0 : Nat
 v1 : Nat
 v2 : Nat
 v3 : Nat
 v4 : Nat
 v5 : Nat
structure V6.ok (v : V6) : Prop where
 v0 : v.v0 < 256
 v1 : v.v1 < 256
 v2 : v.v2 < 256
 v3 : v.v3 < 256
 v4 : v.v4 < 256
 v5 : v.v5 < 256
structure V3 where
 v0 : Nat
 v1 : Nat
 v2 : Nat
structure V3.ok (v : V3) : Prop where
 v0 : v.v0 < 256
 v1 : v.v1 < 256
 v2 : v.v2 < 256
def e6 (v : V6) : List C := [.v (.int .u8 v.v0), .v (.int .u8 v.v1), .v (.int .u8 v.v2), .v (.int .u8 v.v3), .v (.int .u8 v.v4), .v (.int .u8 v.v5)]
def e3 (v : V3) : List C := [.v (.int .u8 v.v0), .v (.int .u8 v.v1), .v (.int .u8 v.v2)]
attribute [go_sem] e6 e3
structure War where
 papers : List V6
 flutes : List V3
 by' : List Nat
structure War.ok (x : War) : Prop where
 papers : ∀ v ∈ x.papers, v.ok
 flutes : ∀ v ∈ x.flutes, v.ok
 by' : ∀ v ∈ x.by', v < 256
abbrev dWar (b : Bool) (x : War) : D := .agg [.c (.sl b 6 (rows e6 x.papers)), .c (.sl b 3 (rows e3 x.flutes)), .c (.sl b 1 (rows eY x.by'))]
attribute [go_sem] dWar
theorem ud87 : Try.prog.underlying 55 = some (.int .i64) := by kernel_rfl
theorem t100 (m : Nat) : (m : Int).tmod 100 = ((m % 100 : Nat) : Int) := tmodN m 100
theorem t90 (m : Nat) : (m : Int).tmod 90 = ((m % 90 : Nat) : Int) := tmodN m 90
theorem t2 (m : Nat) : (m : Int).tmod 2 = ((m % 2 : Nat) : Int) := tmodN m 2
theorem d8' (m : Nat) : (m : Int).tdiv 8 = ((m / 8 : Nat) : Int) := tdivN m 8
theorem d16' (m : Nat) : (m : Int).tdiv 16 = ((m / 16 : Nat) : Int) := tdivN m 16
def papOf (i : Nat) (v : V6) : Pap := ⟨if 1 < i then 1 + ((v.v0 % 2 : Nat) : Int) else 1 + (i : Int), 50 + (v.v1 : Int), 50 + (v.v2 : Int), 50 + (v.v2 : Int) + ((v.v0 / 8 : Nat) : Int), ((v.v3 % 100 : Nat) : Int), ((v.v3 % 100 : Nat) : Int) + ((v.v3 / 16 : Nat) : Int), 1000 * (v.v4 : Int), 10 * (v.v5 : Int)⟩
def papV (x : War) (i : Nat) : V6 := (x.papers[i]?).getD ⟨i, 120, 20, 7, 30, 20⟩
def fluOf (v : V3) : Flu := ⟨1000 + 35 * (v.v0 : Int), 1000 + 35 * (v.v0 : Int) + ((1000 + 35 * (v.v0 : Int)) * (v.v1 : Int)).tdiv 255, 500 + 10 * (v.v2 : Int), 500 + 10 * (v.v2 : Int) + ((v.v1 % 90 : Nat) : Int)⟩
def fluV (x : War) (i : Nat) : V3 := (x.flutes[i]?).getD ⟨80, 128, 36⟩
def nPap (x : War) : Nat := max 2 (min 5 x.papers.length)
def nFlu (x : War) : Nat := max 1 (min 3 x.flutes.length)
def wPaps (x : War) (i : Nat) : List Pap := (List.range i).map fun k => papOf k (papV x k)
def wFlus (x : War) (i : Nat) : List Flu := (List.range i).map fun k => fluOf (fluV x k)
def wSto (x : War) : Sto := ⟨wPaps x (nPap x), wFlus x (nFlu x)⟩
theorem wPaps_succ (x : War) (i : Nat) : wPaps x (i + 1) = wPaps x i ++ [papOf i (papV x i)] := by simp [wPaps, List.range_succ]
theorem wFlus_succ (x : War) (i : Nat) : wFlus x (i + 1) = wFlus x i ++ [fluOf (fluV x i)] := by simp [wFlus, List.range_succ]
theorem wPaps_len (x : War) (i : Nat) : (wPaps x i).length = i := by simp [wPaps]
theorem wFlus_len (x : War) (i : Nat) : (wFlus x i).length = i := by simp [wFlus]
theorem papV_ok {x : War} (h : x.ok) {i : Nat} (hi : i < 256) : (papV x i).ok := by
 unfold papV
 cases hv : x.papers[i]? with
 | none => exact ⟨hi, (by decide : 120 < 256), (by decide : 20 < 256), (by decide : 7 < 256), (by decide : 30 < 256), (by decide : 20 < 256)⟩
 | some v => exact h.papers v (List.mem_of_getElem? hv)
theorem fluV_ok {x : War} (h : x.ok) (i : Nat) : (fluV x i).ok := by
 unfold fluV
 cases hv : x.flutes[i]? with
 | none => exact ⟨by decide, by decide, by decide⟩
 | some v => exact h.flutes v (List.mem_of_getElem? hv)
theorem papOf_ok {v : V6} (h : v.ok) (i : Nat) : (papOf i v).ok := by
 have h0 := h.v0
 have h1 := h.v1
 have h2 := h.v2
 have h3 := h.v3
 have h4 := h.v4
 have h5 := h.v5
 have m0 : v.v0 % 2 < 2 := Nat.mod_lt _ (by decide)
 have m1 : v.v3 % 100 < 100 := Nat.mod_lt _ (by decide)
 unfold papOf
 refine ⟨?_, ?_, ?_, ?_, ?_, ?_⟩
 ·show (if 1 < i then 1 + ((v.v0 % 2 : Nat) : Int) else 1 + (i : Int)) = 1 ∨ (if 1 < i then 1 + ((v.v0 % 2 : Nat) : Int) else 1 + (i : Int)) = 2
  split <;> omega
 all_goals dsimp only
 all_goals omega
theorem fluOf_draw {v : V3} (h : v.ok) : 0 ≤ (1000 + 35 * (v.v0 : Int)) * (v.v1 : Int) ∧ (1000 + 35 * (v.v0 : Int)) * (v.v1 : Int) ≤ 2530875 ∧ 0 ≤ ((1000 + 35 * (v.v0 : Int)) * (v.v1 : Int)).tdiv 255 ∧ ((1000 + 35 * (v.v0 : Int)) * (v.v1 : Int)).tdiv 255 ≤ 1000 + 35 * (v.v0 : Int) := by
 have h0 := h.v0
 have h1 := h.v1
 have m := mulB0 (a := 1000 + 35 * (v.v0 : Int)) (b := (v.v1 : Int)) (A := 9925) (B := 255) (by omega) (by omega)
 have m2 : (1000 + 35 * (v.v0 : Int)) * (v.v1 : Int) ≤ (1000 + 35 * (v.v0 : Int)) * 255 := Int.mul_le_mul_of_nonneg_left (by omega) (by omega)
 rw [Int.tdiv_eq_ediv_of_nonneg m.1]
 generalize (1000 + 35 * (v.v0 : Int)) * (v.v1 : Int) = q at *
 omega
theorem fluOf_ok {v : V3} (h : v.ok) : (fluOf v).ok := by
 have h0 := h.v0
 have h1 := h.v1
 have h2 := h.v2
 have hd := fluOf_draw h
 have m1 : v.v1 % 90 < 90 := Nat.mod_lt _ (by decide)
 unfold fluOf
 refine ⟨?_, ?_, ?_⟩
 all_goals dsimp only
 all_goals omega
theorem wSto_ok {x : War} (h : x.ok) : (wSto x).ok := by
 refine ⟨?_, ?_, ?_, ?_⟩
 ·show 1 ≤ (wPaps x (nPap x)).length ∧ (wPaps x (nPap x)).length ≤ 8
  rw [wPaps_len]; unfold nPap; omega
 ·show 1 ≤ (wFlus x (nFlu x)).length ∧ (wFlus x (nFlu x)).length ≤ 4
  rw [wFlus_len]; unfold nFlu; omega
 ·intro p hp
  obtain ⟨i, hi, rfl⟩ := List.mem_map.1 hp
  rw [List.mem_range] at hi
  exact papOf_ok (papV_ok h (by unfold nPap at hi; omega)) i
 ·intro p hp
  obtain ⟨i, _, rfl⟩ := List.mem_map.1 hp
  exact fluOf_ok (fluV_ok h i)
theorem snocP (l : List Pap) (a b c d e f g h : Int) : rowC (rows eP l) ++ [[D.c (.v (.int .i64 a)), D.c (.v (.int .i64 b)), D.c (.v (.int .i64 c)), D.c (.v (.int .i64 d)), D.c (.v (.int .i64 e)), D.c (.v (.int .i64 f)), D.c (.v (.int .i64 g)), D.c (.v (.int .i64 h))]] = rowC (rows eP (l ++ [⟨a, b, c, d, e, f, g, h⟩])) := by simp [rowC, rows, eP]
theorem snocF (l : List Flu) (a b c d : Int) : rowC (rows eF l) ++ [[D.c (.v (.int .i64 a)), D.c (.v (.int .i64 b)), D.c (.v (.int .i64 c)), D.c (.v (.int .i64 d))]] = rowC (rows eF (l ++ [⟨a, b, c, d⟩])) := by simp [rowC, rows, eF]
attribute [go_sem] snocP snocF
set_option maxHeartbeats 1600000 in
theorem arStore (b : Bool) (x : War) (h : x.ok) : DCall Try.prog 7 [dWar b x] [] (dSto (wSto x)) [] := by
 have hn : nPap x ≤ 5 ∧ 2 ≤ nPap x := by unfold nPap; omega
 have hnf : nFlu x ≤ 3 ∧ 1 ≤ nFlu x := by unfold nFlu; omega
 refine DCall.of Try.func7 sf7 hb7 (Nat.le_of_ble_eq_true rfl) (okRes_nil fun _ => rfl) ?_; simp only [s7, idxs, Nat.reduceAdd]
 repeat' (first|(with_reducible first|apply qA|apply qB|apply qC|apply qD|apply qE|apply qF)|(refine qL rfl (WF.of ?_) ?_; first|rfl|skip)|(simp (disch:=omega) only [go_sem, simprocAttr, Blk.men, Blk.keysIn])|exact qM rfl rfl rfl|(refine qG rfl ?_)|(refine qH rfl ?_)|(refine qI rfl ?_ ?_<;>intro hc<;>(try simp only [go_sem] at hc))|(refine qJ ?_ ?_<;>intro hc<;>(try simp only [hc])<;>(try simp only [go_sem] at hc)))
 (refine DW.ent (Ent.adoptB 3 0 94 8 rfl rfl rfl rfl) ?_; simp only [ins, Nat.reduceLT, Nat.reduceEqDiff, ↓reduceIte, List.set_cons_zero, List.set_cons_succ])
 (refine DW.ent (Ent.adoptB 3 1 156 4 rfl rfl rfl rfl) ?_; simp only [ins, Nat.reduceLT, Nat.reduceEqDiff, ↓reduceIte, List.set_cons_zero, List.set_cons_succ])
 refine DW.loop (ι := { i : Nat // i ≤ nPap x }) (fun i => ⟨159, [(4, dI i.1), (3, .box 3 0), (2, .box 2 0), (1, .box 1 0)], [(156, .row 4 []), (94, .row 8 (rowC (rows eP (wPaps x i.1)))), (3, .box [.own 94, .own 156]), (2, .box [.c (.v (.slice none 0 0)), .c (.v (.slice none 0 0))]), (1, .box [.c (.sl b 6 (rows e6 x.papers)), .c (.sl b 3 (rows e3 x.flutes)), .c (.sl b 1 (rows eY x.by'))])]⟩) (fun i => nPap x - i.1) ⟨0, Nat.zero_le _⟩ ?_ ?_
 ·refine Ent.to ?_ ?_ <;> simp (disch:=omega) only [qR,qS,qTw,qU,get,Nat.reduceEqDiff,↓reduceIte,qV,qW,qX,qY,qZ,and_self,dI,i64_in,and_true,true_and,rA,rB,rC,rD]
  exact .refl _
 rintro ⟨i, hi⟩
 dsimp only
 rcases Nat.lt_or_ge i (nPap x) with hlt | hge
 ·have hv := papV_ok h (i := i) (by omega)
  have hcond : (decide ((i : Int) < 2) = true) ∨ (decide ((i : Int) < 2) = false ∧ decide ((i : Int) < (x.papers.length : Int)) = true ∧ decide ((i : Int) < 5) = true) := by
   unfold nPap at hlt
   simp only [decide_eq_true_eq, decide_eq_false_iff_not]
   omega
  refine DW.cut ⟨159, [(4, dI i), (3, .box 3 0), (2, .box 2 0), (1, .box 1 0)], [(156, .row 4 []), (94, .row 8 (rowC (rows eP (wPaps x i)))), (3, .box [.own 94, .own 156]), (2, .box [.c (.v (.slice none 0 0)), .c (.v (.slice none 0 0))]), (1, .box [.c (.sl b 6 (rows e6 x.papers)), .c (.sl b 3 (rows e3 x.flutes)), .c (.sl b 1 (rows eY x.by'))])]⟩ ?_ ?_
  ·rcases hcond with hc | ⟨hc1, hc2, hc3⟩
   ·repeat' (first|(with_reducible first|apply qA|apply qB|apply qC|apply qD|apply qE|apply qF)|(refine qL rfl (WF.of ?_) ?_; first|rfl|skip)|(simp (disch:=omega) only [go_sem, simprocAttr, Blk.men, Blk.keysIn, hc])|exact qM rfl rfl rfl|(refine qG rfl ?_)|(refine qH rfl ?_)|(refine qI rfl ?_ ?_<;>intro hc<;>(try simp only [go_sem] at hc))|(refine qJ ?_ ?_<;>intro hc<;>(try simp only [hc])<;>(try simp only [go_sem] at hc)))
    refine Ent.to ?_ ?_ <;> simp (disch:=omega) only [qR,qS,qTw,qU,get,Nat.reduceEqDiff,↓reduceIte,qV,qW,qX,qY,qZ,and_self,dI,i64_in,and_true,true_and,rA,rB,rC,rD]
   ·repeat' (first|(with_reducible first|apply qA|apply qB|apply qC|apply qD|apply qE|apply qF)|(refine qL rfl (WF.of ?_) ?_; first|rfl|skip)|(simp (disch:=omega) only [go_sem, simprocAttr, Blk.men, Blk.keysIn, hc1, hc2, hc3])|exact qM rfl rfl rfl|(refine qG rfl ?_)|(refine qH rfl ?_)|(refine qI rfl ?_ ?_<;>intro hc<;>(try simp only [go_sem] at hc))|(refine qJ ?_ ?_<;>intro hc<;>(try simp only [hc])<;>(try simp only [go_sem] at hc)))
    refine Ent.to ?_ ?_ <;> simp (disch:=omega) only [qR,qS,qTw,qU,get,Nat.reduceEqDiff,↓reduceIte,qV,qW,qX,qY,qZ,and_self,dI,i64_in,and_true,true_and,rA,rB,rC,rD]
  refine DW.seq (DW.block (DW.seq (DW.reg ?_)))
  have hi8 : IntKind.u8.wrap (i : Int) = (i : Int) := IntWalk.u8_in _ (by omega)
  simp (disch:=omega) only [go_sem,simprocAttr,Blk.men,Blk.keysIn,ud3,hi8]
  generalize hpv : papV x i = v at *
  refine DW.cut ⟨159, [(5, .box 5 0), (4, dI i), (3, .box 3 0), (2, .box 2 0), (1, .box 1 0)], [(156, .row 4 []), (94, .row 8 (rowC (rows eP (wPaps x i)))), (5, .box ((e6 v).map D.c)), (3, .box [.own 94, .own 156]), (2, .box [.c (.v (.slice none 0 0)), .c (.v (.slice none 0 0))]), (1, .box [.c (.sl b 6 (rows e6 x.papers)), .c (.sl b 3 (rows e3 x.flutes)), .c (.sl b 1 (rows eY x.by'))])]⟩ ?_ ?_
  ·rcases Nat.lt_or_ge i x.papers.length with hl | hl
   ·have hd : decide ((i : Int) < (x.papers.length : Int)) = true := by rw [decide_eq_true_eq]; omega
    have hxv : x.papers[i]? = some v := by
     rw [← hpv, papV, List.getElem?_eq_getElem hl]; rfl
    repeat' (first|(with_reducible first|apply qA|apply qB|apply qC|apply qD|apply qE|apply qF)|(refine qL rfl (WF.of ?_) ?_; first|rfl|skip)|(simp (disch:=omega) only [go_sem, simprocAttr, Blk.men, Blk.keysIn, hd, hxv, rF, rG])|exact qM rfl rfl rfl|(refine qG rfl ?_)|(refine qH rfl ?_)|(refine qI rfl ?_ ?_<;>intro hc<;>(try simp only [go_sem] at hc))|(refine qJ ?_ ?_<;>intro hc<;>(try simp only [hc])<;>(try simp only [go_sem] at hc)))
    refine Ent.to ?_ ?_ <;> simp (disch:=omega) only [qR,qS,qTw,qU,get,Nat.reduceEqDiff,↓reduceIte,qV,qW,qX,qY,qZ,and_self,dI,i64_in,and_true,true_and,rA,rB,rC,rD]
   ·have hd : decide ((i : Int) < (x.papers.length : Int)) = false := by rw [decide_eq_false_iff_not]; omega
    have hxv : v = ⟨i, 120, 20, 7, 30, 20⟩ := by
     rw [← hpv, papV, List.getElem?_eq_none hl]; rfl
    rw [hxv]
    repeat' (first|(with_reducible first|apply qA|apply qB|apply qC|apply qD|apply qE|apply qF)|(refine qL rfl (WF.of ?_) ?_; first|rfl|skip)|(simp (disch:=omega) only [go_sem, simprocAttr, Blk.men, Blk.keysIn, hd, rF, rG])|exact qM rfl rfl rfl|(refine qG rfl ?_)|(refine qH rfl ?_)|(refine qI rfl ?_ ?_<;>intro hc<;>(try simp only [go_sem] at hc))|(refine qJ ?_ ?_<;>intro hc<;>(try simp only [hc])<;>(try simp only [go_sem] at hc)))
    refine Ent.to ?_ ?_ <;> simp (disch:=omega) only [qR,qS,qTw,qU,get,Nat.reduceEqDiff,↓reduceIte,qV,qW,qX,qY,qZ,and_self,dI,i64_in,and_true,true_and,rA,rB,rC,rD]
    all_goals exact .refl _
  have w0 := hv.v0
  have w1 := hv.v1
  have w2 := hv.v2
  have w3 := hv.v3
  have w4 := hv.v4
  have w5 := hv.v5
  have m0 : v.v0 % 2 < 2 := Nat.mod_lt _ (by decide)
  have m1 : v.v3 % 100 < 100 := Nat.mod_lt _ (by decide)
  have s1 := arSpan (50 + (v.v2 : Int)) (50 + (v.v2 : Int) + ((v.v0 / 8 : Nat) : Int))
  have s2 := arSpan ((v.v3 % 100 : Nat) : Int) (((v.v3 % 100 : Nat) : Int) + ((v.v3 / 16 : Nat) : Int))
  have hln := wPaps_len x i
  have hsn := wPaps_succ x i
  rw [hpv] at hsn
  generalize wPaps x i = l at *
  by_cases h1 : 1 < i
  ·have hd : decide ((1 : Int) < (i : Int)) = true := by rw [decide_eq_true_eq]; omega
   have hpo : papOf i v = ⟨1 + ((v.v0 % 2 : Nat) : Int), 50 + (v.v1 : Int), 50 + (v.v2 : Int), 50 + (v.v2 : Int) + ((v.v0 / 8 : Nat) : Int), ((v.v3 % 100 : Nat) : Int), ((v.v3 % 100 : Nat) : Int) + ((v.v3 / 16 : Nat) : Int), 1000 * (v.v4 : Int), 10 * (v.v5 : Int)⟩ := by rw [papOf, if_pos h1]
   rw [hpo] at hsn
   repeat' (first|(with_reducible first|apply qA|apply qB|apply qC|apply qD|apply qE|apply qF)|(refine qL rfl (WF.of ?_) ?_; first|rfl|skip)|(simp (disch:=omega) only [go_sem, simprocAttr, Blk.men, Blk.keysIn, hd, t100, t2, d8', d16', ud87, rF, rG])|exact qM rfl rfl rfl|(refine qG rfl ?_)|(refine qK (s1) (by decide) ?_)|(refine qK (s2) (by decide) ?_)|(refine qH rfl ?_)|(refine qI rfl ?_ ?_<;>intro hc<;>(try simp only [go_sem] at hc))|(refine qJ ?_ ?_<;>intro hc<;>(try simp only [hc])<;>(try simp only [go_sem] at hc)))
   refine ⟨⟨i + 1, hlt⟩, ?_, Ent.to ?_ ?_⟩ <;> first | (show _ < _; (try simp only); omega) | (simp (disch:=omega) only [qR,qS,qTw,qU,get,Nat.reduceEqDiff,↓reduceIte,qV,qW,qX,qY,qZ,and_self,dI,i64_in,and_true,true_and,rA,rB,rC,rD, hsn])
   all_goals exact .refl _
  ·have hd : decide ((1 : Int) < (i : Int)) = false := by rw [decide_eq_false_iff_not]; omega
   have hpo : papOf i v = ⟨1 + (i : Int), 50 + (v.v1 : Int), 50 + (v.v2 : Int), 50 + (v.v2 : Int) + ((v.v0 / 8 : Nat) : Int), ((v.v3 % 100 : Nat) : Int), ((v.v3 % 100 : Nat) : Int) + ((v.v3 / 16 : Nat) : Int), 1000 * (v.v4 : Int), 10 * (v.v5 : Int)⟩ := by rw [papOf, if_neg h1]
   rw [hpo] at hsn
   repeat' (first|(with_reducible first|apply qA|apply qB|apply qC|apply qD|apply qE|apply qF)|(refine qL rfl (WF.of ?_) ?_; first|rfl|skip)|(simp (disch:=omega) only [go_sem, simprocAttr, Blk.men, Blk.keysIn, hd, t100, t2, d8', d16', ud87, rF, rG])|exact qM rfl rfl rfl|(refine qG rfl ?_)|(refine qK (s1) (by decide) ?_)|(refine qK (s2) (by decide) ?_)|(refine qH rfl ?_)|(refine qI rfl ?_ ?_<;>intro hc<;>(try simp only [go_sem] at hc))|(refine qJ ?_ ?_<;>intro hc<;>(try simp only [hc])<;>(try simp only [go_sem] at hc)))
   refine ⟨⟨i + 1, hlt⟩, ?_, Ent.to ?_ ?_⟩ <;> first | (show _ < _; (try simp only); omega) | (simp (disch:=omega) only [qR,qS,qTw,qU,get,Nat.reduceEqDiff,↓reduceIte,qV,qW,qX,qY,qZ,and_self,dI,i64_in,and_true,true_and,rA,rB,rC,rD, hsn])
   all_goals exact .refl _
 ·obtain rfl : i = nPap x := by omega
  have hc1 : decide ((nPap x : Int) < 2) = false := by rw [decide_eq_false_iff_not]; omega
  have hcond : (decide ((nPap x : Int) < (x.papers.length : Int)) = false) ∨ (decide ((nPap x : Int) < (x.papers.length : Int)) = true ∧ decide ((nPap x : Int) < 5) = false) := by
   have : nPap x = max 2 (min 5 x.papers.length) := rfl
   simp only [decide_eq_true_eq, decide_eq_false_iff_not]
   omega
  refine DW.leave 0 ⟨159, [(3, .box 3 0), (2, .box 2 0), (1, .box 1 0)], [(156, .row 4 (rowC (rows eF (wFlus x 0)))), (94, .row 8 (rowC (rows eP (wPaps x (nPap x))))), (3, .box [.own 94, .own 156]), (2, .box [.c (.v (.slice none 0 0)), .c (.v (.slice none 0 0))]), (1, .box [.c (.sl b 6 (rows e6 x.papers)), .c (.sl b 3 (rows e3 x.flutes)), .c (.sl b 1 (rows eY x.by'))])]⟩ ?_ ?_
  ·rcases hcond with hc | ⟨hc2, hc3⟩
   ·repeat' (first|(with_reducible first|apply qA|apply qB|apply qC|apply qD|apply qE|apply qF)|(refine qL rfl (WF.of ?_) ?_; first|rfl|skip)|(simp (disch:=omega) only [go_sem, simprocAttr, Blk.men, Blk.keysIn, hc1, hc])|exact qM rfl rfl rfl|(refine qG rfl ?_)|(refine qH rfl ?_)|(refine qI rfl ?_ ?_<;>intro hc<;>(try simp only [go_sem] at hc))|(refine qJ ?_ ?_<;>intro hc<;>(try simp only [hc])<;>(try simp only [go_sem] at hc)))
    refine Ent.to ?_ ?_ <;> simp (disch:=omega) only [qR,qS,qTw,qU,get,Nat.reduceEqDiff,↓reduceIte,qV,qW,qX,qY,qZ,and_self,dI,i64_in,and_true,true_and,rA,rB,rC,rD]
    all_goals exact .refl _
   ·repeat' (first|(with_reducible first|apply qA|apply qB|apply qC|apply qD|apply qE|apply qF)|(refine qL rfl (WF.of ?_) ?_; first|rfl|skip)|(simp (disch:=omega) only [go_sem, simprocAttr, Blk.men, Blk.keysIn, hc1, hc2, hc3])|exact qM rfl rfl rfl|(refine qG rfl ?_)|(refine qH rfl ?_)|(refine qI rfl ?_ ?_<;>intro hc<;>(try simp only [go_sem] at hc))|(refine qJ ?_ ?_<;>intro hc<;>(try simp only [hc])<;>(try simp only [go_sem] at hc)))
    refine Ent.to ?_ ?_ <;> simp (disch:=omega) only [qR,qS,qTw,qU,get,Nat.reduceEqDiff,↓reduceIte,qV,qW,qX,qY,qZ,and_self,dI,i64_in,and_true,true_and,rA,rB,rC,rD]
    all_goals exact .refl _
  intro σ' hσ'
  simp (disch:=omega) only [go_sem,simprocAttr,Blk.men,Blk.keysIn]
  refine DW.ent hσ' ?_
  clear hσ' hcond hc1
  repeat' (first|(with_reducible first|apply qA|apply qB|apply qC|apply qD|apply qE|apply qF)|(refine qL rfl (WF.of ?_) ?_; first|rfl|skip)|(simp (disch:=omega) only [go_sem, simprocAttr, Blk.men, Blk.keysIn])|exact qM rfl rfl rfl|(refine qG rfl ?_)|(refine qH rfl ?_)|(refine qI rfl ?_ ?_<;>intro hc<;>(try simp only [go_sem] at hc))|(refine qJ ?_ ?_<;>intro hc<;>(try simp only [hc])<;>(try simp only [go_sem] at hc)))
  refine DW.loop (ι := { i : Nat // i ≤ nFlu x }) (fun i => ⟨159, [(7, dI i.1), (3, .box 3 0), (2, .box 2 0), (1, .box 1 0)], [(156, .row 4 (rowC (rows eF (wFlus x i.1)))), (94, .row 8 (rowC (rows eP (wPaps x (nPap x))))), (3, .box [.own 94, .own 156]), (2, .box [.c (.v (.slice none 0 0)), .c (.v (.slice none 0 0))]), (1, .box [.c (.sl b 6 (rows e6 x.papers)), .c (.sl b 3 (rows e3 x.flutes)), .c (.sl b 1 (rows eY x.by'))])]⟩) (fun i => nFlu x - i.1) ⟨0, Nat.zero_le _⟩ ?_ ?_
  ·refine Ent.to ?_ ?_ <;> simp (disch:=omega) only [qR,qS,qTw,qU,get,Nat.reduceEqDiff,↓reduceIte,qV,qW,qX,qY,qZ,and_self,dI,i64_in,and_true,true_and,rA,rB,rC,rD]
  clear hi
  rintro ⟨i, hi⟩
  dsimp only
  rcases Nat.lt_or_ge i (nFlu x) with hlt | hge
  ·have hv := fluV_ok h i
   have hcond : (((i : Int) == 0) = true) ∨ (((i : Int) == 0) = false ∧ decide ((i : Int) < (x.flutes.length : Int)) = true ∧ decide ((i : Int) < 3) = true) := by
    have : nFlu x = max 1 (min 3 x.flutes.length) := rfl
    simp only [decide_eq_true_eq, beq_iff_eq, beq_eq_false_iff_ne]
    omega
   refine DW.cut ⟨159, [(7, dI i), (3, .box 3 0), (2, .box 2 0), (1, .box 1 0)], [(156, .row 4 (rowC (rows eF (wFlus x i)))), (94, .row 8 (rowC (rows eP (wPaps x (nPap x))))), (3, .box [.own 94, .own 156]), (2, .box [.c (.v (.slice none 0 0)), .c (.v (.slice none 0 0))]), (1, .box [.c (.sl b 6 (rows e6 x.papers)), .c (.sl b 3 (rows e3 x.flutes)), .c (.sl b 1 (rows eY x.by'))])]⟩ ?_ ?_
   ·rcases hcond with hc | ⟨hc1, hc2, hc3⟩
    ·repeat' (first|(with_reducible first|apply qA|apply qB|apply qC|apply qD|apply qE|apply qF)|(refine qL rfl (WF.of ?_) ?_; first|rfl|skip)|(simp (disch:=omega) only [go_sem, simprocAttr, Blk.men, Blk.keysIn, hc])|exact qM rfl rfl rfl|(refine qG rfl ?_)|(refine qH rfl ?_)|(refine qI rfl ?_ ?_<;>intro hc<;>(try simp only [go_sem] at hc))|(refine qJ ?_ ?_<;>intro hc<;>(try simp only [hc])<;>(try simp only [go_sem] at hc)))
     refine Ent.to ?_ ?_ <;> simp (disch:=omega) only [qR,qS,qTw,qU,get,Nat.reduceEqDiff,↓reduceIte,qV,qW,qX,qY,qZ,and_self,dI,i64_in,and_true,true_and,rA,rB,rC,rD]
    ·repeat' (first|(with_reducible first|apply qA|apply qB|apply qC|apply qD|apply qE|apply qF)|(refine qL rfl (WF.of ?_) ?_; first|rfl|skip)|(simp (disch:=omega) only [go_sem, simprocAttr, Blk.men, Blk.keysIn, hc1, hc2, hc3])|exact qM rfl rfl rfl|(refine qG rfl ?_)|(refine qH rfl ?_)|(refine qI rfl ?_ ?_<;>intro hc<;>(try simp only [go_sem] at hc))|(refine qJ ?_ ?_<;>intro hc<;>(try simp only [hc])<;>(try simp only [go_sem] at hc)))
     refine Ent.to ?_ ?_ <;> simp (disch:=omega) only [qR,qS,qTw,qU,get,Nat.reduceEqDiff,↓reduceIte,qV,qW,qX,qY,qZ,and_self,dI,i64_in,and_true,true_and,rA,rB,rC,rD]
   refine DW.seq (DW.block (DW.seq (DW.reg ?_)))
   simp (disch:=omega) only [go_sem,simprocAttr,Blk.men,Blk.keysIn]
   generalize hpv : fluV x i = v at *
   refine DW.cut ⟨159, [(8, .box 8 0), (7, dI i), (3, .box 3 0), (2, .box 2 0), (1, .box 1 0)], [(156, .row 4 (rowC (rows eF (wFlus x i)))), (94, .row 8 (rowC (rows eP (wPaps x (nPap x))))), (8, .box ((e3 v).map D.c)), (3, .box [.own 94, .own 156]), (2, .box [.c (.v (.slice none 0 0)), .c (.v (.slice none 0 0))]), (1, .box [.c (.sl b 6 (rows e6 x.papers)), .c (.sl b 3 (rows e3 x.flutes)), .c (.sl b 1 (rows eY x.by'))])]⟩ ?_ ?_
   ·rcases Nat.lt_or_ge i x.flutes.length with hl | hl
    ·have hd : decide ((i : Int) < (x.flutes.length : Int)) = true := by rw [decide_eq_true_eq]; omega
     have hxv : x.flutes[i]? = some v := by
      rw [← hpv, fluV, List.getElem?_eq_getElem hl]; rfl
     repeat' (first|(with_reducible first|apply qA|apply qB|apply qC|apply qD|apply qE|apply qF)|(refine qL rfl (WF.of ?_) ?_; first|rfl|skip)|(simp (disch:=omega) only [go_sem, simprocAttr, Blk.men, Blk.keysIn, hd, hxv, rF, rG])|exact qM rfl rfl rfl|(refine qG rfl ?_)|(refine qH rfl ?_)|(refine qI rfl ?_ ?_<;>intro hc<;>(try simp only [go_sem] at hc))|(refine qJ ?_ ?_<;>intro hc<;>(try simp only [hc])<;>(try simp only [go_sem] at hc)))
     refine Ent.to ?_ ?_ <;> simp (disch:=omega) only [qR,qS,qTw,qU,get,Nat.reduceEqDiff,↓reduceIte,qV,qW,qX,qY,qZ,and_self,dI,i64_in,and_true,true_and,rA,rB,rC,rD]
    ·have hd : decide ((i : Int) < (x.flutes.length : Int)) = false := by rw [decide_eq_false_iff_not]; omega
     have hxv : v = ⟨80, 128, 36⟩ := by
      rw [← hpv, fluV, List.getElem?_eq_none hl]; rfl
     rw [hxv]
     repeat' (first|(with_reducible first|apply qA|apply qB|apply qC|apply qD|apply qE|apply qF)|(refine qL rfl (WF.of ?_) ?_; first|rfl|skip)|(simp (disch:=omega) only [go_sem, simprocAttr, Blk.men, Blk.keysIn, hd, rF, rG])|exact qM rfl rfl rfl|(refine qG rfl ?_)|(refine qH rfl ?_)|(refine qI rfl ?_ ?_<;>intro hc<;>(try simp only [go_sem] at hc))|(refine qJ ?_ ?_<;>intro hc<;>(try simp only [hc])<;>(try simp only [go_sem] at hc)))
     refine Ent.to ?_ ?_ <;> simp (disch:=omega) only [qR,qS,qTw,qU,get,Nat.reduceEqDiff,↓reduceIte,qV,qW,qX,qY,qZ,and_self,dI,i64_in,and_true,true_and,rA,rB,rC,rD]
     all_goals exact .refl _
   have w0 := hv.v0
   have w1 := hv.v1
   have w2 := hv.v2
   have hfd := fluOf_draw hv
   have m1 : v.v1 % 90 < 90 := Nat.mod_lt _ (by decide)
   have s1 := arSpan (500 + 10 * (v.v2 : Int)) (500 + 10 * (v.v2 : Int) + ((v.v1 % 90 : Nat) : Int))
   have hln := wFlus_len x i
   have hsn := wFlus_succ x i
   rw [hpv] at hsn
   have hpo : fluOf v = ⟨1000 + 35 * (v.v0 : Int), 1000 + 35 * (v.v0 : Int) + ((1000 + 35 * (v.v0 : Int)) * (v.v1 : Int)).tdiv 255, 500 + 10 * (v.v2 : Int), 500 + 10 * (v.v2 : Int) + ((v.v1 % 90 : Nat) : Int)⟩ := rfl
   rw [hpo] at hsn
   generalize wFlus x i = l at *
   repeat' (first|(with_reducible first|apply qA|apply qB|apply qC|apply qD|apply qE|apply qF)|(refine qL rfl (WF.of ?_) ?_; first|rfl|skip)|(simp (disch:=omega) only [go_sem, simprocAttr, Blk.men, Blk.keysIn, t90, rF, rG])|exact qM rfl rfl rfl|(refine qG rfl ?_)|(refine qK (s1) (by decide) ?_)|(refine qH rfl ?_)|(refine qI rfl ?_ ?_<;>intro hc<;>(try simp only [go_sem] at hc))|(refine qJ ?_ ?_<;>intro hc<;>(try simp only [hc])<;>(try simp only [go_sem] at hc)))
   refine ⟨⟨i + 1, hlt⟩, ?_, Ent.to ?_ ?_⟩ <;> first | (show _ < _; (try simp only); omega) | (simp (disch:=omega) only [qR,qS,qTw,qU,get,Nat.reduceEqDiff,↓reduceIte,qV,qW,qX,qY,qZ,and_self,dI,i64_in,and_true,true_and,rA,rB,rC,rD, hsn])
   all_goals exact .refl _
  ·obtain rfl : i = nFlu x := by omega
   have hc1 : ((nFlu x : Int) == 0) = false := by rw [beq_eq_false_iff_ne]; omega
   have hcond : (decide ((nFlu x : Int) < (x.flutes.length : Int)) = false) ∨ (decide ((nFlu x : Int) < (x.flutes.length : Int)) = true ∧ decide ((nFlu x : Int) < 3) = false) := by
    have : nFlu x = max 1 (min 3 x.flutes.length) := rfl
    simp only [decide_eq_true_eq, decide_eq_false_iff_not]
    omega
   rcases hcond with hc | ⟨hc2, hc3⟩
   ·repeat' (first|(with_reducible first|apply qA|apply qB|apply qC|apply qD|apply qE|apply qF)|(refine qL rfl (WF.of ?_) ?_; first|rfl|skip)|(simp (disch:=omega) only [go_sem, simprocAttr, Blk.men, Blk.keysIn, hc1, hc])|exact qM rfl rfl rfl|(refine qG rfl ?_)|(refine qH rfl ?_)|(refine qI rfl ?_ ?_<;>intro hc<;>(try simp only [go_sem] at hc))|(refine qJ ?_ ?_<;>intro hc<;>(try simp only [hc])<;>(try simp only [go_sem] at hc)))
    (refine retS_ent (Ent.rel 94 rfl) ?_; simp (disch:=omega) only [go_sem,simprocAttr,Blk.men,Blk.keysIn])
    (refine retS_ent (Ent.rel 156 rfl) ?_; simp (disch:=omega) only [go_sem,simprocAttr,Blk.men,Blk.keysIn])
    refine retS_wk rfl ?_ (by simp only [Blk.nb, rowC_nb, D.nb, D.nbs, C.nb, C.nbs, C.nbss, rows_nb eI_nb, Bool.and_true, Bool.not_false, Bool.and_self, bD, dI, iD, rows_nb eP_nb, rows_nb eF_nb, rows_nb eY_nb]); exact .refl _
   ·repeat' (first|(with_reducible first|apply qA|apply qB|apply qC|apply qD|apply qE|apply qF)|(refine qL rfl (WF.of ?_) ?_; first|rfl|skip)|(simp (disch:=omega) only [go_sem, simprocAttr, Blk.men, Blk.keysIn, hc1, hc2, hc3])|exact qM rfl rfl rfl|(refine qG rfl ?_)|(refine qH rfl ?_)|(refine qI rfl ?_ ?_<;>intro hc<;>(try simp only [go_sem] at hc))|(refine qJ ?_ ?_<;>intro hc<;>(try simp only [hc])<;>(try simp only [go_sem] at hc)))
    (refine retS_ent (Ent.rel 94 rfl) ?_; simp (disch:=omega) only [go_sem,simprocAttr,Blk.men,Blk.keysIn])
    (refine retS_ent (Ent.rel 156 rfl) ?_; simp (disch:=omega) only [go_sem,simprocAttr,Blk.men,Blk.keysIn])
    refine retS_wk rfl ?_ (by simp only [Blk.nb, rowC_nb, D.nb, D.nbs, C.nb, C.nbs, C.nbss, rows_nb eI_nb, Bool.and_true, Bool.not_false, Bool.and_self, bD, dI, iD, rows_nb eP_nb, rows_nb eF_nb, rows_nb eY_nb]); exact .refl _
end Go.Dw.Seat
end
section
set_option linter.unusedSimpArgs false
set_option maxRecDepth 100000
namespace Go.Dw.Seat
open Go Go.Dw Go.Proofs Go.IntWalk
def inI (lo hi : Int) (y : Nat) : Int := lo + ((y : Int) * (hi - lo)).tdiv 255
theorem inI_b {lo hi : Int} {y : Nat} (hy : y < 256) (h : lo ≤ hi) : lo ≤ inI lo hi y ∧ inI lo hi y ≤ hi := by
 unfold inI
 have h1 : (y : Int) * (hi - lo) ≤ 255 * (hi - lo) := Int.mul_le_mul_of_nonneg_right (by omega) (by omega)
 have h2 : 0 ≤ (y : Int) * (hi - lo) := Int.mul_nonneg (by omega) (by omega)
 rw [Int.tdiv_eq_ediv_of_nonneg h2]
 generalize (y : Int) * (hi - lo) = q at *
 omega
theorem arIn (lo hi : Int) (y : Nat) (hy : y < 256) (h : 0 ≤ lo ∧ lo ≤ hi ∧ hi ≤ 1000000) : DCall Try.prog 44 [.agg [dI lo, dI hi], dI y] [] (dI (inI lo hi y)) [] := by
 have h1 : (y : Int) * (hi - lo) ≤ 255 * 1000000 := Int.mul_le_mul (by omega) (by omega) (by omega) (by omega)
 have h2 : 0 ≤ (y : Int) * (hi - lo) := Int.mul_nonneg (by omega) (by omega)
 have hb := inI_b hy h.2.1
 unfold inI at *
 have hq : 0 ≤ Int.tdiv ((y : Int) * (hi - lo)) 255 ∧ Int.tdiv ((y : Int) * (hi - lo)) 255 ≤ 1000000 := by
  rw [Int.tdiv_eq_ediv_of_nonneg h2]
  omega
 refine DCall.of Try.func44 sf44 hb44 (Nat.le_of_ble_eq_true rfl) (okRes_nil fun _ => rfl) ?_; simp only [s44, idxs, Nat.reduceAdd]
 repeat' (first|(with_reducible first|apply qA|apply qB|apply qC|apply qD|apply qE|apply qF)|(simp (disch:=omega) only [go_sem, simprocAttr, Blk.men, Blk.keysIn])|exact qM rfl rfl rfl|(refine qG rfl ?_)|(refine qH rfl ?_)|(refine qI rfl ?_ ?_<;>intro hc<;>(try simp only [go_sem] at hc))|(refine qJ ?_ ?_<;>intro hc<;>(try simp only [hc])<;>(try simp only [go_sem] at hc)))
end Go.Dw.Seat
end
section
set_option linter.unusedSimpArgs false
set_option maxRecDepth 100000
namespace Go.Dw.Seat
open Go Go.Dw Go.Proofs Go.IntWalk
theorem arInts (b : Bool) (l : List Int) (hl : l.length ≤ 2 ^ 36) : DCall Try.prog 47 [dIs b l] [] (dIs false l) [] := by
 refine DCall.of Try.func47 sf47 hb47 (Nat.le_of_ble_eq_true rfl) (okRes_nil fun _ => rfl) ?_; simp only [s47, idxs, Nat.reduceAdd]
 repeat' (first|(with_reducible first|apply qA|apply qB|apply qC|apply qD|apply qE|apply qF)|(simp (disch:=omega) only [go_sem, simprocAttr, Blk.men, Blk.keysIn])|exact qM rfl rfl rfl|(refine qG rfl ?_)|(refine qH rfl ?_)|(refine qI rfl ?_ ?_<;>intro hc<;>(try simp only [go_sem] at hc))|(refine qJ ?_ ?_<;>intro hc<;>(try simp only [hc])<;>(try simp only [go_sem] at hc)))
 (refine retS_ent (Ent.rel 3 rfl) ?_; simp (disch:=omega) only [go_sem,simprocAttr,Blk.men,Blk.keysIn])
 refine retS_wk rfl ?_ (by simp only [Blk.nb, rowC_nb, D.nb, D.nbs, C.nb, C.nbs, C.nbss, rows_nb eI_nb, Bool.and_true, Bool.not_false, Bool.and_self, bD, dI, iD, rows_nb eP_nb, rows_nb eF_nb, rows_nb eY_nb]); exact .refl _
theorem arMade (m : Mak) (h1 : m.papers.length ≤ 1000) (h2 : m.flutes.length ≤ 1000) : DCall Try.prog 17 [dMak m] [] (dMak m) [] := by
 have c1 := arInts false (nL m.papers) (by rw [nL_length]; omega)
 have c2 := arInts false (nL m.flutes) (by rw [nL_length]; omega)
 refine DCall.of Try.func17 sf17 hb17 (Nat.le_of_ble_eq_true rfl) (okRes_nil fun _ => rfl) ?_; simp only [s17, idxs, Nat.reduceAdd]
 repeat' (first|(with_reducible first|apply qA|apply qB|apply qC|apply qD|apply qE|apply qF)|(refine qL rfl (WF.of ?_) ?_; first|rfl|skip)|(simp (disch:=omega) only [go_sem, simprocAttr, Blk.men, Blk.keysIn])|exact qM rfl rfl rfl|(refine qG rfl ?_)|(refine qK (c1) (by decide) ?_)|(refine qK (c2) (by decide) ?_)|(refine qH rfl ?_)|(refine qI rfl ?_ ?_<;>intro hc<;>(try simp only [go_sem] at hc))|(refine qJ ?_ ?_<;>intro hc<;>(try simp only [hc])<;>(try simp only [go_sem] at hc)))
 refine retS_wk rfl ?_ (by simp only [Blk.nb, rowC_nb, D.nb, D.nbs, C.nb, C.nbs, C.nbss, rows_nb eI_nb, Bool.and_true, Bool.not_false, Bool.and_self, bD, dI, iD, rows_nb eP_nb, rows_nb eF_nb, rows_nb eY_nb]); exact .refl _
theorem arOwn (s : Sto) (h1 : s.papers.length ≤ 1000) (h2 : s.flutes.length ≤ 1000) : DCall Try.prog 14 [dSto s] [] (dSto s) [] := by
 refine DCall.of Try.func14 sf14 hb14 (Nat.le_of_ble_eq_true rfl) (okRes_nil fun _ => rfl) ?_; simp only [s14, o14_0, o14_1, o14_2, o14_3, o14_4, o14_5, o14_6, o14_7, o14_8, o14_9, idxs, Nat.reduceAdd]
 repeat' (first|(with_reducible first|apply qA|apply qB|apply qC|apply qD|apply qE|apply qF)|(refine DW.ord rfl (WF.of (by first|rfl|simp (disch:=omega) only [go_sem, simprocAttr, Blk.men, Blk.keysIn])) ?_ ?_ ?_; rotate_left)|rfl|(with_reducible refine And.intro ?_ ?_)|(simp (disch:=omega) only [go_sem, simprocAttr, Blk.men, Blk.keysIn])|exact qM rfl rfl rfl|(refine qG rfl ?_)|(refine qH rfl ?_)|(refine qI rfl ?_ ?_<;>intro hc<;>(try simp only [go_sem] at hc))|(refine qJ ?_ ?_<;>intro hc<;>(try simp only [hc])<;>(try simp only [go_sem] at hc)))
 (refine retS_ent (Ent.rel 7 rfl) ?_; simp (disch:=omega) only [go_sem,simprocAttr,Blk.men,Blk.keysIn])
 (refine retS_ent (Ent.rel 3 rfl) ?_; simp (disch:=omega) only [go_sem,simprocAttr,Blk.men,Blk.keysIn])
 refine retS_wk rfl ?_ (by simp only [Blk.nb, rowC_nb, D.nb, D.nbs, C.nb, C.nbs, C.nbss, rows_nb eI_nb, Bool.and_true, Bool.not_false, Bool.and_self, bD, dI, iD, rows_nb eP_nb, rows_nb eF_nb, rows_nb eY_nb]); exact .refl _
def kT (s : Sto) (j : Int) (i : Nat) : List Nat := (List.range i).filter fun n => decide ((papAt s n).kind = j)
theorem kT_succ (s : Sto) (j : Int) (i : Nat) : kT s j (i + 1) = if (papAt s i).kind = j then kT s j i ++ [i] else kT s j i := by
 simp only [kT, List.range_succ, List.filter_append, List.filter_cons, List.filter_nil]
 by_cases h : (papAt s i).kind = j <;> simp [h]
theorem kT_len (s : Sto) (j : Int) (i : Nat) : (kT s j i).length ≤ i := by
 have := List.length_filter_le (fun n => decide ((papAt s n).kind = j)) (List.range i)
 simpa [kT] using this
theorem kT_mem {s : Sto} {j : Int} {i n : Nat} (h : n ∈ kT s j i) : n < i ∧ (papAt s n).kind = j := by
 simpa [kT] using h
def kOf (x : War) (i : Nat) : List Nat := kT (wSto x) (if i % 2 = 0 then 1 else 2) (nPap x)
def mkPap (x : War) (i : Nat) : Nat := ((kOf x i)[byteI x.by' (i + 1) % (kOf x i).length]?).getD 0
def mkFlu (x : War) (k : Nat) : Nat := byteI x.by' (2 * k + 1 + 6) % nFlu x
def mP (x : War) (i : Nat) : List Nat := (List.range i).map (mkPap x)
def mF (x : War) (k : Nat) : List Nat := (List.range k).map (mkFlu x)
def nfOf (x : War) : Nat := 1 + byteI x.by' 0 % 2
def wMak (x : War) : Mak := ⟨mP x (2 * nfOf x + 1), mF x (nfOf x)⟩
theorem mP_succ (x : War) (i : Nat) : nL (mP x (i + 1)) = nL (mP x i) ++ [(mkPap x i : Int)] := by simp [mP, nL, List.range_succ]
theorem mF_succ (x : War) (i : Nat) : nL (mF x (i + 1)) = nL (mF x i) ++ [(mkFlu x i : Int)] := by simp [mF, nL, List.range_succ]
theorem mP_len (x : War) (i : Nat) : (mP x i).length = i := by simp [mP]
theorem mF_len (x : War) (i : Nat) : (mF x i).length = i := by simp [mF]
theorem wPap_at (x : War) {n : Nat} (h : n < nPap x) : papAt (wSto x) n = papOf n (papV x n) := by
 simp [papAt, wSto, wPaps, h]
theorem kOf_pos (x : War) (i : Nat) : 0 < (kOf x i).length := by
 have hn : 2 ≤ nPap x := by unfold nPap; omega
 have hmem : (if i % 2 = 0 then 0 else 1) ∈ kOf x i := by
  simp only [kOf, kT, List.mem_filter, List.mem_range, decide_eq_true_eq]
  split
  ·refine ⟨by omega, ?_⟩
   rw [wPap_at x (by omega)]; rfl
  ·refine ⟨by omega, ?_⟩
   rw [wPap_at x (by omega)]; rfl
 exact List.length_pos_of_mem hmem
theorem kOf_len (x : War) (i : Nat) : (kOf x i).length ≤ 5 := by
 have := kT_len (wSto x) (if i % 2 = 0 then 1 else 2) (nPap x)
 have hn : nPap x ≤ 5 := by unfold nPap; omega
 unfold kOf
 omega
theorem mkPap_at (x : War) (i : Nat) : (kOf x i)[byteI x.by' (i + 1) % (kOf x i).length]? = some (mkPap x i) := by
 have hlt : byteI x.by' (i + 1) % (kOf x i).length < (kOf x i).length := Nat.mod_lt _ (kOf_pos x i)
 rw [mkPap, List.getElem?_eq_getElem hlt]; rfl
theorem mkPap_mem (x : War) (i : Nat) : mkPap x i < nPap x ∧ (papAt (wSto x) (mkPap x i)).kind = if i % 2 = 0 then 1 else 2 := kT_mem (List.mem_of_getElem? (mkPap_at x i))
theorem wMak_ok (x : War) : (wMak x).ok (wSto x) := by
 have h2 : byteI x.by' 0 % 2 < 2 := Nat.mod_lt _ (by decide)
 have hp : (wSto x).papers.length = nPap x := wPaps_len x _
 have hf : (wSto x).flutes.length = nFlu x := wFlus_len x _
 refine ⟨?_, ?_, ?_, ?_, ?_⟩
 ·show 1 ≤ (mF x (nfOf x)).length ∧ (mF x (nfOf x)).length ≤ 2
  rw [mF_len]; unfold nfOf; omega
 ·show (mP x (2 * nfOf x + 1)).length = 2 * (mF x (nfOf x)).length + 1
  rw [mP_len, mF_len]
 ·intro n hn
  obtain ⟨i, _, rfl⟩ := List.mem_map.1 hn
  rw [hp]; exact (mkPap_mem x i).1
 ·intro n hn
  obtain ⟨i, _, rfl⟩ := List.mem_map.1 hn
  rw [hf]; exact Nat.mod_lt _ (by unfold nFlu; omega)
 ·intro i n p h1 h2
  have h1' : (mP x (2 * nfOf x + 1))[i]? = some n := h1
  have hi : i < 2 * nfOf x + 1 := by
   rcases Nat.lt_or_ge i (2 * nfOf x + 1) with h | h
   ·exact h
   ·rw [List.getElem?_eq_none (by rw [mP_len]; exact h)] at h1'; cases h1'
  have : n = mkPap x i := by simpa [mP, hi] using h1'.symm
  subst this
  have hm := mkPap_mem x i
  have hg := papAt_get (s := wSto x) (n := mkPap x i) (by rw [hp]; exact hm.1)
  rw [hg] at h2
  cases h2
  exact hm.2
set_option maxHeartbeats 1600000 in
theorem arMake (b : Bool) (x : War) (h : x.ok) : DCall Try.prog 8 [dWar b x] [] (dMak (wMak x)) [] := by
 have hst := arStore b x h
 have hn : nPap x ≤ 5 ∧ 2 ≤ nPap x := by unfold nPap; omega
 have hnf : nFlu x ≤ 3 ∧ 1 ≤ nFlu x := by unfold nFlu; omega
 have hp : (wSto x).papers.length = nPap x := wPaps_len x _
 have hf : (wSto x).flutes.length = nFlu x := wFlus_len x _
 have hso := wSto_ok h
 refine DCall.of Try.func8 sf8 hb8 (Nat.le_of_ble_eq_true rfl) (okRes_nil fun _ => rfl) ?_; simp only [s8, idxs, Nat.reduceAdd]
 repeat' (first|(with_reducible first|apply qA|apply qB|apply qC|apply qD|apply qE|apply qF)|(refine qL rfl (WF.of ?_) ?_; first|rfl|skip)|(simp (disch:=omega) only [go_sem, simprocAttr, Blk.men, Blk.keysIn])|exact qM rfl rfl rfl|(refine qG rfl ?_)|(refine qK (hst) (by decide) ?_)|(refine qH rfl ?_)|(refine qI rfl ?_ ?_<;>intro hc<;>(try simp only [go_sem] at hc))|(refine qJ ?_ ?_<;>intro hc<;>(try simp only [hc])<;>(try simp only [go_sem] at hc)))
 (refine DW.ent (Ent.adoptB 5 0 31 1 rfl rfl rfl rfl) ?_; simp only [ins, Nat.reduceLT, Nat.reduceEqDiff, ↓reduceIte, List.set_cons_zero, List.set_cons_succ])
 (refine DW.ent (Ent.adoptB 5 1 32 1 rfl rfl rfl rfl) ?_; simp only [ins, Nat.reduceLT, Nat.reduceEqDiff, ↓reduceIte, List.set_cons_zero, List.set_cons_succ])
 (refine DW.ent (Ent.adoptB 4 0 67 1 rfl rfl rfl rfl) ?_; simp only [ins, Nat.reduceLT, Nat.reduceEqDiff, ↓reduceIte, List.set_cons_zero, List.set_cons_succ])
 (refine DW.ent (Ent.adoptB 4 1 84 1 rfl rfl rfl rfl) ?_; simp only [ins, Nat.reduceLT, Nat.reduceEqDiff, ↓reduceIte, List.set_cons_zero, List.set_cons_succ])
 refine DW.loop (ι := { i : Nat // i ≤ nPap x }) (fun i => ⟨87, [(6, dI i.1), (5, .box 5 0), (4, .box 4 0), (3, .box 3 0), (2, .box 2 0), (1, .box 1 0)], [(84, .row 1 (rowC (rows eI (nL (mF x 0))))), (67, .row 1 (rowC (rows eI (nL (mP x 0))))), (32, .row 1 (rowC (rows eI (nL (kT (wSto x) 2 i.1))))), (31, .row 1 (rowC (rows eI (nL (kT (wSto x) 1 i.1))))), (5, .box [.own 31, .own 32]), (4, .box [.own 67, .own 84]), (3, .box [.c (.sl false 8 (rows eP (wSto x).papers)), .c (.sl false 4 (rows eF (wSto x).flutes))]), (2, .box [.c (.v (.slice none 0 0)), .c (.v (.slice none 0 0))]), (1, .box [.c (.sl b 6 (rows e6 x.papers)), .c (.sl b 3 (rows e3 x.flutes)), .c (.sl b 1 (rows eY x.by'))])]⟩) (fun i => nPap x - i.1) ⟨0, Nat.zero_le _⟩ ?_ ?_
 ·refine Ent.to ?_ ?_ <;> simp (disch:=omega) only [qR,qS,qTw,qU,get,Nat.reduceEqDiff,↓reduceIte,qV,qW,qX,qY,qZ,and_self,dI,i64_in,and_true,true_and,rA,rB,rC,rD]
  exact ⟨.refl _, .refl _, .refl _, .refl _⟩
 rintro ⟨i, hi⟩
 dsimp only
 rcases Nat.lt_or_ge i (nPap x) with hlt | hge
 ·have hd : decide ((i : Int) < ((wSto x).papers.length : Int)) = true := by rw [decide_eq_true_eq, hp]; omega
  have hpa := papAt_get (s := wSto x) (n := i) (by rw [hp]; exact hlt)
  have hk := (papAt_ok hso (n := i) (by rw [hp]; exact hlt)).kind
  have l1 := kT_len (wSto x) 1 i
  have l2 := kT_len (wSto x) 2 i
  have n1 := kT_succ (wSto x) 1 i
  have n2 := kT_succ (wSto x) 2 i
  generalize papAt (wSto x) i = p at *
  generalize kT (wSto x) 1 i = a1 at *
  generalize kT (wSto x) 2 i = a2 at *
  rcases hk with hk | hk
  ·have hk0 : p.kind - 1 = 0 := by omega
   rw [if_pos hk] at n1
   rw [if_neg (by omega)] at n2
   have q1 : nL (a1 ++ [i]) = nL a1 ++ [(i : Int)] := (nL_snoc a1 i).symm
   have ln1 := nL_length a1
   generalize nL a1 = c1 at *
   repeat' (first|(with_reducible first|apply qA|apply qB|apply qC|apply qD|apply qE|apply qF)|(refine qL rfl (WF.of ?_) ?_; first|rfl|skip)|(simp (disch:=omega) only [go_sem, simprocAttr, Blk.men, Blk.keysIn, hd, hpa, hk0, rF, rG])|exact qM rfl rfl rfl|(refine qG rfl ?_)|(refine qH rfl ?_)|(refine qI rfl ?_ ?_<;>intro hc<;>(try simp only [go_sem] at hc))|(refine qJ ?_ ?_<;>intro hc<;>(try simp only [hc])<;>(try simp only [go_sem] at hc)))
   refine ⟨⟨i + 1, hlt⟩, ?_, Ent.to ?_ ?_⟩ <;> first | (show _ < _; (try simp only); omega) | (simp (disch:=omega) only [qR,qS,qTw,qU,get,Nat.reduceEqDiff,↓reduceIte,qV,qW,qX,qY,qZ,and_self,dI,i64_in,and_true,true_and,rA,rB,rC,rD, n1,n2,q1])
   all_goals exact .refl _
  ·have hk0 : p.kind - 1 = 1 := by omega
   rw [if_neg (by omega)] at n1
   rw [if_pos hk] at n2
   have q1 : nL (a2 ++ [i]) = nL a2 ++ [(i : Int)] := (nL_snoc a2 i).symm
   have ln1 := nL_length a2
   generalize nL a2 = c1 at *
   repeat' (first|(with_reducible first|apply qA|apply qB|apply qC|apply qD|apply qE|apply qF)|(refine qL rfl (WF.of ?_) ?_; first|rfl|skip)|(simp (disch:=omega) only [go_sem, simprocAttr, Blk.men, Blk.keysIn, hd, hpa, hk0, rF, rG])|exact qM rfl rfl rfl|(refine qG rfl ?_)|(refine qH rfl ?_)|(refine qI rfl ?_ ?_<;>intro hc<;>(try simp only [go_sem] at hc))|(refine qJ ?_ ?_<;>intro hc<;>(try simp only [hc])<;>(try simp only [go_sem] at hc)))
   refine ⟨⟨i + 1, hlt⟩, ?_, Ent.to ?_ ?_⟩ <;> first | (show _ < _; (try simp only); omega) | (simp (disch:=omega) only [qR,qS,qTw,qU,get,Nat.reduceEqDiff,↓reduceIte,qV,qW,qX,qY,qZ,and_self,dI,i64_in,and_true,true_and,rA,rB,rC,rD, n1,n2,q1])
   all_goals exact .refl _
 ·obtain rfl : i = nPap x := by omega
  have hd : decide ((nPap x : Int) < ((wSto x).papers.length : Int)) = false := by rw [decide_eq_false_iff_not, hp]; omega
  have hb0 := arByte b x.by' 0 (by omega) h.by'
  rw [show ((0 : Nat) : Int) = 0 from rfl] at hb0
  have h28 : byteI x.by' 0 < 256 := by
   unfold byteI
   cases hv : x.by'[0 % x.by'.length]? with
   | none => decide
   | some v => exact h.by' v (List.mem_of_getElem? hv)
  have hm2 : byteI x.by' 0 % 2 < 2 := Nat.mod_lt _ (by decide)
  have hnfI : 1 + ((byteI x.by' 0 % 2 : Nat) : Int) = (nfOf x : Int) := by unfold nfOf; omega
  have hnf2 : 1 ≤ nfOf x ∧ nfOf x ≤ 2 := by unfold nfOf; omega
  repeat' (first|(with_reducible first|apply qA|apply qB|apply qC|apply qD|apply qE|apply qF)|(refine qL rfl (WF.of ?_) ?_; first|rfl|skip)|(simp (disch:=omega) only [go_sem, simprocAttr, Blk.men, Blk.keysIn, hd, t2, hnfI])|exact qM rfl rfl rfl|(refine qG rfl ?_)|(refine qK (hb0) (by decide) ?_)|(refine qH rfl ?_)|(refine qI rfl ?_ ?_<;>intro hc<;>(try simp only [go_sem] at hc))|(refine qJ ?_ ?_<;>intro hc<;>(try simp only [hc])<;>(try simp only [go_sem] at hc)))
  clear hb0 h28 hm2 hnfI hd
  generalize hnfe : nfOf x = nf at *
  refine DW.loop (ι := { i : Nat // i ≤ 2 * nf + 1 }) (fun i => ⟨87, [(9, dI i.1), (8, dI nf), (5, .box 5 0), (4, .box 4 0), (3, .box 3 0), (2, .box 2 0), (1, .box 1 0)], [(84, .row 1 (rowC (rows eI (nL (mF x (i.1 / 2)))))), (67, .row 1 (rowC (rows eI (nL (mP x i.1))))), (32, .row 1 (rowC (rows eI (nL (kT (wSto x) 2 (nPap x)))))), (31, .row 1 (rowC (rows eI (nL (kT (wSto x) 1 (nPap x)))))), (5, .box [.own 31, .own 32]), (4, .box [.own 67, .own 84]), (3, .box [.c (.sl false 8 (rows eP (wSto x).papers)), .c (.sl false 4 (rows eF (wSto x).flutes))]), (2, .box [.c (.v (.slice none 0 0)), .c (.v (.slice none 0 0))]), (1, .box [.c (.sl b 6 (rows e6 x.papers)), .c (.sl b 3 (rows e3 x.flutes)), .c (.sl b 1 (rows eY x.by'))])]⟩) (fun i => 2 * nf + 1 - i.1) ⟨0, Nat.zero_le _⟩ ?_ ?_
  ·refine Ent.to ?_ ?_ <;> simp (disch:=omega) only [qR,qS,qTw,qU,get,Nat.reduceEqDiff,↓reduceIte,qV,qW,qX,qY,qZ,and_self,dI,i64_in,and_true,true_and,rA,rB,rC,rD,Nat.zero_div]
  clear hi
  rintro ⟨i, hi⟩
  dsimp only
  rcases Nat.lt_or_ge i (2 * nf + 1) with hlt | hge
  ·have hd : decide ((i : Int) < 2 * (nf : Int) + 1) = true := by rw [decide_eq_true_eq]; omega
   have hb1 := arByte b x.by' (i + 1) (by omega) h.by'
   rw [Int.natCast_add, Int.natCast_one] at hb1
   have hkp := kOf_pos x i
   have hkl := kOf_len x i
   have hat := mkPap_at x i
   have hmm := (mkPap_mem x i).1
   have hsP := mP_succ x i
   have hlP := mP_len x i
   have hlF := mF_len x (i / 2)
   have hz : (((kOf x i).length : Int) = 0) = False := eq_false (by omega)
   have hr : (byteI x.by' (i + 1) : Int).tmod ((kOf x i).length : Int) = ((byteI x.by' (i + 1) % (kOf x i).length : Nat) : Int) := tmodN _ _
   have hjl : byteI x.by' (i + 1) % (kOf x i).length < (kOf x i).length := Nat.mod_lt _ hkp
   have hj1 : (byteI x.by' (i + 1) % (kOf x i).length < (kOf x i).length) = True := eq_true hjl
   have hj2 := nL_at hat
   have hrem : (i : Int).tmod 2 = ((i % 2 : Nat) : Int) := t2 i
   have hkk : kOf x i = kT (wSto x) (if i % 2 = 0 then 1 else 2) (nPap x) := rfl
   generalize mkPap x i = v at *
   generalize byteI x.by' (i + 1) % (kOf x i).length = j at *
   generalize byteI x.by' (i + 1) = y at *
   have hln1 := nL_length (mP x i)
   have hln2 := nL_length (mF x (i / 2))
   have hln3 := nL_length (kOf x i)
   rcases (by omega : i % 2 = 0 ∨ i % 2 = 1) with ho | ho
   ·rw [if_pos ho] at hkk
    rw [← hkk]
    rw [ho] at hrem
    generalize kOf x i = kk at *
    generalize nL kk = ck at *
    have hdiv : (i + 1) / 2 = i / 2 := by omega
    generalize nL (mP x i) = cp at *
    repeat' (first|(with_reducible first|apply qA|apply qB|apply qC|apply qD|apply qE|apply qF)|(refine qL rfl (WF.of ?_) ?_; first|rfl|skip)|(simp (disch:=omega) only [go_sem, simprocAttr, Blk.men, Blk.keysIn, hd, hrem, hz, hr, hj1, hj2, hln3])|exact qM rfl rfl rfl|(refine qG rfl ?_)|(refine qK (hb1) (by decide) ?_)|(refine qH rfl ?_)|(refine qI rfl ?_ ?_<;>intro hc<;>(try simp only [go_sem] at hc))|(refine qJ ?_ ?_<;>intro hc<;>(try simp only [hc])<;>(try simp only [go_sem] at hc)))
    refine ⟨⟨i + 1, hlt⟩, ?_, Ent.to ?_ ?_⟩ <;> first | (show _ < _; (try simp only); omega) | (simp (disch:=omega) only [qR,qS,qTw,qU,get,Nat.reduceEqDiff,↓reduceIte,qV,qW,qX,qY,qZ,and_self,dI,i64_in,and_true,true_and,rA,rB,rC,rD, hsP,hdiv])
    all_goals exact .refl _
   ·rw [if_neg (by omega)] at hkk
    rw [← hkk]
    rw [ho] at hrem
    have hb6 := arByte b x.by' (i + 6) (by omega) h.by'
    rw [Int.natCast_add] at hb6
    have hb6' : DCall Try.prog 41 [.c (.sl b 1 (rows eY x.by')), dI ((i : Int) + 6)] [] (dI (byteI x.by' (i + 6))) [] := hb6
    clear hb6
    have hzf : ((nFlu x : Int) = 0) = False := eq_false (by omega)
    have hrf : (byteI x.by' (i + 6) : Int).tmod (nFlu x : Int) = ((byteI x.by' (i + 6) % nFlu x : Nat) : Int) := tmodN _ _
    have hwf : ((wSto x).flutes.length : Int) = (nFlu x : Int) := by rw [hf]
    have hmf : mkFlu x (i / 2) = byteI x.by' (i + 6) % nFlu x := by unfold mkFlu; rw [show 2 * (i / 2) + 1 + 6 = i + 6 by omega]
    have hsF := mF_succ x (i / 2)
    rw [hmf, show i / 2 + 1 = (i + 1) / 2 by omega] at hsF
    have hfl : byteI x.by' (i + 6) % nFlu x < nFlu x := Nat.mod_lt _ (by omega)
    generalize byteI x.by' (i + 6) % nFlu x = u at *
    generalize byteI x.by' (i + 6) = z at *
    generalize kOf x i = kk at *
    generalize nL kk = ck at *
    generalize nL (mP x i) = cp at *
    generalize nL (mF x (i / 2)) = cf at *
    repeat' (first|(with_reducible first|apply qA|apply qB|apply qC|apply qD|apply qE|apply qF)|(refine qL rfl (WF.of ?_) ?_; first|rfl|skip)|(simp (disch:=omega) only [go_sem, simprocAttr, Blk.men, Blk.keysIn, hd, hrem, hz, hr, hj1, hj2, hln3, hzf, hrf, hwf])|exact qM rfl rfl rfl|(refine qG rfl ?_)|(refine qK (hb1) (by decide) ?_)|(refine qK (hb6') (by decide) ?_)|(refine qH rfl ?_)|(refine qI rfl ?_ ?_<;>intro hc<;>(try simp only [go_sem] at hc))|(refine qJ ?_ ?_<;>intro hc<;>(try simp only [hc])<;>(try simp only [go_sem] at hc)))
    refine ⟨⟨i + 1, hlt⟩, ?_, Ent.to ?_ ?_⟩ <;> first | (show _ < _; (try simp only); omega) | (simp (disch:=omega) only [qR,qS,qTw,qU,get,Nat.reduceEqDiff,↓reduceIte,qV,qW,qX,qY,qZ,and_self,dI,i64_in,and_true,true_and,rA,rB,rC,rD, hsP,hsF])
    all_goals exact .refl _
  ·obtain rfl : i = 2 * nf + 1 := by omega
   have hd : decide (((2 * nf + 1 : Nat) : Int) < 2 * (nf : Int) + 1) = false := by rw [decide_eq_false_iff_not]; omega
   have hdv : (2 * nf + 1) / 2 = nf := by omega
   have hwm : wMak x = ⟨mP x (2 * nf + 1), mF x nf⟩ := by rw [← hnfe]; rfl
   rw [hwm, hdv]
   repeat' (first|(with_reducible first|apply qA|apply qB|apply qC|apply qD|apply qE|apply qF)|(refine qL rfl (WF.of ?_) ?_; first|rfl|skip)|(simp (disch:=omega) only [go_sem, simprocAttr, Blk.men, Blk.keysIn, hd])|exact qM rfl rfl rfl|(refine qG rfl ?_)|(refine qH rfl ?_)|(refine qI rfl ?_ ?_<;>intro hc<;>(try simp only [go_sem] at hc))|(refine qJ ?_ ?_<;>intro hc<;>(try simp only [hc])<;>(try simp only [go_sem] at hc)))
   (refine retS_ent (Ent.rel 84 rfl) ?_; simp (disch:=omega) only [go_sem,simprocAttr,Blk.men,Blk.keysIn])
   (refine retS_ent (Ent.rel 67 rfl) ?_; simp (disch:=omega) only [go_sem,simprocAttr,Blk.men,Blk.keysIn])
   refine retS_wk rfl ?_ (by simp only [Blk.nb, rowC_nb, D.nb, D.nbs, C.nb, C.nbs, C.nbss, rows_nb eI_nb, Bool.and_true, Bool.not_false, Bool.and_self, bD, dI, iD, rows_nb eP_nb, rows_nb eF_nb, rows_nb eY_nb]); exact .refl _
end Go.Dw.Seat
end
section
set_option linter.unusedSimpArgs false
set_option maxRecDepth 100000
namespace Go.Dw.Seat
open Go Go.Dw Go.Proofs Go.IntWalk
theorem partsAt_w {s : Sto} {m : Mak} (hs : s.ok) (h : m.ok s) {i : Nat} (hi : i < m.papers.length) : 0 ≤ partsAt s m i ∧ partsAt s m i ≤ 2 * wholeI s m := by
 have hw := wholeI_b hs h
 unfold partsAt
 split
 ·rename_i ho
  have hf := fluAt_ok hs (flute_at h hi ho).2
  have h1 := hf.pitch
  have h2 := hf.draw
  generalize fluAt s (m.flutes[i / 2]?.getD 0) = f at *
  generalize wholeI s m = w at *
  rw [Int.tdiv_eq_ediv_of_nonneg (by omega)]
  have q0 : 0 ≤ w / f.pitch := Int.ediv_nonneg (by omega) (by omega)
  have q1 : w / f.pitch * f.pitch ≤ w := Int.ediv_mul_le w (by omega)
  have q2 : w / f.pitch * f.draw ≤ w / f.pitch * (2 * f.pitch) := Int.mul_le_mul_of_nonneg_left h2.2 q0
  have q3 : 0 ≤ w / f.pitch * f.draw := Int.mul_nonneg q0 (by omega)
  have q4 : w / f.pitch * (2 * f.pitch) = 2 * (w / f.pitch * f.pitch) := by rw [Int.mul_left_comm]
  omega
 ·omega
theorem sumF_w (f : Pap → Int) (s : Sto) (F W : Int) : ∀ (l : List (Nat × Int)) (n : Int), (∀ e ∈ l, (0 ≤ f (papAt s e.1) ∧ f (papAt s e.1) ≤ F) ∧ 0 ≤ e.2 ∧ e.2 ≤ W) → n ≤ sumF f s n l ∧ sumF f s n l ≤ n + (l.length : Int) * (F * W)
 | [], n, _ => by simp [sumF]
 | e :: l, n, h => by
  have he := h e (by simp)
  have hm := mulB0 he.1 he.2
  have ih := sumF_w f s F W l (n + f (papAt s e.1) * e.2) (fun x hx => h x (by simp [hx]))
  have hs : sumF f s n (e :: l) = sumF f s (n + f (papAt s e.1) * e.2) l := rfl
  rw [hs, List.length_cons, Int.natCast_add, Int.natCast_one, Int.add_mul, Int.one_mul]
  omega
theorem layers_w {s : Sto} {m : Mak} (hs : s.ok) (h : m.ok s) : ∀ e ∈ layersL s m, e.1 < s.papers.length ∧ 0 ≤ e.2 ∧ e.2 ≤ 2 * wholeI s m := by
 intro e he
 obtain ⟨i, hi⟩ := List.getElem?_of_mem he
 have hlt : i < m.papers.length := by
  rcases Nat.lt_or_ge i m.papers.length with h | h
  ·exact h
  ·rw [List.getElem?_eq_none (by rw [layersL_len]; exact h)] at hi; cases hi
 obtain ⟨v, hv⟩ := getE (l := m.papers) (i := i) hlt
 rw [layersL_get hv] at hi
 cases hi
 exact ⟨h.papers v (List.mem_of_getElem? hv), partsAt_w hs h hlt⟩
theorem sum_quot {s : Sto} {m : Mak} (hs : s.ok) (h : m.ok s) (f : Pap → Int) (F : Int) (hF : 0 ≤ F) (hf : ∀ p ∈ s.papers, 0 ≤ f p ∧ f p ≤ F) : 0 ≤ sumI f s m ∧ sumI f s m ≤ 10 * F * wholeI s m := by
 have hw := wholeI_b hs h
 have h1 := sumF_w f s F (2 * wholeI s m) (layersL s m) 0 (fun e he => by
  have hl := layers_w hs h e he
  exact ⟨hf _ (List.mem_of_getElem? (papAt_get hl.1)), hl.2⟩)
 have h5 : ((layersL s m).length : Int) ≤ 5 := by rw [layersL_len]; have := h.np; have := h.nf; omega
 have hFW : 0 ≤ F * (2 * wholeI s m) := Int.mul_nonneg hF (by omega)
 have h6 := Int.mul_le_mul_of_nonneg_right h5 hFW
 have e1 : 5 * (F * (2 * wholeI s m)) = 10 * F * wholeI s m := by
  rw [Int.mul_left_comm F 2, ← Int.mul_assoc, ← Int.mul_assoc]; rfl
 unfold sumI
 omega
end Go.Dw.Seat
end
section
set_option linter.unusedSimpArgs false
set_option maxRecDepth 100000
namespace Go.Dw.Seat
open Go Go.Dw Go.Proofs Go.IntWalk
theorem dmW1 (n lo hi : Int) (p q : Bool) : DCall Try.prog 124 [dI n, .c (.ro p [.v (.int .i64 lo)] 0), .c (.ro q [.v (.int .i64 hi)] 0)] [] (bD (decide (n < lo) || decide (hi < n))) [] := by
 refine DCall.of Try.func124 sf124 hb124 (Nat.le_of_ble_eq_true rfl) (okRes_nil fun _ => rfl) ?_; simp only [s124, idxs, Nat.reduceAdd]
 repeat' (first|(with_reducible first|apply qA|apply qB|apply qC|apply qD|apply qE|apply qF)|(simp (disch:=omega) only [go_sem, simprocAttr, Blk.men, Blk.keysIn])|exact qM rfl rfl rfl|(refine qG rfl ?_)|(refine qH rfl ?_)|(refine qI rfl ?_ ?_<;>intro hc<;>(try simp only [go_sem] at hc))|(refine qJ ?_ ?_<;>intro hc<;>(try simp only [hc])<;>(try simp only [go_sem] at hc)))
theorem dmWithin (b : Bool) (lo hi : Int) (l : List Int) (hl : l.length ≤ 2 ^ 36) : DCall Try.prog 79 [dI lo, dI hi, dIs b l] [] (bD (wthn lo hi l)) [] := by
 refine DCall.of Try.func79 sf79 hb79 (Nat.le_of_ble_eq_true rfl) (okRes_nil fun _ => rfl) ?_; simp only [s79, idxs, Nat.reduceAdd]
 repeat' (first|(with_reducible first|apply qA|apply qB|apply qC|apply qD|apply qE|apply qF)|(simp (disch:=omega) only [go_sem, simprocAttr, Blk.men, Blk.keysIn])|exact qM rfl rfl rfl|(refine qG rfl ?_)|(refine qH rfl ?_)|(refine qI rfl ?_ ?_<;>intro hc<;>(try simp only [go_sem] at hc))|(refine qJ ?_ ?_<;>intro hc<;>(try simp only [hc])<;>(try simp only [go_sem] at hc)))
 (refine call_c (c110 b l hl 124 [] [.ro true [.v (.int .i64 lo)] 0, .ro true [.v (.int .i64 hi)] 0] (fun n => decide (n < lo) || decide (hi < n)) (fun x _ => dmW1 x lo hi true true)) (by decide) ?_; simp (disch:=omega) only [go_sem,simprocAttr,Blk.men,Blk.keysIn])
 repeat' (first|(with_reducible first|apply qA|apply qB|apply qC|apply qD|apply qE|apply qF)|(simp (disch:=omega) only [go_sem, simprocAttr, Blk.men, Blk.keysIn])|exact qM rfl rfl rfl|(refine qG rfl ?_)|(refine qH rfl ?_)|(refine qI rfl ?_ ?_<;>intro hc<;>(try simp only [go_sem] at hc))|(refine qJ ?_ ?_<;>intro hc<;>(try simp only [hc])<;>(try simp only [go_sem] at hc)))
theorem dmIn (b : Bool) (lo hi : Int) (l : List Int) (hl : l.length ≤ 2 ^ 36) (h : ∀ v ∈ l, lo ≤ v ∧ v ≤ hi) : DCall Try.prog 79 [dI lo, dI hi, dIs b l] [] (bD true) [] := by
 have h1 := dmWithin b lo hi l hl
 have : wthn lo hi l = true := by
  simp only [wthn, Bool.not_eq_true', List.any_eq_false, Bool.or_eq_true, decide_eq_true_eq]
  intro v hv
  have := h v hv
  omega
 rwa [this] at h1
def eSp (s : Int × Int) : List C := [.v (.int .i64 s.1), .v (.int .i64 s.2)]
theorem eSp_nb (s : Int × Int) : C.nbs (eSp s) = true := rfl
attribute [go_sem] eSp
def spM (s : Int × Int) : Prop := 0 ≤ s.1 ∧ s.1 ≤ s.2 ∧ s.2 ≤ 300
structure DSt where
 lo : Int
 hi : Int
 h : Int
structure DSt.ok (s : DSt) : Prop where
 r : spM (s.lo, s.hi)
 h : 0 ≤ s.h ∧ s.h ≤ 500
def eDs (s : DSt) : List C := [.v (.int .i64 s.lo), .v (.int .i64 s.hi), .v (.int .i64 s.h)]
theorem eDs_nb (s : DSt) : C.nbs (eDs s) = true := rfl
attribute [go_sem] eDs
theorem dmIsMoist (s : Int × Int) (h : spM s) : DCall Try.prog 123 [.agg [dI s.1, dI s.2]] [] (bD true) [] := by
 obtain ⟨h1, h2, h3⟩ := h
 have hw := dmIn true 0 300 [s.1, s.2] (by simp) (fun v hv => by
  simp only [List.mem_cons, List.not_mem_nil, or_false] at hv
  rcases hv with rfl | rfl <;> omega)
 have hd : decide (s.1 ≤ s.2) = true := decide_eq_true h2
 refine DCall.of Try.func123 sf123 hb123 (Nat.le_of_ble_eq_true rfl) (okRes_nil fun _ => rfl) ?_; simp only [s123, idxs, Nat.reduceAdd]
 repeat' (first|(with_reducible first|apply qA|apply qB|apply qC|apply qD|apply qE|apply qF)|(simp (disch:=omega) only [go_sem, simprocAttr, Blk.men, Blk.keysIn, hd])|exact qM rfl rfl rfl|(refine qG rfl ?_)|(refine qK (hw) (by decide) ?_)|(refine qH rfl ?_)|(refine qI rfl ?_ ?_<;>intro hc<;>(try simp only [go_sem] at hc))|(refine qJ ?_ ?_<;>intro hc<;>(try simp only [hc])<;>(try simp only [go_sem] at hc)))
theorem dmM1 (s : Int × Int) (h : spM s) : DCall Try.prog 122 [.agg ((eSp s).map D.c)] [] (bD false) [] := by
 have h1 := dmIsMoist s h
 refine DCall.of Try.func122 sf122 hb122 (Nat.le_of_ble_eq_true rfl) (okRes_nil fun _ => rfl) ?_; simp only [s122, idxs, Nat.reduceAdd]
 repeat' (first|(with_reducible first|apply qA|apply qB|apply qC|apply qD|apply qE|apply qF)|(simp (disch:=omega) only [go_sem, simprocAttr, Blk.men, Blk.keysIn, rF, rG])|exact qM rfl rfl rfl|(refine qG rfl ?_)|(refine qK (h1) (by decide) ?_)|(refine qH rfl ?_)|(refine qI rfl ?_ ?_<;>intro hc<;>(try simp only [go_sem] at hc))|(refine qJ ?_ ?_<;>intro hc<;>(try simp only [hc])<;>(try simp only [go_sem] at hc)))
theorem dmSpIdx (b : Bool) (l : List (Int × Int)) (hl : l.length ≤ 2 ^ 36) (g : FuncId) (hp : ∀ x ∈ l, DCall Try.prog g [.agg ((eSp x).map D.c)] [] (bD false) []) : DCall Try.prog 143 [.c (.sl b 2 (rows eSp l)), .c (.fn (.func g) [] [])] [] (dI (-1)) [] := by
 refine DCall.of Try.func143 sf143 hb143 (Nat.le_of_ble_eq_true rfl) (okRes_nil fun _ => rfl) ?_; simp only [s143, idxs, Nat.reduceAdd]
 repeat' (first|(with_reducible first|apply qA|apply qB|apply qC|apply qD|apply qE|apply qF)|(simp (disch:=omega) only [go_sem, simprocAttr, Blk.men, Blk.keysIn])|exact qM rfl rfl rfl|(refine qG rfl ?_)|(refine qH rfl ?_)|(refine qI rfl ?_ ?_<;>intro hc<;>(try simp only [go_sem] at hc))|(refine qJ ?_ ?_<;>intro hc<;>(try simp only [hc])<;>(try simp only [go_sem] at hc)))
 refine DW.loop (ι := { i : Nat // i ≤ l.length }) (fun i => ⟨19, [(8, dI i.1), (7, dI l.length), (1, .c (.fn (.func g) [] [])), (0, .c (.sl b 2 (rows eSp l)))], []⟩) (fun i => l.length - i.1) ⟨0, Nat.zero_le _⟩ ?_ ?_
 ·refine Ent.to ?_ ?_ <;> simp (disch:=omega) only [qR,qS,qTw,qU,get,Nat.reduceEqDiff,↓reduceIte,qV,qW,qX,qY,qZ,and_self,dI,i64_in,and_true,true_and,rA,rB,rC,rD]
 rintro ⟨i, hi⟩
 rcases at_or l i hi with ⟨v, hv, hlt, hd⟩ | ⟨he, hd⟩
 ·have hcall := hp v (List.mem_of_getElem? hv)
  repeat' (first|(with_reducible first|apply qA|apply qB|apply qC|apply qD|apply qE|apply qF)|(simp (disch:=omega) only [go_sem, simprocAttr, Blk.men, Blk.keysIn, hd, hv, closeDs_fn, rF, rG])|exact qM rfl rfl rfl|(refine qG rfl ?_)|(refine qH rfl ?_)|(refine qI rfl ?_ ?_<;>intro hc<;>(try simp only [go_sem] at hc))|(refine qJ ?_ ?_<;>intro hc<;>(try simp only [hc])<;>(try simp only [go_sem] at hc)))
  refine call_c hcall (by decide) ?_
  simp (disch:=omega) only [go_sem,simprocAttr,Blk.men,Blk.keysIn]
  repeat' (first|(with_reducible first|apply qA|apply qB|apply qC|apply qD|apply qE|apply qF)|(simp (disch:=omega) only [go_sem, simprocAttr, Blk.men, Blk.keysIn])|exact qM rfl rfl rfl|(refine qG rfl ?_)|(refine qH rfl ?_)|(refine qI rfl ?_ ?_<;>intro hc<;>(try simp only [go_sem] at hc))|(refine qJ ?_ ?_<;>intro hc<;>(try simp only [hc])<;>(try simp only [go_sem] at hc)))
  refine ⟨⟨i + 1, hlt⟩, ?_, Ent.to ?_ ?_⟩ <;> first | (show _ < _; (try simp only); omega) | (simp (disch:=omega) only [qR,qS,qTw,qU,get,Nat.reduceEqDiff,↓reduceIte,qV,qW,qX,qY,qZ,and_self,dI,i64_in,and_true,true_and,rA,rB,rC,rD])
 ·repeat' (first|(with_reducible first|apply qA|apply qB|apply qC|apply qD|apply qE|apply qF)|(simp (disch:=omega) only [go_sem, simprocAttr, Blk.men, Blk.keysIn, hd])|exact qM rfl rfl rfl|(refine qG rfl ?_)|(refine qH rfl ?_)|(refine qI rfl ?_ ?_<;>intro hc<;>(try simp only [go_sem] at hc))|(refine qJ ?_ ?_<;>intro hc<;>(try simp only [hc])<;>(try simp only [go_sem] at hc)))
theorem dmSpCon (b : Bool) (l : List (Int × Int)) (hl : l.length ≤ 2 ^ 36) (g : FuncId) (hp : ∀ x ∈ l, DCall Try.prog g [.agg ((eSp x).map D.c)] [] (bD false) []) : DCall Try.prog 112 [.c (.sl b 2 (rows eSp l)), .c (.fn (.func g) [] [])] [] (bD false) [] := by
 refine DCall.of Try.func112 sf112 hb112 (Nat.le_of_ble_eq_true rfl) (okRes_nil fun _ => rfl) ?_; simp only [s112, idxs, Nat.reduceAdd]
 repeat' (first|(with_reducible first|apply qA|apply qB|apply qC|apply qD|apply qE|apply qF)|(simp (disch:=omega) only [go_sem, simprocAttr, Blk.men, Blk.keysIn])|exact qM rfl rfl rfl|(refine qG rfl ?_)|(refine qH rfl ?_)|(refine qI rfl ?_ ?_<;>intro hc<;>(try simp only [go_sem] at hc))|(refine qJ ?_ ?_<;>intro hc<;>(try simp only [hc])<;>(try simp only [go_sem] at hc)))
 (refine call_c (dmSpIdx b l hl g hp) (by decide) ?_; simp (disch:=omega) only [go_sem,simprocAttr,Blk.men,Blk.keysIn])
 repeat' (first|(with_reducible first|apply qA|apply qB|apply qC|apply qD|apply qE|apply qF)|(simp (disch:=omega) only [go_sem, simprocAttr, Blk.men, Blk.keysIn])|exact qM rfl rfl rfl|(refine qG rfl ?_)|(refine qH rfl ?_)|(refine qI rfl ?_ ?_<;>intro hc<;>(try simp only [go_sem] at hc))|(refine qJ ?_ ?_<;>intro hc<;>(try simp only [hc])<;>(try simp only [go_sem] at hc)))
theorem dmMoist (b : Bool) (l : List (Int × Int)) (hl : l.length ≤ 2 ^ 36) (h : ∀ s ∈ l, spM s) : DCall Try.prog 78 [.c (.sl b 2 (rows eSp l))] [] (bD true) [] := by
 have h1 := dmSpCon b l hl 122 (fun x hx => dmM1 x (h x hx))
 refine DCall.of Try.func78 sf78 hb78 (Nat.le_of_ble_eq_true rfl) (okRes_nil fun _ => rfl) ?_; simp only [s78, idxs, Nat.reduceAdd]
 repeat' (first|(with_reducible first|apply qA|apply qB|apply qC|apply qD|apply qE|apply qF)|(simp (disch:=omega) only [go_sem, simprocAttr, Blk.men, Blk.keysIn])|exact qM rfl rfl rfl|(refine qG rfl ?_)|(refine qK (h1) (by decide) ?_)|(refine qH rfl ?_)|(refine qI rfl ?_ ?_<;>intro hc<;>(try simp only [go_sem] at hc))|(refine qJ ?_ ?_<;>intro hc<;>(try simp only [hc])<;>(try simp only [go_sem] at hc)))
theorem dmRule (u d : Int) (h : (0 ≤ u ∧ u ≤ 50) ∧ 0 ≤ d ∧ d ≤ 50) : DCall Try.prog 80 [.agg [dI u, dI d]] [] (bD true) [] := by
 have hw := dmIn true 0 50 [u, d] (by simp) (fun v hv => by
  simp only [List.mem_cons, List.not_mem_nil, or_false] at hv
  rcases hv with rfl | rfl <;> omega)
 refine DCall.of Try.func80 sf80 hb80 (Nat.le_of_ble_eq_true rfl) (okRes_nil fun _ => rfl) ?_; simp only [s80, idxs, Nat.reduceAdd]
 repeat' (first|(with_reducible first|apply qA|apply qB|apply qC|apply qD|apply qE|apply qF)|(simp (disch:=omega) only [go_sem, simprocAttr, Blk.men, Blk.keysIn])|exact qM rfl rfl rfl|(refine qG rfl ?_)|(refine qK (hw) (by decide) ?_)|(refine qH rfl ?_)|(refine qI rfl ?_ ?_<;>intro hc<;>(try simp only [go_sem] at hc))|(refine qJ ?_ ?_<;>intro hc<;>(try simp only [hc])<;>(try simp only [go_sem] at hc)))
theorem dmC1 (s : DSt) (h : s.ok) : DCall Try.prog 77 [.agg ((eDs s).map D.c)] [] (bD false) [] := by
 have h1 := dmMoist true [(s.lo, s.hi)] (by simp) (fun x hx => by rw [List.mem_singleton.1 hx]; exact h.r)
 have h2 := dmIn true 0 500 [s.h] (by simp) (fun x hx => by rw [List.mem_singleton.1 hx]; exact h.h)
 refine DCall.of Try.func77 sf77 hb77 (Nat.le_of_ble_eq_true rfl) (okRes_nil fun _ => rfl) ?_; simp only [s77, idxs, Nat.reduceAdd]
 repeat' (first|(with_reducible first|apply qA|apply qB|apply qC|apply qD|apply qE|apply qF)|(simp (disch:=omega) only [go_sem, simprocAttr, Blk.men, Blk.keysIn, rF, rG])|exact qM rfl rfl rfl|(refine qG rfl ?_)|(refine qK (h1) (by decide) ?_)|(refine qK (h2) (by decide) ?_)|(refine qH rfl ?_)|(refine qI rfl ?_ ?_<;>intro hc<;>(try simp only [go_sem] at hc))|(refine qJ ?_ ?_<;>intro hc<;>(try simp only [hc])<;>(try simp only [go_sem] at hc)))
theorem dmStIdx (b : Bool) (l : List DSt) (hl : l.length ≤ 2 ^ 36) (g : FuncId) (hp : ∀ x ∈ l, DCall Try.prog g [.agg ((eDs x).map D.c)] [] (bD false) []) : DCall Try.prog 125 [.c (.sl b 3 (rows eDs l)), .c (.fn (.func g) [] [])] [] (dI (-1)) [] := by
 refine DCall.of Try.func125 sf125 hb125 (Nat.le_of_ble_eq_true rfl) (okRes_nil fun _ => rfl) ?_; simp only [s125, idxs, Nat.reduceAdd]
 repeat' (first|(with_reducible first|apply qA|apply qB|apply qC|apply qD|apply qE|apply qF)|(simp (disch:=omega) only [go_sem, simprocAttr, Blk.men, Blk.keysIn])|exact qM rfl rfl rfl|(refine qG rfl ?_)|(refine qH rfl ?_)|(refine qI rfl ?_ ?_<;>intro hc<;>(try simp only [go_sem] at hc))|(refine qJ ?_ ?_<;>intro hc<;>(try simp only [hc])<;>(try simp only [go_sem] at hc)))
 refine DW.loop (ι := { i : Nat // i ≤ l.length }) (fun i => ⟨19, [(8, dI i.1), (7, dI l.length), (1, .c (.fn (.func g) [] [])), (0, .c (.sl b 3 (rows eDs l)))], []⟩) (fun i => l.length - i.1) ⟨0, Nat.zero_le _⟩ ?_ ?_
 ·refine Ent.to ?_ ?_ <;> simp (disch:=omega) only [qR,qS,qTw,qU,get,Nat.reduceEqDiff,↓reduceIte,qV,qW,qX,qY,qZ,and_self,dI,i64_in,and_true,true_and,rA,rB,rC,rD]
 rintro ⟨i, hi⟩
 rcases at_or l i hi with ⟨v, hv, hlt, hd⟩ | ⟨he, hd⟩
 ·have hcall := hp v (List.mem_of_getElem? hv)
  repeat' (first|(with_reducible first|apply qA|apply qB|apply qC|apply qD|apply qE|apply qF)|(simp (disch:=omega) only [go_sem, simprocAttr, Blk.men, Blk.keysIn, hd, hv, closeDs_fn, rF, rG])|exact qM rfl rfl rfl|(refine qG rfl ?_)|(refine qH rfl ?_)|(refine qI rfl ?_ ?_<;>intro hc<;>(try simp only [go_sem] at hc))|(refine qJ ?_ ?_<;>intro hc<;>(try simp only [hc])<;>(try simp only [go_sem] at hc)))
  refine call_c hcall (by decide) ?_
  simp (disch:=omega) only [go_sem,simprocAttr,Blk.men,Blk.keysIn]
  repeat' (first|(with_reducible first|apply qA|apply qB|apply qC|apply qD|apply qE|apply qF)|(simp (disch:=omega) only [go_sem, simprocAttr, Blk.men, Blk.keysIn])|exact qM rfl rfl rfl|(refine qG rfl ?_)|(refine qH rfl ?_)|(refine qI rfl ?_ ?_<;>intro hc<;>(try simp only [go_sem] at hc))|(refine qJ ?_ ?_<;>intro hc<;>(try simp only [hc])<;>(try simp only [go_sem] at hc)))
  refine ⟨⟨i + 1, hlt⟩, ?_, Ent.to ?_ ?_⟩ <;> first | (show _ < _; (try simp only); omega) | (simp (disch:=omega) only [qR,qS,qTw,qU,get,Nat.reduceEqDiff,↓reduceIte,qV,qW,qX,qY,qZ,and_self,dI,i64_in,and_true,true_and,rA,rB,rC,rD])
 ·repeat' (first|(with_reducible first|apply qA|apply qB|apply qC|apply qD|apply qE|apply qF)|(simp (disch:=omega) only [go_sem, simprocAttr, Blk.men, Blk.keysIn, hd])|exact qM rfl rfl rfl|(refine qG rfl ?_)|(refine qH rfl ?_)|(refine qI rfl ?_ ?_<;>intro hc<;>(try simp only [go_sem] at hc))|(refine qJ ?_ ?_<;>intro hc<;>(try simp only [hc])<;>(try simp only [go_sem] at hc)))
theorem dmStCon (b : Bool) (l : List DSt) (hl : l.length ≤ 2 ^ 36) (g : FuncId) (hp : ∀ x ∈ l, DCall Try.prog g [.agg ((eDs x).map D.c)] [] (bD false) []) : DCall Try.prog 81 [.c (.sl b 3 (rows eDs l)), .c (.fn (.func g) [] [])] [] (bD false) [] := by
 refine DCall.of Try.func81 sf81 hb81 (Nat.le_of_ble_eq_true rfl) (okRes_nil fun _ => rfl) ?_; simp only [s81, idxs, Nat.reduceAdd]
 repeat' (first|(with_reducible first|apply qA|apply qB|apply qC|apply qD|apply qE|apply qF)|(simp (disch:=omega) only [go_sem, simprocAttr, Blk.men, Blk.keysIn])|exact qM rfl rfl rfl|(refine qG rfl ?_)|(refine qH rfl ?_)|(refine qI rfl ?_ ?_<;>intro hc<;>(try simp only [go_sem] at hc))|(refine qJ ?_ ?_<;>intro hc<;>(try simp only [hc])<;>(try simp only [go_sem] at hc)))
 (refine call_c (dmStIdx b l hl g hp) (by decide) ?_; simp (disch:=omega) only [go_sem,simprocAttr,Blk.men,Blk.keysIn])
 repeat' (first|(with_reducible first|apply qA|apply qB|apply qC|apply qD|apply qE|apply qF)|(simp (disch:=omega) only [go_sem, simprocAttr, Blk.men, Blk.keysIn])|exact qM rfl rfl rfl|(refine qG rfl ?_)|(refine qH rfl ?_)|(refine qI rfl ?_ ?_<;>intro hc<;>(try simp only [go_sem] at hc))|(refine qJ ?_ ?_<;>intro hc<;>(try simp only [hc])<;>(try simp only [go_sem] at hc)))
theorem dmCheck (u d : Int) (hr : (0 ≤ u ∧ u ≤ 50) ∧ 0 ≤ d ∧ d ≤ 50) (s : Int × Int) (hs : spM s) (b : Bool) (l : List DSt) (hl : l.length ≤ 10) (h : ∀ x ∈ l, x.ok) : DCall Try.prog 42 [.agg [dI u, dI d], .agg [dI s.1, dI s.2], .c (.sl b 3 (rows eDs l))] [] (dI 0) [] := by
 have h1 := dmRule u d hr
 have h2 := dmMoist true [s] (by simp) (fun x hx => by rw [List.mem_singleton.1 hx]; exact hs)
 have h3 := dmStCon b l (by omega) 77 (fun x hx => dmC1 x (h x hx))
 have hd : decide ((10 : Int) < (l.length : Int)) = false := decide_eq_false (by omega)
 refine DCall.of Try.func42 sf42 hb42 (Nat.le_of_ble_eq_true rfl) (okRes_nil fun _ => rfl) ?_; simp only [s42, idxs, Nat.reduceAdd]
 repeat' (first|(with_reducible first|apply qA|apply qB|apply qC|apply qD|apply qE|apply qF)|(simp (disch:=omega) only [go_sem, simprocAttr, Blk.men, Blk.keysIn, hd])|exact qM rfl rfl rfl|(refine qG rfl ?_)|(refine qK (h1) (by decide) ?_)|(refine qK (h2) (by decide) ?_)|(refine qK (h3) (by decide) ?_)|(refine qH rfl ?_)|(refine qI rfl ?_ ?_<;>intro hc<;>(try simp only [go_sem] at hc))|(refine qJ ?_ ?_<;>intro hc<;>(try simp only [hc])<;>(try simp only [go_sem] at hc)))
def towI (u d f r h : Int) : Int := if f < r then min r (f + u * h) else max r (f - d * h)
theorem tow_b {u d f r h : Int} (hr : (0 ≤ u ∧ u ≤ 50) ∧ 0 ≤ d ∧ d ≤ 50) (hf : 0 ≤ f ∧ f ≤ 300) (hm : 0 ≤ r ∧ r ≤ 300) (hh : 0 ≤ h) : 0 ≤ towI u d f r h ∧ towI u d f r h ≤ 300 := by
 have h1 : 0 ≤ u * h := Int.mul_nonneg hr.1.1 hh
 have h2 : 0 ≤ d * h := Int.mul_nonneg hr.2.1 hh
 unfold towI
 split <;> omega
theorem dm_min (a b : Int) : (if b < a then b else a) = min a b := by split <;> omega
theorem dm_max (a b : Int) : (if a < b then b else a) = max a b := by split <;> omega
theorem dmToward (u d f r h : Int) (hr : (0 ≤ u ∧ u ≤ 50) ∧ 0 ≤ d ∧ d ≤ 50) (hf : 0 ≤ f ∧ f ≤ 300) (hm : 0 ≤ r ∧ r ≤ 300) (hh : 0 ≤ h ∧ h ≤ 1000) : DCall Try.prog 126 [.agg [dI u, dI d], dI f, dI r, dI h] [] (dI (towI u d f r h)) [] := by
 obtain ⟨p, hp⟩ : ∃ p, u * h = p := ⟨_, rfl⟩
 obtain ⟨q, hq⟩ : ∃ q, d * h = q := ⟨_, rfl⟩
 have h1 : 0 ≤ p ∧ p ≤ 50 * 1000 := by
  rw [← hp]
  exact ⟨Int.mul_nonneg hr.1.1 hh.1, Int.mul_le_mul hr.1.2 hh.2 hh.1 (by decide)⟩
 have h2 : 0 ≤ q ∧ q ≤ 50 * 1000 := by
  rw [← hq]
  exact ⟨Int.mul_nonneg hr.2.1 hh.1, Int.mul_le_mul hr.2.2 hh.2 hh.1 (by decide)⟩
 unfold towI
 rw [hp, hq]
 by_cases hc : f < r
 ·have hd : decide (f < r) = true := decide_eq_true hc
  rw [if_pos hc]
  refine DCall.of Try.func126 sf126 hb126 (Nat.le_of_ble_eq_true rfl) (okRes_nil fun _ => rfl) ?_; simp only [s126, idxs, Nat.reduceAdd]
  repeat' (first|(with_reducible first|apply qA|apply qB|apply qC|apply qD|apply qE|apply qF)|(simp (disch:=omega) only [go_sem, simprocAttr, Blk.men, Blk.keysIn, hd, hp, hq, dm_min, dm_max])|exact qM rfl rfl rfl|(refine qG rfl ?_)|(refine qH rfl ?_)|(refine qI rfl ?_ ?_<;>intro hc<;>(try simp only [go_sem] at hc))|(refine qJ ?_ ?_<;>intro hc<;>(try simp only [hc])<;>(try simp only [go_sem] at hc)))
 ·have hd : decide (f < r) = false := decide_eq_false hc
  rw [if_neg hc]
  refine DCall.of Try.func126 sf126 hb126 (Nat.le_of_ble_eq_true rfl) (okRes_nil fun _ => rfl) ?_; simp only [s126, idxs, Nat.reduceAdd]
  repeat' (first|(with_reducible first|apply qA|apply qB|apply qC|apply qD|apply qE|apply qF)|(simp (disch:=omega) only [go_sem, simprocAttr, Blk.men, Blk.keysIn, hd, hp, hq, dm_min, dm_max])|exact qM rfl rfl rfl|(refine qG rfl ?_)|(refine qH rfl ?_)|(refine qI rfl ?_ ?_<;>intro hc<;>(try simp only [go_sem] at hc))|(refine qJ ?_ ?_<;>intro hc<;>(try simp only [hc])<;>(try simp only [go_sem] at hc)))
def hrsF (u d : Int) (k : Int × Int) (s : DSt) : Int × Int := (towI u d k.1 s.lo s.h, towI u d k.2 s.hi s.h)
theorem tow_mono {u d f f' r r' h : Int} (hf : f ≤ f') (hr : r ≤ r') : towI u d f r h ≤ towI u d f' r' h ∨ u * h < 0 ∨ d * h < 0 := by
 unfold towI
 split <;> split <;> omega
theorem hrs_ok {u d : Int} {k : Int × Int} {s : DSt} (hr : (0 ≤ u ∧ u ≤ 50) ∧ 0 ≤ d ∧ d ≤ 50) (hk : spM k) (hs : s.ok) : spM (hrsF u d k s) := by
 obtain ⟨k1, k2, k3⟩ := hk
 obtain ⟨s1, s2, s3⟩ := hs.r
 have hh := hs.h
 dsimp only at s1 s2 s3
 have h1 := (tow_b (u := u) (d := d) (f := k.1) (r := s.lo) (h := s.h) hr ⟨k1, by omega⟩ ⟨s1, by omega⟩ hh.1).1
 have h2 := (tow_b (u := u) (d := d) (f := k.2) (r := s.hi) (h := s.h) hr ⟨by omega, k3⟩ ⟨by omega, s3⟩ hh.1).2
 have h3 : 0 ≤ u * s.h := Int.mul_nonneg hr.1.1 hh.1
 have h4 : 0 ≤ d * s.h := Int.mul_nonneg hr.2.1 hh.1
 refine ⟨h1, ?_, h2⟩
 rcases tow_mono (u := u) (d := d) (h := s.h) k2 s2 with h | h | h
 ·exact h
 ·omega
 ·omega
theorem dmHrs (u d : Int) (k : Int × Int) (s : DSt) (hr : (0 ≤ u ∧ u ≤ 50) ∧ 0 ≤ d ∧ d ≤ 50) (hk : spM k) (hs : s.ok) : DCall Try.prog 83 [.agg [dI k.1, dI k.2], .agg [dI u, dI d], .agg [dI s.lo, dI s.hi], dI s.h] [] (.agg [dI (hrsF u d k s).1, dI (hrsF u d k s).2]) [] := by
 obtain ⟨k1, k2, k3⟩ := hk
 obtain ⟨s1, s2, s3⟩ := hs.r
 have hh := hs.h
 dsimp only at s1 s2 s3
 have h1 := dmToward u d k.1 s.lo s.h hr ⟨k1, by omega⟩ ⟨s1, by omega⟩ ⟨hh.1, by omega⟩
 have h2 := dmToward u d k.2 s.hi s.h hr ⟨by omega, k3⟩ ⟨by omega, s3⟩ ⟨hh.1, by omega⟩
 unfold hrsF
 dsimp only
 refine DCall.of Try.func83 sf83 hb83 (Nat.le_of_ble_eq_true rfl) (okRes_nil fun _ => rfl) ?_; simp only [s83, idxs, Nat.reduceAdd]
 repeat' (first|(with_reducible first|apply qA|apply qB|apply qC|apply qD|apply qE|apply qF)|(refine qL rfl (WF.of ?_) ?_; first|rfl|skip)|(simp (disch:=omega) only [go_sem, simprocAttr, Blk.men, Blk.keysIn])|exact qM rfl rfl rfl|(refine qG rfl ?_)|(refine qK (h1) (by decide) ?_)|(refine qK (h2) (by decide) ?_)|(refine qH rfl ?_)|(refine qI rfl ?_ ?_<;>intro hc<;>(try simp only [go_sem] at hc))|(refine qJ ?_ ?_<;>intro hc<;>(try simp only [hc])<;>(try simp only [go_sem] at hc)))
end Go.Dw.Seat
end
section
set_option linter.unusedSimpArgs false
set_option maxRecDepth 100000
namespace Go.Dw.Seat
open Go Go.Dw Go.Proofs Go.IntWalk
theorem dm_bm_pbox (k l : Nat) (ds : List D) : Blk.men k (.pbox l ds) = D.mens k ds := rfl
theorem dm_bk_pbox (bx : List (Nat × Blk)) (l : Nat) (ds : List D) : Blk.keysIn bx (.pbox l ds) = D.keysIns bx ds := rfl
theorem dm_killB_pbox (k l : Nat) (ds : List D) : killB k (.pbox l ds) = .pbox l (ds.map (killD k)) := rfl
attribute [go_sem] dm_bm_pbox dm_bk_pbox dm_killB_pbox
def aftL (u d : Int) : Int × Int → List DSt → List ((DSt × (Int × Int)) × List Int)
 | _, [] => []
 | k, s :: l => ((s, hrsF u d k s), [(hrsF u d k s).1, (hrsF u d k s).2]) :: aftL u d (hrsF u d k s) l
def enA (e : DSt × (Int × Int)) : List D := [.agg ((eDs e.1).map D.c), .agg ((eSp e.2).map D.c)]
def okA (e : DSt × (Int × Int)) : Prop := e.1.ok ∧ spM e.2
theorem dm_drop {α : Type} {l : List α} {i : Nat} {v : α} (h : l[i]? = some v) : l.drop i = v :: l.drop (i + 1) := by
 have hlt : i < l.length := by
  rcases Nat.lt_or_ge i l.length with h1 | h1
  ·exact h1
  ·rw [List.getElem?_eq_none h1] at h; cases h
 have e : l[i] = v := by
  have := List.getElem?_eq_getElem hlt
  rw [h] at this; cases this; rfl
 rw [← e]; exact List.drop_eq_getElem_cons hlt
set_option maxHeartbeats 4000000 in
theorem dmAft1 (u d : Int) (hr : (0 ≤ u ∧ u ≤ 50) ∧ 0 ≤ d ∧ d ≤ 50) (l : List DSt) (hl : l.length ≤ 1000) (ho : ∀ s ∈ l, s.ok) (k : Int × Int) (hk : spM k) (p : Nat) :
  ItP Try.prog 82 [] [.c (.ro false [.sl false 3 (rows eDs l)] 0), .c (.v (.pointer (some ⟨p, 0, none⟩))), .c (.ro false [.v (.int .i64 u), .v (.int .i64 d)] 0)] enA okA p 2 [k.1, k.2] (aftL u d k l) := by
 intro ly β H stp live hW h40 hC hY b0 hl0
 have hH : ∀ b c, HidOk ((1040, pnB p 2 c) :: H b) := fun b c => (hC b c).toHidOk
 have hHb : ∀ b, HidOk (H b) := fun b => (hW b).toHidOk
 refine DCall.of Try.func82 sf82 hb82 (Nat.le_of_ble_eq_true rfl) (hH _ _).res ?_
 simp only [s82, idxs, Nat.reduceAdd, List.map_nil, List.map_cons, List.nil_append, List.cons_append]
 have f1 := hid_get (hHb b0)
 have f2 := hid_ins (hHb b0)
 have f3 := (hHb b0).men
 have f4 := (hHb b0).lo
 repeat' (first|(with_reducible first|apply qA|apply qB|apply qC|apply qD|apply qE|apply qF)|(simp (disch:=omega) only [go_sem, simprocAttr, qN, qO, qP, qQ, f1, f2, f3, f4, ins, pnB, pnC, rF, rG])|exact qM rfl rfl rfl|(refine qG rfl ?_)|(refine qH rfl ?_)|(refine qI rfl ?_ ?_<;>intro hc<;>(try simp only [go_sem] at hc))|(refine qJ ?_ ?_<;>intro hc<;>(try simp only [hc])<;>(try simp only [go_sem] at hc)))
 refine DW.loop (ι := { y : Nat × β × (Int × Int) // y.1 ≤ l.length ∧ live ((aftL u d y.2.2 (l.drop y.1)).map (·.1)) y.2.1 ∧ spM y.2.2 ∧ runB stp b0 ((aftL u d k l).map (·.1)) = runB stp y.2.1 ((aftL u d y.2.2 (l.drop y.1)).map (·.1)) ∧ runC stp b0 (aftL u d k l) [k.1, k.2] = runC stp y.2.1 (aftL u d y.2.2 (l.drop y.1)) [y.2.2.1, y.2.2.2] })
  (fun y => ⟨26, [(9, dI y.1.1), (8, dI l.length), (7, .c (.sl false 3 (rows eDs l))), (0, .c (.fn (.yield ly) [] [])), (2, .c (.v (.pointer (some ⟨p, 0, none⟩)))), (3, .c (.ro false [.v (.int .i64 u), .v (.int .i64 d)] 0))], (1040, pnB p 2 (some [y.1.2.2.1, y.1.2.2.2])) :: H y.1.2.1⟩) (fun y => l.length - y.1.1) ⟨(0, b0, k), Nat.zero_le _, hl0, hk, rfl, rfl⟩ ?_ ?_
 ·refine Ent.toT ?_; simp (disch:=omega) only [qR,qS,qTw,qU,get,Nat.reduceEqDiff,↓reduceIte,qV,qW,qX,qY,qZ,and_self,dI,i64_in,and_true,true_and,rA,rB,rC,rD]
 rintro ⟨⟨i, b1, kk⟩, hi, hlv, hkk, hrun, hrc⟩
 dsimp only at hi hlv hkk hrun hrc ⊢
 have g1 := hid_get (hHb b1)
 have g2 := hid_ins (hHb b1)
 have g3 := (hHb b1).men
 have g4 := (hHb b1).lo
 have g5 : ∀ k x, k < 1000 → ins k x (H b1) = H b1 ++ [(k, x)] := fun k x hk => by have := g2 k hk x []; rwa [List.append_nil] at this
 rcases at_or l i hi with ⟨s, hs, hlt, hd⟩ | ⟨he, hd⟩
 ·have hso := ho s (List.mem_of_getElem? hs)
  rw [dm_drop hs, aftL] at hrun hrc hlv
  simp only [List.map_cons, runB, runC] at hrun hrc hlv
  have hh := dmHrs u d kk s hr hkk hso
  have hk' := hrs_ok hr hkk hso
  generalize hrsF u d kk s = k' at *
  obtain ⟨hyc, hlv4⟩ := hY b1 [k'.1, k'.2] (s, k') _ hlv ⟨hso, hk'⟩
  repeat' (first|(with_reducible first|apply qA|apply qB|apply qC|apply qD|apply qE|apply qF)|(simp (disch:=omega) only [go_sem, simprocAttr, qN, qO, qP, qQ, g1, g2, g3, g4, g5, ins, hd, pnB, pnC, rF, rG])|exact qM rfl rfl rfl|(refine qG rfl ?_)|(refine qH rfl ?_)|(refine qI rfl ?_ ?_<;>intro hc<;>(try simp only [go_sem] at hc))|(refine qJ ?_ ?_<;>intro hc<;>(try simp only [hc])<;>(try simp only [go_sem] at hc)))
  simp (disch:=omega) only [go_sem,simprocAttr,qN,qO,qP,qQ,g1,g2,g3,g4,g5,ins,hs,rF,rG]
  repeat' (first|(with_reducible first|apply qA|apply qB|apply qC|apply qD|apply qE|apply qF)|(simp (disch:=omega) only [go_sem, simprocAttr, qN, qO, qP, qQ, g1, g2, g3, g4, g5, ins, pnB, pnC, rF, rG])|exact qM rfl rfl rfl|(refine qG rfl ?_)|(refine qH rfl ?_)|(refine qI rfl ?_ ?_<;>intro hc<;>(try simp only [go_sem] at hc))|(refine qJ ?_ ?_<;>intro hc<;>(try simp only [hc])<;>(try simp only [go_sem] at hc)))
  refine call_c hh (by decide) ?_
  simp (disch:=omega) only [go_sem,simprocAttr,qN,qO,qP,qQ,g1,g2,g3,g4,g5,ins,pnB,pnC,rF,rG]
  refine DW.ent (Ent.comm (o := [(6, .box [dI s.lo, dI s.hi, dI s.h])]) (hH b1 (some [k'.1, k'.2])) rfl).1 ?_
  simp (disch:=omega) only [go_sem,simprocAttr,qN,qO,qP,qQ,List.cons_append,List.nil_append]
  repeat' (first|(with_reducible first|apply qA|apply qB|apply qC|apply qD|apply qE|apply qF)|(simp (disch:=omega) only [go_sem, simprocAttr, qN, qO, qP, qQ, g1, g2, g3, g4, g5, ins, pnB, pnC, rF, rG])|exact qM rfl rfl rfl|(refine qG rfl ?_)|(refine qH rfl ?_)|(refine qI rfl ?_ ?_<;>intro hc<;>(try simp only [go_sem] at hc))|(refine qJ ?_ ?_<;>intro hc<;>(try simp only [hc])<;>(try simp only [go_sem] at hc)))
  refine call_y (own := [(6, .box [dI s.lo, dI s.hi, dI s.h])]) hyc rfl rfl rfl (hH b1 (some [k'.1, k'.2])) (hH (stp b1 (s, k')).2 (some [k'.1, k'.2])) (by decide) ?_
  cases hst : (stp b1 (s, k')).1 with
  | true =>
   rw [hst] at hrun hrc hlv4
   simp only [if_true] at hrun hrc
   simp (disch:=omega) only [go_sem,simprocAttr,qN,qO,qP,qQ]
   repeat' (first|(with_reducible first|apply qA|apply qB|apply qC|apply qD|apply qE|apply qF)|(simp (disch:=omega) only [go_sem, simprocAttr, qN, qO, qP, qQ])|exact qM rfl rfl rfl|(refine qG rfl ?_)|(refine qH rfl ?_)|(refine qI rfl ?_ ?_<;>intro hc<;>(try simp only [go_sem] at hc))|(refine qJ ?_ ?_<;>intro hc<;>(try simp only [hc])<;>(try simp only [go_sem] at hc)))
   refine ⟨⟨(i + 1, (stp b1 (s, k')).2, k'), by dsimp only; omega, hlv4 rfl, hk', hrun, hrc⟩, (by show _ < _; (try simp only); omega), Ent.toH (o := [_]) (o' := []) (hH (stp b1 (s, k')).2 (some [k'.1, k'.2])) rfl ?_ ?_⟩ <;> simp (disch:=omega) only [qR,qS,qTw,qU,get,Nat.reduceEqDiff,↓reduceIte,qV,qW,qX,qY,qZ,and_self,dI,i64_in,and_true,true_and,rA,rB,rC,rD]
  | false =>
   rw [hst] at hrun hrc
   simp only [Bool.false_eq_true, if_false] at hrun hrc
   simp (disch:=omega) only [go_sem,simprocAttr,qN,qO,qP,qQ]
   repeat' (first|(with_reducible first|apply qA|apply qB|apply qC|apply qD|apply qE|apply qF)|(simp (disch:=omega) only [go_sem, simprocAttr, qN, qO, qP, qQ])|exact qM rfl rfl rfl|(refine qG rfl ?_)|(refine qH rfl ?_)|(refine qI rfl ?_ ?_<;>intro hc<;>(try simp only [go_sem] at hc))|(refine qJ ?_ ?_<;>intro hc<;>(try simp only [hc])<;>(try simp only [go_sem] at hc)))
   rw [hrun, hrc]
   exact retS_hid (own := [_]) (.inl rfl) (hH (stp b1 (s, k')).2 (some [k'.1, k'.2])) rfl
 ·repeat' (first|(with_reducible first|apply qA|apply qB|apply qC|apply qD|apply qE|apply qF)|(simp (disch:=omega) only [go_sem, simprocAttr, qN, qO, qP, qQ, hd])|exact qM rfl rfl rfl|(refine qG rfl ?_)|(refine qH rfl ?_)|(refine qI rfl ?_ ?_<;>intro hc<;>(try simp only [go_sem] at hc))|(refine qJ ?_ ?_<;>intro hc<;>(try simp only [hc])<;>(try simp only [go_sem] at hc)))
  rw [he, List.drop_length] at hrun hrc
  simp only [aftL, List.map_nil, runB, runC] at hrun hrc
  rw [hrun, hrc]
  exact retS_hid (own := []) (.inr rfl) (hH b1 (some [kk.1, kk.2])) rfl
theorem dmAfterI (u d : Int) (l : List DSt) (k : Int × Int) : DCall Try.prog 43 [.agg [dI k.1, dI k.2], .agg [dI u, dI d], .c (.sl false 3 (rows eDs l))] []
  (.fn (.func 82) [] [.c (.ro false [.sl false 3 (rows eDs l)] 0), .box 40 0, .c (.ro false [.v (.int .i64 u), .v (.int .i64 d)] 0)]) [(40, .box [dI k.1, dI k.2])] := by
 have hok : ∀ i : Nat, okRes (.fn (.func 82) [] [.c (.ro false [.sl false 3 (rows eDs l)] 0), .box i 0, .c (.ro false [.v (.int .i64 u), .v (.int .i64 d)] 0)]) [(i, .box [dI k.1, dI k.2])] := fun i => by
  refine ⟨fun j hj => ?_, fun m x hi j hj => ?_⟩
  ·have hne : j ≠ i := by rintro rfl; simp [get] at hj
   have hne' : i ≠ j := fun h => hne h.symm
   simp only [D.men, D.mens, Bool.or_false, Bool.false_or, beq_eq_false_iff_ne, ne_eq]
   first | exact hne | exact hne'
  ·have := get_mem hi
   simp only [List.mem_cons, Prod.mk.injEq, List.not_mem_nil, or_false] at this
   obtain ⟨_, rfl⟩ := this
   rfl
 refine DCall.swap 3 40 (r := .fn (.func 82) [] [.c (.ro false [.sl false 3 (rows eDs l)] 0), .box 3 0, .c (.ro false [.v (.int .i64 u), .v (.int .i64 d)] 0)]) (bo := [(3, .box [dI k.1, dI k.2])]) (hok 40) ?_
 refine DCall.of Try.func43 sf43 hb43 (Nat.le_of_ble_eq_true rfl) (hok 3) ?_
 simp only [s43, idxs, Nat.reduceAdd]
 repeat' (first|(with_reducible first|apply qA|apply qB|apply qC|apply qD|apply qE|apply qF)|(simp (disch:=omega) only [go_sem, simprocAttr, qN, qO, qP, qQ])|exact qM rfl rfl rfl|(refine qG rfl ?_)|(refine qH rfl ?_)|(refine qI rfl ?_ ?_<;>intro hc<;>(try simp only [go_sem] at hc))|(refine qJ ?_ ?_<;>intro hc<;>(try simp only [hc])<;>(try simp only [go_sem] at hc)))
 (refine retS_ent (Ent.rel 5 rfl) ?_; simp (disch:=omega) only [go_sem,simprocAttr,qN,qO,qP,qQ])
 (refine retS_ent (Ent.rel 4 rfl) ?_; simp (disch:=omega) only [go_sem,simprocAttr,qN,qO,qP,qQ])
 refine retS_bs rfl rfl (by simp only [D.nb, D.nbs, C.nb, C.nbs, rows_nb eDs_nb, Bool.and_true, Bool.not_false, Bool.and_self]) (get_all (p := fun k x => get k _ = some x ∧ x.nb = true) ?_)
 intro q hq
 simp only [List.mem_cons, List.not_mem_nil, or_false] at hq
 subst hq
 exact ⟨rfl, rfl⟩
end Go.Dw.Seat
end
section
set_option linter.unusedSimpArgs false
set_option maxRecDepth 100000
namespace Go.Dw.Seat
open Go Go.Dw Go.Proofs Go.IntWalk
def aftS (u d : Int) : Int × Int → List DSt → List (Int × Int)
 | _, [] => []
 | k, s :: l => hrsF u d k s :: aftS u d (hrsF u d k s) l
theorem aftL_snd (u d : Int) : ∀ (l : List DSt) (k : Int × Int), ((aftL u d k l).map (·.1)).map (·.2) = aftS u d k l
 | [], _ => rfl
 | s :: l, k => by simp only [aftL, aftS, List.map_cons, aftL_snd u d l]
theorem aftS_len (u d : Int) : ∀ (l : List DSt) (k : Int × Int), (aftS u d k l).length = l.length
 | [], _ => rfl
 | s :: l, k => by simp only [aftS, List.length_cons, aftS_len u d l]
theorem aftL_len (u d : Int) : ∀ (l : List DSt) (k : Int × Int), (aftL u d k l).length = l.length
 | [], _ => rfl
 | s :: l, k => by simp only [aftL, List.length_cons, aftL_len u d l]
def apA (a : List (Int × Int)) (e : DSt × (Int × Int)) : Option Exit × List (Int × Int) := (none, a ++ [e.2])
theorem apA_run : ∀ (L : List (DSt × (Int × Int))) (a : List (Int × Int)), runIt apA a L = (none, a ++ L.map (·.2))
 | [], a => by simp [runIt]
 | e :: L, a => by simp [runIt, apA, apA_run L]
theorem rowC_snocSp (l : List (Int × Int)) (x : Int × Int) : rowC (rows eSp l) ++ [[D.c (.v (.int .i64 x.1)), D.c (.v (.int .i64 x.2))]] = rowC (rows eSp (l ++ [x])) := by simp [rowC, rows, eSp]
set_option maxHeartbeats 4000000 in
theorem dmAfter (u d : Int) (hr : (0 ≤ u ∧ u ≤ 50) ∧ 0 ≤ d ∧ d ≤ 50) (k : Int × Int) (hk : spM k) (l : List DSt) (hl : l.length ≤ 10) (ho : ∀ s ∈ l, s.ok) :
  DCall Try.prog 10 [.agg [dI u, dI d], .agg [dI k.1, dI k.2], .c (.sl false 3 (rows eDs l))] [] (.tup [.c (.sl false 2 (rows eSp (aftS u d k l))), dI 0]) [] := by
 have h1 := dmCheck u d hr k hk false l hl ho
 have h2 := dmAfterI u d l k
 refine DCall.of Try.func10 sf10 hb10 (Nat.le_of_ble_eq_true rfl) (okRes_nil fun _ => rfl) ?_; simp only [s10, idxs, Nat.reduceAdd]
 repeat' (first|(with_reducible first|apply qA|apply qB|apply qC|apply qD|apply qE|apply qF)|(simp (disch:=omega) only [go_sem, simprocAttr, qN, qO, qP, qQ])|exact qM rfl rfl rfl|(refine qG rfl ?_)|(refine qK (h1) (by decide) ?_)|(refine qH rfl ?_)|(refine qI rfl ?_ ?_<;>intro hc<;>(try simp only [go_sem] at hc))|(refine qJ ?_ ?_<;>intro hc<;>(try simp only [hc])<;>(try simp only [go_sem] at hc)))
 refine call_b h2 ⟨trivial, rfl, rfl, rfl⟩ (by decide) ?_
 simp only [St.addBs, St.putB, St.putO, St.put]
 simp (disch:=omega) only [go_sem,simprocAttr,qN,qO,qP,qQ]
 refine DW.pin 40 rfl rfl (fun p => ?_)
 simp (disch:=omega) only [go_sem,simprocAttr,qN,qO,qP,qQ,pinT,pinX,pinD,pinDs,pinB,pinO]
 (refine DW.ent (Ent.adoptB 6 0 29 2 rfl rfl rfl rfl) ?_; simp only [ins, Nat.reduceLT, Nat.reduceEqDiff, ↓reduceIte, List.set_cons_zero, List.set_cons_succ])
 refine DW.ent (σ' := ⟨31, [(22, .fn (.func 82) [] [.c (.ro false [.sl false 3 (rows eDs l)] 0), .c (.v (.pointer (some ⟨p, 0, none⟩))), .c (.ro false [.v (.int .i64 u), .v (.int .i64 d)] 0)]), (6, .box 6 0)], (40, pnB p 2 (some [k.1, k.2])) :: [(29, .row 2 (rowC (rows eSp []))), (6, .box [.own 29])]⟩) ?_ ?_
 ·refine Ent.to ?_ ?_ <;> simp (disch:=omega) only [qR,qS,qTw,qU,get,Nat.reduceEqDiff,↓reduceIte,qV,qW,qX,qY,qZ,and_self,dI,i64_in,and_true,true_and,rA,rB,rC,rD,pnB,pnC,rF,rG]
  all_goals first | exact ⟨.refl _, .refl _, .refl _⟩ | exact ⟨.refl _, .refl _⟩ | exact .refl _
 refine DW.block ?_
 refine DW.rngP (fs := []) (caps := [.c (.ro false [.sl false 3 (rows eDs l)] 0), .c (.v (.pointer (some ⟨p, 0, none⟩))), .c (.ro false [.v (.int .i64 u), .v (.int .i64 d)] 0)]) p 2 [k.1, k.2] (fun y : List (Int × Int) => [(29, .row 2 (rowC (rows eSp y))), (6, .box [.own 29])]) [] apA enA okA (aftL u d k l) (dmAft1 u d hr l (by omega) ho k hk p) (fun t y => y.length + t.length ≤ 10) (by simpa [aftL_len] using hl) (fun a e t ha he _ => by simp only [apA, List.length_append, List.length_cons, List.length_nil] at ha ⊢; omega) rfl (fun _ => ⟨rfl, rfl⟩) rfl (by decide) (fun _ _ => rfl) (fun _ _ _ => rfl) (by simp only [List.map_cons, List.map_nil]; decide) (fun _ => rfl) (fun _ => rfl) (fun _ => wf_row rfl rfl) (fun _ => nb_row eSp_nb _ rfl) (by simp only [List.all_cons, List.all_nil, Blk.nb, rowC_nb, D.nb, D.nbs, C.nb, C.nbs, C.nbss, rows_nb eI_nb, Bool.and_true, Bool.not_false, Bool.and_self, bD, dI, iD, rows_nb eSp_nb, rows_nb eDs_nb]) (fun _ _ => rfl) ?_ ?_
 ·rintro y e t hy xs he v
  simp only [List.length_cons] at hy
  have hy : y.length ≤ 1000 := by omega
  simp (disch:=omega) only [go_sem,simprocAttr,qN,qO,qP,qQ,rF,rG,apA,enA]
  repeat' (first|(with_reducible first|apply qA|apply qB|apply qC|apply qD|apply qE|apply qF)|(simp (disch:=omega) only [go_sem, simprocAttr, qN, qO, qP, qQ, rF, rG])|exact qM rfl rfl rfl|(refine qG rfl ?_)|(refine qH rfl ?_)|(refine qI rfl ?_ ?_<;>intro hc<;>(try simp only [go_sem] at hc))|(refine qJ ?_ ?_<;>intro hc<;>(try simp only [hc])<;>(try simp only [go_sem] at hc)))
  refine round_end rfl rfl (Ent.to ?_ ?_) <;> simp (disch:=omega) only [qR,qS,qTw,qU,get,Nat.reduceEqDiff,↓reduceIte,qV,qW,qX,qY,qZ,and_self,dI,i64_in,and_true,true_and,rA,rB,rC,rD,capB,List.cons_append,List.nil_append,rowC_snocSp]
 ·intro c
  rw [apA_run, aftL_snd, List.nil_append]
  have hlen := aftS_len u d l k
  generalize aftS u d k l = L at *
  repeat' (first|(with_reducible first|apply qA|apply qB|apply qC|apply qD|apply qE|apply qF)|(simp (disch:=omega) only [go_sem, simprocAttr, qN, qO, qP, qQ])|exact qM rfl rfl rfl|(refine qG rfl ?_)|(refine qH rfl ?_)|(refine qI rfl ?_ ?_<;>intro hc<;>(try simp only [go_sem] at hc))|(refine qJ ?_ ?_<;>intro hc<;>(try simp only [hc])<;>(try simp only [go_sem] at hc)))
  (refine retS_ent (Ent.rel 29 rfl) ?_; simp (disch:=omega) only [go_sem,simprocAttr,qN,qO,qP,qQ])
  refine retS_wk rfl ?_ (by simp only [Blk.nb, rowC_nb, D.nb, D.nbs, C.nb, C.nbs, C.nbss, rows_nb eI_nb, Bool.and_true, Bool.not_false, Bool.and_self, bD, dI, iD, rows_nb eSp_nb, rows_nb eDs_nb]); exact .tup (.cons (.refl _) (.cons (.refl _) .nil))
end Go.Dw.Seat
end
section
set_option linter.unusedSimpArgs false
set_option maxRecDepth 100000
namespace Go.Dw.Seat
open Go Go.Dw Go.Proofs Go.IntWalk
theorem dtSpan (a b : Int) : DCall Try.prog 15 [dI a, dI b] [] (.agg [dI a, dI b]) [] := by
 refine DCall.of Try.func15 sf15 hb15 (Nat.le_of_ble_eq_true rfl) (okRes_nil fun _ => rfl) ?_; simp only [s15, idxs, Nat.reduceAdd]
 repeat' (first|(with_reducible first|apply qA|apply qB|apply qC|apply qD|apply qE|apply qF)|(simp (disch:=omega) only [go_sem, simprocAttr, qN, qO, qP, qQ])|exact qM rfl rfl rfl|(refine qG rfl ?_)|(refine qH rfl ?_)|(refine qI rfl ?_ ?_<;>intro hc<;>(try simp only [go_sem] at hc))|(refine qJ ?_ ?_<;>intro hc<;>(try simp only [hc])<;>(try simp only [go_sem] at hc)))
theorem dtWithin (n a b : Int) : DCall Try.prog 13 [dI n, .agg [dI a, dI b]] [] (bD (decide (a ≤ n) && decide (n ≤ b))) [] := by
 refine DCall.of Try.func13 sf13 hb13 (Nat.le_of_ble_eq_true rfl) (okRes_nil fun _ => rfl) ?_; simp only [s13, idxs, Nat.reduceAdd]
 repeat' (first|(with_reducible first|apply qA|apply qB|apply qC|apply qD|apply qE|apply qF)|(simp (disch:=omega) only [go_sem, simprocAttr, qN, qO, qP, qQ])|exact qM rfl rfl rfl|(refine qG rfl ?_)|(refine qH rfl ?_)|(refine qI rfl ?_ ?_<;>intro hc<;>(try simp only [go_sem] at hc))|(refine qJ ?_ ?_<;>intro hc<;>(try simp only [hc])<;>(try simp only [go_sem] at hc)))
theorem dtStays (b : Bool) (l : List DSt) (hl : l.length ≤ 2 ^ 36) : DCall Try.prog 11 [.c (.sl b 3 (rows eDs l))] [] (.c (.sl false 3 (rows eDs l))) [] := by
 refine DCall.of Try.func11 sf11 hb11 (Nat.le_of_ble_eq_true rfl) (okRes_nil fun _ => rfl) ?_; simp only [s11, idxs, Nat.reduceAdd]
 repeat' (first|(with_reducible first|apply qA|apply qB|apply qC|apply qD|apply qE|apply qF)|(simp (disch:=omega) only [go_sem, simprocAttr, qN, qO, qP, qQ])|exact qM rfl rfl rfl|(refine qG rfl ?_)|(refine qH rfl ?_)|(refine qI rfl ?_ ?_<;>intro hc<;>(try simp only [go_sem] at hc))|(refine qJ ?_ ?_<;>intro hc<;>(try simp only [hc])<;>(try simp only [go_sem] at hc)))
 (refine retS_ent (Ent.rel 3 rfl) ?_; simp (disch:=omega) only [go_sem,simprocAttr,qN,qO,qP,qQ])
 refine retS_wk rfl ?_ (by simp only [Blk.nb, rowC_nb, D.nb, D.nbs, C.nb, C.nbs, C.nbss, rows_nb eI_nb, Bool.and_true, Bool.not_false, Bool.and_self, bD, dI, iD, rows_nb eSp_nb, rows_nb eDs_nb]); exact .refl _
end Go.Dw.Seat
end
section
set_option linter.unusedSimpArgs false
set_option maxRecDepth 100000
namespace Go.Dw.Seat
open Go Go.Dw Go.Proofs Go.IntWalk
def stepW (u d m r : Int) : Int := if m < r then min r (m + u) else max r (m - d)
theorem stepW_mono {u d m m' r r' : Int} (hu : 0 ≤ u) (hd : 0 ≤ d) (hm : m ≤ m') (hr : r ≤ r') : stepW u d m r ≤ stepW u d m' r' := by
 unfold stepW
 split <;> split <;> omega
theorem stepW_b {u d m r : Int} (hu : 0 ≤ u) (hd : 0 ≤ d) (hm : 0 ≤ m ∧ m ≤ 300) (hr : 0 ≤ r ∧ r ≤ 300) : 0 ≤ stepW u d m r ∧ stepW u d m r ≤ 300 := by
 unfold stepW
 split <;> omega
theorem tow_step {u d f r : Int} (hu : 0 ≤ u) (hd : 0 ≤ d) (n : Nat) : towI u d f r ((n + 1 : Nat) : Int) = stepW u d (towI u d f r (n : Int)) r := by
 have e1 : u * ((n + 1 : Nat) : Int) = u * (n : Int) + u := by rw [Int.natCast_add, Int.mul_add]; simp
 have e2 : d * ((n + 1 : Nat) : Int) = d * (n : Int) + d := by rw [Int.natCast_add, Int.mul_add]; simp
 have h1 : 0 ≤ u * (n : Int) := Int.mul_nonneg hu (by omega)
 have h2 : 0 ≤ d * (n : Int) := Int.mul_nonneg hd (by omega)
 unfold towI stepW
 rw [e1, e2]
 generalize u * (n : Int) = a at *
 generalize d * (n : Int) = b at *
 split
 ·split <;> omega
 ·split <;> omega
theorem tow_zero {u d f r : Int} : towI u d f r 0 = f := by
 unfold towI
 rw [Int.mul_zero, Int.mul_zero]
 split <;> omega
def wetS (u d : Int) (tr : List Nat) (s : DSt) : Nat → Int × Nat → Int × Nat
 | 0, x => x
 | n + 1, x => wetS u d tr s n (stepW u d x.1 (inI s.lo s.hi (byteI tr (x.2 + 1))), x.2 + 1)
def wetL (u d : Int) (tr : List Nat) : List DSt → Int × Nat → Int × Nat
 | [], x => x
 | s :: l, x => wetL u d tr l (wetS u d tr s s.h.toNat x)
theorem dt_byteI {l : List Nat} (h : ∀ v ∈ l, v < 256) (i : Nat) : byteI l i < 256 := by
 unfold byteI
 cases hv : l[i % l.length]? with
 | none => simp
 | some v => simpa using h v (List.mem_of_getElem? hv)
theorem wetS_in {u d : Int} (hu : 0 ≤ u) (hd : 0 ≤ d) {tr : List Nat} (ht : ∀ v ∈ tr, v < 256) {s : DSt} (hs : s.lo ≤ s.hi) (k : Int × Int) : ∀ (n : Nat) (j : Nat) (x : Int × Nat), (towI u d k.1 s.lo (j : Int) ≤ x.1 ∧ x.1 ≤ towI u d k.2 s.hi (j : Int)) →
  towI u d k.1 s.lo ((j + n : Nat) : Int) ≤ (wetS u d tr s n x).1 ∧ (wetS u d tr s n x).1 ≤ towI u d k.2 s.hi ((j + n : Nat) : Int)
 | 0, j, x, h => h
 | n + 1, j, x, h => by
  have hi := inI_b (y := byteI tr (x.2 + 1)) (dt_byteI ht _) hs
  have := wetS_in hu hd ht hs k n (j + 1) (stepW u d x.1 (inI s.lo s.hi (byteI tr (x.2 + 1))), x.2 + 1) (by
   dsimp only
   rw [tow_step hu hd, tow_step hu hd]
   exact ⟨stepW_mono hu hd h.1 hi.1, stepW_mono hu hd h.2 hi.2⟩)
  rw [show j + 1 + n = j + (n + 1) by omega] at this
  exact this
def lastK (u d : Int) : List DSt → Int × Int → Int × Int
 | [], k => k
 | s :: l, k => lastK u d l (hrsF u d k s)
theorem wetL_in {u d : Int} (hr : (0 ≤ u ∧ u ≤ 50) ∧ 0 ≤ d ∧ d ≤ 50) {tr : List Nat} (ht : ∀ v ∈ tr, v < 256) : ∀ (l : List DSt), (∀ s ∈ l, s.ok) → ∀ (k : Int × Int) (x : Int × Nat), spM k → (k.1 ≤ x.1 ∧ x.1 ≤ k.2) → (lastK u d l k).1 ≤ (wetL u d tr l x).1 ∧ (wetL u d tr l x).1 ≤ (lastK u d l k).2
 | [], _, k, x, _, h => h
 | s :: l, ho, k, x, hk, h => by
  have hs := ho s (by simp)
  have h1 := wetS_in (u := u) (d := d) hr.1.1 hr.2.1 ht (s := s) hs.r.2.1 k s.h.toNat 0 x (by rw [show ((0 : Nat) : Int) = 0 from rfl, tow_zero, tow_zero]; exact h)
  rw [Nat.zero_add, Int.toNat_of_nonneg hs.h.1] at h1
  exact wetL_in hr ht l (fun y hy => ho y (by simp [hy])) (hrsF u d k s) _ (hrs_ok hr hk hs) h1
theorem lastK_ok {u d : Int} (hr : (0 ≤ u ∧ u ≤ 50) ∧ 0 ≤ d ∧ d ≤ 50) : ∀ (l : List DSt), (∀ s ∈ l, s.ok) → ∀ (k : Int × Int), spM k → spM (lastK u d l k)
 | [], _, _, h => h
 | s :: l, ho, k, h => lastK_ok hr l (fun y hy => ho y (by simp [hy])) _ (hrs_ok hr h (ho s (by simp)))
theorem aftS_last (u d : Int) : ∀ (l : List DSt) (k : Int × Int), (aftS u d k l = [] ∧ lastK u d l k = k) ∨ ∃ L, aftS u d k l = L ++ [lastK u d l k]
 | [], k => .inl ⟨rfl, rfl⟩
 | s :: l, k => by
  refine .inr ?_
  rcases aftS_last u d l (hrsF u d k s) with ⟨h1, h2⟩ | ⟨L, h⟩
  ·exact ⟨[], by rw [aftS, h1, lastK, h2]; rfl⟩
  ·exact ⟨hrsF u d k s :: L, by rw [aftS, h, lastK]; rfl⟩
theorem wetS_snd (u d : Int) (tr : List Nat) (s : DSt) : ∀ (n : Nat) (x : Int × Nat), (wetS u d tr s n x).2 = x.2 + n
 | 0, x => rfl
 | n + 1, x => by rw [wetS, wetS_snd u d tr s n]; dsimp only; omega
theorem wetS_b {u d : Int} (hu : 0 ≤ u) (hd : 0 ≤ d) {tr : List Nat} (ht : ∀ v ∈ tr, v < 256) {s : DSt} (hs : s.ok) : ∀ (n : Nat) (x : Int × Nat), (0 ≤ x.1 ∧ x.1 ≤ 300) → 0 ≤ (wetS u d tr s n x).1 ∧ (wetS u d tr s n x).1 ≤ 300
 | 0, _, h => h
 | n + 1, x, h => by
  have hi := inI_b (y := byteI tr (x.2 + 1)) (dt_byteI ht _) hs.r.2.1
  obtain ⟨r1, r2, r3⟩ := hs.r
  dsimp only at r1 r2 r3 hi
  exact wetS_b hu hd ht hs n _ (stepW_b hu hd h ⟨by omega, by omega⟩)
set_option maxHeartbeats 4000000 in
theorem dtWet (b : Bool) (u d : Int) (hr : (0 ≤ u ∧ u ≤ 50) ∧ 0 ≤ d ∧ d ≤ 50) (k : Int × Int) (hk : spM k) (l : List DSt) (hl : l.length ≤ 5) (ho : ∀ s ∈ l, s.ok ∧ s.h ≤ 20) (tr : List Nat) (ht : ∀ v ∈ tr, v < 256) :
  DCall Try.prog 12 [.agg [dI u, dI d], .agg [dI k.1, dI k.2], .c (.sl false 3 (rows eDs l)), .c (.sl b 1 (rows eY tr))] [] (dI (wetL u d tr l (inI k.1 k.2 (byteI tr 0), 0)).1) [] := by
 obtain ⟨k1, k2, k3⟩ := hk
 have hb0 := arByte b tr 0 (by omega) ht
 have hi0 := arIn k.1 k.2 (byteI tr 0) (dt_byteI ht 0) ⟨k1, k2, by omega⟩
 have hin := inI_b (y := byteI tr 0) (dt_byteI ht 0) k2
 obtain ⟨R, hR⟩ : ∃ R, (wetL u d tr l (inI k.1 k.2 (byteI tr 0), 0)).1 = R := ⟨_, rfl⟩
 rw [hR]
 refine DCall.of Try.func12 sf12 hb12 (Nat.le_of_ble_eq_true rfl) (okRes_nil fun _ => rfl) ?_; simp only [s12, idxs, Nat.reduceAdd]
 repeat' (first|(with_reducible first|apply qA|apply qB|apply qC|apply qD|apply qE|apply qF)|(refine qL rfl (WF.of ?_) ?_; first|rfl|skip)|(simp (disch:=omega) only [go_sem, simprocAttr, qN, qO, qP, qQ])|exact qM rfl rfl rfl|(refine qG rfl ?_)|(refine qK (hb0) (by decide) ?_)|(refine qK (hi0) (by decide) ?_)|(refine qH rfl ?_)|(refine qI rfl ?_ ?_<;>intro hc<;>(try simp only [go_sem] at hc))|(refine qJ ?_ ?_<;>intro hc<;>(try simp only [hc])<;>(try simp only [go_sem] at hc)))
 refine DW.loop (ι := { y : Nat × (Int × Nat) // y.1 ≤ l.length ∧ (0 ≤ y.2.1 ∧ y.2.1 ≤ 300) ∧ y.2.2 ≤ 20 * y.1 ∧ (wetL u d tr (l.drop y.1) y.2).1 = R }) (fun y => ⟨60, [(11, dI y.1.1), (10, dI y.1.2.2), (9, dI y.1.2.1), (4, .box 4 0), (2, .c (.sl false 3 (rows eDs l))), (3, .c (.sl b 1 (rows eY tr)))], [(4, .box [dI u, dI d])]⟩) (fun y => l.length - y.1.1) ⟨(0, (inI k.1 k.2 (byteI tr 0), 0)), Nat.zero_le _, by dsimp only; omega, Nat.le_refl _, hR⟩ ?_ ?_
 ·refine Ent.to ?_ ?_ <;> simp (disch:=omega) only [qR,qS,qTw,qU,get,Nat.reduceEqDiff,↓reduceIte,qV,qW,qX,qY,qZ,and_self,dI,i64_in,and_true,true_and,rA,rB,rC,rD]
 rintro ⟨⟨i, m, h⟩, hi, hmb, hhb, hw⟩
 dsimp only at hi hmb hhb hw ⊢
 rcases at_or l i hi with ⟨s, hs, hlt, hd⟩ | ⟨he, hd⟩
 ·obtain ⟨hso, hs20⟩ := ho s (List.mem_of_getElem? hs)
  have hsh := hso.h
  obtain ⟨r1, r2, r3⟩ := hso.r
  dsimp only at r1 r2 r3
  rw [dm_drop hs, wetL] at hw
  obtain ⟨W, hW⟩ : ∃ W, wetS u d tr s s.h.toNat (m, h) = W := ⟨_, rfl⟩
  have hWb := wetS_b hr.1.1 hr.2.1 ht hso s.h.toNat (m, h) hmb
  have hWs := wetS_snd u d tr s s.h.toNat (m, h)
  rw [hW] at hw hWb hWs
  dsimp only at hWs
  repeat' (first|(with_reducible first|apply qA|apply qB|apply qC|apply qD|apply qE|apply qF)|(refine qL rfl (WF.of ?_) ?_; first|rfl|skip)|(simp (disch:=omega) only [go_sem, simprocAttr, qN, qO, qP, qQ, hd])|exact qM rfl rfl rfl|(refine qG rfl ?_)|(refine qH rfl ?_)|(refine qI rfl ?_ ?_<;>intro hc<;>(try simp only [go_sem] at hc))|(refine qJ ?_ ?_<;>intro hc<;>(try simp only [hc])<;>(try simp only [go_sem] at hc)))
  refine DW.loop (ι := { z : Nat × (Int × Nat) // z.1 ≤ s.h.toNat ∧ (0 ≤ z.2.1 ∧ z.2.1 ≤ 300) ∧ z.2.2 ≤ 20 * i + z.1 ∧ wetS u d tr s (s.h.toNat - z.1) z.2 = W }) (fun z => ⟨60, [(12, dI z.1.1), (11, dI i), (10, dI z.1.2.2), (9, dI z.1.2.1), (4, .box 4 0), (2, .c (.sl false 3 (rows eDs l))), (3, .c (.sl b 1 (rows eY tr)))], [(4, .box [dI u, dI d])]⟩) (fun z => s.h.toNat - z.1.1) ⟨(0, (m, h)), Nat.zero_le _, hmb, by dsimp only; omega, hW⟩ ?_ ?_
  ·refine Ent.to ?_ ?_ <;> simp (disch:=omega) only [qR,qS,qTw,qU,get,Nat.reduceEqDiff,↓reduceIte,qV,qW,qX,qY,qZ,and_self,dI,i64_in,and_true,true_and,rA,rB,rC,rD]
  rintro ⟨⟨j, m1, h1⟩, hj, hmb1, hhb1, hw1⟩
  dsimp only at hj hmb1 hhb1 hw1 ⊢
  rcases Nat.lt_or_ge j s.h.toNat with hjl | hjg
  ·have hdj : decide ((j : Int) < s.h) = true := decide_eq_true (by omega)
   have hby := arByte b tr (h1 + 1) (by omega) ht
   have hai := arIn s.lo s.hi (byteI tr (h1 + 1)) (dt_byteI ht _) ⟨r1, r2, by omega⟩
   have hrb := inI_b (y := byteI tr (h1 + 1)) (dt_byteI ht _) r2
   rw [show s.h.toNat - j = (s.h.toNat - (j + 1)) + 1 by omega, wetS] at hw1
   have hsb := stepW_b (m := m1) (r := inI s.lo s.hi (byteI tr (h1 + 1))) hr.1.1 hr.2.1 hmb1 ⟨by omega, by omega⟩
   obtain ⟨rm, hrm⟩ : ∃ rm, inI s.lo s.hi (byteI tr (h1 + 1)) = rm := ⟨_, rfl⟩
   have hw2 := hw1
   dsimp only at hw2
   rw [hrm] at hai hrb hsb hw2
   rw [show ((h1 + 1 : Nat) : Int) = (h1 : Int) + 1 from rfl] at hby
   by_cases hc : m1 < rm
   ·have hdc : decide (m1 < rm) = true := decide_eq_true hc
    have e1 : stepW u d m1 rm = min rm (m1 + u) := if_pos hc
    rw [e1] at hsb hw2
    repeat' (first|(with_reducible first|apply qA|apply qB|apply qC|apply qD|apply qE|apply qF)|(refine qL rfl (WF.of ?_) ?_; first|rfl|skip)|(simp (disch:=omega) only [go_sem, simprocAttr, qN, qO, qP, qQ, hd, hs, hdj, hdc, dm_min, rF, rG])|exact qM rfl rfl rfl|(refine qG rfl ?_)|(refine qK (hby) (by decide) ?_)|(refine qK (hai) (by decide) ?_)|(refine qH rfl ?_)|(refine qI rfl ?_ ?_<;>intro hc<;>(try simp only [go_sem] at hc))|(refine qJ ?_ ?_<;>intro hc<;>(try simp only [hc])<;>(try simp only [go_sem] at hc)))
    refine ⟨⟨(j + 1, (min rm (m1 + u), h1 + 1)), by dsimp only; omega, hsb, by dsimp only; omega, hw2⟩, ?_, Ent.to ?_ ?_⟩ <;> first | (show _ < _; (try simp only); omega) | (simp (disch:=omega) only [qR,qS,qTw,qU,get,Nat.reduceEqDiff,↓reduceIte,qV,qW,qX,qY,qZ,and_self,dI,i64_in,and_true,true_and,rA,rB,rC,rD])
   ·have hdc : decide (m1 < rm) = false := decide_eq_false hc
    have e1 : stepW u d m1 rm = max rm (m1 - d) := if_neg hc
    rw [e1] at hsb hw2
    repeat' (first|(with_reducible first|apply qA|apply qB|apply qC|apply qD|apply qE|apply qF)|(refine qL rfl (WF.of ?_) ?_; first|rfl|skip)|(simp (disch:=omega) only [go_sem, simprocAttr, qN, qO, qP, qQ, hd, hs, hdj, hdc, dm_max, rF, rG])|exact qM rfl rfl rfl|(refine qG rfl ?_)|(refine qK (hby) (by decide) ?_)|(refine qK (hai) (by decide) ?_)|(refine qH rfl ?_)|(refine qI rfl ?_ ?_<;>intro hc<;>(try simp only [go_sem] at hc))|(refine qJ ?_ ?_<;>intro hc<;>(try simp only [hc])<;>(try simp only [go_sem] at hc)))
    refine ⟨⟨(j + 1, (max rm (m1 - d), h1 + 1)), by dsimp only; omega, hsb, by dsimp only; omega, hw2⟩, ?_, Ent.to ?_ ?_⟩ <;> first | (show _ < _; (try simp only); omega) | (simp (disch:=omega) only [qR,qS,qTw,qU,get,Nat.reduceEqDiff,↓reduceIte,qV,qW,qX,qY,qZ,and_self,dI,i64_in,and_true,true_and,rA,rB,rC,rD])
  ·obtain rfl : j = s.h.toNat := by omega
   have hdj : decide (((s.h.toNat : Nat) : Int) < s.h) = false := decide_eq_false (by omega)
   have hw2 := hw1
   rw [Nat.sub_self, wetS] at hw2
   repeat' (first|(with_reducible first|apply qA|apply qB|apply qC|apply qD|apply qE|apply qF)|(refine qL rfl (WF.of ?_) ?_; first|rfl|skip)|(simp (disch:=omega) only [go_sem, simprocAttr, qN, qO, qP, qQ, hd, hs, hdj, rF, rG])|exact qM rfl rfl rfl|(refine qG rfl ?_)|(refine qH rfl ?_)|(refine qI rfl ?_ ?_<;>intro hc<;>(try simp only [go_sem] at hc))|(refine qJ ?_ ?_<;>intro hc<;>(try simp only [hc])<;>(try simp only [go_sem] at hc)))
   refine ⟨⟨(i + 1, (m1, h1)), hlt, hmb1, by dsimp only; omega, by rw [← hw, ← hw2]⟩, ?_, Ent.to ?_ ?_⟩ <;> first | (show _ < _; (try simp only); omega) | (simp (disch:=omega) only [qR,qS,qTw,qU,get,Nat.reduceEqDiff,↓reduceIte,qV,qW,qX,qY,qZ,and_self,dI,i64_in,and_true,true_and,rA,rB,rC,rD])
 ·have hw2 := hw
  rw [he, List.drop_length, wetL] at hw2
  repeat' (first|(with_reducible first|apply qA|apply qB|apply qC|apply qD|apply qE|apply qF)|(refine qL rfl (WF.of ?_) ?_; first|rfl|skip)|(simp (disch:=omega) only [go_sem, simprocAttr, qN, qO, qP, qQ, hd])|exact qM rfl rfl rfl|(refine qG rfl ?_)|(refine qH rfl ?_)|(refine qI rfl ?_ ?_<;>intro hc<;>(try simp only [go_sem] at hc))|(refine qJ ?_ ?_<;>intro hc<;>(try simp only [hc])<;>(try simp only [go_sem] at hc)))
  refine retS_of rfl ?_ rfl; simp only [oneD, St.op, get, Nat.reduceEqDiff, ↓reduceIte, Option.getD_some, bD, dI]
  exact congrArg (fun x : Int => dI x) hw2
end Go.Dw.Seat
end
section
set_option linter.unusedSimpArgs false
set_option maxRecDepth 100000
namespace Go.Dw.Seat
open Go Go.Dw Go.Proofs Go.IntWalk
def wetP (lo hi : Int) (p : Pap) : Pap := ⟨p.kind, p.weight, p.tl, p.th, lo, hi, p.price, p.strong⟩
def wetSto (lo hi : Int) (s : Sto) : Sto := ⟨s.papers.map (wetP lo hi), s.flutes⟩
theorem wetSto_ok {s : Sto} (hs : s.ok) {lo hi : Int} (h : 0 ≤ lo ∧ lo ≤ hi ∧ hi ≤ 200) : (wetSto lo hi s).ok := by
 refine ⟨by simpa [wetSto] using hs.np, hs.nf, fun p hp => ?_, hs.flutes⟩
 obtain ⟨q, hq, rfl⟩ := List.mem_map.1 hp
 have := hs.papers q hq
 exact ⟨this.kind, this.weight, this.thick, h, this.price, this.strong⟩
theorem wetMak_ok {s : Sto} {m : Mak} (hm : m.ok s) (lo hi : Int) : m.ok (wetSto lo hi s) := by
 refine ⟨hm.nf, hm.np, fun v hv => by simpa [wetSto] using hm.papers v hv, hm.flutes, fun i v p hi hp => ?_⟩
 simp only [wetSto, List.getElem?_map, Option.map_eq_some_iff] at hp
 obtain ⟨q, hq, rfl⟩ := hp
 exact hm.kind i v q hi hq
theorem wet_fluAt (s : Sto) (lo hi : Int) (n : Nat) : fluAt (wetSto lo hi s) n = fluAt s n := rfl
theorem wet_papAt {s : Sto} {n : Nat} (h : n < s.papers.length) (lo hi : Int) : papAt (wetSto lo hi s) n = wetP lo hi (papAt s n) := by
 have h1 := papAt_get h
 show (((s.papers.map (wetP lo hi))[n]?).getD _) = _
 rw [List.getElem?_map, h1]
 rfl
theorem wet_whole (s : Sto) (m : Mak) (lo hi : Int) : wholeI (wetSto lo hi s) m = wholeI s m := rfl
theorem wet_layers (s : Sto) (m : Mak) (lo hi : Int) : layersL (wetSto lo hi s) m = layersL s m := rfl
theorem wet_sumF (f g : Pap → Int) (s : Sto) (lo hi : Int) (hfg : ∀ p, f (wetP lo hi p) = g p) : ∀ (l : List (Nat × Int)) (n : Int), (∀ e ∈ l, e.1 < s.papers.length) → sumF f (wetSto lo hi s) n l = sumF g s n l
 | [], _, _ => rfl
 | e :: l, n, h => by
  have e1 : sumF f (wetSto lo hi s) n (e :: l) = sumF f (wetSto lo hi s) (n + f (papAt (wetSto lo hi s) e.1) * e.2) l := rfl
  have e2 : sumF g s n (e :: l) = sumF g s (n + g (papAt s e.1) * e.2) l := rfl
  rw [e1, e2, wet_papAt (h e (by simp)), hfg]
  exact wet_sumF f g s lo hi hfg l _ (fun x hx => h x (by simp [hx]))
theorem wet_sum (f g : Pap → Int) {s : Sto} {m : Mak} (hs : s.ok) (hm : m.ok s) (lo hi : Int) (hfg : ∀ p, f (wetP lo hi p) = g p) : sumI f (wetSto lo hi s) m = sumI g s m := by
 unfold sumI
 rw [wet_layers]
 exact wet_sumF f g s lo hi hfg _ 0 (fun e he => (layers_w hs hm e he).1)
theorem sumF_mul (f g : Pap → Int) (c : Int) (s : Sto) (hfg : ∀ p, f p = g p * c) : ∀ (l : List (Nat × Int)) (n n' : Int), n = n' * c → sumF f s n l = sumF g s n' l * c
 | [], _, _, h => h
 | e :: l, n, n', h => by
  have e1 : sumF f s n (e :: l) = sumF f s (n + f (papAt s e.1) * e.2) l := rfl
  have e2 : sumF g s n' (e :: l) = sumF g s (n' + g (papAt s e.1) * e.2) l := rfl
  rw [e1, e2]
  refine sumF_mul f g c s hfg l _ _ ?_
  rw [h, hfg, Int.add_mul, Int.mul_right_comm]
theorem sumF_mono (f g : Pap → Int) (s : Sto) (hfg : ∀ p ∈ s.papers, f p ≤ g p) : ∀ (l : List (Nat × Int)) (n n' : Int), (∀ e ∈ l, e.1 < s.papers.length ∧ 0 ≤ e.2) → n ≤ n' → sumF f s n l ≤ sumF g s n' l
 | [], _, _, _, h => h
 | e :: l, n, n', ho, h => by
  have e1 : sumF f s n (e :: l) = sumF f s (n + f (papAt s e.1) * e.2) l := rfl
  have e2 : sumF g s n' (e :: l) = sumF g s (n' + g (papAt s e.1) * e.2) l := rfl
  rw [e1, e2]
  have he := ho e (by simp)
  have := Int.mul_le_mul_of_nonneg_right (hfg _ (List.mem_of_getElem? (papAt_get he.1))) he.2
  exact sumF_mono f g s hfg l _ _ (fun x hx => ho x (by simp [hx])) (by omega)
theorem moist_one {s : Sto} {m : Mak} (hs : s.ok) (hm : m.ok s) (w : Int) (ef : Int → Int → Int) (he : ef w w = w) : moistI ef (wetSto w w s) m = (sumI Pap.weight s m * (1000 + w)).tdiv (1000 * wholeI s m) := by
 have h1 : sumI (moistF ef) (wetSto w w s) m = sumI (fun p => p.weight * (1000 + w)) s m := wet_sum (moistF ef) (fun p => p.weight * (1000 + w)) hs hm w w (fun p => by simp only [moistF, wetP, he])
 have h2 : sumI (fun p => p.weight * (1000 + w)) s m = sumI Pap.weight s m * (1000 + w) := sumF_mul _ _ _ s (fun p => rfl) _ _ _ (by simp)
 rw [moistI, h1, h2, wet_whole]
theorem moist_mono {s : Sto} {m : Mak} (hs : s.ok) (hm : m.ok s) {a b c : Int} (h : 0 ≤ a ∧ a ≤ b ∧ b ≤ c) (hc : c ≤ 200) : moistI loE (wetSto a c s) m ≤ moistI loE (wetSto b b s) m ∧ moistI hiE (wetSto b b s) m ≤ moistI hiE (wetSto a c s) m := by
 have hw := wholeI_b hs hm
 have hl : ∀ e ∈ layersL s m, e.1 < s.papers.length ∧ 0 ≤ e.2 := fun e he => ⟨(layers_w hs hm e he).1, (layers_w hs hm e he).2.1⟩
 have key : ∀ x y : Int, 0 ≤ x → x ≤ y → (0 ≤ sumI (fun p => p.weight * (1000 + x)) s m ∧ sumI (fun p => p.weight * (1000 + x)) s m ≤ sumI (fun p => p.weight * (1000 + y)) s m) := fun x y hx hxy => by
  refine ⟨?_, sumF_mono _ _ s (fun p hp => ?_) _ _ _ hl (Int.le_refl _)⟩
  ·exact (sum_quot hs hm (fun p => p.weight * (1000 + x)) (1000 * (1000 + x)) (Int.mul_nonneg (by decide) (by omega)) (fun p hp => by
    have := (hs.papers p hp).weight
    exact ⟨Int.mul_nonneg (by omega) (by omega), Int.mul_le_mul_of_nonneg_right this.2 (by omega)⟩)).1
  ·have := (hs.papers p hp).weight
   exact Int.mul_le_mul_of_nonneg_left (by omega) (by omega)
 have e1 : ∀ x y, sumI (moistF loE) (wetSto x y s) m = sumI (fun p => p.weight * (1000 + x)) s m := fun x y => wet_sum (moistF loE) _ hs hm x y (fun p => rfl)
 have e2 : ∀ x y, sumI (moistF hiE) (wetSto x y s) m = sumI (fun p => p.weight * (1000 + y)) s m := fun x y => wet_sum (moistF hiE) _ hs hm x y (fun p => rfl)
 have k1 := key a b h.1 h.2.1
 have k2 := key b c (by omega) h.2.2
 unfold moistI
 rw [e1, e1, e2, e2, wet_whole, wet_whole]
 rw [Int.tdiv_eq_ediv_of_nonneg k1.1, Int.tdiv_eq_ediv_of_nonneg k2.1, Int.tdiv_eq_ediv_of_nonneg (by omega)]
 exact ⟨Int.ediv_le_ediv (by omega) k1.2, Int.ediv_le_ediv (by omega) k2.2⟩
theorem wet_calP (ef : Int → Int → Int) {s : Sto} {m : Mak} (hm : m.ok s) (lo hi : Int) : ∀ i, i ≤ m.papers.length → calP ef (wetSto lo hi s) m i = calP ef s m i
 | 0, _ => rfl
 | i + 1, h => by
  obtain ⟨v, hv⟩ := getE (l := m.papers) (i := i) (by omega)
  rw [calP, calP, wet_calP ef hm lo hi i (by omega), hv, Option.getD_some, wet_papAt (hm.papers v (List.mem_of_getElem? hv))]
  rfl
theorem wet_calH (ef : Int → Int → Int) (s : Sto) (m : Mak) (lo hi : Int) : ∀ i, calH ef (wetSto lo hi s) m i = calH ef s m i
 | 0 => rfl
 | i + 1 => by rw [calH, calH, wet_calH ef s m lo hi i, wet_fluAt]
theorem wet_cal (ef : Int → Int → Int) {s : Sto} {m : Mak} (hm : m.ok s) (lo hi : Int) : calI ef (wetSto lo hi s) m = calI ef s m := by
 unfold calI
 rw [wet_calP ef hm lo hi _ (Nat.le_refl _), wet_calH]
theorem wet_strong {s : Sto} {m : Mak} (hs : s.ok) (hm : m.ok s) (lo hi : Int) : strongI (wetSto lo hi s) m = strongI s m := by
 unfold strongI
 rw [wet_sum Pap.strong Pap.strong hs hm lo hi (fun _ => rfl), wet_whole]
theorem wet_weight {s : Sto} {m : Mak} (hs : s.ok) (hm : m.ok s) (lo hi : Int) : sumI Pap.weight (wetSto lo hi s) m = sumI Pap.weight s m := wet_sum Pap.weight Pap.weight hs hm lo hi (fun _ => rfl)
theorem tow_le {u d f r h M : Int} (hu : 0 ≤ u * h) (hd : 0 ≤ d * h) (hf : f ≤ M) (hr : r ≤ M) : towI u d f r h ≤ M := by
 unfold towI
 split <;> omega
theorem lastK_le {u d : Int} (hr : (0 ≤ u ∧ u ≤ 50) ∧ 0 ≤ d ∧ d ≤ 50) (M : Int) : ∀ (l : List DSt), (∀ s ∈ l, s.ok ∧ s.hi ≤ M) → ∀ k : Int × Int, k.2 ≤ M → (lastK u d l k).2 ≤ M
 | [], _, _, h => h
 | s :: l, ho, k, h => by
  have hs := ho s (by simp)
  have hh := hs.1.h
  exact lastK_le hr M l (fun y hy => ho y (by simp [hy])) _ (tow_le (Int.mul_nonneg hr.1.1 hh.1) (Int.mul_nonneg hr.2.1 hh.1) h hs.2)
end Go.Dw.Seat
end
section
set_option linter.unusedSimpArgs false
set_option maxRecDepth 100000
namespace Go.Dw.Seat
open Go Go.Dw Go.Proofs Go.IntWalk
theorem bdRatio (n d : Nat) (hd : 0 < d) (hn : n ≤ 4000000000000000000) (hdd : d ≤ 4000000000000000000) : DCall Try.prog 48 [dI n, dI d] [] (.agg [dI ((n / Nat.gcd n d : Nat) : Int), dI ((d / Nat.gcd n d : Nat) : Int)]) [] := by
 have hg : 0 < Nat.gcd n d := Nat.gcd_pos_of_pos_right n hd
 obtain ⟨G, hG⟩ : ∃ G, Nat.gcd n d = G := ⟨_, rfl⟩
 rw [hG] at hg ⊢
 have hq1 : n / G ≤ n := Nat.div_le_self _ _
 have hq2 : d / G ≤ d := Nat.div_le_self _ _
 refine DCall.of Try.func48 sf48 hb48 (Nat.le_of_ble_eq_true rfl) (okRes_nil fun _ => rfl) ?_; simp only [s48, idxs, Nat.reduceAdd]
 repeat' (first|(with_reducible first|apply qA|apply qB|apply qC|apply qD|apply qE|apply qF)|(refine qL rfl (WF.of ?_) ?_; first|rfl|skip)|(simp (disch:=omega) only [go_sem, simprocAttr, Blk.men, Blk.keysIn])|exact qM rfl rfl rfl|(refine qG rfl ?_)|(refine qH rfl ?_)|(refine qI rfl ?_ ?_<;>intro hc<;>(try simp only [go_sem] at hc))|(refine qJ ?_ ?_<;>intro hc<;>(try simp only [hc])<;>(try simp only [go_sem] at hc)))
 refine DW.loop (ι := { y : Nat × Nat // Nat.gcd y.1 y.2 = G ∧ y.1 ≤ 4000000000000000000 ∧ y.2 ≤ 4000000000000000000 }) (fun y => ⟨24, [(6, dI y.1.2), (5, dI y.1.1), (4, .box 4 0), (0, dI n), (1, dI d)], [(4, .box [dI 0, dI 0])]⟩) (fun y => y.1.2) ⟨(n, d), hG, hn, hdd⟩ ?_ ?_
 ·refine Ent.to ?_ ?_ <;> simp (disch:=omega) only [qR,qS,qTw,qU,get,Nat.reduceEqDiff,↓reduceIte,qV,qW,qX,qY,qZ,and_self,dI,i64_in,and_true,true_and,rA,rB,rC,rD]
 rintro ⟨⟨a, b⟩, hab, ha, hb⟩
 dsimp only at hab ha hb ⊢
 rcases Nat.eq_zero_or_pos b with hz | hz
 ·subst hz
  have ha' : a = G := by rw [← hab]; simp
  subst ha'
  have hd0 : (((0 : Nat) : Int) != 0) = false := rfl
  have h0 : ((a : Int) = 0) = False := eq_false (by omega)
  have e1 := tdivN n a
  have e2 := tdivN d a
  have hw1 : IntKind.i64.wrap ((n / a : Nat) : Int) = ((n / a : Nat) : Int) := i64_in _ (by generalize n / a = q at *; omega)
  have hw2 : IntKind.i64.wrap ((d / a : Nat) : Int) = ((d / a : Nat) : Int) := i64_in _ (by generalize d / a = q at *; omega)
  repeat' (first|(with_reducible first|apply qA|apply qB|apply qC|apply qD|apply qE|apply qF)|(refine qL rfl (WF.of ?_) ?_; first|rfl|skip)|(simp (disch:=omega) only [go_sem, simprocAttr, Blk.men, Blk.keysIn, hd0, h0, e1, e2, hw1, hw2, rD])|exact qM rfl rfl rfl|(refine qG rfl ?_)|(refine qH rfl ?_)|(refine qI rfl ?_ ?_<;>intro hc<;>(try simp only [go_sem] at hc))|(refine qJ ?_ ?_<;>intro hc<;>(try simp only [hc])<;>(try simp only [go_sem] at hc)))
 ·have hd0 : ((b : Int) != 0) = true := by rw [bne_iff_ne]; omega
  have h0 : ((b : Int) = 0) = False := eq_false (by omega)
  have e1 := tmodN a b
  have hlt := Nat.mod_lt a hz
  have hg2 : Nat.gcd b (a % b) = G := by rw [← hab, Nat.gcd_comm a b, Nat.gcd_rec b a, Nat.gcd_comm]
  repeat' (first|(with_reducible first|apply qA|apply qB|apply qC|apply qD|apply qE|apply qF)|(refine qL rfl (WF.of ?_) ?_; first|rfl|skip)|(simp (disch:=omega) only [go_sem, simprocAttr, Blk.men, Blk.keysIn, hd0, h0, e1])|exact qM rfl rfl rfl|(refine qG rfl ?_)|(refine qH rfl ?_)|(refine qI rfl ?_ ?_<;>intro hc<;>(try simp only [go_sem] at hc))|(refine qJ ?_ ?_<;>intro hc<;>(try simp only [hc])<;>(try simp only [go_sem] at hc)))
  refine ⟨⟨(b, a % b), hg2, by dsimp only; omega, by dsimp only; omega⟩, ?_, Ent.to ?_ ?_⟩ <;> first | (show _ < _; (try simp only); omega) | (simp (disch:=omega) only [qR,qS,qTw,qU,get,Nat.reduceEqDiff,↓reduceIte,qV,qW,qX,qY,qZ,and_self,dI,i64_in,and_true,true_and,rA,rB,rC,rD])
def wNum (s : Sto) (m : Mak) : Nat := (sumI Pap.weight s m).toNat / Nat.gcd (sumI Pap.weight s m).toNat (wholeI s m).toNat
def wDen (s : Sto) (m : Mak) : Nat := (wholeI s m).toNat / Nat.gcd (sumI Pap.weight s m).toNat (wholeI s m).toNat
theorem bdWeigh (s : Sto) (m : Mak) (hs : s.ok) (h : m.ok s) : DCall Try.prog 18 [dSto s, dMak m] [] (.tup [.agg [dI (wNum s m), dI (wDen s m)], dI 0]) [] := by
 have h1 := bdNew s m hs h
 have h2 := bdSum s m hs h 50 [] rfl Pap.weight (weight_b hs) (fun p _ => bdWeight p)
 have hb := (sumI_b hs h Pap.weight (weight_b hs)).2
 have hw := wholeI_b hs h
 have h3 := bdRatio (sumI Pap.weight s m).toNat (wholeI s m).toNat (by omega) (by omega) (by omega)
 rw [Int.toNat_of_nonneg hb.1, Int.toNat_of_nonneg (by omega)] at h3
 refine DCall.of Try.func18 sf18 hb18 (Nat.le_of_ble_eq_true rfl) (okRes_nil fun _ => rfl) ?_; simp only [s18, idxs, Nat.reduceAdd]
 repeat' (first|(with_reducible first|apply qA|apply qB|apply qC|apply qD|apply qE|apply qF)|(refine qL rfl (WF.of ?_) ?_; first|rfl|skip)|(simp (disch:=omega) only [go_sem, simprocAttr, Blk.men, Blk.keysIn])|exact qM rfl rfl rfl|(refine qG rfl ?_)|(refine qK (h1) (by decide) ?_)|(refine qK (h2) (by decide) ?_)|(refine qK (h3) (by decide) ?_)|(refine qH rfl ?_)|(refine qI rfl ?_ ?_<;>intro hc<;>(try simp only [go_sem] at hc))|(refine qJ ?_ ?_<;>intro hc<;>(try simp only [hc])<;>(try simp only [go_sem] at hc)))
theorem moist_frac {s : Sto} {m : Mak} (hs : s.ok) (hm : m.ok s) (w : Int) (hw : 0 ≤ w) : (sumI Pap.weight s m * (1000 + w)).tdiv (1000 * wholeI s m) = ((wNum s m : Int) * (1000 + w)).tdiv (1000 * (wDen s m : Int)) := by
 have hb := (sumI_b hs hm Pap.weight (weight_b hs)).2
 have hW := wholeI_b hs hm
 obtain ⟨S, hS⟩ : ∃ S : Nat, sumI Pap.weight s m = S := ⟨(sumI Pap.weight s m).toNat, (Int.toNat_of_nonneg hb.1).symm⟩
 obtain ⟨W, hWW⟩ : ∃ W : Nat, wholeI s m = W := ⟨(wholeI s m).toNat, (Int.toNat_of_nonneg (by omega)).symm⟩
 unfold wNum wDen
 rw [hS, hWW, Int.toNat_natCast, Int.toNat_natCast]
 have hg : 0 < Nat.gcd S W := Nat.gcd_pos_of_pos_right S (by omega)
 have h1 : S = Nat.gcd S W * (S / Nat.gcd S W) := (Nat.mul_div_cancel' (Nat.gcd_dvd_left S W)).symm
 have h2 : W = Nat.gcd S W * (W / Nat.gcd S W) := (Nat.mul_div_cancel' (Nat.gcd_dvd_right S W)).symm
 generalize Nat.gcd S W = g at *
 generalize S / g = n at *
 generalize W / g = d at *
 subst h1
 subst h2
 have hn : 0 ≤ (n : Int) * (1000 + w) := Int.mul_nonneg (by omega) (by omega)
 rw [Int.tdiv_eq_ediv_of_nonneg (Int.mul_nonneg (by omega) (by omega)), Int.tdiv_eq_ediv_of_nonneg hn]
 have e1 : ((g * n : Nat) : Int) * (1000 + w) = (g : Int) * ((n : Int) * (1000 + w)) := by rw [Int.natCast_mul, Int.mul_assoc]
 have e2 : 1000 * ((g * d : Nat) : Int) = (g : Int) * (1000 * (d : Int)) := by rw [Int.natCast_mul, Int.mul_left_comm]
 rw [e1, e2, Int.mul_ediv_mul_of_pos _ _ (by omega)]
theorem wNum_b {s : Sto} {m : Mak} (hs : s.ok) (hm : m.ok s) (F : Int) (hF : 0 ≤ F) (hf : ∀ p ∈ s.papers, 0 ≤ p.weight ∧ p.weight ≤ F) : (wNum s m : Int) ≤ 10 * F * wholeI s m ∧ (1 ≤ (wDen s m : Int) ∧ (wDen s m : Int) ≤ wholeI s m) := by
 have hb := sum_quot hs hm Pap.weight F hF hf
 have hW := wholeI_b hs hm
 have h1 : wNum s m ≤ (sumI Pap.weight s m).toNat := Nat.div_le_self _ _
 have h2 : wDen s m ≤ (wholeI s m).toNat := Nat.div_le_self _ _
 have hg : 0 < Nat.gcd (sumI Pap.weight s m).toNat (wholeI s m).toNat := Nat.gcd_pos_of_pos_right _ (by omega)
 have h3 : 0 < wDen s m := Nat.div_pos (Nat.le_of_dvd (by omega) (Nat.gcd_dvd_right _ _)) hg
 omega
theorem wet_num {s : Sto} {m : Mak} (hs : s.ok) (hm : m.ok s) (lo hi : Int) : wNum (wetSto lo hi s) m = wNum s m ∧ wDen (wetSto lo hi s) m = wDen s m := by
 unfold wNum wDen
 rw [wet_weight hs hm, wet_whole]
 exact ⟨rfl, rfl⟩
end Go.Dw.Seat
end
section
set_option linter.unusedSimpArgs false
set_option maxRecDepth 100000
namespace Go.Dw.Seat
open Go Go.Dw Go.Proofs Go.IntWalk
theorem sw_mapc (i j : Nat) : ∀ l : List C, swDs i j (l.map D.c) = l.map D.c
 | [] => rfl
 | c :: l => by rw [List.map_cons, swDs, sw_mapc i j l]; rfl
theorem sw_rowC (i j : Nat) (es : List (List C)) : (rowC es).map (swDs i j) = rowC es := by
 simp only [rowC, List.map_map]
 exact List.map_congr_left (fun e _ => sw_mapc i j e)
theorem own1_ok (i : Nat) (s : Sto) : okRes (.agg [.own i, .c (.sl false 4 (rows eF s.flutes))]) [(i, .row 8 (rowC (rows eP s.papers)))] := by
 refine ⟨fun q hq => ?_, fun n x hi q hq => ?_⟩
 ·have h1 : q ≠ i := by rintro rfl; simp [get] at hq
  have h2 : i ≠ q := fun h => h1 h.symm
  simp only [D.men, D.mens, Bool.or_false, beq_eq_false_iff_ne, ne_eq]
  first | exact h1 | exact h2
 ·have := get_mem hi
  simp only [List.mem_cons, Prod.mk.injEq, List.not_mem_nil, or_false] at this
  obtain ⟨_, rfl⟩ := this
  exact rowC_men q 8 _
theorem arOwn3 (b : Bool) (s : Sto) (h1 : s.papers.length ≤ 1000) (h2 : s.flutes.length ≤ 1000) : DCall Try.prog 14 [.agg [.c (.sl b 8 (rows eP s.papers)), .c (.sl b 4 (rows eF s.flutes))]] [] (.agg [.own 3, .c (.sl false 4 (rows eF s.flutes))]) [(3, .row 8 (rowC (rows eP s.papers)))] := by
 refine DCall.of Try.func14 sf14 hb14 (Nat.le_of_ble_eq_true rfl) (own1_ok 3 s) ?_
 simp only [s14, o14_0, o14_1, o14_2, o14_3, o14_4, o14_5, o14_6, o14_7, o14_8, o14_9, idxs, Nat.reduceAdd]
 repeat' (first|(with_reducible first|apply qA|apply qB|apply qC|apply qD|apply qE|apply qF)|(refine DW.ord rfl (WF.of (by first|rfl|simp (disch:=omega) only [go_sem, simprocAttr, qN, qO, qP, qQ])) ?_ ?_ ?_; rotate_left)|rfl|(with_reducible refine And.intro ?_ ?_)|(simp (disch:=omega) only [go_sem, simprocAttr, qN, qO, qP, qQ])|exact qM rfl rfl rfl|(refine qG rfl ?_)|(refine qH rfl ?_)|(refine qI rfl ?_ ?_<;>intro hc<;>(try simp only [go_sem] at hc))|(refine qJ ?_ ?_<;>intro hc<;>(try simp only [hc])<;>(try simp only [go_sem] at hc)))
 (refine retS_ent (Ent.rel 7 rfl) ?_; simp (disch:=omega) only [go_sem,simprocAttr,qN,qO,qP,qQ])
 refine retS_bs rfl rfl (by simp only [D.nb, D.nbs, C.nb, C.nbs, rows_nb eF_nb, Bool.and_true, Bool.not_false, Bool.and_self]) (get_all (p := fun k x => get k _ = some x ∧ x.nb = true) ?_)
 intro q hq
 simp only [List.mem_cons, List.not_mem_nil, or_false] at hq
 subst hq
 exact ⟨rfl, rowC_nb (n := 8) (rows_nb eP_nb s.papers)⟩
theorem arOwnP (b : Bool) (s : Sto) (h1 : s.papers.length ≤ 1000) (h2 : s.flutes.length ≤ 1000) (k : Nat) : DCall Try.prog 14 [.agg [.c (.sl b 8 (rows eP s.papers)), .c (.sl b 4 (rows eF s.flutes))]] [] (.agg [.own k, .c (.sl false 4 (rows eF s.flutes))]) [(k, .row 8 (rowC (rows eP s.papers)))] := by
 have e1 : swD 3 k (.agg [.own 3, .c (.sl false 4 (rows eF s.flutes))]) = .agg [.own k, .c (.sl false 4 (rows eF s.flutes))] := by
  simp [swD, swDs, swk]
 have e2 : swX 3 k [(3, .row 8 (rowC (rows eP s.papers)))] = [(k, .row 8 (rowC (rows eP s.papers)))] := by
  simp [swX, swB, swk, sw_rowC]
 have h := arOwn3 b s h1 h2
 have := DCall.swap 3 k (by rw [e1, e2]; exact own1_ok k s) h
 rwa [e1, e2] at this
end Go.Dw.Seat
end
section
set_option linter.unusedSimpArgs false
set_option maxRecDepth 100000
namespace Go.Dw.Seat
open Go Go.Dw Go.Proofs Go.IntWalk
theorem dmLies (k s : Int × Int) : DCall Try.prog 90 [.agg [dI k.1, dI k.2], .agg [dI s.1, dI s.2]] [] (bD (decide (s.1 ≤ k.1) && decide (k.2 ≤ s.2))) [] := by
 refine DCall.of Try.func90 sf90 hb90 (Nat.le_of_ble_eq_true rfl) (okRes_nil fun _ => rfl) ?_; simp only [s90, idxs, Nat.reduceAdd]
 repeat' (first|(with_reducible first|apply qA|apply qB|apply qC|apply qD|apply qE|apply qF)|(simp (disch:=omega) only [go_sem, simprocAttr, qN, qO, qP, qQ])|exact qM rfl rfl rfl|(refine qG rfl ?_)|(refine qH rfl ?_)|(refine qI rfl ?_ ?_<;>intro hc<;>(try simp only [go_sem] at hc))|(refine qJ ?_ ?_<;>intro hc<;>(try simp only [hc])<;>(try simp only [go_sem] at hc)))
def hrsN (u d : Int) (k room lim : Int × Int) : Nat → Nat → Nat
 | 0, n => n
 | f + 1, n => if (lim.1 ≤ towI u d k.1 room.1 ((n : Int) + 1) ∧ towI u d k.2 room.2 ((n : Int) + 1) ≤ lim.2) then hrsN u d k room lim f (n + 1) else n
set_option maxHeartbeats 2000000 in
theorem dmHours (u d : Int) (hr : (0 ≤ u ∧ u ≤ 50) ∧ 0 ≤ d ∧ d ≤ 50) (k room lim : Int × Int) (hk : spM k) (hm : spM room) (hl : spM lim) (hin : lim.1 ≤ k.1 ∧ k.2 ≤ lim.2) :
  DCall Try.prog 52 [.agg [dI u, dI d], .agg [dI k.1, dI k.2], .agg [dI room.1, dI room.2], .agg [dI lim.1, dI lim.2]] [] (.tup [dI (hrsN u d k room lim 500 0), dI 0]) [] := by
 have h1 := dmRule u d hr
 have h2 := dmMoist true [k, room, lim] (by simp) (fun x hx => by
  simp only [List.mem_cons, List.not_mem_nil, or_false] at hx
  rcases hx with rfl | rfl | rfl
  ·exact hk
  ·exact hm
  ·exact hl)
 have h3 := dmLies k lim
 rw [decide_eq_true hin.1, decide_eq_true hin.2] at h3
 refine DCall.of Try.func52 sf52 hb52 (Nat.le_of_ble_eq_true rfl) (okRes_nil fun _ => rfl) ?_; simp only [s52, idxs, Nat.reduceAdd]
 repeat' (first|(with_reducible first|apply qA|apply qB|apply qC|apply qD|apply qE|apply qF)|(refine qL rfl (WF.of ?_) ?_; first|rfl|skip)|(simp (disch:=omega) only [go_sem, simprocAttr, qN, qO, qP, qQ])|exact qM rfl rfl rfl|(refine qG rfl ?_)|(refine qK (h1) (by decide) ?_)|(refine qK (h2) (by decide) ?_)|(refine qK (h3) (by decide) ?_)|(refine qH rfl ?_)|(refine qI rfl ?_ ?_<;>intro hc<;>(try simp only [go_sem] at hc))|(refine qJ ?_ ?_<;>intro hc<;>(try simp only [hc])<;>(try simp only [go_sem] at hc)))
 obtain ⟨R, hR⟩ : ∃ R, hrsN u d k room lim 500 0 = R := ⟨_, rfl⟩
 rw [hR]
 refine DW.loop (ι := { n : Nat // n ≤ 500 ∧ hrsN u d k room lim (500 - n) n = R }) (fun n => ⟨44, [(10, dI n.1), (7, .box 7 0), (6, .box 6 0), (5, .box 5 0), (4, .box 4 0)], [(7, .box [dI lim.1, dI lim.2]), (6, .box [dI room.1, dI room.2]), (5, .box [dI k.1, dI k.2]), (4, .box [dI u, dI d])]⟩) (fun n => 500 - n.1) ⟨0, by decide, hR⟩ ?_ ?_
 ·refine Ent.to ?_ ?_ <;> simp (disch:=omega) only [qR,qS,qTw,qU,get,Nat.reduceEqDiff,↓reduceIte,qV,qW,qX,qY,qZ,and_self,dI,i64_in,and_true,true_and,rA,rB,rC,rD]
  all_goals first | exact ⟨.refl _, .refl _, .refl _⟩ | exact ⟨.refl _, .refl _⟩ | exact .refl _
 rintro ⟨n, hn, hnr⟩
 dsimp only
 rcases Nat.lt_or_ge n 500 with hlt | hge
 ·have hd : decide ((n : Int) < 500) = true := decide_eq_true (by omega)
  have hh := dmHrs u d k ⟨room.1, room.2, (n : Int) + 1⟩ hr hk ⟨hm, by dsimp only; omega⟩
  rw [show 500 - n = (500 - (n + 1)) + 1 by omega, hrsN] at hnr
  obtain ⟨K, hK⟩ : ∃ K, hrsF u d k ⟨room.1, room.2, (n : Int) + 1⟩ = K := ⟨_, rfl⟩
  have ha : towI u d k.1 room.1 ((n : Int) + 1) = K.1 := by rw [← hK]; rfl
  have hb : towI u d k.2 room.2 ((n : Int) + 1) = K.2 := by rw [← hK]; rfl
  have hl2 := dmLies K lim
  have hnr2 := hnr
  rw [ha, hb] at hnr2
  rw [hK] at hh
  obtain ⟨a, b⟩ := K
  dsimp only at hl2 hnr2 hh
  by_cases hc : lim.1 ≤ a ∧ b ≤ lim.2
  ·rw [if_pos hc] at hnr2
   rw [decide_eq_true hc.1, decide_eq_true hc.2] at hl2
   repeat' (first|(with_reducible first|apply qA|apply qB|apply qC|apply qD|apply qE|apply qF)|(refine qL rfl (WF.of ?_) ?_; first|rfl|skip)|(simp (disch:=omega) only [go_sem, simprocAttr, qN, qO, qP, qQ, hd])|exact qM rfl rfl rfl|(refine qG rfl ?_)|(refine qK (hh) (by decide) ?_)|(refine qK (hl2) (by decide) ?_)|(refine qH rfl ?_)|(refine qI rfl ?_ ?_<;>intro hc<;>(try simp only [go_sem] at hc))|(refine qJ ?_ ?_<;>intro hc<;>(try simp only [hc])<;>(try simp only [go_sem] at hc)))
   refine ⟨⟨n + 1, hlt, hnr2⟩, ?_, Ent.to ?_ ?_⟩ <;> first | (show _ < _; (try simp only); omega) | (simp (disch:=omega) only [qR,qS,qTw,qU,get,Nat.reduceEqDiff,↓reduceIte,qV,qW,qX,qY,qZ,and_self,dI,i64_in,and_true,true_and,rA,rB,rC,rD])
  ·rw [if_neg hc] at hnr2
   have hf : (decide (lim.1 ≤ a) && decide (b ≤ lim.2)) = false := by
    rw [Bool.and_eq_false_iff, decide_eq_false_iff_not, decide_eq_false_iff_not]
    by_cases h : lim.1 ≤ a
    ·exact .inr (fun h' => hc ⟨h, h'⟩)
    ·exact .inl h
   rw [hf] at hl2
   repeat' (first|(with_reducible first|apply qA|apply qB|apply qC|apply qD|apply qE|apply qF)|(refine qL rfl (WF.of ?_) ?_; first|rfl|skip)|(simp (disch:=omega) only [go_sem, simprocAttr, qN, qO, qP, qQ, hd])|exact qM rfl rfl rfl|(refine qG rfl ?_)|(refine qK (hh) (by decide) ?_)|(refine qK (hl2) (by decide) ?_)|(refine qH rfl ?_)|(refine qI rfl ?_ ?_<;>intro hc<;>(try simp only [go_sem] at hc))|(refine qJ ?_ ?_<;>intro hc<;>(try simp only [hc])<;>(try simp only [go_sem] at hc)))
   all_goals (rw [← hnr2]; exact retS_of rfl rfl rfl)
 ·obtain rfl : n = 500 := by omega
  have hd : decide (((500 : Nat) : Int) < 500) = false := by decide
  have hnr2 := hnr
  rw [Nat.sub_self, hrsN] at hnr2
  repeat' (first|(with_reducible first|apply qA|apply qB|apply qC|apply qD|apply qE|apply qF)|(refine qL rfl (WF.of ?_) ?_; first|rfl|skip)|(simp (disch:=omega) only [go_sem, simprocAttr, qN, qO, qP, qQ, hd])|exact qM rfl rfl rfl|(refine qG rfl ?_)|(refine qH rfl ?_)|(refine qI rfl ?_ ?_<;>intro hc<;>(try simp only [go_sem] at hc))|(refine qJ ?_ ?_<;>intro hc<;>(try simp only [hc])<;>(try simp only [go_sem] at hc)))
  all_goals (rw [← hnr2]; exact retS_of rfl rfl rfl)
end Go.Dw.Seat
end
section
set_option linter.unusedSimpArgs false
set_option maxRecDepth 100000
namespace Go.Dw.Seat
open Go Go.Dw Go.Proofs Go.IntWalk
structure T3 where
 v0 : Nat
 v1 : Nat
 v2 : Nat
structure T3.ok (v : T3) : Prop where
 v0 : v.v0 < 256
 v1 : v.v1 < 256
 v2 : v.v2 < 256
def eT3 (v : T3) : List C := [.v (.int .u8 v.v0), .v (.int .u8 v.v1), .v (.int .u8 v.v2)]
theorem eT3_nb (v : T3) : C.nbs (eT3 v) = true := rfl
attribute [go_sem] eT3
structure TripY where
 r0 : Nat
 r1 : Nat
 s0 : Nat
 s1 : Nat
 l : List T3
structure TripY.ok (x : TripY) : Prop where
 r0 : x.r0 < 256
 r1 : x.r1 < 256
 s0 : x.s0 < 256
 s1 : x.s1 < 256
 m : x.l.length ≤ maxLen
 l : ∀ v ∈ x.l, v.ok
abbrev dTrip (b : Bool) (x : TripY) : D := .agg [d8 x.r0, d8 x.r1, d8 x.s0, d8 x.s1, .c (.sl b 3 (rows eT3 x.l))]
def stOf (v : T3) : DSt := ⟨((v.v0 % 150 : Nat) : Int), ((v.v0 % 150 : Nat) : Int) + ((v.v1 % 30 : Nat) : Int), ((v.v2 % 21 : Nat) : Int)⟩
theorem stOf_ok (v : T3) : (stOf v).ok ∧ (stOf v).h ≤ 20 := by
 have h1 : v.v0 % 150 < 150 := Nat.mod_lt _ (by decide)
 have h2 : v.v1 % 30 < 30 := Nat.mod_lt _ (by decide)
 have h3 : v.v2 % 21 < 21 := Nat.mod_lt _ (by decide)
 refine ⟨⟨⟨?_, ?_, ?_⟩, ?_⟩, ?_⟩ <;> simp only [stOf] <;> omega
def tripL (x : TripY) : List DSt := (x.l.take 5).map stOf
def tripU (x : TripY) : Int := ((x.r0 % 21 : Nat) : Int)
def tripD (x : TripY) : Int := ((x.r1 % 21 : Nat) : Int)
def tripK (x : TripY) : Int × Int := (((x.s0 % 100 : Nat) : Int), ((x.s0 % 100 : Nat) : Int) + ((x.s1 % 20 : Nat) : Int))
theorem trip_ok (x : TripY) : ((0 ≤ tripU x ∧ tripU x ≤ 50) ∧ 0 ≤ tripD x ∧ tripD x ≤ 50) ∧ spM (tripK x) ∧ (tripL x).length ≤ 5 ∧ ∀ s ∈ tripL x, s.ok ∧ s.h ≤ 20 := by
 have h1 : x.r0 % 21 < 21 := Nat.mod_lt _ (by decide)
 have h2 : x.r1 % 21 < 21 := Nat.mod_lt _ (by decide)
 have h3 : x.s0 % 100 < 100 := Nat.mod_lt _ (by decide)
 have h4 : x.s1 % 20 < 20 := Nat.mod_lt _ (by decide)
 refine ⟨by unfold tripU tripD; omega, by unfold tripK spM; dsimp only; omega, by unfold tripL; rw [List.length_map, List.length_take]; omega, fun s hs => ?_⟩
 obtain ⟨v, _, rfl⟩ := List.mem_map.1 hs
 exact stOf_ok v
theorem rowC_snocDs (l : List DSt) (x : DSt) : rowC (rows eDs l) ++ [[D.c (.v (.int .i64 x.lo)), D.c (.v (.int .i64 x.hi)), D.c (.v (.int .i64 x.h))]] = rowC (rows eDs (l ++ [x])) := by simp [rowC, rows, eDs]
theorem dt150 (m : Nat) : (m : Int).tmod 150 = ((m % 150 : Nat) : Int) := tmodN m 150
theorem dt30 (m : Nat) : (m : Int).tmod 30 = ((m % 30 : Nat) : Int) := tmodN m 30
theorem dt21 (m : Nat) : (m : Int).tmod 21 = ((m % 21 : Nat) : Int) := tmodN m 21
theorem dt20 (m : Nat) : (m : Int).tmod 20 = ((m % 20 : Nat) : Int) := tmodN m 20
theorem dt100 (m : Nat) : (m : Int).tmod 100 = ((m % 100 : Nat) : Int) := tmodN m 100
set_option maxHeartbeats 4000000 in
theorem dtTrip (b : Bool) (x : TripY) (hx : x.ok) : DCall Try.prog 9 [dTrip b x] [] (.tup [.agg [dI (tripU x), dI (tripD x)], .agg [dI (tripK x).1, dI (tripK x).2], .c (.sl false 3 (rows eDs (tripL x)))]) [] := by
 have hm : x.l.length ≤ 9223372036854775807 := hx.m
 have h3 : x.s0 % 100 < 100 := Nat.mod_lt _ (by decide)
 have h4 : x.s1 % 20 < 20 := Nat.mod_lt _ (by decide)
 have r0 := hx.r0
 have r1 := hx.r1
 have s0 := hx.s0
 have s1 := hx.s1
 have sp := dtSpan ((x.s0 % 100 : Nat) : Int) (((x.s0 % 100 : Nat) : Int) + ((x.s1 % 20 : Nat) : Int))
 obtain ⟨N, hN⟩ : ∃ N : Nat, N = min x.l.length 5 := ⟨_, rfl⟩
 refine DCall.of Try.func9 sf9 hb9 (Nat.le_of_ble_eq_true rfl) (okRes_nil fun _ => rfl) ?_; simp only [s9, o9_0, o9_1, o9_2, o9_3, o9_4, o9_5, o9_6, o9_7, o9_8, o9_9, o9_10, o9_11, o9_12, o9_13, o9_14, o9_15, o9_16, o9_17, o9_18, o9_19, o9_20, o9_21, o9_22, o9_23, idxs, Nat.reduceAdd]
 repeat' (first|(with_reducible first|apply qA|apply qB|apply qC|apply qD|apply qE|apply qF)|(refine qL rfl (WF.of ?_) ?_; first|rfl|skip)|(refine DW.ord rfl (WF.of (by first|rfl|simp (disch:=omega) only [go_sem, simprocAttr, qN, qO, qP, qQ])) ?_ ?_ ?_; rotate_left)|rfl|(with_reducible refine And.intro ?_ ?_)|(simp (disch:=omega) only [go_sem, simprocAttr, qN, qO, qP, qQ])|exact qM rfl rfl rfl|(refine qG rfl ?_)|(refine qH rfl ?_)|(refine qI rfl ?_ ?_<;>intro hc<;>(try simp only [go_sem] at hc))|(refine qJ ?_ ?_<;>intro hc<;>(try simp only [hc])<;>(try simp only [go_sem] at hc)))
 refine DW.loop (ι := { i : Nat // i ≤ N }) (fun i => ⟨74, [(6, dI i.1), (5, .own 9), (3, .box 3 0), (2, .box 2 0), (1, .box 1 0)], [(9, .row 3 (rowC (rows eDs ((x.l.take i.1).map stOf)))), (3, .box [dI 0, dI 0]), (2, .box [dI 0, dI 0]), (1, .box [d8 x.r0, d8 x.r1, d8 x.s0, d8 x.s1, .c (.sl b 3 (rows eT3 x.l))])]⟩) (fun i => N - i.1) ⟨0, Nat.zero_le _⟩ ?_ ?_
 ·refine Ent.to ?_ ?_ <;> simp (disch:=omega) only [qR,qS,qTw,qU,get,Nat.reduceEqDiff,↓reduceIte,qV,qW,qX,qY,qZ,and_self,dI,i64_in,and_true,true_and,rA,rB,rC,rD,List.take_zero,rG]
  all_goals first | exact ⟨.refl _, .refl _, .refl _, .refl _⟩ | exact ⟨.refl _, .refl _, .refl _⟩ | exact ⟨.refl _, .refl _⟩ | exact .refl _
 rintro ⟨i, hi⟩
 dsimp only
 rcases Nat.lt_or_ge i N with hlt | hge
 ·obtain ⟨v, hv⟩ := getE (l := x.l) (i := i) (by omega)
  have hd1 : decide ((i : Int) < (x.l.length : Int)) = true := decide_eq_true (by omega)
  have hd2 : decide ((i : Int) < 5) = true := decide_eq_true (by omega)
  have hvo := hx.l v (List.mem_of_getElem? hv)
  have k1 := hvo.v0
  have k2 := hvo.v1
  have k3 := hvo.v2
  have q1 : v.v0 % 150 < 150 := Nat.mod_lt _ (by decide)
  have q2 : v.v1 % 30 < 30 := Nat.mod_lt _ (by decide)
  have q3 : v.v2 % 21 < 21 := Nat.mod_lt _ (by decide)
  have sp2 := dtSpan ((v.v0 % 150 : Nat) : Int) (((v.v0 % 150 : Nat) : Int) + ((v.v1 % 30 : Nat) : Int))
  have htk : (x.l.take (i + 1)).map stOf = (x.l.take i).map stOf ++ [stOf v] := by rw [List.take_add_one, hv, Option.toList_some, List.map_append, List.map_cons, List.map_nil]
  have hlen : ((x.l.take i).map stOf).length ≤ 5 := by rw [List.length_map, List.length_take]; omega
  have hsn := rowC_snocDs ((x.l.take i).map stOf) (stOf v)
  rw [← htk] at hsn
  generalize (x.l.take i).map stOf = A at *
  generalize hA1 : (x.l.take (i + 1)).map stOf = A1 at *
  simp only [stOf] at hsn
  repeat' (first|(with_reducible first|apply qA|apply qB|apply qC|apply qD|apply qE|apply qF)|(refine qL rfl (WF.of ?_) ?_; first|rfl|skip)|(refine DW.ord rfl (WF.of (by first|rfl|simp (disch:=omega) only [go_sem, simprocAttr, qN, qO, qP, qQ, hd1, hd2, hv, hsn, dt150, dt30, dt21, rF, rG])) ?_ ?_ ?_; rotate_left)|rfl|(with_reducible refine And.intro ?_ ?_)|(simp (disch:=omega) only [go_sem, simprocAttr, qN, qO, qP, qQ, hd1, hd2, hv, hsn, dt150, dt30, dt21, rF, rG])|exact qM rfl rfl rfl|(refine qG rfl ?_)|(refine qK (sp2) (by decide) ?_)|(refine qH rfl ?_)|(refine qI rfl ?_ ?_<;>intro hc<;>(try simp only [go_sem] at hc))|(refine qJ ?_ ?_<;>intro hc<;>(try simp only [hc])<;>(try simp only [go_sem] at hc)))
  refine ⟨⟨i + 1, hlt⟩, ?_, Ent.to ?_ ?_⟩ <;> first | (show _ < _; (try simp only); omega) | (simp (disch:=omega) only [qR,qS,qTw,qU,get,Nat.reduceEqDiff,↓reduceIte,qV,qW,qX,qY,qZ,and_self,dI,i64_in,and_true,true_and,rA,rB,rC,rD, hsn,hA1])
  all_goals first | exact ⟨.refl _, .refl _, .refl _, .refl _⟩ | exact ⟨.refl _, .refl _, .refl _⟩ | exact ⟨.refl _, .refl _⟩ | exact .refl _
 ·obtain rfl : i = N := by omega
  have hT : (x.l.take i).map stOf = tripL x := by
   unfold tripL
   rcases Nat.lt_or_ge x.l.length 5 with h | h
   ·rw [List.take_of_length_le (by omega), List.take_of_length_le (by omega)]
   ·rw [show i = 5 by omega]
  have hd : (decide ((i : Int) < (x.l.length : Int)) = false) ∨ (decide ((i : Int) < (x.l.length : Int)) = true ∧ decide ((i : Int) < 5) = false) := by
   rcases Nat.lt_or_ge i x.l.length with h | h
   ·exact .inr ⟨decide_eq_true (by omega), decide_eq_false (by omega)⟩
   ·exact .inl (decide_eq_false (by omega))
  rw [hT]
  generalize tripL x = L at *
  rcases hd with hd | ⟨hd, hd2⟩
  ·repeat' (first|(with_reducible first|apply qA|apply qB|apply qC|apply qD|apply qE|apply qF)|(refine qL rfl (WF.of ?_) ?_; first|rfl|skip)|(refine DW.ord rfl (WF.of (by first|rfl|simp (disch:=omega) only [go_sem, simprocAttr, qN, qO, qP, qQ, hd, dt100, dt20, dt21])) ?_ ?_ ?_; rotate_left)|rfl|(with_reducible refine And.intro ?_ ?_)|(simp (disch:=omega) only [go_sem, simprocAttr, qN, qO, qP, qQ, hd, dt100, dt20, dt21])|exact qM rfl rfl rfl|(refine qG rfl ?_)|(refine qK (sp) (by decide) ?_)|(refine qH rfl ?_)|(refine qI rfl ?_ ?_<;>intro hc<;>(try simp only [go_sem] at hc))|(refine qJ ?_ ?_<;>intro hc<;>(try simp only [hc])<;>(try simp only [go_sem] at hc)))
   (refine retS_ent (Ent.rel 9 rfl) ?_; simp (disch:=omega) only [go_sem,simprocAttr,qN,qO,qP,qQ])
   refine retS_wk rfl ?_ (by simp only [Blk.nb, rowC_nb, D.nb, D.nbs, C.nb, C.nbs, C.nbss, rows_nb eI_nb, Bool.and_true, Bool.not_false, Bool.and_self, bD, dI, iD, rows_nb eSp_nb, rows_nb eDs_nb, rows_nb eT3_nb]); exact .tup (.cons (.refl _) (.cons (.refl _) (.cons (.refl _) .nil)))
  ·repeat' (first|(with_reducible first|apply qA|apply qB|apply qC|apply qD|apply qE|apply qF)|(refine qL rfl (WF.of ?_) ?_; first|rfl|skip)|(refine DW.ord rfl (WF.of (by first|rfl|simp (disch:=omega) only [go_sem, simprocAttr, qN, qO, qP, qQ, hd, hd2, dt100, dt20, dt21])) ?_ ?_ ?_; rotate_left)|rfl|(with_reducible refine And.intro ?_ ?_)|(simp (disch:=omega) only [go_sem, simprocAttr, qN, qO, qP, qQ, hd, hd2, dt100, dt20, dt21])|exact qM rfl rfl rfl|(refine qG rfl ?_)|(refine qK (sp) (by decide) ?_)|(refine qH rfl ?_)|(refine qI rfl ?_ ?_<;>intro hc<;>(try simp only [go_sem] at hc))|(refine qJ ?_ ?_<;>intro hc<;>(try simp only [hc])<;>(try simp only [go_sem] at hc)))
   (refine retS_ent (Ent.rel 9 rfl) ?_; simp (disch:=omega) only [go_sem,simprocAttr,qN,qO,qP,qQ])
   refine retS_wk rfl ?_ (by simp only [Blk.nb, rowC_nb, D.nb, D.nbs, C.nb, C.nbs, C.nbss, rows_nb eI_nb, Bool.and_true, Bool.not_false, Bool.and_self, bD, dI, iD, rows_nb eSp_nb, rows_nb eDs_nb, rows_nb eT3_nb]); exact .tup (.cons (.refl _) (.cons (.refl _) (.cons (.refl _) .nil)))
theorem kdA : aftS 10 4 (60, 70) [⟨90, 100, 2⟩, ⟨50, 60, 5⟩] = [(80, 90), (60, 70)] := by decide
theorem kdH : hrsN 10 4 (60, 70) (90, 100) (50, 85) 500 0 = 1 := by decide +kernel
theorem dtDamp : DCall Try.prog 21 [] [] (bD true) [] := by
 have hst : ∀ s ∈ ([⟨90, 100, 2⟩, ⟨50, 60, 5⟩] : List DSt), s.ok := fun s hs => by
  simp only [List.mem_cons, List.not_mem_nil, or_false] at hs
  rcases hs with rfl | rfl
  ·exact ⟨⟨by decide, by decide, by decide⟩, by decide⟩
  ·exact ⟨⟨by decide, by decide, by decide⟩, by decide⟩
 have ha := dmAfter 10 4 (by decide) (60, 70) ⟨by decide, by decide, by decide⟩ [⟨90, 100, 2⟩, ⟨50, 60, 5⟩] (by decide) hst
 rw [kdA] at ha
 have hh := dmHours 10 4 (by decide) (60, 70) (90, 100) (50, 85) ⟨by decide, by decide, by decide⟩ ⟨by decide, by decide, by decide⟩ ⟨by decide, by decide, by decide⟩ (by decide)
 rw [kdH] at hh
 have p1 := dtSpan 60 70
 have p2 := dtSpan 90 100
 have p3 := dtSpan 50 60
 have p4 := dtSpan 50 85
 have p5 := dtSpan 80 90
 refine DCall.of Try.func21 sf21 hb21 (Nat.le_of_ble_eq_true rfl) (okRes_nil fun _ => rfl) ?_; simp only [s21, idxs, Nat.reduceAdd]
 repeat' (first|(with_reducible first|apply qA|apply qB|apply qC|apply qD|apply qE|apply qF)|(refine qL rfl (WF.of ?_) ?_; first|rfl|skip)|(simp (disch:=omega) only [go_sem, simprocAttr, qN, qO, qP, qQ])|exact qM rfl rfl rfl|(refine qG rfl ?_)|(refine qK (p1) (by decide) ?_)|(refine qK (p2) (by decide) ?_)|(refine qK (p3) (by decide) ?_)|(refine qK (p4) (by decide) ?_)|(refine qK (p5) (by decide) ?_)|(refine qH rfl ?_)|(refine qI rfl ?_ ?_<;>intro hc<;>(try simp only [go_sem] at hc))|(refine qJ ?_ ?_<;>intro hc<;>(try simp only [hc])<;>(try simp only [go_sem] at hc)))
 refine call_e (Ent.rel 12 rfl) ha rfl rfl (by decide) ?_
 simp (disch:=omega) only [go_sem,simprocAttr,qN,qO,qP,qQ]
 repeat' (first|(with_reducible first|apply qA|apply qB|apply qC|apply qD|apply qE|apply qF)|(refine qL rfl (WF.of ?_) ?_; first|rfl|skip)|(simp (disch:=omega) only [go_sem, simprocAttr, qN, qO, qP, qQ])|exact qM rfl rfl rfl|(refine qG rfl ?_)|(refine qK (p1) (by decide) ?_)|(refine qK (p2) (by decide) ?_)|(refine qK (p3) (by decide) ?_)|(refine qK (p4) (by decide) ?_)|(refine qK (p5) (by decide) ?_)|(refine qK (hh) (by decide) ?_)|(refine qH rfl ?_)|(refine qI rfl ?_ ?_<;>intro hc<;>(try simp only [go_sem] at hc))|(refine qJ ?_ ?_<;>intro hc<;>(try simp only [hc])<;>(try simp only [go_sem] at hc)))
end Go.Dw.Seat
end
section
set_option linter.unusedSimpArgs false
set_option maxRecDepth 100000
namespace Go.Dw.Seat
open Go Go.Dw Go.Proofs Go.IntWalk
theorem trip_hi (y : TripY) : (tripK y).2 ≤ 200 ∧ ∀ s ∈ tripL y, s.ok ∧ s.hi ≤ 200 := by
 have h3 : y.s0 % 100 < 100 := Nat.mod_lt _ (by decide)
 have h4 : y.s1 % 20 < 20 := Nat.mod_lt _ (by decide)
 refine ⟨by unfold tripK; dsimp only; omega, fun s hs => ?_⟩
 obtain ⟨v, _, rfl⟩ := List.mem_map.1 hs
 have h1 : v.v0 % 150 < 150 := Nat.mod_lt _ (by decide)
 have h2 : v.v1 % 30 < 30 := Nat.mod_lt _ (by decide)
 exact ⟨(stOf_ok v).1, by simp only [stOf]; omega⟩
def wetTo (lo hi : Int) (l : List Pap) (i : Nat) : List Pap := (l.take i).map (wetP lo hi) ++ l.drop i
theorem wetTo_len (lo hi : Int) (l : List Pap) (i : Nat) : (wetTo lo hi l i).length = l.length := by
 unfold wetTo
 rw [List.length_append, List.length_map, ← List.length_append, List.take_append_drop]
theorem wetTo_get {lo hi : Int} {l : List Pap} {i : Nat} {p : Pap} (h : l[i]? = some p) : (wetTo lo hi l i)[i]? = some p := by
 have hlt := (List.getElem?_eq_some_iff.1 h).1
 unfold wetTo
 rw [List.getElem?_append_right (by rw [List.length_map, List.length_take]; omega), List.length_map, List.length_take, Nat.min_eq_left (by omega), Nat.sub_self, List.getElem?_drop, Nat.add_zero, h]
theorem wetTo_set {lo hi : Int} {l : List Pap} {i : Nat} {p : Pap} (h : l[i]? = some p) : (wetTo lo hi l i).set i (wetP lo hi p) = wetTo lo hi l (i + 1) := by
 have hlt := (List.getElem?_eq_some_iff.1 h).1
 unfold wetTo
 rw [dm_drop h, List.take_add_one, h, Option.toList_some, List.map_append, List.map_cons, List.map_nil, List.set_append_right _ _ (by rw [List.length_map, List.length_take]; omega), List.length_map, List.length_take, Nat.min_eq_left (by omega), Nat.sub_self, List.set_cons_zero, List.append_assoc, List.singleton_append]
theorem wetTo_all (lo hi : Int) (l : List Pap) : wetTo lo hi l l.length = l.map (wetP lo hi) := by
 unfold wetTo
 rw [List.take_length, List.drop_length, List.append_nil]
theorem rowC_setP (l : List Pap) (i : Nat) (p : Pap) : List.set (rowC (rows eP l)) i [D.c (.v (.int .i64 p.kind)), D.c (.v (.int .i64 p.weight)), D.c (.v (.int .i64 p.tl)), D.c (.v (.int .i64 p.th)), D.c (.v (.int .i64 p.ml)), D.c (.v (.int .i64 p.mh)), D.c (.v (.int .i64 p.price)), D.c (.v (.int .i64 p.strong))] = rowC (rows eP (List.set l i p)) := by simp [rowC, rows, List.map_set, eP]
set_option maxHeartbeats 16000000 in
theorem tpDampWeight (b bt : Bool) (x : War) (hx : x.ok) (y : TripY) (hy : y.ok) (tr : List Nat) (htr : ∀ v ∈ tr, v < 256) :
  DCall Try.prog 3 [dWar b x, dTrip false y, .c (.sl bt 1 (rows eY tr))] [] (bD true) [] := by
 have hdm := dtDamp
 have hbo := arBoard
 have hS := arStore b x hx
 have hM := arMake b x hx
 have hs := wSto_ok hx
 have hm := wMak_ok x
 generalize wSto x = s at *
 generalize wMak x = m at *
 obtain ⟨hr, hK, hl5, hlo⟩ := trip_ok y
 have hhi := trip_hi y
 have hho : ∀ s ∈ tripL y, s.ok := fun s h => (hlo s h).1
 have c1 := dtTrip false y hy
 have c2 := dtStays false (tripL y) (by omega)
 have c3 := dmAfter (tripU y) (tripD y) hr (tripK y) hK (tripL y) (by omega) hho
 have c4 := dtWet bt (tripU y) (tripD y) hr (tripK y) hK (tripL y) hl5 hlo tr htr
 have hin := inI_b (lo := (tripK y).1) (hi := (tripK y).2) (y := byteI tr 0) (dt_byteI htr 0) hK.2.1
 have hwi := wetL_in hr htr (tripL y) hho (tripK y) (inI (tripK y).1 (tripK y).2 (byteI tr 0), 0) hK hin
 have hlk := lastK_ok hr (tripL y) hho (tripK y) hK
 have hll := lastK_le hr 200 (tripL y) hhi.2 (tripK y) hhi.1
 have hal := aftS_last (tripU y) (tripD y) (tripL y) (tripK y)
 have hsl := aftS_len (tripU y) (tripD y) (tripL y) (tripK y)
 generalize (wetL (tripU y) (tripD y) tr (tripL y) (inI (tripK y).1 (tripK y).2 (byteI tr 0), 0)).1 = w at *
 generalize lastK (tripU y) (tripD y) (tripL y) (tripK y) = K at *
 generalize aftS (tripU y) (tripD y) (tripK y) (tripL y) = A at *
 generalize tripU y = u at *
 generalize tripD y = d at *
 generalize tripK y = k at *
 generalize tripL y = L at *
 have l0 : ((A.length : Int) != (L.length : Int)) = false := by rw [hsl]; simp
 obtain ⟨K1, K2⟩ := K
 obtain ⟨z1, z2, z3⟩ := hlk
 dsimp only at z1 z2 z3 hwi hll
 have g1 : decide (K1 < 0) = false := decide_eq_false (by omega)
 have g2 : decide (200 < K2) = false := decide_eq_false (by omega)
 have w1 := dtWithin w K1 K2
 rw [decide_eq_true hwi.1, decide_eq_true hwi.2] at w1
 have p1 := dtSpan w w
 have hnp := hs.np
 have hnf := hs.nf
 have o1 := arOwnP false s (by omega) (by omega) 93
 have o2 := arOwnP false s (by omega) (by omega) 95
 have hs1 : (wetSto K1 K2 s).ok := wetSto_ok hs (by omega)
 have hs2 : (wetSto w w s).ok := wetSto_ok hs (by omega)
 have hm1 := wetMak_ok hm K1 K2
 have hm2 := wetMak_ok hm w w
 have aM := arMade m (by have := hm.np; have := hm.nf; omega) (by have := hm.nf; omega)
 have a0 := arOwn s (by omega) (by omega)
 have a1 : DCall Try.prog 14 [.agg [.c (.sl false 8 (rows eP (wetSto K1 K2 s).papers)), .c (.sl false 4 (rows eF s.flutes))]] [] (.agg [.c (.sl false 8 (rows eP (wetSto K1 K2 s).papers)), .c (.sl false 4 (rows eF s.flutes))]) [] := arOwn (wetSto K1 K2 s) (by rw [show (wetSto K1 K2 s).papers.length = s.papers.length from List.length_map ..]; omega) (by show s.flutes.length ≤ 1000; omega)
 have e1 := moist_one hs hm w loE rfl
 have e2 := moist_one hs hm w hiE rfl
 have e3 := moist_mono hs hm (a := K1) (b := w) (c := K2) (by omega) (by omega)
 have e4 := moist_frac hs hm w (by omega)
 have hwb := wNum_b hs hm 1000 (by decide) (fun p hp => by have := (hs.papers p hp).weight; omega)
 have hwI := wholeI_b hs hm
 have M1 : DCall Try.prog 16 [.agg [.c (.sl false 8 (rows eP (wetSto K1 K2 s).papers)), .c (.sl false 4 (rows eF s.flutes))], dMak m] [] _ [] := bdMeasure (wetSto K1 K2 s) m hs1 hm1
 have M2 : DCall Try.prog 16 [.agg [.c (.sl false 8 (rows eP (wetSto w w s).papers)), .c (.sl false 4 (rows eF s.flutes))], dMak m] [] _ [] := bdMeasure (wetSto w w s) m hs2 hm2
 have M3 := bdMeasure s m hs hm
 have G1 := bdWeigh s m hs hm
 have G2 : DCall Try.prog 18 [.agg [.c (.sl false 8 (rows eP (wetSto K1 K2 s).papers)), .c (.sl false 4 (rows eF s.flutes))], dMak m] [] _ [] := bdWeigh (wetSto K1 K2 s) m hs1 hm1
 have T1 := bdStrength s m hs hm
 have T2 : DCall Try.prog 19 [.agg [.c (.sl false 8 (rows eP (wetSto K1 K2 s).papers)), .c (.sl false 4 (rows eF s.flutes))], dMak m] [] _ [] := bdStrength (wetSto K1 K2 s) m hs1 hm1
 rw [wet_cal _ hm, wet_cal _ hm] at M1 M2
 rw [(wet_num hs hm K1 K2).1, (wet_num hs hm K1 K2).2] at G2
 rw [wet_strong hs hm] at T2
 rw [e1] at e3
 rw [e2] at e3
 rw [e1, e2] at M2
 rw [e4] at M2 e3
 generalize calI loE s m = C1 at *
 generalize calI hiE s m = C2 at *
 generalize strongI s m = R at *
 generalize moistI loE (wetSto K1 K2 s) m = V1 at *
 generalize moistI hiE (wetSto K1 K2 s) m = V2 at *
 clear e1 e2 e4
 generalize wNum s m = n at *
 generalize wDen s m = q at *
 have w2 := dtWithin (((n : Int) * (1000 + w)).tdiv (1000 * (q : Int))) V1 V2
 rw [decide_eq_true e3.1, decide_eq_true e3.2] at w2
 have k1 : decide ((q : Int) < 1) = false := decide_eq_false (by omega)
 have k2 : decide (268435456 < (q : Int)) = false := decide_eq_false (by omega)
 have k3 : decide ((n : Int) < 0) = false := decide_eq_false (by omega)
 have k4 : decide (1099511627776 < (n : Int)) = false := decide_eq_false (by omega)
 have k5 : (n : Int) * (1000 + w) ≤ 1000000000000 * 1200 := Int.mul_le_mul (by omega) (by omega) (by omega) (by omega)
 have k6 : 0 ≤ (n : Int) * (1000 + w) := Int.mul_nonneg (by omega) (by omega)
 have k7 : (1000 * (q : Int) = 0) = False := eq_false (by omega)
 have hT := tdiv_b (b := 1000 * (q : Int)) ⟨k6, k5⟩ (by omega)
 clear e3
 rcases hal with ⟨hA, hkk⟩ | ⟨A', hA⟩
 ·subst hA
  subst hkk
  have l0' : ((0 : Int) != (L.length : Int)) = false := by rw [← hsl]; rfl
  refine DCall.of Try.func3 sf3 hb3 (Nat.le_of_ble_eq_true rfl) (okRes_nil fun _ => rfl) ?_; simp only [s3, o3_0, o3_1, o3_2, o3_3, o3_4, o3_5, o3_6, o3_7, o3_8, o3_9, o3_10, o3_11, o3_12, o3_13, o3_14, o3_15, o3_16, o3_17, o3_18, o3_19, o3_20, o3_21, o3_22, o3_23, o3_24, o3_25, o3_26, o3_27, o3_28, o3_29, o3_30, o3_31, o3_32, o3_33, o3_34, o3_35, o3_36, o3_37, o3_38, o3_39, o3_40, o3_41, o3_42, o3_43, o3_44, o3_45, o3_46, o3_47, o3_48, o3_49, o3_50, o3_51, o3_52, o3_53, o3_54, o3_55, o3_56, o3_57, o3_58, o3_59, o3_60, o3_61, o3_62, o3_63, o3_64, o3_65, o3_66, o3_67, o3_68, o3_69, o3_70, o3_71, o3_72, o3_73, o3_74, o3_75, o3_76, o3_77, o3_78, idxs, Nat.reduceAdd]
  repeat' (first|(with_reducible first|apply qA|apply qB|apply qC|apply qD|apply qE|apply qF)|(refine qL rfl (WF.of ?_) ?_; first|rfl|skip)|(refine DW.ord rfl (WF.of (by first|rfl|simp (disch:=omega) only [go_sem, simprocAttr, qN, qO, qP, qQ, l0', g1, g2, List.length_nil, rD, Bool.and_self])) ?_ ?_ ?_; rotate_left)|rfl|(with_reducible refine And.intro ?_ ?_)|(simp (disch:=omega) only [go_sem, simprocAttr, qN, qO, qP, qQ, l0', g1, g2, List.length_nil, rD, Bool.and_self])|exact qM rfl rfl rfl|(refine qG rfl ?_)|(refine qK (hS) (by decide) ?_)|(refine qK (hM) (by decide) ?_)|(refine qK (c1) (by decide) ?_)|(refine qK (c2) (by decide) ?_)|(refine qK (c3) (by decide) ?_)|(refine qK (c4) (by decide) ?_)|(refine qK (w1) (by decide) ?_)|(refine qH rfl ?_)|(refine qI rfl ?_ ?_<;>intro hc<;>(try simp only [go_sem] at hc))|(refine qJ ?_ ?_<;>intro hc<;>(try simp only [hc])<;>(try simp only [go_sem] at hc)))
  (refine call_r (o1) (by decide) (by first | rfl | simp (disch:=omega) only [go_sem,simprocAttr,qN,qO,qP,qQ]) (by first | rfl | simp (disch:=omega) only [go_sem,simprocAttr,qN,qO,qP,qQ]) ?_; simp (disch:=omega) only [go_sem,simprocAttr,qN,qO,qP,qQ])
  repeat' (first|(with_reducible first|apply qA|apply qB|apply qC|apply qD|apply qE|apply qF)|(refine qL rfl (WF.of ?_) ?_; first|rfl|skip)|(refine DW.ord rfl (WF.of (by first|rfl|simp (disch:=omega) only [go_sem, simprocAttr, qN, qO, qP, qQ])) ?_ ?_ ?_; rotate_left)|rfl|(with_reducible refine And.intro ?_ ?_)|(simp (disch:=omega) only [go_sem, simprocAttr, qN, qO, qP, qQ])|exact qM rfl rfl rfl|(refine qG rfl ?_)|(refine qH rfl ?_)|(refine qI rfl ?_ ?_<;>intro hc<;>(try simp only [go_sem] at hc))|(refine qJ ?_ ?_<;>intro hc<;>(try simp only [hc])<;>(try simp only [go_sem] at hc)))
  (refine call_r (o2) (by decide) (by first | rfl | simp (disch:=omega) only [go_sem,simprocAttr,qN,qO,qP,qQ]) (by first | rfl | simp (disch:=omega) only [go_sem,simprocAttr,qN,qO,qP,qQ]) ?_; simp (disch:=omega) only [go_sem,simprocAttr,qN,qO,qP,qQ])
  repeat' (first|(with_reducible first|apply qA|apply qB|apply qC|apply qD|apply qE|apply qF)|(refine qL rfl (WF.of ?_) ?_; first|rfl|skip)|(refine DW.ord rfl (WF.of (by first|rfl|simp (disch:=omega) only [go_sem, simprocAttr, qN, qO, qP, qQ])) ?_ ?_ ?_; rotate_left)|rfl|(with_reducible refine And.intro ?_ ?_)|(simp (disch:=omega) only [go_sem, simprocAttr, qN, qO, qP, qQ])|exact qM rfl rfl rfl|(refine qG rfl ?_)|(refine qH rfl ?_)|(refine qI rfl ?_ ?_<;>intro hc<;>(try simp only [go_sem] at hc))|(refine qJ ?_ ?_<;>intro hc<;>(try simp only [hc])<;>(try simp only [go_sem] at hc)))
  refine DW.loop (ι := { i : Nat // i ≤ s.papers.length }) (fun i => ⟨265, [(18, dI i.1), (17, .box 17 0), (16, .box 16 0), (15, dI w), (14, .box 14 0), (8, .box 8 0), (7, .box 7 0)], [(95, .row 8 (rowC (rows eP (wetTo w w s.papers i.1)))), (93, .row 8 (rowC (rows eP (wetTo K1 K2 s.papers i.1)))), (17, .box [.own 95, .c (.sl false 4 (rows eF s.flutes))]), (16, .box [.own 93, .c (.sl false 4 (rows eF s.flutes))]), (14, .box [dI K1, dI K2]), (8, .box [.c (.sl false 1 (rows eI (nL m.papers))), .c (.sl false 1 (rows eI (nL m.flutes)))]), (7, .box [.c (.sl false 8 (rows eP s.papers)), .c (.sl false 4 (rows eF s.flutes))])]⟩) (fun i => s.papers.length - i.1) ⟨0, Nat.zero_le _⟩ ?_ ?_
  ·refine Ent.to ?_ ?_ <;> simp (disch:=omega) only [qR,qS,qTw,qU,get,Nat.reduceEqDiff,↓reduceIte,qV,qW,qX,qY,qZ,and_self,dI,i64_in,and_true,true_and,rA,rB,rC,rD,wetTo,List.take_zero,rG,List.nil_append,List.drop_zero]
   all_goals first | exact ⟨.refl _, .refl _, .refl _, .refl _⟩ | exact ⟨.refl _, .refl _, .refl _⟩ | exact ⟨.refl _, .refl _⟩ | exact .refl _
  rintro ⟨i, hi⟩
  dsimp only
  rcases at_or s.papers i hi with ⟨p, hp, hlt, hd⟩ | ⟨he, hd⟩
  ·have e1 := wetTo_get (lo := K1) (hi := K2) hp
   have e2 := wetTo_get (lo := w) (hi := w) hp
   have e3 := wetTo_set (lo := K1) (hi := K2) hp
   have e4 := wetTo_set (lo := w) (hi := w) hp
   have e5 := rowC_setP (wetTo K1 K2 s.papers i) i (wetP K1 K2 p)
   have e6' := rowC_setP (wetTo w w s.papers i) i (wetP w w p)
   rw [e3] at e5
   rw [e4] at e6'
   have e7 : (i < (wetTo K1 K2 s.papers i).length) = True := eq_true (by rw [wetTo_len]; exact hlt)
   have e8 : (i < (wetTo w w s.papers i).length) = True := eq_true (by rw [wetTo_len]; exact hlt)
   generalize wetTo K1 K2 s.papers i = P1 at *
   generalize wetTo w w s.papers i = P2 at *
   generalize hQ1 : wetTo K1 K2 s.papers (i + 1) = Q1 at *
   generalize hQ2 : wetTo w w s.papers (i + 1) = Q2 at *
   simp only [wetP] at e5 e6'
   repeat' (first|(with_reducible first|apply qA|apply qB|apply qC|apply qD|apply qE|apply qF)|(refine qL rfl (WF.of ?_) ?_; first|rfl|skip)|(refine DW.ord rfl (WF.of (by first|rfl|simp (disch:=omega) only [go_sem, simprocAttr, qN, qO, qP, qQ, hd, e1, e2, e7, e8, e5, e6', rF, rG])) ?_ ?_ ?_; rotate_left)|rfl|(with_reducible refine And.intro ?_ ?_)|(simp (disch:=omega) only [go_sem, simprocAttr, qN, qO, qP, qQ, hd, e1, e2, e7, e8, e5, e6', rF, rG])|exact qM rfl rfl rfl|(refine qG rfl ?_)|(refine qK (p1) (by decide) ?_)|(refine qH rfl ?_)|(refine qI rfl ?_ ?_<;>intro hc<;>(try simp only [go_sem] at hc))|(refine qJ ?_ ?_<;>intro hc<;>(try simp only [hc])<;>(try simp only [go_sem] at hc)))
   refine ⟨⟨i + 1, hlt⟩, ?_, Ent.to ?_ ?_⟩ <;> first | (show _ < _; (try simp only); omega) | (simp (disch:=omega) only [qR,qS,qTw,qU,get,Nat.reduceEqDiff,↓reduceIte,qV,qW,qX,qY,qZ,and_self,dI,i64_in,and_true,true_and,rA,rB,rC,rD, e5,e6',hQ1,hQ2])
   all_goals first | exact ⟨.refl _, .refl _, .refl _, .refl _⟩ | exact ⟨.refl _, .refl _, .refl _⟩ | exact ⟨.refl _, .refl _⟩ | exact .refl _
  ·have hT1 : wetTo K1 K2 s.papers i = (wetSto K1 K2 s).papers := by rw [he, wetTo_all]; rfl
   have hT2 : wetTo w w s.papers i = (wetSto w w s).papers := by rw [he, wetTo_all]; rfl
   have hF1 : s.flutes = (wetSto K1 K2 s).flutes := rfl
   generalize wetTo K1 K2 s.papers i = P1 at *
   generalize wetTo w w s.papers i = P2 at *
   subst hT1
   subst hT2
   (refine DW.ent (Ent.rel 95 rfl) ?_; simp (disch:=omega) only [go_sem,simprocAttr,qN,qO,qP,qQ])
   (refine DW.ent (Ent.rel 93 rfl) ?_; simp (disch:=omega) only [go_sem,simprocAttr,qN,qO,qP,qQ])
   repeat' (first|(with_reducible first|apply qA|apply qB|apply qC|apply qD|apply qE|apply qF)|(refine qL rfl (WF.of ?_) ?_; first|rfl|skip)|(refine DW.ord rfl (WF.of (by first|rfl|simp (disch:=omega) only [go_sem, simprocAttr, qN, qO, qP, qQ, hd, k1, k2, k3, k4, k7, Bool.and_self])) ?_ ?_ ?_; rotate_left)|rfl|(with_reducible refine And.intro ?_ ?_)|(simp (disch:=omega) only [go_sem, simprocAttr, qN, qO, qP, qQ, hd, k1, k2, k3, k4, k7, Bool.and_self])|exact qM rfl rfl rfl|(refine qG rfl ?_)|(refine qK (a0) (by decide) ?_)|(refine qK (a1) (by decide) ?_)|(refine qK (aM) (by decide) ?_)|(refine qK (M1) (by decide) ?_)|(refine qK (M2) (by decide) ?_)|(refine qK (M3) (by decide) ?_)|(refine qK (G1) (by decide) ?_)|(refine qK (G2) (by decide) ?_)|(refine qK (T1) (by decide) ?_)|(refine qK (T2) (by decide) ?_)|(refine qK (w2) (by decide) ?_)|(refine qK (hbo) (by decide) ?_)|(refine qK (hdm) (by decide) ?_)|(refine qH rfl ?_)|(refine qI rfl ?_ ?_<;>intro hc<;>(try simp only [go_sem] at hc))|(refine qJ ?_ ?_<;>intro hc<;>(try simp only [hc])<;>(try simp only [go_sem] at hc)))
 ·obtain ⟨j, hj⟩ : ∃ j, A'.length = j := ⟨_, rfl⟩
  have hAn : A.length = j + 1 := by rw [hA, List.length_append, hj]; rfl
  have hv : A[j]? = some (K1, K2) := by rw [hA, ← hj]; simp
  have dA : decide ((0 : Int) < (A.length : Int)) = true := decide_eq_true (by omega)
  have eA : (A.length : Int) - 1 = (j : Int) := by omega
  clear hA
  refine DCall.of Try.func3 sf3 hb3 (Nat.le_of_ble_eq_true rfl) (okRes_nil fun _ => rfl) ?_; simp only [s3, o3_0, o3_1, o3_2, o3_3, o3_4, o3_5, o3_6, o3_7, o3_8, o3_9, o3_10, o3_11, o3_12, o3_13, o3_14, o3_15, o3_16, o3_17, o3_18, o3_19, o3_20, o3_21, o3_22, o3_23, o3_24, o3_25, o3_26, o3_27, o3_28, o3_29, o3_30, o3_31, o3_32, o3_33, o3_34, o3_35, o3_36, o3_37, o3_38, o3_39, o3_40, o3_41, o3_42, o3_43, o3_44, o3_45, o3_46, o3_47, o3_48, o3_49, o3_50, o3_51, o3_52, o3_53, o3_54, o3_55, o3_56, o3_57, o3_58, o3_59, o3_60, o3_61, o3_62, o3_63, o3_64, o3_65, o3_66, o3_67, o3_68, o3_69, o3_70, o3_71, o3_72, o3_73, o3_74, o3_75, o3_76, o3_77, o3_78, idxs, Nat.reduceAdd]
  repeat' (first|(with_reducible first|apply qA|apply qB|apply qC|apply qD|apply qE|apply qF)|(refine qL rfl (WF.of ?_) ?_; first|rfl|skip)|(refine DW.ord rfl (WF.of (by first|rfl|simp (disch:=omega) only [go_sem, simprocAttr, qN, qO, qP, qQ, l0, g1, g2, dA, eA, hv, Bool.and_self])) ?_ ?_ ?_; rotate_left)|rfl|(with_reducible refine And.intro ?_ ?_)|(simp (disch:=omega) only [go_sem, simprocAttr, qN, qO, qP, qQ, l0, g1, g2, dA, eA, hv, Bool.and_self])|exact qM rfl rfl rfl|(refine qG rfl ?_)|(refine qK (hS) (by decide) ?_)|(refine qK (hM) (by decide) ?_)|(refine qK (c1) (by decide) ?_)|(refine qK (c2) (by decide) ?_)|(refine qK (c3) (by decide) ?_)|(refine qK (c4) (by decide) ?_)|(refine qK (w1) (by decide) ?_)|(refine qH rfl ?_)|(refine qI rfl ?_ ?_<;>intro hc<;>(try simp only [go_sem] at hc))|(refine qJ ?_ ?_<;>intro hc<;>(try simp only [hc])<;>(try simp only [go_sem] at hc)))
  (refine call_r (o1) (by decide) (by first | rfl | simp (disch:=omega) only [go_sem,simprocAttr,qN,qO,qP,qQ]) (by first | rfl | simp (disch:=omega) only [go_sem,simprocAttr,qN,qO,qP,qQ]) ?_; simp (disch:=omega) only [go_sem,simprocAttr,qN,qO,qP,qQ])
  repeat' (first|(with_reducible first|apply qA|apply qB|apply qC|apply qD|apply qE|apply qF)|(refine qL rfl (WF.of ?_) ?_; first|rfl|skip)|(refine DW.ord rfl (WF.of (by first|rfl|simp (disch:=omega) only [go_sem, simprocAttr, qN, qO, qP, qQ])) ?_ ?_ ?_; rotate_left)|rfl|(with_reducible refine And.intro ?_ ?_)|(simp (disch:=omega) only [go_sem, simprocAttr, qN, qO, qP, qQ])|exact qM rfl rfl rfl|(refine qG rfl ?_)|(refine qH rfl ?_)|(refine qI rfl ?_ ?_<;>intro hc<;>(try simp only [go_sem] at hc))|(refine qJ ?_ ?_<;>intro hc<;>(try simp only [hc])<;>(try simp only [go_sem] at hc)))
  (refine call_r (o2) (by decide) (by first | rfl | simp (disch:=omega) only [go_sem,simprocAttr,qN,qO,qP,qQ]) (by first | rfl | simp (disch:=omega) only [go_sem,simprocAttr,qN,qO,qP,qQ]) ?_; simp (disch:=omega) only [go_sem,simprocAttr,qN,qO,qP,qQ])
  repeat' (first|(with_reducible first|apply qA|apply qB|apply qC|apply qD|apply qE|apply qF)|(refine qL rfl (WF.of ?_) ?_; first|rfl|skip)|(refine DW.ord rfl (WF.of (by first|rfl|simp (disch:=omega) only [go_sem, simprocAttr, qN, qO, qP, qQ])) ?_ ?_ ?_; rotate_left)|rfl|(with_reducible refine And.intro ?_ ?_)|(simp (disch:=omega) only [go_sem, simprocAttr, qN, qO, qP, qQ])|exact qM rfl rfl rfl|(refine qG rfl ?_)|(refine qH rfl ?_)|(refine qI rfl ?_ ?_<;>intro hc<;>(try simp only [go_sem] at hc))|(refine qJ ?_ ?_<;>intro hc<;>(try simp only [hc])<;>(try simp only [go_sem] at hc)))
  refine DW.loop (ι := { i : Nat // i ≤ s.papers.length }) (fun i => ⟨265, [(18, dI i.1), (17, .box 17 0), (16, .box 16 0), (15, dI w), (14, .box 14 0), (8, .box 8 0), (7, .box 7 0)], [(95, .row 8 (rowC (rows eP (wetTo w w s.papers i.1)))), (93, .row 8 (rowC (rows eP (wetTo K1 K2 s.papers i.1)))), (17, .box [.own 95, .c (.sl false 4 (rows eF s.flutes))]), (16, .box [.own 93, .c (.sl false 4 (rows eF s.flutes))]), (14, .box [dI K1, dI K2]), (8, .box [.c (.sl false 1 (rows eI (nL m.papers))), .c (.sl false 1 (rows eI (nL m.flutes)))]), (7, .box [.c (.sl false 8 (rows eP s.papers)), .c (.sl false 4 (rows eF s.flutes))])]⟩) (fun i => s.papers.length - i.1) ⟨0, Nat.zero_le _⟩ ?_ ?_
  ·refine Ent.to ?_ ?_ <;> simp (disch:=omega) only [qR,qS,qTw,qU,get,Nat.reduceEqDiff,↓reduceIte,qV,qW,qX,qY,qZ,and_self,dI,i64_in,and_true,true_and,rA,rB,rC,rD,wetTo,List.take_zero,rG,List.nil_append,List.drop_zero]
   all_goals first | exact ⟨.refl _, .refl _, .refl _, .refl _⟩ | exact ⟨.refl _, .refl _, .refl _⟩ | exact ⟨.refl _, .refl _⟩ | exact .refl _
  rintro ⟨i, hi⟩
  dsimp only
  rcases at_or s.papers i hi with ⟨p, hp, hlt, hd⟩ | ⟨he, hd⟩
  ·have e1 := wetTo_get (lo := K1) (hi := K2) hp
   have e2 := wetTo_get (lo := w) (hi := w) hp
   have e3 := wetTo_set (lo := K1) (hi := K2) hp
   have e4 := wetTo_set (lo := w) (hi := w) hp
   have e5 := rowC_setP (wetTo K1 K2 s.papers i) i (wetP K1 K2 p)
   have e6' := rowC_setP (wetTo w w s.papers i) i (wetP w w p)
   rw [e3] at e5
   rw [e4] at e6'
   have e7 : (i < (wetTo K1 K2 s.papers i).length) = True := eq_true (by rw [wetTo_len]; exact hlt)
   have e8 : (i < (wetTo w w s.papers i).length) = True := eq_true (by rw [wetTo_len]; exact hlt)
   generalize wetTo K1 K2 s.papers i = P1 at *
   generalize wetTo w w s.papers i = P2 at *
   generalize hQ1 : wetTo K1 K2 s.papers (i + 1) = Q1 at *
   generalize hQ2 : wetTo w w s.papers (i + 1) = Q2 at *
   simp only [wetP] at e5 e6'
   repeat' (first|(with_reducible first|apply qA|apply qB|apply qC|apply qD|apply qE|apply qF)|(refine qL rfl (WF.of ?_) ?_; first|rfl|skip)|(refine DW.ord rfl (WF.of (by first|rfl|simp (disch:=omega) only [go_sem, simprocAttr, qN, qO, qP, qQ, hd, e1, e2, e7, e8, e5, e6', rF, rG])) ?_ ?_ ?_; rotate_left)|rfl|(with_reducible refine And.intro ?_ ?_)|(simp (disch:=omega) only [go_sem, simprocAttr, qN, qO, qP, qQ, hd, e1, e2, e7, e8, e5, e6', rF, rG])|exact qM rfl rfl rfl|(refine qG rfl ?_)|(refine qK (p1) (by decide) ?_)|(refine qH rfl ?_)|(refine qI rfl ?_ ?_<;>intro hc<;>(try simp only [go_sem] at hc))|(refine qJ ?_ ?_<;>intro hc<;>(try simp only [hc])<;>(try simp only [go_sem] at hc)))
   refine ⟨⟨i + 1, hlt⟩, ?_, Ent.to ?_ ?_⟩ <;> first | (show _ < _; (try simp only); omega) | (simp (disch:=omega) only [qR,qS,qTw,qU,get,Nat.reduceEqDiff,↓reduceIte,qV,qW,qX,qY,qZ,and_self,dI,i64_in,and_true,true_and,rA,rB,rC,rD, e5,e6',hQ1,hQ2])
   all_goals first | exact ⟨.refl _, .refl _, .refl _, .refl _⟩ | exact ⟨.refl _, .refl _, .refl _⟩ | exact ⟨.refl _, .refl _⟩ | exact .refl _
  ·have hT1 : wetTo K1 K2 s.papers i = (wetSto K1 K2 s).papers := by rw [he, wetTo_all]; rfl
   have hT2 : wetTo w w s.papers i = (wetSto w w s).papers := by rw [he, wetTo_all]; rfl
   have hF1 : s.flutes = (wetSto K1 K2 s).flutes := rfl
   generalize wetTo K1 K2 s.papers i = P1 at *
   generalize wetTo w w s.papers i = P2 at *
   subst hT1
   subst hT2
   (refine DW.ent (Ent.rel 95 rfl) ?_; simp (disch:=omega) only [go_sem,simprocAttr,qN,qO,qP,qQ])
   (refine DW.ent (Ent.rel 93 rfl) ?_; simp (disch:=omega) only [go_sem,simprocAttr,qN,qO,qP,qQ])
   repeat' (first|(with_reducible first|apply qA|apply qB|apply qC|apply qD|apply qE|apply qF)|(refine qL rfl (WF.of ?_) ?_; first|rfl|skip)|(refine DW.ord rfl (WF.of (by first|rfl|simp (disch:=omega) only [go_sem, simprocAttr, qN, qO, qP, qQ, hd, k1, k2, k3, k4, k7, Bool.and_self])) ?_ ?_ ?_; rotate_left)|rfl|(with_reducible refine And.intro ?_ ?_)|(simp (disch:=omega) only [go_sem, simprocAttr, qN, qO, qP, qQ, hd, k1, k2, k3, k4, k7, Bool.and_self])|exact qM rfl rfl rfl|(refine qG rfl ?_)|(refine qK (a0) (by decide) ?_)|(refine qK (a1) (by decide) ?_)|(refine qK (aM) (by decide) ?_)|(refine qK (M1) (by decide) ?_)|(refine qK (M2) (by decide) ?_)|(refine qK (M3) (by decide) ?_)|(refine qK (G1) (by decide) ?_)|(refine qK (G2) (by decide) ?_)|(refine qK (T1) (by decide) ?_)|(refine qK (T2) (by decide) ?_)|(refine qK (w2) (by decide) ?_)|(refine qK (hbo) (by decide) ?_)|(refine qK (hdm) (by decide) ?_)|(refine qH rfl ?_)|(refine qI rfl ?_ ?_<;>intro hc<;>(try simp only [go_sem] at hc))|(refine qJ ?_ ?_<;>intro hc<;>(try simp only [hc])<;>(try simp only [go_sem] at hc)))
end Go.Dw.Seat
end
section
set_option linter.unusedSimpArgs false
set_option maxRecDepth 100000
namespace Go.Dw.Seat
open Go Go.Dw Go.Proofs Go.IntWalk
def AllLt (b : Nat) (l : List Nat) : Prop := ∀ x ∈ l, x < b
def e1 (n : Nat) : List C := [.v (.int .u8 n)]
theorem dampWeightY (x : War) (hx : x.ok) (y : TripY) (hy : y.ok) (tr : List Nat) (_ : tr.length ≤ maxLen) (htr : AllLt 256 tr) :
  DCall Try.prog 3 [dWar false x, dTrip false y, .c (.sl false 1 (rows e1 tr))] [] (bD true) [] := by
 have h := tpDampWeight false false x hx y hy tr htr
 have e : rows eY tr = rows e1 tr := rfl
 rwa [e] at h
end Go.Dw.Seat
end
section
set_option linter.unusedSimpArgs false
set_option maxRecDepth 100000
namespace Go.Dw.Seat
open Go Go.Dw Go.Proofs Go.ChangeShapes Go.WideShapes Go.ChangeAt Go.RowKit
theorem tOwn : ownKnob Try.prog.godebug = none := by kernel_rfl
theorem tLaid : laidOutB Try.prog = true := by kernel_rfl
theorem u4 : Try.prog.underlying 4 = some .bool := by kernel_rfl
theorem uT5 : Try.prog.underlying 5 = some (.int .u8) := by kernel_rfl
theorem clT5 : Try.prog.cellsOf 5 = 1 := by kernel_rfl
def bV (l : List Nat) : List Value := l.map fun n : Nat => Value.int .u8 (n : Int)
section
variable {H : Type} {enc : TypeId × Value → H} {w : World} {base : Nat} {spare : Nat → Bool} {held : Bool}
theorem wf8 {n : Int} (h : (Lit.int .u8 n).wf = true) : ∃ v : Nat, n = v ∧ v < 256 := by
 have e1 : IntKind.min .u8 = 0 := by decide
 have e2 : IntKind.max .u8 = 255 := by decide
 simp only [Lit.wf, e1, e2, Bool.and_eq_true, decide_eq_true_eq] at h
 exact ⟨n.toNat, by omega, by omega⟩
theorem rd_U8 {fuel : Nat} {cs : List Value} {x : DataW H × List MemPlace} (h : DataW.trod enc Try.prog w base spare held fuel 5 cs = some x) : ∃ l : List Nat, (l.length = 1 ∧ AllLt 256 l) ∧ cs = bV l := by
 obtain ⟨n, e, hw⟩ := rd_int uT5 h
 obtain ⟨v, rfl, hv⟩ := wf8 hw
 exact ⟨[v], ⟨rfl, fun x hx => by rw [List.mem_singleton] at hx; rw [hx]; exact hv⟩, e⟩
theorem bV_app (a b : List Nat) : bV (a ++ b) = bV a ++ bV b := by simp [bV]
theorem lt_app {b : Nat} {l l' : List Nat} (h : AllLt b l) (h' : AllLt b l') : AllLt b (l ++ l') := fun x hx => by
 rcases List.mem_append.1 hx with h1 | h1
 ·exact h x h1
 ·exact h' x h1
theorem rd_arrB {fuel : Nat} {cs : List Value} {x : DataW H × List MemPlace} {t e : TypeId} {n k : Nat} (ht : Try.prog.underlying t = some (.array n e)) (he : Try.prog.cellsOf e = k) (hc : Try.prog.cellsOf t = n * k)
  (hrd : ∀ m cs x, DataW.trod enc Try.prog w base spare held m e cs = some x → ∃ l : List Nat, (l.length = k ∧ AllLt 256 l) ∧ cs = bV l) (h : DataW.trod enc Try.prog w base spare held fuel t cs = some x) : ∃ l : List Nat, (l.length = n * k ∧ AllLt 256 l) ∧ cs = bV l := by
 obtain ⟨hl, m, hf⟩ := rd_array ht h
 rw [hc] at hl
 have key : ∀ j, j ≤ n → ∃ l : List Nat, (l.length = j * k ∧ AllLt 256 l) ∧ cs.take (j * k) = bV l := by
  intro j
  induction j with
  | zero => intro _; exact ⟨[], ⟨by simp, fun x hx => by cases hx⟩, by simp [bV]⟩
  | succ j ih =>
   intro hj
   obtain ⟨l, ⟨h1, h2⟩, h3⟩ := ih (by omega)
   obtain ⟨y, hy⟩ := hf j (by omega)
   rw [he] at hy
   obtain ⟨l', ⟨h4, h5⟩, h6⟩ := hrd _ _ _ hy
   refine ⟨l ++ l', ⟨by rw [List.length_append, h1, h4, Nat.succ_mul], lt_app h2 h5⟩, ?_⟩
   rw [Nat.succ_mul, List.take_add, h3, h6, bV_app]
 obtain ⟨l, h1, h2⟩ := key n (Nat.le_refl _)
 rw [List.take_of_length_le (by omega)] at h2
 exact ⟨l, h1, h2⟩
theorem uT118 : Try.prog.underlying 118 = some (.array 6 5) := by kernel_rfl
theorem clT118 : Try.prog.cellsOf 118 = 6 := by kernel_rfl
theorem rd_T118 {fuel : Nat} {cs : List Value} {x : DataW H × List MemPlace} (h : DataW.trod enc Try.prog w base spare held fuel 118 cs = some x) : ∃ l : List Nat, (l.length = 6 ∧ AllLt 256 l) ∧ cs = bV l := rd_arrB (n := 6) (k := 1) uT118 clT5 clT118 (fun _ _ _ h => rd_U8 h) h
theorem uT71 : Try.prog.underlying 71 = some (.array 3 5) := by kernel_rfl
theorem clT71 : Try.prog.cellsOf 71 = 3 := by kernel_rfl
theorem rd_T71 {fuel : Nat} {cs : List Value} {x : DataW H × List MemPlace} (h : DataW.trod enc Try.prog w base spare held fuel 71 cs = some x) : ∃ l : List Nat, (l.length = 3 ∧ AllLt 256 l) ∧ cs = bV l := rd_arrB (n := 3) (k := 1) uT71 clT5 clT71 (fun _ _ _ h => rd_U8 h) h
theorem uT24 : Try.prog.underlying 24 = some (.slice 5) := by kernel_rfl
theorem clT24 : Try.prog.cellsOf 24 = 1 := by kernel_rfl
theorem rd_T24 {fuel : Nat} {cs : List Value} {x : DataW H × List MemPlace} (h : DataW.trod enc Try.prog w base spare held fuel 24 cs = some x) : ∃ (l : List Nat) (v : Value), cs = [v] ∧ RepC w A0 (.sl false 1 (rows e1 l)) v ∧ l.length ≤ maxLen ∧ AllLt 256 l := by
 obtain ⟨l, v, e', hr, hm, _⟩ := rd_slice (f := fun v : {v : Nat // v < 256} => e1 v.1) uT24 clT5 (by decide) (fun _ => rfl) (fun m cs x h => by
  obtain ⟨n, e, hw⟩ := rd_int uT5 h
  obtain ⟨v, rfl, hv⟩ := wf8 hw
  subst e
  exact ⟨⟨v, hv⟩, _, _, rfl, ⟨rfl, rfl⟩, rfl⟩) h
 refine ⟨l.map (·.1), v, e', ?_, by simpa using hm, fun u hu => ?_⟩
 ·have : rows e1 (l.map (·.1)) = rows (fun v : {v : Nat // v < 256} => e1 v.1) l := by simp [rows, Function.comp_def]
  rw [this]; exact hr
 ·obtain ⟨a, _, rfl⟩ := List.mem_map.1 hu
  exact a.2
theorem uT22 : Try.prog.underlying 22 = some (.slice 118) := by kernel_rfl
theorem clT22 : Try.prog.cellsOf 22 = 1 := by kernel_rfl
theorem rd_W6 {fuel : Nat} {cs : List Value} {x : DataW H × List MemPlace} (h : DataW.trod enc Try.prog w base spare held fuel 118 cs = some x) : ∃ v : {v : V6 // v.ok}, RepVs w A0 (e6 v.1) cs := by
 obtain ⟨l, ⟨h1, h2⟩, h3⟩ := rd_T118 h
 subst h3
 match l, h1 with
 | [a, b, c, d, e, f], _ => exact ⟨⟨⟨a, b, c, d, e, f⟩, h2 a (by simp), h2 b (by simp), h2 c (by simp), h2 d (by simp), h2 e (by simp), h2 f (by simp)⟩, _, _, rfl, ⟨rfl, rfl⟩, _, _, rfl, ⟨rfl, rfl⟩, _, _, rfl, ⟨rfl, rfl⟩, _, _, rfl, ⟨rfl, rfl⟩, _, _, rfl, ⟨rfl, rfl⟩, _, _, rfl, ⟨rfl, rfl⟩, rfl⟩
theorem rd_X22 {fuel : Nat} {cs : List Value} {x : DataW H × List MemPlace} (h : DataW.trod enc Try.prog w base spare held fuel 22 cs = some x) : ∃ (l : List V6) (v : Value), cs = [v] ∧ RepC w A0 (.sl false 6 (rows e6 l)) v ∧ l.length ≤ maxLen ∧ ∀ v ∈ l, v.ok := by
 obtain ⟨l, v, e', hr, hm, _⟩ := rd_slice (f := fun v : {v : V6 // v.ok} => e6 v.1) uT22 clT118 (by decide) (fun _ => rfl) (fun m cs x h => rd_W6 h) h
 refine ⟨l.map (·.1), v, e', ?_, by simpa using hm, fun u hu => ?_⟩
 ·have : rows e6 (l.map (·.1)) = rows (fun v : {v : V6 // v.ok} => e6 v.1) l := by simp [rows, Function.comp_def]
  rw [this]; exact hr
 ·obtain ⟨a, _, rfl⟩ := List.mem_map.1 hu
  exact a.2
theorem uT23 : Try.prog.underlying 23 = some (.slice 71) := by kernel_rfl
theorem clT23 : Try.prog.cellsOf 23 = 1 := by kernel_rfl
theorem rd_W3 {fuel : Nat} {cs : List Value} {x : DataW H × List MemPlace} (h : DataW.trod enc Try.prog w base spare held fuel 71 cs = some x) : ∃ v : {v : V3 // v.ok}, RepVs w A0 (e3 v.1) cs := by
 obtain ⟨l, ⟨h1, h2⟩, h3⟩ := rd_T71 h
 subst h3
 match l, h1 with
 | [a, b, c], _ => exact ⟨⟨⟨a, b, c⟩, h2 a (by simp), h2 b (by simp), h2 c (by simp)⟩, _, _, rfl, ⟨rfl, rfl⟩, _, _, rfl, ⟨rfl, rfl⟩, _, _, rfl, ⟨rfl, rfl⟩, rfl⟩
theorem rd_X23 {fuel : Nat} {cs : List Value} {x : DataW H × List MemPlace} (h : DataW.trod enc Try.prog w base spare held fuel 23 cs = some x) : ∃ (l : List V3) (v : Value), cs = [v] ∧ RepC w A0 (.sl false 3 (rows e3 l)) v ∧ l.length ≤ maxLen ∧ ∀ v ∈ l, v.ok := by
 obtain ⟨l, v, e', hr, hm, _⟩ := rd_slice (f := fun v : {v : V3 // v.ok} => e3 v.1) uT23 clT71 (by decide) (fun _ => rfl) (fun m cs x h => rd_W3 h) h
 refine ⟨l.map (·.1), v, e', ?_, by simpa using hm, fun u hu => ?_⟩
 ·have : rows e3 (l.map (·.1)) = rows (fun v : {v : V3 // v.ok} => e3 v.1) l := by simp [rows, Function.comp_def]
  rw [this]; exact hr
 ·obtain ⟨a, _, rfl⟩ := List.mem_map.1 hu
  exact a.2
theorem uT26 : structIs Try.prog 26 [(22, 0), (23, 1), (24, 2)] = true := by kernel_rfl
theorem clT26 : Try.prog.cellsOf 26 = 3 := by kernel_rfl
def cWar (x : War) : List C := [.sl false 6 (rows e6 x.papers), .sl false 3 (rows e3 x.flutes), .sl false 1 (rows eY x.by')]
theorem rd_T26 {fuel : Nat} {cs : List Value} {x : DataW H × List MemPlace} (h : DataW.trod enc Try.prog w base spare held fuel 26 cs = some x) : ∃ s : War, s.ok ∧ RepVs w A0 (cWar s) cs := by
 obtain ⟨hl, m, hf⟩ := rd_struct uT26 h
 rw [clT26] at hl
 obtain ⟨y0, h0⟩ := hf 0 22 0 rfl
 obtain ⟨y1, h1⟩ := hf 1 23 1 rfl
 obtain ⟨y2, h2⟩ := hf 2 24 2 rfl
 rw [clT22] at h0
 rw [clT23] at h1
 rw [clT24] at h2
 obtain ⟨L0, v0, e0, r0, m0, p0⟩ := rd_X22 h0
 obtain ⟨L1, v1, e1, r1, m1, p1⟩ := rd_X23 h1
 obtain ⟨L2, v2, e2, r2, m2, p2⟩ := rd_T24 h2
 match cs, hl with
 | [c0, c1, c2], _ =>
  simp at e0 e1 e2
  subst e0; subst e1; subst e2
  exact ⟨⟨L0, L1, L2⟩, ⟨p0, p1, p2⟩, _, _, rfl, r0, _, _, rfl, r1, _, _, rfl, r2, rfl⟩
theorem uT27 : Try.prog.underlying 27 = some (.array 2 5) := by kernel_rfl
theorem clT27 : Try.prog.cellsOf 27 = 2 := by kernel_rfl
theorem rd_T27 {fuel : Nat} {cs : List Value} {x : DataW H × List MemPlace} (h : DataW.trod enc Try.prog w base spare held fuel 27 cs = some x) : ∃ l : List Nat, (l.length = 2 ∧ AllLt 256 l) ∧ cs = bV l := rd_arrB (n := 2) (k := 1) uT27 clT5 clT27 (fun _ _ _ h => rd_U8 h) h
theorem rd_V3 {fuel : Nat} {cs : List Value} {x : DataW H × List MemPlace} (h : DataW.trod enc Try.prog w base spare held fuel 71 cs = some x) : ∃ v : {v : T3 // v.ok}, RepVs w A0 (eT3 v.1) cs := by
 obtain ⟨l, ⟨h1, h2⟩, h3⟩ := rd_T71 h
 subst h3
 match l, h1 with
 | [a, b, c], _ => exact ⟨⟨⟨a, b, c⟩, h2 a (by simp), h2 b (by simp), h2 c (by simp)⟩, _, _, rfl, ⟨rfl, rfl⟩, _, _, rfl, ⟨rfl, rfl⟩, _, _, rfl, ⟨rfl, rfl⟩, rfl⟩
theorem rd_T23 {fuel : Nat} {cs : List Value} {x : DataW H × List MemPlace} (h : DataW.trod enc Try.prog w base spare held fuel 23 cs = some x) : ∃ (l : List T3) (v : Value), cs = [v] ∧ RepC w A0 (.sl false 3 (rows eT3 l)) v ∧ l.length ≤ maxLen ∧ ∀ v ∈ l, v.ok := by
 obtain ⟨l, v, e', hr, hm, _⟩ := rd_slice (f := fun v : {v : T3 // v.ok} => eT3 v.1) uT23 clT71 (by decide) (fun _ => rfl) (fun m cs x h => rd_V3 h) h
 refine ⟨l.map (·.1), v, e', ?_, by simpa using hm, fun u hu => ?_⟩
 ·have : rows eT3 (l.map (·.1)) = rows (fun v : {v : T3 // v.ok} => eT3 v.1) l := by simp [rows, Function.comp_def]
  rw [this]; exact hr
 ·obtain ⟨a, _, rfl⟩ := List.mem_map.1 hu
  exact a.2
theorem uT29 : structIs Try.prog 29 [(27, 0), (27, 2), (23, 4)] = true := by kernel_rfl
theorem clT29 : Try.prog.cellsOf 29 = 5 := by kernel_rfl
def cTrip (x : TripY) : List C := [.v (.int .u8 x.r0), .v (.int .u8 x.r1), .v (.int .u8 x.s0), .v (.int .u8 x.s1), .sl false 3 (rows eT3 x.l)]
theorem rd_T29 {fuel : Nat} {cs : List Value} {x : DataW H × List MemPlace} (h : DataW.trod enc Try.prog w base spare held fuel 29 cs = some x) : ∃ s : TripY, s.ok ∧ RepVs w A0 (cTrip s) cs := by
 obtain ⟨hl, m, hf⟩ := rd_struct uT29 h
 rw [clT29] at hl
 obtain ⟨y0, h0⟩ := hf 0 27 0 rfl
 obtain ⟨y1, h1⟩ := hf 1 27 2 rfl
 obtain ⟨y2, h2⟩ := hf 2 23 4 rfl
 rw [clT27] at h0 h1
 rw [clT23] at h2
 obtain ⟨l0, ⟨q0, q1⟩, e0⟩ := rd_T27 h0
 obtain ⟨l1, ⟨q2, q3⟩, e1⟩ := rd_T27 h1
 obtain ⟨T, v, e2, hr, hm, hT⟩ := rd_T23 h2
 match cs, hl with
 | [c0, c1, c2, c3, c4], _ =>
  simp at e0 e1 e2
  match l0, q0, l1, q2 with
  | [a, b], _, [c, d], _ =>
   simp [bV] at e0 e1
   obtain ⟨rfl, rfl⟩ := e0
   obtain ⟨rfl, rfl⟩ := e1
   subst e2
   exact ⟨⟨a, b, c, d, T⟩, ⟨q1 a (by simp), q1 b (by simp), q3 c (by simp), q3 d (by simp), hm, hT⟩, _, _, rfl, ⟨rfl, rfl⟩, _, _, rfl, ⟨rfl, rfl⟩, _, _, rfl, ⟨rfl, rfl⟩, _, _, rfl, ⟨rfl, rfl⟩, _, _, rfl, hr, rfl⟩
end
set_option maxHeartbeats 800000 in
theorem topDampWeightLifted (os : Os) (started : os.Started) (H : Type) (enc : TypeId × Value → H) :
  ReturnsInHanded {} Try.checked os 3 .any (Ytakhpmbcndkkfaa.Rows.topDampWeightSpec.pre6 enc Try.prog Try.f3 Ytakhpmbcndkkfaa.Rows.topDampWeightRow.domain false) (Ytakhpmbcndkkfaa.Rows.topDampWeightSpec.post enc Try.prog Try.f3 false true false false) := by
 refine returnsInHanded_of_change (C := Try.checked) tOwn started (by kernel_rfl) Try.func3
  (ChangeSpec.witness6 (enc := enc) (C := Try.checked) false ⟨#[], #[.agg #[.slice none 0 0, .slice none 0 0, .slice none 0 0], .agg #[.int .u8 0, .int .u8 0, .int .u8 0, .int .u8 0, .slice none 0 0], .slice none 0 0], []⟩ 8 (by kernel_rfl) (by kernel_rfl) (by kernel_rfl) (by kernel_rfl)) ?_
 intro W base args ds gs before hval0 hW _ _
 have hval : ∀ (j : Nat) t v, Try.f3.params[j]? = some t → args[j]? = some v → Value.okWide Try.prog W .any base t v := hval0
 have hW' : DataW.Whole enc Try.prog Try.f3.params.toList [] false W args.toList ds gs before := hW
 obtain ⟨p, q, hA, hV, rfl, hfz, hnd⟩ := hW
 have hA : DataW.TrodAll enc Try.prog W 0 (fun _ => true) true [26, 29, 24] args.toList ds p := hA
 obtain ⟨rfl, rfl⟩ := trodVars_none hV
 obtain ⟨v0, vs0, d0, ds0, p0, q0, hargs, rfl, rfl, h0, r0⟩ := trodAll_cons hA
 obtain ⟨v1, vs1, d1, ds1, p1, q1, rfl, rfl, rfl, h1, r1⟩ := trodAll_cons r0
 obtain ⟨v2, vs2, d2, ds2, p2, q2, rfl, rfl, rfl, h2, r2⟩ := trodAll_cons r1
 obtain ⟨rfl, rfl, rfl⟩ := trodAll_nil r2
 obtain rfl : args = #[v0, v1, v2] := by cases args; simp_all
 obtain ⟨f0, hu0, _⟩ := structIs_spec uT26
 obtain ⟨c0, rfl, _⟩ := okWide_struct hu0 (hval 0 26 v0 rfl rfl)
 obtain ⟨f1, hu1, _⟩ := structIs_spec uT29
 obtain ⟨c1, rfl, _⟩ := okWide_struct hu1 (hval 1 29 v1 rfl rfl)
 obtain ⟨a2, l2, k2, rfl⟩ := okWide_slice uT24 (hval 2 24 v2 rfl rfl)
 obtain ⟨fu0, h0⟩ := h0
 obtain ⟨fu1, h1⟩ := h1
 obtain ⟨fu2, h2⟩ := h2
 obtain ⟨s0, ho0, hr0⟩ := rd_T26 h0
 have hr0 : RepVs W A0 (cWar s0) c0.toList := by simpa [Value.cells] using hr0
 obtain ⟨s1, ho1, hr1⟩ := rd_T29 h1
 have hr1 : RepVs W A0 (cTrip s1) c1.toList := by simpa [Value.cells] using hr1
 obtain ⟨s2, sv2, e2, hs2, hl2, ho2⟩ := rd_T24 h2
 have e2 : sv2 = Value.slice a2 l2 k2 := by simpa [Value.cells] using e2.symm
 subst e2
 refine ((dampWeightY s0 ho0 s1 ho1 s2 hl2 ho2).calls (W := W) (vs := [.agg c0, .agg c1, .slice a2 l2 k2]) (laid0 W) (fun G => ?_)).mono ?_
 ·exact ⟨_, _, rfl, ⟨c0, rfl, RepDs.ofVs hr0⟩, _, _, rfl, ⟨c1, rfl, RepDs.ofVs hr1⟩, _, _, rfl, hs2, rfl⟩
 ·rintro e W' ⟨v, rfl, ⟨G', A', hr⟩, hb⟩
  obtain ⟨rfl, _⟩ := hr
  exact ⟨_, rfl, post_true tLaid (by decide +kernel) hW' hb rfl rfl u4 rfl rfl rfl⟩
theorem topDampWeightHolds : Ytakhpmbcndkkfaa.Rows.topDampWeightRow.holds Ytakhpmbcndkkfaa.Try.pinned (OpenSpec.ofChange Ytakhpmbcndkkfaa.Rows.topDampWeightSpec) :=
 OpenClaim.holds_of_wide 3 Try.f3 rfl rfl rfl rfl rfl rfl rfl ⟨rfl, rfl, rfl, rfl, rfl⟩ rfl rfl rfl rfl rfl (by kernel_rfl) Try.func3 (by kernel_rfl)
  (of_decide_eq_true (by kernel_rfl)) (by unfold Func.isWrapper; first | (rw [if_pos (by decide +kernel)]; kernel_rfl) | (rw [if_neg (by decide +kernel)]; exact ⟨rfl, rfl⟩))
  (fun os started H enc _ => topDampWeightLifted os started H enc)
end Go.Dw.Seat
namespace Go.Proofs.Ytakhpmbcndkkfaa
theorem topDampWeightSaid : Rows.TopDampWeightSaid := Go.Dw.Seat.topDampWeightHolds
end Go.Proofs.Ytakhpmbcndkkfaa
end
