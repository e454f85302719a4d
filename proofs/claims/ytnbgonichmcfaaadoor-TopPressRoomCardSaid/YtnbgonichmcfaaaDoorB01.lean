/- The law TopPressRoomCard returns true for every input, and changes nothing that was there before: the full statement TopPressRoomCardSaid, without conditions. -/
import Derived.Test.YtnbgonichmcfaaaDoorB00
import Derived.Test.YtnbgonichmcfaaaDoorTie
import Derived.Test.YtnbgonichmcfaaaDoorCards
import Derived.ProofKit
import Derived.LaidMore
import Derived.OpenShut
import Derived.Stop.Joined
import Derived.SevenTiedAt
set_option linter.unusedVariables false
set_option linter.unusedSimpArgs false
section
set_option linter.unusedSimpArgs false
set_option maxRecDepth 100000
namespace Go.Dw.Seat.Cr
open Go Go.Dw Go.Proofs Go.IntWalk
def eU6 (n : Nat) : List C := [.v (.int .u64 n)]
theorem eU6_nb (n : Nat) : C.nbs (eU6 n) = true := rfl
attribute [go_sem] eU6
theorem dsAllB (s : Nat) (hs : s < 1024) : ItB true Tryd.prog 37 [dU s] [] enB (fun e => e ∈ bitsL s) (bitsL s) := by
 intro ly β H stp live _ hW hY b0 hl0
 have hH : ∀ b, HidOk (H b) := fun b => (hW b).toHidOk
 refine DCall.of Tryd.func37 sf37 hb37 (Nat.le_of_ble_eq_true rfl) (hH _).res ?_
 simp only [s37, idxs, Nat.reduceAdd, List.map_nil, List.map_cons, List.nil_append, List.cons_append, List.append_nil]
 repeat' (first|(with_reducible first|apply qA|apply qB|apply qC|apply qD|apply qE|apply qF)|(simp (disch:=omega) only [go_sem, simprocAttr, qN, qO, qP, qQ])|exact qM rfl rfl rfl|(refine qG rfl ?_)|(refine qH rfl ?_)|(refine qI rfl ?_ ?_<;>intro hc<;>(try simp only [go_sem] at hc))|(refine qJ ?_ ?_<;>intro hc<;>(try simp only [hc])<;>(try simp only [go_sem] at hc)))
 refine DW.loop (ι := { y : Nat × β // y.1 < 1024 ∧ live (bitsL y.1) y.2 ∧ runB stp b0 (bitsL s) = runB stp y.2 (bitsL y.1) ∧ ∀ e ∈ bitsL y.1, e ∈ bitsL s })
  (fun y => ⟨15, [(0, dU y.1.1), (1, .c (.fn (.yield ly) [] []))], H y.1.2⟩) (fun y => y.1.1) ⟨(s, b0), hs, hl0, rfl, fun _ h => h⟩ ?_ ?_
 ·refine Ent.toT ?_; simp (disch:=omega) only [qR,qS,qTw,qU,get,Nat.reduceEqDiff,↓reduceIte,qV,qW,qX,qY,qZ,and_self,dI,i64_in,and_true,true_and,rA,rB,rC,rD]
 rintro ⟨⟨k, b1⟩, hk, hlv, hrun, hsub⟩
 dsimp only at hk hlv hrun hsub
 by_cases h0 : k = 0
 ·subst h0
  rw [bits_zero] at hrun
  simp only [runB] at hrun
  repeat' (first|(with_reducible first|apply qA|apply qB|apply qC|apply qD|apply qE|apply qF)|(simp (disch:=omega) only [go_sem, simprocAttr, qN, qO, qP, qQ])|exact qM rfl rfl rfl|(refine qG rfl ?_)|(refine qH rfl ?_)|(refine qI rfl ?_ ?_<;>intro hc<;>(try simp only [go_sem] at hc))|(refine qJ ?_ ?_<;>intro hc<;>(try simp only [hc])<;>(try simp only [go_sem] at hc)))
  rw [hrun]
  exact retS_hid (own := []) (.inr rfl) (hH _) rfl
 ·have hd : ((k : Int) != 0) = true := by rw [bne_iff_ne]; omega
  obtain ⟨hb, ht⟩ := bits_step hk h0
  rw [hb] at hrun hsub hlv
  obtain ⟨hyc, hlv4⟩ := hY b1 (tz k) _ hlv (hsub _ (by simp))
  simp only [runB] at hrun
  have htz := crTz k hk h0
  have hlt := and_pred_lt0 ⟨k, hk⟩ h0
  have e1 : (k : Int) - 1 = ((k - 1 : Nat) : Int) := by omega
  dsimp only at hlt
  repeat' (first|(with_reducible first|apply qA|apply qB|apply qC|apply qD|apply qE|apply qF)|(simp (disch:=omega) only [go_sem, simprocAttr, qN, qO, qP, qQ, hd])|exact qM rfl rfl rfl|(refine qG rfl ?_)|(refine qK (htz) (by decide) ?_)|(refine qH rfl ?_)|(refine qI rfl ?_ ?_<;>intro hc<;>(try simp only [go_sem] at hc))|(refine qJ ?_ ?_<;>intro hc<;>(try simp only [hc])<;>(try simp only [go_sem] at hc)))
  refine call_y (own := []) hyc rfl rfl rfl (hH _) (hH _) (by decide) ?_
  cases hs : (stp b1 (tz k)).1 with
  | true =>
   rw [hs] at hrun hlv4
   simp (disch:=omega) only [go_sem,simprocAttr,qN,qO,qP,qQ]
   have e2 := and_pred0 ⟨k, hk⟩ h0
   dsimp only at e2
   repeat' (first|(with_reducible first|apply qA|apply qB|apply qC|apply qD|apply qE|apply qF)|(simp (disch:=omega) only [go_sem, simprocAttr, qN, qO, qP, qQ, e1, e2])|exact qM rfl rfl rfl|(refine qG rfl ?_)|(refine qH rfl ?_)|(refine qI rfl ?_ ?_<;>intro hc<;>(try simp only [go_sem] at hc))|(refine qJ ?_ ?_<;>intro hc<;>(try simp only [hc])<;>(try simp only [go_sem] at hc)))
   refine ⟨⟨(k &&& (k - 1), (stp b1 (tz k)).2), and_lt hk _, hlv4 rfl, hrun, fun e he => hsub e (by simp [he])⟩, by (show _ < _; (try simp only); omega), Ent.toT ?_⟩; simp (disch:=omega) only [qR,qS,qTw,qU,get,Nat.reduceEqDiff,↓reduceIte,qV,qW,qX,qY,qZ,and_self,dI,i64_in,and_true,true_and,rA,rB,rC,rD]
  | false =>
   rw [hs] at hrun
   simp (disch:=omega) only [go_sem,simprocAttr,qN,qO,qP,qQ]
   repeat' (first|(with_reducible first|apply qA|apply qB|apply qC|apply qD|apply qE|apply qF)|(simp (disch:=omega) only [go_sem, simprocAttr, qN, qO, qP, qQ])|exact qM rfl rfl rfl|(refine qG rfl ?_)|(refine qH rfl ?_)|(refine qI rfl ?_ ?_<;>intro hc<;>(try simp only [go_sem] at hc))|(refine qJ ?_ ?_<;>intro hc<;>(try simp only [hc])<;>(try simp only [go_sem] at hc)))
   rw [hrun]
   exact retS_hid (own := []) (.inl rfl) (hH _) rfl
theorem dsAll (s : Nat) (hs : s < 1024) : ItD Tryd.prog 37 [dU s] [] enB (fun e => e ∈ bitsL s) (bitsL s) := (dsAllB s hs).toD
set_option maxHeartbeats 1000000 in
theorem dsAppSeq (s : Nat) (hs : s < 1024) : DCall Tryd.prog 75 [.c (.v (.slice none 0 0)), .c (.fn (.func 37) [.v (.int .u64 s)] [])] [] (dIs false (nL (bitsL s))) [] := by
 have hit := dsAllB s hs
 have hbl := bits_len s
 refine DCall.of Tryd.func75 sf75 hb75 (Nat.le_of_ble_eq_true rfl) (okRes_nil fun _ => rfl) ?_; simp only [s75, idxs, Nat.reduceAdd]
 repeat' (first|(with_reducible first|apply qA|apply qB|apply qC|apply qD|apply qE|apply qF)|(simp (disch:=omega) only [go_sem, simprocAttr, qN, qO, qP, qQ])|exact qM rfl rfl rfl|(refine qG rfl ?_)|(refine qH rfl ?_)|(refine qI rfl ?_ ?_<;>intro hc<;>(try simp only [go_sem] at hc))|(refine qJ ?_ ?_<;>intro hc<;>(try simp only [hc])<;>(try simp only [go_sem] at hc)))
 (refine DW.ent (Ent.adoptB 2 0 11 1 rfl rfl rfl rfl) ?_; simp only [ins, Nat.reduceLT, Nat.reduceEqDiff, ↓reduceIte, List.set_cons_zero, List.set_cons_succ])
 refine DW.rngBS (fs := [dU s]) (caps := []) (fun y : List Int => [(11, .row 1 (rowC (rows eI y))), (2, .box [.own 11])]) [] apS enB (fun e => e ∈ bitsL s) (bitsL s) hit (fun t y => y.length + t.length ≤ 10) (by simpa using hbl) (fun a e t ha he _ => by simp only [apS, List.length_append, List.length_cons, List.length_nil] at ha ⊢; omega) rfl (fun _ => ⟨rfl, rfl⟩) rfl (by decide) (fun _ _ => rfl) (fun _ _ _ => rfl) (by simp only [List.map_cons, List.map_nil]; decide) (fun _ => rfl) (fun _ => wf_row rfl rfl) (fun _ => nb_row eI_nb _ rfl) (by simp only [List.all_cons, List.all_nil, Blk.nb, rowC_nb, D.nb, D.nbs, C.nb, C.nbs, C.nbss, rows_nb eI_nb, Bool.and_true, Bool.not_false, Bool.and_self, bD, dI, iD, rows_nb eI_nb, rows_nb eU6_nb]) (fun _ _ => rfl) ?_ ?_
 ·rintro y e t hy he v
  have hy : y.length ≤ 10 := by omega
  simp (disch:=omega) only [go_sem,simprocAttr,qN,qO,qP,qQ,rF,rG,apS]
  repeat' (first|(with_reducible first|apply qA|apply qB|apply qC|apply qD|apply qE|apply qF)|(simp (disch:=omega) only [go_sem, simprocAttr, qN, qO, qP, qQ, rF, rG])|exact qM rfl rfl rfl|(refine qG rfl ?_)|(refine qH rfl ?_)|(refine qI rfl ?_ ?_<;>intro hc<;>(try simp only [go_sem] at hc))|(refine qJ ?_ ?_<;>intro hc<;>(try simp only [hc])<;>(try simp only [go_sem] at hc)))
  refine round_end rfl rfl (Ent.to ?_ ?_) <;> simp (disch:=omega) only [qR,qS,qTw,qU,get,Nat.reduceEqDiff,↓reduceIte,qV,qW,qX,qY,qZ,and_self,dI,i64_in,and_true,true_and,rA,rB,rC,rD,capB,List.cons_append,List.nil_append,rowC_snocI]
 ·rw [ap_run]
  repeat' (first|(with_reducible first|apply qA|apply qB|apply qC|apply qD|apply qE|apply qF)|(simp (disch:=omega) only [go_sem, simprocAttr, qN, qO, qP, qQ])|exact qM rfl rfl rfl|(refine qG rfl ?_)|(refine qH rfl ?_)|(refine qI rfl ?_ ?_<;>intro hc<;>(try simp only [go_sem] at hc))|(refine qJ ?_ ?_<;>intro hc<;>(try simp only [hc])<;>(try simp only [go_sem] at hc)))
  (refine retS_ent (Ent.rel 11 rfl) ?_; simp (disch:=omega) only [go_sem,simprocAttr,qN,qO,qP,qQ])
  refine retS_wk rfl ?_ (by simp only [Blk.nb, rowC_nb, D.nb, D.nbs, C.nb, C.nbs, C.nbss, rows_nb eI_nb, Bool.and_true, Bool.not_false, Bool.and_self, bD, dI, iD, rows_nb eI_nb, rows_nb eU6_nb]); exact .refl _
theorem dsCollect (s : Nat) (hs : s < 1024) : DCall Tryd.prog 38 [.c (.fn (.func 37) [.v (.int .u64 s)] [])] [] (dIs false (nL (bitsL s))) [] := by
 have h1 := dsAppSeq s hs
 refine DCall.of Tryd.func38 sf38 hb38 (Nat.le_of_ble_eq_true rfl) (okRes_nil fun _ => rfl) ?_; simp only [s38, idxs, Nat.reduceAdd]
 repeat' (first|(with_reducible first|apply qA|apply qB|apply qC|apply qD|apply qE|apply qF)|(simp (disch:=omega) only [go_sem, simprocAttr, qN, qO, qP, qQ])|exact qM rfl rfl rfl|(refine qG rfl ?_)|(refine qK (h1) (by decide) ?_)|(refine qH rfl ?_)|(refine qI rfl ?_ ?_<;>intro hc<;>(try simp only [go_sem] at hc))|(refine qJ ?_ ?_<;>intro hc<;>(try simp only [hc])<;>(try simp only [go_sem] at hc)))
 refine retS_wk rfl ?_ (by simp only [Blk.nb, rowC_nb, D.nb, D.nbs, C.nb, C.nbs, C.nbss, rows_nb eI_nb, Bool.and_true, Bool.not_false, Bool.and_self, bD, dI, iD, rows_nb eI_nb, rows_nb eU6_nb]); exact .refl _
abbrev depD (m p : Nat) : D := .c (.ro false [.sl false 1 (rows eU6 [m]), .sl false 1 (rows eI [(p : Int)])] 0)
def fitB (m p s : Nat) : Bool := decide (s = 0) || (decide (m = 1) && decide (1 ≤ p))
theorem an_0 : andNotI IntKind.u64 0 0 = 0 := by decide
theorem an_1 : andNotI IntKind.u64 0 1 = 0 := by decide
theorem an_2 : andNotI IntKind.u64 1 0 = 1 := by decide
theorem an_3 : andNotI IntKind.u64 1 1 = 0 := by decide
theorem sh_1 : shlI IntKind.u64 1 1 = 2 := by decide
theorem bits_0 : bitsL 0 = [] := by decide
theorem bits_1 : bitsL 1 = [0] := by decide
def nedS (m r : Nat) (y : Int) (_ : Nat) : Option Exit × Int := (none, if andNotI IntKind.u64 (m : Int) (r : Int) = 0 then w64 (y + 1) else y)
def hasS (p : Nat) (y : Int) (_ : Nat) : Option Exit × Int := (none, w64 (y + (p : Int)))
theorem w_01 : w64 1 = 1 := by decide
theorem w_00 : w64 0 = 0 := by decide
set_option maxHeartbeats 32000000 in
theorem dsFits (m p0 p s : Nat) (hm : m = 0 ∨ m = 1) (hp : p = 0 ∨ p = 1) (hs : s = 0 ∨ s = 1) : DCall Tryd.prog 36 [depD m p0, dU s, dIs false [(p : Int)]] [] (bD (fitB m p s)) [] := by
 have hz : ∀ r e : Nat, r ≤ 1 → e ∈ bitsL r → e = 0 := fun r e hr he => by
  rcases (by omega : r = 0 ∨ r = 1) with rfl | rfl
  ·rw [bits_0] at he; cases he
  ·rw [bits_1] at he; simpa using he
 have hs1 : s ≤ 1 := by omega
 generalize hF0 : fitB m p s = F
 refine DCall.of Tryd.func36 sf36 hb36 (Nat.le_of_ble_eq_true rfl) (okRes_nil fun _ => rfl) ?_; simp only [s36, idxs, Nat.reduceAdd]
 repeat' (first|(with_reducible first|apply qA|apply qB|apply qC|apply qD|apply qE|apply qF)|(refine qL rfl (WF.of ?_) ?_; first|rfl|skip)|(simp (disch:=omega) only [go_sem, simprocAttr, qN, qO, qP, qQ, sh_1])|exact qM rfl rfl rfl|(refine qG rfl ?_)|(refine qH rfl ?_)|(refine qI rfl ?_ ?_<;>intro hc<;>(try simp only [go_sem] at hc))|(refine qJ ?_ ?_<;>intro hc<;>(try simp only [hc])<;>(try simp only [go_sem] at hc)))
 refine DW.loop (ι := { i : Nat // i ≤ 2 ∧ (1 ≤ i → ¬ (m = 0 ∧ s = 1)) ∧ (2 ≤ i → F = true) }) (fun i => ⟨46, [(15, dU i.1), (14, dU 2), (5, .box 5 0), (3, .box 3 0), (1, dU s)], [(5, .box [dIs false [(p : Int)]]), (3, .box [depD m p0])]⟩) (fun i => 2 - i.1) ⟨0, by omega, fun h => by omega, fun h => by omega⟩ ?_ ?_
 ·refine Ent.to ?_ ?_ <;> simp (disch:=omega) only [qR,qS,qTw,qU,get,Nat.reduceEqDiff,↓reduceIte,qV,qW,qX,qY,qZ,and_self,dI,i64_in,and_true,true_and,rA,rB,rC,rD]
  all_goals first | exact .refl _ | exact ⟨.refl _, .refl _⟩ | exact ⟨.refl _, .refl _, .refl _⟩ | exact ⟨.refl _, .refl _, .refl _, .refl _⟩
 rintro ⟨i, hi, hr1, hr2⟩
 dsimp only
 have hit1 := dsAll s (by omega)
 rcases (by omega : i = 0 ∨ i = 1 ∨ i = 2) with rfl | rfl | rfl
 ·have hit2 := dsAll 0 (by decide)
  repeat' (first|(with_reducible first|apply qA|apply qB|apply qC|apply qD|apply qE|apply qF)|(refine qL rfl (WF.of ?_) ?_; first|rfl|skip)|(simp (disch:=omega) only [go_sem, simprocAttr, qN, qO, qP, qQ])|exact qM rfl rfl rfl|(refine qG rfl ?_)|(refine qH rfl ?_)|(refine qI rfl ?_ ?_<;>intro hc<;>(try simp only [go_sem] at hc))|(refine qJ ?_ ?_<;>intro hc<;>(try simp only [hc])<;>(try simp only [go_sem] at hc)))
  refine DW.rngBD (fs := [dU s]) (caps := []) (fun y : Int => [(9, .box [dI 0]), (8, .box [dI y]), (7, .box [dU 0]), (5, .box [dIs false [(p : Int)]]), (3, .box [depD m p0])]) 0 (nedS m 0) enB (fun e => e ∈ bitsL s) (bitsL s) hit1 (fun _ => True) trivial (fun _ _ _ _ _ => trivial) rfl (fun _ => ⟨rfl, rfl⟩) rfl (by decide) (fun _ _ => rfl) (fun _ _ _ => rfl) (by simp only [List.map_cons, List.map_nil]; decide) (fun _ => rfl) (fun _ => rfl) (fun _ => (by simp only [List.all_cons, List.all_nil, Blk.nb, rowC_nb, D.nb, D.nbs, C.nb, C.nbs, C.nbss, rows_nb eI_nb, Bool.and_true, Bool.not_false, Bool.and_self, bD, dI, iD, rows_nb eI_nb, rows_nb eU6_nb])) (by simp only [List.all_cons, List.all_nil, Blk.nb, rowC_nb, D.nb, D.nbs, C.nb, C.nbs, C.nbss, rows_nb eI_nb, Bool.and_true, Bool.not_false, Bool.and_self, bD, dI, iD, rows_nb eI_nb, rows_nb eU6_nb]) (fun a e => rfl) ?_ ?_
  ·rintro y _ e he v
   obtain rfl := hz s e hs1 he
   unfold nedS
   rcases hm with rfl | rfl
   ·have ha : andNotI IntKind.u64 ((0 : Nat) : Int) ((0 : Nat) : Int) = 0 := by decide
    rw [ha]
    simp (disch:=omega) only [go_sem,simprocAttr,qN,qO,qP,qQ,rF,rG]
    repeat' (first|(with_reducible first|apply qA|apply qB|apply qC|apply qD|apply qE|apply qF)|(refine qL rfl (WF.of ?_) ?_; first|rfl|skip)|(simp (disch:=omega) only [go_sem, simprocAttr, qN, qO, qP, qQ, an_0, an_1, rF, rG])|exact qM rfl rfl rfl|(refine qG rfl ?_)|(refine qH rfl ?_)|(refine qI rfl ?_ ?_<;>intro hc<;>(try simp only [go_sem] at hc))|(refine qJ ?_ ?_<;>intro hc<;>(try simp only [hc])<;>(try simp only [go_sem] at hc)))
    refine round_end rfl rfl (Ent.to ?_ ?_) <;> simp (disch:=omega) only [qR,qS,qTw,qU,get,Nat.reduceEqDiff,↓reduceIte,qV,qW,qX,qY,qZ,and_self,dI,i64_in,and_true,true_and,rA,rB,rC,rD,capB,List.cons_append,List.nil_append,w64]
   ·have ha : andNotI IntKind.u64 ((1 : Nat) : Int) ((0 : Nat) : Int) = 1 := by decide
    rw [ha]
    simp (disch:=omega) only [go_sem,simprocAttr,qN,qO,qP,qQ,rF,rG]
    repeat' (first|(with_reducible first|apply qA|apply qB|apply qC|apply qD|apply qE|apply qF)|(refine qL rfl (WF.of ?_) ?_; first|rfl|skip)|(simp (disch:=omega) only [go_sem, simprocAttr, qN, qO, qP, qQ, an_2, an_3, rF, rG])|exact qM rfl rfl rfl|(refine qG rfl ?_)|(refine qH rfl ?_)|(refine qI rfl ?_ ?_<;>intro hc<;>(try simp only [go_sem] at hc))|(refine qJ ?_ ?_<;>intro hc<;>(try simp only [hc])<;>(try simp only [go_sem] at hc)))
    refine round_end rfl rfl (Ent.to ?_ ?_) <;> simp (disch:=omega) only [qR,qS,qTw,qU,get,Nat.reduceEqDiff,↓reduceIte,qV,qW,qX,qY,qZ,and_self,dI,i64_in,and_true,true_and,rA,rB,rC,rD,capB,List.cons_append,List.nil_append,w64]
  ·have hrn : runIt (nedS m 0) 0 (bitsL s) = (none, if m = 0 ∧ s = 1 then 1 else 0) := by
    rcases hs with rfl | rfl
    ·rw [bits_0]; simp [runIt]
    ·rw [bits_1]; rcases hm with rfl | rfl <;> simp [runIt, nedS, an_0, an_1, an_2, an_3, w_01]
   rw [hrn]
   simp (disch:=omega) only [go_sem,simprocAttr,qN,qO,qP,qQ,Option.getD_none]
   repeat' (first|(with_reducible first|apply qA|apply qB|apply qC|apply qD|apply qE|apply qF)|(refine qL rfl (WF.of ?_) ?_; first|rfl|skip)|(simp (disch:=omega) only [go_sem, simprocAttr, qN, qO, qP, qQ])|exact qM rfl rfl rfl|(refine qG rfl ?_)|(refine qH rfl ?_)|(refine qI rfl ?_ ?_<;>intro hc<;>(try simp only [go_sem] at hc))|(refine qJ ?_ ?_<;>intro hc<;>(try simp only [hc])<;>(try simp only [go_sem] at hc)))
   refine DW.rngBD (fs := [dU 0]) (caps := []) (fun y : Int => [(9, .box [dI y]), (8, .box [dI (if m = 0 ∧ s = 1 then 1 else 0)]), (7, .box [dU 0]), (5, .box [dIs false [(p : Int)]]), (3, .box [depD m p0])]) 0 (hasS p) enB (fun e => e ∈ bitsL 0) (bitsL 0) hit2 (fun _ => True) trivial (fun _ _ _ _ _ => trivial) rfl (fun _ => ⟨rfl, rfl⟩) rfl (by decide) (fun _ _ => rfl) (fun _ _ _ => rfl) (by simp only [List.map_cons, List.map_nil]; decide) (fun _ => rfl) (fun _ => rfl) (fun _ => (by simp only [List.all_cons, List.all_nil, Blk.nb, rowC_nb, D.nb, D.nbs, C.nb, C.nbs, C.nbss, rows_nb eI_nb, Bool.and_true, Bool.not_false, Bool.and_self, bD, dI, iD, rows_nb eI_nb, rows_nb eU6_nb])) (by simp only [List.all_cons, List.all_nil, Blk.nb, rowC_nb, D.nb, D.nbs, C.nb, C.nbs, C.nbss, rows_nb eI_nb, Bool.and_true, Bool.not_false, Bool.and_self, bD, dI, iD, rows_nb eI_nb, rows_nb eU6_nb]) (fun a e => rfl) ?_ ?_
   ·rintro y _ e he v
    obtain rfl := hz 0 e (by decide) he
    unfold hasS
    simp (disch:=omega) only [go_sem,simprocAttr,qN,qO,qP,qQ,rF,rG]
    repeat' (first|(with_reducible first|apply qA|apply qB|apply qC|apply qD|apply qE|apply qF)|(refine qL rfl (WF.of ?_) ?_; first|rfl|skip)|(simp (disch:=omega) only [go_sem, simprocAttr, qN, qO, qP, qQ, rF, rG])|exact qM rfl rfl rfl|(refine qG rfl ?_)|(refine qH rfl ?_)|(refine qI rfl ?_ ?_<;>intro hc<;>(try simp only [go_sem] at hc))|(refine qJ ?_ ?_<;>intro hc<;>(try simp only [hc])<;>(try simp only [go_sem] at hc)))
    refine round_end rfl rfl (Ent.to ?_ ?_) <;> simp (disch:=omega) only [qR,qS,qTw,qU,get,Nat.reduceEqDiff,↓reduceIte,qV,qW,qX,qY,qZ,and_self,dI,i64_in,and_true,true_and,rA,rB,rC,rD,capB,List.cons_append,List.nil_append,w64]
   ·have hrn2 : runIt (hasS p) 0 (bitsL 0) = (none, 0) := by
     rcases hp with rfl | rfl <;> simp [runIt, hasS, bits_0, bits_1, w_00, w_01]
    rw [hrn2]
    simp (disch:=omega) only [go_sem,simprocAttr,qN,qO,qP,qQ,Option.getD_none]
    by_cases hc : m = 0 ∧ s = 1
    ·have hF : F = false := by rw [← hF0, hc.1, hc.2]; rfl
     repeat' (first|(with_reducible first|apply qA|apply qB|apply qC|apply qD|apply qE|apply qF)|(refine qL rfl (WF.of ?_) ?_; first|rfl|skip)|(simp (disch:=omega) only [go_sem, simprocAttr, qN, qO, qP, qQ, hc, hF])|exact qM rfl rfl rfl|(refine qG rfl ?_)|(refine qH rfl ?_)|(refine qI rfl ?_ ?_<;>intro hc<;>(try simp only [go_sem] at hc))|(refine qJ ?_ ?_<;>intro hc<;>(try simp only [hc])<;>(try simp only [go_sem] at hc)))
    ·repeat' (first|(with_reducible first|apply qA|apply qB|apply qC|apply qD|apply qE|apply qF)|(refine qL rfl (WF.of ?_) ?_; first|rfl|skip)|(simp (disch:=omega) only [go_sem, simprocAttr, qN, qO, qP, qQ, hc])|exact qM rfl rfl rfl|(refine qG rfl ?_)|(refine qH rfl ?_)|(refine qI rfl ?_ ?_<;>intro hc<;>(try simp only [go_sem] at hc))|(refine qJ ?_ ?_<;>intro hc<;>(try simp only [hc])<;>(try simp only [go_sem] at hc)))
     refine ⟨⟨1, by omega, fun _ => hc, fun h => by omega⟩, ?_, Ent.to ?_ ?_⟩ <;> first | (show _ < _; (try simp only); omega) | (simp (disch:=omega) only [qR,qS,qTw,qU,get,Nat.reduceEqDiff,↓reduceIte,qV,qW,qX,qY,qZ,and_self,dI,i64_in,and_true,true_and,rA,rB,rC,rD])
     all_goals first | exact .refl _ | exact ⟨.refl _, .refl _⟩ | exact ⟨.refl _, .refl _, .refl _⟩ | exact ⟨.refl _, .refl _, .refl _, .refl _⟩
 ·have hit2 := dsAll 1 (by decide)
  repeat' (first|(with_reducible first|apply qA|apply qB|apply qC|apply qD|apply qE|apply qF)|(refine qL rfl (WF.of ?_) ?_; first|rfl|skip)|(simp (disch:=omega) only [go_sem, simprocAttr, qN, qO, qP, qQ])|exact qM rfl rfl rfl|(refine qG rfl ?_)|(refine qH rfl ?_)|(refine qI rfl ?_ ?_<;>intro hc<;>(try simp only [go_sem] at hc))|(refine qJ ?_ ?_<;>intro hc<;>(try simp only [hc])<;>(try simp only [go_sem] at hc)))
  refine DW.rngBD (fs := [dU s]) (caps := []) (fun y : Int => [(9, .box [dI 0]), (8, .box [dI y]), (7, .box [dU 1]), (5, .box [dIs false [(p : Int)]]), (3, .box [depD m p0])]) 0 (nedS m 1) enB (fun e => e ∈ bitsL s) (bitsL s) hit1 (fun _ => True) trivial (fun _ _ _ _ _ => trivial) rfl (fun _ => ⟨rfl, rfl⟩) rfl (by decide) (fun _ _ => rfl) (fun _ _ _ => rfl) (by simp only [List.map_cons, List.map_nil]; decide) (fun _ => rfl) (fun _ => rfl) (fun _ => (by simp only [List.all_cons, List.all_nil, Blk.nb, rowC_nb, D.nb, D.nbs, C.nb, C.nbs, C.nbss, rows_nb eI_nb, Bool.and_true, Bool.not_false, Bool.and_self, bD, dI, iD, rows_nb eI_nb, rows_nb eU6_nb])) (by simp only [List.all_cons, List.all_nil, Blk.nb, rowC_nb, D.nb, D.nbs, C.nb, C.nbs, C.nbss, rows_nb eI_nb, Bool.and_true, Bool.not_false, Bool.and_self, bD, dI, iD, rows_nb eI_nb, rows_nb eU6_nb]) (fun a e => rfl) ?_ ?_
  ·rintro y _ e he v
   obtain rfl := hz s e hs1 he
   unfold nedS
   rcases hm with rfl | rfl
   ·have ha : andNotI IntKind.u64 ((0 : Nat) : Int) ((1 : Nat) : Int) = 0 := by decide
    rw [ha]
    simp (disch:=omega) only [go_sem,simprocAttr,qN,qO,qP,qQ,rF,rG]
    repeat' (first|(with_reducible first|apply qA|apply qB|apply qC|apply qD|apply qE|apply qF)|(refine qL rfl (WF.of ?_) ?_; first|rfl|skip)|(simp (disch:=omega) only [go_sem, simprocAttr, qN, qO, qP, qQ, an_0, an_1, rF, rG])|exact qM rfl rfl rfl|(refine qG rfl ?_)|(refine qH rfl ?_)|(refine qI rfl ?_ ?_<;>intro hc<;>(try simp only [go_sem] at hc))|(refine qJ ?_ ?_<;>intro hc<;>(try simp only [hc])<;>(try simp only [go_sem] at hc)))
    refine round_end rfl rfl (Ent.to ?_ ?_) <;> simp (disch:=omega) only [qR,qS,qTw,qU,get,Nat.reduceEqDiff,↓reduceIte,qV,qW,qX,qY,qZ,and_self,dI,i64_in,and_true,true_and,rA,rB,rC,rD,capB,List.cons_append,List.nil_append,w64]
   ·have ha : andNotI IntKind.u64 ((1 : Nat) : Int) ((1 : Nat) : Int) = 0 := by decide
    rw [ha]
    simp (disch:=omega) only [go_sem,simprocAttr,qN,qO,qP,qQ,rF,rG]
    repeat' (first|(with_reducible first|apply qA|apply qB|apply qC|apply qD|apply qE|apply qF)|(refine qL rfl (WF.of ?_) ?_; first|rfl|skip)|(simp (disch:=omega) only [go_sem, simprocAttr, qN, qO, qP, qQ, an_2, an_3, rF, rG])|exact qM rfl rfl rfl|(refine qG rfl ?_)|(refine qH rfl ?_)|(refine qI rfl ?_ ?_<;>intro hc<;>(try simp only [go_sem] at hc))|(refine qJ ?_ ?_<;>intro hc<;>(try simp only [hc])<;>(try simp only [go_sem] at hc)))
    refine round_end rfl rfl (Ent.to ?_ ?_) <;> simp (disch:=omega) only [qR,qS,qTw,qU,get,Nat.reduceEqDiff,↓reduceIte,qV,qW,qX,qY,qZ,and_self,dI,i64_in,and_true,true_and,rA,rB,rC,rD,capB,List.cons_append,List.nil_append,w64]
  ·have hrn : runIt (nedS m 1) 0 (bitsL s) = (none, (s : Int)) := by
    rcases hs with rfl | rfl
    ·rw [bits_0]; simp [runIt]
    ·rw [bits_1]; rcases hm with rfl | rfl <;> simp [runIt, nedS, an_0, an_1, an_2, an_3, w_01]
   rw [hrn]
   simp (disch:=omega) only [go_sem,simprocAttr,qN,qO,qP,qQ,Option.getD_none]
   repeat' (first|(with_reducible first|apply qA|apply qB|apply qC|apply qD|apply qE|apply qF)|(refine qL rfl (WF.of ?_) ?_; first|rfl|skip)|(simp (disch:=omega) only [go_sem, simprocAttr, qN, qO, qP, qQ])|exact qM rfl rfl rfl|(refine qG rfl ?_)|(refine qH rfl ?_)|(refine qI rfl ?_ ?_<;>intro hc<;>(try simp only [go_sem] at hc))|(refine qJ ?_ ?_<;>intro hc<;>(try simp only [hc])<;>(try simp only [go_sem] at hc)))
   refine DW.rngBD (fs := [dU 1]) (caps := []) (fun y : Int => [(9, .box [dI y]), (8, .box [dI ((s : Int))]), (7, .box [dU 1]), (5, .box [dIs false [(p : Int)]]), (3, .box [depD m p0])]) 0 (hasS p) enB (fun e => e ∈ bitsL 1) (bitsL 1) hit2 (fun _ => True) trivial (fun _ _ _ _ _ => trivial) rfl (fun _ => ⟨rfl, rfl⟩) rfl (by decide) (fun _ _ => rfl) (fun _ _ _ => rfl) (by simp only [List.map_cons, List.map_nil]; decide) (fun _ => rfl) (fun _ => rfl) (fun _ => (by simp only [List.all_cons, List.all_nil, Blk.nb, rowC_nb, D.nb, D.nbs, C.nb, C.nbs, C.nbss, rows_nb eI_nb, Bool.and_true, Bool.not_false, Bool.and_self, bD, dI, iD, rows_nb eI_nb, rows_nb eU6_nb])) (by simp only [List.all_cons, List.all_nil, Blk.nb, rowC_nb, D.nb, D.nbs, C.nb, C.nbs, C.nbss, rows_nb eI_nb, Bool.and_true, Bool.not_false, Bool.and_self, bD, dI, iD, rows_nb eI_nb, rows_nb eU6_nb]) (fun a e => rfl) ?_ ?_
   ·rintro y _ e he v
    obtain rfl := hz 1 e (by decide) he
    unfold hasS
    simp (disch:=omega) only [go_sem,simprocAttr,qN,qO,qP,qQ,rF,rG]
    repeat' (first|(with_reducible first|apply qA|apply qB|apply qC|apply qD|apply qE|apply qF)|(refine qL rfl (WF.of ?_) ?_; first|rfl|skip)|(simp (disch:=omega) only [go_sem, simprocAttr, qN, qO, qP, qQ, rF, rG])|exact qM rfl rfl rfl|(refine qG rfl ?_)|(refine qH rfl ?_)|(refine qI rfl ?_ ?_<;>intro hc<;>(try simp only [go_sem] at hc))|(refine qJ ?_ ?_<;>intro hc<;>(try simp only [hc])<;>(try simp only [go_sem] at hc)))
    refine round_end rfl rfl (Ent.to ?_ ?_) <;> simp (disch:=omega) only [qR,qS,qTw,qU,get,Nat.reduceEqDiff,↓reduceIte,qV,qW,qX,qY,qZ,and_self,dI,i64_in,and_true,true_and,rA,rB,rC,rD,capB,List.cons_append,List.nil_append,w64]
   ·have hrn2 : runIt (hasS p) 0 (bitsL 1) = (none, (p : Int)) := by
     rcases hp with rfl | rfl <;> simp [runIt, hasS, bits_0, bits_1, w_00, w_01]
    rw [hrn2]
    simp (disch:=omega) only [go_sem,simprocAttr,qN,qO,qP,qQ,Option.getD_none]
    by_cases hc : (p : Int) < (s : Int)
    ·have hF : F = false := by
      rw [← hF0]
      have h1 : s = 1 := by omega
      have h2 : p = 0 := by omega
      rw [h1, h2]
      unfold fitB
      simp
     have hd : decide ((p : Int) < (s : Int)) = true := decide_eq_true hc
     repeat' (first|(with_reducible first|apply qA|apply qB|apply qC|apply qD|apply qE|apply qF)|(refine qL rfl (WF.of ?_) ?_; first|rfl|skip)|(simp (disch:=omega) only [go_sem, simprocAttr, qN, qO, qP, qQ, hd, hF])|exact qM rfl rfl rfl|(refine qG rfl ?_)|(refine qH rfl ?_)|(refine qI rfl ?_ ?_<;>intro hc<;>(try simp only [go_sem] at hc))|(refine qJ ?_ ?_<;>intro hc<;>(try simp only [hc])<;>(try simp only [go_sem] at hc)))
    ·have hF : F = true := by
      rw [← hF0]
      have h0 := hr1 (by omega)
      unfold fitB
      rcases hs with rfl | rfl
      ·rfl
      ·have h1 : m = 1 := by omega
       have h2 : 1 ≤ p := by omega
       simp [h1, h2]
     have hd : decide ((p : Int) < (s : Int)) = false := decide_eq_false hc
     repeat' (first|(with_reducible first|apply qA|apply qB|apply qC|apply qD|apply qE|apply qF)|(refine qL rfl (WF.of ?_) ?_; first|rfl|skip)|(simp (disch:=omega) only [go_sem, simprocAttr, qN, qO, qP, qQ, hd])|exact qM rfl rfl rfl|(refine qG rfl ?_)|(refine qH rfl ?_)|(refine qI rfl ?_ ?_<;>intro hc<;>(try simp only [go_sem] at hc))|(refine qJ ?_ ?_<;>intro hc<;>(try simp only [hc])<;>(try simp only [go_sem] at hc)))
     refine ⟨⟨2, by omega, fun _ => hr1 (by omega), fun _ => hF⟩, ?_, Ent.to ?_ ?_⟩ <;> first | (show _ < _; (try simp only); omega) | (simp (disch:=omega) only [qR,qS,qTw,qU,get,Nat.reduceEqDiff,↓reduceIte,qV,qW,qX,qY,qZ,and_self,dI,i64_in,and_true,true_and,rA,rB,rC,rD])
     all_goals first | exact .refl _ | exact ⟨.refl _, .refl _⟩ | exact ⟨.refl _, .refl _, .refl _⟩ | exact ⟨.refl _, .refl _, .refl _, .refl _⟩
 ·have hF : F = true := hr2 (by omega)
  repeat' (first|(with_reducible first|apply qA|apply qB|apply qC|apply qD|apply qE|apply qF)|(refine qL rfl (WF.of ?_) ?_; first|rfl|skip)|(simp (disch:=omega) only [go_sem, simprocAttr, qN, qO, qP, qQ, hF])|exact qM rfl rfl rfl|(refine qG rfl ?_)|(refine qH rfl ?_)|(refine qI rfl ?_ ?_<;>intro hc<;>(try simp only [go_sem] at hc))|(refine qJ ?_ ?_<;>intro hc<;>(try simp only [hc])<;>(try simp only [go_sem] at hc)))
theorem dsFitsL (m p0 p s : Nat) (hm : m = 0 ∨ m = 1) (hp : p = 0 ∨ p = 1) (hs : s = 0 ∨ s = 1) (b1 b3 : Bool) : DCall Tryd.prog 36 [.c (.ro b1 [.sl false 1 (rows eU6 [m]), .sl false 1 (rows eI [(p0 : Int)])] 0), dU s, dIs b3 [(p : Int)]] [] (bD (fitB m p s)) [] := DCall.lbl (dsFits m p0 p s hm hp hs) rfl (.ro (.same (.sl .nil)))
end Go.Dw.Seat.Cr
end
section
set_option linter.unusedSimpArgs false
set_option maxRecDepth 100000
namespace Go.Dw.Seat.Pa
open Go Go.Dw Go.Proofs Go.IntWalk
def wthn (lo hi : Int) (l : List Int) : Bool := !(l.any fun n => decide (n < lo) || decide (hi < n))
theorem wthn_one {lo hi n : Int} (h : wthn lo hi [n] = true) : lo ≤ n ∧ n ≤ hi := by
 simp [wthn] at h; omega
theorem wthn_all {lo hi : Int} {l : List Int} (h : wthn lo hi l = true) : ∀ v ∈ l, lo ≤ v ∧ v ≤ hi := by
 simp only [wthn, Bool.not_eq_true', List.any_eq_false, Bool.or_eq_true, decide_eq_true_eq] at h
 intro v hv
 have := h v hv
 omega
def spanOk (lo hi least most : Int) : Bool := wthn least most [lo, hi] && decide (lo ≤ hi)
end Go.Dw.Seat.Pa
end
section
set_option linter.unusedSimpArgs false
set_option maxRecDepth 100000
namespace Go.Dw.Seat.Pa
open Go Go.Dw Go.IntWalk
def fitB (a c x y : Nat) : Bool := (decide (a ≤ x) && decide (c ≤ y)) || (decide (c ≤ x) && decide (a ≤ y))
end Go.Dw.Seat.Pa
end
section
set_option linter.unusedSimpArgs false
set_option maxRecDepth 100000
namespace Go.Dw.Seat.Pa
open Go Go.Dw Go.IntWalk
structure PBs where
 lg : Int
 wd : Int
 hi : Int
 ov : Int
 top : Int
 load : Int
structure PBx where
 lg : Int
 wd : Int
 hi : Int
 wl : Int
 wh : Int
 sl : Int
 sh : Int
structure PPl where
 x : Int
 y : Int
 t : Bool
deriving DecidableEq
structure PBs.ok (p : PBs) : Prop where
 lg : 1 ≤ p.lg ∧ p.lg ≤ 120
 wd : 1 ≤ p.wd ∧ p.wd ≤ 120
 hi : 0 ≤ p.hi ∧ p.hi ≤ 400
 top : 0 ≤ p.top ∧ p.top ≤ 400
 ov : 0 ≤ p.ov ∧ p.ov ≤ 10
 load : 0 ≤ p.load ∧ p.load ≤ 5000000
structure PBx.ok (b : PBx) : Prop where
 lg : 10 ≤ b.lg ∧ b.lg ≤ 100
 wd : 10 ≤ b.wd ∧ b.wd ≤ 100
 hi : 10 ≤ b.hi ∧ b.hi ≤ 100
 w : 0 ≤ b.wl ∧ b.wl ≤ b.wh ∧ b.wh ≤ 5000000
 s : 0 ≤ b.sl ∧ b.sl ≤ b.sh ∧ b.sh ≤ 20000000
def rmX (p : PBs) : Int := p.lg + 2 * p.ov
def rmY (p : PBs) : Int := p.wd + 2 * p.ov
def sdX (b : PBx) (q : PPl) : Int := if q.t then b.wd else b.lg
def sdY (b : PBx) (q : PPl) : Int := if q.t then b.lg else b.wd
def ovI (x a y c : Int) : Int := max 0 (min (x + a) (y + c) - max x y)
def comI (b : PBx) (q r : PPl) : Int := ovI q.x (sdX b q) r.x (sdX b r) * ovI q.y (sdY b q) r.y (sdY b r)
structure Lies (p : PBs) (b : PBx) (l : List PPl) : Prop where
 inn : ∀ q ∈ l, q.x + sdX b q ≤ rmX p ∧ q.y + sdY b q ≤ rmY p
 off : l.Pairwise fun q r => comI b r q ≤ 0
end Go.Dw.Seat.Pa
end
section
set_option linter.unusedSimpArgs false
set_option maxRecDepth 100000
namespace Go.Dw.Seat.Pa
open Go Go.Dw Go.Proofs Go.IntWalk
def eP (q : PPl) : List C := [.v (.int .i64 q.x), .v (.int .i64 q.y), .v (.bool q.t)]
attribute [go_sem] eP
def eA (b : PBx) (q : PPl) : List C := [.v (.int .i64 q.x), .v (.int .i64 q.y), .v (.int .i64 (q.x + sdX b q)), .v (.int .i64 (q.y + sdY b q))]
attribute [go_sem] eA
end Go.Dw.Seat.Pa
end
section
set_option linter.unusedSimpArgs false
set_option maxRecDepth 100000
namespace Go.Dw.Seat.Pa
open Go Go.Dw Go.IntWalk
structure PLy where
 lg : Int
 fr : Int
 bk : Int
 fm : Int
 bm : Int
structure PIt where
 lg : Int
 wl : Int
 wh : Int
structure PLy.ok (l : PLy) : Prop where
 lg : 1 ≤ l.lg ∧ l.lg ≤ 2000
 ax : (0 ≤ l.fr ∧ l.fr < l.bk) ∧ l.bk ≤ l.lg
 fm : 0 ≤ l.fm ∧ l.fm ≤ 40000000
 bm : 0 ≤ l.bm ∧ l.bm ≤ 40000000
structure PIt.ok (x : PIt) : Prop where
 lg : 1 ≤ x.lg ∧ x.lg ≤ 2000
 w : 0 ≤ x.wl ∧ x.wl ≤ x.wh ∧ x.wh ≤ 5000000
end Go.Dw.Seat.Pa
end
section
set_option linter.unusedSimpArgs false
set_option maxRecDepth 100000
namespace Go.Dw.Seat.Pa
open Go Go.Dw Go.Proofs Go.IntWalk
def eIt (x : PIt) : List C := [.v (.int .i64 x.lg), .v (.int .i64 x.wl), .v (.int .i64 x.wh)]
attribute [go_sem] eIt
end Go.Dw.Seat.Pa
end
section
set_option linter.unusedSimpArgs false
set_option maxRecDepth 100000
namespace Go.Dw.Seat.Pa
open Go Go.Dw Go.Proofs Go.IntWalk
def cells (xs : List Int) : List D := xs.map fun x => dI x
def tops (m : Nat) : List D := List.replicate m .top
theorem cells_men (j : Nat) (xs : List Int) (m : Nat) : D.mens j (cells xs ++ tops m) = false := by
 induction xs with
 | nil =>
  show D.mens j (tops m) = false
  induction m with
  | zero => rfl
  | succ m ih => simpa [tops, List.replicate_succ, D.mens, D.men] using ih
 | cons x xs ih => simpa [cells, D.mens, D.men, dI] using ih
theorem cells_keys (bx : List (Nat × Blk)) (xs : List Int) (m : Nat) : D.keysIns bx (cells xs ++ tops m) = true := by
 induction xs with
 | nil =>
  show D.keysIns bx (tops m) = true
  induction m with
  | zero => rfl
  | succ m ih => simpa [tops, List.replicate_succ, D.keysIns, D.keysIn] using ih
 | cons x xs ih => simpa [cells, D.keysIns, D.keysIn, dI] using ih
theorem bk_pbx (bx : List (Nat × Blk)) (l : Nat) (ds : List D) : Blk.keysIn bx (.pbox l ds) = D.keysIns bx ds := rfl
theorem bm_pbx (k l : Nat) (ds : List D) : Blk.men k (.pbox l ds) = D.mens k ds := rfl
attribute [go_sem] cells_keys bk_pbx bm_pbx cells_men
end Go.Dw.Seat.Pa
end
section
set_option linter.unusedSimpArgs false
set_option maxRecDepth 100000
namespace Go.Dw.Seat.Pa
open Go Go.Dw Go.Proofs Go.IntWalk
def eB (v : Bool) : List C := [.v (.bool v)]
attribute [go_sem] eB
theorem replI (n : Nat) : List.replicate n [C.v (.int .i64 0)] = rows eI (List.replicate n 0) := by simp [rows, eI]
end Go.Dw.Seat.Pa
end
section
set_option linter.unusedSimpArgs false
set_option maxRecDepth 100000
namespace Go.Dw.Seat.Pa
open Go Go.Dw Go.Proofs Go.IntWalk
set_option maxHeartbeats 1000000 in
theorem plCloneI (b : Bool) (l : List Int) (hl : l.length ≤ 2 ^ 36) (k : Nat) : DCall Tryd.prog 35 [dIs b l] [] (.own k) [(k, .row 1 (rowC (rows eI l)))] := by
 have hnb : ∀ l : List Int, Blk.nb (.row 1 (rowC (rows eI l))) = true := fun l => rowC_nb (rows_nb eI_nb l)
 refine DCall.rename (k0 := 5) ?_ k
 cases l with
 | nil =>
  refine DCall.nil1 (fun a c => ?_)
  cases a with
  | none =>
   refine DCall.of Tryd.func35 sf35 hb35 (Nat.le_of_ble_eq_true rfl) okRes_row ?_; simp only [s35, idxs, Nat.reduceAdd]
   repeat' (first|(with_reducible first|apply qA|apply qB|apply qC|apply qD|apply qE|apply qF)|(simp (disch:=omega) only [go_sem, simprocAttr, qN, qO, qP, qQ, Option.isNone])|exact qM rfl rfl rfl|(refine qG rfl ?_)|(refine qH rfl ?_)|(refine qI rfl ?_ ?_<;>intro hc<;>(try simp only [go_sem] at hc))|(refine qJ ?_ ?_<;>intro hc<;>(try simp only [hc])<;>(try simp only [go_sem] at hc)))
   refine retS_ent (Ent.adopt 2 5 1 rfl rfl rfl) ?_
   simp (disch:=omega) only [go_sem,simprocAttr,qN,qO,qP,qQ]
   refine retS_row ?_ ?_ (hnb []) <;> rfl
  | some a =>
   refine DCall.of Tryd.func35 sf35 hb35 (Nat.le_of_ble_eq_true rfl) okRes_row ?_; simp only [s35, idxs, Nat.reduceAdd]
   refine DW.seq (DW.reg ?_)
   simp (disch:=omega) only [go_sem,simprocAttr,qN,qO,qP,qQ]
   refine DW.seq (DW.seq (DW.reg ?_))
   simp (disch:=omega) only [go_sem,simprocAttr,qN,qO,qP,qQ,Option.isNone]
   refine DW.cond_ff rfl (DW.skip ?_)
   simp (disch:=omega) only [go_sem,simprocAttr,qN,qO,qP,qQ]
   refine DW.ent (Ent.to (tm' := [(0, .c (.sl b 1 []))]) (bx' := []) (by simp (disch:=omega) only [qR,qS,qTw,qU,get,Nat.reduceEqDiff,↓reduceIte,qV,qW,qX,qY,qZ,and_self,dI,i64_in,and_true,true_and,rA,rB,rC,rD]) trivial) ?_
   repeat' (first|(with_reducible first|apply qA|apply qB|apply qC|apply qD|apply qE|apply qF)|(simp (disch:=omega) only [go_sem, simprocAttr, qN, qO, qP, qQ])|exact qM rfl rfl rfl|(refine qG rfl ?_)|(refine qH rfl ?_)|(refine qI rfl ?_ ?_<;>intro hc<;>(try simp only [go_sem] at hc))|(refine qJ ?_ ?_<;>intro hc<;>(try simp only [hc])<;>(try simp only [go_sem] at hc)))
   refine retS_row ?_ ?_ (hnb []) <;> rfl
 | cons x l =>
  simp only [List.length_cons] at hl
  refine DCall.of Tryd.func35 sf35 hb35 (Nat.le_of_ble_eq_true rfl) okRes_row ?_; simp only [s35, idxs, Nat.reduceAdd]
  repeat' (first|(with_reducible first|apply qA|apply qB|apply qC|apply qD|apply qE|apply qF)|(simp (disch:=omega) only [go_sem, simprocAttr, qN, qO, qP, qQ, rows_cons])|exact qM rfl rfl rfl|(refine qG rfl ?_)|(refine qH rfl ?_)|(refine qI rfl ?_ ?_<;>intro hc<;>(try simp only [go_sem] at hc))|(refine qJ ?_ ?_<;>intro hc<;>(try simp only [hc])<;>(try simp only [go_sem] at hc)))
  refine retS_row ?_ ?_ (hnb (x :: l)) <;> rfl
end Go.Dw.Seat.Pa
end
section
set_option linter.unusedSimpArgs false
set_option maxRecDepth 100000
namespace Go.Dw.Seat.Cr
open Go Go.Dw Go.Proofs Go.IntWalk
structure DIt where
 s : Int × Int
 l : Int × Int
 h : Int
structure DRm where
 m : Int × Int
 p : Int
structure DIt.ok (x : DIt) : Prop where
 s : spM x.s
 l : spM x.l
 h : 0 ≤ x.h ∧ x.h ≤ 500
structure DRm.ok (x : DRm) : Prop where
 m : spM x.m
 p : 0 ≤ x.p ∧ x.p ≤ 7
def eDi (x : DIt) : List C := [.v (.int .i64 x.s.1), .v (.int .i64 x.s.2), .v (.int .i64 x.l.1), .v (.int .i64 x.l.2), .v (.int .i64 x.h)]
def eDr (x : DRm) : List C := [.v (.int .i64 x.m.1), .v (.int .i64 x.m.2), .v (.int .i64 x.p)]
theorem eDi_nb (x : DIt) : C.nbs (eDi x) = true := rfl
theorem eDr_nb (x : DRm) : C.nbs (eDr x) = true := rfl
attribute [go_sem] eDi eDr
theorem ndI1 (x : DIt) (h : x.ok) : DCall Tryd.prog 68 [.agg ((eDi x).map D.c)] [] (bD true) [] := by
 have h1 := dmMoist true [x.s, x.l] (by simp) (fun s hs => by
  simp only [List.mem_cons, List.not_mem_nil, or_false] at hs
  rcases hs with rfl | rfl
  ·exact h.s
  ·exact h.l)
 have h2 := dmIn true 0 500 [x.h] (by simp) (by simpa using h.h)
 refine DCall.of Tryd.func68 sf68 hb68 (Nat.le_of_ble_eq_true rfl) (okRes_nil fun _ => rfl) ?_; simp only [s68, idxs, Nat.reduceAdd]
 repeat' (first|(with_reducible first|apply qA|apply qB|apply qC|apply qD|apply qE|apply qF)|(simp (disch:=omega) only [go_sem, simprocAttr, qN, qO, qP, qQ, rF, rG])|exact qM rfl rfl rfl|(refine qG rfl ?_)|(refine qK (h1) (by decide) ?_)|(refine qK (h2) (by decide) ?_)|(refine qH rfl ?_)|(refine qI rfl ?_ ?_<;>intro hc<;>(try simp only [go_sem] at hc))|(refine qJ ?_ ?_<;>intro hc<;>(try simp only [hc])<;>(try simp only [go_sem] at hc)))
theorem ndR1 (x : DRm) (h : x.ok) : DCall Tryd.prog 69 [.agg ((eDr x).map D.c)] [] (bD true) [] := by
 have h1 := dmMoist true [x.m] (by simp) (by simpa using h.m)
 have h2 := dmIn true 0 7 [x.p] (by simp) (by simpa using h.p)
 refine DCall.of Tryd.func69 sf69 hb69 (Nat.le_of_ble_eq_true rfl) (okRes_nil fun _ => rfl) ?_; simp only [s69, idxs, Nat.reduceAdd]
 repeat' (first|(with_reducible first|apply qA|apply qB|apply qC|apply qD|apply qE|apply qF)|(simp (disch:=omega) only [go_sem, simprocAttr, qN, qO, qP, qQ, rF, rG])|exact qM rfl rfl rfl|(refine qG rfl ?_)|(refine qK (h1) (by decide) ?_)|(refine qK (h2) (by decide) ?_)|(refine qH rfl ?_)|(refine qI rfl ?_ ?_<;>intro hc<;>(try simp only [go_sem] at hc))|(refine qJ ?_ ?_<;>intro hc<;>(try simp only [hc])<;>(try simp only [go_sem] at hc)))
theorem ndI3 (x : DIt) (h : x.ok) (q : Bool) : DCall Tryd.prog 71 [.agg ((eDi x).map D.c), .c (.ro q [.fn (.func 68) [] []] 0)] [] (bD false) [] := by
 have h1 := ndI1 x h
 refine DCall.of Tryd.func71 sf71 hb71 (Nat.le_of_ble_eq_true rfl) (okRes_nil fun _ => rfl) ?_; simp only [s71, idxs, Nat.reduceAdd]
 repeat' (first|(with_reducible first|apply qA|apply qB|apply qC|apply qD|apply qE|apply qF)|(simp (disch:=omega) only [go_sem, simprocAttr, qN, qO, qP, qQ, rF, rG, closeDs_fn])|exact qM rfl rfl rfl|(refine qG rfl ?_)|(refine qH rfl ?_)|(refine qI rfl ?_ ?_<;>intro hc<;>(try simp only [go_sem] at hc))|(refine qJ ?_ ?_<;>intro hc<;>(try simp only [hc])<;>(try simp only [go_sem] at hc)))
 refine call_c h1 (by decide) ?_
 simp (disch:=omega) only [go_sem,simprocAttr,qN,qO,qP,qQ]
 repeat' (first|(with_reducible first|apply qA|apply qB|apply qC|apply qD|apply qE|apply qF)|(simp (disch:=omega) only [go_sem, simprocAttr, qN, qO, qP, qQ])|exact qM rfl rfl rfl|(refine qG rfl ?_)|(refine qH rfl ?_)|(refine qI rfl ?_ ?_<;>intro hc<;>(try simp only [go_sem] at hc))|(refine qJ ?_ ?_<;>intro hc<;>(try simp only [hc])<;>(try simp only [go_sem] at hc)))
theorem ndR3 (x : DRm) (h : x.ok) (q : Bool) : DCall Tryd.prog 73 [.agg ((eDr x).map D.c), .c (.ro q [.fn (.func 69) [] []] 0)] [] (bD false) [] := by
 have h1 := ndR1 x h
 refine DCall.of Tryd.func73 sf73 hb73 (Nat.le_of_ble_eq_true rfl) (okRes_nil fun _ => rfl) ?_; simp only [s73, idxs, Nat.reduceAdd]
 repeat' (first|(with_reducible first|apply qA|apply qB|apply qC|apply qD|apply qE|apply qF)|(simp (disch:=omega) only [go_sem, simprocAttr, qN, qO, qP, qQ, rF, rG, closeDs_fn])|exact qM rfl rfl rfl|(refine qG rfl ?_)|(refine qH rfl ?_)|(refine qI rfl ?_ ?_<;>intro hc<;>(try simp only [go_sem] at hc))|(refine qJ ?_ ?_<;>intro hc<;>(try simp only [hc])<;>(try simp only [go_sem] at hc)))
 refine call_c h1 (by decide) ?_
 simp (disch:=omega) only [go_sem,simprocAttr,qN,qO,qP,qQ]
 repeat' (first|(with_reducible first|apply qA|apply qB|apply qC|apply qD|apply qE|apply qF)|(simp (disch:=omega) only [go_sem, simprocAttr, qN, qO, qP, qQ])|exact qM rfl rfl rfl|(refine qG rfl ?_)|(refine qH rfl ?_)|(refine qI rfl ?_ ?_<;>intro hc<;>(try simp only [go_sem] at hc))|(refine qJ ?_ ?_<;>intro hc<;>(try simp only [hc])<;>(try simp only [go_sem] at hc)))
theorem ndIx (b q : Bool) (x : DIt) (h : x.ok) : DCall Tryd.prog 107 [.c (.sl b 5 (rows eDi [x])), .c (.fn (.func 71) [] [.ro q [.fn (.func 68) [] []] 0])] [] (dI (-1)) [] := by
 have hcall := ndI3 x h q
 refine DCall.of Tryd.func107 sf107 hb107 (Nat.le_of_ble_eq_true rfl) (okRes_nil fun _ => rfl) ?_; simp only [s107, idxs, Nat.reduceAdd]
 repeat' (first|(with_reducible first|apply qA|apply qB|apply qC|apply qD|apply qE|apply qF)|(simp (disch:=omega) only [go_sem, simprocAttr, qN, qO, qP, qQ])|exact qM rfl rfl rfl|(refine qG rfl ?_)|(refine qH rfl ?_)|(refine qI rfl ?_ ?_<;>intro hc<;>(try simp only [go_sem] at hc))|(refine qJ ?_ ?_<;>intro hc<;>(try simp only [hc])<;>(try simp only [go_sem] at hc)))
 refine DW.loop (ι := { i : Nat // i ≤ 1 }) (fun i => ⟨19, [(8, dI i.1), (7, dI 1), (1, .c (.fn (.func 71) [] [.ro q [.fn (.func 68) [] []] 0])), (0, .c (.sl b 5 (rows eDi [x])))], []⟩) (fun i => 1 - i.1) ⟨0, Nat.zero_le _⟩ ?_ ?_
 ·refine Ent.to ?_ ?_ <;> simp (disch:=omega) only [qR,qS,qTw,qU,get,Nat.reduceEqDiff,↓reduceIte,qV,qW,qX,qY,qZ,and_self,dI,i64_in,and_true,true_and,rA,rB,rC,rD]
  all_goals exact .refl _
 rintro ⟨i, hi⟩
 dsimp only
 rcases (by omega : i = 0 ∨ i = 1) with rfl | rfl
 ·repeat' (first|(with_reducible first|apply qA|apply qB|apply qC|apply qD|apply qE|apply qF)|(simp (disch:=omega) only [go_sem, simprocAttr, qN, qO, qP, qQ, closeDs_fn, rF, rG])|exact qM rfl rfl rfl|(refine qG rfl ?_)|(refine qH rfl ?_)|(refine qI rfl ?_ ?_<;>intro hc<;>(try simp only [go_sem] at hc))|(refine qJ ?_ ?_<;>intro hc<;>(try simp only [hc])<;>(try simp only [go_sem] at hc)))
  refine call_c hcall (by decide) ?_
  simp (disch:=omega) only [go_sem,simprocAttr,qN,qO,qP,qQ]
  repeat' (first|(with_reducible first|apply qA|apply qB|apply qC|apply qD|apply qE|apply qF)|(simp (disch:=omega) only [go_sem, simprocAttr, qN, qO, qP, qQ])|exact qM rfl rfl rfl|(refine qG rfl ?_)|(refine qH rfl ?_)|(refine qI rfl ?_ ?_<;>intro hc<;>(try simp only [go_sem] at hc))|(refine qJ ?_ ?_<;>intro hc<;>(try simp only [hc])<;>(try simp only [go_sem] at hc)))
  refine ⟨⟨1, by omega⟩, ?_, Ent.to ?_ ?_⟩ <;> first | (show _ < _; (try simp only); omega) | (simp (disch:=omega) only [qR,qS,qTw,qU,get,Nat.reduceEqDiff,↓reduceIte,qV,qW,qX,qY,qZ,and_self,dI,i64_in,and_true,true_and,rA,rB,rC,rD])
  all_goals exact .refl _
 ·repeat' (first|(with_reducible first|apply qA|apply qB|apply qC|apply qD|apply qE|apply qF)|(simp (disch:=omega) only [go_sem, simprocAttr, qN, qO, qP, qQ])|exact qM rfl rfl rfl|(refine qG rfl ?_)|(refine qH rfl ?_)|(refine qI rfl ?_ ?_<;>intro hc<;>(try simp only [go_sem] at hc))|(refine qJ ?_ ?_<;>intro hc<;>(try simp only [hc])<;>(try simp only [go_sem] at hc)))
theorem ndRx (b q : Bool) (x : DRm) (h : x.ok) : DCall Tryd.prog 108 [.c (.sl b 3 (rows eDr [x])), .c (.fn (.func 73) [] [.ro q [.fn (.func 69) [] []] 0])] [] (dI (-1)) [] := by
 have hcall := ndR3 x h q
 refine DCall.of Tryd.func108 sf108 hb108 (Nat.le_of_ble_eq_true rfl) (okRes_nil fun _ => rfl) ?_; simp only [s108, idxs, Nat.reduceAdd]
 repeat' (first|(with_reducible first|apply qA|apply qB|apply qC|apply qD|apply qE|apply qF)|(simp (disch:=omega) only [go_sem, simprocAttr, qN, qO, qP, qQ])|exact qM rfl rfl rfl|(refine qG rfl ?_)|(refine qH rfl ?_)|(refine qI rfl ?_ ?_<;>intro hc<;>(try simp only [go_sem] at hc))|(refine qJ ?_ ?_<;>intro hc<;>(try simp only [hc])<;>(try simp only [go_sem] at hc)))
 refine DW.loop (ι := { i : Nat // i ≤ 1 }) (fun i => ⟨19, [(8, dI i.1), (7, dI 1), (1, .c (.fn (.func 73) [] [.ro q [.fn (.func 69) [] []] 0])), (0, .c (.sl b 3 (rows eDr [x])))], []⟩) (fun i => 1 - i.1) ⟨0, Nat.zero_le _⟩ ?_ ?_
 ·refine Ent.to ?_ ?_ <;> simp (disch:=omega) only [qR,qS,qTw,qU,get,Nat.reduceEqDiff,↓reduceIte,qV,qW,qX,qY,qZ,and_self,dI,i64_in,and_true,true_and,rA,rB,rC,rD]
  all_goals exact .refl _
 rintro ⟨i, hi⟩
 dsimp only
 rcases (by omega : i = 0 ∨ i = 1) with rfl | rfl
 ·repeat' (first|(with_reducible first|apply qA|apply qB|apply qC|apply qD|apply qE|apply qF)|(simp (disch:=omega) only [go_sem, simprocAttr, qN, qO, qP, qQ, closeDs_fn, rF, rG])|exact qM rfl rfl rfl|(refine qG rfl ?_)|(refine qH rfl ?_)|(refine qI rfl ?_ ?_<;>intro hc<;>(try simp only [go_sem] at hc))|(refine qJ ?_ ?_<;>intro hc<;>(try simp only [hc])<;>(try simp only [go_sem] at hc)))
  refine call_c hcall (by decide) ?_
  simp (disch:=omega) only [go_sem,simprocAttr,qN,qO,qP,qQ]
  repeat' (first|(with_reducible first|apply qA|apply qB|apply qC|apply qD|apply qE|apply qF)|(simp (disch:=omega) only [go_sem, simprocAttr, qN, qO, qP, qQ])|exact qM rfl rfl rfl|(refine qG rfl ?_)|(refine qH rfl ?_)|(refine qI rfl ?_ ?_<;>intro hc<;>(try simp only [go_sem] at hc))|(refine qJ ?_ ?_<;>intro hc<;>(try simp only [hc])<;>(try simp only [go_sem] at hc)))
  refine ⟨⟨1, by omega⟩, ?_, Ent.to ?_ ?_⟩ <;> first | (show _ < _; (try simp only); omega) | (simp (disch:=omega) only [qR,qS,qTw,qU,get,Nat.reduceEqDiff,↓reduceIte,qV,qW,qX,qY,qZ,and_self,dI,i64_in,and_true,true_and,rA,rB,rC,rD])
  all_goals exact .refl _
 ·repeat' (first|(with_reducible first|apply qA|apply qB|apply qC|apply qD|apply qE|apply qF)|(simp (disch:=omega) only [go_sem, simprocAttr, qN, qO, qP, qQ])|exact qM rfl rfl rfl|(refine qG rfl ?_)|(refine qH rfl ?_)|(refine qI rfl ?_ ?_<;>intro hc<;>(try simp only [go_sem] at hc))|(refine qJ ?_ ?_<;>intro hc<;>(try simp only [hc])<;>(try simp only [go_sem] at hc)))
theorem ndIc (b q : Bool) (x : DIt) (h : x.ok) : DCall Tryd.prog 70 [.c (.sl b 5 (rows eDi [x])), .c (.fn (.func 71) [] [.ro q [.fn (.func 68) [] []] 0])] [] (bD false) [] := by
 refine DCall.of Tryd.func70 sf70 hb70 (Nat.le_of_ble_eq_true rfl) (okRes_nil fun _ => rfl) ?_; simp only [s70, idxs, Nat.reduceAdd]
 repeat' (first|(with_reducible first|apply qA|apply qB|apply qC|apply qD|apply qE|apply qF)|(simp (disch:=omega) only [go_sem, simprocAttr, qN, qO, qP, qQ])|exact qM rfl rfl rfl|(refine qG rfl ?_)|(refine qH rfl ?_)|(refine qI rfl ?_ ?_<;>intro hc<;>(try simp only [go_sem] at hc))|(refine qJ ?_ ?_<;>intro hc<;>(try simp only [hc])<;>(try simp only [go_sem] at hc)))
 (refine call_c (ndIx b q x h) (by decide) ?_; simp (disch:=omega) only [go_sem,simprocAttr,qN,qO,qP,qQ])
 repeat' (first|(with_reducible first|apply qA|apply qB|apply qC|apply qD|apply qE|apply qF)|(simp (disch:=omega) only [go_sem, simprocAttr, qN, qO, qP, qQ])|exact qM rfl rfl rfl|(refine qG rfl ?_)|(refine qH rfl ?_)|(refine qI rfl ?_ ?_<;>intro hc<;>(try simp only [go_sem] at hc))|(refine qJ ?_ ?_<;>intro hc<;>(try simp only [hc])<;>(try simp only [go_sem] at hc)))
theorem ndRc (b q : Bool) (x : DRm) (h : x.ok) : DCall Tryd.prog 72 [.c (.sl b 3 (rows eDr [x])), .c (.fn (.func 73) [] [.ro q [.fn (.func 69) [] []] 0])] [] (bD false) [] := by
 refine DCall.of Tryd.func72 sf72 hb72 (Nat.le_of_ble_eq_true rfl) (okRes_nil fun _ => rfl) ?_; simp only [s72, idxs, Nat.reduceAdd]
 repeat' (first|(with_reducible first|apply qA|apply qB|apply qC|apply qD|apply qE|apply qF)|(simp (disch:=omega) only [go_sem, simprocAttr, qN, qO, qP, qQ])|exact qM rfl rfl rfl|(refine qG rfl ?_)|(refine qH rfl ?_)|(refine qI rfl ?_ ?_<;>intro hc<;>(try simp only [go_sem] at hc))|(refine qJ ?_ ?_<;>intro hc<;>(try simp only [hc])<;>(try simp only [go_sem] at hc)))
 (refine call_c (ndRx b q x h) (by decide) ?_; simp (disch:=omega) only [go_sem,simprocAttr,qN,qO,qP,qQ])
 repeat' (first|(with_reducible first|apply qA|apply qB|apply qC|apply qD|apply qE|apply qF)|(simp (disch:=omega) only [go_sem, simprocAttr, qN, qO, qP, qQ])|exact qM rfl rfl rfl|(refine qG rfl ?_)|(refine qH rfl ?_)|(refine qI rfl ?_ ?_<;>intro hc<;>(try simp only [go_sem] at hc))|(refine qJ ?_ ?_<;>intro hc<;>(try simp only [hc])<;>(try simp only [go_sem] at hc)))
abbrev depBs (m p : Nat) : List (Nat × Blk) := [(39, .box [.c (.sl false 1 (rows eU6 [m])), .c (.sl false 1 (rows eI [(p : Int)]))])]
theorem depBs_ok (m p : Nat) : okRes (.tup [.box 39 0, dI 0]) (depBs m p) := by
 have hg : ∀ j, get j (depBs m p) = none → j ≠ 39 := fun j hj => by rintro rfl; cases hj
 refine ⟨fun j hj => ?_, fun i x hi j hj => ?_⟩
 ·have h1 := hg j hj
  simp only [D.men, D.mens, Bool.or_false, beq_eq_false_iff_ne]
  omega
 ·have := get_mem hi
  simp only [List.mem_cons, Prod.mk.injEq, List.not_mem_nil, or_false] at this
  obtain ⟨_, rfl⟩ := this
  rfl
def mL1 (m : Nat) : Nat → List Nat
 | 0 => []
 | _ => [m]
def mU1 (m : Nat) : Nat → Nat
 | 0 => 0
 | _ => m
def mP1 (p : Int) : Nat → List Int
 | 0 => []
 | _ => [p]
theorem mL10 (m : Nat) : mL1 m 0 = [] := rfl
theorem mL11 (m : Nat) : mL1 m 1 = [m] := rfl
theorem mU10 (m : Nat) : mU1 m 0 = 0 := rfl
theorem mU11 (m : Nat) : mU1 m 1 = m := rfl
theorem mP10 (p : Int) : mP1 p 0 = [] := rfl
theorem mP11 (p : Int) : mP1 p 1 = [p] := rfl
def mayN (u d : Int) (x : DIt) (r : DRm) : Nat := if x.h ≤ (hrsN u d x.s r.m x.l 500 0 : Nat) then 1 else 0
set_option maxHeartbeats 8000000 in
theorem ndDepot (b1 b2 : Bool) (u d : Int) (hr : (0 ≤ u ∧ u ≤ 50) ∧ 0 ≤ d ∧ d ≤ 50) (x : DIt) (hx : x.ok) (hin : x.l.1 ≤ x.s.1 ∧ x.s.2 ≤ x.l.2) (r : DRm) (hrm : r.ok) (p : Nat) (hp : r.p = p) :
  DCall Tryd.prog 34 [.agg [dI u, dI d], .c (.sl b1 5 (rows eDi [x])), .c (.sl b2 3 (rows eDr [r]))] [] (.tup [.box 39 0, dI 0]) (depBs (mayN u d x r) p) := by
 have h1 := dmRule u d hr
 have h2 := ndIc b1 true x hx
 have h3 := ndRc b2 true r hrm
 have h4 := dmHours u d hr x.s r.m x.l hx.s hrm.m hx.l hin
 refine DCall.of Tryd.func34 sf34 hb34 (Nat.le_of_ble_eq_true rfl) (depBs_ok _ _) ?_
 simp only [s34, o34_0, o34_1, o34_2, o34_3, o34_4, o34_5, o34_6, o34_7, o34_8, o34_9, o34_10, o34_11, idxs, Nat.reduceAdd]
 repeat' (first|(with_reducible first|apply qA|apply qB|apply qC|apply qD|apply qE|apply qF)|(refine DW.ord rfl (WF.of (by first|rfl|simp (disch:=omega) only [go_sem, simprocAttr, qN, qO, qP, qQ])) ?_ ?_ ?_; rotate_left)|rfl|(with_reducible refine And.intro ?_ ?_)|(simp (disch:=omega) only [go_sem, simprocAttr, qN, qO, qP, qQ])|exact qM rfl rfl rfl|(refine qG rfl ?_)|(refine qK (h1) (by decide) ?_)|(refine qK (h2) (by decide) ?_)|(refine qK (h3) (by decide) ?_)|(refine qH rfl ?_)|(refine qI rfl ?_ ?_<;>intro hc<;>(try simp only [go_sem] at hc))|(refine qJ ?_ ?_<;>intro hc<;>(try simp only [hc])<;>(try simp only [go_sem] at hc)))
 clear h1 h2 h3
 (refine DW.ent (Ent.adoptB 39 0 84 1 rfl rfl rfl rfl) ?_; simp only [ins, Nat.reduceLT, Nat.reduceEqDiff, ↓reduceIte, List.set_cons_zero, List.set_cons_succ])
 (refine DW.ent (Ent.adoptB 39 1 102 1 rfl rfl rfl rfl) ?_; simp only [ins, Nat.reduceLT, Nat.reduceEqDiff, ↓reduceIte, List.set_cons_zero, List.set_cons_succ])
 obtain ⟨n, hn⟩ : ∃ n : Nat, hrsN u d x.s r.m x.l 500 0 = n := ⟨_, rfl⟩
 rw [hn] at h4
 have hm : mayN u d x r = if x.h ≤ (n : Int) then 1 else 0 := by unfold mayN; rw [hn]
 generalize mayN u d x r = m at *
 have hxh := hx.h
 have o1 : orI IntKind.u64 0 1 = 1 := by decide
 have o2 : shlI IntKind.u64 1 0 = 1 := by decide
 refine DW.loop (ι := { i : Nat // i ≤ 1 }) (fun i => ⟨107, [(42, dI i.1), (41, dI 1), (40, .c (.sl b1 5 (rows eDi [x]))), (10, .box 39 0), (3, .box 3 0), (2, .c (.sl b2 3 (rows eDr [r]))), (7, dI 0)], [(102, .row 1 (rowC (rows eI []))), (84, .row 1 (rowC (rows eU6 (mL1 m i.1)))), (39, .box [.own 84, .own 102]), (3, .box [dI u, dI d])]⟩) (fun i => 1 - i.1) ⟨0, Nat.zero_le _⟩ ?_ ?_
 ·refine Ent.to ?_ ?_ <;> simp (disch:=omega) only [qR,qS,qTw,qU,get,Nat.reduceEqDiff,↓reduceIte,qV,qW,qX,qY,qZ,and_self,dI,i64_in,and_true,true_and,rA,rB,rC,rD,mL10]
  all_goals first | exact .refl _ | exact ⟨.refl _, .refl _⟩ | exact ⟨.refl _, .refl _, .refl _⟩ | exact ⟨.refl _, .refl _, .refl _, .refl _⟩
 rintro ⟨i, hi⟩
 dsimp only
 rcases (by omega : i = 0 ∨ i = 1) with rfl | rfl
 ·repeat' (first|(with_reducible first|apply qA|apply qB|apply qC|apply qD|apply qE|apply qF)|(refine DW.ord rfl (WF.of (by first|rfl|simp (disch:=omega) only [go_sem, simprocAttr, qN, qO, qP, qQ, mL10])) ?_ ?_ ?_; rotate_left)|rfl|(with_reducible refine And.intro ?_ ?_)|(simp (disch:=omega) only [go_sem, simprocAttr, qN, qO, qP, qQ, mL10])|exact qM rfl rfl rfl|(refine qG rfl ?_)|(refine qH rfl ?_)|(refine qI rfl ?_ ?_<;>intro hc<;>(try simp only [go_sem] at hc))|(refine qJ ?_ ?_<;>intro hc<;>(try simp only [hc])<;>(try simp only [go_sem] at hc)))
  refine DW.loop (ι := { i : Nat // i ≤ 1 }) (fun i => ⟨107, [(48, dI i.1), (47, dI 1), (46, .c (.sl b2 3 (rows eDr [r]))), (42, dI 0), (41, dI 1), (40, .c (.sl b1 5 (rows eDi [x]))), (13, dU (mU1 m i.1)), (12, .box 12 0), (10, .box 39 0), (3, .box 3 0), (2, .c (.sl b2 3 (rows eDr [r]))), (7, dI 0)], [(102, .row 1 (rowC (rows eI []))), (84, .row 1 (rowC (rows eU6 []))), (39, .box [.own 84, .own 102]), (12, .box [dI x.s.1, dI x.s.2, dI x.l.1, dI x.l.2, dI x.h]), (3, .box [dI u, dI d])]⟩) (fun i => 1 - i.1) ⟨0, Nat.zero_le _⟩ ?_ ?_
  ·refine Ent.to ?_ ?_ <;> simp (disch:=omega) only [qR,qS,qTw,qU,get,Nat.reduceEqDiff,↓reduceIte,qV,qW,qX,qY,qZ,and_self,dI,i64_in,and_true,true_and,rA,rB,rC,rD,mL10,mU10]
   all_goals first | exact .refl _ | exact ⟨.refl _, .refl _⟩ | exact ⟨.refl _, .refl _, .refl _⟩ | exact ⟨.refl _, .refl _, .refl _, .refl _⟩
  rintro ⟨i, hi⟩
  dsimp only
  rcases (by omega : i = 0 ∨ i = 1) with rfl | rfl
  ·by_cases hc : x.h ≤ (n : Int)
   ·have hm1 : m = 1 := by rw [hm, if_pos hc]
    have hd : decide (x.h ≤ (n : Int)) = true := decide_eq_true hc
    repeat' (first|(with_reducible first|apply qA|apply qB|apply qC|apply qD|apply qE|apply qF)|(refine DW.ord rfl (WF.of (by first|rfl|simp (disch:=omega) only [go_sem, simprocAttr, qN, qO, qP, qQ, mU10, hd, o1, o2, rF, rG])) ?_ ?_ ?_; rotate_left)|rfl|(with_reducible refine And.intro ?_ ?_)|(simp (disch:=omega) only [go_sem, simprocAttr, qN, qO, qP, qQ, mU10, hd, o1, o2, rF, rG])|exact qM rfl rfl rfl|(refine qG rfl ?_)|(refine qK (h4) (by decide) ?_)|(refine qH rfl ?_)|(refine qI rfl ?_ ?_<;>intro hc<;>(try simp only [go_sem] at hc))|(refine qJ ?_ ?_<;>intro hc<;>(try simp only [hc])<;>(try simp only [go_sem] at hc)))
    refine ⟨⟨1, by omega⟩, ?_, Ent.to ?_ ?_⟩ <;> first | (show _ < _; (try simp only); omega) | (simp (disch:=omega) only [qR,qS,qTw,qU,get,Nat.reduceEqDiff,↓reduceIte,qV,qW,qX,qY,qZ,and_self,dI,i64_in,and_true,true_and,rA,rB,rC,rD, mU11,hm1])
    all_goals first | exact .refl _ | exact ⟨.refl _, .refl _⟩ | exact ⟨.refl _, .refl _, .refl _⟩ | exact ⟨.refl _, .refl _, .refl _, .refl _⟩
   ·have hm1 : m = 0 := by rw [hm, if_neg hc]
    have hd : decide (x.h ≤ (n : Int)) = false := decide_eq_false hc
    repeat' (first|(with_reducible first|apply qA|apply qB|apply qC|apply qD|apply qE|apply qF)|(refine DW.ord rfl (WF.of (by first|rfl|simp (disch:=omega) only [go_sem, simprocAttr, qN, qO, qP, qQ, mU10, hd, o1, o2, rF, rG])) ?_ ?_ ?_; rotate_left)|rfl|(with_reducible refine And.intro ?_ ?_)|(simp (disch:=omega) only [go_sem, simprocAttr, qN, qO, qP, qQ, mU10, hd, o1, o2, rF, rG])|exact qM rfl rfl rfl|(refine qG rfl ?_)|(refine qK (h4) (by decide) ?_)|(refine qH rfl ?_)|(refine qI rfl ?_ ?_<;>intro hc<;>(try simp only [go_sem] at hc))|(refine qJ ?_ ?_<;>intro hc<;>(try simp only [hc])<;>(try simp only [go_sem] at hc)))
    refine ⟨⟨1, by omega⟩, ?_, Ent.to ?_ ?_⟩ <;> first | (show _ < _; (try simp only); omega) | (simp (disch:=omega) only [qR,qS,qTw,qU,get,Nat.reduceEqDiff,↓reduceIte,qV,qW,qX,qY,qZ,and_self,dI,i64_in,and_true,true_and,rA,rB,rC,rD, mU11,hm1])
    all_goals first | exact .refl _ | exact ⟨.refl _, .refl _⟩ | exact ⟨.refl _, .refl _, .refl _⟩ | exact ⟨.refl _, .refl _, .refl _, .refl _⟩
  ·repeat' (first|(with_reducible first|apply qA|apply qB|apply qC|apply qD|apply qE|apply qF)|(refine DW.ord rfl (WF.of (by first|rfl|simp (disch:=omega) only [go_sem, simprocAttr, qN, qO, qP, qQ, mU11])) ?_ ?_ ?_; rotate_left)|rfl|(with_reducible refine And.intro ?_ ?_)|(simp (disch:=omega) only [go_sem, simprocAttr, qN, qO, qP, qQ, mU11])|exact qM rfl rfl rfl|(refine qG rfl ?_)|(refine qH rfl ?_)|(refine qI rfl ?_ ?_<;>intro hc<;>(try simp only [go_sem] at hc))|(refine qJ ?_ ?_<;>intro hc<;>(try simp only [hc])<;>(try simp only [go_sem] at hc)))
   refine ⟨⟨1, by omega⟩, ?_, Ent.to ?_ ?_⟩ <;> first | (show _ < _; (try simp only); omega) | (simp (disch:=omega) only [qR,qS,qTw,qU,get,Nat.reduceEqDiff,↓reduceIte,qV,qW,qX,qY,qZ,and_self,dI,i64_in,and_true,true_and,rA,rB,rC,rD, mL11])
   all_goals first | exact .refl _ | exact ⟨.refl _, .refl _⟩ | exact ⟨.refl _, .refl _, .refl _⟩ | exact ⟨.refl _, .refl _, .refl _, .refl _⟩
 ·repeat' (first|(with_reducible first|apply qA|apply qB|apply qC|apply qD|apply qE|apply qF)|(refine DW.ord rfl (WF.of (by first|rfl|simp (disch:=omega) only [go_sem, simprocAttr, qN, qO, qP, qQ, mL11])) ?_ ?_ ?_; rotate_left)|rfl|(with_reducible refine And.intro ?_ ?_)|(simp (disch:=omega) only [go_sem, simprocAttr, qN, qO, qP, qQ, mL11])|exact qM rfl rfl rfl|(refine qG rfl ?_)|(refine qH rfl ?_)|(refine qI rfl ?_ ?_<;>intro hc<;>(try simp only [go_sem] at hc))|(refine qJ ?_ ?_<;>intro hc<;>(try simp only [hc])<;>(try simp only [go_sem] at hc)))
  refine DW.loop (ι := { i : Nat // i ≤ 1 }) (fun i => ⟨107, [(90, dI i.1), (89, dI 1), (88, .c (.sl b2 3 (rows eDr [r]))), (10, .box 39 0), (3, .box 3 0), (2, .c (.sl b2 3 (rows eDr [r]))), (7, dI 0)], [(102, .row 1 (rowC (rows eI (mP1 (p : Int) i.1)))), (84, .row 1 (rowC (rows eU6 [m]))), (39, .box [.own 84, .own 102]), (3, .box [dI u, dI d])]⟩) (fun i => 1 - i.1) ⟨0, Nat.zero_le _⟩ ?_ ?_
  ·refine Ent.to ?_ ?_ <;> simp (disch:=omega) only [qR,qS,qTw,qU,get,Nat.reduceEqDiff,↓reduceIte,qV,qW,qX,qY,qZ,and_self,dI,i64_in,and_true,true_and,rA,rB,rC,rD,mL11,mP10]
   all_goals first | exact .refl _ | exact ⟨.refl _, .refl _⟩ | exact ⟨.refl _, .refl _, .refl _⟩ | exact ⟨.refl _, .refl _, .refl _, .refl _⟩
  rintro ⟨i, hi⟩
  dsimp only
  rcases (by omega : i = 0 ∨ i = 1) with rfl | rfl
  ·repeat' (first|(with_reducible first|apply qA|apply qB|apply qC|apply qD|apply qE|apply qF)|(refine DW.ord rfl (WF.of (by first|rfl|simp (disch:=omega) only [go_sem, simprocAttr, qN, qO, qP, qQ, mP10, hp, rF, rG])) ?_ ?_ ?_; rotate_left)|rfl|(with_reducible refine And.intro ?_ ?_)|(simp (disch:=omega) only [go_sem, simprocAttr, qN, qO, qP, qQ, mP10, hp, rF, rG])|exact qM rfl rfl rfl|(refine qG rfl ?_)|(refine qH rfl ?_)|(refine qI rfl ?_ ?_<;>intro hc<;>(try simp only [go_sem] at hc))|(refine qJ ?_ ?_<;>intro hc<;>(try simp only [hc])<;>(try simp only [go_sem] at hc)))
   refine ⟨⟨1, by omega⟩, ?_, Ent.to ?_ ?_⟩ <;> first | (show _ < _; (try simp only); omega) | (simp (disch:=omega) only [qR,qS,qTw,qU,get,Nat.reduceEqDiff,↓reduceIte,qV,qW,qX,qY,qZ,and_self,dI,i64_in,and_true,true_and,rA,rB,rC,rD, mP11])
   all_goals first | exact .refl _ | exact ⟨.refl _, .refl _⟩ | exact ⟨.refl _, .refl _, .refl _⟩ | exact ⟨.refl _, .refl _, .refl _, .refl _⟩
  ·repeat' (first|(with_reducible first|apply qA|apply qB|apply qC|apply qD|apply qE|apply qF)|(refine DW.ord rfl (WF.of (by first|rfl|simp (disch:=omega) only [go_sem, simprocAttr, qN, qO, qP, qQ, mP11])) ?_ ?_ ?_; rotate_left)|rfl|(with_reducible refine And.intro ?_ ?_)|(simp (disch:=omega) only [go_sem, simprocAttr, qN, qO, qP, qQ, mP11])|exact qM rfl rfl rfl|(refine qG rfl ?_)|(refine qH rfl ?_)|(refine qI rfl ?_ ?_<;>intro hc<;>(try simp only [go_sem] at hc))|(refine qJ ?_ ?_<;>intro hc<;>(try simp only [hc])<;>(try simp only [go_sem] at hc)))
   (refine retS_ent (Ent.rel 84 rfl) ?_; simp (disch:=omega) only [go_sem,simprocAttr,qN,qO,qP,qQ])
   (refine retS_ent (Ent.rel 102 rfl) ?_; simp (disch:=omega) only [go_sem,simprocAttr,qN,qO,qP,qQ])
   refine retS_bs rfl rfl rfl (get_all (p := fun k x => get k _ = some x ∧ x.nb = true) ?_)
   intro q hq
   simp only [List.mem_cons, Prod.mk.injEq, List.not_mem_nil, or_false] at hq
   obtain ⟨rfl, rfl⟩ := hq
   exact ⟨rfl, (by simp only [List.all_cons, List.all_nil, Blk.nb, rowC_nb, D.nb, D.nbs, C.nb, C.nbs, C.nbss, rows_nb eI_nb, Bool.and_true, Bool.not_false, Bool.and_self, bD, dI, iD, rows_nb eI_nb, rows_nb eU6_nb, rows_nb eDi_nb, rows_nb eDr_nb])⟩
end Go.Dw.Seat.Cr
end
section
set_option linter.unusedSimpArgs false
set_option maxRecDepth 100000
namespace Go.Dw.Seat.Cr
open Go Go.Dw Go.Proofs Go.IntWalk
def agR : Nat → D
 | 0 => .c (.v (.slice none 0 0))
 | 1 => .c (.v (.slice none 0 0))
 | _ => dIs false [0]
theorem agR0 : agR 0 = .c (.v (.slice none 0 0)) := rfl
theorem agR1 : agR 1 = .c (.v (.slice none 0 0)) := rfl
theorem agR2 : agR 2 = dIs false [0] := rfl
set_option maxHeartbeats 8000000 in
theorem dsAgainst1 (b1 b2 : Bool) (u d : Int) (hr : (0 ≤ u ∧ u ≤ 50) ∧ 0 ≤ d ∧ d ≤ 50) (x : DIt) (hx : x.ok) (hin : x.l.1 ≤ x.s.1 ∧ x.s.2 ≤ x.l.2) (r : DRm) (hrm : r.ok) (hp : r.p = 1) (hm : mayN u d x r = 1) :
  DCall Tryd.prog 9 [.agg [dI u, dI d], .c (.sl b1 5 (rows eDi [x])), .c (.sl b2 3 (rows eDr [r]))] [] (.tup [.c (.v (.slice none 0 0)), dI 7]) [] := by
 have h1 := ndDepot b1 b2 u d hr x hx hin r hrm 1 hp
 rw [hm] at h1
 have f0 := dsFitsL 1 1 1 0 (by decide) (.inr rfl) (.inl rfl) true false
 have f1 := dsFitsL 1 1 1 1 (by decide) (.inr rfl) (.inr rfl) true false
 rw [show fitB 1 1 0 = true from rfl] at f0
 rw [show fitB 1 1 1 = true from rfl] at f1
 have cc := dsCollect 1 (by decide)
 rw [show nL (bitsL 1) = [0] from by decide] at cc
 refine DCall.of Tryd.func9 sf9 hb9 (Nat.le_of_ble_eq_true rfl) (okRes_nil fun _ => rfl) ?_; simp only [s9, idxs, Nat.reduceAdd]
 repeat' (first|(with_reducible first|apply qA|apply qB|apply qC|apply qD|apply qE|apply qF)|(simp (disch:=omega) only [go_sem, simprocAttr, qN, qO, qP, qQ])|exact qM rfl rfl rfl|(refine qG rfl ?_)|(refine qH rfl ?_)|(refine qI rfl ?_ ?_<;>intro hc<;>(try simp only [go_sem] at hc))|(refine qJ ?_ ?_<;>intro hc<;>(try simp only [hc])<;>(try simp only [go_sem] at hc)))
 refine call_b h1 ⟨trivial, rfl, rfl, rfl⟩ (by decide) ?_
 simp only [St.addBs, St.putB, St.putO, St.put]
 simp (disch:=omega) only [go_sem,simprocAttr,qN,qO,qP,qQ]
 repeat' (first|(with_reducible first|apply qA|apply qB|apply qC|apply qD|apply qE|apply qF)|(simp (disch:=omega) only [go_sem, simprocAttr, qN, qO, qP, qQ, sh_1])|exact qM rfl rfl rfl|(refine qG rfl ?_)|(refine qH rfl ?_)|(refine qI rfl ?_ ?_<;>intro hc<;>(try simp only [go_sem] at hc))|(refine qJ ?_ ?_<;>intro hc<;>(try simp only [hc])<;>(try simp only [go_sem] at hc)))
 refine DW.loop (ι := { i : Nat // i ≤ 2 }) (fun i => ⟨64, [(24, dU i.1), (23, dU 2), (8, .box 39 0), (6, .c (.v (.slice none 0 0))), (7, dI 0)], [(39, .box [.c (.sl false 1 (rows eU6 [1])), .c (.sl false 1 (rows eI [1]))])]⟩) (fun i => 2 - i.1) ⟨0, Nat.zero_le _⟩ ?_ ?_
 ·refine Ent.to ?_ ?_ <;> simp (disch:=omega) only [qR,qS,qTw,qU,get,Nat.reduceEqDiff,↓reduceIte,qV,qW,qX,qY,qZ,and_self,dI,i64_in,and_true,true_and,rA,rB,rC,rD]
  all_goals first | exact .refl _ | exact ⟨.refl _, .refl _⟩ | exact ⟨.refl _, .refl _, .refl _⟩ | exact ⟨.refl _, .refl _, .refl _, .refl _⟩
 rintro ⟨i, hi⟩
 dsimp only
 rcases (by omega : i = 0 ∨ i = 1 ∨ i = 2) with rfl | rfl | rfl
 ·repeat' (first|(with_reducible first|apply qA|apply qB|apply qC|apply qD|apply qE|apply qF)|(simp (disch:=omega) only [go_sem, simprocAttr, qN, qO, qP, qQ])|exact qM rfl rfl rfl|(refine qG rfl ?_)|(refine qK (f0) (by decide) ?_)|(refine qH rfl ?_)|(refine qI rfl ?_ ?_<;>intro hc<;>(try simp only [go_sem] at hc))|(refine qJ ?_ ?_<;>intro hc<;>(try simp only [hc])<;>(try simp only [go_sem] at hc)))
  refine ⟨⟨1, by omega⟩, ?_, Ent.to ?_ ?_⟩ <;> first | (show _ < _; (try simp only); omega) | (simp (disch:=omega) only [qR,qS,qTw,qU,get,Nat.reduceEqDiff,↓reduceIte,qV,qW,qX,qY,qZ,and_self,dI,i64_in,and_true,true_and,rA,rB,rC,rD])
  all_goals first | exact .refl _ | exact ⟨.refl _, .refl _⟩ | exact ⟨.refl _, .refl _, .refl _⟩ | exact ⟨.refl _, .refl _, .refl _, .refl _⟩
 ·repeat' (first|(with_reducible first|apply qA|apply qB|apply qC|apply qD|apply qE|apply qF)|(simp (disch:=omega) only [go_sem, simprocAttr, qN, qO, qP, qQ])|exact qM rfl rfl rfl|(refine qG rfl ?_)|(refine qK (f1) (by decide) ?_)|(refine qH rfl ?_)|(refine qI rfl ?_ ?_<;>intro hc<;>(try simp only [go_sem] at hc))|(refine qJ ?_ ?_<;>intro hc<;>(try simp only [hc])<;>(try simp only [go_sem] at hc)))
  refine ⟨⟨2, by omega⟩, ?_, Ent.to ?_ ?_⟩ <;> first | (show _ < _; (try simp only); omega) | (simp (disch:=omega) only [qR,qS,qTw,qU,get,Nat.reduceEqDiff,↓reduceIte,qV,qW,qX,qY,qZ,and_self,dI,i64_in,and_true,true_and,rA,rB,rC,rD])
  all_goals first | exact .refl _ | exact ⟨.refl _, .refl _⟩ | exact ⟨.refl _, .refl _, .refl _⟩ | exact ⟨.refl _, .refl _, .refl _, .refl _⟩
 ·repeat' (first|(with_reducible first|apply qA|apply qB|apply qC|apply qD|apply qE|apply qF)|(simp (disch:=omega) only [go_sem, simprocAttr, qN, qO, qP, qQ, Option.isNone])|exact qM rfl rfl rfl|(refine qG rfl ?_)|(refine qH rfl ?_)|(refine qI rfl ?_ ?_<;>intro hc<;>(try simp only [go_sem] at hc))|(refine qJ ?_ ?_<;>intro hc<;>(try simp only [hc])<;>(try simp only [go_sem] at hc)))
set_option maxHeartbeats 8000000 in
theorem dsAgainst0 (b1 b2 : Bool) (u d : Int) (hr : (0 ≤ u ∧ u ≤ 50) ∧ 0 ≤ d ∧ d ≤ 50) (x : DIt) (hx : x.ok) (hin : x.l.1 ≤ x.s.1 ∧ x.s.2 ≤ x.l.2) (r : DRm) (hrm : r.ok) (hp : r.p = 1) (hm : mayN u d x r = 0) :
  DCall Tryd.prog 9 [.agg [dI u, dI d], .c (.sl b1 5 (rows eDi [x])), .c (.sl b2 3 (rows eDr [r]))] [] (.tup [dIs false [0], dI 0]) [] := by
 have h1 := ndDepot b1 b2 u d hr x hx hin r hrm 1 hp
 rw [hm] at h1
 have f0 := dsFitsL 0 1 1 0 (by decide) (.inr rfl) (.inl rfl) true false
 have f1 := dsFitsL 0 1 1 1 (by decide) (.inr rfl) (.inr rfl) true false
 rw [show fitB 0 1 0 = true from rfl] at f0
 rw [show fitB 0 1 1 = false from rfl] at f1
 have cc := dsCollect 1 (by decide)
 rw [show nL (bitsL 1) = [0] from by decide] at cc
 refine DCall.of Tryd.func9 sf9 hb9 (Nat.le_of_ble_eq_true rfl) (okRes_nil fun _ => rfl) ?_; simp only [s9, idxs, Nat.reduceAdd]
 repeat' (first|(with_reducible first|apply qA|apply qB|apply qC|apply qD|apply qE|apply qF)|(simp (disch:=omega) only [go_sem, simprocAttr, qN, qO, qP, qQ])|exact qM rfl rfl rfl|(refine qG rfl ?_)|(refine qH rfl ?_)|(refine qI rfl ?_ ?_<;>intro hc<;>(try simp only [go_sem] at hc))|(refine qJ ?_ ?_<;>intro hc<;>(try simp only [hc])<;>(try simp only [go_sem] at hc)))
 refine call_b h1 ⟨trivial, rfl, rfl, rfl⟩ (by decide) ?_
 simp only [St.addBs, St.putB, St.putO, St.put]
 simp (disch:=omega) only [go_sem,simprocAttr,qN,qO,qP,qQ]
 repeat' (first|(with_reducible first|apply qA|apply qB|apply qC|apply qD|apply qE|apply qF)|(simp (disch:=omega) only [go_sem, simprocAttr, qN, qO, qP, qQ, sh_1])|exact qM rfl rfl rfl|(refine qG rfl ?_)|(refine qH rfl ?_)|(refine qI rfl ?_ ?_<;>intro hc<;>(try simp only [go_sem] at hc))|(refine qJ ?_ ?_<;>intro hc<;>(try simp only [hc])<;>(try simp only [go_sem] at hc)))
 refine DW.loop (ι := { i : Nat // i ≤ 2 }) (fun i => ⟨64, [(24, dU i.1), (23, dU 2), (8, .box 39 0), (6, agR i.1), (7, dI 0)], [(39, .box [.c (.sl false 1 (rows eU6 [0])), .c (.sl false 1 (rows eI [1]))])]⟩) (fun i => 2 - i.1) ⟨0, Nat.zero_le _⟩ ?_ ?_
 ·refine Ent.to ?_ ?_ <;> simp (disch:=omega) only [qR,qS,qTw,qU,get,Nat.reduceEqDiff,↓reduceIte,qV,qW,qX,qY,qZ,and_self,dI,i64_in,and_true,true_and,rA,rB,rC,rD,agR0]
  all_goals first | exact .refl _ | exact ⟨.refl _, .refl _⟩ | exact ⟨.refl _, .refl _, .refl _⟩ | exact ⟨.refl _, .refl _, .refl _, .refl _⟩
 rintro ⟨i, hi⟩
 dsimp only
 rcases (by omega : i = 0 ∨ i = 1 ∨ i = 2) with rfl | rfl | rfl
 ·repeat' (first|(with_reducible first|apply qA|apply qB|apply qC|apply qD|apply qE|apply qF)|(simp (disch:=omega) only [go_sem, simprocAttr, qN, qO, qP, qQ, agR0])|exact qM rfl rfl rfl|(refine qG rfl ?_)|(refine qK (f0) (by decide) ?_)|(refine qH rfl ?_)|(refine qI rfl ?_ ?_<;>intro hc<;>(try simp only [go_sem] at hc))|(refine qJ ?_ ?_<;>intro hc<;>(try simp only [hc])<;>(try simp only [go_sem] at hc)))
  refine ⟨⟨1, by omega⟩, ?_, Ent.to ?_ ?_⟩ <;> first | (show _ < _; (try simp only); omega) | (simp (disch:=omega) only [qR,qS,qTw,qU,get,Nat.reduceEqDiff,↓reduceIte,qV,qW,qX,qY,qZ,and_self,dI,i64_in,and_true,true_and,rA,rB,rC,rD, agR0,agR1])
  all_goals first | exact .refl _ | exact ⟨.refl _, .refl _⟩ | exact ⟨.refl _, .refl _, .refl _⟩ | exact ⟨.refl _, .refl _, .refl _, .refl _⟩
 ·repeat' (first|(with_reducible first|apply qA|apply qB|apply qC|apply qD|apply qE|apply qF)|(simp (disch:=omega) only [go_sem, simprocAttr, qN, qO, qP, qQ, agR1, Option.isNone])|exact qM rfl rfl rfl|(refine qG rfl ?_)|(refine qK (f1) (by decide) ?_)|(refine qK (cc) (by decide) ?_)|(refine qH rfl ?_)|(refine qI rfl ?_ ?_<;>intro hc<;>(try simp only [go_sem] at hc))|(refine qJ ?_ ?_<;>intro hc<;>(try simp only [hc])<;>(try simp only [go_sem] at hc)))
  refine ⟨⟨2, by omega⟩, ?_, Ent.to ?_ ?_⟩ <;> first | (show _ < _; (try simp only); omega) | (simp (disch:=omega) only [qR,qS,qTw,qU,get,Nat.reduceEqDiff,↓reduceIte,qV,qW,qX,qY,qZ,and_self,dI,i64_in,and_true,true_and,rA,rB,rC,rD, agR1,agR2])
  all_goals first | exact .refl _ | exact ⟨.refl _, .refl _⟩ | exact ⟨.refl _, .refl _, .refl _⟩ | exact ⟨.refl _, .refl _, .refl _, .refl _⟩
 ·repeat' (first|(with_reducible first|apply qA|apply qB|apply qC|apply qD|apply qE|apply qF)|(simp (disch:=omega) only [go_sem, simprocAttr, qN, qO, qP, qQ, agR2, rows_cons])|exact qM rfl rfl rfl|(refine qG rfl ?_)|(refine qH rfl ?_)|(refine qI rfl ?_ ?_<;>intro hc<;>(try simp only [go_sem] at hc))|(refine qJ ?_ ?_<;>intro hc<;>(try simp only [hc])<;>(try simp only [go_sem] at hc)))
end Go.Dw.Seat.Cr
end
section
set_option linter.unusedSimpArgs false
set_option maxRecDepth 100000
namespace Go.Dw.Seat.Cr
open Go Go.Dw Go.Proofs Go.IntWalk
def stR : Bool → List Int
 | false => []
 | true => [0]
def stP : Bool → List Int
 | false => [1]
 | true => [0]
set_option maxHeartbeats 8000000 in
theorem dsStore0 (b1 b2 : Bool) (u d : Int) (hr : (0 ≤ u ∧ u ≤ 50) ∧ 0 ≤ d ∧ d ≤ 50) (x : DIt) (hx : x.ok) (hin : x.l.1 ≤ x.s.1 ∧ x.s.2 ≤ x.l.2) (r : DRm) (hrm : r.ok) (hp : r.p = 1) (hm : mayN u d x r = 0) :
  DCall Tryd.prog 8 [.agg [dI u, dI d], .c (.sl b1 5 (rows eDi [x])), .c (.sl b2 3 (rows eDr [r]))] [] (.tup [.c (.v (.slice none 0 0)), dI 9]) [] := by
 have h1 := ndDepot b1 b2 u d hr x hx hin r hrm 1 hp
 rw [hm] at h1
 have f1 := dsFitsL 0 1 1 1 (by decide) (.inr rfl) (.inr rfl) true true
 rw [show fitB 0 1 1 = false from rfl] at f1
 have o0 : IntKind.u64.wrap (2 - 1) = 1 := by decide
 refine DCall.of Tryd.func8 sf8 hb8 (Nat.le_of_ble_eq_true rfl) (okRes_nil fun _ => rfl) ?_; simp only [s8, idxs, Nat.reduceAdd]
 repeat' (first|(with_reducible first|apply qA|apply qB|apply qC|apply qD|apply qE|apply qF)|(refine qL rfl (WF.of ?_) ?_; first|rfl|skip)|(simp (disch:=omega) only [go_sem, simprocAttr, qN, qO, qP, qQ])|exact qM rfl rfl rfl|(refine qG rfl ?_)|(refine qH rfl ?_)|(refine qI rfl ?_ ?_<;>intro hc<;>(try simp only [go_sem] at hc))|(refine qJ ?_ ?_<;>intro hc<;>(try simp only [hc])<;>(try simp only [go_sem] at hc)))
 refine call_b h1 ⟨trivial, rfl, rfl, rfl⟩ (by decide) ?_
 simp only [St.addBs, St.putB, St.putO, St.put]
 simp (disch:=omega) only [go_sem,simprocAttr,qN,qO,qP,qQ]
 repeat' (first|(with_reducible first|apply qA|apply qB|apply qC|apply qD|apply qE|apply qF)|(refine qL rfl (WF.of ?_) ?_; first|rfl|skip)|(simp (disch:=omega) only [go_sem, simprocAttr, qN, qO, qP, qQ, sh_1])|exact qM rfl rfl rfl|(refine qG rfl ?_)|(refine qH rfl ?_)|(refine qI rfl ?_ ?_<;>intro hc<;>(try simp only [go_sem] at hc))|(refine qJ ?_ ?_<;>intro hc<;>(try simp only [hc])<;>(try simp only [go_sem] at hc)))
 (refine call_r (Pa.plCloneI false [1] (by decide) 31) (by decide) (by first | rfl | simp (disch:=omega) only [go_sem,simprocAttr,qN,qO,qP,qQ]) (by first | rfl | simp (disch:=omega) only [go_sem,simprocAttr,qN,qO,qP,qQ]) ?_; simp (disch:=omega) only [go_sem,simprocAttr,qN,qO,qP,qQ])
 repeat' (first|(with_reducible first|apply qA|apply qB|apply qC|apply qD|apply qE|apply qF)|(refine qL rfl (WF.of ?_) ?_; first|rfl|skip)|(simp (disch:=omega) only [go_sem, simprocAttr, qN, qO, qP, qQ, sh_1, o0])|exact qM rfl rfl rfl|(refine qG rfl ?_)|(refine qK (f1) (by decide) ?_)|(refine qH rfl ?_)|(refine qI rfl ?_ ?_<;>intro hc<;>(try simp only [go_sem] at hc))|(refine qJ ?_ ?_<;>intro hc<;>(try simp only [hc])<;>(try simp only [go_sem] at hc)))
set_option maxHeartbeats 8000000 in
theorem dsStore1 (b1 b2 : Bool) (u d : Int) (hr : (0 ≤ u ∧ u ≤ 50) ∧ 0 ≤ d ∧ d ≤ 50) (x : DIt) (hx : x.ok) (hin : x.l.1 ≤ x.s.1 ∧ x.s.2 ≤ x.l.2) (r : DRm) (hrm : r.ok) (hp : r.p = 1) (hm : mayN u d x r = 1) :
  DCall Tryd.prog 8 [.agg [dI u, dI d], .c (.sl b1 5 (rows eDi [x])), .c (.sl b2 3 (rows eDr [r]))] [] (.tup [dIs false [0], dI 0]) [] := by
 have h1 := ndDepot b1 b2 u d hr x hx hin r hrm 1 hp
 rw [hm] at h1
 have f1 := dsFitsL 1 1 1 1 (by decide) (.inr rfl) (.inr rfl) true true
 rw [show fitB 1 1 1 = true from rfl] at f1
 have o0 : IntKind.u64.wrap (2 - 1) = 1 := by decide
 refine DCall.of Tryd.func8 sf8 hb8 (Nat.le_of_ble_eq_true rfl) (okRes_nil fun _ => rfl) ?_; simp only [s8, idxs, Nat.reduceAdd]
 repeat' (first|(with_reducible first|apply qA|apply qB|apply qC|apply qD|apply qE|apply qF)|(refine qL rfl (WF.of ?_) ?_; first|rfl|skip)|(simp (disch:=omega) only [go_sem, simprocAttr, qN, qO, qP, qQ])|exact qM rfl rfl rfl|(refine qG rfl ?_)|(refine qH rfl ?_)|(refine qI rfl ?_ ?_<;>intro hc<;>(try simp only [go_sem] at hc))|(refine qJ ?_ ?_<;>intro hc<;>(try simp only [hc])<;>(try simp only [go_sem] at hc)))
 refine call_b h1 ⟨trivial, rfl, rfl, rfl⟩ (by decide) ?_
 simp only [St.addBs, St.putB, St.putO, St.put]
 simp (disch:=omega) only [go_sem,simprocAttr,qN,qO,qP,qQ]
 repeat' (first|(with_reducible first|apply qA|apply qB|apply qC|apply qD|apply qE|apply qF)|(refine qL rfl (WF.of ?_) ?_; first|rfl|skip)|(simp (disch:=omega) only [go_sem, simprocAttr, qN, qO, qP, qQ, sh_1])|exact qM rfl rfl rfl|(refine qG rfl ?_)|(refine qH rfl ?_)|(refine qI rfl ?_ ?_<;>intro hc<;>(try simp only [go_sem] at hc))|(refine qJ ?_ ?_<;>intro hc<;>(try simp only [hc])<;>(try simp only [go_sem] at hc)))
 (refine call_r (Pa.plCloneI false [1] (by decide) 31) (by decide) (by first | rfl | simp (disch:=omega) only [go_sem,simprocAttr,qN,qO,qP,qQ]) (by first | rfl | simp (disch:=omega) only [go_sem,simprocAttr,qN,qO,qP,qQ]) ?_; simp (disch:=omega) only [go_sem,simprocAttr,qN,qO,qP,qQ])
 repeat' (first|(with_reducible first|apply qA|apply qB|apply qC|apply qD|apply qE|apply qF)|(refine qL rfl (WF.of ?_) ?_; first|rfl|skip)|(simp (disch:=omega) only [go_sem, simprocAttr, qN, qO, qP, qQ, sh_1, o0])|exact qM rfl rfl rfl|(refine qG rfl ?_)|(refine qK (f1) (by decide) ?_)|(refine qH rfl ?_)|(refine qI rfl ?_ ?_<;>intro hc<;>(try simp only [go_sem] at hc))|(refine qJ ?_ ?_<;>intro hc<;>(try simp only [hc])<;>(try simp only [go_sem] at hc)))
 (refine DW.ent (Ent.adoptB 6 0 73 1 rfl rfl rfl rfl) ?_; simp only [ins, Nat.reduceLT, Nat.reduceEqDiff, ↓reduceIte, List.set_cons_zero, List.set_cons_succ])
 have f2 := dsFitsL 1 1 0 0 (by decide) (.inl rfl) (.inl rfl) true true
 rw [show fitB 1 0 0 = true from rfl] at f2
 refine DW.loop (ι := { i : Nat // i ≤ 1 }) (fun i => ⟨82, [(39, dI i.1), (38, dI 1), (10, .box 10 0), (9, .box 9 0), (8, .box 8 0), (7, dI 0), (6, .box 6 0)], [(73, .row 1 (rowC (rows eI (stR (decide (1 ≤ i.1)))))), (39, .box [.c (.sl false 1 (rows eU6 [1])), .c (.sl false 1 (rows eI [1]))]), (31, .row 1 (rowC (rows eI (stP (decide (1 ≤ i.1)))))), (10, .box [.own 31]), (9, .box [dU (1 - i.1)]), (8, .box [.box 39 0]), (6, .box [.own 73])]⟩) (fun i => 1 - i.1) ⟨0, Nat.zero_le _⟩ ?_ ?_
 ·refine Ent.to ?_ ?_ <;> simp (disch:=omega) only [qR,qS,qTw,qU,get,Nat.reduceEqDiff,↓reduceIte,qV,qW,qX,qY,qZ,and_self,dI,i64_in,and_true,true_and,rA,rB,rC,rD]
  all_goals first | exact .refl _ | exact ⟨.refl _, .refl _⟩ | exact ⟨.refl _, .refl _, .refl _⟩ | exact ⟨.refl _, .refl _, .refl _, .refl _⟩
 rintro ⟨i, hi⟩
 dsimp only
 rcases (by omega : i = 0 ∨ i = 1) with rfl | rfl
 ·have s0 : stR (decide (1 ≤ 0)) = [] := rfl
  have s1 : stP (decide (1 ≤ 0)) = [1] := rfl
  have o2 : shlI IntKind.u64 1 0 = 1 := by decide
  have hit := dsAll 1 (by decide)
  repeat' (first|(with_reducible first|apply qA|apply qB|apply qC|apply qD|apply qE|apply qF)|(refine qL rfl (WF.of ?_) ?_; first|rfl|skip)|(simp (disch:=omega) only [go_sem, simprocAttr, qN, qO, qP, qQ, s0, s1, o2, an_3, rows_cons, Nat.sub_zero])|exact qM rfl rfl rfl|(refine qG rfl ?_)|(refine qH rfl ?_)|(refine qI rfl ?_ ?_<;>intro hc<;>(try simp only [go_sem] at hc))|(refine qJ ?_ ?_<;>intro hc<;>(try simp only [hc])<;>(try simp only [go_sem] at hc)))
  refine DW.ent (σ' := ⟨82, [(53, .fn (.func 37) [dU 1] []), (39, dI 0), (38, dI 1), (11, dI 0), (10, .box 10 0), (9, .box 9 0), (8, .box 8 0), (7, dI 0), (6, .box 6 0)], [(73, .row 1 (rowC (rows eI (stR false)))), (39, .box [.c (.sl false 1 (rows eU6 [1])), .c (.sl false 1 (rows eI [1]))]), (31, .row 1 (rowC (rows eI (stP false)))), (10, .box [.own 31]), (9, .box [dU 0]), (8, .box [.box 39 0]), (6, .box [.own 73])]⟩) (Ent.to ?_ ?_) ?_
  ·simp (disch:=omega) only [qR,qS,qTw,qU,get,Nat.reduceEqDiff,↓reduceIte,qV,qW,qX,qY,qZ,and_self,dI,i64_in,and_true,true_and,rA,rB,rC,rD]
   all_goals first | exact .refl _ | exact ⟨.refl _, .refl _⟩ | exact ⟨.refl _, .refl _, .refl _⟩ | exact ⟨.refl _, .refl _, .refl _, .refl _⟩
  ·simp (disch:=omega) only [qR,qS,qTw,qU,get,Nat.reduceEqDiff,↓reduceIte,qV,qW,qX,qY,qZ,and_self,dI,i64_in,and_true,true_and,rA,rB,rC,rD]
   all_goals first | exact .refl _ | exact ⟨.refl _, .refl _⟩ | exact ⟨.refl _, .refl _, .refl _⟩ | exact ⟨.refl _, .refl _, .refl _, .refl _⟩
  refine DW.rngBD (fs := [dU 1]) (caps := []) (fun a : Bool => [(73, .row 1 (rowC (rows eI (stR a)))), (39, .box [.c (.sl false 1 (rows eU6 [1])), .c (.sl false 1 (rows eI [1]))]), (31, .row 1 (rowC (rows eI (stP a)))), (10, .box [.own 31]), (9, .box [dU 0]), (8, .box [.box 39 0]), (6, .box [.own 73])]) false (fun _ _ => (some (.exit 2), true)) enB (fun e => e ∈ bitsL 1) (bitsL 1) hit (fun a => a = false) rfl (fun _ _ _ _ h => by cases h) rfl (fun _ => ⟨rfl, rfl⟩) rfl (by decide) (fun _ _ => rfl) (fun _ _ _ => rfl) (by simp only [List.map_cons, List.map_nil]; decide) (fun _ => rfl) (fun a => by cases a <;> rfl) (fun a => by cases a <;> rfl) (by simp only [List.all_cons, List.all_nil, Blk.nb, rowC_nb, D.nb, D.nbs, C.nb, C.nbs, C.nbss, rows_nb eI_nb, Bool.and_true, Bool.not_false, Bool.and_self, bD, dI, iD, rows_nb eI_nb, rows_nb eU6_nb, rows_nb eDi_nb, rows_nb eDr_nb]) (fun a e => rfl) ?_ ?_
  ·rintro a rfl e he v
   have hz : e = 0 := by rw [bits_1] at he; simpa using he
   subst hz
   have t0 : stR false = [] := rfl
   have t1 : stP false = [1] := rfl
   have u0 : stR true = [0] := rfl
   have u1 : stP true = [0] := rfl
   simp (disch:=omega) only [go_sem,simprocAttr,qN,qO,qP,qQ,rF,rG,t0,t1,u0,u1]
   repeat' (first|(with_reducible first|apply qA|apply qB|apply qC|apply qD|apply qE|apply qF)|(refine qL rfl (WF.of ?_) ?_; first|rfl|skip)|(simp (disch:=omega) only [go_sem, simprocAttr, qN, qO, qP, qQ, rF, rG, t0, t1, u0, u1, List.set_cons_zero])|exact qM rfl rfl rfl|(refine qG rfl ?_)|(refine qK (f2) (by decide) ?_)|(refine qH rfl ?_)|(refine qI rfl ?_ ?_<;>intro hc<;>(try simp only [go_sem] at hc))|(refine qJ ?_ ?_<;>intro hc<;>(try simp only [hc])<;>(try simp only [go_sem] at hc)))
   refine round_end rfl rfl (Ent.to ?_ ?_) <;> simp (disch:=omega) only [qR,qS,qTw,qU,get,Nat.reduceEqDiff,↓reduceIte,qV,qW,qX,qY,qZ,and_self,dI,i64_in,and_true,true_and,rA,rB,rC,rD,capB,List.cons_append,List.nil_append]
  ·have hrn : runIt (fun (_ : Bool) (_ : Nat) => (some (Exit.exit 2), true)) false (bitsL 1) = (some (.exit 2), true) := by rw [bits_1]; rfl
   rw [hrn]
   simp (disch:=omega) only [go_sem,simprocAttr,qN,qO,qP,qQ,Option.getD_some]
   repeat' (first|(with_reducible first|apply qA|apply qB|apply qC|apply qD|apply qE|apply qF)|(refine qL rfl (WF.of ?_) ?_; first|rfl|skip)|(simp (disch:=omega) only [go_sem, simprocAttr, qN, qO, qP, qQ])|exact qM rfl rfl rfl|(refine qG rfl ?_)|(refine qH rfl ?_)|(refine qI rfl ?_ ?_<;>intro hc<;>(try simp only [go_sem] at hc))|(refine qJ ?_ ?_<;>intro hc<;>(try simp only [hc])<;>(try simp only [go_sem] at hc)))
   refine ⟨⟨1, by omega⟩, ?_, Ent.to ?_ ?_⟩ <;> first | (show _ < _; (try simp only); omega) | (simp (disch:=omega) only [qR,qS,qTw,qU,get,Nat.reduceEqDiff,↓reduceIte,qV,qW,qX,qY,qZ,and_self,dI,i64_in,and_true,true_and,rA,rB,rC,rD])
   all_goals first | exact .refl _ | exact ⟨.refl _, .refl _⟩ | exact ⟨.refl _, .refl _, .refl _⟩ | exact ⟨.refl _, .refl _, .refl _, .refl _⟩
 ·have s0 : stR (decide (1 ≤ 1)) = [0] := rfl
  repeat' (first|(with_reducible first|apply qA|apply qB|apply qC|apply qD|apply qE|apply qF)|(refine qL rfl (WF.of ?_) ?_; first|rfl|skip)|(simp (disch:=omega) only [go_sem, simprocAttr, qN, qO, qP, qQ, s0])|exact qM rfl rfl rfl|(refine qG rfl ?_)|(refine qH rfl ?_)|(refine qI rfl ?_ ?_<;>intro hc<;>(try simp only [go_sem] at hc))|(refine qJ ?_ ?_<;>intro hc<;>(try simp only [hc])<;>(try simp only [go_sem] at hc)))
  (refine retS_ent (Ent.rel 73 rfl) ?_; simp (disch:=omega) only [go_sem,simprocAttr,qN,qO,qP,qQ])
  refine retS_wk rfl ?_ (by simp only [Blk.nb, rowC_nb, D.nb, D.nbs, C.nb, C.nbs, C.nbss, rows_nb eI_nb, Bool.and_true, Bool.not_false, Bool.and_self, bD, dI, iD, rows_nb eI_nb, rows_nb eU6_nb, rows_nb eDi_nb, rows_nb eDr_nb]); exact .refl _
end Go.Dw.Seat.Cr
end
section
set_option linter.unusedSimpArgs false
set_option maxRecDepth 100000
namespace Go.Dw.Seat
open Go Go.Dw Go.Proofs Go.IntWalk
def firstErr (p : Plan) : List (List Cause) → Int
 | [] => 0
 | s :: l => if checkErr p s = 0 then firstErr p l else checkErr p s
def stErr (x : Plan) (ss : List (List Cause)) : Int := if openErr x = 0 then firstErr x ss else openErr x
theorem firstErr_at {p : Plan} : ∀ {l : List (List Cause)} {i : Nat} {s : List Cause}, (∀ j u, j < i → l[j]? = some u → checkErr p u = 0) → l[i]? = some s → checkErr p s ≠ 0 → firstErr p l = checkErr p s
 | [], _, _, _, h, _ => by simp at h
 | a :: l, 0, s, _, h, hs => by
  simp at h; subst h
  simp [firstErr, hs]
 | a :: l, i + 1, s, h0, h, hs => by
  have h1 := h0 0 a (by omega) (by simp)
  have h2 := firstErr_at (l := l) (i := i) (s := s) (fun j u hj hu => h0 (j + 1) u (by omega) (by simpa using hu)) (by simpa using h) hs
  simp [firstErr, h1, h2]
theorem firstErr_zero {p : Plan} : ∀ {l : List (List Cause)}, (∀ j u, j < l.length → l[j]? = some u → checkErr p u = 0) → firstErr p l = 0
 | [], _ => rfl
 | a :: l, h0 => by
  have h1 := h0 0 a (by simp) (by simp)
  have h2 := firstErr_zero (l := l) (fun j u hj hu => h0 (j + 1) u (by simp; omega) (by simpa using hu))
  simp [firstErr, h1, h2]
theorem c77 (b b' : Bool) (x : Plan) (ss : List (List Cause)) (hx : x.noz.length ≤ 2 ^ 36) (hl : ss.length ≤ 2 ^ 36) (hs : ∀ s ∈ ss, s.length ≤ 2 ^ 36) :
  DCall Tryd.prog 81 [dP false x, .c (.sl b 1 (rows (eSb b') ss))] [] (.tup [dP false (opened x), dI (stErr x ss)]) [] := by
 refine DCall.of Tryd.func81 sf81 hb81 (Nat.le_of_ble_eq_true rfl) (okRes_nil fun _ => rfl) ?_; simp only [s81, idxs, Nat.reduceAdd]
 repeat' (first|(with_reducible first|apply qA|apply qB|apply qC|apply qD|apply qE|apply qF)|(simp (disch:=omega) only [go_sem, simprocAttr, Blk.men, Blk.keysIn])|exact qM rfl rfl rfl|(refine qG rfl ?_)|(refine qH rfl ?_)|(refine qI rfl ?_ ?_<;>intro hc<;>(try simp only [go_sem] at hc))|(refine qJ ?_ ?_<;>intro hc<;>(try simp only [hc])<;>(try simp only [go_sem] at hc)))
 (refine call_c (c78 x hx) (by decide) ?_; simp (disch:=omega) only [go_sem,simprocAttr,Blk.men,Blk.keysIn])
 have hox : (opened x).noz.length ≤ 2 ^ 36 := by unfold opened; split <;> first | exact hx | exact Nat.zero_le _
 repeat' (first|(with_reducible first|apply qA|apply qB|apply qC|apply qD|apply qE|apply qF)|(simp (disch:=omega) only [go_sem, simprocAttr, Blk.men, Blk.keysIn])|exact qM rfl rfl rfl|(refine qG rfl ?_)|(refine qH rfl ?_)|(refine qI rfl ?_ ?_<;>intro hc<;>(try simp only [go_sem] at hc))|(refine qJ ?_ ?_<;>intro hc<;>(try simp only [hc])<;>(try simp only [go_sem] at hc)))
 ·have he : stErr x ss = openErr x := if_neg (by assumption)
  rw [he]
  refine retS_wk rfl ?_ (by simp only [Blk.nb, rowC_nb, D.nb, D.nbs, C.nb, C.nbs, C.nbss, rows_nb eI_nb, Bool.and_true, Bool.not_false, Bool.and_self, bD, dI, iD]); exact .refl _
 have hok : openErr x = 0 := by assumption
 have ho : opened x = x := by rw [opened, hok]; rfl
 have he : stErr x ss = firstErr x ss := if_pos hok
 rw [he, ho]
 refine DW.loop (ι := { i : Nat // i ≤ ss.length ∧ ∀ j s, j < i → ss[j]? = some s → checkErr x s = 0 }) (fun i => ⟨35, [(22, dI i.1), (21, dI ss.length), (20, .c (.sl b 1 (rows (eSb b') ss))), (6, .box 6 0), (4, .box 4 0)],
  [(6, .box [dI x.steps, dIs false x.noz]), (4, .box [dI 0, .c (.v (.slice none 0 0))])]⟩) (fun i => ss.length - i.1) ⟨0, Nat.zero_le _, fun j u h => by omega⟩ ?_ ?_
 ·refine Ent.to ?_ ?_ <;> simp (disch:=omega) only [qR,qS,qTw,qU,get,Nat.reduceEqDiff,↓reduceIte,qV,qW,qX,qY,qZ,and_self,dI,i64_in,and_true,true_and,rA,rB,rC,rD]
 rintro ⟨i, hi, hij⟩
 rcases at_or ss i hi with ⟨v, hv, hlt, hd⟩ | ⟨hend, hd⟩
 ·repeat' (first|(with_reducible first|apply qA|apply qB|apply qC|apply qD|apply qE|apply qF)|(simp (disch:=omega) only [go_sem, simprocAttr, Blk.men, Blk.keysIn, hd, hv])|exact qM rfl rfl rfl|(refine qG rfl ?_)|(refine qH rfl ?_)|(refine qI rfl ?_ ?_<;>intro hc<;>(try simp only [go_sem] at hc))|(refine qJ ?_ ?_<;>intro hc<;>(try simp only [hc])<;>(try simp only [go_sem] at hc)))
  (refine call_c (c105 false b' x v hx (hs v (List.mem_of_getElem? hv))) (by decide) ?_; simp (disch:=omega) only [go_sem,simprocAttr,Blk.men,Blk.keysIn])
  repeat' (first|(with_reducible first|apply qA|apply qB|apply qC|apply qD|apply qE|apply qF)|(simp (disch:=omega) only [go_sem, simprocAttr, Blk.men, Blk.keysIn])|exact qM rfl rfl rfl|(refine qG rfl ?_)|(refine qH rfl ?_)|(refine qI rfl ?_ ?_<;>intro hc<;>(try simp only [go_sem] at hc))|(refine qJ ?_ ?_<;>intro hc<;>(try simp only [hc])<;>(try simp only [go_sem] at hc)))
  ·have : firstErr x ss = checkErr x v := firstErr_at hij hv (by assumption)
   rw [this]
   refine retS_wk rfl ?_ (by simp only [Blk.nb, rowC_nb, D.nb, D.nbs, C.nb, C.nbs, C.nbss, rows_nb eI_nb, Bool.and_true, Bool.not_false, Bool.and_self, bD, dI, iD]); exact .refl _
  ·refine ⟨⟨i + 1, by omega, fun j u hj hu => by
    rcases Nat.lt_or_ge j i with h | h
    ·exact hij j u h hu
    ·have : j = i := by omega
     subst this
     rw [hv] at hu; cases hu; assumption⟩, ?_, Ent.to ?_ ?_⟩ <;> first | (show _ < _; (try simp only); omega) | (simp (disch:=omega) only [qR,qS,qTw,qU,get,Nat.reduceEqDiff,↓reduceIte,qV,qW,qX,qY,qZ,and_self,dI,i64_in,and_true,true_and,rA,rB,rC,rD])
 ·repeat' (first|(with_reducible first|apply qA|apply qB|apply qC|apply qD|apply qE|apply qF)|(simp (disch:=omega) only [go_sem, simprocAttr, Blk.men, Blk.keysIn, hd])|exact qM rfl rfl rfl|(refine qG rfl ?_)|(refine qH rfl ?_)|(refine qI rfl ?_ ?_<;>intro hc<;>(try simp only [go_sem] at hc))|(refine qJ ?_ ?_<;>intro hc<;>(try simp only [hc])<;>(try simp only [go_sem] at hc)))
  have : firstErr x ss = 0 := firstErr_zero (hend ▸ hij)
  rw [this]
  refine retS_wk rfl ?_ (by simp only [Blk.nb, rowC_nb, D.nb, D.nbs, C.nb, C.nbs, C.nbss, rows_nb eI_nb, Bool.and_true, Bool.not_false, Bool.and_self, bD, dI, iD]); exact .refl _
end Go.Dw.Seat
end
section
set_option linter.unusedSimpArgs false
set_option maxRecDepth 100000
namespace Go.Dw.Seat
open Go Go.Dw Go.Proofs Go.IntWalk
def givesN (st t : Nat) (kind box : Int) : Nat :=
 if kind = 1 then 0 else if kind = 2 then (t ||| (2 * t)) &&& (2 ^ st - 1) else if kind = 3 then t &&& (2 * t) else if kind = 4 then (if box.tmod 2 = 1 then 0 else t) else t
theorem givesN_lt {st t : Nat} {kind box : Int} (ht : t < 2 ^ st) : givesN st t kind box < 2 ^ st := by
 have hp : 0 < 2 ^ st := Nat.two_pow_pos st
 unfold givesN
 repeat' split
 ·exact hp
 ·have : (t ||| (2 * t)) &&& (2 ^ st - 1) ≤ 2 ^ st - 1 := Nat.and_le_right
  omega
 ·have : t &&& (2 * t) ≤ t := Nat.and_le_left
  omega
 ·exact hp
 ·exact ht
 ·exact ht
theorem c107 (b : Bool) (st t : Nat) (noz : List Int) (kind box : Int) (hst : st ≤ 16) (ht : t < 2 ^ 16) : DCall Tryd.prog 114 [dP b ⟨st, noz⟩, dI t, dI kind, dI box] [] (dI (givesN st t kind box)) [] := by
 have hp : 2 ^ st ≤ 2 ^ 16 := Nat.pow_le_pow_right (by decide) hst
 have hp0 : 0 < 2 ^ st := Nat.two_pow_pos st
 have hs1 : ((2 ^ st : Nat) : Int) - 1 = ((2 ^ st - 1 : Nat) : Int) := by omega
 have hor : t ||| 2 * t < 2 ^ 17 := Nat.or_lt_two_pow (by omega) (by omega)
 refine DCall.of Tryd.func114 sf114 hb114 (Nat.le_of_ble_eq_true rfl) (okRes_nil fun _ => rfl) ?_; simp only [s114, idxs, Nat.reduceAdd]
 repeat' (first|(with_reducible first|apply qA|apply qB|apply qC|apply qD|apply qE|apply qF)|(simp (disch:=omega) only [go_sem, simprocAttr, Blk.men, Blk.keysIn, hs1])|exact qM rfl rfl rfl|(refine qG rfl ?_)|(refine qH rfl ?_)|(refine qI rfl ?_ ?_<;>intro hc<;>(try simp only [go_sem] at hc))|(refine qJ ?_ ?_<;>intro hc<;>(try simp only [hc])<;>(try simp only [go_sem] at hc)))
 all_goals refine retS_of rfl ?_ rfl; simp only [oneD, St.op, get, Nat.reduceEqDiff, ↓reduceIte, Option.getD_some, bD, dI, givesN]
 all_goals simp [*]
end Go.Dw.Seat
end
section
set_option linter.unusedSimpArgs false
set_option maxRecDepth 100000
namespace Go.Dw.Seat
open Go Go.Dw Go.Proofs Go.IntWalk
theorem c106 (b : Bool) (l : List Int) (hl : l.length ≤ 2 ^ 36) (k : Nat) : DCall Tryd.prog 35 [dIs b l] [] (.own k) [(k, .row 1 (rowC (rows eI l)))] := by
 have hnb : ∀ l : List Int, Blk.nb (.row 1 (rowC (rows eI l))) = true := fun l => rowC_nb (rows_nb eI_nb l)
 refine DCall.rename (k0 := 5) ?_ k
 cases l with
 | nil =>
  refine DCall.nil1 (fun a c => ?_)
  cases a with
  | none =>
   refine DCall.of Tryd.func35 sf35 hb35 (Nat.le_of_ble_eq_true rfl) okRes_row ?_; simp only [s35, idxs, Nat.reduceAdd]
   repeat' (first|(with_reducible first|apply qA|apply qB|apply qC|apply qD|apply qE|apply qF)|(simp (disch:=omega) only [go_sem, simprocAttr, Blk.men, Blk.keysIn, Option.isNone])|exact qM rfl rfl rfl|(refine qG rfl ?_)|(refine qH rfl ?_)|(refine qI rfl ?_ ?_<;>intro hc<;>(try simp only [go_sem] at hc))|(refine qJ ?_ ?_<;>intro hc<;>(try simp only [hc])<;>(try simp only [go_sem] at hc)))
   refine retS_ent (Ent.adopt 2 5 1 rfl rfl rfl) ?_
   simp (disch:=omega) only [go_sem,simprocAttr,Blk.men,Blk.keysIn]
   refine retS_row ?_ ?_ (hnb []) <;> rfl
  | some a =>
   refine DCall.of Tryd.func35 sf35 hb35 (Nat.le_of_ble_eq_true rfl) okRes_row ?_; simp only [s35, idxs, Nat.reduceAdd]
   refine DW.seq (DW.reg ?_)
   simp (disch:=omega) only [go_sem,simprocAttr,Blk.men,Blk.keysIn]
   refine DW.seq (DW.seq (DW.reg ?_))
   simp (disch:=omega) only [go_sem,simprocAttr,Blk.men,Blk.keysIn,Option.isNone]
   refine DW.cond_ff rfl (DW.skip ?_)
   simp (disch:=omega) only [go_sem,simprocAttr,Blk.men,Blk.keysIn]
   refine DW.ent (Ent.to (tm' := [(0, .c (.sl b 1 []))]) (bx' := []) (by simp (disch:=omega) only [qR,qS,qTw,qU,get,Nat.reduceEqDiff,↓reduceIte,qV,qW,qX,qY,qZ,and_self,dI,i64_in,and_true,true_and,rA,rB,rC,rD]) trivial) ?_
   repeat' (first|(with_reducible first|apply qA|apply qB|apply qC|apply qD|apply qE|apply qF)|(simp (disch:=omega) only [go_sem, simprocAttr, Blk.men, Blk.keysIn])|exact qM rfl rfl rfl|(refine qG rfl ?_)|(refine qH rfl ?_)|(refine qI rfl ?_ ?_<;>intro hc<;>(try simp only [go_sem] at hc))|(refine qJ ?_ ?_<;>intro hc<;>(try simp only [hc])<;>(try simp only [go_sem] at hc)))
   refine retS_row ?_ ?_ (hnb []) <;> rfl
 | cons x l =>
  simp only [List.length_cons] at hl
  refine DCall.of Tryd.func35 sf35 hb35 (Nat.le_of_ble_eq_true rfl) okRes_row ?_; simp only [s35, idxs, Nat.reduceAdd]
  repeat' (first|(with_reducible first|apply qA|apply qB|apply qC|apply qD|apply qE|apply qF)|(simp (disch:=omega) only [go_sem, simprocAttr, Blk.men, Blk.keysIn, rows_cons])|exact qM rfl rfl rfl|(refine qG rfl ?_)|(refine qH rfl ?_)|(refine qI rfl ?_ ?_<;>intro hc<;>(try simp only [go_sem] at hc))|(refine qJ ?_ ?_<;>intro hc<;>(try simp only [hc])<;>(try simp only [go_sem] at hc)))
  refine retS_row ?_ ?_ (hnb (x :: l)) <;> rfl
def boxStep (st : Nat) (box : Int) (out : List Nat) (c : Cause) : List Nat := if c.frm ≤ box then (match out[c.noz.toNat]? with
 | some v => out.set c.noz.toNat (givesN st v c.kind box)
 | none => out) else out
def boxN (st : Nat) (noz : List Nat) (s : List Cause) (box : Int) : List Nat := s.foldl (boxStep st box) noz
theorem boxStep_length (st : Nat) (box : Int) (out : List Nat) (c : Cause) : (boxStep st box out c).length = out.length := by
 unfold boxStep; repeat' split
 all_goals simp
theorem boxN_length (st : Nat) (box : Int) : ∀ (s : List Cause) (noz : List Nat), (boxN st noz s box).length = noz.length
 | [], _ => rfl
 | c :: s, noz => by
  have := boxN_length st box s (boxStep st box noz c)
  rw [boxStep_length] at this
  exact this
theorem boxStep_lt {st : Nat} {box : Int} {out : List Nat} {c : Cause} (h : ∀ v ∈ out, v < 2 ^ st) : ∀ v ∈ boxStep st box out c, v < 2 ^ st := by
 unfold boxStep
 split
 ·split
  ·rename_i v hv
   intro u hu
   rcases List.mem_or_eq_of_mem_set hu with h1 | h1
   ·exact h u h1
   ·rw [h1]; exact givesN_lt (h v (List.mem_of_getElem? hv))
  ·exact h
 ·exact h
theorem boxN_lt {st : Nat} {box : Int} : ∀ {s : List Cause} {noz : List Nat}, (∀ v ∈ noz, v < 2 ^ st) → ∀ v ∈ boxN st noz s box, v < 2 ^ st
 | [], _, h => h
 | c :: s, noz, h => boxN_lt (s := s) (noz := boxStep st box noz c) (boxStep_lt h)
theorem boxN_take {st : Nat} {noz : List Nat} {s : List Cause} {box : Int} {i : Nat} {c : Cause} (h : s[i]? = some c) : boxN st noz (s.take (i + 1)) box = boxStep st box (boxN st noz (s.take i) box) c := by
 unfold boxN
 rw [List.take_add_one, h, List.foldl_append]
 rfl
theorem c80 (b b' : Bool) (st : Nat) (noz : List Nat) (s : List Cause) (box : Int) (k : Nat) (hst : st ≤ 16) (hn : ∀ v ∈ noz, v < 2 ^ st) (hl : noz.length ≤ 2 ^ 36) (hsl : s.length ≤ 2 ^ 36) (hs : ∀ c ∈ s, 0 ≤ c.noz ∧ c.noz < noz.length) :
  DCall Tryd.prog 83 [dP b ⟨st, nL noz⟩, dCs b' s, dI box] [] (.own k) [(k, .row 1 (rowC (rows eI (nL (boxN st noz s box)))))] := by
 have hnb : ∀ l : List Int, Blk.nb (.row 1 (rowC (rows eI l))) = true := fun l => rowC_nb (rows_nb eI_nb l)
 have hp : 2 ^ st ≤ 2 ^ 16 := Nat.pow_le_pow_right (by decide) hst
 refine DCall.rename (k0 := 13) ?_ k
 refine DCall.of Tryd.func83 sf83 hb83 (Nat.le_of_ble_eq_true rfl) okRes_row ?_; simp only [s83, idxs, Nat.reduceAdd]
 repeat' (first|(with_reducible first|apply qA|apply qB|apply qC|apply qD|apply qE|apply qF)|(refine qL rfl (WF.of ?_) ?_; first|rfl|skip)|(simp (disch:=omega) only [go_sem, simprocAttr, Blk.men, Blk.keysIn])|exact qM rfl rfl rfl|(refine qG rfl ?_)|(refine qH rfl ?_)|(refine qI rfl ?_ ?_<;>intro hc<;>(try simp only [go_sem] at hc))|(refine qJ ?_ ?_<;>intro hc<;>(try simp only [hc])<;>(try simp only [go_sem] at hc)))
 (refine call_r (c106 b (nL noz) (by simpa [nL] using hl) 13) (by decide) (by first | rfl | simp (disch:=omega) only [go_sem,simprocAttr,Blk.men,Blk.keysIn]) (by first | rfl | simp (disch:=omega) only [go_sem,simprocAttr,Blk.men,Blk.keysIn]) ?_; simp (disch:=omega) only [go_sem,simprocAttr,Blk.men,Blk.keysIn])
 repeat' (first|(with_reducible first|apply qA|apply qB|apply qC|apply qD|apply qE|apply qF)|(refine qL rfl (WF.of ?_) ?_; first|rfl|skip)|(simp (disch:=omega) only [go_sem, simprocAttr, Blk.men, Blk.keysIn])|exact qM rfl rfl rfl|(refine qG rfl ?_)|(refine qH rfl ?_)|(refine qI rfl ?_ ?_<;>intro hc<;>(try simp only [go_sem] at hc))|(refine qJ ?_ ?_<;>intro hc<;>(try simp only [hc])<;>(try simp only [go_sem] at hc)))
 refine DW.loop (ι := { i : Nat // i ≤ s.length }) (fun i => ⟨40, [(16, dI i.1), (15, dI s.length), (14, dCs b' s), (7, .own 13), (3, .box 3 0), (2, dI box)],
  [(13, .row 1 (rowC (rows eI (nL (boxN st noz (s.take i.1) box))))), (3, .box [dI st, dIs b (nL noz)])]⟩) (fun i => s.length - i.1) ⟨0, Nat.zero_le _⟩ ?_ ?_
 ·refine Ent.to ?_ ?_ <;> simp (disch:=omega) only [qR,qS,qTw,qU,get,Nat.reduceEqDiff,↓reduceIte,qV,qW,qX,qY,qZ,and_self,dI,i64_in,and_true,true_and,rA,rB,rC,rD,List.take_zero,boxN,List.foldl_nil]
 rintro ⟨i, hi⟩
 rcases at_or s i hi with ⟨c, hc0, hlt, hd⟩ | ⟨hend, hd⟩
 ·obtain ⟨h1, h2⟩ := hs c (List.mem_of_getElem? hc0)
  obtain ⟨n, hn0⟩ : ∃ n : Nat, c.noz = n := ⟨c.noz.toNat, by omega⟩
  have hstep := boxN_take (st := st) (noz := noz) (box := box) hc0
  have hlen := boxN_length st box (s.take i) noz
  have hlt2 := boxN_lt (s := s.take i) (box := box) hn
  generalize hout : boxN st noz (s.take i) box = out at *
  obtain ⟨v, hv⟩ := getE (l := out) (i := n) (by omega)
  have hvlt : v < 2 ^ 16 := Nat.lt_of_lt_of_le (hlt2 v (List.mem_of_getElem? hv)) hp
  have hnl : (n < out.length) = True := eq_true (by omega)
  repeat' (first|(with_reducible first|apply qA|apply qB|apply qC|apply qD|apply qE|apply qF)|(refine qL rfl (WF.of ?_) ?_; first|rfl|skip)|(simp (disch:=omega) only [go_sem, simprocAttr, Blk.men, Blk.keysIn, hd, hc0, hn0, hv, hnl])|exact qM rfl rfl rfl|(refine qG rfl ?_)|(refine qH rfl ?_)|(refine qI rfl ?_ ?_<;>intro hc<;>(try simp only [go_sem] at hc))|(refine qJ ?_ ?_<;>intro hc<;>(try simp only [hc])<;>(try simp only [go_sem] at hc)))
  ·(refine call_c (c107 b st v (nL noz) c.kind box hst hvlt ) (by decide) ?_; simp (disch:=omega) only [go_sem,simprocAttr,Blk.men,Blk.keysIn, hnl,hv])
   have hs' : boxStep st box out c = out.set n (givesN st v c.kind box) := by
    unfold boxStep
    rw [if_pos (by assumption), hn0, Int.toNat_natCast, hv]
   repeat' (first|(with_reducible first|apply qA|apply qB|apply qC|apply qD|apply qE|apply qF)|(refine qL rfl (WF.of ?_) ?_; first|rfl|skip)|(simp (disch:=omega) only [go_sem, simprocAttr, Blk.men, Blk.keysIn])|exact qM rfl rfl rfl|(refine qG rfl ?_)|(refine qH rfl ?_)|(refine qI rfl ?_ ?_<;>intro hc<;>(try simp only [go_sem] at hc))|(refine qJ ?_ ?_<;>intro hc<;>(try simp only [hc])<;>(try simp only [go_sem] at hc)))
   refine ⟨⟨i + 1, hlt⟩, ?_, Ent.to ?_ ?_⟩ <;> first | (show _ < _; (try simp only); omega) | (simp (disch:=omega) only [qR,qS,qTw,qU,get,Nat.reduceEqDiff,↓reduceIte,qV,qW,qX,qY,qZ,and_self,dI,i64_in,and_true,true_and,rA,rB,rC,rD, hstep,hs'])
  ·have hs' : boxStep st box out c = out := if_neg (by omega)
   refine ⟨⟨i + 1, hlt⟩, ?_, Ent.to ?_ ?_⟩ <;> first | (show _ < _; (try simp only); omega) | (simp (disch:=omega) only [qR,qS,qTw,qU,get,Nat.reduceEqDiff,↓reduceIte,qV,qW,qX,qY,qZ,and_self,dI,i64_in,and_true,true_and,rA,rB,rC,rD, hstep,hs'])
 ·repeat' (first|(with_reducible first|apply qA|apply qB|apply qC|apply qD|apply qE|apply qF)|(refine qL rfl (WF.of ?_) ?_; first|rfl|skip)|(simp (disch:=omega) only [go_sem, simprocAttr, Blk.men, Blk.keysIn, hd])|exact qM rfl rfl rfl|(refine qG rfl ?_)|(refine qH rfl ?_)|(refine qI rfl ?_ ?_<;>intro hc<;>(try simp only [go_sem] at hc))|(refine qJ ?_ ?_<;>intro hc<;>(try simp only [hc])<;>(try simp only [go_sem] at hc)))
  subst hend
  rw [List.take_length]
  refine retS_row ?_ ?_ (hnb _) <;> rfl
end Go.Dw.Seat
end
section
set_option linter.unusedSimpArgs false
set_option maxRecDepth 100000
namespace Go.Dw.Seat
open Go Go.Dw Go.Proofs Go.IntWalk
structure Seen where
 froms : List Int
 looks : List Look
abbrev dX (b : Bool) (x : Seen) : D := .agg [.c (.sl b 1 (rows eI x.froms)), .c (.sl b 4 (rows eL x.looks))]
attribute [go_sem] dX
end Go.Dw.Seat
end
section
set_option linter.unusedSimpArgs false
set_option maxRecDepth 100000
namespace Go.Dw.Seat
open Go Go.Dw Go.Proofs Go.IntWalk
attribute [go_sem] Tryd.underlying3
def toldN (st v : Nat) (step : Int) : Bool := (decide (0 ≤ step) && decide (step ≤ (st : Int) - 1)) && ((v >>> step.toNat) % 2 == 1)
end Go.Dw.Seat
end
section
set_option linter.unusedSimpArgs false
set_option maxRecDepth 100000
namespace Go.Dw.Seat
open Go Go.Dw Go.Proofs Go.IntWalk
def kindStep (box : Int) (z : Nat) (k : Int) (c : Cause) : Int := if c.noz = z ∧ c.frm ≤ box then c.kind else k
def kindOf (s : List Cause) (box : Int) (z : Nat) : Int := s.foldl (kindStep box z) 0
def glueB (kind box : Int) (now before : Bool) : Bool :=
 if kind = 1 then false else if kind = 2 then now || before else if kind = 3 then now && before else if kind = 4 then now && decide (box.tmod 2 = 0) else now
def glueN (st : Nat) (noz : List Nat) (s : List Cause) (box : Int) (z : Nat) (step : Int) : Bool :=
 glueB (kindOf s box z) box (toldN st (noz.getD z 0) step) (toldN st (noz.getD z 0) (step - 1))
end Go.Dw.Seat
end
section
set_option linter.unusedSimpArgs false
set_option maxRecDepth 100000
namespace Go.Dw.Seat
open Go Go.Dw Go.Proofs Go.IntWalk
def fits (st : Nat) (noz : List Nat) (s : List Cause) (l : Look) : Bool := glueN st noz s l.box l.noz.toNat l.step == l.glue
end Go.Dw.Seat
end
section
set_option linter.unusedSimpArgs false
set_option maxRecDepth 100000
namespace Go.Dw.Seat
open Go Go.Dw Go.Proofs Go.IntWalk
def lookD (l : Option Look) : List C := eL (l.getD ⟨0, 0, 0, false⟩)
end Go.Dw.Seat
end
section
set_option linter.unusedSimpArgs false
set_option maxRecDepth 100000
namespace Go.Dw.Seat
open Go Go.Dw Go.Proofs Go.IntWalk
theorem c90 (a b : Int) : DCall Tryd.prog 43 [dI a, dI b] [] (bD (decide (a < b))) [] := by
 refine DCall.of Tryd.func43 sf43 hb43 (Nat.le_of_ble_eq_true rfl) (okRes_nil fun _ => rfl) ?_; simp only [s43, idxs, Nat.reduceAdd]
 repeat' (first|(with_reducible first|apply qA|apply qB|apply qC|apply qD|apply qE|apply qF)|(simp (disch:=omega) only [go_sem, simprocAttr, Blk.men, Blk.keysIn])|exact qM rfl rfl rfl|(refine qG rfl ?_)|(refine qK (c113 _) (by decide) ?_)|(refine qH rfl ?_)|(refine qI rfl ?_ ?_<;>intro hc<;>(try simp only [go_sem] at hc))|(refine qJ ?_ ?_<;>intro hc<;>(try simp only [hc])<;>(try simp only [go_sem] at hc)))
def spanOk (lo hi least most : Int) : Bool := wthn least most [lo, hi] && decide (lo ≤ hi)
theorem c108 (lo hi least most : Int) : DCall Tryd.prog 61 [.agg [dI lo, dI hi], dI least, dI most] [] (bD (spanOk lo hi least most)) [] := by
 refine DCall.of Tryd.func61 sf61 hb61 (Nat.le_of_ble_eq_true rfl) (okRes_nil fun _ => rfl) ?_; simp only [s61, idxs, Nat.reduceAdd]
 repeat' (first|(with_reducible first|apply qA|apply qB|apply qC|apply qD|apply qE|apply qF)|(simp (disch:=omega) only [go_sem, simprocAttr, Blk.men, Blk.keysIn])|exact qM rfl rfl rfl|(refine qG rfl ?_)|(refine qK (c88 true least most [lo, hi] (by simp)) (by decide) ?_)|(refine qH rfl ?_)|(refine qI rfl ?_ ?_<;>intro hc<;>(try simp only [go_sem] at hc))|(refine qJ ?_ ?_<;>intro hc<;>(try simp only [hc])<;>(try simp only [go_sem] at hc)))
 all_goals refine retS_of rfl ?_ rfl; simp only [oneD, St.op, get, Nat.reduceEqDiff, ↓reduceIte, Option.getD_some, bD, dI, spanOk]
 all_goals simp_all
def roomOk (r : Room) : Bool := spanOk r.wl r.wh 0 30 && spanOk r.dl r.dh 0 100
theorem c85 (r : Room) : DCall Tryd.prog 28 [.agg ((eR r).map D.c)] [] (bD (roomOk r)) [] := by
 refine DCall.of Tryd.func28 sf28 hb28 (Nat.le_of_ble_eq_true rfl) (okRes_nil fun _ => rfl) ?_; simp only [s28, idxs, Nat.reduceAdd]
 repeat' (first|(with_reducible first|apply qA|apply qB|apply qC|apply qD|apply qE|apply qF)|(simp (disch:=omega) only [go_sem, simprocAttr, Blk.men, Blk.keysIn, rF, rG])|exact qM rfl rfl rfl|(refine qG rfl ?_)|(refine qK (c108 _ _ _ _) (by decide) ?_)|(refine qH rfl ?_)|(refine qI rfl ?_ ?_<;>intro hc<;>(try simp only [go_sem] at hc))|(refine qJ ?_ ?_<;>intro hc<;>(try simp only [hc])<;>(try simp only [go_sem] at hc)))
 all_goals refine retS_of rfl ?_ rfl; simp only [oneD, St.op, get, Nat.reduceEqDiff, ↓reduceIte, Option.getD_some, bD, dI, roomOk]
 all_goals simp_all
structure Rule where
 mins : Int
 deg : Int
 damp : Int
abbrev dR (r : Rule) : D := .agg [dI r.mins, dI r.deg, dI r.damp]
attribute [go_sem] dR
def ruleOk (r : Rule) : Bool := wthn 1 600 [r.mins] && wthn 0 20 [r.deg, r.damp]
theorem c86 (r : Rule) : DCall Tryd.prog 27 [dR r] [] (bD (ruleOk r)) [] := by
 refine DCall.of Tryd.func27 sf27 hb27 (Nat.le_of_ble_eq_true rfl) (okRes_nil fun _ => rfl) ?_; simp only [s27, idxs, Nat.reduceAdd]
 repeat' (first|(with_reducible first|apply qA|apply qB|apply qC|apply qD|apply qE|apply qF)|(simp (disch:=omega) only [go_sem, simprocAttr, Blk.men, Blk.keysIn])|exact qM rfl rfl rfl|(refine qG rfl ?_)|(refine qK (c88 true 1 600 [r.mins] (by simp)) (by decide) ?_)|(refine qK (c88 true 0 20 [r.deg, r.damp] (by simp)) (by decide) ?_)|(refine qH rfl ?_)|(refine qI rfl ?_ ?_<;>intro hc<;>(try simp only [go_sem] at hc))|(refine qJ ?_ ?_<;>intro hc<;>(try simp only [hc])<;>(try simp only [go_sem] at hc)))
 all_goals refine retS_of rfl ?_ rfl; simp only [oneD, St.op, get, Nat.reduceEqDiff, ↓reduceIte, Option.getD_some, bD, dI, ruleOk]
 all_goals simp_all
end Go.Dw.Seat
end
section
set_option linter.unusedSimpArgs false
set_option maxRecDepth 100000
namespace Go.Dw.Seat
open Go Go.Dw Go.Proofs Go.IntWalk
theorem mulB {a b A B : Int} (ha : 0 ≤ a ∧ a ≤ A) (hb : 0 ≤ b ∧ b ≤ B) : 0 ≤ a * b ∧ a * b ≤ A * B :=
 ⟨Int.mul_nonneg ha.1 hb.1, Int.mul_le_mul ha.2 hb.2 hb.1 (Int.le_trans ha.1 ha.2)⟩
def timeI (r : Rule) (warm damp : Int) : Int := (r.mins * (1000 - r.deg * warm + r.damp * damp) + 1000 - 1) / 1000
theorem c112 (r : Rule) (warm damp : Int) (h1 : 0 ≤ r.mins ∧ r.mins ≤ 600) (h2 : 0 ≤ r.deg ∧ r.deg ≤ 20) (h3 : 0 ≤ r.damp ∧ r.damp ≤ 20) (hw : 0 ≤ warm ∧ warm ≤ 30) (hd : 0 ≤ damp ∧ damp ≤ 100) :
  DCall Tryd.prog 62 [dR r, dI warm, dI damp] [] (dI (timeI r warm damp)) [] := by
 have e1 := mulB h2 hw
 have e2 := mulB h3 hd
 have e3 := mulB h1 (show 0 ≤ 1000 - r.deg * warm + r.damp * damp ∧ 1000 - r.deg * warm + r.damp * damp ≤ 3000 by omega)
 refine DCall.of Tryd.func62 sf62 hb62 (Nat.le_of_ble_eq_true rfl) (okRes_nil fun _ => rfl) ?_; simp only [s62, idxs, Nat.reduceAdd]
 repeat' (first|(with_reducible first|apply qA|apply qB|apply qC|apply qD|apply qE|apply qF)|(simp (disch:=omega) only [go_sem, simprocAttr, Blk.men, Blk.keysIn, i64_quo])|exact qM rfl rfl rfl|(refine qG rfl ?_)|(refine qH rfl ?_)|(refine qI rfl ?_ ?_<;>intro hc<;>(try simp only [go_sem] at hc))|(refine qJ ?_ ?_<;>intro hc<;>(try simp only [hc])<;>(try simp only [go_sem] at hc)))
theorem wthn_two {lo hi a b : Int} (h : wthn lo hi [a, b] = true) : (lo ≤ a ∧ a ≤ hi) ∧ (lo ≤ b ∧ b ≤ hi) := by
 simp [wthn] at h; omega
theorem ruleOk_in {r : Rule} (h : ruleOk r = true) : (1 ≤ r.mins ∧ r.mins ≤ 600) ∧ (0 ≤ r.deg ∧ r.deg ≤ 20) ∧ (0 ≤ r.damp ∧ r.damp ≤ 20) := by
 rw [ruleOk, Bool.and_eq_true] at h
 have h1 := wthn_one h.1
 have h2 := wthn_two h.2
 exact ⟨h1, h2.1, h2.2⟩
theorem spanOk_in {lo hi least most : Int} (h : spanOk lo hi least most = true) : least ≤ lo ∧ lo ≤ hi ∧ hi ≤ most := by
 rw [spanOk, Bool.and_eq_true] at h
 have h1 := wthn_two h.1
 have h2 := of_decide_eq_true h.2
 omega
theorem roomOk_in {r : Room} (h : roomOk r = true) : (0 ≤ r.wl ∧ r.wl ≤ r.wh ∧ r.wh ≤ 30) ∧ (0 ≤ r.dl ∧ r.dl ≤ r.dh ∧ r.dh ≤ 100) := by
 rw [roomOk, Bool.and_eq_true] at h
 exact ⟨spanOk_in h.1, spanOk_in h.2⟩
def pressLo (r : Rule) (m : Room) : Int := timeI r m.wh m.dl
def pressHi (r : Rule) (m : Room) : Int := timeI r m.wl m.dh
theorem c89 (r : Rule) (m : Room) (hr : ruleOk r = true) (hm : roomOk m = true) : DCall Tryd.prog 29 [dR r, .agg ((eR m).map D.c)] [] (.agg [dI (pressLo r m), dI (pressHi r m)]) [] := by
 obtain ⟨r1, r2, r3⟩ := ruleOk_in hr
 obtain ⟨m1, m2⟩ := roomOk_in hm
 refine DCall.of Tryd.func29 sf29 hb29 (Nat.le_of_ble_eq_true rfl) (okRes_nil fun _ => rfl) ?_; simp only [s29, idxs, Nat.reduceAdd]
 repeat' (first|(with_reducible first|apply qA|apply qB|apply qC|apply qD|apply qE|apply qF)|(refine qL rfl (WF.of ?_) ?_; first|rfl|skip)|(simp (disch:=omega) only [go_sem, simprocAttr, Blk.men, Blk.keysIn, rF, rG])|exact qM rfl rfl rfl|(refine qG rfl ?_)|(refine qK (c112 r m.wh m.dl ⟨by omega, by omega⟩ r2 r3 ⟨by omega, by omega⟩ ⟨by omega, by omega⟩) (by decide) ?_)|(refine qK (c112 r m.wl m.dh ⟨by omega, by omega⟩ r2 r3 ⟨by omega, by omega⟩ ⟨by omega, by omega⟩) (by decide) ?_)|(refine qH rfl ?_)|(refine qI rfl ?_ ?_<;>intro hc<;>(try simp only [go_sem] at hc))|(refine qJ ?_ ?_<;>intro hc<;>(try simp only [hc])<;>(try simp only [go_sem] at hc)))
def pressErr (r : Rule) (m : Room) : Int := if ruleOk r = false then 2 else if roomOk m = false then 3 else 0
theorem c41 (r : Rule) (m : Room) : DCall Tryd.prog 5 [dR r, .agg ((eR m).map D.c)] [] (.tup [.agg [dI (if pressErr r m = 0 then pressLo r m else 0), dI (if pressErr r m = 0 then pressHi r m else 0)], dI (pressErr r m)]) [] := by
 refine DCall.of Tryd.func5 sf5 hb5 (Nat.le_of_ble_eq_true rfl) (okRes_nil fun _ => rfl) ?_; simp only [s5, idxs, Nat.reduceAdd]
 repeat' (first|(with_reducible first|apply qA|apply qB|apply qC|apply qD|apply qE|apply qF)|(simp (disch:=omega) only [go_sem, simprocAttr, Blk.men, Blk.keysIn, rF, rG])|exact qM rfl rfl rfl|(refine qG rfl ?_)|(refine qK (c86 r) (by decide) ?_)|(refine qH rfl ?_)|(refine qI rfl ?_ ?_<;>intro hc<;>(try simp only [go_sem] at hc))|(refine qJ ?_ ?_<;>intro hc<;>(try simp only [hc])<;>(try simp only [go_sem] at hc)))
 ·have he : pressErr r m = 2 := if_pos (by simp_all)
  rw [he]
  all_goals refine retS_wk rfl ?_ (by simp only [Blk.nb, rowC_nb, D.nb, D.nbs, C.nb, C.nbs, C.nbss, rows_nb eI_nb, Bool.and_true, Bool.not_false, Bool.and_self, bD, dI, iD]); exact .refl _
 ·(refine call_c (c85 m) (by decide) ?_; simp (disch:=omega) only [go_sem,simprocAttr,Blk.men,Blk.keysIn])
  refine DW.cond rfl ?_ ?_ <;> intro h1
  ·have he : pressErr r m = 3 := by rw [pressErr, if_neg (by simp_all), if_pos (by simp_all)]
   rw [he]
   repeat' (first|(with_reducible first|apply qA|apply qB|apply qC|apply qD|apply qE|apply qF)|(simp (disch:=omega) only [go_sem, simprocAttr, Blk.men, Blk.keysIn])|exact qM rfl rfl rfl|(refine qG rfl ?_)|(refine qH rfl ?_)|(refine qI rfl ?_ ?_<;>intro hc<;>(try simp only [go_sem] at hc))|(refine qJ ?_ ?_<;>intro hc<;>(try simp only [hc])<;>(try simp only [go_sem] at hc)))
   all_goals refine retS_wk rfl ?_ (by simp only [Blk.nb, rowC_nb, D.nb, D.nbs, C.nb, C.nbs, C.nbss, rows_nb eI_nb, Bool.and_true, Bool.not_false, Bool.and_self, bD, dI, iD]); exact .refl _
  ·have he : pressErr r m = 0 := by rw [pressErr, if_neg (by simp_all), if_neg (by simp_all)]
   rw [he]
   repeat' (first|(with_reducible first|apply qA|apply qB|apply qC|apply qD|apply qE|apply qF)|(simp (disch:=omega) only [go_sem, simprocAttr, Blk.men, Blk.keysIn])|exact qM rfl rfl rfl|(refine qG rfl ?_)|(refine qK (c89 r m (by simp_all) (by simp_all)) (by decide) ?_)|(refine qH rfl ?_)|(refine qI rfl ?_ ?_<;>intro hc<;>(try simp only [go_sem] at hc))|(refine qJ ?_ ?_<;>intro hc<;>(try simp only [hc])<;>(try simp only [go_sem] at hc)))
   all_goals refine retS_wk rfl ?_ (by simp only [Blk.nb, rowC_nb, D.nb, D.nbs, C.nb, C.nbs, C.nbss, rows_nb eI_nb, Bool.and_true, Bool.not_false, Bool.and_self, bD, dI, iD]); exact .refl _
end Go.Dw.Seat
end
section
set_option linter.unusedSimpArgs false
set_option maxRecDepth 100000
namespace Go.Dw.Seat
open Go Go.Dw Go.Proofs Go.IntWalk
def hasN (st : Nat) (noz : List Nat) (s : List Cause) (box : Int) (z step : Nat) : Bool := ((boxN st noz s box).getD z 0 >>> step) % 2 == 1
theorem openErr_zero {x : Plan} (h : openErr x = 0) : ∃ (st : Nat) (noz : List Nat), x = ⟨st, nL noz⟩ ∧ (1 ≤ st ∧ st ≤ 16) ∧ (0 < noz.length ∧ noz.length ≤ 6) ∧ ∀ v ∈ noz, v < 2 ^ st := by
 unfold openErr at h
 split at h
 ·cases h
 ·rename_i h1
  split at h
  ·cases h
  ·rename_i h2
   split at h
   ·cases h
   ·rename_i h3
    split at h
    ·cases h
    ·rename_i h4
     have h1 := wthn_one (by simpa using h1)
     have hall : ∀ v ∈ x.noz, 0 ≤ v ∧ v ≤ 2 ^ x.steps.toNat - 1 := by
      simp only [Bool.not_eq_false, wthn, Bool.not_eq_true', List.any_eq_false, Bool.or_eq_true, decide_eq_true_eq, not_or] at h4
      intro v hv
      have := h4 v hv
      omega
     refine ⟨x.steps.toNat, x.noz.map Int.toNat, ?_, by omega, by simp; omega, ?_⟩
     ·obtain ⟨steps, noz⟩ := x
      simp only [Plan.mk.injEq]
      refine ⟨by simp at h1 ⊢; omega, ?_⟩
      simp only [nL, List.map_map]
      symm
      refine (List.map_congr_left (fun v hv => ?_)).trans (List.map_id _)
      have := (hall v hv).1
      simp only [Function.comp, id_eq]; omega
     ·intro v hv
      obtain ⟨u, hu, rfl⟩ := List.mem_map.1 hv
      obtain ⟨h5, h6⟩ := hall u hu
      have hpc : ((2 ^ x.steps.toNat : Nat) : Int) = (2 : Int) ^ x.steps.toNat := by simp
      rw [← hpc] at h6
      clear hpc
      generalize 2 ^ x.steps.toNat = m at *
      omega
theorem checkErr_zero {x : Plan} {s : List Cause} (h : checkErr x s = 0) : s.length ≤ 2 ∧ (∀ c ∈ s, (0 ≤ c.noz ∧ c.noz < x.noz.length) ∧ (1 ≤ c.kind ∧ c.kind ≤ 4) ∧ (0 ≤ c.frm ∧ c.frm ≤ 1000)) ∧ asc (s.map (·.noz)) = true := by
 unfold checkErr at h
 split at h
 ·cases h
 ·split at h
  ·cases h
  ·rename_i h2
   split at h
   ·rename_i h3
    refine ⟨by omega, fun c hc => ?_, h3⟩
    simp only [List.any_eq_true, not_exists, not_and, Bool.not_eq_true', Bool.not_eq_false] at h2
    have := h2 c hc
    simp only [causeOk, Bool.and_eq_true] at this
    have h4 := wthn_one this.1.1
    have h5 := wthn_one this.1.2
    have h6 := wthn_one this.2
    omega
   ·cases h
end Go.Dw.Seat
end
section
set_option linter.unusedSimpArgs false
set_option maxRecDepth 100000
namespace Go.Dw.Seat
open Go Go.Dw Go.Proofs Go.IntWalk
def boxErr (x : Plan) (s : List Cause) (box : Int) : Int := if stErr x [s] = 0 then (if wthn 0 1000 [box] then 0 else 9) else stErr x [s]
def boxOut (x : Plan) (s : List Cause) (box : Int) : List Nat := if boxErr x s box = 0 then boxN x.steps.toNat (x.noz.map Int.toNat) s box else []
theorem nL_toNat (l : List Nat) : (nL l).map Int.toNat = l := by
 simp only [nL, List.map_map]
 exact (List.map_congr_left (fun v _ => by simp)).trans (List.map_id _)
theorem stErr_zero {x : Plan} {ss : List (List Cause)} (h : stErr x ss = 0) : openErr x = 0 ∧ ∀ s ∈ ss, checkErr x s = 0 := by
 unfold stErr at h
 split at h
 ·rename_i h1
  refine ⟨h1, ?_⟩
  induction ss with
  | nil => simp
  | cons s ss ih =>
   simp only [firstErr] at h
   split at h
   ·rename_i h2
    intro s' hs'
    rcases List.mem_cons.1 hs' with rfl | h3
    ·exact h2
    ·exact ih h s' h3
   ·contradiction
 ·contradiction
theorem c55 (b : Bool) (x : Plan) (s : List Cause) (box : Int) (hx : x.noz.length ≤ 2 ^ 36) (hs : s.length ≤ 2 ^ 36) :
  DCall Tryd.prog 44 [dP false x, dCs b s, dI box] [] (.tup [dIs false (nL (boxOut x s box)), dI (boxErr x s box)]) [] := by
 refine DCall.of Tryd.func44 sf44 hb44 (Nat.le_of_ble_eq_true rfl) (okRes_nil fun _ => rfl) ?_; simp only [s44, idxs, Nat.reduceAdd]
 repeat' (first|(with_reducible first|apply qA|apply qB|apply qC|apply qD|apply qE|apply qF)|(simp (disch:=omega) only [go_sem, simprocAttr, Blk.men, Blk.keysIn])|exact qM rfl rfl rfl|(refine qG rfl ?_)|(refine qH rfl ?_)|(refine qI rfl ?_ ?_<;>intro hc<;>(try simp only [go_sem] at hc))|(refine qJ ?_ ?_<;>intro hc<;>(try simp only [hc])<;>(try simp only [go_sem] at hc)))
 (refine call_c (c77 true b x [s] hx (by simp) (by simpa using hs)) (by decide) ?_; simp (disch:=omega) only [go_sem,simprocAttr,Blk.men,Blk.keysIn])
 refine DW.seq (DW.block (DW.seq (DW.reg ?_)))
 simp (disch:=omega) only [go_sem,simprocAttr,Blk.men,Blk.keysIn]
 refine DW.cond rfl ?_ ?_ <;> intro h1
 ·have he : boxErr x s box = stErr x [s] := if_neg (by simpa using h1)
  have ho : boxOut x s box = [] := if_neg (by rw [he]; simpa using h1)
  rw [ho, he]
  repeat' (first|(with_reducible first|apply qA|apply qB|apply qC|apply qD|apply qE|apply qF)|(simp (disch:=omega) only [go_sem, simprocAttr, Blk.men, Blk.keysIn])|exact qM rfl rfl rfl|(refine qG rfl ?_)|(refine qH rfl ?_)|(refine qI rfl ?_ ?_<;>intro hc<;>(try simp only [go_sem] at hc))|(refine qJ ?_ ?_<;>intro hc<;>(try simp only [hc])<;>(try simp only [go_sem] at hc)))
  refine retS_wk rfl ?_ (by simp only [Blk.nb, rowC_nb, D.nb, D.nbs, C.nb, C.nbs, C.nbss, rows_nb eI_nb, Bool.and_true, Bool.not_false, Bool.and_self, bD, dI, iD]); exact .tup (.cons (.nil false 1) (.cons (.refl _) .nil))
 have h0 : stErr x [s] = 0 := by simpa using h1
 obtain ⟨hop, hch⟩ := stErr_zero h0
 have hun : boxErr x s box = if wthn 0 1000 [box] then 0 else 9 := if_pos h0
 have hoo : opened x = x := if_pos hop
 rw [hoo, h0]
 repeat' (first|(with_reducible first|apply qA|apply qB|apply qC|apply qD|apply qE|apply qF)|(simp (disch:=omega) only [go_sem, simprocAttr, Blk.men, Blk.keysIn])|exact qM rfl rfl rfl|(refine qG rfl ?_)|(refine qK (c93 true [box] (by simp)) (by decide) ?_)|(refine qH rfl ?_)|(refine qI rfl ?_ ?_<;>intro hc<;>(try simp only [go_sem] at hc))|(refine qJ ?_ ?_<;>intro hc<;>(try simp only [hc])<;>(try simp only [go_sem] at hc)))
 ·have he : boxErr x s box = 9 := by rw [hun, if_neg (by simp_all)]
  have ho : boxOut x s box = [] := if_neg (by rw [he]; decide)
  rw [ho, he]
  refine retS_wk rfl ?_ (by simp only [Blk.nb, rowC_nb, D.nb, D.nbs, C.nb, C.nbs, C.nbss, rows_nb eI_nb, Bool.and_true, Bool.not_false, Bool.and_self, bD, dI, iD]); exact .tup (.cons (.nil false 1) (.cons (.refl _) .nil))
 ·have he : boxErr x s box = 0 := by rw [hun, if_pos (by simp_all)]
  have ho : boxOut x s box = boxN x.steps.toNat (x.noz.map Int.toNat) s box := if_pos he
  rw [ho, he]
  obtain ⟨h2, h3, _⟩ := checkErr_zero (hch s (by simp))
  obtain ⟨st, noz, rfl, hst, hn, hv⟩ := openErr_zero hop
  simp only [Int.toNat_natCast, nL_toNat]
  simp only [nL_length] at h3
  (refine call_r (c80 false b st noz s box 29 hst.2 hv (by omega) hs (fun c hc => (h3 c hc).1)) (by decide) (by first | rfl | simp (disch:=omega) only [go_sem,simprocAttr,Blk.men,Blk.keysIn]) (by first | rfl | simp (disch:=omega) only [go_sem,simprocAttr,Blk.men,Blk.keysIn]) ?_; simp (disch:=omega) only [go_sem,simprocAttr,Blk.men,Blk.keysIn])
  repeat' (first|(with_reducible first|apply qA|apply qB|apply qC|apply qD|apply qE|apply qF)|(simp (disch:=omega) only [go_sem, simprocAttr, Blk.men, Blk.keysIn])|exact qM rfl rfl rfl|(refine qG rfl ?_)|(refine qH rfl ?_)|(refine qI rfl ?_ ?_<;>intro hc<;>(try simp only [go_sem] at hc))|(refine qJ ?_ ?_<;>intro hc<;>(try simp only [hc])<;>(try simp only [go_sem] at hc)))
  (refine retS_ent (Ent.rel 29 rfl) ?_; simp (disch:=omega) only [go_sem,simprocAttr,Blk.men,Blk.keysIn])
  refine retS_wk rfl ?_ (by simp only [Blk.nb, rowC_nb, D.nb, D.nbs, C.nb, C.nbs, C.nbss, rows_nb eI_nb, Bool.and_true, Bool.not_false, Bool.and_self, bD, dI, iD]); exact .refl _
end Go.Dw.Seat
end
section
set_option linter.unusedSimpArgs false
set_option maxRecDepth 100000
namespace Go.Dw.Seat
open Go Go.Dw Go.Proofs Go.IntWalk
section
variable {α : Type} {p : α → Bool}
structure Del (p : α → Bool) (l : List α) (j : Nat) (cur : List α) : Prop where
 le : j ≤ l.length
 len : cur.length = l.length
 lt : ((l.take j).filter (fun x => !p x)).length < j
 tk : cur.take ((l.take j).filter (fun x => !p x)).length = (l.take j).filter (fun x => !p x)
 dr : cur.drop j = l.drop j
theorem Del.get {l : List α} {j : Nat} {cur : List α} (h : Del p l j cur) : cur[j]? = l[j]? := by
 have h1 : (cur.drop j)[0]? = (l.drop j)[0]? := by rw [h.dr]
 simpa using h1
theorem Del.skip {l : List α} {j : Nat} {cur : List α} {v : α} (h : Del p l j cur) (hv : l[j]? = some v) (hp : p v = true) : Del p l (j + 1) cur ∧ ((l.take (j + 1)).filter (fun x => !p x)).length = ((l.take j).filter (fun x => !p x)).length := by
 have e : (l.take (j + 1)).filter (fun x => !p x) = (l.take j).filter (fun x => !p x) := by rw [List.take_add_one, hv, List.filter_append]; simp [hp]
 have hlt : j < l.length := by
  rcases Nat.lt_or_ge j l.length with h | h
  ·exact h
  ·rw [List.getElem?_eq_none h] at hv; cases hv
 refine ⟨⟨hlt, h.len, by have := h.lt; rw [e]; omega, by rw [e]; exact h.tk, ?_⟩, by rw [e]⟩
 have := congrArg (List.drop 1) h.dr
 simpa [List.drop_drop] using this
theorem Del.keep {l : List α} {j : Nat} {cur : List α} {v : α} (h : Del p l j cur) (hv : l[j]? = some v) (hp : p v = false) : Del p l (j + 1) (cur.set ((l.take j).filter (fun x => !p x)).length v) ∧ ((l.take (j + 1)).filter (fun x => !p x)).length = ((l.take j).filter (fun x => !p x)).length + 1 := by
 have e : (l.take (j + 1)).filter (fun x => !p x) = (l.take j).filter (fun x => !p x) ++ [v] := by rw [List.take_add_one, hv, List.filter_append]; simp [hp]
 have hlt : j < l.length := by
  rcases Nat.lt_or_ge j l.length with h | h
  ·exact h
  ·rw [List.getElem?_eq_none h] at hv; cases hv
 have h1 := h.lt
 have h2 := h.len
 have h3 := h.tk
 generalize (l.take j).filter (fun x => !p x) = f at *
 refine ⟨⟨hlt, by simp [h2], by rw [e]; simp; omega, ?_, ?_⟩, by rw [e]; simp⟩
 ·rw [e]
  simp only [List.length_append, List.length_cons, List.length_nil]
  rw [List.take_add_one, List.take_set_of_le (Nat.le_refl _), h3, List.getElem?_set_self (by omega)]
  rfl
 ·rw [List.drop_set_of_lt (by omega)]
  have := congrArg (List.drop 1) h.dr
  simpa [List.drop_drop] using this
theorem Del.fin {l : List α} {cur : List α} (h : Del p l l.length cur) : cur.take (l.filter (fun x => !p x)).length = l.filter (fun x => !p x) ∧ (l.filter (fun x => !p x)).length ≤ cur.length := by
 have h1 := h.tk
 have h2 := h.lt
 rw [List.take_length] at h1 h2
 exact ⟨h1, by rw [h.len]; omega⟩
end
end Go.Dw.Seat
end
section
set_option linter.unusedSimpArgs false
set_option maxRecDepth 100000
namespace Go.Dw.Seat
open Go Go.Dw Go.Proofs Go.IntWalk
def dupAt : List Int → Nat → Option Nat
 | a :: b :: l, k => if b = a then some (k + 1) else dupAt (b :: l) (k + 1)
 | _, _ => none
def keptTo (s : List Int) (m : Nat) : List Int := (((s.tail.zip s).take m).filter fun q => decide (q.1 ≠ q.2)).map (·.1)
def cpt (l : List Int) : List Int := match dupAt l 0 with
 | none => l
 | some k => l.take k ++ keptTo (l.drop k) ((l.drop k).length - 1)
theorem keptTo_len (s : List Int) (m : Nat) : (keptTo s m).length ≤ m := by
 simp only [keptTo, List.length_map]
 refine Nat.le_trans (List.length_filter_le _ _) ?_
 rw [List.length_take]; omega
theorem keptTo_succ {s : List Int} {m : Nat} {a b : Int} (ha : s[m]? = some a) (hb : s[m + 1]? = some b) : keptTo s (m + 1) = keptTo s m ++ if b = a then [] else [b] := by
 have hz : (s.tail.zip s)[m]? = some (b, a) := by
  rw [List.getElem?_zip_eq_some]
  exact ⟨by rw [List.getElem?_tail]; exact hb, ha⟩
 simp only [keptTo, List.take_add_one, hz, List.filter_append, List.map_append, Option.toList_some]
 congr 1
 by_cases h : b = a <;> simp [h]
structure Cp (l : List Int) (K m : Nat) (cur : List Int) : Prop where
 le : K + m + 1 ≤ l.length
 len : cur.length = l.length
 tk : cur.take (K + (keptTo (l.drop K) m).length) = l.take K ++ keptTo (l.drop K) m
 dr : cur.drop (K + m) = l.drop (K + m)
theorem Cp.step {l : List Int} {K m : Nat} {cur : List Int} {a b : Int} (h : Cp l K m cur) (hlt : K + m + 1 < l.length) (ha : l[K + m]? = some a) (hb : l[K + m + 1]? = some b) :
  (b = a → Cp l K (m + 1) cur ∧ (keptTo (l.drop K) (m + 1)).length = (keptTo (l.drop K) m).length) ∧
  (b ≠ a → Cp l K (m + 1) (cur.set (K + (keptTo (l.drop K) m).length) b) ∧ (keptTo (l.drop K) (m + 1)).length = (keptTo (l.drop K) m).length + 1) := by
 have hk := keptTo_succ (s := l.drop K) (m := m) (a := a) (b := b) (by rw [List.getElem?_drop]; exact ha) (by rw [List.getElem?_drop]; exact hb)
 have h1 := keptTo_len (l.drop K) m
 have h2 := h.tk
 have h3 := h.len
 have h4 : cur.drop (K + (m + 1)) = l.drop (K + (m + 1)) := by
  have := congrArg (List.drop 1) h.dr
  simpa [List.drop_drop, Nat.add_assoc] using this
 generalize keptTo (l.drop K) m = f at *
 constructor
 ·intro hba
  rw [if_pos hba, List.append_nil] at hk
  exact ⟨⟨by omega, h3, by rw [hk]; exact h2, h4⟩, by rw [hk]⟩
 ·intro hba
  rw [if_neg hba] at hk
  refine ⟨⟨by omega, by simp [h3], ?_, ?_⟩, by rw [hk]; simp⟩
  ·rw [hk]
   simp only [List.length_append, List.length_cons, List.length_nil, ← Nat.add_assoc]
   rw [List.take_add_one, List.take_set_of_le (Nat.le_refl _), h2, List.getElem?_set_self (by omega), List.append_assoc]
   rfl
  ·rw [List.drop_set_of_lt (by omega)]
   exact h4
theorem Cp.fin {l : List Int} {K m : Nat} {cur : List Int} (h : Cp l K m cur) (hm : m + 1 = (l.drop K).length) (hd : dupAt l 0 = some K) : cur.take (K + (keptTo (l.drop K) m).length) = cpt l := by
 unfold cpt
 rw [hd, h.tk]
 dsimp only
 rw [← hm, Nat.add_sub_cancel]
end Go.Dw.Seat
end
section
set_option linter.unusedSimpArgs false
set_option maxRecDepth 100000
namespace Go.Dw.Seat
open Go Go.Dw Go.Proofs Go.IntWalk
structure Spot where
 box : Nat
 noz : Nat
 step : Nat
def enSpot (s : Spot) : List D := [.agg [dI s.box, dI s.noz, dI s.step]]
end Go.Dw.Seat
end
section
set_option linter.unusedSimpArgs false
set_option maxRecDepth 100000
namespace Go.Dw.Seat
open Go Go.Dw Go.Proofs Go.IntWalk
attribute [go_sem] enSpot
def apS (st : Nat) (noz : List Nat) (a b : List Cause) (y : Look × Int) (s : Spot) : Option Exit × (Look × Int) :=
 if hasN st noz a s.box s.noz s.step = hasN st noz b s.box s.noz s.step then (none, y) else (some .ret, (⟨s.box, s.noz, s.step, hasN st noz a s.box s.noz s.step⟩, 0))
end Go.Dw.Seat
end
section
set_option linter.unusedSimpArgs false
set_option maxRecDepth 100000
namespace Go.Dw.Seat
open Go Go.Dw Go.Proofs Go.IntWalk
def eGb (b : Bool) (s : List Int) : List C := [.sl b 1 (rows eI s)]
attribute [go_sem] eGb
end Go.Dw.Seat
end
section
set_option linter.unusedSimpArgs false
set_option maxRecDepth 100000
namespace Go.Dw.Seat
open Go Go.Dw Go.Proofs Go.IntWalk
theorem c84 (r : Room) : DCall Tryd.prog 40 [.agg ((eR r).map D.c)] [] (bD (!roomOk r)) [] := by
 refine DCall.of Tryd.func40 sf40 hb40 (Nat.le_of_ble_eq_true rfl) (okRes_nil fun _ => rfl) ?_; simp only [s40, idxs, Nat.reduceAdd]
 repeat' (first|(with_reducible first|apply qA|apply qB|apply qC|apply qD|apply qE|apply qF)|(simp (disch:=omega) only [go_sem, simprocAttr, Blk.men, Blk.keysIn, rF, rG])|exact qM rfl rfl rfl|(refine qG rfl ?_)|(refine qK (c85 r) (by decide) ?_)|(refine qH rfl ?_)|(refine qI rfl ?_ ?_<;>intro hc<;>(try simp only [go_sem] at hc))|(refine qJ ?_ ?_<;>intro hc<;>(try simp only [hc])<;>(try simp only [go_sem] at hc)))
def opErr (r : Rule) (rooms : List Room) (mins : List Int) : Int :=
 if ruleOk r = false then 2 else if 50 < (rooms.length : Int) then 5 else if (mins.length : Int) ≠ rooms.length then 4 else if (rooms.any fun m => !roomOk m) = true then 3 else if wthn 0 2400 mins = false then 3 else 0
def opF (f : Room → Int) (rooms : List Room) (mins : List Int) (n : Nat) : List Nat := (List.range n).filter fun i => decide (mins.getD i 0 < f (rooms.getD i ⟨0, 0, 0, 0⟩))
theorem opF_succ {f : Room → Int} {rooms : List Room} {mins : List Int} {n : Nat} {m : Room} {v : Int} (hm : rooms[n]? = some m) (hv : mins[n]? = some v) :
  opF f rooms mins (n + 1) = opF f rooms mins n ++ (if decide (v < f m) then [n] else []) := by
 unfold opF
 rw [filter_range]
 simp only [List.getD, hm, hv, Option.getD_some]
theorem opF_len (f : Room → Int) (rooms : List Room) (mins : List Int) (n : Nat) : (opF f rooms mins n).length ≤ n := by
 refine Nat.le_trans (List.length_filter_le _ _) (by simp)
def opOut (f : Room → Int) (r : Rule) (rooms : List Room) (mins : List Int) : List Nat := if opErr r rooms mins = 0 then opF f rooms mins rooms.length else []
theorem c39 (b b2 : Bool) (r : Rule) (rooms : List Room) (mins : List Int) (hl : rooms.length ≤ 2 ^ 36) (hm : mins.length ≤ 2 ^ 36) :
  DCall Tryd.prog 10 [dR r, .c (.sl b 4 (rows eR rooms)), dIs b2 mins] [] (.tup [dIs false (nL (opOut (pressLo r) r rooms mins)), dIs false (nL (opOut (pressHi r) r rooms mins)), dI (opErr r rooms mins)]) [] := by
 have hfn := c87 b rooms hl 40 [] [] (fun m => !roomOk m) (fun m _ => c84 m)
 have h88 := c88 b2 0 2400 mins hm
 have fin : ∀ {e : Int}, opErr r rooms mins = e → e ≠ 0 → (∀ f, opOut f r rooms mins = []) := fun h1 h2 f => by
  simp only [opOut]; rw [if_neg (by rw [h1]; exact h2)]
 cases hr : ruleOk r with
 | false =>
  have he : opErr r rooms mins = 2 := by simp only [opErr, hr, if_true]
  rw [he, fin he (by decide), fin he (by decide)]
  refine DCall.of Tryd.func10 sf10 hb10 (Nat.le_of_ble_eq_true rfl) (okRes_nil fun _ => rfl) ?_; simp only [s10, idxs, Nat.reduceAdd]
  repeat' (first|(with_reducible first|apply qA|apply qB|apply qC|apply qD|apply qE|apply qF)|(refine qL rfl (WF.of ?_) ?_; first|rfl|skip)|(simp (disch:=omega) only [go_sem, simprocAttr, Blk.men, Blk.keysIn, hr])|exact qM rfl rfl rfl|(refine qG rfl ?_)|(refine qK (c86 r) (by decide) ?_)|(refine qH rfl ?_)|(refine qI rfl ?_ ?_<;>intro hc<;>(try simp only [go_sem] at hc))|(refine qJ ?_ ?_<;>intro hc<;>(try simp only [hc])<;>(try simp only [go_sem] at hc)))
  refine retS_wk rfl ?_ (by simp only [Blk.nb, rowC_nb, D.nb, D.nbs, C.nb, C.nbs, C.nbss, rows_nb eI_nb, Bool.and_true, Bool.not_false, Bool.and_self, bD, dI, iD]); exact .tup (.cons (.nil _ _) (.cons (.nil _ _) (.cons (.refl _) .nil)))
 | true =>
 by_cases h50 : 50 < (rooms.length : Int)
 ·have he : opErr r rooms mins = 5 := by simp only [opErr, hr, h50, if_true, if_false, Bool.true_eq_false]
  have hd : decide ((50 : Int) < (rooms.length : Int)) = true := decide_eq_true h50
  rw [he, fin he (by decide), fin he (by decide)]
  refine DCall.of Tryd.func10 sf10 hb10 (Nat.le_of_ble_eq_true rfl) (okRes_nil fun _ => rfl) ?_; simp only [s10, idxs, Nat.reduceAdd]
  repeat' (first|(with_reducible first|apply qA|apply qB|apply qC|apply qD|apply qE|apply qF)|(refine qL rfl (WF.of ?_) ?_; first|rfl|skip)|(simp (disch:=omega) only [go_sem, simprocAttr, Blk.men, Blk.keysIn, hr, hd])|exact qM rfl rfl rfl|(refine qG rfl ?_)|(refine qK (c86 r) (by decide) ?_)|(refine qH rfl ?_)|(refine qI rfl ?_ ?_<;>intro hc<;>(try simp only [go_sem] at hc))|(refine qJ ?_ ?_<;>intro hc<;>(try simp only [hc])<;>(try simp only [go_sem] at hc)))
  refine retS_wk rfl ?_ (by simp only [Blk.nb, rowC_nb, D.nb, D.nbs, C.nb, C.nbs, C.nbss, rows_nb eI_nb, Bool.and_true, Bool.not_false, Bool.and_self, bD, dI, iD]); exact .tup (.cons (.nil _ _) (.cons (.nil _ _) (.cons (.refl _) .nil)))
 have hd : decide ((50 : Int) < (rooms.length : Int)) = false := decide_eq_false h50
 by_cases hne : (mins.length : Int) = rooms.length
 case neg =>
  have he : opErr r rooms mins = 4 := by simp only [opErr, hr, h50, hne, if_true, if_false, Bool.true_eq_false, ne_eq, not_false_eq_true]
  have hd2 : ((mins.length : Int) != (rooms.length : Int)) = true := by simpa using hne
  rw [he, fin he (by decide), fin he (by decide)]
  refine DCall.of Tryd.func10 sf10 hb10 (Nat.le_of_ble_eq_true rfl) (okRes_nil fun _ => rfl) ?_; simp only [s10, idxs, Nat.reduceAdd]
  repeat' (first|(with_reducible first|apply qA|apply qB|apply qC|apply qD|apply qE|apply qF)|(refine qL rfl (WF.of ?_) ?_; first|rfl|skip)|(simp (disch:=omega) only [go_sem, simprocAttr, Blk.men, Blk.keysIn, hr, hd, hd2])|exact qM rfl rfl rfl|(refine qG rfl ?_)|(refine qK (c86 r) (by decide) ?_)|(refine qH rfl ?_)|(refine qI rfl ?_ ?_<;>intro hc<;>(try simp only [go_sem] at hc))|(refine qJ ?_ ?_<;>intro hc<;>(try simp only [hc])<;>(try simp only [go_sem] at hc)))
  refine retS_wk rfl ?_ (by simp only [Blk.nb, rowC_nb, D.nb, D.nbs, C.nb, C.nbs, C.nbss, rows_nb eI_nb, Bool.and_true, Bool.not_false, Bool.and_self, bD, dI, iD]); exact .tup (.cons (.nil _ _) (.cons (.nil _ _) (.cons (.refl _) .nil)))
 have hd2 : ((mins.length : Int) != (rooms.length : Int)) = false := by simpa using hne
 cases ha : rooms.any fun m => !roomOk m with
 | true =>
  have he : opErr r rooms mins = 3 := by simp only [opErr, hr, h50, hne, ha, if_true, if_false, Bool.true_eq_false, ne_eq, not_true_eq_false]
  rw [ha] at hfn
  rw [he, fin he (by decide), fin he (by decide)]
  refine DCall.of Tryd.func10 sf10 hb10 (Nat.le_of_ble_eq_true rfl) (okRes_nil fun _ => rfl) ?_; simp only [s10, idxs, Nat.reduceAdd]
  repeat' (first|(with_reducible first|apply qA|apply qB|apply qC|apply qD|apply qE|apply qF)|(refine qL rfl (WF.of ?_) ?_; first|rfl|skip)|(simp (disch:=omega) only [go_sem, simprocAttr, Blk.men, Blk.keysIn, hr, hd, hd2])|exact qM rfl rfl rfl|(refine qG rfl ?_)|(refine qK (c86 r) (by decide) ?_)|(refine qK (hfn) (by decide) ?_)|(refine qH rfl ?_)|(refine qI rfl ?_ ?_<;>intro hc<;>(try simp only [go_sem] at hc))|(refine qJ ?_ ?_<;>intro hc<;>(try simp only [hc])<;>(try simp only [go_sem] at hc)))
  refine retS_wk rfl ?_ (by simp only [Blk.nb, rowC_nb, D.nb, D.nbs, C.nb, C.nbs, C.nbss, rows_nb eI_nb, Bool.and_true, Bool.not_false, Bool.and_self, bD, dI, iD]); exact .tup (.cons (.nil _ _) (.cons (.nil _ _) (.cons (.refl _) .nil)))
 | false =>
 rw [ha] at hfn
 cases hw : wthn 0 2400 mins with
 | false =>
  have he : opErr r rooms mins = 3 := by simp only [opErr, hr, h50, hne, ha, hw, if_true, if_false, Bool.true_eq_false, Bool.false_eq_true, ne_eq, not_true_eq_false]
  rw [hw] at h88
  rw [he, fin he (by decide), fin he (by decide)]
  refine DCall.of Tryd.func10 sf10 hb10 (Nat.le_of_ble_eq_true rfl) (okRes_nil fun _ => rfl) ?_; simp only [s10, idxs, Nat.reduceAdd]
  repeat' (first|(with_reducible first|apply qA|apply qB|apply qC|apply qD|apply qE|apply qF)|(refine qL rfl (WF.of ?_) ?_; first|rfl|skip)|(simp (disch:=omega) only [go_sem, simprocAttr, Blk.men, Blk.keysIn, hr, hd, hd2])|exact qM rfl rfl rfl|(refine qG rfl ?_)|(refine qK (c86 r) (by decide) ?_)|(refine qK (hfn) (by decide) ?_)|(refine qK (h88) (by decide) ?_)|(refine qH rfl ?_)|(refine qI rfl ?_ ?_<;>intro hc<;>(try simp only [go_sem] at hc))|(refine qJ ?_ ?_<;>intro hc<;>(try simp only [hc])<;>(try simp only [go_sem] at hc)))
  refine retS_wk rfl ?_ (by simp only [Blk.nb, rowC_nb, D.nb, D.nbs, C.nb, C.nbs, C.nbss, rows_nb eI_nb, Bool.and_true, Bool.not_false, Bool.and_self, bD, dI, iD]); exact .tup (.cons (.nil _ _) (.cons (.nil _ _) (.cons (.refl _) .nil)))
 | true =>
  have he : opErr r rooms mins = 0 := by simp only [opErr, hr, h50, hne, ha, hw, if_true, if_false, Bool.true_eq_false, Bool.false_eq_true, ne_eq, not_true_eq_false]
  have ho : ∀ f, opOut f r rooms mins = opF f rooms mins rooms.length := fun f => by simp only [opOut, he, if_true]
  rw [hw] at h88
  rw [he, ho, ho]
  refine DCall.of Tryd.func10 sf10 hb10 (Nat.le_of_ble_eq_true rfl) (okRes_nil fun _ => rfl) ?_; simp only [s10, idxs, Nat.reduceAdd]
  repeat' (first|(with_reducible first|apply qA|apply qB|apply qC|apply qD|apply qE|apply qF)|(refine qL rfl (WF.of ?_) ?_; first|rfl|skip)|(simp (disch:=omega) only [go_sem, simprocAttr, Blk.men, Blk.keysIn, hr, hd, hd2])|exact qM rfl rfl rfl|(refine qG rfl ?_)|(refine qK (c86 r) (by decide) ?_)|(refine qK (hfn) (by decide) ?_)|(refine qK (h88) (by decide) ?_)|(refine qH rfl ?_)|(refine qI rfl ?_ ?_<;>intro hc<;>(try simp only [go_sem] at hc))|(refine qJ ?_ ?_<;>intro hc<;>(try simp only [hc])<;>(try simp only [go_sem] at hc)))
  refine DW.ent (Ent.adopt 6 55 1 rfl rfl rfl) ?_
  simp (disch:=omega) only [go_sem,simprocAttr,Blk.men,Blk.keysIn]
  refine DW.ent (Ent.adopt 7 66 1 rfl rfl rfl) ?_
  simp (disch:=omega) only [go_sem,simprocAttr,Blk.men,Blk.keysIn]
  refine DW.loop (ι := { i : Nat // i ≤ rooms.length }) (fun i => ⟨70, [(36, dI i.1), (35, dI rooms.length), (34, .c (.sl b 4 (rows eR rooms))), (7, .own 66), (6, .own 55), (3, .box 3 0), (2, dIs b2 mins)],
   [(66, .row 1 (rowC (rows eI (nL (opF (pressHi r) rooms mins i.1))))), (55, .row 1 (rowC (rows eI (nL (opF (pressLo r) rooms mins i.1))))), (3, .box [dI r.mins, dI r.deg, dI r.damp])]⟩) (fun i => rooms.length - i.1) ⟨0, Nat.zero_le _⟩ ?_ ?_
  ·refine Ent.to ?_ ?_ <;> simp (disch:=omega) only [qR,qS,qTw,qU,get,Nat.reduceEqDiff,↓reduceIte,qV,qW,qX,qY,qZ,and_self,dI,i64_in,and_true,true_and,rA,rB,rC,rD]
   exact ⟨.refl _, .refl _⟩
  rintro ⟨i, hi⟩
  dsimp only
  rcases at_or rooms i hi with ⟨m, hm0, hlt, hdd⟩ | ⟨hend, hdd⟩
  ·obtain ⟨v, hv⟩ := getE (l := mins) (i := i) (by omega)
   have hok : roomOk m = true := by
    have := List.any_eq_false.1 ha m (List.mem_of_getElem? hm0)
    simpa using this
   have h89 := c89 r m hr hok
   have hl1 := opF_succ (f := pressLo r) hm0 hv
   have hl2 := opF_succ (f := pressHi r) hm0 hv
   have hn1 := opF_len (pressLo r) rooms mins i
   have hn2 := opF_len (pressHi r) rooms mins i
   generalize opF (pressLo r) rooms mins i = a at *
   generalize opF (pressHi r) rooms mins i = c at *
   generalize pressLo r m = lo at *
   generalize pressHi r m = hi' at *
   have hal : (nL a).length + 1 ≤ 17592186044416 := by rw [nL_length]; omega
   have hcl : (nL c).length + 1 ≤ 17592186044416 := by rw [nL_length]; omega
   have hil : (i < mins.length) = True := eq_true (by omega)
   cases h1 : decide (v < lo) with
   | false =>
    simp only [h1, Bool.false_eq_true, if_false, List.append_nil] at hl1
    cases h2 : decide (v < hi') with
    | false =>
     simp only [h2, Bool.false_eq_true, if_false, List.append_nil] at hl2
     repeat' (first|(with_reducible first|apply qA|apply qB|apply qC|apply qD|apply qE|apply qF)|(refine qL rfl (WF.of ?_) ?_; first|rfl|skip)|(simp (disch:=omega) only [go_sem, simprocAttr, Blk.men, Blk.keysIn, hdd, hm0, hv, hil, h1, h2])|exact qM rfl rfl rfl|(refine qG rfl ?_)|(refine qK (h89) (by decide) ?_)|(refine qK (c90 _ _) (by decide) ?_)|(refine qH rfl ?_)|(refine qI rfl ?_ ?_<;>intro hc<;>(try simp only [go_sem] at hc))|(refine qJ ?_ ?_<;>intro hc<;>(try simp only [hc])<;>(try simp only [go_sem] at hc)))
     refine ⟨⟨i + 1, hlt⟩, ?_, Ent.to ?_ ?_⟩ <;> first | (show _ < _; (try simp only); omega) | (simp (disch:=omega) only [qR,qS,qTw,qU,get,Nat.reduceEqDiff,↓reduceIte,qV,qW,qX,qY,qZ,and_self,dI,i64_in,and_true,true_and,rA,rB,rC,rD, hl1,hl2])
    | true =>
     simp only [h2, if_true] at hl2
     repeat' (first|(with_reducible first|apply qA|apply qB|apply qC|apply qD|apply qE|apply qF)|(refine qL rfl (WF.of ?_) ?_; first|rfl|skip)|(simp (disch:=omega) only [go_sem, simprocAttr, Blk.men, Blk.keysIn, hdd, hm0, hv, hil, h1, h2])|exact qM rfl rfl rfl|(refine qG rfl ?_)|(refine qK (h89) (by decide) ?_)|(refine qK (c90 _ _) (by decide) ?_)|(refine qH rfl ?_)|(refine qI rfl ?_ ?_<;>intro hc<;>(try simp only [go_sem] at hc))|(refine qJ ?_ ?_<;>intro hc<;>(try simp only [hc])<;>(try simp only [go_sem] at hc)))
     refine ⟨⟨i + 1, hlt⟩, ?_, Ent.to ?_ ?_⟩ <;> first | (show _ < _; (try simp only); omega) | (simp (disch:=omega) only [qR,qS,qTw,qU,get,Nat.reduceEqDiff,↓reduceIte,qV,qW,qX,qY,qZ,and_self,dI,i64_in,and_true,true_and,rA,rB,rC,rD, hl1,hl2,← nL_snoc])
   | true =>
    simp only [h1, if_true] at hl1
    cases h2 : decide (v < hi') with
    | false =>
     simp only [h2, Bool.false_eq_true, if_false, List.append_nil] at hl2
     repeat' (first|(with_reducible first|apply qA|apply qB|apply qC|apply qD|apply qE|apply qF)|(refine qL rfl (WF.of ?_) ?_; first|rfl|skip)|(simp (disch:=omega) only [go_sem, simprocAttr, Blk.men, Blk.keysIn, hdd, hm0, hv, hil, h1, h2])|exact qM rfl rfl rfl|(refine qG rfl ?_)|(refine qK (h89) (by decide) ?_)|(refine qK (c90 _ _) (by decide) ?_)|(refine qH rfl ?_)|(refine qI rfl ?_ ?_<;>intro hc<;>(try simp only [go_sem] at hc))|(refine qJ ?_ ?_<;>intro hc<;>(try simp only [hc])<;>(try simp only [go_sem] at hc)))
     refine ⟨⟨i + 1, hlt⟩, ?_, Ent.to ?_ ?_⟩ <;> first | (show _ < _; (try simp only); omega) | (simp (disch:=omega) only [qR,qS,qTw,qU,get,Nat.reduceEqDiff,↓reduceIte,qV,qW,qX,qY,qZ,and_self,dI,i64_in,and_true,true_and,rA,rB,rC,rD, hl1,hl2,← nL_snoc])
    | true =>
     simp only [h2, if_true] at hl2
     repeat' (first|(with_reducible first|apply qA|apply qB|apply qC|apply qD|apply qE|apply qF)|(refine qL rfl (WF.of ?_) ?_; first|rfl|skip)|(simp (disch:=omega) only [go_sem, simprocAttr, Blk.men, Blk.keysIn, hdd, hm0, hv, hil, h1, h2])|exact qM rfl rfl rfl|(refine qG rfl ?_)|(refine qK (h89) (by decide) ?_)|(refine qK (c90 _ _) (by decide) ?_)|(refine qH rfl ?_)|(refine qI rfl ?_ ?_<;>intro hc<;>(try simp only [go_sem] at hc))|(refine qJ ?_ ?_<;>intro hc<;>(try simp only [hc])<;>(try simp only [go_sem] at hc)))
     refine ⟨⟨i + 1, hlt⟩, ?_, Ent.to ?_ ?_⟩ <;> first | (show _ < _; (try simp only); omega) | (simp (disch:=omega) only [qR,qS,qTw,qU,get,Nat.reduceEqDiff,↓reduceIte,qV,qW,qX,qY,qZ,and_self,dI,i64_in,and_true,true_and,rA,rB,rC,rD, hl1,hl2,← nL_snoc])
  ·repeat' (first|(with_reducible first|apply qA|apply qB|apply qC|apply qD|apply qE|apply qF)|(refine qL rfl (WF.of ?_) ?_; first|rfl|skip)|(simp (disch:=omega) only [go_sem, simprocAttr, Blk.men, Blk.keysIn, hdd])|exact qM rfl rfl rfl|(refine qG rfl ?_)|(refine qH rfl ?_)|(refine qI rfl ?_ ?_<;>intro hc<;>(try simp only [go_sem] at hc))|(refine qJ ?_ ?_<;>intro hc<;>(try simp only [hc])<;>(try simp only [go_sem] at hc)))
   subst hend
   (refine retS_ent (Ent.rel 66 rfl) ?_; simp (disch:=omega) only [go_sem,simprocAttr,Blk.men,Blk.keysIn])
   (refine retS_ent (Ent.rel 55 rfl) ?_; simp (disch:=omega) only [go_sem,simprocAttr,Blk.men,Blk.keysIn])
   refine retS_wk rfl ?_ (by simp only [Blk.nb, rowC_nb, D.nb, D.nbs, C.nb, C.nbs, C.nbss, rows_nb eI_nb, Bool.and_true, Bool.not_false, Bool.and_self, bD, dI, iD]); exact .refl _
end Go.Dw.Seat
end
section
set_option linter.unusedSimpArgs false
namespace Go.Dw.Seat
open Go Go.Dw
theorem time_mono {r : Rule} {w d w' d' : Int} (hr : ruleOk r = true) (hw : w' ≤ w) (hd : d ≤ d') : timeI r w d ≤ timeI r w' d' := by
 obtain ⟨r1, r2, r3⟩ := ruleOk_in hr
 have h1 : r.deg * w' ≤ r.deg * w := Int.mul_le_mul_of_nonneg_left hw r2.1
 have h2 : r.damp * d ≤ r.damp * d' := Int.mul_le_mul_of_nonneg_left hd r3.1
 have h3 : r.mins * (1000 - r.deg * w + r.damp * d) ≤ r.mins * (1000 - r.deg * w' + r.damp * d') := Int.mul_le_mul_of_nonneg_left (by omega) (by omega)
 unfold timeI
 generalize r.mins * (1000 - r.deg * w + r.damp * d) = n at *
 generalize r.mins * (1000 - r.deg * w' + r.damp * d') = m at *
 omega
theorem time_in {r : Rule} {w d : Int} (hr : ruleOk r = true) (hw : 0 ≤ w ∧ w ≤ 30) (hd : 0 ≤ d ∧ d ≤ 100) : 0 ≤ timeI r w d ∧ timeI r w d ≤ 2000 := by
 obtain ⟨r1, r2, r3⟩ := ruleOk_in hr
 have e1 := mulB r2 hw
 have e2 := mulB r3 hd
 have e3 := mulB (show 0 ≤ r.mins ∧ r.mins ≤ 600 by omega) (show 0 ≤ 1000 - r.deg * w + r.damp * d ∧ 1000 - r.deg * w + r.damp * d ≤ 3000 by omega)
 unfold timeI
 generalize r.mins * (1000 - r.deg * w + r.damp * d) = n at *
 omega
end Go.Dw.Seat
end
section
set_option linter.unusedSimpArgs false
set_option maxRecDepth 100000
namespace Go.Dw.Seat
open Go Go.Dw Go.Proofs Go.IntWalk
theorem glOk_of {m : Room} (h : (0 ≤ m.wl ∧ m.wl ≤ m.wh ∧ m.wh ≤ 30) ∧ (0 ≤ m.dl ∧ m.dl ≤ m.dh ∧ m.dh ≤ 100)) : roomOk m = true := by
 have e : ∀ lo hi : Int, wthn 0 30 [lo, hi] = (wthn 0 30 [lo] && wthn 0 30 [hi]) := fun lo hi => by simp [wthn]
 have e' : ∀ lo hi : Int, wthn 0 100 [lo, hi] = (wthn 0 100 [lo] && wthn 0 100 [hi]) := fun lo hi => by simp [wthn]
 have w1 : ∀ a b n : Int, wthn a b [n] = true ↔ a ≤ n ∧ n ≤ b := fun a b n => by simp [wthn]
 simp only [roomOk, spanOk, e, e', Bool.and_eq_true, w1, decide_eq_true_eq]
 omega
theorem glTime_pos {r : Rule} {w d : Int} (hr : ruleOk r = true) (hw : 0 ≤ w ∧ w ≤ 30) (hd : 0 ≤ d ∧ d ≤ 100) : 1 ≤ timeI r w d := by
 obtain ⟨r1, r2, r3⟩ := ruleOk_in hr
 have e1 := mulB r2 hw
 have e2 := mulB r3 hd
 have e3 : 1 * 1 ≤ r.mins * (1000 - r.deg * w + r.damp * d) := Int.mul_le_mul r1.1 (by omega) (by decide) (by omega)
 unfold timeI
 generalize r.mins * (1000 - r.deg * w + r.damp * d) = n at *
 omega
theorem glErr_zero {r : Rule} {m : Room} {mins : List Int} {n : Nat} (hr : ruleOk r = true) (hm : roomOk m = true) (hl : mins.length = n) (hn : n ≤ 50) (hw : wthn 0 2400 mins = true) : opErr r (List.replicate n m) mins = 0 := by
 have e1 : ¬ 50 < ((List.replicate n m).length : Int) := by rw [List.length_replicate]; omega
 have e2 : ¬ ((mins.length : Int) ≠ ((List.replicate n m).length : Int)) := by rw [List.length_replicate, hl]; simp
 have e3 : (List.replicate n m).any (fun m => !roomOk m) = false := by
  rw [List.any_eq_false]
  intro a ha
  rw [List.eq_of_mem_replicate ha, hm]; simp
 simp only [opErr, hr, if_neg e1, if_neg e2, e3, hw, Bool.true_eq_false, Bool.false_eq_true, if_false]
theorem glPress0 {r : Rule} {m : Room} (hr : ruleOk r = true) (hm : roomOk m = true) : DCall Tryd.prog 5 [dR r, .agg ((eR m).map D.c)] [] (.tup [.agg [dI (pressLo r m), dI (pressHi r m)], dI 0]) [] := by
 have h := c41 r m
 have h0 : pressErr r m = 0 := by simp [pressErr, hr, hm]
 rw [h0, if_pos rfl, if_pos rfl] at h
 exact h
theorem gl_wthn_yes {lo hi : Int} {l : List Int} (h : ∀ v ∈ l, lo ≤ v ∧ v ≤ hi) : wthn lo hi l = true := by
 simpa [wthn] using h
theorem glSame (p q : Bool) (a b : List Int) (ha : a.length ≤ 2 ^ 36) (hb : b.length ≤ 2 ^ 36) : DCall Tryd.prog 11 [.c (.sl p 1 (rows eI a)), .c (.sl q 1 (rows eI b))] [] (bD (decide (a = b))) [] := by
 refine DCall.of Tryd.func11 sf11 hb11 (Nat.le_of_ble_eq_true rfl) (okRes_nil fun _ => rfl) ?_; simp only [s11, idxs, Nat.reduceAdd]
 repeat' (first|(with_reducible first|apply qA|apply qB|apply qC|apply qD|apply qE|apply qF)|(refine qL rfl (WF.of ?_) ?_; first|rfl|skip)|(simp (disch:=omega) only [go_sem, simprocAttr, Blk.men, Blk.keysIn])|exact qM rfl rfl rfl|(refine qG rfl ?_)|(refine qH rfl ?_)|(refine qI rfl ?_ ?_<;>intro hc<;>(try simp only [go_sem] at hc))|(refine qJ ?_ ?_<;>intro hc<;>(try simp only [hc])<;>(try simp only [go_sem] at hc)))
 ·refine retS_of rfl ?_ rfl; simp only [oneD, St.op, get, Nat.reduceEqDiff, ↓reduceIte, Option.getD_some, bD, dI]
  have : a ≠ b := by rintro rfl; simp_all
  simp only [this, decide_false]
 refine DW.loop (ι := { i : Nat // i ≤ a.length ∧ ∀ j, j < i → a[j]? = b[j]? }) (fun i => ⟨26, [(5, dI i.1), (1, .c (.sl q 1 (rows eI b))), (0, .c (.sl p 1 (rows eI a)))], []⟩) (fun i => a.length - i.1) ⟨0, Nat.zero_le _, fun j h => by omega⟩ ?_ ?_
 ·refine Ent.to ?_ ?_ <;> simp (disch:=omega) only [qR,qS,qTw,qU,get,Nat.reduceEqDiff,↓reduceIte,qV,qW,qX,qY,qZ,and_self,dI,i64_in,and_true,true_and,rA,rB,rC,rD]
 rintro ⟨i, hi, hij⟩
 rcases at_or a i hi with ⟨v, hv, hlt, hd⟩ | ⟨he, hd⟩
 ·obtain ⟨u, hu⟩ : ∃ u, b[i]? = some u := getE (by omega)
  repeat' (first|(with_reducible first|apply qA|apply qB|apply qC|apply qD|apply qE|apply qF)|(refine qL rfl (WF.of ?_) ?_; first|rfl|skip)|(simp (disch:=omega) only [go_sem, simprocAttr, Blk.men, Blk.keysIn, hd, hv, hu])|exact qM rfl rfl rfl|(refine qG rfl ?_)|(refine qH rfl ?_)|(refine qI rfl ?_ ?_<;>intro hc<;>(try simp only [go_sem] at hc))|(refine qJ ?_ ?_<;>intro hc<;>(try simp only [hc])<;>(try simp only [go_sem] at hc)))
  ·refine retS_of rfl ?_ rfl; simp only [oneD, St.op, get, Nat.reduceEqDiff, ↓reduceIte, Option.getD_some, bD, dI]
   have : a ≠ b := by rintro rfl; simp_all
   simp only [this, decide_false]
  ·refine ⟨⟨i + 1, by omega, upto1 hij (by rw [hv, hu]; congr 1)⟩, ?_, Ent.to ?_ ?_⟩ <;> first | (show _ < _; (try simp only); omega) | (simp (disch:=omega) only [qR,qS,qTw,qU,get,Nat.reduceEqDiff,↓reduceIte,qV,qW,qX,qY,qZ,and_self,dI,i64_in,and_true,true_and,rA,rB,rC,rD])
 ·repeat' (first|(with_reducible first|apply qA|apply qB|apply qC|apply qD|apply qE|apply qF)|(refine qL rfl (WF.of ?_) ?_; first|rfl|skip)|(simp (disch:=omega) only [go_sem, simprocAttr, Blk.men, Blk.keysIn, hd])|exact qM rfl rfl rfl|(refine qG rfl ?_)|(refine qH rfl ?_)|(refine qI rfl ?_ ?_<;>intro hc<;>(try simp only [go_sem] at hc))|(refine qJ ?_ ?_<;>intro hc<;>(try simp only [hc])<;>(try simp only [go_sem] at hc)))
  refine retS_of rfl ?_ rfl; simp only [oneD, St.op, get, Nat.reduceEqDiff, ↓reduceIte, Option.getD_some, bD, dI]
  have : a = b := ext_upto (by omega) (he ▸ hij)
  simp only [this, decide_true]
theorem glSpan (a b : Int) : DCall Tryd.prog 6 [dI a, dI b] [] (.agg [dI a, dI b]) [] := by
 refine DCall.of Tryd.func6 sf6 hb6 (Nat.le_of_ble_eq_true rfl) (okRes_nil fun _ => rfl) ?_; simp only [s6, idxs, Nat.reduceAdd]
 repeat' (first|(with_reducible first|apply qA|apply qB|apply qC|apply qD|apply qE|apply qF)|(simp (disch:=omega) only [go_sem, simprocAttr, Blk.men, Blk.keysIn])|exact qM rfl rfl rfl|(refine qG rfl ?_)|(refine qH rfl ?_)|(refine qI rfl ?_ ?_<;>intro hc<;>(try simp only [go_sem] at hc))|(refine qJ ?_ ?_<;>intro hc<;>(try simp only [hc])<;>(try simp only [go_sem] at hc)))
theorem kgA1 : boxOut ⟨6, [14, 18]⟩ [⟨1, 2, 0⟩] 5 = [14, 54] ∧ boxErr ⟨6, [14, 18]⟩ [⟨1, 2, 0⟩] 5 = 0 := ⟨by kernel_rfl, by kernel_rfl⟩
theorem kgA2 : pressLo ⟨60, 10, 5⟩ ⟨0, 10, 20, 40⟩ = 60 ∧ pressHi ⟨60, 10, 5⟩ ⟨0, 10, 20, 40⟩ = 72 := ⟨by kernel_rfl, by kernel_rfl⟩
set_option maxHeartbeats 800000 in
theorem glGlue : DCall Tryd.prog 12 [] [] (bD true) [] := by
 have h55a := c55 true ⟨6, [14, 18]⟩ [⟨1, 2, 0⟩] 5 (by decide) (by decide)
 rw [kgA1.1, kgA1.2] at h55a
 have h41 := glPress0 (r := ⟨60, 10, 5⟩) (m := ⟨0, 10, 20, 40⟩) (by decide) (by decide)
 rw [kgA2.1, kgA2.2] at h41
 have s1 := glSpan 0 10
 have s2 := glSpan 20 40
 have s3 := glSpan 60 72
 have e1 := glSame false true (nL [14, 54]) [14, 54] (by decide) (by decide)
 rw [show decide (nL [14, 54] = [14, 54]) = true from by decide] at e1
 refine DCall.of Tryd.func12 sf12 hb12 (Nat.le_of_ble_eq_true rfl) (okRes_nil fun _ => rfl) ?_; simp only [s12, idxs, Nat.reduceAdd]
 refine DW.seq (DW.reg ?_)
 simp (disch:=omega) only [go_sem,simprocAttr,Blk.men,Blk.keysIn]
 refine DW.seq (DW.reg ?_)
 simp (disch:=omega) only [go_sem,simprocAttr,Blk.men,Blk.keysIn]
 (refine DW.ent (Ent.rel 6 rfl) ?_; simp (disch:=omega) only [go_sem,simprocAttr,Blk.men,Blk.keysIn])
 repeat' (first|(with_reducible first|apply qA|apply qB|apply qC|apply qD|apply qE|apply qF)|(refine qL rfl (WF.of ?_) ?_; first|rfl|skip)|(simp (disch:=omega) only [go_sem, simprocAttr, Blk.men, Blk.keysIn])|exact qM rfl rfl rfl|(refine qG rfl ?_)|(refine qK (s1) (by decide) ?_)|(refine qK (s2) (by decide) ?_)|(refine qK (s3) (by decide) ?_)|(refine qK (h55a) (by decide) ?_)|(refine qK (h41) (by decide) ?_)|(refine qK (e1) (by decide) ?_)|(refine qH rfl ?_)|(refine qI rfl ?_ ?_<;>intro hc<;>(try simp only [go_sem] at hc))|(refine qJ ?_ ?_<;>intro hc<;>(try simp only [hc])<;>(try simp only [go_sem] at hc)))
end Go.Dw.Seat
end
section
set_option linter.unusedSimpArgs false
set_option maxRecDepth 100000
namespace Go.Dw.Seat.Cr
open Go Go.Dw Go.Proofs Go.IntWalk
def prR (a b c : Nat) : Rule := ⟨1 + 2 * (a : Int), ((b % 21 : Nat) : Int), ((c % 21 : Nat) : Int)⟩
def prM (m0 m1 m2 : Nat) : Room := ⟨((m0 % 20 : Nat) : Int), ((m0 % 20 : Nat) : Int) + 5, ((m1 % 70 : Nat) : Int), ((m1 % 70 : Nat) : Int) + ((m2 % 30 : Nat) : Int)⟩
theorem prR_ok (a b c : Nat) (ha : a < 256) : ruleOk (prR a b c) = true := by
 have h1 : b % 21 < 21 := Nat.mod_lt _ (by decide)
 have h2 : c % 21 < 21 := Nat.mod_lt _ (by decide)
 have e : ∀ lo hi : Int, Seat.wthn 0 20 [lo, hi] = (Seat.wthn 0 20 [lo] && Seat.wthn 0 20 [hi]) := fun lo hi => by simp [Seat.wthn]
 have w1 : ∀ a b n : Int, Seat.wthn a b [n] = true ↔ a ≤ n ∧ n ≤ b := fun a b n => by simp [Seat.wthn]
 simp only [ruleOk, prR, e, Bool.and_eq_true, w1]
 omega
theorem prFacts (a0 a1 a2 m0 m1 m2 : Nat) (h0 : a0 < 256) : ∃ lo hi : Int, (1 ≤ lo ∧ lo ≤ hi ∧ hi ≤ 2000) ∧
  DCall Tryd.prog 5 [.agg [dI (1 + 2 * (a0 : Int)), dI ((a1 % 21 : Nat) : Int), dI ((a2 % 21 : Nat) : Int)], .agg [dI ((m0 % 20 : Nat) : Int), dI (((m0 % 20 : Nat) : Int) + 5), dI ((m1 % 70 : Nat) : Int), dI (((m1 % 70 : Nat) : Int) + ((m2 % 30 : Nat) : Int))]] [] (.tup [.agg [dI lo, dI hi], dI 0]) [] ∧
  ∀ t : Int, hi ≤ t ∧ t ≤ 2400 → DCall Tryd.prog 10 [.agg [dI (1 + 2 * (a0 : Int)), dI ((a1 % 21 : Nat) : Int), dI ((a2 % 21 : Nat) : Int)], .c (.sl true 4 (rows eR [prM m0 m1 m2])), .c (.sl true 1 (rows eI [t]))] [] (.tup [dIs false [], dIs false [], dI 0]) [] := by
 have q1 : m0 % 20 < 20 := Nat.mod_lt _ (by decide)
 have q2 : m1 % 70 < 70 := Nat.mod_lt _ (by decide)
 have q3 : m2 % 30 < 30 := Nat.mod_lt _ (by decide)
 have hr := prR_ok a0 a1 a2 h0
 have hin : (0 ≤ (prM m0 m1 m2).wl ∧ (prM m0 m1 m2).wl ≤ (prM m0 m1 m2).wh ∧ (prM m0 m1 m2).wh ≤ 30) ∧ (0 ≤ (prM m0 m1 m2).dl ∧ (prM m0 m1 m2).dl ≤ (prM m0 m1 m2).dh ∧ (prM m0 m1 m2).dh ≤ 100) := by
  simp only [prM]; omega
 have hm := glOk_of hin
 have h41 := glPress0 hr hm
 have hlo1 : 1 ≤ pressLo (prR a0 a1 a2) (prM m0 m1 m2) := glTime_pos hr (by omega) (by omega)
 have hhi2 : pressHi (prR a0 a1 a2) (prM m0 m1 m2) ≤ 2000 := (time_in hr (by omega) (by omega)).2
 have hlh : pressLo (prR a0 a1 a2) (prM m0 m1 m2) ≤ pressHi (prR a0 a1 a2) (prM m0 m1 m2) := time_mono hr (by omega) (by omega)
 refine ⟨pressLo (prR a0 a1 a2) (prM m0 m1 m2), pressHi (prR a0 a1 a2) (prM m0 m1 m2), ⟨hlo1, hlh, by omega⟩, h41, fun t ht => ?_⟩
 have h39 := c39 true true (prR a0 a1 a2) [prM m0 m1 m2] [t] (by simp) (by simp)
 have he : opErr (prR a0 a1 a2) [prM m0 m1 m2] [t] = 0 := glErr_zero (n := 1) (mins := [t]) hr hm rfl (by decide) (gl_wthn_yes (fun v hv => by
  simp only [List.mem_cons, List.not_mem_nil, or_false] at hv
  subst hv; omega))
 have o1 : opOut (pressLo (prR a0 a1 a2)) (prR a0 a1 a2) [prM m0 m1 m2] [t] = [] := by
  rw [opOut, if_pos he]
  show List.filter _ [0] = []
  have k1 : ¬ t < pressLo (prR a0 a1 a2) (prM m0 m1 m2) := by omega
  simp [List.filter, List.getD, k1]
 have o2 : opOut (pressHi (prR a0 a1 a2)) (prR a0 a1 a2) [prM m0 m1 m2] [t] = [] := by
  rw [opOut, if_pos he]
  show List.filter _ [0] = []
  have k1 : ¬ t < pressHi (prR a0 a1 a2) (prM m0 m1 m2) := by omega
  simp [List.filter, List.getD, k1]
 rw [o1, o2, he] at h39
 exact h39
abbrev p8 (n : Nat) : D := .c (.v (.int .u8 n))
theorem min_ifp (a b : Int) : (if b < a then b else a) = min a b := by split <;> omega
theorem max_ifp (a b : Int) : (if a < b then b else a) = max a b := by split <;> omega
set_option maxHeartbeats 16000000 in
theorem tpPressRoom (a0 a1 a2 v0 v1 v2 v3 v4 v5 v6 r0 r1 : Nat) (ha0 : a0 < 256) (ha1 : a1 < 256) (ha2 : a2 < 256) (hv0 : v0 < 256) (hv1 : v1 < 256) (hv2 : v2 < 256) (hv3 : v3 < 256) (hv4 : v4 < 256) (hv5 : v5 < 256) (hv6 : v6 < 256) (hr0 : r0 < 256) (hr1 : r1 < 256) :
  DCall Tryd.prog 3 [.agg [p8 a0, p8 a1, p8 a2], .agg [p8 v0, p8 v1, p8 v2, p8 v3, p8 v4, p8 v5, p8 v6], .agg [p8 r0, p8 r1]] [] (bD true) [] := by
 obtain ⟨lo, hi, hb, hPr, hOp⟩ := prFacts a0 a1 a2 v0 v1 v2 ha0
 obtain ⟨h, hh⟩ : ∃ h : Int, (hi + 59).tdiv 60 = h := ⟨_, rfl⟩
 have hhb : 1 ≤ h ∧ h ≤ 34 ∧ hi ≤ 60 * h := by
  rw [Int.tdiv_eq_ediv_of_nonneg (by omega)] at hh
  omega
 have hOp := hOp (min 2400 (60 * h)) (by omega)
 have e1 : (a1 : Int).tmod 21 = ((a1 % 21 : Nat) : Int) := tmodN a1 21
 have e2 : (a2 : Int).tmod 21 = ((a2 % 21 : Nat) : Int) := tmodN a2 21
 have f0 : (v0 : Int).tmod 20 = ((v0 % 20 : Nat) : Int) := tmodN v0 20
 have f1 : (v1 : Int).tmod 70 = ((v1 % 70 : Nat) : Int) := tmodN v1 70
 have f2 : (v2 : Int).tmod 30 = ((v2 % 30 : Nat) : Int) := tmodN v2 30
 have f3 : (v3 : Int).tmod 20 = ((v3 % 20 : Nat) : Int) := tmodN v3 20
 have f4 : (v4 : Int).tmod 60 = ((v4 % 60 : Nat) : Int) := tmodN v4 60
 have f5 : (v5 : Int).tmod 60 = ((v5 % 60 : Nat) : Int) := tmodN v5 60
 have f6 : (v6 : Int).tmod 140 = ((v6 % 140 : Nat) : Int) := tmodN v6 140
 have g0 : (r0 : Int).tmod 11 = ((r0 % 11 : Nat) : Int) := tmodN r0 11
 have g1 : (r1 : Int).tmod 11 = ((r1 % 11 : Nat) : Int) := tmodN r1 11
 have q0 : v0 % 20 < 20 := Nat.mod_lt _ (by decide)
 have q1 : v1 % 70 < 70 := Nat.mod_lt _ (by decide)
 have q2 : v2 % 30 < 30 := Nat.mod_lt _ (by decide)
 have q3 : v3 % 20 < 20 := Nat.mod_lt _ (by decide)
 have q4 : v4 % 60 < 60 := Nat.mod_lt _ (by decide)
 have q5 : v5 % 60 < 60 := Nat.mod_lt _ (by decide)
 have q6 : v6 % 140 < 140 := Nat.mod_lt _ (by decide)
 have q7 : r0 % 11 < 11 := Nat.mod_lt _ (by decide)
 have q8 : r1 % 11 < 11 := Nat.mod_lt _ (by decide)
 have q9 : a1 % 21 < 21 := Nat.mod_lt _ (by decide)
 have q10 : a2 % 21 < 21 := Nat.mod_lt _ (by decide)
 obtain ⟨lw, hlw⟩ : ∃ lw : Int, max 0 (50 - ((v4 % 60 : Nat) : Int)) = lw := ⟨_, rfl⟩
 have z1 := glSpan ((v0 % 20 : Nat) : Int) (((v0 % 20 : Nat) : Int) + 5)
 have z2 := glSpan ((v1 % 70 : Nat) : Int) (((v1 % 70 : Nat) : Int) + ((v2 % 30 : Nat) : Int))
 have z3 := glSpan 50 (50 + ((v3 % 20 : Nat) : Int))
 have z4 := glSpan lw (70 + ((v5 % 60 : Nat) : Int))
 have z5 := glSpan ((v6 % 140 : Nat) : Int) (((v6 % 140 : Nat) : Int) + 9)
 have hrt : (0 ≤ ((r0 % 11 : Nat) : Int) ∧ ((r0 % 11 : Nat) : Int) ≤ 50) ∧ 0 ≤ ((r1 % 11 : Nat) : Int) ∧ ((r1 % 11 : Nat) : Int) ≤ 50 := by omega
 have hX : (⟨(50, 50 + ((v3 % 20 : Nat) : Int)), (lw, 70 + ((v5 % 60 : Nat) : Int)), h⟩ : DIt).ok := ⟨⟨by dsimp only; omega, by dsimp only; omega, by dsimp only; omega⟩, ⟨by dsimp only; omega, by dsimp only; omega, by dsimp only; omega⟩, by dsimp only; omega⟩
 have hR : (⟨(((v6 % 140 : Nat) : Int), ((v6 % 140 : Nat) : Int) + 9), 1⟩ : DRm).ok := ⟨⟨by dsimp only; omega, by dsimp only; omega, by dsimp only; omega⟩, by dsimp only; omega⟩
 have hin : lw ≤ 50 ∧ 50 + ((v3 % 20 : Nat) : Int) ≤ 70 + ((v5 % 60 : Nat) : Int) := by omega
 have cH := dmHours ((r0 % 11 : Nat) : Int) ((r1 % 11 : Nat) : Int) hrt (50, 50 + ((v3 % 20 : Nat) : Int)) (((v6 % 140 : Nat) : Int), ((v6 % 140 : Nat) : Int) + 9) (lw, 70 + ((v5 % 60 : Nat) : Int)) hX.s hR.m hX.l hin
 have hgl := glGlue
 have hdm := dtDamp
 obtain ⟨n, hn⟩ : ∃ n : Nat, hrsN ((r0 % 11 : Nat) : Int) ((r1 % 11 : Nat) : Int) (50, 50 + ((v3 % 20 : Nat) : Int)) (((v6 % 140 : Nat) : Int), ((v6 % 140 : Nat) : Int) + 9) (lw, 70 + ((v5 % 60 : Nat) : Int)) 500 0 = n := ⟨_, rfl⟩
 rw [hn] at cH
 have d1 : decide (lo < 1) = false := decide_eq_false (by omega)
 have d2 : decide (2400 < hi) = false := decide_eq_false (by omega)
 by_cases hc : h ≤ (n : Int)
 ·have hm : mayN ((r0 % 11 : Nat) : Int) ((r1 % 11 : Nat) : Int) ⟨(50, 50 + ((v3 % 20 : Nat) : Int)), (lw, 70 + ((v5 % 60 : Nat) : Int)), h⟩ ⟨(((v6 % 140 : Nat) : Int), ((v6 % 140 : Nat) : Int) + 9), 1⟩ = 1 := by
   unfold mayN
   rw [hn, if_pos hc]
  have cS := dsStore1 true true _ _ hrt _ hX hin _ hR rfl hm
  have cA := dsAgainst1 true true _ _ hrt _ hX hin _ hR rfl hm
  have hd : decide (h ≤ (n : Int)) = true := decide_eq_true hc
  have sm := glSame false true [0] [0] (by decide) (by decide)
  rw [show decide (([0] : List Int) = [0]) = true from by decide] at sm
  refine DCall.of Tryd.func3 sf3 hb3 (Nat.le_of_ble_eq_true rfl) (okRes_nil fun _ => rfl) ?_; simp only [s3, o3_0, o3_1, o3_2, o3_3, o3_4, o3_5, o3_6, o3_7, o3_8, o3_9, o3_10, o3_11, o3_12, o3_13, o3_14, o3_15, o3_16, o3_17, o3_18, o3_19, o3_20, o3_21, o3_22, o3_23, o3_24, o3_25, o3_26, o3_27, o3_28, o3_29, o3_30, o3_31, o3_32, o3_33, o3_34, o3_35, o3_36, o3_37, o3_38, o3_39, o3_40, o3_41, o3_42, o3_43, o3_44, o3_45, o3_46, o3_47, o3_48, o3_49, o3_50, o3_51, o3_52, o3_53, o3_54, o3_55, o3_56, o3_57, o3_58, o3_59, o3_60, o3_61, o3_62, o3_63, o3_64, o3_65, idxs, Nat.reduceAdd]
  repeat' (first|(with_reducible first|apply qA|apply qB|apply qC|apply qD|apply qE|apply qF)|(refine qL rfl (WF.of ?_) ?_; first|rfl|skip)|(refine DW.ord rfl (WF.of (by first|rfl|simp (disch:=omega) only [go_sem, simprocAttr, qN, qO, qP, qQ, e1, e2, f0, f1, f2, f3, f4, f5, f6, g0, g1, d1, d2, hh, hlw, hd, min_ifp, max_ifp])) ?_ ?_ ?_; rotate_left)|rfl|(with_reducible refine And.intro ?_ ?_)|(simp (disch:=omega) only [go_sem, simprocAttr, qN, qO, qP, qQ, e1, e2, f0, f1, f2, f3, f4, f5, f6, g0, g1, d1, d2, hh, hlw, hd, min_ifp, max_ifp])|exact qM rfl rfl rfl|(refine qG rfl ?_)|(refine qK (z1) (by decide) ?_)|(refine qK (z2) (by decide) ?_)|(refine qK (hPr) (by decide) ?_)|(refine qK (z3) (by decide) ?_)|(refine qK (z4) (by decide) ?_)|(refine qK (z5) (by decide) ?_)|(refine qK (cH) (by decide) ?_)|(refine qK (cS) (by decide) ?_)|(refine qK (cA) (by decide) ?_)|(refine qK (hOp) (by decide) ?_)|(refine qK (sm) (by decide) ?_)|(refine qK (hgl) (by decide) ?_)|(refine qK (hdm) (by decide) ?_)|(refine qH rfl ?_)|(refine qI rfl ?_ ?_<;>intro hc<;>(try simp only [go_sem] at hc))|(refine qJ ?_ ?_<;>intro hc<;>(try simp only [hc])<;>(try simp only [go_sem] at hc)))
 ·have hm : mayN ((r0 % 11 : Nat) : Int) ((r1 % 11 : Nat) : Int) ⟨(50, 50 + ((v3 % 20 : Nat) : Int)), (lw, 70 + ((v5 % 60 : Nat) : Int)), h⟩ ⟨(((v6 % 140 : Nat) : Int), ((v6 % 140 : Nat) : Int) + 9), 1⟩ = 0 := by
   unfold mayN
   rw [hn, if_neg hc]
  have cS := dsStore0 true true _ _ hrt _ hX hin _ hR rfl hm
  have cA := dsAgainst0 true true _ _ hrt _ hX hin _ hR rfl hm
  have hd : decide (h ≤ (n : Int)) = false := decide_eq_false hc
  have sm := glSame false true [0] [0] (by decide) (by decide)
  rw [show decide (([0] : List Int) = [0]) = true from by decide] at sm
  refine DCall.of Tryd.func3 sf3 hb3 (Nat.le_of_ble_eq_true rfl) (okRes_nil fun _ => rfl) ?_; simp only [s3, o3_0, o3_1, o3_2, o3_3, o3_4, o3_5, o3_6, o3_7, o3_8, o3_9, o3_10, o3_11, o3_12, o3_13, o3_14, o3_15, o3_16, o3_17, o3_18, o3_19, o3_20, o3_21, o3_22, o3_23, o3_24, o3_25, o3_26, o3_27, o3_28, o3_29, o3_30, o3_31, o3_32, o3_33, o3_34, o3_35, o3_36, o3_37, o3_38, o3_39, o3_40, o3_41, o3_42, o3_43, o3_44, o3_45, o3_46, o3_47, o3_48, o3_49, o3_50, o3_51, o3_52, o3_53, o3_54, o3_55, o3_56, o3_57, o3_58, o3_59, o3_60, o3_61, o3_62, o3_63, o3_64, o3_65, idxs, Nat.reduceAdd]
  repeat' (first|(with_reducible first|apply qA|apply qB|apply qC|apply qD|apply qE|apply qF)|(refine qL rfl (WF.of ?_) ?_; first|rfl|skip)|(refine DW.ord rfl (WF.of (by first|rfl|simp (disch:=omega) only [go_sem, simprocAttr, qN, qO, qP, qQ, e1, e2, f0, f1, f2, f3, f4, f5, f6, g0, g1, d1, d2, hh, hlw, hd, min_ifp, max_ifp])) ?_ ?_ ?_; rotate_left)|rfl|(with_reducible refine And.intro ?_ ?_)|(simp (disch:=omega) only [go_sem, simprocAttr, qN, qO, qP, qQ, e1, e2, f0, f1, f2, f3, f4, f5, f6, g0, g1, d1, d2, hh, hlw, hd, min_ifp, max_ifp])|exact qM rfl rfl rfl|(refine qG rfl ?_)|(refine qK (z1) (by decide) ?_)|(refine qK (z2) (by decide) ?_)|(refine qK (hPr) (by decide) ?_)|(refine qK (z3) (by decide) ?_)|(refine qK (z4) (by decide) ?_)|(refine qK (z5) (by decide) ?_)|(refine qK (cH) (by decide) ?_)|(refine qK (cS) (by decide) ?_)|(refine qK (cA) (by decide) ?_)|(refine qK (hOp) (by decide) ?_)|(refine qK (sm) (by decide) ?_)|(refine qK (hgl) (by decide) ?_)|(refine qK (hdm) (by decide) ?_)|(refine qH rfl ?_)|(refine qI rfl ?_ ?_<;>intro hc<;>(try simp only [go_sem] at hc))|(refine qJ ?_ ?_<;>intro hc<;>(try simp only [hc])<;>(try simp only [go_sem] at hc)))
end Go.Dw.Seat.Cr
end
section
set_option linter.unusedSimpArgs false
set_option maxRecDepth 100000
namespace Go.Dw.Seat.Cr
open Go Go.Dw Go.Proofs Go.IntWalk
def AllLt (b : Nat) (l : List Nat) : Prop := ∀ x ∈ l, x < b
def eN (l : List Nat) : List C := l.map fun n : Nat => .v (.int .u8 (n : Int))
def e1 (n : Nat) : List C := [.v (.int .u8 n)]
theorem pressRoomY (a : List Nat) (ha : a.length = 3 ∧ AllLt 256 a) (b : List Nat) (hb : b.length = 7 ∧ AllLt 256 b) (c : List Nat) (hc : c.length = 2 ∧ AllLt 256 c) :
  DCall Tryd.prog 3 [.agg ((eN a).map D.c), .agg ((eN b).map D.c), .agg ((eN c).map D.c)] [] (bD true) [] := by
 obtain ⟨h1, h2⟩ := ha
 obtain ⟨h3, h4⟩ := hb
 obtain ⟨h5, h6⟩ := hc
 match a, h1, b, h3, c, h5 with
 | [a0, a1, a2], _, [v0, v1, v2, v3, v4, v5, v6], _, [r0, r1], _ =>
  exact tpPressRoom a0 a1 a2 v0 v1 v2 v3 v4 v5 v6 r0 r1 (h2 _ (by simp)) (h2 _ (by simp)) (h2 _ (by simp)) (h4 _ (by simp)) (h4 _ (by simp)) (h4 _ (by simp)) (h4 _ (by simp)) (h4 _ (by simp)) (h4 _ (by simp)) (h4 _ (by simp)) (h6 _ (by simp)) (h6 _ (by simp))
end Go.Dw.Seat.Cr
end
section
set_option linter.unusedSimpArgs false
set_option maxRecDepth 100000
namespace Go.Dw.Seat.Cr
open Go Go.Dw Go.Proofs Go.ChangeShapes Go.WideShapes Go.ChangeAt Go.RowKit Go.IntWalk
theorem tOwn : ownKnob Tryd.prog.godebug = none := by kernel_rfl
theorem tLaid : laidOutB Tryd.prog = true := by kernel_rfl
theorem u4 : Tryd.prog.underlying 4 = some .bool := by kernel_rfl
abbrev laid2 : List (String × DataW Unit) := [("math/bits.deBruijn32tab", YtnbgonichmcfaaaDoor.Rows.laid_math_bits_deBruijn32tab), ("math/bits.deBruijn64tab", YtnbgonichmcfaaaDoor.Rows.laid_math_bits_deBruijn64tab)]
theorem gTab64 : Tryd.prog.globalNamed "math/bits.deBruijn64tab" = some 1 := by kernel_rfl
theorem tTab64 : (Tryd.prog.globals[1]?).map (·.type) = some 226 := by kernel_rfl
theorem uTab64 : Tryd.prog.underlying 226 = some (.array 64 5) := by kernel_rfl
theorem cells5 : Tryd.prog.cellsOf 5 = 1 := by kernel_rfl
theorem und5 : Tryd.prog.underlying 5 = some (.int .u8) := by kernel_rfl
theorem door_met (os : Os) (args : Array Value) : laidMetH Tryd.prog laid2 ((World.doorLaid Tryd.prog 400 os).forCall (fun _ _ => 0) ⟨#[], args, []⟩).memory :=
 laidMetH_of_parts3 (fuel := 8) (laidMet_of_run' 8 (by kernel_rfl) (by kernel_rfl)) (by kernel_rfl) (by kernel_rfl)
theorem tabD : (YtnbgonichmcfaaaDoor.Rows.laid_math_bits_deBruijn64tab : DataW Unit) = .agg (tabI.map fun n => .lit (.int .u8 n)) := rfl
theorem laid_of {W : World} (h : laidMetH Tryd.prog laid2 W) : LaidA (fun _ => False) W := by
 rw [MakeChecks.laidMetH_plain _ _ _ (by kernel_rfl)] at h
 obtain ⟨ps, ⟨g0, t0, cs0, f0, p0, q0, hg0, ht0, hv0, hd0, ⟨g1, t1, cs1, f1, p1, q1, hg1, ht1, hv1, hd1, _, _⟩, _⟩, _, _⟩ := h
 obtain rfl := Option.some.inj (gTab64.symm.trans hg1)
 obtain rfl := Option.some.inj (tTab64.symm.trans ht1)
 obtain ⟨xs, m, rfl, hx, hlen, hn, hel⟩ := DataW.trod_array uTab64 hd1
 rw [tabD] at hx
 simp only [Prod.mk.injEq, DataW.agg.injEq] at hx
 have key : ∀ j v, tab64[j]? = some v → W.cell? ⟨1, j, none⟩ = some v ∧ v.oneCell' = true := by
  intro j v hj
  rw [tab_get, Option.map_eq_some_iff] at hj
  obtain ⟨n, hn', rfl⟩ := hj
  have hj64 : j < 64 := (List.getElem?_eq_some_iff.1 hn').1
  have h1 := hel j hj64
  rw [cells5, Nat.mul_one] at h1
  obtain ⟨y, hy⟩ : ∃ y, xs[j]? = some y := ⟨xs[j]'(by omega), by simp [hn, hj64]⟩
  rw [hy] at h1
  obtain ⟨k, e1, e2, _⟩ := DataW.trod_int und5 h1
  have e3 : (xs.map (·.1))[j]? = some y.1 := by rw [List.getElem?_map, hy]; rfl
  rw [← hx.1, List.getElem?_map, hn'] at e3
  simp only [Option.map_some, Option.some.injEq] at e3
  have hk : k = n := by rw [e2] at e3; simpa using e3.symm
  subst hk
  have e4 : cs1.toList[j]? = some (.int .u8 k) := take_one e1
  refine ⟨?_, rfl⟩
  rw [World.var?_cell hg1 hv1 j]
  simpa using e4
 intro p hp
 have hp' : p = (1, tab64) := by simpa [Lays.l] using hp
 subst hp'
 refine ⟨?_, fun h => h, key⟩
 have h0 := (key 0 _ rfl).1
 rcases Nat.lt_or_ge 1 W.heap.size with h | h
 ·exact h
 ·have : W.heap[1]? = none := by simpa using h
  simp [World.cell?, this] at h0
theorem uT5 : Tryd.prog.underlying 5 = some (.int .u8) := by kernel_rfl
theorem clT5 : Tryd.prog.cellsOf 5 = 1 := by kernel_rfl
def bV (l : List Nat) : List Value := l.map fun n : Nat => Value.int .u8 (n : Int)
section
variable {H : Type} {enc : TypeId × Value → H} {w : World} {base : Nat} {spare : Nat → Bool} {held : Bool}
theorem wf8 {n : Int} (h : (Lit.int .u8 n).wf = true) : ∃ v : Nat, n = v ∧ v < 256 := by
 have e1 : IntKind.min .u8 = 0 := by decide
 have e2 : IntKind.max .u8 = 255 := by decide
 simp only [Lit.wf, e1, e2, Bool.and_eq_true, decide_eq_true_eq] at h
 exact ⟨n.toNat, by omega, by omega⟩
theorem rep_bytes : ∀ l : List Nat, RepVs w A0 (eN l) (bV l)
 | [] => rfl
 | _ :: l => ⟨_, _, rfl, ⟨rfl, rfl⟩, rep_bytes l⟩
theorem rd_U8 {fuel : Nat} {cs : List Value} {x : DataW H × List MemPlace} (h : DataW.trod enc Tryd.prog w base spare held fuel 5 cs = some x) : ∃ l : List Nat, (l.length = 1 ∧ AllLt 256 l) ∧ cs = bV l := by
 obtain ⟨n, e, hw⟩ := rd_int uT5 h
 obtain ⟨v, rfl, hv⟩ := wf8 hw
 exact ⟨[v], ⟨rfl, fun x hx => by rw [List.mem_singleton] at hx; rw [hx]; exact hv⟩, e⟩
theorem bV_app (a b : List Nat) : bV (a ++ b) = bV a ++ bV b := by simp [bV]
theorem lt_app {b : Nat} {l l' : List Nat} (h : AllLt b l) (h' : AllLt b l') : AllLt b (l ++ l') := fun x hx => by
 rcases List.mem_append.1 hx with h1 | h1
 ·exact h x h1
 ·exact h' x h1
theorem rd_arrB {fuel : Nat} {cs : List Value} {x : DataW H × List MemPlace} {t e : TypeId} {n k : Nat} (ht : Tryd.prog.underlying t = some (.array n e)) (he : Tryd.prog.cellsOf e = k) (hc : Tryd.prog.cellsOf t = n * k)
  (hrd : ∀ m cs x, DataW.trod enc Tryd.prog w base spare held m e cs = some x → ∃ l : List Nat, (l.length = k ∧ AllLt 256 l) ∧ cs = bV l) (h : DataW.trod enc Tryd.prog w base spare held fuel t cs = some x) : ∃ l : List Nat, (l.length = n * k ∧ AllLt 256 l) ∧ cs = bV l := by
 obtain ⟨hl, m, hf⟩ := rd_array ht h
 rw [hc] at hl
 have key : ∀ j, j ≤ n → ∃ l : List Nat, (l.length = j * k ∧ AllLt 256 l) ∧ cs.take (j * k) = bV l := by
  intro j
  induction j with
  | zero => intro _; exact ⟨[], ⟨by simp, fun x hx => by cases hx⟩, by simp [bV]⟩
  | succ j ih =>
   intro hj
   obtain ⟨l, ⟨h1, h2⟩, h3⟩ := ih (by omega)
   obtain ⟨y, hy⟩ := hf j (by omega)
   rw [he] at hy
   obtain ⟨l', ⟨h4, h5⟩, h6⟩ := hrd _ _ _ hy
   refine ⟨l ++ l', ⟨by rw [List.length_append, h1, h4, Nat.succ_mul], lt_app h2 h5⟩, ?_⟩
   rw [Nat.succ_mul, List.take_add, h3, h6, bV_app]
 obtain ⟨l, h1, h2⟩ := key n (Nat.le_refl _)
 rw [List.take_of_length_le (by omega)] at h2
 exact ⟨l, h1, h2⟩
theorem uT22 : Tryd.prog.underlying 22 = some (.array 3 5) := by kernel_rfl
theorem clT22 : Tryd.prog.cellsOf 22 = 3 := by kernel_rfl
theorem rd_T22 {fuel : Nat} {cs : List Value} {x : DataW H × List MemPlace} (h : DataW.trod enc Tryd.prog w base spare held fuel 22 cs = some x) : ∃ l : List Nat, (l.length = 3 ∧ AllLt 256 l) ∧ cs = bV l := rd_arrB (n := 3) (k := 1) uT22 clT5 clT22 (fun _ _ _ h => rd_U8 h) h
theorem uT23 : Tryd.prog.underlying 23 = some (.array 7 5) := by kernel_rfl
theorem clT23 : Tryd.prog.cellsOf 23 = 7 := by kernel_rfl
theorem rd_T23 {fuel : Nat} {cs : List Value} {x : DataW H × List MemPlace} (h : DataW.trod enc Tryd.prog w base spare held fuel 23 cs = some x) : ∃ l : List Nat, (l.length = 7 ∧ AllLt 256 l) ∧ cs = bV l := rd_arrB (n := 7) (k := 1) uT23 clT5 clT23 (fun _ _ _ h => rd_U8 h) h
theorem uT24 : Tryd.prog.underlying 24 = some (.array 2 5) := by kernel_rfl
theorem clT24 : Tryd.prog.cellsOf 24 = 2 := by kernel_rfl
theorem rd_T24 {fuel : Nat} {cs : List Value} {x : DataW H × List MemPlace} (h : DataW.trod enc Tryd.prog w base spare held fuel 24 cs = some x) : ∃ l : List Nat, (l.length = 2 ∧ AllLt 256 l) ∧ cs = bV l := rd_arrB (n := 2) (k := 1) uT24 clT5 clT24 (fun _ _ _ h => rd_U8 h) h
end
set_option maxHeartbeats 800000 in
theorem topPressRoomLifted (os : Os) (started : os.Started) (H : Type) (enc : TypeId × Value → H) :
  ReturnsInHanded {} Tryd.checked os 3 .any (fun w args => (YtnbgonichmcfaaaDoor.Rows.topPressRoomSpec.pre enc Tryd.prog Tryd.f3 [] false w args ∧ laidMetH Tryd.prog laid2 w) ∧ sizedMet enc Tryd.prog Tryd.f3 (OpenSpec.ofChange YtnbgonichmcfaaaDoor.Rows.topPressRoomSpec) false w args) (YtnbgonichmcfaaaDoor.Rows.topPressRoomSpec.post enc Tryd.prog Tryd.f3 false true false false) := by
 refine returnsInHanded_of_change_and (C := Tryd.checked) (X := fun w _ => laidMetH Tryd.prog laid2 w) (fun _ _ _ hh h => h.of_heap hh) tOwn started (by kernel_rfl) Tryd.func3
  (ChangeSpec.witness_shaped (enc := enc) (C := Tryd.checked) (os := os) (X := fun w _ => laidMetH Tryd.prog laid2 w) false (World.doorLaid Tryd.prog 400 os) #[.agg #[.int .u8 0, .int .u8 0, .int .u8 0], .agg #[.int .u8 0, .int .u8 0, .int .u8 0, .int .u8 0, .int .u8 0, .int .u8 0, .int .u8 0], .agg #[.int .u8 0, .int .u8 0]] 8 rfl (World.shaped_of_RefB (by kernel_rfl) (by kernel_rfl)) (by kernel_rfl) (by kernel_rfl) (by kernel_rfl) (door_met os _)) ?_
 intro W base args ds gs before hval0 hW _ hall hL _
 have hval : ∀ (j : Nat) t v, Tryd.f3.params[j]? = some t → args[j]? = some v → Value.okWide Tryd.prog W .any base t v := hval0
 have hW' : DataW.Whole enc Tryd.prog Tryd.f3.params.toList [] false W args.toList ds gs before := hW
 obtain ⟨p, q, hA, hV, rfl, hfz, hnd⟩ := hW
 have hA : DataW.TrodAll enc Tryd.prog W 0 (fun _ => true) true [22, 23, 24] args.toList ds p := hA
 obtain ⟨rfl, rfl⟩ := trodVars_none hV
 obtain ⟨v0, vs0, d0, ds0, p0, q0, hargs, rfl, rfl, h0, r0⟩ := trodAll_cons hA
 obtain ⟨v1, vs1, d1, ds1, p1, q1, rfl, rfl, rfl, h1, r1⟩ := trodAll_cons r0
 obtain ⟨v2, vs2, d2, ds2, p2, q2, rfl, rfl, rfl, h2, r2⟩ := trodAll_cons r1
 obtain ⟨rfl, rfl, rfl⟩ := trodAll_nil r2
 obtain rfl : args = #[v0, v1, v2] := by cases args; simp_all
 obtain ⟨c0, rfl, _⟩ := okWide_array uT22 (hval 0 22 v0 rfl rfl)
 obtain ⟨c1, rfl, _⟩ := okWide_array uT23 (hval 1 23 v1 rfl rfl)
 obtain ⟨c2, rfl, _⟩ := okWide_array uT24 (hval 2 24 v2 rfl rfl)
 obtain ⟨fu0, h0⟩ := h0
 obtain ⟨fu1, h1⟩ := h1
 obtain ⟨fu2, h2⟩ := h2
 obtain ⟨s0, ho0, e0⟩ := rd_T22 h0
 have hr0 : RepVs W A0 (eN s0) c0.toList := by
  have e : c0.toList = bV s0 := by simpa [Value.cells] using e0
  rw [e]; exact rep_bytes s0
 obtain ⟨s1, ho1, e1⟩ := rd_T23 h1
 have hr1 : RepVs W A0 (eN s1) c1.toList := by
  have e : c1.toList = bV s1 := by simpa [Value.cells] using e1
  rw [e]; exact rep_bytes s1
 obtain ⟨s2, ho2, e2⟩ := rd_T24 h2
 have hr2 : RepVs W A0 (eN s2) c2.toList := by
  have e : c2.toList = bV s2 := by simpa [Value.cells] using e2
  rw [e]; exact rep_bytes s2
 refine ((pressRoomY s0 ho0 s1 ho1 s2 ho2).calls (W := W) (vs := [.agg c0, .agg c1, .agg c2]) (laid_of hL) (fun G => ?_)).mono ?_
 ·exact ⟨_, _, rfl, ⟨c0, rfl, RepDs.ofVs hr0⟩, _, _, rfl, ⟨c1, rfl, RepDs.ofVs hr1⟩, _, _, rfl, ⟨c2, rfl, RepDs.ofVs hr2⟩, rfl⟩
 ·rintro e W' ⟨v, rfl, ⟨G', A', hr⟩, hb⟩
  obtain ⟨rfl, _⟩ := hr
  exact ⟨_, rfl, post_true tLaid (by decide +kernel) hW' hb rfl rfl u4 rfl rfl rfl⟩
theorem topPressRoomHolds : YtnbgonichmcfaaaDoor.Rows.topPressRoomRow.holds YtnbgonichmcfaaaDoor.Tryd.pinned (OpenSpec.ofChange YtnbgonichmcfaaaDoor.Rows.topPressRoomSpec) :=
 OpenClaim.holds_of_wide 3 Tryd.f3 rfl rfl rfl rfl rfl rfl rfl ⟨rfl, rfl, rfl, rfl, rfl⟩ rfl rfl rfl rfl rfl (by kernel_rfl) Tryd.func3 (by kernel_rfl)
  (of_decide_eq_true (by kernel_rfl)) (by unfold Func.isWrapper; first | (rw [if_pos (by decide +kernel)]; kernel_rfl) | (rw [if_neg (by decide +kernel)]; exact ⟨rfl, rfl⟩))
  (fun os started H enc _ => topPressRoomLifted os started H enc)
theorem topPressRoomCard : Claim7.holds YtnbgonichmcfaaaDoor.Tryd.pinned (.plain (OpenSpec.ofChange YtnbgonichmcfaaaDoor.Rows.topPressRoomSpec)) YtnbgonichmcfaaaDoor.Rows.topPressRoomCard :=
 Claim7.holds_tied_plain_at .later [] [.data, .data] true YtnbgonichmcfaaaDoor.Rows.topPressRoomCard.stood.harness false
  topPressRoomHolds (fun _ h => by cases h) (by kernel_rfl) (fun _ h => by cases h) YtnbgonichmcfaaaDoor.topPressRoom_row_tie rfl ⟨rfl, rfl⟩ (by kernel_rfl) rfl
  (fun f fn hf hfn => by
   obtain rfl : f = 3 := Option.some.inj ((show Tryd.prog.funcNamed YtnbgonichmcfaaaDoor.Rows.topPressRoomRow.func = some 3 by kernel_rfl).symm.trans hf) |>.symm
   obtain rfl : fn = Tryd.f3 := (Option.some.inj (Tryd.func3.symm.trans hfn)).symm
   refine ⟨by kernel_rfl, fun j t ht => ?_⟩
   have hm : t ∈ Tryd.f3.params.toList := by simpa using Array.mem_of_getElem? ht
   have hall : (Tryd.f3.params.toList.all fun u => !Tryd.prog.wantsStandIn u) = true := by kernel_rfl
   exact (show Tryd.prog.wantsStandIn t = false by simpa using List.all_eq_true.1 hall t hm))
  (by kernel_rfl)
end Go.Dw.Seat.Cr
namespace Go.Proofs.YtnbgonichmcfaaaDoor
theorem topPressRoomCardSaid : Rows.TopPressRoomCardSaid := Go.Dw.Seat.Cr.topPressRoomCard
end Go.Proofs.YtnbgonichmcfaaaDoor
end
