/- The law TopQuoteBoard returns true for every input, and changes nothing that was there before: the full statement TopQuoteBoardSaid, without conditions. -/
import Derived.Test.YtakhpmbcndkkfaaB00
import Derived.Test.YtakhpmbcndkkfaaRows
import Derived.ProofKit
import Derived.OpenShut
set_option linter.unusedVariables false
set_option linter.unusedSimpArgs false
section
set_option linter.unusedSimpArgs false
set_option maxRecDepth 100000
namespace Go.Dw.Seat
open Go Go.Dw Go.Proofs Go.IntWalk
theorem bdW1 (n lo hi : Int) (p q : Bool) : DCall Try.prog 98 [dI n, .c (.ro p [.v (.int .i64 lo)] 0), .c (.ro q [.v (.int .i64 hi)] 0)] [] (bD (decide (n < lo) || decide (hi < n))) [] := by
 refine DCall.of Try.func98 sf98 hb98 (Nat.le_of_ble_eq_true rfl) (okRes_nil fun _ => rfl) ?_; simp only [s98, idxs, Nat.reduceAdd]
 repeat' (first|(with_reducible first|apply qA|apply qB|apply qC|apply qD|apply qE|apply qF)|(simp (disch:=omega) only [go_sem, simprocAttr, Blk.men, Blk.keysIn])|exact qM rfl rfl rfl|(refine qG rfl ?_)|(refine qH rfl ?_)|(refine qI rfl ?_ ?_<;>intro hc<;>(try simp only [go_sem] at hc))|(refine qJ ?_ ?_<;>intro hc<;>(try simp only [hc])<;>(try simp only [go_sem] at hc)))
theorem bdWithin (b : Bool) (lo hi : Int) (l : List Int) (hl : l.length ≤ 2 ^ 36) : DCall Try.prog 58 [dI lo, dI hi, dIs b l] [] (bD (wthn lo hi l)) [] := by
 refine DCall.of Try.func58 sf58 hb58 (Nat.le_of_ble_eq_true rfl) (okRes_nil fun _ => rfl) ?_; simp only [s58, idxs, Nat.reduceAdd]
 repeat' (first|(with_reducible first|apply qA|apply qB|apply qC|apply qD|apply qE|apply qF)|(simp (disch:=omega) only [go_sem, simprocAttr, Blk.men, Blk.keysIn])|exact qM rfl rfl rfl|(refine qG rfl ?_)|(refine qH rfl ?_)|(refine qI rfl ?_ ?_<;>intro hc<;>(try simp only [go_sem] at hc))|(refine qJ ?_ ?_<;>intro hc<;>(try simp only [hc])<;>(try simp only [go_sem] at hc)))
 (refine call_c (c110 b l hl 98 [] [.ro true [.v (.int .i64 lo)] 0, .ro true [.v (.int .i64 hi)] 0] (fun n => decide (n < lo) || decide (hi < n)) (fun x _ => bdW1 x lo hi true true)) (by decide) ?_; simp (disch:=omega) only [go_sem,simprocAttr,Blk.men,Blk.keysIn])
 repeat' (first|(with_reducible first|apply qA|apply qB|apply qC|apply qD|apply qE|apply qF)|(simp (disch:=omega) only [go_sem, simprocAttr, Blk.men, Blk.keysIn])|exact qM rfl rfl rfl|(refine qG rfl ?_)|(refine qH rfl ?_)|(refine qI rfl ?_ ?_<;>intro hc<;>(try simp only [go_sem] at hc))|(refine qJ ?_ ?_<;>intro hc<;>(try simp only [hc])<;>(try simp only [go_sem] at hc)))
theorem bdIn (b : Bool) (lo hi : Int) (l : List Int) (hl : l.length ≤ 2 ^ 36) (h : ∀ v ∈ l, lo ≤ v ∧ v ≤ hi) : DCall Try.prog 58 [dI lo, dI hi, dIs b l] [] (bD true) [] := by
 have := bdWithin b lo hi l hl
 rwa [wthn_yes h] at this
structure Pap where
 kind : Int
 weight : Int
 tl : Int
 th : Int
 ml : Int
 mh : Int
 price : Int
 strong : Int
structure Flu where
 pitch : Int
 draw : Int
 hl : Int
 hh : Int
def eP (p : Pap) : List C := [.v (.int .i64 p.kind), .v (.int .i64 p.weight), .v (.int .i64 p.tl), .v (.int .i64 p.th), .v (.int .i64 p.ml), .v (.int .i64 p.mh), .v (.int .i64 p.price), .v (.int .i64 p.strong)]
def eF (f : Flu) : List C := [.v (.int .i64 f.pitch), .v (.int .i64 f.draw), .v (.int .i64 f.hl), .v (.int .i64 f.hh)]
theorem eP_nb (v : Pap) : C.nbs (eP v) = true := rfl
theorem eF_nb (v : Flu) : C.nbs (eF v) = true := rfl
structure Pap.ok (p : Pap) : Prop where
 kind : p.kind = 1 ∨ p.kind = 2
 weight : 1 ≤ p.weight ∧ p.weight ≤ 1000
 thick : 1 ≤ p.tl ∧ p.tl ≤ p.th ∧ p.th ≤ 1000
 moist : 0 ≤ p.ml ∧ p.ml ≤ p.mh ∧ p.mh ≤ 200
 price : 0 ≤ p.price ∧ p.price ≤ 1000000
 strong : 0 ≤ p.strong ∧ p.strong ≤ 10000
structure Flu.ok (f : Flu) : Prop where
 pitch : 1000 ≤ f.pitch ∧ f.pitch ≤ 10000
 draw : f.pitch ≤ f.draw ∧ f.draw ≤ 2 * f.pitch
 high : 1 ≤ f.hl ∧ f.hl ≤ f.hh ∧ f.hh ≤ 10000
structure Sto where
 papers : List Pap
 flutes : List Flu
structure Sto.ok (s : Sto) : Prop where
 np : 1 ≤ s.papers.length ∧ s.papers.length ≤ 8
 nf : 1 ≤ s.flutes.length ∧ s.flutes.length ≤ 4
 papers : ∀ p ∈ s.papers, p.ok
 flutes : ∀ f ∈ s.flutes, f.ok
abbrev dSto (s : Sto) : D := .agg [.c (.sl false 8 (rows eP s.papers)), .c (.sl false 4 (rows eF s.flutes))]
attribute [go_sem] eP eF dSto
theorem bdSpan (lo hi least most : Int) (h : least ≤ lo ∧ lo ≤ hi ∧ hi ≤ most) : DCall Try.prog 151 [.agg [dI lo, dI hi], dI least, dI most] [] (bD true) [] := by
 have h1 := bdIn true least most [lo, hi] (by simp) (by simp; omega)
 have hd : decide (lo ≤ hi) = true := decide_eq_true h.2.1
 refine DCall.of Try.func151 sf151 hb151 (Nat.le_of_ble_eq_true rfl) (okRes_nil fun _ => rfl) ?_; simp only [s151, idxs, Nat.reduceAdd]
 repeat' (first|(with_reducible first|apply qA|apply qB|apply qC|apply qD|apply qE|apply qF)|(simp (disch:=omega) only [go_sem, simprocAttr, Blk.men, Blk.keysIn, hd])|exact qM rfl rfl rfl|(refine qG rfl ?_)|(refine qK (h1) (by decide) ?_)|(refine qH rfl ?_)|(refine qI rfl ?_ ?_<;>intro hc<;>(try simp only [go_sem] at hc))|(refine qJ ?_ ?_<;>intro hc<;>(try simp only [hc])<;>(try simp only [go_sem] at hc)))
theorem bdPaper (p : Pap) (h : p.ok) : DCall Try.prog 137 [.agg ((eP p).map D.c)] [] (bD true) [] := by
 have h1 := bdIn true 1 1000 [p.weight] (by simp) (by simpa using h.weight)
 have h2 := bdSpan p.tl p.th 1 1000 h.thick
 have h3 := bdSpan p.ml p.mh 0 200 h.moist
 have h4 := bdIn true 0 1000000 [p.price] (by simp) (by simpa using h.price)
 have h5 := bdIn true 0 10000 [p.strong] (by simp) (by simpa using h.strong)
 rcases h.kind with hk | hk
 ·refine DCall.of Try.func137 sf137 hb137 (Nat.le_of_ble_eq_true rfl) (okRes_nil fun _ => rfl) ?_; simp only [s137, idxs, Nat.reduceAdd]
  repeat' (first|(with_reducible first|apply qA|apply qB|apply qC|apply qD|apply qE|apply qF)|(simp (disch:=omega) only [go_sem, simprocAttr, Blk.men, Blk.keysIn, rF, rG, hk])|exact qM rfl rfl rfl|(refine qG rfl ?_)|(refine qK (h1) (by decide) ?_)|(refine qK (h2) (by decide) ?_)|(refine qK (h3) (by decide) ?_)|(refine qK (h4) (by decide) ?_)|(refine qK (h5) (by decide) ?_)|(refine qH rfl ?_)|(refine qI rfl ?_ ?_<;>intro hc<;>(try simp only [go_sem] at hc))|(refine qJ ?_ ?_<;>intro hc<;>(try simp only [hc])<;>(try simp only [go_sem] at hc)))
 ·refine DCall.of Try.func137 sf137 hb137 (Nat.le_of_ble_eq_true rfl) (okRes_nil fun _ => rfl) ?_; simp only [s137, idxs, Nat.reduceAdd]
  repeat' (first|(with_reducible first|apply qA|apply qB|apply qC|apply qD|apply qE|apply qF)|(simp (disch:=omega) only [go_sem, simprocAttr, Blk.men, Blk.keysIn, rF, rG, hk])|exact qM rfl rfl rfl|(refine qG rfl ?_)|(refine qK (h1) (by decide) ?_)|(refine qK (h2) (by decide) ?_)|(refine qK (h3) (by decide) ?_)|(refine qK (h4) (by decide) ?_)|(refine qK (h5) (by decide) ?_)|(refine qH rfl ?_)|(refine qI rfl ?_ ?_<;>intro hc<;>(try simp only [go_sem] at hc))|(refine qJ ?_ ?_<;>intro hc<;>(try simp only [hc])<;>(try simp only [go_sem] at hc)))
theorem bdFlute (f : Flu) (h : f.ok) : DCall Try.prog 140 [.agg ((eF f).map D.c)] [] (bD true) [] := by
 have hp := h.pitch
 have h1 := bdIn true 1000 10000 [f.pitch] (by simp) (by simpa using h.pitch)
 have h2 := bdIn true f.pitch (2 * f.pitch) [f.draw] (by simp) (by simpa using h.draw)
 have h3 := bdSpan f.hl f.hh 1 10000 h.high
 refine DCall.of Try.func140 sf140 hb140 (Nat.le_of_ble_eq_true rfl) (okRes_nil fun _ => rfl) ?_; simp only [s140, idxs, Nat.reduceAdd]
 repeat' (first|(with_reducible first|apply qA|apply qB|apply qC|apply qD|apply qE|apply qF)|(simp (disch:=omega) only [go_sem, simprocAttr, Blk.men, Blk.keysIn, rF, rG])|exact qM rfl rfl rfl|(refine qG rfl ?_)|(refine qK (h1) (by decide) ?_)|(refine qK (h2) (by decide) ?_)|(refine qK (h3) (by decide) ?_)|(refine qH rfl ?_)|(refine qI rfl ?_ ?_<;>intro hc<;>(try simp only [go_sem] at hc))|(refine qJ ?_ ?_<;>intro hc<;>(try simp only [hc])<;>(try simp only [go_sem] at hc)))
theorem bdP1 (p : Pap) (h : p.ok) : DCall Try.prog 136 [.agg ((eP p).map D.c)] [] (bD false) [] := by
 have h1 := bdPaper p h
 refine DCall.of Try.func136 sf136 hb136 (Nat.le_of_ble_eq_true rfl) (okRes_nil fun _ => rfl) ?_; simp only [s136, idxs, Nat.reduceAdd]
 repeat' (first|(with_reducible first|apply qA|apply qB|apply qC|apply qD|apply qE|apply qF)|(simp (disch:=omega) only [go_sem, simprocAttr, Blk.men, Blk.keysIn, rF, rG])|exact qM rfl rfl rfl|(refine qG rfl ?_)|(refine qK (h1) (by decide) ?_)|(refine qH rfl ?_)|(refine qI rfl ?_ ?_<;>intro hc<;>(try simp only [go_sem] at hc))|(refine qJ ?_ ?_<;>intro hc<;>(try simp only [hc])<;>(try simp only [go_sem] at hc)))
theorem bdF1 (f : Flu) (h : f.ok) : DCall Try.prog 139 [.agg ((eF f).map D.c)] [] (bD false) [] := by
 have h1 := bdFlute f h
 refine DCall.of Try.func139 sf139 hb139 (Nat.le_of_ble_eq_true rfl) (okRes_nil fun _ => rfl) ?_; simp only [s139, idxs, Nat.reduceAdd]
 repeat' (first|(with_reducible first|apply qA|apply qB|apply qC|apply qD|apply qE|apply qF)|(simp (disch:=omega) only [go_sem, simprocAttr, Blk.men, Blk.keysIn, rF, rG])|exact qM rfl rfl rfl|(refine qG rfl ?_)|(refine qK (h1) (by decide) ?_)|(refine qH rfl ?_)|(refine qI rfl ?_ ?_<;>intro hc<;>(try simp only [go_sem] at hc))|(refine qJ ?_ ?_<;>intro hc<;>(try simp only [hc])<;>(try simp only [go_sem] at hc)))
theorem bdPIdx (b : Bool) (l : List Pap) (hl : l.length ≤ 2 ^ 36) (g : FuncId) (hp : ∀ x ∈ l, DCall Try.prog g [.agg ((eP x).map D.c)] [] (bD false) []) : DCall Try.prog 150 [.c (.sl b 8 (rows eP l)), .c (.fn (.func g) [] [])] [] (dI (-1)) [] := by
 refine DCall.of Try.func150 sf150 hb150 (Nat.le_of_ble_eq_true rfl) (okRes_nil fun _ => rfl) ?_; simp only [s150, idxs, Nat.reduceAdd]
 repeat' (first|(with_reducible first|apply qA|apply qB|apply qC|apply qD|apply qE|apply qF)|(simp (disch:=omega) only [go_sem, simprocAttr, Blk.men, Blk.keysIn])|exact qM rfl rfl rfl|(refine qG rfl ?_)|(refine qH rfl ?_)|(refine qI rfl ?_ ?_<;>intro hc<;>(try simp only [go_sem] at hc))|(refine qJ ?_ ?_<;>intro hc<;>(try simp only [hc])<;>(try simp only [go_sem] at hc)))
 refine DW.loop (ι := { i : Nat // i ≤ l.length }) (fun i => ⟨19, [(8, dI i.1), (7, dI l.length), (1, .c (.fn (.func g) [] [])), (0, .c (.sl b 8 (rows eP l)))], []⟩) (fun i => l.length - i.1) ⟨0, Nat.zero_le _⟩ ?_ ?_
 ·refine Ent.to ?_ ?_ <;> simp (disch:=omega) only [qR,qS,qTw,qU,get,Nat.reduceEqDiff,↓reduceIte,qV,qW,qX,qY,qZ,and_self,dI,i64_in,and_true,true_and,rA,rB,rC,rD]
 rintro ⟨i, hi⟩
 rcases at_or l i hi with ⟨v, hv, hlt, hd⟩ | ⟨he, hd⟩
 ·have hcall := hp v (List.mem_of_getElem? hv)
  repeat' (first|(with_reducible first|apply qA|apply qB|apply qC|apply qD|apply qE|apply qF)|(simp (disch:=omega) only [go_sem, simprocAttr, Blk.men, Blk.keysIn, hd, hv, closeDs_fn, rF, rG])|exact qM rfl rfl rfl|(refine qG rfl ?_)|(refine qH rfl ?_)|(refine qI rfl ?_ ?_<;>intro hc<;>(try simp only [go_sem] at hc))|(refine qJ ?_ ?_<;>intro hc<;>(try simp only [hc])<;>(try simp only [go_sem] at hc)))
  refine call_c hcall (by decide) ?_
  simp (disch:=omega) only [go_sem,simprocAttr,Blk.men,Blk.keysIn]
  repeat' (first|(with_reducible first|apply qA|apply qB|apply qC|apply qD|apply qE|apply qF)|(simp (disch:=omega) only [go_sem, simprocAttr, Blk.men, Blk.keysIn])|exact qM rfl rfl rfl|(refine qG rfl ?_)|(refine qH rfl ?_)|(refine qI rfl ?_ ?_<;>intro hc<;>(try simp only [go_sem] at hc))|(refine qJ ?_ ?_<;>intro hc<;>(try simp only [hc])<;>(try simp only [go_sem] at hc)))
  refine ⟨⟨i + 1, hlt⟩, ?_, Ent.to ?_ ?_⟩ <;> first | (show _ < _; (try simp only); omega) | (simp (disch:=omega) only [qR,qS,qTw,qU,get,Nat.reduceEqDiff,↓reduceIte,qV,qW,qX,qY,qZ,and_self,dI,i64_in,and_true,true_and,rA,rB,rC,rD])
 ·repeat' (first|(with_reducible first|apply qA|apply qB|apply qC|apply qD|apply qE|apply qF)|(simp (disch:=omega) only [go_sem, simprocAttr, Blk.men, Blk.keysIn, hd])|exact qM rfl rfl rfl|(refine qG rfl ?_)|(refine qH rfl ?_)|(refine qI rfl ?_ ?_<;>intro hc<;>(try simp only [go_sem] at hc))|(refine qJ ?_ ?_<;>intro hc<;>(try simp only [hc])<;>(try simp only [go_sem] at hc)))
theorem bdPCon (b : Bool) (l : List Pap) (hl : l.length ≤ 2 ^ 36) (g : FuncId) (hp : ∀ x ∈ l, DCall Try.prog g [.agg ((eP x).map D.c)] [] (bD false) []) : DCall Try.prog 135 [.c (.sl b 8 (rows eP l)), .c (.fn (.func g) [] [])] [] (bD false) [] := by
 refine DCall.of Try.func135 sf135 hb135 (Nat.le_of_ble_eq_true rfl) (okRes_nil fun _ => rfl) ?_; simp only [s135, idxs, Nat.reduceAdd]
 repeat' (first|(with_reducible first|apply qA|apply qB|apply qC|apply qD|apply qE|apply qF)|(simp (disch:=omega) only [go_sem, simprocAttr, Blk.men, Blk.keysIn])|exact qM rfl rfl rfl|(refine qG rfl ?_)|(refine qH rfl ?_)|(refine qI rfl ?_ ?_<;>intro hc<;>(try simp only [go_sem] at hc))|(refine qJ ?_ ?_<;>intro hc<;>(try simp only [hc])<;>(try simp only [go_sem] at hc)))
 (refine call_c (bdPIdx b l hl g hp) (by decide) ?_; simp (disch:=omega) only [go_sem,simprocAttr,Blk.men,Blk.keysIn])
 repeat' (first|(with_reducible first|apply qA|apply qB|apply qC|apply qD|apply qE|apply qF)|(simp (disch:=omega) only [go_sem, simprocAttr, Blk.men, Blk.keysIn])|exact qM rfl rfl rfl|(refine qG rfl ?_)|(refine qH rfl ?_)|(refine qI rfl ?_ ?_<;>intro hc<;>(try simp only [go_sem] at hc))|(refine qJ ?_ ?_<;>intro hc<;>(try simp only [hc])<;>(try simp only [go_sem] at hc)))
theorem bdFIdx (b : Bool) (l : List Flu) (hl : l.length ≤ 2 ^ 36) (g : FuncId) (hp : ∀ x ∈ l, DCall Try.prog g [.agg ((eF x).map D.c)] [] (bD false) []) : DCall Try.prog 152 [.c (.sl b 4 (rows eF l)), .c (.fn (.func g) [] [])] [] (dI (-1)) [] := by
 refine DCall.of Try.func152 sf152 hb152 (Nat.le_of_ble_eq_true rfl) (okRes_nil fun _ => rfl) ?_; simp only [s152, idxs, Nat.reduceAdd]
 repeat' (first|(with_reducible first|apply qA|apply qB|apply qC|apply qD|apply qE|apply qF)|(simp (disch:=omega) only [go_sem, simprocAttr, Blk.men, Blk.keysIn])|exact qM rfl rfl rfl|(refine qG rfl ?_)|(refine qH rfl ?_)|(refine qI rfl ?_ ?_<;>intro hc<;>(try simp only [go_sem] at hc))|(refine qJ ?_ ?_<;>intro hc<;>(try simp only [hc])<;>(try simp only [go_sem] at hc)))
 refine DW.loop (ι := { i : Nat // i ≤ l.length }) (fun i => ⟨19, [(8, dI i.1), (7, dI l.length), (1, .c (.fn (.func g) [] [])), (0, .c (.sl b 4 (rows eF l)))], []⟩) (fun i => l.length - i.1) ⟨0, Nat.zero_le _⟩ ?_ ?_
 ·refine Ent.to ?_ ?_ <;> simp (disch:=omega) only [qR,qS,qTw,qU,get,Nat.reduceEqDiff,↓reduceIte,qV,qW,qX,qY,qZ,and_self,dI,i64_in,and_true,true_and,rA,rB,rC,rD]
 rintro ⟨i, hi⟩
 rcases at_or l i hi with ⟨v, hv, hlt, hd⟩ | ⟨he, hd⟩
 ·have hcall := hp v (List.mem_of_getElem? hv)
  repeat' (first|(with_reducible first|apply qA|apply qB|apply qC|apply qD|apply qE|apply qF)|(simp (disch:=omega) only [go_sem, simprocAttr, Blk.men, Blk.keysIn, hd, hv, closeDs_fn, rF, rG])|exact qM rfl rfl rfl|(refine qG rfl ?_)|(refine qH rfl ?_)|(refine qI rfl ?_ ?_<;>intro hc<;>(try simp only [go_sem] at hc))|(refine qJ ?_ ?_<;>intro hc<;>(try simp only [hc])<;>(try simp only [go_sem] at hc)))
  refine call_c hcall (by decide) ?_
  simp (disch:=omega) only [go_sem,simprocAttr,Blk.men,Blk.keysIn]
  repeat' (first|(with_reducible first|apply qA|apply qB|apply qC|apply qD|apply qE|apply qF)|(simp (disch:=omega) only [go_sem, simprocAttr, Blk.men, Blk.keysIn])|exact qM rfl rfl rfl|(refine qG rfl ?_)|(refine qH rfl ?_)|(refine qI rfl ?_ ?_<;>intro hc<;>(try simp only [go_sem] at hc))|(refine qJ ?_ ?_<;>intro hc<;>(try simp only [hc])<;>(try simp only [go_sem] at hc)))
  refine ⟨⟨i + 1, hlt⟩, ?_, Ent.to ?_ ?_⟩ <;> first | (show _ < _; (try simp only); omega) | (simp (disch:=omega) only [qR,qS,qTw,qU,get,Nat.reduceEqDiff,↓reduceIte,qV,qW,qX,qY,qZ,and_self,dI,i64_in,and_true,true_and,rA,rB,rC,rD])
 ·repeat' (first|(with_reducible first|apply qA|apply qB|apply qC|apply qD|apply qE|apply qF)|(simp (disch:=omega) only [go_sem, simprocAttr, Blk.men, Blk.keysIn, hd])|exact qM rfl rfl rfl|(refine qG rfl ?_)|(refine qH rfl ?_)|(refine qI rfl ?_ ?_<;>intro hc<;>(try simp only [go_sem] at hc))|(refine qJ ?_ ?_<;>intro hc<;>(try simp only [hc])<;>(try simp only [go_sem] at hc)))
theorem bdFCon (b : Bool) (l : List Flu) (hl : l.length ≤ 2 ^ 36) (g : FuncId) (hp : ∀ x ∈ l, DCall Try.prog g [.agg ((eF x).map D.c)] [] (bD false) []) : DCall Try.prog 138 [.c (.sl b 4 (rows eF l)), .c (.fn (.func g) [] [])] [] (bD false) [] := by
 refine DCall.of Try.func138 sf138 hb138 (Nat.le_of_ble_eq_true rfl) (okRes_nil fun _ => rfl) ?_; simp only [s138, idxs, Nat.reduceAdd]
 repeat' (first|(with_reducible first|apply qA|apply qB|apply qC|apply qD|apply qE|apply qF)|(simp (disch:=omega) only [go_sem, simprocAttr, Blk.men, Blk.keysIn])|exact qM rfl rfl rfl|(refine qG rfl ?_)|(refine qH rfl ?_)|(refine qI rfl ?_ ?_<;>intro hc<;>(try simp only [go_sem] at hc))|(refine qJ ?_ ?_<;>intro hc<;>(try simp only [hc])<;>(try simp only [go_sem] at hc)))
 (refine call_c (bdFIdx b l hl g hp) (by decide) ?_; simp (disch:=omega) only [go_sem,simprocAttr,Blk.men,Blk.keysIn])
 repeat' (first|(with_reducible first|apply qA|apply qB|apply qC|apply qD|apply qE|apply qF)|(simp (disch:=omega) only [go_sem, simprocAttr, Blk.men, Blk.keysIn])|exact qM rfl rfl rfl|(refine qG rfl ?_)|(refine qH rfl ?_)|(refine qI rfl ?_ ?_<;>intro hc<;>(try simp only [go_sem] at hc))|(refine qJ ?_ ?_<;>intro hc<;>(try simp only [hc])<;>(try simp only [go_sem] at hc)))
theorem bdCheck (s : Sto) (h : s.ok) : DCall Try.prog 100 [dSto s] [] (dI 0) [] := by
 have hp := h.np
 have hf := h.nf
 have h1 := bdPCon false s.papers (by omega) 136 (fun p hp => bdP1 p (h.papers p hp))
 have h2 := bdFCon false s.flutes (by omega) 139 (fun f hf => bdF1 f (h.flutes f hf))
 have d1 : decide ((8 : Int) < (s.papers.length : Int)) = false := by rw [decide_eq_false_iff_not]; omega
 have d2 : decide ((4 : Int) < (s.flutes.length : Int)) = false := by rw [decide_eq_false_iff_not]; omega
 have d3 : ((s.papers.length : Int) == 0) = false := by rw [beq_eq_false_iff_ne]; omega
 have d4 : ((s.flutes.length : Int) == 0) = false := by rw [beq_eq_false_iff_ne]; omega
 refine DCall.of Try.func100 sf100 hb100 (Nat.le_of_ble_eq_true rfl) (okRes_nil fun _ => rfl) ?_; simp only [s100, idxs, Nat.reduceAdd]
 repeat' (first|(with_reducible first|apply qA|apply qB|apply qC|apply qD|apply qE|apply qF)|(simp (disch:=omega) only [go_sem, simprocAttr, Blk.men, Blk.keysIn, d1, d2, d3, d4])|exact qM rfl rfl rfl|(refine qG rfl ?_)|(refine qK (h1) (by decide) ?_)|(refine qK (h2) (by decide) ?_)|(refine qH rfl ?_)|(refine qI rfl ?_ ?_<;>intro hc<;>(try simp only [go_sem] at hc))|(refine qJ ?_ ?_<;>intro hc<;>(try simp only [hc])<;>(try simp only [go_sem] at hc)))
structure Mak where
 papers : List Nat
 flutes : List Nat
abbrev dMak (m : Mak) : D := .agg [.c (.sl false 1 (rows eI (nL m.papers))), .c (.sl false 1 (rows eI (nL m.flutes)))]
attribute [go_sem] dMak
structure Mak.ok (m : Mak) (s : Sto) : Prop where
 nf : 1 ≤ m.flutes.length ∧ m.flutes.length ≤ 2
 np : m.papers.length = 2 * m.flutes.length + 1
 papers : ∀ n ∈ m.papers, n < s.papers.length
 flutes : ∀ n ∈ m.flutes, n < s.flutes.length
 kind : ∀ (i n : Nat) (p : Pap), m.papers[i]? = some n → s.papers[n]? = some p → p.kind = if i % 2 = 0 then 1 else 2
def kindsL : Nat → List Int
 | 0 => [1]
 | n + 1 => kindsL n ++ [2, 1]
theorem kindsL_len : ∀ n, (kindsL n).length = 2 * n + 1
 | 0 => rfl
 | n + 1 => by rw [kindsL, List.length_append, kindsL_len n]; simp; omega
theorem kindsL_get : ∀ n i, i < 2 * n + 1 → (kindsL n)[i]? = some (if i % 2 = 0 then 1 else 2)
 | 0, i, h => by
  obtain rfl : i = 0 := by omega
  rfl
 | n + 1, i, h => by
  rw [kindsL]
  rcases Nat.lt_or_ge i (2 * n + 1) with h1 | h1
  ·rw [List.getElem?_append_left (by rw [kindsL_len]; omega)]
   exact kindsL_get n i h1
  ·rw [List.getElem?_append_right (by rw [kindsL_len]; omega), kindsL_len]
   rcases (by omega : i = 2 * n + 1 ∨ i = 2 * n + 2) with rfl | rfl
   ·rw [if_neg (by omega)]; simp
   ·rw [if_pos (by omega)]; simp
theorem snoc2 (l : List Int) (a b : Int) : rowC (rows eI l) ++ [[D.c (.v (.int .i64 a))], [D.c (.v (.int .i64 b))]] = rowC (rows eI (l ++ [a, b])) := by simp [rowC, rows, eI]
theorem bdKinds (n : Nat) (hn : n ≤ 1000) : DCall Try.prog 102 [dI n] [] (dIs false (kindsL n)) [] := by
 refine DCall.of Try.func102 sf102 hb102 (Nat.le_of_ble_eq_true rfl) (okRes_nil fun _ => rfl) ?_; simp only [s102, idxs, Nat.reduceAdd]
 repeat' (first|(with_reducible first|apply qA|apply qB|apply qC|apply qD|apply qE|apply qF)|(simp (disch:=omega) only [go_sem, simprocAttr, Blk.men, Blk.keysIn])|exact qM rfl rfl rfl|(refine qG rfl ?_)|(refine qH rfl ?_)|(refine qI rfl ?_ ?_<;>intro hc<;>(try simp only [go_sem] at hc))|(refine qJ ?_ ?_<;>intro hc<;>(try simp only [hc])<;>(try simp only [go_sem] at hc)))
 refine DW.loop (ι := { i : Nat // i ≤ n }) (fun i => ⟨13, [(6, dI i.1), (5, dI n), (3, .own 4)], [(4, .row 1 (rowC (rows eI (kindsL i.1))))]⟩) (fun i => n - i.1) ⟨0, Nat.zero_le _⟩ ?_ ?_
 ·refine Ent.to ?_ ?_ <;> simp (disch:=omega) only [qR,qS,qTw,qU,get,Nat.reduceEqDiff,↓reduceIte,qV,qW,qX,qY,qZ,and_self,dI,i64_in,and_true,true_and,rA,rB,rC,rD]
  exact .refl _
 rintro ⟨i, hi⟩
 rcases Nat.lt_or_ge i n with hlt | hge
 ·have hd : decide ((i : Int) < (n : Int)) = true := by rw [decide_eq_true_eq]; omega
  have hl := kindsL_len i
  have hs : kindsL (i + 1) = kindsL i ++ [2, 1] := rfl
  generalize kindsL i = k at *
  repeat' (first|(with_reducible first|apply qA|apply qB|apply qC|apply qD|apply qE|apply qF)|(simp (disch:=omega) only [go_sem, simprocAttr, Blk.men, Blk.keysIn, hd, snoc2])|exact qM rfl rfl rfl|(refine qG rfl ?_)|(refine qH rfl ?_)|(refine qI rfl ?_ ?_<;>intro hc<;>(try simp only [go_sem] at hc))|(refine qJ ?_ ?_<;>intro hc<;>(try simp only [hc])<;>(try simp only [go_sem] at hc)))
  refine ⟨⟨i + 1, hlt⟩, ?_, Ent.to ?_ ?_⟩ <;> first | (show _ < _; (try simp only); omega) | (simp (disch:=omega) only [qR,qS,qTw,qU,get,Nat.reduceEqDiff,↓reduceIte,qV,qW,qX,qY,qZ,and_self,dI,i64_in,and_true,true_and,rA,rB,rC,rD, hs])
  all_goals exact .refl _
 ·obtain rfl : i = n := by omega
  have hd : decide ((i : Int) < (i : Int)) = false := by rw [decide_eq_false_iff_not]; omega
  repeat' (first|(with_reducible first|apply qA|apply qB|apply qC|apply qD|apply qE|apply qF)|(simp (disch:=omega) only [go_sem, simprocAttr, Blk.men, Blk.keysIn, hd])|exact qM rfl rfl rfl|(refine qG rfl ?_)|(refine qH rfl ?_)|(refine qI rfl ?_ ?_<;>intro hc<;>(try simp only [go_sem] at hc))|(refine qJ ?_ ?_<;>intro hc<;>(try simp only [hc])<;>(try simp only [go_sem] at hc)))
  (refine retS_ent (Ent.rel 4 rfl) ?_; simp (disch:=omega) only [go_sem,simprocAttr,Blk.men,Blk.keysIn])
  refine retS_wk rfl ?_ (by simp only [Blk.nb, rowC_nb, D.nb, D.nbs, C.nb, C.nbs, C.nbss, rows_nb eI_nb, Bool.and_true, Bool.not_false, Bool.and_self, bD, dI, iD, rows_nb eP_nb, rows_nb eF_nb]); exact .refl _
end Go.Dw.Seat
end
section
set_option linter.unusedSimpArgs false
set_option maxRecDepth 100000
namespace Go.Dw.Seat
open Go Go.Dw Go.Proofs Go.IntWalk
theorem bdForm (m : Mak) (s : Sto) (h : m.ok s) : DCall Try.prog 101 [dMak m] [] (bD true) [] := by
 have hf := h.nf
 have hn := h.np
 have h1 := bdIn true 1 2 [(m.flutes.length : Int)] (by simp) (by simp; omega)
 have h2 := bdKinds m.flutes.length (by omega)
 have hl := kindsL_len m.flutes.length
 have hd : ((m.papers.length : Int) == ((kindsL m.flutes.length).length : Int)) = true := by rw [hl, hn]; simp
 refine DCall.of Try.func101 sf101 hb101 (Nat.le_of_ble_eq_true rfl) (okRes_nil fun _ => rfl) ?_; simp only [s101, idxs, Nat.reduceAdd]
 repeat' (first|(with_reducible first|apply qA|apply qB|apply qC|apply qD|apply qE|apply qF)|(refine qL rfl (WF.of ?_) ?_; first|rfl|skip)|(simp (disch:=omega) only [go_sem, simprocAttr, qN, qO, qP, qQ, hd, nL_length])|exact qM rfl rfl rfl|(refine qG rfl ?_)|(refine qK (h1) (by decide) ?_)|(refine qK (h2) (by decide) ?_)|(refine qH rfl ?_)|(refine qI rfl ?_ ?_<;>intro hc<;>(try simp only [go_sem] at hc))|(refine qJ ?_ ?_<;>intro hc<;>(try simp only [hc])<;>(try simp only [go_sem] at hc)))
theorem nL_at {l : List Nat} {i v : Nat} (h : l[i]? = some v) : (nL l)[i]? = some (v : Int) := by rw [nL_get, h]; rfl
theorem bdMade (s : Sto) (m : Mak) (hs : s.ok) (h : m.ok s) : DCall Try.prog 61 [dSto s, dMak m] [] (dI 0) [] := by
 have hf := h.nf
 have hn := h.np
 have hsp := hs.np
 have hsf := hs.nf
 have h1 := bdCheck s hs
 have h2 := bdForm m s h
 have h3 := bdIn false 0 ((s.papers.length : Int) - 1) (nL m.papers) (by rw [nL_length]; omega) (fun v hv => by
  obtain ⟨n, hn, rfl⟩ := List.mem_map.1 hv
  have := h.papers n hn
  omega)
 have h4 := bdIn false 0 ((s.flutes.length : Int) - 1) (nL m.flutes) (by rw [nL_length]; omega) (fun v hv => by
  obtain ⟨n, hn, rfl⟩ := List.mem_map.1 hv
  have := h.flutes n hn
  omega)
 have h5 := bdKinds m.flutes.length (by omega)
 have hl := kindsL_len m.flutes.length
 have hk := kindsL_get m.flutes.length
 have hkl : (kindsL m.flutes.length).length ≤ 5 := by omega
 refine DCall.of Try.func61 sf61 hb61 (Nat.le_of_ble_eq_true rfl) (okRes_nil fun _ => rfl) ?_; simp only [s61, idxs, Nat.reduceAdd]
 repeat' (first|(with_reducible first|apply qA|apply qB|apply qC|apply qD|apply qE|apply qF)|(refine qL rfl (WF.of ?_) ?_; first|rfl|skip)|(simp (disch:=omega) only [go_sem, simprocAttr, qN, qO, qP, qQ, nL_length])|exact qM rfl rfl rfl|(refine qG rfl ?_)|(refine qK (h1) (by decide) ?_)|(refine qK (h2) (by decide) ?_)|(refine qK (h3) (by decide) ?_)|(refine qK (h4) (by decide) ?_)|(refine qK (h5) (by decide) ?_)|(refine qH rfl ?_)|(refine qI rfl ?_ ?_<;>intro hc<;>(try simp only [go_sem] at hc))|(refine qJ ?_ ?_<;>intro hc<;>(try simp only [hc])<;>(try simp only [go_sem] at hc)))
 refine DW.loop (ι := { i : Nat // i ≤ m.papers.length }) (fun i => ⟨57, [(39, dI i.1), (38, dI (kindsL m.flutes.length).length), (37, .c (.sl false 1 (rows eI (kindsL m.flutes.length)))), (3, .box 3 0), (2, .box 2 0)], [(3, .box [.c (.sl false 1 (rows eI (nL m.papers))), .c (.sl false 1 (rows eI (nL m.flutes)))]), (2, .box [.c (.sl false 8 (rows eP s.papers)), .c (.sl false 4 (rows eF s.flutes))])]⟩) (fun i => m.papers.length - i.1) ⟨0, Nat.zero_le _⟩ ?_ ?_
 ·refine Ent.to ?_ ?_ <;> simp (disch:=omega) only [qR,qS,qTw,qU,get,Nat.reduceEqDiff,↓reduceIte,qV,qW,qX,qY,qZ,and_self,dI,i64_in,and_true,true_and,rA,rB,rC,rD]
 rintro ⟨i, hi⟩
 rcases Nat.lt_or_ge i m.papers.length with hlt | hge
 ·have hd : decide ((i : Int) < ((kindsL m.flutes.length).length : Int)) = true := by rw [decide_eq_true_eq]; omega
  have hki := hk i (by omega)
  obtain ⟨v, hv⟩ := getE (l := m.papers) (i := i) hlt
  have hv' := nL_at hv
  have hvs := h.papers v (List.mem_of_getElem? hv)
  obtain ⟨p, hp⟩ := getE (l := s.papers) (i := v) hvs
  have hpk := h.kind i v p hv hp
  have hl1 : (nL m.papers).length = m.papers.length := nL_length _
  rw [← hpk] at hki
  have hne : (p.kind != p.kind) = false := by simp
  generalize kindsL m.flutes.length = k at *
  repeat' (first|(with_reducible first|apply qA|apply qB|apply qC|apply qD|apply qE|apply qF)|(refine qL rfl (WF.of ?_) ?_; first|rfl|skip)|(simp (disch:=omega) only [go_sem, simprocAttr, qN, qO, qP, qQ, hd, hki, hv', hp, hl1, hne, rF, rG])|exact qM rfl rfl rfl|(refine qG rfl ?_)|(refine qH rfl ?_)|(refine qI rfl ?_ ?_<;>intro hc<;>(try simp only [go_sem] at hc))|(refine qJ ?_ ?_<;>intro hc<;>(try simp only [hc])<;>(try simp only [go_sem] at hc)))
  refine ⟨⟨i + 1, hlt⟩, ?_, Ent.to ?_ ?_⟩ <;> first | (show _ < _; (try simp only); omega) | (simp (disch:=omega) only [qR,qS,qTw,qU,get,Nat.reduceEqDiff,↓reduceIte,qV,qW,qX,qY,qZ,and_self,dI,i64_in,and_true,true_and,rA,rB,rC,rD])
 ·have hd : decide ((i : Int) < ((kindsL m.flutes.length).length : Int)) = false := by rw [decide_eq_false_iff_not]; omega
  repeat' (first|(with_reducible first|apply qA|apply qB|apply qC|apply qD|apply qE|apply qF)|(refine qL rfl (WF.of ?_) ?_; first|rfl|skip)|(simp (disch:=omega) only [go_sem, simprocAttr, qN, qO, qP, qQ, hd])|exact qM rfl rfl rfl|(refine qG rfl ?_)|(refine qH rfl ?_)|(refine qI rfl ?_ ?_<;>intro hc<;>(try simp only [go_sem] at hc))|(refine qJ ?_ ?_<;>intro hc<;>(try simp only [hc])<;>(try simp only [go_sem] at hc)))
def papAt (s : Sto) (n : Nat) : Pap := s.papers[n]?.getD ⟨0, 0, 0, 0, 0, 0, 0, 0⟩
def fluAt (s : Sto) (n : Nat) : Flu := s.flutes[n]?.getD ⟨0, 0, 0, 0⟩
theorem papAt_get {s : Sto} {n : Nat} (h : n < s.papers.length) : s.papers[n]? = some (papAt s n) := by
 rw [papAt, List.getElem?_eq_getElem h]; rfl
theorem fluAt_get {s : Sto} {n : Nat} (h : n < s.flutes.length) : s.flutes[n]? = some (fluAt s n) := by
 rw [fluAt, List.getElem?_eq_getElem h]; rfl
theorem papAt_ok {s : Sto} {n : Nat} (hs : s.ok) (h : n < s.papers.length) : (papAt s n).ok := hs.papers _ (List.mem_of_getElem? (papAt_get h))
theorem fluAt_ok {s : Sto} {n : Nat} (hs : s.ok) (h : n < s.flutes.length) : (fluAt s n).ok := hs.flutes _ (List.mem_of_getElem? (fluAt_get h))
def wholeF (s : Sto) (w : Int) (l : List Nat) : Int := l.foldl (fun w n => w * (fluAt s n).pitch) w
theorem wholeF_take (s : Sto) (w : Int) {l : List Nat} {i v : Nat} (h : l[i]? = some v) : wholeF s w (l.take (i + 1)) = wholeF s w (l.take i) * (fluAt s v).pitch := by
 rw [List.take_add_one, h]
 simp only [wholeF, Option.toList_some, List.foldl_append, List.foldl_cons, List.foldl_nil]
theorem wholeF_b (s : Sto) (hs : s.ok) : ∀ (l : List Nat), (∀ n ∈ l, n < s.flutes.length) → l.length ≤ 2 → 1 ≤ wholeF s 1 l ∧ wholeF s 1 l ≤ 100000000
 | [], _, _ => by simp [wholeF]
 | [a], h, _ => by
  have := (fluAt_ok hs (h a (by simp))).pitch
  simp only [wholeF, List.foldl_cons, List.foldl_nil]
  omega
 | [a, b], h, _ => by
  have h1 := (fluAt_ok hs (h a (by simp))).pitch
  have h2 := (fluAt_ok hs (h b (by simp))).pitch
  simp only [wholeF, List.foldl_cons, List.foldl_nil, Int.one_mul]
  have h3 := mulB0 (a := (fluAt s a).pitch) (b := (fluAt s b).pitch) (A := 10000) (B := 10000) (by omega) (by omega)
  have h4 : 1 * 1 ≤ (fluAt s a).pitch * (fluAt s b).pitch := Int.mul_le_mul (by omega) (by omega) (by decide) (by omega)
  omega
 | a :: b :: c :: l, _, h => by simp at h
abbrev dShe (s : Sto) (m : Mak) (w : Int) : D := .agg [.c (.sl false 1 (rows eI (nL m.papers))), .c (.sl false 1 (rows eI (nL m.flutes))), .c (.sl false 8 (rows eP s.papers)), .c (.sl false 4 (rows eF s.flutes)), dI w]
attribute [go_sem] dShe
def wholeI (s : Sto) (m : Mak) : Int := wholeF s 1 m.flutes
theorem bdSheetOf (s : Sto) (m : Mak) (hs : s.ok) (h : m.ok s) : DCall Try.prog 84 [dSto s, dMak m] [] (dShe s m (wholeI s m)) [] := by
 have hf := h.nf
 have hl1 : (nL m.flutes).length = m.flutes.length := nL_length _
 refine DCall.of Try.func84 sf84 hb84 (Nat.le_of_ble_eq_true rfl) (okRes_nil fun _ => rfl) ?_; simp only [s84, idxs, Nat.reduceAdd]
 repeat' (first|(with_reducible first|apply qA|apply qB|apply qC|apply qD|apply qE|apply qF)|(refine qL rfl (WF.of ?_) ?_; first|rfl|skip)|(simp (disch:=omega) only [go_sem, simprocAttr, qN, qO, qP, qQ, hl1])|exact qM rfl rfl rfl|(refine qG rfl ?_)|(refine qH rfl ?_)|(refine qI rfl ?_ ?_<;>intro hc<;>(try simp only [go_sem] at hc))|(refine qJ ?_ ?_<;>intro hc<;>(try simp only [hc])<;>(try simp only [go_sem] at hc)))
 refine DW.loop (ι := { i : Nat // i ≤ m.flutes.length }) (fun i => ⟨30, [(14, dI i.1), (13, dI m.flutes.length), (12, .c (.sl false 1 (rows eI (nL m.flutes)))), (5, .box 5 0), (4, .box 4 0), (2, .box 2 0)], [(5, .box [.c (.sl false 1 (rows eI (nL m.papers))), .c (.sl false 1 (rows eI (nL m.flutes))), .c (.sl false 8 (rows eP s.papers)), .c (.sl false 4 (rows eF s.flutes)), dI (wholeF s 1 (m.flutes.take i.1))]), (4, .box [.c (.v (.slice none 0 0)), .c (.v (.slice none 0 0)), .c (.v (.slice none 0 0)), .c (.v (.slice none 0 0)), dI 0]), (2, .box [.c (.sl false 8 (rows eP s.papers)), .c (.sl false 4 (rows eF s.flutes))])]⟩) (fun i => m.flutes.length - i.1) ⟨0, Nat.zero_le _⟩ ?_ ?_
 ·refine Ent.to ?_ ?_ <;> simp (disch:=omega) only [qR,qS,qTw,qU,get,Nat.reduceEqDiff,↓reduceIte,qV,qW,qX,qY,qZ,and_self,dI,i64_in,and_true,true_and,rA,rB,rC,rD,List.take_zero,wholeF,List.foldl_nil]
 rintro ⟨i, hi⟩
 rcases Nat.lt_or_ge i m.flutes.length with hlt | hge
 ·have hd : decide ((i : Int) < (m.flutes.length : Int)) = true := by rw [decide_eq_true_eq]; omega
  obtain ⟨v, hv⟩ := getE (l := m.flutes) (i := i) hlt
  have hv' := nL_at hv
  have hvs := h.flutes v (List.mem_of_getElem? hv)
  have hp := fluAt_get hvs
  have hnx := wholeF_take s 1 hv
  have hb := wholeF_b s hs (m.flutes.take (i + 1)) (fun n hn => h.flutes n (List.mem_of_mem_take hn)) (by rw [List.length_take]; omega)
  rw [hnx] at hb
  repeat' (first|(with_reducible first|apply qA|apply qB|apply qC|apply qD|apply qE|apply qF)|(refine qL rfl (WF.of ?_) ?_; first|rfl|skip)|(simp (disch:=omega) only [go_sem, simprocAttr, qN, qO, qP, qQ, hd, hv', hp, rF, rG])|exact qM rfl rfl rfl|(refine qG rfl ?_)|(refine qH rfl ?_)|(refine qI rfl ?_ ?_<;>intro hc<;>(try simp only [go_sem] at hc))|(refine qJ ?_ ?_<;>intro hc<;>(try simp only [hc])<;>(try simp only [go_sem] at hc)))
  refine ⟨⟨i + 1, hlt⟩, ?_, Ent.to ?_ ?_⟩ <;> first | (show _ < _; (try simp only); omega) | (simp (disch:=omega) only [qR,qS,qTw,qU,get,Nat.reduceEqDiff,↓reduceIte,qV,qW,qX,qY,qZ,and_self,dI,i64_in,and_true,true_and,rA,rB,rC,rD, hnx])
  all_goals exact .refl _
 ·obtain rfl : i = m.flutes.length := by omega
  have hd : decide ((m.flutes.length : Int) < (m.flutes.length : Int)) = false := by rw [decide_eq_false_iff_not]; omega
  have hw : wholeI s m = wholeF s 1 (m.flutes.take m.flutes.length) := by rw [List.take_length]; rfl
  rw [hw]
  repeat' (first|(with_reducible first|apply qA|apply qB|apply qC|apply qD|apply qE|apply qF)|(refine qL rfl (WF.of ?_) ?_; first|rfl|skip)|(simp (disch:=omega) only [go_sem, simprocAttr, qN, qO, qP, qQ, hd])|exact qM rfl rfl rfl|(refine qG rfl ?_)|(refine qH rfl ?_)|(refine qI rfl ?_ ?_<;>intro hc<;>(try simp only [go_sem] at hc))|(refine qJ ?_ ?_<;>intro hc<;>(try simp only [hc])<;>(try simp only [go_sem] at hc)))
  refine retS_wk rfl ?_ (by simp only [Blk.nb, rowC_nb, D.nb, D.nbs, C.nb, C.nbs, C.nbss, rows_nb eI_nb, Bool.and_true, Bool.not_false, Bool.and_self, bD, dI, iD, rows_nb eP_nb, rows_nb eF_nb]); exact .refl _
theorem bdNew (s : Sto) (m : Mak) (hs : s.ok) (h : m.ok s) : DCall Try.prog 45 [dSto s, dMak m] [] (.tup [dShe s m (wholeI s m), dI 0]) [] := by
 have h1 := bdMade s m hs h
 have h2 := bdSheetOf s m hs h
 refine DCall.of Try.func45 sf45 hb45 (Nat.le_of_ble_eq_true rfl) (okRes_nil fun _ => rfl) ?_; simp only [s45, idxs, Nat.reduceAdd]
 repeat' (first|(with_reducible first|apply qA|apply qB|apply qC|apply qD|apply qE|apply qF)|(simp (disch:=omega) only [go_sem, simprocAttr, qN, qO, qP, qQ])|exact qM rfl rfl rfl|(refine qG rfl ?_)|(refine qK (h1) (by decide) ?_)|(refine qK (h2) (by decide) ?_)|(refine qH rfl ?_)|(refine qI rfl ?_ ?_<;>intro hc<;>(try simp only [go_sem] at hc))|(refine qJ ?_ ?_<;>intro hc<;>(try simp only [hc])<;>(try simp only [go_sem] at hc)))
 refine retS_wk rfl ?_ (by simp only [Blk.nb, rowC_nb, D.nb, D.nbs, C.nb, C.nbs, C.nbss, rows_nb eI_nb, Bool.and_true, Bool.not_false, Bool.and_self, bD, dI, iD, rows_nb eP_nb, rows_nb eF_nb]); exact .tup (.cons (.refl _) (.cons (.refl _) .nil))
theorem drop_at {α : Type} {l : List α} {i : Nat} {v : α} (h : l[i]? = some v) : l.drop i = v :: l.drop (i + 1) := by
 obtain ⟨hi, rfl⟩ := List.getElem?_eq_some_iff.1 h
 exact List.drop_eq_getElem_cons hi
def partsAt (s : Sto) (m : Mak) (i : Nat) : Int := if i % 2 = 1 then (wholeI s m).tdiv (fluAt s (m.flutes[i / 2]?.getD 0)).pitch * (fluAt s (m.flutes[i / 2]?.getD 0)).draw else wholeI s m
def layersL (s : Sto) (m : Mak) : List (Nat × Int) := m.papers.zipIdx.map fun e => (e.1, partsAt s m e.2)
theorem layersL_get {s : Sto} {m : Mak} {i v : Nat} (h : m.papers[i]? = some v) : (layersL s m)[i]? = some (v, partsAt s m i) := by
 simp [layersL, h]
theorem layersL_len (s : Sto) (m : Mak) : (layersL s m).length = m.papers.length := by simp [layersL]
def enLay (e : Nat × Int) : List D := [dI e.1, dI e.2]
def okLay (s : Sto) (e : Nat × Int) : Prop := e.1 < s.papers.length ∧ 0 ≤ e.2 ∧ e.2 ≤ 200000000
theorem flute_at {s : Sto} {m : Mak} (h : m.ok s) {i : Nat} (hi : i < m.papers.length) (ho : i % 2 = 1) : m.flutes[i / 2]? = some (m.flutes[i / 2]?.getD 0) ∧ (m.flutes[i / 2]?.getD 0) < s.flutes.length := by
 have h1 := h.np
 obtain ⟨v, hv⟩ := getE (l := m.flutes) (i := i / 2) (by omega)
 rw [hv]
 exact ⟨rfl, h.flutes v (List.mem_of_getElem? hv)⟩
theorem wholeI_b {s : Sto} {m : Mak} (hs : s.ok) (h : m.ok s) : 1 ≤ wholeI s m ∧ wholeI s m ≤ 100000000 := wholeF_b s hs m.flutes h.flutes h.nf.2
theorem partsAt_b {s : Sto} {m : Mak} (hs : s.ok) (h : m.ok s) {i : Nat} (hi : i < m.papers.length) : 0 ≤ partsAt s m i ∧ partsAt s m i ≤ 200000000 := by
 have hw := wholeI_b hs h
 unfold partsAt
 split
 ·rename_i ho
  have hf := fluAt_ok hs (flute_at h hi ho).2
  have h1 := hf.pitch
  have h2 := hf.draw
  generalize fluAt s (m.flutes[i / 2]?.getD 0) = f at *
  generalize wholeI s m = w at *
  rw [Int.tdiv_eq_ediv_of_nonneg (by omega)]
  have q0 : 0 ≤ w / f.pitch := Int.ediv_nonneg (by omega) (by omega)
  have q1 : w / f.pitch * f.pitch ≤ w := Int.ediv_mul_le w (by omega)
  have q2 : w / f.pitch * f.draw ≤ w / f.pitch * (2 * f.pitch) := Int.mul_le_mul_of_nonneg_left h2.2 q0
  have q3 : 0 ≤ w / f.pitch * f.draw := Int.mul_nonneg q0 (by omega)
  have q4 : w / f.pitch * (2 * f.pitch) = 2 * (w / f.pitch * f.pitch) := by rw [Int.mul_left_comm]
  omega
 ·omega
attribute [go_sem] enLay
theorem bdLayers (s : Sto) (m : Mak) (hs : s.ok) (h : m.ok s) : ItD Try.prog 59 [dShe s m (wholeI s m)] [] enLay (okLay s) (layersL s m) := by
 intro ly β H stp live hW hY b0 hl0
 have hH : ∀ b, HidOk (H b) := fun b => (hW b).toHidOk
 have hw := wholeI_b hs h
 refine DCall.of Try.func59 sf59 hb59 (Nat.le_of_ble_eq_true rfl) (hH _).res ?_
 simp only [s59, idxs, Nat.reduceAdd, List.map_nil, List.map_cons, List.nil_append, List.cons_append]
 have f1 := hid_get (hH b0)
 have f2 := hid_ins (hH b0)
 have f3 := (hH b0).men
 have f4 := (hH b0).lo
 have f5 : ∀ k x, k < 1000 → ins k x (H b0) = H b0 ++ [(k, x)] := fun k x hk => by have := f2 k hk x []; rwa [List.append_nil] at this
 have hl1 : (nL m.papers).length = m.papers.length := nL_length _
 have hn5 : m.papers.length ≤ 5 := by have := h.np; have := h.nf; omega
 repeat' (first|(with_reducible first|apply qA|apply qB|apply qC|apply qD|apply qE|apply qF)|(refine qL rfl (WF.of ?_) ?_; first|rfl|skip)|(simp (disch:=omega) only [go_sem, simprocAttr, qN, qO, qP, qQ, f1, f2, f3, f4, f5, ins, hl1])|exact qM rfl rfl rfl|(refine qG rfl ?_)|(refine qH rfl ?_)|(refine qI rfl ?_ ?_<;>intro hc<;>(try simp only [go_sem] at hc))|(refine qJ ?_ ?_<;>intro hc<;>(try simp only [hc])<;>(try simp only [go_sem] at hc)))
 refine DW.ent (Ent.comm (hH b0) rfl).1 ?_
 refine DW.loop (ι := { y : Nat × β // y.1 ≤ m.papers.length ∧ live y.2 ∧ runB stp b0 (layersL s m) = runB stp y.2 ((layersL s m).drop y.1) })
  (fun y => ⟨47, [(12, dI y.1.1), (11, dI m.papers.length), (10, .c (.sl false 1 (rows eI (nL m.papers)))), (2, .box 2 0), (1, .c (.fn (.yield ly) [] []))], [(2, .box [.c (.sl false 1 (rows eI (nL m.papers))), .c (.sl false 1 (rows eI (nL m.flutes))), .c (.sl false 8 (rows eP s.papers)), .c (.sl false 4 (rows eF s.flutes)), dI (wholeI s m)])] ++ H y.1.2⟩) (fun y => m.papers.length - y.1.1) ⟨(0, b0), Nat.zero_le _, hl0, rfl⟩ ?_ ?_
 ·refine Ent.toH (o := [_]) (o' := [_]) (hH _) ?_ ?_ ?_
  ·rfl
  ·simp (disch:=omega) only [qR,qS,qTw,qU,get,Nat.reduceEqDiff,↓reduceIte,qV,qW,qX,qY,qZ,and_self,dI,i64_in,and_true,true_and,rA,rB,rC,rD]
  ·simp (disch:=omega) only [qR,qS,qTw,qU,get,Nat.reduceEqDiff,↓reduceIte,qV,qW,qX,qY,qZ,and_self,dI,i64_in,and_true,true_and,rA,rB,rC,rD]
 clear f1 f2 f3 f4 f5
 rintro ⟨⟨i, b⟩, hi, hlv, hrun⟩
 dsimp only at hi hlv hrun ⊢
 have g3 := (hH b).men
 have g4 := (hH b).lo
 have g5 := (hW b).app1
 have g6 := (hW b).app2
 rcases Nat.lt_or_ge i m.papers.length with hlt | hge
 ·have hd : decide ((i : Int) < (m.papers.length : Int)) = true := by rw [decide_eq_true_eq]; omega
  obtain ⟨v, hv⟩ := getE (l := m.papers) (i := i) hlt
  have hv' := nL_at hv
  have hvs := h.papers v (List.mem_of_getElem? hv)
  have hpb := partsAt_b hs h hlt
  rw [drop_at (layersL_get hv)] at hrun
  obtain ⟨hyc, hlv4⟩ := hY b (v, partsAt s m i) hlv ⟨hvs, hpb⟩
  simp only [runB] at hrun
  have hrem : (i : Int).tmod 2 = ((i % 2 : Nat) : Int) := by rw [Int.tmod_eq_emod_of_nonneg (by omega)]; omega
  have hquo : (i : Int).tdiv 2 = ((i / 2 : Nat) : Int) := by rw [Int.tdiv_eq_ediv_of_nonneg (by omega)]; omega
  rcases (by omega : i % 2 = 0 ∨ i % 2 = 1) with ho | ho
  ·have hpe : partsAt s m i = wholeI s m := by rw [partsAt, if_neg (by omega)]
   rw [hpe] at hyc hrun hlv4
   rw [ho] at hrem
   repeat' (first|(with_reducible first|apply qA|apply qB|apply qC|apply qD|apply qE|apply qF)|(refine qL rfl (WF.of ?_) ?_; first|rfl|skip)|(simp (disch:=omega) only [go_sem, simprocAttr, qN, qO, qP, qQ, hd, hv', hrem, g3, g4])|exact qM rfl rfl rfl|(refine qG rfl ?_)|(refine qH rfl ?_)|(refine qI rfl ?_ ?_<;>intro hc<;>(try simp only [go_sem] at hc))|(refine qJ ?_ ?_<;>intro hc<;>(try simp only [hc])<;>(try simp only [go_sem] at hc)))
   refine call_y (own := [_]) hyc rfl rfl rfl (hH _) (hH _) (by decide) ?_
   cases hs : (stp b (v, wholeI s m)).1 with
   | true =>
    rw [hs] at hrun hlv4
    simp (disch:=omega) only [go_sem,simprocAttr,qN,qO,qP,qQ]
    repeat' (first|(with_reducible first|apply qA|apply qB|apply qC|apply qD|apply qE|apply qF)|(refine qL rfl (WF.of ?_) ?_; first|rfl|skip)|(simp (disch:=omega) only [go_sem, simprocAttr, qN, qO, qP, qQ])|exact qM rfl rfl rfl|(refine qG rfl ?_)|(refine qH rfl ?_)|(refine qI rfl ?_ ?_<;>intro hc<;>(try simp only [go_sem] at hc))|(refine qJ ?_ ?_<;>intro hc<;>(try simp only [hc])<;>(try simp only [go_sem] at hc)))
    refine ⟨⟨(i + 1, (stp b (v, wholeI s m)).2), hlt, hlv4 rfl, hrun⟩, by (show _ < _; (try simp only); omega), Ent.toH (o := [_]) (o' := [_]) (hH _) ?_ ?_ ?_⟩
    ·rfl
    ·simp (disch:=omega) only [qR,qS,qTw,qU,get,Nat.reduceEqDiff,↓reduceIte,qV,qW,qX,qY,qZ,and_self,dI,i64_in,and_true,true_and,rA,rB,rC,rD]
    ·simp (disch:=omega) only [qR,qS,qTw,qU,get,Nat.reduceEqDiff,↓reduceIte,qV,qW,qX,qY,qZ,and_self,dI,i64_in,and_true,true_and,rA,rB,rC,rD]
   | false =>
    rw [hs] at hrun
    simp (disch:=omega) only [go_sem,simprocAttr,qN,qO,qP,qQ]
    repeat' (first|(with_reducible first|apply qA|apply qB|apply qC|apply qD|apply qE|apply qF)|(refine qL rfl (WF.of ?_) ?_; first|rfl|skip)|(simp (disch:=omega) only [go_sem, simprocAttr, qN, qO, qP, qQ])|exact qM rfl rfl rfl|(refine qG rfl ?_)|(refine qH rfl ?_)|(refine qI rfl ?_ ?_<;>intro hc<;>(try simp only [go_sem] at hc))|(refine qJ ?_ ?_<;>intro hc<;>(try simp only [hc])<;>(try simp only [go_sem] at hc)))
    rw [hrun]
    exact retS_hid (own := [_]) (.inl rfl) (hH _) rfl
  ·obtain ⟨hfv, hfs⟩ := flute_at h hlt ho
   have hpe : partsAt s m i = (wholeI s m).tdiv (fluAt s (m.flutes[i / 2]?.getD 0)).pitch * (fluAt s (m.flutes[i / 2]?.getD 0)).draw := by rw [partsAt, if_pos ho]
   rw [hpe] at hyc hrun hlv4 hpb
   rw [ho] at hrem
   generalize m.flutes[i / 2]?.getD 0 = z at *
   have hzv := nL_at hfv
   have hzf := fluAt_get hfs
   have hfo := fluAt_ok hs hfs
   have h1 := hfo.pitch
   have h2 := hfo.draw
   generalize fluAt s z = f at *
   have h0 : (f.pitch = 0) = False := eq_false (by omega)
   have hq : 0 ≤ (wholeI s m).tdiv f.pitch ∧ (wholeI s m).tdiv f.pitch ≤ 100000000 := by
    rw [Int.tdiv_eq_ediv_of_nonneg (by omega)]
    exact ⟨Int.ediv_nonneg (by omega) (by omega), Int.le_trans (Int.ediv_le_self _ (by omega)) hw.2⟩
   have hl2 : (nL m.flutes).length = m.flutes.length := nL_length _
   repeat' (first|(with_reducible first|apply qA|apply qB|apply qC|apply qD|apply qE|apply qF)|(refine qL rfl (WF.of ?_) ?_; first|rfl|skip)|(simp (disch:=omega) only [go_sem, simprocAttr, qN, qO, qP, qQ, hd, hv', hrem, hquo, hzv, hzf, h0, g3, g4, g5, g6, hl2, rF, rG])|exact qM rfl rfl rfl|(refine qG rfl ?_)|(refine qH rfl ?_)|(refine qI rfl ?_ ?_<;>intro hc<;>(try simp only [go_sem] at hc))|(refine qJ ?_ ?_<;>intro hc<;>(try simp only [hc])<;>(try simp only [go_sem] at hc)))
   refine call_y (own := [_, _]) hyc rfl rfl rfl (hH _) (hH _) (by decide) ?_
   cases hs : (stp b (v, (wholeI s m).tdiv f.pitch * f.draw)).1 with
   | true =>
    rw [hs] at hrun hlv4
    simp (disch:=omega) only [go_sem,simprocAttr,qN,qO,qP,qQ]
    repeat' (first|(with_reducible first|apply qA|apply qB|apply qC|apply qD|apply qE|apply qF)|(refine qL rfl (WF.of ?_) ?_; first|rfl|skip)|(simp (disch:=omega) only [go_sem, simprocAttr, qN, qO, qP, qQ])|exact qM rfl rfl rfl|(refine qG rfl ?_)|(refine qH rfl ?_)|(refine qI rfl ?_ ?_<;>intro hc<;>(try simp only [go_sem] at hc))|(refine qJ ?_ ?_<;>intro hc<;>(try simp only [hc])<;>(try simp only [go_sem] at hc)))
    refine ⟨⟨(i + 1, (stp b (v, (wholeI s m).tdiv f.pitch * f.draw)).2), hlt, hlv4 rfl, hrun⟩, by (show _ < _; (try simp only); omega), Ent.toH (o := [_, _]) (o' := [_]) (hH _) ?_ ?_ ?_⟩
    ·rfl
    ·simp (disch:=omega) only [qR,qS,qTw,qU,get,Nat.reduceEqDiff,↓reduceIte,qV,qW,qX,qY,qZ,and_self,dI,i64_in,and_true,true_and,rA,rB,rC,rD]
    ·simp (disch:=omega) only [qR,qS,qTw,qU,get,Nat.reduceEqDiff,↓reduceIte,qV,qW,qX,qY,qZ,and_self,dI,i64_in,and_true,true_and,rA,rB,rC,rD]
   | false =>
    rw [hs] at hrun
    simp (disch:=omega) only [go_sem,simprocAttr,qN,qO,qP,qQ]
    repeat' (first|(with_reducible first|apply qA|apply qB|apply qC|apply qD|apply qE|apply qF)|(refine qL rfl (WF.of ?_) ?_; first|rfl|skip)|(simp (disch:=omega) only [go_sem, simprocAttr, qN, qO, qP, qQ])|exact qM rfl rfl rfl|(refine qG rfl ?_)|(refine qH rfl ?_)|(refine qI rfl ?_ ?_<;>intro hc<;>(try simp only [go_sem] at hc))|(refine qJ ?_ ?_<;>intro hc<;>(try simp only [hc])<;>(try simp only [go_sem] at hc)))
    rw [hrun]
    exact retS_hid (own := [_, _]) (.inl rfl) (hH _) rfl
 ·obtain rfl : i = m.papers.length := by omega
  have hd : decide ((m.papers.length : Int) < (m.papers.length : Int)) = false := by rw [decide_eq_false_iff_not]; omega
  rw [List.drop_of_length_le (by rw [layersL_len]; omega)] at hrun
  simp only [runB] at hrun
  repeat' (first|(with_reducible first|apply qA|apply qB|apply qC|apply qD|apply qE|apply qF)|(refine qL rfl (WF.of ?_) ?_; first|rfl|skip)|(simp (disch:=omega) only [go_sem, simprocAttr, qN, qO, qP, qQ, hd])|exact qM rfl rfl rfl|(refine qG rfl ?_)|(refine qH rfl ?_)|(refine qI rfl ?_ ?_<;>intro hc<;>(try simp only [go_sem] at hc))|(refine qJ ?_ ?_<;>intro hc<;>(try simp only [hc])<;>(try simp only [go_sem] at hc)))
  rw [hrun]
  exact retS_hid (own := [_]) (.inr rfl) (hH _) rfl
end Go.Dw.Seat
end
section
set_option linter.unusedSimpArgs false
set_option maxRecDepth 100000
namespace Go.Dw.Seat
open Go Go.Dw Go.Proofs Go.IntWalk
def sumS (f : Pap → Int) (s : Sto) (n : Int) (e : Nat × Int) : Option Exit × Int := (none, IntKind.i64.wrap (n + f (papAt s e.1) * e.2))
def sumF (f : Pap → Int) (s : Sto) (n : Int) (l : List (Nat × Int)) : Int := l.foldl (fun n e => n + f (papAt s e.1) * e.2) n
def sumI (f : Pap → Int) (s : Sto) (m : Mak) : Int := sumF f s 0 (layersL s m)
theorem sumS_run (f : Pap → Int) (s : Sto) (hf : ∀ p ∈ s.papers, 0 ≤ f p ∧ f p ≤ 1000000000) : ∀ (l : List (Nat × Int)) (n : Int), (∀ e ∈ l, okLay s e) → 0 ≤ n → n + 200000000000000000 * (l.length : Int) ≤ 9000000000000000000 →
  runIt (sumS f s) n l = (none, sumF f s n l) ∧ n ≤ sumF f s n l ∧ sumF f s n l ≤ n + 200000000000000000 * (l.length : Int)
 | [], n, _, _, _ => ⟨rfl, Int.le_refl _, by simp [sumF]⟩
 | e :: l, n, ho, h0, hn => by
  have he := ho e (by simp)
  have hfe := hf _ (List.mem_of_getElem? (papAt_get he.1))
  have hm := mulB0 (a := f (papAt s e.1)) (b := e.2) (A := 1000000000) (B := 200000000) hfe he.2
  rw [List.length_cons, Int.natCast_add, Int.natCast_one, Int.mul_add] at hn
  have hw : IntKind.i64.wrap (n + f (papAt s e.1) * e.2) = n + f (papAt s e.1) * e.2 := i64_in _ (by omega)
  have ih := sumS_run f s hf l (n + f (papAt s e.1) * e.2) (fun x hx => ho x (by simp [hx])) (by omega) (by omega)
  have hs : sumF f s n (e :: l) = sumF f s (n + f (papAt s e.1) * e.2) l := rfl
  rw [hs]
  simp only [runIt, sumS, hw]
  refine ⟨ih.1, by omega, ?_⟩
  rw [List.length_cons, Int.natCast_add, Int.natCast_one, Int.mul_add]
  omega
theorem layers_ok {s : Sto} {m : Mak} (hs : s.ok) (h : m.ok s) : ∀ e ∈ layersL s m, okLay s e := by
 intro e he
 obtain ⟨i, hi⟩ := List.getElem?_of_mem he
 have hlt : i < m.papers.length := by
  rcases Nat.lt_or_ge i m.papers.length with h | h
  ·exact h
  ·rw [List.getElem?_eq_none (by rw [layersL_len]; exact h)] at hi; cases hi
 obtain ⟨v, hv⟩ := getE (l := m.papers) (i := i) hlt
 rw [layersL_get hv] at hi
 cases hi
 exact ⟨h.papers v (List.mem_of_getElem? hv), partsAt_b hs h hlt⟩
theorem sumI_b {s : Sto} {m : Mak} (hs : s.ok) (h : m.ok s) (f : Pap → Int) (hf : ∀ p ∈ s.papers, 0 ≤ f p ∧ f p ≤ 1000000000) : runIt (sumS f s) 0 (layersL s m) = (none, sumI f s m) ∧ 0 ≤ sumI f s m ∧ sumI f s m ≤ 1000000000000000000 := by
 have hn : (layersL s m).length ≤ 5 := by rw [layersL_len]; have := h.np; have := h.nf; omega
 have := sumS_run f s hf (layersL s m) 0 (layers_ok hs h) (Int.le_refl _) (by omega)
 exact ⟨this.1, this.2.1, by have := this.2.2; unfold sumI; omega⟩
theorem closeDs_mapc {σ : St} {mv : Option Nat} {caps : List C} : closeDs σ mv (caps.map D.c) = some (caps.map D.c) := by
 have := @closeDs_fn _ σ mv [] caps []
 simpa [closeDs] using this
theorem bdSum (s : Sto) (m : Mak) (hs : s.ok) (h : m.ok s) (g : FuncId) (caps : List C) (hcn : C.nbs caps = true) (f : Pap → Int) (hf : ∀ p ∈ s.papers, 0 ≤ f p ∧ f p ≤ 1000000000)
  (hp : ∀ p ∈ s.papers, DCall Try.prog g (.agg ((eP p).map D.c) :: caps.map D.c) [] (dI (f p)) []) : DCall Try.prog 49 [dShe s m (wholeI s m), .c (.fn (.func g) [] caps)] [] (dI (sumI f s m)) [] := by
 have hit := bdLayers s m hs h
 have hsum := sumI_b hs h f hf
 have hnp := hs.np
 refine DCall.of Try.func49 sf49 hb49 (Nat.le_of_ble_eq_true rfl) (okRes_nil fun _ => rfl) ?_; simp only [s49, idxs, Nat.reduceAdd]
 repeat' (first|(with_reducible first|apply qA|apply qB|apply qC|apply qD|apply qE|apply qF)|(refine qL rfl (WF.of ?_) ?_; first|rfl|skip)|(simp (disch:=omega) only [go_sem, simprocAttr, Blk.men, Blk.keysIn])|exact qM rfl rfl rfl|(refine qG rfl ?_)|(refine qH rfl ?_)|(refine qI rfl ?_ ?_<;>intro hc<;>(try simp only [go_sem] at hc))|(refine qJ ?_ ?_<;>intro hc<;>(try simp only [hc])<;>(try simp only [go_sem] at hc)))
 refine DW.ent (σ' := ⟨24, [(8, .fn (.func 59) [dShe s m (wholeI s m)] []), (4, .box 4 0), (3, .box 3 0), (2, .box 2 0)], [(4, .box [dI 0]), (3, .box [.c (.fn (.func g) [] caps)]), (2, .box [.c (.sl false 1 (rows eI (nL m.papers))), .c (.sl false 1 (rows eI (nL m.flutes))), .c (.sl false 8 (rows eP s.papers)), .c (.sl false 4 (rows eF s.flutes)), dI (wholeI s m)])]⟩) (Ent.to ?_ ?_) ?_
 ·simp (disch:=omega) only [qR,qS,qTw,qU,get,Nat.reduceEqDiff,↓reduceIte,qV,qW,qX,qY,qZ,and_self,dI,i64_in,and_true,true_and,rA,rB,rC,rD]
 ·simp (disch:=omega) only [qR,qS,qTw,qU,get,Nat.reduceEqDiff,↓reduceIte,qV,qW,qX,qY,qZ,and_self,dI,i64_in,and_true,true_and,rA,rB,rC,rD]
 refine DW.rngBD (fun n : Int => [(4, .box [dI n]), (3, .box [.c (.fn (.func g) [] caps)]), (2, .box [.c (.sl false 1 (rows eI (nL m.papers))), .c (.sl false 1 (rows eI (nL m.flutes))), .c (.sl false 8 (rows eP s.papers)), .c (.sl false 4 (rows eF s.flutes)), dI (wholeI s m)])]) 0 (sumS f s) enLay (okLay s) (layersL s m) hit (fun _ => True) trivial (fun _ _ _ _ _ => trivial) rfl (fun _ => ⟨rfl, rfl⟩) rfl (by decide) (fun _ _ => rfl) (fun _ _ _ => rfl) (by simp only [List.map_cons, List.map_nil]; decide) (fun _ => rfl) (fun _ => rfl) (fun _ => (by simp only [List.all_cons, List.all_nil, Blk.nb, rowC_nb, D.nb, D.nbs, C.nb, C.nbs, C.nbss, rows_nb eI_nb, Bool.and_true, Bool.not_false, Bool.and_self, bD, dI, iD, rows_nb eP_nb, rows_nb eF_nb, hcn])) (by simp only [List.all_cons, List.all_nil, Blk.nb, rowC_nb, D.nb, D.nbs, C.nb, C.nbs, C.nbss, rows_nb eI_nb, Bool.and_true, Bool.not_false, Bool.and_self, bD, dI, iD, rows_nb eP_nb, rows_nb eF_nb]) (fun _ _ => rfl) ?_ ?_
 ·rintro n - ⟨k, parts⟩ he v
  have hk : k < s.papers.length := he.1
  have hpb : 0 ≤ parts ∧ parts ≤ 200000000 := he.2
  have hpk := papAt_get hk
  have hcall := hp _ (List.mem_of_getElem? hpk)
  have hfe := hf _ (List.mem_of_getElem? hpk)
  have hm := mulB0 (a := f (papAt s k)) (b := parts) (A := 1000000000) (B := 200000000) hfe hpb
  have hS : sumS f s n (k, parts) = (none, IntKind.i64.wrap (n + f (papAt s k) * parts)) := rfl
  rw [hS]
  generalize papAt s k = p at *
  simp (disch:=omega) only [go_sem,simprocAttr,Blk.men,Blk.keysIn]
  repeat' (first|(with_reducible first|apply qA|apply qB|apply qC|apply qD|apply qE|apply qF)|(refine qL rfl (WF.of ?_) ?_; first|rfl|skip)|(simp (disch:=omega) only [go_sem, simprocAttr, Blk.men, Blk.keysIn, hpk, closeDs_mapc, rF, rG])|exact qM rfl rfl rfl|(refine qG rfl ?_)|(refine qH rfl ?_)|(refine qI rfl ?_ ?_<;>intro hc<;>(try simp only [go_sem] at hc))|(refine qJ ?_ ?_<;>intro hc<;>(try simp only [hc])<;>(try simp only [go_sem] at hc)))
  refine call_c hcall (by decide) ?_
  simp (disch:=omega) only [go_sem,simprocAttr,Blk.men,Blk.keysIn]
  repeat' (first|(with_reducible first|apply qA|apply qB|apply qC|apply qD|apply qE|apply qF)|(refine qL rfl (WF.of ?_) ?_; first|rfl|skip)|(simp (disch:=omega) only [go_sem, simprocAttr, Blk.men, Blk.keysIn])|exact qM rfl rfl rfl|(refine qG rfl ?_)|(refine qH rfl ?_)|(refine qI rfl ?_ ?_<;>intro hc<;>(try simp only [go_sem] at hc))|(refine qJ ?_ ?_<;>intro hc<;>(try simp only [hc])<;>(try simp only [go_sem] at hc)))
  refine round_end rfl rfl (Ent.to ?_ ?_) <;> simp (disch:=omega) only [qR,qS,qTw,qU,get,Nat.reduceEqDiff,↓reduceIte,qV,qW,qX,qY,qZ,and_self,dI,i64_in,and_true,true_and,rA,rB,rC,rD,capB,List.cons_append,List.nil_append]
 ·rw [hsum.1]
  simp (disch:=omega) only [go_sem,simprocAttr,Blk.men,Blk.keysIn,Option.getD_none]
  repeat' (first|(with_reducible first|apply qA|apply qB|apply qC|apply qD|apply qE|apply qF)|(refine qL rfl (WF.of ?_) ?_; first|rfl|skip)|(simp (disch:=omega) only [go_sem, simprocAttr, Blk.men, Blk.keysIn])|exact qM rfl rfl rfl|(refine qG rfl ?_)|(refine qH rfl ?_)|(refine qI rfl ?_ ?_<;>intro hc<;>(try simp only [go_sem] at hc))|(refine qJ ?_ ?_<;>intro hc<;>(try simp only [hc])<;>(try simp only [go_sem] at hc)))
theorem bdWeight (p : Pap) : DCall Try.prog 50 [.agg ((eP p).map D.c)] [] (dI p.weight) [] := by
 refine DCall.of Try.func50 sf50 hb50 (Nat.le_of_ble_eq_true rfl) (okRes_nil fun _ => rfl) ?_; simp only [s50, idxs, Nat.reduceAdd]
 repeat' (first|(with_reducible first|apply qA|apply qB|apply qC|apply qD|apply qE|apply qF)|(simp (disch:=omega) only [go_sem, simprocAttr, Blk.men, Blk.keysIn, rF, rG])|exact qM rfl rfl rfl|(refine qG rfl ?_)|(refine qH rfl ?_)|(refine qI rfl ?_ ?_<;>intro hc<;>(try simp only [go_sem] at hc))|(refine qJ ?_ ?_<;>intro hc<;>(try simp only [hc])<;>(try simp only [go_sem] at hc)))
theorem bdLow (lo hi : Int) : DCall Try.prog 85 [.agg [dI lo, dI hi]] [] (dI lo) [] := by
 refine DCall.of Try.func85 sf85 hb85 (Nat.le_of_ble_eq_true rfl) (okRes_nil fun _ => rfl) ?_; simp only [s85, idxs, Nat.reduceAdd]
 repeat' (first|(with_reducible first|apply qA|apply qB|apply qC|apply qD|apply qE|apply qF)|(simp (disch:=omega) only [go_sem, simprocAttr, Blk.men, Blk.keysIn])|exact qM rfl rfl rfl|(refine qG rfl ?_)|(refine qH rfl ?_)|(refine qI rfl ?_ ?_<;>intro hc<;>(try simp only [go_sem] at hc))|(refine qJ ?_ ?_<;>intro hc<;>(try simp only [hc])<;>(try simp only [go_sem] at hc)))
theorem bdHigh (lo hi : Int) : DCall Try.prog 86 [.agg [dI lo, dI hi]] [] (dI hi) [] := by
 refine DCall.of Try.func86 sf86 hb86 (Nat.le_of_ble_eq_true rfl) (okRes_nil fun _ => rfl) ?_; simp only [s86, idxs, Nat.reduceAdd]
 repeat' (first|(with_reducible first|apply qA|apply qB|apply qC|apply qD|apply qE|apply qF)|(simp (disch:=omega) only [go_sem, simprocAttr, Blk.men, Blk.keysIn])|exact qM rfl rfl rfl|(refine qG rfl ?_)|(refine qH rfl ?_)|(refine qI rfl ?_ ?_<;>intro hc<;>(try simp only [go_sem] at hc))|(refine qJ ?_ ?_<;>intro hc<;>(try simp only [hc])<;>(try simp only [go_sem] at hc)))
structure EndOk (g : FuncId) (ef : Int → Int → Int) : Prop where
 call : ∀ lo hi, DCall Try.prog g [.agg [dI lo, dI hi]] [] (dI (ef lo hi)) []
 mem : ∀ lo hi, lo ≤ hi → lo ≤ ef lo hi ∧ ef lo hi ≤ hi
def moistF (ef : Int → Int → Int) (p : Pap) : Int := p.weight * (1000 + ef p.ml p.mh)
theorem moistF_b {g : FuncId} {ef : Int → Int → Int} (he : EndOk g ef) {p : Pap} (hp : p.ok) : 0 ≤ moistF ef p ∧ moistF ef p ≤ 1000000000 := by
 have h1 := hp.weight
 have h2 := hp.moist
 have h3 := he.mem p.ml p.mh h2.2.1
 have := mulB0 (a := p.weight) (b := 1000 + ef p.ml p.mh) (A := 1000) (B := 1200) (by omega) (by omega)
 unfold moistF
 omega
theorem bdMoist1 (b : Bool) {g : FuncId} {ef : Int → Int → Int} (he : EndOk g ef) (p : Pap) (hp : p.ok) : DCall Try.prog 127 [.agg ((eP p).map D.c), .c (.ro b [.fn (.func g) [] []] 0)] [] (dI (moistF ef p)) [] := by
 have h1 := hp.weight
 have h2 := hp.moist
 have h3 := he.mem p.ml p.mh h2.2.1
 have hm := mulB0 (a := p.weight) (b := 1000 + ef p.ml p.mh) (A := 1000) (B := 1200) (by omega) (by omega)
 have hc := he.call p.ml p.mh
 unfold moistF
 refine DCall.of Try.func127 sf127 hb127 (Nat.le_of_ble_eq_true rfl) (okRes_nil fun _ => rfl) ?_; simp only [s127, idxs, Nat.reduceAdd]
 repeat' (first|(with_reducible first|apply qA|apply qB|apply qC|apply qD|apply qE|apply qF)|(refine qL rfl (WF.of ?_) ?_; first|rfl|skip)|(simp (disch:=omega) only [go_sem, simprocAttr, Blk.men, Blk.keysIn, rF, rG])|exact qM rfl rfl rfl|(refine qG rfl ?_)|(refine qH rfl ?_)|(refine qI rfl ?_ ?_<;>intro hc<;>(try simp only [go_sem] at hc))|(refine qJ ?_ ?_<;>intro hc<;>(try simp only [hc])<;>(try simp only [go_sem] at hc)))
 refine call_c hc (by decide) ?_
 simp (disch:=omega) only [go_sem,simprocAttr,Blk.men,Blk.keysIn]
 repeat' (first|(with_reducible first|apply qA|apply qB|apply qC|apply qD|apply qE|apply qF)|(refine qL rfl (WF.of ?_) ?_; first|rfl|skip)|(simp (disch:=omega) only [go_sem, simprocAttr, Blk.men, Blk.keysIn])|exact qM rfl rfl rfl|(refine qG rfl ?_)|(refine qH rfl ?_)|(refine qI rfl ?_ ?_<;>intro hc<;>(try simp only [go_sem] at hc))|(refine qJ ?_ ?_<;>intro hc<;>(try simp only [hc])<;>(try simp only [go_sem] at hc)))
def moistI (ef : Int → Int → Int) (s : Sto) (m : Mak) : Int := (sumI (moistF ef) s m).tdiv (1000 * wholeI s m)
theorem tdiv_b {a b : Int} {A : Int} (ha : 0 ≤ a ∧ a ≤ A) (hb : 0 ≤ b) : 0 ≤ a.tdiv b ∧ a.tdiv b ≤ A := by
 rw [Int.tdiv_eq_ediv_of_nonneg ha.1]
 exact ⟨Int.ediv_nonneg ha.1 hb, Int.le_trans (Int.ediv_le_self _ ha.1) ha.2⟩
theorem bdMoist (s : Sto) (m : Mak) (hs : s.ok) (h : m.ok s) {g : FuncId} {ef : Int → Int → Int} (he : EndOk g ef) : DCall Try.prog 87 [dShe s m (wholeI s m), .c (.fn (.func g) [] [])] [] (dI (moistI ef s m)) [] := by
 have hf : ∀ p ∈ s.papers, 0 ≤ moistF ef p ∧ moistF ef p ≤ 1000000000 := fun p hp => moistF_b he (hs.papers p hp)
 have hsum := bdSum s m hs h 127 [.ro false [.fn (.func g) [] []] 0] rfl (moistF ef) hf (fun p hp => bdMoist1 false he p (hs.papers p hp))
 have hb := (sumI_b hs h (moistF ef) hf).2
 have hw := wholeI_b hs h
 have h0 : (1000 * wholeI s m = 0) = False := eq_false (by omega)
 have hq := tdiv_b (b := 1000 * wholeI s m) hb (by omega)
 unfold moistI
 refine DCall.of Try.func87 sf87 hb87 (Nat.le_of_ble_eq_true rfl) (okRes_nil fun _ => rfl) ?_; simp only [s87, idxs, Nat.reduceAdd]
 refine DW.seq (DW.reg ?_)
 simp (disch:=omega) only [go_sem,simprocAttr,Blk.men,Blk.keysIn]
 (refine DW.ent (Ent.rel 3 rfl) ?_; simp (disch:=omega) only [go_sem,simprocAttr,Blk.men,Blk.keysIn])
 repeat' (first|(with_reducible first|apply qA|apply qB|apply qC|apply qD|apply qE|apply qF)|(refine qL rfl (WF.of ?_) ?_; first|rfl|skip)|(simp (disch:=omega) only [go_sem, simprocAttr, Blk.men, Blk.keysIn, h0])|exact qM rfl rfl rfl|(refine qG rfl ?_)|(refine qK (hsum) (by decide) ?_)|(refine qH rfl ?_)|(refine qI rfl ?_ ?_<;>intro hc<;>(try simp only [go_sem] at hc))|(refine qJ ?_ ?_<;>intro hc<;>(try simp only [hc])<;>(try simp only [go_sem] at hc)))
def calP (ef : Int → Int → Int) (s : Sto) (m : Mak) : Nat → Int
 | 0 => 0
 | i + 1 => calP ef s m i + (if i % 2 = 0 then ef (papAt s (m.papers[i]?.getD 0)).tl (papAt s (m.papers[i]?.getD 0)).th else 0)
def calH (ef : Int → Int → Int) (s : Sto) (m : Mak) : Nat → Int
 | 0 => 0
 | i + 1 => calH ef s m i + ef (fluAt s (m.flutes[i]?.getD 0)).hl (fluAt s (m.flutes[i]?.getD 0)).hh
def calI (ef : Int → Int → Int) (s : Sto) (m : Mak) : Int := calP ef s m m.papers.length + calH ef s m m.flutes.length
theorem calP_b {g : FuncId} {ef : Int → Int → Int} (he : EndOk g ef) {s : Sto} {m : Mak} (hs : s.ok) (h : m.ok s) : ∀ i, i ≤ m.papers.length → 0 ≤ calP ef s m i ∧ calP ef s m i ≤ 1000 * (i : Int)
 | 0, _ => by simp [calP]
 | i + 1, hi => by
  have ih := calP_b he hs h i (by omega)
  obtain ⟨v, hv⟩ := getE (l := m.papers) (i := i) (by omega)
  have ho := (papAt_ok hs (h.papers v (List.mem_of_getElem? hv))).thick
  have hm := he.mem _ _ ho.2.1
  rw [calP, hv, Option.getD_some]
  split <;> omega
theorem calH_b {g : FuncId} {ef : Int → Int → Int} (he : EndOk g ef) {s : Sto} {m : Mak} (hs : s.ok) (h : m.ok s) : ∀ i, i ≤ m.flutes.length → 0 ≤ calH ef s m i ∧ calH ef s m i ≤ 10000 * (i : Int)
 | 0, _ => by simp [calH]
 | i + 1, hi => by
  have ih := calH_b he hs h i (by omega)
  obtain ⟨v, hv⟩ := getE (l := m.flutes) (i := i) (by omega)
  have ho := (fluAt_ok hs (h.flutes v (List.mem_of_getElem? hv))).high
  have hm := he.mem _ _ ho.2.1
  rw [calH, hv, Option.getD_some]
  omega
end Go.Dw.Seat
end
section
set_option linter.unusedSimpArgs false
set_option maxRecDepth 100000
namespace Go.Dw.Seat
open Go Go.Dw Go.Proofs Go.IntWalk
theorem bdCaliper (s : Sto) (m : Mak) (hs : s.ok) (h : m.ok s) {g : FuncId} {ef : Int → Int → Int} (he : EndOk g ef) : DCall Try.prog 88 [dShe s m (wholeI s m), .c (.fn (.func g) [] [])] [] (dI (calI ef s m)) [] := by
 have hf := h.nf
 have hn := h.np
 have hl1 : (nL m.papers).length = m.papers.length := nL_length _
 have hl2 : (nL m.flutes).length = m.flutes.length := nL_length _
 refine DCall.of Try.func88 sf88 hb88 (Nat.le_of_ble_eq_true rfl) (okRes_nil fun _ => rfl) ?_; simp only [s88, idxs, Nat.reduceAdd]
 repeat' (first|(with_reducible first|apply qA|apply qB|apply qC|apply qD|apply qE|apply qF)|(simp (disch:=omega) only [go_sem, simprocAttr, Blk.men, Blk.keysIn, hl1])|exact qM rfl rfl rfl|(refine qG rfl ?_)|(refine qH rfl ?_)|(refine qI rfl ?_ ?_<;>intro hc<;>(try simp only [go_sem] at hc))|(refine qJ ?_ ?_<;>intro hc<;>(try simp only [hc])<;>(try simp only [go_sem] at hc)))
 refine DW.loop (ι := { i : Nat // i ≤ m.papers.length }) (fun i => ⟨54, [(13, dI i.1), (12, dI m.papers.length), (11, .c (.sl false 1 (rows eI (nL m.papers)))), (4, dI (calP ef s m i.1)), (2, .box 2 0), (1, .c (.fn (.func g) [] []))], [(2, .box [.c (.sl false 1 (rows eI (nL m.papers))), .c (.sl false 1 (rows eI (nL m.flutes))), .c (.sl false 8 (rows eP s.papers)), .c (.sl false 4 (rows eF s.flutes)), dI (wholeI s m)])]⟩) (fun i => m.papers.length - i.1) ⟨0, Nat.zero_le _⟩ ?_ ?_
 ·refine Ent.to ?_ ?_ <;> simp (disch:=omega) only [qR,qS,qTw,qU,get,Nat.reduceEqDiff,↓reduceIte,qV,qW,qX,qY,qZ,and_self,dI,i64_in,and_true,true_and,rA,rB,rC,rD,calP]
 rintro ⟨i, hi⟩
 rcases Nat.lt_or_ge i m.papers.length with hlt | hge
 ·have hd : decide ((i : Int) < (m.papers.length : Int)) = true := by rw [decide_eq_true_eq]; omega
  obtain ⟨v, hv⟩ := getE (l := m.papers) (i := i) hlt
  have hv' := nL_at hv
  have hvs := h.papers v (List.mem_of_getElem? hv)
  have hp := papAt_get hvs
  have ho := (papAt_ok hs hvs).thick
  have hcb := calP_b he hs h i hi
  have hnx : calP ef s m (i + 1) = calP ef s m i + (if i % 2 = 0 then ef (papAt s v).tl (papAt s v).th else 0) := by rw [calP, hv, Option.getD_some]
  have hm := he.mem _ _ ho.2.1
  have hcall := he.call (papAt s v).tl (papAt s v).th
  generalize papAt s v = p at *
  have hrem : (i : Int).tmod 2 = ((i % 2 : Nat) : Int) := by rw [Int.tmod_eq_emod_of_nonneg (by omega)]; omega
  rcases (by omega : i % 2 = 0 ∨ i % 2 = 1) with hod | hod
  ·rw [hod] at hrem
   rw [if_pos hod] at hnx
   repeat' (first|(with_reducible first|apply qA|apply qB|apply qC|apply qD|apply qE|apply qF)|(simp (disch:=omega) only [go_sem, simprocAttr, Blk.men, Blk.keysIn, hd, hv', hp, hrem, rF, rG])|exact qM rfl rfl rfl|(refine qG rfl ?_)|(refine qH rfl ?_)|(refine qI rfl ?_ ?_<;>intro hc<;>(try simp only [go_sem] at hc))|(refine qJ ?_ ?_<;>intro hc<;>(try simp only [hc])<;>(try simp only [go_sem] at hc)))
   refine call_c hcall (by decide) ?_
   simp (disch:=omega) only [go_sem,simprocAttr,Blk.men,Blk.keysIn]
   repeat' (first|(with_reducible first|apply qA|apply qB|apply qC|apply qD|apply qE|apply qF)|(simp (disch:=omega) only [go_sem, simprocAttr, Blk.men, Blk.keysIn])|exact qM rfl rfl rfl|(refine qG rfl ?_)|(refine qH rfl ?_)|(refine qI rfl ?_ ?_<;>intro hc<;>(try simp only [go_sem] at hc))|(refine qJ ?_ ?_<;>intro hc<;>(try simp only [hc])<;>(try simp only [go_sem] at hc)))
   refine ⟨⟨i + 1, hlt⟩, ?_, Ent.to ?_ ?_⟩ <;> first | (show _ < _; (try simp only); omega) | (simp (disch:=omega) only [qR,qS,qTw,qU,get,Nat.reduceEqDiff,↓reduceIte,qV,qW,qX,qY,qZ,and_self,dI,i64_in,and_true,true_and,rA,rB,rC,rD, hnx])
  ·rw [hod] at hrem
   rw [if_neg (by omega), Int.add_zero] at hnx
   repeat' (first|(with_reducible first|apply qA|apply qB|apply qC|apply qD|apply qE|apply qF)|(simp (disch:=omega) only [go_sem, simprocAttr, Blk.men, Blk.keysIn, hd, hv', hp, hrem, rF, rG])|exact qM rfl rfl rfl|(refine qG rfl ?_)|(refine qH rfl ?_)|(refine qI rfl ?_ ?_<;>intro hc<;>(try simp only [go_sem] at hc))|(refine qJ ?_ ?_<;>intro hc<;>(try simp only [hc])<;>(try simp only [go_sem] at hc)))
   refine ⟨⟨i + 1, hlt⟩, ?_, Ent.to ?_ ?_⟩ <;> first | (show _ < _; (try simp only); omega) | (simp (disch:=omega) only [qR,qS,qTw,qU,get,Nat.reduceEqDiff,↓reduceIte,qV,qW,qX,qY,qZ,and_self,dI,i64_in,and_true,true_and,rA,rB,rC,rD, hnx])
 ·obtain rfl : i = m.papers.length := by omega
  have hd : decide ((m.papers.length : Int) < (m.papers.length : Int)) = false := by rw [decide_eq_false_iff_not]; omega
  have hcb := calP_b he hs h m.papers.length (Nat.le_refl _)
  unfold calI
  generalize calP ef s m m.papers.length = cp at *
  repeat' (first|(with_reducible first|apply qA|apply qB|apply qC|apply qD|apply qE|apply qF)|(simp (disch:=omega) only [go_sem, simprocAttr, Blk.men, Blk.keysIn, hd, hl2])|exact qM rfl rfl rfl|(refine qG rfl ?_)|(refine qH rfl ?_)|(refine qI rfl ?_ ?_<;>intro hc<;>(try simp only [go_sem] at hc))|(refine qJ ?_ ?_<;>intro hc<;>(try simp only [hc])<;>(try simp only [go_sem] at hc)))
  refine DW.loop (ι := { i : Nat // i ≤ m.flutes.length }) (fun i => ⟨54, [(37, dI i.1), (36, dI m.flutes.length), (35, .c (.sl false 1 (rows eI (nL m.flutes)))), (4, dI (cp + calH ef s m i.1)), (2, .box 2 0), (1, .c (.fn (.func g) [] []))], [(2, .box [.c (.sl false 1 (rows eI (nL m.papers))), .c (.sl false 1 (rows eI (nL m.flutes))), .c (.sl false 8 (rows eP s.papers)), .c (.sl false 4 (rows eF s.flutes)), dI (wholeI s m)])]⟩) (fun i => m.flutes.length - i.1) ⟨0, Nat.zero_le _⟩ ?_ ?_
  ·refine Ent.to ?_ ?_ <;> simp (disch:=omega) only [qR,qS,qTw,qU,get,Nat.reduceEqDiff,↓reduceIte,qV,qW,qX,qY,qZ,and_self,dI,i64_in,and_true,true_and,rA,rB,rC,rD,calH,Int.add_zero]
  rintro ⟨i, hi⟩
  rcases Nat.lt_or_ge i m.flutes.length with hlt | hge
  ·have hd : decide ((i : Int) < (m.flutes.length : Int)) = true := by rw [decide_eq_true_eq]; omega
   obtain ⟨v, hv⟩ := getE (l := m.flutes) (i := i) hlt
   have hv' := nL_at hv
   have hvs := h.flutes v (List.mem_of_getElem? hv)
   have hp := fluAt_get hvs
   have ho := (fluAt_ok hs hvs).high
   have hhb := calH_b he hs h i hi
   have hnx : cp + calH ef s m (i + 1) = cp + calH ef s m i + ef (fluAt s v).hl (fluAt s v).hh := by rw [calH, hv, Option.getD_some]; omega
   have hm := he.mem _ _ ho.2.1
   have hcall := he.call (fluAt s v).hl (fluAt s v).hh
   generalize fluAt s v = p at *
   repeat' (first|(with_reducible first|apply qA|apply qB|apply qC|apply qD|apply qE|apply qF)|(simp (disch:=omega) only [go_sem, simprocAttr, Blk.men, Blk.keysIn, hd, hv', hp, rF, rG])|exact qM rfl rfl rfl|(refine qG rfl ?_)|(refine qH rfl ?_)|(refine qI rfl ?_ ?_<;>intro hc<;>(try simp only [go_sem] at hc))|(refine qJ ?_ ?_<;>intro hc<;>(try simp only [hc])<;>(try simp only [go_sem] at hc)))
   refine call_c hcall (by decide) ?_
   simp (disch:=omega) only [go_sem,simprocAttr,Blk.men,Blk.keysIn]
   repeat' (first|(with_reducible first|apply qA|apply qB|apply qC|apply qD|apply qE|apply qF)|(simp (disch:=omega) only [go_sem, simprocAttr, Blk.men, Blk.keysIn])|exact qM rfl rfl rfl|(refine qG rfl ?_)|(refine qH rfl ?_)|(refine qI rfl ?_ ?_<;>intro hc<;>(try simp only [go_sem] at hc))|(refine qJ ?_ ?_<;>intro hc<;>(try simp only [hc])<;>(try simp only [go_sem] at hc)))
   refine ⟨⟨i + 1, hlt⟩, ?_, Ent.to ?_ ?_⟩ <;> first | (show _ < _; (try simp only); omega) | (simp (disch:=omega) only [qR,qS,qTw,qU,get,Nat.reduceEqDiff,↓reduceIte,qV,qW,qX,qY,qZ,and_self,dI,i64_in,and_true,true_and,rA,rB,rC,rD, hnx])
  ·obtain rfl : i = m.flutes.length := by omega
   have hd : decide ((m.flutes.length : Int) < (m.flutes.length : Int)) = false := by rw [decide_eq_false_iff_not]; omega
   repeat' (first|(with_reducible first|apply qA|apply qB|apply qC|apply qD|apply qE|apply qF)|(simp (disch:=omega) only [go_sem, simprocAttr, Blk.men, Blk.keysIn, hd])|exact qM rfl rfl rfl|(refine qG rfl ?_)|(refine qH rfl ?_)|(refine qI rfl ?_ ?_<;>intro hc<;>(try simp only [go_sem] at hc))|(refine qJ ?_ ?_<;>intro hc<;>(try simp only [hc])<;>(try simp only [go_sem] at hc)))
def loE (lo _ : Int) : Int := lo
def hiE (_ hi : Int) : Int := hi
theorem loE_ok : EndOk 85 loE := ⟨bdLow, fun _ _ h => ⟨Int.le_refl _, h⟩⟩
theorem hiE_ok : EndOk 86 hiE := ⟨bdHigh, fun _ _ h => ⟨h, Int.le_refl _⟩⟩
theorem bdMeas (s : Sto) (m : Mak) (hs : s.ok) (h : m.ok s) : DCall Try.prog 46 [dShe s m (wholeI s m)] [] (.tup [.agg [dI (moistI loE s m), dI (moistI hiE s m)], .agg [dI (calI loE s m), dI (calI hiE s m)]]) [] := by
 have h1 := bdMoist s m hs h loE_ok
 have h2 := bdMoist s m hs h hiE_ok
 have h3 := bdCaliper s m hs h loE_ok
 have h4 := bdCaliper s m hs h hiE_ok
 refine DCall.of Try.func46 sf46 hb46 (Nat.le_of_ble_eq_true rfl) (okRes_nil fun _ => rfl) ?_; simp only [s46, o46_0, o46_1, o46_2, o46_3, o46_4, o46_5, o46_6, o46_7, o46_8, o46_9, o46_10, o46_11, o46_12, o46_13, o46_14, o46_15, idxs, Nat.reduceAdd]
 repeat' (first|(with_reducible first|apply qA|apply qB|apply qC|apply qD|apply qE|apply qF)|(refine DW.ord rfl (WF.of (by first|rfl|simp (disch:=omega) only [go_sem, simprocAttr, Blk.men, Blk.keysIn])) ?_ ?_ ?_; rotate_left)|rfl|(with_reducible refine And.intro ?_ ?_)|(simp (disch:=omega) only [go_sem, simprocAttr, Blk.men, Blk.keysIn])|exact qM rfl rfl rfl|(refine qG rfl ?_)|(refine qK (h1) (by decide) ?_)|(refine qK (h2) (by decide) ?_)|(refine qK (h3) (by decide) ?_)|(refine qK (h4) (by decide) ?_)|(refine qH rfl ?_)|(refine qI rfl ?_ ?_<;>intro hc<;>(try simp only [go_sem] at hc))|(refine qJ ?_ ?_<;>intro hc<;>(try simp only [hc])<;>(try simp only [go_sem] at hc)))
theorem bdMeasure (s : Sto) (m : Mak) (hs : s.ok) (h : m.ok s) : DCall Try.prog 16 [dSto s, dMak m] [] (.tup [.agg [dI (moistI loE s m), dI (moistI hiE s m)], .agg [dI (calI loE s m), dI (calI hiE s m)], dI 0]) [] := by
 have h1 := bdNew s m hs h
 have h2 := bdMeas s m hs h
 refine DCall.of Try.func16 sf16 hb16 (Nat.le_of_ble_eq_true rfl) (okRes_nil fun _ => rfl) ?_; simp only [s16, o16_0, o16_1, o16_2, o16_3, o16_4, o16_5, o16_6, o16_7, o16_8, o16_9, o16_10, idxs, Nat.reduceAdd]
 repeat' (first|(with_reducible first|apply qA|apply qB|apply qC|apply qD|apply qE|apply qF)|(refine DW.ord rfl (WF.of (by first|rfl|simp (disch:=omega) only [go_sem, simprocAttr, Blk.men, Blk.keysIn])) ?_ ?_ ?_; rotate_left)|rfl|(with_reducible refine And.intro ?_ ?_)|(simp (disch:=omega) only [go_sem, simprocAttr, Blk.men, Blk.keysIn])|exact qM rfl rfl rfl|(refine qG rfl ?_)|(refine qK (h1) (by decide) ?_)|(refine qK (h2) (by decide) ?_)|(refine qH rfl ?_)|(refine qI rfl ?_ ?_<;>intro hc<;>(try simp only [go_sem] at hc))|(refine qJ ?_ ?_<;>intro hc<;>(try simp only [hc])<;>(try simp only [go_sem] at hc)))
def strongI (s : Sto) (m : Mak) : Int := (sumI Pap.strong s m).tdiv (wholeI s m)
theorem weight_b {s : Sto} (hs : s.ok) : ∀ p ∈ s.papers, 0 ≤ p.weight ∧ p.weight ≤ 1000000000 := fun p hp => by have := (hs.papers p hp).weight; omega
end Go.Dw.Seat
end
section
set_option linter.unusedSimpArgs false
set_option maxRecDepth 100000
namespace Go.Dw.Seat
open Go Go.Dw Go.Proofs Go.IntWalk
structure Lod where
 sl : Int
 sh : Int
 wl : Int
 wh : Int
def eLd (b : Lod) : List C := [.v (.int .i64 b.sl), .v (.int .i64 b.sh), .v (.int .i64 b.wl), .v (.int .i64 b.wh)]
def eK (t : Int × Int) : List C := [.v (.int .i64 t.1), .v (.int .i64 t.2)]
attribute [go_sem] eLd eK
structure Lod.ok (b : Lod) : Prop where
 strong : 0 ≤ b.sl ∧ b.sl ≤ b.sh ∧ b.sh ≤ 20000000
 weight : 0 ≤ b.wl ∧ b.wl ≤ b.wh ∧ b.wh ≤ 100000
def exS : Sto := ⟨[⟨1, 200, 250, 270, 60, 80, 400000, 300⟩, ⟨2, 120, 180, 190, 70, 90, 300000, 200⟩], [⟨8000, 12000, 3600, 3700⟩]⟩
def exM : Mak := ⟨[0, 1, 0], [0]⟩
theorem exS_ok : exS.ok := by
 refine ⟨by decide, by decide, ?_, ?_⟩
 ·intro p hp
  simp only [exS, List.mem_cons, List.not_mem_nil, or_false] at hp
  rcases hp with rfl | rfl <;> exact ⟨by decide, by decide, by decide, by decide, by decide, by decide⟩
 ·intro p hp
  simp only [exS, List.mem_cons, List.not_mem_nil, or_false] at hp
  rcases hp with rfl
  exact ⟨by decide, by decide, by decide⟩
theorem exM_ok : exM.ok exS := by
 refine ⟨by decide, by decide, by decide, by decide, ?_⟩
 intro i n p h1 h2
 match i, h1 with
 | 0, h1 => cases h1; cases h2; rfl
 | 1, h1 => cases h1; cases h2; rfl
 | 2, h1 => cases h1; cases h2; rfl
 | i + 3, h1 => cases h1
theorem exB : moistI loE exS exM = 616 ∧ moistI hiE exS exM = 628 ∧ calI loE exS exM = 4100 ∧ calI hiE exS exM = 4240 ∧ strongI exS exM = 900 := ⟨by kernel_rfl, by kernel_rfl, by kernel_rfl, by kernel_rfl, by kernel_rfl⟩
end Go.Dw.Seat
end
section
set_option linter.unusedSimpArgs false
set_option maxRecDepth 100000
namespace Go.Dw.Seat
open Go Go.Dw Go.Proofs Go.IntWalk
structure V6 where
 v0 : Nat
 v1 : Nat
 v2 : Nat
 v3 : Nat
 v4 : Nat
 v5 : Nat
structure V6.ok (v : V6) : Prop where
 v0 : v.v0 < 256
 v1 : v.v1 < 256
 v2 : v.v2 < 256
 v3 : v.v3 < 256
 v4 : v.v4 < 256
 v5 : v.v5 < 256
structure V3 where
 v0 : Nat
 v1 : Nat
 v2 : Nat
structure V3.ok (v : V3) : Prop where
 v0 : v.v0 < 256
 v1 : v.v1 < 256
 v2 : v.v2 < 256
def e6 (v : V6) : List C := [.v (.int .u8 v.v0), .v (.int .u8 v.v1), .v (.int .u8 v.v2), .v (.int .u8 v.v3), .v (.int .u8 v.v4), .v (.int .u8 v.v5)]
def e3 (v : V3) : List C := [.v (.int .u8 v.v0), .v (.int .u8 v.v1), .v (.int .u8 v.v2)]
attribute [go_sem] e6 e3
structure War where
 papers : List V6
 flutes : List V3
 by' : List Nat
structure War.ok (x : War) : Prop where
 papers : ∀ v ∈ x.papers, v.ok
 flutes : ∀ v ∈ x.flutes, v.ok
 by' : ∀ v ∈ x.by', v < 256
abbrev dWar (b : Bool) (x : War) : D := .agg [.c (.sl b 6 (rows e6 x.papers)), .c (.sl b 3 (rows e3 x.flutes)), .c (.sl b 1 (rows eY x.by'))]
attribute [go_sem] dWar
theorem t90 (m : Nat) : (m : Int).tmod 90 = ((m % 90 : Nat) : Int) := tmodN m 90
theorem t2 (m : Nat) : (m : Int).tmod 2 = ((m % 2 : Nat) : Int) := tmodN m 2
theorem snocP (l : List Pap) (a b c d e f g h : Int) : rowC (rows eP l) ++ [[D.c (.v (.int .i64 a)), D.c (.v (.int .i64 b)), D.c (.v (.int .i64 c)), D.c (.v (.int .i64 d)), D.c (.v (.int .i64 e)), D.c (.v (.int .i64 f)), D.c (.v (.int .i64 g)), D.c (.v (.int .i64 h))]] = rowC (rows eP (l ++ [⟨a, b, c, d, e, f, g, h⟩])) := by simp [rowC, rows, eP]
theorem snocF (l : List Flu) (a b c d : Int) : rowC (rows eF l) ++ [[D.c (.v (.int .i64 a)), D.c (.v (.int .i64 b)), D.c (.v (.int .i64 c)), D.c (.v (.int .i64 d))]] = rowC (rows eF (l ++ [⟨a, b, c, d⟩])) := by simp [rowC, rows, eF]
attribute [go_sem] snocP snocF
end Go.Dw.Seat
end
section
set_option linter.unusedSimpArgs false
set_option maxRecDepth 100000
namespace Go.Dw.Seat
open Go Go.Dw Go.Proofs Go.IntWalk
abbrev IMap := List (Nat × Int)
def iFind : IMap → Nat → Option Int
 | [], _ => none
 | p :: t, s => if s = p.1 then some p.2 else iFind t s
def iG (m : IMap) (s : Nat) : Int := (iFind m s).getD 0
def iUpd : IMap → Nat → Int → IMap
 | [], s, b => [(s, b)]
 | p :: t, s, b => if s = p.1 then (s, b) :: t else p :: iUpd t s b
def iMk (m : IMap) : List Value := m.map fun p => .int .i64 p.1
def iMd (m : IMap) : List D := m.map fun p => .c (.v (.int .i64 p.2))
theorem iK_ok (s : Nat) (m : IMap) : keysOK (.int .i64) (.int .i64 s) (iMk m) = true := by
 simp only [keysOK, KK.is, decide_true, Bool.true_and, iMk, List.all_map, List.all_eq_true]
 intro p _
 simp [KK.is]
theorem findL_iK (s : Nat) : ∀ (m : IMap) (n : Nat), (match iFind m s with
  | some b => ∃ i, findL (.int .i64 s) (iMk m) n = some (n + i) ∧ (iMd m)[i]? = some (dI b) ∧ ∀ c : Int, (iMk m).set i (.int .i64 s) = iMk (iUpd m s c) ∧ (iMd m).set i (dI c) = iMd (iUpd m s c)
  | none => findL (.int .i64 s) (iMk m) n = none ∧ ∀ c : Int, iMk m ++ [.int .i64 s] = iMk (iUpd m s c) ∧ iMd m ++ [dI c] = iMd (iUpd m s c))
 | [], n => ⟨rfl, fun c => ⟨rfl, rfl⟩⟩
 | p :: t, n => by
  have ih := findL_iK s t (n + 1)
  simp only [iFind, iUpd]
  by_cases h : s = p.1
  ·rw [if_pos h]
   have hk : keyEq (.int .i64 (s : Int)) (.int .i64 (p.1 : Int)) = true := by simp [keyEq, h]
   refine ⟨0, ?_, rfl, fun c => ?_⟩
   ·simp only [iMk, List.map_cons, findL, hk, if_true]; rfl
   ·simp only [if_pos h]
    exact ⟨rfl, rfl⟩
  ·rw [if_neg h]
   have hk : keyEq (.int .i64 (s : Int)) (.int .i64 (p.1 : Int)) = false := by simp [keyEq]; omega
   cases hf : iFind t s with
   | some b =>
    rw [hf] at ih
    obtain ⟨i, h1, h2, h3⟩ := ih
    refine ⟨i + 1, ?_, h2, fun c => ?_⟩
    ·have : n + (i + 1) = n + 1 + i := by omega
     rw [this]
     simpa only [iMk, List.map_cons, findL, hk, Bool.false_eq_true, if_false] using h1
    ·obtain ⟨h4, h5⟩ := h3 c
     simp only [if_neg h]
     exact ⟨by simpa [iMk] using h4, by simpa [iMd] using h5⟩
   | none =>
    rw [hf] at ih
    obtain ⟨h1, h3⟩ := ih
    refine ⟨by simpa only [iMk, List.map_cons, findL, hk, Bool.false_eq_true, if_false] using h1, fun c => ?_⟩
    obtain ⟨h4, h5⟩ := h3 c
    simp only [if_neg h]
    exact ⟨by simpa [iMk] using h4, by simpa [iMd] using h5⟩
theorem look_iK (s : Nat) (m : IMap) : lookIn (.c (.v (.int .i64 0))) (iMk m) (iMd m) (.int .i64 s) false = some (.c (.v (.int .i64 (iG m s)))) := by
 have h := findL_iK s m 0
 unfold lookIn iG
 cases hf : iFind m s with
 | some b =>
  rw [hf] at h
  obtain ⟨i, h1, h2, _⟩ := h
  rw [Nat.zero_add] at h1
  simp only [h1, h2, commaD, Bool.false_eq_true, if_false]; rfl
 | none =>
  rw [hf] at h
  simp only [h.1, commaD, Bool.false_eq_true, if_false]; rfl
theorem upd_iK (s : Nat) (m : IMap) (c : Int) : updK (iMk m) (iMd m) (.int .i64 s) (.c (.v (.int .i64 c))) = (iMk (iUpd m s c), iMd (iUpd m s c)) := by
 have h := findL_iK s m 0
 unfold updK
 cases hf : iFind m s with
 | some b =>
  rw [hf] at h
  obtain ⟨i, h1, h2, h3⟩ := h
  rw [Nat.zero_add] at h1
  simp only [h1, (h3 c).1]
  exact congrArg _ (h3 c).2
 | none =>
  rw [hf] at h
  simp only [h.1, (h.2 c).1]
  exact congrArg _ (h.2 c).2
theorem iFind_upd {s t : Nat} {c : Int} : ∀ (m : IMap), iFind (iUpd m s c) t = if t = s then some c else iFind m t
 | [] => by simp only [iUpd, iFind]
 | p :: m => by
  simp only [iUpd]
  by_cases h : s = p.1
  ·rw [if_pos h]
   simp only [iFind]
   by_cases h2 : t = s
   ·simp [h2]
   ·rw [if_neg h2, if_neg h2, if_neg (by omega)]
  ·rw [if_neg h]
   simp only [iFind, iFind_upd m]
   by_cases h2 : t = p.1
   ·rw [if_pos h2, if_pos h2, if_neg (by omega)]
   ·rw [if_neg h2, if_neg h2]
theorem iG_upd (s t : Nat) (c : Int) (m : IMap) : iG (iUpd m s c) t = if t = s then c else iG m t := by
 unfold iG
 rw [iFind_upd]
 split <;> rfl
theorem iD_nb (m : IMap) : D.nbs (iMd m) = true := by
 induction m with
 | nil => rfl
 | cons p m ih => simp only [iMd, List.map_cons, D.nbs, Bool.and_eq_true]; exact ⟨rfl, ih⟩
theorem iD_men (k : Nat) (m : IMap) : D.mens k (iMd m) = false := by
 induction m with
 | nil => rfl
 | cons p m ih => simpa [iMd, D.mens, D.men] using ih
theorem iD_keys (bx : List (Nat × Blk)) (m : IMap) : D.keysIns bx (iMd m) = true := by
 induction m with
 | nil => rfl
 | cons p m ih => simpa [iMd, D.keysIns, D.keysIn] using ih
theorem killB_iD [Lays] (k : Nat) (ks : List Value) (m : IMap) : killB k (.map ks (iMd m)) = .map ks (iMd m) := by
 show Blk.map ks ((iMd m).map (killD k)) = _
 rw [map_killD_of (iD_men k m)]
theorem rels_iD (k : Nat) (x : Blk) : ∀ m : IMap, relDs k x (iMd m) = iMd m
 | [] => rfl
 | p :: m => by
  have := rels_iD k x m
  simpa [iMd, relDs, relD] using this
theorem relB_iD [Lays] (k : Nat) (x : Blk) (ks : List Value) (m : IMap) : relB k x (.map ks (iMd m)) = .map ks (iMd m) := by
 show Blk.map ks (relDs k x (iMd m)) = _
 rw [rels_iD]
attribute [go_sem] killB_iD relB_iD iK_ok look_iK upd_iK iD_men iD_keys
def useM : IMap → List (Nat × Int) → IMap
 | m, [] => m
 | m, e :: l => useM (iUpd m e.1 (iG m e.1 + e.2)) l
def useN (l : List (Nat × Int)) (k : Nat) (n : Int) : Int := l.foldl (fun n e => if e.1 = k then n + e.2 else n) n
theorem useM_get (k : Nat) : ∀ (l : List (Nat × Int)) (m : IMap), iG (useM m l) k = useN l k (iG m k)
 | [], _ => rfl
 | e :: l, m => by
  rw [useM, useM_get k l, iG_upd]
  have e2 : useN (e :: l) k (iG m k) = useN l k (if e.1 = k then iG m k + e.2 else iG m k) := rfl
  rw [e2]
  by_cases h : k = e.1
  ·rw [if_pos h, if_pos h.symm, h]
  ·rw [if_neg h, if_neg (fun e => h e.symm)]
theorem useN_b (k : Nat) : ∀ (l : List (Nat × Int)) (n : Int), (∀ e ∈ l, 0 ≤ e.2 ∧ e.2 ≤ 200000000) → n ≤ useN l k n ∧ useN l k n ≤ n + 200000000 * (l.length : Int)
 | [], n, _ => ⟨Int.le_refl _, by simp [useN]⟩
 | e :: l, n, h => by
  have he := h e (by simp)
  have ih := useN_b k l (if e.1 = k then n + e.2 else n) (fun x hx => h x (by simp [hx]))
  have e2 : useN (e :: l) k n = useN l k (if e.1 = k then n + e.2 else n) := rfl
  rw [e2, List.length_cons, Int.natCast_add, Int.natCast_one, Int.mul_add]
  split at ih <;> rename_i hc
  ·rw [if_pos hc]; omega
  ·rw [if_neg hc]; omega
end Go.Dw.Seat
end
section
set_option linter.unusedSimpArgs false
set_option maxRecDepth 100000
namespace Go.Dw.Seat
open Go Go.Dw Go.Proofs Go.IntWalk
def eSp (s : Int × Int) : List C := [.v (.int .i64 s.1), .v (.int .i64 s.2)]
attribute [go_sem] eSp
def spM (s : Int × Int) : Prop := 0 ≤ s.1 ∧ s.1 ≤ s.2 ∧ s.2 ≤ 300
structure DSt where
 lo : Int
 hi : Int
 h : Int
structure DSt.ok (s : DSt) : Prop where
 r : spM (s.lo, s.hi)
 h : 0 ≤ s.h ∧ s.h ≤ 500
def eDs (s : DSt) : List C := [.v (.int .i64 s.lo), .v (.int .i64 s.hi), .v (.int .i64 s.h)]
attribute [go_sem] eDs
end Go.Dw.Seat
end
section
set_option linter.unusedSimpArgs false
set_option maxRecDepth 100000
namespace Go.Dw.Seat
open Go Go.Dw Go.Proofs Go.IntWalk
theorem dm_bm_pbox (k l : Nat) (ds : List D) : Blk.men k (.pbox l ds) = D.mens k ds := rfl
theorem dm_bk_pbox (bx : List (Nat × Blk)) (l : Nat) (ds : List D) : Blk.keysIn bx (.pbox l ds) = D.keysIns bx ds := rfl
theorem dm_killB_pbox (k l : Nat) (ds : List D) : killB k (.pbox l ds) = .pbox l (ds.map (killD k)) := rfl
attribute [go_sem] dm_bm_pbox dm_bk_pbox dm_killB_pbox
end Go.Dw.Seat
end
section
set_option linter.unusedSimpArgs false
set_option maxRecDepth 100000
namespace Go.Dw.Seat
open Go Go.Dw Go.Proofs Go.IntWalk
theorem bdRatio (n d : Nat) (hd : 0 < d) (hn : n ≤ 4000000000000000000) (hdd : d ≤ 4000000000000000000) : DCall Try.prog 48 [dI n, dI d] [] (.agg [dI ((n / Nat.gcd n d : Nat) : Int), dI ((d / Nat.gcd n d : Nat) : Int)]) [] := by
 have hg : 0 < Nat.gcd n d := Nat.gcd_pos_of_pos_right n hd
 obtain ⟨G, hG⟩ : ∃ G, Nat.gcd n d = G := ⟨_, rfl⟩
 rw [hG] at hg ⊢
 have hq1 : n / G ≤ n := Nat.div_le_self _ _
 have hq2 : d / G ≤ d := Nat.div_le_self _ _
 refine DCall.of Try.func48 sf48 hb48 (Nat.le_of_ble_eq_true rfl) (okRes_nil fun _ => rfl) ?_; simp only [s48, idxs, Nat.reduceAdd]
 repeat' (first|(with_reducible first|apply qA|apply qB|apply qC|apply qD|apply qE|apply qF)|(refine qL rfl (WF.of ?_) ?_; first|rfl|skip)|(simp (disch:=omega) only [go_sem, simprocAttr, Blk.men, Blk.keysIn])|exact qM rfl rfl rfl|(refine qG rfl ?_)|(refine qH rfl ?_)|(refine qI rfl ?_ ?_<;>intro hc<;>(try simp only [go_sem] at hc))|(refine qJ ?_ ?_<;>intro hc<;>(try simp only [hc])<;>(try simp only [go_sem] at hc)))
 refine DW.loop (ι := { y : Nat × Nat // Nat.gcd y.1 y.2 = G ∧ y.1 ≤ 4000000000000000000 ∧ y.2 ≤ 4000000000000000000 }) (fun y => ⟨24, [(6, dI y.1.2), (5, dI y.1.1), (4, .box 4 0), (0, dI n), (1, dI d)], [(4, .box [dI 0, dI 0])]⟩) (fun y => y.1.2) ⟨(n, d), hG, hn, hdd⟩ ?_ ?_
 ·refine Ent.to ?_ ?_ <;> simp (disch:=omega) only [qR,qS,qTw,qU,get,Nat.reduceEqDiff,↓reduceIte,qV,qW,qX,qY,qZ,and_self,dI,i64_in,and_true,true_and,rA,rB,rC,rD]
 rintro ⟨⟨a, b⟩, hab, ha, hb⟩
 dsimp only at hab ha hb ⊢
 rcases Nat.eq_zero_or_pos b with hz | hz
 ·subst hz
  have ha' : a = G := by rw [← hab]; simp
  subst ha'
  have hd0 : (((0 : Nat) : Int) != 0) = false := rfl
  have h0 : ((a : Int) = 0) = False := eq_false (by omega)
  have e1 := tdivN n a
  have e2 := tdivN d a
  have hw1 : IntKind.i64.wrap ((n / a : Nat) : Int) = ((n / a : Nat) : Int) := i64_in _ (by generalize n / a = q at *; omega)
  have hw2 : IntKind.i64.wrap ((d / a : Nat) : Int) = ((d / a : Nat) : Int) := i64_in _ (by generalize d / a = q at *; omega)
  repeat' (first|(with_reducible first|apply qA|apply qB|apply qC|apply qD|apply qE|apply qF)|(refine qL rfl (WF.of ?_) ?_; first|rfl|skip)|(simp (disch:=omega) only [go_sem, simprocAttr, Blk.men, Blk.keysIn, hd0, h0, e1, e2, hw1, hw2, rD])|exact qM rfl rfl rfl|(refine qG rfl ?_)|(refine qH rfl ?_)|(refine qI rfl ?_ ?_<;>intro hc<;>(try simp only [go_sem] at hc))|(refine qJ ?_ ?_<;>intro hc<;>(try simp only [hc])<;>(try simp only [go_sem] at hc)))
 ·have hd0 : ((b : Int) != 0) = true := by rw [bne_iff_ne]; omega
  have h0 : ((b : Int) = 0) = False := eq_false (by omega)
  have e1 := tmodN a b
  have hlt := Nat.mod_lt a hz
  have hg2 : Nat.gcd b (a % b) = G := by rw [← hab, Nat.gcd_comm a b, Nat.gcd_rec b a, Nat.gcd_comm]
  repeat' (first|(with_reducible first|apply qA|apply qB|apply qC|apply qD|apply qE|apply qF)|(refine qL rfl (WF.of ?_) ?_; first|rfl|skip)|(simp (disch:=omega) only [go_sem, simprocAttr, Blk.men, Blk.keysIn, hd0, h0, e1])|exact qM rfl rfl rfl|(refine qG rfl ?_)|(refine qH rfl ?_)|(refine qI rfl ?_ ?_<;>intro hc<;>(try simp only [go_sem] at hc))|(refine qJ ?_ ?_<;>intro hc<;>(try simp only [hc])<;>(try simp only [go_sem] at hc)))
  refine ⟨⟨(b, a % b), hg2, by dsimp only; omega, by dsimp only; omega⟩, ?_, Ent.to ?_ ?_⟩ <;> first | (show _ < _; (try simp only); omega) | (simp (disch:=omega) only [qR,qS,qTw,qU,get,Nat.reduceEqDiff,↓reduceIte,qV,qW,qX,qY,qZ,and_self,dI,i64_in,and_true,true_and,rA,rB,rC,rD])
def wNum (s : Sto) (m : Mak) : Nat := (sumI Pap.weight s m).toNat / Nat.gcd (sumI Pap.weight s m).toNat (wholeI s m).toNat
def wDen (s : Sto) (m : Mak) : Nat := (wholeI s m).toNat / Nat.gcd (sumI Pap.weight s m).toNat (wholeI s m).toNat
theorem bdWeigh (s : Sto) (m : Mak) (hs : s.ok) (h : m.ok s) : DCall Try.prog 18 [dSto s, dMak m] [] (.tup [.agg [dI (wNum s m), dI (wDen s m)], dI 0]) [] := by
 have h1 := bdNew s m hs h
 have h2 := bdSum s m hs h 50 [] rfl Pap.weight (weight_b hs) (fun p _ => bdWeight p)
 have hb := (sumI_b hs h Pap.weight (weight_b hs)).2
 have hw := wholeI_b hs h
 have h3 := bdRatio (sumI Pap.weight s m).toNat (wholeI s m).toNat (by omega) (by omega) (by omega)
 rw [Int.toNat_of_nonneg hb.1, Int.toNat_of_nonneg (by omega)] at h3
 refine DCall.of Try.func18 sf18 hb18 (Nat.le_of_ble_eq_true rfl) (okRes_nil fun _ => rfl) ?_; simp only [s18, idxs, Nat.reduceAdd]
 repeat' (first|(with_reducible first|apply qA|apply qB|apply qC|apply qD|apply qE|apply qF)|(refine qL rfl (WF.of ?_) ?_; first|rfl|skip)|(simp (disch:=omega) only [go_sem, simprocAttr, Blk.men, Blk.keysIn])|exact qM rfl rfl rfl|(refine qG rfl ?_)|(refine qK (h1) (by decide) ?_)|(refine qK (h2) (by decide) ?_)|(refine qK (h3) (by decide) ?_)|(refine qH rfl ?_)|(refine qI rfl ?_ ?_<;>intro hc<;>(try simp only [go_sem] at hc))|(refine qJ ?_ ?_<;>intro hc<;>(try simp only [hc])<;>(try simp only [go_sem] at hc)))
end Go.Dw.Seat
end
section
set_option linter.unusedSimpArgs false
set_option maxRecDepth 100000
namespace Go.Dw.Seat
open Go Go.Dw Go.Proofs Go.IntWalk
def priceP (p : Pap) : Int := p.weight * p.price
theorem priceP_b {s : Sto} (hs : s.ok) : ∀ p ∈ s.papers, 0 ≤ priceP p ∧ priceP p ≤ 1000000000 := fun p hp => by
 have h1 := (hs.papers p hp).weight
 have h2 := (hs.papers p hp).price
 have := mulB0 (a := p.weight) (b := p.price) (A := 1000) (B := 1000000) (by omega) (by omega)
 unfold priceP
 omega
theorem bdPrice (p : Pap) (hp : p.ok) : DCall Try.prog 91 [.agg ((eP p).map D.c)] [] (dI (priceP p)) [] := by
 have h1 := hp.weight
 have h2 := hp.price
 have := mulB0 (a := p.weight) (b := p.price) (A := 1000) (B := 1000000) (by omega) (by omega)
 unfold priceP
 refine DCall.of Try.func91 sf91 hb91 (Nat.le_of_ble_eq_true rfl) (okRes_nil fun _ => rfl) ?_; simp only [s91, idxs, Nat.reduceAdd]
 repeat' (first|(with_reducible first|apply qA|apply qB|apply qC|apply qD|apply qE|apply qF)|(simp (disch:=omega) only [go_sem, simprocAttr, Blk.men, Blk.keysIn, rF, rG])|exact qM rfl rfl rfl|(refine qG rfl ?_)|(refine qH rfl ?_)|(refine qI rfl ?_ ?_<;>intro hc<;>(try simp only [go_sem] at hc))|(refine qJ ?_ ?_<;>intro hc<;>(try simp only [hc])<;>(try simp only [go_sem] at hc)))
def costI (s : Sto) (m : Mak) : Int := (sumI priceP s m + 1000 * wholeI s m - 1).tdiv (1000 * wholeI s m)
theorem bdCost0 (s : Sto) (m : Mak) (hs : s.ok) (h : m.ok s) : DCall Try.prog 54 [dShe s m (wholeI s m)] [] (dI (costI s m)) [] := by
 have hsum := bdSum s m hs h 91 [] rfl priceP (priceP_b hs) (fun p hp => bdPrice p (hs.papers p hp))
 have hb := (sumI_b hs h priceP (priceP_b hs)).2
 have hw := wholeI_b hs h
 have h0 : (1000 * wholeI s m = 0) = False := eq_false (by omega)
 have hq := tdiv_b (a := sumI priceP s m + 1000 * wholeI s m - 1) (b := 1000 * wholeI s m) (A := 1000000100000000000) (by omega) (by omega)
 unfold costI
 refine DCall.of Try.func54 sf54 hb54 (Nat.le_of_ble_eq_true rfl) (okRes_nil fun _ => rfl) ?_; simp only [s54, idxs, Nat.reduceAdd]
 repeat' (first|(with_reducible first|apply qA|apply qB|apply qC|apply qD|apply qE|apply qF)|(simp (disch:=omega) only [go_sem, simprocAttr, Blk.men, Blk.keysIn, h0])|exact qM rfl rfl rfl|(refine qG rfl ?_)|(refine qK (hsum) (by decide) ?_)|(refine qH rfl ?_)|(refine qI rfl ?_ ?_<;>intro hc<;>(try simp only [go_sem] at hc))|(refine qJ ?_ ?_<;>intro hc<;>(try simp only [hc])<;>(try simp only [go_sem] at hc)))
theorem bdCost (s : Sto) (m : Mak) (hs : s.ok) (h : m.ok s) : DCall Try.prog 23 [dSto s, dMak m] [] (.tup [dI (costI s m), dI 0]) [] := by
 have h1 := bdNew s m hs h
 have h2 := bdCost0 s m hs h
 refine DCall.of Try.func23 sf23 hb23 (Nat.le_of_ble_eq_true rfl) (okRes_nil fun _ => rfl) ?_; simp only [s23, idxs, Nat.reduceAdd]
 repeat' (first|(with_reducible first|apply qA|apply qB|apply qC|apply qD|apply qE|apply qF)|(simp (disch:=omega) only [go_sem, simprocAttr, Blk.men, Blk.keysIn])|exact qM rfl rfl rfl|(refine qG rfl ?_)|(refine qK (h1) (by decide) ?_)|(refine qK (h2) (by decide) ?_)|(refine qH rfl ?_)|(refine qI rfl ?_ ?_<;>intro hc<;>(try simp only [go_sem] at hc))|(refine qJ ?_ ?_<;>intro hc<;>(try simp only [hc])<;>(try simp only [go_sem] at hc)))
end Go.Dw.Seat
end
section
set_option linter.unusedSimpArgs false
set_option maxRecDepth 100000
namespace Go.Dw.Seat
open Go Go.Dw Go.Proofs Go.IntWalk
def eRt (p : Nat × Nat) : List C := [.v (.int .i64 p.1), .v (.int .i64 p.2)]
theorem eRt_nb (p : Nat × Nat) : C.nbs (eRt p) = true := rfl
attribute [go_sem] eRt
def useK (s : Sto) (m : Mak) (k : Nat) : Int := useN (layersL s m) k 0
def useNum (s : Sto) (m : Mak) (a : Int) (k : Nat) : Nat := (useK s m k * (papAt s k).weight * a).toNat
def useRat (s : Sto) (m : Mak) (a : Int) (k : Nat) : Nat × Nat := (useNum s m a k / Nat.gcd (useNum s m a k) (wholeI s m).toNat, (wholeI s m).toNat / Nat.gcd (useNum s m a k) (wholeI s m).toNat)
def useL (s : Sto) (m : Mak) (a : Int) (i : Nat) : List (Nat × Nat) := (List.range i).map (useRat s m a)
theorem rowC_snocRt (l : List (Nat × Nat)) (p : Nat × Nat) : rowC (rows eRt (l ++ [p])) = rowC (rows eRt l) ++ [[D.c (.v (.int .i64 p.1)), D.c (.v (.int .i64 p.2))]] := by simp [rowC, rows, eRt]
theorem useK_b {s : Sto} {m : Mak} (hs : s.ok) (h : m.ok s) (k : Nat) : 0 ≤ useK s m k ∧ useK s m k ≤ 1000000000 := by
 have := useN_b k (layersL s m) 0 (fun e he => (layers_ok hs h e he).2)
 have hn : (layersL s m).length ≤ 5 := by rw [layersL_len]; have := h.np; have := h.nf; omega
 unfold useK
 omega
def useS (M : IMap) (e : Nat × Int) : Option Exit × IMap := (none, iUpd M e.1 (IntKind.i64.wrap (iG M e.1 + e.2)))
theorem useS_run : ∀ (l : List (Nat × Int)) (M : IMap) (B : Int), (∀ e ∈ l, 0 ≤ e.2 ∧ e.2 ≤ 200000000) → (∀ k, 0 ≤ iG M k ∧ iG M k ≤ B) → B + 200000000 * (l.length : Int) ≤ 9000000000000000000 → runIt useS M l = (none, useM M l)
 | [], _, _, _, _, _ => rfl
 | e :: l, M, B, hl, hM, hB => by
  have he := hl e (by simp)
  have hk := hM e.1
  rw [List.length_cons, Int.natCast_add, Int.natCast_one, Int.mul_add] at hB
  have hw : IntKind.i64.wrap (iG M e.1 + e.2) = iG M e.1 + e.2 := i64_in _ (by omega)
  simp only [runIt, useS, hw, useM]
  refine useS_run l _ (B + 200000000) (fun x hx => hl x (by simp [hx])) (fun k => ?_) (by omega)
  have := hM k
  rw [iG_upd]
  split <;> omega
set_option maxHeartbeats 4000000 in
theorem bdUse (s : Sto) (m : Mak) (hs : s.ok) (h : m.ok s) (a : Int) (ha : 0 ≤ a ∧ a ≤ 1000000) : DCall Try.prog 27 [dSto s, dMak m, dI a] [] (.tup [.c (.sl false 2 (rows eRt (useL s m a s.papers.length))), dI 0]) [] := by
 have h1 := bdNew s m hs h
 have h2 := bdIn true 0 1000000 [a] (by simp) (by simp; omega)
 have hit := bdLayers s m hs h
 have hnp := hs.np
 have hw := wholeI_b hs h
 refine DCall.of Try.func27 sf27 hb27 (Nat.le_of_ble_eq_true rfl) (okRes_nil fun _ => rfl) ?_; simp only [s27, idxs, Nat.reduceAdd]
 repeat' (first|(with_reducible first|apply qA|apply qB|apply qC|apply qD|apply qE|apply qF)|(simp (disch:=omega) only [go_sem, simprocAttr, qN, qO, qP, qQ])|exact qM rfl rfl rfl|(refine qG rfl ?_)|(refine qK (h1) (by decide) ?_)|(refine qK (h2) (by decide) ?_)|(refine qH rfl ?_)|(refine qI rfl ?_ ?_<;>intro hc<;>(try simp only [go_sem] at hc))|(refine qJ ?_ ?_<;>intro hc<;>(try simp only [hc])<;>(try simp only [go_sem] at hc)))
 refine DW.ent (σ' := ⟨63, [(31, .fn (.func 59) [dShe s m (wholeI s m)] []), (9, .box 9 0), (8, .box 8 0), (6, .c (.v (.slice none 0 0))), (3, .box 3 0), (2, dI a)], [(29, .map (iMk []) (iMd [])), (9, .box [.hd 29]), (8, .box [.c (.sl false 1 (rows eI (nL m.papers))), .c (.sl false 1 (rows eI (nL m.flutes))), .c (.sl false 8 (rows eP s.papers)), .c (.sl false 4 (rows eF s.flutes)), dI (wholeI s m)]), (3, .box [.c (.sl false 8 (rows eP s.papers)), .c (.sl false 4 (rows eF s.flutes))])]⟩) (Ent.to ?_ ?_) ?_
 ·simp (disch:=omega) only [qR,qS,qTw,qU,get,Nat.reduceEqDiff,↓reduceIte,qV,qW,qX,qY,qZ,and_self,dI,i64_in,and_true,true_and,rA,rB,rC,rD]
 ·simp (disch:=omega) only [qR,qS,qTw,qU,get,Nat.reduceEqDiff,↓reduceIte,qV,qW,qX,qY,qZ,and_self,dI,i64_in,and_true,true_and,rA,rB,rC,rD,iMk,iMd,rG]
 refine DW.rngBD (fun M : IMap => [(29, .map (iMk M) (iMd M)), (9, .box [.hd 29]), (8, .box [.c (.sl false 1 (rows eI (nL m.papers))), .c (.sl false 1 (rows eI (nL m.flutes))), .c (.sl false 8 (rows eP s.papers)), .c (.sl false 4 (rows eF s.flutes)), dI (wholeI s m)]), (3, .box [.c (.sl false 8 (rows eP s.papers)), .c (.sl false 4 (rows eF s.flutes))])]) [] useS enLay (okLay s) (layersL s m) hit (fun _ => True) trivial (fun _ _ _ _ _ => trivial) rfl (fun _ => ⟨rfl, rfl⟩) rfl (by decide) (fun _ _ => rfl) (fun _ _ _ => rfl) (by simp only [List.map_cons, List.map_nil]; decide) (fun _ => rfl) (fun M => by show (_ && (D.keysIns _ (iMd M) && _)) = true; rw [iD_keys]; rfl) (fun M => by show (D.nbs (iMd M) && _) = true; rw [iD_nb, Bool.true_and]; exact (by simp only [List.all_cons, List.all_nil, Blk.nb, rowC_nb, D.nb, D.nbs, C.nb, C.nbs, C.nbss, rows_nb eI_nb, Bool.and_true, Bool.not_false, Bool.and_self, bD, dI, iD, rows_nb eP_nb, rows_nb eF_nb, rows_nb eRt_nb])) (by simp only [List.all_cons, List.all_nil, Blk.nb, rowC_nb, D.nb, D.nbs, C.nb, C.nbs, C.nbss, rows_nb eI_nb, Bool.and_true, Bool.not_false, Bool.and_self, bD, dI, iD, rows_nb eP_nb, rows_nb eF_nb, rows_nb eRt_nb]) (fun _ _ => rfl) ?_ ?_
 ·rintro M - ⟨k, parts⟩ he v
  have hS : useS M (k, parts) = (none, iUpd M k (IntKind.i64.wrap (iG M k + parts))) := rfl
  rw [hS]
  simp (disch:=omega) only [go_sem,simprocAttr,qN,qO,qP,qQ]
  repeat' (first|(with_reducible first|apply qA|apply qB|apply qC|apply qD|apply qE|apply qF)|(simp (disch:=omega) only [go_sem, simprocAttr, qN, qO, qP, qQ, rF, rG])|exact qM rfl rfl rfl|(refine qG rfl ?_)|(refine qH rfl ?_)|(refine qI rfl ?_ ?_<;>intro hc<;>(try simp only [go_sem] at hc))|(refine qJ ?_ ?_<;>intro hc<;>(try simp only [hc])<;>(try simp only [go_sem] at hc)))
  refine round_end rfl rfl (Ent.to ?_ ?_) <;> simp (disch:=omega) only [qR,qS,qTw,qU,get,Nat.reduceEqDiff,↓reduceIte,qV,qW,qX,qY,qZ,and_self,dI,i64_in,and_true,true_and,rA,rB,rC,rD,capB,List.cons_append,List.nil_append]
 ·rw [useS_run (layersL s m) [] 0 (fun e he => (layers_ok hs h e he).2) (fun k => by simp [iG, iFind]) (by rw [layersL_len]; have := h.np; have := h.nf; omega)]
  simp (disch:=omega) only [go_sem,simprocAttr,qN,qO,qP,qQ,Option.getD_none]
  repeat' (first|(with_reducible first|apply qA|apply qB|apply qC|apply qD|apply qE|apply qF)|(simp (disch:=omega) only [go_sem, simprocAttr, qN, qO, qP, qQ])|exact qM rfl rfl rfl|(refine qG rfl ?_)|(refine qH rfl ?_)|(refine qI rfl ?_ ?_<;>intro hc<;>(try simp only [go_sem] at hc))|(refine qJ ?_ ?_<;>intro hc<;>(try simp only [hc])<;>(try simp only [go_sem] at hc)))
  refine DW.ent (Ent.adopt 6 60 2 rfl rfl (by simp [menS, D.men, D.mens, Blk.men, iD_men])) ?_
  simp only [ins, Nat.reduceLT, Nat.reduceEqDiff, ↓reduceIte]
  refine DW.loop (ι := { i : Nat // i ≤ s.papers.length }) (fun i => ⟨63, [(42, dI i.1), (41, dI s.papers.length), (40, .c (.sl false 8 (rows eP s.papers))), (9, .box 9 0), (8, .box 8 0), (6, .own 60), (2, dI a)], [(60, .row 2 (rowC (rows eRt (useL s m a i.1)))), (29, .map (iMk (useM [] (layersL s m))) (iMd (useM [] (layersL s m)))), (9, .box [.hd 29]), (8, .box [.c (.sl false 1 (rows eI (nL m.papers))), .c (.sl false 1 (rows eI (nL m.flutes))), .c (.sl false 8 (rows eP s.papers)), .c (.sl false 4 (rows eF s.flutes)), dI (wholeI s m)])]⟩) (fun i => s.papers.length - i.1) ⟨0, Nat.zero_le _⟩ ?_ ?_
  ·refine Ent.to ?_ ?_ <;> simp (disch:=omega) only [qR,qS,qTw,qU,get,Nat.reduceEqDiff,↓reduceIte,qV,qW,qX,qY,qZ,and_self,dI,i64_in,and_true,true_and,rA,rB,rC,rD,useL,List.range_zero,rG]
   all_goals first | exact ⟨.refl _, .refl _⟩ | exact .refl _
  rintro ⟨i, hi⟩
  dsimp only
  rcases at_or s.papers i hi with ⟨p, hp, hlt, hd⟩ | ⟨he, hd⟩
  ·have hpa : papAt s i = p := by unfold papAt; rw [hp]; rfl
   have hpo := hs.papers p (List.mem_of_getElem? hp)
   have hub := useK_b hs h i
   have hg : iG (useM [] (layersL s m)) i = useK s m i := useM_get i (layersL s m) []
   have hx1 := mulB0 (a := useK s m i) (b := p.weight) (A := 1000000000) (B := 1000) hub (by have := hpo.weight; omega)
   have hx2 := mulB0 (a := useK s m i * p.weight) (b := a) (A := 1000000000000) (B := 1000000) (by omega) ha
   have hN : ((useNum s m a i : Nat) : Int) = useK s m i * p.weight * a := by
    unfold useNum
    rw [hpa, Int.toNat_of_nonneg (by omega)]
   have h3 := bdRatio (useNum s m a i) (wholeI s m).toNat (by omega) (by omega) (by omega)
   rw [hN, Int.toNat_of_nonneg (by omega)] at h3
   have hsn : useL s m a (i + 1) = useL s m a i ++ [useRat s m a i] := by unfold useL; rw [List.range_succ, List.map_append]; rfl
   have hrow := rowC_snocRt (useL s m a i) (useRat s m a i)
   rw [← hsn] at hrow
   simp only [useRat] at hrow
   have hul : (useL s m a i).length ≤ 8 := by unfold useL; rw [List.length_map, List.length_range]; omega
   clear hN hsn
   generalize useL s m a i = S at *
   generalize hS1 : useL s m a (i + 1) = S1 at *
   repeat' (first|(with_reducible first|apply qA|apply qB|apply qC|apply qD|apply qE|apply qF)|(simp (disch:=omega) only [go_sem, simprocAttr, qN, qO, qP, qQ, hd, hp, hg, hrow, rF, rG])|exact qM rfl rfl rfl|(refine qG rfl ?_)|(refine qK (h3) (by decide) ?_)|(refine qH rfl ?_)|(refine qI rfl ?_ ?_<;>intro hc<;>(try simp only [go_sem] at hc))|(refine qJ ?_ ?_<;>intro hc<;>(try simp only [hc])<;>(try simp only [go_sem] at hc)))
   refine ⟨⟨i + 1, hlt⟩, ?_, Ent.to ?_ ?_⟩ <;> first | (show _ < _; (try simp only); omega) | (simp (disch:=omega) only [qR,qS,qTw,qU,get,Nat.reduceEqDiff,↓reduceIte,qV,qW,qX,qY,qZ,and_self,dI,i64_in,and_true,true_and,rA,rB,rC,rD, hrow,hS1])
   all_goals first | exact ⟨.refl _, .refl _⟩ | exact .refl _
  ·subst he
   (refine DW.ent (Ent.rel 60 rfl) ?_; simp (disch:=omega) only [go_sem,simprocAttr,qN,qO,qP,qQ])
   repeat' (first|(with_reducible first|apply qA|apply qB|apply qC|apply qD|apply qE|apply qF)|(simp (disch:=omega) only [go_sem, simprocAttr, qN, qO, qP, qQ, hd])|exact qM rfl rfl rfl|(refine qG rfl ?_)|(refine qH rfl ?_)|(refine qI rfl ?_ ?_<;>intro hc<;>(try simp only [go_sem] at hc))|(refine qJ ?_ ?_<;>intro hc<;>(try simp only [hc])<;>(try simp only [go_sem] at hc)))
   refine retS_wk rfl ?_ (by simp only [Blk.nb, rowC_nb, D.nb, D.nbs, C.nb, C.nbs, C.nbss, rows_nb eI_nb, Bool.and_true, Bool.not_false, Bool.and_self, bD, dI, iD, rows_nb eP_nb, rows_nb eF_nb, rows_nb eRt_nb]); exact .refl _
end Go.Dw.Seat
end
section
set_option linter.unusedSimpArgs false
set_option maxRecDepth 100000
namespace Go.Dw.Seat
open Go Go.Dw Go.Proofs Go.IntWalk
theorem sw_mapc (i j : Nat) : ∀ l : List C, swDs i j (l.map D.c) = l.map D.c
 | [] => rfl
 | c :: l => by rw [List.map_cons, swDs, sw_mapc i j l]; rfl
theorem sw_rowC (i j : Nat) (es : List (List C)) : (rowC es).map (swDs i j) = rowC es := by
 simp only [rowC, List.map_map]
 exact List.map_congr_left (fun e _ => sw_mapc i j e)
theorem own1_ok (i : Nat) (s : Sto) : okRes (.agg [.own i, .c (.sl false 4 (rows eF s.flutes))]) [(i, .row 8 (rowC (rows eP s.papers)))] := by
 refine ⟨fun q hq => ?_, fun n x hi q hq => ?_⟩
 ·have h1 : q ≠ i := by rintro rfl; simp [get] at hq
  have h2 : i ≠ q := fun h => h1 h.symm
  simp only [D.men, D.mens, Bool.or_false, beq_eq_false_iff_ne, ne_eq]
  first | exact h1 | exact h2
 ·have := get_mem hi
  simp only [List.mem_cons, Prod.mk.injEq, List.not_mem_nil, or_false] at this
  obtain ⟨_, rfl⟩ := this
  exact rowC_men q 8 _
end Go.Dw.Seat
end
section
set_option linter.unusedSimpArgs false
set_option maxRecDepth 100000
namespace Go.Dw.Seat
open Go Go.Dw Go.Proofs Go.IntWalk
structure V4 where
 v0 : Nat
 v1 : Nat
 v2 : Nat
 v3 : Nat
structure V4.ok (v : V4) : Prop where
 v0 : v.v0 < 256
 v1 : v.v1 < 256
 v2 : v.v2 < 256
 v3 : v.v3 < 256
structure FoldY where
 p0 : V4
 p1 : V4
 p2 : V4
 f0 : V3
 f1 : V3
 bx : List Nat
structure FoldY.ok (x : FoldY) : Prop where
 p0 : x.p0.ok
 p1 : x.p1.ok
 p2 : x.p2.ok
 f0 : x.f0.ok
 f1 : x.f1.ok
 len : x.bx.length = 7
abbrev dV4 (v : V4) (r : List D) : List D := d8 v.v0 :: d8 v.v1 :: d8 v.v2 :: d8 v.v3 :: r
abbrev dV3 (v : V3) (r : List D) : List D := d8 v.v0 :: d8 v.v1 :: d8 v.v2 :: r
abbrev dFold (x : FoldY) : D := .agg (dV4 x.p0 (dV4 x.p1 (dV4 x.p2 (dV3 x.f0 (dV3 x.f1 (x.bx.map fun n => d8 n))))))
def pbPap (c : Int) (i : Nat) (v : V4) : Pap := ⟨1 + ((i % 2 : Nat) : Int), 80 + (v.v0 : Int), 100 + (v.v1 : Int), 100 + (v.v1 : Int) + ((v.v2 % 60 : Nat) : Int), ((v.v3 % 90 : Nat) : Int), ((v.v3 % 90 : Nat) : Int) + ((v.v2 % 20 : Nat) : Int), c * (v.v0 : Int), 5 * (v.v1 : Int)⟩
def pbFlu (v : V3) : Flu := ⟨2000 + 20 * (v.v0 : Int), 2000 + 20 * (v.v0 : Int) + ((2000 + 20 * (v.v0 : Int)) * (v.v2 : Int)).tdiv 400, 1000 + 8 * (v.v1 : Int), 1000 + 8 * (v.v1 : Int) + ((v.v2 % 200 : Nat) : Int)⟩
theorem pbPap_ok {c : Int} (hc : 0 ≤ c ∧ c ≤ 2000) {v : V4} (h : v.ok) (i : Nat) : (pbPap c i v).ok := by
 have h0 := h.v0
 have h1 := h.v1
 have h2 := h.v2
 have h3 := h.v3
 have m0 : i % 2 < 2 := Nat.mod_lt _ (by decide)
 have m1 : v.v2 % 60 < 60 := Nat.mod_lt _ (by decide)
 have m2 : v.v3 % 90 < 90 := Nat.mod_lt _ (by decide)
 have m3 : v.v2 % 20 < 20 := Nat.mod_lt _ (by decide)
 have m4 := mulB0 (a := c) (b := (v.v0 : Int)) (A := 2000) (B := 255) hc (by omega)
 unfold pbPap
 refine ⟨?_, ?_, ?_, ?_, ?_, ?_⟩
 all_goals dsimp only
 all_goals omega
theorem pbFlu_draw {v : V3} (h : v.ok) : (0 ≤ (2000 + 20 * (v.v0 : Int)) * (v.v2 : Int) ∧ (2000 + 20 * (v.v0 : Int)) * (v.v2 : Int) ≤ 2000000) ∧ 0 ≤ ((2000 + 20 * (v.v0 : Int)) * (v.v2 : Int)).tdiv 400 ∧ ((2000 + 20 * (v.v0 : Int)) * (v.v2 : Int)).tdiv 400 ≤ 2000 + 20 * (v.v0 : Int) := by
 have h0 := h.v0
 have h2 := h.v2
 have m := mulB0 (a := 2000 + 20 * (v.v0 : Int)) (b := (v.v2 : Int)) (A := 7100) (B := 255) (by omega) (by omega)
 have m2 : (2000 + 20 * (v.v0 : Int)) * (v.v2 : Int) ≤ (2000 + 20 * (v.v0 : Int)) * 255 := Int.mul_le_mul_of_nonneg_left (by omega) (by omega)
 rw [Int.tdiv_eq_ediv_of_nonneg m.1]
 generalize (2000 + 20 * (v.v0 : Int)) * (v.v2 : Int) = q at *
 omega
theorem pbFlu_ok {v : V3} (h : v.ok) : (pbFlu v).ok := by
 have h0 := h.v0
 have h1 := h.v1
 have h2 := h.v2
 have hd := pbFlu_draw h
 have m1 : v.v2 % 200 < 200 := Nat.mod_lt _ (by decide)
 unfold pbFlu
 refine ⟨?_, ?_, ?_⟩
 all_goals dsimp only
 all_goals omega
def pbPaps (c : Int) (x : FoldY) : List Pap := [pbPap c 0 x.p0, pbPap c 1 x.p1, pbPap c 2 x.p2]
def pbFlus (x : FoldY) : List Flu := [pbFlu x.f0, pbFlu x.f1]
def pbSto (c : Int) (x : FoldY) : Sto := ⟨pbPaps c x, pbFlus x⟩
theorem pbSto_ok {c : Int} (hc : 0 ≤ c ∧ c ≤ 2000) {x : FoldY} (h : x.ok) : (pbSto c x).ok := by
 refine ⟨by simp [pbSto, pbPaps], by simp [pbSto, pbFlus], fun p hp => ?_, fun f hf => ?_⟩
 ·simp only [pbSto, pbPaps, List.mem_cons, List.not_mem_nil, or_false] at hp
  rcases hp with rfl | rfl | rfl
  ·exact pbPap_ok hc h.p0 0
  ·exact pbPap_ok hc h.p1 1
  ·exact pbPap_ok hc h.p2 2
 ·simp only [pbSto, pbFlus, List.mem_cons, List.not_mem_nil, or_false] at hf
  rcases hf with rfl | rfl
  ·exact pbFlu_ok h.f0
  ·exact pbFlu_ok h.f1
def pbM : Mak := ⟨[0, 1, 2], [0]⟩
theorem pbM_ok (c : Int) (x : FoldY) : pbM.ok (pbSto c x) := by
 refine ⟨by decide, by decide, fun v hv => ?_, fun v hv => ?_, ?_⟩
 ·simp only [pbM, List.mem_cons, List.not_mem_nil, or_false] at hv
  show v < 3
  omega
 ·simp only [pbM, List.mem_cons, List.not_mem_nil, or_false] at hv
  show v < 2
  omega
 intro i n p h1 h2
 match i, h1 with
 | 0, h1 => cases h1; cases h2; rfl
 | 1, h1 => cases h1; cases h2; rfl
 | 2, h1 => cases h1; cases h2; rfl
 | i + 3, h1 => cases h1
theorem pbSpan (a b : Int) : DCall Try.prog 53 [dI a, dI b] [] (.agg [dI a, dI b]) [] := by
 refine DCall.of Try.func53 sf53 hb53 (Nat.le_of_ble_eq_true rfl) (okRes_nil fun _ => rfl) ?_; simp only [s53, idxs, Nat.reduceAdd]
 repeat' (first|(with_reducible first|apply qA|apply qB|apply qC|apply qD|apply qE|apply qF)|(simp (disch:=omega) only [go_sem, simprocAttr, qN, qO, qP, qQ])|exact qM rfl rfl rfl|(refine qG rfl ?_)|(refine qH rfl ?_)|(refine qI rfl ?_ ?_<;>intro hc<;>(try simp only [go_sem] at hc))|(refine qJ ?_ ?_<;>intro hc<;>(try simp only [hc])<;>(try simp only [go_sem] at hc)))
theorem pbSingle : DCall Try.prog 25 [] [] (dMak pbM) [] := by
 have n1 : nL pbM.papers = [0, 1, 2] := rfl
 have n2 : nL pbM.flutes = [0] := rfl
 unfold dMak
 rw [n1, n2]
 refine DCall.of Try.func25 sf25 hb25 (Nat.le_of_ble_eq_true rfl) (okRes_nil fun _ => rfl) ?_; simp only [s25, idxs, Nat.reduceAdd]
 repeat' (first|(with_reducible first|apply qA|apply qB|apply qC|apply qD|apply qE|apply qF)|(simp (disch:=omega) only [go_sem, simprocAttr, qN, qO, qP, qQ])|exact qM rfl rfl rfl|(refine qG rfl ?_)|(refine qH rfl ?_)|(refine qI rfl ?_ ?_<;>intro hc<;>(try simp only [go_sem] at hc))|(refine qJ ?_ ?_<;>intro hc<;>(try simp only [hc])<;>(try simp only [go_sem] at hc)))
 (refine retS_ent (Ent.rel 2 rfl) ?_; simp (disch:=omega) only [go_sem,simprocAttr,qN,qO,qP,qQ])
 (refine retS_ent (Ent.rel 1 rfl) ?_; simp (disch:=omega) only [go_sem,simprocAttr,qN,qO,qP,qQ])
 refine retS_wk rfl ?_ (by simp only [Blk.nb, rowC_nb, D.nb, D.nbs, C.nb, C.nbs, C.nbss, rows_nb eI_nb, Bool.and_true, Bool.not_false, Bool.and_self, bD, dI, iD, rows_nb eP_nb, rows_nb eF_nb]); exact .refl _
theorem pbOwn (b : Bool) (s : Sto) (h1 : s.papers.length ≤ 1000) (h2 : s.flutes.length ≤ 1000) : DCall Try.prog 24 [.agg [.c (.sl b 8 (rows eP s.papers)), .c (.sl b 4 (rows eF s.flutes))]] [] (dSto s) [] := by
 refine DCall.of Try.func24 sf24 hb24 (Nat.le_of_ble_eq_true rfl) (okRes_nil fun _ => rfl) ?_; simp only [s24, o24_0, o24_1, o24_2, o24_3, o24_4, o24_5, o24_6, o24_7, o24_8, o24_9, idxs, Nat.reduceAdd]
 repeat' (first|(with_reducible first|apply qA|apply qB|apply qC|apply qD|apply qE|apply qF)|(refine DW.ord rfl (WF.of (by first|rfl|simp (disch:=omega) only [go_sem, simprocAttr, qN, qO, qP, qQ])) ?_ ?_ ?_; rotate_left)|rfl|(with_reducible refine And.intro ?_ ?_)|(simp (disch:=omega) only [go_sem, simprocAttr, qN, qO, qP, qQ])|exact qM rfl rfl rfl|(refine qG rfl ?_)|(refine qH rfl ?_)|(refine qI rfl ?_ ?_<;>intro hc<;>(try simp only [go_sem] at hc))|(refine qJ ?_ ?_<;>intro hc<;>(try simp only [hc])<;>(try simp only [go_sem] at hc)))
 (refine retS_ent (Ent.rel 7 rfl) ?_; simp (disch:=omega) only [go_sem,simprocAttr,qN,qO,qP,qQ])
 (refine retS_ent (Ent.rel 3 rfl) ?_; simp (disch:=omega) only [go_sem,simprocAttr,qN,qO,qP,qQ])
 refine retS_wk rfl ?_ (by simp only [Blk.nb, rowC_nb, D.nb, D.nbs, C.nb, C.nbs, C.nbss, rows_nb eI_nb, Bool.and_true, Bool.not_false, Bool.and_self, bD, dI, iD, rows_nb eP_nb, rows_nb eF_nb]); exact .refl _
theorem exW : wNum exS exM = 580 ∧ wDen exS exM = 1 := ⟨by kernel_rfl, by kernel_rfl⟩
theorem pbBoard : DCall Try.prog 28 [] [] (bD true) [] := by
 have h1 := bdMeasure exS exM exS_ok exM_ok
 have h2 := bdWeigh exS exM exS_ok exM_ok
 obtain ⟨e1, e2, e3, e4, e5⟩ := exB
 rw [e1, e2, e3, e4] at h1
 rw [exW.1, exW.2] at h2
 have n1 : nL exM.papers = [0, 1, 0] := rfl
 have n2 : nL exM.flutes = [0] := rfl
 unfold dMak dSto at h1 h2
 rw [n1, n2] at h1 h2
 unfold exS at h1 h2
 have s1 := pbSpan 250 270
 have s2 := pbSpan 60 80
 have s3 := pbSpan 180 190
 have s4 := pbSpan 70 90
 have s5 := pbSpan 3600 3700
 have s6 := pbSpan 4100 4240
 refine DCall.of Try.func28 sf28 hb28 (Nat.le_of_ble_eq_true rfl) (okRes_nil fun _ => rfl) ?_; simp only [s28, idxs, Nat.reduceAdd]
 refine DW.seq (DW.reg ?_)
 simp (disch:=omega) only [go_sem,simprocAttr,qN,qO,qP,qQ]
 refine DW.seq (DW.reg ?_)
 simp (disch:=omega) only [go_sem,simprocAttr,qN,qO,qP,qQ]
 (refine call_c (s1) (by decide) ?_; simp (disch:=omega) only [go_sem,simprocAttr,qN,qO,qP,qQ])
 (refine call_c (s2) (by decide) ?_; simp (disch:=omega) only [go_sem,simprocAttr,qN,qO,qP,qQ])
 (refine call_c (s3) (by decide) ?_; simp (disch:=omega) only [go_sem,simprocAttr,qN,qO,qP,qQ])
 (refine call_c (s4) (by decide) ?_; simp (disch:=omega) only [go_sem,simprocAttr,qN,qO,qP,qQ])
 (refine call_c (s5) (by decide) ?_; simp (disch:=omega) only [go_sem,simprocAttr,qN,qO,qP,qQ])
 refine DW.seq (DW.reg ?_)
 simp (disch:=omega) only [go_sem,simprocAttr,qN,qO,qP,qQ]
 (refine DW.ent (Ent.rel 20 rfl) ?_; simp (disch:=omega) only [go_sem,simprocAttr,qN,qO,qP,qQ])
 (refine DW.ent (Ent.rel 19 rfl) ?_; simp (disch:=omega) only [go_sem,simprocAttr,qN,qO,qP,qQ])
 (refine DW.ent (Ent.rel 17 rfl) ?_; simp (disch:=omega) only [go_sem,simprocAttr,qN,qO,qP,qQ])
 (refine DW.ent (Ent.rel 14 rfl) ?_; simp (disch:=omega) only [go_sem,simprocAttr,qN,qO,qP,qQ])
 repeat' (first|(with_reducible first|apply qA|apply qB|apply qC|apply qD|apply qE|apply qF)|(refine qL rfl (WF.of ?_) ?_; first|rfl|skip)|(simp (disch:=omega) only [go_sem, simprocAttr, qN, qO, qP, qQ])|exact qM rfl rfl rfl|(refine qG rfl ?_)|(refine qK (h1) (by decide) ?_)|(refine qK (h2) (by decide) ?_)|(refine qK (s6) (by decide) ?_)|(refine qH rfl ?_)|(refine qI rfl ?_ ?_<;>intro hc<;>(try simp only [go_sem] at hc))|(refine qJ ?_ ?_<;>intro hc<;>(try simp only [hc])<;>(try simp only [go_sem] at hc)))
theorem t60 (m : Nat) : (m : Int).tmod 60 = ((m % 60 : Nat) : Int) := tmodN m 60
theorem t20 (m : Nat) : (m : Int).tmod 20 = ((m % 20 : Nat) : Int) := tmodN m 20
theorem t200 (m : Nat) : (m : Int).tmod 200 = ((m % 200 : Nat) : Int) := tmodN m 200
end Go.Dw.Seat
end
section
set_option linter.unusedSimpArgs false
set_option maxRecDepth 100000
namespace Go.Dw.Seat
open Go Go.Dw Go.Proofs Go.IntWalk
set_option maxHeartbeats 4000000 in
theorem pbStore (x : FoldY) (h : x.ok) : DCall Try.prog 22 [dFold x] [] (.agg [.own 65, .c (.sl false 4 (rows eF (pbSto 2000 x).flutes))]) [(65, .row 8 (rowC (rows eP (pbSto 2000 x).papers)))] := by
 obtain ⟨p0, p1, p2, f0, f1, bs⟩ := x
 obtain ⟨h0, h1, h2, h3, h4, hl⟩ := h
 dsimp only at h0 h1 h2 h3 h4 hl
 match bs, hl with
 | [b0, b1, b2, b3, b4, b5, b6], _ =>
 refine DCall.of Try.func22 sf22 hb22 (Nat.le_of_ble_eq_true rfl) (own1_ok 65 _) ?_
 simp only [s22, idxs, Nat.reduceAdd, dFold, dV4, dV3, List.map_cons, List.map_nil]
 repeat' (first|(with_reducible first|apply qA|apply qB|apply qC|apply qD|apply qE|apply qF)|(refine qL rfl (WF.of ?_) ?_; first|rfl|skip)|(simp (disch:=omega) only [go_sem, simprocAttr, qN, qO, qP, qQ])|exact qM rfl rfl rfl|(refine qG rfl ?_)|(refine qH rfl ?_)|(refine qI rfl ?_ ?_<;>intro hc<;>(try simp only [go_sem] at hc))|(refine qJ ?_ ?_<;>intro hc<;>(try simp only [hc])<;>(try simp only [go_sem] at hc)))
 (refine DW.ent (Ent.adoptB 3 0 65 8 rfl rfl rfl rfl) ?_; simp only [ins, Nat.reduceLT, Nat.reduceEqDiff, ↓reduceIte, List.set_cons_zero, List.set_cons_succ])
 (refine DW.ent (Ent.adoptB 3 1 106 4 rfl rfl rfl rfl) ?_; simp only [ins, Nat.reduceLT, Nat.reduceEqDiff, ↓reduceIte, List.set_cons_zero, List.set_cons_succ])
 obtain ⟨P0, hP0⟩ : ∃ P : Pap, P = pbPap 2000 0 p0 := ⟨_, rfl⟩
 obtain ⟨P1, hP1⟩ : ∃ P : Pap, P = pbPap 2000 1 p1 := ⟨_, rfl⟩
 obtain ⟨P2, hP2⟩ : ∃ P : Pap, P = pbPap 2000 2 p2 := ⟨_, rfl⟩
 obtain ⟨F0, hF0⟩ : ∃ F : Flu, F = pbFlu f0 := ⟨_, rfl⟩
 obtain ⟨F1, hF1⟩ : ∃ F : Flu, F = pbFlu f1 := ⟨_, rfl⟩
 have hPs : (pbSto 2000 ⟨p0, p1, p2, f0, f1, [b0, b1, b2, b3, b4, b5, b6]⟩).papers = [P0, P1, P2] := by rw [hP0, hP1, hP2]; rfl
 have hFs : (pbSto 2000 ⟨p0, p1, p2, f0, f1, [b0, b1, b2, b3, b4, b5, b6]⟩).flutes = [F0, F1] := by rw [hF0, hF1]; rfl
 rw [hPs, hFs]
 have hE0 : (⟨1, 80 + (p0.v0 : Int), 100 + (p0.v1 : Int), 100 + (p0.v1 : Int) + ((p0.v2 % 60 : Nat) : Int), ((p0.v3 % 90 : Nat) : Int), ((p0.v3 % 90 : Nat) : Int) + ((p0.v2 % 20 : Nat) : Int), 2000 * (p0.v0 : Int), 5 * (p0.v1 : Int)⟩ : Pap) = P0 := by rw [hP0]; rfl
 have hE1 : (⟨2, 80 + (p1.v0 : Int), 100 + (p1.v1 : Int), 100 + (p1.v1 : Int) + ((p1.v2 % 60 : Nat) : Int), ((p1.v3 % 90 : Nat) : Int), ((p1.v3 % 90 : Nat) : Int) + ((p1.v2 % 20 : Nat) : Int), 2000 * (p1.v0 : Int), 5 * (p1.v1 : Int)⟩ : Pap) = P1 := by rw [hP1]; rfl
 have hE2 : (⟨1, 80 + (p2.v0 : Int), 100 + (p2.v1 : Int), 100 + (p2.v1 : Int) + ((p2.v2 % 60 : Nat) : Int), ((p2.v3 % 90 : Nat) : Int), ((p2.v3 % 90 : Nat) : Int) + ((p2.v2 % 20 : Nat) : Int), 2000 * (p2.v0 : Int), 5 * (p2.v1 : Int)⟩ : Pap) = P2 := by rw [hP2]; rfl
 have hG0 : (⟨2000 + 20 * (f0.v0 : Int), 2000 + 20 * (f0.v0 : Int) + ((2000 + 20 * (f0.v0 : Int)) * (f0.v2 : Int)).tdiv 400, 1000 + 8 * (f0.v1 : Int), 1000 + 8 * (f0.v1 : Int) + ((f0.v2 % 200 : Nat) : Int)⟩ : Flu) = F0 := by rw [hF0]; rfl
 have hG1 : (⟨2000 + 20 * (f1.v0 : Int), 2000 + 20 * (f1.v0 : Int) + ((2000 + 20 * (f1.v0 : Int)) * (f1.v2 : Int)).tdiv 400, 1000 + 8 * (f1.v1 : Int), 1000 + 8 * (f1.v1 : Int) + ((f1.v2 % 200 : Nat) : Int)⟩ : Flu) = F1 := by rw [hF1]; rfl
 clear hPs hFs
 refine DW.loop (ι := { i : Nat // i ≤ 3 }) (fun i => ⟨109, [(4, dI i.1), (3, .box 3 0), (2, .box 2 0), (1, .box 1 0)], [(106, .row 4 []), (65, .row 8 (rowC (rows eP (List.take i.1 [P0, P1, P2])))), (3, .box [.own 65, .own 106]), (2, .box [.c (.v (.slice none 0 0)), .c (.v (.slice none 0 0))]), (1, .box [d8 p0.v0, d8 p0.v1, d8 p0.v2, d8 p0.v3, d8 p1.v0, d8 p1.v1, d8 p1.v2, d8 p1.v3, d8 p2.v0, d8 p2.v1, d8 p2.v2, d8 p2.v3, d8 f0.v0, d8 f0.v1, d8 f0.v2, d8 f1.v0, d8 f1.v1, d8 f1.v2, d8 b0, d8 b1, d8 b2, d8 b3, d8 b4, d8 b5, d8 b6])]⟩) (fun i => 3 - i.1) ⟨0, by omega⟩ ?_ ?_
 ·refine Ent.to ?_ ?_ <;> simp (disch:=omega) only [qR,qS,qTw,qU,get,Nat.reduceEqDiff,↓reduceIte,qV,qW,qX,qY,qZ,and_self,dI,i64_in,and_true,true_and,rA,rB,rC,rD]
  all_goals exact .refl _
 rintro ⟨i, hi⟩
 dsimp only
 rcases (by omega : i = 0 ∨ i = 1 ∨ i = 2 ∨ i = 3) with rfl | rfl | rfl | rfl
 ·have q0 := h0.v0
  have q1 := h0.v1
  have q2 := h0.v2
  have q3 := h0.v3
  have q4 : p0.v2 % 60 < 60 := Nat.mod_lt _ (by decide)
  have q5 : p0.v3 % 90 < 90 := Nat.mod_lt _ (by decide)
  have q6 : p0.v2 % 20 < 20 := Nat.mod_lt _ (by decide)
  have c1 := pbSpan (100 + (p0.v1 : Int)) (100 + (p0.v1 : Int) + ((p0.v2 % 60 : Nat) : Int))
  have c2 := pbSpan ((p0.v3 % 90 : Nat) : Int) (((p0.v3 % 90 : Nat) : Int) + ((p0.v2 % 20 : Nat) : Int))
  repeat' (first|(with_reducible first|apply qA|apply qB|apply qC|apply qD|apply qE|apply qF)|(refine qL rfl (WF.of ?_) ?_; first|rfl|skip)|(simp (disch:=omega) only [go_sem, simprocAttr, qN, qO, qP, qQ, t60, t90, t20, hE0])|exact qM rfl rfl rfl|(refine qG rfl ?_)|(refine qK (c1) (by decide) ?_)|(refine qK (c2) (by decide) ?_)|(refine qH rfl ?_)|(refine qI rfl ?_ ?_<;>intro hc<;>(try simp only [go_sem] at hc))|(refine qJ ?_ ?_<;>intro hc<;>(try simp only [hc])<;>(try simp only [go_sem] at hc)))
  refine ⟨⟨1, by omega⟩, ?_, Ent.to ?_ ?_⟩ <;> first | (show _ < _; (try simp only); omega) | (simp (disch:=omega) only [qR,qS,qTw,qU,get,Nat.reduceEqDiff,↓reduceIte,qV,qW,qX,qY,qZ,and_self,dI,i64_in,and_true,true_and,rA,rB,rC,rD, hE0])
  all_goals exact .refl _
 ·have q0 := h1.v0
  have q1 := h1.v1
  have q2 := h1.v2
  have q3 := h1.v3
  have q4 : p1.v2 % 60 < 60 := Nat.mod_lt _ (by decide)
  have q5 : p1.v3 % 90 < 90 := Nat.mod_lt _ (by decide)
  have q6 : p1.v2 % 20 < 20 := Nat.mod_lt _ (by decide)
  have c1 := pbSpan (100 + (p1.v1 : Int)) (100 + (p1.v1 : Int) + ((p1.v2 % 60 : Nat) : Int))
  have c2 := pbSpan ((p1.v3 % 90 : Nat) : Int) (((p1.v3 % 90 : Nat) : Int) + ((p1.v2 % 20 : Nat) : Int))
  repeat' (first|(with_reducible first|apply qA|apply qB|apply qC|apply qD|apply qE|apply qF)|(refine qL rfl (WF.of ?_) ?_; first|rfl|skip)|(simp (disch:=omega) only [go_sem, simprocAttr, qN, qO, qP, qQ, t60, t90, t20, hE1])|exact qM rfl rfl rfl|(refine qG rfl ?_)|(refine qK (c1) (by decide) ?_)|(refine qK (c2) (by decide) ?_)|(refine qH rfl ?_)|(refine qI rfl ?_ ?_<;>intro hc<;>(try simp only [go_sem] at hc))|(refine qJ ?_ ?_<;>intro hc<;>(try simp only [hc])<;>(try simp only [go_sem] at hc)))
  refine ⟨⟨2, by omega⟩, ?_, Ent.to ?_ ?_⟩ <;> first | (show _ < _; (try simp only); omega) | (simp (disch:=omega) only [qR,qS,qTw,qU,get,Nat.reduceEqDiff,↓reduceIte,qV,qW,qX,qY,qZ,and_self,dI,i64_in,and_true,true_and,rA,rB,rC,rD, hE1])
  all_goals exact .refl _
 ·have q0 := h2.v0
  have q1 := h2.v1
  have q2 := h2.v2
  have q3 := h2.v3
  have q4 : p2.v2 % 60 < 60 := Nat.mod_lt _ (by decide)
  have q5 : p2.v3 % 90 < 90 := Nat.mod_lt _ (by decide)
  have q6 : p2.v2 % 20 < 20 := Nat.mod_lt _ (by decide)
  have c1 := pbSpan (100 + (p2.v1 : Int)) (100 + (p2.v1 : Int) + ((p2.v2 % 60 : Nat) : Int))
  have c2 := pbSpan ((p2.v3 % 90 : Nat) : Int) (((p2.v3 % 90 : Nat) : Int) + ((p2.v2 % 20 : Nat) : Int))
  repeat' (first|(with_reducible first|apply qA|apply qB|apply qC|apply qD|apply qE|apply qF)|(refine qL rfl (WF.of ?_) ?_; first|rfl|skip)|(simp (disch:=omega) only [go_sem, simprocAttr, qN, qO, qP, qQ, t60, t90, t20, hE2])|exact qM rfl rfl rfl|(refine qG rfl ?_)|(refine qK (c1) (by decide) ?_)|(refine qK (c2) (by decide) ?_)|(refine qH rfl ?_)|(refine qI rfl ?_ ?_<;>intro hc<;>(try simp only [go_sem] at hc))|(refine qJ ?_ ?_<;>intro hc<;>(try simp only [hc])<;>(try simp only [go_sem] at hc)))
  refine ⟨⟨3, by omega⟩, ?_, Ent.to ?_ ?_⟩ <;> first | (show _ < _; (try simp only); omega) | (simp (disch:=omega) only [qR,qS,qTw,qU,get,Nat.reduceEqDiff,↓reduceIte,qV,qW,qX,qY,qZ,and_self,dI,i64_in,and_true,true_and,rA,rB,rC,rD, hE2])
  all_goals exact .refl _
 ·repeat' (first|(with_reducible first|apply qA|apply qB|apply qC|apply qD|apply qE|apply qF)|(refine qL rfl (WF.of ?_) ?_; first|rfl|skip)|(simp (disch:=omega) only [go_sem, simprocAttr, qN, qO, qP, qQ])|exact qM rfl rfl rfl|(refine qG rfl ?_)|(refine qH rfl ?_)|(refine qI rfl ?_ ?_<;>intro hc<;>(try simp only [go_sem] at hc))|(refine qJ ?_ ?_<;>intro hc<;>(try simp only [hc])<;>(try simp only [go_sem] at hc)))
  refine DW.loop (ι := { i : Nat // i ≤ 2 }) (fun i => ⟨109, [(7, dI i.1), (3, .box 3 0), (2, .box 2 0), (1, .box 1 0)], [(106, .row 4 (rowC (rows eF (List.take i.1 [F0, F1])))), (65, .row 8 (rowC (rows eP [P0, P1, P2]))), (3, .box [.own 65, .own 106]), (2, .box [.c (.v (.slice none 0 0)), .c (.v (.slice none 0 0))]), (1, .box [d8 p0.v0, d8 p0.v1, d8 p0.v2, d8 p0.v3, d8 p1.v0, d8 p1.v1, d8 p1.v2, d8 p1.v3, d8 p2.v0, d8 p2.v1, d8 p2.v2, d8 p2.v3, d8 f0.v0, d8 f0.v1, d8 f0.v2, d8 f1.v0, d8 f1.v1, d8 f1.v2, d8 b0, d8 b1, d8 b2, d8 b3, d8 b4, d8 b5, d8 b6])]⟩) (fun i => 2 - i.1) ⟨0, by omega⟩ ?_ ?_
  ·refine Ent.to ?_ ?_ <;> simp (disch:=omega) only [qR,qS,qTw,qU,get,Nat.reduceEqDiff,↓reduceIte,qV,qW,qX,qY,qZ,and_self,dI,i64_in,and_true,true_and,rA,rB,rC,rD]
   all_goals exact .refl _
  rintro ⟨i, hi⟩
  dsimp only
  rcases (by omega : i = 0 ∨ i = 1 ∨ i = 2) with rfl | rfl | rfl
  ·have q0 := h3.v0
   have q1 := h3.v1
   have q2 := h3.v2
   have q3 := pbFlu_draw h3
   have q4 : f0.v2 % 200 < 200 := Nat.mod_lt _ (by decide)
   have q5 : ((400 : Int) = 0) = False := by decide
   have c1 := pbSpan (1000 + 8 * (f0.v1 : Int)) (1000 + 8 * (f0.v1 : Int) + ((f0.v2 % 200 : Nat) : Int))
   repeat' (first|(with_reducible first|apply qA|apply qB|apply qC|apply qD|apply qE|apply qF)|(refine qL rfl (WF.of ?_) ?_; first|rfl|skip)|(simp (disch:=omega) only [go_sem, simprocAttr, qN, qO, qP, qQ, t200, q5, hG0])|exact qM rfl rfl rfl|(refine qG rfl ?_)|(refine qK (c1) (by decide) ?_)|(refine qH rfl ?_)|(refine qI rfl ?_ ?_<;>intro hc<;>(try simp only [go_sem] at hc))|(refine qJ ?_ ?_<;>intro hc<;>(try simp only [hc])<;>(try simp only [go_sem] at hc)))
   refine ⟨⟨1, by omega⟩, ?_, Ent.to ?_ ?_⟩ <;> first | (show _ < _; (try simp only); omega) | (simp (disch:=omega) only [qR,qS,qTw,qU,get,Nat.reduceEqDiff,↓reduceIte,qV,qW,qX,qY,qZ,and_self,dI,i64_in,and_true,true_and,rA,rB,rC,rD, hG0])
   all_goals exact .refl _
  ·have q0 := h4.v0
   have q1 := h4.v1
   have q2 := h4.v2
   have q3 := pbFlu_draw h4
   have q4 : f1.v2 % 200 < 200 := Nat.mod_lt _ (by decide)
   have q5 : ((400 : Int) = 0) = False := by decide
   have c1 := pbSpan (1000 + 8 * (f1.v1 : Int)) (1000 + 8 * (f1.v1 : Int) + ((f1.v2 % 200 : Nat) : Int))
   repeat' (first|(with_reducible first|apply qA|apply qB|apply qC|apply qD|apply qE|apply qF)|(refine qL rfl (WF.of ?_) ?_; first|rfl|skip)|(simp (disch:=omega) only [go_sem, simprocAttr, qN, qO, qP, qQ, t200, q5, hG1])|exact qM rfl rfl rfl|(refine qG rfl ?_)|(refine qK (c1) (by decide) ?_)|(refine qH rfl ?_)|(refine qI rfl ?_ ?_<;>intro hc<;>(try simp only [go_sem] at hc))|(refine qJ ?_ ?_<;>intro hc<;>(try simp only [hc])<;>(try simp only [go_sem] at hc)))
   refine ⟨⟨2, by omega⟩, ?_, Ent.to ?_ ?_⟩ <;> first | (show _ < _; (try simp only); omega) | (simp (disch:=omega) only [qR,qS,qTw,qU,get,Nat.reduceEqDiff,↓reduceIte,qV,qW,qX,qY,qZ,and_self,dI,i64_in,and_true,true_and,rA,rB,rC,rD, hG1])
   all_goals exact .refl _
  ·(refine DW.ent (Ent.rel 106 rfl) ?_; simp (disch:=omega) only [go_sem,simprocAttr,qN,qO,qP,qQ])
   repeat' (first|(with_reducible first|apply qA|apply qB|apply qC|apply qD|apply qE|apply qF)|(refine qL rfl (WF.of ?_) ?_; first|rfl|skip)|(simp (disch:=omega) only [go_sem, simprocAttr, qN, qO, qP, qQ])|exact qM rfl rfl rfl|(refine qG rfl ?_)|(refine qH rfl ?_)|(refine qI rfl ?_ ?_<;>intro hc<;>(try simp only [go_sem] at hc))|(refine qJ ?_ ?_<;>intro hc<;>(try simp only [hc])<;>(try simp only [go_sem] at hc)))
   refine retS_bs rfl rfl (by simp only [D.nb, D.nbs, C.nb, C.nbs, rows_nb eF_nb, Bool.and_true, Bool.not_false, Bool.and_self]) (get_all (p := fun k x => get k _ = some x ∧ x.nb = true) ?_)
   intro q hq
   simp only [List.mem_cons, List.not_mem_nil, or_false] at hq
   subst hq
   exact ⟨rfl, rowC_nb (n := 8) (rows_nb eP_nb [P0, P1, P2])⟩
theorem pbStoreP (x : FoldY) (h : x.ok) (k : Nat) : DCall Try.prog 22 [dFold x] [] (.agg [.own k, .c (.sl false 4 (rows eF (pbSto 2000 x).flutes))]) [(k, .row 8 (rowC (rows eP (pbSto 2000 x).papers)))] := by
 have e1 : swD 65 k (.agg [.own 65, .c (.sl false 4 (rows eF (pbSto 2000 x).flutes))]) = .agg [.own k, .c (.sl false 4 (rows eF (pbSto 2000 x).flutes))] := by
  simp [swD, swDs, swk]
 have e2 : swX 65 k [(65, .row 8 (rowC (rows eP (pbSto 2000 x).papers)))] = [(k, .row 8 (rowC (rows eP (pbSto 2000 x).papers)))] := by
  simp [swX, swB, swk, sw_rowC]
 have h1 := pbStore x h
 have := DCall.swap 65 k (by rw [e1, e2]; exact own1_ok k _) h1
 rwa [e1, e2] at this
end Go.Dw.Seat
end
section
set_option linter.unusedSimpArgs false
set_option maxRecDepth 100000
namespace Go.Dw.Seat
open Go Go.Dw Go.Proofs Go.IntWalk
theorem quote_law {a C B S W : Int} (ha : 0 ≤ a) (hS : 0 ≤ S) (hW : 1 ≤ W) (hC : C = (S + 1000 * W - 1).tdiv (1000 * W)) (hB : B = (a * C * 10000000 + 10000000000 - 1).tdiv 10000000000) (hac : 0 ≤ a * C) :
  a * S ≤ B * 1000000 * W ∧ (B * 1000 - a - 1000) * 1000 * W < a * S := by
 rw [Int.tdiv_eq_ediv_of_nonneg (by omega)] at hC hB
 have c1 : C * (1000 * W) ≤ S + 1000 * W - 1 := by rw [hC]; exact Int.ediv_mul_le _ (by omega)
 have c2 : S + 1000 * W - 1 < (C + 1) * (1000 * W) := by rw [hC]; exact Int.lt_ediv_add_one_mul_self _ (by omega)
 have c3 : (C + 1) * (1000 * W) = C * (1000 * W) + 1000 * W := by rw [Int.add_mul, Int.one_mul]
 have b1 : 1000 * B ≤ a * C + 999 := by omega
 have b2 : a * C ≤ 1000 * B := by omega
 have e1 : a * S ≤ a * (C * (1000 * W)) := Int.mul_le_mul_of_nonneg_left (by omega) ha
 have e2 : a * (C * (1000 * W)) = (a * C) * (1000 * W) := by rw [Int.mul_assoc]
 have e3 : (a * C) * (1000 * W) ≤ (1000 * B) * (1000 * W) := Int.mul_le_mul_of_nonneg_right b2 (by omega)
 have e4 : (1000 * B) * (1000 * W) = B * 1000000 * W := by
  rw [Int.mul_comm 1000 B, Int.mul_assoc, ← Int.mul_assoc 1000 1000 W, ← Int.mul_assoc]; rfl
 have f1 : (B * 1000 - a - 1000) * 1000 * W ≤ (a * C - a - 1) * 1000 * W := Int.mul_le_mul_of_nonneg_right (by omega) (by omega)
 have f2 : (a * C - a - 1) * 1000 * W = a * (C * (1000 * W)) - a * (1000 * W) - 1000 * W := by
  rw [Int.mul_assoc, Int.sub_mul, Int.sub_mul, Int.one_mul, Int.mul_assoc]
 have f3 : a * (C * (1000 * W)) ≤ a * (S + 1000 * W - 1) := Int.mul_le_mul_of_nonneg_left c1 ha
 have f4 : a * (S + 1000 * W - 1) = a * S + a * (1000 * W) - a := by rw [Int.mul_sub, Int.mul_add, Int.mul_one]
 omega
def pbW (x : FoldY) : Int := 2000 + 20 * (x.f0.v0 : Int)
def pbD (x : FoldY) : Int := 2000 + 20 * (x.f0.v0 : Int) + ((2000 + 20 * (x.f0.v0 : Int)) * (x.f0.v2 : Int)).tdiv 400
theorem pb_whole (x : FoldY) : wholeI (pbSto 200 x) pbM = pbW x := Int.one_mul _
theorem pb_layers {x : FoldY} (h : x.ok) : layersL (pbSto 200 x) pbM = [(0, pbW x), (1, pbD x), (2, pbW x)] := by
 have e : partsAt (pbSto 200 x) pbM 1 = pbD x := by
  show (wholeI (pbSto 200 x) pbM).tdiv (pbW x) * pbD x = pbD x
  rw [pb_whole, Int.tdiv_self (by unfold pbW; omega), Int.one_mul]
 have e0 : layersL (pbSto 200 x) pbM = [(0, wholeI (pbSto 200 x) pbM), (1, partsAt (pbSto 200 x) pbM 1), (2, wholeI (pbSto 200 x) pbM)] := rfl
 rw [e0, e, pb_whole]
theorem pb_use {x : FoldY} (h : x.ok) : useK (pbSto 200 x) pbM 0 = pbW x ∧ useK (pbSto 200 x) pbM 1 = pbD x ∧ useK (pbSto 200 x) pbM 2 = pbW x := by
 unfold useK
 rw [pb_layers h]
 refine ⟨?_, ?_, ?_⟩ <;> simp [useN]
theorem pb_sum {x : FoldY} (h : x.ok) : sumI priceP (pbSto 200 x) pbM = (80 + (x.p0.v0 : Int)) * (200 * (x.p0.v0 : Int)) * pbW x + (80 + (x.p1.v0 : Int)) * (200 * (x.p1.v0 : Int)) * pbD x + (80 + (x.p2.v0 : Int)) * (200 * (x.p2.v0 : Int)) * pbW x := by
 unfold sumI
 rw [pb_layers h]
 show 0 + _ + _ + _ = _
 rw [Int.zero_add]
 rfl
theorem pbD_b {x : FoldY} (h : x.ok) : pbW x ≤ pbD x ∧ pbD x ≤ 2 * pbW x := by
 have := pbFlu_draw h.f0
 unfold pbW pbD
 omega
theorem rat_law {N W : Nat} (hW : 0 < W) : (1 ≤ W / Nat.gcd N W) ∧ W % (W / Nat.gcd N W) = 0 ∧ W / (W / Nat.gcd N W) = Nat.gcd N W ∧ N / Nat.gcd N W * Nat.gcd N W = N := by
 have hg : 0 < Nat.gcd N W := Nat.gcd_pos_of_pos_right N hW
 obtain ⟨c, hc⟩ := Nat.gcd_dvd_right N W
 have h1 : W / Nat.gcd N W = c := Nat.div_eq_of_eq_mul_right hg hc
 have hc0 : 0 < c := by
  rcases Nat.eq_zero_or_pos c with h | h
  ·rw [h] at hc; omega
  ·exact h
 rw [h1]
 refine ⟨hc0, ?_, ?_, Nat.div_mul_cancel (Nat.gcd_dvd_left N W)⟩
 ·exact Nat.mod_eq_zero_of_dvd ⟨Nat.gcd N W, by rw [Nat.mul_comm]; exact hc⟩
 ·exact Nat.div_eq_of_eq_mul_left hc0 hc
end Go.Dw.Seat
end
section
set_option linter.unusedSimpArgs false
set_option maxRecDepth 100000
namespace Go.Dw.Seat
open Go Go.Dw Go.Proofs Go.IntWalk
theorem t10 (m : Nat) : (m : Int).tmod 10 = ((m % 10 : Nat) : Int) := tmodN m 10
theorem rowC_setQ (l : List Pap) (i : Nat) (p : Pap) : List.set (rowC (rows eP l)) i [D.c (.v (.int .i64 p.kind)), D.c (.v (.int .i64 p.weight)), D.c (.v (.int .i64 p.tl)), D.c (.v (.int .i64 p.th)), D.c (.v (.int .i64 p.ml)), D.c (.v (.int .i64 p.mh)), D.c (.v (.int .i64 p.price)), D.c (.v (.int .i64 p.strong))] = rowC (rows eP (List.set l i p)) := by simp [rowC, rows, List.map_set, eP]
def newPr (p : Pap) (c : Int) : Pap := ⟨p.kind, p.weight, p.tl, p.th, p.ml, p.mh, c, p.strong⟩
def pbTo (x : FoldY) (i : Nat) : List Pap := (pbPaps 200 x).take i ++ (pbPaps 2000 x).drop i
theorem weakW0 {f : FuncId} {l as' : List D} {bi : List (Nat × Blk)} {r : D} {bo : List (Nat × Blk)} (h : DCall Try.prog f as' bi r bo) (hw : Wks l as') : DCall Try.prog f l bi r bo :=
 ⟨h.1, h.2.1, fun N G w vs hN hd hh hvs => h.2.2 N G w vs hN hd hh (Wks.sound hw hvs)⟩
structure PbF (x : FoldY) (n mt : Int) : Prop where
 area : 1 ≤ n * mt ∧ n * mt ≤ 10210
 cost : 0 ≤ costI (pbSto 200 x) pbM ∧ costI (pbSto 200 x) pbM ≤ 68341
 sum : 0 ≤ sumI priceP (pbSto 200 x) pbM ∧ sumI priceP (pbSto 200 x) pbM ≤ 68340000 * pbW x
theorem pb_facts {x : FoldY} (h : x.ok) {n mt : Int} (hn : 1 ≤ n ∧ n ≤ 1021) (hmt : 1 ≤ mt ∧ mt ≤ 10) : PbF x n mt := by
 have hD := pbD_b h
 have hWb : 2000 ≤ pbW x ∧ pbW x ≤ 7100 := by have := h.f0.v0; unfold pbW; omega
 have key : ∀ v : Nat, v < 256 → ∀ y : Int, 0 ≤ y → 0 ≤ (80 + (v : Int)) * (200 * (v : Int)) * y ∧ (80 + (v : Int)) * (200 * (v : Int)) * y ≤ 17085000 * y := fun v hv y hy => by
  have := mulB0 (a := 80 + (v : Int)) (b := 200 * (v : Int)) (A := 335) (B := 51000) (by omega) (by omega)
  exact ⟨Int.mul_nonneg this.1 hy, Int.mul_le_mul_of_nonneg_right (by omega) hy⟩
 have k0 := key _ h.p0.v0 (pbW x) (by omega)
 have k1 := key _ h.p1.v0 (pbD x) (by omega)
 have k2 := key _ h.p2.v0 (pbW x) (by omega)
 have hS := pb_sum h
 have hSb : 0 ≤ sumI priceP (pbSto 200 x) pbM ∧ sumI priceP (pbSto 200 x) pbM ≤ 68340000 * pbW x := by rw [hS]; omega
 refine ⟨⟨?_, ?_⟩, ?_, hSb⟩
 ·have := Int.mul_pos (show 0 < n by omega) (show 0 < mt by omega)
  omega
 ·have := mulB0 (a := n) (b := mt) (A := 1021) (B := 10) (by omega) (by omega)
  omega
 ·unfold costI
  rw [pb_whole]
  generalize sumI priceP (pbSto 200 x) pbM = S at *
  generalize pbW x = W at *
  rw [Int.tdiv_eq_ediv_of_nonneg (by omega)]
  refine ⟨Int.ediv_nonneg (by omega) (by omega), ?_⟩
  refine Int.le_of_lt_add_one (Int.ediv_lt_of_lt_mul (by omega) ?_)
  omega
def pbN (x : FoldY) (a : Int) (k : Nat) : Int := useK (pbSto 200 x) pbM k * (papAt (pbSto 200 x) k).weight * a
def pbAll (x : FoldY) (a : Int) : Nat → Int
 | 0 => 0
 | k + 1 => pbAll x a k + pbN x a k * (papAt (pbSto 200 x) k).price
theorem pb_pap (x : FoldY) (h : x.ok) {k : Nat} (hk : k < 3) : ∃ v : Nat, v < 256 ∧ (papAt (pbSto 200 x) k).weight = 80 + (v : Int) ∧ (papAt (pbSto 200 x) k).price = 200 * (v : Int) := by
 rcases (by omega : k = 0 ∨ k = 1 ∨ k = 2) with rfl | rfl | rfl
 ·exact ⟨x.p0.v0, h.p0.v0, rfl, rfl⟩
 ·exact ⟨x.p1.v0, h.p1.v0, rfl, rfl⟩
 ·exact ⟨x.p2.v0, h.p2.v0, rfl, rfl⟩
theorem pbN_b {x : FoldY} (h : x.ok) {a : Int} (ha : 0 ≤ a ∧ a ≤ 10210) {k : Nat} (hk : k < 3) : (0 ≤ pbN x a k ∧ pbN x a k ≤ 50000000000) ∧ (0 ≤ (papAt (pbSto 200 x) k).price ∧ (papAt (pbSto 200 x) k).price ≤ 51000) ∧ (0 ≤ pbN x a k * (papAt (pbSto 200 x) k).price ∧ pbN x a k * (papAt (pbSto 200 x) k).price ≤ 2550000000000000) := by
 obtain ⟨v, hv, e1, e2⟩ := pb_pap x h hk
 have hD := pbD_b h
 have hW : 2000 ≤ pbW x ∧ pbW x ≤ 7100 := by have := h.f0.v0; unfold pbW; omega
 have hu := pb_use h
 have hU : 0 ≤ useK (pbSto 200 x) pbM k ∧ useK (pbSto 200 x) pbM k ≤ 14200 := by
  rcases (by omega : k = 0 ∨ k = 1 ∨ k = 2) with rfl | rfl | rfl
  ·rw [hu.1]; omega
  ·rw [hu.2.1]; omega
  ·rw [hu.2.2]; omega
 unfold pbN
 rw [e1, e2]
 have m1 := mulB0 (b := 80 + (v : Int)) (A := 14200) (B := 335) hU (by omega)
 have m2 := mulB0 (b := a) (A := 4757000) (B := 10210) (by omega : 0 ≤ useK (pbSto 200 x) pbM k * (80 + (v : Int)) ∧ _ ≤ _) ha
 have m3 := mulB0 (b := 200 * (v : Int)) (A := 50000000000) (B := 51000) (by omega : 0 ≤ useK (pbSto 200 x) pbM k * (80 + (v : Int)) * a ∧ _ ≤ _) (by omega)
 omega
theorem pbAll_b {x : FoldY} (h : x.ok) {a : Int} (ha : 0 ≤ a ∧ a ≤ 10210) : ∀ k, k ≤ 3 → 0 ≤ pbAll x a k ∧ pbAll x a k ≤ 2550000000000000 * (k : Int)
 | 0, _ => by simp [pbAll]
 | k + 1, hk => by
  have ih := pbAll_b h ha k (by omega)
  have := pbN_b h ha (show k < 3 by omega)
  rw [pbAll]
  omega
theorem pbAll_eq {x : FoldY} (h : x.ok) (a : Int) : pbAll x a 3 = a * sumI priceP (pbSto 200 x) pbM := by
 have hu := pb_use h
 rw [pb_sum h]
 simp only [pbAll, pbN, hu.1, hu.2.1, hu.2.2]
 have key : ∀ (U w p : Int), U * w * a * p = a * (w * p * U) := fun U w p => by
  rw [Int.mul_comm (U * w) a, Int.mul_assoc a, Int.mul_assoc U, Int.mul_comm U]
 rw [key, key, key, Int.zero_add, ← Int.mul_add, ← Int.mul_add]
 rfl
structure PbR (x : FoldY) (a : Int) (k num den g : Nat) : Prop where
 rat : useRat (pbSto 200 x) pbM a k = (num, den)
 pos : 1 ≤ den
 rem : (pbW x).tmod (den : Int) = 0
 quo : (pbW x).tdiv (den : Int) = (g : Int)
 mul : (num : Int) * (g : Int) = pbN x a k
 le : (num : Int) ≤ 50000000000
theorem pb_rat {x : FoldY} (h : x.ok) {a : Int} (ha : 0 ≤ a ∧ a ≤ 10210) {k : Nat} (hk : k < 3) : ∃ num den g, PbR x a k num den g := by
 have hb := (pbN_b h ha hk).1
 obtain ⟨W, hW⟩ : ∃ W : Nat, pbW x = (W : Int) := ⟨(pbW x).toNat, by have := h.f0.v0; unfold pbW; omega⟩
 have hW0 : 0 < W := by have := h.f0.v0; unfold pbW at hW; omega
 obtain ⟨N, hN⟩ : ∃ N : Nat, pbN x a k = (N : Int) := ⟨(pbN x a k).toNat, by omega⟩
 have r := rat_law (N := N) hW0
 have e : useRat (pbSto 200 x) pbM a k = (N / Nat.gcd N W, W / Nat.gcd N W) := by
  unfold useRat useNum
  rw [pb_whole, hW]
  have : (useK (pbSto 200 x) pbM k * (papAt (pbSto 200 x) k).weight * a).toNat = N := by
   have : useK (pbSto 200 x) pbM k * (papAt (pbSto 200 x) k).weight * a = (N : Int) := hN
   rw [this]; rfl
  rw [this]; rfl
 refine ⟨_, _, Nat.gcd N W, e, r.1, ?_, ?_, ?_, ?_⟩
 ·rw [hW, tmodN, r.2.1]; rfl
 ·rw [hW, tdivN, r.2.2.1]
 ·rw [hN, ← Int.natCast_mul, r.2.2.2]
 ·have := Nat.div_le_self N (Nat.gcd N W)
  omega
set_option maxHeartbeats 16000000 in
theorem tpQuoteBoard (x : FoldY) (h : x.ok) (va vb : Nat) (hva : va < 256) (hvb : vb < 256) :
  DCall Try.prog 4 [dFold x, .agg [d8 va, d8 vb]] [] (bD true) [] := by
 have c1 := pbStoreP x h 21
 have hs := pbSto_ok (c := 200) (by decide) h
 have hm := pbM_ok 200 x
 obtain ⟨p0, p1, p2, f0, f1, bs⟩ := x
 obtain ⟨b0, b1, b2, b3, b4, b5, b6, rfl⟩ : ∃ b0 b1 b2 b3 b4 b5 b6, bs = [b0, b1, b2, b3, b4, b5, b6] := by
  have hl := h.len
  match bs, hl with
  | [b0, b1, b2, b3, b4, b5, b6], _ => exact ⟨_, _, _, _, _, _, _, rfl⟩
 generalize hx : (⟨p0, p1, p2, f0, f1, [b0, b1, b2, b3, b4, b5, b6]⟩ : FoldY) = x at *
 have hxf : dFold x = .agg [d8 p0.v0, d8 p0.v1, d8 p0.v2, d8 p0.v3, d8 p1.v0, d8 p1.v1, d8 p1.v2, d8 p1.v3, d8 p2.v0, d8 p2.v1, d8 p2.v2, d8 p2.v3, d8 f0.v0, d8 f0.v1, d8 f0.v2, d8 f1.v0, d8 f1.v1, d8 f1.v2, d8 b0, d8 b1, d8 b2, d8 b3, d8 b4, d8 b5, d8 b6] := by rw [← hx]; rfl
 rw [hxf] at c1 ⊢
 have hP0 : (pbSto 2000 x).papers = pbTo x 0 := rfl
 have hF0 : (pbSto 2000 x).flutes = (pbSto 200 x).flutes := rfl
 rw [hP0, hF0] at c1
 have q0 : p0.v0 < 256 := by have := h.p0.v0; rw [← hx] at this; exact this
 have q1 : p1.v0 < 256 := by have := h.p1.v0; rw [← hx] at this; exact this
 have q2 : p2.v0 < 256 := by have := h.p2.v0; rw [← hx] at this; exact this
 refine DCall.of Try.func4 sf4 hb4 (Nat.le_of_ble_eq_true rfl) (okRes_nil fun _ => rfl) ?_; simp only [s4, idxs, Nat.reduceAdd]
 repeat' (first|(with_reducible first|apply qA|apply qB|apply qC|apply qD|apply qE|apply qF)|(refine qL rfl (WF.of ?_) ?_; first|rfl|skip)|(simp (disch:=omega) only [go_sem, simprocAttr, qN, qO, qP, qQ])|exact qM rfl rfl rfl|(refine qG rfl ?_)|(refine qH rfl ?_)|(refine qI rfl ?_ ?_<;>intro hc<;>(try simp only [go_sem] at hc))|(refine qJ ?_ ?_<;>intro hc<;>(try simp only [hc])<;>(try simp only [go_sem] at hc)))
 (refine call_r (c1) (by decide) (by first | rfl | simp (disch:=omega) only [go_sem,simprocAttr,qN,qO,qP,qQ]) (by first | rfl | simp (disch:=omega) only [go_sem,simprocAttr,qN,qO,qP,qQ]) ?_; simp (disch:=omega) only [go_sem,simprocAttr,qN,qO,qP,qQ])
 repeat' (first|(with_reducible first|apply qA|apply qB|apply qC|apply qD|apply qE|apply qF)|(refine qL rfl (WF.of ?_) ?_; first|rfl|skip)|(simp (disch:=omega) only [go_sem, simprocAttr, qN, qO, qP, qQ])|exact qM rfl rfl rfl|(refine qG rfl ?_)|(refine qH rfl ?_)|(refine qI rfl ?_ ?_<;>intro hc<;>(try simp only [go_sem] at hc))|(refine qJ ?_ ?_<;>intro hc<;>(try simp only [hc])<;>(try simp only [go_sem] at hc)))
 have hg0 : (pbTo x 0)[0]? = some (pbPap 2000 0 p0) := by rw [← hx]; rfl
 have hg1 : (pbTo x 1)[1]? = some (pbPap 2000 1 p1) := by rw [← hx]; rfl
 have hg2 : (pbTo x 2)[2]? = some (pbPap 2000 2 p2) := by rw [← hx]; rfl
 have hs0 : (pbTo x 0).set 0 (newPr (pbPap 2000 0 p0) (200 * (p0.v0 : Int))) = pbTo x 1 := by rw [← hx]; rfl
 have hs1 : (pbTo x 1).set 1 (newPr (pbPap 2000 1 p1) (200 * (p1.v0 : Int))) = pbTo x 2 := by rw [← hx]; rfl
 have hs2 : (pbTo x 2).set 2 (newPr (pbPap 2000 2 p2) (200 * (p2.v0 : Int))) = pbTo x 3 := by rw [← hx]; rfl
 have hl0 : (0 < (pbTo x 0).length) = True := eq_true (by show 0 < 3; decide)
 have hl1 : (1 < (pbTo x 1).length) = True := eq_true (by show 1 < 3; decide)
 have hl2 : (2 < (pbTo x 2).length) = True := eq_true (by show 2 < 3; decide)
 have he0 := rowC_setQ (pbTo x 0) 0 (newPr (pbPap 2000 0 p0) (200 * (p0.v0 : Int)))
 have he1 := rowC_setQ (pbTo x 1) 1 (newPr (pbPap 2000 1 p1) (200 * (p1.v0 : Int)))
 have he2 := rowC_setQ (pbTo x 2) 2 (newPr (pbPap 2000 2 p2) (200 * (p2.v0 : Int)))
 rw [hs0] at he0
 rw [hs1] at he1
 rw [hs2] at he2
 have hT3 : pbTo x 3 = (pbSto 200 x).papers := rfl
 clear hs0 hs1 hs2
 refine DW.loop (ι := { i : Nat // i ≤ 3 }) (fun i => ⟨196, [(6, dI i.1), (5, .box 5 0), (3, .box 3 0), (2, .box 2 0)], [(21, .row 8 (rowC (rows eP (pbTo x i.1)))), (5, .box [.own 21, .c (.sl false 4 (rows eF (pbSto 200 x).flutes))]), (3, .box [d8 va, d8 vb]), (2, .box [d8 p0.v0, d8 p0.v1, d8 p0.v2, d8 p0.v3, d8 p1.v0, d8 p1.v1, d8 p1.v2, d8 p1.v3, d8 p2.v0, d8 p2.v1, d8 p2.v2, d8 p2.v3, d8 f0.v0, d8 f0.v1, d8 f0.v2, d8 f1.v0, d8 f1.v1, d8 f1.v2, d8 b0, d8 b1, d8 b2, d8 b3, d8 b4, d8 b5, d8 b6])]⟩) (fun i => 3 - i.1) ⟨0, by omega⟩ ?_ ?_
 ·refine Ent.to ?_ ?_ <;> simp (disch:=omega) only [qR,qS,qTw,qU,get,Nat.reduceEqDiff,↓reduceIte,qV,qW,qX,qY,qZ,and_self,dI,i64_in,and_true,true_and,rA,rB,rC,rD]
  all_goals exact .refl _
 rintro ⟨i, hi⟩
 dsimp only
 simp only [newPr] at he0 he1 he2
 rcases (by omega : i = 0 ∨ i = 1 ∨ i = 2 ∨ i = 3) with rfl | rfl | rfl | rfl
 ·generalize pbPap 2000 0 p0 = P at *
  generalize hA : pbTo x 0 = A at *
  generalize hB : pbTo x 1 = B at *
  repeat' (first|(with_reducible first|apply qA|apply qB|apply qC|apply qD|apply qE|apply qF)|(refine qL rfl (WF.of ?_) ?_; first|rfl|skip)|(simp (disch:=omega) only [go_sem, simprocAttr, qN, qO, qP, qQ, hg0, hl0, he0, rF, rG])|exact qM rfl rfl rfl|(refine qG rfl ?_)|(refine qH rfl ?_)|(refine qI rfl ?_ ?_<;>intro hc<;>(try simp only [go_sem] at hc))|(refine qJ ?_ ?_<;>intro hc<;>(try simp only [hc])<;>(try simp only [go_sem] at hc)))
  refine ⟨⟨1, by omega⟩, ?_, Ent.to ?_ ?_⟩ <;> first | (show _ < _; (try simp only); omega) | (simp (disch:=omega) only [qR,qS,qTw,qU,get,Nat.reduceEqDiff,↓reduceIte,qV,qW,qX,qY,qZ,and_self,dI,i64_in,and_true,true_and,rA,rB,rC,rD, he0,hB])
  all_goals exact .refl _
 ·generalize pbPap 2000 1 p1 = P at *
  generalize hA : pbTo x 1 = A at *
  generalize hB : pbTo x 2 = B at *
  repeat' (first|(with_reducible first|apply qA|apply qB|apply qC|apply qD|apply qE|apply qF)|(refine qL rfl (WF.of ?_) ?_; first|rfl|skip)|(simp (disch:=omega) only [go_sem, simprocAttr, qN, qO, qP, qQ, hg1, hl1, he1, rF, rG])|exact qM rfl rfl rfl|(refine qG rfl ?_)|(refine qH rfl ?_)|(refine qI rfl ?_ ?_<;>intro hc<;>(try simp only [go_sem] at hc))|(refine qJ ?_ ?_<;>intro hc<;>(try simp only [hc])<;>(try simp only [go_sem] at hc)))
  refine ⟨⟨2, by omega⟩, ?_, Ent.to ?_ ?_⟩ <;> first | (show _ < _; (try simp only); omega) | (simp (disch:=omega) only [qR,qS,qTw,qU,get,Nat.reduceEqDiff,↓reduceIte,qV,qW,qX,qY,qZ,and_self,dI,i64_in,and_true,true_and,rA,rB,rC,rD, he1,hB])
  all_goals exact .refl _
 ·generalize pbPap 2000 2 p2 = P at *
  generalize hA : pbTo x 2 = A at *
  generalize hB : pbTo x 3 = B at *
  repeat' (first|(with_reducible first|apply qA|apply qB|apply qC|apply qD|apply qE|apply qF)|(refine qL rfl (WF.of ?_) ?_; first|rfl|skip)|(simp (disch:=omega) only [go_sem, simprocAttr, qN, qO, qP, qQ, hg2, hl2, he2, rF, rG])|exact qM rfl rfl rfl|(refine qG rfl ?_)|(refine qH rfl ?_)|(refine qI rfl ?_ ?_<;>intro hc<;>(try simp only [go_sem] at hc))|(refine qJ ?_ ?_<;>intro hc<;>(try simp only [hc])<;>(try simp only [go_sem] at hc)))
  refine ⟨⟨3, by omega⟩, ?_, Ent.to ?_ ?_⟩ <;> first | (show _ < _; (try simp only); omega) | (simp (disch:=omega) only [qR,qS,qTw,qU,get,Nat.reduceEqDiff,↓reduceIte,qV,qW,qX,qY,qZ,and_self,dI,i64_in,and_true,true_and,rA,rB,rC,rD, he2,hB])
  all_goals exact .refl _
 ·clear hg0 hg1 hg2 hl0 hl1 hl2 he0 he1 he2 c1 hP0
  rw [hT3]
  (refine DW.ent (Ent.rel 21 rfl) ?_; simp (disch:=omega) only [go_sem,simprocAttr,qN,qO,qP,qQ])
  have hmt : vb % 10 < 10 := Nat.mod_lt _ (by decide)
  obtain ⟨n, hn⟩ : ∃ n : Int, 1 + (va : Int) * 4 = n := ⟨_, rfl⟩
  obtain ⟨mt, hm'⟩ : ∃ mt : Int, 1 + ((vb % 10 : Nat) : Int) = mt := ⟨_, rfl⟩
  have hf := pb_facts h (n := n) (mt := mt) (by omega) (by omega)
  have hfa := hf.area
  have hfc := hf.cost
  have c2 := pbOwn false (pbSto 200 x) (by show 3 ≤ 1000; decide) (by show 2 ≤ 1000; decide)
  have c3 := pbSingle
  have c4 := bdCost (pbSto 200 x) pbM hs hm
  have c6 := bdUse (pbSto 200 x) pbM hs hm (n * mt) (by omega)
  have hq := prQuote ⟨10000 * mt, costI (pbSto 200 x) pbM, 0, 0, 0, 1, 0, 1, 0, 0, []⟩ (by constructor <;> first | (dsimp only; omega) | simp) n (by omega)
  have hB : costB ⟨10000 * mt, costI (pbSto 200 x) pbM, 0, 0, 0, 1, 0, 1, 0, 0, []⟩ n = (n * mt * costI (pbSto 200 x) pbM * 10000000 + 10000000000 - 1).tdiv 10000000000 := by
   show (n * (10000 * mt) * (1000 + 0) * costI (pbSto 200 x) pbM + 10000000000 - 1).tdiv 10000000000 = _
   have e1 : n * (10000 * mt) * (1000 + 0) = n * mt * 10000000 := by rw [Int.mul_left_comm]; omega
   rw [e1, Int.mul_right_comm]
  have hql := quote_law (a := n * mt) (by omega) hf.sum.1 (by have := h.f0.v0; unfold pbW; omega : 1 ≤ pbW x) (by unfold costI; rw [pb_whole]) hB (Int.mul_nonneg (by omega) hfc.1)
  have hBb : 0 ≤ costB ⟨10000 * mt, costI (pbSto 200 x) pbM, 0, 0, 0, 1, 0, 1, 0, 0, []⟩ n ∧ costB ⟨10000 * mt, costI (pbSto 200 x) pbM, 0, 0, 0, 1, 0, 1, 0, 0, []⟩ n ≤ 1000000 := by
   rw [hB]
   have := mulB0 (a := n * mt) (b := costI (pbSto 200 x) pbM) (A := 10210) (B := 68341) (by omega) hfc
   generalize n * mt * costI (pbSto 200 x) pbM = y at *
   rw [Int.tdiv_eq_ediv_of_nonneg (by omega)]
   omega
  clear hB
  rw [dParts] at hq
  generalize costB ⟨10000 * mt, costI (pbSto 200 x) pbM, 0, 0, 0, 1, 0, 1, 0, 0, []⟩ n = B at *
  generalize costS ⟨10000 * mt, costI (pbSto 200 x) pbM, 0, 0, 0, 1, 0, 1, 0, 0, []⟩ n = B1 at *
  generalize costW ⟨10000 * mt, costI (pbSto 200 x) pbM, 0, 0, 0, 1, 0, 1, 0, 0, []⟩ n = B2 at *
  generalize costF ⟨10000 * mt, costI (pbSto 200 x) pbM, 0, 0, 0, 1, 0, 1, 0, 0, []⟩ n = B3 at *
  generalize priceQ ⟨10000 * mt, costI (pbSto 200 x) pbM, 0, 0, 0, 1, 0, 1, 0, 0, []⟩ n = B4 at *
  have hq : DCall Try.prog 26 [.agg [dI (10000 * mt), dI (costI (pbSto 200 x) pbM), dI 0, dI 0, dI 0, dI 1, dI 0, dI 1, dI 0, dI 0, .c (.v (.slice none 0 0))], dI n] [] _ [] :=
   weakW0 hq (.cons (.agg (.cons (.refl _) (.cons (.refl _) (.cons (.refl _) (.cons (.refl _) (.cons (.refl _) (.cons (.refl _) (.cons (.refl _) (.cons (.refl _) (.cons (.refl _) (.cons (.refl _) (.cons (.nil false 2) .nil)))))))))))) (.cons (.refl _) .nil))
  have hul : ((useL (pbSto 200 x) pbM (n * mt) (pbSto 200 x).papers.length).length : Int) = 3 := by unfold useL; rw [List.length_map, List.length_range]; rfl
  have hfl : (pbSto 200 x).flutes[0]? = some (pbFlu f0) := by rw [← hx]; rfl
  have hfp : (pbFlu f0).pitch = pbW x := by rw [← hx]; rfl
  have k1 : decide (costI (pbSto 200 x) pbM < 0) = false := decide_eq_false (by omega)
  have k2 : decide (100000 < costI (pbSto 200 x) pbM) = false := decide_eq_false (by omega)
  have k3 : decide (B < 0) = false := decide_eq_false (by omega)
  have k4 : decide (10000000 < B) = false := decide_eq_false (by omega)
  have hbd := pbM_ok 200 x
  have hall := pbAll_eq h (n * mt)
  rw [← hall] at hql
  have hBW : B * 1000000 ≤ 1000000000000 := by omega
  have hWb : 2000 ≤ pbW x ∧ pbW x ≤ 7100 := by have := h.f0.v0; unfold pbW; omega
  have hm1 := mulB0 (a := B * 1000000) (b := pbW x) (A := 1000000000000) (B := 7100) (by omega) (by omega)
  have hpB := pbBoard
  have hpP := tpPrice
  generalize costI (pbSto 200 x) pbM = C at *
  repeat' (first|(with_reducible first|apply qA|apply qB|apply qC|apply qD|apply qE|apply qF)|(refine qL rfl (WF.of ?_) ?_; first|rfl|skip)|(simp (disch:=omega) only [go_sem, simprocAttr, qN, qO, qP, qQ, t10, hn, hm', hul, hfl, hfp, k1, k2, k3, k4])|exact qM rfl rfl rfl|(refine qG rfl ?_)|(refine qK (c2) (by decide) ?_)|(refine qK (c3) (by decide) ?_)|(refine qK (c4) (by decide) ?_)|(refine qK (hq) (by decide) ?_)|(refine qK (c6) (by decide) ?_)|(refine qH rfl ?_)|(refine qI rfl ?_ ?_<;>intro hc<;>(try simp only [go_sem] at hc))|(refine qJ ?_ ?_<;>intro hc<;>(try simp only [hc])<;>(try simp only [go_sem] at hc)))
  clear c2 c3 c4 hq c6
  refine DW.loop (ι := { i : Nat // i ≤ 3 }) (fun i => ⟨196, [(19, dI i.1), (18, dI (pbAll x (n * mt) i.1)), (17, dI (pbW x)), (15, .c (.sl false 2 (rows eRt (useL (pbSto 200 x) pbM (n * mt) (pbSto 200 x).papers.length)))), (12, .box 12 0), (11, dI (n * mt)), (5, .box 5 0)], [(12, .box [dI B, dI 0, dI B1, dI B2, dI B3]), (5, .box [.c (.sl false 8 (rows eP (pbSto 200 x).papers)), .c (.sl false 4 (rows eF (pbSto 200 x).flutes))])]⟩) (fun i => 3 - i.1) ⟨0, by omega⟩ ?_ ?_
  ·refine Ent.to ?_ ?_ <;> simp (disch:=omega) only [qR,qS,qTw,qU,get,Nat.reduceEqDiff,↓reduceIte,qV,qW,qX,qY,qZ,and_self,dI,i64_in,and_true,true_and,rA,rB,rC,rD,pbAll]
  rintro ⟨i, hi⟩
  dsimp only
  rcases Nat.lt_or_ge i 3 with hlt | hge
  ·obtain ⟨num, den, g, hr⟩ := pb_rat h (a := n * mt) (by omega) hlt
   obtain ⟨r1, r2, r3, r4, r5, r6⟩ := hr
   have hb := pbN_b h (a := n * mt) (by omega) hlt
   have hab := pbAll_b h (a := n * mt) (by omega) i (by omega)
   have hnx : pbAll x (n * mt) (i + 1) = pbAll x (n * mt) i + pbN x (n * mt) i * (papAt (pbSto 200 x) i).price := rfl
   have hget : (useL (pbSto 200 x) pbM (n * mt) (pbSto 200 x).papers.length)[i]? = some (num, den) := by
    rw [← r1]
    show ((List.range 3).map (useRat (pbSto 200 x) pbM (n * mt)))[i]? = _
    rw [List.getElem?_map, List.getElem?_range hlt]; rfl
   have hpp := papAt_get (s := pbSto 200 x) (n := i) hlt
   have hd : decide ((i : Int) < 3) = true := decide_eq_true (by omega)
   have d1 : decide ((den : Int) < 1) = false := decide_eq_false (by omega)
   have d0 : ((den : Int) = 0) = False := eq_false (by omega)
   have d3 : decide ((num : Int) < 0) = false := decide_eq_false (by omega)
   have d4 : decide (1099511627776 < (num : Int)) = false := decide_eq_false (by omega)
   generalize papAt (pbSto 200 x) i = Q at *
   generalize pbN x (n * mt) i = NN at *
   generalize pbAll x (n * mt) i = A0 at *
   generalize hA1 : pbAll x (n * mt) (i + 1) = A1 at *
   have hgb : (g : Int) ≤ 7100 := by
    rw [← r4]
    exact Int.le_trans (by rw [Int.tdiv_eq_ediv_of_nonneg (by omega)]; exact Int.ediv_le_self _ (by omega)) hWb.2
   repeat' (first|(with_reducible first|apply qA|apply qB|apply qC|apply qD|apply qE|apply qF)|(refine qL rfl (WF.of ?_) ?_; first|rfl|skip)|(simp (disch:=omega) only [go_sem, simprocAttr, qN, qO, qP, qQ, hd, hget, hpp, d1, d0, d3, d4, r3, r4, r5])|exact qM rfl rfl rfl|(refine qG rfl ?_)|(refine qH rfl ?_)|(refine qI rfl ?_ ?_<;>intro hc<;>(try simp only [go_sem] at hc))|(refine qJ ?_ ?_<;>intro hc<;>(try simp only [hc])<;>(try simp only [go_sem] at hc)))
   refine ⟨⟨i + 1, hlt⟩, ?_, Ent.to ?_ ?_⟩ <;> first | (show _ < _; (try simp only); omega) | (simp (disch:=omega) only [qR,qS,qTw,qU,get,Nat.reduceEqDiff,↓reduceIte,qV,qW,qX,qY,qZ,and_self,dI,i64_in,and_true,true_and,rA,rB,rC,rD, hA1])
   all_goals (rw [hnx]; exact .refl _)
  ·obtain rfl : i = 3 := by omega
   have k5 : decide (pbAll x (n * mt) 3 ≤ B * 1000000 * pbW x) = true := decide_eq_true hql.1
   have k6 : decide ((B * 1000 - n * mt - 1000) * 1000 * pbW x < pbAll x (n * mt) 3) = true := decide_eq_true hql.2
   have k7 : (B * 1000 - n * mt - 1000) * 1000 * pbW x ≤ 1000000000000 * pbW x := Int.mul_le_mul_of_nonneg_right (by omega) (by omega)
   have k8 : (-1000000000000) * pbW x ≤ (B * 1000 - n * mt - 1000) * 1000 * pbW x := Int.mul_le_mul_of_nonneg_right (by omega) (by omega)
   repeat' (first|(with_reducible first|apply qA|apply qB|apply qC|apply qD|apply qE|apply qF)|(refine qL rfl (WF.of ?_) ?_; first|rfl|skip)|(simp (disch:=omega) only [go_sem, simprocAttr, qN, qO, qP, qQ, k5, k6])|exact qM rfl rfl rfl|(refine qG rfl ?_)|(refine qK (hpB) (by decide) ?_)|(refine qK (hpP) (by decide) ?_)|(refine qH rfl ?_)|(refine qI rfl ?_ ?_<;>intro hc<;>(try simp only [go_sem] at hc))|(refine qJ ?_ ?_<;>intro hc<;>(try simp only [hc])<;>(try simp only [go_sem] at hc)))
end Go.Dw.Seat
end
section
set_option linter.unusedSimpArgs false
set_option maxRecDepth 100000
namespace Go.Dw.Seat
open Go Go.Dw Go.Proofs Go.IntWalk
structure T3 where
 v0 : Nat
 v1 : Nat
 v2 : Nat
structure T3.ok (v : T3) : Prop where
 v0 : v.v0 < 256
 v1 : v.v1 < 256
 v2 : v.v2 < 256
def eT3 (v : T3) : List C := [.v (.int .u8 v.v0), .v (.int .u8 v.v1), .v (.int .u8 v.v2)]
attribute [go_sem] eT3
structure TripY where
 r0 : Nat
 r1 : Nat
 s0 : Nat
 s1 : Nat
 l : List T3
structure TripY.ok (x : TripY) : Prop where
 r0 : x.r0 < 256
 r1 : x.r1 < 256
 s0 : x.s0 < 256
 s1 : x.s1 < 256
 m : x.l.length ≤ maxLen
 l : ∀ v ∈ x.l, v.ok
end Go.Dw.Seat
end
section
set_option linter.unusedSimpArgs false
set_option maxRecDepth 100000
namespace Go.Dw.Seat
open Go Go.Dw Go.Proofs Go.IntWalk
def AllLt (b : Nat) (l : List Nat) : Prop := ∀ x ∈ l, x < b
def eN (l : List Nat) : List C := l.map fun n : Nat => .v (.int .u8 (n : Int))
def e1 (n : Nat) : List C := [.v (.int .u8 n)]
end Go.Dw.Seat
end
section
set_option linter.unusedSimpArgs false
set_option maxRecDepth 100000
namespace Go.Dw.Seat
open Go Go.Dw Go.Proofs Go.IntWalk
theorem quoteBoardY (l : List Nat) (hl : l.length = 25 ∧ AllLt 256 l) (s : List Nat) (hs : s.length = 2 ∧ AllLt 256 s) :
  DCall Try.prog 4 [.agg ((eN l).map D.c), .agg ((eN s).map D.c)] [] (bD true) [] := by
 obtain ⟨h1, h2⟩ := hl
 obtain ⟨h3, h4⟩ := hs
 match l, h1, s, h3 with
 | [a0, a1, a2, a3, a4, a5, a6, a7, a8, a9, a10, a11, c0, c1, c2, c3, c4, c5, b0, b1, b2, b3, b4, b5, b6], _, [u, v], _ =>
  exact tpQuoteBoard ⟨⟨a0, a1, a2, a3⟩, ⟨a4, a5, a6, a7⟩, ⟨a8, a9, a10, a11⟩, ⟨c0, c1, c2⟩, ⟨c3, c4, c5⟩, [b0, b1, b2, b3, b4, b5, b6]⟩
   ⟨⟨h2 _ (by simp), h2 _ (by simp), h2 _ (by simp), h2 _ (by simp)⟩, ⟨h2 _ (by simp), h2 _ (by simp), h2 _ (by simp), h2 _ (by simp)⟩, ⟨h2 _ (by simp), h2 _ (by simp), h2 _ (by simp), h2 _ (by simp)⟩, ⟨h2 _ (by simp), h2 _ (by simp), h2 _ (by simp)⟩, ⟨h2 _ (by simp), h2 _ (by simp), h2 _ (by simp)⟩, rfl⟩ u v (h4 _ (by simp)) (h4 _ (by simp))
end Go.Dw.Seat
end
section
set_option linter.unusedSimpArgs false
set_option maxRecDepth 100000
namespace Go.Dw.Seat
open Go Go.Dw Go.Proofs Go.ChangeShapes Go.WideShapes Go.ChangeAt Go.RowKit
theorem tOwn : ownKnob Try.prog.godebug = none := by kernel_rfl
theorem tLaid : laidOutB Try.prog = true := by kernel_rfl
theorem u4 : Try.prog.underlying 4 = some .bool := by kernel_rfl
theorem uT5 : Try.prog.underlying 5 = some (.int .u8) := by kernel_rfl
theorem clT5 : Try.prog.cellsOf 5 = 1 := by kernel_rfl
def bV (l : List Nat) : List Value := l.map fun n : Nat => Value.int .u8 (n : Int)
section
variable {H : Type} {enc : TypeId × Value → H} {w : World} {base : Nat} {spare : Nat → Bool} {held : Bool}
theorem wf8 {n : Int} (h : (Lit.int .u8 n).wf = true) : ∃ v : Nat, n = v ∧ v < 256 := by
 have e1 : IntKind.min .u8 = 0 := by decide
 have e2 : IntKind.max .u8 = 255 := by decide
 simp only [Lit.wf, e1, e2, Bool.and_eq_true, decide_eq_true_eq] at h
 exact ⟨n.toNat, by omega, by omega⟩
theorem rep_bytes : ∀ l : List Nat, RepVs w A0 (eN l) (bV l)
 | [] => rfl
 | _ :: l => ⟨_, _, rfl, ⟨rfl, rfl⟩, rep_bytes l⟩
theorem rd_U8 {fuel : Nat} {cs : List Value} {x : DataW H × List MemPlace} (h : DataW.trod enc Try.prog w base spare held fuel 5 cs = some x) : ∃ l : List Nat, (l.length = 1 ∧ AllLt 256 l) ∧ cs = bV l := by
 obtain ⟨n, e, hw⟩ := rd_int uT5 h
 obtain ⟨v, rfl, hv⟩ := wf8 hw
 exact ⟨[v], ⟨rfl, fun x hx => by rw [List.mem_singleton] at hx; rw [hx]; exact hv⟩, e⟩
theorem bV_app (a b : List Nat) : bV (a ++ b) = bV a ++ bV b := by simp [bV]
theorem lt_app {b : Nat} {l l' : List Nat} (h : AllLt b l) (h' : AllLt b l') : AllLt b (l ++ l') := fun x hx => by
 rcases List.mem_append.1 hx with h1 | h1
 ·exact h x h1
 ·exact h' x h1
theorem rd_arrB {fuel : Nat} {cs : List Value} {x : DataW H × List MemPlace} {t e : TypeId} {n k : Nat} (ht : Try.prog.underlying t = some (.array n e)) (he : Try.prog.cellsOf e = k) (hc : Try.prog.cellsOf t = n * k)
  (hrd : ∀ m cs x, DataW.trod enc Try.prog w base spare held m e cs = some x → ∃ l : List Nat, (l.length = k ∧ AllLt 256 l) ∧ cs = bV l) (h : DataW.trod enc Try.prog w base spare held fuel t cs = some x) : ∃ l : List Nat, (l.length = n * k ∧ AllLt 256 l) ∧ cs = bV l := by
 obtain ⟨hl, m, hf⟩ := rd_array ht h
 rw [hc] at hl
 have key : ∀ j, j ≤ n → ∃ l : List Nat, (l.length = j * k ∧ AllLt 256 l) ∧ cs.take (j * k) = bV l := by
  intro j
  induction j with
  | zero => intro _; exact ⟨[], ⟨by simp, fun x hx => by cases hx⟩, by simp [bV]⟩
  | succ j ih =>
   intro hj
   obtain ⟨l, ⟨h1, h2⟩, h3⟩ := ih (by omega)
   obtain ⟨y, hy⟩ := hf j (by omega)
   rw [he] at hy
   obtain ⟨l', ⟨h4, h5⟩, h6⟩ := hrd _ _ _ hy
   refine ⟨l ++ l', ⟨by rw [List.length_append, h1, h4, Nat.succ_mul], lt_app h2 h5⟩, ?_⟩
   rw [Nat.succ_mul, List.take_add, h3, h6, bV_app]
 obtain ⟨l, h1, h2⟩ := key n (Nat.le_refl _)
 rw [List.take_of_length_le (by omega)] at h2
 exact ⟨l, h1, h2⟩
theorem uT69 : Try.prog.underlying 69 = some (.array 4 5) := by kernel_rfl
theorem clT69 : Try.prog.cellsOf 69 = 4 := by kernel_rfl
theorem rd_T69 {fuel : Nat} {cs : List Value} {x : DataW H × List MemPlace} (h : DataW.trod enc Try.prog w base spare held fuel 69 cs = some x) : ∃ l : List Nat, (l.length = 4 ∧ AllLt 256 l) ∧ cs = bV l := rd_arrB (n := 4) (k := 1) uT69 clT5 clT69 (fun _ _ _ h => rd_U8 h) h
theorem uT70 : Try.prog.underlying 70 = some (.array 3 69) := by kernel_rfl
theorem clT70 : Try.prog.cellsOf 70 = 12 := by kernel_rfl
theorem rd_T70 {fuel : Nat} {cs : List Value} {x : DataW H × List MemPlace} (h : DataW.trod enc Try.prog w base spare held fuel 70 cs = some x) : ∃ l : List Nat, (l.length = 12 ∧ AllLt 256 l) ∧ cs = bV l := rd_arrB (n := 3) (k := 4) uT70 clT69 clT70 (fun _ _ _ h => rd_T69 h) h
theorem uT71 : Try.prog.underlying 71 = some (.array 3 5) := by kernel_rfl
theorem clT71 : Try.prog.cellsOf 71 = 3 := by kernel_rfl
theorem rd_T71 {fuel : Nat} {cs : List Value} {x : DataW H × List MemPlace} (h : DataW.trod enc Try.prog w base spare held fuel 71 cs = some x) : ∃ l : List Nat, (l.length = 3 ∧ AllLt 256 l) ∧ cs = bV l := rd_arrB (n := 3) (k := 1) uT71 clT5 clT71 (fun _ _ _ h => rd_U8 h) h
theorem uT72 : Try.prog.underlying 72 = some (.array 2 71) := by kernel_rfl
theorem clT72 : Try.prog.cellsOf 72 = 6 := by kernel_rfl
theorem rd_T72 {fuel : Nat} {cs : List Value} {x : DataW H × List MemPlace} (h : DataW.trod enc Try.prog w base spare held fuel 72 cs = some x) : ∃ l : List Nat, (l.length = 6 ∧ AllLt 256 l) ∧ cs = bV l := rd_arrB (n := 2) (k := 3) uT72 clT71 clT72 (fun _ _ _ h => rd_T71 h) h
theorem uT73 : Try.prog.underlying 73 = some (.array 7 5) := by kernel_rfl
theorem clT73 : Try.prog.cellsOf 73 = 7 := by kernel_rfl
theorem rd_T73 {fuel : Nat} {cs : List Value} {x : DataW H × List MemPlace} (h : DataW.trod enc Try.prog w base spare held fuel 73 cs = some x) : ∃ l : List Nat, (l.length = 7 ∧ AllLt 256 l) ∧ cs = bV l := rd_arrB (n := 7) (k := 1) uT73 clT5 clT73 (fun _ _ _ h => rd_U8 h) h
theorem uT75 : structIs Try.prog 75 [(70, 0), (72, 12), (73, 18)] = true := by kernel_rfl
theorem clT75 : Try.prog.cellsOf 75 = 25 := by kernel_rfl
theorem rd_T75 {fuel : Nat} {cs : List Value} {x : DataW H × List MemPlace} (h : DataW.trod enc Try.prog w base spare held fuel 75 cs = some x) : ∃ l : List Nat, (l.length = 25 ∧ AllLt 256 l) ∧ cs = bV l := by
 obtain ⟨hl, m, hf⟩ := rd_struct uT75 h
 rw [clT75] at hl
 obtain ⟨y0, h0⟩ := hf 0 70 0 rfl
 obtain ⟨y1, h1⟩ := hf 1 72 12 rfl
 obtain ⟨y2, h2⟩ := hf 2 73 18 rfl
 rw [clT70] at h0
 rw [clT72] at h1
 rw [clT73] at h2
 obtain ⟨l0, ⟨q0, p0⟩, e0⟩ := rd_T70 h0
 obtain ⟨l1, ⟨q1, p1⟩, e1⟩ := rd_T72 h1
 obtain ⟨l2, ⟨q2, p2⟩, e2⟩ := rd_T73 h2
 refine ⟨l0 ++ l1 ++ l2, ⟨by simp only [List.length_append, q0, q1, q2], lt_app (lt_app p0 p1) p2⟩, ?_⟩
 rw [bV_app, bV_app, ← e0, ← e1, ← e2, List.drop_zero]
 have k1 : cs = cs.take 12 ++ cs.drop 12 := (List.take_append_drop _ _).symm
 have k2 : cs.drop 12 = (cs.drop 12).take 6 ++ (cs.drop 12).drop 6 := (List.take_append_drop _ _).symm
 have k3 : (cs.drop 12).drop 6 = cs.drop 18 := by rw [List.drop_drop]
 have k4 : (cs.drop 18).take 7 = cs.drop 18 := List.take_of_length_le (by rw [List.length_drop]; omega)
 rw [k3] at k2
 rw [List.append_assoc]
 first | (rw [k4]; exact k1.trans (congrArg _ k2)) | (show cs = cs.take 12 ++ ((cs.drop 12).take 6 ++ (cs.drop 18).take 7); rw [k4]; exact k1.trans (congrArg _ k2))
theorem uT27 : Try.prog.underlying 27 = some (.array 2 5) := by kernel_rfl
theorem clT27 : Try.prog.cellsOf 27 = 2 := by kernel_rfl
theorem rd_T27 {fuel : Nat} {cs : List Value} {x : DataW H × List MemPlace} (h : DataW.trod enc Try.prog w base spare held fuel 27 cs = some x) : ∃ l : List Nat, (l.length = 2 ∧ AllLt 256 l) ∧ cs = bV l := rd_arrB (n := 2) (k := 1) uT27 clT5 clT27 (fun _ _ _ h => rd_U8 h) h
end
set_option maxHeartbeats 800000 in
theorem topQuoteBoardLifted (os : Os) (started : os.Started) (H : Type) (enc : TypeId × Value → H) :
  ReturnsInHanded {} Try.checked os 4 .any (Ytakhpmbcndkkfaa.Rows.topQuoteBoardSpec.pre6 enc Try.prog Try.f4 Ytakhpmbcndkkfaa.Rows.topQuoteBoardRow.domain false) (Ytakhpmbcndkkfaa.Rows.topQuoteBoardSpec.post enc Try.prog Try.f4 false true false false) := by
 refine returnsInHanded_of_change (C := Try.checked) tOwn started (by kernel_rfl) Try.func4
  (ChangeSpec.witness6 (enc := enc) (C := Try.checked) false ⟨#[], #[.agg #[.int .u8 0, .int .u8 0, .int .u8 0, .int .u8 0, .int .u8 0, .int .u8 0, .int .u8 0, .int .u8 0, .int .u8 0, .int .u8 0, .int .u8 0, .int .u8 0, .int .u8 0, .int .u8 0, .int .u8 0, .int .u8 0, .int .u8 0, .int .u8 0, .int .u8 0, .int .u8 0, .int .u8 0, .int .u8 0, .int .u8 0, .int .u8 0, .int .u8 0], .agg #[.int .u8 0, .int .u8 0]], []⟩ 8 (by kernel_rfl) (by kernel_rfl) (by kernel_rfl) (by kernel_rfl)) ?_
 intro W base args ds gs before hval0 hW _ _
 have hval : ∀ (j : Nat) t v, Try.f4.params[j]? = some t → args[j]? = some v → Value.okWide Try.prog W .any base t v := hval0
 have hW' : DataW.Whole enc Try.prog Try.f4.params.toList [] false W args.toList ds gs before := hW
 obtain ⟨p, q, hA, hV, rfl, hfz, hnd⟩ := hW
 have hA : DataW.TrodAll enc Try.prog W 0 (fun _ => true) true [75, 27] args.toList ds p := hA
 obtain ⟨rfl, rfl⟩ := trodVars_none hV
 obtain ⟨v0, vs0, d0, ds0, p0, q0, hargs, rfl, rfl, h0, r0⟩ := trodAll_cons hA
 obtain ⟨v1, vs1, d1, ds1, p1, q1, rfl, rfl, rfl, h1, r1⟩ := trodAll_cons r0
 obtain ⟨rfl, rfl, rfl⟩ := trodAll_nil r1
 obtain rfl : args = #[v0, v1] := by cases args; simp_all
 obtain ⟨f0, hu0, _⟩ := structIs_spec uT75
 obtain ⟨c0, rfl, _⟩ := okWide_struct hu0 (hval 0 75 v0 rfl rfl)
 obtain ⟨c1, rfl, _⟩ := okWide_array uT27 (hval 1 27 v1 rfl rfl)
 obtain ⟨fu0, h0⟩ := h0
 obtain ⟨fu1, h1⟩ := h1
 obtain ⟨s0, ho0, e0⟩ := rd_T75 h0
 have hr0 : RepVs W A0 (eN s0) c0.toList := by
  have e : c0.toList = bV s0 := by simpa [Value.cells] using e0
  rw [e]; exact rep_bytes s0
 obtain ⟨s1, ho1, e1⟩ := rd_T27 h1
 have hr1 : RepVs W A0 (eN s1) c1.toList := by
  have e : c1.toList = bV s1 := by simpa [Value.cells] using e1
  rw [e]; exact rep_bytes s1
 refine ((quoteBoardY s0 ho0 s1 ho1).calls (W := W) (vs := [.agg c0, .agg c1]) (laid0 W) (fun G => ?_)).mono ?_
 ·exact ⟨_, _, rfl, ⟨c0, rfl, RepDs.ofVs hr0⟩, _, _, rfl, ⟨c1, rfl, RepDs.ofVs hr1⟩, rfl⟩
 ·rintro e W' ⟨v, rfl, ⟨G', A', hr⟩, hb⟩
  obtain ⟨rfl, _⟩ := hr
  exact ⟨_, rfl, post_true tLaid (by decide +kernel) hW' hb rfl rfl u4 rfl rfl rfl⟩
theorem topQuoteBoardHolds : Ytakhpmbcndkkfaa.Rows.topQuoteBoardRow.holds Ytakhpmbcndkkfaa.Try.pinned (OpenSpec.ofChange Ytakhpmbcndkkfaa.Rows.topQuoteBoardSpec) :=
 OpenClaim.holds_of_wide 4 Try.f4 rfl rfl rfl rfl rfl rfl rfl ⟨rfl, rfl, rfl, rfl, rfl⟩ rfl rfl rfl rfl rfl (by kernel_rfl) Try.func4 (by kernel_rfl)
  (of_decide_eq_true (by kernel_rfl)) (by unfold Func.isWrapper; first | (rw [if_pos (by decide +kernel)]; kernel_rfl) | (rw [if_neg (by decide +kernel)]; exact ⟨rfl, rfl⟩))
  (fun os started H enc _ => topQuoteBoardLifted os started H enc)
end Go.Dw.Seat
namespace Go.Proofs.Ytakhpmbcndkkfaa
theorem topQuoteBoardSaid : Rows.TopQuoteBoardSaid := Go.Dw.Seat.topQuoteBoardHolds
end Go.Proofs.Ytakhpmbcndkkfaa
end
