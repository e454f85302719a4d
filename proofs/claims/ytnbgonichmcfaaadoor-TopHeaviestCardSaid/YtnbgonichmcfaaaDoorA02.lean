/- The law TopHeaviestCard returns true for every input, and changes nothing that was there before: the full statement TopHeaviestCardSaid, without conditions. -/
import Derived.Test.YtnbgonichmcfaaaDoorA01
import Derived.Test.YtnbgonichmcfaaaDoorTie
import Derived.Test.YtnbgonichmcfaaaDoorCards
import Derived.ProofKit
import Derived.LaidMore
import Derived.OpenShut
import Derived.Stop.Joined
import Derived.SevenTiedAt
set_option linter.unusedVariables false
set_option linter.unusedSimpArgs false
section
set_option linter.unusedSimpArgs false
set_option maxRecDepth 100000
namespace Go.Dw.Seat
open Go Go.Dw Go.Proofs Go.IntWalk
structure V6 where
 v0 : Nat
 v1 : Nat
 v2 : Nat
 v3 : Nat
 v4 : Nat
 v5 : Nat
structure V6.ok (v : V6) : Prop where
 v0 : v.v0 < 256
 v1 : v.v1 < 256
 v2 : v.v2 < 256
 v3 : v.v3 < 256
 v4 : v.v4 < 256
 v5 : v.v5 < 256
structure V3 where
 v0 : Nat
 v1 : Nat
 v2 : Nat
structure V3.ok (v : V3) : Prop where
 v0 : v.v0 < 256
 v1 : v.v1 < 256
 v2 : v.v2 < 256
def e6 (v : V6) : List C := [.v (.int .u8 v.v0), .v (.int .u8 v.v1), .v (.int .u8 v.v2), .v (.int .u8 v.v3), .v (.int .u8 v.v4), .v (.int .u8 v.v5)]
def e3 (v : V3) : List C := [.v (.int .u8 v.v0), .v (.int .u8 v.v1), .v (.int .u8 v.v2)]
attribute [go_sem] e6 e3
structure War where
 papers : List V6
 flutes : List V3
 by' : List Nat
structure War.ok (x : War) : Prop where
 papers : ∀ v ∈ x.papers, v.ok
 flutes : ∀ v ∈ x.flutes, v.ok
 by' : ∀ v ∈ x.by', v < 256
abbrev dWar (b : Bool) (x : War) : D := .agg [.c (.sl b 6 (rows e6 x.papers)), .c (.sl b 3 (rows e3 x.flutes)), .c (.sl b 1 (rows eY x.by'))]
attribute [go_sem] dWar
theorem ud87 : Tryd.prog.underlying 126 = some (.int .i64) := by kernel_rfl
theorem t100 (m : Nat) : (m : Int).tmod 100 = ((m % 100 : Nat) : Int) := tmodN m 100
theorem t90 (m : Nat) : (m : Int).tmod 90 = ((m % 90 : Nat) : Int) := tmodN m 90
theorem t2 (m : Nat) : (m : Int).tmod 2 = ((m % 2 : Nat) : Int) := tmodN m 2
theorem d8' (m : Nat) : (m : Int).tdiv 8 = ((m / 8 : Nat) : Int) := tdivN m 8
theorem d16' (m : Nat) : (m : Int).tdiv 16 = ((m / 16 : Nat) : Int) := tdivN m 16
def papOf (i : Nat) (v : V6) : Pap := ⟨if 1 < i then 1 + ((v.v0 % 2 : Nat) : Int) else 1 + (i : Int), 50 + (v.v1 : Int), 50 + (v.v2 : Int), 50 + (v.v2 : Int) + ((v.v0 / 8 : Nat) : Int), ((v.v3 % 100 : Nat) : Int), ((v.v3 % 100 : Nat) : Int) + ((v.v3 / 16 : Nat) : Int), 1000 * (v.v4 : Int), 10 * (v.v5 : Int)⟩
def papV (x : War) (i : Nat) : V6 := (x.papers[i]?).getD ⟨i, 120, 20, 7, 30, 20⟩
def fluOf (v : V3) : Flu := ⟨1000 + 35 * (v.v0 : Int), 1000 + 35 * (v.v0 : Int) + ((1000 + 35 * (v.v0 : Int)) * (v.v1 : Int)).tdiv 255, 500 + 10 * (v.v2 : Int), 500 + 10 * (v.v2 : Int) + ((v.v1 % 90 : Nat) : Int)⟩
def fluV (x : War) (i : Nat) : V3 := (x.flutes[i]?).getD ⟨80, 128, 36⟩
def nPap (x : War) : Nat := max 2 (min 5 x.papers.length)
def nFlu (x : War) : Nat := max 1 (min 3 x.flutes.length)
def wPaps (x : War) (i : Nat) : List Pap := (List.range i).map fun k => papOf k (papV x k)
def wFlus (x : War) (i : Nat) : List Flu := (List.range i).map fun k => fluOf (fluV x k)
def wSto (x : War) : Sto := ⟨wPaps x (nPap x), wFlus x (nFlu x)⟩
theorem wPaps_succ (x : War) (i : Nat) : wPaps x (i + 1) = wPaps x i ++ [papOf i (papV x i)] := by simp [wPaps, List.range_succ]
theorem wFlus_succ (x : War) (i : Nat) : wFlus x (i + 1) = wFlus x i ++ [fluOf (fluV x i)] := by simp [wFlus, List.range_succ]
theorem wPaps_len (x : War) (i : Nat) : (wPaps x i).length = i := by simp [wPaps]
theorem wFlus_len (x : War) (i : Nat) : (wFlus x i).length = i := by simp [wFlus]
theorem papV_ok {x : War} (h : x.ok) {i : Nat} (hi : i < 256) : (papV x i).ok := by
 unfold papV
 cases hv : x.papers[i]? with
 | none => exact ⟨hi, (by decide : 120 < 256), (by decide : 20 < 256), (by decide : 7 < 256), (by decide : 30 < 256), (by decide : 20 < 256)⟩
 | some v => exact h.papers v (List.mem_of_getElem? hv)
theorem fluV_ok {x : War} (h : x.ok) (i : Nat) : (fluV x i).ok := by
 unfold fluV
 cases hv : x.flutes[i]? with
 | none => exact ⟨by decide, by decide, by decide⟩
 | some v => exact h.flutes v (List.mem_of_getElem? hv)
theorem papOf_ok {v : V6} (h : v.ok) (i : Nat) : (papOf i v).ok := by
 have h0 := h.v0
 have h1 := h.v1
 have h2 := h.v2
 have h3 := h.v3
 have h4 := h.v4
 have h5 := h.v5
 have m0 : v.v0 % 2 < 2 := Nat.mod_lt _ (by decide)
 have m1 : v.v3 % 100 < 100 := Nat.mod_lt _ (by decide)
 unfold papOf
 refine ⟨?_, ?_, ?_, ?_, ?_, ?_⟩
 ·show (if 1 < i then 1 + ((v.v0 % 2 : Nat) : Int) else 1 + (i : Int)) = 1 ∨ (if 1 < i then 1 + ((v.v0 % 2 : Nat) : Int) else 1 + (i : Int)) = 2
  split <;> omega
 all_goals dsimp only
 all_goals omega
theorem fluOf_draw {v : V3} (h : v.ok) : 0 ≤ (1000 + 35 * (v.v0 : Int)) * (v.v1 : Int) ∧ (1000 + 35 * (v.v0 : Int)) * (v.v1 : Int) ≤ 2530875 ∧ 0 ≤ ((1000 + 35 * (v.v0 : Int)) * (v.v1 : Int)).tdiv 255 ∧ ((1000 + 35 * (v.v0 : Int)) * (v.v1 : Int)).tdiv 255 ≤ 1000 + 35 * (v.v0 : Int) := by
 have h0 := h.v0
 have h1 := h.v1
 have m := mulB0 (a := 1000 + 35 * (v.v0 : Int)) (b := (v.v1 : Int)) (A := 9925) (B := 255) (by omega) (by omega)
 have m2 : (1000 + 35 * (v.v0 : Int)) * (v.v1 : Int) ≤ (1000 + 35 * (v.v0 : Int)) * 255 := Int.mul_le_mul_of_nonneg_left (by omega) (by omega)
 rw [Int.tdiv_eq_ediv_of_nonneg m.1]
 generalize (1000 + 35 * (v.v0 : Int)) * (v.v1 : Int) = q at *
 omega
theorem fluOf_ok {v : V3} (h : v.ok) : (fluOf v).ok := by
 have h0 := h.v0
 have h1 := h.v1
 have h2 := h.v2
 have hd := fluOf_draw h
 have m1 : v.v1 % 90 < 90 := Nat.mod_lt _ (by decide)
 unfold fluOf
 refine ⟨?_, ?_, ?_⟩
 all_goals dsimp only
 all_goals omega
theorem wSto_ok {x : War} (h : x.ok) : (wSto x).ok := by
 refine ⟨?_, ?_, ?_, ?_⟩
 ·show 1 ≤ (wPaps x (nPap x)).length ∧ (wPaps x (nPap x)).length ≤ 8
  rw [wPaps_len]; unfold nPap; omega
 ·show 1 ≤ (wFlus x (nFlu x)).length ∧ (wFlus x (nFlu x)).length ≤ 4
  rw [wFlus_len]; unfold nFlu; omega
 ·intro p hp
  obtain ⟨i, hi, rfl⟩ := List.mem_map.1 hp
  rw [List.mem_range] at hi
  exact papOf_ok (papV_ok h (by unfold nPap at hi; omega)) i
 ·intro p hp
  obtain ⟨i, _, rfl⟩ := List.mem_map.1 hp
  exact fluOf_ok (fluV_ok h i)
theorem snocP (l : List Pap) (a b c d e f g h : Int) : rowC (rows eP l) ++ [[D.c (.v (.int .i64 a)), D.c (.v (.int .i64 b)), D.c (.v (.int .i64 c)), D.c (.v (.int .i64 d)), D.c (.v (.int .i64 e)), D.c (.v (.int .i64 f)), D.c (.v (.int .i64 g)), D.c (.v (.int .i64 h))]] = rowC (rows eP (l ++ [⟨a, b, c, d, e, f, g, h⟩])) := by simp [rowC, rows, eP]
theorem snocF (l : List Flu) (a b c d : Int) : rowC (rows eF l) ++ [[D.c (.v (.int .i64 a)), D.c (.v (.int .i64 b)), D.c (.v (.int .i64 c)), D.c (.v (.int .i64 d))]] = rowC (rows eF (l ++ [⟨a, b, c, d⟩])) := by simp [rowC, rows, eF]
attribute [go_sem] snocP snocF
set_option maxHeartbeats 1600000 in
theorem arStore (b : Bool) (x : War) (h : x.ok) : DCall Tryd.prog 14 [dWar b x] [] (dSto (wSto x)) [] := by
 have hn : nPap x ≤ 5 ∧ 2 ≤ nPap x := by unfold nPap; omega
 have hnf : nFlu x ≤ 3 ∧ 1 ≤ nFlu x := by unfold nFlu; omega
 refine DCall.of Tryd.func14 sf14 hb14 (Nat.le_of_ble_eq_true rfl) (okRes_nil fun _ => rfl) ?_; simp only [s14, idxs, Nat.reduceAdd]
 repeat' (first|(with_reducible first|apply qA|apply qB|apply qC|apply qD|apply qE|apply qF)|(refine qL rfl (WF.of ?_) ?_; first|rfl|skip)|(simp (disch:=omega) only [go_sem, simprocAttr, Blk.men, Blk.keysIn])|exact qM rfl rfl rfl|(refine qG rfl ?_)|(refine qH rfl ?_)|(refine qI rfl ?_ ?_<;>intro hc<;>(try simp only [go_sem] at hc))|(refine qJ ?_ ?_<;>intro hc<;>(try simp only [hc])<;>(try simp only [go_sem] at hc)))
 (refine DW.ent (Ent.adoptB 3 0 94 8 rfl rfl rfl rfl) ?_; simp only [ins, Nat.reduceLT, Nat.reduceEqDiff, ↓reduceIte, List.set_cons_zero, List.set_cons_succ])
 (refine DW.ent (Ent.adoptB 3 1 156 4 rfl rfl rfl rfl) ?_; simp only [ins, Nat.reduceLT, Nat.reduceEqDiff, ↓reduceIte, List.set_cons_zero, List.set_cons_succ])
 refine DW.loop (ι := { i : Nat // i ≤ nPap x }) (fun i => ⟨159, [(4, dI i.1), (3, .box 3 0), (2, .box 2 0), (1, .box 1 0)], [(156, .row 4 []), (94, .row 8 (rowC (rows eP (wPaps x i.1)))), (3, .box [.own 94, .own 156]), (2, .box [.c (.v (.slice none 0 0)), .c (.v (.slice none 0 0))]), (1, .box [.c (.sl b 6 (rows e6 x.papers)), .c (.sl b 3 (rows e3 x.flutes)), .c (.sl b 1 (rows eY x.by'))])]⟩) (fun i => nPap x - i.1) ⟨0, Nat.zero_le _⟩ ?_ ?_
 ·refine Ent.to ?_ ?_ <;> simp (disch:=omega) only [qR,qS,qTw,qU,get,Nat.reduceEqDiff,↓reduceIte,qV,qW,qX,qY,qZ,and_self,dI,i64_in,and_true,true_and,rA,rB,rC,rD]
  exact .refl _
 rintro ⟨i, hi⟩
 dsimp only
 rcases Nat.lt_or_ge i (nPap x) with hlt | hge
 ·have hv := papV_ok h (i := i) (by omega)
  have hcond : (decide ((i : Int) < 2) = true) ∨ (decide ((i : Int) < 2) = false ∧ decide ((i : Int) < (x.papers.length : Int)) = true ∧ decide ((i : Int) < 5) = true) := by
   unfold nPap at hlt
   simp only [decide_eq_true_eq, decide_eq_false_iff_not]
   omega
  refine DW.cut ⟨159, [(4, dI i), (3, .box 3 0), (2, .box 2 0), (1, .box 1 0)], [(156, .row 4 []), (94, .row 8 (rowC (rows eP (wPaps x i)))), (3, .box [.own 94, .own 156]), (2, .box [.c (.v (.slice none 0 0)), .c (.v (.slice none 0 0))]), (1, .box [.c (.sl b 6 (rows e6 x.papers)), .c (.sl b 3 (rows e3 x.flutes)), .c (.sl b 1 (rows eY x.by'))])]⟩ ?_ ?_
  ·rcases hcond with hc | ⟨hc1, hc2, hc3⟩
   ·repeat' (first|(with_reducible first|apply qA|apply qB|apply qC|apply qD|apply qE|apply qF)|(refine qL rfl (WF.of ?_) ?_; first|rfl|skip)|(simp (disch:=omega) only [go_sem, simprocAttr, Blk.men, Blk.keysIn, hc])|exact qM rfl rfl rfl|(refine qG rfl ?_)|(refine qH rfl ?_)|(refine qI rfl ?_ ?_<;>intro hc<;>(try simp only [go_sem] at hc))|(refine qJ ?_ ?_<;>intro hc<;>(try simp only [hc])<;>(try simp only [go_sem] at hc)))
    refine Ent.to ?_ ?_ <;> simp (disch:=omega) only [qR,qS,qTw,qU,get,Nat.reduceEqDiff,↓reduceIte,qV,qW,qX,qY,qZ,and_self,dI,i64_in,and_true,true_and,rA,rB,rC,rD]
   ·repeat' (first|(with_reducible first|apply qA|apply qB|apply qC|apply qD|apply qE|apply qF)|(refine qL rfl (WF.of ?_) ?_; first|rfl|skip)|(simp (disch:=omega) only [go_sem, simprocAttr, Blk.men, Blk.keysIn, hc1, hc2, hc3])|exact qM rfl rfl rfl|(refine qG rfl ?_)|(refine qH rfl ?_)|(refine qI rfl ?_ ?_<;>intro hc<;>(try simp only [go_sem] at hc))|(refine qJ ?_ ?_<;>intro hc<;>(try simp only [hc])<;>(try simp only [go_sem] at hc)))
    refine Ent.to ?_ ?_ <;> simp (disch:=omega) only [qR,qS,qTw,qU,get,Nat.reduceEqDiff,↓reduceIte,qV,qW,qX,qY,qZ,and_self,dI,i64_in,and_true,true_and,rA,rB,rC,rD]
  refine DW.seq (DW.block (DW.seq (DW.reg ?_)))
  have hi8 : IntKind.u8.wrap (i : Int) = (i : Int) := IntWalk.u8_in _ (by omega)
  simp (disch:=omega) only [go_sem,simprocAttr,Blk.men,Blk.keysIn,ud3,hi8]
  generalize hpv : papV x i = v at *
  refine DW.cut ⟨159, [(5, .box 5 0), (4, dI i), (3, .box 3 0), (2, .box 2 0), (1, .box 1 0)], [(156, .row 4 []), (94, .row 8 (rowC (rows eP (wPaps x i)))), (5, .box ((e6 v).map D.c)), (3, .box [.own 94, .own 156]), (2, .box [.c (.v (.slice none 0 0)), .c (.v (.slice none 0 0))]), (1, .box [.c (.sl b 6 (rows e6 x.papers)), .c (.sl b 3 (rows e3 x.flutes)), .c (.sl b 1 (rows eY x.by'))])]⟩ ?_ ?_
  ·rcases Nat.lt_or_ge i x.papers.length with hl | hl
   ·have hd : decide ((i : Int) < (x.papers.length : Int)) = true := by rw [decide_eq_true_eq]; omega
    have hxv : x.papers[i]? = some v := by
     rw [← hpv, papV, List.getElem?_eq_getElem hl]; rfl
    repeat' (first|(with_reducible first|apply qA|apply qB|apply qC|apply qD|apply qE|apply qF)|(refine qL rfl (WF.of ?_) ?_; first|rfl|skip)|(simp (disch:=omega) only [go_sem, simprocAttr, Blk.men, Blk.keysIn, hd, hxv, rF, rG])|exact qM rfl rfl rfl|(refine qG rfl ?_)|(refine qH rfl ?_)|(refine qI rfl ?_ ?_<;>intro hc<;>(try simp only [go_sem] at hc))|(refine qJ ?_ ?_<;>intro hc<;>(try simp only [hc])<;>(try simp only [go_sem] at hc)))
    refine Ent.to ?_ ?_ <;> simp (disch:=omega) only [qR,qS,qTw,qU,get,Nat.reduceEqDiff,↓reduceIte,qV,qW,qX,qY,qZ,and_self,dI,i64_in,and_true,true_and,rA,rB,rC,rD]
   ·have hd : decide ((i : Int) < (x.papers.length : Int)) = false := by rw [decide_eq_false_iff_not]; omega
    have hxv : v = ⟨i, 120, 20, 7, 30, 20⟩ := by
     rw [← hpv, papV, List.getElem?_eq_none hl]; rfl
    rw [hxv]
    repeat' (first|(with_reducible first|apply qA|apply qB|apply qC|apply qD|apply qE|apply qF)|(refine qL rfl (WF.of ?_) ?_; first|rfl|skip)|(simp (disch:=omega) only [go_sem, simprocAttr, Blk.men, Blk.keysIn, hd, rF, rG])|exact qM rfl rfl rfl|(refine qG rfl ?_)|(refine qH rfl ?_)|(refine qI rfl ?_ ?_<;>intro hc<;>(try simp only [go_sem] at hc))|(refine qJ ?_ ?_<;>intro hc<;>(try simp only [hc])<;>(try simp only [go_sem] at hc)))
    refine Ent.to ?_ ?_ <;> simp (disch:=omega) only [qR,qS,qTw,qU,get,Nat.reduceEqDiff,↓reduceIte,qV,qW,qX,qY,qZ,and_self,dI,i64_in,and_true,true_and,rA,rB,rC,rD]
    all_goals exact .refl _
  have w0 := hv.v0
  have w1 := hv.v1
  have w2 := hv.v2
  have w3 := hv.v3
  have w4 := hv.v4
  have w5 := hv.v5
  have m0 : v.v0 % 2 < 2 := Nat.mod_lt _ (by decide)
  have m1 : v.v3 % 100 < 100 := Nat.mod_lt _ (by decide)
  have s1 := arSpan (50 + (v.v2 : Int)) (50 + (v.v2 : Int) + ((v.v0 / 8 : Nat) : Int))
  have s2 := arSpan ((v.v3 % 100 : Nat) : Int) (((v.v3 % 100 : Nat) : Int) + ((v.v3 / 16 : Nat) : Int))
  have hln := wPaps_len x i
  have hsn := wPaps_succ x i
  rw [hpv] at hsn
  generalize wPaps x i = l at *
  by_cases h1 : 1 < i
  ·have hd : decide ((1 : Int) < (i : Int)) = true := by rw [decide_eq_true_eq]; omega
   have hpo : papOf i v = ⟨1 + ((v.v0 % 2 : Nat) : Int), 50 + (v.v1 : Int), 50 + (v.v2 : Int), 50 + (v.v2 : Int) + ((v.v0 / 8 : Nat) : Int), ((v.v3 % 100 : Nat) : Int), ((v.v3 % 100 : Nat) : Int) + ((v.v3 / 16 : Nat) : Int), 1000 * (v.v4 : Int), 10 * (v.v5 : Int)⟩ := by rw [papOf, if_pos h1]
   rw [hpo] at hsn
   repeat' (first|(with_reducible first|apply qA|apply qB|apply qC|apply qD|apply qE|apply qF)|(refine qL rfl (WF.of ?_) ?_; first|rfl|skip)|(simp (disch:=omega) only [go_sem, simprocAttr, Blk.men, Blk.keysIn, hd, t100, t2, d8', d16', ud87, rF, rG])|exact qM rfl rfl rfl|(refine qG rfl ?_)|(refine qK (s1) (by decide) ?_)|(refine qK (s2) (by decide) ?_)|(refine qH rfl ?_)|(refine qI rfl ?_ ?_<;>intro hc<;>(try simp only [go_sem] at hc))|(refine qJ ?_ ?_<;>intro hc<;>(try simp only [hc])<;>(try simp only [go_sem] at hc)))
   refine ⟨⟨i + 1, hlt⟩, ?_, Ent.to ?_ ?_⟩ <;> first | (show _ < _; (try simp only); omega) | (simp (disch:=omega) only [qR,qS,qTw,qU,get,Nat.reduceEqDiff,↓reduceIte,qV,qW,qX,qY,qZ,and_self,dI,i64_in,and_true,true_and,rA,rB,rC,rD, hsn])
   all_goals exact .refl _
  ·have hd : decide ((1 : Int) < (i : Int)) = false := by rw [decide_eq_false_iff_not]; omega
   have hpo : papOf i v = ⟨1 + (i : Int), 50 + (v.v1 : Int), 50 + (v.v2 : Int), 50 + (v.v2 : Int) + ((v.v0 / 8 : Nat) : Int), ((v.v3 % 100 : Nat) : Int), ((v.v3 % 100 : Nat) : Int) + ((v.v3 / 16 : Nat) : Int), 1000 * (v.v4 : Int), 10 * (v.v5 : Int)⟩ := by rw [papOf, if_neg h1]
   rw [hpo] at hsn
   repeat' (first|(with_reducible first|apply qA|apply qB|apply qC|apply qD|apply qE|apply qF)|(refine qL rfl (WF.of ?_) ?_; first|rfl|skip)|(simp (disch:=omega) only [go_sem, simprocAttr, Blk.men, Blk.keysIn, hd, t100, t2, d8', d16', ud87, rF, rG])|exact qM rfl rfl rfl|(refine qG rfl ?_)|(refine qK (s1) (by decide) ?_)|(refine qK (s2) (by decide) ?_)|(refine qH rfl ?_)|(refine qI rfl ?_ ?_<;>intro hc<;>(try simp only [go_sem] at hc))|(refine qJ ?_ ?_<;>intro hc<;>(try simp only [hc])<;>(try simp only [go_sem] at hc)))
   refine ⟨⟨i + 1, hlt⟩, ?_, Ent.to ?_ ?_⟩ <;> first | (show _ < _; (try simp only); omega) | (simp (disch:=omega) only [qR,qS,qTw,qU,get,Nat.reduceEqDiff,↓reduceIte,qV,qW,qX,qY,qZ,and_self,dI,i64_in,and_true,true_and,rA,rB,rC,rD, hsn])
   all_goals exact .refl _
 ·obtain rfl : i = nPap x := by omega
  have hc1 : decide ((nPap x : Int) < 2) = false := by rw [decide_eq_false_iff_not]; omega
  have hcond : (decide ((nPap x : Int) < (x.papers.length : Int)) = false) ∨ (decide ((nPap x : Int) < (x.papers.length : Int)) = true ∧ decide ((nPap x : Int) < 5) = false) := by
   have : nPap x = max 2 (min 5 x.papers.length) := rfl
   simp only [decide_eq_true_eq, decide_eq_false_iff_not]
   omega
  refine DW.leave 0 ⟨159, [(3, .box 3 0), (2, .box 2 0), (1, .box 1 0)], [(156, .row 4 (rowC (rows eF (wFlus x 0)))), (94, .row 8 (rowC (rows eP (wPaps x (nPap x))))), (3, .box [.own 94, .own 156]), (2, .box [.c (.v (.slice none 0 0)), .c (.v (.slice none 0 0))]), (1, .box [.c (.sl b 6 (rows e6 x.papers)), .c (.sl b 3 (rows e3 x.flutes)), .c (.sl b 1 (rows eY x.by'))])]⟩ ?_ ?_
  ·rcases hcond with hc | ⟨hc2, hc3⟩
   ·repeat' (first|(with_reducible first|apply qA|apply qB|apply qC|apply qD|apply qE|apply qF)|(refine qL rfl (WF.of ?_) ?_; first|rfl|skip)|(simp (disch:=omega) only [go_sem, simprocAttr, Blk.men, Blk.keysIn, hc1, hc])|exact qM rfl rfl rfl|(refine qG rfl ?_)|(refine qH rfl ?_)|(refine qI rfl ?_ ?_<;>intro hc<;>(try simp only [go_sem] at hc))|(refine qJ ?_ ?_<;>intro hc<;>(try simp only [hc])<;>(try simp only [go_sem] at hc)))
    refine Ent.to ?_ ?_ <;> simp (disch:=omega) only [qR,qS,qTw,qU,get,Nat.reduceEqDiff,↓reduceIte,qV,qW,qX,qY,qZ,and_self,dI,i64_in,and_true,true_and,rA,rB,rC,rD]
    all_goals exact .refl _
   ·repeat' (first|(with_reducible first|apply qA|apply qB|apply qC|apply qD|apply qE|apply qF)|(refine qL rfl (WF.of ?_) ?_; first|rfl|skip)|(simp (disch:=omega) only [go_sem, simprocAttr, Blk.men, Blk.keysIn, hc1, hc2, hc3])|exact qM rfl rfl rfl|(refine qG rfl ?_)|(refine qH rfl ?_)|(refine qI rfl ?_ ?_<;>intro hc<;>(try simp only [go_sem] at hc))|(refine qJ ?_ ?_<;>intro hc<;>(try simp only [hc])<;>(try simp only [go_sem] at hc)))
    refine Ent.to ?_ ?_ <;> simp (disch:=omega) only [qR,qS,qTw,qU,get,Nat.reduceEqDiff,↓reduceIte,qV,qW,qX,qY,qZ,and_self,dI,i64_in,and_true,true_and,rA,rB,rC,rD]
    all_goals exact .refl _
  intro σ' hσ'
  simp (disch:=omega) only [go_sem,simprocAttr,Blk.men,Blk.keysIn]
  refine DW.ent hσ' ?_
  clear hσ' hcond hc1
  repeat' (first|(with_reducible first|apply qA|apply qB|apply qC|apply qD|apply qE|apply qF)|(refine qL rfl (WF.of ?_) ?_; first|rfl|skip)|(simp (disch:=omega) only [go_sem, simprocAttr, Blk.men, Blk.keysIn])|exact qM rfl rfl rfl|(refine qG rfl ?_)|(refine qH rfl ?_)|(refine qI rfl ?_ ?_<;>intro hc<;>(try simp only [go_sem] at hc))|(refine qJ ?_ ?_<;>intro hc<;>(try simp only [hc])<;>(try simp only [go_sem] at hc)))
  refine DW.loop (ι := { i : Nat // i ≤ nFlu x }) (fun i => ⟨159, [(7, dI i.1), (3, .box 3 0), (2, .box 2 0), (1, .box 1 0)], [(156, .row 4 (rowC (rows eF (wFlus x i.1)))), (94, .row 8 (rowC (rows eP (wPaps x (nPap x))))), (3, .box [.own 94, .own 156]), (2, .box [.c (.v (.slice none 0 0)), .c (.v (.slice none 0 0))]), (1, .box [.c (.sl b 6 (rows e6 x.papers)), .c (.sl b 3 (rows e3 x.flutes)), .c (.sl b 1 (rows eY x.by'))])]⟩) (fun i => nFlu x - i.1) ⟨0, Nat.zero_le _⟩ ?_ ?_
  ·refine Ent.to ?_ ?_ <;> simp (disch:=omega) only [qR,qS,qTw,qU,get,Nat.reduceEqDiff,↓reduceIte,qV,qW,qX,qY,qZ,and_self,dI,i64_in,and_true,true_and,rA,rB,rC,rD]
  clear hi
  rintro ⟨i, hi⟩
  dsimp only
  rcases Nat.lt_or_ge i (nFlu x) with hlt | hge
  ·have hv := fluV_ok h i
   have hcond : (((i : Int) == 0) = true) ∨ (((i : Int) == 0) = false ∧ decide ((i : Int) < (x.flutes.length : Int)) = true ∧ decide ((i : Int) < 3) = true) := by
    have : nFlu x = max 1 (min 3 x.flutes.length) := rfl
    simp only [decide_eq_true_eq, beq_iff_eq, beq_eq_false_iff_ne]
    omega
   refine DW.cut ⟨159, [(7, dI i), (3, .box 3 0), (2, .box 2 0), (1, .box 1 0)], [(156, .row 4 (rowC (rows eF (wFlus x i)))), (94, .row 8 (rowC (rows eP (wPaps x (nPap x))))), (3, .box [.own 94, .own 156]), (2, .box [.c (.v (.slice none 0 0)), .c (.v (.slice none 0 0))]), (1, .box [.c (.sl b 6 (rows e6 x.papers)), .c (.sl b 3 (rows e3 x.flutes)), .c (.sl b 1 (rows eY x.by'))])]⟩ ?_ ?_
   ·rcases hcond with hc | ⟨hc1, hc2, hc3⟩
    ·repeat' (first|(with_reducible first|apply qA|apply qB|apply qC|apply qD|apply qE|apply qF)|(refine qL rfl (WF.of ?_) ?_; first|rfl|skip)|(simp (disch:=omega) only [go_sem, simprocAttr, Blk.men, Blk.keysIn, hc])|exact qM rfl rfl rfl|(refine qG rfl ?_)|(refine qH rfl ?_)|(refine qI rfl ?_ ?_<;>intro hc<;>(try simp only [go_sem] at hc))|(refine qJ ?_ ?_<;>intro hc<;>(try simp only [hc])<;>(try simp only [go_sem] at hc)))
     refine Ent.to ?_ ?_ <;> simp (disch:=omega) only [qR,qS,qTw,qU,get,Nat.reduceEqDiff,↓reduceIte,qV,qW,qX,qY,qZ,and_self,dI,i64_in,and_true,true_and,rA,rB,rC,rD]
    ·repeat' (first|(with_reducible first|apply qA|apply qB|apply qC|apply qD|apply qE|apply qF)|(refine qL rfl (WF.of ?_) ?_; first|rfl|skip)|(simp (disch:=omega) only [go_sem, simprocAttr, Blk.men, Blk.keysIn, hc1, hc2, hc3])|exact qM rfl rfl rfl|(refine qG rfl ?_)|(refine qH rfl ?_)|(refine qI rfl ?_ ?_<;>intro hc<;>(try simp only [go_sem] at hc))|(refine qJ ?_ ?_<;>intro hc<;>(try simp only [hc])<;>(try simp only [go_sem] at hc)))
     refine Ent.to ?_ ?_ <;> simp (disch:=omega) only [qR,qS,qTw,qU,get,Nat.reduceEqDiff,↓reduceIte,qV,qW,qX,qY,qZ,and_self,dI,i64_in,and_true,true_and,rA,rB,rC,rD]
   refine DW.seq (DW.block (DW.seq (DW.reg ?_)))
   simp (disch:=omega) only [go_sem,simprocAttr,Blk.men,Blk.keysIn]
   generalize hpv : fluV x i = v at *
   refine DW.cut ⟨159, [(8, .box 8 0), (7, dI i), (3, .box 3 0), (2, .box 2 0), (1, .box 1 0)], [(156, .row 4 (rowC (rows eF (wFlus x i)))), (94, .row 8 (rowC (rows eP (wPaps x (nPap x))))), (8, .box ((e3 v).map D.c)), (3, .box [.own 94, .own 156]), (2, .box [.c (.v (.slice none 0 0)), .c (.v (.slice none 0 0))]), (1, .box [.c (.sl b 6 (rows e6 x.papers)), .c (.sl b 3 (rows e3 x.flutes)), .c (.sl b 1 (rows eY x.by'))])]⟩ ?_ ?_
   ·rcases Nat.lt_or_ge i x.flutes.length with hl | hl
    ·have hd : decide ((i : Int) < (x.flutes.length : Int)) = true := by rw [decide_eq_true_eq]; omega
     have hxv : x.flutes[i]? = some v := by
      rw [← hpv, fluV, List.getElem?_eq_getElem hl]; rfl
     repeat' (first|(with_reducible first|apply qA|apply qB|apply qC|apply qD|apply qE|apply qF)|(refine qL rfl (WF.of ?_) ?_; first|rfl|skip)|(simp (disch:=omega) only [go_sem, simprocAttr, Blk.men, Blk.keysIn, hd, hxv, rF, rG])|exact qM rfl rfl rfl|(refine qG rfl ?_)|(refine qH rfl ?_)|(refine qI rfl ?_ ?_<;>intro hc<;>(try simp only [go_sem] at hc))|(refine qJ ?_ ?_<;>intro hc<;>(try simp only [hc])<;>(try simp only [go_sem] at hc)))
     refine Ent.to ?_ ?_ <;> simp (disch:=omega) only [qR,qS,qTw,qU,get,Nat.reduceEqDiff,↓reduceIte,qV,qW,qX,qY,qZ,and_self,dI,i64_in,and_true,true_and,rA,rB,rC,rD]
    ·have hd : decide ((i : Int) < (x.flutes.length : Int)) = false := by rw [decide_eq_false_iff_not]; omega
     have hxv : v = ⟨80, 128, 36⟩ := by
      rw [← hpv, fluV, List.getElem?_eq_none hl]; rfl
     rw [hxv]
     repeat' (first|(with_reducible first|apply qA|apply qB|apply qC|apply qD|apply qE|apply qF)|(refine qL rfl (WF.of ?_) ?_; first|rfl|skip)|(simp (disch:=omega) only [go_sem, simprocAttr, Blk.men, Blk.keysIn, hd, rF, rG])|exact qM rfl rfl rfl|(refine qG rfl ?_)|(refine qH rfl ?_)|(refine qI rfl ?_ ?_<;>intro hc<;>(try simp only [go_sem] at hc))|(refine qJ ?_ ?_<;>intro hc<;>(try simp only [hc])<;>(try simp only [go_sem] at hc)))
     refine Ent.to ?_ ?_ <;> simp (disch:=omega) only [qR,qS,qTw,qU,get,Nat.reduceEqDiff,↓reduceIte,qV,qW,qX,qY,qZ,and_self,dI,i64_in,and_true,true_and,rA,rB,rC,rD]
     all_goals exact .refl _
   have w0 := hv.v0
   have w1 := hv.v1
   have w2 := hv.v2
   have hfd := fluOf_draw hv
   have m1 : v.v1 % 90 < 90 := Nat.mod_lt _ (by decide)
   have s1 := arSpan (500 + 10 * (v.v2 : Int)) (500 + 10 * (v.v2 : Int) + ((v.v1 % 90 : Nat) : Int))
   have hln := wFlus_len x i
   have hsn := wFlus_succ x i
   rw [hpv] at hsn
   have hpo : fluOf v = ⟨1000 + 35 * (v.v0 : Int), 1000 + 35 * (v.v0 : Int) + ((1000 + 35 * (v.v0 : Int)) * (v.v1 : Int)).tdiv 255, 500 + 10 * (v.v2 : Int), 500 + 10 * (v.v2 : Int) + ((v.v1 % 90 : Nat) : Int)⟩ := rfl
   rw [hpo] at hsn
   generalize wFlus x i = l at *
   repeat' (first|(with_reducible first|apply qA|apply qB|apply qC|apply qD|apply qE|apply qF)|(refine qL rfl (WF.of ?_) ?_; first|rfl|skip)|(simp (disch:=omega) only [go_sem, simprocAttr, Blk.men, Blk.keysIn, t90, rF, rG])|exact qM rfl rfl rfl|(refine qG rfl ?_)|(refine qK (s1) (by decide) ?_)|(refine qH rfl ?_)|(refine qI rfl ?_ ?_<;>intro hc<;>(try simp only [go_sem] at hc))|(refine qJ ?_ ?_<;>intro hc<;>(try simp only [hc])<;>(try simp only [go_sem] at hc)))
   refine ⟨⟨i + 1, hlt⟩, ?_, Ent.to ?_ ?_⟩ <;> first | (show _ < _; (try simp only); omega) | (simp (disch:=omega) only [qR,qS,qTw,qU,get,Nat.reduceEqDiff,↓reduceIte,qV,qW,qX,qY,qZ,and_self,dI,i64_in,and_true,true_and,rA,rB,rC,rD, hsn])
   all_goals exact .refl _
  ·obtain rfl : i = nFlu x := by omega
   have hc1 : ((nFlu x : Int) == 0) = false := by rw [beq_eq_false_iff_ne]; omega
   have hcond : (decide ((nFlu x : Int) < (x.flutes.length : Int)) = false) ∨ (decide ((nFlu x : Int) < (x.flutes.length : Int)) = true ∧ decide ((nFlu x : Int) < 3) = false) := by
    have : nFlu x = max 1 (min 3 x.flutes.length) := rfl
    simp only [decide_eq_true_eq, decide_eq_false_iff_not]
    omega
   rcases hcond with hc | ⟨hc2, hc3⟩
   ·repeat' (first|(with_reducible first|apply qA|apply qB|apply qC|apply qD|apply qE|apply qF)|(refine qL rfl (WF.of ?_) ?_; first|rfl|skip)|(simp (disch:=omega) only [go_sem, simprocAttr, Blk.men, Blk.keysIn, hc1, hc])|exact qM rfl rfl rfl|(refine qG rfl ?_)|(refine qH rfl ?_)|(refine qI rfl ?_ ?_<;>intro hc<;>(try simp only [go_sem] at hc))|(refine qJ ?_ ?_<;>intro hc<;>(try simp only [hc])<;>(try simp only [go_sem] at hc)))
    (refine retS_ent (Ent.rel 94 rfl) ?_; simp (disch:=omega) only [go_sem,simprocAttr,Blk.men,Blk.keysIn])
    (refine retS_ent (Ent.rel 156 rfl) ?_; simp (disch:=omega) only [go_sem,simprocAttr,Blk.men,Blk.keysIn])
    refine retS_wk rfl ?_ (by simp only [Blk.nb, rowC_nb, D.nb, D.nbs, C.nb, C.nbs, C.nbss, rows_nb eI_nb, Bool.and_true, Bool.not_false, Bool.and_self, bD, dI, iD, rows_nb eP_nb, rows_nb eF_nb, rows_nb eY_nb]); exact .refl _
   ·repeat' (first|(with_reducible first|apply qA|apply qB|apply qC|apply qD|apply qE|apply qF)|(refine qL rfl (WF.of ?_) ?_; first|rfl|skip)|(simp (disch:=omega) only [go_sem, simprocAttr, Blk.men, Blk.keysIn, hc1, hc2, hc3])|exact qM rfl rfl rfl|(refine qG rfl ?_)|(refine qH rfl ?_)|(refine qI rfl ?_ ?_<;>intro hc<;>(try simp only [go_sem] at hc))|(refine qJ ?_ ?_<;>intro hc<;>(try simp only [hc])<;>(try simp only [go_sem] at hc)))
    (refine retS_ent (Ent.rel 94 rfl) ?_; simp (disch:=omega) only [go_sem,simprocAttr,Blk.men,Blk.keysIn])
    (refine retS_ent (Ent.rel 156 rfl) ?_; simp (disch:=omega) only [go_sem,simprocAttr,Blk.men,Blk.keysIn])
    refine retS_wk rfl ?_ (by simp only [Blk.nb, rowC_nb, D.nb, D.nbs, C.nb, C.nbs, C.nbss, rows_nb eI_nb, Bool.and_true, Bool.not_false, Bool.and_self, bD, dI, iD, rows_nb eP_nb, rows_nb eF_nb, rows_nb eY_nb]); exact .refl _
end Go.Dw.Seat
end
section
set_option linter.unusedSimpArgs false
set_option maxRecDepth 100000
namespace Go.Dw.Seat
open Go Go.Dw Go.Proofs Go.IntWalk
theorem arInts (b : Bool) (l : List Int) (hl : l.length ≤ 2 ^ 36) : DCall Tryd.prog 49 [dIs b l] [] (dIs false l) [] := by
 refine DCall.of Tryd.func49 sf49 hb49 (Nat.le_of_ble_eq_true rfl) (okRes_nil fun _ => rfl) ?_; simp only [s49, idxs, Nat.reduceAdd]
 repeat' (first|(with_reducible first|apply qA|apply qB|apply qC|apply qD|apply qE|apply qF)|(simp (disch:=omega) only [go_sem, simprocAttr, Blk.men, Blk.keysIn])|exact qM rfl rfl rfl|(refine qG rfl ?_)|(refine qH rfl ?_)|(refine qI rfl ?_ ?_<;>intro hc<;>(try simp only [go_sem] at hc))|(refine qJ ?_ ?_<;>intro hc<;>(try simp only [hc])<;>(try simp only [go_sem] at hc)))
 (refine retS_ent (Ent.rel 3 rfl) ?_; simp (disch:=omega) only [go_sem,simprocAttr,Blk.men,Blk.keysIn])
 refine retS_wk rfl ?_ (by simp only [Blk.nb, rowC_nb, D.nb, D.nbs, C.nb, C.nbs, C.nbss, rows_nb eI_nb, Bool.and_true, Bool.not_false, Bool.and_self, bD, dI, iD, rows_nb eP_nb, rows_nb eF_nb, rows_nb eY_nb]); exact .refl _
theorem arMade (m : Mak) (h1 : m.papers.length ≤ 1000) (h2 : m.flutes.length ≤ 1000) : DCall Tryd.prog 18 [dMak m] [] (dMak m) [] := by
 have c1 := arInts false (nL m.papers) (by rw [nL_length]; omega)
 have c2 := arInts false (nL m.flutes) (by rw [nL_length]; omega)
 refine DCall.of Tryd.func18 sf18 hb18 (Nat.le_of_ble_eq_true rfl) (okRes_nil fun _ => rfl) ?_; simp only [s18, idxs, Nat.reduceAdd]
 repeat' (first|(with_reducible first|apply qA|apply qB|apply qC|apply qD|apply qE|apply qF)|(refine qL rfl (WF.of ?_) ?_; first|rfl|skip)|(simp (disch:=omega) only [go_sem, simprocAttr, Blk.men, Blk.keysIn])|exact qM rfl rfl rfl|(refine qG rfl ?_)|(refine qK (c1) (by decide) ?_)|(refine qK (c2) (by decide) ?_)|(refine qH rfl ?_)|(refine qI rfl ?_ ?_<;>intro hc<;>(try simp only [go_sem] at hc))|(refine qJ ?_ ?_<;>intro hc<;>(try simp only [hc])<;>(try simp only [go_sem] at hc)))
 refine retS_wk rfl ?_ (by simp only [Blk.nb, rowC_nb, D.nb, D.nbs, C.nb, C.nbs, C.nbss, rows_nb eI_nb, Bool.and_true, Bool.not_false, Bool.and_self, bD, dI, iD, rows_nb eP_nb, rows_nb eF_nb, rows_nb eY_nb]); exact .refl _
theorem arOwn (s : Sto) (h1 : s.papers.length ≤ 1000) (h2 : s.flutes.length ≤ 1000) : DCall Tryd.prog 17 [dSto s] [] (dSto s) [] := by
 refine DCall.of Tryd.func17 sf17 hb17 (Nat.le_of_ble_eq_true rfl) (okRes_nil fun _ => rfl) ?_; simp only [s17, o17_0, o17_1, o17_2, o17_3, o17_4, o17_5, o17_6, o17_7, o17_8, o17_9, idxs, Nat.reduceAdd]
 repeat' (first|(with_reducible first|apply qA|apply qB|apply qC|apply qD|apply qE|apply qF)|(refine DW.ord rfl (WF.of (by first|rfl|simp (disch:=omega) only [go_sem, simprocAttr, Blk.men, Blk.keysIn])) ?_ ?_ ?_; rotate_left)|rfl|(with_reducible refine And.intro ?_ ?_)|(simp (disch:=omega) only [go_sem, simprocAttr, Blk.men, Blk.keysIn])|exact qM rfl rfl rfl|(refine qG rfl ?_)|(refine qH rfl ?_)|(refine qI rfl ?_ ?_<;>intro hc<;>(try simp only [go_sem] at hc))|(refine qJ ?_ ?_<;>intro hc<;>(try simp only [hc])<;>(try simp only [go_sem] at hc)))
 (refine retS_ent (Ent.rel 7 rfl) ?_; simp (disch:=omega) only [go_sem,simprocAttr,Blk.men,Blk.keysIn])
 (refine retS_ent (Ent.rel 3 rfl) ?_; simp (disch:=omega) only [go_sem,simprocAttr,Blk.men,Blk.keysIn])
 refine retS_wk rfl ?_ (by simp only [Blk.nb, rowC_nb, D.nb, D.nbs, C.nb, C.nbs, C.nbss, rows_nb eI_nb, Bool.and_true, Bool.not_false, Bool.and_self, bD, dI, iD, rows_nb eP_nb, rows_nb eF_nb, rows_nb eY_nb]); exact .refl _
def kT (s : Sto) (j : Int) (i : Nat) : List Nat := (List.range i).filter fun n => decide ((papAt s n).kind = j)
theorem kT_succ (s : Sto) (j : Int) (i : Nat) : kT s j (i + 1) = if (papAt s i).kind = j then kT s j i ++ [i] else kT s j i := by
 simp only [kT, List.range_succ, List.filter_append, List.filter_cons, List.filter_nil]
 by_cases h : (papAt s i).kind = j <;> simp [h]
theorem kT_len (s : Sto) (j : Int) (i : Nat) : (kT s j i).length ≤ i := by
 have := List.length_filter_le (fun n => decide ((papAt s n).kind = j)) (List.range i)
 simpa [kT] using this
theorem kT_mem {s : Sto} {j : Int} {i n : Nat} (h : n ∈ kT s j i) : n < i ∧ (papAt s n).kind = j := by
 simpa [kT] using h
def kOf (x : War) (i : Nat) : List Nat := kT (wSto x) (if i % 2 = 0 then 1 else 2) (nPap x)
def mkPap (x : War) (i : Nat) : Nat := ((kOf x i)[byteI x.by' (i + 1) % (kOf x i).length]?).getD 0
def mkFlu (x : War) (k : Nat) : Nat := byteI x.by' (2 * k + 1 + 6) % nFlu x
def mP (x : War) (i : Nat) : List Nat := (List.range i).map (mkPap x)
def mF (x : War) (k : Nat) : List Nat := (List.range k).map (mkFlu x)
def nfOf (x : War) : Nat := 1 + byteI x.by' 0 % 2
def wMak (x : War) : Mak := ⟨mP x (2 * nfOf x + 1), mF x (nfOf x)⟩
theorem mP_succ (x : War) (i : Nat) : nL (mP x (i + 1)) = nL (mP x i) ++ [(mkPap x i : Int)] := by simp [mP, nL, List.range_succ]
theorem mF_succ (x : War) (i : Nat) : nL (mF x (i + 1)) = nL (mF x i) ++ [(mkFlu x i : Int)] := by simp [mF, nL, List.range_succ]
theorem mP_len (x : War) (i : Nat) : (mP x i).length = i := by simp [mP]
theorem mF_len (x : War) (i : Nat) : (mF x i).length = i := by simp [mF]
theorem wPap_at (x : War) {n : Nat} (h : n < nPap x) : papAt (wSto x) n = papOf n (papV x n) := by
 simp [papAt, wSto, wPaps, h]
theorem kOf_pos (x : War) (i : Nat) : 0 < (kOf x i).length := by
 have hn : 2 ≤ nPap x := by unfold nPap; omega
 have hmem : (if i % 2 = 0 then 0 else 1) ∈ kOf x i := by
  simp only [kOf, kT, List.mem_filter, List.mem_range, decide_eq_true_eq]
  split
  ·refine ⟨by omega, ?_⟩
   rw [wPap_at x (by omega)]; rfl
  ·refine ⟨by omega, ?_⟩
   rw [wPap_at x (by omega)]; rfl
 exact List.length_pos_of_mem hmem
theorem kOf_len (x : War) (i : Nat) : (kOf x i).length ≤ 5 := by
 have := kT_len (wSto x) (if i % 2 = 0 then 1 else 2) (nPap x)
 have hn : nPap x ≤ 5 := by unfold nPap; omega
 unfold kOf
 omega
theorem mkPap_at (x : War) (i : Nat) : (kOf x i)[byteI x.by' (i + 1) % (kOf x i).length]? = some (mkPap x i) := by
 have hlt : byteI x.by' (i + 1) % (kOf x i).length < (kOf x i).length := Nat.mod_lt _ (kOf_pos x i)
 rw [mkPap, List.getElem?_eq_getElem hlt]; rfl
theorem mkPap_mem (x : War) (i : Nat) : mkPap x i < nPap x ∧ (papAt (wSto x) (mkPap x i)).kind = if i % 2 = 0 then 1 else 2 := kT_mem (List.mem_of_getElem? (mkPap_at x i))
theorem wMak_ok (x : War) : (wMak x).ok (wSto x) := by
 have h2 : byteI x.by' 0 % 2 < 2 := Nat.mod_lt _ (by decide)
 have hp : (wSto x).papers.length = nPap x := wPaps_len x _
 have hf : (wSto x).flutes.length = nFlu x := wFlus_len x _
 refine ⟨?_, ?_, ?_, ?_, ?_⟩
 ·show 1 ≤ (mF x (nfOf x)).length ∧ (mF x (nfOf x)).length ≤ 2
  rw [mF_len]; unfold nfOf; omega
 ·show (mP x (2 * nfOf x + 1)).length = 2 * (mF x (nfOf x)).length + 1
  rw [mP_len, mF_len]
 ·intro n hn
  obtain ⟨i, _, rfl⟩ := List.mem_map.1 hn
  rw [hp]; exact (mkPap_mem x i).1
 ·intro n hn
  obtain ⟨i, _, rfl⟩ := List.mem_map.1 hn
  rw [hf]; exact Nat.mod_lt _ (by unfold nFlu; omega)
 ·intro i n p h1 h2
  have h1' : (mP x (2 * nfOf x + 1))[i]? = some n := h1
  have hi : i < 2 * nfOf x + 1 := by
   rcases Nat.lt_or_ge i (2 * nfOf x + 1) with h | h
   ·exact h
   ·rw [List.getElem?_eq_none (by rw [mP_len]; exact h)] at h1'; cases h1'
  have : n = mkPap x i := by simpa [mP, hi] using h1'.symm
  subst this
  have hm := mkPap_mem x i
  have hg := papAt_get (s := wSto x) (n := mkPap x i) (by rw [hp]; exact hm.1)
  rw [hg] at h2
  cases h2
  exact hm.2
set_option maxHeartbeats 1600000 in
theorem arMake (b : Bool) (x : War) (h : x.ok) : DCall Tryd.prog 15 [dWar b x] [] (dMak (wMak x)) [] := by
 have hst := arStore b x h
 have hn : nPap x ≤ 5 ∧ 2 ≤ nPap x := by unfold nPap; omega
 have hnf : nFlu x ≤ 3 ∧ 1 ≤ nFlu x := by unfold nFlu; omega
 have hp : (wSto x).papers.length = nPap x := wPaps_len x _
 have hf : (wSto x).flutes.length = nFlu x := wFlus_len x _
 have hso := wSto_ok h
 refine DCall.of Tryd.func15 sf15 hb15 (Nat.le_of_ble_eq_true rfl) (okRes_nil fun _ => rfl) ?_; simp only [s15, idxs, Nat.reduceAdd]
 repeat' (first|(with_reducible first|apply qA|apply qB|apply qC|apply qD|apply qE|apply qF)|(refine qL rfl (WF.of ?_) ?_; first|rfl|skip)|(simp (disch:=omega) only [go_sem, simprocAttr, Blk.men, Blk.keysIn])|exact qM rfl rfl rfl|(refine qG rfl ?_)|(refine qK (hst) (by decide) ?_)|(refine qH rfl ?_)|(refine qI rfl ?_ ?_<;>intro hc<;>(try simp only [go_sem] at hc))|(refine qJ ?_ ?_<;>intro hc<;>(try simp only [hc])<;>(try simp only [go_sem] at hc)))
 (refine DW.ent (Ent.adoptB 5 0 31 1 rfl rfl rfl rfl) ?_; simp only [ins, Nat.reduceLT, Nat.reduceEqDiff, ↓reduceIte, List.set_cons_zero, List.set_cons_succ])
 (refine DW.ent (Ent.adoptB 5 1 32 1 rfl rfl rfl rfl) ?_; simp only [ins, Nat.reduceLT, Nat.reduceEqDiff, ↓reduceIte, List.set_cons_zero, List.set_cons_succ])
 (refine DW.ent (Ent.adoptB 4 0 67 1 rfl rfl rfl rfl) ?_; simp only [ins, Nat.reduceLT, Nat.reduceEqDiff, ↓reduceIte, List.set_cons_zero, List.set_cons_succ])
 (refine DW.ent (Ent.adoptB 4 1 84 1 rfl rfl rfl rfl) ?_; simp only [ins, Nat.reduceLT, Nat.reduceEqDiff, ↓reduceIte, List.set_cons_zero, List.set_cons_succ])
 refine DW.loop (ι := { i : Nat // i ≤ nPap x }) (fun i => ⟨87, [(6, dI i.1), (5, .box 5 0), (4, .box 4 0), (3, .box 3 0), (2, .box 2 0), (1, .box 1 0)], [(84, .row 1 (rowC (rows eI (nL (mF x 0))))), (67, .row 1 (rowC (rows eI (nL (mP x 0))))), (32, .row 1 (rowC (rows eI (nL (kT (wSto x) 2 i.1))))), (31, .row 1 (rowC (rows eI (nL (kT (wSto x) 1 i.1))))), (5, .box [.own 31, .own 32]), (4, .box [.own 67, .own 84]), (3, .box [.c (.sl false 8 (rows eP (wSto x).papers)), .c (.sl false 4 (rows eF (wSto x).flutes))]), (2, .box [.c (.v (.slice none 0 0)), .c (.v (.slice none 0 0))]), (1, .box [.c (.sl b 6 (rows e6 x.papers)), .c (.sl b 3 (rows e3 x.flutes)), .c (.sl b 1 (rows eY x.by'))])]⟩) (fun i => nPap x - i.1) ⟨0, Nat.zero_le _⟩ ?_ ?_
 ·refine Ent.to ?_ ?_ <;> simp (disch:=omega) only [qR,qS,qTw,qU,get,Nat.reduceEqDiff,↓reduceIte,qV,qW,qX,qY,qZ,and_self,dI,i64_in,and_true,true_and,rA,rB,rC,rD]
  exact ⟨.refl _, .refl _, .refl _, .refl _⟩
 rintro ⟨i, hi⟩
 dsimp only
 rcases Nat.lt_or_ge i (nPap x) with hlt | hge
 ·have hd : decide ((i : Int) < ((wSto x).papers.length : Int)) = true := by rw [decide_eq_true_eq, hp]; omega
  have hpa := papAt_get (s := wSto x) (n := i) (by rw [hp]; exact hlt)
  have hk := (papAt_ok hso (n := i) (by rw [hp]; exact hlt)).kind
  have l1 := kT_len (wSto x) 1 i
  have l2 := kT_len (wSto x) 2 i
  have n1 := kT_succ (wSto x) 1 i
  have n2 := kT_succ (wSto x) 2 i
  generalize papAt (wSto x) i = p at *
  generalize kT (wSto x) 1 i = a1 at *
  generalize kT (wSto x) 2 i = a2 at *
  rcases hk with hk | hk
  ·have hk0 : p.kind - 1 = 0 := by omega
   rw [if_pos hk] at n1
   rw [if_neg (by omega)] at n2
   have q1 : nL (a1 ++ [i]) = nL a1 ++ [(i : Int)] := (nL_snoc a1 i).symm
   have ln1 := nL_length a1
   generalize nL a1 = c1 at *
   repeat' (first|(with_reducible first|apply qA|apply qB|apply qC|apply qD|apply qE|apply qF)|(refine qL rfl (WF.of ?_) ?_; first|rfl|skip)|(simp (disch:=omega) only [go_sem, simprocAttr, Blk.men, Blk.keysIn, hd, hpa, hk0, rF, rG])|exact qM rfl rfl rfl|(refine qG rfl ?_)|(refine qH rfl ?_)|(refine qI rfl ?_ ?_<;>intro hc<;>(try simp only [go_sem] at hc))|(refine qJ ?_ ?_<;>intro hc<;>(try simp only [hc])<;>(try simp only [go_sem] at hc)))
   refine ⟨⟨i + 1, hlt⟩, ?_, Ent.to ?_ ?_⟩ <;> first | (show _ < _; (try simp only); omega) | (simp (disch:=omega) only [qR,qS,qTw,qU,get,Nat.reduceEqDiff,↓reduceIte,qV,qW,qX,qY,qZ,and_self,dI,i64_in,and_true,true_and,rA,rB,rC,rD, n1,n2,q1])
   all_goals exact .refl _
  ·have hk0 : p.kind - 1 = 1 := by omega
   rw [if_neg (by omega)] at n1
   rw [if_pos hk] at n2
   have q1 : nL (a2 ++ [i]) = nL a2 ++ [(i : Int)] := (nL_snoc a2 i).symm
   have ln1 := nL_length a2
   generalize nL a2 = c1 at *
   repeat' (first|(with_reducible first|apply qA|apply qB|apply qC|apply qD|apply qE|apply qF)|(refine qL rfl (WF.of ?_) ?_; first|rfl|skip)|(simp (disch:=omega) only [go_sem, simprocAttr, Blk.men, Blk.keysIn, hd, hpa, hk0, rF, rG])|exact qM rfl rfl rfl|(refine qG rfl ?_)|(refine qH rfl ?_)|(refine qI rfl ?_ ?_<;>intro hc<;>(try simp only [go_sem] at hc))|(refine qJ ?_ ?_<;>intro hc<;>(try simp only [hc])<;>(try simp only [go_sem] at hc)))
   refine ⟨⟨i + 1, hlt⟩, ?_, Ent.to ?_ ?_⟩ <;> first | (show _ < _; (try simp only); omega) | (simp (disch:=omega) only [qR,qS,qTw,qU,get,Nat.reduceEqDiff,↓reduceIte,qV,qW,qX,qY,qZ,and_self,dI,i64_in,and_true,true_and,rA,rB,rC,rD, n1,n2,q1])
   all_goals exact .refl _
 ·obtain rfl : i = nPap x := by omega
  have hd : decide ((nPap x : Int) < ((wSto x).papers.length : Int)) = false := by rw [decide_eq_false_iff_not, hp]; omega
  have hb0 := arByte b x.by' 0 (by omega) h.by'
  rw [show ((0 : Nat) : Int) = 0 from rfl] at hb0
  have h28 : byteI x.by' 0 < 256 := by
   unfold byteI
   cases hv : x.by'[0 % x.by'.length]? with
   | none => decide
   | some v => exact h.by' v (List.mem_of_getElem? hv)
  have hm2 : byteI x.by' 0 % 2 < 2 := Nat.mod_lt _ (by decide)
  have hnfI : 1 + ((byteI x.by' 0 % 2 : Nat) : Int) = (nfOf x : Int) := by unfold nfOf; omega
  have hnf2 : 1 ≤ nfOf x ∧ nfOf x ≤ 2 := by unfold nfOf; omega
  repeat' (first|(with_reducible first|apply qA|apply qB|apply qC|apply qD|apply qE|apply qF)|(refine qL rfl (WF.of ?_) ?_; first|rfl|skip)|(simp (disch:=omega) only [go_sem, simprocAttr, Blk.men, Blk.keysIn, hd, t2, hnfI])|exact qM rfl rfl rfl|(refine qG rfl ?_)|(refine qK (hb0) (by decide) ?_)|(refine qH rfl ?_)|(refine qI rfl ?_ ?_<;>intro hc<;>(try simp only [go_sem] at hc))|(refine qJ ?_ ?_<;>intro hc<;>(try simp only [hc])<;>(try simp only [go_sem] at hc)))
  clear hb0 h28 hm2 hnfI hd
  generalize hnfe : nfOf x = nf at *
  refine DW.loop (ι := { i : Nat // i ≤ 2 * nf + 1 }) (fun i => ⟨87, [(9, dI i.1), (8, dI nf), (5, .box 5 0), (4, .box 4 0), (3, .box 3 0), (2, .box 2 0), (1, .box 1 0)], [(84, .row 1 (rowC (rows eI (nL (mF x (i.1 / 2)))))), (67, .row 1 (rowC (rows eI (nL (mP x i.1))))), (32, .row 1 (rowC (rows eI (nL (kT (wSto x) 2 (nPap x)))))), (31, .row 1 (rowC (rows eI (nL (kT (wSto x) 1 (nPap x)))))), (5, .box [.own 31, .own 32]), (4, .box [.own 67, .own 84]), (3, .box [.c (.sl false 8 (rows eP (wSto x).papers)), .c (.sl false 4 (rows eF (wSto x).flutes))]), (2, .box [.c (.v (.slice none 0 0)), .c (.v (.slice none 0 0))]), (1, .box [.c (.sl b 6 (rows e6 x.papers)), .c (.sl b 3 (rows e3 x.flutes)), .c (.sl b 1 (rows eY x.by'))])]⟩) (fun i => 2 * nf + 1 - i.1) ⟨0, Nat.zero_le _⟩ ?_ ?_
  ·refine Ent.to ?_ ?_ <;> simp (disch:=omega) only [qR,qS,qTw,qU,get,Nat.reduceEqDiff,↓reduceIte,qV,qW,qX,qY,qZ,and_self,dI,i64_in,and_true,true_and,rA,rB,rC,rD,Nat.zero_div]
  clear hi
  rintro ⟨i, hi⟩
  dsimp only
  rcases Nat.lt_or_ge i (2 * nf + 1) with hlt | hge
  ·have hd : decide ((i : Int) < 2 * (nf : Int) + 1) = true := by rw [decide_eq_true_eq]; omega
   have hb1 := arByte b x.by' (i + 1) (by omega) h.by'
   rw [Int.natCast_add, Int.natCast_one] at hb1
   have hkp := kOf_pos x i
   have hkl := kOf_len x i
   have hat := mkPap_at x i
   have hmm := (mkPap_mem x i).1
   have hsP := mP_succ x i
   have hlP := mP_len x i
   have hlF := mF_len x (i / 2)
   have hz : (((kOf x i).length : Int) = 0) = False := eq_false (by omega)
   have hr : (byteI x.by' (i + 1) : Int).tmod ((kOf x i).length : Int) = ((byteI x.by' (i + 1) % (kOf x i).length : Nat) : Int) := tmodN _ _
   have hjl : byteI x.by' (i + 1) % (kOf x i).length < (kOf x i).length := Nat.mod_lt _ hkp
   have hj1 : (byteI x.by' (i + 1) % (kOf x i).length < (kOf x i).length) = True := eq_true hjl
   have hj2 := nL_at hat
   have hrem : (i : Int).tmod 2 = ((i % 2 : Nat) : Int) := t2 i
   have hkk : kOf x i = kT (wSto x) (if i % 2 = 0 then 1 else 2) (nPap x) := rfl
   generalize mkPap x i = v at *
   generalize byteI x.by' (i + 1) % (kOf x i).length = j at *
   generalize byteI x.by' (i + 1) = y at *
   have hln1 := nL_length (mP x i)
   have hln2 := nL_length (mF x (i / 2))
   have hln3 := nL_length (kOf x i)
   rcases (by omega : i % 2 = 0 ∨ i % 2 = 1) with ho | ho
   ·rw [if_pos ho] at hkk
    rw [← hkk]
    rw [ho] at hrem
    generalize kOf x i = kk at *
    generalize nL kk = ck at *
    have hdiv : (i + 1) / 2 = i / 2 := by omega
    generalize nL (mP x i) = cp at *
    repeat' (first|(with_reducible first|apply qA|apply qB|apply qC|apply qD|apply qE|apply qF)|(refine qL rfl (WF.of ?_) ?_; first|rfl|skip)|(simp (disch:=omega) only [go_sem, simprocAttr, Blk.men, Blk.keysIn, hd, hrem, hz, hr, hj1, hj2, hln3])|exact qM rfl rfl rfl|(refine qG rfl ?_)|(refine qK (hb1) (by decide) ?_)|(refine qH rfl ?_)|(refine qI rfl ?_ ?_<;>intro hc<;>(try simp only [go_sem] at hc))|(refine qJ ?_ ?_<;>intro hc<;>(try simp only [hc])<;>(try simp only [go_sem] at hc)))
    refine ⟨⟨i + 1, hlt⟩, ?_, Ent.to ?_ ?_⟩ <;> first | (show _ < _; (try simp only); omega) | (simp (disch:=omega) only [qR,qS,qTw,qU,get,Nat.reduceEqDiff,↓reduceIte,qV,qW,qX,qY,qZ,and_self,dI,i64_in,and_true,true_and,rA,rB,rC,rD, hsP,hdiv])
    all_goals exact .refl _
   ·rw [if_neg (by omega)] at hkk
    rw [← hkk]
    rw [ho] at hrem
    have hb6 := arByte b x.by' (i + 6) (by omega) h.by'
    rw [Int.natCast_add] at hb6
    have hb6' : DCall Tryd.prog 46 [.c (.sl b 1 (rows eY x.by')), dI ((i : Int) + 6)] [] (dI (byteI x.by' (i + 6))) [] := hb6
    clear hb6
    have hzf : ((nFlu x : Int) = 0) = False := eq_false (by omega)
    have hrf : (byteI x.by' (i + 6) : Int).tmod (nFlu x : Int) = ((byteI x.by' (i + 6) % nFlu x : Nat) : Int) := tmodN _ _
    have hwf : ((wSto x).flutes.length : Int) = (nFlu x : Int) := by rw [hf]
    have hmf : mkFlu x (i / 2) = byteI x.by' (i + 6) % nFlu x := by unfold mkFlu; rw [show 2 * (i / 2) + 1 + 6 = i + 6 by omega]
    have hsF := mF_succ x (i / 2)
    rw [hmf, show i / 2 + 1 = (i + 1) / 2 by omega] at hsF
    have hfl : byteI x.by' (i + 6) % nFlu x < nFlu x := Nat.mod_lt _ (by omega)
    generalize byteI x.by' (i + 6) % nFlu x = u at *
    generalize byteI x.by' (i + 6) = z at *
    generalize kOf x i = kk at *
    generalize nL kk = ck at *
    generalize nL (mP x i) = cp at *
    generalize nL (mF x (i / 2)) = cf at *
    repeat' (first|(with_reducible first|apply qA|apply qB|apply qC|apply qD|apply qE|apply qF)|(refine qL rfl (WF.of ?_) ?_; first|rfl|skip)|(simp (disch:=omega) only [go_sem, simprocAttr, Blk.men, Blk.keysIn, hd, hrem, hz, hr, hj1, hj2, hln3, hzf, hrf, hwf])|exact qM rfl rfl rfl|(refine qG rfl ?_)|(refine qK (hb1) (by decide) ?_)|(refine qK (hb6') (by decide) ?_)|(refine qH rfl ?_)|(refine qI rfl ?_ ?_<;>intro hc<;>(try simp only [go_sem] at hc))|(refine qJ ?_ ?_<;>intro hc<;>(try simp only [hc])<;>(try simp only [go_sem] at hc)))
    refine ⟨⟨i + 1, hlt⟩, ?_, Ent.to ?_ ?_⟩ <;> first | (show _ < _; (try simp only); omega) | (simp (disch:=omega) only [qR,qS,qTw,qU,get,Nat.reduceEqDiff,↓reduceIte,qV,qW,qX,qY,qZ,and_self,dI,i64_in,and_true,true_and,rA,rB,rC,rD, hsP,hsF])
    all_goals exact .refl _
  ·obtain rfl : i = 2 * nf + 1 := by omega
   have hd : decide (((2 * nf + 1 : Nat) : Int) < 2 * (nf : Int) + 1) = false := by rw [decide_eq_false_iff_not]; omega
   have hdv : (2 * nf + 1) / 2 = nf := by omega
   have hwm : wMak x = ⟨mP x (2 * nf + 1), mF x nf⟩ := by rw [← hnfe]; rfl
   rw [hwm, hdv]
   repeat' (first|(with_reducible first|apply qA|apply qB|apply qC|apply qD|apply qE|apply qF)|(refine qL rfl (WF.of ?_) ?_; first|rfl|skip)|(simp (disch:=omega) only [go_sem, simprocAttr, Blk.men, Blk.keysIn, hd])|exact qM rfl rfl rfl|(refine qG rfl ?_)|(refine qH rfl ?_)|(refine qI rfl ?_ ?_<;>intro hc<;>(try simp only [go_sem] at hc))|(refine qJ ?_ ?_<;>intro hc<;>(try simp only [hc])<;>(try simp only [go_sem] at hc)))
   (refine retS_ent (Ent.rel 84 rfl) ?_; simp (disch:=omega) only [go_sem,simprocAttr,Blk.men,Blk.keysIn])
   (refine retS_ent (Ent.rel 67 rfl) ?_; simp (disch:=omega) only [go_sem,simprocAttr,Blk.men,Blk.keysIn])
   refine retS_wk rfl ?_ (by simp only [Blk.nb, rowC_nb, D.nb, D.nbs, C.nb, C.nbs, C.nbss, rows_nb eI_nb, Bool.and_true, Bool.not_false, Bool.and_self, bD, dI, iD, rows_nb eP_nb, rows_nb eF_nb, rows_nb eY_nb]); exact .refl _
end Go.Dw.Seat
end
section
set_option linter.unusedSimpArgs false
set_option maxRecDepth 100000
namespace Go.Dw.Seat
open Go Go.Dw Go.Proofs Go.IntWalk
theorem partsAt_w {s : Sto} {m : Mak} (hs : s.ok) (h : m.ok s) {i : Nat} (hi : i < m.papers.length) : 0 ≤ partsAt s m i ∧ partsAt s m i ≤ 2 * wholeI s m := by
 have hw := wholeI_b hs h
 unfold partsAt
 split
 ·rename_i ho
  have hf := fluAt_ok hs (flute_at h hi ho).2
  have h1 := hf.pitch
  have h2 := hf.draw
  generalize fluAt s (m.flutes[i / 2]?.getD 0) = f at *
  generalize wholeI s m = w at *
  rw [Int.tdiv_eq_ediv_of_nonneg (by omega)]
  have q0 : 0 ≤ w / f.pitch := Int.ediv_nonneg (by omega) (by omega)
  have q1 : w / f.pitch * f.pitch ≤ w := Int.ediv_mul_le w (by omega)
  have q2 : w / f.pitch * f.draw ≤ w / f.pitch * (2 * f.pitch) := Int.mul_le_mul_of_nonneg_left h2.2 q0
  have q3 : 0 ≤ w / f.pitch * f.draw := Int.mul_nonneg q0 (by omega)
  have q4 : w / f.pitch * (2 * f.pitch) = 2 * (w / f.pitch * f.pitch) := by rw [Int.mul_left_comm]
  omega
 ·omega
theorem sumF_w (f : Pap → Int) (s : Sto) (F W : Int) : ∀ (l : List (Nat × Int)) (n : Int), (∀ e ∈ l, (0 ≤ f (papAt s e.1) ∧ f (papAt s e.1) ≤ F) ∧ 0 ≤ e.2 ∧ e.2 ≤ W) → n ≤ sumF f s n l ∧ sumF f s n l ≤ n + (l.length : Int) * (F * W)
 | [], n, _ => by simp [sumF]
 | e :: l, n, h => by
  have he := h e (by simp)
  have hm := mulB0 he.1 he.2
  have ih := sumF_w f s F W l (n + f (papAt s e.1) * e.2) (fun x hx => h x (by simp [hx]))
  have hs : sumF f s n (e :: l) = sumF f s (n + f (papAt s e.1) * e.2) l := rfl
  rw [hs, List.length_cons, Int.natCast_add, Int.natCast_one, Int.add_mul, Int.one_mul]
  omega
theorem layers_w {s : Sto} {m : Mak} (hs : s.ok) (h : m.ok s) : ∀ e ∈ layersL s m, e.1 < s.papers.length ∧ 0 ≤ e.2 ∧ e.2 ≤ 2 * wholeI s m := by
 intro e he
 obtain ⟨i, hi⟩ := List.getElem?_of_mem he
 have hlt : i < m.papers.length := by
  rcases Nat.lt_or_ge i m.papers.length with h | h
  ·exact h
  ·rw [List.getElem?_eq_none (by rw [layersL_len]; exact h)] at hi; cases hi
 obtain ⟨v, hv⟩ := getE (l := m.papers) (i := i) hlt
 rw [layersL_get hv] at hi
 cases hi
 exact ⟨h.papers v (List.mem_of_getElem? hv), partsAt_w hs h hlt⟩
theorem sum_quot {s : Sto} {m : Mak} (hs : s.ok) (h : m.ok s) (f : Pap → Int) (F : Int) (hF : 0 ≤ F) (hf : ∀ p ∈ s.papers, 0 ≤ f p ∧ f p ≤ F) : 0 ≤ sumI f s m ∧ sumI f s m ≤ 10 * F * wholeI s m := by
 have hw := wholeI_b hs h
 have h1 := sumF_w f s F (2 * wholeI s m) (layersL s m) 0 (fun e he => by
  have hl := layers_w hs h e he
  exact ⟨hf _ (List.mem_of_getElem? (papAt_get hl.1)), hl.2⟩)
 have h5 : ((layersL s m).length : Int) ≤ 5 := by rw [layersL_len]; have := h.np; have := h.nf; omega
 have hFW : 0 ≤ F * (2 * wholeI s m) := Int.mul_nonneg hF (by omega)
 have h6 := Int.mul_le_mul_of_nonneg_right h5 hFW
 have e1 : 5 * (F * (2 * wholeI s m)) = 10 * F * wholeI s m := by
  rw [Int.mul_left_comm F 2, ← Int.mul_assoc, ← Int.mul_assoc]; rfl
 unfold sumI
 omega
theorem strongI_b {s : Sto} {m : Mak} (hs : s.ok) (h : m.ok s) (F : Int) (hF : 0 ≤ F) (hf : ∀ p ∈ s.papers, 0 ≤ p.strong ∧ p.strong ≤ F) : 0 ≤ strongI s m ∧ strongI s m ≤ 10 * F := by
 have hq := sum_quot hs h Pap.strong F hF hf
 have hw := wholeI_b hs h
 unfold strongI
 rw [Int.tdiv_eq_ediv_of_nonneg hq.1]
 refine ⟨Int.ediv_nonneg hq.1 (by omega), ?_⟩
 have := Int.ediv_le_ediv (by omega : 0 < wholeI s m) hq.2
 rwa [Int.mul_ediv_cancel _ (by omega)] at this
end Go.Dw.Seat
end
section
set_option linter.unusedSimpArgs false
set_option maxRecDepth 100000
namespace Go.Dw.Seat
open Go Go.Dw Go.Proofs Go.IntWalk
def eSp (s : Int × Int) : List C := [.v (.int .i64 s.1), .v (.int .i64 s.2)]
attribute [go_sem] eSp
def spM (s : Int × Int) : Prop := 0 ≤ s.1 ∧ s.1 ≤ s.2 ∧ s.2 ≤ 300
structure DSt where
 lo : Int
 hi : Int
 h : Int
structure DSt.ok (s : DSt) : Prop where
 r : spM (s.lo, s.hi)
 h : 0 ≤ s.h ∧ s.h ≤ 500
def eDs (s : DSt) : List C := [.v (.int .i64 s.lo), .v (.int .i64 s.hi), .v (.int .i64 s.h)]
attribute [go_sem] eDs
end Go.Dw.Seat
end
section
set_option linter.unusedSimpArgs false
set_option maxRecDepth 100000
namespace Go.Dw.Seat
open Go Go.Dw Go.Proofs Go.IntWalk
theorem dm_bm_pbox (k l : Nat) (ds : List D) : Blk.men k (.pbox l ds) = D.mens k ds := rfl
theorem dm_bk_pbox (bx : List (Nat × Blk)) (l : Nat) (ds : List D) : Blk.keysIn bx (.pbox l ds) = D.keysIns bx ds := rfl
theorem dm_killB_pbox (k l : Nat) (ds : List D) : killB k (.pbox l ds) = .pbox l (ds.map (killD k)) := rfl
attribute [go_sem] dm_bm_pbox dm_bk_pbox dm_killB_pbox
end Go.Dw.Seat
end
section
set_option linter.unusedSimpArgs false
set_option maxRecDepth 100000
namespace Go.Dw.Seat
open Go Go.Dw Go.Proofs Go.IntWalk
theorem sumF_mono (f g : Pap → Int) (s : Sto) (hfg : ∀ p ∈ s.papers, f p ≤ g p) : ∀ (l : List (Nat × Int)) (n n' : Int), (∀ e ∈ l, e.1 < s.papers.length ∧ 0 ≤ e.2) → n ≤ n' → sumF f s n l ≤ sumF g s n' l
 | [], _, _, _, h => h
 | e :: l, n, n', ho, h => by
  have e1 : sumF f s n (e :: l) = sumF f s (n + f (papAt s e.1) * e.2) l := rfl
  have e2 : sumF g s n' (e :: l) = sumF g s (n' + g (papAt s e.1) * e.2) l := rfl
  rw [e1, e2]
  have he := ho e (by simp)
  have := Int.mul_le_mul_of_nonneg_right (hfg _ (List.mem_of_getElem? (papAt_get he.1))) he.2
  exact sumF_mono f g s hfg l _ _ (fun x hx => ho x (by simp [hx])) (by omega)
end Go.Dw.Seat
end
section
set_option linter.unusedSimpArgs false
set_option maxRecDepth 100000
namespace Go.Dw.Seat
open Go Go.Dw Go.Proofs Go.IntWalk
structure RSt where
 num : Int
 den : Int
 tail : Int
 rolls : List (Int × Int)
structure RSt.ok (s : RSt) : Prop where
 den : 1 ≤ s.den ∧ s.den ≤ 10000
 num : s.den ≤ s.num ∧ s.num ≤ 2 * s.den
 tail : 0 ≤ s.tail ∧ s.tail ≤ 10000
 len : s.rolls.length ≤ 6
 rolls : ∀ r ∈ s.rolls, s.tail + 1 ≤ r.1 ∧ r.1 ≤ r.2 ∧ r.2 ≤ 10000000
end Go.Dw.Seat
end
section
set_option linter.unusedSimpArgs false
set_option maxRecDepth 100000
namespace Go.Dw.Seat
open Go Go.Dw Go.Proofs Go.IntWalk
def wTops (m : Nat) : List D := List.replicate m .top
structure M9 where
 a : Int
 b : Int
 c : Int
 d : Int
 e : Int
 f : Int
 g : Int
 h : Int
 i : Int
theorem wT_men (k m : Nat) : D.mens k (wTops m) = false := by
 induction m with
 | zero => rfl
 | succ m ih => exact ih
theorem wT_keys (bx : List (Nat × Blk)) (m : Nat) : D.keysIns bx (wTops m) = true := by
 induction m with
 | zero => rfl
 | succ m ih => exact ih
theorem wT_kill (k : Nat) : ∀ m : Nat, (wTops m).map (killD k) = wTops m := fun m => map_killD_of (wT_men k m)
attribute [go_sem] wT_men wT_keys wT_kill
def stp (M : M9) : Nat → Nat → Nat → M9
 | 0, 0, 0 => { M with a := if M.a + M.a < M.a then M.a + M.a else M.a }
 | 0, 0, 1 => { M with b := if M.a + M.b < M.b then M.a + M.b else M.b }
 | 0, 0, 2 => { M with c := if M.a + M.c < M.c then M.a + M.c else M.c }
 | 0, 1, 0 => { M with d := if M.d + M.a < M.d then M.d + M.a else M.d }
 | 0, 1, 1 => { M with e := if M.d + M.b < M.e then M.d + M.b else M.e }
 | 0, 1, 2 => { M with f := if M.d + M.c < M.f then M.d + M.c else M.f }
 | 0, 2, 0 => { M with g := if M.g + M.a < M.g then M.g + M.a else M.g }
 | 0, 2, 1 => { M with h := if M.g + M.b < M.h then M.g + M.b else M.h }
 | 0, 2, 2 => { M with i := if M.g + M.c < M.i then M.g + M.c else M.i }
 | 1, 0, 0 => { M with a := if M.b + M.d < M.a then M.b + M.d else M.a }
 | 1, 0, 1 => { M with b := if M.b + M.e < M.b then M.b + M.e else M.b }
 | 1, 0, 2 => { M with c := if M.b + M.f < M.c then M.b + M.f else M.c }
 | 1, 1, 0 => { M with d := if M.e + M.d < M.d then M.e + M.d else M.d }
 | 1, 1, 1 => { M with e := if M.e + M.e < M.e then M.e + M.e else M.e }
 | 1, 1, 2 => { M with f := if M.e + M.f < M.f then M.e + M.f else M.f }
 | 1, 2, 0 => { M with g := if M.h + M.d < M.g then M.h + M.d else M.g }
 | 1, 2, 1 => { M with h := if M.h + M.e < M.h then M.h + M.e else M.h }
 | 1, 2, 2 => { M with i := if M.h + M.f < M.i then M.h + M.f else M.i }
 | 2, 0, 0 => { M with a := if M.c + M.g < M.a then M.c + M.g else M.a }
 | 2, 0, 1 => { M with b := if M.c + M.h < M.b then M.c + M.h else M.b }
 | 2, 0, 2 => { M with c := if M.c + M.i < M.c then M.c + M.i else M.c }
 | 2, 1, 0 => { M with d := if M.f + M.g < M.d then M.f + M.g else M.d }
 | 2, 1, 1 => { M with e := if M.f + M.h < M.e then M.f + M.h else M.e }
 | 2, 1, 2 => { M with f := if M.f + M.i < M.f then M.f + M.i else M.f }
 | 2, 2, 0 => { M with g := if M.i + M.g < M.g then M.i + M.g else M.g }
 | 2, 2, 1 => { M with h := if M.i + M.h < M.h then M.i + M.h else M.h }
 | 2, 2, 2 => { M with i := if M.i + M.i < M.i then M.i + M.i else M.i }
 | _, _, _ => M
def bnd (x : Int) : Prop := -100000000000000 ≤ x ∧ x ≤ 100000000000000
structure M9.ok (M : M9) : Prop where
 a : bnd M.a
 b : bnd M.b
 c : bnd M.c
 d : bnd M.d
 e : bnd M.e
 f : bnd M.f
 g : bnd M.g
 h : bnd M.h
 i : bnd M.i
def M9.okB (M : M9) : Bool := [M.a, M.b, M.c, M.d, M.e, M.f, M.g, M.h, M.i].all fun x => decide (-100000000000000 ≤ x) && decide (x ≤ 100000000000000)
end Go.Dw.Seat
end
section
set_option linter.unusedSimpArgs false
set_option maxRecDepth 100000
namespace Go.Dw.Seat
open Go Go.Dw Go.Proofs Go.IntWalk
def eSn (x : Int × Int × Int) : List C := [.v (.int .i64 x.1), .v (.int .i64 x.2.1), .v (.int .i64 x.2.2)]
attribute [go_sem] eSn
end Go.Dw.Seat
end
section
set_option linter.unusedSimpArgs false
set_option maxRecDepth 100000
namespace Go.Dw.Seat
open Go Go.Dw Go.Proofs Go.IntWalk
structure T2 where
 v0 : Nat
 v1 : Nat
structure T2.ok (v : T2) : Prop where
 v0 : v.v0 < 256
 v1 : v.v1 < 256
def e2t (v : T2) : List C := [.v (.int .u8 v.v0), .v (.int .u8 v.v1)]
attribute [go_sem] e2t
structure ReelY where
 tail : Nat
 rolls : List T2
structure ReelY.ok (y : ReelY) : Prop where
 tail : y.tail < 256
 rolls : ∀ v ∈ y.rolls, v.ok
end Go.Dw.Seat
end
section
set_option linter.unusedSimpArgs false
set_option maxRecDepth 100000
namespace Go.Dw.Seat
open Go Go.Dw Go.Proofs Go.IntWalk
theorem wSto_strong {x : War} (h : x.ok) : ∀ p ∈ (wSto x).papers, 0 ≤ p.strong ∧ p.strong ≤ 2550 := by
 intro p hp
 obtain ⟨i, hi, rfl⟩ := List.mem_map.1 hp
 rw [List.mem_range] at hi
 have := (papV_ok h (i := i) (by unfold nPap at hi; omega)).v5
 show 0 ≤ 10 * ((papV x i).v5 : Int) ∧ 10 * ((papV x i).v5 : Int) ≤ 2550
 omega
end Go.Dw.Seat
end
section
set_option linter.unusedSimpArgs false
set_option maxRecDepth 100000
namespace Go.Dw.Seat
open Go Go.Dw Go.Proofs Go.IntWalk
structure SmallS (s : Sto) : Prop where
 th : ∀ p ∈ s.papers, p.th ≤ 336
 hh : ∀ f ∈ s.flutes, f.hh ≤ 3139
 weight : ∀ p ∈ s.papers, p.weight ≤ 305
 moist : ∀ p ∈ s.papers, p.mh ≤ 114
 strong : ∀ p ∈ s.papers, 0 ≤ p.strong ∧ p.strong ≤ 2550
theorem wSto_small {x : War} (h : x.ok) : SmallS (wSto x) := by
 have key : ∀ p ∈ (wSto x).papers, ∃ (v : V6) (i : Nat), v.ok ∧ p = papOf i v := by
  intro p hp
  obtain ⟨i, hi, rfl⟩ := List.mem_map.1 hp
  rw [List.mem_range] at hi
  exact ⟨_, i, papV_ok h (by unfold nPap at hi; omega), rfl⟩
 refine ⟨fun p hp => ?_, fun f hf => ?_, fun p hp => ?_, fun p hp => ?_, wSto_strong h⟩
 ·obtain ⟨v, i, hv, rfl⟩ := key p hp
  have h0 := hv.v0
  have h2 := hv.v2
  show 50 + (v.v2 : Int) + ((v.v0 / 8 : Nat) : Int) ≤ 336
  omega
 ·obtain ⟨i, _, rfl⟩ := List.mem_map.1 hf
  have hv := fluV_ok h i
  have h2 := hv.v2
  have h1 : (fluV x i).v1 % 90 < 90 := Nat.mod_lt _ (by decide)
  show 500 + 10 * ((fluV x i).v2 : Int) + (((fluV x i).v1 % 90 : Nat) : Int) ≤ 3139
  omega
 ·obtain ⟨v, i, hv, rfl⟩ := key p hp
  have h1 := hv.v1
  show 50 + (v.v1 : Int) ≤ 305
  omega
 ·obtain ⟨v, i, hv, rfl⟩ := key p hp
  have h3 := hv.v3
  have h4 : v.v3 % 100 < 100 := Nat.mod_lt _ (by decide)
  show ((v.v3 % 100 : Nat) : Int) + ((v.v3 / 16 : Nat) : Int) ≤ 114
  omega
theorem weight_hi {s : Sto} {m : Mak} (hs : s.ok) (hm : m.ok s) (hS : SmallS s) : 0 ≤ moistI loE s m ∧ moistI loE s m ≤ moistI hiE s m ∧ moistI hiE s m ≤ 10000 := by
 have hw := wholeI_b hs hm
 have hl : ∀ e ∈ layersL s m, e.1 < s.papers.length ∧ 0 ≤ e.2 := fun e he => ⟨(layers_w hs hm e he).1, (layers_w hs hm e he).2.1⟩
 have hF : ∀ p ∈ s.papers, 0 ≤ moistF loE p ∧ moistF loE p ≤ moistF hiE p ∧ moistF hiE p ≤ 339770 := fun p hp => by
  have h1 := hS.weight p hp
  have h2 := hS.moist p hp
  have h3 := (hs.papers p hp).weight
  have h4 := (hs.papers p hp).moist
  show 0 ≤ p.weight * (1000 + p.ml) ∧ p.weight * (1000 + p.ml) ≤ p.weight * (1000 + p.mh) ∧ p.weight * (1000 + p.mh) ≤ 339770
  have := mulB0 (a := p.weight) (b := 1000 + p.mh) (A := 305) (B := 1114) (by omega) (by omega)
  exact ⟨Int.mul_nonneg (by omega) (by omega), Int.mul_le_mul_of_nonneg_left (by omega) (by omega), by omega⟩
 have q1 := sum_quot hs hm (moistF loE) 339770 (by decide) (fun p hp => ⟨(hF p hp).1, Int.le_trans (hF p hp).2.1 (hF p hp).2.2⟩)
 have q2 := sum_quot hs hm (moistF hiE) 339770 (by decide) (fun p hp => ⟨Int.le_trans (hF p hp).1 (hF p hp).2.1, (hF p hp).2.2⟩)
 have q3 : sumI (moistF loE) s m ≤ sumI (moistF hiE) s m := sumF_mono _ _ s (fun p hp => (hF p hp).2.1) _ _ _ hl (Int.le_refl _)
 unfold moistI
 generalize sumI (moistF loE) s m = a at *
 generalize sumI (moistF hiE) s m = b at *
 rw [Int.tdiv_eq_ediv_of_nonneg q1.1, Int.tdiv_eq_ediv_of_nonneg q2.1]
 refine ⟨Int.ediv_nonneg q1.1 (by omega), Int.ediv_le_ediv (by omega) q3, ?_⟩
 refine Int.le_of_lt_add_one (Int.ediv_lt_of_lt_mul (by omega) ?_)
 generalize wholeI s m = W at *
 omega
end Go.Dw.Seat
end
section
set_option linter.unusedSimpArgs false
set_option maxRecDepth 100000
namespace Go.Dw.Seat.Cr
open Go Go.Dw Go.Proofs Go.IntWalk
theorem crOrderN (l : List Lod) (h : ∀ b ∈ l, b.ok) (hl : l.length ≤ 10) (t : List (Int × Int)) (days : Int) (ht : TabOk t days) (hst : stI l (lastI days t 0) (2 ^ l.length - 1) = false) :
  DCall Tryd.prog 20 [.c (.sl false 4 (rows eLd l)), .c (.sl false 2 (rows eK t)), dI days] [] (.tup [.c (.v (.slice none 0 0)), dI 9]) [] := by
 have h1 := crPiler l h hl t days ht
 have hk := lastI_b days t 0 (fun s hs => (ht.mem s hs).2) (by decide)
 have hsh := shl_u hl
 have hpw := pow_le10 hl
 have hp1 := Nat.one_le_two_pow (n := l.length)
 generalize lastI days t 0 = k at *
 have hw : IntKind.u64.wrap (((2 ^ l.length : Nat) : Int) - 1) = ((2 ^ l.length - 1 : Nat) : Int) := by rw [IntWalk.u64_in _ (by omega)]; omega
 refine DCall.of Tryd.func20 sf20 hb20 (Nat.le_of_ble_eq_true rfl) (okRes_nil fun _ => rfl) ?_; simp only [s20, o20_0, o20_1, o20_2, o20_3, o20_4, o20_5, o20_6, o20_7, o20_8, o20_9, idxs, Nat.reduceAdd]
 repeat' (first|(with_reducible first|apply qA|apply qB|apply qC|apply qD|apply qE|apply qF)|(refine DW.ord rfl (WF.of (by first|rfl|simp (disch:=omega) only [go_sem, simprocAttr, qN, qO, qP, qQ, hsh, hw])) ?_ ?_ ?_; rotate_left)|rfl|(with_reducible refine And.intro ?_ ?_)|(simp (disch:=omega) only [go_sem, simprocAttr, qN, qO, qP, qQ, hsh, hw])|exact qM rfl rfl rfl|(refine qG rfl ?_)|(refine qH rfl ?_)|(refine qI rfl ?_ ?_<;>intro hc<;>(try simp only [go_sem] at hc))|(refine qJ ?_ ?_<;>intro hc<;>(try simp only [hc])<;>(try simp only [go_sem] at hc)))
 refine call_b h1 ⟨⟨trivial, rfl, rfl, rfl⟩, rfl, rfl, rfl⟩ (by decide) ?_
 simp only [St.addBs, St.putB, St.putO, St.put]
 simp (disch:=omega) only [go_sem,simprocAttr,qN,qO,qP,qQ]
 refine DW.pin 28 rfl rfl fun lm => ?_
 simp (disch:=omega) only [go_sem,simprocAttr,qN,qO,qP,qQ,pinT,pinX,pinD,pinDs,pinB,pinO]
 refine DW.ent (Ent.rel 30 rfl) ?_
 simp (disch:=omega) only [go_sem,simprocAttr,qN,qO,qP,qQ]
 obtain ⟨m0, hm0, hst0⟩ := crStandsI l h k hk lm (2 ^ l.length - 1) (by omega) (inB_of hl (by omega)) [] (fun _ _ h => by cases h)
 rw [hst] at hst0
 have hnil : memB lm [] = (28, Blk.pmap lm [] []) := rfl
 repeat' (first|(with_reducible first|apply qA|apply qB|apply qC|apply qD|apply qE|apply qF)|(refine DW.ord rfl (WF.of (by first|rfl|simp (disch:=omega) only [go_sem, simprocAttr, qN, qO, qP, qQ, hsh, hw])) ?_ ?_ ?_; rotate_left)|rfl|(with_reducible refine And.intro ?_ ?_)|(simp (disch:=omega) only [go_sem, simprocAttr, qN, qO, qP, qQ, hsh, hw])|exact qM rfl rfl rfl|(refine qG rfl ?_)|(refine qH rfl ?_)|(refine qI rfl ?_ ?_<;>intro hc<;>(try simp only [go_sem] at hc))|(refine qJ ?_ ?_<;>intro hc<;>(try simp only [hc])<;>(try simp only [go_sem] at hc)))
 refine call_h (h := [memB lm []]) (h' := [memB lm m0]) hst0 (Ent.refl _) rfl rfl rfl rfl (by decide) ?_
 simp (disch:=omega) only [go_sem,simprocAttr,qN,qO,qP,qQ]
 repeat' (first|(with_reducible first|apply qA|apply qB|apply qC|apply qD|apply qE|apply qF)|(refine DW.ord rfl (WF.of (by first|rfl|simp (disch:=omega) only [go_sem, simprocAttr, qN, qO, qP, qQ])) ?_ ?_ ?_; rotate_left)|rfl|(with_reducible refine And.intro ?_ ?_)|(simp (disch:=omega) only [go_sem, simprocAttr, qN, qO, qP, qQ])|exact qM rfl rfl rfl|(refine qG rfl ?_)|(refine qH rfl ?_)|(refine qI rfl ?_ ?_<;>intro hc<;>(try simp only [go_sem] at hc))|(refine qJ ?_ ?_<;>intro hc<;>(try simp only [hc])<;>(try simp only [go_sem] at hc)))
theorem hvLoads (b : Bool) (l : List Lod) (hl : l.length ≤ 2 ^ 36) : DCall Tryd.prog 21 [.c (.sl b 4 (rows eLd l))] [] (.c (.sl false 4 (rows eLd l))) [] := by
 refine DCall.of Tryd.func21 sf21 hb21 (Nat.le_of_ble_eq_true rfl) (okRes_nil fun _ => rfl) ?_; simp only [s21, idxs, Nat.reduceAdd]
 repeat' (first|(with_reducible first|apply qA|apply qB|apply qC|apply qD|apply qE|apply qF)|(simp (disch:=omega) only [go_sem, simprocAttr, qN, qO, qP, qQ])|exact qM rfl rfl rfl|(refine qG rfl ?_)|(refine qH rfl ?_)|(refine qI rfl ?_ ?_<;>intro hc<;>(try simp only [go_sem] at hc))|(refine qJ ?_ ?_<;>intro hc<;>(try simp only [hc])<;>(try simp only [go_sem] at hc)))
 (refine retS_ent (Ent.rel 3 rfl) ?_; simp (disch:=omega) only [go_sem,simprocAttr,qN,qO,qP,qQ])
 refine retS_wk rfl ?_ (by simp only [Blk.nb, rowC_nb, D.nb, D.nbs, C.nb, C.nbs, C.nbss, rows_nb eI_nb, Bool.and_true, Bool.not_false, Bool.and_self, bD, dI, iD, rows_nb eK_nb, rows_nb eLd_nb]); exact .refl _
def hvT : List (Int × Int) := [(0, 1000), (50, 700)]
theorem hvT_ok {d : Int} (hd : 0 ≤ d ∧ d ≤ 10000) : TabOk hvT d := by
 refine ⟨⟨by decide, fun v h => ?_, fun v h => ?_, fun i u v hu hv => ?_⟩, hd⟩
 ·simp [hvT] at h; subst h; rfl
 ·simp only [hvT, List.mem_cons, List.not_mem_nil, or_false] at h
  rcases h with rfl | rfl <;> decide
 ·match i with
  | 0 => simp [hvT] at hu hv; subst hu; subst hv; decide
  | i + 1 => simp [hvT] at hv
structure HvOk (l : List Lod) (k : Int) (o : List Nat) : Prop where
 len : o.length = 6
 nodup : o.Nodup
 lt : ∀ e ∈ o, e < 6
 fail : failN k (pickL l o) = none
theorem hv_order {l : List Lod} {k : Int} (hl : l.length = 6) (hst : stI l k 63 = true) : ∃ o, ordI l k 63 63 = nL o ∧ HvOk l k o := by
 obtain ⟨o, h1, h2, -⟩ := ord_spec l k 63 63 63 (by decide) (by decide) (by decide) hst
 have h3 := stO_ok (by decide) h2
 have hb : bitsL 63 = List.range 6 := full_bits (n := 6) (by decide)
 refine ⟨o, h1, ?_, h3.nodup, fun e he => ?_, h3.fail⟩
 ·rw [h3.len, hb]; rfl
 ·have := (h3.mem e).1 he
  rw [hb] at this
  exact List.mem_range.1 this
theorem hv_most {l : List Lod} {k : Int} (hl : l.length = 6) (h : ∀ b ∈ l, b.ok) (hk : 0 ≤ k ∧ k ≤ 1000) : 1 ≤ (mostI l k).length ∧ (mostI l k).length ≤ 6 ∧ ((mostI l k).length = 6 ↔ stI l k 63 = true) := by
 have hm := most_full l k (by omega)
 rw [hl] at hm
 refine ⟨?_, hm.1, hm.2⟩
 have h0 : remB 1 0 = 0 := by decide
 have hs : stI l k 1 = true := by
  rw [stI_eq l k (by decide)]
  have hb : bitsL 1 = [0] := by decide
  rw [hb]
  have hz : stI l k 0 = true := by rw [stI_eq l k (by decide)]; rfl
  obtain ⟨b, hb0⟩ := getE (l := l) (i := 0) (by omega)
  have hbe : bearsAt l k 0 = bearsI b k := by unfold bearsAt; rw [hb0]
  have hbb := bears_b (h b (List.mem_of_getElem? hb0)) hk
  have hw : wtI l 0 = 0 := by unfold wtI; rw [bits_zero]; rfl
  simp only [List.any_cons, List.any_nil, h0, hz, hbe, hw, Bool.or_false, Bool.and_true]
  rw [decide_eq_true (show (0 : Int) ≤ bearsI b k from hbb.1), Bool.or_true]
 have := most_ge l k (s := 1) (by rw [hl]; decide) hs
 have hb1 : (bitsL 1).length = 1 := by decide
 omega
theorem sumL_snoc : ∀ (l : List Lod) (b : Lod), sumL (l ++ [b]) = sumL l + b.wl
 | [], b => by simp [sumL]
 | a :: l, b => by rw [List.cons_append, sumL, sumL_snoc l b, sumL]; omega
theorem sumH_snoc : ∀ (l : List Lod) (b : Lod), sumH (l ++ [b]) = sumH l + b.wh
 | [], b => by simp [sumH]
 | a :: l, b => by rw [List.cons_append, sumH, sumH_snoc l b, sumH]; omega
def usdB (o : List Nat) (i : Nat) : List Bool := (List.range 6).map fun e => decide (e ∈ o.take i)
theorem usdB_len (o : List Nat) (i : Nat) : (usdB o i).length = 6 := by simp [usdB]
theorem usdB_get {o : List Nat} {i e : Nat} (he : e < 6) : (usdB o i)[e]? = some (decide (e ∈ o.take i)) := by
 unfold usdB
 rw [List.getElem?_map, List.getElem?_range he]; rfl
theorem usdB_set {o : List Nat} {i e : Nat} (h : o[i]? = some e) (he : e < 6) : (usdB o i).set e true = usdB o (i + 1) := by
 have htk : o.take (i + 1) = o.take i ++ [e] := by rw [List.take_add_one, h]; rfl
 apply List.ext_getElem?
 intro j
 by_cases hj : j < 6
 ·rw [usdB_get hj, List.getElem?_set, usdB_len, htk]
  by_cases hej : e = j
  ·subst hej
   rw [if_pos rfl, if_pos he]
   simp
  ·rw [if_neg hej, usdB_get hj]
   congr 1
   simp only [List.mem_append, List.mem_singleton]
   by_cases hm : j ∈ o.take i
   ·simp [hm]
   ·have : ¬ j = e := fun h => hej h.symm
    simp [hm, this]
 ·rw [List.getElem?_eq_none (by rw [List.length_set, usdB_len]; omega), List.getElem?_eq_none (by rw [usdB_len]; omega)]
theorem usd_new {o : List Nat} (hn : o.Nodup) {i e : Nat} (h : o[i]? = some e) : decide (e ∈ o.take i) = false := by
 rw [decide_eq_false_iff_not]
 intro hm
 obtain ⟨j, hj, he⟩ := List.getElem_of_mem hm
 rw [List.getElem_take] at he
 obtain ⟨hi, hie⟩ := List.getElem?_eq_some_iff.1 h
 have hji : j < i := by rw [List.length_take] at hj; omega
 have := (List.getElem_inj (h₀ := by omega) (h₁ := hi) hn).1 (he.trans hie.symm)
 omega
abbrev bDm (b : Bool) : D := .c (.v (.bool b))
abbrev uDm (n : Nat) : D := .c (.v (.int .u8 n))
theorem mens_bDm (k : Nat) : ∀ l : List Bool, D.mens k (l.map bDm) = false
 | [] => rfl
 | _ :: l => mens_bDm k l
theorem keys_bDm (bx : List (Nat × Blk)) : ∀ l : List Bool, D.keysIns bx (l.map bDm) = true
 | [] => rfl
 | _ :: l => keys_bDm bx l
theorem kill_bDm (k : Nat) : ∀ l : List Bool, (l.map bDm).map (killD k) = l.map bDm
 | [] => rfl
 | v :: l => by rw [List.map_cons, List.map_cons, kill_bDm k l]; rfl
theorem rel_bDm (k : Nat) (b : Blk) : ∀ l : List Bool, relDs k b (l.map bDm) = l.map bDm
 | [] => rfl
 | v :: l => by rw [List.map_cons, relDs, rel_bDm k b l]; rfl
theorem mens_uDm (k : Nat) : ∀ l : List Nat, D.mens k (l.map uDm) = false
 | [] => rfl
 | _ :: l => mens_uDm k l
theorem keys_uDm (bx : List (Nat × Blk)) : ∀ l : List Nat, D.keysIns bx (l.map uDm) = true
 | [] => rfl
 | _ :: l => keys_uDm bx l
theorem kill_uDm (k : Nat) : ∀ l : List Nat, (l.map uDm).map (killD k) = l.map uDm
 | [] => rfl
 | v :: l => by rw [List.map_cons, List.map_cons, kill_uDm k l]; rfl
theorem rel_uDm (k : Nat) (b : Blk) : ∀ l : List Nat, relDs k b (l.map uDm) = l.map uDm
 | [] => rfl
 | v :: l => by rw [List.map_cons, relDs, rel_uDm k b l]; rfl
attribute [go_sem] mens_bDm keys_bDm kill_bDm rel_bDm mens_uDm keys_uDm kill_uDm rel_uDm
def hvWar (x : War) (m : Nat) : War := ⟨x.papers, x.flutes, m :: x.by'⟩
theorem hvWar_ok {x : War} (h : x.ok) {m : Nat} (hm : m < 256) : (hvWar x m).ok := ⟨h.papers, h.flutes, fun v hv => by
 rcases List.mem_cons.1 hv with rfl | hv
 ·exact hm
 ·exact h.by' v hv⟩
def hvLod (x : War) (m : Nat) : Lod := ⟨(strongI (wSto x) (wMak (hvWar x m)) * (m : Int)).tdiv 64, (strongI (wSto x) (wMak (hvWar x m)) * (m : Int)).tdiv 64 + 9, moistI loE (wSto x) (wMak (hvWar x m)), moistI hiE (wSto x) (wMak (hvWar x m))⟩
theorem hv_b {x : War} (h : x.ok) {m : Nat} (hm : m < 256) : (0 ≤ strongI (wSto x) (wMak (hvWar x m)) ∧ strongI (wSto x) (wMak (hvWar x m)) ≤ 25500) ∧ (0 ≤ (hvLod x m).wl ∧ (hvLod x m).wl ≤ (hvLod x m).wh ∧ (hvLod x m).wh ≤ 10000) := by
 have hs := wSto_ok h
 have hmk : (wMak (hvWar x m)).ok (wSto x) := wMak_ok (hvWar x m)
 have hsm := wSto_small h
 exact ⟨strongI_b hs hmk 2550 (by decide) hsm.strong, weight_hi hs hmk hsm⟩
theorem hvLod_ok {x : War} (h : x.ok) {m : Nat} (hm : m < 256) : (hvLod x m).ok := by
 obtain ⟨h1, h2⟩ := hv_b h hm
 refine ⟨?_, by omega⟩
 have h3 := mulB0 (a := strongI (wSto x) (wMak (hvWar x m))) (b := (m : Int)) (A := 25500) (B := 255) h1 (by omega)
 show 0 ≤ (strongI (wSto x) (wMak (hvWar x m)) * (m : Int)).tdiv 64 ∧ (strongI (wSto x) (wMak (hvWar x m)) * (m : Int)).tdiv 64 ≤ (strongI (wSto x) (wMak (hvWar x m)) * (m : Int)).tdiv 64 + 9 ∧ (strongI (wSto x) (wMak (hvWar x m)) * (m : Int)).tdiv 64 + 9 ≤ 20000000
 rw [Int.tdiv_eq_ediv_of_nonneg h3.1]
 omega
end Go.Dw.Seat.Cr
end
section
set_option linter.unusedSimpArgs false
set_option maxRecDepth 100000
namespace Go.Dw.Seat.Cr
open Go Go.Dw Go.Proofs Go.IntWalk
theorem snocLd (l : List Lod) (a b c d : Int) : rowC (rows eLd l) ++ [[D.c (.v (.int .i64 a)), D.c (.v (.int .i64 b)), D.c (.v (.int .i64 c)), D.c (.v (.int .i64 d))]] = rowC (rows eLd (l ++ [⟨a, b, c, d⟩])) := by simp [rowC, rows, eLd]
def hvL (x : War) (mx : List Nat) : List Lod := mx.map (hvLod x)
set_option maxHeartbeats 32000000 in
theorem tpHeaviest (x : War) (hx : x.ok) (mx : List Nat) (hmx : mx.length = 6) (hmb : ∀ v ∈ mx, v < 256) (dy : Nat) (hdy : dy < 256) (hby : x.by'.length ≤ 140737488351232) :
  DCall Tryd.prog 4 [dWar false x, .agg (mx.map uDm), uDm dy] [] (bD true) [] := by
 have hbo := arBoard
 have hcr := Seat.arCrush
 have hS := arStore false x hx
 have hs := wSto_ok hx
 have hnp := hs.np
 have hnf := hs.nf
 have hLo : ∀ b ∈ hvL x mx, b.ok := fun b hb => by
  obtain ⟨m, hm, rfl⟩ := List.mem_map.1 hb
  exact hvLod_ok hx (hmb m hm)
 have hLw : ∀ b ∈ hvL x mx, 0 ≤ b.wl ∧ b.wl ≤ b.wh ∧ b.wh ≤ 10000 := fun b hb => by
  obtain ⟨m, hm, rfl⟩ := List.mem_map.1 hb
  exact (hv_b hx (hmb m hm)).2
 have hLl : (hvL x mx).length = 6 := by unfold hvL; rw [List.length_map, hmx]
 have hak : List.take 6 (mx.map uDm) = mx.map uDm := List.take_of_length_le (by rw [List.length_map]; omega)
 have hstep : ∀ i m, mx[i]? = some m → hvL x (mx.take (i + 1)) = hvL x (mx.take i) ++ [hvLod x m] := fun i m h => by
  rw [List.take_add_one, h]; simp [hvL]
 have hlen : ∀ i, (hvL x (mx.take i)).length ≤ 6 := fun i => by unfold hvL; rw [List.length_map, List.length_take]; omega
 have hfact : ∀ m, m < 256 → ((wMak (hvWar x m)).ok (wSto x)) := fun m hm => wMak_ok (hvWar x m)
 have hsx : ∀ m, (hvLod x m) = ⟨(strongI (wSto x) (wMak (hvWar x m)) * (m : Int)).tdiv 64, (strongI (wSto x) (wMak (hvWar x m)) * (m : Int)).tdiv 64 + 9, moistI loE (wSto x) (wMak (hvWar x m)), moistI hiE (wSto x) (wMak (hvWar x m))⟩ := fun m => rfl
 have hvb : ∀ m, m < 256 → _ := fun m hm => hv_b hx hm
 generalize hsg : wSto x = s at *
 have a0 := arOwn s (by omega) (by omega)
 have hsm : small (1 + x.by'.length) 1 = True := eq_true ⟨by omega, by omega⟩
 have ud5 : Tryd.prog.underlying 5 = some (.int .u8) := by kernel_rfl
 refine DCall.of Tryd.func4 sf4 hb4 (Nat.le_of_ble_eq_true rfl) (okRes_nil fun _ => rfl) ?_; simp only [s4, o4_0, o4_1, o4_2, o4_3, o4_4, o4_5, o4_6, o4_7, o4_8, o4_9, o4_10, o4_11, o4_12, o4_13, idxs, Nat.reduceAdd]
 repeat' (first|(with_reducible first|apply qA|apply qB|apply qC|apply qD|apply qE|apply qF)|(refine qL rfl (WF.of ?_) ?_; first|rfl|skip)|(refine DW.ord rfl (WF.of (by first|rfl|simp (disch:=omega) only [go_sem, simprocAttr, qN, qO, qP, qQ, hak])) ?_ ?_ ?_; rotate_left)|rfl|(with_reducible refine And.intro ?_ ?_)|(simp (disch:=omega) only [go_sem, simprocAttr, qN, qO, qP, qQ, hak])|exact qM rfl rfl rfl|(refine qG rfl ?_)|(refine qK (hS) (by decide) ?_)|(refine qH rfl ?_)|(refine qI rfl ?_ ?_<;>intro hc<;>(try simp only [go_sem] at hc))|(refine qJ ?_ ?_<;>intro hc<;>(try simp only [hc])<;>(try simp only [go_sem] at hc)))
 clear hS
 refine DW.loop (ι := { i : Nat // i ≤ 6 }) (fun i => ⟨317, [(10, dI i.1), (9, .box 9 0), (8, .own 33), (7, .box 7 0), (4, .box 4 0), (3, .box 3 0), (2, uDm dy)], [(33, .row 4 (rowC (rows eLd (hvL x (mx.take i.1))))), (9, .box [dI 0, dI 0]), (7, .box [.c (.sl false 8 (rows eP s.papers)), .c (.sl false 4 (rows eF s.flutes))]), (4, .box (mx.map uDm)), (3, .box [.c (.sl false 6 (rows e6 x.papers)), .c (.sl false 3 (rows e3 x.flutes)), .c (.sl false 1 (rows eY x.by'))])]⟩) (fun i => 6 - i.1) ⟨0, by omega⟩ ?_ ?_
 ·refine Ent.to ?_ ?_ <;> simp (disch:=omega) only [qR,qS,qTw,qU,get,Nat.reduceEqDiff,↓reduceIte,qV,qW,qX,qY,qZ,and_self,dI,i64_in,and_true,true_and,rA,rB,rC,rD,List.take_zero,hvL,rG]
  all_goals first | exact .refl _ | exact ⟨.refl _, .refl _⟩ | exact ⟨.refl _, .refl _, .refl _⟩ | exact ⟨.refl _, .refl _, .refl _, .refl _⟩
 rintro ⟨i, hi⟩
 dsimp only
 by_cases hi6 : i < 6
 ·have hd : decide ((i : Int) < 6) = true := decide_eq_true (by omega)
  have hd6 : ((i : Int) < 6) = True := eq_true (by omega)
  obtain ⟨m, hm⟩ := getE (l := mx) (i := i) (by omega)
  have hm2 := hmb m (List.mem_of_getElem? hm)
  have hg : (mx.map uDm)[i]? = some (uDm m) := by rw [List.getElem?_map, hm]; rfl
  have hM := arMake false (hvWar x m) (hvWar_ok hx hm2)
  have hmk := hfact m hm2
  have hst := hstep i m hm
  obtain ⟨hb1, hb2⟩ := hvb m hm2
  have hln := hlen i
  rw [hsx m] at hst hb2
  dsimp only at hb2
  generalize wMak (hvWar x m) = M at *
  generalize hvL x (mx.take i) = A at *
  generalize hBB : hvL x (mx.take (i + 1)) = B at *
  have hmp : M.papers.length ≤ 5 := by have := hmk.np; have := hmk.nf; omega
  have hmf := hmk.nf
  have aM := arMade M (by omega) (by omega)
  have cM := bdMeasure s M hs hmk
  have cE := bdStrength s M hs hmk
  generalize moistI loE s M = w1 at *
  generalize moistI hiE s M = w2 at *
  generalize calI loE s M = cl at *
  generalize calI hiE s M = ch at *
  generalize strongI s M = e at *
  have hem := mulB0 (a := e) (b := (m : Int)) (A := 25500) (B := 255) (by omega) (by omega)
  have hq := tdiv_b (a := e * (m : Int)) (b := 64) (A := 25500 * 255) (by omega) (by omega)
  have e1 : (e * (m : Int)).tdiv 64 = (e * (m : Int)).tdiv 64 := rfl
  generalize hE : e * (m : Int) = em at *
  generalize hQ : em.tdiv 64 = qt at *
  have cS := arSpan qt (qt + 9)
  have d1 : decide (w1 < 0) = false := decide_eq_false (by omega)
  have d2 : decide (10000 < w2) = false := decide_eq_false (by omega)
  have d3 : decide (w2 < w1) = false := decide_eq_false (by omega)
  have d4 : decide (e < 0) = false := decide_eq_false (by omega)
  have d5 : decide (1000000 < e) = false := decide_eq_false (by omega)
  repeat' (first|(with_reducible first|apply qA|apply qB|apply qC|apply qD|apply qE|apply qF)|(refine qL rfl (WF.of ?_) ?_; first|rfl|skip)|(refine DW.ord rfl (WF.of (by first|rfl|simp (disch:=omega) only [go_sem, simprocAttr, qN, qO, qP, qQ, hd, hd6, hg, Nat.mul_one, hsm])) ?_ ?_ ?_; rotate_left)|rfl|(with_reducible refine And.intro ?_ ?_)|(simp (disch:=omega) only [go_sem, simprocAttr, qN, qO, qP, qQ, hd, hd6, hg, Nat.mul_one, hsm])|exact qM rfl rfl rfl|(refine qG rfl ?_)|(refine qH rfl ?_)|(refine qI rfl ?_ ?_<;>intro hc<;>(try simp only [go_sem] at hc))|(refine qJ ?_ ?_<;>intro hc<;>(try simp only [hc])<;>(try simp only [go_sem] at hc)))
  refine call_e (Ent.rel 43 rfl) hM (by rfl) (by first | rfl | (simp (disch:=omega) only [go_sem,simprocAttr,qN,qO,qP,qQ]; rfl)) (by decide) ?_
  simp (disch:=omega) only [go_sem,simprocAttr,qN,qO,qP,qQ]
  repeat' (first|(with_reducible first|apply qA|apply qB|apply qC|apply qD|apply qE|apply qF)|(refine qL rfl (WF.of ?_) ?_; first|rfl|skip)|(refine DW.ord rfl (WF.of (by first|rfl|simp (disch:=omega) only [go_sem, simprocAttr, qN, qO, qP, qQ, hd, hd6, hg, Nat.mul_one, ud5, hE, hQ, d1, d2, d3, d4, d5, snocLd, rF, rG])) ?_ ?_ ?_; rotate_left)|rfl|(with_reducible refine And.intro ?_ ?_)|(simp (disch:=omega) only [go_sem, simprocAttr, qN, qO, qP, qQ, hd, hd6, hg, Nat.mul_one, ud5, hE, hQ, d1, d2, d3, d4, d5, snocLd, rF, rG])|exact qM rfl rfl rfl|(refine qG rfl ?_)|(refine qK (a0) (by decide) ?_)|(refine qK (aM) (by decide) ?_)|(refine qK (cM) (by decide) ?_)|(refine qK (cE) (by decide) ?_)|(refine qK (cS) (by decide) ?_)|(refine qH rfl ?_)|(refine qI rfl ?_ ?_<;>intro hc<;>(try simp only [go_sem] at hc))|(refine qJ ?_ ?_<;>intro hc<;>(try simp only [hc])<;>(try simp only [go_sem] at hc)))
  refine ⟨⟨i + 1, by omega⟩, ?_, Ent.to ?_ ?_⟩ <;> first | (show _ < _; (try simp only); omega) | (simp (disch:=omega) only [qR,qS,qTw,qU,get,Nat.reduceEqDiff,↓reduceIte,qV,qW,qX,qY,qZ,and_self,dI,i64_in,and_true,true_and,rA,rB,rC,rD, hBB,hst])
  all_goals first | exact .refl _ | exact ⟨.refl _, .refl _⟩ | exact ⟨.refl _, .refl _, .refl _⟩ | exact ⟨.refl _, .refl _, .refl _, .refl _⟩
 ·obtain rfl : i = 6 := by omega
  have htk : mx.take 6 = mx := List.take_of_length_le (by omega)
  rw [htk]
  clear hvb hsx hfact hlen hstep
  generalize hvL x mx = L at *
  have hd : decide ((6 : Int) < 6) = false := by decide
  (refine DW.ent (Ent.rel 33 rfl) ?_; simp (disch:=omega) only [go_sem,simprocAttr,qN,qO,qP,qQ])
  repeat' (first|(with_reducible first|apply qA|apply qB|apply qC|apply qD|apply qE|apply qF)|(refine qL rfl (WF.of ?_) ?_; first|rfl|skip)|(refine DW.ord rfl (WF.of (by first|rfl|simp (disch:=omega) only [go_sem, simprocAttr, qN, qO, qP, qQ, hd])) ?_ ?_ ?_; rotate_left)|rfl|(with_reducible refine And.intro ?_ ?_)|(simp (disch:=omega) only [go_sem, simprocAttr, qN, qO, qP, qQ, hd])|exact qM rfl rfl rfl|(refine qG rfl ?_)|(refine qH rfl ?_)|(refine qI rfl ?_ ?_<;>intro hc<;>(try simp only [go_sem] at hc))|(refine qJ ?_ ?_<;>intro hc<;>(try simp only [hc])<;>(try simp only [go_sem] at hc)))
  have tOk : TabOk hvT (dy : Int) := hvT_ok (by omega)
  have hk := lastI_b (dy : Int) hvT 0 (fun s hs => (tOk.mem s hs).2) (by decide)
  have lo1 := hvLoads false L (by omega)
  have hmst := hv_most hLl hLo hk
  have cMo := crMost L hLo (by omega) hvT (dy : Int) tOk
  generalize mostI L (lastI (dy : Int) hvT 0) = M at *
  by_cases hst : stI L (lastI (dy : Int) hvT 0) 63 = true
  ·have hM6 : M.length = 6 := hmst.2.2.2 hst
   have cO := crOrder L hLo (by omega) hvT (dy : Int) tOk (by rw [hLl]; exact hst)
   rw [hLl] at cO
   obtain ⟨o, ho, hok⟩ := hv_order hLl hst
   have e63 : (2 ^ 6 - 1 : Nat) = 63 := rfl
   rw [e63, ho] at cO
   refine call_e (Ent.rel 121 rfl) lo1 (by rfl) (by first | rfl | (simp (disch:=omega) only [go_sem,simprocAttr,qN,qO,qP,qQ]; rfl)) (by decide) ?_
   simp (disch:=omega) only [go_sem,simprocAttr,qN,qO,qP,qQ]
   repeat' (first|(with_reducible first|apply qA|apply qB|apply qC|apply qD|apply qE|apply qF)|(refine qL rfl (WF.of ?_) ?_; first|rfl|skip)|(refine DW.ord rfl (WF.of (by first|rfl|simp (disch:=omega) only [go_sem, simprocAttr, qN, qO, qP, qQ])) ?_ ?_ ?_; rotate_left)|rfl|(with_reducible refine And.intro ?_ ?_)|(simp (disch:=omega) only [go_sem, simprocAttr, qN, qO, qP, qQ])|exact qM rfl rfl rfl|(refine qG rfl ?_)|(refine qH rfl ?_)|(refine qI rfl ?_ ?_<;>intro hc<;>(try simp only [go_sem] at hc))|(refine qJ ?_ ?_<;>intro hc<;>(try simp only [hc])<;>(try simp only [go_sem] at hc)))
   refine call_e (Ent.rel 125 rfl) cO (by rfl) (by first | rfl | (simp (disch:=omega) only [go_sem,simprocAttr,qN,qO,qP,qQ]; rfl)) (by decide) ?_
   simp (disch:=omega) only [go_sem,simprocAttr,qN,qO,qP,qQ]
   repeat' (first|(with_reducible first|apply qA|apply qB|apply qC|apply qD|apply qE|apply qF)|(refine qL rfl (WF.of ?_) ?_; first|rfl|skip)|(refine DW.ord rfl (WF.of (by first|rfl|simp (disch:=omega) only [go_sem, simprocAttr, qN, qO, qP, qQ])) ?_ ?_ ?_; rotate_left)|rfl|(with_reducible refine And.intro ?_ ?_)|(simp (disch:=omega) only [go_sem, simprocAttr, qN, qO, qP, qQ])|exact qM rfl rfl rfl|(refine qG rfl ?_)|(refine qK (lo1) (by decide) ?_)|(refine qH rfl ?_)|(refine qI rfl ?_ ?_<;>intro hc<;>(try simp only [go_sem] at hc))|(refine qJ ?_ ?_<;>intro hc<;>(try simp only [hc])<;>(try simp only [go_sem] at hc)))
   refine call_e (Ent.rel 136 rfl) cMo (by rfl) (by first | rfl | (simp (disch:=omega) only [go_sem,simprocAttr,qN,qO,qP,qQ]; rfl)) (by decide) ?_
   simp (disch:=omega) only [go_sem,simprocAttr,qN,qO,qP,qQ]
   repeat' (first|(with_reducible first|apply qA|apply qB|apply qC|apply qD|apply qE|apply qF)|(refine qL rfl (WF.of ?_) ?_; first|rfl|skip)|(refine DW.ord rfl (WF.of (by first|rfl|simp (disch:=omega) only [go_sem, simprocAttr, qN, qO, qP, qQ, hM6])) ?_ ?_ ?_; rotate_left)|rfl|(with_reducible refine And.intro ?_ ?_)|(simp (disch:=omega) only [go_sem, simprocAttr, qN, qO, qP, qQ, hM6])|exact qM rfl rfl rfl|(refine qG rfl ?_)|(refine qH rfl ?_)|(refine qI rfl ?_ ?_<;>intro hc<;>(try simp only [go_sem] at hc))|(refine qJ ?_ ?_<;>intro hc<;>(try simp only [hc])<;>(try simp only [go_sem] at hc)))
   clear cO cMo
   have hob : ∀ b ∈ pickL L o, b.ok := fun b hb => by
    obtain ⟨e, he, rfl⟩ := List.mem_map.1 hb
    exact pk_ok hLo e
   have hpw : ∀ e, e < 6 → 0 ≤ (pk L e).wl ∧ (pk L e).wl ≤ (pk L e).wh ∧ (pk L e).wh ≤ 10000 := fun e he => by
    obtain ⟨b, hb⟩ := getE (l := L) (i := e) (by omega)
    have : pk L e = b := by unfold pk; rw [hb]; rfl
    rw [this]
    exact hLw b (List.mem_of_getElem? hb)
   have hsb : ∀ i, i ≤ 6 → (0 ≤ sumL (pickL L (o.take i)) ∧ sumL (pickL L (o.take i)) ≤ 10000 * (i : Int)) ∧ (0 ≤ sumH (pickL L (o.take i)) ∧ sumH (pickL L (o.take i)) ≤ 10000 * (i : Int)) := by
    intro i
    induction i with
    | zero => intro _; simp [pickL, sumL, sumH]
    | succ i ih =>
     intro hi
     have h0 := ih (by omega)
     obtain ⟨e, he⟩ := getE (l := o) (i := i) (by have := hok.len; omega)
     have hw := hpw e (hok.lt e (List.mem_of_getElem? he))
     have hs' : pickL L (o.take (i + 1)) = pickL L (o.take i) ++ [pk L e] := by rw [List.take_add_one, he]; simp [pickL]
     rw [hs', sumL_snoc, sumH_snoc]
     omega
   have hol := hok.len
   have hnl : (nL o).length = 6 := by rw [nL_length]; exact hol
   refine DW.loop (ι := { i : Nat // i ≤ 6 }) (fun i => ⟨317, [(25, dI i.1), (24, .box 24 0), (23, .own 178), (19, dIs false (nL o)), (18, .c (.sl false 2 (rows eK hvT))), (9, .box 9 0), (8, .c (.sl false 4 (rows eLd L))), (2, uDm dy)], [(178, .row 4 (rowC (rows eLd (pickL L (o.take i.1))))), (24, .box ((usdB o i.1).map bDm)), (9, .box [dI (sumL (pickL L (o.take i.1))), dI (sumH (pickL L (o.take i.1)))])]⟩) (fun i => 6 - i.1) ⟨0, by omega⟩ ?_ ?_
   ·refine Ent.to ?_ ?_ <;> simp (disch:=omega) only [qR,qS,qTw,qU,get,Nat.reduceEqDiff,↓reduceIte,qV,qW,qX,qY,qZ,and_self,dI,i64_in,and_true,true_and,rA,rB,rC,rD,List.take_zero,pickL,rG,sumL,sumH]
    all_goals first | exact .refl _ | exact ⟨.refl _, .refl _⟩ | exact ⟨.refl _, .refl _, .refl _⟩ | exact ⟨.refl _, .refl _, .refl _, .refl _⟩
   rintro ⟨i, hi⟩
   dsimp only
   by_cases hi6 : i < 6
   ·have hd : decide ((i : Int) < 6) = true := decide_eq_true (by omega)
    obtain ⟨e, he⟩ := getE (l := o) (i := i) (by omega)
    have he6 := hok.lt e (List.mem_of_getElem? he)
    have he' := nL_at he
    obtain ⟨b, hb⟩ := getE (l := L) (i := e) (by omega)
    have hbe : pk L e = b := by unfold pk; rw [hb]; rfl
    have hw := hLw b (List.mem_of_getElem? hb)
    have hs' : pickL L (o.take (i + 1)) = pickL L (o.take i) ++ [b] := by rw [List.take_add_one, he]; simp [pickL, hbe]
    have hu0 : ((usdB o i).map bDm)[e]? = some (bDm false) := by rw [List.getElem?_map, usdB_get he6, usd_new hok.nodup he]; rfl
    have hu1 := usdB_set he he6
    have hul := usdB_len o i
    have hle : (e + 1 ≤ ((usdB o i).map bDm).length) = True := eq_true (by rw [List.length_map, hul]; omega)
    have hsp : List.take e ((usdB o i).map bDm) ++ [D.c (C.v (.bool true))] ++ List.drop (e + 1) ((usdB o i).map bDm) = (usdB o (i + 1)).map bDm := by
     rw [← hu1, List.map_set, List.set_eq_take_append_cons_drop, if_pos (by rw [List.length_map, hul]; exact he6)]
     simp
    have h6 : ((e : Int) < 6) = True := eq_true (by omega)
    have f1 : decide ((e : Int) < 0) = false := decide_eq_false (by omega)
    have f2 : decide (5 < (e : Int)) = false := decide_eq_false (by omega)
    have hs1 := sumL_snoc (pickL L (o.take i)) b
    have hs2 := sumH_snoc (pickL L (o.take i)) b
    have hsi := hsb i (by omega)
    have hln : (pickL L (o.take i)).length ≤ 6 := by unfold pickL; rw [List.length_map, List.length_take]; omega
    have sp := arSpan (sumL (pickL L (o.take i)) + b.wl) (sumH (pickL L (o.take i)) + b.wh)
    generalize usdB o i = U at *
    generalize hU1 : usdB o (i + 1) = U1 at *
    generalize pickL L (o.take i) = A at *
    generalize hBB : pickL L (o.take (i + 1)) = B at *
    generalize sumL A = a1 at *
    generalize sumH A = a2 at *
    repeat' (first|(with_reducible first|apply qA|apply qB|apply qC|apply qD|apply qE|apply qF)|(refine qL rfl (WF.of ?_) ?_; first|rfl|skip)|(refine DW.ord rfl (WF.of (by first|rfl|simp (disch:=omega) only [go_sem, simprocAttr, qN, qO, qP, qQ, hd, hnl, he', hb, hul, h6, hu0, hu1, f1, f2, hle, hsp, Nat.mul_one, snocLd, rF, rG])) ?_ ?_ ?_; rotate_left)|rfl|(with_reducible refine And.intro ?_ ?_)|(simp (disch:=omega) only [go_sem, simprocAttr, qN, qO, qP, qQ, hd, hnl, he', hb, hul, h6, hu0, hu1, f1, f2, hle, hsp, Nat.mul_one, snocLd, rF, rG])|exact qM rfl rfl rfl|(refine qG rfl ?_)|(refine qK (sp) (by decide) ?_)|(refine qH rfl ?_)|(refine qI rfl ?_ ?_<;>intro hc<;>(try simp only [go_sem] at hc))|(refine qJ ?_ ?_<;>intro hc<;>(try simp only [hc])<;>(try simp only [go_sem] at hc)))
    refine ⟨⟨i + 1, by omega⟩, ?_, Ent.to ?_ ?_⟩ <;> first | (show _ < _; (try simp only); omega) | (simp (disch:=omega) only [qR,qS,qTw,qU,get,Nat.reduceEqDiff,↓reduceIte,qV,qW,qX,qY,qZ,and_self,dI,i64_in,and_true,true_and,rA,rB,rC,rD, hU1,hBB,hs',hs1,hs2])
    all_goals first | exact .refl _ | exact ⟨.refl _, .refl _⟩ | exact ⟨.refl _, .refl _, .refl _⟩ | exact ⟨.refl _, .refl _, .refl _, .refl _⟩
   ·obtain rfl : i = 6 := by omega
    have htk : o.take 6 = o := List.take_of_length_le (by omega)
    have hsi := hsb 6 (by omega)
    rw [htk] at hsi ⊢
    have hd : decide ((6 : Int) < 6) = false := by decide
    obtain ⟨e, he⟩ := getE (l := o) (i := 0) (by omega)
    have he6 := hok.lt e (List.mem_of_getElem? he)
    have he' := nL_at he
    obtain ⟨b, hb⟩ := getE (l := L) (i := e) (by omega)
    have hbe : pk L e = b := by unfold pk; rw [hb]; rfl
    have hw := hLw b (List.mem_of_getElem? hb)
    have hpl : (pickL L o).length = 6 := by unfold pickL; rw [List.length_map]; exact hol
    have lo2 := hvLoads false (pickL L o) (by omega)
    have cL := crLoads (pickL L o) hob (by omega)
    have cF := crFall (pickL L o) hob (by omega) hvT (dy : Int) tOk
    have hf7 : (fallR (pickL L o) (dy : Int) hvT).2.2 = 7 := by rw [fallR_iff hob tOk, if_pos hok.fail]
    generalize fallR (pickL L o) (dy : Int) hvT = FR at *
    obtain ⟨fr1, fr2, fr3⟩ := FR
    obtain rfl : fr3 = 7 := hf7
    dsimp only at cF
    have hll := loadsL_len (pickL L o)
    rw [hpl] at hll
    obtain ⟨x0, y0, hl0, hx0, hy0⟩ : ∃ x0 y0, (loadsL (pickL L o))[0]? = some (x0, y0) ∧ x0 + b.wl = sumL (pickL L o) ∧ y0 + b.wh = sumH (pickL L o) := by
     match o, he with
     | e' :: o', he =>
      obtain rfl : e' = e := by simpa using he
      refine ⟨sumL (pickL L o'), sumH (pickL L o'), rfl, ?_, ?_⟩
      ·show _ = sumL (pk L e' :: pickL L o'); rw [hbe]; rfl
      ·show _ = sumH (pk L e' :: pickL L o'); rw [hbe]; rfl
    generalize loadsL (pickL L o) = Q at *
    generalize sumL (pickL L o) = a1 at *
    generalize sumH (pickL L o) = a2 at *
    (refine DW.ent (Ent.rel 178 rfl) ?_; simp (disch:=omega) only [go_sem,simprocAttr,qN,qO,qP,qQ])
    repeat' (first|(with_reducible first|apply qA|apply qB|apply qC|apply qD|apply qE|apply qF)|(refine qL rfl (WF.of ?_) ?_; first|rfl|skip)|(refine DW.ord rfl (WF.of (by first|rfl|simp (disch:=omega) only [go_sem, simprocAttr, qN, qO, qP, qQ, hd, hnl, he', hb, hll, hl0, hx0, hy0, rF, rG])) ?_ ?_ ?_; rotate_left)|rfl|(with_reducible refine And.intro ?_ ?_)|(simp (disch:=omega) only [go_sem, simprocAttr, qN, qO, qP, qQ, hd, hnl, he', hb, hll, hl0, hx0, hy0, rF, rG])|exact qM rfl rfl rfl|(refine qG rfl ?_)|(refine qK (lo2) (by decide) ?_)|(refine qK (cL) (by decide) ?_)|(refine qK (cF) (by decide) ?_)|(refine qK (hbo) (by decide) ?_)|(refine qK (hcr) (by decide) ?_)|(refine qH rfl ?_)|(refine qI rfl ?_ ?_<;>intro hc<;>(try simp only [go_sem] at hc))|(refine qJ ?_ ?_<;>intro hc<;>(try simp only [hc])<;>(try simp only [go_sem] at hc)))
  ·have hs0 : stI L (lastI (dy : Int) hvT 0) 63 = false := by simpa using hst
   have hM6 : ¬ M.length = 6 := fun h => hst (hmst.2.2.1 h)
   have cO := crOrderN L hLo (by omega) hvT (dy : Int) tOk (by rw [hLl]; exact hs0)
   have g1 : decide ((M.length : Int) < 1) = false := decide_eq_false (by omega)
   have g2 : decide (6 < (M.length : Int)) = false := decide_eq_false (by omega)
   have g3 : ((M.length : Int) == 6) = false := by rw [beq_eq_false_iff_ne]; omega
   refine call_e (Ent.rel 121 rfl) lo1 (by rfl) (by first | rfl | (simp (disch:=omega) only [go_sem,simprocAttr,qN,qO,qP,qQ]; rfl)) (by decide) ?_
   simp (disch:=omega) only [go_sem,simprocAttr,qN,qO,qP,qQ]
   repeat' (first|(with_reducible first|apply qA|apply qB|apply qC|apply qD|apply qE|apply qF)|(refine qL rfl (WF.of ?_) ?_; first|rfl|skip)|(refine DW.ord rfl (WF.of (by first|rfl|simp (disch:=omega) only [go_sem, simprocAttr, qN, qO, qP, qQ])) ?_ ?_ ?_; rotate_left)|rfl|(with_reducible refine And.intro ?_ ?_)|(simp (disch:=omega) only [go_sem, simprocAttr, qN, qO, qP, qQ])|exact qM rfl rfl rfl|(refine qG rfl ?_)|(refine qH rfl ?_)|(refine qI rfl ?_ ?_<;>intro hc<;>(try simp only [go_sem] at hc))|(refine qJ ?_ ?_<;>intro hc<;>(try simp only [hc])<;>(try simp only [go_sem] at hc)))
   refine call_e (Ent.rel 125 rfl) cO (by rfl) (by first | rfl | (simp (disch:=omega) only [go_sem,simprocAttr,qN,qO,qP,qQ]; rfl)) (by decide) ?_
   simp (disch:=omega) only [go_sem,simprocAttr,qN,qO,qP,qQ]
   repeat' (first|(with_reducible first|apply qA|apply qB|apply qC|apply qD|apply qE|apply qF)|(refine qL rfl (WF.of ?_) ?_; first|rfl|skip)|(refine DW.ord rfl (WF.of (by first|rfl|simp (disch:=omega) only [go_sem, simprocAttr, qN, qO, qP, qQ])) ?_ ?_ ?_; rotate_left)|rfl|(with_reducible refine And.intro ?_ ?_)|(simp (disch:=omega) only [go_sem, simprocAttr, qN, qO, qP, qQ])|exact qM rfl rfl rfl|(refine qG rfl ?_)|(refine qK (lo1) (by decide) ?_)|(refine qH rfl ?_)|(refine qI rfl ?_ ?_<;>intro hc<;>(try simp only [go_sem] at hc))|(refine qJ ?_ ?_<;>intro hc<;>(try simp only [hc])<;>(try simp only [go_sem] at hc)))
   refine call_e (Ent.rel 136 rfl) cMo (by rfl) (by first | rfl | (simp (disch:=omega) only [go_sem,simprocAttr,qN,qO,qP,qQ]; rfl)) (by decide) ?_
   simp (disch:=omega) only [go_sem,simprocAttr,qN,qO,qP,qQ]
   repeat' (first|(with_reducible first|apply qA|apply qB|apply qC|apply qD|apply qE|apply qF)|(refine qL rfl (WF.of ?_) ?_; first|rfl|skip)|(refine DW.ord rfl (WF.of (by first|rfl|simp (disch:=omega) only [go_sem, simprocAttr, qN, qO, qP, qQ, g1, g2, g3])) ?_ ?_ ?_; rotate_left)|rfl|(with_reducible refine And.intro ?_ ?_)|(simp (disch:=omega) only [go_sem, simprocAttr, qN, qO, qP, qQ, g1, g2, g3])|exact qM rfl rfl rfl|(refine qG rfl ?_)|(refine qK (hbo) (by decide) ?_)|(refine qK (hcr) (by decide) ?_)|(refine qH rfl ?_)|(refine qI rfl ?_ ?_<;>intro hc<;>(try simp only [go_sem] at hc))|(refine qJ ?_ ?_<;>intro hc<;>(try simp only [hc])<;>(try simp only [go_sem] at hc)))
end Go.Dw.Seat.Cr
end
section
set_option linter.unusedSimpArgs false
set_option maxRecDepth 100000
namespace Go.Dw.Seat.Cr
open Go Go.Dw Go.Proofs Go.IntWalk
def AllLt (b : Nat) (l : List Nat) : Prop := ∀ x ∈ l, x < b
def eN (l : List Nat) : List C := l.map fun n : Nat => .v (.int .u8 (n : Int))
def e1 (n : Nat) : List C := [.v (.int .u8 n)]
theorem heaviestY (x : War) (hx : x.ok) (s : List Nat) (hs : s.length = 6 ∧ AllLt 256 s) (d : Nat) (hd : d < 256) (hby : x.by'.length ≤ 140737488351232) :
  DCall Tryd.prog 4 [dWar false x, .agg ((eN s).map D.c), .c (.v (.int .u8 d))] [] (bD true) [] := by
 have e : (eN s).map D.c = s.map uDm := by rw [eN, List.map_map]; rfl
 rw [e]
 exact tpHeaviest x hx s hs.1 hs.2 d hd hby
end Go.Dw.Seat.Cr
end
section
set_option linter.unusedSimpArgs false
set_option maxRecDepth 100000
namespace Go.Dw.Seat.Cr
open Go Go.Dw Go.Proofs Go.ChangeShapes Go.WideShapes Go.ChangeAt Go.RowKit Go.IntWalk
theorem tOwn : ownKnob Tryd.prog.godebug = none := by kernel_rfl
theorem tLaid : laidOutB Tryd.prog = true := by kernel_rfl
theorem u4 : Tryd.prog.underlying 4 = some .bool := by kernel_rfl
abbrev laid2 : List (String × DataW Unit) := [("math/bits.deBruijn32tab", YtnbgonichmcfaaaDoor.Rows.laid_math_bits_deBruijn32tab), ("math/bits.deBruijn64tab", YtnbgonichmcfaaaDoor.Rows.laid_math_bits_deBruijn64tab)]
theorem gTab64 : Tryd.prog.globalNamed "math/bits.deBruijn64tab" = some 1 := by kernel_rfl
theorem tTab64 : (Tryd.prog.globals[1]?).map (·.type) = some 226 := by kernel_rfl
theorem uTab64 : Tryd.prog.underlying 226 = some (.array 64 5) := by kernel_rfl
theorem cells5 : Tryd.prog.cellsOf 5 = 1 := by kernel_rfl
theorem und5 : Tryd.prog.underlying 5 = some (.int .u8) := by kernel_rfl
theorem door_met (os : Os) (args : Array Value) : laidMetH Tryd.prog laid2 ((World.doorLaid Tryd.prog 400 os).forCall (fun _ _ => 0) ⟨#[], args, []⟩).memory :=
 laidMetH_of_parts3 (fuel := 8) (laidMet_of_run' 8 (by kernel_rfl) (by kernel_rfl)) (by kernel_rfl) (by kernel_rfl)
theorem tabD : (YtnbgonichmcfaaaDoor.Rows.laid_math_bits_deBruijn64tab : DataW Unit) = .agg (tabI.map fun n => .lit (.int .u8 n)) := rfl
theorem laid_of {W : World} (h : laidMetH Tryd.prog laid2 W) : LaidA (fun _ => False) W := by
 rw [MakeChecks.laidMetH_plain _ _ _ (by kernel_rfl)] at h
 obtain ⟨ps, ⟨g0, t0, cs0, f0, p0, q0, hg0, ht0, hv0, hd0, ⟨g1, t1, cs1, f1, p1, q1, hg1, ht1, hv1, hd1, _, _⟩, _⟩, _, _⟩ := h
 obtain rfl := Option.some.inj (gTab64.symm.trans hg1)
 obtain rfl := Option.some.inj (tTab64.symm.trans ht1)
 obtain ⟨xs, m, rfl, hx, hlen, hn, hel⟩ := DataW.trod_array uTab64 hd1
 rw [tabD] at hx
 simp only [Prod.mk.injEq, DataW.agg.injEq] at hx
 have key : ∀ j v, tab64[j]? = some v → W.cell? ⟨1, j, none⟩ = some v ∧ v.oneCell' = true := by
  intro j v hj
  rw [tab_get, Option.map_eq_some_iff] at hj
  obtain ⟨n, hn', rfl⟩ := hj
  have hj64 : j < 64 := (List.getElem?_eq_some_iff.1 hn').1
  have h1 := hel j hj64
  rw [cells5, Nat.mul_one] at h1
  obtain ⟨y, hy⟩ : ∃ y, xs[j]? = some y := ⟨xs[j]'(by omega), by simp [hn, hj64]⟩
  rw [hy] at h1
  obtain ⟨k, e1, e2, _⟩ := DataW.trod_int und5 h1
  have e3 : (xs.map (·.1))[j]? = some y.1 := by rw [List.getElem?_map, hy]; rfl
  rw [← hx.1, List.getElem?_map, hn'] at e3
  simp only [Option.map_some, Option.some.injEq] at e3
  have hk : k = n := by rw [e2] at e3; simpa using e3.symm
  subst hk
  have e4 : cs1.toList[j]? = some (.int .u8 k) := take_one e1
  refine ⟨?_, rfl⟩
  rw [World.var?_cell hg1 hv1 j]
  simpa using e4
 intro p hp
 have hp' : p = (1, tab64) := by simpa [Lays.l] using hp
 subst hp'
 refine ⟨?_, fun h => h, key⟩
 have h0 := (key 0 _ rfl).1
 rcases Nat.lt_or_ge 1 W.heap.size with h | h
 ·exact h
 ·have : W.heap[1]? = none := by simpa using h
  simp [World.cell?, this] at h0
theorem uT5 : Tryd.prog.underlying 5 = some (.int .u8) := by kernel_rfl
theorem clT5 : Tryd.prog.cellsOf 5 = 1 := by kernel_rfl
def bV (l : List Nat) : List Value := l.map fun n : Nat => Value.int .u8 (n : Int)
section
variable {H : Type} {enc : TypeId × Value → H} {w : World} {base : Nat} {spare : Nat → Bool} {held : Bool}
theorem wf8 {n : Int} (h : (Lit.int .u8 n).wf = true) : ∃ v : Nat, n = v ∧ v < 256 := by
 have e1 : IntKind.min .u8 = 0 := by decide
 have e2 : IntKind.max .u8 = 255 := by decide
 simp only [Lit.wf, e1, e2, Bool.and_eq_true, decide_eq_true_eq] at h
 exact ⟨n.toNat, by omega, by omega⟩
theorem rep_bytes : ∀ l : List Nat, RepVs w A0 (eN l) (bV l)
 | [] => rfl
 | _ :: l => ⟨_, _, rfl, ⟨rfl, rfl⟩, rep_bytes l⟩
theorem rd_Byte {fuel : Nat} {cs : List Value} {x : DataW H × List MemPlace} (h : DataW.trod enc Tryd.prog w base spare held fuel 5 cs = some x) : ∃ v : Nat, cs = [.int .u8 v] ∧ v < 256 := by
 obtain ⟨n, e, hw⟩ := rd_int uT5 h
 obtain ⟨v, rfl, hv⟩ := wf8 hw
 exact ⟨v, e, hv⟩
theorem rd_U8 {fuel : Nat} {cs : List Value} {x : DataW H × List MemPlace} (h : DataW.trod enc Tryd.prog w base spare held fuel 5 cs = some x) : ∃ l : List Nat, (l.length = 1 ∧ AllLt 256 l) ∧ cs = bV l := by
 obtain ⟨n, e, hw⟩ := rd_int uT5 h
 obtain ⟨v, rfl, hv⟩ := wf8 hw
 exact ⟨[v], ⟨rfl, fun x hx => by rw [List.mem_singleton] at hx; rw [hx]; exact hv⟩, e⟩
theorem bV_app (a b : List Nat) : bV (a ++ b) = bV a ++ bV b := by simp [bV]
theorem lt_app {b : Nat} {l l' : List Nat} (h : AllLt b l) (h' : AllLt b l') : AllLt b (l ++ l') := fun x hx => by
 rcases List.mem_append.1 hx with h1 | h1
 ·exact h x h1
 ·exact h' x h1
theorem rd_arrB {fuel : Nat} {cs : List Value} {x : DataW H × List MemPlace} {t e : TypeId} {n k : Nat} (ht : Tryd.prog.underlying t = some (.array n e)) (he : Tryd.prog.cellsOf e = k) (hc : Tryd.prog.cellsOf t = n * k)
  (hrd : ∀ m cs x, DataW.trod enc Tryd.prog w base spare held m e cs = some x → ∃ l : List Nat, (l.length = k ∧ AllLt 256 l) ∧ cs = bV l) (h : DataW.trod enc Tryd.prog w base spare held fuel t cs = some x) : ∃ l : List Nat, (l.length = n * k ∧ AllLt 256 l) ∧ cs = bV l := by
 obtain ⟨hl, m, hf⟩ := rd_array ht h
 rw [hc] at hl
 have key : ∀ j, j ≤ n → ∃ l : List Nat, (l.length = j * k ∧ AllLt 256 l) ∧ cs.take (j * k) = bV l := by
  intro j
  induction j with
  | zero => intro _; exact ⟨[], ⟨by simp, fun x hx => by cases hx⟩, by simp [bV]⟩
  | succ j ih =>
   intro hj
   obtain ⟨l, ⟨h1, h2⟩, h3⟩ := ih (by omega)
   obtain ⟨y, hy⟩ := hf j (by omega)
   rw [he] at hy
   obtain ⟨l', ⟨h4, h5⟩, h6⟩ := hrd _ _ _ hy
   refine ⟨l ++ l', ⟨by rw [List.length_append, h1, h4, Nat.succ_mul], lt_app h2 h5⟩, ?_⟩
   rw [Nat.succ_mul, List.take_add, h3, h6, bV_app]
 obtain ⟨l, h1, h2⟩ := key n (Nat.le_refl _)
 rw [List.take_of_length_le (by omega)] at h2
 exact ⟨l, h1, h2⟩
theorem uT59 : Tryd.prog.underlying 59 = some (.array 6 5) := by kernel_rfl
theorem clT59 : Tryd.prog.cellsOf 59 = 6 := by kernel_rfl
theorem rd_T59 {fuel : Nat} {cs : List Value} {x : DataW H × List MemPlace} (h : DataW.trod enc Tryd.prog w base spare held fuel 59 cs = some x) : ∃ l : List Nat, (l.length = 6 ∧ AllLt 256 l) ∧ cs = bV l := rd_arrB (n := 6) (k := 1) uT59 clT5 clT59 (fun _ _ _ h => rd_U8 h) h
theorem uT22 : Tryd.prog.underlying 22 = some (.array 3 5) := by kernel_rfl
theorem clT22 : Tryd.prog.cellsOf 22 = 3 := by kernel_rfl
theorem rd_T22 {fuel : Nat} {cs : List Value} {x : DataW H × List MemPlace} (h : DataW.trod enc Tryd.prog w base spare held fuel 22 cs = some x) : ∃ l : List Nat, (l.length = 3 ∧ AllLt 256 l) ∧ cs = bV l := rd_arrB (n := 3) (k := 1) uT22 clT5 clT22 (fun _ _ _ h => rd_U8 h) h
theorem uT56 : Tryd.prog.underlying 56 = some (.slice 5) := by kernel_rfl
theorem clT56 : Tryd.prog.cellsOf 56 = 1 := by kernel_rfl
theorem rd_T56 {fuel : Nat} {cs : List Value} {x : DataW H × List MemPlace} (h : DataW.trod enc Tryd.prog w base spare held fuel 56 cs = some x) : ∃ (l : List Nat) (v : Value), cs = [v] ∧ RepC w A0 (.sl false 1 (rows e1 l)) v ∧ l.length ≤ maxLen ∧ AllLt 256 l := by
 obtain ⟨l, v, e', hr, hm, _⟩ := rd_slice (f := fun v : {v : Nat // v < 256} => e1 v.1) uT56 clT5 (by decide) (fun _ => rfl) (fun m cs x h => by
  obtain ⟨n, e, hw⟩ := rd_int uT5 h
  obtain ⟨v, rfl, hv⟩ := wf8 hw
  subst e
  exact ⟨⟨v, hv⟩, _, _, rfl, ⟨rfl, rfl⟩, rfl⟩) h
 refine ⟨l.map (·.1), v, e', ?_, by simpa using hm, fun u hu => ?_⟩
 ·have : rows e1 (l.map (·.1)) = rows (fun v : {v : Nat // v < 256} => e1 v.1) l := by simp [rows, Function.comp_def]
  rw [this]; exact hr
 ·obtain ⟨a, _, rfl⟩ := List.mem_map.1 hu
  exact a.2
theorem uT54 : Tryd.prog.underlying 54 = some (.slice 59) := by kernel_rfl
theorem clT54 : Tryd.prog.cellsOf 54 = 1 := by kernel_rfl
theorem rd_W6 {fuel : Nat} {cs : List Value} {x : DataW H × List MemPlace} (h : DataW.trod enc Tryd.prog w base spare held fuel 59 cs = some x) : ∃ v : {v : V6 // v.ok}, RepVs w A0 (e6 v.1) cs := by
 obtain ⟨l, ⟨h1, h2⟩, h3⟩ := rd_T59 h
 subst h3
 match l, h1 with
 | [a, b, c, d, e, f], _ => exact ⟨⟨⟨a, b, c, d, e, f⟩, h2 a (by simp), h2 b (by simp), h2 c (by simp), h2 d (by simp), h2 e (by simp), h2 f (by simp)⟩, _, _, rfl, ⟨rfl, rfl⟩, _, _, rfl, ⟨rfl, rfl⟩, _, _, rfl, ⟨rfl, rfl⟩, _, _, rfl, ⟨rfl, rfl⟩, _, _, rfl, ⟨rfl, rfl⟩, _, _, rfl, ⟨rfl, rfl⟩, rfl⟩
theorem rd_X54 {fuel : Nat} {cs : List Value} {x : DataW H × List MemPlace} (h : DataW.trod enc Tryd.prog w base spare held fuel 54 cs = some x) : ∃ (l : List V6) (v : Value), cs = [v] ∧ RepC w A0 (.sl false 6 (rows e6 l)) v ∧ l.length ≤ maxLen ∧ ∀ v ∈ l, v.ok := by
 obtain ⟨l, v, e', hr, hm, _⟩ := rd_slice (f := fun v : {v : V6 // v.ok} => e6 v.1) uT54 clT59 (by decide) (fun _ => rfl) (fun m cs x h => rd_W6 h) h
 refine ⟨l.map (·.1), v, e', ?_, by simpa using hm, fun u hu => ?_⟩
 ·have : rows e6 (l.map (·.1)) = rows (fun v : {v : V6 // v.ok} => e6 v.1) l := by simp [rows, Function.comp_def]
  rw [this]; exact hr
 ·obtain ⟨a, _, rfl⟩ := List.mem_map.1 hu
  exact a.2
theorem uT55 : Tryd.prog.underlying 55 = some (.slice 22) := by kernel_rfl
theorem clT55 : Tryd.prog.cellsOf 55 = 1 := by kernel_rfl
theorem rd_W3 {fuel : Nat} {cs : List Value} {x : DataW H × List MemPlace} (h : DataW.trod enc Tryd.prog w base spare held fuel 22 cs = some x) : ∃ v : {v : V3 // v.ok}, RepVs w A0 (e3 v.1) cs := by
 obtain ⟨l, ⟨h1, h2⟩, h3⟩ := rd_T22 h
 subst h3
 match l, h1 with
 | [a, b, c], _ => exact ⟨⟨⟨a, b, c⟩, h2 a (by simp), h2 b (by simp), h2 c (by simp)⟩, _, _, rfl, ⟨rfl, rfl⟩, _, _, rfl, ⟨rfl, rfl⟩, _, _, rfl, ⟨rfl, rfl⟩, rfl⟩
theorem rd_X55 {fuel : Nat} {cs : List Value} {x : DataW H × List MemPlace} (h : DataW.trod enc Tryd.prog w base spare held fuel 55 cs = some x) : ∃ (l : List V3) (v : Value), cs = [v] ∧ RepC w A0 (.sl false 3 (rows e3 l)) v ∧ l.length ≤ maxLen ∧ ∀ v ∈ l, v.ok := by
 obtain ⟨l, v, e', hr, hm, _⟩ := rd_slice (f := fun v : {v : V3 // v.ok} => e3 v.1) uT55 clT22 (by decide) (fun _ => rfl) (fun m cs x h => rd_W3 h) h
 refine ⟨l.map (·.1), v, e', ?_, by simpa using hm, fun u hu => ?_⟩
 ·have : rows e3 (l.map (·.1)) = rows (fun v : {v : V3 // v.ok} => e3 v.1) l := by simp [rows, Function.comp_def]
  rw [this]; exact hr
 ·obtain ⟨a, _, rfl⟩ := List.mem_map.1 hu
  exact a.2
theorem uT58 : structIs Tryd.prog 58 [(54, 0), (55, 1), (56, 2)] = true := by kernel_rfl
theorem clT58 : Tryd.prog.cellsOf 58 = 3 := by kernel_rfl
def cWar (x : War) : List C := [.sl false 6 (rows e6 x.papers), .sl false 3 (rows e3 x.flutes), .sl false 1 (rows eY x.by')]
theorem rd_T58 {fuel : Nat} {cs : List Value} {x : DataW H × List MemPlace} (h : DataW.trod enc Tryd.prog w base spare held fuel 58 cs = some x) : ∃ s : War, s.ok ∧ RepVs w A0 (cWar s) cs := by
 obtain ⟨hl, m, hf⟩ := rd_struct uT58 h
 rw [clT58] at hl
 obtain ⟨y0, h0⟩ := hf 0 54 0 rfl
 obtain ⟨y1, h1⟩ := hf 1 55 1 rfl
 obtain ⟨y2, h2⟩ := hf 2 56 2 rfl
 rw [clT54] at h0
 rw [clT55] at h1
 rw [clT56] at h2
 obtain ⟨L0, v0, e0, r0, m0, p0⟩ := rd_X54 h0
 obtain ⟨L1, v1, e1, r1, m1, p1⟩ := rd_X55 h1
 obtain ⟨L2, v2, e2, r2, m2, p2⟩ := rd_T56 h2
 match cs, hl with
 | [c0, c1, c2], _ =>
  simp at e0 e1 e2
  subst e0; subst e1; subst e2
  exact ⟨⟨L0, L1, L2⟩, ⟨p0, p1, p2⟩, _, _, rfl, r0, _, _, rfl, r1, _, _, rfl, r2, rfl⟩
theorem bytT5 : Tryd.prog.bytesOf 5 = 1 := by kernel_rfl
theorem war_len {fuel : Nat} {cs : List Value} {x : DataW H × List MemPlace} {s : War} (h : DataW.trod enc Tryd.prog w base spare held fuel 58 cs = some x) (hr : RepVs w A0 (cWar s) cs) (hw : ∀ n ∈ DataW.weights Tryd.prog 58 x.1, n ≤ reachBytes) : s.by'.length ≤ reachBytes := by
 obtain ⟨fs, hu, hl⟩ := structIs_spec uT58
 obtain ⟨xs, n, _, rfl, hcs, hlen, hf⟩ := DataW.trod_struct hu h
 have hs3 : fs.size = 3 := by have := congrArg List.length hl; simpa using this
 have hty : fs.toList.map (·.type) = [54, 55, 56] := by
  have := congrArg (List.map Prod.fst) hl
  simpa [List.map_map, Function.comp_def] using this
 obtain ⟨f, hf2, ht2, ho2⟩ : ∃ f, fs[2]? = some f ∧ f.type = 56 ∧ f.offset = 2 := by
  have h2 : (fs.toList.map (fun f => (f.type, f.offset)))[2]? = some (56, 2) := by rw [hl]; rfl
  rw [List.getElem?_map, Option.map_eq_some_iff] at h2
  obtain ⟨f, h3, h4⟩ := h2
  exact ⟨f, by simpa using h3, congrArg Prod.fst h4, congrArg Prod.snd h4⟩
 have h2 := hf 2 f hf2
 rw [ht2, ho2, clT56] at h2
 rw [hs3] at hlen
 match xs, hlen with
 | [x0, x1, x2], _ =>
  obtain ⟨v0, _, rfl, r0, v1, _, rfl, r1, v2, _, rfl, r2, rfl⟩ := hr
  have hw2 : ∀ n ∈ DataW.weights Tryd.prog 56 x2.1, n ≤ reachBytes := fun n hn => hw n (by
   simp only [DataW.weights, hu, hty, List.map_cons, List.map_nil, DataW.weightsEach]
   exact List.mem_append_right _ (List.mem_append_right _ (List.mem_append_left _ hn)))
  have h2 : DataW.trod enc Tryd.prog w base spare held n 56 [v2] = some x2 := by simpa using h2
  obtain ⟨p, k, rfl, hk, _⟩ := r2
  have hll : (rows eY s.by').length = s.by'.length := by simp [rows]
  rcases DataW.trod_slice uT56 h2 with ⟨e, _⟩ | ⟨a, len, cap, elems, rest, m, _, e, rfl, _, _, _, hel, _⟩
  ·simp only [List.cons.injEq, Value.slice.injEq, and_true] at e
   omega
  ·simp only [List.cons.injEq, Value.slice.injEq, and_true] at e
   have := hw2 ((elems.length + rest.length) * 1) (by
    simp only [DataW.weights, uT56, List.length_map, bytT5]
    exact List.mem_cons_self)
   omega
end
set_option maxHeartbeats 800000 in
theorem topHeaviestLifted (os : Os) (started : os.Started) (H : Type) (enc : TypeId × Value → H) :
  ReturnsInHanded {} Tryd.checked os 4 .any (fun w args => (YtnbgonichmcfaaaDoor.Rows.topHeaviestSpec.pre enc Tryd.prog Tryd.f4 [] false w args ∧ laidMetH Tryd.prog laid2 w) ∧ sizedMet enc Tryd.prog Tryd.f4 (OpenSpec.ofChange YtnbgonichmcfaaaDoor.Rows.topHeaviestSpec) false w args) (YtnbgonichmcfaaaDoor.Rows.topHeaviestSpec.post enc Tryd.prog Tryd.f4 false true false false) := by
 refine returnsInHanded_of_change_and (C := Tryd.checked) (X := fun w _ => laidMetH Tryd.prog laid2 w) (fun _ _ _ hh h => h.of_heap hh) tOwn started (by kernel_rfl) Tryd.func4
  (ChangeSpec.witness_shaped (enc := enc) (C := Tryd.checked) (os := os) (X := fun w _ => laidMetH Tryd.prog laid2 w) false (World.doorLaid Tryd.prog 400 os) #[.agg #[.slice none 0 0, .slice none 0 0, .slice none 0 0], .agg #[.int .u8 0, .int .u8 0, .int .u8 0, .int .u8 0, .int .u8 0, .int .u8 0], .int .u8 0] 8 rfl (World.shaped_of_RefB (by kernel_rfl) (by kernel_rfl)) (by kernel_rfl) (by kernel_rfl) (by kernel_rfl) (door_met os _)) ?_
 intro W base args ds gs before hval0 hW _ hall hL _
 have hval : ∀ (j : Nat) t v, Tryd.f4.params[j]? = some t → args[j]? = some v → Value.okWide Tryd.prog W .any base t v := hval0
 have hW' : DataW.Whole enc Tryd.prog Tryd.f4.params.toList [] false W args.toList ds gs before := hW
 obtain ⟨p, q, hA, hV, rfl, hfz, hnd⟩ := hW
 have hA : DataW.TrodAll enc Tryd.prog W 0 (fun _ => true) true [58, 59, 5] args.toList ds p := hA
 obtain ⟨rfl, rfl⟩ := trodVars_none hV
 obtain ⟨v0, vs0, d0, ds0, p0, q0, hargs, rfl, rfl, h0, r0⟩ := trodAll_cons hA
 obtain ⟨v1, vs1, d1, ds1, p1, q1, rfl, rfl, rfl, h1, r1⟩ := trodAll_cons r0
 obtain ⟨v2, vs2, d2, ds2, p2, q2, rfl, rfl, rfl, h2, r2⟩ := trodAll_cons r1
 obtain ⟨rfl, rfl, rfl⟩ := trodAll_nil r2
 obtain rfl : args = #[v0, v1, v2] := by cases args; simp_all
 have hall' : ∀ n ∈ DataW.weights Tryd.prog 58 d0, n ≤ reachBytes := fun n hn => by
  have h1 : n ∈ DataW.weightsEach Tryd.prog ([58, 59, 5] ++ YtnbgonichmcfaaaDoor.Rows.topHeaviestSpec.plain.varTypes Tryd.prog) ([d0, d1, d2] ++ []) := by
   simp only [List.cons_append, DataW.weightsEach]
   exact List.mem_append_left _ hn
  simpa using List.all_eq_true.1 hall n h1
 obtain ⟨f0, hu0, _⟩ := structIs_spec uT58
 obtain ⟨c0, rfl, _⟩ := okWide_struct hu0 (hval 0 58 v0 rfl rfl)
 obtain ⟨c1, rfl, _⟩ := okWide_array uT59 (hval 1 59 v1 rfl rfl)
 obtain ⟨n2, rfl⟩ := okWide_int uT5 (hval 2 5 v2 rfl rfl)
 obtain ⟨fu0, h0⟩ := h0
 obtain ⟨fu1, h1⟩ := h1
 obtain ⟨fu2, h2⟩ := h2
 obtain ⟨s0, ho0, hr0⟩ := rd_T58 h0
 have hr0 : RepVs W A0 (cWar s0) c0.toList := by simpa [Value.cells] using hr0
 obtain ⟨s1, ho1, e1⟩ := rd_T59 h1
 have hr1 : RepVs W A0 (eN s1) c1.toList := by
  have e : c1.toList = bV s1 := by simpa [Value.cells] using e1
  rw [e]; exact rep_bytes s1
 obtain ⟨s2, e2, ho2⟩ := rd_Byte h2
 have e2 : n2 = s2 := by simpa [Value.cells] using e2
 subst e2
 have k0 : DataW.trod enc Tryd.prog W 0 (fun _ => true) true fu0 58 c0.toList = some (d0, p0) := by simpa [Value.cells] using h0
 have hby0 := war_len k0 hr0 hall'
 refine ((heaviestY s0 ho0 s1 ho1 s2 ho2 hby0).calls (W := W) (vs := [.agg c0, .agg c1, .int .u8 s2]) (laid_of hL) (fun G => ?_)).mono ?_
 ·exact ⟨_, _, rfl, ⟨c0, rfl, RepDs.ofVs hr0⟩, _, _, rfl, ⟨c1, rfl, RepDs.ofVs hr1⟩, _, _, rfl, ⟨rfl, rfl⟩, rfl⟩
 ·rintro e W' ⟨v, rfl, ⟨G', A', hr⟩, hb⟩
  obtain ⟨rfl, _⟩ := hr
  exact ⟨_, rfl, post_true tLaid (by decide +kernel) hW' hb rfl rfl u4 rfl rfl rfl⟩
theorem topHeaviestHolds : YtnbgonichmcfaaaDoor.Rows.topHeaviestRow.holds YtnbgonichmcfaaaDoor.Tryd.pinned (OpenSpec.ofChange YtnbgonichmcfaaaDoor.Rows.topHeaviestSpec) :=
 OpenClaim.holds_of_wide 4 Tryd.f4 rfl rfl rfl rfl rfl rfl rfl ⟨rfl, rfl, rfl, rfl, rfl⟩ rfl rfl rfl rfl rfl (by kernel_rfl) Tryd.func4 (by kernel_rfl)
  (of_decide_eq_true (by kernel_rfl)) (by unfold Func.isWrapper; first | (rw [if_pos (by decide +kernel)]; kernel_rfl) | (rw [if_neg (by decide +kernel)]; exact ⟨rfl, rfl⟩))
  (fun os started H enc _ => topHeaviestLifted os started H enc)
theorem topHeaviestCard : Claim7.holds YtnbgonichmcfaaaDoor.Tryd.pinned (.plain (OpenSpec.ofChange YtnbgonichmcfaaaDoor.Rows.topHeaviestSpec)) YtnbgonichmcfaaaDoor.Rows.topHeaviestCard :=
 Claim7.holds_tied_plain_at .later [] [.data, .data] true YtnbgonichmcfaaaDoor.Rows.topHeaviestCard.stood.harness false
  topHeaviestHolds (fun _ h => by cases h) (by kernel_rfl) (fun _ h => by cases h) YtnbgonichmcfaaaDoor.topHeaviest_row_tie rfl ⟨rfl, rfl⟩ (by kernel_rfl) rfl
  (fun f fn hf hfn => by
   obtain rfl : f = 4 := Option.some.inj ((show Tryd.prog.funcNamed YtnbgonichmcfaaaDoor.Rows.topHeaviestRow.func = some 4 by kernel_rfl).symm.trans hf) |>.symm
   obtain rfl : fn = Tryd.f4 := (Option.some.inj (Tryd.func4.symm.trans hfn)).symm
   refine ⟨by kernel_rfl, fun j t ht => ?_⟩
   have hm : t ∈ Tryd.f4.params.toList := by simpa using Array.mem_of_getElem? ht
   have hall : (Tryd.f4.params.toList.all fun u => !Tryd.prog.wantsStandIn u) = true := by kernel_rfl
   exact (show Tryd.prog.wantsStandIn t = false by simpa using List.all_eq_true.1 hall t hm))
  (by kernel_rfl)
end Go.Dw.Seat.Cr
namespace Go.Proofs.YtnbgonichmcfaaaDoor
theorem topHeaviestCardSaid : Rows.TopHeaviestCardSaid := Go.Dw.Seat.Cr.topHeaviestCard
end Go.Proofs.YtnbgonichmcfaaaDoor
end
