/- Helpers of a proof. -/
import Derived.Test.YtnbgonichmcfaaaA00
set_option linter.unusedVariables false
set_option linter.unusedSimpArgs false
section
set_option linter.unusedSimpArgs false
set_option maxRecDepth 100000
namespace Go.Dw.Seat
open Go Go.Dw Go.Proofs Go.IntWalk
theorem scW1 (n lo hi : Int) (p q : Bool) : DCall Try.prog 89 [dI n, .c (.ro p [.v (.int .i64 lo)] 0), .c (.ro q [.v (.int .i64 hi)] 0)] [] (bD (decide (n < lo) || decide (hi < n))) [] := by
 refine DCall.of Try.func89 sf89 hb89 (Nat.le_of_ble_eq_true rfl) (okRes_nil fun _ => rfl) ?_; simp only [s89, idxs, Nat.reduceAdd]
 repeat' (first|(with_reducible first|apply qA|apply qB|apply qC|apply qD|apply qE|apply qF)|(simp (disch:=omega) only [go_sem, simprocAttr, Blk.men, Blk.keysIn])|exact qM rfl rfl rfl|(refine qG rfl ?_)|(refine qH rfl ?_)|(refine qI rfl ?_ ?_<;>intro hc<;>(try simp only [go_sem] at hc))|(refine qJ ?_ ?_<;>intro hc<;>(try simp only [hc])<;>(try simp only [go_sem] at hc)))
theorem scWithin (b : Bool) (lo hi : Int) (l : List Int) (hl : l.length ≤ 2 ^ 36) : DCall Try.prog 43 [dI lo, dI hi, dIs b l] [] (bD (wthn lo hi l)) [] := by
 refine DCall.of Try.func43 sf43 hb43 (Nat.le_of_ble_eq_true rfl) (okRes_nil fun _ => rfl) ?_; simp only [s43, idxs, Nat.reduceAdd]
 repeat' (first|(with_reducible first|apply qA|apply qB|apply qC|apply qD|apply qE|apply qF)|(simp (disch:=omega) only [go_sem, simprocAttr, Blk.men, Blk.keysIn])|exact qM rfl rfl rfl|(refine qG rfl ?_)|(refine qH rfl ?_)|(refine qI rfl ?_ ?_<;>intro hc<;>(try simp only [go_sem] at hc))|(refine qJ ?_ ?_<;>intro hc<;>(try simp only [hc])<;>(try simp only [go_sem] at hc)))
 (refine call_c (c110 b l hl 89 [] [.ro true [.v (.int .i64 lo)] 0, .ro true [.v (.int .i64 hi)] 0] (fun n => decide (n < lo) || decide (hi < n)) (fun x _ => scW1 x lo hi true true)) (by decide) ?_; simp (disch:=omega) only [go_sem,simprocAttr,Blk.men,Blk.keysIn])
 repeat' (first|(with_reducible first|apply qA|apply qB|apply qC|apply qD|apply qE|apply qF)|(simp (disch:=omega) only [go_sem, simprocAttr, Blk.men, Blk.keysIn])|exact qM rfl rfl rfl|(refine qG rfl ?_)|(refine qH rfl ?_)|(refine qI rfl ?_ ?_<;>intro hc<;>(try simp only [go_sem] at hc))|(refine qJ ?_ ?_<;>intro hc<;>(try simp only [hc])<;>(try simp only [go_sem] at hc)))
theorem scIn (b : Bool) (lo hi : Int) (l : List Int) (hl : l.length ≤ 2 ^ 36) (h : ∀ v ∈ l, lo ≤ v ∧ v ≤ hi) : DCall Try.prog 43 [dI lo, dI hi, dIs b l] [] (bD true) [] := by
 have := scWithin b lo hi l hl
 rwa [wthn_ok h] at this
theorem scLong (b : Bool) (lo : Int) (l : List Int) (hl : l.length ≤ 2 ^ 36) (h : ∀ v ∈ l, lo ≤ v ∧ v ≤ 3000) : DCall Try.prog 99 [dI lo, dIs b l] [] (bD true) [] := by
 have h1 := scIn b lo 3000 l hl h
 refine DCall.of Try.func99 sf99 hb99 (Nat.le_of_ble_eq_true rfl) (okRes_nil fun _ => rfl) ?_; simp only [s99, idxs, Nat.reduceAdd]
 repeat' (first|(with_reducible first|apply qA|apply qB|apply qC|apply qD|apply qE|apply qF)|(simp (disch:=omega) only [go_sem, simprocAttr, Blk.men, Blk.keysIn])|exact qM rfl rfl rfl|(refine qG rfl ?_)|(refine qK (h1) (by decide) ?_)|(refine qH rfl ?_)|(refine qI rfl ?_ ?_<;>intro hc<;>(try simp only [go_sem] at hc))|(refine qJ ?_ ?_<;>intro hc<;>(try simp only [hc])<;>(try simp only [go_sem] at hc)))
def cL2 (x y : List Int) : Nat → Int
 | 0 => 0
 | 1 => x.length
 | _ => (x.length : Int) + y.length
theorem cL20 (x y : List Int) : cL2 x y 0 = 0 := rfl
theorem cL21 (x y : List Int) : cL2 x y 1 = x.length := rfl
theorem cL22 (x y : List Int) : cL2 x y 2 = (x.length : Int) + y.length := rfl
def cA2 (x y : List Int) : Nat → List Int
 | 0 => []
 | 1 => x
 | _ => x ++ y
theorem cA20 (x y : List Int) : cA2 x y 0 = [] := rfl
theorem cA21 (x y : List Int) : cA2 x y 1 = x := rfl
theorem cA22 (x y : List Int) : cA2 x y 2 = x ++ y := rfl
theorem scConcat (b : Bool) (x y : List Int) (hx : 1 ≤ x.length ∧ x.length ≤ 1000) (hy : y.length ≤ 1000) : DCall Try.prog 100 [.c (.sl b 1 [[.sl false 1 (rows eI x)], [.sl false 1 (rows eI y)]])] [] (dIs false (x ++ y)) [] := by
 have hg := scGrow (x.length + y.length) 24 (by omega)
 have e1 : ((x.length + y.length : Nat) : Int) = (x.length : Int) + (y.length : Int) := by omega
 rw [e1] at hg
 refine DCall.of Try.func100 sf100 hb100 (Nat.le_of_ble_eq_true rfl) (okRes_nil fun _ => rfl) ?_; simp only [s100, idxs, Nat.reduceAdd]
 repeat' (first|(with_reducible first|apply qA|apply qB|apply qC|apply qD|apply qE|apply qF)|(simp (disch:=omega) only [go_sem, simprocAttr, Blk.men, Blk.keysIn])|exact qM rfl rfl rfl|(refine qG rfl ?_)|(refine qH rfl ?_)|(refine qI rfl ?_ ?_<;>intro hc<;>(try simp only [go_sem] at hc))|(refine qJ ?_ ?_<;>intro hc<;>(try simp only [hc])<;>(try simp only [go_sem] at hc)))
 refine DW.loop (ι := { i : Nat // i ≤ 2 }) (fun i => ⟨36, [(11, dI i.1), (10, dI 2), (9, .c (.sl b 1 [[.sl false 1 (rows eI x)], [.sl false 1 (rows eI y)]])), (3, dI (cL2 x y i.1)), (0, .c (.sl b 1 [[.sl false 1 (rows eI x)], [.sl false 1 (rows eI y)]]))], []⟩) (fun i => 2 - i.1) ⟨0, by omega⟩ ?_ ?_
 ·refine Ent.to ?_ ?_ <;> simp (disch:=omega) only [qR,qS,qTw,qU,get,Nat.reduceEqDiff,↓reduceIte,qV,qW,qX,qY,qZ,and_self,dI,i64_in,and_true,true_and,rA,rB,rC,rD,cL20]
  all_goals exact .refl _
 rintro ⟨i, hi⟩
 dsimp only
 rcases (by omega : i = 0 ∨ i = 1 ∨ i = 2) with rfl | rfl | rfl
 ·have d : decide ((x.length : Int) < 0) = false := decide_eq_false (by omega)
  repeat' (first|(with_reducible first|apply qA|apply qB|apply qC|apply qD|apply qE|apply qF)|(simp (disch:=omega) only [go_sem, simprocAttr, Blk.men, Blk.keysIn, cL20, d])|exact qM rfl rfl rfl|(refine qG rfl ?_)|(refine qH rfl ?_)|(refine qI rfl ?_ ?_<;>intro hc<;>(try simp only [go_sem] at hc))|(refine qJ ?_ ?_<;>intro hc<;>(try simp only [hc])<;>(try simp only [go_sem] at hc)))
  refine ⟨⟨1, by omega⟩, ?_, Ent.to ?_ ?_⟩ <;> first | (show _ < _; (try simp only); omega) | (simp (disch:=omega) only [qR,qS,qTw,qU,get,Nat.reduceEqDiff,↓reduceIte,qV,qW,qX,qY,qZ,and_self,dI,i64_in,and_true,true_and,rA,rB,rC,rD, cL20,cL21,Int.zero_add])
  all_goals exact .refl _
 ·have d : decide ((x.length : Int) + (y.length : Int) < 0) = false := decide_eq_false (by omega)
  repeat' (first|(with_reducible first|apply qA|apply qB|apply qC|apply qD|apply qE|apply qF)|(simp (disch:=omega) only [go_sem, simprocAttr, Blk.men, Blk.keysIn, cL21, d])|exact qM rfl rfl rfl|(refine qG rfl ?_)|(refine qH rfl ?_)|(refine qI rfl ?_ ?_<;>intro hc<;>(try simp only [go_sem] at hc))|(refine qJ ?_ ?_<;>intro hc<;>(try simp only [hc])<;>(try simp only [go_sem] at hc)))
  refine ⟨⟨2, by omega⟩, ?_, Ent.to ?_ ?_⟩ <;> first | (show _ < _; (try simp only); omega) | (simp (disch:=omega) only [qR,qS,qTw,qU,get,Nat.reduceEqDiff,↓reduceIte,qV,qW,qX,qY,qZ,and_self,dI,i64_in,and_true,true_and,rA,rB,rC,rD, cL21,cL22])
  all_goals exact .refl _
 ·repeat' (first|(with_reducible first|apply qA|apply qB|apply qC|apply qD|apply qE|apply qF)|(simp (disch:=omega) only [go_sem, simprocAttr, Blk.men, Blk.keysIn, cL22])|exact qM rfl rfl rfl|(refine qG rfl ?_)|(refine qH rfl ?_)|(refine qI rfl ?_ ?_<;>intro hc<;>(try simp only [go_sem] at hc))|(refine qJ ?_ ?_<;>intro hc<;>(try simp only [hc])<;>(try simp only [go_sem] at hc)))
  (refine call_r (hg) (by decide) (by first | rfl | simp (disch:=omega) only [go_sem,simprocAttr,Blk.men,Blk.keysIn]) (by first | rfl | simp (disch:=omega) only [go_sem,simprocAttr,Blk.men,Blk.keysIn]) ?_; simp (disch:=omega) only [go_sem,simprocAttr,Blk.men,Blk.keysIn])
  repeat' (first|(with_reducible first|apply qA|apply qB|apply qC|apply qD|apply qE|apply qF)|(simp (disch:=omega) only [go_sem, simprocAttr, Blk.men, Blk.keysIn])|exact qM rfl rfl rfl|(refine qG rfl ?_)|(refine qH rfl ?_)|(refine qI rfl ?_ ?_<;>intro hc<;>(try simp only [go_sem] at hc))|(refine qJ ?_ ?_<;>intro hc<;>(try simp only [hc])<;>(try simp only [go_sem] at hc)))
  refine DW.loop (ι := { i : Nat // i ≤ 2 }) (fun i => ⟨36, [(27, dI i.1), (26, dI 2), (25, .c (.sl b 1 [[.sl false 1 (rows eI x)], [.sl false 1 (rows eI y)]])), (6, .own 24)], [(24, .row 1 (rowC (rows eI (cA2 x y i.1))))]⟩) (fun i => 2 - i.1) ⟨0, by omega⟩ ?_ ?_
  ·refine Ent.to ?_ ?_ <;> simp (disch:=omega) only [qR,qS,qTw,qU,get,Nat.reduceEqDiff,↓reduceIte,qV,qW,qX,qY,qZ,and_self,dI,i64_in,and_true,true_and,rA,rB,rC,rD,cA20]
   all_goals exact .refl _
  rintro ⟨i, hi⟩
  dsimp only
  have l1 : (rows eI x).length = x.length := by simp [rows]
  have l2 : (rows eI y).length = y.length := by simp [rows]
  rcases (by omega : i = 0 ∨ i = 1 ∨ i = 2) with rfl | rfl | rfl
  ·repeat' (first|(with_reducible first|apply qA|apply qB|apply qC|apply qD|apply qE|apply qF)|(simp (disch:=omega) only [go_sem, simprocAttr, Blk.men, Blk.keysIn, cA20])|exact qM rfl rfl rfl|(refine qG rfl ?_)|(refine qH rfl ?_)|(refine qI rfl ?_ ?_<;>intro hc<;>(try simp only [go_sem] at hc))|(refine qJ ?_ ?_<;>intro hc<;>(try simp only [hc])<;>(try simp only [go_sem] at hc)))
   refine ⟨⟨1, by omega⟩, ?_, Ent.to ?_ ?_⟩ <;> first | (show _ < _; (try simp only); omega) | (simp (disch:=omega) only [qR,qS,qTw,qU,get,Nat.reduceEqDiff,↓reduceIte,qV,qW,qX,qY,qZ,and_self,dI,i64_in,and_true,true_and,rA,rB,rC,rD, cA20,cA21])
   all_goals exact .refl _
  ·repeat' (first|(with_reducible first|apply qA|apply qB|apply qC|apply qD|apply qE|apply qF)|(simp (disch:=omega) only [go_sem, simprocAttr, Blk.men, Blk.keysIn, cA21])|exact qM rfl rfl rfl|(refine qG rfl ?_)|(refine qH rfl ?_)|(refine qI rfl ?_ ?_<;>intro hc<;>(try simp only [go_sem] at hc))|(refine qJ ?_ ?_<;>intro hc<;>(try simp only [hc])<;>(try simp only [go_sem] at hc)))
   refine ⟨⟨2, by omega⟩, ?_, Ent.to ?_ ?_⟩ <;> first | (show _ < _; (try simp only); omega) | (simp (disch:=omega) only [qR,qS,qTw,qU,get,Nat.reduceEqDiff,↓reduceIte,qV,qW,qX,qY,qZ,and_self,dI,i64_in,and_true,true_and,rA,rB,rC,rD, cA21,cA22])
   all_goals exact .refl _
  ·repeat' (first|(with_reducible first|apply qA|apply qB|apply qC|apply qD|apply qE|apply qF)|(simp (disch:=omega) only [go_sem, simprocAttr, Blk.men, Blk.keysIn, cA22])|exact qM rfl rfl rfl|(refine qG rfl ?_)|(refine qH rfl ?_)|(refine qI rfl ?_ ?_<;>intro hc<;>(try simp only [go_sem] at hc))|(refine qJ ?_ ?_<;>intro hc<;>(try simp only [hc])<;>(try simp only [go_sem] at hc)))
   (refine retS_ent (Ent.rel 24 rfl) ?_; simp (disch:=omega) only [go_sem,simprocAttr,Blk.men,Blk.keysIn])
   refine retS_wk rfl ?_ (by simp only [Blk.nb, rowC_nb, D.nb, D.nbs, C.nb, C.nbs, C.nbss, rows_nb eI_nb, Bool.and_true, Bool.not_false, Bool.and_self, bD, dI, iD]); exact .refl _
def mx2 (x y : Int) : Int := if x < y then y else x
def sM2 (x y : Int) : Nat → Int
 | 1 => x
 | _ => mx2 x y
theorem sM21 (x y : Int) : sM2 x y 1 = x := rfl
theorem sM22 (x y : Int) : sM2 x y 2 = if x < y then y else x := rfl
theorem scMax2 (b : Bool) (x y : Int) : DCall Try.prog 51 [.c (.sl b 1 (rows eI [x, y]))] [] (dI (mx2 x y)) [] := by
 refine DCall.of Try.func51 sf51 hb51 (Nat.le_of_ble_eq_true rfl) (okRes_nil fun _ => rfl) ?_; simp only [s51, idxs, Nat.reduceAdd]
 repeat' (first|(with_reducible first|apply qA|apply qB|apply qC|apply qD|apply qE|apply qF)|(simp (disch:=omega) only [go_sem, simprocAttr, Blk.men, Blk.keysIn])|exact qM rfl rfl rfl|(refine qG rfl ?_)|(refine qH rfl ?_)|(refine qI rfl ?_ ?_<;>intro hc<;>(try simp only [go_sem] at hc))|(refine qJ ?_ ?_<;>intro hc<;>(try simp only [hc])<;>(try simp only [go_sem] at hc)))
 refine DW.loop (ι := { i : Nat // 1 ≤ i ∧ i ≤ 2 }) (fun i => ⟨25, [(4, dI (i.1 : Nat)), (3, dI (sM2 x y i.1)), (0, .c (.sl b 1 (rows eI [x, y])))], []⟩) (fun i => 2 - i.1) ⟨1, by omega⟩ ?_ ?_
 ·refine Ent.to ?_ ?_ <;> simp (disch:=omega) only [qR,qS,qTw,qU,get,Nat.reduceEqDiff,↓reduceIte,qV,qW,qX,qY,qZ,and_self,dI,i64_in,and_true,true_and,rA,rB,rC,rD,sM21]
  all_goals exact .refl _
 rintro ⟨i, hi⟩
 dsimp only
 rcases (by omega : i = 1 ∨ i = 2) with rfl | rfl
 ·repeat' (first|(with_reducible first|apply qA|apply qB|apply qC|apply qD|apply qE|apply qF)|(simp (disch:=omega) only [go_sem, simprocAttr, Blk.men, Blk.keysIn, sM21])|exact qM rfl rfl rfl|(refine qG rfl ?_)|(refine qH rfl ?_)|(refine qI rfl ?_ ?_<;>intro hc<;>(try simp only [go_sem] at hc))|(refine qJ ?_ ?_<;>intro hc<;>(try simp only [hc])<;>(try simp only [go_sem] at hc)))
  refine ⟨⟨2, by omega⟩, ?_, Ent.to ?_ ?_⟩ <;> first | (show _ < _; (try simp only); omega) | (simp (disch:=omega) only [qR,qS,qTw,qU,get,Nat.reduceEqDiff,↓reduceIte,qV,qW,qX,qY,qZ,and_self,dI,i64_in,and_true,true_and,rA,rB,rC,rD, sM21,sM22])
  all_goals exact .refl _
 ·repeat' (first|(with_reducible first|apply qA|apply qB|apply qC|apply qD|apply qE|apply qF)|(simp (disch:=omega) only [go_sem, simprocAttr, Blk.men, Blk.keysIn, sM22])|exact qM rfl rfl rfl|(refine qG rfl ?_)|(refine qH rfl ?_)|(refine qI rfl ?_ ?_<;>intro hc<;>(try simp only [go_sem] at hc))|(refine qJ ?_ ?_<;>intro hc<;>(try simp only [hc])<;>(try simp only [go_sem] at hc)))
end Go.Dw.Seat
end
section
set_option linter.unusedSimpArgs false
set_option maxRecDepth 100000
namespace Go.Dw.Seat
open Go Go.Dw Go.Proofs Go.IntWalk
structure Bla where
 tab : Int
 p0 : Int
 p1 : Int
 p2 : Int
 p3 : Int
 height : Int
 t0 : Int
 t1 : Int
 b0 : Int
 b1 : Int
 slot : Int
structure Bla.ok (z : Bla) : Prop where
 tab : 0 ≤ z.tab ∧ z.tab ≤ 100
 p0 : 1 ≤ z.p0 ∧ z.p0 ≤ 3000
 p1 : 1 ≤ z.p1 ∧ z.p1 ≤ 3000
 p2 : 1 ≤ z.p2 ∧ z.p2 ≤ 3000
 p3 : 1 ≤ z.p3 ∧ z.p3 ≤ 3000
 height : 1 ≤ z.height ∧ z.height ≤ 3000
 t0 : 0 ≤ z.t0 ∧ z.t0 ≤ 3000
 t1 : 0 ≤ z.t1 ∧ z.t1 ≤ 3000
 b0 : 0 ≤ z.b0 ∧ z.b0 ≤ 3000
 b1 : 0 ≤ z.b1 ∧ z.b1 ≤ 3000
 slot : 0 ≤ z.slot ∧ z.slot ≤ 20
abbrev dBla (z : Bla) : D := .agg [dI z.tab, dIs false [z.p0, z.p1, z.p2, z.p3], dI z.height, dIs false [z.t0, z.t1], dIs false [z.b0, z.b1], dI z.slot, bD false]
def acrossI (z : Bla) : Int := z.tab + z.p0 + z.p1 + z.p2 + z.p3
def alongI (z : Bla) : Int := mx2 z.t0 z.t1 + z.height + mx2 z.b0 z.b1
theorem mx2_b {x y a b : Int} (hx : a ≤ x ∧ x ≤ b) (hy : a ≤ y ∧ y ≤ b) : a ≤ mx2 x y ∧ mx2 x y ≤ b := by
 unfold mx2
 split <;> omega
theorem scCheck (z : Bla) (h : z.ok) : DCall Try.prog 50 [dBla z] [] (dI 0) [] := by
 obtain ⟨h1, h2, h3, h4, h5, h6, h7, h8, h9, h10, h11⟩ := h
 have c1 := scIn true 0 100 [z.tab] (by simp) (by simpa using h1)
 have c2 := scLong false 1 [z.p0, z.p1, z.p2, z.p3] (by simp) (by simp; omega)
 have c3 := scLong true 1 [z.height] (by simp) (by simpa using h6)
 have c4 := scConcat true [z.t0, z.t1] [z.b0, z.b1] (by simp) (by simp)
 have c5 := scLong false 0 [z.t0, z.t1, z.b0, z.b1] (by simp) (by simp; omega)
 have c6 := scIn true 0 20 [z.slot] (by simp) (by simpa using h11)
 refine DCall.of Try.func50 sf50 hb50 (Nat.le_of_ble_eq_true rfl) (okRes_nil fun _ => rfl) ?_; simp only [s50, idxs, Nat.reduceAdd]
 repeat' (first|(with_reducible first|apply qA|apply qB|apply qC|apply qD|apply qE|apply qF)|(simp (disch:=omega) only [go_sem, simprocAttr, Blk.men, Blk.keysIn])|exact qM rfl rfl rfl|(refine qG rfl ?_)|(refine qK (c1) (by decide) ?_)|(refine qK (c2) (by decide) ?_)|(refine qK (c3) (by decide) ?_)|(refine qK (c4) (by decide) ?_)|(refine qK (c5) (by decide) ?_)|(refine qK (c6) (by decide) ?_)|(refine qH rfl ?_)|(refine qI rfl ?_ ?_<;>intro hc<;>(try simp only [go_sem] at hc))|(refine qJ ?_ ?_<;>intro hc<;>(try simp only [hc])<;>(try simp only [go_sem] at hc)))
end Go.Dw.Seat
end
section
set_option linter.unusedSimpArgs false
set_option maxRecDepth 100000
namespace Go.Dw.Seat
open Go Go.Dw Go.Proofs Go.IntWalk
theorem ud5 : Try.prog.underlying 5 = some (.int .u8) := by kernel_rfl
abbrev d8 (n : Nat) : D := .c (.v (.int .u8 n))
def eY (v : Nat) : List C := [.v (.int .u8 v)]
attribute [go_sem] ud5 d8 eY
theorem tmodN (m k : Nat) : (m : Int).tmod (k : Int) = ((m % k : Nat) : Int) := by
 rw [Int.tmod_eq_emod_of_nonneg (by omega)]; simp
theorem tdivN (m k : Nat) : (m : Int).tdiv (k : Int) = ((m / k : Nat) : Int) := by
 rw [Int.tdiv_eq_ediv_of_nonneg (by omega)]; simp
end Go.Dw.Seat
end
section
set_option linter.unusedSimpArgs false
set_option maxRecDepth 100000
namespace Go.Dw.Seat
open Go Go.Dw Go.Proofs Go.IntWalk
structure IsRoot (n r : Int) : Prop where
 pos : 0 ≤ r
 low : r * r ≤ n
 high : n < (r + 1) * (r + 1)
theorem sq_mono {a b : Int} (ha : 0 ≤ a) (h : a ≤ b) : a * a ≤ b * b := Int.mul_le_mul h h ha (by omega)
theorem IsRoot.le {n r k : Int} (h : IsRoot n r) (hk : 0 ≤ k) : (n < (k + 1) * (k + 1)) ↔ r ≤ k := by
 constructor
 ·intro h1
  rcases Int.lt_or_le k r with h2 | h2
  ·have := sq_mono (a := k + 1) (b := r) (by omega) (by omega)
   have := h.low
   omega
  ·exact h2
 ·intro h1
  have := sq_mono (a := r + 1) (b := k + 1) (by have := h.pos; omega) (by omega)
  have := h.high
  omega
theorem IsRoot.mono {n n' r r' : Int} (h : IsRoot n r) (h' : IsRoot n' r') (hn : n ≤ n') : r ≤ r' :=
 (h.le h'.pos).1 (by have := h'.high; omega)
theorem IsRoot.lt {n r : Int} (h : IsRoot n r) (hn : n ≤ 200000000) : r ≤ 14142 := by
 rcases Int.lt_or_le 14142 r with h1 | h1
 ·have := sq_mono (a := 14143) (b := r) (by decide) (by omega)
  have := h.low
  omega
 ·exact h1
structure CBox where
 el : Int
 eh : Int
 cl : Int
 ch : Int
 around : Int
 rule : Int
structure CBox.ok (b : CBox) : Prop where
 edge : 0 ≤ b.el ∧ b.el ≤ b.eh ∧ b.eh ≤ 100000
 cal : 1 ≤ b.cl ∧ b.cl ≤ b.ch ∧ b.ch ≤ 10000
 around : 1 ≤ b.around ∧ b.around ≤ 20000
 rule : 1 ≤ b.rule ∧ b.rule ≤ 1000
abbrev dCBox (b : CBox) : D := .agg [dI b.el, dI b.eh, dI b.cl, dI b.ch, dI b.around, dI b.rule]
attribute [go_sem] dCBox
end Go.Dw.Seat
end
section
set_option linter.unusedSimpArgs false
set_option maxRecDepth 100000
namespace Go.Dw.Seat
open Go Go.Dw Go.Proofs Go.IntWalk
theorem bdForm (m : Mak) (s : Sto) (h : m.ok s) : DCall Try.prog 129 [dMak m] [] (bD true) [] := by
 have hf := h.nf
 have hn := h.np
 have h1 := bdIn true 1 2 [(m.flutes.length : Int)] (by simp) (by simp; omega)
 have h2 := bdKinds m.flutes.length (by omega)
 have hl := kindsL_len m.flutes.length
 have hd : ((m.papers.length : Int) == ((kindsL m.flutes.length).length : Int)) = true := by rw [hl, hn]; simp
 refine DCall.of Try.func129 sf129 hb129 (Nat.le_of_ble_eq_true rfl) (okRes_nil fun _ => rfl) ?_; simp only [s129, idxs, Nat.reduceAdd]
 repeat' (first|(with_reducible first|apply qA|apply qB|apply qC|apply qD|apply qE|apply qF)|(refine qL rfl (WF.of ?_) ?_; first|rfl|skip)|(simp (disch:=omega) only [go_sem, simprocAttr, qN, qO, qP, qQ, hd, nL_length])|exact qM rfl rfl rfl|(refine qG rfl ?_)|(refine qK (h1) (by decide) ?_)|(refine qK (h2) (by decide) ?_)|(refine qH rfl ?_)|(refine qI rfl ?_ ?_<;>intro hc<;>(try simp only [go_sem] at hc))|(refine qJ ?_ ?_<;>intro hc<;>(try simp only [hc])<;>(try simp only [go_sem] at hc)))
theorem nL_at {l : List Nat} {i v : Nat} (h : l[i]? = some v) : (nL l)[i]? = some (v : Int) := by rw [nL_get, h]; rfl
theorem bdMade (s : Sto) (m : Mak) (hs : s.ok) (h : m.ok s) : DCall Try.prog 78 [dSto s, dMak m] [] (dI 0) [] := by
 have hf := h.nf
 have hn := h.np
 have hsp := hs.np
 have hsf := hs.nf
 have h1 := bdCheck s hs
 have h2 := bdForm m s h
 have h3 := bdIn false 0 ((s.papers.length : Int) - 1) (nL m.papers) (by rw [nL_length]; omega) (fun v hv => by
  obtain ⟨n, hn, rfl⟩ := List.mem_map.1 hv
  have := h.papers n hn
  omega)
 have h4 := bdIn false 0 ((s.flutes.length : Int) - 1) (nL m.flutes) (by rw [nL_length]; omega) (fun v hv => by
  obtain ⟨n, hn, rfl⟩ := List.mem_map.1 hv
  have := h.flutes n hn
  omega)
 have h5 := bdKinds m.flutes.length (by omega)
 have hl := kindsL_len m.flutes.length
 have hk := kindsL_get m.flutes.length
 have hkl : (kindsL m.flutes.length).length ≤ 5 := by omega
 refine DCall.of Try.func78 sf78 hb78 (Nat.le_of_ble_eq_true rfl) (okRes_nil fun _ => rfl) ?_; simp only [s78, idxs, Nat.reduceAdd]
 repeat' (first|(with_reducible first|apply qA|apply qB|apply qC|apply qD|apply qE|apply qF)|(refine qL rfl (WF.of ?_) ?_; first|rfl|skip)|(simp (disch:=omega) only [go_sem, simprocAttr, qN, qO, qP, qQ, nL_length])|exact qM rfl rfl rfl|(refine qG rfl ?_)|(refine qK (h1) (by decide) ?_)|(refine qK (h2) (by decide) ?_)|(refine qK (h3) (by decide) ?_)|(refine qK (h4) (by decide) ?_)|(refine qK (h5) (by decide) ?_)|(refine qH rfl ?_)|(refine qI rfl ?_ ?_<;>intro hc<;>(try simp only [go_sem] at hc))|(refine qJ ?_ ?_<;>intro hc<;>(try simp only [hc])<;>(try simp only [go_sem] at hc)))
 refine DW.loop (ι := { i : Nat // i ≤ m.papers.length }) (fun i => ⟨57, [(39, dI i.1), (38, dI (kindsL m.flutes.length).length), (37, .c (.sl false 1 (rows eI (kindsL m.flutes.length)))), (3, .box 3 0), (2, .box 2 0)], [(3, .box [.c (.sl false 1 (rows eI (nL m.papers))), .c (.sl false 1 (rows eI (nL m.flutes)))]), (2, .box [.c (.sl false 8 (rows eP s.papers)), .c (.sl false 4 (rows eF s.flutes))])]⟩) (fun i => m.papers.length - i.1) ⟨0, Nat.zero_le _⟩ ?_ ?_
 ·refine Ent.to ?_ ?_ <;> simp (disch:=omega) only [qR,qS,qTw,qU,get,Nat.reduceEqDiff,↓reduceIte,qV,qW,qX,qY,qZ,and_self,dI,i64_in,and_true,true_and,rA,rB,rC,rD]
 rintro ⟨i, hi⟩
 rcases Nat.lt_or_ge i m.papers.length with hlt | hge
 ·have hd : decide ((i : Int) < ((kindsL m.flutes.length).length : Int)) = true := by rw [decide_eq_true_eq]; omega
  have hki := hk i (by omega)
  obtain ⟨v, hv⟩ := getE (l := m.papers) (i := i) hlt
  have hv' := nL_at hv
  have hvs := h.papers v (List.mem_of_getElem? hv)
  obtain ⟨p, hp⟩ := getE (l := s.papers) (i := v) hvs
  have hpk := h.kind i v p hv hp
  have hl1 : (nL m.papers).length = m.papers.length := nL_length _
  rw [← hpk] at hki
  have hne : (p.kind != p.kind) = false := by simp
  generalize kindsL m.flutes.length = k at *
  repeat' (first|(with_reducible first|apply qA|apply qB|apply qC|apply qD|apply qE|apply qF)|(refine qL rfl (WF.of ?_) ?_; first|rfl|skip)|(simp (disch:=omega) only [go_sem, simprocAttr, qN, qO, qP, qQ, hd, hki, hv', hp, hl1, hne, rF, rG])|exact qM rfl rfl rfl|(refine qG rfl ?_)|(refine qH rfl ?_)|(refine qI rfl ?_ ?_<;>intro hc<;>(try simp only [go_sem] at hc))|(refine qJ ?_ ?_<;>intro hc<;>(try simp only [hc])<;>(try simp only [go_sem] at hc)))
  refine ⟨⟨i + 1, hlt⟩, ?_, Ent.to ?_ ?_⟩ <;> first | (show _ < _; (try simp only); omega) | (simp (disch:=omega) only [qR,qS,qTw,qU,get,Nat.reduceEqDiff,↓reduceIte,qV,qW,qX,qY,qZ,and_self,dI,i64_in,and_true,true_and,rA,rB,rC,rD])
 ·have hd : decide ((i : Int) < ((kindsL m.flutes.length).length : Int)) = false := by rw [decide_eq_false_iff_not]; omega
  repeat' (first|(with_reducible first|apply qA|apply qB|apply qC|apply qD|apply qE|apply qF)|(refine qL rfl (WF.of ?_) ?_; first|rfl|skip)|(simp (disch:=omega) only [go_sem, simprocAttr, qN, qO, qP, qQ, hd])|exact qM rfl rfl rfl|(refine qG rfl ?_)|(refine qH rfl ?_)|(refine qI rfl ?_ ?_<;>intro hc<;>(try simp only [go_sem] at hc))|(refine qJ ?_ ?_<;>intro hc<;>(try simp only [hc])<;>(try simp only [go_sem] at hc)))
def papAt (s : Sto) (n : Nat) : Pap := s.papers[n]?.getD ⟨0, 0, 0, 0, 0, 0, 0, 0⟩
def fluAt (s : Sto) (n : Nat) : Flu := s.flutes[n]?.getD ⟨0, 0, 0, 0⟩
theorem papAt_get {s : Sto} {n : Nat} (h : n < s.papers.length) : s.papers[n]? = some (papAt s n) := by
 rw [papAt, List.getElem?_eq_getElem h]; rfl
theorem fluAt_get {s : Sto} {n : Nat} (h : n < s.flutes.length) : s.flutes[n]? = some (fluAt s n) := by
 rw [fluAt, List.getElem?_eq_getElem h]; rfl
theorem papAt_ok {s : Sto} {n : Nat} (hs : s.ok) (h : n < s.papers.length) : (papAt s n).ok := hs.papers _ (List.mem_of_getElem? (papAt_get h))
theorem fluAt_ok {s : Sto} {n : Nat} (hs : s.ok) (h : n < s.flutes.length) : (fluAt s n).ok := hs.flutes _ (List.mem_of_getElem? (fluAt_get h))
def wholeF (s : Sto) (w : Int) (l : List Nat) : Int := l.foldl (fun w n => w * (fluAt s n).pitch) w
theorem wholeF_take (s : Sto) (w : Int) {l : List Nat} {i v : Nat} (h : l[i]? = some v) : wholeF s w (l.take (i + 1)) = wholeF s w (l.take i) * (fluAt s v).pitch := by
 rw [List.take_add_one, h]
 simp only [wholeF, Option.toList_some, List.foldl_append, List.foldl_cons, List.foldl_nil]
theorem wholeF_b (s : Sto) (hs : s.ok) : ∀ (l : List Nat), (∀ n ∈ l, n < s.flutes.length) → l.length ≤ 2 → 1 ≤ wholeF s 1 l ∧ wholeF s 1 l ≤ 100000000
 | [], _, _ => by simp [wholeF]
 | [a], h, _ => by
  have := (fluAt_ok hs (h a (by simp))).pitch
  simp only [wholeF, List.foldl_cons, List.foldl_nil]
  omega
 | [a, b], h, _ => by
  have h1 := (fluAt_ok hs (h a (by simp))).pitch
  have h2 := (fluAt_ok hs (h b (by simp))).pitch
  simp only [wholeF, List.foldl_cons, List.foldl_nil, Int.one_mul]
  have h3 := mulB0 (a := (fluAt s a).pitch) (b := (fluAt s b).pitch) (A := 10000) (B := 10000) (by omega) (by omega)
  have h4 : 1 * 1 ≤ (fluAt s a).pitch * (fluAt s b).pitch := Int.mul_le_mul (by omega) (by omega) (by decide) (by omega)
  omega
 | a :: b :: c :: l, _, h => by simp at h
abbrev dShe (s : Sto) (m : Mak) (w : Int) : D := .agg [.c (.sl false 1 (rows eI (nL m.papers))), .c (.sl false 1 (rows eI (nL m.flutes))), .c (.sl false 8 (rows eP s.papers)), .c (.sl false 4 (rows eF s.flutes)), dI w]
attribute [go_sem] dShe
def wholeI (s : Sto) (m : Mak) : Int := wholeF s 1 m.flutes
theorem bdSheetOf (s : Sto) (m : Mak) (hs : s.ok) (h : m.ok s) : DCall Try.prog 79 [dSto s, dMak m] [] (dShe s m (wholeI s m)) [] := by
 have hf := h.nf
 have hl1 : (nL m.flutes).length = m.flutes.length := nL_length _
 refine DCall.of Try.func79 sf79 hb79 (Nat.le_of_ble_eq_true rfl) (okRes_nil fun _ => rfl) ?_; simp only [s79, idxs, Nat.reduceAdd]
 repeat' (first|(with_reducible first|apply qA|apply qB|apply qC|apply qD|apply qE|apply qF)|(refine qL rfl (WF.of ?_) ?_; first|rfl|skip)|(simp (disch:=omega) only [go_sem, simprocAttr, qN, qO, qP, qQ, hl1])|exact qM rfl rfl rfl|(refine qG rfl ?_)|(refine qH rfl ?_)|(refine qI rfl ?_ ?_<;>intro hc<;>(try simp only [go_sem] at hc))|(refine qJ ?_ ?_<;>intro hc<;>(try simp only [hc])<;>(try simp only [go_sem] at hc)))
 refine DW.loop (ι := { i : Nat // i ≤ m.flutes.length }) (fun i => ⟨30, [(14, dI i.1), (13, dI m.flutes.length), (12, .c (.sl false 1 (rows eI (nL m.flutes)))), (5, .box 5 0), (4, .box 4 0), (2, .box 2 0)], [(5, .box [.c (.sl false 1 (rows eI (nL m.papers))), .c (.sl false 1 (rows eI (nL m.flutes))), .c (.sl false 8 (rows eP s.papers)), .c (.sl false 4 (rows eF s.flutes)), dI (wholeF s 1 (m.flutes.take i.1))]), (4, .box [.c (.v (.slice none 0 0)), .c (.v (.slice none 0 0)), .c (.v (.slice none 0 0)), .c (.v (.slice none 0 0)), dI 0]), (2, .box [.c (.sl false 8 (rows eP s.papers)), .c (.sl false 4 (rows eF s.flutes))])]⟩) (fun i => m.flutes.length - i.1) ⟨0, Nat.zero_le _⟩ ?_ ?_
 ·refine Ent.to ?_ ?_ <;> simp (disch:=omega) only [qR,qS,qTw,qU,get,Nat.reduceEqDiff,↓reduceIte,qV,qW,qX,qY,qZ,and_self,dI,i64_in,and_true,true_and,rA,rB,rC,rD,List.take_zero,wholeF,List.foldl_nil]
 rintro ⟨i, hi⟩
 rcases Nat.lt_or_ge i m.flutes.length with hlt | hge
 ·have hd : decide ((i : Int) < (m.flutes.length : Int)) = true := by rw [decide_eq_true_eq]; omega
  obtain ⟨v, hv⟩ := getE (l := m.flutes) (i := i) hlt
  have hv' := nL_at hv
  have hvs := h.flutes v (List.mem_of_getElem? hv)
  have hp := fluAt_get hvs
  have hnx := wholeF_take s 1 hv
  have hb := wholeF_b s hs (m.flutes.take (i + 1)) (fun n hn => h.flutes n (List.mem_of_mem_take hn)) (by rw [List.length_take]; omega)
  rw [hnx] at hb
  repeat' (first|(with_reducible first|apply qA|apply qB|apply qC|apply qD|apply qE|apply qF)|(refine qL rfl (WF.of ?_) ?_; first|rfl|skip)|(simp (disch:=omega) only [go_sem, simprocAttr, qN, qO, qP, qQ, hd, hv', hp, rF, rG])|exact qM rfl rfl rfl|(refine qG rfl ?_)|(refine qH rfl ?_)|(refine qI rfl ?_ ?_<;>intro hc<;>(try simp only [go_sem] at hc))|(refine qJ ?_ ?_<;>intro hc<;>(try simp only [hc])<;>(try simp only [go_sem] at hc)))
  refine ⟨⟨i + 1, hlt⟩, ?_, Ent.to ?_ ?_⟩ <;> first | (show _ < _; (try simp only); omega) | (simp (disch:=omega) only [qR,qS,qTw,qU,get,Nat.reduceEqDiff,↓reduceIte,qV,qW,qX,qY,qZ,and_self,dI,i64_in,and_true,true_and,rA,rB,rC,rD, hnx])
  all_goals exact .refl _
 ·obtain rfl : i = m.flutes.length := by omega
  have hd : decide ((m.flutes.length : Int) < (m.flutes.length : Int)) = false := by rw [decide_eq_false_iff_not]; omega
  have hw : wholeI s m = wholeF s 1 (m.flutes.take m.flutes.length) := by rw [List.take_length]; rfl
  rw [hw]
  repeat' (first|(with_reducible first|apply qA|apply qB|apply qC|apply qD|apply qE|apply qF)|(refine qL rfl (WF.of ?_) ?_; first|rfl|skip)|(simp (disch:=omega) only [go_sem, simprocAttr, qN, qO, qP, qQ, hd])|exact qM rfl rfl rfl|(refine qG rfl ?_)|(refine qH rfl ?_)|(refine qI rfl ?_ ?_<;>intro hc<;>(try simp only [go_sem] at hc))|(refine qJ ?_ ?_<;>intro hc<;>(try simp only [hc])<;>(try simp only [go_sem] at hc)))
  refine retS_wk rfl ?_ (by simp only [Blk.nb, rowC_nb, D.nb, D.nbs, C.nb, C.nbs, C.nbss, rows_nb eI_nb, Bool.and_true, Bool.not_false, Bool.and_self, bD, dI, iD, rows_nb eP_nb, rows_nb eF_nb]); exact .refl _
theorem bdNew (s : Sto) (m : Mak) (hs : s.ok) (h : m.ok s) : DCall Try.prog 38 [dSto s, dMak m] [] (.tup [dShe s m (wholeI s m), dI 0]) [] := by
 have h1 := bdMade s m hs h
 have h2 := bdSheetOf s m hs h
 refine DCall.of Try.func38 sf38 hb38 (Nat.le_of_ble_eq_true rfl) (okRes_nil fun _ => rfl) ?_; simp only [s38, idxs, Nat.reduceAdd]
 repeat' (first|(with_reducible first|apply qA|apply qB|apply qC|apply qD|apply qE|apply qF)|(simp (disch:=omega) only [go_sem, simprocAttr, qN, qO, qP, qQ])|exact qM rfl rfl rfl|(refine qG rfl ?_)|(refine qK (h1) (by decide) ?_)|(refine qK (h2) (by decide) ?_)|(refine qH rfl ?_)|(refine qI rfl ?_ ?_<;>intro hc<;>(try simp only [go_sem] at hc))|(refine qJ ?_ ?_<;>intro hc<;>(try simp only [hc])<;>(try simp only [go_sem] at hc)))
 refine retS_wk rfl ?_ (by simp only [Blk.nb, rowC_nb, D.nb, D.nbs, C.nb, C.nbs, C.nbss, rows_nb eI_nb, Bool.and_true, Bool.not_false, Bool.and_self, bD, dI, iD, rows_nb eP_nb, rows_nb eF_nb]); exact .tup (.cons (.refl _) (.cons (.refl _) .nil))
theorem drop_at {α : Type} {l : List α} {i : Nat} {v : α} (h : l[i]? = some v) : l.drop i = v :: l.drop (i + 1) := by
 obtain ⟨hi, rfl⟩ := List.getElem?_eq_some_iff.1 h
 exact List.drop_eq_getElem_cons hi
def partsAt (s : Sto) (m : Mak) (i : Nat) : Int := if i % 2 = 1 then (wholeI s m).tdiv (fluAt s (m.flutes[i / 2]?.getD 0)).pitch * (fluAt s (m.flutes[i / 2]?.getD 0)).draw else wholeI s m
def layersL (s : Sto) (m : Mak) : List (Nat × Int) := m.papers.zipIdx.map fun e => (e.1, partsAt s m e.2)
theorem layersL_get {s : Sto} {m : Mak} {i v : Nat} (h : m.papers[i]? = some v) : (layersL s m)[i]? = some (v, partsAt s m i) := by
 simp [layersL, h]
theorem layersL_len (s : Sto) (m : Mak) : (layersL s m).length = m.papers.length := by simp [layersL]
def enLay (e : Nat × Int) : List D := [dI e.1, dI e.2]
def okLay (s : Sto) (e : Nat × Int) : Prop := e.1 < s.papers.length ∧ 0 ≤ e.2 ∧ e.2 ≤ 200000000
theorem flute_at {s : Sto} {m : Mak} (h : m.ok s) {i : Nat} (hi : i < m.papers.length) (ho : i % 2 = 1) : m.flutes[i / 2]? = some (m.flutes[i / 2]?.getD 0) ∧ (m.flutes[i / 2]?.getD 0) < s.flutes.length := by
 have h1 := h.np
 obtain ⟨v, hv⟩ := getE (l := m.flutes) (i := i / 2) (by omega)
 rw [hv]
 exact ⟨rfl, h.flutes v (List.mem_of_getElem? hv)⟩
theorem wholeI_b {s : Sto} {m : Mak} (hs : s.ok) (h : m.ok s) : 1 ≤ wholeI s m ∧ wholeI s m ≤ 100000000 := wholeF_b s hs m.flutes h.flutes h.nf.2
theorem partsAt_b {s : Sto} {m : Mak} (hs : s.ok) (h : m.ok s) {i : Nat} (hi : i < m.papers.length) : 0 ≤ partsAt s m i ∧ partsAt s m i ≤ 200000000 := by
 have hw := wholeI_b hs h
 unfold partsAt
 split
 ·rename_i ho
  have hf := fluAt_ok hs (flute_at h hi ho).2
  have h1 := hf.pitch
  have h2 := hf.draw
  generalize fluAt s (m.flutes[i / 2]?.getD 0) = f at *
  generalize wholeI s m = w at *
  rw [Int.tdiv_eq_ediv_of_nonneg (by omega)]
  have q0 : 0 ≤ w / f.pitch := Int.ediv_nonneg (by omega) (by omega)
  have q1 : w / f.pitch * f.pitch ≤ w := Int.ediv_mul_le w (by omega)
  have q2 : w / f.pitch * f.draw ≤ w / f.pitch * (2 * f.pitch) := Int.mul_le_mul_of_nonneg_left h2.2 q0
  have q3 : 0 ≤ w / f.pitch * f.draw := Int.mul_nonneg q0 (by omega)
  have q4 : w / f.pitch * (2 * f.pitch) = 2 * (w / f.pitch * f.pitch) := by rw [Int.mul_left_comm]
  omega
 ·omega
attribute [go_sem] enLay
theorem bdLayers (s : Sto) (m : Mak) (hs : s.ok) (h : m.ok s) : ItD Try.prog 72 [dShe s m (wholeI s m)] [] enLay (okLay s) (layersL s m) := by
 intro ly β H stp live hW hY b0 hl0
 have hH : ∀ b, HidOk (H b) := fun b => (hW b).toHidOk
 have hw := wholeI_b hs h
 refine DCall.of Try.func72 sf72 hb72 (Nat.le_of_ble_eq_true rfl) (hH _).res ?_
 simp only [s72, idxs, Nat.reduceAdd, List.map_nil, List.map_cons, List.nil_append, List.cons_append]
 have f1 := hid_get (hH b0)
 have f2 := hid_ins (hH b0)
 have f3 := (hH b0).men
 have f4 := (hH b0).lo
 have f5 : ∀ k x, k < 1000 → ins k x (H b0) = H b0 ++ [(k, x)] := fun k x hk => by have := f2 k hk x []; rwa [List.append_nil] at this
 have hl1 : (nL m.papers).length = m.papers.length := nL_length _
 have hn5 : m.papers.length ≤ 5 := by have := h.np; have := h.nf; omega
 repeat' (first|(with_reducible first|apply qA|apply qB|apply qC|apply qD|apply qE|apply qF)|(refine qL rfl (WF.of ?_) ?_; first|rfl|skip)|(simp (disch:=omega) only [go_sem, simprocAttr, qN, qO, qP, qQ, f1, f2, f3, f4, f5, ins, hl1])|exact qM rfl rfl rfl|(refine qG rfl ?_)|(refine qH rfl ?_)|(refine qI rfl ?_ ?_<;>intro hc<;>(try simp only [go_sem] at hc))|(refine qJ ?_ ?_<;>intro hc<;>(try simp only [hc])<;>(try simp only [go_sem] at hc)))
 refine DW.ent (Ent.comm (hH b0) rfl).1 ?_
 refine DW.loop (ι := { y : Nat × β // y.1 ≤ m.papers.length ∧ live y.2 ∧ runB stp b0 (layersL s m) = runB stp y.2 ((layersL s m).drop y.1) })
  (fun y => ⟨47, [(12, dI y.1.1), (11, dI m.papers.length), (10, .c (.sl false 1 (rows eI (nL m.papers)))), (2, .box 2 0), (1, .c (.fn (.yield ly) [] []))], [(2, .box [.c (.sl false 1 (rows eI (nL m.papers))), .c (.sl false 1 (rows eI (nL m.flutes))), .c (.sl false 8 (rows eP s.papers)), .c (.sl false 4 (rows eF s.flutes)), dI (wholeI s m)])] ++ H y.1.2⟩) (fun y => m.papers.length - y.1.1) ⟨(0, b0), Nat.zero_le _, hl0, rfl⟩ ?_ ?_
 ·refine Ent.toH (o := [_]) (o' := [_]) (hH _) ?_ ?_ ?_
  ·rfl
  ·simp (disch:=omega) only [qR,qS,qTw,qU,get,Nat.reduceEqDiff,↓reduceIte,qV,qW,qX,qY,qZ,and_self,dI,i64_in,and_true,true_and,rA,rB,rC,rD]
  ·simp (disch:=omega) only [qR,qS,qTw,qU,get,Nat.reduceEqDiff,↓reduceIte,qV,qW,qX,qY,qZ,and_self,dI,i64_in,and_true,true_and,rA,rB,rC,rD]
 clear f1 f2 f3 f4 f5
 rintro ⟨⟨i, b⟩, hi, hlv, hrun⟩
 dsimp only at hi hlv hrun ⊢
 have g3 := (hH b).men
 have g4 := (hH b).lo
 have g5 := (hW b).app1
 have g6 := (hW b).app2
 rcases Nat.lt_or_ge i m.papers.length with hlt | hge
 ·have hd : decide ((i : Int) < (m.papers.length : Int)) = true := by rw [decide_eq_true_eq]; omega
  obtain ⟨v, hv⟩ := getE (l := m.papers) (i := i) hlt
  have hv' := nL_at hv
  have hvs := h.papers v (List.mem_of_getElem? hv)
  have hpb := partsAt_b hs h hlt
  rw [drop_at (layersL_get hv)] at hrun
  obtain ⟨hyc, hlv4⟩ := hY b (v, partsAt s m i) hlv ⟨hvs, hpb⟩
  simp only [runB] at hrun
  have hrem : (i : Int).tmod 2 = ((i % 2 : Nat) : Int) := by rw [Int.tmod_eq_emod_of_nonneg (by omega)]; omega
  have hquo : (i : Int).tdiv 2 = ((i / 2 : Nat) : Int) := by rw [Int.tdiv_eq_ediv_of_nonneg (by omega)]; omega
  rcases (by omega : i % 2 = 0 ∨ i % 2 = 1) with ho | ho
  ·have hpe : partsAt s m i = wholeI s m := by rw [partsAt, if_neg (by omega)]
   rw [hpe] at hyc hrun hlv4
   rw [ho] at hrem
   repeat' (first|(with_reducible first|apply qA|apply qB|apply qC|apply qD|apply qE|apply qF)|(refine qL rfl (WF.of ?_) ?_; first|rfl|skip)|(simp (disch:=omega) only [go_sem, simprocAttr, qN, qO, qP, qQ, hd, hv', hrem, g3, g4])|exact qM rfl rfl rfl|(refine qG rfl ?_)|(refine qH rfl ?_)|(refine qI rfl ?_ ?_<;>intro hc<;>(try simp only [go_sem] at hc))|(refine qJ ?_ ?_<;>intro hc<;>(try simp only [hc])<;>(try simp only [go_sem] at hc)))
   refine call_y (own := [_]) hyc rfl rfl rfl (hH _) (hH _) (by decide) ?_
   cases hs : (stp b (v, wholeI s m)).1 with
   | true =>
    rw [hs] at hrun hlv4
    simp (disch:=omega) only [go_sem,simprocAttr,qN,qO,qP,qQ]
    repeat' (first|(with_reducible first|apply qA|apply qB|apply qC|apply qD|apply qE|apply qF)|(refine qL rfl (WF.of ?_) ?_; first|rfl|skip)|(simp (disch:=omega) only [go_sem, simprocAttr, qN, qO, qP, qQ])|exact qM rfl rfl rfl|(refine qG rfl ?_)|(refine qH rfl ?_)|(refine qI rfl ?_ ?_<;>intro hc<;>(try simp only [go_sem] at hc))|(refine qJ ?_ ?_<;>intro hc<;>(try simp only [hc])<;>(try simp only [go_sem] at hc)))
    refine ⟨⟨(i + 1, (stp b (v, wholeI s m)).2), hlt, hlv4 rfl, hrun⟩, by (show _ < _; (try simp only); omega), Ent.toH (o := [_]) (o' := [_]) (hH _) ?_ ?_ ?_⟩
    ·rfl
    ·simp (disch:=omega) only [qR,qS,qTw,qU,get,Nat.reduceEqDiff,↓reduceIte,qV,qW,qX,qY,qZ,and_self,dI,i64_in,and_true,true_and,rA,rB,rC,rD]
    ·simp (disch:=omega) only [qR,qS,qTw,qU,get,Nat.reduceEqDiff,↓reduceIte,qV,qW,qX,qY,qZ,and_self,dI,i64_in,and_true,true_and,rA,rB,rC,rD]
   | false =>
    rw [hs] at hrun
    simp (disch:=omega) only [go_sem,simprocAttr,qN,qO,qP,qQ]
    repeat' (first|(with_reducible first|apply qA|apply qB|apply qC|apply qD|apply qE|apply qF)|(refine qL rfl (WF.of ?_) ?_; first|rfl|skip)|(simp (disch:=omega) only [go_sem, simprocAttr, qN, qO, qP, qQ])|exact qM rfl rfl rfl|(refine qG rfl ?_)|(refine qH rfl ?_)|(refine qI rfl ?_ ?_<;>intro hc<;>(try simp only [go_sem] at hc))|(refine qJ ?_ ?_<;>intro hc<;>(try simp only [hc])<;>(try simp only [go_sem] at hc)))
    rw [hrun]
    exact retS_hid (own := [_]) (.inl rfl) (hH _) rfl
  ·obtain ⟨hfv, hfs⟩ := flute_at h hlt ho
   have hpe : partsAt s m i = (wholeI s m).tdiv (fluAt s (m.flutes[i / 2]?.getD 0)).pitch * (fluAt s (m.flutes[i / 2]?.getD 0)).draw := by rw [partsAt, if_pos ho]
   rw [hpe] at hyc hrun hlv4 hpb
   rw [ho] at hrem
   generalize m.flutes[i / 2]?.getD 0 = z at *
   have hzv := nL_at hfv
   have hzf := fluAt_get hfs
   have hfo := fluAt_ok hs hfs
   have h1 := hfo.pitch
   have h2 := hfo.draw
   generalize fluAt s z = f at *
   have h0 : (f.pitch = 0) = False := eq_false (by omega)
   have hq : 0 ≤ (wholeI s m).tdiv f.pitch ∧ (wholeI s m).tdiv f.pitch ≤ 100000000 := by
    rw [Int.tdiv_eq_ediv_of_nonneg (by omega)]
    exact ⟨Int.ediv_nonneg (by omega) (by omega), Int.le_trans (Int.ediv_le_self _ (by omega)) hw.2⟩
   have hl2 : (nL m.flutes).length = m.flutes.length := nL_length _
   repeat' (first|(with_reducible first|apply qA|apply qB|apply qC|apply qD|apply qE|apply qF)|(refine qL rfl (WF.of ?_) ?_; first|rfl|skip)|(simp (disch:=omega) only [go_sem, simprocAttr, qN, qO, qP, qQ, hd, hv', hrem, hquo, hzv, hzf, h0, g3, g4, g5, g6, hl2, rF, rG])|exact qM rfl rfl rfl|(refine qG rfl ?_)|(refine qH rfl ?_)|(refine qI rfl ?_ ?_<;>intro hc<;>(try simp only [go_sem] at hc))|(refine qJ ?_ ?_<;>intro hc<;>(try simp only [hc])<;>(try simp only [go_sem] at hc)))
   refine call_y (own := [_, _]) hyc rfl rfl rfl (hH _) (hH _) (by decide) ?_
   cases hs : (stp b (v, (wholeI s m).tdiv f.pitch * f.draw)).1 with
   | true =>
    rw [hs] at hrun hlv4
    simp (disch:=omega) only [go_sem,simprocAttr,qN,qO,qP,qQ]
    repeat' (first|(with_reducible first|apply qA|apply qB|apply qC|apply qD|apply qE|apply qF)|(refine qL rfl (WF.of ?_) ?_; first|rfl|skip)|(simp (disch:=omega) only [go_sem, simprocAttr, qN, qO, qP, qQ])|exact qM rfl rfl rfl|(refine qG rfl ?_)|(refine qH rfl ?_)|(refine qI rfl ?_ ?_<;>intro hc<;>(try simp only [go_sem] at hc))|(refine qJ ?_ ?_<;>intro hc<;>(try simp only [hc])<;>(try simp only [go_sem] at hc)))
    refine ⟨⟨(i + 1, (stp b (v, (wholeI s m).tdiv f.pitch * f.draw)).2), hlt, hlv4 rfl, hrun⟩, by (show _ < _; (try simp only); omega), Ent.toH (o := [_, _]) (o' := [_]) (hH _) ?_ ?_ ?_⟩
    ·rfl
    ·simp (disch:=omega) only [qR,qS,qTw,qU,get,Nat.reduceEqDiff,↓reduceIte,qV,qW,qX,qY,qZ,and_self,dI,i64_in,and_true,true_and,rA,rB,rC,rD]
    ·simp (disch:=omega) only [qR,qS,qTw,qU,get,Nat.reduceEqDiff,↓reduceIte,qV,qW,qX,qY,qZ,and_self,dI,i64_in,and_true,true_and,rA,rB,rC,rD]
   | false =>
    rw [hs] at hrun
    simp (disch:=omega) only [go_sem,simprocAttr,qN,qO,qP,qQ]
    repeat' (first|(with_reducible first|apply qA|apply qB|apply qC|apply qD|apply qE|apply qF)|(refine qL rfl (WF.of ?_) ?_; first|rfl|skip)|(simp (disch:=omega) only [go_sem, simprocAttr, qN, qO, qP, qQ])|exact qM rfl rfl rfl|(refine qG rfl ?_)|(refine qH rfl ?_)|(refine qI rfl ?_ ?_<;>intro hc<;>(try simp only [go_sem] at hc))|(refine qJ ?_ ?_<;>intro hc<;>(try simp only [hc])<;>(try simp only [go_sem] at hc)))
    rw [hrun]
    exact retS_hid (own := [_, _]) (.inl rfl) (hH _) rfl
 ·obtain rfl : i = m.papers.length := by omega
  have hd : decide ((m.papers.length : Int) < (m.papers.length : Int)) = false := by rw [decide_eq_false_iff_not]; omega
  rw [List.drop_of_length_le (by rw [layersL_len]; omega)] at hrun
  simp only [runB] at hrun
  repeat' (first|(with_reducible first|apply qA|apply qB|apply qC|apply qD|apply qE|apply qF)|(refine qL rfl (WF.of ?_) ?_; first|rfl|skip)|(simp (disch:=omega) only [go_sem, simprocAttr, qN, qO, qP, qQ, hd])|exact qM rfl rfl rfl|(refine qG rfl ?_)|(refine qH rfl ?_)|(refine qI rfl ?_ ?_<;>intro hc<;>(try simp only [go_sem] at hc))|(refine qJ ?_ ?_<;>intro hc<;>(try simp only [hc])<;>(try simp only [go_sem] at hc)))
  rw [hrun]
  exact retS_hid (own := [_]) (.inr rfl) (hH _) rfl
end Go.Dw.Seat
end
section
set_option linter.unusedSimpArgs false
set_option maxRecDepth 100000
namespace Go.Dw.Seat
open Go Go.Dw Go.Proofs Go.IntWalk
def sumS (f : Pap → Int) (s : Sto) (n : Int) (e : Nat × Int) : Option Exit × Int := (none, IntKind.i64.wrap (n + f (papAt s e.1) * e.2))
def sumF (f : Pap → Int) (s : Sto) (n : Int) (l : List (Nat × Int)) : Int := l.foldl (fun n e => n + f (papAt s e.1) * e.2) n
def sumI (f : Pap → Int) (s : Sto) (m : Mak) : Int := sumF f s 0 (layersL s m)
theorem sumS_run (f : Pap → Int) (s : Sto) (hf : ∀ p ∈ s.papers, 0 ≤ f p ∧ f p ≤ 1000000000) : ∀ (l : List (Nat × Int)) (n : Int), (∀ e ∈ l, okLay s e) → 0 ≤ n → n + 200000000000000000 * (l.length : Int) ≤ 9000000000000000000 →
  runIt (sumS f s) n l = (none, sumF f s n l) ∧ n ≤ sumF f s n l ∧ sumF f s n l ≤ n + 200000000000000000 * (l.length : Int)
 | [], n, _, _, _ => ⟨rfl, Int.le_refl _, by simp [sumF]⟩
 | e :: l, n, ho, h0, hn => by
  have he := ho e (by simp)
  have hfe := hf _ (List.mem_of_getElem? (papAt_get he.1))
  have hm := mulB0 (a := f (papAt s e.1)) (b := e.2) (A := 1000000000) (B := 200000000) hfe he.2
  rw [List.length_cons, Int.natCast_add, Int.natCast_one, Int.mul_add] at hn
  have hw : IntKind.i64.wrap (n + f (papAt s e.1) * e.2) = n + f (papAt s e.1) * e.2 := i64_in _ (by omega)
  have ih := sumS_run f s hf l (n + f (papAt s e.1) * e.2) (fun x hx => ho x (by simp [hx])) (by omega) (by omega)
  have hs : sumF f s n (e :: l) = sumF f s (n + f (papAt s e.1) * e.2) l := rfl
  rw [hs]
  simp only [runIt, sumS, hw]
  refine ⟨ih.1, by omega, ?_⟩
  rw [List.length_cons, Int.natCast_add, Int.natCast_one, Int.mul_add]
  omega
theorem layers_ok {s : Sto} {m : Mak} (hs : s.ok) (h : m.ok s) : ∀ e ∈ layersL s m, okLay s e := by
 intro e he
 obtain ⟨i, hi⟩ := List.getElem?_of_mem he
 have hlt : i < m.papers.length := by
  rcases Nat.lt_or_ge i m.papers.length with h | h
  ·exact h
  ·rw [List.getElem?_eq_none (by rw [layersL_len]; exact h)] at hi; cases hi
 obtain ⟨v, hv⟩ := getE (l := m.papers) (i := i) hlt
 rw [layersL_get hv] at hi
 cases hi
 exact ⟨h.papers v (List.mem_of_getElem? hv), partsAt_b hs h hlt⟩
theorem sumI_b {s : Sto} {m : Mak} (hs : s.ok) (h : m.ok s) (f : Pap → Int) (hf : ∀ p ∈ s.papers, 0 ≤ f p ∧ f p ≤ 1000000000) : runIt (sumS f s) 0 (layersL s m) = (none, sumI f s m) ∧ 0 ≤ sumI f s m ∧ sumI f s m ≤ 1000000000000000000 := by
 have hn : (layersL s m).length ≤ 5 := by rw [layersL_len]; have := h.np; have := h.nf; omega
 have := sumS_run f s hf (layersL s m) 0 (layers_ok hs h) (Int.le_refl _) (by omega)
 exact ⟨this.1, this.2.1, by have := this.2.2; unfold sumI; omega⟩
theorem closeDs_mapc {σ : St} {mv : Option Nat} {caps : List C} : closeDs σ mv (caps.map D.c) = some (caps.map D.c) := by
 have := @closeDs_fn _ σ mv [] caps []
 simpa [closeDs] using this
theorem bdSum (s : Sto) (m : Mak) (hs : s.ok) (h : m.ok s) (g : FuncId) (caps : List C) (hcn : C.nbs caps = true) (f : Pap → Int) (hf : ∀ p ∈ s.papers, 0 ≤ f p ∧ f p ≤ 1000000000)
  (hp : ∀ p ∈ s.papers, DCall Try.prog g (.agg ((eP p).map D.c) :: caps.map D.c) [] (dI (f p)) []) : DCall Try.prog 122 [dShe s m (wholeI s m), .c (.fn (.func g) [] caps)] [] (dI (sumI f s m)) [] := by
 have hit := bdLayers s m hs h
 have hsum := sumI_b hs h f hf
 have hnp := hs.np
 refine DCall.of Try.func122 sf122 hb122 (Nat.le_of_ble_eq_true rfl) (okRes_nil fun _ => rfl) ?_; simp only [s122, idxs, Nat.reduceAdd]
 repeat' (first|(with_reducible first|apply qA|apply qB|apply qC|apply qD|apply qE|apply qF)|(refine qL rfl (WF.of ?_) ?_; first|rfl|skip)|(simp (disch:=omega) only [go_sem, simprocAttr, Blk.men, Blk.keysIn])|exact qM rfl rfl rfl|(refine qG rfl ?_)|(refine qH rfl ?_)|(refine qI rfl ?_ ?_<;>intro hc<;>(try simp only [go_sem] at hc))|(refine qJ ?_ ?_<;>intro hc<;>(try simp only [hc])<;>(try simp only [go_sem] at hc)))
 refine DW.ent (σ' := ⟨24, [(8, .fn (.func 72) [dShe s m (wholeI s m)] []), (4, .box 4 0), (3, .box 3 0), (2, .box 2 0)], [(4, .box [dI 0]), (3, .box [.c (.fn (.func g) [] caps)]), (2, .box [.c (.sl false 1 (rows eI (nL m.papers))), .c (.sl false 1 (rows eI (nL m.flutes))), .c (.sl false 8 (rows eP s.papers)), .c (.sl false 4 (rows eF s.flutes)), dI (wholeI s m)])]⟩) (Ent.to ?_ ?_) ?_
 ·simp (disch:=omega) only [qR,qS,qTw,qU,get,Nat.reduceEqDiff,↓reduceIte,qV,qW,qX,qY,qZ,and_self,dI,i64_in,and_true,true_and,rA,rB,rC,rD]
 ·simp (disch:=omega) only [qR,qS,qTw,qU,get,Nat.reduceEqDiff,↓reduceIte,qV,qW,qX,qY,qZ,and_self,dI,i64_in,and_true,true_and,rA,rB,rC,rD]
 refine DW.rngBD (fun n : Int => [(4, .box [dI n]), (3, .box [.c (.fn (.func g) [] caps)]), (2, .box [.c (.sl false 1 (rows eI (nL m.papers))), .c (.sl false 1 (rows eI (nL m.flutes))), .c (.sl false 8 (rows eP s.papers)), .c (.sl false 4 (rows eF s.flutes)), dI (wholeI s m)])]) 0 (sumS f s) enLay (okLay s) (layersL s m) hit (fun _ => True) trivial (fun _ _ _ _ _ => trivial) rfl (fun _ => ⟨rfl, rfl⟩) rfl (by decide) (fun _ _ => rfl) (fun _ _ _ => rfl) (by simp only [List.map_cons, List.map_nil]; decide) (fun _ => rfl) (fun _ => rfl) (fun _ => (by simp only [List.all_cons, List.all_nil, Blk.nb, rowC_nb, D.nb, D.nbs, C.nb, C.nbs, C.nbss, rows_nb eI_nb, Bool.and_true, Bool.not_false, Bool.and_self, bD, dI, iD, rows_nb eP_nb, rows_nb eF_nb, hcn])) (by simp only [List.all_cons, List.all_nil, Blk.nb, rowC_nb, D.nb, D.nbs, C.nb, C.nbs, C.nbss, rows_nb eI_nb, Bool.and_true, Bool.not_false, Bool.and_self, bD, dI, iD, rows_nb eP_nb, rows_nb eF_nb]) (fun _ _ => rfl) ?_ ?_
 ·rintro n - ⟨k, parts⟩ he v
  have hk : k < s.papers.length := he.1
  have hpb : 0 ≤ parts ∧ parts ≤ 200000000 := he.2
  have hpk := papAt_get hk
  have hcall := hp _ (List.mem_of_getElem? hpk)
  have hfe := hf _ (List.mem_of_getElem? hpk)
  have hm := mulB0 (a := f (papAt s k)) (b := parts) (A := 1000000000) (B := 200000000) hfe hpb
  have hS : sumS f s n (k, parts) = (none, IntKind.i64.wrap (n + f (papAt s k) * parts)) := rfl
  rw [hS]
  generalize papAt s k = p at *
  simp (disch:=omega) only [go_sem,simprocAttr,Blk.men,Blk.keysIn]
  repeat' (first|(with_reducible first|apply qA|apply qB|apply qC|apply qD|apply qE|apply qF)|(refine qL rfl (WF.of ?_) ?_; first|rfl|skip)|(simp (disch:=omega) only [go_sem, simprocAttr, Blk.men, Blk.keysIn, hpk, closeDs_mapc, rF, rG])|exact qM rfl rfl rfl|(refine qG rfl ?_)|(refine qH rfl ?_)|(refine qI rfl ?_ ?_<;>intro hc<;>(try simp only [go_sem] at hc))|(refine qJ ?_ ?_<;>intro hc<;>(try simp only [hc])<;>(try simp only [go_sem] at hc)))
  refine call_c hcall (by decide) ?_
  simp (disch:=omega) only [go_sem,simprocAttr,Blk.men,Blk.keysIn]
  repeat' (first|(with_reducible first|apply qA|apply qB|apply qC|apply qD|apply qE|apply qF)|(refine qL rfl (WF.of ?_) ?_; first|rfl|skip)|(simp (disch:=omega) only [go_sem, simprocAttr, Blk.men, Blk.keysIn])|exact qM rfl rfl rfl|(refine qG rfl ?_)|(refine qH rfl ?_)|(refine qI rfl ?_ ?_<;>intro hc<;>(try simp only [go_sem] at hc))|(refine qJ ?_ ?_<;>intro hc<;>(try simp only [hc])<;>(try simp only [go_sem] at hc)))
  refine round_end rfl rfl (Ent.to ?_ ?_) <;> simp (disch:=omega) only [qR,qS,qTw,qU,get,Nat.reduceEqDiff,↓reduceIte,qV,qW,qX,qY,qZ,and_self,dI,i64_in,and_true,true_and,rA,rB,rC,rD,capB,List.cons_append,List.nil_append]
 ·rw [hsum.1]
  simp (disch:=omega) only [go_sem,simprocAttr,Blk.men,Blk.keysIn,Option.getD_none]
  repeat' (first|(with_reducible first|apply qA|apply qB|apply qC|apply qD|apply qE|apply qF)|(refine qL rfl (WF.of ?_) ?_; first|rfl|skip)|(simp (disch:=omega) only [go_sem, simprocAttr, Blk.men, Blk.keysIn])|exact qM rfl rfl rfl|(refine qG rfl ?_)|(refine qH rfl ?_)|(refine qI rfl ?_ ?_<;>intro hc<;>(try simp only [go_sem] at hc))|(refine qJ ?_ ?_<;>intro hc<;>(try simp only [hc])<;>(try simp only [go_sem] at hc)))
theorem bdWeight (p : Pap) : DCall Try.prog 123 [.agg ((eP p).map D.c)] [] (dI p.weight) [] := by
 refine DCall.of Try.func123 sf123 hb123 (Nat.le_of_ble_eq_true rfl) (okRes_nil fun _ => rfl) ?_; simp only [s123, idxs, Nat.reduceAdd]
 repeat' (first|(with_reducible first|apply qA|apply qB|apply qC|apply qD|apply qE|apply qF)|(simp (disch:=omega) only [go_sem, simprocAttr, Blk.men, Blk.keysIn, rF, rG])|exact qM rfl rfl rfl|(refine qG rfl ?_)|(refine qH rfl ?_)|(refine qI rfl ?_ ?_<;>intro hc<;>(try simp only [go_sem] at hc))|(refine qJ ?_ ?_<;>intro hc<;>(try simp only [hc])<;>(try simp only [go_sem] at hc)))
theorem bdLow (lo hi : Int) : DCall Try.prog 80 [.agg [dI lo, dI hi]] [] (dI lo) [] := by
 refine DCall.of Try.func80 sf80 hb80 (Nat.le_of_ble_eq_true rfl) (okRes_nil fun _ => rfl) ?_; simp only [s80, idxs, Nat.reduceAdd]
 repeat' (first|(with_reducible first|apply qA|apply qB|apply qC|apply qD|apply qE|apply qF)|(simp (disch:=omega) only [go_sem, simprocAttr, Blk.men, Blk.keysIn])|exact qM rfl rfl rfl|(refine qG rfl ?_)|(refine qH rfl ?_)|(refine qI rfl ?_ ?_<;>intro hc<;>(try simp only [go_sem] at hc))|(refine qJ ?_ ?_<;>intro hc<;>(try simp only [hc])<;>(try simp only [go_sem] at hc)))
theorem bdHigh (lo hi : Int) : DCall Try.prog 81 [.agg [dI lo, dI hi]] [] (dI hi) [] := by
 refine DCall.of Try.func81 sf81 hb81 (Nat.le_of_ble_eq_true rfl) (okRes_nil fun _ => rfl) ?_; simp only [s81, idxs, Nat.reduceAdd]
 repeat' (first|(with_reducible first|apply qA|apply qB|apply qC|apply qD|apply qE|apply qF)|(simp (disch:=omega) only [go_sem, simprocAttr, Blk.men, Blk.keysIn])|exact qM rfl rfl rfl|(refine qG rfl ?_)|(refine qH rfl ?_)|(refine qI rfl ?_ ?_<;>intro hc<;>(try simp only [go_sem] at hc))|(refine qJ ?_ ?_<;>intro hc<;>(try simp only [hc])<;>(try simp only [go_sem] at hc)))
structure EndOk (g : FuncId) (ef : Int → Int → Int) : Prop where
 call : ∀ lo hi, DCall Try.prog g [.agg [dI lo, dI hi]] [] (dI (ef lo hi)) []
 mem : ∀ lo hi, lo ≤ hi → lo ≤ ef lo hi ∧ ef lo hi ≤ hi
def moistF (ef : Int → Int → Int) (p : Pap) : Int := p.weight * (1000 + ef p.ml p.mh)
theorem moistF_b {g : FuncId} {ef : Int → Int → Int} (he : EndOk g ef) {p : Pap} (hp : p.ok) : 0 ≤ moistF ef p ∧ moistF ef p ≤ 1000000000 := by
 have h1 := hp.weight
 have h2 := hp.moist
 have h3 := he.mem p.ml p.mh h2.2.1
 have := mulB0 (a := p.weight) (b := 1000 + ef p.ml p.mh) (A := 1000) (B := 1200) (by omega) (by omega)
 unfold moistF
 omega
theorem bdMoist1 (b : Bool) {g : FuncId} {ef : Int → Int → Int} (he : EndOk g ef) (p : Pap) (hp : p.ok) : DCall Try.prog 131 [.agg ((eP p).map D.c), .c (.ro b [.fn (.func g) [] []] 0)] [] (dI (moistF ef p)) [] := by
 have h1 := hp.weight
 have h2 := hp.moist
 have h3 := he.mem p.ml p.mh h2.2.1
 have hm := mulB0 (a := p.weight) (b := 1000 + ef p.ml p.mh) (A := 1000) (B := 1200) (by omega) (by omega)
 have hc := he.call p.ml p.mh
 unfold moistF
 refine DCall.of Try.func131 sf131 hb131 (Nat.le_of_ble_eq_true rfl) (okRes_nil fun _ => rfl) ?_; simp only [s131, idxs, Nat.reduceAdd]
 repeat' (first|(with_reducible first|apply qA|apply qB|apply qC|apply qD|apply qE|apply qF)|(refine qL rfl (WF.of ?_) ?_; first|rfl|skip)|(simp (disch:=omega) only [go_sem, simprocAttr, Blk.men, Blk.keysIn, rF, rG])|exact qM rfl rfl rfl|(refine qG rfl ?_)|(refine qH rfl ?_)|(refine qI rfl ?_ ?_<;>intro hc<;>(try simp only [go_sem] at hc))|(refine qJ ?_ ?_<;>intro hc<;>(try simp only [hc])<;>(try simp only [go_sem] at hc)))
 refine call_c hc (by decide) ?_
 simp (disch:=omega) only [go_sem,simprocAttr,Blk.men,Blk.keysIn]
 repeat' (first|(with_reducible first|apply qA|apply qB|apply qC|apply qD|apply qE|apply qF)|(refine qL rfl (WF.of ?_) ?_; first|rfl|skip)|(simp (disch:=omega) only [go_sem, simprocAttr, Blk.men, Blk.keysIn])|exact qM rfl rfl rfl|(refine qG rfl ?_)|(refine qH rfl ?_)|(refine qI rfl ?_ ?_<;>intro hc<;>(try simp only [go_sem] at hc))|(refine qJ ?_ ?_<;>intro hc<;>(try simp only [hc])<;>(try simp only [go_sem] at hc)))
def moistI (ef : Int → Int → Int) (s : Sto) (m : Mak) : Int := (sumI (moistF ef) s m).tdiv (1000 * wholeI s m)
theorem tdiv_b {a b : Int} {A : Int} (ha : 0 ≤ a ∧ a ≤ A) (hb : 0 ≤ b) : 0 ≤ a.tdiv b ∧ a.tdiv b ≤ A := by
 rw [Int.tdiv_eq_ediv_of_nonneg ha.1]
 exact ⟨Int.ediv_nonneg ha.1 hb, Int.le_trans (Int.ediv_le_self _ ha.1) ha.2⟩
theorem bdMoist (s : Sto) (m : Mak) (hs : s.ok) (h : m.ok s) {g : FuncId} {ef : Int → Int → Int} (he : EndOk g ef) : DCall Try.prog 82 [dShe s m (wholeI s m), .c (.fn (.func g) [] [])] [] (dI (moistI ef s m)) [] := by
 have hf : ∀ p ∈ s.papers, 0 ≤ moistF ef p ∧ moistF ef p ≤ 1000000000 := fun p hp => moistF_b he (hs.papers p hp)
 have hsum := bdSum s m hs h 131 [.ro false [.fn (.func g) [] []] 0] rfl (moistF ef) hf (fun p hp => bdMoist1 false he p (hs.papers p hp))
 have hb := (sumI_b hs h (moistF ef) hf).2
 have hw := wholeI_b hs h
 have h0 : (1000 * wholeI s m = 0) = False := eq_false (by omega)
 have hq := tdiv_b (b := 1000 * wholeI s m) hb (by omega)
 unfold moistI
 refine DCall.of Try.func82 sf82 hb82 (Nat.le_of_ble_eq_true rfl) (okRes_nil fun _ => rfl) ?_; simp only [s82, idxs, Nat.reduceAdd]
 refine DW.seq (DW.reg ?_)
 simp (disch:=omega) only [go_sem,simprocAttr,Blk.men,Blk.keysIn]
 (refine DW.ent (Ent.rel 3 rfl) ?_; simp (disch:=omega) only [go_sem,simprocAttr,Blk.men,Blk.keysIn])
 repeat' (first|(with_reducible first|apply qA|apply qB|apply qC|apply qD|apply qE|apply qF)|(refine qL rfl (WF.of ?_) ?_; first|rfl|skip)|(simp (disch:=omega) only [go_sem, simprocAttr, Blk.men, Blk.keysIn, h0])|exact qM rfl rfl rfl|(refine qG rfl ?_)|(refine qK (hsum) (by decide) ?_)|(refine qH rfl ?_)|(refine qI rfl ?_ ?_<;>intro hc<;>(try simp only [go_sem] at hc))|(refine qJ ?_ ?_<;>intro hc<;>(try simp only [hc])<;>(try simp only [go_sem] at hc)))
def calP (ef : Int → Int → Int) (s : Sto) (m : Mak) : Nat → Int
 | 0 => 0
 | i + 1 => calP ef s m i + (if i % 2 = 0 then ef (papAt s (m.papers[i]?.getD 0)).tl (papAt s (m.papers[i]?.getD 0)).th else 0)
def calH (ef : Int → Int → Int) (s : Sto) (m : Mak) : Nat → Int
 | 0 => 0
 | i + 1 => calH ef s m i + ef (fluAt s (m.flutes[i]?.getD 0)).hl (fluAt s (m.flutes[i]?.getD 0)).hh
def calI (ef : Int → Int → Int) (s : Sto) (m : Mak) : Int := calP ef s m m.papers.length + calH ef s m m.flutes.length
theorem calP_b {g : FuncId} {ef : Int → Int → Int} (he : EndOk g ef) {s : Sto} {m : Mak} (hs : s.ok) (h : m.ok s) : ∀ i, i ≤ m.papers.length → 0 ≤ calP ef s m i ∧ calP ef s m i ≤ 1000 * (i : Int)
 | 0, _ => by simp [calP]
 | i + 1, hi => by
  have ih := calP_b he hs h i (by omega)
  obtain ⟨v, hv⟩ := getE (l := m.papers) (i := i) (by omega)
  have ho := (papAt_ok hs (h.papers v (List.mem_of_getElem? hv))).thick
  have hm := he.mem _ _ ho.2.1
  rw [calP, hv, Option.getD_some]
  split <;> omega
theorem calH_b {g : FuncId} {ef : Int → Int → Int} (he : EndOk g ef) {s : Sto} {m : Mak} (hs : s.ok) (h : m.ok s) : ∀ i, i ≤ m.flutes.length → 0 ≤ calH ef s m i ∧ calH ef s m i ≤ 10000 * (i : Int)
 | 0, _ => by simp [calH]
 | i + 1, hi => by
  have ih := calH_b he hs h i (by omega)
  obtain ⟨v, hv⟩ := getE (l := m.flutes) (i := i) (by omega)
  have ho := (fluAt_ok hs (h.flutes v (List.mem_of_getElem? hv))).high
  have hm := he.mem _ _ ho.2.1
  rw [calH, hv, Option.getD_some]
  omega
end Go.Dw.Seat
end
section
set_option linter.unusedSimpArgs false
set_option maxRecDepth 100000
namespace Go.Dw.Seat
open Go Go.Dw Go.Proofs Go.IntWalk
theorem bdCaliper (s : Sto) (m : Mak) (hs : s.ok) (h : m.ok s) {g : FuncId} {ef : Int → Int → Int} (he : EndOk g ef) : DCall Try.prog 83 [dShe s m (wholeI s m), .c (.fn (.func g) [] [])] [] (dI (calI ef s m)) [] := by
 have hf := h.nf
 have hn := h.np
 have hl1 : (nL m.papers).length = m.papers.length := nL_length _
 have hl2 : (nL m.flutes).length = m.flutes.length := nL_length _
 refine DCall.of Try.func83 sf83 hb83 (Nat.le_of_ble_eq_true rfl) (okRes_nil fun _ => rfl) ?_; simp only [s83, idxs, Nat.reduceAdd]
 repeat' (first|(with_reducible first|apply qA|apply qB|apply qC|apply qD|apply qE|apply qF)|(simp (disch:=omega) only [go_sem, simprocAttr, Blk.men, Blk.keysIn, hl1])|exact qM rfl rfl rfl|(refine qG rfl ?_)|(refine qH rfl ?_)|(refine qI rfl ?_ ?_<;>intro hc<;>(try simp only [go_sem] at hc))|(refine qJ ?_ ?_<;>intro hc<;>(try simp only [hc])<;>(try simp only [go_sem] at hc)))
 refine DW.loop (ι := { i : Nat // i ≤ m.papers.length }) (fun i => ⟨54, [(13, dI i.1), (12, dI m.papers.length), (11, .c (.sl false 1 (rows eI (nL m.papers)))), (4, dI (calP ef s m i.1)), (2, .box 2 0), (1, .c (.fn (.func g) [] []))], [(2, .box [.c (.sl false 1 (rows eI (nL m.papers))), .c (.sl false 1 (rows eI (nL m.flutes))), .c (.sl false 8 (rows eP s.papers)), .c (.sl false 4 (rows eF s.flutes)), dI (wholeI s m)])]⟩) (fun i => m.papers.length - i.1) ⟨0, Nat.zero_le _⟩ ?_ ?_
 ·refine Ent.to ?_ ?_ <;> simp (disch:=omega) only [qR,qS,qTw,qU,get,Nat.reduceEqDiff,↓reduceIte,qV,qW,qX,qY,qZ,and_self,dI,i64_in,and_true,true_and,rA,rB,rC,rD,calP]
 rintro ⟨i, hi⟩
 rcases Nat.lt_or_ge i m.papers.length with hlt | hge
 ·have hd : decide ((i : Int) < (m.papers.length : Int)) = true := by rw [decide_eq_true_eq]; omega
  obtain ⟨v, hv⟩ := getE (l := m.papers) (i := i) hlt
  have hv' := nL_at hv
  have hvs := h.papers v (List.mem_of_getElem? hv)
  have hp := papAt_get hvs
  have ho := (papAt_ok hs hvs).thick
  have hcb := calP_b he hs h i hi
  have hnx : calP ef s m (i + 1) = calP ef s m i + (if i % 2 = 0 then ef (papAt s v).tl (papAt s v).th else 0) := by rw [calP, hv, Option.getD_some]
  have hm := he.mem _ _ ho.2.1
  have hcall := he.call (papAt s v).tl (papAt s v).th
  generalize papAt s v = p at *
  have hrem : (i : Int).tmod 2 = ((i % 2 : Nat) : Int) := by rw [Int.tmod_eq_emod_of_nonneg (by omega)]; omega
  rcases (by omega : i % 2 = 0 ∨ i % 2 = 1) with hod | hod
  ·rw [hod] at hrem
   rw [if_pos hod] at hnx
   repeat' (first|(with_reducible first|apply qA|apply qB|apply qC|apply qD|apply qE|apply qF)|(simp (disch:=omega) only [go_sem, simprocAttr, Blk.men, Blk.keysIn, hd, hv', hp, hrem, rF, rG])|exact qM rfl rfl rfl|(refine qG rfl ?_)|(refine qH rfl ?_)|(refine qI rfl ?_ ?_<;>intro hc<;>(try simp only [go_sem] at hc))|(refine qJ ?_ ?_<;>intro hc<;>(try simp only [hc])<;>(try simp only [go_sem] at hc)))
   refine call_c hcall (by decide) ?_
   simp (disch:=omega) only [go_sem,simprocAttr,Blk.men,Blk.keysIn]
   repeat' (first|(with_reducible first|apply qA|apply qB|apply qC|apply qD|apply qE|apply qF)|(simp (disch:=omega) only [go_sem, simprocAttr, Blk.men, Blk.keysIn])|exact qM rfl rfl rfl|(refine qG rfl ?_)|(refine qH rfl ?_)|(refine qI rfl ?_ ?_<;>intro hc<;>(try simp only [go_sem] at hc))|(refine qJ ?_ ?_<;>intro hc<;>(try simp only [hc])<;>(try simp only [go_sem] at hc)))
   refine ⟨⟨i + 1, hlt⟩, ?_, Ent.to ?_ ?_⟩ <;> first | (show _ < _; (try simp only); omega) | (simp (disch:=omega) only [qR,qS,qTw,qU,get,Nat.reduceEqDiff,↓reduceIte,qV,qW,qX,qY,qZ,and_self,dI,i64_in,and_true,true_and,rA,rB,rC,rD, hnx])
  ·rw [hod] at hrem
   rw [if_neg (by omega), Int.add_zero] at hnx
   repeat' (first|(with_reducible first|apply qA|apply qB|apply qC|apply qD|apply qE|apply qF)|(simp (disch:=omega) only [go_sem, simprocAttr, Blk.men, Blk.keysIn, hd, hv', hp, hrem, rF, rG])|exact qM rfl rfl rfl|(refine qG rfl ?_)|(refine qH rfl ?_)|(refine qI rfl ?_ ?_<;>intro hc<;>(try simp only [go_sem] at hc))|(refine qJ ?_ ?_<;>intro hc<;>(try simp only [hc])<;>(try simp only [go_sem] at hc)))
   refine ⟨⟨i + 1, hlt⟩, ?_, Ent.to ?_ ?_⟩ <;> first | (show _ < _; (try simp only); omega) | (simp (disch:=omega) only [qR,qS,qTw,qU,get,Nat.reduceEqDiff,↓reduceIte,qV,qW,qX,qY,qZ,and_self,dI,i64_in,and_true,true_and,rA,rB,rC,rD, hnx])
 ·obtain rfl : i = m.papers.length := by omega
  have hd : decide ((m.papers.length : Int) < (m.papers.length : Int)) = false := by rw [decide_eq_false_iff_not]; omega
  have hcb := calP_b he hs h m.papers.length (Nat.le_refl _)
  unfold calI
  generalize calP ef s m m.papers.length = cp at *
  repeat' (first|(with_reducible first|apply qA|apply qB|apply qC|apply qD|apply qE|apply qF)|(simp (disch:=omega) only [go_sem, simprocAttr, Blk.men, Blk.keysIn, hd, hl2])|exact qM rfl rfl rfl|(refine qG rfl ?_)|(refine qH rfl ?_)|(refine qI rfl ?_ ?_<;>intro hc<;>(try simp only [go_sem] at hc))|(refine qJ ?_ ?_<;>intro hc<;>(try simp only [hc])<;>(try simp only [go_sem] at hc)))
  refine DW.loop (ι := { i : Nat // i ≤ m.flutes.length }) (fun i => ⟨54, [(37, dI i.1), (36, dI m.flutes.length), (35, .c (.sl false 1 (rows eI (nL m.flutes)))), (4, dI (cp + calH ef s m i.1)), (2, .box 2 0), (1, .c (.fn (.func g) [] []))], [(2, .box [.c (.sl false 1 (rows eI (nL m.papers))), .c (.sl false 1 (rows eI (nL m.flutes))), .c (.sl false 8 (rows eP s.papers)), .c (.sl false 4 (rows eF s.flutes)), dI (wholeI s m)])]⟩) (fun i => m.flutes.length - i.1) ⟨0, Nat.zero_le _⟩ ?_ ?_
  ·refine Ent.to ?_ ?_ <;> simp (disch:=omega) only [qR,qS,qTw,qU,get,Nat.reduceEqDiff,↓reduceIte,qV,qW,qX,qY,qZ,and_self,dI,i64_in,and_true,true_and,rA,rB,rC,rD,calH,Int.add_zero]
  rintro ⟨i, hi⟩
  rcases Nat.lt_or_ge i m.flutes.length with hlt | hge
  ·have hd : decide ((i : Int) < (m.flutes.length : Int)) = true := by rw [decide_eq_true_eq]; omega
   obtain ⟨v, hv⟩ := getE (l := m.flutes) (i := i) hlt
   have hv' := nL_at hv
   have hvs := h.flutes v (List.mem_of_getElem? hv)
   have hp := fluAt_get hvs
   have ho := (fluAt_ok hs hvs).high
   have hhb := calH_b he hs h i hi
   have hnx : cp + calH ef s m (i + 1) = cp + calH ef s m i + ef (fluAt s v).hl (fluAt s v).hh := by rw [calH, hv, Option.getD_some]; omega
   have hm := he.mem _ _ ho.2.1
   have hcall := he.call (fluAt s v).hl (fluAt s v).hh
   generalize fluAt s v = p at *
   repeat' (first|(with_reducible first|apply qA|apply qB|apply qC|apply qD|apply qE|apply qF)|(simp (disch:=omega) only [go_sem, simprocAttr, Blk.men, Blk.keysIn, hd, hv', hp, rF, rG])|exact qM rfl rfl rfl|(refine qG rfl ?_)|(refine qH rfl ?_)|(refine qI rfl ?_ ?_<;>intro hc<;>(try simp only [go_sem] at hc))|(refine qJ ?_ ?_<;>intro hc<;>(try simp only [hc])<;>(try simp only [go_sem] at hc)))
   refine call_c hcall (by decide) ?_
   simp (disch:=omega) only [go_sem,simprocAttr,Blk.men,Blk.keysIn]
   repeat' (first|(with_reducible first|apply qA|apply qB|apply qC|apply qD|apply qE|apply qF)|(simp (disch:=omega) only [go_sem, simprocAttr, Blk.men, Blk.keysIn])|exact qM rfl rfl rfl|(refine qG rfl ?_)|(refine qH rfl ?_)|(refine qI rfl ?_ ?_<;>intro hc<;>(try simp only [go_sem] at hc))|(refine qJ ?_ ?_<;>intro hc<;>(try simp only [hc])<;>(try simp only [go_sem] at hc)))
   refine ⟨⟨i + 1, hlt⟩, ?_, Ent.to ?_ ?_⟩ <;> first | (show _ < _; (try simp only); omega) | (simp (disch:=omega) only [qR,qS,qTw,qU,get,Nat.reduceEqDiff,↓reduceIte,qV,qW,qX,qY,qZ,and_self,dI,i64_in,and_true,true_and,rA,rB,rC,rD, hnx])
  ·obtain rfl : i = m.flutes.length := by omega
   have hd : decide ((m.flutes.length : Int) < (m.flutes.length : Int)) = false := by rw [decide_eq_false_iff_not]; omega
   repeat' (first|(with_reducible first|apply qA|apply qB|apply qC|apply qD|apply qE|apply qF)|(simp (disch:=omega) only [go_sem, simprocAttr, Blk.men, Blk.keysIn, hd])|exact qM rfl rfl rfl|(refine qG rfl ?_)|(refine qH rfl ?_)|(refine qI rfl ?_ ?_<;>intro hc<;>(try simp only [go_sem] at hc))|(refine qJ ?_ ?_<;>intro hc<;>(try simp only [hc])<;>(try simp only [go_sem] at hc)))
def loE (lo _ : Int) : Int := lo
def hiE (_ hi : Int) : Int := hi
theorem loE_ok : EndOk 80 loE := ⟨bdLow, fun _ _ h => ⟨Int.le_refl _, h⟩⟩
theorem hiE_ok : EndOk 81 hiE := ⟨bdHigh, fun _ _ h => ⟨h, Int.le_refl _⟩⟩
theorem bdMeas (s : Sto) (m : Mak) (hs : s.ok) (h : m.ok s) : DCall Try.prog 39 [dShe s m (wholeI s m)] [] (.tup [.agg [dI (moistI loE s m), dI (moistI hiE s m)], .agg [dI (calI loE s m), dI (calI hiE s m)]]) [] := by
 have h1 := bdMoist s m hs h loE_ok
 have h2 := bdMoist s m hs h hiE_ok
 have h3 := bdCaliper s m hs h loE_ok
 have h4 := bdCaliper s m hs h hiE_ok
 refine DCall.of Try.func39 sf39 hb39 (Nat.le_of_ble_eq_true rfl) (okRes_nil fun _ => rfl) ?_; simp only [s39, o39_0, o39_1, o39_2, o39_3, o39_4, o39_5, o39_6, o39_7, o39_8, o39_9, o39_10, o39_11, o39_12, o39_13, o39_14, o39_15, idxs, Nat.reduceAdd]
 repeat' (first|(with_reducible first|apply qA|apply qB|apply qC|apply qD|apply qE|apply qF)|(refine DW.ord rfl (WF.of (by first|rfl|simp (disch:=omega) only [go_sem, simprocAttr, Blk.men, Blk.keysIn])) ?_ ?_ ?_; rotate_left)|rfl|(with_reducible refine And.intro ?_ ?_)|(simp (disch:=omega) only [go_sem, simprocAttr, Blk.men, Blk.keysIn])|exact qM rfl rfl rfl|(refine qG rfl ?_)|(refine qK (h1) (by decide) ?_)|(refine qK (h2) (by decide) ?_)|(refine qK (h3) (by decide) ?_)|(refine qK (h4) (by decide) ?_)|(refine qH rfl ?_)|(refine qI rfl ?_ ?_<;>intro hc<;>(try simp only [go_sem] at hc))|(refine qJ ?_ ?_<;>intro hc<;>(try simp only [hc])<;>(try simp only [go_sem] at hc)))
theorem bdMeasure (s : Sto) (m : Mak) (hs : s.ok) (h : m.ok s) : DCall Try.prog 8 [dSto s, dMak m] [] (.tup [.agg [dI (moistI loE s m), dI (moistI hiE s m)], .agg [dI (calI loE s m), dI (calI hiE s m)], dI 0]) [] := by
 have h1 := bdNew s m hs h
 have h2 := bdMeas s m hs h
 refine DCall.of Try.func8 sf8 hb8 (Nat.le_of_ble_eq_true rfl) (okRes_nil fun _ => rfl) ?_; simp only [s8, o8_0, o8_1, o8_2, o8_3, o8_4, o8_5, o8_6, o8_7, o8_8, o8_9, o8_10, idxs, Nat.reduceAdd]
 repeat' (first|(with_reducible first|apply qA|apply qB|apply qC|apply qD|apply qE|apply qF)|(refine DW.ord rfl (WF.of (by first|rfl|simp (disch:=omega) only [go_sem, simprocAttr, Blk.men, Blk.keysIn])) ?_ ?_ ?_; rotate_left)|rfl|(with_reducible refine And.intro ?_ ?_)|(simp (disch:=omega) only [go_sem, simprocAttr, Blk.men, Blk.keysIn])|exact qM rfl rfl rfl|(refine qG rfl ?_)|(refine qK (h1) (by decide) ?_)|(refine qK (h2) (by decide) ?_)|(refine qH rfl ?_)|(refine qI rfl ?_ ?_<;>intro hc<;>(try simp only [go_sem] at hc))|(refine qJ ?_ ?_<;>intro hc<;>(try simp only [hc])<;>(try simp only [go_sem] at hc)))
def strongI (s : Sto) (m : Mak) : Int := (sumI Pap.strong s m).tdiv (wholeI s m)
theorem weight_b {s : Sto} (hs : s.ok) : ∀ p ∈ s.papers, 0 ≤ p.weight ∧ p.weight ≤ 1000000000 := fun p hp => by have := (hs.papers p hp).weight; omega
end Go.Dw.Seat
end
section
set_option linter.unusedSimpArgs false
set_option maxRecDepth 100000
namespace Go.Dw.Seat
open Go Go.Dw Go.Proofs Go.IntWalk
structure Lod where
 sl : Int
 sh : Int
 wl : Int
 wh : Int
def eLd (b : Lod) : List C := [.v (.int .i64 b.sl), .v (.int .i64 b.sh), .v (.int .i64 b.wl), .v (.int .i64 b.wh)]
def eK (t : Int × Int) : List C := [.v (.int .i64 t.1), .v (.int .i64 t.2)]
attribute [go_sem] eLd eK
structure Lod.ok (b : Lod) : Prop where
 strong : 0 ≤ b.sl ∧ b.sl ≤ b.sh ∧ b.sh ≤ 20000000
 weight : 0 ≤ b.wl ∧ b.wl ≤ b.wh ∧ b.wh ≤ 100000
def exS : Sto := ⟨[⟨1, 200, 250, 270, 60, 80, 400000, 300⟩, ⟨2, 120, 180, 190, 70, 90, 300000, 200⟩], [⟨8000, 12000, 3600, 3700⟩]⟩
def exM : Mak := ⟨[0, 1, 0], [0]⟩
theorem exS_ok : exS.ok := by
 refine ⟨by decide, by decide, ?_, ?_⟩
 ·intro p hp
  simp only [exS, List.mem_cons, List.not_mem_nil, or_false] at hp
  rcases hp with rfl | rfl <;> exact ⟨by decide, by decide, by decide, by decide, by decide, by decide⟩
 ·intro p hp
  simp only [exS, List.mem_cons, List.not_mem_nil, or_false] at hp
  rcases hp with rfl
  exact ⟨by decide, by decide, by decide⟩
theorem exM_ok : exM.ok exS := by
 refine ⟨by decide, by decide, by decide, by decide, ?_⟩
 intro i n p h1 h2
 match i, h1 with
 | 0, h1 => cases h1; cases h2; rfl
 | 1, h1 => cases h1; cases h2; rfl
 | 2, h1 => cases h1; cases h2; rfl
 | i + 3, h1 => cases h1
theorem exB : moistI loE exS exM = 616 ∧ moistI hiE exS exM = 628 ∧ calI loE exS exM = 4100 ∧ calI hiE exS exM = 4240 ∧ strongI exS exM = 900 := ⟨by kernel_rfl, by kernel_rfl, by kernel_rfl, by kernel_rfl, by kernel_rfl⟩
end Go.Dw.Seat
end
section
set_option linter.unusedSimpArgs false
set_option maxRecDepth 100000
namespace Go.Dw.Seat
open Go Go.Dw Go.Proofs Go.IntWalk
structure V6 where
 v0 : Nat
 v1 : Nat
 v2 : Nat
 v3 : Nat
 v4 : Nat
 v5 : Nat
structure V6.ok (v : V6) : Prop where
 v0 : v.v0 < 256
 v1 : v.v1 < 256
 v2 : v.v2 < 256
 v3 : v.v3 < 256
 v4 : v.v4 < 256
 v5 : v.v5 < 256
structure V3 where
 v0 : Nat
 v1 : Nat
 v2 : Nat
structure V3.ok (v : V3) : Prop where
 v0 : v.v0 < 256
 v1 : v.v1 < 256
 v2 : v.v2 < 256
def e6 (v : V6) : List C := [.v (.int .u8 v.v0), .v (.int .u8 v.v1), .v (.int .u8 v.v2), .v (.int .u8 v.v3), .v (.int .u8 v.v4), .v (.int .u8 v.v5)]
def e3 (v : V3) : List C := [.v (.int .u8 v.v0), .v (.int .u8 v.v1), .v (.int .u8 v.v2)]
attribute [go_sem] e6 e3
structure War where
 papers : List V6
 flutes : List V3
 by' : List Nat
structure War.ok (x : War) : Prop where
 papers : ∀ v ∈ x.papers, v.ok
 flutes : ∀ v ∈ x.flutes, v.ok
 by' : ∀ v ∈ x.by', v < 256
abbrev dWar (b : Bool) (x : War) : D := .agg [.c (.sl b 6 (rows e6 x.papers)), .c (.sl b 3 (rows e3 x.flutes)), .c (.sl b 1 (rows eY x.by'))]
attribute [go_sem] dWar
theorem t90 (m : Nat) : (m : Int).tmod 90 = ((m % 90 : Nat) : Int) := tmodN m 90
theorem t2 (m : Nat) : (m : Int).tmod 2 = ((m % 2 : Nat) : Int) := tmodN m 2
theorem snocP (l : List Pap) (a b c d e f g h : Int) : rowC (rows eP l) ++ [[D.c (.v (.int .i64 a)), D.c (.v (.int .i64 b)), D.c (.v (.int .i64 c)), D.c (.v (.int .i64 d)), D.c (.v (.int .i64 e)), D.c (.v (.int .i64 f)), D.c (.v (.int .i64 g)), D.c (.v (.int .i64 h))]] = rowC (rows eP (l ++ [⟨a, b, c, d, e, f, g, h⟩])) := by simp [rowC, rows, eP]
theorem snocF (l : List Flu) (a b c d : Int) : rowC (rows eF l) ++ [[D.c (.v (.int .i64 a)), D.c (.v (.int .i64 b)), D.c (.v (.int .i64 c)), D.c (.v (.int .i64 d))]] = rowC (rows eF (l ++ [⟨a, b, c, d⟩])) := by simp [rowC, rows, eF]
attribute [go_sem] snocP snocF
end Go.Dw.Seat
end
section
set_option linter.unusedSimpArgs false
set_option maxRecDepth 100000
namespace Go.Dw.Seat
open Go Go.Dw Go.Proofs Go.IntWalk
def sP5 (z : Bla) : Nat → Int
 | 0 => z.tab
 | 1 => z.tab + z.p0
 | 2 => z.tab + z.p0 + z.p1
 | 3 => z.tab + z.p0 + z.p1 + z.p2
 | _ => z.tab + z.p0 + z.p1 + z.p2 + z.p3
theorem sP50 (z : Bla) : sP5 z 0 = z.tab := rfl
theorem sP51 (z : Bla) : sP5 z 1 = z.tab + z.p0 := rfl
theorem sP52 (z : Bla) : sP5 z 2 = z.tab + z.p0 + z.p1 := rfl
theorem sP53 (z : Bla) : sP5 z 3 = z.tab + z.p0 + z.p1 + z.p2 := rfl
theorem sP54 (z : Bla) : sP5 z 4 = z.tab + z.p0 + z.p1 + z.p2 + z.p3 := rfl
theorem scSize (z : Bla) (h : z.ok) : DCall Try.prog 19 [dBla z] [] (.tup [dI (acrossI z), dI (alongI z), dI (acrossI z * alongI z), dI 0]) [] := by
 have c1 := scCheck z h
 have c2 := scMax2 false z.t0 z.t1
 have c3 := scMax2 false z.b0 z.b1
 obtain ⟨h1, h2, h3, h4, h5, h6, h7, h8, h9, h10, h11⟩ := h
 have m1 := mx2_b h7 h8
 have m2 := mx2_b h9 h10
 have hal : mx2 z.t0 z.t1 + z.height + mx2 z.b0 z.b1 = alongI z := rfl
 have hac : z.tab + z.p0 + z.p1 + z.p2 + z.p3 = acrossI z := rfl
 have bac : 0 ≤ acrossI z ∧ acrossI z ≤ 12100 := by rw [← hac]; omega
 have bal : 0 ≤ alongI z ∧ alongI z ≤ 9000 := by rw [← hal]; omega
 have bm := mulB0 (a := acrossI z) (b := alongI z) (A := 12100) (B := 9000) bac bal
 refine DCall.of Try.func19 sf19 hb19 (Nat.le_of_ble_eq_true rfl) (okRes_nil fun _ => rfl) ?_; simp only [s19, idxs, Nat.reduceAdd]
 repeat' (first|(with_reducible first|apply qA|apply qB|apply qC|apply qD|apply qE|apply qF)|(refine qL rfl (WF.of ?_) ?_; first|rfl|skip)|(simp (disch:=omega) only [go_sem, simprocAttr, Blk.men, Blk.keysIn])|exact qM rfl rfl rfl|(refine qG rfl ?_)|(refine qK (c1) (by decide) ?_)|(refine qH rfl ?_)|(refine qI rfl ?_ ?_<;>intro hc<;>(try simp only [go_sem] at hc))|(refine qJ ?_ ?_<;>intro hc<;>(try simp only [hc])<;>(try simp only [go_sem] at hc)))
 refine DW.loop (ι := { i : Nat // i ≤ 4 }) (fun i => ⟨42, [(19, dI i.1), (18, dI 4), (17, dIs false [z.p0, z.p1, z.p2, z.p3]), (2, dI (sP5 z i.1)), (1, .box 1 0)], [(1, .box [dI z.tab, dIs false [z.p0, z.p1, z.p2, z.p3], dI z.height, dIs false [z.t0, z.t1], dIs false [z.b0, z.b1], dI z.slot, bD false])]⟩) (fun i => 4 - i.1) ⟨0, by omega⟩ ?_ ?_
 ·refine Ent.to ?_ ?_ <;> simp (disch:=omega) only [qR,qS,qTw,qU,get,Nat.reduceEqDiff,↓reduceIte,qV,qW,qX,qY,qZ,and_self,dI,i64_in,and_true,true_and,rA,rB,rC,rD,sP50]
  all_goals exact .refl _
 rintro ⟨i, hi⟩
 dsimp only
 rcases (by omega : i = 0 ∨ i = 1 ∨ i = 2 ∨ i = 3 ∨ i = 4) with rfl | rfl | rfl | rfl | rfl
 ·repeat' (first|(with_reducible first|apply qA|apply qB|apply qC|apply qD|apply qE|apply qF)|(refine qL rfl (WF.of ?_) ?_; first|rfl|skip)|(simp (disch:=omega) only [go_sem, simprocAttr, Blk.men, Blk.keysIn, sP50])|exact qM rfl rfl rfl|(refine qG rfl ?_)|(refine qH rfl ?_)|(refine qI rfl ?_ ?_<;>intro hc<;>(try simp only [go_sem] at hc))|(refine qJ ?_ ?_<;>intro hc<;>(try simp only [hc])<;>(try simp only [go_sem] at hc)))
  refine ⟨⟨1, by omega⟩, ?_, Ent.to ?_ ?_⟩ <;> first | (show _ < _; (try simp only); omega) | (simp (disch:=omega) only [qR,qS,qTw,qU,get,Nat.reduceEqDiff,↓reduceIte,qV,qW,qX,qY,qZ,and_self,dI,i64_in,and_true,true_and,rA,rB,rC,rD, sP50,sP51])
  all_goals exact .refl _
 ·repeat' (first|(with_reducible first|apply qA|apply qB|apply qC|apply qD|apply qE|apply qF)|(refine qL rfl (WF.of ?_) ?_; first|rfl|skip)|(simp (disch:=omega) only [go_sem, simprocAttr, Blk.men, Blk.keysIn, sP51])|exact qM rfl rfl rfl|(refine qG rfl ?_)|(refine qH rfl ?_)|(refine qI rfl ?_ ?_<;>intro hc<;>(try simp only [go_sem] at hc))|(refine qJ ?_ ?_<;>intro hc<;>(try simp only [hc])<;>(try simp only [go_sem] at hc)))
  refine ⟨⟨2, by omega⟩, ?_, Ent.to ?_ ?_⟩ <;> first | (show _ < _; (try simp only); omega) | (simp (disch:=omega) only [qR,qS,qTw,qU,get,Nat.reduceEqDiff,↓reduceIte,qV,qW,qX,qY,qZ,and_self,dI,i64_in,and_true,true_and,rA,rB,rC,rD, sP51,sP52])
  all_goals exact .refl _
 ·repeat' (first|(with_reducible first|apply qA|apply qB|apply qC|apply qD|apply qE|apply qF)|(refine qL rfl (WF.of ?_) ?_; first|rfl|skip)|(simp (disch:=omega) only [go_sem, simprocAttr, Blk.men, Blk.keysIn, sP52])|exact qM rfl rfl rfl|(refine qG rfl ?_)|(refine qH rfl ?_)|(refine qI rfl ?_ ?_<;>intro hc<;>(try simp only [go_sem] at hc))|(refine qJ ?_ ?_<;>intro hc<;>(try simp only [hc])<;>(try simp only [go_sem] at hc)))
  refine ⟨⟨3, by omega⟩, ?_, Ent.to ?_ ?_⟩ <;> first | (show _ < _; (try simp only); omega) | (simp (disch:=omega) only [qR,qS,qTw,qU,get,Nat.reduceEqDiff,↓reduceIte,qV,qW,qX,qY,qZ,and_self,dI,i64_in,and_true,true_and,rA,rB,rC,rD, sP52,sP53])
  all_goals exact .refl _
 ·repeat' (first|(with_reducible first|apply qA|apply qB|apply qC|apply qD|apply qE|apply qF)|(refine qL rfl (WF.of ?_) ?_; first|rfl|skip)|(simp (disch:=omega) only [go_sem, simprocAttr, Blk.men, Blk.keysIn, sP53])|exact qM rfl rfl rfl|(refine qG rfl ?_)|(refine qH rfl ?_)|(refine qI rfl ?_ ?_<;>intro hc<;>(try simp only [go_sem] at hc))|(refine qJ ?_ ?_<;>intro hc<;>(try simp only [hc])<;>(try simp only [go_sem] at hc)))
  refine ⟨⟨4, by omega⟩, ?_, Ent.to ?_ ?_⟩ <;> first | (show _ < _; (try simp only); omega) | (simp (disch:=omega) only [qR,qS,qTw,qU,get,Nat.reduceEqDiff,↓reduceIte,qV,qW,qX,qY,qZ,and_self,dI,i64_in,and_true,true_and,rA,rB,rC,rD, sP53,sP54])
  all_goals exact .refl _
 ·repeat' (first|(with_reducible first|apply qA|apply qB|apply qC|apply qD|apply qE|apply qF)|(refine qL rfl (WF.of ?_) ?_; first|rfl|skip)|(simp (disch:=omega) only [go_sem, simprocAttr, Blk.men, Blk.keysIn, sP54, hac, hal])|exact qM rfl rfl rfl|(refine qG rfl ?_)|(refine qK (c2) (by decide) ?_)|(refine qK (c3) (by decide) ?_)|(refine qH rfl ?_)|(refine qI rfl ?_ ?_<;>intro hc<;>(try simp only [go_sem] at hc))|(refine qJ ?_ ?_<;>intro hc<;>(try simp only [hc])<;>(try simp only [go_sem] at hc)))
theorem scInts (b : Bool) (l : List Int) (hl : l.length ≤ 1000) : DCall Try.prog 70 [dIs b l] [] (dIs false l) [] := by
 refine DCall.of Try.func70 sf70 hb70 (Nat.le_of_ble_eq_true rfl) (okRes_nil fun _ => rfl) ?_; simp only [s70, idxs, Nat.reduceAdd]
 repeat' (first|(with_reducible first|apply qA|apply qB|apply qC|apply qD|apply qE|apply qF)|(simp (disch:=omega) only [go_sem, simprocAttr, Blk.men, Blk.keysIn])|exact qM rfl rfl rfl|(refine qG rfl ?_)|(refine qH rfl ?_)|(refine qI rfl ?_ ?_<;>intro hc<;>(try simp only [go_sem] at hc))|(refine qJ ?_ ?_<;>intro hc<;>(try simp only [hc])<;>(try simp only [go_sem] at hc)))
 (refine retS_ent (Ent.rel 3 rfl) ?_; simp (disch:=omega) only [go_sem,simprocAttr,Blk.men,Blk.keysIn])
 refine retS_wk rfl ?_ (by simp only [Blk.nb, rowC_nb, D.nb, D.nbs, C.nb, C.nbs, C.nbss, rows_nb eI_nb, Bool.and_true, Bool.not_false, Bool.and_self, bD, dI, iD]); exact .refl _
theorem scBlank (z : Bla) : DCall Try.prog 66 [dBla z] [] (dBla z) [] := by
 have c1 := scInts false [z.p0, z.p1, z.p2, z.p3] (by simp)
 have c2 := scInts false [z.t0, z.t1] (by simp)
 have c3 := scInts false [z.b0, z.b1] (by simp)
 refine DCall.of Try.func66 sf66 hb66 (Nat.le_of_ble_eq_true rfl) (okRes_nil fun _ => rfl) ?_; simp only [s66, idxs, Nat.reduceAdd]
 repeat' (first|(with_reducible first|apply qA|apply qB|apply qC|apply qD|apply qE|apply qF)|(refine qL rfl (WF.of ?_) ?_; first|rfl|skip)|(simp (disch:=omega) only [go_sem, simprocAttr, Blk.men, Blk.keysIn])|exact qM rfl rfl rfl|(refine qG rfl ?_)|(refine qK (c1) (by decide) ?_)|(refine qK (c2) (by decide) ?_)|(refine qK (c3) (by decide) ?_)|(refine qH rfl ?_)|(refine qI rfl ?_ ?_<;>intro hc<;>(try simp only [go_sem] at hc))|(refine qJ ?_ ?_<;>intro hc<;>(try simp only [hc])<;>(try simp only [go_sem] at hc)))
abbrev u8D (n : Nat) : D := .c (.v (.int .u8 n))
structure V7 where
 v0 : Nat
 v1 : Nat
 v2 : Nat
 v3 : Nat
 v4 : Nat
 v5 : Nat
 v6 : Nat
structure V7.ok (v : V7) : Prop where
 v0 : v.v0 < 256
 v1 : v.v1 < 256
 v2 : v.v2 < 256
 v3 : v.v3 < 256
 v4 : v.v4 < 256
 v5 : v.v5 < 256
 v6 : v.v6 < 256
def flapI (v : V7) : Int := (((50 + v.v1) / 2 : Nat) : Int) + ((v.v4 % 3 : Nat) : Int)
def blaV (m : Int) (v : V7) : Bla := ⟨((v.v2 % 50 : Nat) : Int), 60 + (v.v0 : Int) + m, 50 + (v.v1 : Int) + m, 60 + (v.v0 : Int) + m, 50 + (v.v1 : Int) + m, 40 + (v.v3 : Int) + m, flapI v, flapI v, flapI v, flapI v + ((v.v5 % 4 : Nat) : Int), ((v.v6 % 21 : Nat) : Int)⟩
theorem flap_b {v : V7} (h : v.ok) : 25 ≤ flapI v ∧ flapI v ≤ 154 := by
 have := h.v1
 unfold flapI
 omega
theorem blaV_ok {m : Int} (hm : 0 ≤ m ∧ m ≤ 100) {v : V7} (h : v.ok) : (blaV m v).ok := by
 have hf := flap_b h
 obtain ⟨a0, a1, a2, a3, a4, a5, a6⟩ := h
 have q5 : v.v5 % 4 < 4 := Nat.mod_lt _ (by decide)
 have q2 : v.v2 % 50 < 50 := Nat.mod_lt _ (by decide)
 have q6 : v.v6 % 21 < 21 := Nat.mod_lt _ (by decide)
 constructor <;> simp only [blaV] <;> omega
theorem scBox (m : Int) (hm : 0 ≤ m ∧ m ≤ 100) (v : V7) (h : v.ok) : DCall Try.prog 65 [.agg [u8D 0, u8D 0, u8D 0, u8D 0, u8D 0, u8D 0, u8D 0, u8D 0, u8D 0, u8D 0, u8D 0, u8D 0, u8D 0, u8D 0, u8D 0, u8D 0, u8D 0, u8D 0, u8D v.v0, u8D v.v1, u8D v.v2, u8D v.v3, u8D v.v4, u8D v.v5, u8D v.v6], dI m] [] (dBla (blaV m v)) [] := by
 have hf := flap_b h
 obtain ⟨a0, a1, a2, a3, a4, a5, a6⟩ := h
 have e2 : (v.v2 : Int).tmod 50 = ((v.v2 % 50 : Nat) : Int) := tmodN v.v2 50
 have e4 : (v.v4 : Int).tmod 3 = ((v.v4 % 3 : Nat) : Int) := tmodN v.v4 3
 have e5 : (v.v5 : Int).tmod 4 = ((v.v5 % 4 : Nat) : Int) := tmodN v.v5 4
 have e6 : (v.v6 : Int).tmod 21 = ((v.v6 % 21 : Nat) : Int) := tmodN v.v6 21
 have e1 : (50 + (v.v1 : Int)).tdiv 2 = (((50 + v.v1) / 2 : Nat) : Int) := by
  have := tdivN (50 + v.v1) 2
  rw [← this]
  congr 1
 have ef : (((50 + v.v1) / 2 : Nat) : Int) + ((v.v4 % 3 : Nat) : Int) = flapI v := rfl
 refine DCall.of Try.func65 sf65 hb65 (Nat.le_of_ble_eq_true rfl) (okRes_nil fun _ => rfl) ?_; simp only [s65, idxs, Nat.reduceAdd]
 repeat' (first|(with_reducible first|apply qA|apply qB|apply qC|apply qD|apply qE|apply qF)|(refine qL rfl (WF.of ?_) ?_; first|rfl|skip)|(simp (disch:=omega) only [go_sem, simprocAttr, Blk.men, Blk.keysIn, e1, e2, e4, e5, e6, ef])|exact qM rfl rfl rfl|(refine qG rfl ?_)|(refine qH rfl ?_)|(refine qI rfl ?_ ?_<;>intro hc<;>(try simp only [go_sem] at hc))|(refine qJ ?_ ?_<;>intro hc<;>(try simp only [hc])<;>(try simp only [go_sem] at hc)))
 (refine retS_ent (Ent.rel 58 rfl) ?_; simp (disch:=omega) only [go_sem,simprocAttr,Blk.men,Blk.keysIn])
 (refine retS_ent (Ent.rel 50 rfl) ?_; simp (disch:=omega) only [go_sem,simprocAttr,Blk.men,Blk.keysIn])
 (refine retS_ent (Ent.rel 41 rfl) ?_; simp (disch:=omega) only [go_sem,simprocAttr,Blk.men,Blk.keysIn])
 refine retS_wk rfl ?_ (by simp only [Blk.nb, rowC_nb, D.nb, D.nbs, C.nb, C.nbs, C.nbss, rows_nb eI_nb, Bool.and_true, Bool.not_false, Bool.and_self, bD, dI, iD]); exact .refl _
theorem along_b {v : V7} (h : v.ok) : 165 ≤ alongI (blaV 100 v) ∧ alongI (blaV 100 v) ≤ 707 := by
 have hf := flap_b h
 have h3 := h.v3
 have q5 : v.v5 % 4 < 4 := Nat.mod_lt _ (by decide)
 unfold alongI mx2 blaV
 dsimp only
 split <;> split <;> omega
theorem across_b {v : V7} (h : v.ok) : 1 ≤ acrossI (blaV 100 v) ∧ acrossI (blaV 100 v) ≤ 5000 := by
 have h0 := h.v0
 have h1 := h.v1
 have q2 : v.v2 % 50 < 50 := Nat.mod_lt _ (by decide)
 unfold acrossI blaV
 dsimp only
 omega
end Go.Dw.Seat
end
section
set_option linter.unusedSimpArgs false
set_option maxRecDepth 100000
namespace Go.Dw.Seat
open Go Go.Dw Go.Proofs Go.IntWalk
def eBla (z : Bla) : List C := [.v (.int .i64 z.tab), .sl false 1 (rows eI [z.p0, z.p1, z.p2, z.p3]), .v (.int .i64 z.height), .sl false 1 (rows eI [z.t0, z.t1]), .sl false 1 (rows eI [z.b0, z.b1]), .v (.int .i64 z.slot), .v (.bool false)]
theorem eBla_nb (z : Bla) : C.nbs (eBla z) = true := by
 simp only [eBla, C.nbs, C.nb, rows_nb eI_nb, Bool.and_self, Bool.not_false]
abbrev nilS : D := .c (.v (.slice none 0 0))
attribute [go_sem] eBla nilS u8D
structure ShY where
 a : V7
 b : V7
 c : V7
 t : Nat
 s0 : Nat
 s1 : Nat
 s2 : Nat
 s3 : Nat
 s4 : Nat
 s5 : Nat
 s6 : Nat
 s7 : Nat
 s8 : Nat
structure ShY.ok (x : ShY) : Prop where
 a : x.a.ok
 b : x.b.ok
 c : x.c.ok
 t : x.t < 256
 s0 : x.s0 < 256
 s1 : x.s1 < 256
 s2 : x.s2 < 256
 s3 : x.s3 < 256
 s4 : x.s4 < 256
 s5 : x.s5 < 256
 s6 : x.s6 < 256
 s7 : x.s7 < 256
 s8 : x.s8 < 256
abbrev shL (x : ShY) : List D := [u8D x.a.v0, u8D x.a.v1, u8D x.a.v2, u8D x.a.v3, u8D x.a.v4, u8D x.a.v5, u8D x.a.v6, u8D x.b.v0, u8D x.b.v1, u8D x.b.v2, u8D x.b.v3, u8D x.b.v4, u8D x.b.v5, u8D x.b.v6, u8D x.c.v0, u8D x.c.v1, u8D x.c.v2, u8D x.c.v3, u8D x.c.v4, u8D x.c.v5, u8D x.c.v6, u8D x.t, u8D x.s0, u8D x.s1, u8D x.s2, u8D x.s3, u8D x.s4, u8D x.s5, u8D x.s6, u8D x.s7, u8D x.s8]
attribute [go_sem] shL
theorem rowC_snocBla (l : List Bla) (z : Bla) : rowC (rows eBla l) ++ [[D.c (.v (.int .i64 z.tab)), D.c (.sl false 1 (rows eI [z.p0, z.p1, z.p2, z.p3])), D.c (.v (.int .i64 z.height)), D.c (.sl false 1 (rows eI [z.t0, z.t1])), D.c (.sl false 1 (rows eI [z.b0, z.b1])), D.c (.v (.int .i64 z.slot)), D.c (.v (.bool false))]] = rowC (rows eBla (l ++ [z])) := by simp [rowC, rows, eBla]
theorem sm104 : small 1 104 = True := eq_true ⟨by decide, by decide⟩
theorem sm104b : small 2 104 = True := eq_true ⟨by decide, by decide⟩
theorem sm104c : small 3 104 = True := eq_true ⟨by decide, by decide⟩
def bxZ (p q r : Bla) : Nat → List Bla
 | 0 => []
 | 1 => [p]
 | 2 => [p, q]
 | _ => [p, q, r]
def bxI (f : Bla → Int) (p q r : Bla) : Nat → List Int
 | 0 => []
 | 1 => [f p]
 | 2 => [f p, f q]
 | _ => [f p, f q, f r]
theorem bxZ0 (p q r : Bla) : bxZ p q r 0 = [] := rfl
theorem bxZ1 (p q r : Bla) : bxZ p q r 1 = [p] := rfl
theorem bxZ2 (p q r : Bla) : bxZ p q r 2 = [p, q] := rfl
theorem bxZ3 (p q r : Bla) : bxZ p q r 3 = [p, q, r] := rfl
theorem bxI0 (f : Bla → Int) (p q r : Bla) : bxI f p q r 0 = [] := rfl
theorem bxI1 (f : Bla → Int) (p q r : Bla) : bxI f p q r 1 = [f p] := rfl
theorem bxI2 (f : Bla → Int) (p q r : Bla) : bxI f p q r 2 = [f p, f q] := rfl
theorem bxI3 (f : Bla → Int) (p q r : Bla) : bxI f p q r 3 = [f p, f q, f r] := rfl
set_option maxHeartbeats 4000000 in
theorem scBoxes (x : ShY) (h : x.ok) : DCall Try.prog 26 [.agg (shL x)] [] (.tup [.c (.sl false 7 (rows eBla [blaV 100 x.a, blaV 100 x.b, blaV 100 x.c])), dIs false [acrossI (blaV 100 x.a), acrossI (blaV 100 x.b), acrossI (blaV 100 x.c)], dIs false [alongI (blaV 100 x.a), alongI (blaV 100 x.b), alongI (blaV 100 x.c)], bD true]) [] := by
 have b0 := scBox 100 (by decide) x.a h.a
 have b1 := scBox 100 (by decide) x.b h.b
 have b2 := scBox 100 (by decide) x.c h.c
 have k0 := scSize (blaV 100 x.a) (blaV_ok (by decide) h.a)
 have k1 := scSize (blaV 100 x.b) (blaV_ok (by decide) h.b)
 have k2 := scSize (blaV 100 x.c) (blaV_ok (by decide) h.c)
 have a0 := along_b h.a
 have a1 := along_b h.b
 have a2 := along_b h.c
 have c0 := across_b h.a
 have c1 := across_b h.b
 have c2 := across_b h.c
 generalize blaV 100 x.a = p at *
 generalize blaV 100 x.b = q at *
 generalize blaV 100 x.c = r at *
 have d0 := scBlank p
 have d1 := scBlank q
 have d2 := scBlank r
 have f : ∀ {y lo : Int}, lo ≤ y → decide (y < lo) = false := fun h => decide_eq_false (by omega)
 have g : ∀ {y hi : Int}, y ≤ hi → decide (hi < y) = false := fun h => decide_eq_false (by omega)
 refine DCall.of Try.func26 sf26 hb26 (Nat.le_of_ble_eq_true rfl) (okRes_nil fun _ => rfl) ?_; simp only [s26, idxs, Nat.reduceAdd]
 repeat' (first|(with_reducible first|apply qA|apply qB|apply qC|apply qD|apply qE|apply qF)|(simp (disch:=omega) only [go_sem, simprocAttr, qN, qO, qP, qQ])|exact qM rfl rfl rfl|(refine qG rfl ?_)|(refine qH rfl ?_)|(refine qI rfl ?_ ?_<;>intro hc<;>(try simp only [go_sem] at hc))|(refine qJ ?_ ?_<;>intro hc<;>(try simp only [hc])<;>(try simp only [go_sem] at hc)))
 refine DW.ent (Ent.adopt 2 51 7 rfl rfl (by simp [menS, D.men, D.mens, Blk.men])) ?_
 simp only [ins, Nat.reduceLT, Nat.reduceEqDiff, ↓reduceIte]
 refine DW.ent (Ent.adopt 3 55 1 rfl rfl (by simp [menS, D.men, D.mens, Blk.men])) ?_
 simp only [ins, Nat.reduceLT, Nat.reduceEqDiff, ↓reduceIte]
 refine DW.ent (Ent.adopt 4 59 1 rfl rfl (by simp [menS, D.men, D.mens, Blk.men])) ?_
 simp only [ins, Nat.reduceLT, Nat.reduceEqDiff, ↓reduceIte]
 refine DW.loop (ι := { i : Nat // i ≤ 3 }) (fun i => ⟨63, [(6, dI i.1), (4, .own 59), (3, .own 55), (2, .own 51), (1, .box 1 0)], [(59, .row 1 (rowC (rows eI (bxI alongI p q r i.1)))), (55, .row 1 (rowC (rows eI (bxI acrossI p q r i.1)))), (51, .row 7 (rowC (rows eBla (bxZ p q r i.1)))), (1, .box (shL x))]⟩) (fun i => 3 - i.1) ⟨0, by omega⟩ ?_ ?_
 ·refine Ent.to ?_ ?_ <;> simp (disch:=omega) only [qR,qS,qTw,qU,get,Nat.reduceEqDiff,↓reduceIte,qV,qW,qX,qY,qZ,and_self,dI,i64_in,and_true,true_and,rA,rB,rC,rD,bxI0,bxZ0]
  all_goals first | exact .refl _ | exact ⟨.refl _, .refl _⟩ | exact ⟨.refl _, .refl _, .refl _⟩
 rintro ⟨i, hi⟩
 dsimp only
 rcases (by omega : i = 0 ∨ i = 1 ∨ i = 2 ∨ i = 3) with rfl | rfl | rfl | rfl
 ·repeat' (first|(with_reducible first|apply qA|apply qB|apply qC|apply qD|apply qE|apply qF)|(simp (disch:=omega) only [go_sem, simprocAttr, qN, qO, qP, qQ, bxI0, bxZ0, f c0.1, g c0.2, f (show 1 ≤ alongI p by omega), g (show alongI p ≤ 1000 by omega), sm104, sm104b, sm104c, rowC_snocBla])|exact qM rfl rfl rfl|(refine qG rfl ?_)|(refine qK (b0) (by decide) ?_)|(refine qK (d0) (by decide) ?_)|(refine qK (k0) (by decide) ?_)|(refine qH rfl ?_)|(refine qI rfl ?_ ?_<;>intro hc<;>(try simp only [go_sem] at hc))|(refine qJ ?_ ?_<;>intro hc<;>(try simp only [hc])<;>(try simp only [go_sem] at hc)))
  refine ⟨⟨1, by omega⟩, ?_, Ent.to ?_ ?_⟩ <;> first | (show _ < _; (try simp only); omega) | (simp (disch:=omega) only [qR,qS,qTw,qU,get,Nat.reduceEqDiff,↓reduceIte,qV,qW,qX,qY,qZ,and_self,dI,i64_in,and_true,true_and,rA,rB,rC,rD, bxI0,bxZ0,bxI1,bxZ1])
  all_goals first | exact .refl _ | exact ⟨.refl _, .refl _⟩ | exact ⟨.refl _, .refl _, .refl _⟩
 ·repeat' (first|(with_reducible first|apply qA|apply qB|apply qC|apply qD|apply qE|apply qF)|(simp (disch:=omega) only [go_sem, simprocAttr, qN, qO, qP, qQ, bxI1, bxZ1, f c1.1, g c1.2, f (show 1 ≤ alongI q by omega), g (show alongI q ≤ 1000 by omega), sm104, sm104b, sm104c, rowC_snocBla])|exact qM rfl rfl rfl|(refine qG rfl ?_)|(refine qK (b1) (by decide) ?_)|(refine qK (d1) (by decide) ?_)|(refine qK (k1) (by decide) ?_)|(refine qH rfl ?_)|(refine qI rfl ?_ ?_<;>intro hc<;>(try simp only [go_sem] at hc))|(refine qJ ?_ ?_<;>intro hc<;>(try simp only [hc])<;>(try simp only [go_sem] at hc)))
  refine ⟨⟨2, by omega⟩, ?_, Ent.to ?_ ?_⟩ <;> first | (show _ < _; (try simp only); omega) | (simp (disch:=omega) only [qR,qS,qTw,qU,get,Nat.reduceEqDiff,↓reduceIte,qV,qW,qX,qY,qZ,and_self,dI,i64_in,and_true,true_and,rA,rB,rC,rD, bxI1,bxZ1,bxI2,bxZ2])
  all_goals first | exact .refl _ | exact ⟨.refl _, .refl _⟩ | exact ⟨.refl _, .refl _, .refl _⟩
 ·repeat' (first|(with_reducible first|apply qA|apply qB|apply qC|apply qD|apply qE|apply qF)|(simp (disch:=omega) only [go_sem, simprocAttr, qN, qO, qP, qQ, bxI2, bxZ2, f c2.1, g c2.2, f (show 1 ≤ alongI r by omega), g (show alongI r ≤ 1000 by omega), sm104, sm104b, sm104c, rowC_snocBla])|exact qM rfl rfl rfl|(refine qG rfl ?_)|(refine qK (b2) (by decide) ?_)|(refine qK (d2) (by decide) ?_)|(refine qK (k2) (by decide) ?_)|(refine qH rfl ?_)|(refine qI rfl ?_ ?_<;>intro hc<;>(try simp only [go_sem] at hc))|(refine qJ ?_ ?_<;>intro hc<;>(try simp only [hc])<;>(try simp only [go_sem] at hc)))
  refine ⟨⟨3, by omega⟩, ?_, Ent.to ?_ ?_⟩ <;> first | (show _ < _; (try simp only); omega) | (simp (disch:=omega) only [qR,qS,qTw,qU,get,Nat.reduceEqDiff,↓reduceIte,qV,qW,qX,qY,qZ,and_self,dI,i64_in,and_true,true_and,rA,rB,rC,rD, bxI2,bxZ2,bxI3,bxZ3])
  all_goals first | exact .refl _ | exact ⟨.refl _, .refl _⟩ | exact ⟨.refl _, .refl _, .refl _⟩
 ·repeat' (first|(with_reducible first|apply qA|apply qB|apply qC|apply qD|apply qE|apply qF)|(simp (disch:=omega) only [go_sem, simprocAttr, qN, qO, qP, qQ, bxI3, bxZ3])|exact qM rfl rfl rfl|(refine qG rfl ?_)|(refine qH rfl ?_)|(refine qI rfl ?_ ?_<;>intro hc<;>(try simp only [go_sem] at hc))|(refine qJ ?_ ?_<;>intro hc<;>(try simp only [hc])<;>(try simp only [go_sem] at hc)))
  (refine retS_ent (Ent.rel 51 rfl) ?_; simp (disch:=omega) only [go_sem,simprocAttr,qN,qO,qP,qQ])
  (refine retS_ent (Ent.rel 55 rfl) ?_; simp (disch:=omega) only [go_sem,simprocAttr,qN,qO,qP,qQ])
  (refine retS_ent (Ent.rel 59 rfl) ?_; simp (disch:=omega) only [go_sem,simprocAttr,qN,qO,qP,qQ])
  refine retS_wk rfl ?_ (by simp only [Blk.nb, rowC_nb, D.nb, D.nbs, C.nb, C.nbs, C.nbss, rows_nb eI_nb, Bool.and_true, Bool.not_false, Bool.and_self, bD, dI, iD, rows_nb eBla_nb, rows_nb eI_nb]); exact .refl _
end Go.Dw.Seat
end
section
set_option linter.unusedSimpArgs false
set_option maxRecDepth 100000
namespace Go.Dw.Seat.Tr
open Go Go.Dw Go.Proofs Go.IntWalk
theorem c122 (b : Bool) (l : List (Int)) (hl : l.length ≤ 2 ^ 36) (g : FuncId) (fs caps : List C) (p : Int → Bool) (hp : ∀ x ∈ l, DCall Try.prog g (fs.map D.c ++ [dI x] ++ caps.map D.c) [] (bD (p x)) []) : DCall Try.prog 134 [.c (.sl b 1 (rows eI l)), .c (.fn (.func g) fs caps)] [] (dI (idxI p l)) [] := by
 refine DCall.of Try.func134 sf134 hb134 (Nat.le_of_ble_eq_true rfl) (okRes_nil fun _ => rfl) ?_; simp only [s134, idxs, Nat.reduceAdd]
 repeat' (first|(with_reducible first|apply qA|apply qB|apply qC|apply qD|apply qE|apply qF)|(simp (disch:=omega) only [go_sem, simprocAttr, Blk.men, Blk.keysIn])|exact qM rfl rfl rfl|(refine qG rfl ?_)|(refine qH rfl ?_)|(refine qI rfl ?_ ?_<;>intro hc<;>(try simp only [go_sem] at hc))|(refine qJ ?_ ?_<;>intro hc<;>(try simp only [hc])<;>(try simp only [go_sem] at hc)))
 refine DW.loop (ι := { i : Nat // i ≤ l.length ∧ ∀ j u, j < i → l[j]? = some u → p u = false }) (fun i => ⟨19, [(8, dI i.1), (7, dI l.length), (1, .c (.fn (.func g) fs caps)), (0, .c (.sl b 1 (rows eI l)))], []⟩) (fun i => l.length - i.1) ⟨0, Nat.zero_le _, fun j u h => by omega⟩ ?_ ?_
 ·refine Ent.to ?_ ?_ <;> simp (disch:=omega) only [qR,qS,qTw,qU,get,Nat.reduceEqDiff,↓reduceIte,qV,qW,qX,qY,qZ,and_self,dI,i64_in,and_true,true_and,rA,rB,rC,rD]
 rintro ⟨i, hi, hij⟩
 rcases at_or l i hi with ⟨v, hv, hlt, hd⟩ | ⟨he, hd⟩
 ·have hcall := hp v (List.mem_of_getElem? hv)
  repeat' (first|(with_reducible first|apply qA|apply qB|apply qC|apply qD|apply qE|apply qF)|(simp (disch:=omega) only [go_sem, simprocAttr, Blk.men, Blk.keysIn, hd, hv, closeDs_fn, rF, rG])|exact qM rfl rfl rfl|(refine qG rfl ?_)|(refine qH rfl ?_)|(refine qI rfl ?_ ?_<;>intro hc<;>(try simp only [go_sem] at hc))|(refine qJ ?_ ?_<;>intro hc<;>(try simp only [hc])<;>(try simp only [go_sem] at hc)))
  refine call_c hcall (by decide) ?_
  simp (disch:=omega) only [go_sem,simprocAttr,Blk.men,Blk.keysIn]
  refine DW.cond rfl ?_ ?_ <;> intro hc
  ·repeat' (first|(with_reducible first|apply qA|apply qB|apply qC|apply qD|apply qE|apply qF)|(simp (disch:=omega) only [go_sem, simprocAttr, Blk.men, Blk.keysIn])|exact qM rfl rfl rfl|(refine qG rfl ?_)|(refine qH rfl ?_)|(refine qI rfl ?_ ?_<;>intro hc<;>(try simp only [go_sem] at hc))|(refine qJ ?_ ?_<;>intro hc<;>(try simp only [hc])<;>(try simp only [go_sem] at hc)))
   refine retS_of rfl ?_ rfl; simp only [oneD, St.op, get, Nat.reduceEqDiff, ↓reduceIte, Option.getD_some, bD, dI]
   simp only [idxI, idxOf_some hij hv hc]
  ·repeat' (first|(with_reducible first|apply qA|apply qB|apply qC|apply qD|apply qE|apply qF)|(simp (disch:=omega) only [go_sem, simprocAttr, Blk.men, Blk.keysIn])|exact qM rfl rfl rfl|(refine qG rfl ?_)|(refine qH rfl ?_)|(refine qI rfl ?_ ?_<;>intro hc<;>(try simp only [go_sem] at hc))|(refine qJ ?_ ?_<;>intro hc<;>(try simp only [hc])<;>(try simp only [go_sem] at hc)))
   refine ⟨⟨i + 1, by omega, fun j u hj hu => by
    rcases Nat.lt_or_ge j i with h | h
    ·exact hij j u h hu
    ·have : j = i := by omega
     subst this
     rw [hv] at hu; cases hu; exact hc⟩, ?_, Ent.to ?_ ?_⟩ <;> first | (show _ < _; (try simp only); omega) | (simp (disch:=omega) only [qR,qS,qTw,qU,get,Nat.reduceEqDiff,↓reduceIte,qV,qW,qX,qY,qZ,and_self,dI,i64_in,and_true,true_and,rA,rB,rC,rD])
 ·repeat' (first|(with_reducible first|apply qA|apply qB|apply qC|apply qD|apply qE|apply qF)|(simp (disch:=omega) only [go_sem, simprocAttr, Blk.men, Blk.keysIn, hd])|exact qM rfl rfl rfl|(refine qG rfl ?_)|(refine qH rfl ?_)|(refine qI rfl ?_ ?_<;>intro hc<;>(try simp only [go_sem] at hc))|(refine qJ ?_ ?_<;>intro hc<;>(try simp only [hc])<;>(try simp only [go_sem] at hc)))
  refine retS_of rfl ?_ rfl; simp only [oneD, St.op, get, Nat.reduceEqDiff, ↓reduceIte, Option.getD_some, bD, dI]
  simp only [idxI, idxOf_none (he ▸ hij)]
theorem c110 (b : Bool) (l : List (Int)) (hl : l.length ≤ 2 ^ 36) (g : FuncId) (fs caps : List C) (p : Int → Bool) (hp : ∀ x ∈ l, DCall Try.prog g (fs.map D.c ++ [dI x] ++ caps.map D.c) [] (bD (p x)) []) : DCall Try.prog 88 [.c (.sl b 1 (rows eI l)), .c (.fn (.func g) fs caps)] [] (bD (l.any p)) [] := by
 refine DCall.of Try.func88 sf88 hb88 (Nat.le_of_ble_eq_true rfl) (okRes_nil fun _ => rfl) ?_; simp only [s88, idxs, Nat.reduceAdd]
 repeat' (first|(with_reducible first|apply qA|apply qB|apply qC|apply qD|apply qE|apply qF)|(simp (disch:=omega) only [go_sem, simprocAttr, Blk.men, Blk.keysIn])|exact qM rfl rfl rfl|(refine qG rfl ?_)|(refine qH rfl ?_)|(refine qI rfl ?_ ?_<;>intro hc<;>(try simp only [go_sem] at hc))|(refine qJ ?_ ?_<;>intro hc<;>(try simp only [hc])<;>(try simp only [go_sem] at hc)))
 refine call_c (c122 b l hl g fs caps p hp) (by decide) ?_
 repeat' (first|(with_reducible first|apply qA|apply qB|apply qC|apply qD|apply qE|apply qF)|(simp (disch:=omega) only [go_sem, simprocAttr, Blk.men, Blk.keysIn])|exact qM rfl rfl rfl|(refine qG rfl ?_)|(refine qH rfl ?_)|(refine qI rfl ?_ ?_<;>intro hc<;>(try simp only [go_sem] at hc))|(refine qJ ?_ ?_<;>intro hc<;>(try simp only [hc])<;>(try simp only [go_sem] at hc)))
 refine retS_of rfl ?_ rfl; simp only [oneD, St.op, get, Nat.reduceEqDiff, ↓reduceIte, Option.getD_some, bD, dI]
 rw [idxI_any]
def wthn (lo hi : Int) (l : List Int) : Bool := !(l.any fun n => decide (n < lo) || decide (hi < n))
theorem wthn_one {lo hi n : Int} (h : wthn lo hi [n] = true) : lo ≤ n ∧ n ≤ hi := by
 simp [wthn] at h; omega
theorem trW1 (n lo hi : Int) (p q : Bool) : DCall Try.prog 146 [dI n, .c (.ro p [.v (.int .i64 lo)] 0), .c (.ro q [.v (.int .i64 hi)] 0)] [] (bD (decide (n < lo) || decide (hi < n))) [] := by
 refine DCall.of Try.func146 sf146 hb146 (Nat.le_of_ble_eq_true rfl) (okRes_nil fun _ => rfl) ?_; simp only [s146, idxs, Nat.reduceAdd]
 repeat' (first|(with_reducible first|apply qA|apply qB|apply qC|apply qD|apply qE|apply qF)|(simp (disch:=omega) only [go_sem, simprocAttr, Blk.men, Blk.keysIn])|exact qM rfl rfl rfl|(refine qG rfl ?_)|(refine qH rfl ?_)|(refine qI rfl ?_ ?_<;>intro hc<;>(try simp only [go_sem] at hc))|(refine qJ ?_ ?_<;>intro hc<;>(try simp only [hc])<;>(try simp only [go_sem] at hc)))
theorem trWithin (b : Bool) (lo hi : Int) (l : List Int) (hl : l.length ≤ 2 ^ 36) : DCall Try.prog 116 [dI lo, dI hi, dIs b l] [] (bD (wthn lo hi l)) [] := by
 refine DCall.of Try.func116 sf116 hb116 (Nat.le_of_ble_eq_true rfl) (okRes_nil fun _ => rfl) ?_; simp only [s116, idxs, Nat.reduceAdd]
 repeat' (first|(with_reducible first|apply qA|apply qB|apply qC|apply qD|apply qE|apply qF)|(simp (disch:=omega) only [go_sem, simprocAttr, Blk.men, Blk.keysIn])|exact qM rfl rfl rfl|(refine qG rfl ?_)|(refine qH rfl ?_)|(refine qI rfl ?_ ?_<;>intro hc<;>(try simp only [go_sem] at hc))|(refine qJ ?_ ?_<;>intro hc<;>(try simp only [hc])<;>(try simp only [go_sem] at hc)))
 (refine call_c (c110 b l hl 146 [] [.ro true [.v (.int .i64 lo)] 0, .ro true [.v (.int .i64 hi)] 0] (fun n => decide (n < lo) || decide (hi < n)) (fun x _ => trW1 x lo hi true true)) (by decide) ?_; simp (disch:=omega) only [go_sem,simprocAttr,Blk.men,Blk.keysIn])
 repeat' (first|(with_reducible first|apply qA|apply qB|apply qC|apply qD|apply qE|apply qF)|(simp (disch:=omega) only [go_sem, simprocAttr, Blk.men, Blk.keysIn])|exact qM rfl rfl rfl|(refine qG rfl ?_)|(refine qH rfl ?_)|(refine qI rfl ?_ ?_<;>intro hc<;>(try simp only [go_sem] at hc))|(refine qJ ?_ ?_<;>intro hc<;>(try simp only [hc])<;>(try simp only [go_sem] at hc)))
theorem wthn_yes {lo hi : Int} {l : List Int} (h : ∀ v ∈ l, lo ≤ v ∧ v ≤ hi) : wthn lo hi l = true := by
 simp only [wthn, Bool.not_eq_true', List.any_eq_false, Bool.or_eq_true, decide_eq_true_eq]
 intro v hv
 have := h v hv
 omega
theorem wthn_all {lo hi : Int} {l : List Int} (h : wthn lo hi l = true) : ∀ v ∈ l, lo ≤ v ∧ v ≤ hi := by
 simp only [wthn, Bool.not_eq_true', List.any_eq_false, Bool.or_eq_true, decide_eq_true_eq] at h
 intro v hv
 have := h v hv
 omega
theorem wthn_two {lo hi a b : Int} (h : wthn lo hi [a, b] = true) : (lo ≤ a ∧ a ≤ hi) ∧ lo ≤ b ∧ b ≤ hi :=
 ⟨wthn_all h a (by simp), wthn_all h b (by simp)⟩
def spanOk (lo hi least most : Int) : Bool := wthn least most [lo, hi] && decide (lo ≤ hi)
theorem spanOk_yes {lo hi least most : Int} (h : least ≤ lo ∧ lo ≤ hi ∧ hi ≤ most) : spanOk lo hi least most = true := by
 unfold spanOk
 rw [wthn_yes (by simp; omega), decide_eq_true h.2.1]; rfl
theorem spanOk_all {lo hi least most : Int} (h : spanOk lo hi least most = true) : least ≤ lo ∧ lo ≤ hi ∧ hi ≤ most := by
 simp only [spanOk, Bool.and_eq_true, decide_eq_true_eq] at h
 have := wthn_two h.1
 omega
theorem crSpanG (lo hi least most : Int) : DCall Try.prog 117 [.agg [dI lo, dI hi], dI least, dI most] [] (bD (spanOk lo hi least most)) [] := by
 have h1 := trWithin true least most [lo, hi] (by simp)
 unfold spanOk
 cases h : wthn least most [lo, hi] <;> rw [h] at h1 <;> simp only [Bool.true_and, Bool.false_and]
 ·refine DCall.of Try.func117 sf117 hb117 (Nat.le_of_ble_eq_true rfl) (okRes_nil fun _ => rfl) ?_; simp only [s117, idxs, Nat.reduceAdd]
  repeat' (first|(with_reducible first|apply qA|apply qB|apply qC|apply qD|apply qE|apply qF)|(simp (disch:=omega) only [go_sem, simprocAttr, Blk.men, Blk.keysIn])|exact qM rfl rfl rfl|(refine qG rfl ?_)|(refine qK (h1) (by decide) ?_)|(refine qH rfl ?_)|(refine qI rfl ?_ ?_<;>intro hc<;>(try simp only [go_sem] at hc))|(refine qJ ?_ ?_<;>intro hc<;>(try simp only [hc])<;>(try simp only [go_sem] at hc)))
 ·refine DCall.of Try.func117 sf117 hb117 (Nat.le_of_ble_eq_true rfl) (okRes_nil fun _ => rfl) ?_; simp only [s117, idxs, Nat.reduceAdd]
  repeat' (first|(with_reducible first|apply qA|apply qB|apply qC|apply qD|apply qE|apply qF)|(simp (disch:=omega) only [go_sem, simprocAttr, Blk.men, Blk.keysIn])|exact qM rfl rfl rfl|(refine qG rfl ?_)|(refine qK (h1) (by decide) ?_)|(refine qH rfl ?_)|(refine qI rfl ?_ ?_<;>intro hc<;>(try simp only [go_sem] at hc))|(refine qJ ?_ ?_<;>intro hc<;>(try simp only [hc])<;>(try simp only [go_sem] at hc)))
end Go.Dw.Seat.Tr
end
section
set_option linter.unusedSimpArgs false
set_option maxRecDepth 100000
namespace Go.Dw.Seat.Tr
open Go Go.Dw Go.Proofs Go.IntWalk
theorem crNaN (a : Int) : DCall Try.prog 173 [dI a] [] (bD false) [] := by
 refine DCall.of Try.func173 sf173 hb173 (Nat.le_of_ble_eq_true rfl) (okRes_nil fun _ => rfl) ?_; simp only [s173, idxs, Nat.reduceAdd]
 repeat' (first|(with_reducible first|apply qA|apply qB|apply qC|apply qD|apply qE|apply qF)|(simp (disch:=omega) only [go_sem, simprocAttr, Blk.men, Blk.keysIn])|exact qM rfl rfl rfl|(refine qG rfl ?_)|(refine qH rfl ?_)|(refine qI rfl ?_ ?_<;>intro hc<;>(try simp only [go_sem] at hc))|(refine qJ ?_ ?_<;>intro hc<;>(try simp only [hc])<;>(try simp only [go_sem] at hc)))
def cmpI (a b : Int) : Int := if a < b then -1 else if b < a then 1 else 0
theorem crCmp (a b : Int) : DCall Try.prog 163 [dI a, dI b] [] (dI (cmpI a b)) [] := by
 have h1 := crNaN a
 have h2 := crNaN b
 by_cases hab : a < b
 ·have d1 : decide (a < b) = true := decide_eq_true hab
  have e : cmpI a b = -1 := if_pos hab
  rw [e]
  refine DCall.of Try.func163 sf163 hb163 (Nat.le_of_ble_eq_true rfl) (okRes_nil fun _ => rfl) ?_; simp only [s163, idxs, Nat.reduceAdd]
  repeat' (first|(with_reducible first|apply qA|apply qB|apply qC|apply qD|apply qE|apply qF)|(simp (disch:=omega) only [go_sem, simprocAttr, Blk.men, Blk.keysIn, d1])|exact qM rfl rfl rfl|(refine qG rfl ?_)|(refine qK (h1) (by decide) ?_)|(refine qK (h2) (by decide) ?_)|(refine qH rfl ?_)|(refine qI rfl ?_ ?_<;>intro hc<;>(try simp only [go_sem] at hc))|(refine qJ ?_ ?_<;>intro hc<;>(try simp only [hc])<;>(try simp only [go_sem] at hc)))
 have d1 : decide (a < b) = false := decide_eq_false hab
 by_cases hba : b < a
 ·have d2 : decide (b < a) = true := decide_eq_true hba
  have e : cmpI a b = 1 := by rw [cmpI, if_neg hab, if_pos hba]
  rw [e]
  refine DCall.of Try.func163 sf163 hb163 (Nat.le_of_ble_eq_true rfl) (okRes_nil fun _ => rfl) ?_; simp only [s163, idxs, Nat.reduceAdd]
  repeat' (first|(with_reducible first|apply qA|apply qB|apply qC|apply qD|apply qE|apply qF)|(simp (disch:=omega) only [go_sem, simprocAttr, Blk.men, Blk.keysIn, d1, d2])|exact qM rfl rfl rfl|(refine qG rfl ?_)|(refine qK (h1) (by decide) ?_)|(refine qK (h2) (by decide) ?_)|(refine qH rfl ?_)|(refine qI rfl ?_ ?_<;>intro hc<;>(try simp only [go_sem] at hc))|(refine qJ ?_ ?_<;>intro hc<;>(try simp only [hc])<;>(try simp only [go_sem] at hc)))
 ·have d2 : decide (b < a) = false := decide_eq_false hba
  have e : cmpI a b = 0 := by rw [cmpI, if_neg hab, if_neg hba]
  rw [e]
  refine DCall.of Try.func163 sf163 hb163 (Nat.le_of_ble_eq_true rfl) (okRes_nil fun _ => rfl) ?_; simp only [s163, idxs, Nat.reduceAdd]
  repeat' (first|(with_reducible first|apply qA|apply qB|apply qC|apply qD|apply qE|apply qF)|(simp (disch:=omega) only [go_sem, simprocAttr, Blk.men, Blk.keysIn, d1, d2])|exact qM rfl rfl rfl|(refine qG rfl ?_)|(refine qK (h1) (by decide) ?_)|(refine qK (h2) (by decide) ?_)|(refine qH rfl ?_)|(refine qI rfl ?_ ?_<;>intro hc<;>(try simp only [go_sem] at hc))|(refine qJ ?_ ?_<;>intro hc<;>(try simp only [hc])<;>(try simp only [go_sem] at hc)))
def cmpL : List Int → List Int → Int
 | [], [] => 0
 | [], _ :: _ => -1
 | _ :: _, [] => 1
 | a :: s, b :: t => if cmpI a b = 0 then cmpL s t else cmpI a b
theorem drop_cons {α : Type} {l : List α} {i : Nat} {v : α} (h : l[i]? = some v) : l.drop i = v :: l.drop (i + 1) := by
 have hlt := (List.getElem?_eq_some_iff.1 h).1
 have e : l[i] = v := (List.getElem?_eq_some_iff.1 h).2
 rw [← e]; exact List.drop_eq_getElem_cons hlt
theorem crCmpL (b1 b2 : Bool) (s t : List Int) (hs : s.length ≤ 2 ^ 36) (ht : t.length ≤ 2 ^ 36) : DCall Try.prog 149 [dIs b1 s, dIs b2 t] [] (dI (cmpL s t)) [] := by
 generalize hR : cmpL s t = R
 refine DCall.of Try.func149 sf149 hb149 (Nat.le_of_ble_eq_true rfl) (okRes_nil fun _ => rfl) ?_; simp only [s149, idxs, Nat.reduceAdd]
 repeat' (first|(with_reducible first|apply qA|apply qB|apply qC|apply qD|apply qE|apply qF)|(simp (disch:=omega) only [go_sem, simprocAttr, Blk.men, Blk.keysIn])|exact qM rfl rfl rfl|(refine qG rfl ?_)|(refine qH rfl ?_)|(refine qI rfl ?_ ?_<;>intro hc<;>(try simp only [go_sem] at hc))|(refine qJ ?_ ?_<;>intro hc<;>(try simp only [hc])<;>(try simp only [go_sem] at hc)))
 refine DW.loop (ι := { i : Nat // i ≤ s.length ∧ i ≤ t.length ∧ cmpL (s.drop i) (t.drop i) = R }) (fun i => ⟨36, [(11, dI i.1), (10, dI s.length), (9, dIs b1 s), (1, dIs b2 t), (0, dIs b1 s)], []⟩) (fun i => s.length - i.1) ⟨0, Nat.zero_le _, Nat.zero_le _, hR⟩ ?_ ?_
 ·refine Ent.to ?_ ?_ <;> simp (disch:=omega) only [qR,qS,qTw,qU,get,Nat.reduceEqDiff,↓reduceIte,qV,qW,qX,qY,qZ,and_self,dI,i64_in,and_true,true_and,rA,rB,rC,rD]
 rintro ⟨i, hi, hit, hr⟩
 rcases at_or s i hi with ⟨v, hv, hlt, hd⟩ | ⟨he, hd⟩
 ·rw [drop_cons hv] at hr
  rcases Nat.lt_or_ge i t.length with hlt2 | hge
  ·obtain ⟨u, hu⟩ := getE (l := t) (i := i) hlt2
   have hdt : decide ((t.length : Int) ≤ (i : Int)) = false := by rw [decide_eq_false_iff_not]; omega
   have hc := crCmp v u
   rw [drop_cons hu, cmpL] at hr
   by_cases h0 : cmpI v u = 0
   ·have e : (cmpI v u != 0) = false := by rw [h0]; rfl
    rw [if_pos h0] at hr
    repeat' (first|(with_reducible first|apply qA|apply qB|apply qC|apply qD|apply qE|apply qF)|(simp (disch:=omega) only [go_sem, simprocAttr, Blk.men, Blk.keysIn, hd, hv, hdt, hu, e])|exact qM rfl rfl rfl|(refine qG rfl ?_)|(refine qK (hc) (by decide) ?_)|(refine qH rfl ?_)|(refine qI rfl ?_ ?_<;>intro hc<;>(try simp only [go_sem] at hc))|(refine qJ ?_ ?_<;>intro hc<;>(try simp only [hc])<;>(try simp only [go_sem] at hc)))
    refine ⟨⟨i + 1, hlt, hlt2, hr⟩, ?_, Ent.to ?_ ?_⟩ <;> first | (show _ < _; (try simp only); omega) | (simp (disch:=omega) only [qR,qS,qTw,qU,get,Nat.reduceEqDiff,↓reduceIte,qV,qW,qX,qY,qZ,and_self,dI,i64_in,and_true,true_and,rA,rB,rC,rD])
   ·have e : (cmpI v u != 0) = true := by simpa using h0
    rw [if_neg h0] at hr
    repeat' (first|(with_reducible first|apply qA|apply qB|apply qC|apply qD|apply qE|apply qF)|(simp (disch:=omega) only [go_sem, simprocAttr, Blk.men, Blk.keysIn, hd, hv, hdt, hu, e])|exact qM rfl rfl rfl|(refine qG rfl ?_)|(refine qK (hc) (by decide) ?_)|(refine qH rfl ?_)|(refine qI rfl ?_ ?_<;>intro hc<;>(try simp only [go_sem] at hc))|(refine qJ ?_ ?_<;>intro hc<;>(try simp only [hc])<;>(try simp only [go_sem] at hc)))
    refine retS_of rfl ?_ rfl; simp only [oneD, St.op, get, Nat.reduceEqDiff, ↓reduceIte, Option.getD_some, bD, dI]
    rw [← hr]
  ·have hdt : decide ((t.length : Int) ≤ (i : Int)) = true := by rw [decide_eq_true_eq]; omega
   rw [List.drop_of_length_le hge, cmpL] at hr
   repeat' (first|(with_reducible first|apply qA|apply qB|apply qC|apply qD|apply qE|apply qF)|(simp (disch:=omega) only [go_sem, simprocAttr, Blk.men, Blk.keysIn, hd, hv, hdt])|exact qM rfl rfl rfl|(refine qG rfl ?_)|(refine qH rfl ?_)|(refine qI rfl ?_ ?_<;>intro hc<;>(try simp only [go_sem] at hc))|(refine qJ ?_ ?_<;>intro hc<;>(try simp only [hc])<;>(try simp only [go_sem] at hc)))
   refine retS_of rfl ?_ rfl; simp only [oneD, St.op, get, Nat.reduceEqDiff, ↓reduceIte, Option.getD_some, bD, dI]
   rw [← hr]
 ·rw [List.drop_of_length_le (by omega : s.length ≤ i)] at hr
  rcases Nat.lt_or_ge s.length t.length with h1 | h1
  ·have hdl : decide ((s.length : Int) < (t.length : Int)) = true := by rw [decide_eq_true_eq]; omega
   obtain ⟨u, hu⟩ := getE (l := t) (i := i) (by omega)
   rw [drop_cons hu, cmpL] at hr
   repeat' (first|(with_reducible first|apply qA|apply qB|apply qC|apply qD|apply qE|apply qF)|(simp (disch:=omega) only [go_sem, simprocAttr, Blk.men, Blk.keysIn, hd, hdl])|exact qM rfl rfl rfl|(refine qG rfl ?_)|(refine qH rfl ?_)|(refine qI rfl ?_ ?_<;>intro hc<;>(try simp only [go_sem] at hc))|(refine qJ ?_ ?_<;>intro hc<;>(try simp only [hc])<;>(try simp only [go_sem] at hc)))
   refine retS_of rfl ?_ rfl; simp only [oneD, St.op, get, Nat.reduceEqDiff, ↓reduceIte, Option.getD_some, bD, dI]
   rw [← hr]
  ·have hdl : decide ((s.length : Int) < (t.length : Int)) = false := by rw [decide_eq_false_iff_not]; omega
   rw [List.drop_of_length_le (by omega : t.length ≤ i), cmpL] at hr
   repeat' (first|(with_reducible first|apply qA|apply qB|apply qC|apply qD|apply qE|apply qF)|(simp (disch:=omega) only [go_sem, simprocAttr, Blk.men, Blk.keysIn, hd, hdl])|exact qM rfl rfl rfl|(refine qG rfl ?_)|(refine qH rfl ?_)|(refine qI rfl ?_ ?_<;>intro hc<;>(try simp only [go_sem] at hc))|(refine qJ ?_ ?_<;>intro hc<;>(try simp only [hc])<;>(try simp only [go_sem] at hc)))
   refine retS_of rfl ?_ rfl; simp only [oneD, St.op, get, Nat.reduceEqDiff, ↓reduceIte, Option.getD_some, bD, dI]
   rw [← hr]
theorem c106 (b : Bool) (l : List Int) (hl : l.length ≤ 2 ^ 36) (k : Nat) : DCall Try.prog 153 [dIs b l] [] (.own k) [(k, .row 1 (rowC (rows eI l)))] := by
 have hnb : ∀ l : List Int, Blk.nb (.row 1 (rowC (rows eI l))) = true := fun l => rowC_nb (rows_nb eI_nb l)
 refine DCall.rename (k0 := 5) ?_ k
 cases l with
 | nil =>
  refine DCall.nil1 (fun a c => ?_)
  cases a with
  | none =>
   refine DCall.of Try.func153 sf153 hb153 (Nat.le_of_ble_eq_true rfl) okRes_row ?_; simp only [s153, idxs, Nat.reduceAdd]
   repeat' (first|(with_reducible first|apply qA|apply qB|apply qC|apply qD|apply qE|apply qF)|(simp (disch:=omega) only [go_sem, simprocAttr, Blk.men, Blk.keysIn, Option.isNone])|exact qM rfl rfl rfl|(refine qG rfl ?_)|(refine qH rfl ?_)|(refine qI rfl ?_ ?_<;>intro hc<;>(try simp only [go_sem] at hc))|(refine qJ ?_ ?_<;>intro hc<;>(try simp only [hc])<;>(try simp only [go_sem] at hc)))
   refine retS_ent (Ent.adopt 2 5 1 rfl rfl rfl) ?_
   simp (disch:=omega) only [go_sem,simprocAttr,Blk.men,Blk.keysIn]
   refine retS_row ?_ ?_ (hnb []) <;> rfl
  | some a =>
   refine DCall.of Try.func153 sf153 hb153 (Nat.le_of_ble_eq_true rfl) okRes_row ?_; simp only [s153, idxs, Nat.reduceAdd]
   refine DW.seq (DW.reg ?_)
   simp (disch:=omega) only [go_sem,simprocAttr,Blk.men,Blk.keysIn]
   refine DW.seq (DW.seq (DW.reg ?_))
   simp (disch:=omega) only [go_sem,simprocAttr,Blk.men,Blk.keysIn,Option.isNone]
   refine DW.cond_ff rfl (DW.skip ?_)
   simp (disch:=omega) only [go_sem,simprocAttr,Blk.men,Blk.keysIn]
   refine DW.ent (Ent.to (tm' := [(0, .c (.sl b 1 []))]) (bx' := []) (by simp (disch:=omega) only [qR,qS,qTw,qU,get,Nat.reduceEqDiff,↓reduceIte,qV,qW,qX,qY,qZ,and_self,dI,i64_in,and_true,true_and,rA,rB,rC,rD]) trivial) ?_
   repeat' (first|(with_reducible first|apply qA|apply qB|apply qC|apply qD|apply qE|apply qF)|(simp (disch:=omega) only [go_sem, simprocAttr, Blk.men, Blk.keysIn])|exact qM rfl rfl rfl|(refine qG rfl ?_)|(refine qH rfl ?_)|(refine qI rfl ?_ ?_<;>intro hc<;>(try simp only [go_sem] at hc))|(refine qJ ?_ ?_<;>intro hc<;>(try simp only [hc])<;>(try simp only [go_sem] at hc)))
   refine retS_row ?_ ?_ (hnb []) <;> rfl
 | cons x l =>
  simp only [List.length_cons] at hl
  refine DCall.of Try.func153 sf153 hb153 (Nat.le_of_ble_eq_true rfl) okRes_row ?_; simp only [s153, idxs, Nat.reduceAdd]
  repeat' (first|(with_reducible first|apply qA|apply qB|apply qC|apply qD|apply qE|apply qF)|(simp (disch:=omega) only [go_sem, simprocAttr, Blk.men, Blk.keysIn, rows_cons])|exact qM rfl rfl rfl|(refine qG rfl ?_)|(refine qH rfl ?_)|(refine qI rfl ?_ ?_<;>intro hc<;>(try simp only [go_sem] at hc))|(refine qJ ?_ ?_<;>intro hc<;>(try simp only [hc])<;>(try simp only [go_sem] at hc)))
  refine retS_row ?_ ?_ (hnb (x :: l)) <;> rfl
def dupAt : List Int → Nat → Option Nat
 | a :: b :: l, k => if b = a then some (k + 1) else dupAt (b :: l) (k + 1)
 | _, _ => none
def keptTo (s : List Int) (m : Nat) : List Int := (((s.tail.zip s).take m).filter fun q => decide (q.1 ≠ q.2)).map (·.1)
def cpt (l : List Int) : List Int := match dupAt l 0 with
 | none => l
 | some k => l.take k ++ keptTo (l.drop k) ((l.drop k).length - 1)
theorem keptTo_len (s : List Int) (m : Nat) : (keptTo s m).length ≤ m := by
 simp only [keptTo, List.length_map]
 refine Nat.le_trans (List.length_filter_le _ _) ?_
 rw [List.length_take]; omega
theorem keptTo_succ {s : List Int} {m : Nat} {a b : Int} (ha : s[m]? = some a) (hb : s[m + 1]? = some b) : keptTo s (m + 1) = keptTo s m ++ if b = a then [] else [b] := by
 have hz : (s.tail.zip s)[m]? = some (b, a) := by
  rw [List.getElem?_zip_eq_some]
  exact ⟨by rw [List.getElem?_tail]; exact hb, ha⟩
 simp only [keptTo, List.take_add_one, hz, List.filter_append, List.map_append, Option.toList_some]
 congr 1
 by_cases h : b = a <;> simp [h]
structure Cp (l : List Int) (K m : Nat) (cur : List Int) : Prop where
 le : K + m + 1 ≤ l.length
 len : cur.length = l.length
 tk : cur.take (K + (keptTo (l.drop K) m).length) = l.take K ++ keptTo (l.drop K) m
 dr : cur.drop (K + m) = l.drop (K + m)
theorem Cp.step {l : List Int} {K m : Nat} {cur : List Int} {a b : Int} (h : Cp l K m cur) (hlt : K + m + 1 < l.length) (ha : l[K + m]? = some a) (hb : l[K + m + 1]? = some b) :
  (b = a → Cp l K (m + 1) cur ∧ (keptTo (l.drop K) (m + 1)).length = (keptTo (l.drop K) m).length) ∧
  (b ≠ a → Cp l K (m + 1) (cur.set (K + (keptTo (l.drop K) m).length) b) ∧ (keptTo (l.drop K) (m + 1)).length = (keptTo (l.drop K) m).length + 1) := by
 have hk := keptTo_succ (s := l.drop K) (m := m) (a := a) (b := b) (by rw [List.getElem?_drop]; exact ha) (by rw [List.getElem?_drop]; exact hb)
 have h1 := keptTo_len (l.drop K) m
 have h2 := h.tk
 have h3 := h.len
 have h4 : cur.drop (K + (m + 1)) = l.drop (K + (m + 1)) := by
  have := congrArg (List.drop 1) h.dr
  simpa [List.drop_drop, Nat.add_assoc] using this
 generalize keptTo (l.drop K) m = f at *
 constructor
 ·intro hba
  rw [if_pos hba, List.append_nil] at hk
  exact ⟨⟨by omega, h3, by rw [hk]; exact h2, h4⟩, by rw [hk]⟩
 ·intro hba
  rw [if_neg hba] at hk
  refine ⟨⟨by omega, by simp [h3], ?_, ?_⟩, by rw [hk]; simp⟩
  ·rw [hk]
   simp only [List.length_append, List.length_cons, List.length_nil, ← Nat.add_assoc]
   rw [List.take_add_one, List.take_set_of_le (Nat.le_refl _), h2, List.getElem?_set_self (by omega), List.append_assoc]
   rfl
  ·rw [List.drop_set_of_lt (by omega)]
   exact h4
theorem Cp.fin {l : List Int} {K m : Nat} {cur : List Int} (h : Cp l K m cur) (hm : m + 1 = (l.drop K).length) (hd : dupAt l 0 = some K) : cur.take (K + (keptTo (l.drop K) m).length) = cpt l := by
 unfold cpt
 rw [hd, h.tk]
 dsimp only
 rw [← hm, Nat.add_sub_cancel]
end Go.Dw.Seat.Tr
end
section
set_option linter.unusedSimpArgs false
set_option maxRecDepth 100000
namespace Go.Dw.Seat.Tr
open Go Go.Dw Go.IntWalk
structure TPap where
 wide : Int
 tl : Int
 th : Int
 webs : Int
structure TOrd where
 w : Int
 lo : Int
 hi : Int
structure TStp where
 ws : List Int
 run : Int
structure TPap.ok (p : TPap) : Prop where
 wide : 1 ≤ p.wide ∧ p.wide ≤ 3000
 trim : 0 ≤ p.tl ∧ p.tl ≤ p.th ∧ p.th ≤ 3000
 webs : 1 ≤ p.webs ∧ p.webs ≤ 4
structure TOrd.ok (o : TOrd) : Prop where
 w : 1 ≤ o.w ∧ o.w ≤ 3000
 need : 0 ≤ o.lo ∧ o.lo ≤ o.hi ∧ o.hi ≤ 100
def dotI : List Int → List TOrd → Int
 | n :: ws, o :: l => n * o.w + dotI ws l
 | _, _ => 0
def trimI (p : TPap) (l : List TOrd) (ws : List Int) : Int := p.wide - dotI ws l
def sumI : List Int → Int
 | [] => 0
 | n :: ws => n + sumI ws
def usedI : List Int → Int
 | [] => 0
 | n :: ws => (if 0 < n then 1 else 0) + usedI ws
def patB (p : TPap) (l : List TOrd) (ws : List Int) : Bool := (decide (1 ≤ sumI ws) && decide (sumI ws ≤ p.webs)) && decide (usedI ws ≤ 2) && (decide (p.tl ≤ trimI p l ws) && decide (trimI p l ws ≤ p.th))
def allW : Nat → List (List Int)
 | 0 => [[]]
 | n + 1 => [0, 1, 2, 3, 4].flatMap fun d => (allW n).map (d :: ·)
def pats (p : TPap) (l : List TOrd) : List (List Int) := (allW l.length).filter (patB p l)
def lexW : List Int → List Int → Bool
 | a :: s, b :: t => if a = b then lexW s t else decide (a < b)
 | _, _ => false
theorem lexW_irr : ∀ s : List Int, lexW s s = false
 | [] => rfl
 | a :: s => by rw [lexW, if_pos rfl]; exact lexW_irr s
theorem lexW_asym : ∀ {s t : List Int}, lexW s t = true → lexW t s = false
 | [], _, h => by cases h
 | _ :: _, [], h => by cases h
 | a :: s, b :: t, h => by
  simp only [lexW] at h ⊢
  by_cases e : a = b
  ·subst e; rw [if_pos rfl] at h ⊢; exact lexW_asym h
  ·rw [if_neg e] at h; rw [if_neg (fun e2 => e e2.symm)]
   simp only [decide_eq_true_eq, decide_eq_false_iff_not] at h ⊢; omega
theorem lexW_trans : ∀ {s t u : List Int}, lexW s t = true → lexW t u = true → lexW s u = true
 | [], _, _, h, _ => by cases h
 | _ :: _, [], _, h, _ => by cases h
 | _ :: _, _ :: _, [], _, h => by cases h
 | a :: s, b :: t, c :: u, h1, h2 => by
  simp only [lexW] at h1 h2 ⊢
  by_cases e1 : a = b
  ·subst e1
   rw [if_pos rfl] at h1
   by_cases e2 : a = c
   ·subst e2; rw [if_pos rfl] at h2 ⊢; exact lexW_trans h1 h2
   ·rw [if_neg e2] at h2 ⊢; exact h2
  ·rw [if_neg e1] at h1
   simp only [decide_eq_true_eq] at h1
   by_cases e2 : b = c
   ·subst e2; rw [if_neg e1]; exact decide_eq_true h1
   ·rw [if_neg e2] at h2
    simp only [decide_eq_true_eq] at h2
    rw [if_neg (by omega)]; exact decide_eq_true (by omega)
def ltP : List TStp → List TStp → Bool
 | a :: s, b :: t => if a.ws = b.ws then (if a.run = b.run then ltP s t else decide (a.run < b.run)) else lexW a.ws b.ws
 | _, _ => false
theorem ltP_asym : ∀ {s t : List TStp}, ltP s t = true → ltP t s = false
 | [], _, h => by cases h
 | _ :: _, [], h => by cases h
 | a :: s, b :: t, h => by
  simp only [ltP] at h ⊢
  by_cases e : a.ws = b.ws
  ·rw [if_pos e] at h; rw [if_pos e.symm]
   by_cases e2 : a.run = b.run
   ·rw [if_pos e2] at h; rw [if_pos e2.symm]; exact ltP_asym h
   ·rw [if_neg e2] at h; rw [if_neg (fun x => e2 x.symm)]
    simp only [decide_eq_true_eq, decide_eq_false_iff_not] at h ⊢; omega
  ·rw [if_neg e] at h; rw [if_neg (fun x => e x.symm)]; exact lexW_asym h
theorem ltP_trans : ∀ {s t u : List TStp}, ltP s t = true → ltP t u = true → ltP s u = true
 | [], _, _, h, _ => by cases h
 | _ :: _, [], _, h, _ => by cases h
 | _ :: _, _ :: _, [], _, h => by cases h
 | a :: s, b :: t, c :: u, h1, h2 => by
  simp only [ltP] at h1 h2 ⊢
  by_cases e1 : a.ws = b.ws
  ·rw [if_pos e1] at h1
   rw [← e1] at h2
   by_cases e2 : a.ws = c.ws
   ·rw [if_pos e2] at h2 ⊢
    by_cases r1 : a.run = b.run
    ·rw [if_pos r1] at h1
     rw [← r1] at h2
     by_cases r2 : a.run = c.run
     ·rw [if_pos r2] at h2 ⊢; exact ltP_trans h1 h2
     ·rw [if_neg r2] at h2 ⊢; exact h2
    ·rw [if_neg r1] at h1
     simp only [decide_eq_true_eq] at h1
     by_cases r2 : b.run = c.run
     ·rw [if_neg (by omega)]; exact decide_eq_true (by omega)
     ·rw [if_neg r2] at h2
      simp only [decide_eq_true_eq] at h2
      rw [if_neg (by omega)]; exact decide_eq_true (by omega)
   ·rw [if_neg e2] at h2 ⊢; exact h2
  ·rw [if_neg e1] at h1
   by_cases e2 : b.ws = c.ws
   ·rw [← e2, if_neg e1]; exact h1
   ·rw [if_neg e2] at h2
    have h3 := lexW_trans h1 h2
    rw [if_neg (fun e => by rw [e] at h1; rw [lexW_asym h1] at h2; cases h2)]
    exact h3
theorem ltP_app : ∀ (p s t : List TStp), ltP (p ++ s) (p ++ t) = ltP s t
 | [], _, _ => rfl
 | a :: p, s, t => by
  show ltP (a :: (p ++ s)) (a :: (p ++ t)) = _
  simp only [ltP, if_true]
  exact ltP_app p s t
def addG : List Int → List Int → Int → List Int
 | g :: got, n :: ws, r => (g + n * r) :: addG got ws r
 | got, _, _ => got
theorem addG_len : ∀ (got ws : List Int) (r : Int), (addG got ws r).length = got.length
 | [], _, _ => by simp [addG]
 | _ :: _, [], _ => by simp [addG]
 | g :: got, n :: ws, r => by simp [addG, addG_len got ws r]
def gotF : List Int → List TStp → List Int
 | got, [] => got
 | got, s :: q => gotF (addG got s.ws s.run) q
def wasteF (p : TPap) (l : List TOrd) : List TStp → Int
 | [] => 0
 | s :: q => trimI p l s.ws * s.run + wasteF p l q
theorem gotF_app : ∀ (q : List TStp) (got : List Int) (s : List TStp), gotF got (q ++ s) = gotF (gotF got q) s
 | [], _, _ => rfl
 | a :: q, got, s => gotF_app q (addG got a.ws a.run) s
theorem wasteF_app (p : TPap) (l : List TOrd) : ∀ (q s : List TStp), wasteF p l (q ++ s) = wasteF p l q + wasteF p l s
 | [], s => by simp [wasteF]
 | a :: q, s => by rw [List.cons_append, wasteF, wasteF, wasteF_app p l q s]; omega
def doesB : List TOrd → List Int → Bool
 | o :: l, g :: got => (decide (o.lo ≤ g) && decide (g ≤ o.hi)) && doesB l got
 | _, _ => true
def leH : List TOrd → List Int → Bool
 | o :: l, g :: got => decide (g ≤ o.hi) && leH l got
 | _, _ => true
def zeros (n : Nat) : List Int := List.replicate n 0
end Go.Dw.Seat.Tr
end
section
set_option linter.unusedSimpArgs false
set_option maxRecDepth 100000
namespace Go.Dw.Seat.Tr
open Go Go.Dw Go.Proofs Go.IntWalk
def eO (o : TOrd) : List C := [.v (.int .i64 o.w), .v (.int .i64 o.lo), .v (.int .i64 o.hi)]
theorem eO_nb (v : TOrd) : C.nbs (eO v) = true := rfl
attribute [go_sem] eO
abbrev papD (p : TPap) : D := .agg [dI p.wide, dI p.tl, dI p.th, dI p.webs]
abbrev macD (b : Bool) (p : TPap) (l : List TOrd) : D := .agg [dI p.wide, dI p.tl, dI p.th, dI p.webs, .c (.sl b 3 (rows eO l))]
abbrev noneD : D := .agg [dI 0, dI 0, dI 0, dI 0, .c (.v (.slice none 0 0))]
def papOk (p : TPap) : Bool := (wthn 1 3000 [p.wide] && spanOk p.tl p.th 0 3000) && wthn 1 4 [p.webs]
def ordOk (o : TOrd) : Bool := wthn 1 3000 [o.w] && spanOk o.lo o.hi 0 100
theorem papOk_ok {p : TPap} (h : papOk p = true) : p.ok := by
 simp only [papOk, Bool.and_eq_true] at h
 exact ⟨wthn_one h.1.1, spanOk_all h.1.2, wthn_one h.2⟩
theorem ordOk_ok {o : TOrd} (h : ordOk o = true) : o.ok := by
 simp only [ordOk, Bool.and_eq_true] at h
 exact ⟨wthn_one h.1, spanOk_all h.2⟩
theorem papOk_yes {p : TPap} (h : p.ok) : papOk p = true := by
 simp only [papOk, Bool.and_eq_true]
 exact ⟨⟨wthn_yes (by simpa using h.wide), spanOk_yes h.trim⟩, wthn_yes (by simpa using h.webs)⟩
theorem ordOk_yes {o : TOrd} (h : o.ok) : ordOk o = true := by
 simp only [ordOk, Bool.and_eq_true]
 exact ⟨wthn_yes (by simpa using h.w), spanOk_yes h.need⟩
def openE (p : TPap) (l : List TOrd) : Int := if papOk p = false then 2 else if (4 : Int) < (l.length : Int) then 5 else if (l.any fun o => !ordOk o) = true then 4 else 0
theorem openE_ok {p : TPap} {l : List TOrd} (h : openE p l = 0) : p.ok ∧ l.length ≤ 4 ∧ ∀ o ∈ l, o.ok := by
 unfold openE at h
 split at h
 ·cases h
 ·rename_i h1
  split at h
  ·cases h
  ·rename_i h2
   split at h
   ·cases h
   ·rename_i h3
    refine ⟨papOk_ok (by simpa using h1), by omega, fun o ho => ordOk_ok ?_⟩
    simp only [List.any_eq_true, not_exists, not_and, Bool.not_eq_true, Bool.not_eq_false'] at h3
    exact h3 o ho
theorem openE_yes {p : TPap} {l : List TOrd} (hp : p.ok) (hl : l.length ≤ 4) (h : ∀ o ∈ l, o.ok) : openE p l = 0 := by
 unfold openE
 rw [if_neg (by rw [papOk_yes hp]; decide), if_neg (by omega), if_neg]
 simp only [List.any_eq_true, not_exists, not_and, Bool.not_eq_true, Bool.not_eq_false']
 exact fun o ho => ordOk_yes (h o ho)
theorem trOrd1 (o : TOrd) : DCall Try.prog 115 [.agg ((eO o).map D.c)] [] (bD (!ordOk o)) [] := by
 have h1 := trWithin true 1 3000 [o.w] (by simp)
 have h2 := crSpanG o.lo o.hi 0 100
 unfold ordOk
 cases e1 : wthn 1 3000 [o.w] <;> rw [e1] at h1 <;> simp only [Bool.true_and, Bool.false_and, Bool.not_false]
 ·refine DCall.of Try.func115 sf115 hb115 (Nat.le_of_ble_eq_true rfl) (okRes_nil fun _ => rfl) ?_; simp only [s115, idxs, Nat.reduceAdd]
  repeat' (first|(with_reducible first|apply qA|apply qB|apply qC|apply qD|apply qE|apply qF)|(simp (disch:=omega) only [go_sem, simprocAttr, Blk.men, Blk.keysIn, rF, rG])|exact qM rfl rfl rfl|(refine qG rfl ?_)|(refine qK (h1) (by decide) ?_)|(refine qH rfl ?_)|(refine qI rfl ?_ ?_<;>intro hc<;>(try simp only [go_sem] at hc))|(refine qJ ?_ ?_<;>intro hc<;>(try simp only [hc])<;>(try simp only [go_sem] at hc)))
 ·refine DCall.of Try.func115 sf115 hb115 (Nat.le_of_ble_eq_true rfl) (okRes_nil fun _ => rfl) ?_; simp only [s115, idxs, Nat.reduceAdd]
  repeat' (first|(with_reducible first|apply qA|apply qB|apply qC|apply qD|apply qE|apply qF)|(simp (disch:=omega) only [go_sem, simprocAttr, Blk.men, Blk.keysIn, rF, rG])|exact qM rfl rfl rfl|(refine qG rfl ?_)|(refine qK (h1) (by decide) ?_)|(refine qK (h2) (by decide) ?_)|(refine qH rfl ?_)|(refine qI rfl ?_ ?_<;>intro hc<;>(try simp only [go_sem] at hc))|(refine qJ ?_ ?_<;>intro hc<;>(try simp only [hc])<;>(try simp only [go_sem] at hc)))
theorem trOIdx (b : Bool) (l : List TOrd) (hl : l.length ≤ 2 ^ 36) (g : FuncId) (fs caps : List C) (p : TOrd → Bool) (hp : ∀ x ∈ l, DCall Try.prog g (fs.map D.c ++ [.agg ((eO x).map D.c)] ++ caps.map D.c) [] (bD (p x)) []) : DCall Try.prog 147 [.c (.sl b 3 (rows eO l)), .c (.fn (.func g) fs caps)] [] (dI (idxI p l)) [] := by
 refine DCall.of Try.func147 sf147 hb147 (Nat.le_of_ble_eq_true rfl) (okRes_nil fun _ => rfl) ?_; simp only [s147, idxs, Nat.reduceAdd]
 repeat' (first|(with_reducible first|apply qA|apply qB|apply qC|apply qD|apply qE|apply qF)|(simp (disch:=omega) only [go_sem, simprocAttr, Blk.men, Blk.keysIn])|exact qM rfl rfl rfl|(refine qG rfl ?_)|(refine qH rfl ?_)|(refine qI rfl ?_ ?_<;>intro hc<;>(try simp only [go_sem] at hc))|(refine qJ ?_ ?_<;>intro hc<;>(try simp only [hc])<;>(try simp only [go_sem] at hc)))
 refine DW.loop (ι := { i : Nat // i ≤ l.length ∧ ∀ j u, j < i → l[j]? = some u → p u = false }) (fun i => ⟨19, [(8, dI i.1), (7, dI l.length), (1, .c (.fn (.func g) fs caps)), (0, .c (.sl b 3 (rows eO l)))], []⟩) (fun i => l.length - i.1) ⟨0, Nat.zero_le _, fun j u h => by omega⟩ ?_ ?_
 ·refine Ent.to ?_ ?_ <;> simp (disch:=omega) only [qR,qS,qTw,qU,get,Nat.reduceEqDiff,↓reduceIte,qV,qW,qX,qY,qZ,and_self,dI,i64_in,and_true,true_and,rA,rB,rC,rD]
 rintro ⟨i, hi, hij⟩
 rcases at_or l i hi with ⟨v, hv, hlt, hd⟩ | ⟨he, hd⟩
 ·have hcall := hp v (List.mem_of_getElem? hv)
  repeat' (first|(with_reducible first|apply qA|apply qB|apply qC|apply qD|apply qE|apply qF)|(simp (disch:=omega) only [go_sem, simprocAttr, Blk.men, Blk.keysIn, hd, hv, closeDs_fn, rF, rG])|exact qM rfl rfl rfl|(refine qG rfl ?_)|(refine qH rfl ?_)|(refine qI rfl ?_ ?_<;>intro hc<;>(try simp only [go_sem] at hc))|(refine qJ ?_ ?_<;>intro hc<;>(try simp only [hc])<;>(try simp only [go_sem] at hc)))
  refine call_c hcall (by decide) ?_
  simp (disch:=omega) only [go_sem,simprocAttr,Blk.men,Blk.keysIn]
  refine DW.cond rfl ?_ ?_ <;> intro hc
  ·repeat' (first|(with_reducible first|apply qA|apply qB|apply qC|apply qD|apply qE|apply qF)|(simp (disch:=omega) only [go_sem, simprocAttr, Blk.men, Blk.keysIn])|exact qM rfl rfl rfl|(refine qG rfl ?_)|(refine qH rfl ?_)|(refine qI rfl ?_ ?_<;>intro hc<;>(try simp only [go_sem] at hc))|(refine qJ ?_ ?_<;>intro hc<;>(try simp only [hc])<;>(try simp only [go_sem] at hc)))
   refine retS_of rfl ?_ rfl; simp only [oneD, St.op, get, Nat.reduceEqDiff, ↓reduceIte, Option.getD_some, bD, dI]
   simp only [idxI, idxOf_some hij hv hc]
  ·repeat' (first|(with_reducible first|apply qA|apply qB|apply qC|apply qD|apply qE|apply qF)|(simp (disch:=omega) only [go_sem, simprocAttr, Blk.men, Blk.keysIn])|exact qM rfl rfl rfl|(refine qG rfl ?_)|(refine qH rfl ?_)|(refine qI rfl ?_ ?_<;>intro hc<;>(try simp only [go_sem] at hc))|(refine qJ ?_ ?_<;>intro hc<;>(try simp only [hc])<;>(try simp only [go_sem] at hc)))
   refine ⟨⟨i + 1, by omega, fun j u hj hu => by
    rcases Nat.lt_or_ge j i with h | h
    ·exact hij j u h hu
    ·have : j = i := by omega
     subst this
     rw [hv] at hu; cases hu; exact hc⟩, ?_, Ent.to ?_ ?_⟩ <;> first | (show _ < _; (try simp only); omega) | (simp (disch:=omega) only [qR,qS,qTw,qU,get,Nat.reduceEqDiff,↓reduceIte,qV,qW,qX,qY,qZ,and_self,dI,i64_in,and_true,true_and,rA,rB,rC,rD])
 ·repeat' (first|(with_reducible first|apply qA|apply qB|apply qC|apply qD|apply qE|apply qF)|(simp (disch:=omega) only [go_sem, simprocAttr, Blk.men, Blk.keysIn, hd])|exact qM rfl rfl rfl|(refine qG rfl ?_)|(refine qH rfl ?_)|(refine qI rfl ?_ ?_<;>intro hc<;>(try simp only [go_sem] at hc))|(refine qJ ?_ ?_<;>intro hc<;>(try simp only [hc])<;>(try simp only [go_sem] at hc)))
  refine retS_of rfl ?_ rfl; simp only [oneD, St.op, get, Nat.reduceEqDiff, ↓reduceIte, Option.getD_some, bD, dI]
  simp only [idxI, idxOf_none (he ▸ hij)]
theorem trOAny (b : Bool) (l : List TOrd) (hl : l.length ≤ 2 ^ 36) (g : FuncId) (fs caps : List C) (p : TOrd → Bool) (hp : ∀ x ∈ l, DCall Try.prog g (fs.map D.c ++ [.agg ((eO x).map D.c)] ++ caps.map D.c) [] (bD (p x)) []) : DCall Try.prog 118 [.c (.sl b 3 (rows eO l)), .c (.fn (.func g) fs caps)] [] (bD (l.any p)) [] := by
 refine DCall.of Try.func118 sf118 hb118 (Nat.le_of_ble_eq_true rfl) (okRes_nil fun _ => rfl) ?_; simp only [s118, idxs, Nat.reduceAdd]
 repeat' (first|(with_reducible first|apply qA|apply qB|apply qC|apply qD|apply qE|apply qF)|(simp (disch:=omega) only [go_sem, simprocAttr, Blk.men, Blk.keysIn])|exact qM rfl rfl rfl|(refine qG rfl ?_)|(refine qH rfl ?_)|(refine qI rfl ?_ ?_<;>intro hc<;>(try simp only [go_sem] at hc))|(refine qJ ?_ ?_<;>intro hc<;>(try simp only [hc])<;>(try simp only [go_sem] at hc)))
 refine call_c (trOIdx b l hl g fs caps p hp) (by decide) ?_
 repeat' (first|(with_reducible first|apply qA|apply qB|apply qC|apply qD|apply qE|apply qF)|(simp (disch:=omega) only [go_sem, simprocAttr, Blk.men, Blk.keysIn])|exact qM rfl rfl rfl|(refine qG rfl ?_)|(refine qH rfl ?_)|(refine qI rfl ?_ ?_<;>intro hc<;>(try simp only [go_sem] at hc))|(refine qJ ?_ ?_<;>intro hc<;>(try simp only [hc])<;>(try simp only [go_sem] at hc)))
 refine retS_of rfl ?_ rfl; simp only [oneD, St.op, get, Nat.reduceEqDiff, ↓reduceIte, Option.getD_some, bD, dI]
 rw [idxI_any]
theorem trOpen (p : TPap) (l : List TOrd) (h : openE p l = 0) : DCall Try.prog 68 [papD p, .c (.sl false 3 (rows eO l))] [] (.tup [macD false p l, dI 0]) [] := by
 obtain ⟨hp, hl, ho⟩ := openE_ok h
 have h1 := trWithin true 1 3000 [p.wide] (by simp)
 have h2 := crSpanG p.tl p.th 0 3000
 have h3 := trWithin true 1 4 [p.webs] (by simp)
 rw [wthn_yes (by simpa using hp.wide)] at h1
 rw [spanOk_yes hp.trim] at h2
 rw [wthn_yes (by simpa using hp.webs)] at h3
 have h4 := trOAny false l (by omega) 115 [] [] (fun o => !ordOk o) (fun x _ => trOrd1 x)
 have e4 : (l.any fun o => !ordOk o) = false := by
  simp only [List.any_eq_false, Bool.not_eq_true', Bool.not_eq_false]
  exact fun o hm => ordOk_yes (ho o hm)
 rw [e4] at h4
 have hd : decide ((4 : Int) < (l.length : Int)) = false := by rw [decide_eq_false_iff_not]; omega
 refine DCall.of Try.func68 sf68 hb68 (Nat.le_of_ble_eq_true rfl) (okRes_nil fun _ => rfl) ?_; simp only [s68, idxs, Nat.reduceAdd]
 repeat' (first|(with_reducible first|apply qA|apply qB|apply qC|apply qD|apply qE|apply qF)|(simp (disch:=omega) only [go_sem, simprocAttr, Blk.men, Blk.keysIn, hd])|exact qM rfl rfl rfl|(refine qG rfl ?_)|(refine qK (h1) (by decide) ?_)|(refine qK (h2) (by decide) ?_)|(refine qK (h3) (by decide) ?_)|(refine qK (h4) (by decide) ?_)|(refine qH rfl ?_)|(refine qI rfl ?_ ?_<;>intro hc<;>(try simp only [go_sem] at hc))|(refine qJ ?_ ?_<;>intro hc<;>(try simp only [hc])<;>(try simp only [go_sem] at hc)))
 refine retS_wk rfl ?_ (by simp only [Blk.nb, rowC_nb, D.nb, D.nbs, C.nb, C.nbs, C.nbss, rows_nb eI_nb, Bool.and_true, Bool.not_false, Bool.and_self, bD, dI, iD, rows_nb eO_nb]); exact .refl _
theorem trOpenE (b : Bool) (p : TPap) (l : List TOrd) (hl : l.length ≤ 2 ^ 36) (h : openE p l ≠ 0) : DCall Try.prog 68 [papD p, .c (.sl b 3 (rows eO l))] [] (.tup [noneD, dI (openE p l)]) [] := by
 have h1 := trWithin true 1 3000 [p.wide] (by simp)
 have h2 := crSpanG p.tl p.th 0 3000
 have h3 := trWithin true 1 4 [p.webs] (by simp)
 have h4 := trOAny b l hl 115 [] [] (fun o => !ordOk o) (fun x _ => trOrd1 x)
 unfold openE papOk at h ⊢
 cases e1 : wthn 1 3000 [p.wide] <;> rw [e1] at h1 h
 ·rw [if_pos (by simp)]
  refine DCall.of Try.func68 sf68 hb68 (Nat.le_of_ble_eq_true rfl) (okRes_nil fun _ => rfl) ?_; simp only [s68, idxs, Nat.reduceAdd]
  repeat' (first|(with_reducible first|apply qA|apply qB|apply qC|apply qD|apply qE|apply qF)|(simp (disch:=omega) only [go_sem, simprocAttr, Blk.men, Blk.keysIn])|exact qM rfl rfl rfl|(refine qG rfl ?_)|(refine qK (h1) (by decide) ?_)|(refine qH rfl ?_)|(refine qI rfl ?_ ?_<;>intro hc<;>(try simp only [go_sem] at hc))|(refine qJ ?_ ?_<;>intro hc<;>(try simp only [hc])<;>(try simp only [go_sem] at hc)))
 cases e2 : spanOk p.tl p.th 0 3000 <;> rw [e2] at h2 h
 ·rw [if_pos (by simp)]
  refine DCall.of Try.func68 sf68 hb68 (Nat.le_of_ble_eq_true rfl) (okRes_nil fun _ => rfl) ?_; simp only [s68, idxs, Nat.reduceAdd]
  repeat' (first|(with_reducible first|apply qA|apply qB|apply qC|apply qD|apply qE|apply qF)|(simp (disch:=omega) only [go_sem, simprocAttr, Blk.men, Blk.keysIn])|exact qM rfl rfl rfl|(refine qG rfl ?_)|(refine qK (h1) (by decide) ?_)|(refine qK (h2) (by decide) ?_)|(refine qH rfl ?_)|(refine qI rfl ?_ ?_<;>intro hc<;>(try simp only [go_sem] at hc))|(refine qJ ?_ ?_<;>intro hc<;>(try simp only [hc])<;>(try simp only [go_sem] at hc)))
 cases e3 : wthn 1 4 [p.webs] <;> rw [e3] at h3 h
 ·rw [if_pos (by simp)]
  refine DCall.of Try.func68 sf68 hb68 (Nat.le_of_ble_eq_true rfl) (okRes_nil fun _ => rfl) ?_; simp only [s68, idxs, Nat.reduceAdd]
  repeat' (first|(with_reducible first|apply qA|apply qB|apply qC|apply qD|apply qE|apply qF)|(simp (disch:=omega) only [go_sem, simprocAttr, Blk.men, Blk.keysIn])|exact qM rfl rfl rfl|(refine qG rfl ?_)|(refine qK (h1) (by decide) ?_)|(refine qK (h2) (by decide) ?_)|(refine qK (h3) (by decide) ?_)|(refine qH rfl ?_)|(refine qI rfl ?_ ?_<;>intro hc<;>(try simp only [go_sem] at hc))|(refine qJ ?_ ?_<;>intro hc<;>(try simp only [hc])<;>(try simp only [go_sem] at hc)))
 rw [if_neg (by decide)] at h ⊢
 by_cases h5 : (4 : Int) < (l.length : Int)
 ·have hd : decide ((4 : Int) < (l.length : Int)) = true := decide_eq_true h5
  rw [if_pos h5]
  refine DCall.of Try.func68 sf68 hb68 (Nat.le_of_ble_eq_true rfl) (okRes_nil fun _ => rfl) ?_; simp only [s68, idxs, Nat.reduceAdd]
  repeat' (first|(with_reducible first|apply qA|apply qB|apply qC|apply qD|apply qE|apply qF)|(simp (disch:=omega) only [go_sem, simprocAttr, Blk.men, Blk.keysIn, hd])|exact qM rfl rfl rfl|(refine qG rfl ?_)|(refine qK (h1) (by decide) ?_)|(refine qK (h2) (by decide) ?_)|(refine qK (h3) (by decide) ?_)|(refine qH rfl ?_)|(refine qI rfl ?_ ?_<;>intro hc<;>(try simp only [go_sem] at hc))|(refine qJ ?_ ?_<;>intro hc<;>(try simp only [hc])<;>(try simp only [go_sem] at hc)))
 ·have hd : decide ((4 : Int) < (l.length : Int)) = false := decide_eq_false h5
  rw [if_neg h5] at h ⊢
  cases e4 : (l.any fun o => !ordOk o) with
  | false => rw [e4] at h; exact absurd rfl h
  | true =>
   rw [e4] at h4
   rw [if_pos rfl]
   refine DCall.of Try.func68 sf68 hb68 (Nat.le_of_ble_eq_true rfl) (okRes_nil fun _ => rfl) ?_; simp only [s68, idxs, Nat.reduceAdd]
   repeat' (first|(with_reducible first|apply qA|apply qB|apply qC|apply qD|apply qE|apply qF)|(simp (disch:=omega) only [go_sem, simprocAttr, Blk.men, Blk.keysIn, hd])|exact qM rfl rfl rfl|(refine qG rfl ?_)|(refine qK (h1) (by decide) ?_)|(refine qK (h2) (by decide) ?_)|(refine qK (h3) (by decide) ?_)|(refine qK (h4) (by decide) ?_)|(refine qH rfl ?_)|(refine qI rfl ?_ ?_<;>intro hc<;>(try simp only [go_sem] at hc))|(refine qJ ?_ ?_<;>intro hc<;>(try simp only [hc])<;>(try simp only [go_sem] at hc)))
end Go.Dw.Seat.Tr
end
section
set_option linter.unusedSimpArgs false
set_option maxRecDepth 100000
namespace Go.Dw.Seat.Tr
open Go Go.Dw Go.Proofs Go.IntWalk
theorem dot_take : ∀ {ws : List Int} {l : List TOrd} {i : Nat} {n : Int} {o : TOrd}, ws[i]? = some n → l[i]? = some o → dotI (ws.take (i + 1)) l = dotI (ws.take i) l + n * o.w
 | [], _, _, _, _, h, _ => by simp at h
 | _ :: _, [], _, _, _, _, h => by simp at h
 | m :: ws, a :: l, 0, n, o, h1, h2 => by
  cases h1; cases h2
  simp [dotI]
 | m :: ws, a :: l, i + 1, n, o, h1, h2 => by
  have := dot_take (ws := ws) (l := l) (i := i) (n := n) (o := o) h1 h2
  rw [List.take_succ_cons, List.take_succ_cons, dotI, dotI, this]; omega
theorem sum_take : ∀ {ws : List Int} {i : Nat} {n : Int}, ws[i]? = some n → sumI (ws.take (i + 1)) = sumI (ws.take i) + n
 | [], _, _, h => by simp at h
 | m :: ws, 0, n, h => by cases h; simp [sumI]
 | m :: ws, i + 1, n, h => by
  have := sum_take (ws := ws) (i := i) (n := n) h
  rw [List.take_succ_cons, List.take_succ_cons, sumI, sumI, this]; omega
theorem used_take : ∀ {ws : List Int} {i : Nat} {n : Int}, ws[i]? = some n → usedI (ws.take (i + 1)) = usedI (ws.take i) + (if 0 < n then 1 else 0)
 | [], _, _, h => by simp at h
 | m :: ws, 0, n, h => by cases h; simp [usedI]
 | m :: ws, i + 1, n, h => by
  have := used_take (ws := ws) (i := i) (n := n) h
  rw [List.take_succ_cons, List.take_succ_cons, usedI, usedI, this]; omega
structure Ws4 (l : List TOrd) (ws : List Int) : Prop where
 len : ws.length = l.length
 b : ∀ n ∈ ws, 0 ≤ n ∧ n ≤ 4
theorem Ws4.nn {l : List TOrd} {ws : List Int} (h : Ws4 l ws) : ∀ n ∈ ws, 0 ≤ n := fun n hn => (h.b n hn).1
theorem dot_b : ∀ {ws : List Int} {l : List TOrd}, (∀ n ∈ ws, 0 ≤ n ∧ n ≤ 4) → (∀ o ∈ l, o.ok) → 0 ≤ dotI ws l ∧ dotI ws l ≤ 12000 * (l.length : Int)
 | [], _, _, _ => by simp [dotI]; omega
 | _ :: _, [], _, _ => by simp [dotI]
 | n :: ws, o :: l, h1, h2 => by
  have ih := dot_b (ws := ws) (l := l) (fun x hx => h1 x (by simp [hx])) (fun x hx => h2 x (by simp [hx]))
  have hn := h1 n (by simp)
  have ho := (h2 o (by simp)).w
  have m1 : 0 ≤ n * o.w := Int.mul_nonneg hn.1 (by omega)
  have m2 : n * o.w ≤ 4 * o.w := Int.mul_le_mul_of_nonneg_right hn.2 (by omega)
  simp only [dotI, List.length_cons, Int.natCast_add, Int.natCast_one]
  omega
theorem sum_b4 : ∀ {ws : List Int}, (∀ n ∈ ws, 0 ≤ n ∧ n ≤ 4) → (0 ≤ sumI ws ∧ sumI ws ≤ 4 * (ws.length : Int)) ∧ 0 ≤ usedI ws ∧ usedI ws ≤ (ws.length : Int)
 | [], _ => by simp [sumI, usedI]
 | n :: ws, h => by
  have ih := sum_b4 (ws := ws) (fun x hx => h x (by simp [hx]))
  have hn := h n (by simp)
  simp only [sumI, usedI, List.length_cons, Int.natCast_add, Int.natCast_one]
  split <;> omega
theorem wthn1 (lo hi x : Int) : wthn lo hi [x] = (decide (lo ≤ x) && decide (x ≤ hi)) := by
 rw [Bool.eq_iff_iff]
 simp only [Bool.and_eq_true, decide_eq_true_eq]
 exact ⟨fun h => wthn_one h, fun h => wthn_yes (by simpa using h)⟩
set_option maxHeartbeats 1000000 in
theorem trTrim (b1 b2 : Bool) (p : TPap) (hp : p.ok) (l : List TOrd) (hl : l.length ≤ 4) (ho : ∀ o ∈ l, o.ok) (ws : List Int) (hw : Ws4 l ws) : DCall Try.prog 127 [macD b1 p l, dIs b2 ws] [] (dI (trimI p l ws)) [] := by
 have hwl := hw.len
 have hwi := hp.wide
 refine DCall.of Try.func127 sf127 hb127 (Nat.le_of_ble_eq_true rfl) (okRes_nil fun _ => rfl) ?_; simp only [s127, idxs, Nat.reduceAdd]
 repeat' (first|(with_reducible first|apply qA|apply qB|apply qC|apply qD|apply qE|apply qF)|(simp (disch:=omega) only [go_sem, simprocAttr, Blk.men, Blk.keysIn])|exact qM rfl rfl rfl|(refine qG rfl ?_)|(refine qH rfl ?_)|(refine qI rfl ?_ ?_<;>intro hc<;>(try simp only [go_sem] at hc))|(refine qJ ?_ ?_<;>intro hc<;>(try simp only [hc])<;>(try simp only [go_sem] at hc)))
 refine DW.loop (ι := { i : Nat // i ≤ ws.length }) (fun i => ⟨30, [(13, dI i.1), (12, dI ws.length), (11, dIs b2 ws), (5, dI (p.wide - dotI (ws.take i.1) l)), (2, .box 2 0)], [(2, .box [dI p.wide, dI p.tl, dI p.th, dI p.webs, .c (.sl b1 3 (rows eO l))])]⟩) (fun i => ws.length - i.1) ⟨0, Nat.zero_le _⟩ ?_ ?_
 ·refine Ent.to ?_ ?_ <;> simp (disch:=omega) only [qR,qS,qTw,qU,get,Nat.reduceEqDiff,↓reduceIte,qV,qW,qX,qY,qZ,and_self,dI,i64_in,and_true,true_and,rA,rB,rC,rD,List.take_zero,dotI,Int.sub_zero]
  all_goals first | exact ⟨.refl _, .refl _⟩ | exact .refl _
 rintro ⟨i, hi⟩
 dsimp only
 rcases at_or ws i hi with ⟨n, hn, hlt, hd⟩ | ⟨he, hd⟩
 ·obtain ⟨o, hoi⟩ := getE (l := l) (i := i) (by omega)
  have hnb := hw.b n (List.mem_of_getElem? hn)
  have hob := (ho o (List.mem_of_getElem? hoi)).w
  have ht := dot_take hn hoi
  have hdb := dot_b (ws := ws.take i) (l := l) (fun x hx => hw.b x (List.mem_of_mem_take hx)) ho
  have m1 : 0 ≤ n * o.w := Int.mul_nonneg hnb.1 (by omega)
  have m2 : n * o.w ≤ 4 * o.w := Int.mul_le_mul_of_nonneg_right hnb.2 (by omega)
  have w1 : IntKind.i64.wrap (n * o.w) = n * o.w := IntWalk.i64_in _ (by omega)
  have w2 : IntKind.i64.wrap (p.wide - dotI (ws.take i) l - n * o.w) = p.wide - dotI (ws.take i) l - n * o.w := IntWalk.i64_in _ (by omega)
  have hs : p.wide - dotI (ws.take (i + 1)) l = p.wide - dotI (ws.take i) l - n * o.w := by omega
  generalize p.wide - dotI (ws.take i) l = A at *
  repeat' (first|(with_reducible first|apply qA|apply qB|apply qC|apply qD|apply qE|apply qF)|(simp (disch:=omega) only [go_sem, simprocAttr, Blk.men, Blk.keysIn, hd, hn, hoi, w1, w2, rF, rG])|exact qM rfl rfl rfl|(refine qG rfl ?_)|(refine qH rfl ?_)|(refine qI rfl ?_ ?_<;>intro hc<;>(try simp only [go_sem] at hc))|(refine qJ ?_ ?_<;>intro hc<;>(try simp only [hc])<;>(try simp only [go_sem] at hc)))
  refine ⟨⟨i + 1, hlt⟩, ?_, Ent.to ?_ ?_⟩ <;> first | (show _ < _; (try simp only); omega) | (simp (disch:=omega) only [qR,qS,qTw,qU,get,Nat.reduceEqDiff,↓reduceIte,qV,qW,qX,qY,qZ,and_self,dI,i64_in,and_true,true_and,rA,rB,rC,rD, hs])
  all_goals first | exact ⟨.refl _, .refl _⟩ | exact .refl _
 ·repeat' (first|(with_reducible first|apply qA|apply qB|apply qC|apply qD|apply qE|apply qF)|(simp (disch:=omega) only [go_sem, simprocAttr, Blk.men, Blk.keysIn, hd])|exact qM rfl rfl rfl|(refine qG rfl ?_)|(refine qH rfl ?_)|(refine qI rfl ?_ ?_<;>intro hc<;>(try simp only [go_sem] at hc))|(refine qJ ?_ ?_<;>intro hc<;>(try simp only [hc])<;>(try simp only [go_sem] at hc)))
  refine retS_of rfl ?_ rfl; simp only [oneD, St.op, get, Nat.reduceEqDiff, ↓reduceIte, Option.getD_some, bD, dI]
  rw [he, List.take_length]; rfl
end Go.Dw.Seat.Tr
end
section
set_option linter.unusedSimpArgs false
set_option maxRecDepth 100000
namespace Go.Dw.Seat.Tr
open Go Go.Dw Go.Proofs Go.IntWalk
set_option maxHeartbeats 2000000 in
theorem trIsPat (b1 b2 : Bool) (p : TPap) (hp : p.ok) (l : List TOrd) (hl : l.length ≤ 4) (ho : ∀ o ∈ l, o.ok) (ws : List Int) (hw : Ws4 l ws) : DCall Try.prog 162 [macD b1 p l, dIs b2 ws] [] (bD (patB p l ws)) [] := by
 have hwl := hw.len
 have h1 := trWithin true 1 p.webs [sumI ws] (by simp)
 have h2 := trWithin true p.tl p.th [trimI p l ws] (by simp)
 have h3 := trTrim b1 b2 p hp l hl ho ws hw
 have hE : patB p l ws = (wthn 1 p.webs [sumI ws] && decide (usedI ws ≤ 2) && wthn p.tl p.th [trimI p l ws]) := by rw [patB, wthn1, wthn1]
 rw [hE]
 clear hE
 generalize trimI p l ws = t at *
 refine DCall.of Try.func162 sf162 hb162 (Nat.le_of_ble_eq_true rfl) (okRes_nil fun _ => rfl) ?_; simp only [s162, idxs, Nat.reduceAdd]
 repeat' (first|(with_reducible first|apply qA|apply qB|apply qC|apply qD|apply qE|apply qF)|(refine qL rfl (WF.of ?_) ?_; first|rfl|skip)|(simp (disch:=omega) only [go_sem, simprocAttr, Blk.men, Blk.keysIn])|exact qM rfl rfl rfl|(refine qG rfl ?_)|(refine qH rfl ?_)|(refine qI rfl ?_ ?_<;>intro hc<;>(try simp only [go_sem] at hc))|(refine qJ ?_ ?_<;>intro hc<;>(try simp only [hc])<;>(try simp only [go_sem] at hc)))
 refine DW.loop (ι := { i : Nat // i ≤ ws.length }) (fun i => ⟨48, [(11, dI i.1), (10, dI ws.length), (9, dIs b2 ws), (6, dI (usedI (ws.take i.1))), (5, dI (sumI (ws.take i.1))), (2, .box 2 0), (1, dIs b2 ws)], [(2, .box [dI p.wide, dI p.tl, dI p.th, dI p.webs, .c (.sl b1 3 (rows eO l))])]⟩) (fun i => ws.length - i.1) ⟨0, Nat.zero_le _⟩ ?_ ?_
 ·refine Ent.to ?_ ?_ <;> simp (disch:=omega) only [qR,qS,qTw,qU,get,Nat.reduceEqDiff,↓reduceIte,qV,qW,qX,qY,qZ,and_self,dI,i64_in,and_true,true_and,rA,rB,rC,rD,List.take_zero,sumI,usedI]
  all_goals first | exact ⟨.refl _, .refl _⟩ | exact .refl _
 rintro ⟨i, hi⟩
 dsimp only
 rcases at_or ws i hi with ⟨n, hn, hlt, hd⟩ | ⟨he, hd⟩
 ·have hnb := hw.b n (List.mem_of_getElem? hn)
  have hb := sum_b4 (ws := ws.take i) (fun x hx => hw.b x (List.mem_of_mem_take hx))
  rw [List.length_take] at hb
  have hs := sum_take hn
  have hu := used_take hn
  generalize sumI (ws.take i) = A at *
  generalize usedI (ws.take i) = B at *
  by_cases hc : 0 < n
  ·have hd2 : decide (0 < n) = true := decide_eq_true hc
   rw [if_pos hc] at hu
   repeat' (first|(with_reducible first|apply qA|apply qB|apply qC|apply qD|apply qE|apply qF)|(refine qL rfl (WF.of ?_) ?_; first|rfl|skip)|(simp (disch:=omega) only [go_sem, simprocAttr, Blk.men, Blk.keysIn, hd, hn, hd2])|exact qM rfl rfl rfl|(refine qG rfl ?_)|(refine qH rfl ?_)|(refine qI rfl ?_ ?_<;>intro hc<;>(try simp only [go_sem] at hc))|(refine qJ ?_ ?_<;>intro hc<;>(try simp only [hc])<;>(try simp only [go_sem] at hc)))
   refine ⟨⟨i + 1, hlt⟩, ?_, Ent.to ?_ ?_⟩ <;> first | (show _ < _; (try simp only); omega) | (simp (disch:=omega) only [qR,qS,qTw,qU,get,Nat.reduceEqDiff,↓reduceIte,qV,qW,qX,qY,qZ,and_self,dI,i64_in,and_true,true_and,rA,rB,rC,rD, hs,hu])
   all_goals first | exact ⟨.refl _, .refl _⟩ | exact .refl _
  ·have hd2 : decide (0 < n) = false := decide_eq_false hc
   rw [if_neg hc, Int.add_zero] at hu
   repeat' (first|(with_reducible first|apply qA|apply qB|apply qC|apply qD|apply qE|apply qF)|(refine qL rfl (WF.of ?_) ?_; first|rfl|skip)|(simp (disch:=omega) only [go_sem, simprocAttr, Blk.men, Blk.keysIn, hd, hn, hd2])|exact qM rfl rfl rfl|(refine qG rfl ?_)|(refine qH rfl ?_)|(refine qI rfl ?_ ?_<;>intro hc<;>(try simp only [go_sem] at hc))|(refine qJ ?_ ?_<;>intro hc<;>(try simp only [hc])<;>(try simp only [go_sem] at hc)))
   refine ⟨⟨i + 1, hlt⟩, ?_, Ent.to ?_ ?_⟩ <;> first | (show _ < _; (try simp only); omega) | (simp (disch:=omega) only [qR,qS,qTw,qU,get,Nat.reduceEqDiff,↓reduceIte,qV,qW,qX,qY,qZ,and_self,dI,i64_in,and_true,true_and,rA,rB,rC,rD, hs,hu])
   all_goals first | exact ⟨.refl _, .refl _⟩ | exact .refl _
 ·subst he
  rw [List.take_length]
  generalize sumI ws = A at *
  generalize usedI ws = B at *
  cases e1 : wthn 1 p.webs [A] <;> rw [e1] at h1
  ·repeat' (first|(with_reducible first|apply qA|apply qB|apply qC|apply qD|apply qE|apply qF)|(refine qL rfl (WF.of ?_) ?_; first|rfl|skip)|(simp (disch:=omega) only [go_sem, simprocAttr, Blk.men, Blk.keysIn, hd])|exact qM rfl rfl rfl|(refine qG rfl ?_)|(refine qK (h1) (by decide) ?_)|(refine qH rfl ?_)|(refine qI rfl ?_ ?_<;>intro hc<;>(try simp only [go_sem] at hc))|(refine qJ ?_ ?_<;>intro hc<;>(try simp only [hc])<;>(try simp only [go_sem] at hc)))
  cases e2 : decide (B ≤ 2)
  ·repeat' (first|(with_reducible first|apply qA|apply qB|apply qC|apply qD|apply qE|apply qF)|(refine qL rfl (WF.of ?_) ?_; first|rfl|skip)|(simp (disch:=omega) only [go_sem, simprocAttr, Blk.men, Blk.keysIn, hd, e2])|exact qM rfl rfl rfl|(refine qG rfl ?_)|(refine qK (h1) (by decide) ?_)|(refine qH rfl ?_)|(refine qI rfl ?_ ?_<;>intro hc<;>(try simp only [go_sem] at hc))|(refine qJ ?_ ?_<;>intro hc<;>(try simp only [hc])<;>(try simp only [go_sem] at hc)))
  cases e3 : wthn p.tl p.th [t] <;> rw [e3] at h2
  ·repeat' (first|(with_reducible first|apply qA|apply qB|apply qC|apply qD|apply qE|apply qF)|(refine qL rfl (WF.of ?_) ?_; first|rfl|skip)|(simp (disch:=omega) only [go_sem, simprocAttr, Blk.men, Blk.keysIn, hd, e2])|exact qM rfl rfl rfl|(refine qG rfl ?_)|(refine qK (h1) (by decide) ?_)|(refine qK (h3) (by decide) ?_)|(refine qK (h2) (by decide) ?_)|(refine qH rfl ?_)|(refine qI rfl ?_ ?_<;>intro hc<;>(try simp only [go_sem] at hc))|(refine qJ ?_ ?_<;>intro hc<;>(try simp only [hc])<;>(try simp only [go_sem] at hc)))
  ·repeat' (first|(with_reducible first|apply qA|apply qB|apply qC|apply qD|apply qE|apply qF)|(refine qL rfl (WF.of ?_) ?_; first|rfl|skip)|(simp (disch:=omega) only [go_sem, simprocAttr, Blk.men, Blk.keysIn, hd, e2])|exact qM rfl rfl rfl|(refine qG rfl ?_)|(refine qK (h1) (by decide) ?_)|(refine qK (h3) (by decide) ?_)|(refine qK (h2) (by decide) ?_)|(refine qH rfl ?_)|(refine qI rfl ?_ ?_<;>intro hc<;>(try simp only [go_sem] at hc))|(refine qJ ?_ ?_<;>intro hc<;>(try simp only [hc])<;>(try simp only [go_sem] at hc)))
def websE (p : TPap) (l : List TOrd) (ws : List Int) : Int := if ws.length ≠ l.length ∨ wthn 0 4 ws = false then 4 else if patB p l ws = false then 7 else 0
theorem websE_ok {p : TPap} {l : List TOrd} {ws : List Int} (h : websE p l ws = 0) : Ws4 l ws ∧ patB p l ws = true := by
 unfold websE at h
 split at h
 ·cases h
 ·rename_i h1
  split at h
  ·cases h
  ·rename_i h2
   simp only [not_or, Classical.not_not, Bool.not_eq_false] at h1
   exact ⟨⟨h1.1, wthn_all h1.2⟩, by simpa using h2⟩
theorem websE_yes {p : TPap} {l : List TOrd} {ws : List Int} (h : Ws4 l ws) (hp : patB p l ws = true) : websE p l ws = 0 := by
 unfold websE
 rw [if_neg, if_neg (by rw [hp]; decide)]
 rw [wthn_yes h.b]
 simp [h.len]
theorem trWebs (b1 b2 : Bool) (p : TPap) (hp : p.ok) (l : List TOrd) (hl : l.length ≤ 4) (ho : ∀ o ∈ l, o.ok) (ws : List Int) (hwl : ws.length ≤ 2 ^ 36) : DCall Try.prog 148 [macD b1 p l, dIs b2 ws] [] (dI (websE p l ws)) [] := by
 have h1 := trWithin b2 0 4 ws hwl
 by_cases hlen : ws.length = l.length
 case neg =>
  have hd : ((ws.length : Int) != (l.length : Int)) = true := by rw [bne_iff_ne]; omega
  have hE : websE p l ws = 4 := if_pos (.inl hlen)
  rw [hE]
  refine DCall.of Try.func148 sf148 hb148 (Nat.le_of_ble_eq_true rfl) (okRes_nil fun _ => rfl) ?_; simp only [s148, idxs, Nat.reduceAdd]
  repeat' (first|(with_reducible first|apply qA|apply qB|apply qC|apply qD|apply qE|apply qF)|(simp (disch:=omega) only [go_sem, simprocAttr, Blk.men, Blk.keysIn, hd])|exact qM rfl rfl rfl|(refine qG rfl ?_)|(refine qH rfl ?_)|(refine qI rfl ?_ ?_<;>intro hc<;>(try simp only [go_sem] at hc))|(refine qJ ?_ ?_<;>intro hc<;>(try simp only [hc])<;>(try simp only [go_sem] at hc)))
 have hd : ((ws.length : Int) != (l.length : Int)) = false := by rw [hlen]; simp
 cases e1 : wthn 0 4 ws <;> rw [e1] at h1
 ·have hE : websE p l ws = 4 := if_pos (.inr e1)
  rw [hE]
  refine DCall.of Try.func148 sf148 hb148 (Nat.le_of_ble_eq_true rfl) (okRes_nil fun _ => rfl) ?_; simp only [s148, idxs, Nat.reduceAdd]
  repeat' (first|(with_reducible first|apply qA|apply qB|apply qC|apply qD|apply qE|apply qF)|(simp (disch:=omega) only [go_sem, simprocAttr, Blk.men, Blk.keysIn, hd])|exact qM rfl rfl rfl|(refine qG rfl ?_)|(refine qK (h1) (by decide) ?_)|(refine qH rfl ?_)|(refine qI rfl ?_ ?_<;>intro hc<;>(try simp only [go_sem] at hc))|(refine qJ ?_ ?_<;>intro hc<;>(try simp only [hc])<;>(try simp only [go_sem] at hc)))
 have hw : Ws4 l ws := ⟨hlen, wthn_all e1⟩
 have h2 := trIsPat b1 b2 p hp l hl ho ws hw
 have hn : ¬ (ws.length ≠ l.length ∨ wthn 0 4 ws = false) := by rw [e1]; simp [hlen]
 cases e2 : patB p l ws <;> rw [e2] at h2
 ·have hE : websE p l ws = 7 := by unfold websE; rw [if_neg hn, if_pos e2]
  rw [hE]
  refine DCall.of Try.func148 sf148 hb148 (Nat.le_of_ble_eq_true rfl) (okRes_nil fun _ => rfl) ?_; simp only [s148, idxs, Nat.reduceAdd]
  repeat' (first|(with_reducible first|apply qA|apply qB|apply qC|apply qD|apply qE|apply qF)|(simp (disch:=omega) only [go_sem, simprocAttr, Blk.men, Blk.keysIn, hd])|exact qM rfl rfl rfl|(refine qG rfl ?_)|(refine qK (h1) (by decide) ?_)|(refine qK (h2) (by decide) ?_)|(refine qH rfl ?_)|(refine qI rfl ?_ ?_<;>intro hc<;>(try simp only [go_sem] at hc))|(refine qJ ?_ ?_<;>intro hc<;>(try simp only [hc])<;>(try simp only [go_sem] at hc)))
 ·have hE : websE p l ws = 0 := websE_yes hw e2
  rw [hE]
  refine DCall.of Try.func148 sf148 hb148 (Nat.le_of_ble_eq_true rfl) (okRes_nil fun _ => rfl) ?_; simp only [s148, idxs, Nat.reduceAdd]
  repeat' (first|(with_reducible first|apply qA|apply qB|apply qC|apply qD|apply qE|apply qF)|(simp (disch:=omega) only [go_sem, simprocAttr, Blk.men, Blk.keysIn, hd])|exact qM rfl rfl rfl|(refine qG rfl ?_)|(refine qK (h1) (by decide) ?_)|(refine qK (h2) (by decide) ?_)|(refine qH rfl ?_)|(refine qI rfl ?_ ?_<;>intro hc<;>(try simp only [go_sem] at hc))|(refine qJ ?_ ?_<;>intro hc<;>(try simp only [hc])<;>(try simp only [go_sem] at hc)))
def owE (p : TPap) (l : List TOrd) (ws : List Int) : Int := if openE p l ≠ 0 then openE p l else websE p l ws
theorem trOpenW (b2 : Bool) (p : TPap) (l : List TOrd) (hl : l.length ≤ 2 ^ 36) (ws : List Int) (hwl : ws.length ≤ 2 ^ 36) : DCall Try.prog 126 [papD p, .c (.sl false 3 (rows eO l)), dIs b2 ws] [] (.tup [if openE p l = 0 then macD false p l else noneD, dI (owE p l ws)]) [] := by
 by_cases h : openE p l = 0
 ·obtain ⟨hp, hl4, ho⟩ := openE_ok h
  have h1 := trOpen p l h
  have h2 := trWebs false b2 p hp l hl4 ho ws hwl
  rw [if_pos h, owE, if_neg (by simpa using h)]
  generalize websE p l ws = e at *
  refine DCall.of Try.func126 sf126 hb126 (Nat.le_of_ble_eq_true rfl) (okRes_nil fun _ => rfl) ?_; simp only [s126, idxs, Nat.reduceAdd]
  repeat' (first|(with_reducible first|apply qA|apply qB|apply qC|apply qD|apply qE|apply qF)|(simp (disch:=omega) only [go_sem, simprocAttr, Blk.men, Blk.keysIn])|exact qM rfl rfl rfl|(refine qG rfl ?_)|(refine qK (h1) (by decide) ?_)|(refine qK (h2) (by decide) ?_)|(refine qH rfl ?_)|(refine qI rfl ?_ ?_<;>intro hc<;>(try simp only [go_sem] at hc))|(refine qJ ?_ ?_<;>intro hc<;>(try simp only [hc])<;>(try simp only [go_sem] at hc)))
  refine retS_wk rfl ?_ (by simp only [Blk.nb, rowC_nb, D.nb, D.nbs, C.nb, C.nbs, C.nbss, rows_nb eI_nb, Bool.and_true, Bool.not_false, Bool.and_self, bD, dI, iD, rows_nb eO_nb]); exact .refl _
 ·have h1 := trOpenE false p l hl h
  rw [if_neg h, owE, if_pos h]
  generalize openE p l = e at *
  have hd : (e == 0) = false := by simpa using h
  refine DCall.of Try.func126 sf126 hb126 (Nat.le_of_ble_eq_true rfl) (okRes_nil fun _ => rfl) ?_; simp only [s126, idxs, Nat.reduceAdd]
  repeat' (first|(with_reducible first|apply qA|apply qB|apply qC|apply qD|apply qE|apply qF)|(simp (disch:=omega) only [go_sem, simprocAttr, Blk.men, Blk.keysIn, hd])|exact qM rfl rfl rfl|(refine qG rfl ?_)|(refine qK (h1) (by decide) ?_)|(refine qH rfl ?_)|(refine qI rfl ?_ ?_<;>intro hc<;>(try simp only [go_sem] at hc))|(refine qJ ?_ ?_<;>intro hc<;>(try simp only [hc])<;>(try simp only [go_sem] at hc)))
end Go.Dw.Seat.Tr
end
section
set_option linter.unusedSimpArgs false
set_option maxRecDepth 100000
namespace Go.Dw.Seat.Tr
open Go Go.Dw Go.Proofs Go.IntWalk
def wrO (q : TOrd × Int) : Bool := !wthn q.1.lo q.1.hi [q.2]
def wrongI (l : List TOrd) (g : List Int) : Int := idxI wrO (l.zip g)
set_option maxHeartbeats 1000000 in
theorem trWrong (b b2 : Bool) (p : TPap) (l : List TOrd) (hl : l.length ≤ 4) (g : List Int) (hg : g.length = l.length) : DCall Try.prog 120 [macD b p l, dIs b2 g] [] (dI (wrongI l g)) [] := by
 refine DCall.of Try.func120 sf120 hb120 (Nat.le_of_ble_eq_true rfl) (okRes_nil fun _ => rfl) ?_; simp only [s120, idxs, Nat.reduceAdd]
 repeat' (first|(with_reducible first|apply qA|apply qB|apply qC|apply qD|apply qE|apply qF)|(refine qL rfl (WF.of ?_) ?_; first|rfl|skip)|(simp (disch:=omega) only [go_sem, simprocAttr, Blk.men, Blk.keysIn])|exact qM rfl rfl rfl|(refine qG rfl ?_)|(refine qH rfl ?_)|(refine qI rfl ?_ ?_<;>intro hc<;>(try simp only [go_sem] at hc))|(refine qJ ?_ ?_<;>intro hc<;>(try simp only [hc])<;>(try simp only [go_sem] at hc)))
 refine DW.loop (ι := { i : Nat // i ≤ l.length ∧ ∀ j u, j < i → (l.zip g)[j]? = some u → wrO u = false }) (fun i => ⟨30, [(10, dI i.1), (9, dI l.length), (8, .c (.sl b 3 (rows eO l))), (1, dIs b2 g)], []⟩) (fun i => l.length - i.1) ⟨0, Nat.zero_le _, fun j u h => by omega⟩ ?_ ?_
 ·refine Ent.to ?_ ?_ <;> simp (disch:=omega) only [qR,qS,qTw,qU,get,Nat.reduceEqDiff,↓reduceIte,qV,qW,qX,qY,qZ,and_self,dI,i64_in,and_true,true_and,rA,rB,rC,rD]
  all_goals first | exact ⟨.refl _, .refl _⟩ | exact .refl _
 rintro ⟨i, hi, hij⟩
 dsimp only
 rcases at_or l i hi with ⟨o, ho, hlt, hd⟩ | ⟨he, hd⟩
 ·obtain ⟨n, hn⟩ := getE (l := g) (i := i) (by omega)
  have hz : (l.zip g)[i]? = some (o, n) := by rw [List.getElem?_zip_eq_some]; exact ⟨ho, hn⟩
  have h1 := trWithin true o.lo o.hi [n] (by simp)
  cases e1 : wthn o.lo o.hi [n] <;> rw [e1] at h1
  ·repeat' (first|(with_reducible first|apply qA|apply qB|apply qC|apply qD|apply qE|apply qF)|(refine qL rfl (WF.of ?_) ?_; first|rfl|skip)|(simp (disch:=omega) only [go_sem, simprocAttr, Blk.men, Blk.keysIn, hd, ho, hn, rF, rG])|exact qM rfl rfl rfl|(refine qG rfl ?_)|(refine qK (h1) (by decide) ?_)|(refine qH rfl ?_)|(refine qI rfl ?_ ?_<;>intro hc<;>(try simp only [go_sem] at hc))|(refine qJ ?_ ?_<;>intro hc<;>(try simp only [hc])<;>(try simp only [go_sem] at hc)))
   refine retS_of rfl ?_ rfl; simp only [oneD, St.op, get, Nat.reduceEqDiff, ↓reduceIte, Option.getD_some, bD, dI]
   simp only [wrongI, idxI, idxOf_some hij hz (show wrO (o, n) = true by simp only [wrO, e1]; rfl)]
  ·repeat' (first|(with_reducible first|apply qA|apply qB|apply qC|apply qD|apply qE|apply qF)|(refine qL rfl (WF.of ?_) ?_; first|rfl|skip)|(simp (disch:=omega) only [go_sem, simprocAttr, Blk.men, Blk.keysIn, hd, ho, hn, rF, rG])|exact qM rfl rfl rfl|(refine qG rfl ?_)|(refine qK (h1) (by decide) ?_)|(refine qH rfl ?_)|(refine qI rfl ?_ ?_<;>intro hc<;>(try simp only [go_sem] at hc))|(refine qJ ?_ ?_<;>intro hc<;>(try simp only [hc])<;>(try simp only [go_sem] at hc)))
   refine ⟨⟨i + 1, by omega, fun j u hj hu => by
    rcases Nat.lt_or_ge j i with h | h
    ·exact hij j u h hu
    ·have : j = i := by omega
     subst this
     rw [hz] at hu; cases hu; simp only [wrO, e1]; rfl⟩, ?_, Ent.to ?_ ?_⟩ <;> first | (show _ < _; (try simp only); omega) | (simp (disch:=omega) only [qR,qS,qTw,qU,get,Nat.reduceEqDiff,↓reduceIte,qV,qW,qX,qY,qZ,and_self,dI,i64_in,and_true,true_and,rA,rB,rC,rD])
   all_goals first | exact ⟨.refl _, .refl _⟩ | exact .refl _
 ·have hzl : (l.zip g).length = i := by rw [List.length_zip]; omega
  repeat' (first|(with_reducible first|apply qA|apply qB|apply qC|apply qD|apply qE|apply qF)|(refine qL rfl (WF.of ?_) ?_; first|rfl|skip)|(simp (disch:=omega) only [go_sem, simprocAttr, Blk.men, Blk.keysIn, hd])|exact qM rfl rfl rfl|(refine qG rfl ?_)|(refine qH rfl ?_)|(refine qI rfl ?_ ?_<;>intro hc<;>(try simp only [go_sem] at hc))|(refine qJ ?_ ?_<;>intro hc<;>(try simp only [hc])<;>(try simp only [go_sem] at hc)))
  refine retS_of rfl ?_ rfl; simp only [oneD, St.op, get, Nat.reduceEqDiff, ↓reduceIte, Option.getD_some, bD, dI]
  simp only [wrongI, idxI, idxOf_none (show ∀ j u, j < (l.zip g).length → (l.zip g)[j]? = some u → wrO u = false from hzl ▸ hij)]
theorem addG_take : ∀ {g ws : List Int} {r : Int} {i : Nat} {n : Int}, ws[i]? = some n → i < g.length → ∃ x, g[i]? = some x ∧ (addG g (ws.take i) r)[i]? = some x ∧ (addG g (ws.take i) r).set i (x + n * r) = addG g (ws.take (i + 1)) r
 | [], _, _, _, _, _, h => by simp at h
 | _ :: _, [], _, _, _, h, _ => by simp at h
 | g :: gs, m :: ws, r, 0, n, h, _ => by
  cases h
  exact ⟨g, rfl, rfl, by simp [addG]⟩
 | g :: gs, m :: ws, r, i + 1, n, h, hl => by
  obtain ⟨x, h1, h2, h3⟩ := addG_take (g := gs) (ws := ws) (r := r) (i := i) (n := n) h (by simpa using hl)
  refine ⟨x, h1, ?_, ?_⟩
  ·rw [List.take_succ_cons, addG]; exact h2
  ·rw [List.take_succ_cons, List.take_succ_cons, addG, addG, List.set_cons_succ, h3]
theorem addG_nil (g : List Int) (r : Int) : addG g [] r = g := by cases g <;> rfl
set_option maxHeartbeats 1000000 in
theorem trAdd (b bw : Bool) (g ws : List Int) (r : Int) (hg : ∀ v ∈ g, 0 ≤ v ∧ v ≤ 1000000) (hl : g.length ≤ 4) (hwl : ws.length ≤ g.length) (hw : ∀ n ∈ ws, 0 ≤ n ∧ n ≤ 4) (hr : 0 ≤ r ∧ r ≤ 100) : DCall Try.prog 150 [dIs b g, .agg [dIs bw ws, dI r]] [] (dIs false (addG g ws r)) [] := by
 refine DCall.of Try.func150 sf150 hb150 (Nat.le_of_ble_eq_true rfl) (okRes_nil fun _ => rfl) ?_; simp only [s150, idxs, Nat.reduceAdd]
 repeat' (first|(with_reducible first|apply qA|apply qB|apply qC|apply qD|apply qE|apply qF)|(refine qL rfl (WF.of ?_) ?_; first|rfl|skip)|(simp (disch:=omega) only [go_sem, simprocAttr, Blk.men, Blk.keysIn])|exact qM rfl rfl rfl|(refine qG rfl ?_)|(refine qH rfl ?_)|(refine qI rfl ?_ ?_<;>intro hc<;>(try simp only [go_sem] at hc))|(refine qJ ?_ ?_<;>intro hc<;>(try simp only [hc])<;>(try simp only [go_sem] at hc)))
 (refine call_r (c106 b g (by omega) 9) (by decide) (by first | rfl | simp (disch:=omega) only [go_sem,simprocAttr,Blk.men,Blk.keysIn]) (by first | rfl | simp (disch:=omega) only [go_sem,simprocAttr,Blk.men,Blk.keysIn]) ?_; simp (disch:=omega) only [go_sem,simprocAttr,Blk.men,Blk.keysIn])
 repeat' (first|(with_reducible first|apply qA|apply qB|apply qC|apply qD|apply qE|apply qF)|(refine qL rfl (WF.of ?_) ?_; first|rfl|skip)|(simp (disch:=omega) only [go_sem, simprocAttr, Blk.men, Blk.keysIn])|exact qM rfl rfl rfl|(refine qG rfl ?_)|(refine qH rfl ?_)|(refine qI rfl ?_ ?_<;>intro hc<;>(try simp only [go_sem] at hc))|(refine qJ ?_ ?_<;>intro hc<;>(try simp only [hc])<;>(try simp only [go_sem] at hc)))
 refine DW.loop (ι := { i : Nat // i ≤ ws.length }) (fun i => ⟨30, [(13, dI i.1), (12, dI ws.length), (11, dIs bw ws), (5, .own 9), (3, .box 3 0)], [(9, .row 1 (rowC (rows eI (addG g (ws.take i.1) r)))), (3, .box [dIs bw ws, dI r])]⟩) (fun i => ws.length - i.1) ⟨0, Nat.zero_le _⟩ ?_ ?_
 ·refine Ent.to ?_ ?_ <;> simp (disch:=omega) only [qR,qS,qTw,qU,get,Nat.reduceEqDiff,↓reduceIte,qV,qW,qX,qY,qZ,and_self,dI,i64_in,and_true,true_and,rA,rB,rC,rD,List.take_zero,addG_nil]
  all_goals first | exact ⟨.refl _, .refl _⟩ | exact .refl _
 rintro ⟨i, hi⟩
 dsimp only
 rcases at_or ws i hi with ⟨n, hn, hlt, hd⟩ | ⟨he, hd⟩
 ·obtain ⟨x, hx, hx2, hset⟩ := addG_take (g := g) (ws := ws) (r := r) (i := i) hn (by omega)
  have hxb := hg x (List.mem_of_getElem? hx)
  have hnb := hw n (List.mem_of_getElem? hn)
  have m1 : 0 ≤ n * r := Int.mul_nonneg hnb.1 hr.1
  have m2 : n * r ≤ 4 * r := Int.mul_le_mul_of_nonneg_right hnb.2 hr.1
  have hal : (addG g (ws.take i) r).length = g.length := addG_len _ _ _
  have hil : (i < (addG g (ws.take i) r).length) = True := eq_true (by omega)
  generalize addG g (ws.take i) r = G at *
  have w1 : IntKind.i64.wrap (n * r) = n * r := IntWalk.i64_in _ (by omega)
  have w2 : IntKind.i64.wrap (x + n * r) = x + n * r := IntWalk.i64_in _ (by omega)
  repeat' (first|(with_reducible first|apply qA|apply qB|apply qC|apply qD|apply qE|apply qF)|(refine qL rfl (WF.of ?_) ?_; first|rfl|skip)|(simp (disch:=omega) only [go_sem, simprocAttr, Blk.men, Blk.keysIn, hd, hn, hx2, hil, w1, w2, rowC_set1, rows_setI, hset, rF, rG])|exact qM rfl rfl rfl|(refine qG rfl ?_)|(refine qH rfl ?_)|(refine qI rfl ?_ ?_<;>intro hc<;>(try simp only [go_sem] at hc))|(refine qJ ?_ ?_<;>intro hc<;>(try simp only [hc])<;>(try simp only [go_sem] at hc)))
  refine ⟨⟨i + 1, hlt⟩, ?_, Ent.to ?_ ?_⟩ <;> first | (show _ < _; (try simp only); omega) | (simp (disch:=omega) only [qR,qS,qTw,qU,get,Nat.reduceEqDiff,↓reduceIte,qV,qW,qX,qY,qZ,and_self,dI,i64_in,and_true,true_and,rA,rB,rC,rD])
  all_goals first | exact ⟨.refl _, .refl _⟩ | exact .refl _
 ·subst he
  rw [List.take_length]
  repeat' (first|(with_reducible first|apply qA|apply qB|apply qC|apply qD|apply qE|apply qF)|(refine qL rfl (WF.of ?_) ?_; first|rfl|skip)|(simp (disch:=omega) only [go_sem, simprocAttr, Blk.men, Blk.keysIn, hd])|exact qM rfl rfl rfl|(refine qG rfl ?_)|(refine qH rfl ?_)|(refine qI rfl ?_ ?_<;>intro hc<;>(try simp only [go_sem] at hc))|(refine qJ ?_ ?_<;>intro hc<;>(try simp only [hc])<;>(try simp only [go_sem] at hc)))
  (refine retS_ent (Ent.rel 9 rfl) ?_; simp (disch:=omega) only [go_sem,simprocAttr,Blk.men,Blk.keysIn])
  refine retS_wk rfl ?_ (by simp only [Blk.nb, rowC_nb, D.nb, D.nbs, C.nb, C.nbs, C.nbss, rows_nb eI_nb, Bool.and_true, Bool.not_false, Bool.and_self, bD, dI, iD, rows_nb eO_nb]); exact .refl _
end Go.Dw.Seat.Tr
end
section
set_option linter.unusedSimpArgs false
set_option maxRecDepth 100000
namespace Go.Dw.Seat.Tr
open Go Go.Dw Go.Proofs Go.IntWalk
def eSt (s : TStp) : List C := [.sl false 1 (rows eI s.ws), .v (.int .i64 s.run)]
theorem eSt_nb (s : TStp) : C.nbs (eSt s) = true := by
 simp only [eSt, C.nbs, C.nb, rows_nb eI_nb, Bool.and_self, Bool.not_false]
attribute [go_sem] eSt
abbrev dSt (b : Bool) (q : List TStp) : D := .c (.sl b 2 (rows eSt q))
theorem trClipS (q : List TStp) : DCall Try.prog 168 [dSt false q] [] (.c (.cl false 2 (rows eSt q))) [] := by
 refine DCall.of Try.func168 sf168 hb168 (Nat.le_of_ble_eq_true rfl) (okRes_nil fun _ => rfl) ?_; simp only [s168, idxs, Nat.reduceAdd]
 repeat' (first|(with_reducible first|apply qA|apply qB|apply qC|apply qD|apply qE|apply qF)|(simp (disch:=omega) only [go_sem, simprocAttr, qN, qO, qP, qQ, Int.le_refl])|exact qM rfl rfl rfl|(refine qG rfl ?_)|(refine qH rfl ?_)|(refine qI rfl ?_ ?_<;>intro hc<;>(try simp only [go_sem] at hc))|(refine qJ ?_ ?_<;>intro hc<;>(try simp only [hc])<;>(try simp only [go_sem] at hc)))
 refine retS_wk rfl ?_ (by simp only [Blk.nb, rowC_nb, D.nb, D.nbs, C.nb, C.nbs, C.nbss, rows_nb eI_nb, Bool.and_true, Bool.not_false, Bool.and_self, bD, dI, iD, rows_nb eO_nb, rows_nb eSt_nb]); exact .refl _
def stE (p : TPap) (l : List TOrd) (prev : Option TStp) (s : TStp) : Int :=
 if websE p l s.ws ≠ 0 then websE p l s.ws else if wthn 1 30 [s.run] = false then 3 else if (match prev with | none => false | some w => decide (0 ≤ cmpL w.ws s.ws)) = true then 6 else 0
def getR (p : TPap) (l : List TOrd) : Option TStp → List Int → Int → Nat → List TStp → (List Int × Int) ⊕ (Nat × Int)
 | _, got, w, _, [] => .inl (got, w)
 | prev, got, w, i, s :: q => if stE p l prev s ≠ 0 then .inr (i, stE p l prev s) else getR p l (some s) (addG got s.ws s.run) (w + trimI p l s.ws * s.run) (i + 1) q
end Go.Dw.Seat.Tr
end
section
set_option linter.unusedSimpArgs false
set_option maxRecDepth 100000
namespace Go.Dw.Seat.Tr
open Go Go.Dw Go.Proofs Go.IntWalk
attribute [go_sem] dSt
theorem trCloneS (b : Bool) (l : List TStp) (hl : l.length ≤ 2 ^ 36) (k : Nat) : DCall Try.prog 166 [dSt b l] [] (.own k) [(k, .row 2 (rowC (rows eSt l)))] := by
 have hnb : ∀ l : List TStp, Blk.nb (.row 2 (rowC (rows eSt l))) = true := fun l => rowC_nb (rows_nb eSt_nb l)
 refine DCall.rename (k0 := 5) ?_ k
 cases l with
 | nil =>
  refine DCall.nil1 (fun a c => ?_)
  cases a with
  | none =>
   refine DCall.of Try.func166 sf166 hb166 (Nat.le_of_ble_eq_true rfl) okRes_row ?_; simp only [s166, idxs, Nat.reduceAdd]
   repeat' (first|(with_reducible first|apply qA|apply qB|apply qC|apply qD|apply qE|apply qF)|(simp (disch:=omega) only [go_sem, simprocAttr, qN, qO, qP, qQ, Option.isNone])|exact qM rfl rfl rfl|(refine qG rfl ?_)|(refine qH rfl ?_)|(refine qI rfl ?_ ?_<;>intro hc<;>(try simp only [go_sem] at hc))|(refine qJ ?_ ?_<;>intro hc<;>(try simp only [hc])<;>(try simp only [go_sem] at hc)))
   refine retS_ent (Ent.adopt 2 5 2 rfl rfl rfl) ?_
   simp (disch:=omega) only [go_sem,simprocAttr,qN,qO,qP,qQ]
   refine retS_row ?_ ?_ (hnb []) <;> rfl
  | some a =>
   refine DCall.of Try.func166 sf166 hb166 (Nat.le_of_ble_eq_true rfl) okRes_row ?_; simp only [s166, idxs, Nat.reduceAdd]
   refine DW.seq (DW.reg ?_)
   simp (disch:=omega) only [go_sem,simprocAttr,qN,qO,qP,qQ]
   refine DW.seq (DW.seq (DW.reg ?_))
   simp (disch:=omega) only [go_sem,simprocAttr,qN,qO,qP,qQ,Option.isNone]
   refine DW.cond_ff rfl (DW.skip ?_)
   simp (disch:=omega) only [go_sem,simprocAttr,qN,qO,qP,qQ]
   refine DW.ent (Ent.to (tm' := [(0, .c (.sl b 2 []))]) (bx' := []) (by simp (disch:=omega) only [qR,qS,qTw,qU,get,Nat.reduceEqDiff,↓reduceIte,qV,qW,qX,qY,qZ,and_self,dI,i64_in,and_true,true_and,rA,rB,rC,rD]) trivial) ?_
   repeat' (first|(with_reducible first|apply qA|apply qB|apply qC|apply qD|apply qE|apply qF)|(simp (disch:=omega) only [go_sem, simprocAttr, qN, qO, qP, qQ])|exact qM rfl rfl rfl|(refine qG rfl ?_)|(refine qH rfl ?_)|(refine qI rfl ?_ ?_<;>intro hc<;>(try simp only [go_sem] at hc))|(refine qJ ?_ ?_<;>intro hc<;>(try simp only [hc])<;>(try simp only [go_sem] at hc)))
   refine retS_row ?_ ?_ (hnb []) <;> rfl
 | cons x l =>
  simp only [List.length_cons] at hl
  refine DCall.of Try.func166 sf166 hb166 (Nat.le_of_ble_eq_true rfl) okRes_row ?_; simp only [s166, idxs, Nat.reduceAdd]
  repeat' (first|(with_reducible first|apply qA|apply qB|apply qC|apply qD|apply qE|apply qF)|(simp (disch:=omega) only [go_sem, simprocAttr, qN, qO, qP, qQ, rows_cons])|exact qM rfl rfl rfl|(refine qG rfl ?_)|(refine qH rfl ?_)|(refine qI rfl ?_ ?_<;>intro hc<;>(try simp only [go_sem] at hc))|(refine qJ ?_ ?_<;>intro hc<;>(try simp only [hc])<;>(try simp only [go_sem] at hc)))
  refine retS_row ?_ ?_ (hnb (x :: l)) <;> rfl
end Go.Dw.Seat.Tr
end
section
set_option linter.unusedSimpArgs false
set_option maxRecDepth 100000
namespace Go.Dw.Seat.Tr
open Go Go.Dw Go.Proofs Go.IntWalk
def getD' (r : (List Int × Int) ⊕ (Nat × Int)) : D := match r with
 | .inl (g, w) => .tup [dIs false g, dI w, dI 0, dI 0]
 | .inr (i, e) => .tup [.c (.v (.slice none 0 0)), dI 0, dI i, dI e]
def prevS (q : List TStp) : Nat → Option TStp
 | 0 => none
 | i + 1 => q[i]?
theorem replZ (n : Nat) : List.replicate n [C.v (.int .i64 0)] = rows eI (zeros n) := by simp [rows, eI, zeros]
theorem addG_b : ∀ {g ws : List Int} {r B : Int}, (∀ v ∈ g, 0 ≤ v ∧ v ≤ B) → (∀ n ∈ ws, 0 ≤ n ∧ n ≤ 4) → 0 ≤ r → ∀ v ∈ addG g ws r, 0 ≤ v ∧ v ≤ B + 4 * r
 | [], _, _, _, _, _, _ => by simp [addG]
 | g :: gs, [], r, B, hg, _, hr => fun v hv => by
  have := hg v hv
  omega
 | g :: gs, n :: ws, r, B, hg, hw, hr => fun v hv => by
  rw [addG, List.mem_cons] at hv
  rcases hv with rfl | hv
  ·have h1 := hg g (by simp)
   have h2 := hw n (by simp)
   have m1 : 0 ≤ n * r := Int.mul_nonneg h2.1 hr
   have m2 : n * r ≤ 4 * r := Int.mul_le_mul_of_nonneg_right h2.2 hr
   omega
  ·exact addG_b (fun x hx => hg x (by simp [hx])) (fun x hx => hw x (by simp [hx])) hr v hv
set_option maxHeartbeats 4000000 in
theorem trGetM (p : TPap) (hp : p.ok) (l : List TOrd) (hl : l.length ≤ 4) (ho : ∀ o ∈ l, o.ok) (q : List TStp) (hq : q.length ≤ 3) (hqw : ∀ s ∈ q, s.ws.length ≤ 2 ^ 36) : DCall Try.prog 119 [macD false p l, dSt false q] [] (getD' (getR p l none (zeros l.length) 0 0 q)) [] := by
 generalize hR : getR p l none (zeros l.length) 0 0 q = R
 have hd3 : decide ((3 : Int) < (q.length : Int)) = false := decide_eq_false (by omega)
 refine DCall.of Try.func119 sf119 hb119 (Nat.le_of_ble_eq_true rfl) (okRes_nil fun _ => by rcases R with ⟨g, w⟩ | ⟨i, e⟩ <;> rfl) ?_
 simp only [s119, idxs, Nat.reduceAdd]
 repeat' (first|(with_reducible first|apply qA|apply qB|apply qC|apply qD|apply qE|apply qF)|(refine qL rfl (WF.of ?_) ?_; first|rfl|skip)|(simp (disch:=omega) only [go_sem, simprocAttr, qN, qO, qP, qQ, hd3, replZ])|exact qM rfl rfl rfl|(refine qG rfl ?_)|(refine qH rfl ?_)|(refine qI rfl ?_ ?_<;>intro hc<;>(try simp only [go_sem] at hc))|(refine qJ ?_ ?_<;>intro hc<;>(try simp only [hc])<;>(try simp only [go_sem] at hc)))
 (refine DW.ent (Ent.rel 17 rfl) ?_; simp (disch:=omega) only [go_sem,simprocAttr,qN,qO,qP,qQ])
 refine DW.loop (ι := { y : Nat × List Int × Int // y.1 ≤ q.length ∧ y.2.1.length = l.length ∧ (∀ v ∈ y.2.1, 0 ≤ v ∧ v ≤ 120 * (y.1 : Int)) ∧ (0 ≤ y.2.2 ∧ y.2.2 ≤ 90000 * (y.1 : Int)) ∧ getR p l (prevS q y.1) y.2.1 y.2.2 y.1 (q.drop y.1) = R }) (fun y => ⟨72, [(20, dI y.1.1), (19, dI q.length), (18, dSt false q), (7, dI 0), (6, dI 0), (5, dI y.1.2.2), (4, dIs false y.1.2.1), (2, .box 2 0), (1, dSt false q)], [(2, .box [dI p.wide, dI p.tl, dI p.th, dI p.webs, .c (.sl false 3 (rows eO l))])]⟩) (fun y => q.length - y.1.1) ⟨(0, zeros l.length, 0), Nat.zero_le _, by simp [zeros], fun v hv => by (have := List.eq_of_mem_replicate hv; simp only [this]; omega), by simp only; omega, hR⟩ ?_ ?_
 ·refine Ent.to ?_ ?_ <;> simp (disch:=omega) only [qR,qS,qTw,qU,get,Nat.reduceEqDiff,↓reduceIte,qV,qW,qX,qY,qZ,and_self,dI,i64_in,and_true,true_and,rA,rB,rC,rD]
  all_goals first | exact ⟨.refl _, .refl _⟩ | exact .refl _
 rintro ⟨⟨i, G, W⟩, hi, hGl, hGb, hWb, hRun⟩
 dsimp only at hi hGl hGb hWb hRun ⊢
 rcases at_or q i hi with ⟨s, hs, hlt, hd⟩ | ⟨he, hd⟩
 ·have hdr : q.drop i = s :: q.drop (i + 1) := by
   rw [List.drop_eq_getElem_cons hlt, (List.getElem_eq_iff hlt).2 hs]
  rw [hdr, getR] at hRun
  have h1 := trWebs false false p hp l hl ho s.ws (hqw s (List.mem_of_getElem? hs))
  by_cases e1 : websE p l s.ws = 0
  case neg =>
   have hst : stE p l (prevS q i) s = websE p l s.ws := if_pos e1
   rw [hst, if_pos e1] at hRun
   subst hRun
   simp only [getD']
   generalize websE p l s.ws = e at *
   have hde : (e != 0) = true := by simpa using e1
   repeat' (first|(with_reducible first|apply qA|apply qB|apply qC|apply qD|apply qE|apply qF)|(refine qL rfl (WF.of ?_) ?_; first|rfl|skip)|(simp (disch:=omega) only [go_sem, simprocAttr, qN, qO, qP, qQ, hd, hs, hde, rF, rG])|exact qM rfl rfl rfl|(refine qG rfl ?_)|(refine qK (h1) (by decide) ?_)|(refine qH rfl ?_)|(refine qI rfl ?_ ?_<;>intro hc<;>(try simp only [go_sem] at hc))|(refine qJ ?_ ?_<;>intro hc<;>(try simp only [hc])<;>(try simp only [go_sem] at hc)))
  obtain ⟨hw, hpt⟩ := websE_ok e1
  rw [e1] at h1
  have h2 := trWithin true 1 30 [s.run] (by simp)
  cases e2 : wthn 1 30 [s.run] <;> rw [e2] at h2
  ·have hst : stE p l (prevS q i) s = 3 := by unfold stE; rw [if_neg (by simpa using e1), if_pos e2]
   rw [hst, if_pos (by decide)] at hRun
   subst hRun
   simp only [getD']
   repeat' (first|(with_reducible first|apply qA|apply qB|apply qC|apply qD|apply qE|apply qF)|(refine qL rfl (WF.of ?_) ?_; first|rfl|skip)|(simp (disch:=omega) only [go_sem, simprocAttr, qN, qO, qP, qQ, hd, hs, rF, rG])|exact qM rfl rfl rfl|(refine qG rfl ?_)|(refine qK (h1) (by decide) ?_)|(refine qK (h2) (by decide) ?_)|(refine qH rfl ?_)|(refine qI rfl ?_ ?_<;>intro hc<;>(try simp only [go_sem] at hc))|(refine qJ ?_ ?_<;>intro hc<;>(try simp only [hc])<;>(try simp only [go_sem] at hc)))
  have hrb := wthn_one e2
  have h3 := trAdd false false G s.ws s.run (fun v hv => by have := hGb v hv; omega) (by omega) (by have := hw.len; omega) hw.b (by omega)
  have h4 := trTrim false false p hp l hl ho s.ws hw
  have htb : 0 ≤ trimI p l s.ws ∧ trimI p l s.ws ≤ 3000 := by
   simp only [patB, Bool.and_eq_true, decide_eq_true_eq] at hpt
   have := hp.trim
   omega
  have m1 : 0 ≤ trimI p l s.ws * s.run := Int.mul_nonneg htb.1 (by omega)
  have m2 : trimI p l s.ws * s.run ≤ 3000 * s.run := Int.mul_le_mul_of_nonneg_right htb.2 (by omega)
  have hgl : (addG G s.ws s.run).length = l.length := by rw [addG_len]; exact hGl
  have hgb := addG_b hGb hw.b (show 0 ≤ s.run by omega)
  have w1 : IntKind.i64.wrap (trimI p l s.ws * s.run) = trimI p l s.ws * s.run := IntWalk.i64_in _ (by omega)
  have w2 : IntKind.i64.wrap (W + trimI p l s.ws * s.run) = W + trimI p l s.ws * s.run := IntWalk.i64_in _ (by omega)
  have hnx : prevS q (i + 1) = some s := hs
  rcases i with _ | k
  ·have hst : stE p l (prevS q 0) s = 0 := by unfold stE; rw [if_neg (by simpa using e1), if_neg (by rw [e2]; decide)]; rfl
   rw [hst, if_neg (by decide)] at hRun
   have hnew : getR p l (prevS q 1) (addG G s.ws s.run) (W + trimI p l s.ws * s.run) 1 (q.drop 1) = R := by rw [hnx]; exact hRun
   generalize trimI p l s.ws = t at *
   generalize addG G s.ws s.run = G2 at *
   have hd' : decide ((0 : Int) < (q.length : Int)) = true := hd
   repeat' (first|(with_reducible first|apply qA|apply qB|apply qC|apply qD|apply qE|apply qF)|(refine qL rfl (WF.of ?_) ?_; first|rfl|skip)|(simp (disch:=omega) only [go_sem, simprocAttr, qN, qO, qP, qQ, hd', hs, w1, w2, rF, rG])|exact qM rfl rfl rfl|(refine qG rfl ?_)|(refine qK (h1) (by decide) ?_)|(refine qK (h2) (by decide) ?_)|(refine qK (h3) (by decide) ?_)|(refine qK (h4) (by decide) ?_)|(refine qH rfl ?_)|(refine qI rfl ?_ ?_<;>intro hc<;>(try simp only [go_sem] at hc))|(refine qJ ?_ ?_<;>intro hc<;>(try simp only [hc])<;>(try simp only [go_sem] at hc)))
   refine ⟨⟨(1, G2, W + t * s.run), by omega, hgl, fun v hv => by have := hgb v hv; omega, by (simp only; omega), hnew⟩, ?_, Ent.to ?_ ?_⟩ <;> first | (show _ < _; (try simp only); omega) | (simp (disch:=omega) only [qR,qS,qTw,qU,get,Nat.reduceEqDiff,↓reduceIte,qV,qW,qX,qY,qZ,and_self,dI,i64_in,and_true,true_and,rA,rB,rC,rD])
   all_goals first | exact ⟨.refl _, .refl _⟩ | exact .refl _
  ·obtain ⟨s0, hs0⟩ := getE (l := q) (i := k) (by omega)
   have h5 := crCmpL false false s0.ws s.ws (hqw s0 (List.mem_of_getElem? hs0)) (hqw s (List.mem_of_getElem? hs))
   have hpv : prevS q (k + 1) = some s0 := hs0
   have hpos : decide ((0 : Int) < ((k + 1 : Nat) : Int)) = true := decide_eq_true (by omega)
   have ek : ((k + 1 : Nat) : Int) - 1 = (k : Int) := by omega
   rw [hpv] at hRun
   generalize hc : cmpL s0.ws s.ws = c at *
   cases e3 : decide (0 ≤ c)
   ·have hst : stE p l (some s0) s = 0 := by unfold stE; rw [if_neg (by simpa using e1), if_neg (by rw [e2]; decide)]; simp only [hc, e3]; rfl
    rw [hst, if_neg (by decide)] at hRun
    have hnew : getR p l (prevS q (k + 1 + 1)) (addG G s.ws s.run) (W + trimI p l s.ws * s.run) (k + 1 + 1) (q.drop (k + 1 + 1)) = R := by rw [hnx]; exact hRun
    generalize trimI p l s.ws = t at *
    generalize addG G s.ws s.run = G2 at *
    repeat' (first|(with_reducible first|apply qA|apply qB|apply qC|apply qD|apply qE|apply qF)|(refine qL rfl (WF.of ?_) ?_; first|rfl|skip)|(simp (disch:=omega) only [go_sem, simprocAttr, qN, qO, qP, qQ, hd, hs, hs0, hpos, ek, e3, w1, w2, rF, rG])|exact qM rfl rfl rfl|(refine qG rfl ?_)|(refine qK (h1) (by decide) ?_)|(refine qK (h2) (by decide) ?_)|(refine qK (h3) (by decide) ?_)|(refine qK (h4) (by decide) ?_)|(refine qK (h5) (by decide) ?_)|(refine qH rfl ?_)|(refine qI rfl ?_ ?_<;>intro hc<;>(try simp only [go_sem] at hc))|(refine qJ ?_ ?_<;>intro hc<;>(try simp only [hc])<;>(try simp only [go_sem] at hc)))
    refine ⟨⟨(k + 1 + 1, G2, W + t * s.run), by omega, hgl, fun v hv => by have := hgb v hv; omega, by (simp only; omega), hnew⟩, ?_, Ent.to ?_ ?_⟩ <;> first | (show _ < _; (try simp only); omega) | (simp (disch:=omega) only [qR,qS,qTw,qU,get,Nat.reduceEqDiff,↓reduceIte,qV,qW,qX,qY,qZ,and_self,dI,i64_in,and_true,true_and,rA,rB,rC,rD])
    all_goals first | exact ⟨.refl _, .refl _⟩ | exact .refl _
   ·have hst : stE p l (some s0) s = 6 := by unfold stE; rw [if_neg (by simpa using e1), if_neg (by rw [e2]; decide)]; simp only [hc, e3]; rfl
    rw [hst, if_pos (by decide)] at hRun
    subst hRun
    simp only [getD']
    repeat' (first|(with_reducible first|apply qA|apply qB|apply qC|apply qD|apply qE|apply qF)|(refine qL rfl (WF.of ?_) ?_; first|rfl|skip)|(simp (disch:=omega) only [go_sem, simprocAttr, qN, qO, qP, qQ, hd, hs, hs0, hpos, ek, e3, rF, rG])|exact qM rfl rfl rfl|(refine qG rfl ?_)|(refine qK (h1) (by decide) ?_)|(refine qK (h2) (by decide) ?_)|(refine qK (h5) (by decide) ?_)|(refine qH rfl ?_)|(refine qI rfl ?_ ?_<;>intro hc<;>(try simp only [go_sem] at hc))|(refine qJ ?_ ?_<;>intro hc<;>(try simp only [hc])<;>(try simp only [go_sem] at hc)))
 ·have hdr : q.drop i = [] := List.drop_eq_nil_of_le (by omega)
  rw [hdr, getR] at hRun
  subst hRun
  simp only [getD']
  repeat' (first|(with_reducible first|apply qA|apply qB|apply qC|apply qD|apply qE|apply qF)|(refine qL rfl (WF.of ?_) ?_; first|rfl|skip)|(simp (disch:=omega) only [go_sem, simprocAttr, qN, qO, qP, qQ, hd])|exact qM rfl rfl rfl|(refine qG rfl ?_)|(refine qH rfl ?_)|(refine qI rfl ?_ ?_<;>intro hc<;>(try simp only [go_sem] at hc))|(refine qJ ?_ ?_<;>intro hc<;>(try simp only [hc])<;>(try simp only [go_sem] at hc)))
  refine retS_wk rfl ?_ (by simp only [Blk.nb, rowC_nb, D.nb, D.nbs, C.nb, C.nbs, C.nbss, rows_nb eI_nb, Bool.and_true, Bool.not_false, Bool.and_self, bD, dI, iD, rows_nb eO_nb, rows_nb eSt_nb]); exact .refl _
end Go.Dw.Seat.Tr
end
section
set_option linter.unusedSimpArgs false
set_option maxRecDepth 100000
namespace Go.Dw.Seat.Tr
open Go Go.Dw Go.Proofs Go.IntWalk
theorem trGetL (b : Bool) (p : TPap) (l : List TOrd) (q : List TStp) (hq : 3 < q.length) : DCall Try.prog 119 [macD b p l, dSt b q] [] (.tup [.c (.v (.slice none 0 0)), dI 0, dI 0, dI 5]) [] := by
 have hd3 : decide ((3 : Int) < (q.length : Int)) = true := decide_eq_true (by omega)
 refine DCall.of Try.func119 sf119 hb119 (Nat.le_of_ble_eq_true rfl) (okRes_nil fun _ => rfl) ?_; simp only [s119, idxs, Nat.reduceAdd]
 repeat' (first|(with_reducible first|apply qA|apply qB|apply qC|apply qD|apply qE|apply qF)|(refine qL rfl (WF.of ?_) ?_; first|rfl|skip)|(simp (disch:=omega) only [go_sem, simprocAttr, qN, qO, qP, qQ, hd3])|exact qM rfl rfl rfl|(refine qG rfl ?_)|(refine qH rfl ?_)|(refine qI rfl ?_ ?_<;>intro hc<;>(try simp only [go_sem] at hc))|(refine qJ ?_ ?_<;>intro hc<;>(try simp only [hc])<;>(try simp only [go_sem] at hc)))
def getA (p : TPap) (l : List TOrd) (q : List TStp) : (List Int × Int) ⊕ (Nat × Int) := if 3 < q.length then .inr (0, 5) else getR p l none (zeros l.length) 0 0 q
theorem trGetA (p : TPap) (hp : p.ok) (l : List TOrd) (hl : l.length ≤ 4) (ho : ∀ o ∈ l, o.ok) (q : List TStp) (hqw : ∀ s ∈ q, s.ws.length ≤ 2 ^ 36) : DCall Try.prog 119 [macD false p l, dSt false q] [] (getD' (getA p l q)) [] := by
 unfold getA
 split
 ·rename_i h
  exact trGetL false p l q h
 ·rename_i h
  exact trGetM p hp l hl ho q (by omega) hqw
theorem getR_len (p : TPap) (l : List TOrd) : ∀ (q : List TStp) (pr : Option TStp) (G : List Int) (W : Int) (i : Nat) (g : List Int) (w : Int), getR p l pr G W i q = .inl (g, w) → g.length = G.length
 | [], _, _, _, _, _, _, h => by rw [getR] at h; cases h; rfl
 | s :: q, pr, G, W, i, g, w, h => by
  rw [getR] at h
  split at h
  ·cases h
  ·rw [getR_len p l q _ _ _ _ _ _ h, addG_len]
theorem getR_err (p : TPap) (l : List TOrd) : ∀ (q : List TStp) (pr : Option TStp) (G : List Int) (W : Int) (i : Nat) (j : Nat) (e : Int), getR p l pr G W i q = .inr (j, e) → e ≠ 0
 | [], _, _, _, _, _, _, h => by rw [getR] at h; cases h
 | s :: q, pr, G, W, i, j, e, h => by
  rw [getR] at h
  split at h
  ·rename_i h2; cases h; exact h2
  ·exact getR_err p l q _ _ _ _ _ _ h
def doesA (p : TPap) (l : List TOrd) (q : List TStp) : (List Int × Int) ⊕ (Int × Int) := match getA p l q with
 | .inr (i, e) => .inr ((i : Int), e)
 | .inl (g, w) => if 0 ≤ wrongI l g then .inr (wrongI l g, 9) else .inl (g, w)
def doesD (r : (List Int × Int) ⊕ (Int × Int)) : D := match r with
 | .inl (g, w) => .tup [dIs false g, dI w, dI 0, dI 0]
 | .inr (i, e) => .tup [.c (.v (.slice none 0 0)), dI 0, dI i, dI e]
set_option maxHeartbeats 1000000 in
theorem trDoes (p : TPap) (hp : p.ok) (l : List TOrd) (hl : l.length ≤ 4) (ho : ∀ o ∈ l, o.ok) (q : List TStp) (hqw : ∀ s ∈ q, s.ws.length ≤ 2 ^ 36) : DCall Try.prog 69 [macD false p l, dSt false q] [] (doesD (doesA p l q)) [] := by
 have h1 := trGetA p hp l hl ho q hqw
 unfold doesA
 cases hR : getA p l q with
 | inr x =>
  obtain ⟨i, e⟩ := x
  rw [hR] at h1
  have he : e ≠ 0 := by
   unfold getA at hR
   split at hR
   ·cases hR; decide
   ·exact getR_err _ _ _ _ _ _ _ _ _ hR
  have hd : (e != 0) = true := by simpa using he
  simp only [getD'] at h1
  simp only [doesD]
  refine DCall.of Try.func69 sf69 hb69 (Nat.le_of_ble_eq_true rfl) (okRes_nil fun _ => rfl) ?_; simp only [s69, idxs, Nat.reduceAdd]
  repeat' (first|(with_reducible first|apply qA|apply qB|apply qC|apply qD|apply qE|apply qF)|(simp (disch:=omega) only [go_sem, simprocAttr, qN, qO, qP, qQ, hd])|exact qM rfl rfl rfl|(refine qG rfl ?_)|(refine qK (h1) (by decide) ?_)|(refine qH rfl ?_)|(refine qI rfl ?_ ?_<;>intro hc<;>(try simp only [go_sem] at hc))|(refine qJ ?_ ?_<;>intro hc<;>(try simp only [hc])<;>(try simp only [go_sem] at hc)))
 | inl x =>
  obtain ⟨g, w⟩ := x
  rw [hR] at h1
  have hg : g.length = l.length := by
   unfold getA at hR
   split at hR
   ·cases hR
   ·rw [getR_len _ _ _ _ _ _ _ _ _ hR]; simp [zeros]
  have h2 := trWrong false false p l hl g hg
  simp only [getD'] at h1
  dsimp only
  by_cases h0 : 0 ≤ wrongI l g
  ·have hd : decide (0 ≤ wrongI l g) = true := decide_eq_true h0
   rw [if_pos h0]
   simp only [doesD]
   generalize wrongI l g = k at *
   refine DCall.of Try.func69 sf69 hb69 (Nat.le_of_ble_eq_true rfl) (okRes_nil fun _ => rfl) ?_; simp only [s69, idxs, Nat.reduceAdd]
   repeat' (first|(with_reducible first|apply qA|apply qB|apply qC|apply qD|apply qE|apply qF)|(simp (disch:=omega) only [go_sem, simprocAttr, qN, qO, qP, qQ, hd])|exact qM rfl rfl rfl|(refine qG rfl ?_)|(refine qK (h1) (by decide) ?_)|(refine qK (h2) (by decide) ?_)|(refine qH rfl ?_)|(refine qI rfl ?_ ?_<;>intro hc<;>(try simp only [go_sem] at hc))|(refine qJ ?_ ?_<;>intro hc<;>(try simp only [hc])<;>(try simp only [go_sem] at hc)))
  ·have hd : decide (0 ≤ wrongI l g) = false := decide_eq_false h0
   rw [if_neg h0]
   simp only [doesD]
   generalize wrongI l g = k at *
   refine DCall.of Try.func69 sf69 hb69 (Nat.le_of_ble_eq_true rfl) (okRes_nil fun _ => rfl) ?_; simp only [s69, idxs, Nat.reduceAdd]
   repeat' (first|(with_reducible first|apply qA|apply qB|apply qC|apply qD|apply qE|apply qF)|(simp (disch:=omega) only [go_sem, simprocAttr, qN, qO, qP, qQ, hd])|exact qM rfl rfl rfl|(refine qG rfl ?_)|(refine qK (h1) (by decide) ?_)|(refine qK (h2) (by decide) ?_)|(refine qH rfl ?_)|(refine qI rfl ?_ ?_<;>intro hc<;>(try simp only [go_sem] at hc))|(refine qJ ?_ ?_<;>intro hc<;>(try simp only [hc])<;>(try simp only [go_sem] at hc)))
   refine retS_wk rfl ?_ (by simp only [Blk.nb, rowC_nb, D.nb, D.nbs, C.nb, C.nbs, C.nbss, rows_nb eI_nb, Bool.and_true, Bool.not_false, Bool.and_self, bD, dI, iD, rows_nb eO_nb, rows_nb eSt_nb]); exact .refl _
end Go.Dw.Seat.Tr
end
section
set_option linter.unusedSimpArgs false
set_option maxRecDepth 100000
namespace Go.Dw.Seat.Tr
open Go Go.Dw Go.Proofs Go.IntWalk
theorem rows_snocI (l : List Int) (x : Int) : rows eI l ++ [[C.v (.int .i64 x)]] = rows eI (l ++ [x]) := by simp [rows, eI]
theorem shut1 (n : Int) : shutEs [[D.c (.v (.int .i64 n))]] = some [[C.v (.int .i64 n)]] := rfl
theorem trClip (l : List Int) : DCall Try.prog 176 [dIs false l] [] (.c (.cl false 1 (rows eI l))) [] := by
 refine DCall.of Try.func176 sf176 hb176 (Nat.le_of_ble_eq_true rfl) (okRes_nil fun _ => rfl) ?_; simp only [s176, idxs, Nat.reduceAdd]
 repeat' (first|(with_reducible first|apply qA|apply qB|apply qC|apply qD|apply qE|apply qF)|(simp (disch:=omega) only [go_sem, simprocAttr, qN, qO, qP, qQ, Int.le_refl])|exact qM rfl rfl rfl|(refine qG rfl ?_)|(refine qH rfl ?_)|(refine qI rfl ?_ ?_<;>intro hc<;>(try simp only [go_sem] at hc))|(refine qJ ?_ ?_<;>intro hc<;>(try simp only [hc])<;>(try simp only [go_sem] at hc)))
 refine retS_wk rfl ?_ (by simp only [Blk.nb, rowC_nb, D.nb, D.nbs, C.nb, C.nbs, C.nbss, rows_nb eI_nb, Bool.and_true, Bool.not_false, Bool.and_self, bD, dI, iD, rows_nb eO_nb]); exact .refl _
theorem trPatterns (p : TPap) (l : List TOrd) (ws : List Int) : DCall Try.prog 165 [macD false p l, dIs false ws] [] (.fn (.func 175) [] [.c (.ro false [.sl false 1 (rows eI ws)] 0), .c (.ro false [.v (.int .i64 p.wide), .v (.int .i64 p.tl), .v (.int .i64 p.th), .v (.int .i64 p.webs), .sl false 3 (rows eO l)] 0)]) [] := by
 refine DCall.of Try.func165 sf165 hb165 (Nat.le_of_ble_eq_true rfl) (okRes_nil fun _ => rfl) ?_; simp only [s165, idxs, Nat.reduceAdd]
 repeat' (first|(with_reducible first|apply qA|apply qB|apply qC|apply qD|apply qE|apply qF)|(simp (disch:=omega) only [go_sem, simprocAttr, qN, qO, qP, qQ])|exact qM rfl rfl rfl|(refine qG rfl ?_)|(refine qH rfl ?_)|(refine qI rfl ?_ ?_<;>intro hc<;>(try simp only [go_sem] at hc))|(refine qJ ?_ ?_<;>intro hc<;>(try simp only [hc])<;>(try simp only [go_sem] at hc)))
 (refine retS_ent (Ent.rel 2 rfl) ?_; simp (disch:=omega) only [go_sem,simprocAttr,qN,qO,qP,qQ])
 (refine retS_ent (Ent.rel 3 rfl) ?_; simp (disch:=omega) only [go_sem,simprocAttr,qN,qO,qP,qQ])
 refine retS_wk rfl ?_ (by simp only [Blk.nb, rowC_nb, D.nb, D.nbs, C.nb, C.nbs, C.nbss, rows_nb eI_nb, Bool.and_true, Bool.not_false, Bool.and_self, bD, dI, iD, rows_nb eO_nb]); exact .refl _
def patsX (p : TPap) (l : List TOrd) : Nat → List Int → List (List Int)
 | 0, ws => if patB p l ws = true then [ws] else []
 | r + 1, ws => (List.range (p.webs.toNat + 1)).flatMap fun (d : Nat) => patsX p l r (ws ++ [(d : Int)])
def enW (w : List Int) : List D := [dIs false w]
attribute [go_sem] enW
theorem patsX_ws (p : TPap) (hp : p.ok) (l : List TOrd) : ∀ (r : Nat) (ws : List Int), ws.length + r = l.length → (∀ n ∈ ws, 0 ≤ n ∧ n ≤ 4) → ∀ w ∈ patsX p l r ws, Ws4 l w
 | 0, ws, hl, hb, w, hw => by
  rw [patsX] at hw
  split at hw
  ·rw [List.mem_singleton] at hw; subst hw; exact ⟨hl, hb⟩
  ·cases hw
 | r + 1, ws, hl, hb, w, hw => by
  rw [patsX, List.mem_flatMap] at hw
  obtain ⟨d, hd, hw⟩ := hw
  have := hp.webs
  rw [List.mem_range] at hd
  refine patsX_ws p hp l r (ws ++ [(d : Int)]) (by simp; omega) (fun n hn => ?_) w hw
  simp only [List.mem_append, List.mem_singleton] at hn
  rcases hn with hn | rfl
  ·exact hb n hn
  ·omega
def thru {β ε : Type} (stp : β → ε → Bool × β) (b : β) (e : ε) : Option Exit × β := (if (stp b e).1 = true then none else some .ret, (stp b e).2)
theorem thru_run {β ε : Type} (stp : β → ε → Bool × β) : ∀ (L R : List ε) (b : β),
  ((runIt (thru stp) b L).1 = none ∧ runB stp b (L ++ R) = runB stp (runIt (thru stp) b L).2 R) ∨ ((runIt (thru stp) b L).1 = some .ret ∧ runB stp b (L ++ R) = (runIt (thru stp) b L).2)
 | [], R, b => .inl ⟨rfl, rfl⟩
 | e :: L, R, b => by
  by_cases hs : (stp b e).1 = true
  ·have := thru_run stp L R (stp b e).2
   simp only [runIt, thru, hs, if_true, List.cons_append, runB] at this ⊢
   exact this
  ·refine .inr ?_
   simp [runIt, thru, hs, runB]
theorem thru_live {β ε : Type} (stp : β → ε → Bool × β) (live : List ε → β → Prop) (ok : ε → Prop) (h : ∀ b e t, live (e :: t) b → ok e → (stp b e).1 = true → live t (stp b e).2) (R : List ε) : ∀ (L : List ε) (b : β), live (L ++ R) b → (∀ e ∈ L, ok e) → (runIt (thru stp) b L).1 = none → live R (runIt (thru stp) b L).2
 | [], b, hb, _, _ => hb
 | e :: L, b, hb, ho, hn => by
  by_cases hs : (stp b e).1 = true
  ·have h2 := h b e (L ++ R) hb (ho e (by simp)) hs
   simp only [runIt, thru, hs, if_true] at hn ⊢
   exact thru_live stp live ok h R L _ h2 (fun x hx => ho x (by simp [hx])) hn
  ·simp [runIt, thru, hs] at hn
abbrev macC (p : TPap) (l : List TOrd) : List C := [.v (.int .i64 p.wide), .v (.int .i64 p.tl), .v (.int .i64 p.th), .v (.int .i64 p.webs), .sl false 3 (rows eO l)]
def restX (p : TPap) (l : List TOrd) (r : Nat) (ws : List Int) (k : Nat) : List (List Int) := (List.range' k (p.webs.toNat + 1 - k)).flatMap fun (d : Nat) => patsX p l r (ws ++ [(d : Int)])
theorem restX_step {p : TPap} (l : List TOrd) (r : Nat) (ws : List Int) {k : Nat} (h : k ≤ p.webs.toNat) : restX p l r ws k = patsX p l r (ws ++ [(k : Int)]) ++ restX p l r ws (k + 1) := by
 have e : p.webs.toNat + 1 - k = (p.webs.toNat + 1 - (k + 1)) + 1 := by omega
 rw [restX, e, List.range'_succ, List.flatMap_cons, restX]
theorem restX_end {p : TPap} (l : List TOrd) (r : Nat) (ws : List Int) {k : Nat} (h : p.webs.toNat < k) : restX p l r ws k = [] := by
 have e : p.webs.toNat + 1 - k = 0 := by omega
 rw [restX, e]; rfl
theorem restX_all (p : TPap) (l : List TOrd) (r : Nat) (ws : List Int) : patsX p l (r + 1) ws = restX p l r ws 0 := by
 rw [patsX, restX, Nat.sub_zero, List.range_eq_range']
set_option maxHeartbeats 2000000 in
theorem trPats1 (p : TPap) (hp : p.ok) (l : List TOrd) (hl : l.length ≤ 4) (ho : ∀ o ∈ l, o.ok) : ∀ (r : Nat) (ws : List Int), ws.length + r = l.length → (∀ n ∈ ws, 0 ≤ n ∧ n ≤ 4) → ItB true Try.prog 175 [] [.c (.ro false [.sl false 1 (rows eI ws)] 0), .c (.ro false (macC p l) 0)] enW (Ws4 l) (patsX p l r ws)
 | 0, ws, hwl, hb => by
  intro ly β H stp live _ hW hY b0 hl0
  have hH : ∀ b, HidOk (H b) := fun b => (hW b).toHidOk
  have hw : Ws4 l ws := ⟨hwl, hb⟩
  have h1 := trIsPat false false p hp l hl ho ws hw
  rw [patsX] at hl0 ⊢
  refine DCall.of Try.func175 sf175 hb175 (Nat.le_of_ble_eq_true rfl) (hH _).res ?_
  simp only [s175, o175_0, o175_1, o175_2, o175_3, o175_4, o175_5, o175_6, idxs, Nat.reduceAdd, List.map_nil, List.map_cons, List.nil_append, List.cons_append]
  have f1 := hid_get (hH b0)
  have f2 := hid_ins (hH b0)
  have f3 := (hH b0).men
  have f4 := (hH b0).lo
  have f5 : ∀ k x, k < 1000 → ins k x (H b0) = H b0 ++ [(k, x)] := fun k x hk => by have := f2 k hk x []; rwa [List.append_nil] at this
  have hd : ((ws.length : Int) == (l.length : Int)) = true := by rw [hwl.symm]; simp
  refine DW.seq (DW.reg ?_)
  simp (disch:=omega) only [go_sem,simprocAttr,qN,qO,qP,qQ,f1,f2,f3,f4,f5,ins]
  refine DW.ent (Ent.comm (hH b0) rfl).1 ?_
  cases e1 : patB p l ws <;> rw [e1] at h1 hl0
  ·repeat' (first|(with_reducible first|apply qA|apply qB|apply qC|apply qD|apply qE|apply qF)|(refine DW.ord rfl (WF.of (by first|rfl|simp (disch:=omega) only [go_sem, simprocAttr, qN, qO, qP, qQ, f1, f2, f3, f4, ins, hd])) ?_ ?_ ?_; rotate_left)|rfl|(with_reducible refine And.intro ?_ ?_)|(simp (disch:=omega) only [go_sem, simprocAttr, qN, qO, qP, qQ, f1, f2, f3, f4, ins, hd])|exact qM rfl rfl rfl|(refine qG rfl ?_)|(refine qK (h1) (by decide) ?_)|(refine qH rfl ?_)|(refine qI rfl ?_ ?_<;>intro hc<;>(try simp only [go_sem] at hc))|(refine qJ ?_ ?_<;>intro hc<;>(try simp only [hc])<;>(try simp only [go_sem] at hc)))
   exact retS_hid (own := [_]) (.inl rfl) (hH _) rfl
  ·obtain ⟨hyc, -⟩ := hY b0 ws [] hl0 hw
   repeat' (first|(with_reducible first|apply qA|apply qB|apply qC|apply qD|apply qE|apply qF)|(refine DW.ord rfl (WF.of (by first|rfl|simp (disch:=omega) only [go_sem, simprocAttr, qN, qO, qP, qQ, f1, f2, f3, f4, ins, hd])) ?_ ?_ ?_; rotate_left)|rfl|(with_reducible refine And.intro ?_ ?_)|(simp (disch:=omega) only [go_sem, simprocAttr, qN, qO, qP, qQ, f1, f2, f3, f4, ins, hd])|exact qM rfl rfl rfl|(refine qG rfl ?_)|(refine qK (h1) (by decide) ?_)|(refine qH rfl ?_)|(refine qI rfl ?_ ?_<;>intro hc<;>(try simp only [go_sem] at hc))|(refine qJ ?_ ?_<;>intro hc<;>(try simp only [hc])<;>(try simp only [go_sem] at hc)))
   refine call_y (own := [_]) hyc rfl rfl rfl (hH _) (hH _) (by decide) ?_
   simp (disch:=omega) only [go_sem,simprocAttr,qN,qO,qP,qQ]
   repeat' (first|(with_reducible first|apply qA|apply qB|apply qC|apply qD|apply qE|apply qF)|(refine DW.ord rfl (WF.of (by first|rfl|simp (disch:=omega) only [go_sem, simprocAttr, qN, qO, qP, qQ])) ?_ ?_ ?_; rotate_left)|rfl|(with_reducible refine And.intro ?_ ?_)|(simp (disch:=omega) only [go_sem, simprocAttr, qN, qO, qP, qQ])|exact qM rfl rfl rfl|(refine qG rfl ?_)|(refine qH rfl ?_)|(refine qI rfl ?_ ?_<;>intro hc<;>(try simp only [go_sem] at hc))|(refine qJ ?_ ?_<;>intro hc<;>(try simp only [hc])<;>(try simp only [go_sem] at hc)))
   have e2 : runB stp b0 [ws] = (stp b0 ws).2 := by simp only [runB]; cases (stp b0 ws).1 <;> rfl
   rw [e2]
   exact retS_hid (own := [_]) (.inl rfl) (hH _) rfl
 | r + 1, ws, hwl, hb => by
  intro ly β H stp live _ hW hY b0 hl0
  have hH : ∀ b, HidOk (H b) := fun b => (hW b).toHidOk
  have hd : ((ws.length : Int) == (l.length : Int)) = false := by rw [beq_eq_false_iff_ne]; omega
  rw [restX_all] at hl0 ⊢
  refine DCall.of Try.func175 sf175 hb175 (Nat.le_of_ble_eq_true rfl) (hH _).res ?_
  simp only [s175, o175_0, o175_1, o175_2, o175_3, o175_4, o175_5, o175_6, idxs, Nat.reduceAdd, List.map_nil, List.map_cons, List.nil_append, List.cons_append]
  have f1 := hid_get (hH b0)
  have f2 := hid_ins (hH b0)
  have f3 := (hH b0).men
  have f4 := (hH b0).lo
  have f5 : ∀ k x, k < 1000 → ins k x (H b0) = H b0 ++ [(k, x)] := fun k x hk => by have := f2 k hk x []; rwa [List.append_nil] at this
  repeat' (first|(with_reducible first|apply qA|apply qB|apply qC|apply qD|apply qE|apply qF)|(refine DW.ord rfl (WF.of (by first|rfl|simp (disch:=omega) only [go_sem, simprocAttr, qN, qO, qP, qQ, f1, f2, f3, f4, f5, ins, hd])) ?_ ?_ ?_; rotate_left)|rfl|(with_reducible refine And.intro ?_ ?_)|(simp (disch:=omega) only [go_sem, simprocAttr, qN, qO, qP, qQ, f1, f2, f3, f4, f5, ins, hd])|exact qM rfl rfl rfl|(refine qG rfl ?_)|(refine qH rfl ?_)|(refine qI rfl ?_ ?_<;>intro hc<;>(try simp only [go_sem] at hc))|(refine qJ ?_ ?_<;>intro hc<;>(try simp only [hc])<;>(try simp only [go_sem] at hc)))
  have hpw := hp.webs
  have w1 : IntKind.i64.wrap (p.webs + 1) = p.webs + 1 := IntWalk.i64_in _ (by omega)
  refine DW.ent (Ent.comm (hH b0) rfl).1 ?_
  refine DW.loop (ι := { y : Nat × β // y.1 ≤ p.webs.toNat + 1 ∧ live (restX p l r ws y.1) y.2 ∧ runB stp b0 (restX p l r ws 0) = runB stp y.2 (restX p l r ws y.1) })
   (fun y => ⟨38, [(22, dI y.1.1), (21, dI (p.webs + 1)), (3, .box 3 0), (1, .c (.ro false [.sl false 1 (rows eI ws)] 0)), (2, .c (.ro false (macC p l) 0))], [(3, .box [.c (.fn (.yield ly) [] [])])] ++ H y.1.2⟩) (fun y => p.webs.toNat + 1 - y.1.1) ⟨(0, b0), Nat.zero_le _, hl0, rfl⟩ ?_ ?_
  ·refine Ent.toH (hH b0) rfl ?_ ?_ <;> simp (disch:=omega) only [qR,qS,qTw,qU,get,Nat.reduceEqDiff,↓reduceIte,qV,qW,qX,qY,qZ,and_self,dI,i64_in,and_true,true_and,rA,rB,rC,rD,w1]
  rintro ⟨⟨k, b1⟩, hk, hlv, hrun⟩
  dsimp only at hk hlv hrun ⊢
  by_cases hkw : k ≤ p.webs.toNat
  ·have hd2 : decide ((k : Int) < p.webs + 1) = true := decide_eq_true (by omega)
   have hb' : ∀ n ∈ ws ++ [(k : Int)], 0 ≤ n ∧ n ≤ 4 := fun n hn => by
    simp only [List.mem_append, List.mem_singleton] at hn
    rcases hn with hn | rfl
    ·exact hb n hn
    ·omega
   have hit := trPats1 p hp l hl ho r (ws ++ [(k : Int)]) (by simp; omega) hb'
   have hall := patsX_ws p hp l r (ws ++ [(k : Int)]) (by simp; omega) hb'
   have hc1 := trClip ws
   have hc2 := trPatterns p l (ws ++ [(k : Int)])
   have g1 := hid_get (hH b1)
   have g2 := hid_ins (hH b1)
   have g3 := (hH b1).men
   have g4 := (hH b1).lo
   have g5 : ∀ k x, k < 1000 → ins k x (H b1) = H b1 ++ [(k, x)] := fun k x hk => by have := g2 k hk x []; rwa [List.append_nil] at this
   have g6 : ((H b1).all fun p => Blk.keysIn ((3, Blk.box [D.c (C.fn (Fn.yield ly) [] [])]) :: H b1) p.snd) = true := (hW b1).app [_]
   repeat' (first|(with_reducible first|apply qA|apply qB|apply qC|apply qD|apply qE|apply qF)|(refine DW.ord rfl (WF.of (by first|rfl|simp (disch:=omega) only [go_sem, simprocAttr, qN, qO, qP, qQ, g1, g2, g3, g4, g5, g6, ins, hd2, rows_snocI, shut1])) ?_ ?_ ?_; rotate_left)|rfl|(with_reducible refine And.intro ?_ ?_)|(simp (disch:=omega) only [go_sem, simprocAttr, qN, qO, qP, qQ, g1, g2, g3, g4, g5, g6, ins, hd2, rows_snocI, shut1])|exact qM rfl rfl rfl|(refine qG rfl ?_)|(refine qK (hc1) (by decide) ?_)|(refine qK (hc2) (by decide) ?_)|(refine qH rfl ?_)|(refine qI rfl ?_ ?_<;>intro hc<;>(try simp only [go_sem] at hc))|(refine qJ ?_ ?_<;>intro hc<;>(try simp only [hc])<;>(try simp only [go_sem] at hc)))
   ·exact (hW b1).app [_, _]
   refine DW.ent (σ' := ⟨38, [(31, .fn (.func 175) [] [.c (.ro false [.sl false 1 (rows eI (ws ++ [(k : Int)]))] 0), .c (.ro false (macC p l) 0)]), (22, dI k), (21, dI (p.webs + 1)), (3, .box 3 0), (1, .c (.ro false [.sl false 1 (rows eI ws)] 0)), (2, .c (.ro false (macC p l) 0))], [(3, .box [.c (.fn (.yield ly) [] [])])] ++ H b1⟩) ?_ ?_
   ·refine Ent.toH (o := [_, _]) (o' := [_]) (hH b1) rfl ?_ ?_ <;> simp (disch:=omega) only [qR,qS,qTw,qU,get,Nat.reduceEqDiff,↓reduceIte,qV,qW,qX,qY,qZ,and_self,dI,i64_in,and_true,true_and,rA,rB,rC,rD]
   refine DW.rngS (fs := []) (caps := [.c (.ro false [.sl false 1 (rows eI (ws ++ [(k : Int)]))] 0), .c (.ro false (macC p l) 0)]) rfl (fun _ => ⟨rfl, rfl⟩) (fun y : β => [(3, .box [.c (.fn (.yield ly) [] [])])] ++ H y) b1 rfl (thru stp) enW (Ws4 l) (patsX p l r (ws ++ [(k : Int)])) hit (fun t y => live (t ++ restX p l r ws (k + 1)) y) (by rw [← restX_step l r ws hkw]; exact hlv) ?_ (by decide) (fun _ _ => rfl) (fun _ _ _ => rfl) (by simp only [List.map_cons, List.map_nil]; decide) ?_ ?_ ?_ ?_ ?_ ?_ ?_
   ·intro b e t hiv hs h1
    simp only [thru] at h1 ⊢
    split at h1
    ·rename_i hc
     exact (hY b e _ hiv hs).2 hc
    ·cases h1
   ·intro y
    show get 999 (H y) = none
    exact (hH y).lo 999 (by decide)
   ·intro y
    have := (hW y).app [(3, Blk.box [.c (.fn (.yield ly) [] [])])]
    simp only [List.cons_append, List.nil_append, wfB, List.all_cons, List.all_nil, this, Bool.and_true] at this ⊢
    rfl
   ·intro y j x hj
    rw [get_app] at hj
    cases hg : get j [(3, Blk.box [.c (.fn (.yield ly) [] [])])] with
    | none => rw [hg] at hj; exact (hH y).nb j x hj
    | some x' =>
     rw [hg] at hj; cases hj
     have := get_mem hg
     simp only [List.mem_cons, Prod.mk.injEq, List.not_mem_nil, or_false] at this
     obtain ⟨_, rfl⟩ := this
     rfl
   ·intro q hq
    simp only [List.mem_cons, List.not_mem_nil, or_false] at hq
    rcases hq with rfl | rfl | rfl | rfl | rfl | rfl <;> first | rfl | (simp only [D.nb, D.nbs, C.nb, C.nbs, rows_nb eO_nb, rows_nb eI_nb, Bool.and_self, Bool.not_false])
   ·intro y e
    simp only [thru]
    split <;> rfl
   ·intro b w t hiv hs v
    obtain ⟨hyc, -⟩ := hY b w _ hiv hs
    have g1 := hid_get (hH b)
    have g2 := hid_ins (hH b)
    have g3 := (hH b).men
    have g4 := (hH b).lo
    refine DW.ent (Ent.swap ((hH b).lo 999 (by decide))).1 ?_
    have hS : thru stp b w = (if (stp b w).1 = true then none else some .ret, (stp b w).2) := rfl
    cases hc : (stp b w).1 with
    | true =>
     rw [hc, if_pos rfl] at hS
     rw [hc] at hyc
     rw [hS]
     repeat' (first|(with_reducible first|apply qA|apply qB|apply qC|apply qD|apply qE|apply qF)|(refine DW.ord rfl (WF.of (by first|rfl|simp (disch:=omega) only [go_sem, simprocAttr, qN, qO, qP, qQ, g3, g4])) ?_ ?_ ?_; rotate_left)|rfl|(with_reducible refine And.intro ?_ ?_)|(simp (disch:=omega) only [go_sem, simprocAttr, qN, qO, qP, qQ, g3, g4])|exact qM rfl rfl rfl|(refine qG rfl ?_)|(refine qH rfl ?_)|(refine qI rfl ?_ ?_<;>intro hc<;>(try simp only [go_sem] at hc))|(refine qJ ?_ ?_<;>intro hc<;>(try simp only [hc])<;>(try simp only [go_sem] at hc)))
     refine call_y (own := [_, _]) hyc rfl rfl rfl (hH _) (hH _) (by decide) ?_
     simp (disch:=omega) only [go_sem,simprocAttr,qN,qO,qP,qQ]
     repeat' (first|(with_reducible first|apply qA|apply qB|apply qC|apply qD|apply qE|apply qF)|(refine DW.ord rfl (WF.of (by first|rfl|simp (disch:=omega) only [go_sem, simprocAttr, qN, qO, qP, qQ])) ?_ ?_ ?_; rotate_left)|rfl|(with_reducible refine And.intro ?_ ?_)|(simp (disch:=omega) only [go_sem, simprocAttr, qN, qO, qP, qQ])|exact qM rfl rfl rfl|(refine qG rfl ?_)|(refine qH rfl ?_)|(refine qI rfl ?_ ?_<;>intro hc<;>(try simp only [go_sem] at hc))|(refine qJ ?_ ?_<;>intro hc<;>(try simp only [hc])<;>(try simp only [go_sem] at hc)))
     refine round_end rfl rfl (Ent.trans ?_ (Ent.swap (o := [(3, Blk.box [D.c (C.fn (Fn.yield ly) [] [])])]) ((hH (stp b w).2).lo 999 (by decide))).2)
     refine Ent.toH (o := [_, _]) (o' := [_, _]) (hH _) ?_ ?_ ?_
     ·rfl
     ·simp (disch:=omega) only [qR,qS,qTw,qU,get,Nat.reduceEqDiff,↓reduceIte,qV,qW,qX,qY,qZ,and_self,dI,i64_in,and_true,true_and,rA,rB,rC,rD,capB]
     ·simp (disch:=omega) only [qR,qS,qTw,qU,get,Nat.reduceEqDiff,↓reduceIte,qV,qW,qX,qY,qZ,and_self,dI,i64_in,and_true,true_and,rA,rB,rC,rD,capB]
    | false =>
     rw [hc, if_neg (by decide)] at hS
     rw [hc] at hyc
     rw [hS]
     repeat' (first|(with_reducible first|apply qA|apply qB|apply qC|apply qD|apply qE|apply qF)|(refine DW.ord rfl (WF.of (by first|rfl|simp (disch:=omega) only [go_sem, simprocAttr, qN, qO, qP, qQ, g3, g4])) ?_ ?_ ?_; rotate_left)|rfl|(with_reducible refine And.intro ?_ ?_)|(simp (disch:=omega) only [go_sem, simprocAttr, qN, qO, qP, qQ, g3, g4])|exact qM rfl rfl rfl|(refine qG rfl ?_)|(refine qH rfl ?_)|(refine qI rfl ?_ ?_<;>intro hc<;>(try simp only [go_sem] at hc))|(refine qJ ?_ ?_<;>intro hc<;>(try simp only [hc])<;>(try simp only [go_sem] at hc)))
     refine call_y (own := [_, _]) hyc rfl rfl rfl (hH _) (hH _) (by decide) ?_
     simp (disch:=omega) only [go_sem,simprocAttr,qN,qO,qP,qQ]
     repeat' (first|(with_reducible first|apply qA|apply qB|apply qC|apply qD|apply qE|apply qF)|(refine DW.ord rfl (WF.of (by first|rfl|simp (disch:=omega) only [go_sem, simprocAttr, qN, qO, qP, qQ])) ?_ ?_ ?_; rotate_left)|rfl|(with_reducible refine And.intro ?_ ?_)|(simp (disch:=omega) only [go_sem, simprocAttr, qN, qO, qP, qQ])|exact qM rfl rfl rfl|(refine qG rfl ?_)|(refine qH rfl ?_)|(refine qI rfl ?_ ?_<;>intro hc<;>(try simp only [go_sem] at hc))|(refine qJ ?_ ?_<;>intro hc<;>(try simp only [hc])<;>(try simp only [go_sem] at hc)))
     refine round_end rfl rfl (Ent.trans ?_ (Ent.swap (o := [(3, Blk.box [D.c (C.fn (Fn.yield ly) [] [])])]) ((hH (stp b w).2).lo 999 (by decide))).2)
     refine Ent.toH (o := [_, _]) (o' := [_, _]) (hH _) ?_ ?_ ?_
     ·rfl
     ·simp (disch:=omega) only [qR,qS,qTw,qU,get,Nat.reduceEqDiff,↓reduceIte,qV,qW,qX,qY,qZ,and_self,dI,i64_in,and_true,true_and,rA,rB,rC,rD,capB]
     ·simp (disch:=omega) only [qR,qS,qTw,qU,get,Nat.reduceEqDiff,↓reduceIte,qV,qW,qX,qY,qZ,and_self,dI,i64_in,and_true,true_and,rA,rB,rC,rD,capB]
   ·have hrs := thru_run stp (patsX p l r (ws ++ [(k : Int)])) (restX p l r ws (k + 1)) b1
    have hlive := thru_live stp live (Ws4 l) (fun b e t h1 h2 h3 => (hY b e t h1 h2).2 h3) (restX p l r ws (k + 1)) (patsX p l r (ws ++ [(k : Int)])) b1 (by rw [← restX_step l r ws hkw]; exact hlv) hall
    rw [restX_step (k := k) l r ws hkw] at hrun
    generalize runIt (thru stp) b1 (patsX p l r (ws ++ [(k : Int)])) = R at *
    obtain ⟨o, b2⟩ := R
    dsimp only at hrs hlive ⊢
    rcases hrs with ⟨rfl, h2⟩ | ⟨rfl, h2⟩
    ·simp (disch:=omega) only [go_sem,simprocAttr,qN,qO,qP,qQ,Option.getD_none]
     repeat' (first|(with_reducible first|apply qA|apply qB|apply qC|apply qD|apply qE|apply qF)|(refine DW.ord rfl (WF.of (by first|rfl|simp (disch:=omega) only [go_sem, simprocAttr, qN, qO, qP, qQ])) ?_ ?_ ?_; rotate_left)|rfl|(with_reducible refine And.intro ?_ ?_)|(simp (disch:=omega) only [go_sem, simprocAttr, qN, qO, qP, qQ])|exact qM rfl rfl rfl|(refine qG rfl ?_)|(refine qH rfl ?_)|(refine qI rfl ?_ ?_<;>intro hc<;>(try simp only [go_sem] at hc))|(refine qJ ?_ ?_<;>intro hc<;>(try simp only [hc])<;>(try simp only [go_sem] at hc)))
     refine ⟨⟨(k + 1, b2), by omega, hlive rfl, hrun.trans h2⟩, by (show _ < _; (try simp only); omega), Ent.toT ?_⟩; simp (disch:=omega) only [qR,qS,qTw,qU,get,Nat.reduceEqDiff,↓reduceIte,qV,qW,qX,qY,qZ,and_self,dI,i64_in,and_true,true_and,rA,rB,rC,rD]
    ·simp (disch:=omega) only [go_sem,simprocAttr,qN,qO,qP,qQ,Option.getD_some]
     rw [hrun, h2]
     exact retS_hid (own := [_]) (.inl rfl) (hH _) rfl
  ·have hd2 : decide ((k : Int) < p.webs + 1) = false := decide_eq_false (by omega)
   have hre := restX_end (p := p) l r ws (k := k) (by omega)
   rw [hre] at hrun
   simp only [runB] at hrun
   repeat' (first|(with_reducible first|apply qA|apply qB|apply qC|apply qD|apply qE|apply qF)|(refine DW.ord rfl (WF.of (by first|rfl|simp (disch:=omega) only [go_sem, simprocAttr, qN, qO, qP, qQ, hd2])) ?_ ?_ ?_; rotate_left)|rfl|(with_reducible refine And.intro ?_ ?_)|(simp (disch:=omega) only [go_sem, simprocAttr, qN, qO, qP, qQ, hd2])|exact qM rfl rfl rfl|(refine qG rfl ?_)|(refine qH rfl ?_)|(refine qI rfl ?_ ?_<;>intro hc<;>(try simp only [go_sem] at hc))|(refine qJ ?_ ?_<;>intro hc<;>(try simp only [hc])<;>(try simp only [go_sem] at hc)))
   rw [hrun]
   exact retS_hid (own := [_]) (.inr rfl) (hH _) rfl
end Go.Dw.Seat.Tr
end
section
set_option linter.unusedSimpArgs false
set_option maxRecDepth 100000
namespace Go.Dw.Seat.Tr
open Go Go.Dw Go.Proofs Go.IntWalk
def eWs (w : List Int) : List C := [.sl false 1 (rows eI w)]
theorem eWs_nb (w : List Int) : C.nbs (eWs w) = true := by
 simp only [eWs, C.nbs, C.nb, rows_nb eI_nb, Bool.and_self, Bool.not_false]
attribute [go_sem] eWs
abbrev dWs (b : Bool) (P : List (List Int)) : D := .c (.sl b 1 (rows eWs P))
theorem rowC_snocW (l : List (List Int)) (x : List Int) : rowC (rows eWs l) ++ [[D.c (.sl false 1 (rows eI x))]] = rowC (rows eWs (l ++ [x])) := by simp [rowC, rows, eWs]
theorem flat_len {α β : Type} (f : α → List β) (m : Nat) : ∀ (L : List α), (∀ d ∈ L, (f d).length ≤ m) → (L.flatMap f).length ≤ L.length * m
 | [], _ => by simp
 | d :: L, h => by
  have h1 := h d (by simp)
  have h2 := flat_len f m L (fun x hx => h x (by simp [hx]))
  rw [List.flatMap_cons, List.length_append, List.length_cons, Nat.succ_mul]; omega
theorem patsX_len (p : TPap) (hp : p.ok) (l : List TOrd) : ∀ (r : Nat) (ws : List Int), (patsX p l r ws).length ≤ 5 ^ r
 | 0, ws => by rw [patsX]; split <;> simp
 | r + 1, ws => by
  have hw := hp.webs
  have h1 := flat_len (fun (d : Nat) => patsX p l r (ws ++ [(d : Int)])) (5 ^ r) (List.range (p.webs.toNat + 1)) (fun d _ => patsX_len p hp l r _)
  rw [List.length_range] at h1
  have h2 : (p.webs.toNat + 1) * 5 ^ r ≤ 5 * 5 ^ r := Nat.mul_le_mul_right _ (by omega)
  rw [patsX, Nat.pow_succ, Nat.mul_comm]
  omega
theorem patsX_len4 (p : TPap) (hp : p.ok) (l : List TOrd) (hl : l.length ≤ 4) : (patsX p l l.length []).length ≤ 625 := Nat.le_trans (patsX_len p hp l _ _) (Nat.pow_le_pow_right (n := 5) (by decide) hl)
def apWS (a : List (List Int)) (e : List Int) : Option Exit × List (List Int) := (none, a ++ [e])
theorem apW_run : ∀ (L : List (List Int)) (a : List (List Int)), runIt apWS a L = (none, a ++ L)
 | [], a => by simp [runIt]
 | e :: L, a => by
  simp only [runIt, apWS, apW_run L]
  simp
set_option maxHeartbeats 1000000 in
theorem trAppSeq (p : TPap) (hp : p.ok) (l : List TOrd) (hl : l.length ≤ 4) (ho : ∀ o ∈ l, o.ok) : DCall Try.prog 174 [.c (.v (.slice none 0 0)), .c (.fn (.func 175) [] [.ro false [.sl false 1 (rows eI [])] 0, .ro false (macC p l) 0])] [] (dWs false (patsX p l l.length [])) [] := by
 have hit := trPats1 p hp l hl ho l.length [] (by simp) (by simp)
 have hbl := patsX_len4 p hp l hl
 refine DCall.of Try.func174 sf174 hb174 (Nat.le_of_ble_eq_true rfl) (okRes_nil fun _ => rfl) ?_; simp only [s174, idxs, Nat.reduceAdd]
 repeat' (first|(with_reducible first|apply qA|apply qB|apply qC|apply qD|apply qE|apply qF)|(simp (disch:=omega) only [go_sem, simprocAttr, qN, qO, qP, qQ])|exact qM rfl rfl rfl|(refine qG rfl ?_)|(refine qH rfl ?_)|(refine qI rfl ?_ ?_<;>intro hc<;>(try simp only [go_sem] at hc))|(refine qJ ?_ ?_<;>intro hc<;>(try simp only [hc])<;>(try simp only [go_sem] at hc)))
 (refine DW.ent (Ent.adoptB 2 0 11 1 rfl rfl rfl rfl) ?_; simp only [ins, Nat.reduceLT, Nat.reduceEqDiff, ↓reduceIte, List.set_cons_zero, List.set_cons_succ])
 refine DW.rngBS (fs := []) (caps := [.c (.ro false [.sl false 1 (rows eI [])] 0), .c (.ro false (macC p l) 0)]) (fun y : List (List Int) => [(11, .row 1 (rowC (rows eWs y))), (2, .box [.own 11])]) [] apWS enW (Ws4 l) (patsX p l l.length []) hit (fun t y => y.length + t.length ≤ 625) (by simpa using hbl) (fun a e t ha he _ => by simp only [apWS, List.length_append, List.length_cons, List.length_nil] at ha ⊢; omega) rfl (fun _ => ⟨rfl, rfl⟩) rfl (by decide) (fun _ _ => rfl) (fun _ _ _ => rfl) (by simp only [List.map_cons, List.map_nil]; decide) (fun _ => rfl) (fun _ => wf_row rfl rfl) (fun _ => nb_row eWs_nb _ rfl) (by simp only [List.all_cons, List.all_nil, Blk.nb, rowC_nb, D.nb, D.nbs, C.nb, C.nbs, C.nbss, rows_nb eI_nb, Bool.and_true, Bool.not_false, Bool.and_self, bD, dI, iD, rows_nb eO_nb, rows_nb eWs_nb]) (fun _ _ => rfl) ?_ ?_
 ·rintro y e t hy he v
  have hy : y.length ≤ 625 := by omega
  simp (disch:=omega) only [go_sem,simprocAttr,qN,qO,qP,qQ,rF,rG,apWS]
  repeat' (first|(with_reducible first|apply qA|apply qB|apply qC|apply qD|apply qE|apply qF)|(simp (disch:=omega) only [go_sem, simprocAttr, qN, qO, qP, qQ, rF, rG])|exact qM rfl rfl rfl|(refine qG rfl ?_)|(refine qH rfl ?_)|(refine qI rfl ?_ ?_<;>intro hc<;>(try simp only [go_sem] at hc))|(refine qJ ?_ ?_<;>intro hc<;>(try simp only [hc])<;>(try simp only [go_sem] at hc)))
  refine round_end rfl rfl (Ent.to ?_ ?_) <;> simp (disch:=omega) only [qR,qS,qTw,qU,get,Nat.reduceEqDiff,↓reduceIte,qV,qW,qX,qY,qZ,and_self,dI,i64_in,and_true,true_and,rA,rB,rC,rD,capB,List.cons_append,List.nil_append,rowC_snocW]
 ·rw [apW_run]
  repeat' (first|(with_reducible first|apply qA|apply qB|apply qC|apply qD|apply qE|apply qF)|(simp (disch:=omega) only [go_sem, simprocAttr, qN, qO, qP, qQ])|exact qM rfl rfl rfl|(refine qG rfl ?_)|(refine qH rfl ?_)|(refine qI rfl ?_ ?_<;>intro hc<;>(try simp only [go_sem] at hc))|(refine qJ ?_ ?_<;>intro hc<;>(try simp only [hc])<;>(try simp only [go_sem] at hc)))
  (refine retS_ent (Ent.rel 11 rfl) ?_; simp (disch:=omega) only [go_sem,simprocAttr,qN,qO,qP,qQ])
  refine retS_wk rfl ?_ (by simp only [Blk.nb, rowC_nb, D.nb, D.nbs, C.nb, C.nbs, C.nbss, rows_nb eI_nb, Bool.and_true, Bool.not_false, Bool.and_self, bD, dI, iD, rows_nb eO_nb, rows_nb eWs_nb]); exact .refl _
theorem trCollect (p : TPap) (hp : p.ok) (l : List TOrd) (hl : l.length ≤ 4) (ho : ∀ o ∈ l, o.ok) : DCall Try.prog 164 [.c (.fn (.func 175) [] [.ro false [.sl false 1 (rows eI [])] 0, .ro false (macC p l) 0])] [] (dWs false (patsX p l l.length [])) [] := by
 have h1 := trAppSeq p hp l hl ho
 refine DCall.of Try.func164 sf164 hb164 (Nat.le_of_ble_eq_true rfl) (okRes_nil fun _ => rfl) ?_; simp only [s164, idxs, Nat.reduceAdd]
 repeat' (first|(with_reducible first|apply qA|apply qB|apply qC|apply qD|apply qE|apply qF)|(simp (disch:=omega) only [go_sem, simprocAttr, qN, qO, qP, qQ])|exact qM rfl rfl rfl|(refine qG rfl ?_)|(refine qK (h1) (by decide) ?_)|(refine qH rfl ?_)|(refine qI rfl ?_ ?_<;>intro hc<;>(try simp only [go_sem] at hc))|(refine qJ ?_ ?_<;>intro hc<;>(try simp only [hc])<;>(try simp only [go_sem] at hc)))
 refine retS_wk rfl ?_ (by simp only [Blk.nb, rowC_nb, D.nb, D.nbs, C.nb, C.nbs, C.nbss, rows_nb eI_nb, Bool.and_true, Bool.not_false, Bool.and_self, bD, dI, iD, rows_nb eO_nb, rows_nb eWs_nb]); exact .refl _
theorem trAll (p : TPap) (hp : p.ok) (l : List TOrd) (hl : l.length ≤ 4) (ho : ∀ o ∈ l, o.ok) : DCall Try.prog 151 [macD false p l] [] (dWs false (patsX p l l.length [])) [] := by
 have h1 := DCall.weakA (l := [macD false p l, .c (.v (.slice none 0 0))]) (trPatterns p l []) (.cons (.inl rfl) (.cons (.inr ⟨_, _, rfl, rfl, .nil _ _⟩) .nil))
 have h2 := trCollect p hp l hl ho
 refine DCall.of Try.func151 sf151 hb151 (Nat.le_of_ble_eq_true rfl) (okRes_nil fun _ => rfl) ?_; simp only [s151, idxs, Nat.reduceAdd]
 repeat' (first|(with_reducible first|apply qA|apply qB|apply qC|apply qD|apply qE|apply qF)|(simp (disch:=omega) only [go_sem, simprocAttr, qN, qO, qP, qQ])|exact qM rfl rfl rfl|(refine qG rfl ?_)|(refine qK (h1) (by decide) ?_)|(refine qK (h2) (by decide) ?_)|(refine qH rfl ?_)|(refine qI rfl ?_ ?_<;>intro hc<;>(try simp only [go_sem] at hc))|(refine qJ ?_ ?_<;>intro hc<;>(try simp only [hc])<;>(try simp only [go_sem] at hc)))
 refine retS_wk rfl ?_ (by simp only [Blk.nb, rowC_nb, D.nb, D.nbs, C.nb, C.nbs, C.nbss, rows_nb eI_nb, Bool.and_true, Bool.not_false, Bool.and_self, bD, dI, iD, rows_nb eO_nb, rows_nb eWs_nb]); exact .refl _
end Go.Dw.Seat.Tr
end
section
set_option linter.unusedSimpArgs false
set_option maxRecDepth 100000
namespace Go.Dw.Seat.Tr
open Go Go.Dw Go.IntWalk
structure Srch where
 best : List TStp
 waste : Int
 found : Bool
def max2 (a b : Int) : Int := if b > a then b else a
def min2 (a b : Int) : Int := if b < a then b else a
def roomF (one : Bool) : List TOrd → List Int → List Int → Int → Int → Int × Int
 | o :: l, g :: got, n :: ws, lo, hi =>
  if 0 < n then roomF one l got ws (if one then max2 lo ((o.lo - g + n - 1).tdiv n) else lo) (min2 hi ((o.hi - g).tdiv n))
  else if one && decide (g < o.lo) then (1, 0) else roomF one l got ws lo hi
 | _, _, _, lo, hi => (lo, hi)
def leafF (l : List TOrd) (plan : List TStp) (waste : Int) (got : List Int) (S : Srch) : Srch := if doesB l got && (!S.found || decide (waste < S.waste)) then ⟨plan, waste, true⟩ else S
def runF (rec : List TStp → Int → List Int → Srch → Srch) (p : TPap) (l : List TOrd) (ws : List Int) (plan : List TStp) (waste : Int) (got : List Int) : Nat → Int → Srch → Srch
 | 0, _, S => S
 | k + 1, r, S => runF rec p l ws plan waste got k (r + 1) (rec (plan ++ [⟨ws, r⟩]) (waste + trimI p l ws * r) (addG got ws r) S)
def cntF (one : Bool) (R : Int × Int) : Nat := if one then (if R.1 ≤ R.2 then 1 else 0) else (R.2 - R.1 + 1).toNat
def loopF (rec : List (List Int) → List TStp → Int → List Int → Srch → Srch) (one : Bool) (p : TPap) (l : List TOrd) (plan : List TStp) (waste : Int) (got : List Int) : List (List Int) → Srch → Srch
 | [], S => S
 | ws :: T, S => loopF rec one p l plan waste got T (runF (rec T) p l ws plan waste got (cntF one (roomF one l got ws 1 30)) (roomF one l got ws 1 30).1 S)
def tryF (p : TPap) (l : List TOrd) : Nat → List (List Int) → List TStp → Int → List Int → Srch → Srch
 | 0, _, plan, waste, got, S => leafF l plan waste got S
 | m + 1, T, plan, waste, got, S => if S.found && decide (S.waste ≤ waste) then S else loopF (tryF p l m) (decide (m = 0)) p l plan waste got T S
def Ext : List (List Int) → Nat → List TStp → Prop
 | [], m, q => m = 0 ∧ q = []
 | ws :: T, m, q => match m with
  | 0 => q = []
  | m + 1 => (∃ r q', q = ⟨ws, r⟩ :: q' ∧ (1 ≤ r ∧ r ≤ 30) ∧ Ext T m q') ∨ Ext T (m + 1) q
theorem ext_zero {T : List (List Int)} {q : List TStp} : Ext T 0 q ↔ q = [] := by
 cases T with
 | nil => simp [Ext]
 | cons ws T => rfl
theorem ext_mem : ∀ {T : List (List Int)} {m : Nat} {q : List TStp}, Ext T m q → q.length = m ∧ ∀ s ∈ q, s.ws ∈ T ∧ 1 ≤ s.run ∧ s.run ≤ 30
 | [], m, q, h => by obtain ⟨rfl, rfl⟩ := h; exact ⟨rfl, fun s hs => by cases hs⟩
 | ws :: T, 0, q, h => by
  have : q = [] := h
  subst this; exact ⟨rfl, fun s hs => by cases hs⟩
 | ws :: T, m + 1, q, h => by
  rcases h with ⟨r, q', rfl, hr, h⟩ | h
  ·obtain ⟨h1, h2⟩ := ext_mem h
   refine ⟨by rw [List.length_cons, h1], fun s hs => ?_⟩
   rcases List.mem_cons.1 hs with rfl | hs
   ·exact ⟨by simp, hr.1, hr.2⟩
   ·have := h2 s hs
    exact ⟨List.mem_cons_of_mem _ this.1, this.2⟩
  ·obtain ⟨h1, h2⟩ := ext_mem h
   exact ⟨h1, fun s hs => ⟨List.mem_cons_of_mem _ (h2 s hs).1, (h2 s hs).2⟩⟩
def doesP (l : List TOrd) (q : List TStp) : Bool := doesB l (gotF (zeros l.length) q)
def bef (p : TPap) (l : List TOrd) (q b : List TStp) : Prop := wasteF p l q < wasteF p l b ∨ (wasteF p l q = wasteF p l b ∧ ltP q b = true)
theorem bef_irr (p : TPap) (l : List TOrd) (q : List TStp) : ¬ bef p l q q := by
 rintro (h | ⟨_, h⟩)
 ·omega
 ·have := ltP_asym h; rw [h] at this; cases this
theorem bef_trans {p : TPap} {l : List TOrd} {a b c : List TStp} (h1 : bef p l a b) (h2 : bef p l b c) : bef p l a c := by
 rcases h1 with h1 | ⟨h1, h3⟩ <;> rcases h2 with h2 | ⟨h2, h4⟩
 ·exact .inl (by omega)
 ·exact .inl (by omega)
 ·exact .inl (by omega)
 ·exact .inr ⟨by omega, ltP_trans h3 h4⟩
structure Good (p : TPap) (l : List TOrd) (S : Srch) (A : List TStp → Prop) : Prop where
 none : S.found = false → ∀ q, A q → doesP l q = false
 some : S.found = true → A S.best ∧ doesP l S.best = true ∧ S.waste = wasteF p l S.best ∧ ∀ q, A q → doesP l q = true → ¬ bef p l q S.best
theorem Good.add {p : TPap} {l : List TOrd} {S : Srch} {A B : List TStp → Prop} (h : Good p l S A) (hB : ∀ q, B q → doesP l q = true → S.found = true ∧ ¬ bef p l q S.best) : Good p l S (fun q => A q ∨ B q) := by
 refine ⟨fun hf q hq => ?_, fun hf => ?_⟩
 ·rcases hq with hq | hq
  ·exact h.none hf q hq
  ·cases hd : doesP l q with
   | false => rfl
   | true => have := (hB q hq hd).1; rw [hf] at this; cases this
 ·obtain ⟨h1, h2, h3, h4⟩ := h.some hf
  refine ⟨.inl h1, h2, h3, fun q hq hd => ?_⟩
  rcases hq with hq | hq
  ·exact h4 q hq hd
  ·exact (hB q hq hd).2
theorem Good.iff {p : TPap} {l : List TOrd} {S : Srch} {A B : List TStp → Prop} (h : Good p l S A) (hB : ∀ q, B q ↔ A q) : Good p l S B := by
 have : B = A := funext fun q => propext (hB q)
 rw [this]; exact h
theorem leaf_good {p : TPap} {l : List TOrd} {S : Srch} {A : List TStp → Prop} {plan : List TStp} (h : Good p l S A) (hA : ∀ a, A a → ltP a plan = true) : Good p l (leafF l plan (wasteF p l plan) (gotF (zeros l.length) plan) S) (fun q => A q ∨ q = plan) := by
 unfold leafF
 cases hd : doesB l (gotF (zeros l.length) plan) with
 | false =>
  rw [Bool.false_and, if_neg (by decide)]
  refine h.add fun q hq hd2 => ?_
  subst hq
  rw [doesP, hd] at hd2; cases hd2
 | true =>
  rw [Bool.true_and]
  cases hf : S.found with
  | false =>
   rw [Bool.not_false, Bool.true_or, if_pos rfl]
   refine ⟨fun hc => (by cases hc), fun _ => ⟨.inr rfl, hd, rfl, fun q hq hd2 => ?_⟩⟩
   rcases hq with hq | rfl
   ·rw [h.none hf q hq] at hd2; cases hd2
   ·exact bef_irr p l q
  | true =>
   obtain ⟨h1, h2, h3, h4⟩ := h.some hf
   rw [Bool.not_true, Bool.false_or]
   by_cases hw : wasteF p l plan < S.waste
   ·rw [decide_eq_true hw, if_pos rfl]
    refine ⟨fun hc => (by cases hc), fun _ => ⟨.inr rfl, hd, rfl, fun q hq hd2 hb => ?_⟩⟩
    rcases hq with hq | rfl
    ·have := h4 q hq hd2
     refine this (.inl ?_)
     rcases hb with hb | ⟨hb, _⟩ <;> dsimp only at hb <;> omega
    ·exact bef_irr p l q hb
   ·rw [decide_eq_false hw, if_neg (by decide)]
    refine h.add fun q hq hd2 => ⟨hf, fun hb => ?_⟩
    subst hq
    rcases hb with hb | ⟨_, hb⟩
    ·omega
    ·have := ltP_asym (hA _ h1)
     rw [hb] at this; cases this
theorem addG_cons (g : Int) (got : List Int) (n : Int) (ws : List Int) (r : Int) : addG (g :: got) (n :: ws) r = (g + n * r) :: addG got ws r := rfl
theorem le_tdiv {a n r : Int} (hn : 0 < n) (ha : 0 ≤ a) : r ≤ a.tdiv n ↔ n * r ≤ a := by
 rw [Int.tdiv_eq_ediv_of_nonneg ha, Int.le_ediv_iff_mul_le hn, Int.mul_comm]
theorem ceil_le {a n r : Int} (hn : 0 < n) (hr : 1 ≤ r) : (a + n - 1).tdiv n ≤ r ↔ a ≤ n * r := by
 have hnr : n ≤ n * r := by
  have := Int.mul_le_mul_of_nonneg_left hr (Int.le_of_lt hn)
  rwa [Int.mul_one] at this
 by_cases h : 0 ≤ a + n - 1
 ·rw [Int.tdiv_eq_ediv_of_nonneg h]
  have := Int.ediv_lt_iff_lt_mul (a := a + n - 1) (b := r + 1) hn
  rw [Int.add_mul, Int.one_mul, Int.mul_comm] at this
  omega
 ·have h2 : (a + n - 1).tdiv n ≤ 0 := by
   have e : a + n - 1 = -(-(a + n - 1)) := by omega
   rw [e, Int.neg_tdiv, Int.tdiv_eq_ediv_of_nonneg (by omega)]
   have := Int.ediv_nonneg (a := -(a + n - 1)) (b := n) (by omega) (by omega)
   omega
  constructor <;> intro _ <;> omega
theorem room_one : ∀ (l : List TOrd) (got ws : List Int) (lo hi r : Int), got.length = l.length → ws.length = l.length → (∀ n ∈ ws, 0 ≤ n) → leH l got = true → 1 ≤ lo → 1 ≤ r →
  ((roomF true l got ws lo hi).1 ≤ r ∧ r ≤ (roomF true l got ws lo hi).2 ↔ (lo ≤ r ∧ r ≤ hi) ∧ doesB l (addG got ws r) = true)
 | [], got, ws, lo, hi, r, h1, h2, _, _, _, _ => by
  obtain rfl := List.eq_nil_of_length_eq_zero h1
  obtain rfl := List.eq_nil_of_length_eq_zero h2
  simp [roomF, addG, doesB]
 | o :: l, [], _, _, _, _, h1, _, _, _, _, _ => by cases h1
 | o :: l, _ :: _, [], _, _, _, _, h2, _, _, _, _ => by cases h2
 | o :: l, g :: got, n :: ws, lo, hi, r, h1, h2, hn, hg, hlo, hr => by
  simp only [leH, Bool.and_eq_true, decide_eq_true_eq] at hg
  have hn0 := hn n (by simp)
  have ih := fun lo' hi' h => room_one l got ws lo' hi' r (by simpa using h1) (by simpa using h2) (fun m hm => hn m (by simp [hm])) hg.2 h hr
  rw [addG_cons]
  simp only [roomF, doesB, Bool.and_eq_true, decide_eq_true_eq, Bool.true_and, if_true]
  by_cases hnp : 0 < n
  ·rw [if_pos hnp]
   have hm : 1 ≤ max2 lo ((o.lo - g + n - 1).tdiv n) := by unfold max2; split <;> omega
   rw [ih _ _ hm]
   have c1 := ceil_le (a := o.lo - g) hnp hr
   have c2 := le_tdiv (a := o.hi - g) (r := r) hnp (by omega)
   generalize (o.lo - g + n - 1).tdiv n = A at *
   generalize (o.hi - g).tdiv n = B at *
   generalize n * r = C at *
   have m1 : max2 lo A ≤ r ↔ lo ≤ r ∧ A ≤ r := by unfold max2; split <;> omega
   have m2 : r ≤ min2 hi B ↔ r ≤ hi ∧ r ≤ B := by unfold min2; split <;> omega
   rw [m1, m2, c1, c2]
   constructor
   ·rintro ⟨⟨⟨a, b⟩, c, d⟩, e⟩; exact ⟨⟨a, c⟩, ⟨by omega, by omega⟩, e⟩
   ·rintro ⟨⟨a, c⟩, ⟨b, d⟩, e⟩; exact ⟨⟨⟨a, by omega⟩, c, by omega⟩, e⟩
  ·rw [if_neg hnp]
   obtain rfl : n = 0 := by omega
   rw [Int.zero_mul, Int.add_zero]
   by_cases hgl : g < o.lo
   ·rw [if_pos hgl]
    constructor
    ·rintro ⟨a, b⟩; dsimp only at a b; omega
    ·rintro ⟨_, ⟨a, _⟩, _⟩; omega
   ·rw [if_neg hgl, ih _ _ hlo]
    constructor
    ·rintro ⟨a, b⟩; exact ⟨a, ⟨by omega, hg.1⟩, b⟩
    ·rintro ⟨a, _, b⟩; exact ⟨a, b⟩
theorem room_more : ∀ (l : List TOrd) (got ws : List Int) (lo hi r : Int), got.length = l.length → ws.length = l.length → (∀ n ∈ ws, 0 ≤ n) → leH l got = true →
  (roomF false l got ws lo hi).1 = lo ∧ (r ≤ (roomF false l got ws lo hi).2 ↔ r ≤ hi ∧ leH l (addG got ws r) = true)
 | [], got, ws, lo, hi, r, h1, h2, _, _ => by
  obtain rfl := List.eq_nil_of_length_eq_zero h1
  obtain rfl := List.eq_nil_of_length_eq_zero h2
  simp [roomF, addG, leH]
 | o :: l, [], _, _, _, _, h1, _, _, _ => by cases h1
 | o :: l, _ :: _, [], _, _, _, _, h2, _, _ => by cases h2
 | o :: l, g :: got, n :: ws, lo, hi, r, h1, h2, hn, hg => by
  simp only [leH, Bool.and_eq_true, decide_eq_true_eq] at hg
  have hn0 := hn n (by simp)
  have ih := fun lo' hi' => room_more l got ws lo' hi' r (by simpa using h1) (by simpa using h2) (fun m hm => hn m (by simp [hm])) hg.2
  rw [addG_cons]
  simp only [roomF, leH, Bool.and_eq_true, decide_eq_true_eq, Bool.false_and, Bool.false_eq_true, if_false]
  by_cases hnp : 0 < n
  ·rw [if_pos hnp]
   obtain ⟨i1, i2⟩ := ih lo (min2 hi ((o.hi - g).tdiv n))
   refine ⟨i1, ?_⟩
   rw [i2]
   have c2 := le_tdiv (a := o.hi - g) (r := r) hnp (by omega)
   generalize (o.hi - g).tdiv n = B at *
   generalize n * r = C at *
   have m2 : r ≤ min2 hi B ↔ r ≤ hi ∧ r ≤ B := by unfold min2; split <;> omega
   rw [m2, c2]
   constructor
   ·rintro ⟨⟨c, d⟩, e⟩; exact ⟨c, by omega, e⟩
   ·rintro ⟨c, d, e⟩; exact ⟨⟨c, by omega⟩, e⟩
  ·rw [if_neg hnp]
   obtain rfl : n = 0 := by omega
   obtain ⟨i1, i2⟩ := ih lo hi
   refine ⟨i1, ?_⟩
   rw [i2, Int.zero_mul, Int.add_zero]
   constructor
   ·rintro ⟨a, b⟩; exact ⟨a, hg.1, b⟩
   ·rintro ⟨a, _, b⟩; exact ⟨a, b⟩
end Go.Dw.Seat.Tr
end
