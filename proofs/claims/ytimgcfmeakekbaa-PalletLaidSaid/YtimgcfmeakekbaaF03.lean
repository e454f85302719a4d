/- The law PalletLaid returns true for every input, and changes nothing that was there before: the full statement PalletLaidSaid, without conditions. -/
import Derived.Test.YtimgcfmeakekbaaF02
import Derived.Test.YtimgcfmeakekbaaRows
import Derived.ProofKit
import Derived.OpenShut
set_option linter.unusedVariables false
set_option linter.unusedSimpArgs false
section
set_option linter.unusedSimpArgs false
set_option maxRecDepth 100000
namespace Go.Dw.Seat
open Go Go.Dw Go.Proofs Go.IntWalk
theorem laFlat : DCall Try.prog 60 [] [] (.c (.sl false 2 (rows eK [(0, 1000)]))) [] := by
 refine DCall.of Try.func60 sf60 hb60 (Nat.le_of_ble_eq_true rfl) (okRes_nil fun _ => rfl) ?_; simp only [s60, idxs, Nat.reduceAdd]
 repeat' (first|(with_reducible first|apply qA|apply qB|apply qC|apply qD|apply qE|apply qF)|(simp (disch:=omega) only [go_sem, simprocAttr, qN, qO, qP, qQ])|exact qM rfl rfl rfl|(refine qG rfl ?_)|(refine qH rfl ?_)|(refine qI rfl ?_ ?_<;>intro hc<;>(try simp only [go_sem] at hc))|(refine qJ ?_ ?_<;>intro hc<;>(try simp only [hc])<;>(try simp only [go_sem] at hc)))
 (refine retS_ent (Ent.rel 2 rfl) ?_; simp (disch:=omega) only [go_sem,simprocAttr,qN,qO,qP,qQ])
 refine retS_wk rfl ?_ (by simp only [Blk.nb, rowC_nb, D.nb, D.nbs, C.nb, C.nbs, C.nbss, rows_nb eI_nb, Bool.and_true, Bool.not_false, Bool.and_self, bD, dI, iD, rows_nb eP_nb, rows_nb eIt_nb, rows_nb eR_nb, rows_nb eK_nb]); exact .refl _
set_option maxHeartbeats 16000000 in
theorem laKnown : DCall Try.prog 14 [] [] (bD true) [] := by
 have a1 := laAt 0 0
 have a2 := laAt 40 0
 have a3 := laAt 0 30
 have a4 := laAt 80 0
 have a5 := laAt 80 30
 have b0 := laBase 0
 have b5 := laBase 5
 have bx := laBox
 have lo := laLorry
 have c1 := plBound (exBs 0) exBx
 rw [exb0, exc0] at c1
 have c2 := plBound (exBs 5) exBx
 rw [exb5, exc5] at c2
 have c3 := plMost (exBs 5) exBx
 rw [exm, exc5] at c3
 have c4 := plLayX (exBs 0) exBx
 rw [layD, if_pos exc0, exc0] at c4
 have hl := exl
 generalize layX (exBs 0) exBx = L at *
 have c5 := plTurnX (exBs 0) exBx ex3 (by decide) 2
 rw [trnD, ext1, if_pos rfl, show ((2 : Int).toNat) = 2 from rfl, ext2] at c5
 have c6 := plRestsX (exBs 0) exBx ex3 ex3t (by decide) (by decide)
 rw [rsX, exr1, if_pos rfl, exr3] at c6
 have c7 := plBind (exBs 0) exBx ex8 (by decide)
 rw [exn1, exn2] at c7
 simp only [if_true] at c7
 have c8 := plLayersX (exBs 0) exBx ex8 (by decide) [(0, 1000)] 0 exTab
 rw [exn1, if_pos ⟨rfl, by decide⟩, if_neg (by simp), if_neg (by decide), show ((ex8.length : Nat) : Int) = 8 from rfl, exh] at c8
 have c9 := plAxles exLy exIt (by decide)
 rw [axD, if_pos exy1, show 2 * (exLy.bk - exLy.fr) = 800 from rfl, exy2.1, exy2.2.1, exy2.2.2.1, exy2.2.2.2] at c9
 have c10 := plOrder exLy exIt (by decide) (fun _ => by decide)
 rw [ordD, if_pos exy1, exo] at c10
 simp only [oRes, oErr] at c10
 have o3 := laOwn true ex3 (by decide)
 have o3t := laOwn false ex3t (by decide)
 have o8 := laOwn true ex8 (by decide)
 have f1 := laFlat
 have s1 := laSpan 1000000 1000000
 have s2 := laSpan 800000 900000
 have s3 := laSpan 1740000 1820000
 have s4 := laSpan 60000 80000
 have i1 := reInts false true [1] [1] (by decide) (by decide)
 have i2 := reInts false true [0, 1] [0, 1] (by decide) (by decide)
 rw [decide_eq_true rfl] at i1 i2
 have sm := reSame false true ex3t ex3t (by decide) (by decide) true (sameY rfl rfl)
 refine DCall.of Try.func14 sf14 hb14 (Nat.le_of_ble_eq_true rfl) (okRes_nil fun _ => rfl) ?_; simp only [s14, idxs, Nat.reduceAdd]
 repeat' (first|(with_reducible first|apply qA|apply qB|apply qC|apply qD|apply qE|apply qF)|(refine qL rfl (WF.of ?_) ?_; first|rfl|skip)|(simp (disch:=omega) only [go_sem, simprocAttr, qN, qO, qP, qQ])|exact qM rfl rfl rfl|(refine qG rfl ?_)|(refine qK (a1) (by decide) ?_)|(refine qK (a2) (by decide) ?_)|(refine qK (a3) (by decide) ?_)|(refine qH rfl ?_)|(refine qI rfl ?_ ?_<;>intro hc<;>(try simp only [go_sem] at hc))|(refine qJ ?_ ?_<;>intro hc<;>(try simp only [hc])<;>(try simp only [go_sem] at hc)))
 refine DW.loop (ι := { i : Nat // i ≤ 8 }) (fun i => ⟨241, [(3, dI i.1), (2, .own 30), (1, .own 29), (0, bD false)], [(30, .row 3 (rowC (rows eP (ex8.take i.1)))), (29, .row 3 (rowC (rows eP ex3)))]⟩) (fun i => 8 - i.1) ⟨0, by decide⟩ ?_ ?_
 ·refine Ent.to ?_ ?_ <;> simp (disch:=omega) only [qR,qS,qT,qU,get,Nat.reduceEqDiff,↓reduceIte,qV,qW,qX,qY,qZ,and_self,dI,i64_in,and_true,true_and,rA,rB,rC,rD,List.take_zero,ex3]
  all_goals first | exact ⟨.refl _, .refl _⟩ | exact .refl _
 rintro ⟨i, hi⟩
 dsimp only
 rcases Nat.lt_or_ge i 8 with hlt | hge
 ·have hd : decide ((i : Int) < 8) = true := decide_eq_true (by omega)
  have t1 : Int.tmod (i : Int) 4 = ((i % 4 : Nat) : Int) := rfl
  have t2 : Int.tdiv (i : Int) 4 = ((i / 4 : Nat) : Int) := rfl
  have hk := ex8_at ⟨i, hlt⟩
  dsimp only at hk
  have hsn := rowC_snocP (ex8.take i) ⟨30 * ((i % 4 : Nat) : Int), 40 * ((i / 4 : Nat) : Int), true⟩
  rw [hk] at hsn
  dsimp only at hsn
  have htl : (ex8.take i).length ≤ 8 := by rw [List.length_take]; exact Nat.le_trans (Nat.min_le_left _ _) hi
  generalize ex8.take i = A at *
  repeat' (first|(with_reducible first|apply qA|apply qB|apply qC|apply qD|apply qE|apply qF)|(refine qL rfl (WF.of ?_) ?_; first|rfl|skip)|(simp (disch:=omega) only [go_sem, simprocAttr, qN, qO, qP, qQ, hd, t1, t2, hsn])|exact qM rfl rfl rfl|(refine qG rfl ?_)|(refine qH rfl ?_)|(refine qI rfl ?_ ?_<;>intro hc<;>(try simp only [go_sem] at hc))|(refine qJ ?_ ?_<;>intro hc<;>(try simp only [hc])<;>(try simp only [go_sem] at hc)))
  refine ⟨⟨i + 1, hlt⟩, ?_, Ent.to ?_ ?_⟩ <;> first | (show _ < _; (try simp only); omega) | (simp (disch:=omega) only [qR,qS,qT,qU,get,Nat.reduceEqDiff,↓reduceIte,qV,qW,qX,qY,qZ,and_self,dI,i64_in,and_true,true_and,rA,rB,rC,rD, hsn])
  all_goals first | exact ⟨.refl _, .refl _⟩ | exact .refl _
 obtain rfl : i = 8 := by omega
 have hti : ex8.take 8 = ex8 := by rfl
 rw [hti]
 repeat' (first|(with_reducible first|apply qA|apply qB|apply qC|apply qD|apply qE|apply qF)|(refine qL rfl (WF.of ?_) ?_; first|rfl|skip)|(simp (disch:=omega) only [go_sem, simprocAttr, qN, qO, qP, qQ])|exact qM rfl rfl rfl|(refine qG rfl ?_)|(refine qK (b0) (by decide) ?_)|(refine qK (b5) (by decide) ?_)|(refine qK (bx) (by decide) ?_)|(refine qK (c1) (by decide) ?_)|(refine qK (c2) (by decide) ?_)|(refine qK (c3) (by decide) ?_)|(refine qK (c4) (by decide) ?_)|(refine qK (o3) (by decide) ?_)|(refine qK (c5) (by decide) ?_)|(refine qK (o3t) (by decide) ?_)|(refine qK (c6) (by decide) ?_)|(refine qK (o8) (by decide) ?_)|(refine qK (c7) (by decide) ?_)|(refine qK (f1) (by decide) ?_)|(refine qK (c8) (by decide) ?_)|(refine qK (lo) (by decide) ?_)|(refine qK (s1) (by decide) ?_)|(refine qK (s2) (by decide) ?_)|(refine qH rfl ?_)|(refine qI rfl ?_ ?_<;>intro hc<;>(try simp only [go_sem] at hc))|(refine qJ ?_ ?_<;>intro hc<;>(try simp only [hc])<;>(try simp only [go_sem] at hc)))
 refine call_rel 111 rfl ?_
 simp (disch:=omega) only [go_sem,simprocAttr,qN,qO,qP,qQ]
 refine opsN.c c9 rfl rfl (by decide) ?_
 simp (disch:=omega) only [go_sem,simprocAttr,qN,qO,qP,qQ]
 repeat' (first|(with_reducible first|apply qA|apply qB|apply qC|apply qD|apply qE|apply qF)|(refine qL rfl (WF.of ?_) ?_; first|rfl|skip)|(simp (disch:=omega) only [go_sem, simprocAttr, qN, qO, qP, qQ])|exact qM rfl rfl rfl|(refine qG rfl ?_)|(refine qK (lo) (by decide) ?_)|(refine qK (s1) (by decide) ?_)|(refine qK (s2) (by decide) ?_)|(refine qH rfl ?_)|(refine qI rfl ?_ ?_<;>intro hc<;>(try simp only [go_sem] at hc))|(refine qJ ?_ ?_<;>intro hc<;>(try simp only [hc])<;>(try simp only [go_sem] at hc)))
 refine call_rel 122 rfl ?_
 simp (disch:=omega) only [go_sem,simprocAttr,qN,qO,qP,qQ]
 refine opsN.c c10 rfl rfl (by decide) ?_
 simp (disch:=omega) only [go_sem,simprocAttr,qN,qO,qP,qQ]
 have d0 : ((0 : Int) != 0) = false := rfl
 have d3 : ((3 : Int) != 3) = false := rfl
 have hl8 : ((L.length : Int) == 8) = true := by rw [hl]; rfl
 repeat' (first|(with_reducible first|apply qA|apply qB|apply qC|apply qD|apply qE|apply qF)|(refine qL rfl (WF.of ?_) ?_; first|rfl|skip)|(simp (disch:=omega) only [go_sem, simprocAttr, qN, qO, qP, qQ, d0, d3, hl8, exR])|exact qM rfl rfl rfl|(refine qG rfl ?_)|(refine qK (a2) (by decide) ?_)|(refine qK (a4) (by decide) ?_)|(refine qK (a5) (by decide) ?_)|(refine qK (sm) (by decide) ?_)|(refine qK (i1) (by decide) ?_)|(refine qK (i2) (by decide) ?_)|(refine qK (s3) (by decide) ?_)|(refine qK (s4) (by decide) ?_)|(refine qH rfl ?_)|(refine qI rfl ?_ ?_<;>intro hc<;>(try simp only [go_sem] at hc))|(refine qJ ?_ ?_<;>intro hc<;>(try simp only [hc])<;>(try simp only [go_sem] at hc)))
end Go.Dw.Seat
end
section
set_option linter.unusedSimpArgs false
set_option maxRecDepth 100000
namespace Go.Dw.Seat
open Go Go.Dw Go.Proofs Go.IntWalk
structure LayFacts (p : PBs) (b : PBx) (l : List PPl) : Prop where
 len : l.length = mst (bLg b) (bWd b) (rxN p) (ryN p)
 lies : Lies p b l
 mem : ∀ q ∈ l, (0 ≤ q.x ∧ q.x ≤ 140) ∧ 0 ≤ q.y ∧ q.y ≤ 140
theorem lay_facts {p : PBs} {b : PBx} (hp : p.ok) (hb : b.ok) : LayFacts p b (layX p b) := by
 have hc := chk_ok.2 ⟨hp, hb⟩
 obtain ⟨hx, hy⟩ := rm_in hp
 have hbl := hb.lg
 have hbw := hb.wd
 have ea : b.lg = ((bLg b : Nat) : Int) := (Int.toNat_of_nonneg (by omega)).symm
 have ec : b.wd = ((bWd b : Nat) : Int) := (Int.toNat_of_nonneg (by omega)).symm
 have hX : rmX p = ((rxN p : Nat) : Int) := (Int.toNat_of_nonneg hx.1).symm
 have hY : rmY p = ((ryN p : Nat) : Int) := (Int.toNat_of_nonneg hy.1).symm
 obtain ⟨h1, h2⟩ := lay_ok (b := b) (a := bLg b) (c := bWd b) (by show 0 < b.lg.toNat; omega) ea ec (rxN p + ryN p + 1) 0 0 (rxN p) (ryN p) (by omega)
 unfold layX
 rw [if_pos hc]
 refine ⟨h1, ⟨fun q hq => ?_, h2.off⟩, fun q hq => ?_⟩
 ·have := h2.inn q hq
  omega
 ·have := h2.inn q hq
  have := side_pos hb q
  omega
theorem mst_small {p : PBs} {b : PBx} (hp : p.ok) (hb : b.ok) {R : Nat} (hx : rmX p ≤ R) (hy : rmY p ≤ R) : mst (bLg b) (bWd b) (rxN p) (ryN p) * 100 ≤ R * R := by
 obtain ⟨kx, ky⟩ := rm_in hp
 have hbl := hb.lg
 have hbw := hb.wd
 have q1 : rxN p ≤ R := by show (rmX p).toNat ≤ R; omega
 have q2 : ryN p ≤ R := by show (rmY p).toNat ≤ R; omega
 have q3 : 10 ≤ bLg b := by show 10 ≤ b.lg.toNat; omega
 have q4 : 10 ≤ bWd b := by show 10 ≤ b.wd.toNat; omega
 have h1 := mst_area (a := bLg b) (c := bWd b) (rxN p + ryN p + 1) (rxN p) (ryN p) (by omega)
 have h2 := rch_le (bLg b) (bWd b) (rxN p)
 have h3 := rch_le (bLg b) (bWd b) (ryN p)
 have h4 : rchF (bLg b) (bWd b) (rxN p) * rchF (bLg b) (bWd b) (ryN p) ≤ R * R := Nat.mul_le_mul (by omega) (by omega)
 have h5 : 10 * 10 ≤ bLg b * bWd b := Nat.mul_le_mul (by omega) (by omega)
 have h6 := Nat.mul_le_mul_left (mst (bLg b) (bWd b) (rxN p) (ryN p)) h5
 omega
theorem rgt_one {p : PBs} {b : PBx} {l : List PPl} (h : opE p b [l] = 0) : rgtE p b [l] = if (fltF p b l).2 = 0 then 0 else 9 := by
 unfold rgtE
 rw [if_neg (by simpa using h)]
 by_cases hf : (fltF p b l).2 = 0 <;> simp [hf]
end Go.Dw.Seat
end
section
set_option linter.unusedSimpArgs false
set_option maxRecDepth 100000
namespace Go.Dw.Seat
open Go Go.Dw Go.Proofs Go.IntWalk
theorem six {s : List Nat} (h : s.length = 6 ∧ AllLt 256 s) : ∃ a b c d e f, s = [a, b, c, d, e, f] ∧ (a < 256 ∧ b < 256 ∧ c < 256) ∧ d < 256 ∧ e < 256 ∧ f < 256 := by
 obtain ⟨h1, h2⟩ := h
 match s, h1 with
 | [a, b, c, d, e, f], _ =>
  exact ⟨a, b, c, d, e, f, rfl, ⟨h2 a (by simp), h2 b (by simp), h2 c (by simp)⟩, h2 d (by simp), h2 e (by simp), h2 f (by simp)⟩
theorem byE {s : List Nat} : (eN s).map D.c = s.map dU := by rw [eN, List.map_map]; rfl
structure YOk (p : PBs) (b : PBx) : Prop where
 pk : p.ok
 bk : b.ok
 x : 20 ≤ rmX p ∧ rmX p ≤ 99
 y : 20 ≤ rmY p ∧ rmY p ≤ 99
 lg : p.lg ≤ 89
 wd : p.wd ≤ 89
theorem y_ok {a b c d e f : Nat} (h1 : a < 256 ∧ b < 256 ∧ c < 256) (h2 : d < 256 ∧ e < 256 ∧ f < 256) : YOk (yBs a b c) (yBx d e f) := ⟨yBs_ok h1.1 h1.2.1 h1.2.2, yBx_ok h2.1 h2.2.1 h2.2.2, yRm.1, yRm.2, by simp only [yBs]; omega, by simp only [yBs]; omega⟩
structure ScFacts (p : PBs) (b : PBx) (l : List PPl) : Prop where
 len : l.length ≤ 30
 lies : Lies p b l
 mem : ∀ q ∈ l, (0 ≤ q.x ∧ q.x ≤ 140) ∧ 0 ≤ q.y ∧ q.y ≤ 140
 liesB : liesB p b [] l = true
 op : opE p b [l] = 0
 rgt : rgtE p b [l] = 0
theorem sc_facts {p : PBs} {b : PBx} (h : YOk p b) (l : List Nat) : ScFacts p b (scR p b l) := by
 have h1 := scF_ok p b l (scN l)
 have h2 := sc_mem (p := p) (b := b) (l := l) (scN l)
 have hx := h.x
 have hy := h.y
 have hm : ∀ q ∈ scR p b l, (0 ≤ q.x ∧ q.x ≤ 140) ∧ 0 ≤ q.y ∧ q.y ≤ 140 := fun q hq => by
  have a1 := h2.1 q hq
  have a2 := h2.2.inn q hq
  have a3 := side_pos h.bk q
  omega
 have hl : (scR p b l).length ≤ 30 := by
  have : scN l ≤ 30 := by unfold scN; omega
  have := h1.2
  show (scF p b l (scN l)).length ≤ 30
  omega
 have ho : opE p b [scR p b l] = 0 := op_yes (chk_ok.2 ⟨h.pk, h.bk⟩) (ly_yes fun x hx => by rw [List.mem_singleton.1 hx]; exact ⟨by omega, hm⟩)
 refine ⟨hl, h2.2, hm, h1.1, ho, ?_⟩
 rw [rgt_one ho, if_pos (flt_lies.2 h2.2)]
theorem laid_flt {p : PBs} {b : PBx} {l : List PPl} (ho : opE p b [l] = 0) (h : Lies p b l) : fltE p b l = (0, 0, 7) := by
 unfold fltE
 rw [if_neg (by simpa using ho), if_pos (flt_lies.2 h)]
def wdP (p : PBs) (l : List Nat) : PBs := if byN l 0 % 2 = 0 then { p with lg := p.lg + (1 + ((byN l 1 % 20 : Nat) : Int)) } else { p with wd := p.wd + (1 + ((byN l 1 % 20 : Nat) : Int)) }
theorem bnd_small {p : PBs} {b : PBx} (hp : p.ok) (hb : b.ok) {R : Nat} (hx : rmX p ≤ R) (hy : rmY p ≤ R) : bndF (bLg b) (bWd b) (rxN p) (ryN p) * 100 ≤ R * R := by
 obtain ⟨kx, ky⟩ := rm_in hp
 have hbl := hb.lg
 have hbw := hb.wd
 have q1 : rxN p ≤ R := by show (rmX p).toNat ≤ R; omega
 have q2 : ryN p ≤ R := by show (rmY p).toNat ≤ R; omega
 have q3 : 10 ≤ bLg b := by show 10 ≤ b.lg.toNat; omega
 have q4 : 10 ≤ bWd b := by show 10 ≤ b.wd.toNat; omega
 have h2 := rch_le (bLg b) (bWd b) (rxN p)
 have h3 := rch_le (bLg b) (bWd b) (ryN p)
 have h4 : rchF (bLg b) (bWd b) (rxN p) * rchF (bLg b) (bWd b) (ryN p) ≤ R * R := Nat.mul_le_mul (by omega) (by omega)
 have h5 : 10 * 10 ≤ bLg b * bWd b := Nat.mul_le_mul (by omega) (by omega)
 have h6 := Nat.div_mul_le_self (rchF (bLg b) (bWd b) (rxN p) * rchF (bLg b) (bWd b) (ryN p)) (bLg b * bWd b)
 have h7 := Nat.mul_le_mul_left (bndF (bLg b) (bWd b) (rxN p) (ryN p)) h5
 unfold bndF at h7 ⊢
 omega
set_option maxHeartbeats 16000000 in
theorem laLaid (s : List Nat) (hs : s.length = 6 ∧ AllLt 256 s) (l : List Nat) (hm : l.length ≤ maxLen) (hl : AllLt 256 l) : DCall Try.prog 11 [.agg ((eN s).map D.c), .c (.sl false 1 (rows e1 l))] [] (bD true) [] := by
 obtain ⟨a, b, c, d, e, f, rfl, h1, h2⟩ := six hs
 have hk := laKnown
 have hbd := laBed a b c d e f h1.1 h1.2.1 h1.2.2 h2.1 h2.2.1 h2.2.2
 have hY := y_ok h1 h2
 rw [byE]
 simp only [List.map_cons, List.map_nil]
 generalize yBs a b c = p at *
 generalize yBx d e f = x at *
 clear h1 h2 hs
 obtain ⟨hp, hb, hx, hy, hlg, hwd⟩ := hY
 have hY : YOk p x := ⟨hp, hb, hx, hy, hlg, hwd⟩
 have hc := chk_ok.2 ⟨hp, hb⟩
 have hX : rmX p = ((rxN p : Nat) : Int) := (Int.toNat_of_nonneg (by omega)).symm
 have hYy : rmY p = ((ryN p : Nat) : Int) := (Int.toNat_of_nonneg (by omega)).symm
 have hrx : p.lg + 2 * p.ov = rmX p := rfl
 have hry : p.wd + 2 * p.ov = rmY p := rfl
 have hlg1 := hp.lg
 have hwd1 := hp.wd
 have hov1 := hp.ov
 have hbl := hb.lg
 have hbw := hb.wd
 have ha0 : 0 < bLg x := by show 0 < x.lg.toNat; omega
 have hc0 : 0 < bWd x := by show 0 < x.wd.toNat; omega
 have ea : x.lg = ((bLg x : Nat) : Int) := (Int.toNat_of_nonneg (by omega)).symm
 have ec : x.wd = ((bWd x : Nat) : Int) := (Int.toNat_of_nonneg (by omega)).symm
 have g1 := plMost p x
 have g2 := plBound p x
 have g3 := plLayX p x
 rw [mostX, if_pos hc, hc] at g1
 rw [bndX, if_pos hc, hc] at g2
 rw [layD, if_pos hc, hc] at g3
 have hf := lay_facts hp hb
 have hL := laLies p x hp hb false (layX p x) (by have := mst_small hp hb (R := 99) (by omega) (by omega); have := hf.len; omega) (fun q hq => fine_of (hf.mem q hq))
 rw [lies_of.2 ⟨fun q hq => by have := hf.mem q hq; omega, hf.lies⟩] at hL
 have hll := hf.len
 have hsaw := sawCl (laSaw x hb false l hm hl 5 0 0 0 (rxN p) (ryN p) (by decide) (by decide) (by omega) (by omega) 96)
 obtain ⟨s1, s2⟩ := saw_ok (b := x) ha0 hc0 ea ec hl 5 0 0 0 (rxN p) (ryN p)
 have hsl : ∀ q ∈ sawF (bLg x) (bWd x) l 5 0 0 0 (rxN p) (ryN p), (0 ≤ q.x ∧ q.x ≤ 140) ∧ 0 ≤ q.y ∧ q.y ≤ 140 := fun q hq => by
  have := s2.inn q hq
  have := side_pos hb q
  omega
 have hsm := mst_small hp hb (R := 99) (by omega) (by omega)
 have hSL := laLies p x hp hb false (sawF (bLg x) (bWd x) l 5 0 0 0 (rxN p) (ryN p)) (by omega) (fun q hq => fine_of (hsl q hq))
 rw [lies_of.2 ⟨fun q hq => by have := hsl q hq; omega, ⟨fun q hq => by have := s2.inn q hq; omega, s2.off⟩⟩] at hSL
 have hsc := laScat p x hp hb false l hm hl
 have hsf := sc_facts hY l
 have hbo := bound_ok hb hsf.lies (fun q hq => ⟨(hsf.mem q hq).1.1, (hsf.mem q hq).2.1⟩)
 have hbo : (scR p x l).length ≤ bndF (bLg x) (bWd x) (rxN p) (ryN p) := hbo
 have hsl30 := hsf.len
 have ho := laOwn false (scR p x l) (by omega)
 have hF := plFaultX p x (scR p x l) (by omega)
 rw [laid_flt hsf.op hsf.lies] at hF
 have hb0 := laByte false l hm hl 0
 have hb1 := laByte false l hm hl 1
 have hv0 := byN_lt hl 0
 have hv1 := byN_lt hl 1
 have hpw : (wdP p l).ok ∧ rmX p ≤ rmX (wdP p l) ∧ rmY p ≤ rmY (wdP p l) := by
  obtain ⟨r1, r2, r3, r4, r5, r6⟩ := hp
  unfold wdP
  split
  ·exact ⟨⟨by dsimp only; omega, r2, r3, r4, r5, r6⟩, by simp only [rmX]; omega, by simp only [rmY]; omega⟩
  ·exact ⟨⟨r1, by dsimp only; omega, r3, r4, r5, r6⟩, by simp only [rmX]; omega, by simp only [rmY]; omega⟩
 obtain ⟨hpw, hpx, hpy⟩ := hpw
 have hcw := chk_ok.2 ⟨hpw, hb⟩
 have g4 := plMost (wdP p l) x
 have g5 := plBound (wdP p l) x
 rw [mostX, if_pos hcw, hcw] at g4
 rw [bndX, if_pos hcw, hcw] at g5
 have nx : rxN p ≤ rxN (wdP p l) := by show (rmX p).toNat ≤ (rmX (wdP p l)).toNat; omega
 have ny : ryN p ≤ ryN (wdP p l) := by show (rmY p).toNat ≤ (rmY (wdP p l)).toNat; omega
 have hmm := mst_le (a := bLg x) (c := bWd x) nx ny
 have hbm := bnd_mono (a := bLg x) (c := bWd x) nx ny
 have hmb := mst_bnd ha0 hc0 (rxN p) (ryN p)
 have hbs := bnd_small hp hb (R := 99) (by omega) (by omega)
 have hrx2 : p.lg + 2 * p.ov = ((rxN p : Nat) : Int) := by rw [hrx, hX]
 have hry2 : p.wd + 2 * p.ov = ((ryN p : Nat) : Int) := by rw [hry, hYy]
 clear hf hsf
 generalize mst (bLg x) (bWd x) (rxN p) (ryN p) = M at *
 generalize bndF (bLg x) (bWd x) (rxN p) (ryN p) = B at *
 generalize mst (bLg x) (bWd x) (rxN (wdP p l)) (ryN (wdP p l)) = M2 at *
 generalize bndF (bLg x) (bWd x) (rxN (wdP p l)) (ryN (wdP p l)) = B2 at *
 generalize layX p x = LX at *
 generalize sawF (bLg x) (bWd x) l 5 0 0 0 (rxN p) (ryN p) = SX at *
 generalize scR p x l = CX at *
 have d1 : decide ((M : Int) < 0) = false := decide_eq_false (by omega)
 have d2 : decide ((B : Int) < (M : Int)) = false := decide_eq_false (by omega)
 have d3 : decide (200 < (B : Int)) = false := decide_eq_false (by omega)
 have d4 : ((LX.length : Int) != (M : Int)) = false := by rw [hll]; simp
 have d5 : decide ((M : Int) < (SX.length : Int)) = false := decide_eq_false (by omega)
 have d6 : decide ((B : Int) < (CX.length : Int)) = false := decide_eq_false (by omega)
 have d7 : decide ((M : Int) ≤ (M2 : Int)) = true := decide_eq_true (by omega)
 have d8 : decide ((B : Int) ≤ (B2 : Int)) = true := decide_eq_true (by omega)
 have t2 : Int.tmod ((byN l 0 : Nat) : Int) 2 = ((byN l 0 % 2 : Nat) : Int) := rfl
 have t3 : Int.tmod ((byN l 1 : Nat) : Int) 20 = ((byN l 1 % 20 : Nat) : Int) := rfl
 have c1 := hpw.lg
 have c2 := hpw.wd
 by_cases h0 : byN l 0 % 2 = 0
 ·have e0 : (((byN l 0 % 2 : Nat) : Int) == 0) = true := by rw [h0]; rfl
  unfold wdP at g4 g5 c1
  rw [if_pos h0] at g4 g5 c1
  dsimp only at g4 g5 c1
  generalize byN l 0 = v0 at *
  generalize byN l 1 = v1 at *
  refine DCall.of Try.func11 sf11 hb11 (Nat.le_of_ble_eq_true rfl) (okRes_nil fun _ => rfl) ?_; simp only [s11, idxs, Nat.reduceAdd]
  repeat' (first|(with_reducible first|apply qA|apply qB|apply qC|apply qD|apply qE|apply qF)|(refine qL rfl (WF.of ?_) ?_; first|rfl|skip)|(simp (disch:=omega) only [go_sem, simprocAttr, qN, qO, qP, qQ, d1, d2, d3, d4, d5, d6, d7, d8, t2, t3, e0, hrx2, hry2, rD])|exact qM rfl rfl rfl|(refine qG rfl ?_)|(refine qK (hbd) (by decide) ?_)|(refine qK (g1) (by decide) ?_)|(refine qK (g2) (by decide) ?_)|(refine qK (g3) (by decide) ?_)|(refine qK (hL) (by decide) ?_)|(refine qK (hsaw) (by decide) ?_)|(refine qK (hsc) (by decide) ?_)|(refine qK (ho) (by decide) ?_)|(refine qK (hF) (by decide) ?_)|(refine qK (hSL) (by decide) ?_)|(refine qK (hb0) (by decide) ?_)|(refine qK (hb1) (by decide) ?_)|(refine qK (g4) (by decide) ?_)|(refine qK (g5) (by decide) ?_)|(refine qK (hk) (by decide) ?_)|(refine qH rfl ?_)|(refine qI rfl ?_ ?_<;>intro hc<;>(try simp only [go_sem] at hc))|(refine qJ ?_ ?_<;>intro hc<;>(try simp only [hc])<;>(try simp only [go_sem] at hc)))
 ·have e0 : (((byN l 0 % 2 : Nat) : Int) == 0) = false := by rw [beq_eq_false_iff_ne]; omega
  unfold wdP at g4 g5 c2
  rw [if_neg h0] at g4 g5 c2
  dsimp only at g4 g5 c2
  generalize byN l 0 = v0 at *
  generalize byN l 1 = v1 at *
  refine DCall.of Try.func11 sf11 hb11 (Nat.le_of_ble_eq_true rfl) (okRes_nil fun _ => rfl) ?_; simp only [s11, idxs, Nat.reduceAdd]
  repeat' (first|(with_reducible first|apply qA|apply qB|apply qC|apply qD|apply qE|apply qF)|(refine qL rfl (WF.of ?_) ?_; first|rfl|skip)|(simp (disch:=omega) only [go_sem, simprocAttr, qN, qO, qP, qQ, d1, d2, d3, d4, d5, d6, d7, d8, t2, t3, e0, hrx2, hry2, rD])|exact qM rfl rfl rfl|(refine qG rfl ?_)|(refine qK (hbd) (by decide) ?_)|(refine qK (g1) (by decide) ?_)|(refine qK (g2) (by decide) ?_)|(refine qK (g3) (by decide) ?_)|(refine qK (hL) (by decide) ?_)|(refine qK (hsaw) (by decide) ?_)|(refine qK (hsc) (by decide) ?_)|(refine qK (ho) (by decide) ?_)|(refine qK (hF) (by decide) ?_)|(refine qK (hSL) (by decide) ?_)|(refine qK (hb0) (by decide) ?_)|(refine qK (hb1) (by decide) ?_)|(refine qK (g4) (by decide) ?_)|(refine qK (g5) (by decide) ?_)|(refine qK (hk) (by decide) ?_)|(refine qH rfl ?_)|(refine qI rfl ?_ ?_<;>intro hc<;>(try simp only [go_sem] at hc))|(refine qJ ?_ ?_<;>intro hc<;>(try simp only [hc])<;>(try simp only [go_sem] at hc)))
end Go.Dw.Seat
end
section
set_option linter.unusedSimpArgs false
set_option maxRecDepth 100000
namespace Go.Dw.Seat
open Go Go.Dw Go.Proofs Go.ChangeShapes Go.WideShapes Go.ChangeAt Go.RowKit
theorem tOwn : ownKnob Try.prog.godebug = none := by kernel_rfl
theorem tLaid : laidOutB Try.prog = true := by kernel_rfl
theorem u3 : Try.prog.underlying 3 = some (.int .i64) := by kernel_rfl
theorem u4 : Try.prog.underlying 4 = some .bool := by kernel_rfl
theorem und5 : Try.prog.underlying 5 = some (.int .u8) := by kernel_rfl
theorem u71 : Try.prog.underlying 71 = some (.array 3 5) := by kernel_rfl
theorem u73 : structIs Try.prog 73 [(71, 0), (71, 3)] = true := by kernel_rfl
theorem u74 : Try.prog.underlying 74 = some (.slice 5) := by kernel_rfl
theorem cl5 : Try.prog.cellsOf 5 = 1 := by kernel_rfl
theorem cl71 : Try.prog.cellsOf 71 = 3 := by kernel_rfl
theorem cl73 : Try.prog.cellsOf 73 = 6 := by kernel_rfl
def bV (l : List Nat) : List Value := l.map fun n : Nat => Value.int .u8 (n : Int)
section
variable {H : Type} {enc : TypeId × Value → H} {w : World} {base : Nat} {spare : Nat → Bool} {held : Bool} {fuel : Nat} {cs : List Value} {x : DataW H × List MemPlace}
theorem wf8 {n : Int} (h : (Lit.int .u8 n).wf = true) : ∃ v : Nat, n = v ∧ v < 256 := by
 have e1 : IntKind.min .u8 = 0 := by decide
 have e2 : IntKind.max .u8 = 255 := by decide
 simp only [Lit.wf, e1, e2, Bool.and_eq_true, decide_eq_true_eq] at h
 exact ⟨n.toNat, by omega, by omega⟩
theorem rep_bytes : ∀ l : List Nat, RepVs w A0 (eN l) (bV l)
 | [] => rfl
 | _ :: l => ⟨_, _, rfl, ⟨rfl, rfl⟩, rep_bytes l⟩
theorem rd_U8 (h : DataW.trod enc Try.prog w base spare held fuel 5 cs = some x) : ∃ l : List Nat, (l.length = 1 ∧ AllLt 256 l) ∧ cs = bV l := by
 obtain ⟨n, e, hw⟩ := rd_int und5 h
 obtain ⟨v, rfl, hv⟩ := wf8 hw
 exact ⟨[v], ⟨rfl, fun x hx => by rw [List.mem_singleton] at hx; rw [hx]; exact hv⟩, e⟩
theorem bV_app (a b : List Nat) : bV (a ++ b) = bV a ++ bV b := by simp [bV]
theorem lt_app {b : Nat} {l l' : List Nat} (h : AllLt b l) (h' : AllLt b l') : AllLt b (l ++ l') := fun x hx => by
 rcases List.mem_append.1 hx with h1 | h1
 ·exact h x h1
 ·exact h' x h1
theorem rd_arrB {t e : TypeId} {n k : Nat} (ht : Try.prog.underlying t = some (.array n e)) (he : Try.prog.cellsOf e = k) (hc : Try.prog.cellsOf t = n * k)
  (hrd : ∀ m cs x, DataW.trod enc Try.prog w base spare held m e cs = some x → ∃ l : List Nat, (l.length = k ∧ AllLt 256 l) ∧ cs = bV l) (h : DataW.trod enc Try.prog w base spare held fuel t cs = some x) : ∃ l : List Nat, (l.length = n * k ∧ AllLt 256 l) ∧ cs = bV l := by
 obtain ⟨hl, m, hf⟩ := rd_array ht h
 rw [hc] at hl
 have key : ∀ j, j ≤ n → ∃ l : List Nat, (l.length = j * k ∧ AllLt 256 l) ∧ cs.take (j * k) = bV l := by
  intro j
  induction j with
  | zero => intro _; exact ⟨[], ⟨by simp, fun x hx => by cases hx⟩, by simp [bV]⟩
  | succ j ih =>
   intro hj
   obtain ⟨l, ⟨h1, h2⟩, h3⟩ := ih (by omega)
   obtain ⟨y, hy⟩ := hf j (by omega)
   rw [he] at hy
   obtain ⟨l', ⟨h4, h5⟩, h6⟩ := hrd _ _ _ hy
   refine ⟨l ++ l', ⟨by rw [List.length_append, h1, h4, Nat.succ_mul], lt_app h2 h5⟩, ?_⟩
   rw [Nat.succ_mul, List.take_add, h3, h6, bV_app]
 obtain ⟨l, h1, h2⟩ := key n (Nat.le_refl _)
 rw [List.take_of_length_le (by omega)] at h2
 exact ⟨l, h1, h2⟩
theorem rd_A3 (h : DataW.trod enc Try.prog w base spare held fuel 71 cs = some x) : ∃ l : List Nat, (l.length = 3 ∧ AllLt 256 l) ∧ cs = bV l := rd_arrB (n := 3) (k := 1) u71 cl5 cl71 (fun _ _ _ h => rd_U8 h) h
theorem rd_Yard (h : DataW.trod enc Try.prog w base spare held fuel 73 cs = some x) : ∃ l : List Nat, (l.length = 6 ∧ AllLt 256 l) ∧ cs = bV l := by
 obtain ⟨hl, m, hf⟩ := rd_struct u73 h
 rw [cl73] at hl
 obtain ⟨y0, h0⟩ := hf 0 71 0 rfl
 obtain ⟨y1, h1⟩ := hf 1 71 3 rfl
 rw [cl71] at h0 h1
 obtain ⟨l0, p0, e0⟩ := rd_A3 h0
 obtain ⟨l1, p1, e1⟩ := rd_A3 h1
 refine ⟨l0 ++ l1, ⟨by rw [List.length_append, p0.1, p1.1], lt_app p0.2 p1.2⟩, ?_⟩
 rw [bV_app, ← e0, ← e1]
 have s1 : (cs.drop 3).take 3 = cs.drop 3 := List.take_of_length_le (by rw [List.length_drop]; omega)
 rw [s1, List.drop_zero]
 exact (List.take_append_drop 3 cs).symm
theorem rd_Us (h : DataW.trod enc Try.prog w base spare held fuel 74 cs = some x) : ∃ (l : List Nat) (v : Value), cs = [v] ∧ RepC w A0 (.sl false 1 (rows e1 l)) v ∧ l.length ≤ maxLen ∧ AllLt 256 l := by
 obtain ⟨l, v, e', hr, hm, _⟩ := rd_slice (f := fun v : {v : Nat // v < 256} => e1 v.1) u74 cl5 (by decide) (fun _ => rfl) (fun m cs x h => by
  obtain ⟨n, e, hw⟩ := rd_int und5 h
  obtain ⟨v, rfl, hv⟩ := wf8 hw
  subst e
  exact ⟨⟨v, hv⟩, _, _, rfl, ⟨rfl, rfl⟩, rfl⟩) h
 refine ⟨l.map (·.1), v, e', ?_, by simpa using hm, fun u hu => ?_⟩
 ·have : rows e1 (l.map (·.1)) = rows (fun v : {v : Nat // v < 256} => e1 v.1) l := by simp [rows, Function.comp_def]
  rw [this]; exact hr
 ·obtain ⟨a, _, rfl⟩ := List.mem_map.1 hu
  exact a.2
end
end Go.Dw.Seat
end
section
set_option linter.unusedSimpArgs false
set_option maxRecDepth 100000
namespace Go.Dw.Seat
open Go Go.Dw Go.Proofs Go.ChangeShapes Go.WideShapes Go.ChangeAt Go.RowKit
set_option maxHeartbeats 800000 in
theorem palletLaidLifted (os : Os) (started : os.Started) (H : Type) (enc : TypeId × Value → H) :
  ReturnsInHanded {} Try.checked os 11 .any (Ytimgcfmeakekbaa.Rows.palletLaidSpec.pre6 enc Try.prog Try.f11 Ytimgcfmeakekbaa.Rows.palletLaidRow.domain false) (Ytimgcfmeakekbaa.Rows.palletLaidSpec.post enc Try.prog Try.f11 false true false false) := by
 refine returnsInHanded_of_change (C := Try.checked) tOwn started (by kernel_rfl) Try.func11
  (ChangeSpec.witness6 (enc := enc) (C := Try.checked) false ⟨#[], #[.agg #[.int .u8 0, .int .u8 0, .int .u8 0, .int .u8 0, .int .u8 0, .int .u8 0], .slice none 0 0], []⟩ 8 (by kernel_rfl) (by kernel_rfl) (by kernel_rfl) (by kernel_rfl)) ?_
 intro W base args ds gs before hval0 hW _ _
 have hval : ∀ (j : Nat) t v, Try.f11.params[j]? = some t → args[j]? = some v → Value.okWide Try.prog W .any base t v := hval0
 have hW' : DataW.Whole enc Try.prog Try.f11.params.toList [] false W args.toList ds gs before := hW
 obtain ⟨p, q, hA, hV, rfl, hfz, hnd⟩ := hW
 have hA : DataW.TrodAll enc Try.prog W 0 (fun _ => true) true [73, 74] args.toList ds p := hA
 obtain ⟨rfl, rfl⟩ := trodVars_none hV
 obtain ⟨v0, vs0, d0, ds0, p0, q0, hargs, rfl, rfl, h0, r0⟩ := trodAll_cons hA
 obtain ⟨v1, vs1, d1, ds1, p1, q1, rfl, rfl, rfl, h1, r1⟩ := trodAll_cons r0
 obtain ⟨rfl, rfl, rfl⟩ := trodAll_nil r1
 obtain rfl : args = #[v0, v1] := by cases args; simp_all
 obtain ⟨f0, hu0, _⟩ := structIs_spec u73
 obtain ⟨c0, rfl, _⟩ := okWide_struct hu0 (hval 0 73 v0 rfl rfl)
 obtain ⟨a1, l1, k1, rfl⟩ := okWide_slice u74 (hval 1 74 v1 rfl rfl)
 obtain ⟨fu0, h0⟩ := h0
 obtain ⟨fu1, h1⟩ := h1
 obtain ⟨s0, ho0, e0⟩ := rd_Yard h0
 have hr0 : RepVs W A0 (eN s0) c0.toList := by
  have e : c0.toList = bV s0 := by simpa [Value.cells] using e0
  rw [e]; exact rep_bytes s0
 obtain ⟨s1, sv1, e1, hs1, hl1, ho1⟩ := rd_Us h1
 have e1 : sv1 = Value.slice a1 l1 k1 := by simpa [Value.cells] using e1.symm
 subst e1
 refine ((laLaid s0 ho0 s1 hl1 ho1).calls (W := W) (vs := [.agg c0, .slice a1 l1 k1]) (laid0 W) (fun G => ?_)).mono ?_
 ·exact ⟨_, _, rfl, ⟨c0, rfl, RepDs.ofVs hr0⟩, _, _, rfl, hs1, rfl⟩
 ·rintro e W' ⟨v, rfl, ⟨G', A', hr⟩, hb⟩
  obtain ⟨rfl, _⟩ := hr
  exact ⟨_, rfl, post_true tLaid (by decide +kernel) hW' hb rfl rfl u4 rfl rfl rfl⟩
theorem palletLaidHolds : Ytimgcfmeakekbaa.Rows.palletLaidRow.holds Ytimgcfmeakekbaa.Try.pinned (OpenSpec.ofChange Ytimgcfmeakekbaa.Rows.palletLaidSpec) :=
 OpenClaim.holds_of_wide 11 Try.f11 rfl rfl rfl rfl rfl rfl rfl ⟨rfl, rfl, rfl, rfl, rfl⟩ rfl rfl rfl rfl rfl (by kernel_rfl) Try.func11 (by kernel_rfl)
  (of_decide_eq_true (by kernel_rfl)) (by unfold Func.isWrapper; first | (rw [if_pos (by decide +kernel)]; kernel_rfl) | (rw [if_neg (by decide +kernel)]; exact ⟨rfl, rfl⟩))
  (fun os started H enc _ => palletLaidLifted os started H enc)
end Go.Dw.Seat
namespace Go.Proofs.Ytimgcfmeakekbaa
theorem palletLaidSaid : Rows.PalletLaidSaid := Go.Dw.Seat.palletLaidHolds
end Go.Proofs.Ytimgcfmeakekbaa
end
