/- Helpers of a proof. -/
import Derived.Test.YtimgcfmeakekbaaF01
set_option linter.unusedVariables false
set_option linter.unusedSimpArgs false
section
set_option linter.unusedSimpArgs false
set_option maxRecDepth 100000
namespace Go.Dw.Seat
open Go Go.Dw Go.Proofs Go.IntWalk
theorem relR {P : Program} {f : FuncId} {ar : List D} {bi : List (Nat × Blk)} {r : D} {k : Nat} {x : Blk} (hok : okRes (relD k x r) []) (h : DCall P f ar bi r [(k, x)]) : DCall P f ar bi (relD k x r) [] := by
 refine ⟨h.1, hok, fun N G w vs hN hd hh has => ?_⟩
 refine Calls.mono (h.2.2 N G w vs hN hd hh has) ?_
 rintro e w' ⟨G', v, rfl, hk, hr, hfr, hfo⟩
 have gk : get k [(k, x)] = some x := by simp only [get, if_true]
 have ho : ∀ b, owned G' [] b → owned G' [(k, x)] b := fun b ⟨i, z, hi, hb⟩ => by cases hi
 have hA : ∀ bw b, ¬ AvR N G' [(k, x)] bw b → ¬ AvR N G' [] bw b := fun bw b h1 h2 => h1 (by
  rcases h2 with h2 | h2 | h2
  ·exact .inl h2
  ·exact .inr (.inl (ho b h2))
  ·exact .inr (.inr h2))
 have hkp : Keeps w' w' (AvR N G' [(k, x)]) (AvR N G' []) := ⟨Nat.le_refl _, fun bw b _ h1 => hA bw b h1, fun _ _ _ _ _ => rfl⟩
 have hlt : ∀ b, G'.β k = some b → b < w'.heap.size ∧ ¬ AvR N G' [] false b := by
  intro b hb
  refine ⟨hk.lt b ⟨k, x, gk, hb⟩, ?_⟩
  rintro (h1 | ⟨i, z, hi, hbi⟩ | h1)
  ·cases h1
  ·cases hi
  ·rcases hfo b ⟨k, x, gk, hb⟩ with h2 | h2
   ·exact hd b h2 h1
   ·have := hN b h1; omega
 exact ⟨G', v, rfl, {
  rep := fun i z hi => by cases hi
  inj := fun i i' z z' b hi hi' _ _ => by cases hi
  lt := fun b hb => hk.lt b (ho b hb)
  laid := hk.laid.sub fun b hb => Classical.byContradiction fun h1 => hA false b h1 hb }, relD_sound hkp (hk.rep k x gk) hlt r v hr, hfr, fun b hb => hfo b (ho b hb)⟩
def SawC (b : PBx) (lab : Bool) (l : List Nat) (f : Nat) : Prop := ∀ n x y L W : Nat, 32 ≤ (n + 1) * 2 ^ f → n ≤ 62 → x + L ≤ 200 → y + W ≤ 200 → ∀ k, DCall Try.prog 51 [bxD b, dI x, dI y, dI L, dI W, .c (.sl lab 1 (rows e1 l)), dI n] [] (.own k) [(k, .row 3 (rowC (rows eP (sawF (bLg b) (bWd b) l f n x y L W))))]
theorem sawCl {ar : List D} {l : List PPl} {k : Nat} (h : DCall Try.prog 51 ar [] (.own k) [(k, .row 3 (rowC (rows eP l)))]) : DCall Try.prog 51 ar [] (lyD false l) [] := by
 have e : relD k (.row 3 (rowC (rows eP l))) (.own k) = .c (.sl false 3 (rows eP l)) := by
  simp (disch:=omega) only [go_sem,simprocAttr,qN,qO,qP,qQ,relD]
 have := relR (by rw [e]; exact ⟨fun _ _ => rfl, fun j x hj => by cases hj⟩) h
 rwa [e] at this
theorem leaf_eq {a c v x y L W : Nat} : leafF a c v x y L W = gridF (v % 2 == 1) (if v % 2 = 1 then c else a) (if v % 2 = 1 then a else c) x y L W := by
 unfold leafF
 by_cases h : v % 2 = 1
 ·rw [if_pos h, if_pos h, if_pos h, h]; rfl
 ·rw [if_neg h, if_neg h, if_neg h, show (v % 2 == 1) = false by simpa using h]
def grdF (t : Bool) (s u x y W i : Nat) : List PPl := (List.range i).flatMap fun j => (List.range (W / u)).map fun k => ⟨((x + j * s : Nat) : Int), ((y + k * u : Nat) : Int), t⟩
def colF (t : Bool) (s u x y i k : Nat) : List PPl := (List.range k).map fun k => ⟨((x + i * s : Nat) : Int), ((y + k * u : Nat) : Int), t⟩
theorem grdF_succ (t : Bool) (s u x y W i : Nat) : grdF t s u x y W (i + 1) = grdF t s u x y W i ++ colF t s u x y i (W / u) := by
 simp [grdF, colF, List.range_succ]
theorem colF_succ (t : Bool) (s u x y i k : Nat) : colF t s u x y i (k + 1) = colF t s u x y i k ++ [⟨((x + i * s : Nat) : Int), ((y + k * u : Nat) : Int), t⟩] := by
 simp [colF, List.range_succ]
theorem grdF_len (t : Bool) (s u x y W : Nat) : ∀ i, (grdF t s u x y W i).length = i * (W / u)
 | 0 => by simp [grdF]
 | i + 1 => by rw [grdF_succ, List.length_append, grdF_len t s u x y W i, colF, List.length_map, List.length_range, Nat.succ_mul]
theorem saw_row (k : Nat) (l : List PPl) : Blk.nb (.row 3 (rowC (rows eP l))) = true := rowC_nb (rows_nb eP_nb l)
set_option maxHeartbeats 8000000 in
theorem laLeaf (b : PBx) (hb : b.ok) (lab : Bool) (l : List Nat) (hm : l.length ≤ maxLen) (hl : ∀ v ∈ l, v < 256) (n x y L W : Nat) (hn : n ≤ 62) (hx : x + L ≤ 200) (hy : y + W ≤ 200)
  (h1 : ¬ ((n < 31 ∧ byN l n % 4 < 2) ∧ 1 < L)) (h2 : ¬ ((n < 31 ∧ byN l n % 4 = 2) ∧ 1 < W)) (k : Nat) : DCall Try.prog 51 [bxD b, dI x, dI y, dI L, dI W, .c (.sl lab 1 (rows e1 l)), dI n] [] (.own k) [(k, .row 3 (rowC (rows eP (leafF (bLg b) (bWd b) (byN l n) x y L W))))] := by
 have hbl := hb.lg
 have hbw := hb.wd
 have ea : b.lg = ((bLg b : Nat) : Int) := (Int.toNat_of_nonneg (by omega)).symm
 have ec : b.wd = ((bWd b : Nat) : Int) := (Int.toNat_of_nonneg (by omega)).symm
 have hal : 10 ≤ bLg b ∧ bLg b ≤ 100 := by omega
 have hcl : 10 ≤ bWd b ∧ bWd b ≤ 100 := by omega
 have hby := laByte lab l hm hl n
 have hv := byN_lt hl n
 rw [leaf_eq]
 generalize byN l n = v at *
 generalize bLg b = a at *
 generalize bWd b = c at *
 have t4 : Int.tmod (v : Int) 4 = ((v % 4 : Nat) : Int) := rfl
 have t2 : Int.tmod (v : Int) 2 = ((v % 2 : Nat) : Int) := rfl
 have eT : (((v % 2 : Nat) : Int) == 1) = (v % 2 == 1) := by
  rw [Bool.eq_iff_iff, beq_iff_eq, beq_iff_eq]; omega
 have e2 : (((v % 4 : Nat) : Int) == 2) = decide (v % 4 = 2) := by
  rw [Bool.eq_iff_iff, beq_iff_eq, decide_eq_true_eq]; omega
 refine DCall.rename (k0 := 123) ?_ k
 have hcase : 31 ≤ n ∨ (n < 31 ∧ v % 4 < 2 ∧ L ≤ 1) ∨ (n < 31 ∧ v % 4 = 2 ∧ W ≤ 1) ∨ (n < 31 ∧ v % 4 = 3) := by omega
 obtain ⟨T, hT⟩ : ∃ T, (v % 2 == 1) = T := ⟨_, rfl⟩
 obtain ⟨s, hs⟩ : ∃ s, (if v % 2 = 1 then c else a) = s := ⟨_, rfl⟩
 obtain ⟨u, hu⟩ : ∃ u, (if v % 2 = 1 then a else c) = u := ⟨_, rfl⟩
 have hsb : 10 ≤ s ∧ s ≤ 100 := by rw [← hs]; split <;> omega
 have hub : 10 ≤ u ∧ u ≤ 100 := by rw [← hu]; split <;> omega
 rw [hs, hu, hT]
 rw [hT] at eT
 have hgd : gridF T s u x y L W = grdF T s u x y W (L / s) := rfl
 rw [hgd]
 have hTs : T = true → s = c ∧ u = a := fun h => by
  rw [h, beq_iff_eq] at hT
  rw [if_pos hT] at hs hu
  exact ⟨hs.symm, hu.symm⟩
 have hTf : T = false → s = a ∧ u = c := fun h => by
  rw [h, beq_eq_false_iff_ne] at hT
  rw [if_neg hT] at hs hu
  exact ⟨hs.symm, hu.symm⟩
 clear hs hu hT
 refine DCall.of Try.func51 sf51 hb51 (Nat.le_of_ble_eq_true rfl) okRes_row ?_; simp only [s51, idxs, Nat.reduceAdd]
 refine DW.seq (DW.reg ?_)
 simp (disch:=omega) only [go_sem,simprocAttr,qN,qO,qP,qQ]
 refine DW.seq (DW.reg ?_)
 simp (disch:=omega) only [go_sem,simprocAttr,qN,qO,qP,qQ]
 refine call_c hby (by decide) ?_
 simp (disch:=omega) only [go_sem,simprocAttr,qN,qO,qP,qQ]
 have d0 : ∀ h : n < 31, decide ((n : Int) < 31) = true := fun h => decide_eq_true (by omega)
 refine DW.cut ⟨158, [(15, dI v), (7, .box 7 0), (6, dI n), (5, .c (.sl lab 1 (rows e1 l))), (4, dI W), (3, dI L), (2, dI y), (1, dI x)], [(7, .box (bxL b))]⟩ ?_ ?_
 ·rcases hcase with h | ⟨h, h2, h3⟩ | ⟨h, h2, h3⟩ | ⟨h, h2⟩
  ·have d1 : decide ((n : Int) < 31) = false := decide_eq_false (by omega)
   repeat' (first|(with_reducible first|apply qA|apply qB|apply qC|apply qD|apply qE|apply qF)|(refine qL rfl (WF.of ?_) ?_; first|rfl|skip)|(refine DW.regL rfl (WF.of ?_) ?_; first|rfl|skip)|(simp (disch:=omega) only [go_sem, simprocAttr, qN, qO, qP, qQ, d1])|exact qM rfl rfl rfl|(refine qG rfl ?_)|(refine qH rfl ?_)|(refine qI rfl ?_ ?_<;>intro hc<;>(try simp only [go_sem] at hc))|(refine qJ ?_ ?_<;>intro hc<;>(try simp only [hc])<;>(try simp only [go_sem] at hc)))
   refine Ent.to ?_ ?_ <;> simp (disch:=omega) only [qR,qS,qT,qU,get,Nat.reduceEqDiff,↓reduceIte,qV,qW,qX,qY,qZ,and_self,dI,i64_in,and_true,true_and,rA,rB,rC,rD]
   all_goals first | exact ⟨.refl _, .refl _⟩ | exact .refl _
  ·have d1 : decide ((n : Int) < 31) = true := decide_eq_true (by omega)
   have d2 : decide (((v % 4 : Nat) : Int) < 2) = true := decide_eq_true (by omega)
   have d3 : decide (1 < (L : Int)) = false := decide_eq_false (by omega)
   repeat' (first|(with_reducible first|apply qA|apply qB|apply qC|apply qD|apply qE|apply qF)|(refine qL rfl (WF.of ?_) ?_; first|rfl|skip)|(refine DW.regL rfl (WF.of ?_) ?_; first|rfl|skip)|(simp (disch:=omega) only [go_sem, simprocAttr, qN, qO, qP, qQ, d1, t4, d2, d3])|exact qM rfl rfl rfl|(refine qG rfl ?_)|(refine qH rfl ?_)|(refine qI rfl ?_ ?_<;>intro hc<;>(try simp only [go_sem] at hc))|(refine qJ ?_ ?_<;>intro hc<;>(try simp only [hc])<;>(try simp only [go_sem] at hc)))
   refine Ent.to ?_ ?_ <;> simp (disch:=omega) only [qR,qS,qT,qU,get,Nat.reduceEqDiff,↓reduceIte,qV,qW,qX,qY,qZ,and_self,dI,i64_in,and_true,true_and,rA,rB,rC,rD]
   all_goals first | exact ⟨.refl _, .refl _⟩ | exact .refl _
  ·have d1 : decide ((n : Int) < 31) = true := decide_eq_true (by omega)
   have d2 : decide (((v % 4 : Nat) : Int) < 2) = false := decide_eq_false (by omega)
   repeat' (first|(with_reducible first|apply qA|apply qB|apply qC|apply qD|apply qE|apply qF)|(refine qL rfl (WF.of ?_) ?_; first|rfl|skip)|(refine DW.regL rfl (WF.of ?_) ?_; first|rfl|skip)|(simp (disch:=omega) only [go_sem, simprocAttr, qN, qO, qP, qQ, d1, t4, d2])|exact qM rfl rfl rfl|(refine qG rfl ?_)|(refine qH rfl ?_)|(refine qI rfl ?_ ?_<;>intro hc<;>(try simp only [go_sem] at hc))|(refine qJ ?_ ?_<;>intro hc<;>(try simp only [hc])<;>(try simp only [go_sem] at hc)))
   refine Ent.to ?_ ?_ <;> simp (disch:=omega) only [qR,qS,qT,qU,get,Nat.reduceEqDiff,↓reduceIte,qV,qW,qX,qY,qZ,and_self,dI,i64_in,and_true,true_and,rA,rB,rC,rD]
   all_goals first | exact ⟨.refl _, .refl _⟩ | exact .refl _
  ·have d1 : decide ((n : Int) < 31) = true := decide_eq_true (by omega)
   have d2 : decide (((v % 4 : Nat) : Int) < 2) = false := decide_eq_false (by omega)
   repeat' (first|(with_reducible first|apply qA|apply qB|apply qC|apply qD|apply qE|apply qF)|(refine qL rfl (WF.of ?_) ?_; first|rfl|skip)|(refine DW.regL rfl (WF.of ?_) ?_; first|rfl|skip)|(simp (disch:=omega) only [go_sem, simprocAttr, qN, qO, qP, qQ, d1, t4, d2])|exact qM rfl rfl rfl|(refine qG rfl ?_)|(refine qH rfl ?_)|(refine qI rfl ?_ ?_<;>intro hc<;>(try simp only [go_sem] at hc))|(refine qJ ?_ ?_<;>intro hc<;>(try simp only [hc])<;>(try simp only [go_sem] at hc)))
   refine Ent.to ?_ ?_ <;> simp (disch:=omega) only [qR,qS,qT,qU,get,Nat.reduceEqDiff,↓reduceIte,qV,qW,qX,qY,qZ,and_self,dI,i64_in,and_true,true_and,rA,rB,rC,rD]
   all_goals first | exact ⟨.refl _, .refl _⟩ | exact .refl _
 refine DW.cut ⟨158, [(15, dI v), (7, .box 7 0), (6, dI n), (5, .c (.sl lab 1 (rows e1 l))), (4, dI W), (3, dI L), (2, dI y), (1, dI x)], [(7, .box (bxL b))]⟩ ?_ ?_
 ·rcases hcase with h | ⟨h, h2, h3⟩ | ⟨h, h2, h3⟩ | ⟨h, h2⟩
  ·have d1 : decide ((n : Int) < 31) = false := decide_eq_false (by omega)
   repeat' (first|(with_reducible first|apply qA|apply qB|apply qC|apply qD|apply qE|apply qF)|(refine qL rfl (WF.of ?_) ?_; first|rfl|skip)|(refine DW.regL rfl (WF.of ?_) ?_; first|rfl|skip)|(simp (disch:=omega) only [go_sem, simprocAttr, qN, qO, qP, qQ, d1])|exact qM rfl rfl rfl|(refine qG rfl ?_)|(refine qH rfl ?_)|(refine qI rfl ?_ ?_<;>intro hc<;>(try simp only [go_sem] at hc))|(refine qJ ?_ ?_<;>intro hc<;>(try simp only [hc])<;>(try simp only [go_sem] at hc)))
   refine Ent.to ?_ ?_ <;> simp (disch:=omega) only [qR,qS,qT,qU,get,Nat.reduceEqDiff,↓reduceIte,qV,qW,qX,qY,qZ,and_self,dI,i64_in,and_true,true_and,rA,rB,rC,rD]
   all_goals first | exact ⟨.refl _, .refl _⟩ | exact .refl _
  ·have d1 : decide ((n : Int) < 31) = true := decide_eq_true (by omega)
   have d2 : (((v % 4 : Nat) : Int) == 2) = false := by rw [e2, decide_eq_false_iff_not]; omega
   repeat' (first|(with_reducible first|apply qA|apply qB|apply qC|apply qD|apply qE|apply qF)|(refine qL rfl (WF.of ?_) ?_; first|rfl|skip)|(refine DW.regL rfl (WF.of ?_) ?_; first|rfl|skip)|(simp (disch:=omega) only [go_sem, simprocAttr, qN, qO, qP, qQ, d1, t4, d2])|exact qM rfl rfl rfl|(refine qG rfl ?_)|(refine qH rfl ?_)|(refine qI rfl ?_ ?_<;>intro hc<;>(try simp only [go_sem] at hc))|(refine qJ ?_ ?_<;>intro hc<;>(try simp only [hc])<;>(try simp only [go_sem] at hc)))
   refine Ent.to ?_ ?_ <;> simp (disch:=omega) only [qR,qS,qT,qU,get,Nat.reduceEqDiff,↓reduceIte,qV,qW,qX,qY,qZ,and_self,dI,i64_in,and_true,true_and,rA,rB,rC,rD]
   all_goals first | exact ⟨.refl _, .refl _⟩ | exact .refl _
  ·have d1 : decide ((n : Int) < 31) = true := decide_eq_true (by omega)
   have d2 : (((v % 4 : Nat) : Int) == 2) = true := by rw [e2, decide_eq_true_eq]; omega
   have d3 : decide (1 < (W : Int)) = false := decide_eq_false (by omega)
   repeat' (first|(with_reducible first|apply qA|apply qB|apply qC|apply qD|apply qE|apply qF)|(refine qL rfl (WF.of ?_) ?_; first|rfl|skip)|(refine DW.regL rfl (WF.of ?_) ?_; first|rfl|skip)|(simp (disch:=omega) only [go_sem, simprocAttr, qN, qO, qP, qQ, d1, t4, d2, d3])|exact qM rfl rfl rfl|(refine qG rfl ?_)|(refine qH rfl ?_)|(refine qI rfl ?_ ?_<;>intro hc<;>(try simp only [go_sem] at hc))|(refine qJ ?_ ?_<;>intro hc<;>(try simp only [hc])<;>(try simp only [go_sem] at hc)))
   refine Ent.to ?_ ?_ <;> simp (disch:=omega) only [qR,qS,qT,qU,get,Nat.reduceEqDiff,↓reduceIte,qV,qW,qX,qY,qZ,and_self,dI,i64_in,and_true,true_and,rA,rB,rC,rD]
   all_goals first | exact ⟨.refl _, .refl _⟩ | exact .refl _
  ·have d1 : decide ((n : Int) < 31) = true := decide_eq_true (by omega)
   have d2 : (((v % 4 : Nat) : Int) == 2) = false := by rw [e2, decide_eq_false_iff_not]; omega
   repeat' (first|(with_reducible first|apply qA|apply qB|apply qC|apply qD|apply qE|apply qF)|(refine qL rfl (WF.of ?_) ?_; first|rfl|skip)|(refine DW.regL rfl (WF.of ?_) ?_; first|rfl|skip)|(simp (disch:=omega) only [go_sem, simprocAttr, qN, qO, qP, qQ, d1, t4, d2])|exact qM rfl rfl rfl|(refine qG rfl ?_)|(refine qH rfl ?_)|(refine qI rfl ?_ ?_<;>intro hc<;>(try simp only [go_sem] at hc))|(refine qJ ?_ ?_<;>intro hc<;>(try simp only [hc])<;>(try simp only [go_sem] at hc)))
   refine Ent.to ?_ ?_ <;> simp (disch:=omega) only [qR,qS,qT,qU,get,Nat.reduceEqDiff,↓reduceIte,qV,qW,qX,qY,qZ,and_self,dI,i64_in,and_true,true_and,rA,rB,rC,rD]
   all_goals first | exact ⟨.refl _, .refl _⟩ | exact .refl _
 refine DW.seq (DW.dreg rfl (WF.of rfl) ?_)
 simp (disch:=omega) only [go_sem,simprocAttr,qN,qO,qP,qQ]
 refine DW.cut ⟨158, [(19, dI u), (18, dI s), (15, dI v), (4, dI W), (3, dI L), (2, dI y), (1, dI x)], []⟩ ?_ ?_
 ·cases T with
  | true =>
   obtain ⟨rfl, rfl⟩ := hTs rfl
   repeat' (first|(with_reducible first|apply qA|apply qB|apply qC|apply qD|apply qE|apply qF)|(refine qL rfl (WF.of ?_) ?_; first|rfl|skip)|(refine DW.regL rfl (WF.of ?_) ?_; first|rfl|skip)|(simp (disch:=omega) only [go_sem, simprocAttr, qN, qO, qP, qQ, t2, eT])|exact qM rfl rfl rfl|(refine qG rfl ?_)|(refine qH rfl ?_)|(refine qI rfl ?_ ?_<;>intro hc<;>(try simp only [go_sem] at hc))|(refine qJ ?_ ?_<;>intro hc<;>(try simp only [hc])<;>(try simp only [go_sem] at hc)))
   refine Ent.to ?_ ?_ <;> simp (disch:=omega) only [qR,qS,qT,qU,get,Nat.reduceEqDiff,↓reduceIte,qV,qW,qX,qY,qZ,and_self,dI,i64_in,and_true,true_and,rA,rB,rC,rD,ea,ec]
   all_goals first | exact ⟨.refl _, .refl _⟩ | exact .refl _
  | false =>
   obtain ⟨rfl, rfl⟩ := hTf rfl
   repeat' (first|(with_reducible first|apply qA|apply qB|apply qC|apply qD|apply qE|apply qF)|(refine qL rfl (WF.of ?_) ?_; first|rfl|skip)|(refine DW.regL rfl (WF.of ?_) ?_; first|rfl|skip)|(simp (disch:=omega) only [go_sem, simprocAttr, qN, qO, qP, qQ, t2, eT])|exact qM rfl rfl rfl|(refine qG rfl ?_)|(refine qH rfl ?_)|(refine qI rfl ?_ ?_<;>intro hc<;>(try simp only [go_sem] at hc))|(refine qJ ?_ ?_<;>intro hc<;>(try simp only [hc])<;>(try simp only [go_sem] at hc)))
   refine Ent.to ?_ ?_ <;> simp (disch:=omega) only [qR,qS,qT,qU,get,Nat.reduceEqDiff,↓reduceIte,qV,qW,qX,qY,qZ,and_self,dI,i64_in,and_true,true_and,rA,rB,rC,rD,ea,ec]
   all_goals first | exact ⟨.refl _, .refl _⟩ | exact .refl _
 repeat' (first|(with_reducible first|apply qA|apply qB|apply qC|apply qD|apply qE|apply qF)|(refine qL rfl (WF.of ?_) ?_; first|rfl|skip)|(refine DW.regL rfl (WF.of ?_) ?_; first|rfl|skip)|(simp (disch:=omega) only [go_sem, simprocAttr, qN, qO, qP, qQ])|exact qM rfl rfl rfl|(refine qG rfl ?_)|(refine qH rfl ?_)|(refine qI rfl ?_ ?_<;>intro hc<;>(try simp only [go_sem] at hc))|(refine qJ ?_ ?_<;>intro hc<;>(try simp only [hc])<;>(try simp only [go_sem] at hc)))
 have hqL : L / s ≤ 20 := by
  have : L / s < 21 := (Nat.div_lt_iff_lt_mul (by omega)).2 (by omega)
  omega
 have hqW : W / u ≤ 20 := by
  have : W / u < 21 := (Nat.div_lt_iff_lt_mul (by omega)).2 (by omega)
  omega
 refine DW.loop (ι := { i : Nat // i ≤ L / s }) (fun i => ⟨158, [(21, dI i.1), (20, .own 123), (19, dI u), (18, dI s), (15, dI v), (4, dI W), (3, dI L), (2, dI y), (1, dI x)], [(123, .row 3 (rowC (rows eP (grdF T s u x y W i.1))))]⟩) (fun i => L / s - i.1) ⟨0, Nat.zero_le _⟩ ?_ ?_
 ·refine Ent.to ?_ ?_ <;> simp (disch:=omega) only [qR,qS,qT,qU,get,Nat.reduceEqDiff,↓reduceIte,qV,qW,qX,qY,qZ,and_self,dI,i64_in,and_true,true_and,rA,rB,rC,rD,grdF,List.range_zero,List.flatMap_nil]
  all_goals first | exact ⟨.refl _, .refl _⟩ | exact .refl _
 rintro ⟨i, hi⟩
 dsimp only
 have hle := @Nat.le_div_iff_mul_le s (i + 1) L (by omega)
 have hmul : ((i : Int) + 1) * (s : Int) = (((i + 1) * s : Nat) : Int) := by rw [Int.natCast_mul, Int.natCast_add]; rfl
 have hmi : (i : Int) * (s : Int) = ((i * s : Nat) : Int) := (Int.natCast_mul i s).symm
 have hb1 : (i + 1) * s ≤ 21 * 100 := Nat.mul_le_mul (by omega) (by omega)
 have hsm : (i + 1) * s = i * s + s := Nat.succ_mul i s
 have hglen := grdF_len T s u x y W i
 have hgm : i * (W / u) ≤ 20 * 20 := Nat.mul_le_mul (by omega) hqW
 have hgs := grdF_succ T s u x y W i
 have hxi : (x : Int) + ((i * s : Nat) : Int) = ((x + i * s : Nat) : Int) := (Int.natCast_add _ _).symm
 by_cases hc : (i + 1) * s ≤ L
 ·have hd : decide ((((i + 1) * s : Nat) : Int) ≤ (L : Int)) = true := decide_eq_true (by omega)
  have hilt : i < L / s := by have := hle.2 hc; omega
  have hcs := fun k => colF_succ T s u x y i k
  have hcz : colF T s u x y i 0 = [] := rfl
  generalize (i + 1) * s = Q1 at *
  generalize i * s = Q2 at *
  generalize grdF T s u x y W i = A at *
  repeat' (first|(with_reducible first|apply qA|apply qB|apply qC|apply qD|apply qE|apply qF)|(refine qL rfl (WF.of ?_) ?_; first|rfl|skip)|(refine DW.regL rfl (WF.of ?_) ?_; first|rfl|skip)|(simp (disch:=omega) only [go_sem, simprocAttr, qN, qO, qP, qQ, hmul, hd])|exact qM rfl rfl rfl|(refine qG rfl ?_)|(refine qH rfl ?_)|(refine qI rfl ?_ ?_<;>intro hc<;>(try simp only [go_sem] at hc))|(refine qJ ?_ ?_<;>intro hc<;>(try simp only [hc])<;>(try simp only [go_sem] at hc)))
  refine DW.loop (ι := { k : Nat // k ≤ W / u }) (fun k => ⟨158, [(22, dI k.1), (21, dI i), (20, .own 123), (19, dI u), (18, dI s), (15, dI v), (4, dI W), (3, dI L), (2, dI y), (1, dI x)], [(123, .row 3 (rowC (rows eP (A ++ colF T s u x y i k.1))))]⟩) (fun k => W / u - k.1) ⟨0, Nat.zero_le _⟩ ?_ ?_
  ·refine Ent.to ?_ ?_ <;> simp (disch:=omega) only [qR,qS,qT,qU,get,Nat.reduceEqDiff,↓reduceIte,qV,qW,qX,qY,qZ,and_self,dI,i64_in,and_true,true_and,rA,rB,rC,rD,hcz,List.append_nil]
   all_goals first | exact ⟨.refl _, .refl _⟩ | exact .refl _
  rintro ⟨k, hk⟩
  dsimp only
  have hle2 := @Nat.le_div_iff_mul_le u (k + 1) W (by omega)
  have hmul2 : ((k : Int) + 1) * (u : Int) = (((k + 1) * u : Nat) : Int) := by rw [Int.natCast_mul, Int.natCast_add]; rfl
  have hmk : (k : Int) * (u : Int) = ((k * u : Nat) : Int) := (Int.natCast_mul k u).symm
  have hb2 : (k + 1) * u ≤ 21 * 100 := Nat.mul_le_mul (by omega) (by omega)
  have hsm2 : (k + 1) * u = k * u + u := Nat.succ_mul k u
  have hyk : (y : Int) + ((k * u : Nat) : Int) = ((y + k * u : Nat) : Int) := (Int.natCast_add _ _).symm
  by_cases hc2 : (k + 1) * u ≤ W
  ·have hd2 : decide ((((k + 1) * u : Nat) : Int) ≤ (W : Int)) = true := decide_eq_true (by omega)
   have hklt : k < W / u := by have := hle2.2 hc2; omega
   have hcl : (colF T s u x y i k).length = k := by simp [colF]
   have hal : (A ++ colF T s u x y i k).length ≤ 500 := by rw [List.length_append, hcl]; omega
   have hcs := hcs k
   have hsn := rowC_snocP (A ++ colF T s u x y i k) ⟨((x + Q2 : Nat) : Int), ((y + k * u : Nat) : Int), T⟩
   rw [List.append_assoc, ← hcs] at hsn
   dsimp only at hsn
   generalize (k + 1) * u = Q3 at *
   generalize k * u = Q4 at *
   generalize A ++ colF T s u x y i k = M at *
   repeat' (first|(with_reducible first|apply qA|apply qB|apply qC|apply qD|apply qE|apply qF)|(refine qL rfl (WF.of ?_) ?_; first|rfl|skip)|(refine DW.regL rfl (WF.of ?_) ?_; first|rfl|skip)|(simp (disch:=omega) only [go_sem, simprocAttr, qN, qO, qP, qQ, hmul2, hd2, hmi, hmk, hxi, hyk, t2, eT, hsn])|exact qM rfl rfl rfl|(refine qG rfl ?_)|(refine qH rfl ?_)|(refine qI rfl ?_ ?_<;>intro hc<;>(try simp only [go_sem] at hc))|(refine qJ ?_ ?_<;>intro hc<;>(try simp only [hc])<;>(try simp only [go_sem] at hc)))
   refine ⟨⟨k + 1, hklt⟩, ?_, Ent.to ?_ ?_⟩ <;> first | (show _ < _; (try simp only); omega) | (simp (disch:=omega) only [qR,qS,qT,qU,get,Nat.reduceEqDiff,↓reduceIte,qV,qW,qX,qY,qZ,and_self,dI,i64_in,and_true,true_and,rA,rB,rC,rD, hsn])
   all_goals first | exact ⟨.refl _, .refl _⟩ | exact .refl _
  ·have hd2 : decide ((((k + 1) * u : Nat) : Int) ≤ (W : Int)) = false := decide_eq_false (by omega)
   have hke : k = W / u := by
    have : ¬ k + 1 ≤ W / u := fun h => hc2 (hle2.1 h)
    omega
   have hfin : A ++ colF T s u x y i k = grdF T s u x y W (i + 1) := by rw [hgs, hke]
   rw [hfin]
   generalize (k + 1) * u = Q3 at *
   repeat' (first|(with_reducible first|apply qA|apply qB|apply qC|apply qD|apply qE|apply qF)|(refine qL rfl (WF.of ?_) ?_; first|rfl|skip)|(refine DW.regL rfl (WF.of ?_) ?_; first|rfl|skip)|(simp (disch:=omega) only [go_sem, simprocAttr, qN, qO, qP, qQ, hmul2, hd2])|exact qM rfl rfl rfl|(refine qG rfl ?_)|(refine qH rfl ?_)|(refine qI rfl ?_ ?_<;>intro hc<;>(try simp only [go_sem] at hc))|(refine qJ ?_ ?_<;>intro hc<;>(try simp only [hc])<;>(try simp only [go_sem] at hc)))
   refine ⟨⟨i + 1, hilt⟩, ?_, Ent.to ?_ ?_⟩ <;> first | (show _ < _; (try simp only); omega) | (simp (disch:=omega) only [qR,qS,qT,qU,get,Nat.reduceEqDiff,↓reduceIte,qV,qW,qX,qY,qZ,and_self,dI,i64_in,and_true,true_and,rA,rB,rC,rD])
   all_goals first | exact ⟨.refl _, .refl _⟩ | exact .refl _
 ·have hd : decide ((((i + 1) * s : Nat) : Int) ≤ (L : Int)) = false := decide_eq_false (by omega)
  have hie : i = L / s := by
   have : ¬ i + 1 ≤ L / s := fun h => hc (hle.1 h)
   omega
  have hfin : grdF T s u x y W i = grdF T s u x y W (L / s) := by rw [hie]
  rw [hfin]
  generalize (i + 1) * s = Q1 at *
  generalize grdF T s u x y W (L / s) = G at *
  repeat' (first|(with_reducible first|apply qA|apply qB|apply qC|apply qD|apply qE|apply qF)|(refine qL rfl (WF.of ?_) ?_; first|rfl|skip)|(refine DW.regL rfl (WF.of ?_) ?_; first|rfl|skip)|(simp (disch:=omega) only [go_sem, simprocAttr, qN, qO, qP, qQ, hmul, hd])|exact qM rfl rfl rfl|(refine qG rfl ?_)|(refine qH rfl ?_)|(refine qI rfl ?_ ?_<;>intro hc<;>(try simp only [go_sem] at hc))|(refine qJ ?_ ?_<;>intro hc<;>(try simp only [hc])<;>(try simp only [go_sem] at hc)))
  refine retS_row ?_ ?_ (saw_row 123 G) <;> rfl
theorem sawLen (b : PBx) (hb : b.ok) (l : List Nat) (hl : ∀ v ∈ l, v < 256) (f n x y L W : Nat) (h1 : L ≤ 200) (h2 : W ≤ 200) : (sawF (bLg b) (bWd b) l f n x y L W).length ≤ 1000 := by
 have q1 := hb.lg
 have q2 := hb.wd
 have q3 : 10 ≤ bLg b := by show 10 ≤ b.lg.toNat; omega
 have q4 : 10 ≤ bWd b := by show 10 ≤ b.wd.toNat; omega
 have h := (saw_ok (b := b) (a := bLg b) (c := bWd b) (by omega) (by omega) (by show b.lg = ((b.lg.toNat : Nat) : Int); omega) (by show b.wd = ((b.wd.toNat : Nat) : Int); omega) hl f n x y L W).1
 have a1 := mst_area (a := bLg b) (c := bWd b) (L + W + 1) L W (by omega)
 have a2 := rch_le (bLg b) (bWd b) L
 have a3 := rch_le (bLg b) (bWd b) W
 have a4 : rchF (bLg b) (bWd b) L * rchF (bLg b) (bWd b) W ≤ 200 * 200 := Nat.mul_le_mul (by omega) (by omega)
 have a5 : 10 * 10 ≤ bLg b * bWd b := Nat.mul_le_mul q3 q4
 have a6 := Nat.mul_le_mul_left (mst (bLg b) (bWd b) L W) a5
 omega
set_option maxHeartbeats 8000000 in
theorem laSaw1 (b : PBx) (hb : b.ok) (lab : Bool) (l : List Nat) (hm : l.length ≤ maxLen) (hl : ∀ v ∈ l, v < 256) (f : Nat) (ih : SawC b lab l f) : SawC b lab l (f + 1) := by
 intro n x y L W hn0 hn hx hy k
 have hpw : (n + 1) * 2 ^ (f + 1) = (2 * n + 2) * 2 ^ f := by rw [Nat.pow_succ, Nat.mul_comm (2 ^ f) 2, ← Nat.mul_assoc]; congr 1; omega
 rw [hpw] at hn0
 rw [sawF]
 have hby := laByte lab l hm hl n
 have hv := byN_lt hl n
 by_cases h1 : (n < 31 ∧ byN l n % 4 < 2) ∧ 1 < L
 ·rw [if_pos h1]
  obtain ⟨⟨h2, h3⟩, h4⟩ := h1
  have hcb := cutN_b hv h4
  obtain ⟨t, ht⟩ : ∃ t, cutN (byN l n) L = t := ⟨_, rfl⟩
  rw [ht] at hcb ⊢
  have ihA := ih (2 * n + 1) x y t W (by have e : 2 * n + 1 + 1 = 2 * n + 2 := rfl; rw [e]; exact hn0) (by omega) (by omega) (by omega) 53
  have ihB := sawCl (ih (2 * n + 2) (x + t) y (L - t) W (by have e := Nat.mul_le_mul_right (2 ^ f) (show 2 * n + 2 ≤ 2 * n + 2 + 1 by omega); omega) (by omega) (by omega) (by omega) 67)
  have hl1 := sawLen b hb l hl f (2 * n + 1) x y t W (by omega) (by omega)
  have hl2 := sawLen b hb l hl f (2 * n + 2) (x + t) y (L - t) W (by omega) (by omega)
  unfold cutN at ht
  generalize byN l n = v at *
  have q1 : Int.tdiv (v : Int) 4 = ((v / 4 : Nat) : Int) := rfl
  have q2 : (L : Int) - 1 = ((L - 1 : Nat) : Int) := by omega
  have q3 : ((v / 4 : Nat) : Int) * ((L - 1 : Nat) : Int) = ((v / 4 * (L - 1) : Nat) : Int) := (Int.natCast_mul _ _).symm
  have q5 : v / 4 * (L - 1) ≤ 63 * 200 := Nat.mul_le_mul (by omega) (by omega)
  have q4 : Int.tdiv ((v / 4 * (L - 1) : Nat) : Int) 64 = ((v / 4 * (L - 1) / 64 : Nat) : Int) := rfl
  have q6 : (1 : Int) + ((v / 4 * (L - 1) / 64 : Nat) : Int) = (t : Int) := by omega
  have q7 : (L : Int) - (t : Int) = ((L - t : Nat) : Int) := by omega
  have q8 : 2 * (n : Int) + 1 = ((2 * n + 1 : Nat) : Int) := by omega
  have q9 : 2 * (n : Int) + 2 = ((2 * n + 2 : Nat) : Int) := by omega
  have qx : (x : Int) + (t : Int) = ((x + t : Nat) : Int) := (Int.natCast_add _ _).symm
  have t4 : Int.tmod (v : Int) 4 = ((v % 4 : Nat) : Int) := rfl
  have d1 : decide ((n : Int) < 31) = true := decide_eq_true (by omega)
  have d2 : decide (((v % 4 : Nat) : Int) < 2) = true := decide_eq_true (by omega)
  have d3 : decide (1 < (L : Int)) = true := decide_eq_true (by omega)
  generalize v / 4 * (L - 1) = z at *
  generalize sawF (bLg b) (bWd b) l f (2 * n + 1) x y t W = A at *
  generalize sawF (bLg b) (bWd b) l f (2 * n + 2) (x + t) y (L - t) W = B at *
  refine DCall.rename (k0 := 53) ?_ k
  refine DCall.of Try.func51 sf51 hb51 (Nat.le_of_ble_eq_true rfl) okRes_row ?_; simp only [s51, idxs, Nat.reduceAdd]
  repeat' (first|(with_reducible first|apply qA|apply qB|apply qC|apply qD|apply qE|apply qF)|(refine qL rfl (WF.of ?_) ?_; first|rfl|skip)|(refine DW.regL rfl (WF.of ?_) ?_; first|rfl|skip)|(simp (disch:=omega) only [go_sem, simprocAttr, qN, qO, qP, qQ, d1, t4, d2, d3, q1, q2, q3, q4, q6, q7, q8, q9, qx])|exact qM rfl rfl rfl|(refine qG rfl ?_)|(refine qK (hby) (by decide) ?_)|(refine qH rfl ?_)|(refine qI rfl ?_ ?_<;>intro hc<;>(try simp only [go_sem] at hc))|(refine qJ ?_ ?_<;>intro hc<;>(try simp only [hc])<;>(try simp only [go_sem] at hc)))
  (refine call_r (ihA) (by decide) (by first | rfl | simp (disch:=omega) only [go_sem,simprocAttr,qN,qO,qP,qQ]) (by first | rfl | simp (disch:=omega) only [go_sem,simprocAttr,qN,qO,qP,qQ]) ?_; simp (disch:=omega) only [go_sem,simprocAttr,qN,qO,qP,qQ])
  repeat' (first|(with_reducible first|apply qA|apply qB|apply qC|apply qD|apply qE|apply qF)|(refine qL rfl (WF.of ?_) ?_; first|rfl|skip)|(refine DW.regL rfl (WF.of ?_) ?_; first|rfl|skip)|(simp (disch:=omega) only [go_sem, simprocAttr, qN, qO, qP, qQ, d1, t4, d2, d3, q1, q2, q3, q4, q6, q7, q8, q9, qx])|exact qM rfl rfl rfl|(refine qG rfl ?_)|(refine qK (ihB) (by decide) ?_)|(refine qH rfl ?_)|(refine qI rfl ?_ ?_<;>intro hc<;>(try simp only [go_sem] at hc))|(refine qJ ?_ ?_<;>intro hc<;>(try simp only [hc])<;>(try simp only [go_sem] at hc)))
  refine retS_row ?_ ?_ (saw_row 0 (A ++ B)) <;> rfl
 ·rw [if_neg h1]
  by_cases h5 : (n < 31 ∧ byN l n % 4 = 2) ∧ 1 < W
  ·rw [if_pos h5]
   obtain ⟨⟨h2, h3⟩, h4⟩ := h5
   have hcb := cutN_b hv h4
   obtain ⟨t, ht⟩ : ∃ t, cutN (byN l n) W = t := ⟨_, rfl⟩
   rw [ht] at hcb ⊢
   have ihA := ih (2 * n + 1) x y L t (by have e : 2 * n + 1 + 1 = 2 * n + 2 := rfl; rw [e]; exact hn0) (by omega) (by omega) (by omega) 96
   have ihB := sawCl (ih (2 * n + 2) x (y + t) L (W - t) (by have e := Nat.mul_le_mul_right (2 ^ f) (show 2 * n + 2 ≤ 2 * n + 2 + 1 by omega); omega) (by omega) (by omega) (by omega) 110)
   have hl1 := sawLen b hb l hl f (2 * n + 1) x y L t (by omega) (by omega)
   have hl2 := sawLen b hb l hl f (2 * n + 2) x (y + t) L (W - t) (by omega) (by omega)
   unfold cutN at ht
   generalize byN l n = v at *
   have q1 : Int.tdiv (v : Int) 4 = ((v / 4 : Nat) : Int) := rfl
   have q2 : (W : Int) - 1 = ((W - 1 : Nat) : Int) := by omega
   have q3 : ((v / 4 : Nat) : Int) * ((W - 1 : Nat) : Int) = ((v / 4 * (W - 1) : Nat) : Int) := (Int.natCast_mul _ _).symm
   have q5 : v / 4 * (W - 1) ≤ 63 * 200 := Nat.mul_le_mul (by omega) (by omega)
   have q4 : Int.tdiv ((v / 4 * (W - 1) : Nat) : Int) 64 = ((v / 4 * (W - 1) / 64 : Nat) : Int) := rfl
   have q6 : (1 : Int) + ((v / 4 * (W - 1) / 64 : Nat) : Int) = (t : Int) := by omega
   have q7 : (W : Int) - (t : Int) = ((W - t : Nat) : Int) := by omega
   have q8 : 2 * (n : Int) + 1 = ((2 * n + 1 : Nat) : Int) := by omega
   have q9 : 2 * (n : Int) + 2 = ((2 * n + 2 : Nat) : Int) := by omega
   have qx : (y : Int) + (t : Int) = ((y + t : Nat) : Int) := (Int.natCast_add _ _).symm
   have t4 : Int.tmod (v : Int) 4 = ((v % 4 : Nat) : Int) := rfl
   have d1 : decide ((n : Int) < 31) = true := decide_eq_true (by omega)
   have d2 : decide (((v % 4 : Nat) : Int) < 2) = false := decide_eq_false (by omega)
   have d4 : (((v % 4 : Nat) : Int) == 2) = true := by rw [beq_iff_eq]; omega
   have d3 : decide (1 < (W : Int)) = true := decide_eq_true (by omega)
   generalize v / 4 * (W - 1) = z at *
   generalize sawF (bLg b) (bWd b) l f (2 * n + 1) x y L t = A at *
   generalize sawF (bLg b) (bWd b) l f (2 * n + 2) x (y + t) L (W - t) = B at *
   refine DCall.rename (k0 := 96) ?_ k
   refine DCall.of Try.func51 sf51 hb51 (Nat.le_of_ble_eq_true rfl) okRes_row ?_; simp only [s51, idxs, Nat.reduceAdd]
   repeat' (first|(with_reducible first|apply qA|apply qB|apply qC|apply qD|apply qE|apply qF)|(refine qL rfl (WF.of ?_) ?_; first|rfl|skip)|(refine DW.regL rfl (WF.of ?_) ?_; first|rfl|skip)|(simp (disch:=omega) only [go_sem, simprocAttr, qN, qO, qP, qQ, d1, t4, d2, d4, d3, q1, q2, q3, q4, q6, q7, q8, q9, qx])|exact qM rfl rfl rfl|(refine qG rfl ?_)|(refine qK (hby) (by decide) ?_)|(refine qH rfl ?_)|(refine qI rfl ?_ ?_<;>intro hc<;>(try simp only [go_sem] at hc))|(refine qJ ?_ ?_<;>intro hc<;>(try simp only [hc])<;>(try simp only [go_sem] at hc)))
   (refine call_r (ihA) (by decide) (by first | rfl | simp (disch:=omega) only [go_sem,simprocAttr,qN,qO,qP,qQ]) (by first | rfl | simp (disch:=omega) only [go_sem,simprocAttr,qN,qO,qP,qQ]) ?_; simp (disch:=omega) only [go_sem,simprocAttr,qN,qO,qP,qQ])
   repeat' (first|(with_reducible first|apply qA|apply qB|apply qC|apply qD|apply qE|apply qF)|(refine qL rfl (WF.of ?_) ?_; first|rfl|skip)|(refine DW.regL rfl (WF.of ?_) ?_; first|rfl|skip)|(simp (disch:=omega) only [go_sem, simprocAttr, qN, qO, qP, qQ, d1, t4, d2, d4, d3, q1, q2, q3, q4, q6, q7, q8, q9, qx])|exact qM rfl rfl rfl|(refine qG rfl ?_)|(refine qK (ihB) (by decide) ?_)|(refine qH rfl ?_)|(refine qI rfl ?_ ?_<;>intro hc<;>(try simp only [go_sem] at hc))|(refine qJ ?_ ?_<;>intro hc<;>(try simp only [hc])<;>(try simp only [go_sem] at hc)))
   refine retS_row ?_ ?_ (saw_row 0 (A ++ B)) <;> rfl
  ·rw [if_neg h5]
   exact laLeaf b hb lab l hm hl n x y L W hn hx hy h1 h5 k
theorem laSaw (b : PBx) (hb : b.ok) (lab : Bool) (l : List Nat) (hm : l.length ≤ maxLen) (hl : ∀ v ∈ l, v < 256) : ∀ f, SawC b lab l f
 | 0 => fun n x y L W hn0 hn hx hy k => by
  rw [sawF]
  exact laLeaf b hb lab l hm hl n x y L W hn hx hy (by omega) (by omega) k
 | f + 1 => laSaw1 b hb lab l hm hl f (laSaw b hb lab l hm hl f)
end Go.Dw.Seat
end
section
set_option linter.unusedSimpArgs false
set_option maxRecDepth 100000
namespace Go.Dw.Seat
open Go Go.Dw Go.Proofs Go.IntWalk
abbrev sawC (p : PBs) (b : PBx) (RX RY : List Int) (lm : Nat) : C := .ro false [.v (.int .i64 p.lg), .v (.int .i64 p.wd), .v (.int .i64 p.hi), .v (.int .i64 p.ov), .v (.int .i64 p.top), .v (.int .i64 p.load), .v (.int .i64 b.lg), .v (.int .i64 b.wd), .v (.int .i64 b.hi), .v (.int .i64 b.wl), .v (.int .i64 b.wh), .v (.int .i64 b.sl), .v (.int .i64 b.sh), .sl false 1 (rows eI RX), .sl false 1 (rows eI RY), .v (.map (some lm))] 0
abbrev sawD (p : PBs) (b : PBx) (RX RY : List Int) (lm : Nat) : D := .c (sawC p b RX RY lm)
abbrev rctD (X Y : Nat) : D := .agg [dI X, dI Y]
def fitT (a c X Y : Nat) : Bool × Bool := if a ≤ X ∧ c ≤ Y then (false, true) else if c ≤ X ∧ a ≤ Y then (true, true) else (false, false)
theorem fitT_snd (a c X Y : Nat) : (fitT a c X Y).2 = fitB a c X Y := by
 unfold fitT fitB
 by_cases h1 : a ≤ X ∧ c ≤ Y
 ·rw [if_pos h1, decide_eq_true h1.1, decide_eq_true h1.2]; rfl
 ·rw [if_neg h1]
  by_cases h2 : c ≤ X ∧ a ≤ Y
  ·rw [if_pos h2, decide_eq_true h2.1, decide_eq_true h2.2]; simp
  ·rw [if_neg h2]
   symm
   rw [Bool.or_eq_false_iff, Bool.and_eq_false_iff, Bool.and_eq_false_iff, decide_eq_false_iff_not, decide_eq_false_iff_not, decide_eq_false_iff_not, decide_eq_false_iff_not]
   omega
set_option maxHeartbeats 4000000 in
theorem plFits (p : PBs) (b : PBx) (hb : b.ok) (RX RY : List Int) (lm X Y : Nat) : DCall Try.prog 97 [sawD p b RX RY lm, rctD X Y] [] (.tup [bD (fitT (bLg b) (bWd b) X Y).1, bD (fitT (bLg b) (bWd b) X Y).2]) [] := by
 have hbl := hb.lg
 have hbw := hb.wd
 have ea : b.lg = ((bLg b : Nat) : Int) := (Int.toNat_of_nonneg (by omega)).symm
 have ec : b.wd = ((bWd b : Nat) : Int) := (Int.toNat_of_nonneg (by omega)).symm
 have hs := plSizes b 18
 have hf : fitT (bLg b) (bWd b) X Y = if (decide (b.lg ≤ (X : Int)) && decide (b.wd ≤ (Y : Int))) then (false, true) else if (decide (b.wd ≤ (X : Int)) && decide (b.lg ≤ (Y : Int))) then (true, true) else (false, false) := by
  rw [ea, ec]
  unfold fitT
  simp only [Bool.and_eq_true, decide_eq_true_eq, Int.ofNat_le]
 rw [hf]
 obtain ⟨u1, e1⟩ : ∃ u, decide (b.lg ≤ (X : Int)) = u := ⟨_, rfl⟩
 obtain ⟨u2, e2⟩ : ∃ u, decide (b.wd ≤ (Y : Int)) = u := ⟨_, rfl⟩
 obtain ⟨u3, e3⟩ : ∃ u, decide (b.wd ≤ (X : Int)) = u := ⟨_, rfl⟩
 obtain ⟨u4, e4⟩ : ∃ u, decide (b.lg ≤ (Y : Int)) = u := ⟨_, rfl⟩
 rw [e1, e2, e3, e4]
 refine DCall.of Try.func97 sf97 hb97 (Nat.le_of_ble_eq_true rfl) (okRes_nil fun _ => rfl) ?_; simp only [s97, idxs, Nat.reduceAdd]
 repeat' (first|(with_reducible first|apply qA|apply qB|apply qC|apply qD|apply qE|apply qF)|(simp (disch:=omega) only [go_sem, simprocAttr, qN, qO, qP, qQ, rF, rG])|exact qM rfl rfl rfl|(refine qG rfl ?_)|(refine qH rfl ?_)|(refine qI rfl ?_ ?_<;>intro hc<;>(try simp only [go_sem] at hc))|(refine qJ ?_ ?_<;>intro hc<;>(try simp only [hc])<;>(try simp only [go_sem] at hc)))
 refine DW.loop (ι := { k : Nat // k ≤ 2 ∧ (1 ≤ k → (u1 && u2) = false) ∧ (2 ≤ k → (u3 && u4) = false) }) (fun k => ⟨35, [(10, dI k.1), (9, .agg [bD false, bD true]), (5, bD false), (4, bD false), (3, .box 3 0), (0, sawD p b RX RY lm)], [(3, .box [dI X, dI Y])]⟩) (fun k => 2 - k.1) ⟨0, by decide, by omega, by omega⟩ ?_ ?_
 ·refine Ent.to ?_ ?_ <;> simp (disch:=omega) only [qR,qS,qT,qU,get,Nat.reduceEqDiff,↓reduceIte,qV,qW,qX,qY,qZ,and_self,dI,i64_in,and_true,true_and,rA,rB,rC,rD]
  all_goals first | exact ⟨.refl _, .refl _⟩ | exact .refl _
 rintro ⟨k, hk, h1, h2⟩
 dsimp only
 match k, hk, h1, h2 with
 | 0, _, _, _ =>
  repeat' (first|(with_reducible first|apply qA|apply qB|apply qC|apply qD|apply qE|apply qF)|(simp (disch:=omega) only [go_sem, simprocAttr, qN, qO, qP, qQ, rF, rG])|exact qM rfl rfl rfl|(refine qG rfl ?_)|(refine qH rfl ?_)|(refine qI rfl ?_ ?_<;>intro hc<;>(try simp only [go_sem] at hc))|(refine qJ ?_ ?_<;>intro hc<;>(try simp only [hc])<;>(try simp only [go_sem] at hc)))
  (refine call_r (hs) (by decide) (by first | rfl | simp (disch:=omega) only [go_sem,simprocAttr,qN,qO,qP,qQ]) (by first | rfl | simp (disch:=omega) only [go_sem,simprocAttr,qN,qO,qP,qQ]) ?_; simp (disch:=omega) only [go_sem,simprocAttr,qN,qO,qP,qQ])
  cases u1
  ·repeat' (first|(with_reducible first|apply qA|apply qB|apply qC|apply qD|apply qE|apply qF)|(simp (disch:=omega) only [go_sem, simprocAttr, qN, qO, qP, qQ, findL, keyEq, keysOK, KK.is, List.all_nil, List.all_cons, lookIn, commaD, rF, rG, e1])|exact qM rfl rfl rfl|(refine qG rfl ?_)|(refine qH rfl ?_)|(refine qI rfl ?_ ?_<;>intro hc<;>(try simp only [go_sem] at hc))|(refine qJ ?_ ?_<;>intro hc<;>(try simp only [hc])<;>(try simp only [go_sem] at hc)))
   refine ⟨⟨1, by decide, fun _ => rfl, by omega⟩, ?_, Ent.to ?_ ?_⟩ <;> first | (show _ < _; (try simp only); omega) | (simp (disch:=omega) only [qR,qS,qT,qU,get,Nat.reduceEqDiff,↓reduceIte,qV,qW,qX,qY,qZ,and_self,dI,i64_in,and_true,true_and,rA,rB,rC,rD])
   all_goals first | exact ⟨.refl _, .refl _⟩ | exact .refl _
  cases u2
  ·repeat' (first|(with_reducible first|apply qA|apply qB|apply qC|apply qD|apply qE|apply qF)|(simp (disch:=omega) only [go_sem, simprocAttr, qN, qO, qP, qQ, findL, keyEq, keysOK, KK.is, List.all_nil, List.all_cons, lookIn, commaD, rF, rG, e1, e2])|exact qM rfl rfl rfl|(refine qG rfl ?_)|(refine qH rfl ?_)|(refine qI rfl ?_ ?_<;>intro hc<;>(try simp only [go_sem] at hc))|(refine qJ ?_ ?_<;>intro hc<;>(try simp only [hc])<;>(try simp only [go_sem] at hc)))
   refine ⟨⟨1, by decide, fun _ => rfl, by omega⟩, ?_, Ent.to ?_ ?_⟩ <;> first | (show _ < _; (try simp only); omega) | (simp (disch:=omega) only [qR,qS,qT,qU,get,Nat.reduceEqDiff,↓reduceIte,qV,qW,qX,qY,qZ,and_self,dI,i64_in,and_true,true_and,rA,rB,rC,rD])
   all_goals first | exact ⟨.refl _, .refl _⟩ | exact .refl _
  ·repeat' (first|(with_reducible first|apply qA|apply qB|apply qC|apply qD|apply qE|apply qF)|(simp (disch:=omega) only [go_sem, simprocAttr, qN, qO, qP, qQ, findL, keyEq, keysOK, KK.is, List.all_nil, List.all_cons, lookIn, commaD, rF, rG, e1, e2])|exact qM rfl rfl rfl|(refine qG rfl ?_)|(refine qH rfl ?_)|(refine qI rfl ?_ ?_<;>intro hc<;>(try simp only [go_sem] at hc))|(refine qJ ?_ ?_<;>intro hc<;>(try simp only [hc])<;>(try simp only [go_sem] at hc)))
   skip
 | 1, _, h1, _ =>
  have h1 := h1 (Nat.le_refl _)
  rw [if_neg (by rw [h1]; exact Bool.false_ne_true)]
  repeat' (first|(with_reducible first|apply qA|apply qB|apply qC|apply qD|apply qE|apply qF)|(simp (disch:=omega) only [go_sem, simprocAttr, qN, qO, qP, qQ, rF, rG])|exact qM rfl rfl rfl|(refine qG rfl ?_)|(refine qH rfl ?_)|(refine qI rfl ?_ ?_<;>intro hc<;>(try simp only [go_sem] at hc))|(refine qJ ?_ ?_<;>intro hc<;>(try simp only [hc])<;>(try simp only [go_sem] at hc)))
  (refine call_r (hs) (by decide) (by first | rfl | simp (disch:=omega) only [go_sem,simprocAttr,qN,qO,qP,qQ]) (by first | rfl | simp (disch:=omega) only [go_sem,simprocAttr,qN,qO,qP,qQ]) ?_; simp (disch:=omega) only [go_sem,simprocAttr,qN,qO,qP,qQ])
  cases u3
  ·repeat' (first|(with_reducible first|apply qA|apply qB|apply qC|apply qD|apply qE|apply qF)|(simp (disch:=omega) only [go_sem, simprocAttr, qN, qO, qP, qQ, findL, keyEq, keysOK, KK.is, List.all_nil, List.all_cons, lookIn, commaD, rF, rG, e3])|exact qM rfl rfl rfl|(refine qG rfl ?_)|(refine qH rfl ?_)|(refine qI rfl ?_ ?_<;>intro hc<;>(try simp only [go_sem] at hc))|(refine qJ ?_ ?_<;>intro hc<;>(try simp only [hc])<;>(try simp only [go_sem] at hc)))
   refine ⟨⟨2, by decide, fun _ => h1, fun _ => rfl⟩, ?_, Ent.to ?_ ?_⟩ <;> first | (show _ < _; (try simp only); omega) | (simp (disch:=omega) only [qR,qS,qT,qU,get,Nat.reduceEqDiff,↓reduceIte,qV,qW,qX,qY,qZ,and_self,dI,i64_in,and_true,true_and,rA,rB,rC,rD])
   all_goals first | exact ⟨.refl _, .refl _⟩ | exact .refl _
  cases u4
  ·repeat' (first|(with_reducible first|apply qA|apply qB|apply qC|apply qD|apply qE|apply qF)|(simp (disch:=omega) only [go_sem, simprocAttr, qN, qO, qP, qQ, findL, keyEq, keysOK, KK.is, List.all_nil, List.all_cons, lookIn, commaD, rF, rG, e3, e4])|exact qM rfl rfl rfl|(refine qG rfl ?_)|(refine qH rfl ?_)|(refine qI rfl ?_ ?_<;>intro hc<;>(try simp only [go_sem] at hc))|(refine qJ ?_ ?_<;>intro hc<;>(try simp only [hc])<;>(try simp only [go_sem] at hc)))
   refine ⟨⟨2, by decide, fun _ => h1, fun _ => rfl⟩, ?_, Ent.to ?_ ?_⟩ <;> first | (show _ < _; (try simp only); omega) | (simp (disch:=omega) only [qR,qS,qT,qU,get,Nat.reduceEqDiff,↓reduceIte,qV,qW,qX,qY,qZ,and_self,dI,i64_in,and_true,true_and,rA,rB,rC,rD])
   all_goals first | exact ⟨.refl _, .refl _⟩ | exact .refl _
  ·repeat' (first|(with_reducible first|apply qA|apply qB|apply qC|apply qD|apply qE|apply qF)|(simp (disch:=omega) only [go_sem, simprocAttr, qN, qO, qP, qQ, findL, keyEq, keysOK, KK.is, List.all_nil, List.all_cons, lookIn, commaD, rF, rG, e3, e4])|exact qM rfl rfl rfl|(refine qG rfl ?_)|(refine qH rfl ?_)|(refine qI rfl ?_ ?_<;>intro hc<;>(try simp only [go_sem] at hc))|(refine qJ ?_ ?_<;>intro hc<;>(try simp only [hc])<;>(try simp only [go_sem] at hc)))
   skip
 | 2, _, h1, h2 =>
  have h1 := h1 (by omega)
  have h2 := h2 (by omega)
  rw [if_neg (by rw [h1]; exact Bool.false_ne_true), if_neg (by rw [h2]; exact Bool.false_ne_true)]
  repeat' (first|(with_reducible first|apply qA|apply qB|apply qC|apply qD|apply qE|apply qF)|(simp (disch:=omega) only [go_sem, simprocAttr, qN, qO, qP, qQ])|exact qM rfl rfl rfl|(refine qG rfl ?_)|(refine qH rfl ?_)|(refine qI rfl ?_ ?_<;>intro hc<;>(try simp only [go_sem] at hc))|(refine qJ ?_ ?_<;>intro hc<;>(try simp only [hc])<;>(try simp only [go_sem] at hc)))
  skip
abbrev sdI (s : Bool) : Int := if s then 1 else 0
abbrev lnD (l : Ln) : D := .agg [dI (sdI l.1), dI l.2]
theorem plLnParts (X Y : Nat) (l : Ln) (hX : X ≤ 1000) (hY : Y ≤ 1000) (h1 : l.2 ≤ if l.1 then Y else X) : DCall Try.prog 99 [lnD l, rctD X Y] [] (.tup [rctD (oneF X Y l).1 (oneF X Y l).2, rctD (twoF X Y l).1 (twoF X Y l).2]) [] := by
 obtain ⟨s, t⟩ := l
 cases s
 ·have h1 : t ≤ X := h1
  have hw : IntKind.i64.wrap ((X : Int) - (t : Int)) = ((X - t : Nat) : Int) := by rw [IntWalk.i64_in _ (by omega)]; omega
  show DCall Try.prog 99 [.agg [dI 0, dI t], .agg [dI X, dI Y]] [] (.tup [.agg [dI t, dI Y], .agg [dI (X - t : Nat), dI Y]]) []
  refine DCall.of Try.func99 sf99 hb99 (Nat.le_of_ble_eq_true rfl) (okRes_nil fun _ => rfl) ?_; simp only [s99, o99_0, o99_1, o99_2, o99_3, o99_4, o99_5, o99_6, o99_7, o99_8, o99_9, o99_10, o99_11, o99_12, o99_13, o99_14, o99_15, o99_16, o99_17, o99_18, o99_19, o99_20, o99_21, o99_22, o99_23, o99_24, idxs, Nat.reduceAdd]
  repeat' (first|(with_reducible first|apply qA|apply qB|apply qC|apply qD|apply qE|apply qF)|(refine DW.ord rfl (WF.of (by first|rfl|simp (disch:=omega) only [go_sem, simprocAttr, qN, qO, qP, qQ, hw])) ?_ ?_ ?_; rotate_left)|rfl|(with_reducible refine And.intro ?_ ?_)|(simp (disch:=omega) only [go_sem, simprocAttr, qN, qO, qP, qQ, hw])|exact qM rfl rfl rfl|(refine qG rfl ?_)|(refine qH rfl ?_)|(refine qI rfl ?_ ?_<;>intro hc<;>(try simp only [go_sem] at hc))|(refine qJ ?_ ?_<;>intro hc<;>(try simp only [hc])<;>(try simp only [go_sem] at hc)))
  skip
 ·have h1 : t ≤ Y := h1
  have hw : IntKind.i64.wrap ((Y : Int) - (t : Int)) = ((Y - t : Nat) : Int) := by rw [IntWalk.i64_in _ (by omega)]; omega
  show DCall Try.prog 99 [.agg [dI 1, dI t], .agg [dI X, dI Y]] [] (.tup [.agg [dI X, dI t], .agg [dI X, dI (Y - t : Nat)]]) []
  refine DCall.of Try.func99 sf99 hb99 (Nat.le_of_ble_eq_true rfl) (okRes_nil fun _ => rfl) ?_; simp only [s99, o99_0, o99_1, o99_2, o99_3, o99_4, o99_5, o99_6, o99_7, o99_8, o99_9, o99_10, o99_11, o99_12, o99_13, o99_14, o99_15, o99_16, o99_17, o99_18, o99_19, o99_20, o99_21, o99_22, o99_23, o99_24, idxs, Nat.reduceAdd]
  repeat' (first|(with_reducible first|apply qA|apply qB|apply qC|apply qD|apply qE|apply qF)|(refine DW.ord rfl (WF.of (by first|rfl|simp (disch:=omega) only [go_sem, simprocAttr, qN, qO, qP, qQ, hw])) ?_ ?_ ?_; rotate_left)|rfl|(with_reducible refine And.intro ?_ ?_)|(simp (disch:=omega) only [go_sem, simprocAttr, qN, qO, qP, qQ, hw])|exact qM rfl rfl rfl|(refine qG rfl ?_)|(refine qH rfl ?_)|(refine qI rfl ?_ ?_<;>intro hc<;>(try simp only [go_sem] at hc))|(refine qJ ?_ ?_<;>intro hc<;>(try simp only [hc])<;>(try simp only [go_sem] at hc)))
  skip
theorem plLines (p : PBs) (b : PBx) (RX RY : List Int) (lm X Y : Nat) : DCall Try.prog 98 [sawD p b RX RY lm, rctD X Y] [] (.fn (.func 126) [] [.c (.ro false [.v (.int .i64 X), .v (.int .i64 Y)] 0), .c (.ro false [sawC p b RX RY lm] 0)]) [] := by
 refine DCall.of Try.func98 sf98 hb98 (Nat.le_of_ble_eq_true rfl) (okRes_nil fun _ => rfl) ?_; simp only [s98, idxs, Nat.reduceAdd]
 repeat' (first|(with_reducible first|apply qA|apply qB|apply qC|apply qD|apply qE|apply qF)|(simp (disch:=omega) only [go_sem, simprocAttr, qN, qO, qP, qQ])|exact qM rfl rfl rfl|(refine qG rfl ?_)|(refine qH rfl ?_)|(refine qI rfl ?_ ?_<;>intro hc<;>(try simp only [go_sem] at hc))|(refine qJ ?_ ?_<;>intro hc<;>(try simp only [hc])<;>(try simp only [go_sem] at hc)))
 (refine retS_ent (Ent.rel 2 rfl) ?_; simp (disch:=omega) only [go_sem,simprocAttr,qN,qO,qP,qQ])
 (refine retS_ent (Ent.rel 3 rfl) ?_; simp (disch:=omega) only [go_sem,simprocAttr,qN,qO,qP,qQ])
 refine retS_wk rfl ?_ (by simp only [Blk.nb, rowC_nb, D.nb, D.nbs, C.nb, C.nbs, C.nbss, rows_nb eI_nb, Bool.and_true, Bool.not_false, Bool.and_self, bD, dI, iD]); exact .refl _
end Go.Dw.Seat
end
section
set_option linter.unusedSimpArgs false
set_option maxRecDepth 100000
namespace Go.Dw.Seat
open Go Go.Dw Go.Proofs Go.IntWalk
def enL (l : Ln) : List D := [lnD l]
structure Rch (a c : Nat) (R : List Int) (n : Nat) : Prop where
 len : R.length = n + 1
 get : ∀ j, j ≤ n → R[j]? = some ((rchF a c j : Nat) : Int)
theorem rcL_ok (a c n : Nat) : Rch a c (rcL a c n) n := ⟨rcL_len a c n, fun _ h => rcL_get h⟩
def lnsR (a c x t : Nat) : List Nat := (List.range' t (x / 2 - t)).filterMap fun t => if sumB a c (t + 1) then some (t + 1) else none
theorem lnsR_0 (a c x : Nat) : lnsR a c x 0 = lnX a c x := by rw [lnsR, lnX, Nat.sub_zero, List.range_eq_range']
theorem lnsR_end {a c x t : Nat} (h : x < 2 * (t + 1)) : lnsR a c x t = [] := by
 rw [lnsR, show x / 2 - t = 0 by omega]; rfl
theorem lnsR_step {a c x t : Nat} (h : 2 * (t + 1) ≤ x) : lnsR a c x t = if sumB a c (t + 1) then (t + 1) :: lnsR a c x (t + 1) else lnsR a c x (t + 1) := by
 obtain ⟨m, hm⟩ : ∃ m, x / 2 - t = m + 1 := ⟨x / 2 - t - 1, by omega⟩
 rw [lnsR, lnsR, hm, show x / 2 - (t + 1) = m by omega, List.range'_succ, List.filterMap_cons]
 by_cases h1 : sumB a c (t + 1) = true
 ·rw [if_pos h1, if_pos h1]
 ·rw [if_neg h1, if_neg h1]
def lnsT (a c X Y k t : Nat) : List Ln := match k with
 | 0 => (lnsR a c X t).map (fun t => (false, t)) ++ (lnX a c Y).map (fun t => (true, t))
 | 1 => (lnsR a c Y t).map fun t => (true, t)
 | _ => []
theorem rch_sumB {a c t : Nat} : sumB a c (t + 1) = decide (t + 1 = rchF a c (t + 1)) := by
 cases h : sumB a c (t + 1) with
 | true => rw [rch_eq h]; simp
 | false =>
  symm
  rw [decide_eq_false_iff_not]
  intro e
  have := rch_sum a c (t + 1)
  rw [← e, h] at this; cases this
theorem rch_sumJ {a c j : Nat} (h : 1 ≤ j) : sumB a c j = decide (j = rchF a c j) := by
 obtain ⟨t, rfl⟩ : ∃ t, j = t + 1 := ⟨j - 1, by omega⟩
 exact rch_sumB
theorem lnsT0_step {a c X Y j : Nat} (h : 1 ≤ j) (hX : 2 * j ≤ X) : lnsT a c X Y 0 (j - 1) = if sumB a c j then (false, j) :: lnsT a c X Y 0 (j + 1 - 1) else lnsT a c X Y 0 (j + 1 - 1) := by
 obtain ⟨t, rfl⟩ : ∃ t, j = t + 1 := ⟨j - 1, by omega⟩
 rw [lnsT, lnsT, Nat.add_sub_cancel, Nat.add_sub_cancel, lnsR_step hX]
 split <;> rfl
theorem lnsT1_step {a c X Y j : Nat} (h : 1 ≤ j) (hX : 2 * j ≤ Y) : lnsT a c X Y 1 (j - 1) = if sumB a c j then (true, j) :: lnsT a c X Y 1 (j + 1 - 1) else lnsT a c X Y 1 (j + 1 - 1) := by
 obtain ⟨t, rfl⟩ : ∃ t, j = t + 1 := ⟨j - 1, by omega⟩
 rw [lnsT, lnsT, Nat.add_sub_cancel, Nat.add_sub_cancel, lnsR_step hX]
 split <;> rfl
theorem lnsT0_end {a c X Y j : Nat} (h : 1 ≤ j) (hX : X < 2 * j) : lnsT a c X Y 0 (j - 1) = lnsT a c X Y 1 0 := by
 rw [lnsT, lnsT, lnsR_end (by omega), lnsR_0]; rfl
theorem lnsT1_end {a c X Y j : Nat} (h : 1 ≤ j) (hX : Y < 2 * j) : lnsT a c X Y 1 (j - 1) = lnsT a c X Y 2 0 := by
 rw [lnsT, lnsR_end (by omega)]; rfl
set_option maxHeartbeats 4000000 in
theorem plLines1 (p : PBs) (b : PBx) (RX RY : List Int) (nx ny : Nat) (hrx : Rch (bLg b) (bWd b) RX nx) (hry : Rch (bLg b) (bWd b) RY ny) (hnx : nx ≤ 1000) (hny : ny ≤ 1000) (lm X Y : Nat) (hX : X ≤ nx) (hY : Y ≤ ny) :
  ItB true Try.prog 126 [] [.c (.ro false [.v (.int .i64 X), .v (.int .i64 Y)] 0), .c (.ro false [sawC p b RX RY lm] 0)] enL (fun l => l ∈ lnsF (bLg b) (bWd b) X Y) (lnsF (bLg b) (bWd b) X Y) := by
 generalize bLg b = a at *
 generalize bWd b = c at *
 intro ly β H stp live _ hW hY' b0 hl0
 have hH : ∀ b, HidOk (H b) := fun b => (hW b).toHidOk
 have hYC : ∀ (b1 : β) (s : Bool) (t : Nat) (tl : List Ln), (s, t) ∈ lnsF a c X Y → live ((s, t) :: tl) b1 → YCall Try.prog ly [.agg [dI (sdI s), dI t]] (H b1) (bD (stp b1 (s, t)).1) (H (stp b1 (s, t)).2) ∧ ((stp b1 (s, t)).1 = true → live tl (stp b1 (s, t)).2) := fun b1 s t tl hm hl => hY' b1 (s, t) tl hl hm
 refine DCall.of Try.func126 sf126 hb126 (Nat.le_of_ble_eq_true rfl) (hH _).res ?_
 simp only [s126, idxs, Nat.reduceAdd, List.map_nil, List.map_cons, List.nil_append, List.cons_append]
 have f1 := hid_get (hH b0)
 have f2 := hid_ins (hH b0)
 have f3 := (hH b0).men
 have f4 := (hH b0).lo
 repeat' (first|(with_reducible first|apply qA|apply qB|apply qC|apply qD|apply qE|apply qF)|(simp (disch:=omega) only [go_sem, simprocAttr, qN, qO, qP, qQ, f1, f2, f3, f4, ins, rF, rG])|exact qM rfl rfl rfl|(refine qG rfl ?_)|(refine qH rfl ?_)|(refine qI rfl ?_ ?_<;>intro hc<;>(try simp only [go_sem] at hc))|(refine qJ ?_ ?_<;>intro hc<;>(try simp only [hc])<;>(try simp only [go_sem] at hc)))
 have hl00 : live (lnsT a c X Y 0 0) b0 := by rw [lnsT, lnsR_0]; exact hl0
 have hr00 : runB stp b0 (lnsF a c X Y) = runB stp b0 (lnsT a c X Y 0 0) := by rw [lnsT, lnsR_0]; rfl
 refine DW.loop (ι := { y : Nat × β // y.1 ≤ 2 ∧ live (lnsT a c X Y y.1 0) y.2 ∧ runB stp b0 (lnsF a c X Y) = runB stp y.2 (lnsT a c X Y y.1 0) })
  (fun y => ⟨37, [(6, dI y.1.1), (0, .c (.fn (.yield ly) [] [])), (1, .c (.ro false [.v (.int .i64 X), .v (.int .i64 Y)] 0)), (2, .c (.ro false [sawC p b RX RY lm] 0))], H y.1.2⟩) (fun y => 2 - y.1.1) ⟨(0, b0), Nat.zero_le _, hl00, hr00⟩ ?_ ?_
 ·refine Ent.toH (o := []) (o' := []) (hH b0) rfl ?_ ?_ <;> simp (disch:=omega) only [qR,qS,qT,qU,get,Nat.reduceEqDiff,↓reduceIte,qV,qW,qX,qY,qZ,and_self,dI,i64_in,and_true,true_and,rA,rB,rC,rD]
 rintro ⟨⟨k, b1⟩, hk, hlv, hrun⟩
 dsimp only at hk hlv hrun ⊢
 have g1 := hid_get (hH b1)
 have g2 := hid_ins (hH b1)
 have g3 := (hH b1).men
 have g4 := (hH b1).lo
 match k, hk with
 | 0, _ =>
  repeat' (first|(with_reducible first|apply qA|apply qB|apply qC|apply qD|apply qE|apply qF)|(simp (disch:=omega) only [go_sem, simprocAttr, qN, qO, qP, qQ, g1, g2, g3, g4, ins, rF, rG])|exact qM rfl rfl rfl|(refine qG rfl ?_)|(refine qH rfl ?_)|(refine qI rfl ?_ ?_<;>intro hc<;>(try simp only [go_sem] at hc))|(refine qJ ?_ ?_<;>intro hc<;>(try simp only [hc])<;>(try simp only [go_sem] at hc)))
  refine DW.loop (ι := { y : Nat × β // (1 ≤ y.1 ∧ 2 * y.1 ≤ X + 2) ∧ live (lnsT a c X Y 0 (y.1 - 1)) y.2 ∧ runB stp b0 (lnsF a c X Y) = runB stp y.2 (lnsT a c X Y 0 (y.1 - 1)) })
   (fun y => ⟨37, [(6, dI 0), (5, dI (y.1.1 : Nat)), (4, dI 0), (0, .c (.fn (.yield ly) [] [])), (1, .c (.ro false [.v (.int .i64 X), .v (.int .i64 Y)] 0)), (2, .c (.ro false [sawC p b RX RY lm] 0))], H y.1.2⟩) (fun y => X + 1 - y.1.1) ⟨(1, b1), by omega, hlv, hrun⟩ ?_ ?_
  ·refine Ent.toH (o := []) (o' := []) (hH b1) rfl ?_ ?_ <;> simp (disch:=omega) only [qR,qS,qT,qU,get,Nat.reduceEqDiff,↓reduceIte,qV,qW,qX,qY,qZ,and_self,dI,i64_in,and_true,true_and,rA,rB,rC,rD]
  clear g1 g2 g3 g4
  rintro ⟨⟨j, b1⟩, hj, hlv, hrun⟩
  dsimp only at hj hlv hrun ⊢
  have g1 := hid_get (hH b1)
  have g2 := hid_ins (hH b1)
  have g3 := (hH b1).men
  have g4 := (hH b1).lo
  by_cases hle : 2 * j ≤ X
  ·have hd : decide (2 * (j : Int) ≤ (X : Int)) = true := decide_eq_true (by omega)
   have hg := hrx.get j (by omega)
   have hl := hrx.len
   have hjn : (j < nx + 1) = True := eq_true (by omega)
   have hst := lnsT0_step (a := a) (c := c) (X := X) (Y := Y) hj.1 hle
   cases hs : sumB a c j with
   | false =>
    have he : (((rchF a c j : Nat) : Int) == (j : Int)) = false := by rw [beq_eq_false_iff_ne]; intro e; rw [rch_sumJ hj.1, decide_eq_false_iff_not] at hs; omega
    rw [hs, if_neg Bool.false_ne_true] at hst
    rw [hst] at hlv hrun
    repeat' (first|(with_reducible first|apply qA|apply qB|apply qC|apply qD|apply qE|apply qF)|(simp (disch:=omega) only [go_sem, simprocAttr, qN, qO, qP, qQ, g1, g2, g3, g4, ins, hd, hg, hl, hjn, he, rF, rG])|exact qM rfl rfl rfl|(refine qG rfl ?_)|(refine qH rfl ?_)|(refine qI rfl ?_ ?_<;>intro hc<;>(try simp only [go_sem] at hc))|(refine qJ ?_ ?_<;>intro hc<;>(try simp only [hc])<;>(try simp only [go_sem] at hc)))
    refine ⟨⟨(j + 1, b1), by dsimp only; omega, hlv, hrun⟩, (by show _ < _; (try simp only); omega), Ent.toH (o := []) (o' := []) (hH _) rfl ?_ ?_⟩ <;> simp (disch:=omega) only [qR,qS,qT,qU,get,Nat.reduceEqDiff,↓reduceIte,qV,qW,qX,qY,qZ,and_self,dI,i64_in,and_true,true_and,rA,rB,rC,rD]
   | true =>
    have he : (((rchF a c j : Nat) : Int) == (j : Int)) = true := by rw [rch_eq hs, beq_self_eq_true]
    have hmem : ((false, j) : Ln) ∈ lnsF a c X Y := lns_mem.2 ⟨hj.1, by simpa using hle, hs⟩
    rw [hs, if_pos rfl] at hst
    rw [hst] at hlv hrun
    obtain ⟨hyc, hlv2⟩ := hYC b1 false j _ hmem hlv
    rw [runB] at hrun
    have hyc : YCall Try.prog ly [.agg [dI 0, dI j]] (H b1) _ _ := hyc
    cases hc : (stp b1 (false, j)).1 with
    | true =>
     rw [hc] at hyc
     rw [hc, if_pos rfl] at hrun
     repeat' (first|(with_reducible first|apply qA|apply qB|apply qC|apply qD|apply qE|apply qF)|(simp (disch:=omega) only [go_sem, simprocAttr, qN, qO, qP, qQ, g1, g2, g3, g4, ins, hd, hg, hl, hjn, he, rF, rG])|exact qM rfl rfl rfl|(refine qG rfl ?_)|(refine qH rfl ?_)|(refine qI rfl ?_ ?_<;>intro hc<;>(try simp only [go_sem] at hc))|(refine qJ ?_ ?_<;>intro hc<;>(try simp only [hc])<;>(try simp only [go_sem] at hc)))
     refine call_y (own := []) hyc rfl rfl rfl (hH _) (hH _) (by decide) ?_
     simp (disch:=omega) only [go_sem,simprocAttr,qN,qO,qP,qQ]
     repeat' (first|(with_reducible first|apply qA|apply qB|apply qC|apply qD|apply qE|apply qF)|(simp (disch:=omega) only [go_sem, simprocAttr, qN, qO, qP, qQ])|exact qM rfl rfl rfl|(refine qG rfl ?_)|(refine qH rfl ?_)|(refine qI rfl ?_ ?_<;>intro hc<;>(try simp only [go_sem] at hc))|(refine qJ ?_ ?_<;>intro hc<;>(try simp only [hc])<;>(try simp only [go_sem] at hc)))
     refine ⟨⟨(j + 1, (stp b1 (false, j)).2), by dsimp only; omega, hlv2 hc, hrun⟩, (by show _ < _; (try simp only); omega), Ent.toH (o := []) (o' := []) (hH _) rfl ?_ ?_⟩ <;> simp (disch:=omega) only [qR,qS,qT,qU,get,Nat.reduceEqDiff,↓reduceIte,qV,qW,qX,qY,qZ,and_self,dI,i64_in,and_true,true_and,rA,rB,rC,rD]
    | false =>
     rw [hc] at hyc
     rw [hc, if_neg Bool.false_ne_true] at hrun
     repeat' (first|(with_reducible first|apply qA|apply qB|apply qC|apply qD|apply qE|apply qF)|(simp (disch:=omega) only [go_sem, simprocAttr, qN, qO, qP, qQ, g1, g2, g3, g4, ins, hd, hg, hl, hjn, he, rF, rG])|exact qM rfl rfl rfl|(refine qG rfl ?_)|(refine qH rfl ?_)|(refine qI rfl ?_ ?_<;>intro hc<;>(try simp only [go_sem] at hc))|(refine qJ ?_ ?_<;>intro hc<;>(try simp only [hc])<;>(try simp only [go_sem] at hc)))
     refine call_y (own := []) hyc rfl rfl rfl (hH _) (hH _) (by decide) ?_
     simp (disch:=omega) only [go_sem,simprocAttr,qN,qO,qP,qQ]
     repeat' (first|(with_reducible first|apply qA|apply qB|apply qC|apply qD|apply qE|apply qF)|(simp (disch:=omega) only [go_sem, simprocAttr, qN, qO, qP, qQ])|exact qM rfl rfl rfl|(refine qG rfl ?_)|(refine qH rfl ?_)|(refine qI rfl ?_ ?_<;>intro hc<;>(try simp only [go_sem] at hc))|(refine qJ ?_ ?_<;>intro hc<;>(try simp only [hc])<;>(try simp only [go_sem] at hc)))
     rw [hrun]
     exact retS_hid (own := []) (.inl rfl) (hH _) rfl
  ·have hd : decide (2 * (j : Int) ≤ (X : Int)) = false := decide_eq_false (by omega)
   rw [lnsT0_end (a := a) (c := c) (X := X) (Y := Y) hj.1 (by omega)] at hlv hrun
   repeat' (first|(with_reducible first|apply qA|apply qB|apply qC|apply qD|apply qE|apply qF)|(simp (disch:=omega) only [go_sem, simprocAttr, qN, qO, qP, qQ, g1, g2, g3, g4, ins, hd, rF, rG])|exact qM rfl rfl rfl|(refine qG rfl ?_)|(refine qH rfl ?_)|(refine qI rfl ?_ ?_<;>intro hc<;>(try simp only [go_sem] at hc))|(refine qJ ?_ ?_<;>intro hc<;>(try simp only [hc])<;>(try simp only [go_sem] at hc)))
   refine ⟨⟨(1, b1), by dsimp only; omega, hlv, hrun⟩, (by show _ < _; (try simp only); omega), Ent.toH (o := []) (o' := []) (hH _) rfl ?_ ?_⟩ <;> simp (disch:=omega) only [qR,qS,qT,qU,get,Nat.reduceEqDiff,↓reduceIte,qV,qW,qX,qY,qZ,and_self,dI,i64_in,and_true,true_and,rA,rB,rC,rD]
 | 1, _ =>
  repeat' (first|(with_reducible first|apply qA|apply qB|apply qC|apply qD|apply qE|apply qF)|(simp (disch:=omega) only [go_sem, simprocAttr, qN, qO, qP, qQ, g1, g2, g3, g4, ins, rF, rG])|exact qM rfl rfl rfl|(refine qG rfl ?_)|(refine qH rfl ?_)|(refine qI rfl ?_ ?_<;>intro hc<;>(try simp only [go_sem] at hc))|(refine qJ ?_ ?_<;>intro hc<;>(try simp only [hc])<;>(try simp only [go_sem] at hc)))
  refine DW.loop (ι := { y : Nat × β // (1 ≤ y.1 ∧ 2 * y.1 ≤ Y + 2) ∧ live (lnsT a c X Y 1 (y.1 - 1)) y.2 ∧ runB stp b0 (lnsF a c X Y) = runB stp y.2 (lnsT a c X Y 1 (y.1 - 1)) })
   (fun y => ⟨37, [(6, dI 1), (5, dI (y.1.1 : Nat)), (4, dI 1), (0, .c (.fn (.yield ly) [] [])), (1, .c (.ro false [.v (.int .i64 X), .v (.int .i64 Y)] 0)), (2, .c (.ro false [sawC p b RX RY lm] 0))], H y.1.2⟩) (fun y => Y + 1 - y.1.1) ⟨(1, b1), by omega, hlv, hrun⟩ ?_ ?_
  ·refine Ent.toH (o := []) (o' := []) (hH b1) rfl ?_ ?_ <;> simp (disch:=omega) only [qR,qS,qT,qU,get,Nat.reduceEqDiff,↓reduceIte,qV,qW,qX,qY,qZ,and_self,dI,i64_in,and_true,true_and,rA,rB,rC,rD]
  clear g1 g2 g3 g4
  rintro ⟨⟨j, b1⟩, hj, hlv, hrun⟩
  dsimp only at hj hlv hrun ⊢
  have g1 := hid_get (hH b1)
  have g2 := hid_ins (hH b1)
  have g3 := (hH b1).men
  have g4 := (hH b1).lo
  by_cases hle : 2 * j ≤ Y
  ·have hd : decide (2 * (j : Int) ≤ (Y : Int)) = true := decide_eq_true (by omega)
   have hg := hry.get j (by omega)
   have hl := hry.len
   have hjn : (j < ny + 1) = True := eq_true (by omega)
   have hst := lnsT1_step (a := a) (c := c) (X := X) (Y := Y) hj.1 hle
   cases hs : sumB a c j with
   | false =>
    have he : (((rchF a c j : Nat) : Int) == (j : Int)) = false := by rw [beq_eq_false_iff_ne]; intro e; rw [rch_sumJ hj.1, decide_eq_false_iff_not] at hs; omega
    rw [hs, if_neg Bool.false_ne_true] at hst
    rw [hst] at hlv hrun
    repeat' (first|(with_reducible first|apply qA|apply qB|apply qC|apply qD|apply qE|apply qF)|(simp (disch:=omega) only [go_sem, simprocAttr, qN, qO, qP, qQ, g1, g2, g3, g4, ins, hd, hg, hl, hjn, he, rF, rG])|exact qM rfl rfl rfl|(refine qG rfl ?_)|(refine qH rfl ?_)|(refine qI rfl ?_ ?_<;>intro hc<;>(try simp only [go_sem] at hc))|(refine qJ ?_ ?_<;>intro hc<;>(try simp only [hc])<;>(try simp only [go_sem] at hc)))
    refine ⟨⟨(j + 1, b1), by dsimp only; omega, hlv, hrun⟩, (by show _ < _; (try simp only); omega), Ent.toH (o := []) (o' := []) (hH _) rfl ?_ ?_⟩ <;> simp (disch:=omega) only [qR,qS,qT,qU,get,Nat.reduceEqDiff,↓reduceIte,qV,qW,qX,qY,qZ,and_self,dI,i64_in,and_true,true_and,rA,rB,rC,rD]
   | true =>
    have he : (((rchF a c j : Nat) : Int) == (j : Int)) = true := by rw [rch_eq hs, beq_self_eq_true]
    have hmem : ((true, j) : Ln) ∈ lnsF a c X Y := lns_mem.2 ⟨hj.1, by simpa using hle, hs⟩
    rw [hs, if_pos rfl] at hst
    rw [hst] at hlv hrun
    obtain ⟨hyc, hlv2⟩ := hYC b1 true j _ hmem hlv
    rw [runB] at hrun
    have hyc : YCall Try.prog ly [.agg [dI 1, dI j]] (H b1) _ _ := hyc
    cases hc : (stp b1 (true, j)).1 with
    | true =>
     rw [hc] at hyc
     rw [hc, if_pos rfl] at hrun
     repeat' (first|(with_reducible first|apply qA|apply qB|apply qC|apply qD|apply qE|apply qF)|(simp (disch:=omega) only [go_sem, simprocAttr, qN, qO, qP, qQ, g1, g2, g3, g4, ins, hd, hg, hl, hjn, he, rF, rG])|exact qM rfl rfl rfl|(refine qG rfl ?_)|(refine qH rfl ?_)|(refine qI rfl ?_ ?_<;>intro hc<;>(try simp only [go_sem] at hc))|(refine qJ ?_ ?_<;>intro hc<;>(try simp only [hc])<;>(try simp only [go_sem] at hc)))
     refine call_y (own := []) hyc rfl rfl rfl (hH _) (hH _) (by decide) ?_
     simp (disch:=omega) only [go_sem,simprocAttr,qN,qO,qP,qQ]
     repeat' (first|(with_reducible first|apply qA|apply qB|apply qC|apply qD|apply qE|apply qF)|(simp (disch:=omega) only [go_sem, simprocAttr, qN, qO, qP, qQ])|exact qM rfl rfl rfl|(refine qG rfl ?_)|(refine qH rfl ?_)|(refine qI rfl ?_ ?_<;>intro hc<;>(try simp only [go_sem] at hc))|(refine qJ ?_ ?_<;>intro hc<;>(try simp only [hc])<;>(try simp only [go_sem] at hc)))
     refine ⟨⟨(j + 1, (stp b1 (true, j)).2), by dsimp only; omega, hlv2 hc, hrun⟩, (by show _ < _; (try simp only); omega), Ent.toH (o := []) (o' := []) (hH _) rfl ?_ ?_⟩ <;> simp (disch:=omega) only [qR,qS,qT,qU,get,Nat.reduceEqDiff,↓reduceIte,qV,qW,qX,qY,qZ,and_self,dI,i64_in,and_true,true_and,rA,rB,rC,rD]
    | false =>
     rw [hc] at hyc
     rw [hc, if_neg Bool.false_ne_true] at hrun
     repeat' (first|(with_reducible first|apply qA|apply qB|apply qC|apply qD|apply qE|apply qF)|(simp (disch:=omega) only [go_sem, simprocAttr, qN, qO, qP, qQ, g1, g2, g3, g4, ins, hd, hg, hl, hjn, he, rF, rG])|exact qM rfl rfl rfl|(refine qG rfl ?_)|(refine qH rfl ?_)|(refine qI rfl ?_ ?_<;>intro hc<;>(try simp only [go_sem] at hc))|(refine qJ ?_ ?_<;>intro hc<;>(try simp only [hc])<;>(try simp only [go_sem] at hc)))
     refine call_y (own := []) hyc rfl rfl rfl (hH _) (hH _) (by decide) ?_
     simp (disch:=omega) only [go_sem,simprocAttr,qN,qO,qP,qQ]
     repeat' (first|(with_reducible first|apply qA|apply qB|apply qC|apply qD|apply qE|apply qF)|(simp (disch:=omega) only [go_sem, simprocAttr, qN, qO, qP, qQ])|exact qM rfl rfl rfl|(refine qG rfl ?_)|(refine qH rfl ?_)|(refine qI rfl ?_ ?_<;>intro hc<;>(try simp only [go_sem] at hc))|(refine qJ ?_ ?_<;>intro hc<;>(try simp only [hc])<;>(try simp only [go_sem] at hc)))
     rw [hrun]
     exact retS_hid (own := []) (.inl rfl) (hH _) rfl
  ·have hd : decide (2 * (j : Int) ≤ (Y : Int)) = false := decide_eq_false (by omega)
   rw [lnsT1_end (a := a) (c := c) (X := X) (Y := Y) hj.1 (by omega)] at hlv hrun
   repeat' (first|(with_reducible first|apply qA|apply qB|apply qC|apply qD|apply qE|apply qF)|(simp (disch:=omega) only [go_sem, simprocAttr, qN, qO, qP, qQ, g1, g2, g3, g4, ins, hd, rF, rG])|exact qM rfl rfl rfl|(refine qG rfl ?_)|(refine qH rfl ?_)|(refine qI rfl ?_ ?_<;>intro hc<;>(try simp only [go_sem] at hc))|(refine qJ ?_ ?_<;>intro hc<;>(try simp only [hc])<;>(try simp only [go_sem] at hc)))
   refine ⟨⟨(2, b1), by dsimp only; omega, hlv, hrun⟩, (by show _ < _; (try simp only); omega), Ent.toH (o := []) (o' := []) (hH _) rfl ?_ ?_⟩ <;> simp (disch:=omega) only [qR,qS,qT,qU,get,Nat.reduceEqDiff,↓reduceIte,qV,qW,qX,qY,qZ,and_self,dI,i64_in,and_true,true_and,rA,rB,rC,rD]
   all_goals exact .refl _
 | 2, _ =>
  rw [lnsT, runB] at hrun
  repeat' (first|(with_reducible first|apply qA|apply qB|apply qC|apply qD|apply qE|apply qF)|(simp (disch:=omega) only [go_sem, simprocAttr, qN, qO, qP, qQ, g1, g2, g3, g4, ins, rF, rG])|exact qM rfl rfl rfl|(refine qG rfl ?_)|(refine qH rfl ?_)|(refine qI rfl ?_ ?_<;>intro hc<;>(try simp only [go_sem] at hc))|(refine qJ ?_ ?_<;>intro hc<;>(try simp only [hc])<;>(try simp only [go_sem] at hc)))
  all_goals first | exact id | (rw [hrun]; exact retS_hid (own := []) (.inr rfl) (hH _) rfl)
end Go.Dw.Seat
end
section
set_option linter.unusedSimpArgs false
set_option maxRecDepth 100000
namespace Go.Dw.Seat
open Go Go.Dw Go.Proofs Go.IntWalk
abbrev nilC : C := .v (.slice none 0 0)
abbrev sawBx (p : PBs) (b : PBx) (RX RY : C) : Blk := .box [dI p.lg, dI p.wd, dI p.hi, dI p.ov, dI p.top, dI p.load, dI b.lg, dI b.wd, dI b.hi, dI b.wl, dI b.wh, dI b.sl, dI b.sh, .c RX, .c RY, .hd 7]
abbrev sawBs (p : PBs) (b : PBx) (RX RY : List Int) : List (Nat × Blk) := [(9, sawBx p b (.sl false 1 (rows eI RX)) (.sl false 1 (rows eI RY))), (7, .map [] [])]
theorem sawBs_ok (p : PBs) (b : PBx) (RX RY : List Int) : okRes (.box 9 0) (sawBs p b RX RY) := by
 have hg : ∀ j, get j (sawBs p b RX RY) = none → j ≠ 9 ∧ j ≠ 7 := fun j hj => by
  constructor <;> (rintro rfl; cases hj)
 refine ⟨fun j hj => ?_, fun i x hi j hj => ?_⟩
 ·obtain ⟨h1, h2⟩ := hg j hj
  simp only [D.men, D.mens, Bool.or_false, beq_eq_false_iff_ne]
  omega
 ·obtain ⟨h1, h2⟩ := hg j hj
  have := get_mem hi
  simp only [List.mem_cons, Prod.mk.injEq, List.not_mem_nil, or_false] at this
  rcases this with ⟨_, rfl⟩ | ⟨_, rfl⟩
  ·simp only [Blk.men, D.men, D.mens, Bool.or_false, Bool.false_or, beq_eq_false_iff_ne]
   omega
  ·rfl
set_option maxHeartbeats 2000000 in
theorem plNewSaw (p : PBs) (b : PBx) (hp : p.ok) (hb : b.ok) : DCall Try.prog 64 [bedD p b] [] (.box 9 0) (sawBs p b (rcL (bLg b) (bWd b) (rxN p)) (rcL (bLg b) (bWd b) (ryN p))) := by
 have hr := plRoom p b hp
 obtain ⟨hx, hy⟩ := rm_in hp
 have hX : rmX p = ((rxN p : Nat) : Int) := (Int.toNat_of_nonneg hx.1).symm
 have hY : rmY p = ((ryN p : Nat) : Int) := (Int.toNat_of_nonneg hy.1).symm
 have hnX : rxN p ≤ 140 := by show (rmX p).toNat ≤ 140; omega
 have hnY : ryN p ≤ 140 := by show (rmY p).toNat ≤ 140; omega
 rw [hX, hY] at hr
 have c1 := plReach b hb (rxN p) (by omega)
 have c2 := plReach b hb (ryN p) (by omega)
 have hok := sawBs_ok p b (rcL (bLg b) (bWd b) (rxN p)) (rcL (bLg b) (bWd b) (ryN p))
 generalize rcL (bLg b) (bWd b) (rxN p) = L1 at *
 generalize rcL (bLg b) (bWd b) (ryN p) = L2 at *
 generalize rxN p = nx at *
 generalize ryN p = ny at *
 refine DCall.of Try.func64 sf64 hb64 (Nat.le_of_ble_eq_true rfl) hok ?_
 simp only [s64, idxs, Nat.reduceAdd]
 repeat' (first|(with_reducible first|apply qA|apply qB|apply qC|apply qD|apply qE|apply qF)|(refine qL rfl (WF.of ?_) ?_; first|rfl|skip)|(simp (disch:=omega) only [go_sem, simprocAttr, qN, qO, qP, qQ])|exact qM rfl rfl rfl|(refine qG rfl ?_)|(refine qK (hr) (by decide) ?_)|(refine qH rfl ?_)|(refine qI rfl ?_ ?_<;>intro hc<;>(try simp only [go_sem] at hc))|(refine qJ ?_ ?_<;>intro hc<;>(try simp only [hc])<;>(try simp only [go_sem] at hc)))
 obtain ⟨r0, hr0⟩ : ∃ r : Nat → C, r 0 = nilC ∧ r 1 = .sl false 1 (rows eI L1) ∧ r 2 = .sl false 1 (rows eI L1) := ⟨fun k => if k = 0 then nilC else .sl false 1 (rows eI L1), rfl, rfl, rfl⟩
 obtain ⟨r1, hr1⟩ : ∃ r : Nat → C, r 0 = nilC ∧ r 1 = nilC ∧ r 2 = .sl false 1 (rows eI L2) := ⟨fun k => if k ≤ 1 then nilC else .sl false 1 (rows eI L2), rfl, rfl, rfl⟩
 refine DW.loop (ι := { k : Nat // k ≤ 2 }) (fun k => ⟨27, [(12, dI k.1), (11, .agg [dI nx, dI ny]), (3, .box 9 0), (1, .box 1 0)], [(9, sawBx p b (r0 k.1) (r1 k.1)), (7, .map [] []), (1, .box [dI p.lg, dI p.wd, dI p.hi, dI p.ov, dI p.top, dI p.load, dI b.lg, dI b.wd, dI b.hi, dI b.wl, dI b.wh, dI b.sl, dI b.sh])]⟩) (fun k => 2 - k.1) ⟨0, by decide⟩ ?_ ?_
 ·refine Ent.to ?_ ?_ <;> simp (disch:=omega) only [qR,qS,qT,qU,get,Nat.reduceEqDiff,↓reduceIte,qV,qW,qX,qY,qZ,and_self,dI,i64_in,and_true,true_and,rA,rB,rC,rD,hr0.1,hr1.1]
  all_goals first | exact ⟨.refl _, .refl _, .refl _⟩ | exact ⟨.refl _, .refl _⟩ | exact .refl _
 rintro ⟨k, hk⟩
 dsimp only
 match k, hk with
 | 0, _ =>
  rw [hr0.1, hr1.1]
  repeat' (first|(with_reducible first|apply qA|apply qB|apply qC|apply qD|apply qE|apply qF)|(refine qL rfl (WF.of ?_) ?_; first|rfl|skip)|(simp (disch:=omega) only [go_sem, simprocAttr, qN, qO, qP, qQ])|exact qM rfl rfl rfl|(refine qG rfl ?_)|(refine qK (c1) (by decide) ?_)|(refine qH rfl ?_)|(refine qI rfl ?_ ?_<;>intro hc<;>(try simp only [go_sem] at hc))|(refine qJ ?_ ?_<;>intro hc<;>(try simp only [hc])<;>(try simp only [go_sem] at hc)))
  refine ⟨⟨1, by decide⟩, ?_, Ent.to ?_ ?_⟩ <;> first | (show _ < _; (try simp only); omega) | (simp (disch:=omega) only [qR,qS,qT,qU,get,Nat.reduceEqDiff,↓reduceIte,qV,qW,qX,qY,qZ,and_self,dI,i64_in,and_true,true_and,rA,rB,rC,rD, hr0.2.1,hr1.2.1])
  all_goals first | exact ⟨.refl _, .refl _, .refl _⟩ | exact ⟨.refl _, .refl _⟩ | exact .refl _
 | 1, _ =>
  rw [hr0.2.1, hr1.2.1]
  repeat' (first|(with_reducible first|apply qA|apply qB|apply qC|apply qD|apply qE|apply qF)|(refine qL rfl (WF.of ?_) ?_; first|rfl|skip)|(simp (disch:=omega) only [go_sem, simprocAttr, qN, qO, qP, qQ])|exact qM rfl rfl rfl|(refine qG rfl ?_)|(refine qK (c2) (by decide) ?_)|(refine qH rfl ?_)|(refine qI rfl ?_ ?_<;>intro hc<;>(try simp only [go_sem] at hc))|(refine qJ ?_ ?_<;>intro hc<;>(try simp only [hc])<;>(try simp only [go_sem] at hc)))
  refine ⟨⟨2, by decide⟩, ?_, Ent.to ?_ ?_⟩ <;> first | (show _ < _; (try simp only); omega) | (simp (disch:=omega) only [qR,qS,qT,qU,get,Nat.reduceEqDiff,↓reduceIte,qV,qW,qX,qY,qZ,and_self,dI,i64_in,and_true,true_and,rA,rB,rC,rD, hr0.2.2,hr1.2.2])
  all_goals first | exact ⟨.refl _, .refl _, .refl _⟩ | exact ⟨.refl _, .refl _⟩ | exact .refl _
 | 2, _ =>
  rw [hr0.2.2, hr1.2.2]
  repeat' (first|(with_reducible first|apply qA|apply qB|apply qC|apply qD|apply qE|apply qF)|(refine qL rfl (WF.of ?_) ?_; first|rfl|skip)|(simp (disch:=omega) only [go_sem, simprocAttr, qN, qO, qP, qQ])|exact qM rfl rfl rfl|(refine qG rfl ?_)|(refine qH rfl ?_)|(refine qI rfl ?_ ?_<;>intro hc<;>(try simp only [go_sem] at hc))|(refine qJ ?_ ?_<;>intro hc<;>(try simp only [hc])<;>(try simp only [go_sem] at hc)))
  refine retS_bs rfl rfl rfl (get_all (p := fun k x => get k _ = some x ∧ x.nb = true) ?_)
  intro q hq
  simp only [List.mem_cons, Prod.mk.injEq, List.not_mem_nil, or_false] at hq
  rcases hq with rfl | rfl
  ·exact ⟨rfl, (by simp only [List.all_cons, List.all_nil, Blk.nb, rowC_nb, D.nb, D.nbs, C.nb, C.nbs, C.nbss, rows_nb eI_nb, Bool.and_true, Bool.not_false, Bool.and_self, bD, dI, iD])⟩
  ·exact ⟨rfl, rfl⟩
end Go.Dw.Seat
end
section
set_option linter.unusedSimpArgs false
set_option maxRecDepth 100000
namespace Go.Dw.Seat
open Go Go.Dw Go.IntWalk
abbrev CMemo := List ((Nat × Nat) × Cut)
def cFind : CMemo → Nat × Nat → Option Cut
 | [], _ => none
 | p :: t, k => if k = p.1 then some p.2 else cFind t k
def cUpd : CMemo → Nat × Nat → Cut → CMemo
 | [], k, v => [(k, v)]
 | p :: t, k, v => if k = p.1 then (k, v) :: t else p :: cUpd t k v
theorem cFind_upd {k j : Nat × Nat} {v : Cut} : ∀ M : CMemo, cFind (cUpd M k v) j = if j = k then some v else cFind M j
 | [] => by simp only [cUpd, cFind]
 | p :: t => by
  simp only [cUpd]
  by_cases h : k = p.1
  ·rw [if_pos h]
   simp only [cFind]
   by_cases h2 : j = k
   ·rw [if_pos h2, if_pos h2]
   ·rw [if_neg h2, if_neg h2, if_neg (by rw [← h]; exact h2)]
  ·rw [if_neg h]
   simp only [cFind, cFind_upd t]
   by_cases h2 : j = p.1
   ·rw [if_pos h2, if_neg (by rw [h2]; exact fun e => h e.symm), if_pos h2]
   ·rw [if_neg h2, if_neg h2]
def stepM (rec : Nat → Nat → CMemo → Cut × CMemo) (x y : Nat) (s : Cut × CMemo) (l : Ln) : Cut × CMemo :=
 (if s.1.n < (rec (oneF x y l).1 (oneF x y l).2 s.2).1.n + (rec (twoF x y l).1 (twoF x y l).2 (rec (oneF x y l).1 (oneF x y l).2 s.2).2).1.n then ⟨(rec (oneF x y l).1 (oneF x y l).2 s.2).1.n + (rec (twoF x y l).1 (twoF x y l).2 (rec (oneF x y l).1 (oneF x y l).2 s.2).2).1.n, some l⟩ else s.1, (rec (twoF x y l).1 (twoF x y l).2 (rec (oneF x y l).1 (oneF x y l).2 s.2).2).2)
def cutM (a c : Nat) : Nat → Nat → Nat → CMemo → Cut × CMemo
 | 0, _, _, M => (⟨0, none⟩, M)
 | f + 1, x, y, M => match cFind M (rchF a c x, rchF a c y) with
  | some v => (v, M)
  | none =>
   let s := if fitB a c (rchF a c x) (rchF a c y) then (lnsF a c (rchF a c x) (rchF a c y)).foldl (stepM (cutM a c f) (rchF a c x) (rchF a c y)) (⟨1, none⟩, M) else (⟨0, none⟩, M)
   (s.1, cUpd s.2 (rchF a c x, rchF a c y) s.1)
def MOk (a c : Nat) (M : CMemo) : Prop := ∀ k v, cFind M k = some v → v = cutI a c k.1 k.2
theorem foldM_ok {a c f x y : Nat} (hrec : ∀ u v M, u + v < x + y → MOk a c M → (cutM a c f u v M).1 = cutI a c u v ∧ MOk a c (cutM a c f u v M).2) : ∀ (ls : List Ln) (b : Cut) (M : CMemo), (∀ l ∈ ls, IsLn a c x y l) → MOk a c M →
  (ls.foldl (stepM (cutM a c f) x y) (b, M)).1 = ls.foldl (stepC (mst a c) x y) b ∧ MOk a c (ls.foldl (stepM (cutM a c f) x y) (b, M)).2
 | [], b, M, _, hM => ⟨rfl, hM⟩
 | l :: ls, b, M, h, hM => by
  have hl := ln_less (h l (by simp))
  obtain ⟨h1, h2⟩ := hrec (oneF x y l).1 (oneF x y l).2 M hl.1 hM
  obtain ⟨h3, h4⟩ := hrec (twoF x y l).1 (twoF x y l).2 _ hl.2 h2
  rw [List.foldl_cons, List.foldl_cons]
  have e : stepM (cutM a c f) x y (b, M) l = (stepC (mst a c) x y b l, (cutM a c f (twoF x y l).1 (twoF x y l).2 (cutM a c f (oneF x y l).1 (oneF x y l).2 M).2).2) := by
   unfold stepM stepC mst
   dsimp only
   rw [h1, h3]
  rw [e]
  exact foldM_ok hrec ls _ _ (fun t ht => h t (by simp [ht])) h4
theorem cutM_ok (a c : Nat) : ∀ (f x y : Nat) (M : CMemo), x + y < f → MOk a c M → (cutM a c f x y M).1 = cutI a c x y ∧ MOk a c (cutM a c f x y M).2
 | 0, _, _, _, h, _ => by omega
 | f + 1, x, y, M, h, hM => by
  have l1 := rch_le a c x
  have l2 := rch_le a c y
  rw [cutM]
  cases hf : cFind M (rchF a c x, rchF a c y) with
  | some v =>
   dsimp only
   exact ⟨by rw [hM _ _ hf]; exact cutI_rch a c x y, hM⟩
  | none =>
   dsimp only
   have upd : ∀ {v : Cut} {M' : CMemo}, v = cutI a c x y → MOk a c M' → MOk a c (cUpd M' (rchF a c x, rchF a c y) v) := fun hv hM' k u hk => by
    rw [cFind_upd] at hk
    split at hk
    ·rename_i e
     cases hk
     rw [hv, e]
     exact (cutI_rch a c x y).symm
    ·exact hM' k u hk
   have e := cutI_eq a c x y
   cases hfit : fitB a c (rchF a c x) (rchF a c y) with
   | false =>
    rw [hfit, if_neg Bool.false_ne_true] at e
    rw [if_neg Bool.false_ne_true]
    exact ⟨e.symm, upd e.symm hM⟩
   | true =>
    rw [hfit, if_pos rfl] at e
    rw [if_pos rfl]
    obtain ⟨h1, h2⟩ := foldM_ok (a := a) (c := c) (f := f) (x := rchF a c x) (y := rchF a c y) (fun u v M' huv hM' => cutM_ok a c f u v M' (by omega) hM') (lnsF a c (rchF a c x) (rchF a c y)) ⟨1, none⟩ M (fun l hl => lns_mem.1 hl) hM
    rw [← e] at h1
    exact ⟨h1, upd h1 h2⟩
theorem mok_nil (a c : Nat) : MOk a c [] := fun k v h => by cases h
end Go.Dw.Seat
end
section
set_option linter.unusedSimpArgs false
set_option maxRecDepth 100000
namespace Go.Dw.Seat
open Go Go.Dw Go.Proofs Go.IntWalk
def lnS : Option Ln → Int
 | none => -1
 | some l => sdI l.1
def lnA : Option Ln → Nat
 | none => 0
 | some l => l.2
abbrev cutV (v : Cut) : D := .agg [dI v.n, dI (lnS v.ln), dI (lnA v.ln)]
abbrev ckV (k : Nat × Nat) : Value := .agg #[.int .i64 k.1, .int .i64 k.2]
def cK (M : CMemo) : List Value := M.map fun p => ckV p.1
def cD (M : CMemo) : List D := M.map fun p => cutV p.2
theorem cK_ok (X Y : Nat) (M : CMemo) : keysOK (.arr .i64 2) (.agg #[.int .i64 X, .int .i64 Y]) (cK M) = true := by
 simp only [keysOK, cK, List.all_map, Bool.and_eq_true, List.all_eq_true]
 exact ⟨rfl, fun p _ => rfl⟩
theorem findL_cK (s : Nat × Nat) : ∀ (M : CMemo) (n : Nat), (match cFind M s with
  | some b => ∃ i, findL (ckV s) (cK M) n = some (n + i) ∧ (cD M)[i]? = some (cutV b) ∧ ∀ c, (cK M).set i (ckV s) = cK (cUpd M s c) ∧ (cD M).set i (cutV c) = cD (cUpd M s c)
  | none => findL (ckV s) (cK M) n = none ∧ ∀ c, cK M ++ [ckV s] = cK (cUpd M s c) ∧ cD M ++ [cutV c] = cD (cUpd M s c))
 | [], n => ⟨rfl, fun c => ⟨rfl, rfl⟩⟩
 | p :: t, n => by
  have ih := findL_cK s t (n + 1)
  simp only [cFind, cUpd]
  by_cases h : s = p.1
  ·rw [if_pos h]
   have hk : keyEq (ckV s) (ckV p.1) = true := by simp [keyEq, eqVs, h]
   refine ⟨0, ?_, rfl, fun c => ?_⟩
   ·simp only [cK, List.map_cons, findL, hk, if_true]; rfl
   ·simp only [if_pos h]
    exact ⟨rfl, rfl⟩
  ·rw [if_neg h]
   have hk : keyEq (ckV s) (ckV p.1) = false := by
    have h' : ¬ (s.1 = p.1.1 ∧ s.2 = p.1.2) := fun e => h (Prod.ext e.1 e.2)
    simp only [keyEq, eqVs, Bool.and_true, Bool.and_eq_false_iff, beq_eq_false_iff_ne]
    omega
   cases hf : cFind t s with
   | some b =>
    rw [hf] at ih
    obtain ⟨i, h1, h2, h3⟩ := ih
    refine ⟨i + 1, ?_, h2, fun c => ?_⟩
    ·have : n + (i + 1) = n + 1 + i := by omega
     rw [this]
     simpa only [cK, List.map_cons, findL, hk, Bool.false_eq_true, if_false] using h1
    ·obtain ⟨h4, h5⟩ := h3 c
     simp only [if_neg h]
     exact ⟨by simpa [cK] using h4, by simpa [cD] using h5⟩
   | none =>
    rw [hf] at ih
    obtain ⟨h1, h3⟩ := ih
    refine ⟨by simpa only [cK, List.map_cons, findL, hk, Bool.false_eq_true, if_false] using h1, fun c => ?_⟩
    obtain ⟨h4, h5⟩ := h3 c
    simp only [if_neg h]
    exact ⟨by simpa [cK] using h4, by simpa [cD] using h5⟩
theorem look_cK (X Y : Nat) (M : CMemo) (z : D) : lookIn z (cK M) (cD M) (.agg #[.int .i64 X, .int .i64 Y]) true = some (.tup [match cFind M (X, Y) with | some b => cutV b | none => z, .c (.v (.bool (cFind M (X, Y)).isSome))]) := by
 have h := findL_cK (X, Y) M 0
 unfold lookIn
 cases hf : cFind M (X, Y) with
 | some b =>
  rw [hf] at h
  obtain ⟨i, h1, h2, _⟩ := h
  rw [Nat.zero_add] at h1
  simp only [h1, h2, commaD, if_true]; rfl
 | none =>
  rw [hf] at h
  simp only [h.1, commaD, if_true]; rfl
theorem upd_cK (X Y : Nat) (M : CMemo) (c : Cut) : updK (cK M) (cD M) (.agg #[.int .i64 X, .int .i64 Y]) (.agg [dI c.n, dI (lnS c.ln), dI (lnA c.ln)]) = (cK (cUpd M (X, Y) c), cD (cUpd M (X, Y) c)) := by
 have h := findL_cK (X, Y) M 0
 unfold updK
 cases hf : cFind M (X, Y) with
 | some b =>
  rw [hf] at h
  obtain ⟨i, h1, h2, h3⟩ := h
  rw [Nat.zero_add] at h1
  simp only [h1, (h3 c).1, (h3 c).2]
 | none =>
  rw [hf] at h
  simp only [h.1, (h.2 c).1, (h.2 c).2]
theorem cD_nb (M : CMemo) : D.nbs (cD M) = true := by
 induction M with
 | nil => rfl
 | cons p m ih => simp only [cD, List.map_cons, D.nbs, Bool.and_eq_true]; exact ⟨rfl, ih⟩
theorem cD_men (k : Nat) (M : CMemo) : D.mens k (cD M) = false := by
 induction M with
 | nil => rfl
 | cons p m ih => simpa [cD, D.mens, D.men, dI] using ih
theorem cD_keys (bx : List (Nat × Blk)) (M : CMemo) : D.keysIns bx (cD M) = true := by
 induction M with
 | nil => rfl
 | cons p m ih => simpa [cD, D.keysIns, D.keysIn, dI] using ih
theorem killB_cD [Lays] (k l : Nat) (ks : List Value) (M : CMemo) : killB k (.pmap l ks (cD M)) = .pmap l ks (cD M) := by
 show Blk.pmap l ks ((cD M).map (killD k)) = _
 rw [map_killD_of (cD_men k M)]
abbrev ctB (lm : Nat) (M : CMemo) : Nat × Blk := (7, .pmap lm (cK M) (cD M))
attribute [go_sem] killB_cD cK_ok look_cK upd_cK cD_men cD_keys ctB sawD sawC
theorem ctB_ok (r : D) (hr : ∀ k, r.men k = false) (lm : Nat) (M : CMemo) : okRes r [ctB lm M] := by
 refine ⟨fun k _ => hr k, fun j x hj k hk => ?_⟩
 simp only [get] at hj
 split at hj
 ·cases hj; exact cD_men k M
 ·cases hj
theorem ctB_nb (lm : Nat) (M : CMemo) {k : Nat} {x : Blk} (hk : get k [ctB lm M] = some x) : k = 7 ∧ x = .pmap lm (cK M) (cD M) ∧ x.nb = true := by
 simp only [get] at hk
 split at hk
 ·rename_i e; cases hk; exact ⟨e, rfl, cD_nb M⟩
 ·cases hk
end Go.Dw.Seat
end
section
set_option linter.unusedSimpArgs false
set_option maxRecDepth 100000
namespace Go.Dw.Seat
open Go Go.Dw Go.Proofs Go.IntWalk
def CutC (p : PBs) (b : PBx) (RX RY : List Int) (nx ny lm f : Nat) : Prop := ∀ X Y M, MOk (bLg b) (bWd b) M → X ≤ nx → Y ≤ ny → X + Y < f → DCall Try.prog 65 [sawD p b RX RY lm, rctD X Y] [ctB lm M] (cutV (cutI (bLg b) (bWd b) X Y)) [ctB lm (cutM (bLg b) (bWd b) f X Y M).2]
def stS (a c f X Y : Nat) (s : Cut × CMemo) (l : Ln) : Option Exit × (Cut × CMemo) := (none, stepM (cutM a c f) X Y s l)
theorem st_run (a c f X Y : Nat) : ∀ (L : List Ln) (s : Cut × CMemo), runIt (stS a c f X Y) s L = (none, L.foldl (stepM (cutM a c f) X Y) s)
 | [], _ => rfl
 | l :: L, s => by simp only [runIt, stS, List.foldl_cons]; exact st_run a c f X Y L _
theorem one_le {a c X Y : Nat} {l : Ln} (h : l ∈ lnsF a c X Y) : ((oneF X Y l).1 ≤ X ∧ (oneF X Y l).2 ≤ Y) ∧ ((twoF X Y l).1 ≤ X ∧ (twoF X Y l).2 ≤ Y) ∧ l.2 ≤ if l.1 then Y else X := by
 have h1 := (lns_mem.1 h).half
 obtain ⟨s, t⟩ := l
 cases s <;> simp [oneF, twoF] at h1 ⊢ <;> omega
theorem mst_xy {a c : Nat} (ha : 0 < a) (hc : 0 < c) {x y : Nat} (hx : x ≤ 140) (hy : y ≤ 140) : mst a c x y ≤ 19600 := by
 have h1 := mst_bnd ha hc x y
 have h2 := Nat.div_le_self (rchF a c x * rchF a c y) (a * c)
 have h3 : rchF a c x * rchF a c y ≤ 140 * 140 := Nat.mul_le_mul (Nat.le_trans (rch_le a c x) hx) (Nat.le_trans (rch_le a c y) hy)
 unfold bndF at h1
 omega
set_option maxHeartbeats 4000000 in
theorem plCut1 (p : PBs) (b : PBx) (hb : b.ok) (RX RY : List Int) (nx ny : Nat) (hrx : Rch (bLg b) (bWd b) RX nx) (hry : Rch (bLg b) (bWd b) RY ny) (hnx : nx ≤ 140) (hny : ny ≤ 140) (lm f : Nat) (ih : CutC p b RX RY nx ny lm f) : CutC p b RX RY nx ny lm (f + 1) := by
 intro X Y M hMO hX hY hf
 have ha : 0 < bLg b := by have := hb.lg; show 0 < b.lg.toNat; omega
 have hc : 0 < bWd b := by have := hb.wd; show 0 < b.wd.toNat; omega
 rw [← (cutM_ok (bLg b) (bWd b) (f + 1) X Y M hf hMO).1]
 have hl1 := rch_le (bLg b) (bWd b) X
 have hl2 := rch_le (bLg b) (bWd b) Y
 have hgx := hrx.get X hX
 have hgy := hry.get Y hY
 have hlx := hrx.len
 have hly := hry.len
 have hiX : (X < nx + 1) = True := eq_true (by omega)
 have hiY : (Y < ny + 1) = True := eq_true (by omega)
 have hfits := plFits p b hb RX RY lm (rchF (bLg b) (bWd b) X) (rchF (bLg b) (bWd b) Y)
 have hsnd := fitT_snd (bLg b) (bWd b) (rchF (bLg b) (bWd b) X) (rchF (bLg b) (bWd b) Y)
 have hlines := plLines p b RX RY lm (rchF (bLg b) (bWd b) X) (rchF (bLg b) (bWd b) Y)
 have hit := plLines1 p b RX RY nx ny hrx hry (by omega) (by omega) lm (rchF (bLg b) (bWd b) X) (rchF (bLg b) (bWd b) Y) (by omega) (by omega)
 rw [cutM]
 unfold CutC at ih
 generalize bLg b = a at *
 generalize bWd b = c at *
 have hone := fun l => one_le (a := a) (c := c) (X := rchF a c X) (Y := rchF a c Y) (l := l)
 have hless := fun l (h : l ∈ lnsF a c (rchF a c X) (rchF a c Y)) => ln_less (lns_mem.1 h)
 generalize rchF a c X = X' at *
 generalize rchF a c Y = Y' at *
 refine DCall.of Try.func65 sf65 hb65 (Nat.le_of_ble_eq_true rfl) (ctB_ok _ (fun _ => rfl) _ _) ?_
 simp only [s65, o65_0, o65_1, o65_2, o65_3, o65_4, o65_5, o65_6, o65_7, o65_8, o65_9, o65_10, o65_11, o65_12, o65_13, o65_14, o65_15, o65_16, o65_17, o65_18, o65_19, idxs, Nat.reduceAdd]
 repeat' (first|(with_reducible first|apply qA|apply qB|apply qC|apply qD|apply qE|apply qF)|(refine qL rfl (WF.of ?_) ?_; first|rfl|skip)|(refine DW.ord rfl (WF.of (by first|rfl|simp (disch:=omega) only [go_sem, simprocAttr, qN, qO, qP, qQ])) ?_ ?_ ?_; rotate_left)|rfl|(with_reducible refine And.intro ?_ ?_)|(simp (disch:=omega) only [go_sem, simprocAttr, qN, qO, qP, qQ])|exact qM rfl rfl rfl|(refine qG rfl ?_)|(refine qH rfl ?_)|(refine qI rfl ?_ ?_<;>intro hc<;>(try simp only [go_sem] at hc))|(refine qJ ?_ ?_<;>intro hc<;>(try simp only [hc])<;>(try simp only [go_sem] at hc)))
 obtain ⟨r0, hr0⟩ : ∃ r : Nat → Nat, r 0 = X ∧ r 1 = X' ∧ r 2 = X' := ⟨fun k => if k = 0 then X else X', rfl, rfl, rfl⟩
 obtain ⟨r1, hr1⟩ : ∃ r : Nat → Nat, r 0 = Y ∧ r 1 = Y ∧ r 2 = Y' := ⟨fun k => if k ≤ 1 then Y else Y', rfl, rfl, rfl⟩
 refine DW.loop (ι := { k : Nat // k ≤ 2 }) (fun k => ⟨86, [(15, dI k.1), (4, .box 4 0), (3, .box 3 0), (2, .box 2 0)], [ctB lm M, (4, .box [dI 0, dI 0, dI 0]), (3, .box [dI (r0 k.1), dI (r1 k.1)]), (2, .box [sawD p b RX RY lm])]⟩) (fun k => 2 - k.1) ⟨0, by decide⟩ ?_ ?_
 ·refine Ent.to ?_ ?_ <;> simp (disch:=omega) only [qR,qS,qT,qU,get,Nat.reduceEqDiff,↓reduceIte,qV,qW,qX,qY,qZ,and_self,dI,i64_in,and_true,true_and,rA,rB,rC,rD,hr0.1,hr1.1]
  all_goals first | exact ⟨.refl _, .refl _, .refl _⟩ | exact ⟨.refl _, .refl _⟩ | exact .refl _
 rintro ⟨k, hk⟩
 dsimp only
 match k, hk with
 | 0, _ =>
  rw [hr0.1, hr1.1]
  repeat' (first|(with_reducible first|apply qA|apply qB|apply qC|apply qD|apply qE|apply qF)|(refine qL rfl (WF.of ?_) ?_; first|rfl|skip)|(refine DW.ord rfl (WF.of (by first|rfl|simp (disch:=omega) only [go_sem, simprocAttr, qN, qO, qP, qQ, hgx, hlx, hiX, rF, rG])) ?_ ?_ ?_; rotate_left)|rfl|(with_reducible refine And.intro ?_ ?_)|(simp (disch:=omega) only [go_sem, simprocAttr, qN, qO, qP, qQ, hgx, hlx, hiX, rF, rG])|exact qM rfl rfl rfl|(refine qG rfl ?_)|(refine qH rfl ?_)|(refine qI rfl ?_ ?_<;>intro hc<;>(try simp only [go_sem] at hc))|(refine qJ ?_ ?_<;>intro hc<;>(try simp only [hc])<;>(try simp only [go_sem] at hc)))
  refine ⟨⟨1, by decide⟩, ?_, Ent.to ?_ ?_⟩ <;> first | (show _ < _; (try simp only); omega) | (simp (disch:=omega) only [qR,qS,qT,qU,get,Nat.reduceEqDiff,↓reduceIte,qV,qW,qX,qY,qZ,and_self,dI,i64_in,and_true,true_and,rA,rB,rC,rD, hr0.2.1,hr1.2.1])
  all_goals first | exact ⟨.refl _, .refl _, .refl _⟩ | exact ⟨.refl _, .refl _⟩ | exact .refl _
 | 1, _ =>
  rw [hr0.2.1, hr1.2.1]
  repeat' (first|(with_reducible first|apply qA|apply qB|apply qC|apply qD|apply qE|apply qF)|(refine qL rfl (WF.of ?_) ?_; first|rfl|skip)|(refine DW.ord rfl (WF.of (by first|rfl|simp (disch:=omega) only [go_sem, simprocAttr, qN, qO, qP, qQ, hgy, hly, hiY, rF, rG])) ?_ ?_ ?_; rotate_left)|rfl|(with_reducible refine And.intro ?_ ?_)|(simp (disch:=omega) only [go_sem, simprocAttr, qN, qO, qP, qQ, hgy, hly, hiY, rF, rG])|exact qM rfl rfl rfl|(refine qG rfl ?_)|(refine qH rfl ?_)|(refine qI rfl ?_ ?_<;>intro hc<;>(try simp only [go_sem] at hc))|(refine qJ ?_ ?_<;>intro hc<;>(try simp only [hc])<;>(try simp only [go_sem] at hc)))
  refine ⟨⟨2, by decide⟩, ?_, Ent.to ?_ ?_⟩ <;> first | (show _ < _; (try simp only); omega) | (simp (disch:=omega) only [qR,qS,qT,qU,get,Nat.reduceEqDiff,↓reduceIte,qV,qW,qX,qY,qZ,and_self,dI,i64_in,and_true,true_and,rA,rB,rC,rD, hr0.2.2,hr1.2.2])
  all_goals first | exact ⟨.refl _, .refl _, .refl _⟩ | exact ⟨.refl _, .refl _⟩ | exact .refl _
 | 2, _ =>
  rw [hr0.2.2, hr1.2.2]
  clear hr0 hr1 hgx hgy hlx hly hiX hiY
  cases hm : cFind M (X', Y') with
  | some v =>
   repeat' (first|(with_reducible first|apply qA|apply qB|apply qC|apply qD|apply qE|apply qF)|(refine qL rfl (WF.of ?_) ?_; first|rfl|skip)|(refine DW.ord rfl (WF.of (by first|rfl|simp (disch:=omega) only [go_sem, simprocAttr, qN, qO, qP, qQ, hm, Option.isSome_some, rF, rG])) ?_ ?_ ?_; rotate_left)|rfl|(with_reducible refine And.intro ?_ ?_)|(simp (disch:=omega) only [go_sem, simprocAttr, qN, qO, qP, qQ, hm, Option.isSome_some, rF, rG])|exact qM rfl rfl rfl|(refine qG rfl ?_)|(refine qH rfl ?_)|(refine qI rfl ?_ ?_<;>intro hc<;>(try simp only [go_sem] at hc))|(refine qJ ?_ ?_<;>intro hc<;>(try simp only [hc])<;>(try simp only [go_sem] at hc)))
   exact retS_bs rfl rfl rfl (fun j x hj => by
    obtain ⟨rfl, rfl, hn⟩ := ctB_nb lm M hj
    exact ⟨rfl, hn⟩)
  | none =>
   generalize fitT a c X' Y' = ft at *
   obtain ⟨ft1, ft2⟩ := ft
   dsimp only at hsnd hfits ⊢
   rw [← hsnd]
   clear hsnd
   cases ft2 with
   | false =>
    rw [if_neg Bool.false_ne_true]
    dsimp only
    have hupd : updK (cK M) (cD M) (.agg #[.int .i64 X', .int .i64 Y']) (.agg [dI 0, dI (-1), dI 0]) = (cK (cUpd M (X', Y') ⟨0, none⟩), cD (cUpd M (X', Y') ⟨0, none⟩)) := upd_cK X' Y' M ⟨0, none⟩
    repeat' (first|(with_reducible first|apply qA|apply qB|apply qC|apply qD|apply qE|apply qF)|(refine qL rfl (WF.of ?_) ?_; first|rfl|skip)|(refine DW.ord rfl (WF.of (by first|rfl|simp (disch:=omega) only [go_sem, simprocAttr, qN, qO, qP, qQ, hm, Option.isSome_none, hupd, rF, rG])) ?_ ?_ ?_; rotate_left)|rfl|(with_reducible refine And.intro ?_ ?_)|(simp (disch:=omega) only [go_sem, simprocAttr, qN, qO, qP, qQ, hm, Option.isSome_none, hupd, rF, rG])|exact qM rfl rfl rfl|(refine qG rfl ?_)|(refine qK (hfits) (by decide) ?_)|(refine qH rfl ?_)|(refine qI rfl ?_ ?_<;>intro hc<;>(try simp only [go_sem] at hc))|(refine qJ ?_ ?_<;>intro hc<;>(try simp only [hc])<;>(try simp only [go_sem] at hc)))
    exact retS_bs rfl rfl rfl (fun j x hj => by
     obtain ⟨rfl, rfl, hn⟩ := ctB_nb lm _ hj
     exact ⟨rfl, hn⟩)
   | true =>
    rw [if_pos rfl]
    repeat' (first|(with_reducible first|apply qA|apply qB|apply qC|apply qD|apply qE|apply qF)|(refine qL rfl (WF.of ?_) ?_; first|rfl|skip)|(refine DW.ord rfl (WF.of (by first|rfl|simp (disch:=omega) only [go_sem, simprocAttr, qN, qO, qP, qQ, hm, Option.isSome_none, rF, rG])) ?_ ?_ ?_; rotate_left)|rfl|(with_reducible refine And.intro ?_ ?_)|(simp (disch:=omega) only [go_sem, simprocAttr, qN, qO, qP, qQ, hm, Option.isSome_none, rF, rG])|exact qM rfl rfl rfl|(refine qG rfl ?_)|(refine qK (hfits) (by decide) ?_)|(refine qK (hlines) (by decide) ?_)|(refine qH rfl ?_)|(refine qI rfl ?_ ?_<;>intro hc<;>(try simp only [go_sem] at hc))|(refine qJ ?_ ?_<;>intro hc<;>(try simp only [hc])<;>(try simp only [go_sem] at hc)))
    have htM : ∀ l ∈ lnsF a c X' Y', ∀ M1, MOk a c M1 → ((cutM a c f (oneF X' Y' l).1 (oneF X' Y' l).2 M1).1 = cutI a c (oneF X' Y' l).1 (oneF X' Y' l).2 ∧ MOk a c (cutM a c f (oneF X' Y' l).1 (oneF X' Y' l).2 M1).2) ∧ (cutM a c f (twoF X' Y' l).1 (twoF X' Y' l).2 (cutM a c f (oneF X' Y' l).1 (oneF X' Y' l).2 M1).2).1 = cutI a c (twoF X' Y' l).1 (twoF X' Y' l).2 ∧ MOk a c (cutM a c f (twoF X' Y' l).1 (twoF X' Y' l).2 (cutM a c f (oneF X' Y' l).1 (oneF X' Y' l).2 M1).2).2 := fun l hl M1 h1 => by
     have hle := hless l hl
     have e1 := cutM_ok a c f (oneF X' Y' l).1 (oneF X' Y' l).2 M1 (by omega) h1
     exact ⟨e1, cutM_ok a c f (twoF X' Y' l).1 (twoF X' Y' l).2 _ (by omega) e1.2⟩
    refine DW.ent (σ' := ⟨86, [(55, .fn (.func 126) [] [.c (.ro false [.v (.int .i64 X'), .v (.int .i64 Y')] 0), .c (.ro false [sawC p b RX RY lm] 0)]), (8, .box 8 0), (4, .box 4 0), (3, .box 3 0), (2, .box 2 0)], [ctB lm M, (8, .box [dI 1, dI (-1), dI 0]), (4, .box [dI 0, dI 0, dI 0]), (3, .box [dI X', dI Y']), (2, .box [sawD p b RX RY lm])]⟩) (Ent.to ?_ ?_) ?_
    ·simp (disch:=omega) only [qR,qS,qT,qU,get,Nat.reduceEqDiff,↓reduceIte,qV,qW,qX,qY,qZ,and_self,dI,i64_in,and_true,true_and,rA,rB,rC,rD]
    ·simp (disch:=omega) only [qR,qS,qT,qU,get,Nat.reduceEqDiff,↓reduceIte,qV,qW,qX,qY,qZ,and_self,dI,i64_in,and_true,true_and,rA,rB,rC,rD]
    refine DW.rngBS (fs := []) (caps := [.c (.ro false [.v (.int .i64 X'), .v (.int .i64 Y')] 0), .c (.ro false [sawC p b RX RY lm] 0)]) (fun y : Cut × CMemo => [ctB lm y.2, (8, .box [dI y.1.n, dI (lnS y.1.ln), dI (lnA y.1.ln)]), (4, .box [dI 0, dI 0, dI 0]), (3, .box [dI X', dI Y']), (2, .box [sawD p b RX RY lm])]) (⟨1, none⟩, M) (stS a c f X' Y') enL (fun l => l ∈ lnsF a c X' Y') (lnsF a c X' Y') hit (fun _ y => MOk a c y.2) hMO (fun y l t hy hl _ => (htM l hl y.2 hy).2.2) rfl (fun _ => ⟨rfl, rfl⟩) rfl (by decide) (fun _ _ => rfl) (fun _ _ _ => rfl) (by simp only [List.map_cons, List.map_nil]; decide) (fun _ => rfl) (fun y => by show (_ && (D.keysIns _ (cD y.2) && _)) = true; rw [cD_keys]; rfl) (fun y => by show (D.nbs (cD y.2) && _) = true; rw [cD_nb, Bool.true_and]; exact (by simp only [List.all_cons, List.all_nil, Blk.nb, rowC_nb, D.nb, D.nbs, C.nb, C.nbs, C.nbss, rows_nb eI_nb, Bool.and_true, Bool.not_false, Bool.and_self, bD, dI, iD])) (by simp only [List.all_cons, List.all_nil, Blk.nb, rowC_nb, D.nb, D.nbs, C.nb, C.nbs, C.nbss, rows_nb eI_nb, Bool.and_true, Bool.not_false, Bool.and_self, bD, dI, iD]) (fun _ _ => rfl) ?_ ?_
    ·rintro ⟨y, M1⟩ l t hM1 hl v
     dsimp only at hM1
     obtain ⟨⟨e1, hM2⟩, e2, hM3⟩ := htM l hl M1 hM1
     have hle := hless l hl
     obtain ⟨hl1, hl2, hl3⟩ := hone l hl
     have hparts := plLnParts X' Y' l (by omega) (by omega) hl3
     have h1 := ih (oneF X' Y' l).1 (oneF X' Y' l).2 M1 hM1 (by omega) (by omega) (by omega)
     have h2 := ih (twoF X' Y' l).1 (twoF X' Y' l).2 _ hM2 (by omega) (by omega) (by omega)
     have b1 := mst_xy ha hc (x := (oneF X' Y' l).1) (y := (oneF X' Y' l).2) (by omega) (by omega)
     have b2 := mst_xy ha hc (x := (twoF X' Y' l).1) (y := (twoF X' Y' l).2) (by omega) (by omega)
     rw [mst] at b1 b2
     have hS : stS a c f X' Y' (y, M1) l = (none, (if y.n < (cutI a c (oneF X' Y' l).1 (oneF X' Y' l).2).n + (cutI a c (twoF X' Y' l).1 (twoF X' Y' l).2).n then ⟨(cutI a c (oneF X' Y' l).1 (oneF X' Y' l).2).n + (cutI a c (twoF X' Y' l).1 (twoF X' Y' l).2).n, some l⟩ else y, (cutM a c f (twoF X' Y' l).1 (twoF X' Y' l).2 (cutM a c f (oneF X' Y' l).1 (oneF X' Y' l).2 M1).2).2)) := by
      unfold stS stepM
      dsimp only
      rw [e1, e2]
     rw [hS]
     clear hS e1 e2 htM hone hless hit ih
     generalize (cutM a c f (twoF X' Y' l).1 (twoF X' Y' l).2 (cutM a c f (oneF X' Y' l).1 (oneF X' Y' l).2 M1).2).2 = M3 at *
     generalize (cutM a c f (oneF X' Y' l).1 (oneF X' Y' l).2 M1).2 = M2 at *
     generalize cutI a c (oneF X' Y' l).1 (oneF X' Y' l).2 = C1 at *
     generalize cutI a c (twoF X' Y' l).1 (twoF X' Y' l).2 = C2 at *
     generalize (oneF X' Y' l).1 = o1 at *
     generalize (oneF X' Y' l).2 = o2 at *
     generalize (twoF X' Y' l).1 = q1 at *
     generalize (twoF X' Y' l).2 = q2 at *
     simp (disch:=omega) only [go_sem,simprocAttr,qN,qO,qP,qQ,rF,rG,enL]
     by_cases hlt : y.n < C1.n + C2.n
     ·have hd : decide ((y.n : Int) < (C1.n : Int) + (C2.n : Int)) = true := decide_eq_true (by omega)
      rw [if_pos hlt]
      repeat' (first|(with_reducible first|apply qA|apply qB|apply qC|apply qD|apply qE|apply qF)|(refine qL rfl (WF.of ?_) ?_; first|rfl|skip)|(refine DW.ord rfl (WF.of (by first|rfl|simp (disch:=omega) only [go_sem, simprocAttr, qN, qO, qP, qQ, rF, rG, del, cD_keys, hd, Bool.and_self, Bool.and_true, Bool.true_and])) ?_ ?_ ?_; rotate_left)|rfl|(with_reducible refine And.intro ?_ ?_)|(simp (disch:=omega) only [go_sem, simprocAttr, qN, qO, qP, qQ, rF, rG, del, cD_keys, hd, Bool.and_self, Bool.and_true, Bool.true_and])|exact qM rfl rfl rfl|(refine qG rfl ?_)|(refine qK (hparts) (by decide) ?_)|(refine call_hk 7 (h1) rfl rfl rfl (by simp (disch:=omega) only [go_sem, simprocAttr, qN, qO, qP, qQ, del]) (by decide) ?_)|(refine call_hk 7 (h2) rfl rfl rfl (by simp (disch:=omega) only [go_sem, simprocAttr, qN, qO, qP, qQ, del]) (by decide) ?_)|(refine qH rfl ?_)|(refine qI rfl ?_ ?_<;>intro hc<;>(try simp only [go_sem] at hc))|(refine qJ ?_ ?_<;>intro hc<;>(try simp only [hc])<;>(try simp only [go_sem] at hc)))
      refine round_end rfl rfl (Ent.to ?_ ?_) <;> simp (disch:=omega) only [qR,qS,qT,qU,get,Nat.reduceEqDiff,↓reduceIte,qV,qW,qX,qY,qZ,and_self,dI,i64_in,and_true,true_and,rA,rB,rC,rD,capB,List.cons_append,List.nil_append,lnS,lnA,rA]
      all_goals first | exact ⟨.refl _, .refl _, .refl _⟩ | exact ⟨.refl _, .refl _⟩ | exact .refl _
     ·have hd : decide ((y.n : Int) < (C1.n : Int) + (C2.n : Int)) = false := decide_eq_false (by omega)
      rw [if_neg hlt]
      repeat' (first|(with_reducible first|apply qA|apply qB|apply qC|apply qD|apply qE|apply qF)|(refine qL rfl (WF.of ?_) ?_; first|rfl|skip)|(refine DW.ord rfl (WF.of (by first|rfl|simp (disch:=omega) only [go_sem, simprocAttr, qN, qO, qP, qQ, rF, rG, del, cD_keys, hd, Bool.and_self, Bool.and_true, Bool.true_and])) ?_ ?_ ?_; rotate_left)|rfl|(with_reducible refine And.intro ?_ ?_)|(simp (disch:=omega) only [go_sem, simprocAttr, qN, qO, qP, qQ, rF, rG, del, cD_keys, hd, Bool.and_self, Bool.and_true, Bool.true_and])|exact qM rfl rfl rfl|(refine qG rfl ?_)|(refine qK (hparts) (by decide) ?_)|(refine call_hk 7 (h1) rfl rfl rfl (by simp (disch:=omega) only [go_sem, simprocAttr, qN, qO, qP, qQ, del]) (by decide) ?_)|(refine call_hk 7 (h2) rfl rfl rfl (by simp (disch:=omega) only [go_sem, simprocAttr, qN, qO, qP, qQ, del]) (by decide) ?_)|(refine qH rfl ?_)|(refine qI rfl ?_ ?_<;>intro hc<;>(try simp only [go_sem] at hc))|(refine qJ ?_ ?_<;>intro hc<;>(try simp only [hc])<;>(try simp only [go_sem] at hc)))
      refine round_end rfl rfl (Ent.to ?_ ?_) <;> simp (disch:=omega) only [qR,qS,qT,qU,get,Nat.reduceEqDiff,↓reduceIte,qV,qW,qX,qY,qZ,and_self,dI,i64_in,and_true,true_and,rA,rB,rC,rD,capB,List.cons_append,List.nil_append]
    ·rw [st_run]
     generalize (lnsF a c X' Y').foldl (stepM (cutM a c f) X' Y') (⟨1, none⟩, M) = R at *
     obtain ⟨v, M3⟩ := R
     dsimp only
     simp (disch:=omega) only [go_sem,simprocAttr,qN,qO,qP,qQ,Option.getD_none]
     have hupd := upd_cK X' Y' M3 v
     repeat' (first|(with_reducible first|apply qA|apply qB|apply qC|apply qD|apply qE|apply qF)|(refine qL rfl (WF.of ?_) ?_; first|rfl|skip)|(refine DW.ord rfl (WF.of (by first|rfl|simp (disch:=omega) only [go_sem, simprocAttr, qN, qO, qP, qQ, hupd, rF, rG])) ?_ ?_ ?_; rotate_left)|rfl|(with_reducible refine And.intro ?_ ?_)|(simp (disch:=omega) only [go_sem, simprocAttr, qN, qO, qP, qQ, hupd, rF, rG])|exact qM rfl rfl rfl|(refine qG rfl ?_)|(refine qH rfl ?_)|(refine qI rfl ?_ ?_<;>intro hc<;>(try simp only [go_sem] at hc))|(refine qJ ?_ ?_<;>intro hc<;>(try simp only [hc])<;>(try simp only [go_sem] at hc)))
     exact retS_bs rfl rfl rfl (fun j x hj => by
      obtain ⟨rfl, rfl, hn⟩ := ctB_nb lm _ hj
      exact ⟨rfl, hn⟩)
theorem plCut (p : PBs) (b : PBx) (hb : b.ok) (RX RY : List Int) (nx ny : Nat) (hrx : Rch (bLg b) (bWd b) RX nx) (hry : Rch (bLg b) (bWd b) RY ny) (hnx : nx ≤ 140) (hny : ny ≤ 140) (lm : Nat) : ∀ f, CutC p b RX RY nx ny lm f
 | 0 => fun _ _ _ _ _ _ h => by omega
 | f + 1 => plCut1 p b hb RX RY nx ny hrx hry hnx hny lm f (plCut p b hb RX RY nx ny hrx hry hnx hny lm f)
end Go.Dw.Seat
end
section
set_option linter.unusedSimpArgs false
set_option maxRecDepth 100000
namespace Go.Dw.Seat
open Go Go.Dw Go.Proofs Go.IntWalk
abbrev sawCL (lab : Bool) (p : PBs) (b : PBx) (RX RY : List Int) (lm : Nat) : D := .c (.ro lab [.v (.int .i64 p.lg), .v (.int .i64 p.wd), .v (.int .i64 p.hi), .v (.int .i64 p.ov), .v (.int .i64 p.top), .v (.int .i64 p.load), .v (.int .i64 b.lg), .v (.int .i64 b.wd), .v (.int .i64 b.hi), .v (.int .i64 b.wl), .v (.int .i64 b.wh), .v (.int .i64 b.sl), .v (.int .i64 b.sh), .sl false 1 (rows eI RX), .sl false 1 (rows eI RY), .v (.map (some lm))] 0)
attribute [go_sem] sawCL
theorem cD_pl (M : CMemo) : D.pls (cD M) = true := by
 induction M with
 | nil => rfl
 | cons p m ih => simp only [cD, List.map_cons, D.pls, Bool.and_eq_true]; exact ⟨rfl, ih⟩
theorem pinDs_cD (k p : Nat) (M : CMemo) : pinDs k p (cD M) = cD M := by
 induction M with
 | nil => rfl
 | cons q m ih => simp only [cD, List.map_cons, pinDs] at ih ⊢; rw [ih]; rfl
attribute [go_sem] pinDs_cD
theorem plCutL (lab : Bool) (p : PBs) (b : PBx) (hb : b.ok) (RX RY : List Int) (nx ny : Nat) (hrx : Rch (bLg b) (bWd b) RX nx) (hry : Rch (bLg b) (bWd b) RY ny) (hnx : nx ≤ 140) (hny : ny ≤ 140) (lm X Y : Nat) (hX : X ≤ nx) (hY : Y ≤ ny) (M : CMemo) (hM : MOk (bLg b) (bWd b) M) :
  DCall Try.prog 65 [sawCL lab p b RX RY lm, rctD X Y] [ctB lm M] (cutV (cutI (bLg b) (bWd b) X Y)) [ctB lm (cutM (bLg b) (bWd b) (X + Y + 1) X Y M).2] :=
 DCall.lblM (plCut p b hb RX RY nx ny hrx hry hnx hny lm (X + Y + 1) X Y M hM hX hY (by omega)) rfl (cD_pl _) (cD_pl _) (.ro (.same .nil))
def mostX (p : PBs) (b : PBx) : Int := if chkE p b = 0 then ((mst (bLg b) (bWd b) (rxN p) (ryN p) : Nat) : Int) else 0
set_option maxHeartbeats 4000000 in
theorem plMost (p : PBs) (b : PBx) : DCall Try.prog 16 [bsD p, bxD b] [] (.tup [dI (mostX p b), dI (chkE p b)]) [] := by
 have h0 := plCheck p b
 unfold mostX
 by_cases hc : chkE p b = 0
 ·obtain ⟨hp, hb⟩ := chk_ok.1 hc
  rw [if_pos hc]
  rw [hc] at h0 ⊢
  have hr := plRoom p b hp
  obtain ⟨hx, hy⟩ := rm_in hp
  have hX : rmX p = ((rxN p : Nat) : Int) := (Int.toNat_of_nonneg hx.1).symm
  have hY : rmY p = ((ryN p : Nat) : Int) := (Int.toNat_of_nonneg hy.1).symm
  have hnX : rxN p ≤ 140 := by show (rmX p).toNat ≤ 140; omega
  have hnY : ryN p ≤ 140 := by show (rmY p).toNat ≤ 140; omega
  rw [hX, hY] at hr
  have hsaw := plNewSaw p b hp hb
  have hcut := fun lm => plCutL true p b hb _ _ _ _ (rcL_ok (bLg b) (bWd b) (rxN p)) (rcL_ok (bLg b) (bWd b) (ryN p)) hnX hnY lm (rxN p) (ryN p) (Nat.le_refl _) (Nat.le_refl _) [] (mok_nil _ _)
  rw [mst]
  generalize rcL (bLg b) (bWd b) (rxN p) = L1 at *
  generalize rcL (bLg b) (bWd b) (ryN p) = L2 at *
  generalize (cutM (bLg b) (bWd b) (rxN p + ryN p + 1) (rxN p) (ryN p) []).2 = M1 at *
  generalize cutI (bLg b) (bWd b) (rxN p) (ryN p) = C at *
  generalize rxN p = nx at *
  generalize ryN p = ny at *
  have hcut' : ∀ lm, DCall Try.prog 65 [sawCL true p b L1 L2 lm, rctD nx ny] [(7, pinO lm (pinB 7 lm (.map [] [])))] (pinD 7 lm (cutV C)) [(7, pinO lm (pinB 7 lm (.map (cK M1) (cD M1))))] := fun lm => by
   have h := hcut lm
   show DCall Try.prog 65 _ _ _ [(7, .pmap lm (cK M1) (pinDs 7 lm (cD M1)))]
   rw [pinDs_cD]
   exact h
  refine DCall.of Try.func16 sf16 hb16 (Nat.le_of_ble_eq_true rfl) (okRes_nil fun _ => rfl) ?_; simp only [s16, o16_0, o16_1, o16_2, o16_3, o16_4, o16_5, idxs, Nat.reduceAdd]
  repeat' (first|(with_reducible first|apply qA|apply qB|apply qC|apply qD|apply qE|apply qF)|(simp (disch:=omega) only [go_sem, simprocAttr, qN, qO, qP, qQ])|exact qM rfl rfl rfl|(refine qG rfl ?_)|(refine qK (h0) (by decide) ?_)|(refine qH rfl ?_)|(refine qI rfl ?_ ?_<;>intro hc<;>(try simp only [go_sem] at hc))|(refine qJ ?_ ?_<;>intro hc<;>(try simp only [hc])<;>(try simp only [go_sem] at hc)))
  refine DW.ent (Ent.swk 7 47) ?_
  simp (disch:=omega) only [go_sem,simprocAttr,qN,qO,qP,qQ,swT,swX,swD,swDs,swB,swk]
  repeat' (first|(with_reducible first|apply qA|apply qB|apply qC|apply qD|apply qE|apply qF)|(refine DW.ord rfl (WF.of (by first|rfl|simp (disch:=omega) only [go_sem, simprocAttr, qN, qO, qP, qQ, del])) ?_ ?_ ?_; rotate_left)|rfl|(with_reducible refine And.intro ?_ ?_)|(simp (disch:=omega) only [go_sem, simprocAttr, qN, qO, qP, qQ, del])|exact qM rfl rfl rfl|(refine qG rfl ?_)|(refine call_b (hsaw) ⟨⟨trivial, rfl, rfl, rfl⟩, rfl, rfl, rfl⟩ (by decide) ?_; simp only [St.addBs, St.putB, St.putO, St.put])|(refine qK (hr) (by decide) ?_)|(refine call_hp1 7 (fun lm => hcut' lm) rfl rfl rfl (fun _ => rfl) (fun _ => rfl) (fun _ => by simp (disch:=omega) only [go_sem, simprocAttr, qN, qO, qP, qQ, del, pinT, pinX, pinD, pinDs, pinB, pinO, Nat.reduceEqDiff, if_false, if_true]) (by decide) ?_)|(refine qH rfl ?_)|(refine qI rfl ?_ ?_<;>intro hc<;>(try simp only [go_sem] at hc))|(refine qJ ?_ ?_<;>intro hc<;>(try simp only [hc])<;>(try simp only [go_sem] at hc)))
  skip
 ·have h2 := chk_two hc
  rw [if_neg hc]
  rw [h2] at h0 ⊢
  refine DCall.of Try.func16 sf16 hb16 (Nat.le_of_ble_eq_true rfl) (okRes_nil fun _ => rfl) ?_; simp only [s16, o16_0, o16_1, o16_2, o16_3, o16_4, o16_5, idxs, Nat.reduceAdd]
  repeat' (first|(with_reducible first|apply qA|apply qB|apply qC|apply qD|apply qE|apply qF)|(refine DW.ord rfl (WF.of (by first|rfl|simp (disch:=omega) only [go_sem, simprocAttr, qN, qO, qP, qQ])) ?_ ?_ ?_; rotate_left)|rfl|(with_reducible refine And.intro ?_ ?_)|(simp (disch:=omega) only [go_sem, simprocAttr, qN, qO, qP, qQ])|exact qM rfl rfl rfl|(refine qG rfl ?_)|(refine qK (h0) (by decide) ?_)|(refine qH rfl ?_)|(refine qI rfl ?_ ?_<;>intro hc<;>(try simp only [go_sem] at hc))|(refine qJ ?_ ?_<;>intro hc<;>(try simp only [hc])<;>(try simp only [go_sem] at hc)))
end Go.Dw.Seat
end
section
set_option linter.unusedSimpArgs false
set_option maxRecDepth 100000
namespace Go.Dw.Seat
open Go Go.Dw Go.Proofs Go.IntWalk
theorem retS_ent [Lays] {P : Program} {res : List ResultVar} {r : D} {bo : List (Nat × Blk)} {σ σ' : St} (he : Ent σ σ') (h : retS P res r bo .ret σ') : retS P res r bo .ret σ := by
 obtain ⟨h0, σ2, ds, h1, h2⟩ := h
 exact ⟨h0, σ2, ds, fun N O0 w0 a w hi => h1 _ _ _ _ _ (he _ _ _ _ _ hi), h2⟩
abbrev mpB (lm : Nat) (M : CMemo) : Nat × Blk := (47, .pmap lm (cK M) (cD M))
abbrev rwB (l : List PPl) : Nat × Blk := (77, .row 3 (rowC (rows eP l)))
attribute [go_sem] mpB rwB
theorem mpB_ok (lm : Nat) (M : CMemo) (l : List PPl) : okRes (.own 77) [mpB lm M, rwB l] := by
 have hg : ∀ j, get j [mpB lm M, rwB l] = none → j ≠ 47 ∧ j ≠ 77 := fun j hj => by
  constructor <;> (rintro rfl; cases hj)
 refine ⟨fun j hj => ?_, fun i x hi j hj => ?_⟩
 ·obtain ⟨h1, h2⟩ := hg j hj
  simp only [D.men, beq_eq_false_iff_ne]
  omega
 ·have := get_mem hi
  simp only [List.mem_cons, Prod.mk.injEq, List.not_mem_nil, or_false] at this
  rcases this with ⟨_, rfl⟩ | ⟨_, rfl⟩
  ·exact cD_men j M
  ·exact rowC_men j 3 _
theorem mpB_get (lm : Nat) (M : CMemo) (l : List PPl) {j : Nat} {x : Blk} {σ : St} (h1 : get 47 σ.bx = some (.pmap lm (cK M) (cD M))) (h2 : get 77 σ.bx = some (.row 3 (rowC (rows eP l)))) (hj : get j [mpB lm M, rwB l] = some x) : get j σ.bx = some x ∧ x.nb = true := by
 have := get_mem hj
 simp only [List.mem_cons, Prod.mk.injEq, List.not_mem_nil, or_false] at this
 rcases this with ⟨rfl, rfl⟩ | ⟨rfl, rfl⟩
 ·exact ⟨h1, cD_nb M⟩
 ·exact ⟨h2, rowC_nb (n := 3) (rows_nb eP_nb l)⟩
theorem fitsL (lab : Bool) (p : PBs) (b : PBx) (hb : b.ok) (RX RY : List Int) (lm X Y : Nat) : DCall Try.prog 97 [sawCL lab p b RX RY lm, rctD X Y] [] (.tup [bD (fitT (bLg b) (bWd b) X Y).1, bD (fitT (bLg b) (bWd b) X Y).2]) [] :=
 DCall.lbl (plFits p b hb RX RY lm X Y) rfl (.ro (.same .nil))
theorem swDs_cD (i j : Nat) (M : CMemo) : swDs i j (cD M) = cD M := by
 induction M with
 | nil => rfl
 | cons q m ih => simp only [cD, List.map_cons, swDs] at ih ⊢; rw [ih]; rfl
theorem cutK (lab : Bool) (p : PBs) (b : PBx) (hb : b.ok) (RX RY : List Int) (nx ny : Nat) (hrx : Rch (bLg b) (bWd b) RX nx) (hry : Rch (bLg b) (bWd b) RY ny) (hnx : nx ≤ 140) (hny : ny ≤ 140) (X Y : Nat) (hX : X ≤ nx) (hY : Y ≤ ny) (M : CMemo) (hM : MOk (bLg b) (bWd b) M) :
  ∃ M', MOk (bLg b) (bWd b) M' ∧ ∀ lm, DCall Try.prog 65 [sawCL lab p b RX RY lm, rctD X Y] [mpB lm M] (cutV (cutI (bLg b) (bWd b) X Y)) [mpB lm M'] :=
 ⟨_, (cutM_ok (bLg b) (bWd b) (X + Y + 1) X Y M (by omega) hM).2, fun lm => DCall.renK (k0 := 7) (plCutL lab p b hb RX RY nx ny hrx hry hnx hny lm X Y hX hY M hM) rfl rfl (cD_pl _) (cD_pl _)⟩
def LayC (lab : Bool) (p : PBs) (b : PBx) (RX RY : List Int) (nx ny f : Nat) : Prop := ∀ fx fy x y M, MOk (bLg b) (bWd b) M → x ≤ nx → y ≤ ny → fx + x ≤ 140 → fy + y ≤ 140 → x + y < f →
 ∃ M', MOk (bLg b) (bWd b) M' ∧ ∀ lm, DCall Try.prog 66 [sawCL lab p b RX RY lm, rctD fx fy, rctD x y] [mpB lm M] (.own 77) [mpB lm M', rwB (layF (bLg b) (bWd b) f fx fy x y)]
theorem layCl {lm : Nat} {ar : List D} {M M' : CMemo} {l : List PPl} (h : DCall Try.prog 66 ar [mpB lm M] (.own 77) [mpB lm M', rwB l]) : DCall Try.prog 66 ar [mpB lm M] (.c (.sl false 3 (rows eP l))) [mpB lm M'] := by
 have e : relD 77 (.row 3 (rowC (rows eP l))) (.own 77) = .c (.sl false 3 (rows eP l)) := by
  simp (disch:=omega) only [go_sem,simprocAttr,qN,qO,qP,qQ,relD]
 have := DCall.relM (show (47 : Nat) ≠ 77 by decide) (cD_pl M') (by rw [e]; exact ⟨fun _ _ => rfl, fun j x hj k _ => by
  simp only [get] at hj
  split at hj
  ·cases hj; exact cD_men k M'
  ·cases hj⟩) h
 rwa [e] at this
set_option maxHeartbeats 8000000 in
theorem plLay1 (lab : Bool) (p : PBs) (b : PBx) (hb : b.ok) (RX RY : List Int) (nx ny : Nat) (hrx : Rch (bLg b) (bWd b) RX nx) (hry : Rch (bLg b) (bWd b) RY ny) (hnx : nx ≤ 140) (hny : ny ≤ 140) (f : Nat) (ih : LayC lab p b RX RY nx ny f) : LayC lab p b RX RY nx ny (f + 1) := by
 intro fx fy X Y M hMO hX hY hfx hfy hf
 have hbl := hb.lg
 have hbw := hb.wd
 have hbE : b.lg = ((bLg b : Nat) : Int) := (Int.toNat_of_nonneg (by omega)).symm
 have hbF : b.wd = ((bWd b : Nat) : Int) := (Int.toNat_of_nonneg (by omega)).symm
 have hc : 0 < bWd b := by omega
 have ha : 0 < bLg b := by have := hb.lg; show 0 < b.lg.toNat; omega
 obtain ⟨M1, hM1, hcut⟩ := cutK lab p b hb RX RY nx ny hrx hry hnx hny X Y hX hY M hMO
 rw [layF]
 cases cut_ok (bLg b) (bWd b) X Y with
 | no h0 e =>
  rw [e] at hcut ⊢
  rw [if_pos rfl]
  refine ⟨M1, hM1, fun lm => ?_⟩
  have hcut := hcut lm
  have hcut : DCall Try.prog 65 [sawCL lab p b RX RY lm, rctD X Y] [mpB lm M] (.agg [dI 0, dI (-1), dI 0]) [mpB lm M1] := hcut
  refine DCall.of Try.func66 sf66 hb66 (Nat.le_of_ble_eq_true rfl) (mpB_ok _ _ _) ?_
  simp only [s66, o66_0, o66_1, o66_2, o66_3, o66_4, o66_5, o66_6, o66_7, idxs, Nat.reduceAdd]
  repeat' (first|(with_reducible first|apply qA|apply qB|apply qC|apply qD|apply qE|apply qF)|(refine qL rfl (WF.of ?_) ?_; first|rfl|skip)|(refine DW.ord rfl (WF.of (by first|rfl|simp (disch:=omega) only [go_sem, simprocAttr, qN, qO, qP, qQ, del, rF, rG])) ?_ ?_ ?_; rotate_left)|rfl|(with_reducible refine And.intro ?_ ?_)|(simp (disch:=omega) only [go_sem, simprocAttr, qN, qO, qP, qQ, del, rF, rG])|exact qM rfl rfl rfl|(refine qG rfl ?_)|(refine call_hk 47 (hcut) rfl rfl rfl (by simp (disch:=omega) only [go_sem, simprocAttr, qN, qO, qP, qQ, del]) (by decide) ?_)|(refine qH rfl ?_)|(refine qI rfl ?_ ?_<;>intro hc<;>(try simp only [go_sem] at hc))|(refine qJ ?_ ?_<;>intro hc<;>(try simp only [hc])<;>(try simp only [go_sem] at hc)))
  refine retS_ent (Ent.adopt 6 77 3 rfl rfl (by simp (disch:=omega) only [go_sem,simprocAttr,qN,qO,qP,qQ,menS])) ?_
  exact retS_bs rfl rfl rfl (fun j x hj => mpB_get lm M1 [] rfl rfl hj)
 | one h0 e =>
  rw [e] at hcut ⊢
  rw [if_neg (by decide)]
  dsimp only
  refine ⟨M1, hM1, fun lm => ?_⟩
  have hcut := hcut lm
  have hcut : DCall Try.prog 65 [sawCL lab p b RX RY lm, rctD X Y] [mpB lm M] (.agg [dI 1, dI (-1), dI 0]) [mpB lm M1] := hcut
  have hfits := fitsL lab p b hb RX RY lm X Y
  have hft : fitT (bLg b) (bWd b) X Y = (!(decide (bLg b ≤ X) && decide (bWd b ≤ Y)), true) := by
   rw [fit_rch ha] at h0
   unfold fitT
   unfold fitB at h0
   by_cases h1 : bLg b ≤ X ∧ bWd b ≤ Y
   ·rw [if_pos h1, decide_eq_true h1.1, decide_eq_true h1.2]; rfl
   ·rw [if_neg h1]
    have h3 : (decide (bLg b ≤ X) && decide (bWd b ≤ Y)) = false := by
     rw [Bool.and_eq_false_iff, decide_eq_false_iff_not, decide_eq_false_iff_not]; omega
    rw [h3, Bool.false_or, Bool.and_eq_true, decide_eq_true_eq, decide_eq_true_eq] at h0
    rw [if_pos h0, h3]; rfl
  rw [hft] at hfits
  generalize (!(decide (bLg b ≤ X) && decide (bWd b ≤ Y))) = tn at *
  refine DCall.of Try.func66 sf66 hb66 (Nat.le_of_ble_eq_true rfl) (mpB_ok _ _ _) ?_
  simp only [s66, o66_0, o66_1, o66_2, o66_3, o66_4, o66_5, o66_6, o66_7, idxs, Nat.reduceAdd]
  repeat' (first|(with_reducible first|apply qA|apply qB|apply qC|apply qD|apply qE|apply qF)|(refine qL rfl (WF.of ?_) ?_; first|rfl|skip)|(refine DW.ord rfl (WF.of (by first|rfl|simp (disch:=omega) only [go_sem, simprocAttr, qN, qO, qP, qQ, del, rF, rG])) ?_ ?_ ?_; rotate_left)|rfl|(with_reducible refine And.intro ?_ ?_)|(simp (disch:=omega) only [go_sem, simprocAttr, qN, qO, qP, qQ, del, rF, rG])|exact qM rfl rfl rfl|(refine qG rfl ?_)|(refine call_hk 47 (hcut) rfl rfl rfl (by simp (disch:=omega) only [go_sem, simprocAttr, qN, qO, qP, qQ, del]) (by decide) ?_)|(refine qK (hfits) (by decide) ?_)|(refine qH rfl ?_)|(refine qI rfl ?_ ?_<;>intro hc<;>(try simp only [go_sem] at hc))|(refine qJ ?_ ?_<;>intro hc<;>(try simp only [hc])<;>(try simp only [go_sem] at hc)))
  refine retS_ent (Ent.swk 38 77) ?_
  simp (disch:=omega) only [go_sem,simprocAttr,qN,qO,qP,qQ,swT,swX,swD,swDs,swB,swk,swDs_cD]
  exact retS_bs rfl rfl rfl (fun j x hj => mpB_get lm M1 [⟨fx, fy, tn⟩] rfl rfl hj)
 | two l h0 hln hl h1 e2 =>
  have hn : ¬ (cutI (bLg b) (bWd b) X Y).n = 0 := by
   have : 1 ≤ (cutI (bLg b) (bWd b) X Y).n := h1
   omega
  rw [if_neg hn, hln]
  dsimp only
  have hl1 := rch_le (bLg b) (bWd b) X
  have hl2 := rch_le (bLg b) (bWd b) Y
  have hgx := hrx.get X hX
  have hgy := hry.get Y hY
  have hlx := hrx.len
  have hly := hry.len
  have hiX : (X < nx + 1) = True := eq_true (by omega)
  have hiY : (Y < ny + 1) = True := eq_true (by omega)
  have hls := ln_less hl
  obtain ⟨ho, ht, hh⟩ := one_le (lns_mem.2 hl)
  have hparts := plLnParts (rchF (bLg b) (bWd b) X) (rchF (bLg b) (bWd b) Y) l (by omega) (by omega) hh
  obtain ⟨M2, hM2, hlay1⟩ := ih fx fy (oneF (rchF (bLg b) (bWd b) X) (rchF (bLg b) (bWd b) Y) l).1 (oneF (rchF (bLg b) (bWd b) X) (rchF (bLg b) (bWd b) Y) l).2 M1 hM1 (by omega) (by omega) (by omega) (by omega) (by omega)
  have hft : fx + (if l.1 then 0 else l.2) + (twoF (rchF (bLg b) (bWd b) X) (rchF (bLg b) (bWd b) Y) l).1 ≤ 140 ∧ fy + (if l.1 then l.2 else 0) + (twoF (rchF (bLg b) (bWd b) X) (rchF (bLg b) (bWd b) Y) l).2 ≤ 140 := by
   obtain ⟨s, v⟩ := l
   cases s <;> simp [twoF] at hh ht ⊢ <;> omega
  obtain ⟨M3, hM3, hlay2⟩ := ih (fx + if l.1 then 0 else l.2) (fy + if l.1 then l.2 else 0) (twoF (rchF (bLg b) (bWd b) X) (rchF (bLg b) (bWd b) Y) l).1 (twoF (rchF (bLg b) (bWd b) X) (rchF (bLg b) (bWd b) Y) l).2 M2 hM2 (by omega) (by omega) hft.1 hft.2 (by omega)
  refine ⟨M3, hM3, fun lm => ?_⟩
  have hcut := hcut lm
  have hlay1 := hlay1 lm
  have hlay2 := layCl (hlay2 lm)
  have hlS : lnS (cutI (bLg b) (bWd b) X Y).ln = sdI l.1 := by rw [hln]; rfl
  have hlA : lnA (cutI (bLg b) (bWd b) X Y).ln = l.2 := by rw [hln]; rfl
  rw [cutV, hlS, hlA] at hcut
  have hz : (((cutI (bLg b) (bWd b) X Y).n : Int) == 0) = false := by rw [beq_eq_false_iff_ne]; omega
  generalize (cutI (bLg b) (bWd b) X Y).n = cn at *
  clear hln hlS hlA h1 e2 ih h0
  have hsm1 : (layF (bLg b) (bWd b) f fx fy (oneF (rchF (bLg b) (bWd b) X) (rchF (bLg b) (bWd b) Y) l).1 (oneF (rchF (bLg b) (bWd b) X) (rchF (bLg b) (bWd b) Y) l).2).length ≤ 19600 := by
   rw [(lay_ok ha hbE hbF f fx fy _ _ (by omega)).1]
   exact mst_xy ha hc (by omega) (by omega)
  have hsm2 : (layF (bLg b) (bWd b) f (fx + if l.1 then 0 else l.2) (fy + if l.1 then l.2 else 0) (twoF (rchF (bLg b) (bWd b) X) (rchF (bLg b) (bWd b) Y) l).1 (twoF (rchF (bLg b) (bWd b) X) (rchF (bLg b) (bWd b) Y) l).2).length ≤ 19600 := by
   rw [(lay_ok ha hbE hbF f _ _ _ _ (by omega)).1]
   exact mst_xy ha hc (by omega) (by omega)
  clear hls ho ht
  generalize layF (bLg b) (bWd b) f fx fy (oneF (rchF (bLg b) (bWd b) X) (rchF (bLg b) (bWd b) Y) l).1 (oneF (rchF (bLg b) (bWd b) X) (rchF (bLg b) (bWd b) Y) l).2 = L1 at *
  generalize layF (bLg b) (bWd b) f (fx + if l.1 then 0 else l.2) (fy + if l.1 then l.2 else 0) (twoF (rchF (bLg b) (bWd b) X) (rchF (bLg b) (bWd b) Y) l).1 (twoF (rchF (bLg b) (bWd b) X) (rchF (bLg b) (bWd b) Y) l).2 = L2 at *
  generalize (oneF (rchF (bLg b) (bWd b) X) (rchF (bLg b) (bWd b) Y) l).1 = o1 at *
  generalize (oneF (rchF (bLg b) (bWd b) X) (rchF (bLg b) (bWd b) Y) l).2 = o2 at *
  generalize (twoF (rchF (bLg b) (bWd b) X) (rchF (bLg b) (bWd b) Y) l).1 = q1 at *
  generalize (twoF (rchF (bLg b) (bWd b) X) (rchF (bLg b) (bWd b) Y) l).2 = q2 at *
  generalize rchF (bLg b) (bWd b) X = X' at *
  generalize rchF (bLg b) (bWd b) Y = Y' at *
  refine DCall.of Try.func66 sf66 hb66 (Nat.le_of_ble_eq_true rfl) (mpB_ok _ _ _) ?_
  simp only [s66, o66_0, o66_1, o66_2, o66_3, o66_4, o66_5, o66_6, o66_7, idxs, Nat.reduceAdd]
  obtain ⟨s, v⟩ := l
  dsimp only at *
  have hv : v ≤ 140 := by cases s <;> simp at hh <;> omega
  clear hh hl
  have hsml : small (L1.length + L2.length) 24 = True := small_true ⟨by omega, by decide⟩
  have hsm : (((sdI s) : Int) == -1) = false := by cases s <;> rfl
  repeat' (first|(with_reducible first|apply qA|apply qB|apply qC|apply qD|apply qE|apply qF)|(refine qL rfl (WF.of ?_) ?_; first|rfl|skip)|(refine DW.ord rfl (WF.of (by first|rfl|simp (disch:=omega) only [go_sem, simprocAttr, qN, qO, qP, qQ, del, rF, rG, hz, hsm])) ?_ ?_ ?_; rotate_left)|rfl|(with_reducible refine And.intro ?_ ?_)|(simp (disch:=omega) only [go_sem, simprocAttr, qN, qO, qP, qQ, del, rF, rG, hz, hsm])|exact qM rfl rfl rfl|(refine qG rfl ?_)|(refine call_hk 47 (hcut) rfl rfl rfl (by simp (disch:=omega) only [go_sem, simprocAttr, qN, qO, qP, qQ, del]) (by decide) ?_)|(refine qH rfl ?_)|(refine qI rfl ?_ ?_<;>intro hc<;>(try simp only [go_sem] at hc))|(refine qJ ?_ ?_<;>intro hc<;>(try simp only [hc])<;>(try simp only [go_sem] at hc)))
  obtain ⟨r0, hr0⟩ : ∃ r : Nat → Nat, r 0 = X ∧ r 1 = X' ∧ r 2 = X' := ⟨fun k => if k = 0 then X else X', rfl, rfl, rfl⟩
  obtain ⟨r1, hr1⟩ : ∃ r : Nat → Nat, r 0 = Y ∧ r 1 = Y ∧ r 2 = Y' := ⟨fun k => if k ≤ 1 then Y else Y', rfl, rfl, rfl⟩
  refine DW.loop (ι := { k : Nat // k ≤ 2 }) (fun k => ⟨83, [(39, dI k.1), (7, .box 7 0), (5, .box 5 0), (4, .box 4 0), (0, sawCL lab p b RX RY lm)], [mpB lm M1, (7, .box [dI cn, dI (sdI s), dI v]), (5, .box [dI (r0 k.1), dI (r1 k.1)]), (4, .box [dI fx, dI fy])]⟩) (fun k => 2 - k.1) ⟨0, by decide⟩ ?_ ?_
  ·refine Ent.to ?_ ?_ <;> simp (disch:=omega) only [qR,qS,qT,qU,get,Nat.reduceEqDiff,↓reduceIte,qV,qW,qX,qY,qZ,and_self,dI,i64_in,and_true,true_and,rA,rB,rC,rD,hr0.1,hr1.1]
   all_goals first | exact ⟨.refl _, .refl _, .refl _⟩ | exact ⟨.refl _, .refl _⟩ | exact .refl _
  rintro ⟨k, hk⟩
  dsimp only
  match k, hk with
  | 0, _ =>
   rw [hr0.1, hr1.1]
   repeat' (first|(with_reducible first|apply qA|apply qB|apply qC|apply qD|apply qE|apply qF)|(refine qL rfl (WF.of ?_) ?_; first|rfl|skip)|(refine DW.ord rfl (WF.of (by first|rfl|simp (disch:=omega) only [go_sem, simprocAttr, qN, qO, qP, qQ, hgx, hlx, hiX, rF, rG])) ?_ ?_ ?_; rotate_left)|rfl|(with_reducible refine And.intro ?_ ?_)|(simp (disch:=omega) only [go_sem, simprocAttr, qN, qO, qP, qQ, hgx, hlx, hiX, rF, rG])|exact qM rfl rfl rfl|(refine qG rfl ?_)|(refine qH rfl ?_)|(refine qI rfl ?_ ?_<;>intro hc<;>(try simp only [go_sem] at hc))|(refine qJ ?_ ?_<;>intro hc<;>(try simp only [hc])<;>(try simp only [go_sem] at hc)))
   refine ⟨⟨1, by decide⟩, ?_, Ent.to ?_ ?_⟩ <;> first | (show _ < _; (try simp only); omega) | (simp (disch:=omega) only [qR,qS,qT,qU,get,Nat.reduceEqDiff,↓reduceIte,qV,qW,qX,qY,qZ,and_self,dI,i64_in,and_true,true_and,rA,rB,rC,rD, hr0.2.1,hr1.2.1])
   all_goals first | exact ⟨.refl _, .refl _, .refl _⟩ | exact ⟨.refl _, .refl _⟩ | exact .refl _
  | 1, _ =>
   rw [hr0.2.1, hr1.2.1]
   repeat' (first|(with_reducible first|apply qA|apply qB|apply qC|apply qD|apply qE|apply qF)|(refine qL rfl (WF.of ?_) ?_; first|rfl|skip)|(refine DW.ord rfl (WF.of (by first|rfl|simp (disch:=omega) only [go_sem, simprocAttr, qN, qO, qP, qQ, hgy, hly, hiY, rF, rG])) ?_ ?_ ?_; rotate_left)|rfl|(with_reducible refine And.intro ?_ ?_)|(simp (disch:=omega) only [go_sem, simprocAttr, qN, qO, qP, qQ, hgy, hly, hiY, rF, rG])|exact qM rfl rfl rfl|(refine qG rfl ?_)|(refine qH rfl ?_)|(refine qI rfl ?_ ?_<;>intro hc<;>(try simp only [go_sem] at hc))|(refine qJ ?_ ?_<;>intro hc<;>(try simp only [hc])<;>(try simp only [go_sem] at hc)))
   refine ⟨⟨2, by decide⟩, ?_, Ent.to ?_ ?_⟩ <;> first | (show _ < _; (try simp only); omega) | (simp (disch:=omega) only [qR,qS,qT,qU,get,Nat.reduceEqDiff,↓reduceIte,qV,qW,qX,qY,qZ,and_self,dI,i64_in,and_true,true_and,rA,rB,rC,rD, hr0.2.2,hr1.2.2])
   all_goals first | exact ⟨.refl _, .refl _, .refl _⟩ | exact ⟨.refl _, .refl _⟩ | exact .refl _
  | 2, _ =>
   rw [hr0.2.2, hr1.2.2]
   clear hr0 hr1 hgx hgy hlx hly hiX hiY
   cases s with
   | false =>
    have hparts : DCall Try.prog 99 [.agg [dI 0, dI v], rctD X' Y'] [] (.tup [rctD o1 o2, rctD q1 q2]) [] := hparts
    have hlay2 : DCall Try.prog 66 [sawCL lab p b RX RY lm, .agg [dI ((fx : Int) + v), dI fy], rctD q1 q2] [mpB lm M2] (.c (.sl false 3 (rows eP L2))) [mpB lm M3] := hlay2
    have hs0 : sdI false = 0 := rfl
    repeat' (first|(with_reducible first|apply qA|apply qB|apply qC|apply qD|apply qE|apply qF)|(refine qL rfl (WF.of ?_) ?_; first|rfl|skip)|(refine DW.ord rfl (WF.of (by first|rfl|simp (disch:=omega) only [go_sem, simprocAttr, qN, qO, qP, qQ, del, rF, rG, cD_keys, hs0, hsml])) ?_ ?_ ?_; rotate_left)|rfl|(with_reducible refine And.intro ?_ ?_)|(simp (disch:=omega) only [go_sem, simprocAttr, qN, qO, qP, qQ, del, rF, rG, cD_keys, hs0, hsml])|exact qM rfl rfl rfl|(refine qG rfl ?_)|(refine call_hk2 47 (hlay1) rfl rfl rfl (by simp (disch:=omega) only [go_sem, simprocAttr, qN, qO, qP, qQ, del]) rfl (by simp (disch:=omega) only [go_sem, simprocAttr, qN, qO, qP, qQ, del]) (by decide) ?_)|(refine call_hk 47 (hlay2) rfl rfl rfl (by simp (disch:=omega) only [go_sem, simprocAttr, qN, qO, qP, qQ, del]) (by decide) ?_)|(refine qK (hparts) (by decide) ?_)|(refine qH rfl ?_)|(refine qI rfl ?_ ?_<;>intro hc<;>(try simp only [go_sem] at hc))|(refine qJ ?_ ?_<;>intro hc<;>(try simp only [hc])<;>(try simp only [go_sem] at hc)))
    exact retS_bs rfl rfl rfl (fun j x hj => mpB_get lm M3 (L1 ++ L2) rfl rfl hj)
   | true =>
    have hparts : DCall Try.prog 99 [.agg [dI 1, dI v], rctD X' Y'] [] (.tup [rctD o1 o2, rctD q1 q2]) [] := hparts
    have hlay2 : DCall Try.prog 66 [sawCL lab p b RX RY lm, .agg [dI fx, dI ((fy : Int) + v)], rctD q1 q2] [mpB lm M2] (.c (.sl false 3 (rows eP L2))) [mpB lm M3] := hlay2
    have hs0 : sdI true = 1 := rfl
    repeat' (first|(with_reducible first|apply qA|apply qB|apply qC|apply qD|apply qE|apply qF)|(refine qL rfl (WF.of ?_) ?_; first|rfl|skip)|(refine DW.ord rfl (WF.of (by first|rfl|simp (disch:=omega) only [go_sem, simprocAttr, qN, qO, qP, qQ, del, rF, rG, cD_keys, hs0, hsml])) ?_ ?_ ?_; rotate_left)|rfl|(with_reducible refine And.intro ?_ ?_)|(simp (disch:=omega) only [go_sem, simprocAttr, qN, qO, qP, qQ, del, rF, rG, cD_keys, hs0, hsml])|exact qM rfl rfl rfl|(refine qG rfl ?_)|(refine call_hk2 47 (hlay1) rfl rfl rfl (by simp (disch:=omega) only [go_sem, simprocAttr, qN, qO, qP, qQ, del]) rfl (by simp (disch:=omega) only [go_sem, simprocAttr, qN, qO, qP, qQ, del]) (by decide) ?_)|(refine call_hk 47 (hlay2) rfl rfl rfl (by simp (disch:=omega) only [go_sem, simprocAttr, qN, qO, qP, qQ, del]) (by decide) ?_)|(refine qK (hparts) (by decide) ?_)|(refine qH rfl ?_)|(refine qI rfl ?_ ?_<;>intro hc<;>(try simp only [go_sem] at hc))|(refine qJ ?_ ?_<;>intro hc<;>(try simp only [hc])<;>(try simp only [go_sem] at hc)))
    exact retS_bs rfl rfl rfl (fun j x hj => mpB_get lm M3 (L1 ++ L2) rfl rfl hj)
theorem plLay (lab : Bool) (p : PBs) (b : PBx) (hb : b.ok) (RX RY : List Int) (nx ny : Nat) (hrx : Rch (bLg b) (bWd b) RX nx) (hry : Rch (bLg b) (bWd b) RY ny) (hnx : nx ≤ 140) (hny : ny ≤ 140) : ∀ f, LayC lab p b RX RY nx ny f
 | 0 => fun _ _ _ _ _ _ _ _ _ _ h => by omega
 | f + 1 => plLay1 lab p b hb RX RY nx ny hrx hry hnx hny f (plLay lab p b hb RX RY nx ny hrx hry hnx hny f)
end Go.Dw.Seat
end
section
set_option linter.unusedSimpArgs false
set_option maxRecDepth 100000
namespace Go.Dw.Seat
open Go Go.Dw Go.Proofs Go.IntWalk
def layX (p : PBs) (b : PBx) : List PPl := if chkE p b = 0 then layF (bLg b) (bWd b) (rxN p + ryN p + 1) 0 0 (rxN p) (ryN p) else []
def layD (p : PBs) (b : PBx) : D := if chkE p b = 0 then lyD false (layX p b) else .c nilC
abbrev sawB47 (p : PBs) (b : PBx) (RX RY : List Int) : List (Nat × Blk) := [(9, .box [dI p.lg, dI p.wd, dI p.hi, dI p.ov, dI p.top, dI p.load, dI b.lg, dI b.wd, dI b.hi, dI b.wl, dI b.wh, dI b.sl, dI b.sh, .c (.sl false 1 (rows eI RX)), .c (.sl false 1 (rows eI RY)), .hd 47]), (47, .map [] [])]
theorem sawB47_ok (p : PBs) (b : PBx) (RX RY : List Int) : okRes (.box 9 0) (sawB47 p b RX RY) := by
 have hg : ∀ j, get j (sawB47 p b RX RY) = none → j ≠ 9 ∧ j ≠ 47 := fun j hj => by
  constructor <;> (rintro rfl; cases hj)
 refine ⟨fun j hj => ?_, fun i x hi j hj => ?_⟩
 ·obtain ⟨h1, h2⟩ := hg j hj
  simp only [D.men, D.mens, Bool.or_false, beq_eq_false_iff_ne]
  omega
 ·obtain ⟨h1, h2⟩ := hg j hj
  have := get_mem hi
  simp only [List.mem_cons, Prod.mk.injEq, List.not_mem_nil, or_false] at this
  rcases this with ⟨_, rfl⟩ | ⟨_, rfl⟩
  ·simp only [Blk.men, D.men, D.mens, Bool.or_false, Bool.false_or, beq_eq_false_iff_ne]
   omega
  ·rfl
theorem plNewSaw47 (p : PBs) (b : PBx) (hp : p.ok) (hb : b.ok) : DCall Try.prog 64 [bedD p b] [] (.box 9 0) (sawB47 p b (rcL (bLg b) (bWd b) (rxN p)) (rcL (bLg b) (bWd b) (ryN p))) :=
 DCall.swap 7 47 (r := .box 9 0) (bo := sawBs p b (rcL (bLg b) (bWd b) (rxN p)) (rcL (bLg b) (bWd b) (ryN p))) (sawB47_ok p b _ _) (plNewSaw p b hp hb)
set_option maxHeartbeats 8000000 in
theorem plLayX (p : PBs) (b : PBx) : DCall Try.prog 17 [bsD p, bxD b] [] (.tup [layD p b, dI (chkE p b)]) [] := by
 have h0 := plCheck p b
 unfold layD layX
 by_cases hc : chkE p b = 0
 ·obtain ⟨hp, hb⟩ := chk_ok.1 hc
  rw [if_pos hc, if_pos hc]
  rw [hc] at h0 ⊢
  have hr := plRoom p b hp
  obtain ⟨hx, hy⟩ := rm_in hp
  have hX : rmX p = ((rxN p : Nat) : Int) := (Int.toNat_of_nonneg hx.1).symm
  have hY : rmY p = ((ryN p : Nat) : Int) := (Int.toNat_of_nonneg hy.1).symm
  have hnX : rxN p ≤ 140 := by show (rmX p).toNat ≤ 140; omega
  have hnY : ryN p ≤ 140 := by show (rmY p).toNat ≤ 140; omega
  rw [hX, hY] at hr
  have hsaw := plNewSaw47 p b hp hb
  obtain ⟨M1, _, hlay⟩ := plLay true p b hb _ _ _ _ (rcL_ok (bLg b) (bWd b) (rxN p)) (rcL_ok (bLg b) (bWd b) (ryN p)) hnX hnY (rxN p + ryN p + 1) 0 0 (rxN p) (ryN p) [] (mok_nil _ _) (Nat.le_refl _) (Nat.le_refl _) (by omega) (by omega) (by omega)
  generalize rcL (bLg b) (bWd b) (rxN p) = L1 at *
  generalize rcL (bLg b) (bWd b) (ryN p) = L2 at *
  generalize layF (bLg b) (bWd b) (rxN p + ryN p + 1) 0 0 (rxN p) (ryN p) = R at *
  generalize rxN p = nx at *
  generalize ryN p = ny at *
  have hlay' : ∀ lm, DCall Try.prog 66 [sawCL true p b L1 L2 lm, .agg [dI 0, dI 0], rctD nx ny] [(47, pinO lm (pinB 47 lm (.map [] [])))] (pinD 47 lm (.c (.sl false 3 (rows eP R)))) [(47, pinO lm (pinB 47 lm (.map (cK M1) (cD M1))))] := fun lm => by
   have h := layCl (hlay lm)
   show DCall Try.prog 66 _ _ _ [(47, .pmap lm (cK M1) (pinDs 47 lm (cD M1)))]
   rw [pinDs_cD]
   exact h
  refine DCall.of Try.func17 sf17 hb17 (Nat.le_of_ble_eq_true rfl) (okRes_nil fun _ => rfl) ?_; simp only [s17, o17_0, o17_1, o17_2, o17_3, o17_4, o17_5, idxs, Nat.reduceAdd]
  repeat' (first|(with_reducible first|apply qA|apply qB|apply qC|apply qD|apply qE|apply qF)|(refine DW.ord rfl (WF.of (by first|rfl|simp (disch:=omega) only [go_sem, simprocAttr, qN, qO, qP, qQ, del, cD_keys])) ?_ ?_ ?_; rotate_left)|rfl|(with_reducible refine And.intro ?_ ?_)|(simp (disch:=omega) only [go_sem, simprocAttr, qN, qO, qP, qQ, del, cD_keys])|exact qM rfl rfl rfl|(refine qG rfl ?_)|(refine qK (h0) (by decide) ?_)|(refine call_b (hsaw) ⟨⟨trivial, rfl, rfl, rfl⟩, rfl, rfl, rfl⟩ (by decide) ?_; simp only [St.addBs, St.putB, St.putO, St.put])|(refine qK (hr) (by decide) ?_)|(refine call_hp1 47 (fun lm => hlay' lm) rfl rfl rfl (fun _ => rfl) (fun _ => rfl) (fun _ => by simp (disch:=omega) only [go_sem, simprocAttr, qN, qO, qP, qQ, del, pinT, pinX, pinD, pinDs, pinB, pinO, Nat.reduceEqDiff, if_false, if_true]) (by decide) ?_)|(refine qH rfl ?_)|(refine qI rfl ?_ ?_<;>intro hc<;>(try simp only [go_sem] at hc))|(refine qJ ?_ ?_<;>intro hc<;>(try simp only [hc])<;>(try simp only [go_sem] at hc)))
  refine retS_wk rfl ?_ (by simp only [Blk.nb, rowC_nb, D.nb, D.nbs, C.nb, C.nbs, C.nbss, rows_nb eI_nb, Bool.and_true, Bool.not_false, Bool.and_self, bD, dI, iD, rows_nb eP_nb]); exact .refl _
 ·have h2 := chk_two hc
  rw [if_neg hc]
  rw [h2] at h0 ⊢
  refine DCall.of Try.func17 sf17 hb17 (Nat.le_of_ble_eq_true rfl) (okRes_nil fun _ => rfl) ?_; simp only [s17, o17_0, o17_1, o17_2, o17_3, o17_4, o17_5, idxs, Nat.reduceAdd]
  repeat' (first|(with_reducible first|apply qA|apply qB|apply qC|apply qD|apply qE|apply qF)|(refine DW.ord rfl (WF.of (by first|rfl|simp (disch:=omega) only [go_sem, simprocAttr, qN, qO, qP, qQ])) ?_ ?_ ?_; rotate_left)|rfl|(with_reducible refine And.intro ?_ ?_)|(simp (disch:=omega) only [go_sem, simprocAttr, qN, qO, qP, qQ])|exact qM rfl rfl rfl|(refine qG rfl ?_)|(refine qK (h0) (by decide) ?_)|(refine qH rfl ?_)|(refine qI rfl ?_ ?_<;>intro hc<;>(try simp only [go_sem] at hc))|(refine qJ ?_ ?_<;>intro hc<;>(try simp only [hc])<;>(try simp only [go_sem] at hc)))
end Go.Dw.Seat
end
section
set_option linter.unusedSimpArgs false
set_option maxRecDepth 100000
namespace Go.Dw.Seat
open Go Go.Dw Go.Proofs Go.IntWalk
theorem crW1 (n lo hi : Int) (p q : Bool) : DCall Try.prog 133 [dI n, .c (.ro p [.v (.int .i64 lo)] 0), .c (.ro q [.v (.int .i64 hi)] 0)] [] (bD (decide (n < lo) || decide (hi < n))) [] := by
 refine DCall.of Try.func133 sf133 hb133 (Nat.le_of_ble_eq_true rfl) (okRes_nil fun _ => rfl) ?_; simp only [s133, idxs, Nat.reduceAdd]
 repeat' (first|(with_reducible first|apply qA|apply qB|apply qC|apply qD|apply qE|apply qF)|(simp (disch:=omega) only [go_sem, simprocAttr, Blk.men, Blk.keysIn])|exact qM rfl rfl rfl|(refine qG rfl ?_)|(refine qH rfl ?_)|(refine qI rfl ?_ ?_<;>intro hc<;>(try simp only [go_sem] at hc))|(refine qJ ?_ ?_<;>intro hc<;>(try simp only [hc])<;>(try simp only [go_sem] at hc)))
theorem crWithin (b : Bool) (lo hi : Int) (l : List Int) (hl : l.length ≤ 2 ^ 36) : DCall Try.prog 123 [dI lo, dI hi, dIs b l] [] (bD (wthn lo hi l)) [] := by
 refine DCall.of Try.func123 sf123 hb123 (Nat.le_of_ble_eq_true rfl) (okRes_nil fun _ => rfl) ?_; simp only [s123, idxs, Nat.reduceAdd]
 repeat' (first|(with_reducible first|apply qA|apply qB|apply qC|apply qD|apply qE|apply qF)|(simp (disch:=omega) only [go_sem, simprocAttr, Blk.men, Blk.keysIn])|exact qM rfl rfl rfl|(refine qG rfl ?_)|(refine qH rfl ?_)|(refine qI rfl ?_ ?_<;>intro hc<;>(try simp only [go_sem] at hc))|(refine qJ ?_ ?_<;>intro hc<;>(try simp only [hc])<;>(try simp only [go_sem] at hc)))
 (refine call_c (plAnyI b l hl 133 [] [.ro true [.v (.int .i64 lo)] 0, .ro true [.v (.int .i64 hi)] 0] (fun n => decide (n < lo) || decide (hi < n)) (fun x _ => crW1 x lo hi true true)) (by decide) ?_; simp (disch:=omega) only [go_sem,simprocAttr,Blk.men,Blk.keysIn])
 repeat' (first|(with_reducible first|apply qA|apply qB|apply qC|apply qD|apply qE|apply qF)|(simp (disch:=omega) only [go_sem, simprocAttr, Blk.men, Blk.keysIn])|exact qM rfl rfl rfl|(refine qG rfl ?_)|(refine qH rfl ?_)|(refine qI rfl ?_ ?_<;>intro hc<;>(try simp only [go_sem] at hc))|(refine qJ ?_ ?_<;>intro hc<;>(try simp only [hc])<;>(try simp only [go_sem] at hc)))
theorem spanOk_yes {lo hi least most : Int} (h : least ≤ lo ∧ lo ≤ hi ∧ hi ≤ most) : spanOk lo hi least most = true := by
 unfold spanOk
 rw [wthn_yes (by simp; omega), decide_eq_true h.2.1]; rfl
theorem crSpanG (lo hi least most : Int) : DCall Try.prog 121 [.agg [dI lo, dI hi], dI least, dI most] [] (bD (spanOk lo hi least most)) [] := by
 have h1 := crWithin true least most [lo, hi] (by simp)
 unfold spanOk
 cases h : wthn least most [lo, hi] <;> rw [h] at h1 <;> simp only [Bool.true_and, Bool.false_and]
 ·refine DCall.of Try.func121 sf121 hb121 (Nat.le_of_ble_eq_true rfl) (okRes_nil fun _ => rfl) ?_; simp only [s121, idxs, Nat.reduceAdd]
  repeat' (first|(with_reducible first|apply qA|apply qB|apply qC|apply qD|apply qE|apply qF)|(simp (disch:=omega) only [go_sem, simprocAttr, Blk.men, Blk.keysIn])|exact qM rfl rfl rfl|(refine qG rfl ?_)|(refine qK (h1) (by decide) ?_)|(refine qH rfl ?_)|(refine qI rfl ?_ ?_<;>intro hc<;>(try simp only [go_sem] at hc))|(refine qJ ?_ ?_<;>intro hc<;>(try simp only [hc])<;>(try simp only [go_sem] at hc)))
 ·refine DCall.of Try.func121 sf121 hb121 (Nat.le_of_ble_eq_true rfl) (okRes_nil fun _ => rfl) ?_; simp only [s121, idxs, Nat.reduceAdd]
  repeat' (first|(with_reducible first|apply qA|apply qB|apply qC|apply qD|apply qE|apply qF)|(simp (disch:=omega) only [go_sem, simprocAttr, Blk.men, Blk.keysIn])|exact qM rfl rfl rfl|(refine qG rfl ?_)|(refine qK (h1) (by decide) ?_)|(refine qH rfl ?_)|(refine qI rfl ?_ ?_<;>intro hc<;>(try simp only [go_sem] at hc))|(refine qJ ?_ ?_<;>intro hc<;>(try simp only [hc])<;>(try simp only [go_sem] at hc)))
theorem mulB0 {a b A B : Int} (ha : 0 ≤ a ∧ a ≤ A) (hb : 0 ≤ b ∧ b ≤ B) : 0 ≤ a * b ∧ a * b ≤ A * B := by
 refine ⟨Int.mul_nonneg ha.1 hb.1, ?_⟩
 exact Int.le_trans (Int.mul_le_mul_of_nonneg_right ha.2 hb.1) (Int.mul_le_mul_of_nonneg_left hb.2 (Int.le_trans ha.1 ha.2))
theorem crIn (b : Bool) (lo hi : Int) (l : List Int) (hl : l.length ≤ 2 ^ 36) (h : ∀ v ∈ l, lo ≤ v ∧ v ≤ hi) : DCall Try.prog 123 [dI lo, dI hi, dIs b l] [] (bD true) [] := by
 have := crWithin b lo hi l hl
 rwa [wthn_yes h] at this
end Go.Dw.Seat
end
section
set_option linter.unusedSimpArgs false
set_option maxRecDepth 100000
namespace Go.Dw.Seat
open Go Go.Dw Go.Proofs Go.IntWalk
structure Lod where
 sl : Int
 sh : Int
 wl : Int
 wh : Int
def eLd (b : Lod) : List C := [.v (.int .i64 b.sl), .v (.int .i64 b.sh), .v (.int .i64 b.wl), .v (.int .i64 b.wh)]
theorem eLd_nb (v : Lod) : C.nbs (eLd v) = true := rfl
def eK (t : Int × Int) : List C := [.v (.int .i64 t.1), .v (.int .i64 t.2)]
theorem eK_nb (v : Int × Int) : C.nbs (eK v) = true := rfl
attribute [go_sem] eLd eK
structure Lod.ok (b : Lod) : Prop where
 strong : 0 ≤ b.sl ∧ b.sl ≤ b.sh ∧ b.sh ≤ 20000000
 weight : 0 ≤ b.wl ∧ b.wl ≤ b.wh ∧ b.wh ≤ 100000
def lodOk (b : Lod) : Bool := spanOk b.sl b.sh 0 20000000 && spanOk b.wl b.wh 0 100000
theorem lodOk_yes {b : Lod} (h : b.ok) : lodOk b = true := by
 simp only [lodOk, spanOk_yes h.strong, spanOk_yes h.weight, Bool.and_self]
theorem crBoxG (b : Lod) : DCall Try.prog 120 [.agg ((eLd b).map D.c)] [] (bD (!lodOk b)) [] := by
 have h1 := crSpanG b.sl b.sh 0 20000000
 have h2 := crSpanG b.wl b.wh 0 100000
 unfold lodOk
 cases e1 : spanOk b.sl b.sh 0 20000000 <;> rw [e1] at h1 <;> simp only [Bool.true_and, Bool.false_and, Bool.not_false]
 ·refine DCall.of Try.func120 sf120 hb120 (Nat.le_of_ble_eq_true rfl) (okRes_nil fun _ => rfl) ?_; simp only [s120, idxs, Nat.reduceAdd]
  repeat' (first|(with_reducible first|apply qA|apply qB|apply qC|apply qD|apply qE|apply qF)|(simp (disch:=omega) only [go_sem, simprocAttr, Blk.men, Blk.keysIn, rF, rG])|exact qM rfl rfl rfl|(refine qG rfl ?_)|(refine qK (h1) (by decide) ?_)|(refine qH rfl ?_)|(refine qI rfl ?_ ?_<;>intro hc<;>(try simp only [go_sem] at hc))|(refine qJ ?_ ?_<;>intro hc<;>(try simp only [hc])<;>(try simp only [go_sem] at hc)))
 ·refine DCall.of Try.func120 sf120 hb120 (Nat.le_of_ble_eq_true rfl) (okRes_nil fun _ => rfl) ?_; simp only [s120, idxs, Nat.reduceAdd]
  repeat' (first|(with_reducible first|apply qA|apply qB|apply qC|apply qD|apply qE|apply qF)|(simp (disch:=omega) only [go_sem, simprocAttr, Blk.men, Blk.keysIn, rF, rG])|exact qM rfl rfl rfl|(refine qG rfl ?_)|(refine qK (h1) (by decide) ?_)|(refine qK (h2) (by decide) ?_)|(refine qH rfl ?_)|(refine qI rfl ?_ ?_<;>intro hc<;>(try simp only [go_sem] at hc))|(refine qJ ?_ ?_<;>intro hc<;>(try simp only [hc])<;>(try simp only [go_sem] at hc)))
theorem crLIdx (b : Bool) (l : List (Lod)) (hl : l.length ≤ 2 ^ 36) (g : FuncId) (fs caps : List C) (p : Lod → Bool) (hp : ∀ x ∈ l, DCall Try.prog g (fs.map D.c ++ [.agg ((eLd x).map D.c)] ++ caps.map D.c) [] (bD (p x)) []) : DCall Try.prog 132 [.c (.sl b 4 (rows eLd l)), .c (.fn (.func g) fs caps)] [] (dI (idxI p l)) [] := by
 refine DCall.of Try.func132 sf132 hb132 (Nat.le_of_ble_eq_true rfl) (okRes_nil fun _ => rfl) ?_; simp only [s132, idxs, Nat.reduceAdd]
 repeat' (first|(with_reducible first|apply qA|apply qB|apply qC|apply qD|apply qE|apply qF)|(simp (disch:=omega) only [go_sem, simprocAttr, Blk.men, Blk.keysIn])|exact qM rfl rfl rfl|(refine qG rfl ?_)|(refine qH rfl ?_)|(refine qI rfl ?_ ?_<;>intro hc<;>(try simp only [go_sem] at hc))|(refine qJ ?_ ?_<;>intro hc<;>(try simp only [hc])<;>(try simp only [go_sem] at hc)))
 refine DW.loop (ι := { i : Nat // i ≤ l.length ∧ ∀ j u, j < i → l[j]? = some u → p u = false }) (fun i => ⟨19, [(8, dI i.1), (7, dI l.length), (1, .c (.fn (.func g) fs caps)), (0, .c (.sl b 4 (rows eLd l)))], []⟩) (fun i => l.length - i.1) ⟨0, Nat.zero_le _, fun j u h => by omega⟩ ?_ ?_
 ·refine Ent.to ?_ ?_ <;> simp (disch:=omega) only [qR,qS,qT,qU,get,Nat.reduceEqDiff,↓reduceIte,qV,qW,qX,qY,qZ,and_self,dI,i64_in,and_true,true_and,rA,rB,rC,rD]
 rintro ⟨i, hi, hij⟩
 rcases at_or l i hi with ⟨v, hv, hlt, hd⟩ | ⟨he, hd⟩
 ·have hcall := hp v (List.mem_of_getElem? hv)
  repeat' (first|(with_reducible first|apply qA|apply qB|apply qC|apply qD|apply qE|apply qF)|(simp (disch:=omega) only [go_sem, simprocAttr, Blk.men, Blk.keysIn, hd, hv, closeDs_fn, rF, rG])|exact qM rfl rfl rfl|(refine qG rfl ?_)|(refine qH rfl ?_)|(refine qI rfl ?_ ?_<;>intro hc<;>(try simp only [go_sem] at hc))|(refine qJ ?_ ?_<;>intro hc<;>(try simp only [hc])<;>(try simp only [go_sem] at hc)))
  refine call_c hcall (by decide) ?_
  simp (disch:=omega) only [go_sem,simprocAttr,Blk.men,Blk.keysIn]
  refine DW.cond rfl ?_ ?_ <;> intro hc
  ·repeat' (first|(with_reducible first|apply qA|apply qB|apply qC|apply qD|apply qE|apply qF)|(simp (disch:=omega) only [go_sem, simprocAttr, Blk.men, Blk.keysIn])|exact qM rfl rfl rfl|(refine qG rfl ?_)|(refine qH rfl ?_)|(refine qI rfl ?_ ?_<;>intro hc<;>(try simp only [go_sem] at hc))|(refine qJ ?_ ?_<;>intro hc<;>(try simp only [hc])<;>(try simp only [go_sem] at hc)))
   refine retS_of rfl ?_ rfl; simp only [oneD, St.op, get, Nat.reduceEqDiff, ↓reduceIte, Option.getD_some, bD, dI]
   simp only [idxI, idxOf_some hij hv hc]
  ·repeat' (first|(with_reducible first|apply qA|apply qB|apply qC|apply qD|apply qE|apply qF)|(simp (disch:=omega) only [go_sem, simprocAttr, Blk.men, Blk.keysIn])|exact qM rfl rfl rfl|(refine qG rfl ?_)|(refine qH rfl ?_)|(refine qI rfl ?_ ?_<;>intro hc<;>(try simp only [go_sem] at hc))|(refine qJ ?_ ?_<;>intro hc<;>(try simp only [hc])<;>(try simp only [go_sem] at hc)))
   refine ⟨⟨i + 1, by omega, fun j u hj hu => by
    rcases Nat.lt_or_ge j i with h | h
    ·exact hij j u h hu
    ·have : j = i := by omega
     subst this
     rw [hv] at hu; cases hu; exact hc⟩, ?_, Ent.to ?_ ?_⟩ <;> first | (show _ < _; (try simp only); omega) | (simp (disch:=omega) only [qR,qS,qT,qU,get,Nat.reduceEqDiff,↓reduceIte,qV,qW,qX,qY,qZ,and_self,dI,i64_in,and_true,true_and,rA,rB,rC,rD])
 ·repeat' (first|(with_reducible first|apply qA|apply qB|apply qC|apply qD|apply qE|apply qF)|(simp (disch:=omega) only [go_sem, simprocAttr, Blk.men, Blk.keysIn, hd])|exact qM rfl rfl rfl|(refine qG rfl ?_)|(refine qH rfl ?_)|(refine qI rfl ?_ ?_<;>intro hc<;>(try simp only [go_sem] at hc))|(refine qJ ?_ ?_<;>intro hc<;>(try simp only [hc])<;>(try simp only [go_sem] at hc)))
  refine retS_of rfl ?_ rfl; simp only [oneD, St.op, get, Nat.reduceEqDiff, ↓reduceIte, Option.getD_some, bD, dI]
  simp only [idxI, idxOf_none (he ▸ hij)]
theorem crLCon (b : Bool) (l : List (Lod)) (hl : l.length ≤ 2 ^ 36) (g : FuncId) (fs caps : List C) (p : Lod → Bool) (hp : ∀ x ∈ l, DCall Try.prog g (fs.map D.c ++ [.agg ((eLd x).map D.c)] ++ caps.map D.c) [] (bD (p x)) []) : DCall Try.prog 122 [.c (.sl b 4 (rows eLd l)), .c (.fn (.func g) fs caps)] [] (bD (l.any p)) [] := by
 refine DCall.of Try.func122 sf122 hb122 (Nat.le_of_ble_eq_true rfl) (okRes_nil fun _ => rfl) ?_; simp only [s122, idxs, Nat.reduceAdd]
 repeat' (first|(with_reducible first|apply qA|apply qB|apply qC|apply qD|apply qE|apply qF)|(simp (disch:=omega) only [go_sem, simprocAttr, Blk.men, Blk.keysIn])|exact qM rfl rfl rfl|(refine qG rfl ?_)|(refine qH rfl ?_)|(refine qI rfl ?_ ?_<;>intro hc<;>(try simp only [go_sem] at hc))|(refine qJ ?_ ?_<;>intro hc<;>(try simp only [hc])<;>(try simp only [go_sem] at hc)))
 refine call_c (crLIdx b l hl g fs caps p hp) (by decide) ?_
 repeat' (first|(with_reducible first|apply qA|apply qB|apply qC|apply qD|apply qE|apply qF)|(simp (disch:=omega) only [go_sem, simprocAttr, Blk.men, Blk.keysIn])|exact qM rfl rfl rfl|(refine qG rfl ?_)|(refine qH rfl ?_)|(refine qI rfl ?_ ?_<;>intro hc<;>(try simp only [go_sem] at hc))|(refine qJ ?_ ?_<;>intro hc<;>(try simp only [hc])<;>(try simp only [go_sem] at hc)))
 refine retS_of rfl ?_ rfl; simp only [oneD, St.op, get, Nat.reduceEqDiff, ↓reduceIte, Option.getD_some, bD, dI]
 rw [idxI_any]
def boxesE (l : List Lod) (most : Int) : Int := if most < l.length then 5 else if l.any (fun b => !lodOk b) then 2 else 0
theorem crBoxesG (b : Bool) (l : List Lod) (most : Int) (hl : l.length ≤ 2 ^ 36) : DCall Try.prog 93 [.c (.sl b 4 (rows eLd l)), dI most] [] (dI (boxesE l most)) [] := by
 have h1 := crLCon b l hl 120 [] [] (fun b => !lodOk b) (fun x _ => by simpa using crBoxG x)
 unfold boxesE
 by_cases hm : most < (l.length : Int)
 ·have hd : decide (most < (l.length : Int)) = true := decide_eq_true hm
  rw [if_pos hm]
  refine DCall.of Try.func93 sf93 hb93 (Nat.le_of_ble_eq_true rfl) (okRes_nil fun _ => rfl) ?_; simp only [s93, idxs, Nat.reduceAdd]
  repeat' (first|(with_reducible first|apply qA|apply qB|apply qC|apply qD|apply qE|apply qF)|(simp (disch:=omega) only [go_sem, simprocAttr, Blk.men, Blk.keysIn, hd])|exact qM rfl rfl rfl|(refine qG rfl ?_)|(refine qH rfl ?_)|(refine qI rfl ?_ ?_<;>intro hc<;>(try simp only [go_sem] at hc))|(refine qJ ?_ ?_<;>intro hc<;>(try simp only [hc])<;>(try simp only [go_sem] at hc)))
 have hd : decide (most < (l.length : Int)) = false := decide_eq_false hm
 rw [if_neg hm]
 cases e : l.any (fun b => !lodOk b) <;> rw [e] at h1
 ·rw [if_neg (by decide)]
  refine DCall.of Try.func93 sf93 hb93 (Nat.le_of_ble_eq_true rfl) (okRes_nil fun _ => rfl) ?_; simp only [s93, idxs, Nat.reduceAdd]
  repeat' (first|(with_reducible first|apply qA|apply qB|apply qC|apply qD|apply qE|apply qF)|(simp (disch:=omega) only [go_sem, simprocAttr, Blk.men, Blk.keysIn, hd])|exact qM rfl rfl rfl|(refine qG rfl ?_)|(refine qK (h1) (by decide) ?_)|(refine qH rfl ?_)|(refine qI rfl ?_ ?_<;>intro hc<;>(try simp only [go_sem] at hc))|(refine qJ ?_ ?_<;>intro hc<;>(try simp only [hc])<;>(try simp only [go_sem] at hc)))
 ·rw [if_pos rfl]
  refine DCall.of Try.func93 sf93 hb93 (Nat.le_of_ble_eq_true rfl) (okRes_nil fun _ => rfl) ?_; simp only [s93, idxs, Nat.reduceAdd]
  repeat' (first|(with_reducible first|apply qA|apply qB|apply qC|apply qD|apply qE|apply qF)|(simp (disch:=omega) only [go_sem, simprocAttr, Blk.men, Blk.keysIn, hd])|exact qM rfl rfl rfl|(refine qG rfl ?_)|(refine qK (h1) (by decide) ?_)|(refine qH rfl ?_)|(refine qI rfl ?_ ?_<;>intro hc<;>(try simp only [go_sem] at hc))|(refine qJ ?_ ?_<;>intro hc<;>(try simp only [hc])<;>(try simp only [go_sem] at hc)))
theorem boxesE_yes {l : List Lod} {most : Int} (h1 : (l.length : Int) ≤ most) (h : ∀ x ∈ l, x.ok) : boxesE l most = 0 := by
 unfold boxesE
 rw [if_neg (by omega), if_neg]
 simp only [Bool.not_eq_true, List.any_eq_false, Bool.not_eq_true', Bool.not_eq_false]
 exact fun x hx => lodOk_yes (h x hx)
theorem crBoxes (b : Bool) (l : List Lod) (most : Int) (hl : l.length ≤ 1000) (hm : (l.length : Int) ≤ most) (h : ∀ x ∈ l, x.ok) : DCall Try.prog 93 [.c (.sl b 4 (rows eLd l)), dI most] [] (dI 0) [] := by
 have := crBoxesG b l most (by omega)
 rwa [boxesE_yes hm h] at this
structure TabF (l : List (Int × Int)) : Prop where
 len : 1 ≤ l.length ∧ l.length ≤ 10
 first : ∀ u, l[0]? = some u → u.1 = 0
 mem : ∀ s ∈ l, (0 ≤ s.1 ∧ s.1 ≤ 10000) ∧ (0 ≤ s.2 ∧ s.2 ≤ 1000)
 step : ∀ (i : Nat) (u v : Int × Int), l[i]? = some u → l[i + 1]? = some v → u.1 < v.1 ∧ v.2 ≤ u.2
structure TabOk (l : List (Int × Int)) (days : Int) : Prop extends TabF l where
 days : 0 ≤ days ∧ days ≤ 10000
theorem crTable (l : List (Int × Int)) (days : Int) (h : TabOk l days) : DCall Try.prog 94 [.c (.sl false 2 (rows eK l)), dI days] [] (.tup [.agg [.c (.sl false 2 (rows eK l)), dI days], dI 0]) [] := by
 have hlen := h.len
 have h1 := crIn true 1 10 [(l.length : Int)] (by simp) (by simp; omega)
 have h2 := crIn true 0 10000 [days] (by simp) (by simpa using h.days)
 obtain ⟨f, hf⟩ := getE (l := l) (i := 0) (by omega)
 have hf0 := h.first f hf
 have hfe : (f.1 != 0) = false := by rw [hf0]; rfl
 refine DCall.of Try.func94 sf94 hb94 (Nat.le_of_ble_eq_true rfl) (okRes_nil fun _ => rfl) ?_; simp only [s94, idxs, Nat.reduceAdd]
 repeat' (first|(with_reducible first|apply qA|apply qB|apply qC|apply qD|apply qE|apply qF)|(refine qL rfl (WF.of ?_) ?_; first|rfl|skip)|(simp (disch:=omega) only [go_sem, simprocAttr, Blk.men, Blk.keysIn, hf, hfe, rF, rG])|exact qM rfl rfl rfl|(refine qG rfl ?_)|(refine qK (h1) (by decide) ?_)|(refine qH rfl ?_)|(refine qI rfl ?_ ?_<;>intro hc<;>(try simp only [go_sem] at hc))|(refine qJ ?_ ?_<;>intro hc<;>(try simp only [hc])<;>(try simp only [go_sem] at hc)))
 refine DW.loop (ι := { i : Nat // i ≤ l.length }) (fun i => ⟨76, [(23, dI i.1), (22, dI l.length), (21, .c (.sl false 2 (rows eK l))), (4, .box 4 0), (0, .c (.sl false 2 (rows eK l))), (1, dI days)], [(4, .box [.c (.v (.slice none 0 0)), dI 0])]⟩) (fun i => l.length - i.1) ⟨0, Nat.zero_le _⟩ ?_ ?_
 ·refine Ent.to ?_ ?_ <;> simp (disch:=omega) only [qR,qS,qT,qU,get,Nat.reduceEqDiff,↓reduceIte,qV,qW,qX,qY,qZ,and_self,dI,i64_in,and_true,true_and,rA,rB,rC,rD]
 rintro ⟨i, hi⟩
 rcases at_or l i hi with ⟨v, hv, hlt, hd⟩ | ⟨he, hd⟩
 ·have hm := h.mem v (List.mem_of_getElem? hv)
  have h3 := crIn true 0 10000 [v.1] (by simp) (by simpa using hm.1)
  have h4 := crIn true 0 1000 [v.2] (by simp) (by simpa using hm.2)
  rcases i with _ | i
  ·have hd0 : decide ((0 : Int) < ((0 : Nat) : Int)) = false := by decide
   have hd' : decide ((0 : Int) < (l.length : Int)) = true := hd
   repeat' (first|(with_reducible first|apply qA|apply qB|apply qC|apply qD|apply qE|apply qF)|(refine qL rfl (WF.of ?_) ?_; first|rfl|skip)|(simp (disch:=omega) only [go_sem, simprocAttr, Blk.men, Blk.keysIn, hd', hv, hd0, rF, rG])|exact qM rfl rfl rfl|(refine qG rfl ?_)|(refine qK (h3) (by decide) ?_)|(refine qK (h4) (by decide) ?_)|(refine qH rfl ?_)|(refine qI rfl ?_ ?_<;>intro hc<;>(try simp only [go_sem] at hc))|(refine qJ ?_ ?_<;>intro hc<;>(try simp only [hc])<;>(try simp only [go_sem] at hc)))
   refine ⟨⟨1, hlt⟩, ?_, Ent.to ?_ ?_⟩ <;> first | (show _ < _; (try simp only); omega) | (simp (disch:=omega) only [qR,qS,qT,qU,get,Nat.reduceEqDiff,↓reduceIte,qV,qW,qX,qY,qZ,and_self,dI,i64_in,and_true,true_and,rA,rB,rC,rD])
  ·have hd0 : decide ((0 : Int) < ((i + 1 : Nat) : Int)) = true := by rw [decide_eq_true_eq]; omega
   obtain ⟨u, hu⟩ := getE (l := l) (i := i) (by omega)
   have hs := h.step i u v hu hv
   have e1 : ((i + 1 : Nat) : Int) - 1 = (i : Int) := by omega
   have d1 : decide (v.1 ≤ u.1) = false := by rw [decide_eq_false_iff_not]; omega
   have d2 : decide (u.2 < v.2) = false := by rw [decide_eq_false_iff_not]; omega
   repeat' (first|(with_reducible first|apply qA|apply qB|apply qC|apply qD|apply qE|apply qF)|(refine qL rfl (WF.of ?_) ?_; first|rfl|skip)|(simp (disch:=omega) only [go_sem, simprocAttr, Blk.men, Blk.keysIn, hd, hv, hd0, hu, e1, d1, d2, rF, rG])|exact qM rfl rfl rfl|(refine qG rfl ?_)|(refine qK (h3) (by decide) ?_)|(refine qK (h4) (by decide) ?_)|(refine qH rfl ?_)|(refine qI rfl ?_ ?_<;>intro hc<;>(try simp only [go_sem] at hc))|(refine qJ ?_ ?_<;>intro hc<;>(try simp only [hc])<;>(try simp only [go_sem] at hc)))
   refine ⟨⟨i + 1 + 1, hlt⟩, ?_, Ent.to ?_ ?_⟩ <;> first | (show _ < _; (try simp only); omega) | (simp (disch:=omega) only [qR,qS,qT,qU,get,Nat.reduceEqDiff,↓reduceIte,qV,qW,qX,qY,qZ,and_self,dI,i64_in,and_true,true_and,rA,rB,rC,rD])
 ·repeat' (first|(with_reducible first|apply qA|apply qB|apply qC|apply qD|apply qE|apply qF)|(refine qL rfl (WF.of ?_) ?_; first|rfl|skip)|(simp (disch:=omega) only [go_sem, simprocAttr, Blk.men, Blk.keysIn, hd])|exact qM rfl rfl rfl|(refine qG rfl ?_)|(refine qK (h2) (by decide) ?_)|(refine qH rfl ?_)|(refine qI rfl ?_ ?_<;>intro hc<;>(try simp only [go_sem] at hc))|(refine qJ ?_ ?_<;>intro hc<;>(try simp only [hc])<;>(try simp only [go_sem] at hc)))
  refine retS_wk rfl ?_ (by simp only [Blk.nb, rowC_nb, D.nb, D.nbs, C.nb, C.nbs, C.nbss, rows_nb eI_nb, Bool.and_true, Bool.not_false, Bool.and_self, bD, dI, iD, rows_nb eK_nb, rows_nb eLd_nb]); exact .tup (.cons (.refl _) (.cons (.refl _) .nil))
def stepOk (l : List (Int × Int)) (j : Nat) : Prop := ∀ v, l[j]? = some v → ((0 ≤ v.1 ∧ v.1 ≤ 10000) ∧ (0 ≤ v.2 ∧ v.2 ≤ 1000)) ∧ ∀ k u, j = k + 1 → l[k]? = some u → u.1 < v.1 ∧ v.2 ≤ u.2
theorem tabF_of {l : List (Int × Int)} (h1 : 1 ≤ l.length ∧ l.length ≤ 10) (h2 : ∀ u, l[0]? = some u → u.1 = 0) (h3 : ∀ j, j < l.length → stepOk l j) : TabF l := by
 refine ⟨h1, h2, fun s hs => ?_, fun i u v hu hv => ?_⟩
 ·obtain ⟨j, hj⟩ := List.mem_iff_getElem?.1 hs
  exact (h3 j (List.getElem?_eq_some_iff.1 hj).1 s hj).1
 ·exact (h3 (i + 1) (List.getElem?_eq_some_iff.1 hv).1 v hv).2 i u rfl hu
def lastI (days : Int) (l : List (Int × Int)) (k : Int) : Int := l.foldl (fun k s => if s.1 ≤ days then s.2 else k) k
theorem lastI_b (days : Int) : ∀ (l : List (Int × Int)) (k : Int), (∀ s ∈ l, 0 ≤ s.2 ∧ s.2 ≤ 1000) → (0 ≤ k ∧ k ≤ 1000) → 0 ≤ lastI days l k ∧ lastI days l k ≤ 1000
 | [], _, _, hk => hk
 | s :: t, k, h, hk => by
  refine lastI_b days t _ (fun x hx => h x (by simp [hx])) ?_
  have := h s (by simp)
  show 0 ≤ (if s.1 ≤ days then s.2 else k) ∧ (if s.1 ≤ days then s.2 else k) ≤ 1000
  split <;> omega
theorem lastI_take (days : Int) {l : List (Int × Int)} {i : Nat} {v : Int × Int} (hv : l[i]? = some v) : lastI days (l.take (i + 1)) 0 = if v.1 ≤ days then v.2 else lastI days (l.take i) 0 := by
 rw [List.take_add_one, hv]
 simp only [lastI, Option.toList_some, List.foldl_append, List.foldl_cons, List.foldl_nil]
theorem tdiv_b {a b : Int} {A : Int} (ha : 0 ≤ a ∧ a ≤ A) (hb : 0 ≤ b) : 0 ≤ a.tdiv b ∧ a.tdiv b ≤ A := by
 rw [Int.tdiv_eq_ediv_of_nonneg ha.1]
 exact ⟨Int.ediv_nonneg ha.1 hb, Int.le_trans (Int.ediv_le_self b ha.1) ha.2⟩
theorem crLast (b : Bool) (l : List (Int × Int)) (days : Int) (hl : l.length ≤ 1000) : DCall Try.prog 119 [.agg [.c (.sl b 2 (rows eK l)), dI days]] [] (dI (lastI days l 0)) [] := by
 refine DCall.of Try.func119 sf119 hb119 (Nat.le_of_ble_eq_true rfl) (okRes_nil fun _ => rfl) ?_; simp only [s119, idxs, Nat.reduceAdd]
 repeat' (first|(with_reducible first|apply qA|apply qB|apply qC|apply qD|apply qE|apply qF)|(simp (disch:=omega) only [go_sem, simprocAttr, Blk.men, Blk.keysIn])|exact qM rfl rfl rfl|(refine qG rfl ?_)|(refine qH rfl ?_)|(refine qI rfl ?_ ?_<;>intro hc<;>(try simp only [go_sem] at hc))|(refine qJ ?_ ?_<;>intro hc<;>(try simp only [hc])<;>(try simp only [go_sem] at hc)))
 refine DW.loop (ι := { i : Nat // i ≤ l.length }) (fun i => ⟨21, [(8, dI i.1), (7, dI l.length), (6, .c (.sl b 2 (rows eK l))), (2, dI (lastI days (l.take i.1) 0)), (1, .box 1 0)], [(1, .box [.c (.sl b 2 (rows eK l)), dI days])]⟩) (fun i => l.length - i.1) ⟨0, Nat.zero_le _⟩ ?_ ?_
 ·refine Ent.to ?_ ?_ <;> simp (disch:=omega) only [qR,qS,qT,qU,get,Nat.reduceEqDiff,↓reduceIte,qV,qW,qX,qY,qZ,and_self,dI,i64_in,and_true,true_and,rA,rB,rC,rD,lastI,List.take_zero,List.foldl_nil]
 rintro ⟨i, hi⟩
 rcases at_or l i hi with ⟨v, hv, hlt, hd⟩ | ⟨he, hd⟩
 ·have hnx := lastI_take days hv
  cases hc : decide (v.1 ≤ days) with
  | true =>
   rw [if_pos (of_decide_eq_true hc)] at hnx
   repeat' (first|(with_reducible first|apply qA|apply qB|apply qC|apply qD|apply qE|apply qF)|(simp (disch:=omega) only [go_sem, simprocAttr, Blk.men, Blk.keysIn, hd, hv, hc, rF, rG])|exact qM rfl rfl rfl|(refine qG rfl ?_)|(refine qH rfl ?_)|(refine qI rfl ?_ ?_<;>intro hc<;>(try simp only [go_sem] at hc))|(refine qJ ?_ ?_<;>intro hc<;>(try simp only [hc])<;>(try simp only [go_sem] at hc)))
   refine ⟨⟨i + 1, hlt⟩, ?_, Ent.to ?_ ?_⟩ <;> first | (show _ < _; (try simp only); omega) | (simp (disch:=omega) only [qR,qS,qT,qU,get,Nat.reduceEqDiff,↓reduceIte,qV,qW,qX,qY,qZ,and_self,dI,i64_in,and_true,true_and,rA,rB,rC,rD, hnx])
  | false =>
   rw [if_neg (of_decide_eq_false hc)] at hnx
   repeat' (first|(with_reducible first|apply qA|apply qB|apply qC|apply qD|apply qE|apply qF)|(simp (disch:=omega) only [go_sem, simprocAttr, Blk.men, Blk.keysIn, hd, hv, hc, rF, rG])|exact qM rfl rfl rfl|(refine qG rfl ?_)|(refine qH rfl ?_)|(refine qI rfl ?_ ?_<;>intro hc<;>(try simp only [go_sem] at hc))|(refine qJ ?_ ?_<;>intro hc<;>(try simp only [hc])<;>(try simp only [go_sem] at hc)))
   refine ⟨⟨i + 1, hlt⟩, ?_, Ent.to ?_ ?_⟩ <;> first | (show _ < _; (try simp only); omega) | (simp (disch:=omega) only [qR,qS,qT,qU,get,Nat.reduceEqDiff,↓reduceIte,qV,qW,qX,qY,qZ,and_self,dI,i64_in,and_true,true_and,rA,rB,rC,rD, hnx])
 ·repeat' (first|(with_reducible first|apply qA|apply qB|apply qC|apply qD|apply qE|apply qF)|(simp (disch:=omega) only [go_sem, simprocAttr, Blk.men, Blk.keysIn, hd])|exact qM rfl rfl rfl|(refine qG rfl ?_)|(refine qH rfl ?_)|(refine qI rfl ?_ ?_<;>intro hc<;>(try simp only [go_sem] at hc))|(refine qJ ?_ ?_<;>intro hc<;>(try simp only [hc])<;>(try simp only [go_sem] at hc)))
  refine retS_of rfl ?_ rfl; simp only [oneD, St.op, get, Nat.reduceEqDiff, ↓reduceIte, Option.getD_some, bD, dI]
  rw [he, List.take_length]
def bearsI (b : Lod) (k : Int) : Int := (b.sl * k).tdiv 1000
theorem crBears (b : Lod) (h : b.ok) (k : Int) (hk : 0 ≤ k ∧ k ≤ 1000) : DCall Try.prog 118 [.agg ((eLd b).map D.c), dI k] [] (dI (bearsI b k)) [] := by
 have hs := h.strong
 have hm := mulB0 (a := b.sl) (b := k) (A := 20000000) (B := 1000) (by omega) hk
 have hq := tdiv_b (b := 1000) (A := 20000000000) (a := b.sl * k) (by omega) (by decide)
 unfold bearsI
 refine DCall.of Try.func118 sf118 hb118 (Nat.le_of_ble_eq_true rfl) (okRes_nil fun _ => rfl) ?_; simp only [s118, idxs, Nat.reduceAdd]
 repeat' (first|(with_reducible first|apply qA|apply qB|apply qC|apply qD|apply qE|apply qF)|(simp (disch:=omega) only [go_sem, simprocAttr, Blk.men, Blk.keysIn, rF, rG])|exact qM rfl rfl rfl|(refine qG rfl ?_)|(refine qH rfl ?_)|(refine qI rfl ?_ ?_<;>intro hc<;>(try simp only [go_sem] at hc))|(refine qJ ?_ ?_<;>intro hc<;>(try simp only [hc])<;>(try simp only [go_sem] at hc)))
def highI (b : Lod) (l : List (Int × Int)) (days : Int) : Int := if b.wh = 0 then 50 else if 1 + (bearsI b (lastI days l 0)).tdiv b.wh < 50 then 1 + (bearsI b (lastI days l 0)).tdiv b.wh else 50
theorem crHigh (b : Lod) (h : b.ok) (l : List (Int × Int)) (days : Int) (ht : TabOk l days) : DCall Try.prog 91 [.agg ((eLd b).map D.c), .c (.sl false 2 (rows eK l)), dI days] [] (.tup [dI (highI b l days), dI 0]) [] := by
 have h1 := crBoxes true [b] 1 (by simp) (by simp) (by simpa using h)
 have h2 := crTable l days ht
 have h3 := crLast false l days (by have := ht.len; omega)
 have hk := lastI_b days l 0 (fun s hs => (ht.mem s hs).2) (by decide)
 have h4 := crBears b h (lastI days l 0) hk
 have hs := h.strong
 have hw := h.weight
 unfold highI
 have hbb : 0 ≤ bearsI b (lastI days l 0) ∧ bearsI b (lastI days l 0) ≤ 20000000000 := by
  have hm := mulB0 (a := b.sl) (b := lastI days l 0) (A := 20000000) (B := 1000) (by omega) hk
  exact tdiv_b (by omega) (by decide)
 generalize lastI days l 0 = k at *
 generalize bearsI b k = be at *
 by_cases h0 : b.wh = 0
 ·have he : (b.wh == 0) = true := by rw [h0]; rfl
  rw [if_pos h0]
  refine DCall.of Try.func91 sf91 hb91 (Nat.le_of_ble_eq_true rfl) (okRes_nil fun _ => rfl) ?_; simp only [s91, idxs, Nat.reduceAdd]
  repeat' (first|(with_reducible first|apply qA|apply qB|apply qC|apply qD|apply qE|apply qF)|(refine qL rfl (WF.of ?_) ?_; first|rfl|skip)|(simp (disch:=omega) only [go_sem, simprocAttr, Blk.men, Blk.keysIn, rF, rG, he])|exact qM rfl rfl rfl|(refine qG rfl ?_)|(refine qK (h1) (by decide) ?_)|(refine qK (h2) (by decide) ?_)|(refine qH rfl ?_)|(refine qI rfl ?_ ?_<;>intro hc<;>(try simp only [go_sem] at hc))|(refine qJ ?_ ?_<;>intro hc<;>(try simp only [hc])<;>(try simp only [go_sem] at hc)))
 ·have he : (b.wh == 0) = false := by rw [beq_eq_false_iff_ne]; exact h0
  have hz : (b.wh = 0) = False := eq_false h0
  have hq := tdiv_b (b := b.wh) hbb (by omega)
  rw [if_neg h0]
  refine DCall.of Try.func91 sf91 hb91 (Nat.le_of_ble_eq_true rfl) (okRes_nil fun _ => rfl) ?_; simp only [s91, idxs, Nat.reduceAdd]
  repeat' (first|(with_reducible first|apply qA|apply qB|apply qC|apply qD|apply qE|apply qF)|(refine qL rfl (WF.of ?_) ?_; first|rfl|skip)|(simp (disch:=omega) only [go_sem, simprocAttr, Blk.men, Blk.keysIn, rF, rG, he, hz])|exact qM rfl rfl rfl|(refine qG rfl ?_)|(refine qK (h1) (by decide) ?_)|(refine qK (h2) (by decide) ?_)|(refine qK (h3) (by decide) ?_)|(refine qK (h4) (by decide) ?_)|(refine qH rfl ?_)|(refine qI rfl ?_ ?_<;>intro hc<;>(try simp only [go_sem] at hc))|(refine qJ ?_ ?_<;>intro hc<;>(try simp only [hc])<;>(try simp only [go_sem] at hc)))
end Go.Dw.Seat
end
section
set_option linter.unusedSimpArgs false
set_option maxRecDepth 100000
namespace Go.Dw.Seat
open Go Go.Dw Go.Proofs Go.IntWalk
def newt (n : Int) : Int := (n + 99) / 100
theorem plNewton (n : Int) (h : 0 ≤ n ∧ n ≤ 5000000) : DCall Try.prog 92 [dI n] [] (dI (newt n)) [] := by
 have ht : Int.tdiv (n + 99) 100 = (n + 99) / 100 := Int.tdiv_eq_ediv_of_nonneg (by omega)
 unfold newt
 refine DCall.of Try.func92 sf92 hb92 (Nat.le_of_ble_eq_true rfl) (okRes_nil fun _ => rfl) ?_; simp only [s92, idxs, Nat.reduceAdd]
 repeat' (first|(with_reducible first|apply qA|apply qB|apply qC|apply qD|apply qE|apply qF)|(simp (disch:=omega) only [go_sem, simprocAttr, qN, qO, qP, qQ, ht])|exact qM rfl rfl rfl|(refine qG rfl ?_)|(refine qH rfl ?_)|(refine qI rfl ?_ ?_<;>intro hc<;>(try simp only [go_sem] at hc))|(refine qJ ?_ ?_<;>intro hc<;>(try simp only [hc])<;>(try simp only [go_sem] at hc)))
def lodF (b : PBx) : Lod := ⟨b.sl, b.sh, newt b.wl, newt b.wh⟩
theorem lodF_ok {b : PBx} (hb : b.ok) : (lodF b).ok := by
 have h1 := hb.w
 have h2 := hb.s
 refine ⟨h2, ?_⟩
 simp only [lodF, newt]
 omega
def layI (p : PBs) (b : PBx) (n : Int) (hg : Int) : Int :=
 if 0 < n * b.wh then min (min (min 30 hg) (max 0 (p.top - p.hi) / b.hi)) (p.load / (n * b.wh)) else min (min 30 hg) (max 0 (p.top - p.hi) / b.hi)
set_option maxHeartbeats 4000000 in
theorem plLayersX (p : PBs) (b : PBx) (l : List PPl) (hl : l.length ≤ 2 ^ 36) (keep : List (Int × Int)) (days : Int) (ht : TabOk keep days) : DCall Try.prog 52 [bsD p, bxD b, lyD false l, .c (.sl false 2 (rows eK keep)), dI days] [] (.tup [dI (if rgtE p b [l] = 0 ∧ l ≠ [] then layI p b l.length (highI (lodF b) keep days) else 0), dI (if rgtE p b [l] ≠ 0 then rgtE p b [l] else if l = [] then 7 else 0)]) [] := by
 have h3 := plRight true p b [l] (by simp) (by simpa using hl)
 rw [one_ls] at h3
 by_cases hr : rgtE p b [l] = 0
 case neg =>
  rw [if_neg (fun h => hr h.1), if_pos hr]
  generalize rgtE p b [l] = e at *
  have hd : (e != 0) = true := by simpa using hr
  by_cases hc : chkE p b = 0
  ·rw [if_pos hc] at h3
   refine DCall.of Try.func52 sf52 hb52 (Nat.le_of_ble_eq_true rfl) (okRes_nil fun _ => rfl) ?_; simp only [s52, idxs, Nat.reduceAdd]
   repeat' (first|(with_reducible first|apply qA|apply qB|apply qC|apply qD|apply qE|apply qF)|(refine qL rfl (WF.of ?_) ?_; first|rfl|skip)|(simp (disch:=omega) only [go_sem, simprocAttr, qN, qO, qP, qQ, hd])|exact qM rfl rfl rfl|(refine qG rfl ?_)|(refine qK (h3) (by decide) ?_)|(refine qH rfl ?_)|(refine qI rfl ?_ ?_<;>intro hc<;>(try simp only [go_sem] at hc))|(refine qJ ?_ ?_<;>intro hc<;>(try simp only [hc])<;>(try simp only [go_sem] at hc)))
  ·rw [if_neg hc] at h3
   refine DCall.of Try.func52 sf52 hb52 (Nat.le_of_ble_eq_true rfl) (okRes_nil fun _ => rfl) ?_; simp only [s52, idxs, Nat.reduceAdd]
   repeat' (first|(with_reducible first|apply qA|apply qB|apply qC|apply qD|apply qE|apply qF)|(refine qL rfl (WF.of ?_) ?_; first|rfl|skip)|(simp (disch:=omega) only [go_sem, simprocAttr, qN, qO, qP, qQ, hd])|exact qM rfl rfl rfl|(refine qG rfl ?_)|(refine qK (h3) (by decide) ?_)|(refine qH rfl ?_)|(refine qI rfl ?_ ?_<;>intro hc<;>(try simp only [go_sem] at hc))|(refine qJ ?_ ?_<;>intro hc<;>(try simp only [hc])<;>(try simp only [go_sem] at hc)))
 obtain ⟨ho, hli⟩ := rgt_op hr
 obtain ⟨⟨hc, hy⟩, hp, hb⟩ := op_ok ho
 have k1 := ly_ok hy l (by simp)
 rw [hr, if_pos hc] at h3
 rw [hr]
 by_cases hn : l = []
 ·rw [if_neg (fun h => h.2 hn), if_neg (by simp), if_pos hn]
  have hd : ((l.length : Int) == 0) = true := by rw [hn]; rfl
  refine DCall.of Try.func52 sf52 hb52 (Nat.le_of_ble_eq_true rfl) (okRes_nil fun _ => rfl) ?_; simp only [s52, idxs, Nat.reduceAdd]
  repeat' (first|(with_reducible first|apply qA|apply qB|apply qC|apply qD|apply qE|apply qF)|(refine qL rfl (WF.of ?_) ?_; first|rfl|skip)|(simp (disch:=omega) only [go_sem, simprocAttr, qN, qO, qP, qQ, hd])|exact qM rfl rfl rfl|(refine qG rfl ?_)|(refine qK (h3) (by decide) ?_)|(refine qH rfl ?_)|(refine qI rfl ?_ ?_<;>intro hc<;>(try simp only [go_sem] at hc))|(refine qJ ?_ ?_<;>intro hc<;>(try simp only [hc])<;>(try simp only [go_sem] at hc)))
 have hnl : 0 < l.length := List.length_pos_iff.2 hn
 rw [if_pos ⟨rfl, hn⟩, if_neg (by simp), if_neg hn]
 have hd : ((l.length : Int) == 0) = false := by rw [beq_eq_false_iff_ne]; omega
 have hw := hb.w
 have hhi := hb.hi
 have hph := hp.hi
 have hpt := hp.top
 have hpl := hp.load
 have n1 := plNewton b.wl (by omega)
 have n2 := plNewton b.wh (by omega)
 have hH := crHigh (lodF b) (lodF_ok hb) keep days ht
 simp only [lodF, eLd, List.map_cons, List.map_nil] at hH
 generalize hhg : highI (lodF b) keep days = hg
 rw [show highI ⟨b.sl, b.sh, newt b.wl, newt b.wh⟩ keep days = hg from hhg] at hH
 have hz : (b.hi = 0) = False := eq_false (by omega)
 have hm0 : 0 ≤ (l.length : Int) * b.wh := Int.mul_nonneg (by omega) (by omega)
 have hm1 : (l.length : Int) * b.wh ≤ 200 * 5000000 := Int.mul_le_mul (by omega) (by omega) (by omega) (by omega)
 have w1 : IntKind.i64.wrap ((l.length : Int) * b.wh) = (l.length : Int) * b.wh := IntWalk.i64_in _ (by omega)
 have t1 : Int.tdiv (max 0 (p.top - p.hi)) b.hi = max 0 (p.top - p.hi) / b.hi := Int.tdiv_eq_ediv_of_nonneg (by omega)
 have q1 : 0 ≤ max 0 (p.top - p.hi) / b.hi := Int.ediv_nonneg (by omega) (by omega)
 have q2 : max 0 (p.top - p.hi) / b.hi ≤ max 0 (p.top - p.hi) := Int.ediv_le_self _ (by omega)
 have w2 : IntKind.i64.wrap (max 0 (p.top - p.hi) / b.hi) = max 0 (p.top - p.hi) / b.hi := IntWalk.i64_in _ (by omega)
 unfold layI
 by_cases h0 : 0 < (l.length : Int) * b.wh
 ·have d0 : decide (0 < (l.length : Int) * b.wh) = true := decide_eq_true h0
  have hz2 : ((l.length : Int) * b.wh = 0) = False := eq_false (by omega)
  have t2 : Int.tdiv p.load ((l.length : Int) * b.wh) = p.load / ((l.length : Int) * b.wh) := Int.tdiv_eq_ediv_of_nonneg (by omega)
  have q3 : 0 ≤ p.load / ((l.length : Int) * b.wh) := Int.ediv_nonneg (by omega) (by omega)
  have q4 : p.load / ((l.length : Int) * b.wh) ≤ p.load := Int.ediv_le_self _ (by omega)
  have w3 : IntKind.i64.wrap (p.load / ((l.length : Int) * b.wh)) = p.load / ((l.length : Int) * b.wh) := IntWalk.i64_in _ (by omega)
  rw [if_pos h0]
  refine DCall.of Try.func52 sf52 hb52 (Nat.le_of_ble_eq_true rfl) (okRes_nil fun _ => rfl) ?_; simp only [s52, idxs, Nat.reduceAdd]
  repeat' (first|(with_reducible first|apply qA|apply qB|apply qC|apply qD|apply qE|apply qF)|(refine qL rfl (WF.of ?_) ?_; first|rfl|skip)|(simp (disch:=omega) only [go_sem, simprocAttr, qN, qO, qP, qQ, hd, d0, hz, hz2, w1, w2, w3, t1, t2, min_if, max_if, rF, rG])|exact qM rfl rfl rfl|(refine qG rfl ?_)|(refine qK (h3) (by decide) ?_)|(refine qK (n1) (by decide) ?_)|(refine qK (n2) (by decide) ?_)|(refine qK (hH) (by decide) ?_)|(refine qH rfl ?_)|(refine qI rfl ?_ ?_<;>intro hc<;>(try simp only [go_sem] at hc))|(refine qJ ?_ ?_<;>intro hc<;>(try simp only [hc])<;>(try simp only [go_sem] at hc)))
  skip
 ·have d0 : decide (0 < (l.length : Int) * b.wh) = false := decide_eq_false h0
  rw [if_neg h0]
  refine DCall.of Try.func52 sf52 hb52 (Nat.le_of_ble_eq_true rfl) (okRes_nil fun _ => rfl) ?_; simp only [s52, idxs, Nat.reduceAdd]
  repeat' (first|(with_reducible first|apply qA|apply qB|apply qC|apply qD|apply qE|apply qF)|(refine qL rfl (WF.of ?_) ?_; first|rfl|skip)|(simp (disch:=omega) only [go_sem, simprocAttr, qN, qO, qP, qQ, hd, d0, hz, w1, w2, t1, min_if, max_if, rF, rG])|exact qM rfl rfl rfl|(refine qG rfl ?_)|(refine qK (h3) (by decide) ?_)|(refine qK (n1) (by decide) ?_)|(refine qK (n2) (by decide) ?_)|(refine qK (hH) (by decide) ?_)|(refine qH rfl ?_)|(refine qI rfl ?_ ?_<;>intro hc<;>(try simp only [go_sem] at hc))|(refine qJ ?_ ?_<;>intro hc<;>(try simp only [hc])<;>(try simp only [go_sem] at hc)))
  skip
end Go.Dw.Seat
end
section
set_option linter.unusedSimpArgs false
set_option maxRecDepth 100000
namespace Go.Dw.Seat
open Go Go.Dw Go.Proofs Go.IntWalk
def cells (xs : List Int) : List D := xs.map fun x => dI x
def tops (m : Nat) : List D := List.replicate m .top
theorem cells_get {xs : List Int} {m i : Nat} (h : i < xs.length) : (cells xs ++ tops m)[i]? = some (dI (xs.getD i 0)) := by
 rw [List.getElem?_append_left (by simpa [cells] using h), cells, List.getElem?_map, List.getElem?_eq_getElem h, List.getD_eq_getElem?_getD, List.getElem?_eq_getElem h]
 rfl
theorem cells_set {xs : List Int} {m i : Nat} (h : i < xs.length) (v : Int) : (cells xs ++ tops m).set i (D.c (.v (.int .i64 v))) = cells (xs.set i v) ++ tops m := by
 rw [List.set_append_left _ _ (by simpa [cells] using h), cells, cells, List.map_set]
theorem cells_spl {xs : List Int} {m i : Nat} (h : i < xs.length) (v : Int) : List.take i (cells xs ++ tops m) ++ [D.c (.v (.int .i64 v))] ++ List.drop (i + 1) (cells xs ++ tops m) = cells (xs.set i v) ++ tops m := by
 rw [← cells_set h, List.set_eq_take_append_cons_drop, if_pos (by rw [List.length_append]; have : (cells xs).length = xs.length := (by simp [cells]); omega), List.append_assoc]; rfl
theorem cells_len (xs : List Int) (m : Nat) : (cells xs ++ tops m).length = xs.length + m := by simp [cells, tops]
theorem cells_men (j : Nat) (xs : List Int) (m : Nat) : D.mens j (cells xs ++ tops m) = false := by
 induction xs with
 | nil =>
  show D.mens j (tops m) = false
  induction m with
  | zero => rfl
  | succ m ih => simpa [tops, List.replicate_succ, D.mens, D.men] using ih
 | cons x xs ih => simpa [cells, D.mens, D.men, dI] using ih
theorem cells_nb (xs : List Int) (m : Nat) : D.nbs (cells xs ++ tops m) = true := by
 induction xs with
 | nil =>
  show D.nbs (tops m) = true
  induction m with
  | zero => rfl
  | succ m ih => simp only [tops, List.replicate_succ, D.nbs, Bool.and_eq_true]; exact ⟨rfl, ih⟩
 | cons x xs ih => simp only [cells, List.map_cons, List.cons_append, D.nbs, Bool.and_eq_true]; exact ⟨rfl, ih⟩
theorem cells_keys (bx : List (Nat × Blk)) (xs : List Int) (m : Nat) : D.keysIns bx (cells xs ++ tops m) = true := by
 induction xs with
 | nil =>
  show D.keysIns bx (tops m) = true
  induction m with
  | zero => rfl
  | succ m ih => simpa [tops, List.replicate_succ, D.keysIns, D.keysIn] using ih
 | cons x xs ih => simpa [cells, D.keysIns, D.keysIn, dI] using ih
theorem bk_pbx (bx : List (Nat × Blk)) (l : Nat) (ds : List D) : Blk.keysIn bx (.pbox l ds) = D.keysIns bx ds := rfl
theorem bm_pbx (k l : Nat) (ds : List D) : Blk.men k (.pbox l ds) = D.mens k ds := rfl
attribute [go_sem] cells_keys bk_pbx bm_pbx cells_men
theorem flatI (xs : List Int) : (rowC (rows eI xs)).flatten = cells xs := by
 induction xs with
 | nil => rfl
 | cons x xs ih => simp only [rows, rowC, List.map_cons, List.flatten_cons] at ih ⊢; rw [ih]; rfl
def swp1 (xs : List Int) (i j : Nat) : List Int := (xs.set i (xs.getD j 0)).set j (xs.getD i 0)
def swpN (lo L : Nat) : Nat → List Int → List Int
 | 0, xs => xs
 | k + 1, xs => swp1 (swpN lo L k xs) (lo + k) (lo + L - 1 - k)
theorem swpN_len (lo L : Nat) (xs : List Int) : ∀ k, (swpN lo L k xs).length = xs.length
 | 0 => rfl
 | k + 1 => by rw [swpN, swp1, List.length_set, List.length_set, swpN_len lo L xs k]
def revF (lo L : Nat) (xs : List Int) : List Int := swpN lo L (L / 2) xs
theorem pb_ok (k l : Nat) (xs : List Int) (m : Nat) : okRes (.tup []) [(k, .pbox l (cells xs ++ tops m))] := by
 refine ⟨fun _ _ => rfl, fun j x hj i _ => ?_⟩
 simp only [get] at hj
 split at hj
 ·cases hj; exact cells_men i xs m
 ·cases hj
theorem pb_nb (k l : Nat) (xs : List Int) (m : Nat) {j : Nat} {x : Blk} (hk : get j [(k, Blk.pbox l (cells xs ++ tops m))] = some x) : j = k ∧ x = .pbox l (cells xs ++ tops m) ∧ x.nb = true := by
 simp only [get] at hk
 split at hk
 ·rename_i e; cases hk; exact ⟨e, rfl, cells_nb xs m⟩
 ·cases hk
theorem plReverse (l lo L cap m : Nat) (xs : List Int) (hx : xs.length ≤ 7) (hl : lo + L = xs.length) (hc : L ≤ cap) : DCall Try.prog 112 [.c (.v (.slice (some ⟨l, lo, none⟩) L cap))] [(9, .pbox l (cells xs ++ tops m))] (.tup []) [(9, .pbox l (cells (revF lo L xs) ++ tops m))] := by
 refine DCall.of Try.func112 sf112 hb112 (Nat.le_of_ble_eq_true rfl) (pb_ok _ _ _ _) ?_
 simp only [s112, o112_0, o112_1, o112_2, o112_3, o112_4, o112_5, o112_6, o112_7, o112_8, o112_9, o112_10, o112_11, o112_12, o112_13, o112_14, o112_15, idxs, Nat.reduceAdd]
 repeat' (first|(with_reducible first|apply qA|apply qB|apply qC|apply qD|apply qE|apply qF)|(refine DW.ord rfl (WF.of (by first|rfl|simp (disch:=omega) only [go_sem, simprocAttr, qN, qO, qP, qQ])) ?_ ?_ ?_; rotate_left)|rfl|(with_reducible refine And.intro ?_ ?_)|(simp (disch:=omega) only [go_sem, simprocAttr, qN, qO, qP, qQ])|exact qM rfl rfl rfl|(refine qG rfl ?_)|(refine qH rfl ?_)|(refine qI rfl ?_ ?_<;>intro hc<;>(try simp only [go_sem] at hc))|(refine qJ ?_ ?_<;>intro hc<;>(try simp only [hc])<;>(try simp only [go_sem] at hc)))
 refine DW.loop (ι := { i : Nat // i ≤ L / 2 }) (fun i => ⟨28, [(3, dI ((L : Int) - 1 - i.1)), (2, dI i.1), (0, .c (.v (.slice (some ⟨l, lo, none⟩) L cap)))], [(9, .pbox l (cells (swpN lo L i.1 xs) ++ tops m))]⟩) (fun i => L / 2 - i.1) ⟨0, Nat.zero_le _⟩ ?_ ?_
 ·refine Ent.to ?_ ?_ <;> simp (disch:=omega) only [qR,qS,qT,qU,get,Nat.reduceEqDiff,↓reduceIte,qV,qW,qX,qY,qZ,and_self,dI,i64_in,and_true,true_and,rA,rB,rC,rD,swpN,Int.sub_zero]
  all_goals first | exact ⟨.refl _, .refl _, .refl _⟩ | exact ⟨.refl _, .refl _⟩ | exact .refl _
 rintro ⟨i, hi⟩
 dsimp only
 by_cases hlt : i < L / 2
 ·have hj : (L : Int) - 1 - (i : Int) = ((L - 1 - i : Nat) : Int) := by omega
  have hd : decide ((i : Int) < ((L - 1 - i : Nat) : Int)) = true := decide_eq_true (by omega)
  have hlen := swpN_len lo L xs i
  have hst : swpN lo L (i + 1) xs = swp1 (swpN lo L i xs) (lo + i) (lo + L - 1 - i) := rfl
  have hjj : lo + L - 1 - i = lo + (L - 1 - i) := by omega
  rw [hjj] at hst
  have h1 := cells_get (xs := swpN lo L i xs) (m := m) (i := lo + i) (by omega)
  have h2 := cells_get (xs := swpN lo L i xs) (m := m) (i := lo + (L - 1 - i)) (by omega)
  have h3 := cells_len (swpN lo L i xs) m
  generalize swpN lo L i xs = ys at *
  have h4 := fun v => cells_spl (xs := ys) (m := m) (i := lo + i) (by omega) v
  have h5 := fun v w => cells_spl (xs := ys.set (lo + i) v) (m := m) (i := lo + (L - 1 - i)) (by rw [List.length_set]; omega) w
  have h6 := fun v => cells_get (xs := ys.set (lo + i) v) (m := m) (i := lo + (L - 1 - i)) (by rw [List.length_set]; omega)
  have h7 := fun v => cells_len (ys.set (lo + i) v) m
  have b1 : (i < L) = True := eq_true (by omega)
  have b2 : (L - 1 - i < L) = True := eq_true (by omega)
  have c1 : (lo + i + 1 ≤ ys.length + m) = True := eq_true (by omega)
  have c2 : (lo + (L - 1 - i) + 1 ≤ ys.length + m) = True := eq_true (by omega)
  rw [hj]
  generalize L - 1 - i = j at *
  repeat' (first|(with_reducible first|apply qA|apply qB|apply qC|apply qD|apply qE|apply qF)|(refine DW.ord rfl (WF.of (by first|rfl|simp (disch:=omega) only [go_sem, simprocAttr, qN, qO, qP, qQ, Nat.mul_one, hd, h1, h2, h3, h4, h5, h6, h7, b1, b2, c1, c2, List.length_set])) ?_ ?_ ?_; rotate_left)|rfl|(with_reducible refine And.intro ?_ ?_)|(simp (disch:=omega) only [go_sem, simprocAttr, qN, qO, qP, qQ, Nat.mul_one, hd, h1, h2, h3, h4, h5, h6, h7, b1, b2, c1, c2, List.length_set])|exact qM rfl rfl rfl|(refine qG rfl ?_)|(refine qH rfl ?_)|(refine qI rfl ?_ ?_<;>intro hc<;>(try simp only [go_sem] at hc))|(refine qJ ?_ ?_<;>intro hc<;>(try simp only [hc])<;>(try simp only [go_sem] at hc)))
  have hst2 : swpN lo L (i + 1) xs = (ys.set (lo + i) (ys.getD (lo + j) 0)).set (lo + j) (ys.getD (lo + i) 0) := hst
  have hj2 : (L : Int) - 1 - ((i + 1 : Nat) : Int) = (j : Int) - 1 := by omega
  refine ⟨⟨i + 1, by omega⟩, (by show _ < _; (try simp only); omega), Ent.to ?_ ?_⟩
  ·dsimp only
   rw [hj2]
   simp (disch:=omega) only [qR,qS,qT,qU,get,Nat.reduceEqDiff,↓reduceIte,qV,qW,qX,qY,qZ,and_self,dI,i64_in,and_true,true_and,rA,rB,rC,rD]
  ·dsimp only
   rw [hst2]
   simp (disch:=omega) only [qR,qS,qT,qU,get,Nat.reduceEqDiff,↓reduceIte,qV,qW,qX,qY,qZ,and_self,dI,i64_in,and_true,true_and,rA,rB,rC,rD]
 ·have hd : decide ((i : Int) < (L : Int) - 1 - (i : Int)) = false := decide_eq_false (by omega)
  obtain rfl : i = L / 2 := by omega
  rw [revF]
  repeat' (first|(with_reducible first|apply qA|apply qB|apply qC|apply qD|apply qE|apply qF)|(refine DW.ord rfl (WF.of (by first|rfl|simp (disch:=omega) only [go_sem, simprocAttr, qN, qO, qP, qQ, hd])) ?_ ?_ ?_; rotate_left)|rfl|(with_reducible refine And.intro ?_ ?_)|(simp (disch:=omega) only [go_sem, simprocAttr, qN, qO, qP, qQ, hd])|exact qM rfl rfl rfl|(refine qG rfl ?_)|(refine qH rfl ?_)|(refine qI rfl ?_ ?_<;>intro hc<;>(try simp only [go_sem] at hc))|(refine qJ ?_ ?_<;>intro hc<;>(try simp only [hc])<;>(try simp only [go_sem] at hc)))
  exact ⟨.inr rfl, _, [], Ent.refl _, rfl, .refl _, rfl, fun j x hj => by
   obtain ⟨rfl, rfl, hn⟩ := pb_nb 9 l _ m hj
   exact ⟨by simp (disch:=omega) only [go_sem,simprocAttr,qN,qO,qP,qQ], hn⟩⟩
end Go.Dw.Seat
end
section
set_option linter.unusedSimpArgs false
set_option maxRecDepth 100000
namespace Go.Dw.Seat
open Go Go.Dw Go.Proofs Go.IntWalk
def dscF (xs : List Int) : Nat → Nat
 | 0 => 0
 | c + 1 => if xs.getD (c + 1) 0 < xs.getD c 0 then dscF xs c else c + 1
def ascF (xs : List Int) (v : Int) : Nat → Nat
 | 0 => 0
 | j + 1 => if xs.getD (j + 1) 0 < v then ascF xs v j else j + 1
def nxtP (xs : List Int) : Option (List Int) := match dscF xs (xs.length - 1) with
 | 0 => none
 | i + 1 => some (revF (i + 1) (xs.length - (i + 1)) (swp1 xs i (ascF xs (xs.getD i 0) (xs.length - 1))))
def goP : Nat → List Int → List (List Int)
 | 0, _ => []
 | f + 1, xs => xs :: match nxtP xs with
  | none => []
  | some ys => goP f ys
def okP (n : Nat) : Nat → List Int → Bool
 | 0, _ => false
 | f + 1, xs => (xs.length == n && xs.all (fun x => decide (0 ≤ x) && decide (x < n))) && (match dscF xs (n - 1) with | 0 => true | i + 1 => decide (i + 1 < n) && decide (i < ascF xs (xs.getD i 0) (n - 1))) && match nxtP xs with
  | none => true
  | some ys => okP n f ys
def upN (n : Nat) : List Int := (List.range n).map fun i : Nat => (i : Int)
theorem upN_ok : ∀ n : Fin 7, okP n.1 721 (upN n.1) = true := by decide +kernel
theorem upN_succ (n : Nat) : upN (n + 1) = upN n ++ [(n : Int)] := by simp [upN, List.range_succ]
theorem upN_len (n : Nat) : (upN n).length = n := by simp [upN]
def enO (l : List Int) : List D := [dIs true l]
theorem plOrders0 (n : Nat) : DCall Try.prog 81 [dI n] [] (.fn (.func 111) [] [.c (.ro false [.v (.int .i64 n)] 0)]) [] := by
 refine DCall.of Try.func81 sf81 hb81 (Nat.le_of_ble_eq_true rfl) (okRes_nil fun _ => rfl) ?_; simp only [s81, idxs, Nat.reduceAdd]
 repeat' (first|(with_reducible first|apply qA|apply qB|apply qC|apply qD|apply qE|apply qF)|(refine DW.ord rfl (WF.of (by first|rfl|simp (disch:=omega) only [go_sem, simprocAttr, qN, qO, qP, qQ])) ?_ ?_ ?_; rotate_left)|rfl|(with_reducible refine And.intro ?_ ?_)|(simp (disch:=omega) only [go_sem, simprocAttr, qN, qO, qP, qQ])|exact qM rfl rfl rfl|(refine qG rfl ?_)|(refine qH rfl ?_)|(refine qI rfl ?_ ?_<;>intro hc<;>(try simp only [go_sem] at hc))|(refine qJ ?_ ?_<;>intro hc<;>(try simp only [hc])<;>(try simp only [go_sem] at hc)))
 (refine retS_ent (Ent.rel 1 rfl) ?_; simp (disch:=omega) only [go_sem,simprocAttr,qN,qO,qP,qQ])
 refine retS_wk rfl ?_ (by simp only [Blk.nb, rowC_nb, D.nb, D.nbs, C.nb, C.nbs, C.nbss, rows_nb eI_nb, Bool.and_true, Bool.not_false, Bool.and_self, bD, dI, iD]); exact .refl _
theorem del_none {k : Nat} : ∀ {l : List (Nat × Blk)}, get k l = none → del k l = l
 | [], _ => rfl
 | p :: l, h => by
  simp only [get] at h
  split at h
  ·cases h
  ·rename_i hne
   simp only [del]
   rw [if_neg (fun e => hne (by first | exact e | exact e.symm)), del_none h]
end Go.Dw.Seat
end
section
set_option linter.unusedSimpArgs false
set_option maxRecDepth 100000
namespace Go.Dw.Seat
open Go Go.Dw Go.Proofs Go.IntWalk
theorem rowI_len (xs : List Int) : (rowC (rows eI xs)).length = xs.length := by simp [rowC, rows]
theorem los_map (cs : List C) : D.los (cs.map D.c) = true := by
 induction cs with
 | nil => rfl
 | cons c cs ih => simp only [List.map_cons, D.los, D.lo, ih, Bool.and_self]
theorem lo_row (es : List (List C)) (n : Nat) : Blk.lo (.row n (rowC es)) = true := by
 simp only [Blk.lo, rowC, List.all_map, List.all_eq_true]
 intro e _
 exact los_map e
theorem loB9 {tm : List (Nat × D)} (xs : List Int) (h : tm.all (fun p => p.2.lo) = true) : loB tm [(9, .row 1 (rowC (rows eI xs)))] = true := by
 simp only [loB, h, List.all_cons, List.all_nil, lo_row, Bool.and_true]; rfl
set_option maxHeartbeats 8000000 in
theorem plOrders1 (n : Nat) (hn : n ≤ 6) : ItB true Try.prog 111 [] [.c (.ro false [.v (.int .i64 n)] 0)] enO (fun _ => True) (goP 721 (upN n)) := by
 intro ly β H stp live _ hW hY b0 hl0
 have hH : ∀ b, HidOk (H b) := fun b => (hW b).toHidOk
 refine DCall.of Try.func111 sf111 hb111 (Nat.le_of_ble_eq_true rfl) (hH _).res ?_
 simp only [s111, idxs, Nat.reduceAdd, List.map_nil, List.map_cons, List.nil_append, List.cons_append]
 have f1 := hid_get (hH b0)
 have f2 := hid_ins (hH b0)
 have f3 := (hH b0).men
 have f4 := (hH b0).lo
 have f5 : ∀ k x, k < 1000 → ins k x (H b0) = H b0 ++ [(k, x)] := fun k x hk => by have := f2 k hk x []; rwa [List.append_nil] at this
 have f6 := fun k (hk : k < 1000) => kill_hid (hH b0) k hk
 repeat' (first|(with_reducible first|apply qA|apply qB|apply qC|apply qD|apply qE|apply qF)|(refine qL rfl (WF.of ?_) ?_; first|rfl|skip)|(refine DW.ord rfl (WF.of (by first|rfl|simp (disch:=omega) only [go_sem, simprocAttr, qN, qO, qP, qQ, f1, f2, f3, f4, f5, ins, rF, rG])) ?_ ?_ ?_; rotate_left)|rfl|(with_reducible refine And.intro ?_ ?_)|(simp (disch:=omega) only [go_sem, simprocAttr, qN, qO, qP, qQ, f1, f2, f3, f4, f5, ins, rF, rG])|exact qM rfl rfl rfl|(refine qG rfl ?_)|(refine qH rfl ?_)|(refine qI rfl ?_ ?_<;>intro hc<;>(try simp only [go_sem] at hc))|(refine qJ ?_ ?_<;>intro hc<;>(try simp only [hc])<;>(try simp only [go_sem] at hc)))
 refine DW.ent (Ent.comm (hH b0) rfl).1 ?_
 simp (disch:=omega) only [go_sem,simprocAttr,qN,qO,qP,qQ,List.cons_append,List.nil_append]
 refine DW.loop (ι := { i : Nat // i ≤ n }) (fun i => ⟨77, [(11, dI i.1), (10, dI n), (3, .own 9), (0, .c (.fn (.yield ly) [] [])), (1, .c (.ro false [.v (.int .i64 n)] 0))], [(9, .row 1 (rowC (rows eI (upN i.1))))] ++ H b0⟩) (fun i => n - i.1) ⟨0, Nat.zero_le _⟩ ?_ ?_
 ·refine Ent.toH (o := [_]) (o' := [_]) (hH b0) rfl ?_ ?_ <;> simp (disch:=omega) only [qR,qS,qT,qU,get,Nat.reduceEqDiff,↓reduceIte,qV,qW,qX,qY,qZ,and_self,dI,i64_in,and_true,true_and,rA,rB,rC,rD,upN,List.range_zero,rG]
  all_goals first | exact ⟨.refl _, .refl _, .refl _⟩ | exact ⟨.refl _, .refl _⟩ | exact .refl _
 rintro ⟨i, hi⟩
 dsimp only
 have hul := upN_len i
 by_cases hlt : i < n
 ·have hd : decide ((i : Int) < (n : Int)) = true := decide_eq_true (by omega)
  have hs := upN_succ i
  generalize upN i = U at *
  repeat' (first|(with_reducible first|apply qA|apply qB|apply qC|apply qD|apply qE|apply qF)|(refine qL rfl (WF.of ?_) ?_; first|rfl|skip)|(refine DW.ord rfl (WF.of (by first|rfl|simp (disch:=omega) only [go_sem, simprocAttr, qN, qO, qP, qQ, f1, f2, f3, f4, f5, f6, ins, hd, hul, rF, rG])) ?_ ?_ ?_; rotate_left)|rfl|(with_reducible refine And.intro ?_ ?_)|(simp (disch:=omega) only [go_sem, simprocAttr, qN, qO, qP, qQ, f1, f2, f3, f4, f5, f6, ins, hd, hul, rF, rG])|exact qM rfl rfl rfl|(refine qG rfl ?_)|(refine qH rfl ?_)|(refine qI rfl ?_ ?_<;>intro hc<;>(try simp only [go_sem] at hc))|(refine qJ ?_ ?_<;>intro hc<;>(try simp only [hc])<;>(try simp only [go_sem] at hc)))
  refine ⟨⟨i + 1, hlt⟩, (by show _ < _; (try simp only); omega), Ent.toH (o := [_, _]) (o' := [_]) (hH b0) rfl ?_ ?_⟩ <;> simp (disch:=omega) only [qR,qS,qT,qU,get,Nat.reduceEqDiff,↓reduceIte,qV,qW,qX,qY,qZ,and_self,dI,i64_in,and_true,true_and,rA,rB,rC,rD,hs,rowC_snocI]
  all_goals first | exact ⟨.refl _, .refl _, .refl _⟩ | exact ⟨.refl _, .refl _⟩ | exact .refl _
 have hd : decide ((i : Int) < (n : Int)) = false := decide_eq_false (by omega)
 have hin : i = n := by omega
 subst hin
 have hok := upN_ok ⟨i, by omega⟩
 dsimp only at hok
 generalize upN i = U at *
 clear hlt
 obtain ⟨Z, hZ⟩ : ∃ Z, Z = runB stp b0 (goP 721 U) := ⟨_, rfl⟩
 rw [← hZ]
 repeat' (first|(with_reducible first|apply qA|apply qB|apply qC|apply qD|apply qE|apply qF)|(refine qL rfl (WF.of ?_) ?_; first|rfl|skip)|(refine DW.ord rfl (WF.of (by first|rfl|simp (disch:=omega) only [go_sem, simprocAttr, qN, qO, qP, qQ, hd])) ?_ ?_ ?_; rotate_left)|rfl|(with_reducible refine And.intro ?_ ?_)|(simp (disch:=omega) only [go_sem, simprocAttr, qN, qO, qP, qQ, hd])|exact qM rfl rfl rfl|(refine qG rfl ?_)|(refine qH rfl ?_)|(refine qI rfl ?_ ?_<;>intro hc<;>(try simp only [go_sem] at hc))|(refine qJ ?_ ?_<;>intro hc<;>(try simp only [hc])<;>(try simp only [go_sem] at hc)))
 refine DW.loop (ι := { y : (Nat × List Int) × β // okP i y.1.1 y.1.2 = true ∧ live (goP y.1.1 y.1.2) y.2 ∧ Z = runB stp y.2 (goP y.1.1 y.1.2) })
  (fun y => ⟨77, [(3, .own 9), (0, .c (.fn (.yield ly) [] [])), (1, .c (.ro false [.v (.int .i64 i)] 0))], [(9, .row 1 (rowC (rows eI y.1.1.2)))] ++ H y.1.2⟩) (fun y => y.1.1.1) ⟨((721, U), b0), hok, hl0, hZ⟩ ?_ ?_
 ·refine Ent.toH (o := [_]) (o' := [_]) (hH b0) rfl ?_ ?_ <;> simp (disch:=omega) only [qR,qS,qT,qU,get,Nat.reduceEqDiff,↓reduceIte,qV,qW,qX,qY,qZ,and_self,dI,i64_in,and_true,true_and,rA,rB,rC,rD]
  all_goals first | exact ⟨.refl _, .refl _, .refl _⟩ | exact ⟨.refl _, .refl _⟩ | exact .refl _
 clear f1 f2 f3 f4 f5 f6
 rintro ⟨⟨⟨f, xs⟩, b1⟩, hok, hlv, hrun⟩
 dsimp only at hok hlv hrun ⊢
 cases f with
 | zero => cases hok
 | succ f =>
  rw [okP, Bool.and_eq_true, Bool.and_eq_true, Bool.and_eq_true, beq_iff_eq] at hok
  obtain ⟨⟨⟨hlen, hall⟩, hst⟩, hnx⟩ := hok
  rw [goP] at hlv hrun
  rw [runB] at hrun
  obtain ⟨hyc, hlv2⟩ := hY b1 xs _ hlv trivial
  have hyc : YCall Try.prog ly [dIs true xs] (H b1) _ _ := hyc
  cases hc : (stp b1 xs).1 with
  | false =>
   rw [hc] at hyc
   rw [hc, if_neg Bool.false_ne_true] at hrun
   repeat' (first|(with_reducible first|apply qA|apply qB|apply qC|apply qD|apply qE|apply qF)|(refine qL rfl (WF.of ?_) ?_; first|rfl|skip)|(refine DW.ord rfl (WF.of (by first|rfl|simp (disch:=omega) only [go_sem, simprocAttr, qN, qO, qP, qQ, rF, rG])) ?_ ?_ ?_; rotate_left)|rfl|(with_reducible refine And.intro ?_ ?_)|(simp (disch:=omega) only [go_sem, simprocAttr, qN, qO, qP, qQ, rF, rG])|exact qM rfl rfl rfl|(refine qG rfl ?_)|(refine qH rfl ?_)|(refine qI rfl ?_ ?_<;>intro hc<;>(try simp only [go_sem] at hc))|(refine qJ ?_ ?_<;>intro hc<;>(try simp only [hc])<;>(try simp only [go_sem] at hc)))
   refine call_y (own := [_]) hyc rfl (by simp (disch:=omega) only [go_sem,simprocAttr,qN,qO,qP,qQ,rF,rG]) (loB9 xs rfl) (hH _) (hH _) (by decide) ?_
   simp (disch:=omega) only [go_sem,simprocAttr,qN,qO,qP,qQ]
   repeat' (first|(with_reducible first|apply qA|apply qB|apply qC|apply qD|apply qE|apply qF)|(refine qL rfl (WF.of ?_) ?_; first|rfl|skip)|(refine DW.ord rfl (WF.of (by first|rfl|simp (disch:=omega) only [go_sem, simprocAttr, qN, qO, qP, qQ])) ?_ ?_ ?_; rotate_left)|rfl|(with_reducible refine And.intro ?_ ?_)|(simp (disch:=omega) only [go_sem, simprocAttr, qN, qO, qP, qQ])|exact qM rfl rfl rfl|(refine qG rfl ?_)|(refine qH rfl ?_)|(refine qI rfl ?_ ?_<;>intro hc<;>(try simp only [go_sem] at hc))|(refine qJ ?_ ?_<;>intro hc<;>(try simp only [hc])<;>(try simp only [go_sem] at hc)))
   rw [hrun]
   exact retS_hid (own := [_]) (.inl rfl) (hH _) (loB9 xs rfl)
  | true =>
   rw [hc] at hyc
   rw [hc, if_pos rfl] at hrun
   have hlv2 := hlv2 hc
   repeat' (first|(with_reducible first|apply qA|apply qB|apply qC|apply qD|apply qE|apply qF)|(refine qL rfl (WF.of ?_) ?_; first|rfl|skip)|(refine DW.ord rfl (WF.of (by first|rfl|simp (disch:=omega) only [go_sem, simprocAttr, qN, qO, qP, qQ, rF, rG])) ?_ ?_ ?_; rotate_left)|rfl|(with_reducible refine And.intro ?_ ?_)|(simp (disch:=omega) only [go_sem, simprocAttr, qN, qO, qP, qQ, rF, rG])|exact qM rfl rfl rfl|(refine qG rfl ?_)|(refine qH rfl ?_)|(refine qI rfl ?_ ?_<;>intro hc<;>(try simp only [go_sem] at hc))|(refine qJ ?_ ?_<;>intro hc<;>(try simp only [hc])<;>(try simp only [go_sem] at hc)))
   refine call_y (own := [_]) hyc rfl (by simp (disch:=omega) only [go_sem,simprocAttr,qN,qO,qP,qQ,rF,rG]) (loB9 xs rfl) (hH _) (hH _) (by decide) ?_
   simp (disch:=omega) only [go_sem,simprocAttr,qN,qO,qP,qQ]
   generalize (stp b1 xs).2 = b2 at *
   have g1 := hid_get (hH b2)
   have g2 := hid_ins (hH b2)
   have g3 := (hH b2).men
   have g4 := (hH b2).lo
   have g5 : ∀ k x, k < 1000 → ins k x (H b2) = H b2 ++ [(k, x)] := fun k x hk => by have := g2 k hk x []; rwa [List.append_nil] at this
   have g6 := (hW b2).app4
   have g7 := (hW b2).app3
   have g8 := fun x => (hW b2).app [(9, x)]
   simp only [List.cons_append, List.nil_append] at g8
   repeat' (first|(with_reducible first|apply qA|apply qB|apply qC|apply qD|apply qE|apply qF)|(refine qL rfl (WF.of ?_) ?_; first|rfl|skip)|(refine DW.ord rfl (WF.of (by first|rfl|simp (disch:=omega) only [go_sem, simprocAttr, qN, qO, qP, qQ, g1, g2, g3, g4, g5, g6, g7, ins])) ?_ ?_ ?_; rotate_left)|rfl|(with_reducible refine And.intro ?_ ?_)|(simp (disch:=omega) only [go_sem, simprocAttr, qN, qO, qP, qQ, g1, g2, g3, g4, g5, g6, g7, ins])|exact qM rfl rfl rfl|(refine qG rfl ?_)|(refine qH rfl ?_)|(refine qI rfl ?_ ?_<;>intro hc<;>(try simp only [go_sem] at hc))|(refine qJ ?_ ?_<;>intro hc<;>(try simp only [hc])<;>(try simp only [go_sem] at hc)))
   obtain ⟨z, hz⟩ : ∃ z : Int, z = if i = 0 then -2 else -1 := ⟨_, rfl⟩
   have he0 : (i : Int) - 2 = ((i - 1 : Nat) : Int) + z := by rw [hz]; split <;> omega
   have hzn : z < 0 := by rw [hz]; split <;> omega
   refine DW.loop (ι := { c : Nat // c ≤ i - 1 ∧ dscF xs (i - 1) = dscF xs c }) (fun c => ⟨77, [(5, dI ((c.1 : Int) + z)), (3, .own 9), (0, .c (.fn (.yield ly) [] [])), (1, .c (.ro false [.v (.int .i64 i)] 0))], [(9, .row 1 (rowC (rows eI xs)))] ++ H b2⟩) (fun c => c.1) ⟨i - 1, Nat.le_refl _, rfl⟩ ?_ ?_
   ·refine Ent.toH (o := [_]) (o' := [_]) (hH b2) rfl ?_ ?_ <;> simp (disch:=omega) only [qR,qS,qT,qU,get,Nat.reduceEqDiff,↓reduceIte,qV,qW,qX,qY,qZ,and_self,dI,i64_in,and_true,true_and,rA,rB,rC,rD,he0]
    all_goals first | exact ⟨.refl _, .refl _, .refl _⟩ | exact ⟨.refl _, .refl _⟩ | exact .refl _
   rintro ⟨c, hc1, hc2⟩
   dsimp only
   cases c with
   | zero =>
    have hd : decide (0 ≤ z) = false := decide_eq_false (by omega)
    have hd2 : decide (z < 0) = true := decide_eq_true hzn
    have hz0 : ((0 : Nat) : Int) + z = z := by omega
    rw [hz0]
    have hnx0 : nxtP xs = none := by rw [nxtP, hlen, hc2]; rfl
    rw [hnx0, runB] at hrun
    repeat' (first|(with_reducible first|apply qA|apply qB|apply qC|apply qD|apply qE|apply qF)|(refine qL rfl (WF.of ?_) ?_; first|rfl|skip)|(refine DW.ord rfl (WF.of (by first|rfl|simp (disch:=omega) only [go_sem, simprocAttr, qN, qO, qP, qQ, g1, g2, g3, g4, g5, g6, g7, g8, ins, hd, hd2])) ?_ ?_ ?_; rotate_left)|rfl|(with_reducible refine And.intro ?_ ?_)|(simp (disch:=omega) only [go_sem, simprocAttr, qN, qO, qP, qQ, g1, g2, g3, g4, g5, g6, g7, g8, ins, hd, hd2])|exact qM rfl rfl rfl|(refine qG rfl ?_)|(refine qH rfl ?_)|(refine qI rfl ?_ ?_<;>intro hc<;>(try simp only [go_sem] at hc))|(refine qJ ?_ ?_<;>intro hc<;>(try simp only [hc])<;>(try simp only [go_sem] at hc)))
    rw [hrun]
    exact retS_hid (own := [_]) (.inl rfl) (hH _) (loB9 xs rfl)
   | succ c =>
    have hcz : ((c + 1 : Nat) : Int) + z = (c : Int) := by rw [hz, if_neg (by omega)]; omega
    rw [hcz]
    have hcm : (c : Int) + z = (c : Int) - 1 := by rw [hz, if_neg (by omega)]; omega
    have hd : decide (0 ≤ (c : Int)) = true := decide_eq_true (by omega)
    have hg0 : xs[c]? = some (xs.getD c 0) := by rw [List.getD_eq_getElem?_getD, List.getElem?_eq_getElem (by omega)]; rfl
    have hg1 : xs[c + 1]? = some (xs.getD (c + 1) 0) := by rw [List.getD_eq_getElem?_getD, List.getElem?_eq_getElem (by omega)]; rfl
    have hb0 : (c < i) = True := eq_true (by omega)
    have hb1 : (c + 1 < i) = True := eq_true (by omega)
    have hw : IntKind.i64.wrap ((c : Int) + 1) = ((c + 1 : Nat) : Int) := by rw [IntWalk.i64_in _ (by omega)]; omega
    rw [dscF] at hc2
    by_cases hgt : xs.getD (c + 1) 0 < xs.getD c 0
    ·have hd3 : decide (xs.getD (c + 1) 0 < xs.getD c 0) = true := decide_eq_true hgt
     rw [if_pos hgt] at hc2
     repeat' (first|(with_reducible first|apply qA|apply qB|apply qC|apply qD|apply qE|apply qF)|(refine qL rfl (WF.of ?_) ?_; first|rfl|skip)|(refine DW.ord rfl (WF.of (by first|rfl|simp (disch:=omega) only [go_sem, simprocAttr, qN, qO, qP, qQ, g1, g2, g3, g4, g5, g6, g7, g8, ins, hd, hg0, hg1, hb0, hb1, hw, hd3, hlen])) ?_ ?_ ?_; rotate_left)|rfl|(with_reducible refine And.intro ?_ ?_)|(simp (disch:=omega) only [go_sem, simprocAttr, qN, qO, qP, qQ, g1, g2, g3, g4, g5, g6, g7, g8, ins, hd, hg0, hg1, hb0, hb1, hw, hd3, hlen])|exact qM rfl rfl rfl|(refine qG rfl ?_)|(refine qH rfl ?_)|(refine qI rfl ?_ ?_<;>intro hc<;>(try simp only [go_sem] at hc))|(refine qJ ?_ ?_<;>intro hc<;>(try simp only [hc])<;>(try simp only [go_sem] at hc)))
     refine ⟨⟨c, by omega, hc2⟩, (by show _ < _; (try simp only); omega), Ent.toH (o := [_]) (o' := [_]) (hH b2) rfl ?_ ?_⟩ <;> simp (disch:=omega) only [qR,qS,qT,qU,get,Nat.reduceEqDiff,↓reduceIte,qV,qW,qX,qY,qZ,and_self,dI,i64_in,and_true,true_and,rA,rB,rC,rD,hcm]
     all_goals first | exact ⟨.refl _, .refl _, .refl _⟩ | exact ⟨.refl _, .refl _⟩ | exact .refl _
    ·have hd3 : decide (xs.getD (c + 1) 0 < xs.getD c 0) = false := decide_eq_false hgt
     have hd4 : decide ((c : Int) < 0) = false := decide_eq_false (by omega)
     rw [if_neg hgt] at hc2
     repeat' (first|(with_reducible first|apply qA|apply qB|apply qC|apply qD|apply qE|apply qF)|(refine qL rfl (WF.of ?_) ?_; first|rfl|skip)|(refine DW.ord rfl (WF.of (by first|rfl|simp (disch:=omega) only [go_sem, simprocAttr, qN, qO, qP, qQ, g1, g2, g3, g4, g5, g6, g7, g8, ins, hd, hg0, hg1, hb0, hb1, hw, hd3, hd4, hlen])) ?_ ?_ ?_; rotate_left)|rfl|(with_reducible refine And.intro ?_ ?_)|(simp (disch:=omega) only [go_sem, simprocAttr, qN, qO, qP, qQ, g1, g2, g3, g4, g5, g6, g7, g8, ins, hd, hg0, hg1, hb0, hb1, hw, hd3, hd4, hlen])|exact qM rfl rfl rfl|(refine qG rfl ?_)|(refine qH rfl ?_)|(refine qI rfl ?_ ?_<;>intro hc<;>(try simp only [go_sem] at hc))|(refine qJ ?_ ?_<;>intro hc<;>(try simp only [hc])<;>(try simp only [go_sem] at hc)))
     rw [hc2] at hst
     dsimp only at hst
     rw [Bool.and_eq_true, decide_eq_true_eq, decide_eq_true_eq] at hst
     have hi1 : (i : Int) - 1 = ((i - 1 : Nat) : Int) := by omega
     refine DW.loop (ι := { j : Nat // j ≤ i - 1 ∧ ascF xs (xs.getD c 0) (i - 1) = ascF xs (xs.getD c 0) j }) (fun j => ⟨77, [(6, dI j.1), (5, dI c), (3, .own 9), (0, .c (.fn (.yield ly) [] [])), (1, .c (.ro false [.v (.int .i64 i)] 0))], [(9, .row 1 (rowC (rows eI xs)))] ++ H b2⟩) (fun j => j.1) ⟨i - 1, Nat.le_refl _, rfl⟩ ?_ ?_
     ·refine Ent.toH (o := [_]) (o' := [_]) (hH b2) rfl ?_ ?_ <;> simp (disch:=omega) only [qR,qS,qT,qU,get,Nat.reduceEqDiff,↓reduceIte,qV,qW,qX,qY,qZ,and_self,dI,i64_in,and_true,true_and,rA,rB,rC,rD,hi1]
      all_goals first | exact ⟨.refl _, .refl _, .refl _⟩ | exact ⟨.refl _, .refl _⟩ | exact .refl _
     rintro ⟨j, hj1, hj2⟩
     dsimp only
     cases j with
     | zero => rw [hj2, ascF] at hst; omega
     | succ j =>
      have hgj : xs[j + 1]? = some (xs.getD (j + 1) 0) := by rw [List.getD_eq_getElem?_getD, List.getElem?_eq_getElem (by omega)]; rfl
      have hbj : (j + 1 < i) = True := eq_true (by omega)
      rw [ascF] at hj2
      by_cases hlt : xs.getD (j + 1) 0 < xs.getD c 0
      ·have hd5 : decide (xs.getD (j + 1) 0 < xs.getD c 0) = true := decide_eq_true hlt
       have hjm : ((j + 1 : Nat) : Int) - 1 = (j : Int) := by omega
       rw [if_pos hlt] at hj2
       repeat' (first|(with_reducible first|apply qA|apply qB|apply qC|apply qD|apply qE|apply qF)|(refine qL rfl (WF.of ?_) ?_; first|rfl|skip)|(refine DW.ord rfl (WF.of (by first|rfl|simp (disch:=omega) only [go_sem, simprocAttr, qN, qO, qP, qQ, g1, g2, g3, g4, g5, g6, g7, g8, ins, hg0, hgj, hb0, hbj, hd5, hlen])) ?_ ?_ ?_; rotate_left)|rfl|(with_reducible refine And.intro ?_ ?_)|(simp (disch:=omega) only [go_sem, simprocAttr, qN, qO, qP, qQ, g1, g2, g3, g4, g5, g6, g7, g8, ins, hg0, hgj, hb0, hbj, hd5, hlen])|exact qM rfl rfl rfl|(refine qG rfl ?_)|(refine qH rfl ?_)|(refine qI rfl ?_ ?_<;>intro hc<;>(try simp only [go_sem] at hc))|(refine qJ ?_ ?_<;>intro hc<;>(try simp only [hc])<;>(try simp only [go_sem] at hc)))
       refine ⟨⟨j, by omega, hj2⟩, (by show _ < _; (try simp only); omega), Ent.toH (o := [_]) (o' := [_]) (hH b2) rfl ?_ ?_⟩ <;> simp (disch:=omega) only [qR,qS,qT,qU,get,Nat.reduceEqDiff,↓reduceIte,qV,qW,qX,qY,qZ,and_self,dI,i64_in,and_true,true_and,rA,rB,rC,rD,Int.add_sub_cancel]
       all_goals first | exact ⟨.refl _, .refl _, .refl _⟩ | exact ⟨.refl _, .refl _⟩ | exact .refl _
      ·have hd5 : decide (xs.getD (j + 1) 0 < xs.getD c 0) = false := decide_eq_false hlt
       rw [if_neg hlt] at hj2
       repeat' (first|(with_reducible first|apply qA|apply qB|apply qC|apply qD|apply qE|apply qF)|(refine qL rfl (WF.of ?_) ?_; first|rfl|skip)|(refine DW.ord rfl (WF.of (by first|rfl|simp (disch:=omega) only [go_sem, simprocAttr, qN, qO, qP, qQ, g1, g2, g3, g4, g5, g6, g7, g8, ins, hg0, hgj, hb0, hbj, hd5, hlen, set_eI])) ?_ ?_ ?_; rotate_left)|rfl|(with_reducible refine And.intro ?_ ?_)|(simp (disch:=omega) only [go_sem, simprocAttr, qN, qO, qP, qQ, g1, g2, g3, g4, g5, g6, g7, g8, ins, hg0, hgj, hb0, hbj, hd5, hlen, set_eI])|exact qM rfl rfl rfl|(refine qG rfl ?_)|(refine qH rfl ?_)|(refine qI rfl ?_ ?_<;>intro hc<;>(try simp only [go_sem] at hc))|(refine qJ ?_ ?_<;>intro hc<;>(try simp only [hc])<;>(try simp only [go_sem] at hc)))
       have hgs : ∀ v, (xs.set c v)[j + 1]? = some (xs.getD (j + 1) 0) := fun v => by rw [List.getElem?_set_ne (by omega)]; exact hgj
       simp (disch:=omega) only [go_sem,simprocAttr,qN,qO,qP,qQ,g1,g2,g3,g4,g5,g6,g7,g8,ins,hgs,hbj,hlen,set_eI,List.length_set]
       obtain ⟨ys, hys⟩ : ∃ ys, ys = swp1 xs c (j + 1) := ⟨_, rfl⟩
       have hyl : ys.length = i := by rw [hys, swp1, List.length_set, List.length_set]; exact hlen
       rw [show (xs.set c (xs.getD (j + 1) 0)).set (j + 1) (xs.getD c 0) = ys from hys.symm]
       refine DW.ent (σ' := ⟨77, [(5, dI c), (3, .own 9), (0, .c (.fn (.yield ly) [] [])), (1, .c (.ro false [.v (.int .i64 i)] 0))], [(9, .row 1 (rowC (rows eI ys)))] ++ H b2⟩) (Ent.toH (o := [_]) (o' := [_]) (hH b2) rfl ?_ ?_) ?_
       ·simp (disch:=omega) only [qR,qS,qT,qU,get,Nat.reduceEqDiff,↓reduceIte,qV,qW,qX,qY,qZ,and_self,dI,i64_in,and_true,true_and,rA,rB,rC,rD]
       ·simp (disch:=omega) only [qR,qS,qT,qU,get,Nat.reduceEqDiff,↓reduceIte,qV,qW,qX,qY,qZ,and_self,dI,i64_in,and_true,true_and,rA,rB,rC,rD]
        all_goals first | exact ⟨.refl _, .refl _⟩ | exact .refl _
       have hci : (c + 1 ≤ i) = True := eq_true (by omega)
       repeat' (first|(with_reducible first|apply qA|apply qB|apply qC|apply qD|apply qE|apply qF)|(refine qL rfl (WF.of ?_) ?_; first|rfl|skip)|(refine DW.ord rfl (WF.of (by first|rfl|simp (disch:=omega) only [go_sem, simprocAttr, qN, qO, qP, qQ, g1, g2, g3, g4, g5, g6, g7, g8, ins, hw, hyl, hci, List.cons_append, List.nil_append])) ?_ ?_ ?_; rotate_left)|rfl|(with_reducible refine And.intro ?_ ?_)|(simp (disch:=omega) only [go_sem, simprocAttr, qN, qO, qP, qQ, g1, g2, g3, g4, g5, g6, g7, g8, ins, hw, hyl, hci, List.cons_append, List.nil_append])|exact qM rfl rfl rfl|(refine qG rfl ?_)|(refine qH rfl ?_)|(refine qI rfl ?_ ?_<;>intro hc<;>(try simp only [go_sem] at hc))|(refine qJ ?_ ?_<;>intro hc<;>(try simp only [hc])<;>(try simp only [go_sem] at hc)))
       refine call_row 9 (n := 1) (es := rowC (rows eI ys)) (es' := rowC (rows eI (revF (c + 1) (i - (c + 1)) ys))) (fs := fun _ => []) (caps := fun _ => []) («as» := fun p => [.c (.v (.slice (some ⟨p.l, (c + 1) * 1, none⟩) (i - (c + 1)) (p.cap - (c + 1))))]) (r := .tup []) ?_ rfl ?_ ?_ ?_ ?_ (fun _ => rfl) (fun _ => rfl) ?_ (fun _ _ => rfl) ?_ ?_ (by decide) ?_
       ·intro p hp
        have h1 := hp.len
        have h2 := hp.cap
        rw [rowI_len, hyl] at h1
        rw [RowAt.blk, RowAt.blk, flatI, flatI, Nat.mul_one]
        exact plReverse p.l (c + 1) (i - (c + 1)) (p.cap - (c + 1)) p.m ys (by omega) (by omega) (by omega)
       ·intro e
        have := congrArg List.length e
        rw [rowI_len, hyl, List.length_nil] at this
        omega
       ·rw [rowI_len, rowI_len, revF, swpN_len]
       ·intro e he
        simp only [rowC, rows, List.map_map, List.mem_map, Function.comp] at he
        obtain ⟨x, _, rfl⟩ := he
        rfl
       ·intro j'
        rw [flatI]
        have := cells_men j' (revF (c + 1) (i - (c + 1)) ys) 0
        rwa [tops, List.replicate_zero, List.append_nil] at this
       ·have e : del 9 ((9, Blk.row 1 (rowC (rows eI ys))) :: H b2) = H b2 := by
         simp only [del, if_true]
         exact del_none (g4 9 (by decide))
        rw [e, List.all_eq_true]
        intro q hq
        have := List.any_eq_false.1 (g3 9 (by decide)) q hq
        simpa using this
       ·intro p hp
        have h1 := hp.len
        have h2 := hp.cap
        rw [rowI_len, hyl] at h1
        have hcond : (c + 1 < p.cap ∧ c + 1 ≤ i ∧ i ≤ p.len) = True := eq_true (by omega)
        simp (disch:=omega) only [go_sem,simprocAttr,qN,qO,qP,qQ,rpT,rpD,hcond,rF,rG]
        skip
       ·intro p hp
        have h1 := hp.len
        have h2 := hp.cap
        rw [rowI_len, hyl] at h1
        have hcond : (c + 1 < p.cap ∧ c + 1 ≤ i ∧ i ≤ p.len) = True := eq_true (by omega)
        simp only [rpT, rpD, hcond, and_self, if_true, List.all_cons, List.all_nil, D.men]
        rfl
       ·have hn1 : nxtP xs = some (revF (c + 1) (i - (c + 1)) ys) := by
         rw [nxtP, hlen, hc2]
         dsimp only
         rw [hj2, hys]
        rw [hn1] at hnx hlv2 hrun
        dsimp only at hnx hlv2 hrun
        have e : del 9 ((9, Blk.row 1 (rowC (rows eI ys))) :: H b2) = H b2 := by
         simp only [del, if_true]
         exact del_none (g4 9 (by decide))
        rw [e]
        simp (disch:=omega) only [go_sem,simprocAttr,qN,qO,qP,qQ]
        repeat' (first|(with_reducible first|apply qA|apply qB|apply qC|apply qD|apply qE|apply qF)|(refine qL rfl (WF.of ?_) ?_; first|rfl|skip)|(refine DW.ord rfl (WF.of (by first|rfl|simp (disch:=omega) only [go_sem, simprocAttr, qN, qO, qP, qQ])) ?_ ?_ ?_; rotate_left)|rfl|(with_reducible refine And.intro ?_ ?_)|(simp (disch:=omega) only [go_sem, simprocAttr, qN, qO, qP, qQ])|exact qM rfl rfl rfl|(refine qG rfl ?_)|(refine qH rfl ?_)|(refine qI rfl ?_ ?_<;>intro hc<;>(try simp only [go_sem] at hc))|(refine qJ ?_ ?_<;>intro hc<;>(try simp only [hc])<;>(try simp only [go_sem] at hc)))
        refine ⟨⟨((f, revF (c + 1) (i - (c + 1)) ys), b2), hnx, hlv2, hrun⟩, (by show _ < _; (try simp only); omega), Ent.toH (o := [_]) (o' := [_]) (hH b2) rfl ?_ ?_⟩ <;> simp (disch:=omega) only [qR,qS,qT,qU,get,Nat.reduceEqDiff,↓reduceIte,qV,qW,qX,qY,qZ,and_self,dI,i64_in,and_true,true_and,rA,rB,rC,rD]
        all_goals first | exact ⟨.refl _, .refl _⟩ | exact .refl _
end Go.Dw.Seat
end
section
set_option linter.unusedSimpArgs false
set_option maxRecDepth 100000
namespace Go.Dw.Seat
open Go Go.Dw Go.Proofs Go.IntWalk
set_option maxHeartbeats 1000000 in
theorem plCloneC (b : Bool) (l : List Int) (hl : l.length ≤ 2 ^ 36) : DCall Try.prog 83 [dIs b l] [] (dIs false l) [] := by
 cases l with
 | nil =>
  refine DCall.nil1 (fun a c => ?_)
  cases a with
  | none =>
   refine DCall.of Try.func83 sf83 hb83 (Nat.le_of_ble_eq_true rfl) (okRes_nil fun _ => rfl) ?_; simp only [s83, idxs, Nat.reduceAdd]
   repeat' (first|(with_reducible first|apply qA|apply qB|apply qC|apply qD|apply qE|apply qF)|(simp (disch:=omega) only [go_sem, simprocAttr, qN, qO, qP, qQ, Option.isNone])|exact qM rfl rfl rfl|(refine qG rfl ?_)|(refine qH rfl ?_)|(refine qI rfl ?_ ?_<;>intro hc<;>(try simp only [go_sem] at hc))|(refine qJ ?_ ?_<;>intro hc<;>(try simp only [hc])<;>(try simp only [go_sem] at hc)))
   refine retS_wk rfl ?_ (by simp only [Blk.nb, rowC_nb, D.nb, D.nbs, C.nb, C.nbs, C.nbss, rows_nb eI_nb, Bool.and_true, Bool.not_false, Bool.and_self, bD, dI, iD]); exact .nil _ _
  | some a =>
   refine DCall.of Try.func83 sf83 hb83 (Nat.le_of_ble_eq_true rfl) (okRes_nil fun _ => rfl) ?_; simp only [s83, idxs, Nat.reduceAdd]
   refine DW.seq (DW.reg ?_)
   simp (disch:=omega) only [go_sem,simprocAttr,qN,qO,qP,qQ]
   refine DW.seq (DW.seq (DW.reg ?_))
   simp (disch:=omega) only [go_sem,simprocAttr,qN,qO,qP,qQ,Option.isNone]
   refine DW.cond_ff rfl (DW.skip ?_)
   simp (disch:=omega) only [go_sem,simprocAttr,qN,qO,qP,qQ]
   refine DW.ent (Ent.to (tm' := [(0, .c (.sl b 1 []))]) (bx' := []) (by simp (disch:=omega) only [qR,qS,qT,qU,get,Nat.reduceEqDiff,↓reduceIte,qV,qW,qX,qY,qZ,and_self,dI,i64_in,and_true,true_and,rA,rB,rC,rD]) trivial) ?_
   repeat' (first|(with_reducible first|apply qA|apply qB|apply qC|apply qD|apply qE|apply qF)|(simp (disch:=omega) only [go_sem, simprocAttr, qN, qO, qP, qQ])|exact qM rfl rfl rfl|(refine qG rfl ?_)|(refine qH rfl ?_)|(refine qI rfl ?_ ?_<;>intro hc<;>(try simp only [go_sem] at hc))|(refine qJ ?_ ?_<;>intro hc<;>(try simp only [hc])<;>(try simp only [go_sem] at hc)))
   (refine retS_ent (Ent.rel 5 rfl) ?_; simp (disch:=omega) only [go_sem,simprocAttr,qN,qO,qP,qQ])
   refine retS_wk rfl ?_ (by simp only [Blk.nb, rowC_nb, D.nb, D.nbs, C.nb, C.nbs, C.nbss, rows_nb eI_nb, Bool.and_true, Bool.not_false, Bool.and_self, bD, dI, iD]); exact .refl _
 | cons x l =>
  simp only [List.length_cons] at hl
  refine DCall.of Try.func83 sf83 hb83 (Nat.le_of_ble_eq_true rfl) (okRes_nil fun _ => rfl) ?_; simp only [s83, idxs, Nat.reduceAdd]
  repeat' (first|(with_reducible first|apply qA|apply qB|apply qC|apply qD|apply qE|apply qF)|(simp (disch:=omega) only [go_sem, simprocAttr, qN, qO, qP, qQ, rows_cons])|exact qM rfl rfl rfl|(refine qG rfl ?_)|(refine qH rfl ?_)|(refine qI rfl ?_ ?_<;>intro hc<;>(try simp only [go_sem] at hc))|(refine qJ ?_ ?_<;>intro hc<;>(try simp only [hc])<;>(try simp only [go_sem] at hc)))
  (refine retS_ent (Ent.rel 5 rfl) ?_; simp (disch:=omega) only [go_sem,simprocAttr,qN,qO,qP,qQ])
  refine retS_wk rfl ?_ (by simp only [Blk.nb, rowC_nb, D.nb, D.nbs, C.nb, C.nbs, C.nbss, rows_nb eI_nb, Bool.and_true, Bool.not_false, Bool.and_self, bD, dI, iD]); exact .refl _
end Go.Dw.Seat
end
section
set_option linter.unusedSimpArgs false
set_option maxRecDepth 100000
namespace Go.Dw.Seat
open Go Go.Dw Go.Proofs Go.IntWalk
theorem lohi_b {x : PIt} (hx : x.ok) {c : Int} (hc : -10000 ≤ c ∧ c ≤ 10000) : (-50000000000 ≤ loW x c ∧ loW x c ≤ 50000000000) ∧ (-50000000000 ≤ hiW x c ∧ hiW x c ≤ 50000000000) ∧ loW x c ≤ hiW x c := by
 have hw := hx.w
 have h1 := mul_abs (a := x.wl) (A := 5000000) (by omega) hc
 have h2 := mul_abs (a := x.wh) (A := 5000000) (by omega) hc
 unfold loW hiW
 omega
theorem sumM_b {c : Int → Int} (hc : ∀ m, 0 ≤ m → m ≤ 4000 → -10000 ≤ c m ∧ c m ≤ 10000) : ∀ {q : List PIt} {a : Int}, 0 ≤ a → a + lgI q ≤ 2000 → (∀ x ∈ q, x.ok) →
  (-(50000000000 * (q.length : Int)) ≤ sumM (fun m x => loW x (c m)) a q ∧ sumM (fun m x => loW x (c m)) a q ≤ 50000000000 * (q.length : Int)) ∧ (-(50000000000 * (q.length : Int)) ≤ sumM (fun m x => hiW x (c m)) a q ∧ sumM (fun m x => hiW x (c m)) a q ≤ 50000000000 * (q.length : Int)) ∧ sumM (fun m x => loW x (c m)) a q ≤ sumM (fun m x => hiW x (c m)) a q
 | [], a, _, _, _ => by simp [sumM]
 | x :: q, a, h0, h1, h2 => by
  have hx := h2 x (by simp)
  have hxl := hx.lg
  have hq := fun y hy => h2 y (List.mem_cons_of_mem x hy)
  have hn := lgI_nn hq
  rw [lgI] at h1
  have ih := sumM_b hc (q := q) (a := a + x.lg) (by omega) (by omega) hq
  have hb := lohi_b hx (hc (2 * a + x.lg) (by omega) (by omega))
  simp only [sumM, List.length_cons, Int.natCast_add, Int.natCast_one]
  omega
theorem cF_b {l : PLy} (hl : l.ok) (m : Int) (h1 : 0 ≤ m) (h2 : m ≤ 4000) : -10000 ≤ cF l m ∧ cF l m ≤ 10000 := by
 have := hl.ax
 have := hl.lg
 unfold cF; omega
theorem cB_b {l : PLy} (hl : l.ok) (m : Int) (h1 : 0 ≤ m) (h2 : m ≤ 4000) : -10000 ≤ cB l m ∧ cB l m ≤ 10000 := by
 have := hl.ax
 have := hl.lg
 unfold cB; omega
theorem lgI_take {q : List PIt} (h : ∀ x ∈ q, x.ok) (i : Nat) : lgI (q.take i) ≤ lgI q := by
 have e : ∀ a b : List PIt, lgI (a ++ b) = lgI a + lgI b := by
  intro a b
  induction a with
  | nil => simp [lgI]
  | cons x a ih => rw [List.cons_append, lgI, ih, lgI]; omega
 have h1 := e (q.take i) (q.drop i)
 rw [List.take_append_drop] at h1
 have h2 := lgI_nn (q := q.drop i) (fun x hx => h x (List.mem_of_mem_drop hx))
 omega
abbrev prtD (r : Prt) : D := .tup [.agg [dI r.fl, dI r.fh], .agg [dI r.bl, dI r.bh]]
set_option maxHeartbeats 4000000 in
theorem plParts (l : PLy) (lab : Bool) (q : List PIt) (h : LorOk l q) : DCall Try.prog 76 [lorD l lab q] [] (prtD (prtF l q)) [] := by
 have hl := h.ly
 have hlen := h.len
 have hits := h.its
 have hlg := h.lg
 have hll := hl.lg
 have hax := hl.ax
 refine DCall.of Try.func76 sf76 hb76 (Nat.le_of_ble_eq_true rfl) (okRes_nil fun _ => rfl) ?_; simp only [s76, o76_0, o76_1, o76_2, o76_3, idxs, Nat.reduceAdd]
 repeat' (first|(with_reducible first|apply qA|apply qB|apply qC|apply qD|apply qE|apply qF)|(refine qL rfl (WF.of ?_) ?_; first|rfl|skip)|(refine DW.ord rfl (WF.of (by first|rfl|simp (disch:=omega) only [go_sem, simprocAttr, qN, qO, qP, qQ])) ?_ ?_ ?_; rotate_left)|rfl|(with_reducible refine And.intro ?_ ?_)|(simp (disch:=omega) only [go_sem, simprocAttr, qN, qO, qP, qQ])|exact qM rfl rfl rfl|(refine qG rfl ?_)|(refine qH rfl ?_)|(refine qI rfl ?_ ?_<;>intro hc<;>(try simp only [go_sem] at hc))|(refine qJ ?_ ?_<;>intro hc<;>(try simp only [hc])<;>(try simp only [go_sem] at hc)))
 refine DW.loop (ι := { i : Nat // i ≤ q.length }) (fun i => ⟨49, [(11, dI i.1), (10, dI q.length), (9, itsD lab q), (4, dI (lgI (q.take i.1))), (3, .box 3 0), (2, .box 2 0), (1, .box 1 0)], [(3, .box [dI (prtF l (q.take i.1)).bl, dI (prtF l (q.take i.1)).bh]), (2, .box [dI (prtF l (q.take i.1)).fl, dI (prtF l (q.take i.1)).fh]), (1, .box [dI l.lg, dI l.fr, dI l.bk, dI l.fm, dI l.bm, itsD lab q])]⟩) (fun i => q.length - i.1) ⟨0, Nat.zero_le _⟩ ?_ ?_
 ·refine Ent.to ?_ ?_ <;> simp (disch:=omega) only [qR,qS,qT,qU,get,Nat.reduceEqDiff,↓reduceIte,qV,qW,qX,qY,qZ,and_self,dI,i64_in,and_true,true_and,rA,rB,rC,rD,List.take_zero,lgI,prtF,sumM]
  all_goals first | exact ⟨.refl _, .refl _, .refl _⟩ | exact ⟨.refl _, .refl _⟩ | exact .refl _
 rintro ⟨i, hi⟩
 dsimp only
 rcases at_or q i hi with ⟨x, hx, hlt, hd⟩ | ⟨he, hd⟩
 ·have hxo := hits x (List.mem_of_getElem? hx)
  have hxl := hxo.lg
  have htk : q.take (i + 1) = q.take i ++ [x] := by rw [List.take_add_one, hx]; rfl
  have htm : ∀ y ∈ q.take i, y.ok := fun y hy => hits y (List.mem_of_mem_take hy)
  have hsn := lgI_snoc (q.take i) x
  have hS1 := lgI_take hits (i + 1)
  rw [htk, hsn] at hS1
  have hS0 := lgI_nn htm
  have hl7 : (q.take i).length ≤ 7 := by rw [List.length_take]; omega
  have bF := sumM_b (cF_b hl) (q := q.take i) (a := 0) (by omega) (by omega) htm
  have bB := sumM_b (cB_b hl) (q := q.take i) (a := 0) (by omega) (by omega) htm
  have e1 := sumM_snoc (fun m x => loW x (cF l m)) (q.take i) 0 x
  have e2 := sumM_snoc (fun m x => hiW x (cF l m)) (q.take i) 0 x
  have e3 := sumM_snoc (fun m x => loW x (cB l m)) (q.take i) 0 x
  have e4 := sumM_snoc (fun m x => hiW x (cB l m)) (q.take i) 0 x
  rw [← htk, Int.zero_add] at e1 e2 e3 e4
  rw [← htk] at hsn
  have hP : prtF l (q.take i) = ⟨sumM (fun m x => loW x (cF l m)) 0 (q.take i), sumM (fun m x => hiW x (cF l m)) 0 (q.take i), sumM (fun m x => loW x (cB l m)) 0 (q.take i), sumM (fun m x => hiW x (cB l m)) 0 (q.take i)⟩ := rfl
  have hP1 : prtF l (q.take (i + 1)) = ⟨sumM (fun m x => loW x (cF l m)) 0 (q.take (i + 1)), sumM (fun m x => hiW x (cF l m)) 0 (q.take (i + 1)), sumM (fun m x => loW x (cB l m)) 0 (q.take (i + 1)), sumM (fun m x => hiW x (cB l m)) 0 (q.take (i + 1))⟩ := rfl
  rw [e1, e2, e3, e4] at hP1
  clear e1 e2 e3 e4
  generalize sumM (fun m x => loW x (cF l m)) 0 (q.take i) = A1 at *
  generalize sumM (fun m x => hiW x (cF l m)) 0 (q.take i) = A2 at *
  generalize sumM (fun m x => loW x (cB l m)) 0 (q.take i) = A3 at *
  generalize sumM (fun m x => hiW x (cB l m)) 0 (q.take i) = A4 at *
  generalize lgI (q.take i) = S at *
  have hm1 : 2 * l.bk - (2 * S + x.lg) = cF l (2 * S + x.lg) := rfl
  have hm2 : 2 * S + x.lg - 2 * l.fr = cB l (2 * S + x.lg) := rfl
  have c1 := cF_b hl (2 * S + x.lg) (by omega) (by omega)
  have c2 := cB_b hl (2 * S + x.lg) (by omega) (by omega)
  have t1 := plTimes x hxo _ c1
  have t2 := plTimes x hxo _ c2
  have b1 := lohi_b hxo c1
  have b2 := lohi_b hxo c2
  rw [hP]
  dsimp only
  have p1 := plPlus A1 A2 (loW x (cF l (2 * S + x.lg))) (hiW x (cF l (2 * S + x.lg))) (by omega) (by omega) (by omega) (by omega)
  have p2 := plPlus A3 A4 (loW x (cB l (2 * S + x.lg))) (hiW x (cB l (2 * S + x.lg))) (by omega) (by omega) (by omega) (by omega)
  repeat' (first|(with_reducible first|apply qA|apply qB|apply qC|apply qD|apply qE|apply qF)|(refine qL rfl (WF.of ?_) ?_; first|rfl|skip)|(refine DW.ord rfl (WF.of (by first|rfl|simp (disch:=omega) only [go_sem, simprocAttr, qN, qO, qP, qQ, hd, hx, hm1, hm2, rF, rG])) ?_ ?_ ?_; rotate_left)|rfl|(with_reducible refine And.intro ?_ ?_)|(simp (disch:=omega) only [go_sem, simprocAttr, qN, qO, qP, qQ, hd, hx, hm1, hm2, rF, rG])|exact qM rfl rfl rfl|(refine qG rfl ?_)|(refine qK (t1) (by decide) ?_)|(refine qK (t2) (by decide) ?_)|(refine qK (p1) (by decide) ?_)|(refine qK (p2) (by decide) ?_)|(refine qH rfl ?_)|(refine qI rfl ?_ ?_<;>intro hc<;>(try simp only [go_sem] at hc))|(refine qJ ?_ ?_<;>intro hc<;>(try simp only [hc])<;>(try simp only [go_sem] at hc)))
  refine ⟨⟨i + 1, hlt⟩, ?_, Ent.to ?_ ?_⟩ <;> first | (show _ < _; (try simp only); omega) | (simp (disch:=omega) only [qR,qS,qT,qU,get,Nat.reduceEqDiff,↓reduceIte,qV,qW,qX,qY,qZ,and_self,dI,i64_in,and_true,true_and,rA,rB,rC,rD, hsn,hP1])
  all_goals first | exact ⟨.refl _, .refl _, .refl _⟩ | exact ⟨.refl _, .refl _⟩ | exact .refl _
 ·have hti : q.take i = q := by rw [he, List.take_length]
  rw [hti]
  generalize prtF l q = R at *
  repeat' (first|(with_reducible first|apply qA|apply qB|apply qC|apply qD|apply qE|apply qF)|(refine qL rfl (WF.of ?_) ?_; first|rfl|skip)|(refine DW.ord rfl (WF.of (by first|rfl|simp (disch:=omega) only [go_sem, simprocAttr, qN, qO, qP, qQ, hd])) ?_ ?_ ?_; rotate_left)|rfl|(with_reducible refine And.intro ?_ ?_)|(simp (disch:=omega) only [go_sem, simprocAttr, qN, qO, qP, qQ, hd])|exact qM rfl rfl rfl|(refine qG rfl ?_)|(refine qH rfl ?_)|(refine qI rfl ?_ ?_<;>intro hc<;>(try simp only [go_sem] at hc))|(refine qJ ?_ ?_<;>intro hc<;>(try simp only [hc])<;>(try simp only [go_sem] at hc)))
theorem prt_b {l : PLy} {q : List PIt} (h : LorOk l q) : ((-350000000000 ≤ (prtF l q).fl ∧ (prtF l q).fl ≤ (prtF l q).fh) ∧ (prtF l q).fh ≤ 350000000000) ∧ (-350000000000 ≤ (prtF l q).bl ∧ (prtF l q).bl ≤ (prtF l q).bh) ∧ (prtF l q).bh ≤ 350000000000 := by
 have hlen := h.len
 have hll := h.ly.lg
 have hlg := h.lg
 have bF := sumM_b (cF_b h.ly) (q := q) (a := 0) (by omega) (by omega) h.its
 have bB := sumM_b (cB_b h.ly) (q := q) (a := 0) (by omega) (by omega) h.its
 unfold prtF
 dsimp only
 omega
def axD (l : PLy) (q : List PIt) : D := if lorE l q = 0 then .tup [.agg [dI ((prtF l q).fl / (2 * (l.bk - l.fr))), dI ((prtF l q).fh / (2 * (l.bk - l.fr)))], .agg [dI ((prtF l q).bl / (2 * (l.bk - l.fr))), dI ((prtF l q).bh / (2 * (l.bk - l.fr)))], dI 0] else .tup [.agg [dI 0, dI 0], .agg [dI 0, dI 0], dI (lorE l q)]
set_option maxHeartbeats 4000000 in
theorem plAxles (l : PLy) (q : List PIt) (hq : q.length ≤ 2 ^ 36) : DCall Try.prog 29 [lyrD l, itsD false q] [] (axD l q) [] := by
 have h1 := plCheckLorry false l q hq
 unfold axD
 by_cases he : lorE l q = 0
 ·have hL := lor_iff.1 he
  have hP := plParts l false q hL
  have hb := prt_b hL
  have hW := plWhole l hL.ly false q
  have hax := hL.ly.ax
  have hll := hL.ly.lg
  rw [if_pos he]
  rw [he] at h1
  generalize prtF l q = R at *
  obtain ⟨fl, fh, bl, bh⟩ := R
  dsimp only at hb ⊢
  have d1 := plDown fl fh (2 * (l.bk - l.fr)) (by omega) (by omega) (by omega)
  have d2 := plDown bl bh (2 * (l.bk - l.fr)) (by omega) (by omega) (by omega)
  refine DCall.of Try.func29 sf29 hb29 (Nat.le_of_ble_eq_true rfl) (okRes_nil fun _ => rfl) ?_; simp only [s29, o29_0, o29_1, o29_2, o29_3, o29_4, o29_5, idxs, Nat.reduceAdd]
  repeat' (first|(with_reducible first|apply qA|apply qB|apply qC|apply qD|apply qE|apply qF)|(refine qL rfl (WF.of ?_) ?_; first|rfl|skip)|(refine DW.ord rfl (WF.of (by first|rfl|simp (disch:=omega) only [go_sem, simprocAttr, qN, qO, qP, qQ])) ?_ ?_ ?_; rotate_left)|rfl|(with_reducible refine And.intro ?_ ?_)|(simp (disch:=omega) only [go_sem, simprocAttr, qN, qO, qP, qQ])|exact qM rfl rfl rfl|(refine qG rfl ?_)|(refine qK (h1) (by decide) ?_)|(refine qK (hP) (by decide) ?_)|(refine qK (hW) (by decide) ?_)|(refine qK (d1) (by decide) ?_)|(refine qK (d2) (by decide) ?_)|(refine qH rfl ?_)|(refine qI rfl ?_ ?_<;>intro hc<;>(try simp only [go_sem] at hc))|(refine qJ ?_ ?_<;>intro hc<;>(try simp only [hc])<;>(try simp only [go_sem] at hc)))
  skip
 ·rw [if_neg he]
  generalize lorE l q = e at *
  have hd : (e != 0) = true := by simpa using he
  refine DCall.of Try.func29 sf29 hb29 (Nat.le_of_ble_eq_true rfl) (okRes_nil fun _ => rfl) ?_; simp only [s29, o29_0, o29_1, o29_2, o29_3, o29_4, o29_5, idxs, Nat.reduceAdd]
  repeat' (first|(with_reducible first|apply qA|apply qB|apply qC|apply qD|apply qE|apply qF)|(refine qL rfl (WF.of ?_) ?_; first|rfl|skip)|(refine DW.ord rfl (WF.of (by first|rfl|simp (disch:=omega) only [go_sem, simprocAttr, qN, qO, qP, qQ, hd])) ?_ ?_ ?_; rotate_left)|rfl|(with_reducible refine And.intro ?_ ?_)|(simp (disch:=omega) only [go_sem, simprocAttr, qN, qO, qP, qQ, hd])|exact qM rfl rfl rfl|(refine qG rfl ?_)|(refine qK (h1) (by decide) ?_)|(refine qH rfl ?_)|(refine qI rfl ?_ ?_<;>intro hc<;>(try simp only [go_sem] at hc))|(refine qJ ?_ ?_<;>intro hc<;>(try simp only [hc])<;>(try simp only [go_sem] at hc)))
  skip
def bearX (l : PLy) (q : List PIt) : Bool := spanOk (prtF l q).fl (prtF l q).fh 0 (l.fm * (2 * (l.bk - l.fr))) && spanOk (prtF l q).bl (prtF l q).bh 0 (l.bm * (2 * (l.bk - l.fr)))
set_option maxHeartbeats 2000000 in
theorem plBears (l : PLy) (lab : Bool) (q : List PIt) (h : LorOk l q) : DCall Try.prog 82 [lorD l lab q] [] (bD (bearX l q)) [] := by
 have hP := plParts l lab q h
 have hW := plWhole l h.ly lab q
 have hax := h.ly.ax
 have hll := h.ly.lg
 have hfm := h.ly.fm
 have hbm := h.ly.bm
 have m1 := mul_abs (a := l.fm) (b := 2 * (l.bk - l.fr)) (A := 40000000) (B := 10000) (by omega) (by omega)
 have m2 := mul_abs (a := l.bm) (b := 2 * (l.bk - l.fr)) (A := 40000000) (B := 10000) (by omega) (by omega)
 have w1 : IntKind.i64.wrap (l.fm * (2 * (l.bk - l.fr))) = l.fm * (2 * (l.bk - l.fr)) := IntWalk.i64_in _ (by omega)
 have w2 : IntKind.i64.wrap (l.bm * (2 * (l.bk - l.fr))) = l.bm * (2 * (l.bk - l.fr)) := IntWalk.i64_in _ (by omega)
 unfold bearX
 generalize prtF l q = R at *
 obtain ⟨fl, fh, bl, bh⟩ := R
 dsimp only
 have s1 := plSpan fl fh 0 (l.fm * (2 * (l.bk - l.fr)))
 have s2 := plSpan bl bh 0 (l.bm * (2 * (l.bk - l.fr)))
 cases e1 : spanOk fl fh 0 (l.fm * (2 * (l.bk - l.fr))) <;> rw [e1] at s1 <;> simp only [Bool.true_and, Bool.false_and]
 ·refine DCall.of Try.func82 sf82 hb82 (Nat.le_of_ble_eq_true rfl) (okRes_nil fun _ => rfl) ?_; simp only [s82, idxs, Nat.reduceAdd]
  repeat' (first|(with_reducible first|apply qA|apply qB|apply qC|apply qD|apply qE|apply qF)|(refine qL rfl (WF.of ?_) ?_; first|rfl|skip)|(simp (disch:=omega) only [go_sem, simprocAttr, qN, qO, qP, qQ, w1, w2])|exact qM rfl rfl rfl|(refine qG rfl ?_)|(refine qK (hP) (by decide) ?_)|(refine qK (hW) (by decide) ?_)|(refine qK (s1) (by decide) ?_)|(refine qK (s2) (by decide) ?_)|(refine qH rfl ?_)|(refine qI rfl ?_ ?_<;>intro hc<;>(try simp only [go_sem] at hc))|(refine qJ ?_ ?_<;>intro hc<;>(try simp only [hc])<;>(try simp only [go_sem] at hc)))
 ·refine DCall.of Try.func82 sf82 hb82 (Nat.le_of_ble_eq_true rfl) (okRes_nil fun _ => rfl) ?_; simp only [s82, idxs, Nat.reduceAdd]
  repeat' (first|(with_reducible first|apply qA|apply qB|apply qC|apply qD|apply qE|apply qF)|(refine qL rfl (WF.of ?_) ?_; first|rfl|skip)|(simp (disch:=omega) only [go_sem, simprocAttr, qN, qO, qP, qQ, w1, w2])|exact qM rfl rfl rfl|(refine qG rfl ?_)|(refine qK (hP) (by decide) ?_)|(refine qK (hW) (by decide) ?_)|(refine qK (s1) (by decide) ?_)|(refine qK (s2) (by decide) ?_)|(refine qH rfl ?_)|(refine qI rfl ?_ ?_<;>intro hc<;>(try simp only [go_sem] at hc))|(refine qJ ?_ ?_<;>intro hc<;>(try simp only [hc])<;>(try simp only [go_sem] at hc)))
end Go.Dw.Seat
end
section
set_option linter.unusedSimpArgs false
set_option maxRecDepth 100000
namespace Go.Dw.Seat
open Go Go.Dw Go.Proofs Go.IntWalk
def pkI (q : List PIt) (e : List Int) : List PIt := e.map fun i => q.getD i.toNat ⟨1, 0, 0⟩
theorem go_perm : ∀ n : Fin 7, (goP 721 (upN n.1)).all (fun e => e.isPerm (upN n.1)) = true := by decide +kernel
theorem lgI_perm {a b : List PIt} (h : a.Perm b) : lgI a = lgI b := by
 induction h with
 | nil => rfl
 | cons x _ ih => rw [lgI, lgI, ih]
 | swap x y l => simp only [lgI]; omega
 | trans _ _ h1 h2 => rw [h1, h2]
theorem pk_up (q : List PIt) : pkI q (upN q.length) = q := by
 apply List.ext_getElem?
 intro i
 simp only [pkI, upN, List.map_map, List.getElem?_map, Function.comp]
 rcases Nat.lt_or_ge i q.length with h | h
 ·rw [List.getElem?_eq_getElem (by simpa using h), List.getElem?_eq_getElem h]
  simp [List.getD_eq_getElem?_getD, List.getElem?_eq_getElem h]
 ·rw [List.getElem?_eq_none (by simpa using h), List.getElem?_eq_none h]
  rfl
theorem pk_ok {l : PLy} {q : List PIt} (h : LorOk l q) {e : List Int} (he : e.isPerm (upN q.length) = true) : LorOk l (pkI q e) := by
 have hp : e.Perm (upN q.length) := List.isPerm_iff.1 he
 have h2 : (pkI q e).Perm q := by
  have := hp.map (fun i => q.getD i.toNat ⟨1, 0, 0⟩)
  have e1 := pk_up q
  unfold pkI at e1
  rw [e1] at this
  exact this
 exact ⟨h.ly, by rw [h2.length_eq]; exact h.len, fun x hx => h.its x (h2.mem_iff.1 hx), by rw [lgI_perm h2]; exact h.lg⟩
theorem pk_mem {n : Nat} {e : List Int} (he : e.isPerm (upN n) = true) : e.length = n ∧ ∀ x ∈ e, 0 ≤ x ∧ x < (n : Int) := by
 have hp : e.Perm (upN n) := List.isPerm_iff.1 he
 refine ⟨by rw [hp.length_eq, upN_len], fun x hx => ?_⟩
 have := hp.mem_iff.1 hx
 simp only [upN, List.mem_map, List.mem_range] at this
 obtain ⟨i, hi, rfl⟩ := this
 omega
theorem rowC_snocIt (l : List PIt) (x : PIt) : rowC (rows eIt l) ++ [[D.c (.v (.int .i64 x.lg)), D.c (.v (.int .i64 x.wl)), D.c (.v (.int .i64 x.wh))]] = rowC (rows eIt (l ++ [x])) := by simp [rowC, rows, eIt]
def ordS (l : PLy) (q : List PIt) (a : Option (List Int)) (e : List Int) : Option Exit × Option (List Int) := if bearX l (pkI q e) then (some .ret, some e) else (none, a)
theorem ord_run (l : PLy) (q : List PIt) : ∀ L : List (List Int), runIt (ordS l q) none L = (match L.find? (fun e => bearX l (pkI q e)) with | some e => (some .ret, some e) | none => (none, none))
 | [] => rfl
 | e :: L => by
  rw [runIt, ordS, List.find?_cons]
  cases bearX l (pkI q e)
  ·simp only [Bool.false_eq_true, if_false]
   exact ord_run l q L
  ·rfl
def oRes : Option (List Int) → D
 | some e => dIs false e
 | none => .c (.v (.slice none 0 0))
def oErr : Option (List Int) → Int
 | some _ => 0
 | none => 9
theorem oRes_men (k : Nat) (F : Option (List Int)) : D.men k (oRes F) = false := by cases F <;> rfl
theorem oRes_nb (F : Option (List Int)) : D.nb (oRes F) = true := by
 cases F
 ·rfl
 ·simp only [oRes, D.nb, C.nb, rows_nb eI_nb]; rfl
theorem oRes_keys (bx : List (Nat × Blk)) (F : Option (List Int)) : D.keysIn bx (oRes F) = true := by cases F <;> rfl
theorem oRes_kill (k : Nat) (F : Option (List Int)) : killD k (oRes F) = oRes F := by cases F <;> rfl
attribute [go_sem] oRes_men oRes_keys oRes_kill
def findO (l : PLy) (q : List PIt) : Option (List Int) := (goP 721 (upN q.length)).find? fun e => bearX l (pkI q e)
def ordD (l : PLy) (q : List PIt) : D := if lorE l q = 0 then .tup [oRes (findO l q), dI (oErr (findO l q))] else .tup [.c (.v (.slice none 0 0)), dI (lorE l q)]
set_option maxHeartbeats 8000000 in
theorem plOrder (l : PLy) (q : List PIt) (hq : q.length ≤ 2 ^ 36) (h6 : lorE l q = 0 → q.length ≤ 6) : DCall Try.prog 33 [lyrD l, itsD false q] [] (ordD l q) [] := by
 have h1 := plCheckLorry false l q hq
 unfold ordD
 by_cases he : lorE l q = 0
 case neg =>
  rw [if_neg he]
  generalize lorE l q = e at *
  have hd : (e != 0) = true := by simpa using he
  refine DCall.of Try.func33 sf33 hb33 (Nat.le_of_ble_eq_true rfl) (okRes_nil fun _ => rfl) ?_; simp only [s33, idxs, Nat.reduceAdd]
  repeat' (first|(with_reducible first|apply qA|apply qB|apply qC|apply qD|apply qE|apply qF)|(refine qL rfl (WF.of ?_) ?_; first|rfl|skip)|(simp (disch:=omega) only [go_sem, simprocAttr, qN, qO, qP, qQ, hd])|exact qM rfl rfl rfl|(refine qG rfl ?_)|(refine qK (h1) (by decide) ?_)|(refine qH rfl ?_)|(refine qI rfl ?_ ?_<;>intro hc<;>(try simp only [go_sem] at hc))|(refine qJ ?_ ?_<;>intro hc<;>(try simp only [hc])<;>(try simp only [go_sem] at hc)))
 rw [if_pos he]
 have hL := lor_iff.1 he
 have h6 := h6 he
 have h2 := plOrders0 q.length
 have hit := plOrders1 q.length h6
 have hperm := List.all_eq_true.1 (go_perm ⟨q.length, by omega⟩)
 have hrun := ord_run l q (goP 721 (upN q.length))
 rw [he] at h1
 unfold findO
 generalize goP 721 (upN q.length) = G at *
 refine DCall.of Try.func33 sf33 hb33 (Nat.le_of_ble_eq_true rfl) (okRes_nil fun k => by simp only [D.men, D.mens, oRes_men]; rfl) ?_
 simp only [s33, idxs, Nat.reduceAdd]
 repeat' (first|(with_reducible first|apply qA|apply qB|apply qC|apply qD|apply qE|apply qF)|(refine qL rfl (WF.of ?_) ?_; first|rfl|skip)|(simp (disch:=omega) only [go_sem, simprocAttr, qN, qO, qP, qQ])|exact qM rfl rfl rfl|(refine qG rfl ?_)|(refine qK (h1) (by decide) ?_)|(refine qK (h2) (by decide) ?_)|(refine qH rfl ?_)|(refine qI rfl ?_ ?_<;>intro hc<;>(try simp only [go_sem] at hc))|(refine qJ ?_ ?_<;>intro hc<;>(try simp only [hc])<;>(try simp only [go_sem] at hc)))
 refine DW.ent (σ' := ⟨43, [(19, .fn (.func 111) [] [.c (.ro false [.v (.int .i64 q.length)] 0)]), (5, .box 5 0), (4, .box 4 0), (3, .box 3 0), (2, .box 2 0)], [(5, .box [dI 0]), (4, .box [oRes none]), (3, .box [itsD false q]), (2, .box [dI l.lg, dI l.fr, dI l.bk, dI l.fm, dI l.bm])]⟩) (Ent.to ?_ ?_) ?_
 ·simp (disch:=omega) only [qR,qS,qT,qU,get,Nat.reduceEqDiff,↓reduceIte,qV,qW,qX,qY,qZ,and_self,dI,i64_in,and_true,true_and,rA,rB,rC,rD]
 ·simp (disch:=omega) only [qR,qS,qT,qU,get,Nat.reduceEqDiff,↓reduceIte,qV,qW,qX,qY,qZ,and_self,dI,i64_in,and_true,true_and,rA,rB,rC,rD,oRes]
  all_goals first | exact ⟨.refl _, .refl _⟩ | exact .refl _
 refine DW.rngBS (fs := []) (caps := [.c (.ro false [.v (.int .i64 q.length)] 0)]) (fun a : Option (List Int) => [(5, .box [dI 0]), (4, .box [oRes a]), (3, .box [itsD false q]), (2, .box [dI l.lg, dI l.fr, dI l.bk, dI l.fm, dI l.bm])]) none (ordS l q) enO (fun _ => True) G hit (fun t _ => ∀ e ∈ t, e.isPerm (upN q.length) = true) hperm (fun a e t h _ _ x hx => h x (List.mem_cons_of_mem _ hx)) rfl (fun _ => ⟨rfl, rfl⟩) rfl (by decide) (fun _ _ => rfl) (fun _ _ _ => rfl) (by simp only [List.map_cons, List.map_nil]; decide) (fun _ => rfl) (fun a => by cases a <;> rfl) (fun a => by show (_ && ((D.nb (oRes a) && _) && _)) = true; rw [oRes_nb]; exact (by simp only [List.all_cons, List.all_nil, Blk.nb, rowC_nb, D.nb, D.nbs, C.nb, C.nbs, C.nbss, rows_nb eI_nb, Bool.and_true, Bool.not_false, Bool.and_self, bD, dI, iD, rows_nb eIt_nb])) (by simp only [List.all_cons, List.all_nil, Blk.nb, rowC_nb, D.nb, D.nbs, C.nb, C.nbs, C.nbss, rows_nb eI_nb, Bool.and_true, Bool.not_false, Bool.and_self, bD, dI, iD, rows_nb eIt_nb]) (fun a e => by unfold ordS; split <;> rfl) ?_ ?_
 ·intro a e t hp _ v
  have hpe := hp e (by simp)
  obtain ⟨hel, hem⟩ := pk_mem hpe
  have hLe := pk_ok hL hpe
  have hb := plBears l true (pkI q e) hLe
  have hcl := plCloneC true e (by omega)
  clear hp hperm hrun hit
  simp (disch:=omega) only [go_sem,simprocAttr,qN,qO,qP,qQ,rF,rG,enO]
  repeat' (first|(with_reducible first|apply qA|apply qB|apply qC|apply qD|apply qE|apply qF)|(refine qL rfl (WF.of ?_) ?_; first|rfl|skip)|(simp (disch:=omega) only [go_sem, simprocAttr, qN, qO, qP, qQ, rF, rG])|exact qM rfl rfl rfl|(refine qG rfl ?_)|(refine qH rfl ?_)|(refine qI rfl ?_ ?_<;>intro hc<;>(try simp only [go_sem] at hc))|(refine qJ ?_ ?_<;>intro hc<;>(try simp only [hc])<;>(try simp only [go_sem] at hc)))
  refine DW.ent (Ent.adoptB 8 5 36 3 rfl rfl rfl ?_) ?_
  ·cases a <;> rfl
  simp only [ins, Nat.reduceLT, Nat.reduceEqDiff, ↓reduceIte, List.set_cons_zero, List.set_cons_succ]
  refine DW.loop (ι := { i : Nat // i ≤ e.length }) (fun i => ⟨43, [(25, dI i.1), (24, dI e.length), (23, dIs true e), (19, .fn (.func 111) [] [.c (.ro false [.v (.int .i64 q.length)] 0)]), (8, .box 8 0), (7, dIs true e), (5, .box 5 0), (4, .box 4 0), (3, .box 3 0), (2, .box 2 0)], [(5, .box [dI 0]), (4, .box [oRes a]), (3, .box [itsD false q]), (2, .box [dI l.lg, dI l.fr, dI l.bk, dI l.fm, dI l.bm]), capB v [(19, .fn (.func 111) [] [.c (.ro false [.v (.int .i64 q.length)] 0)]), (5, .box 5 0), (4, .box 4 0), (3, .box 3 0), (2, .box 2 0)], (8, .box [dI l.lg, dI l.fr, dI l.bk, dI l.fm, dI l.bm, .own 36]), (36, .row 3 (rowC (rows eIt (pkI q (e.take i.1)))))]⟩) (fun i => e.length - i.1) ⟨0, Nat.zero_le _⟩ ?_ ?_
  ·refine Ent.to ?_ ?_ <;> simp (disch:=omega) only [qR,qS,qT,qU,get,Nat.reduceEqDiff,↓reduceIte,qV,qW,qX,qY,qZ,and_self,dI,i64_in,and_true,true_and,rA,rB,rC,rD,capB,List.take_zero,pkI,rG]
   all_goals first | exact ⟨.refl _, .refl _, .refl _⟩ | exact ⟨.refl _, .refl _⟩ | exact .refl _ | skip
  rintro ⟨i, hi⟩
  dsimp only
  rcases at_or e i hi with ⟨x, hx, hlt, hd⟩ | ⟨he, hd⟩
  ·have hxb := hem x (List.mem_of_getElem? hx)
   obtain ⟨n, rfl⟩ : ∃ n : Nat, x = (n : Int) := ⟨x.toNat, by omega⟩
   have hnq : n < q.length := by omega
   obtain ⟨y, hy⟩ : ∃ y, q[n]? = some y := ⟨q[n], List.getElem?_eq_getElem hnq⟩
   have htk : pkI q (e.take (i + 1)) = pkI q (e.take i) ++ [y] := by
    have h1 : e.take (i + 1) = e.take i ++ [(n : Int)] := by rw [List.take_add_one, hx]; rfl
    rw [h1, pkI, List.map_append, pkI]
    simp [List.getD_eq_getElem?_getD, hy]
   have hnq' : (n < q.length) = True := eq_true hnq
   have hpl : (pkI q (e.take i)).length ≤ 10 := by rw [pkI, List.length_map, List.length_take]; omega
   have hsn := rowC_snocIt (pkI q (e.take i)) y
   generalize pkI q (e.take i) = A at *
   repeat' (first|(with_reducible first|apply qA|apply qB|apply qC|apply qD|apply qE|apply qF)|(refine qL rfl (WF.of ?_) ?_; first|rfl|skip)|(simp (disch:=omega) only [go_sem, simprocAttr, qN, qO, qP, qQ, hd, hx, hy, hnq', hsn, capB, rF, rG])|exact qM rfl rfl rfl|(refine qG rfl ?_)|(refine qH rfl ?_)|(refine qI rfl ?_ ?_<;>intro hc<;>(try simp only [go_sem] at hc))|(refine qJ ?_ ?_<;>intro hc<;>(try simp only [hc])<;>(try simp only [go_sem] at hc)))
   refine ⟨⟨i + 1, hlt⟩, ?_, Ent.to ?_ ?_⟩ <;> first | (show _ < _; (try simp only); omega) | (simp (disch:=omega) only [qR,qS,qT,qU,get,Nat.reduceEqDiff,↓reduceIte,qV,qW,qX,qY,qZ,and_self,dI,i64_in,and_true,true_and,rA,rB,rC,rD, htk,capB])
   all_goals first | exact ⟨.refl _, .refl _, .refl _⟩ | exact ⟨.refl _, .refl _⟩ | exact .refl _ | skip
  ·have hti : e.take i = e := by rw [he, List.take_length]
   rw [hti]
   unfold ordS
   generalize pkI q e = A at *
   cases hB : bearX l A <;> rw [hB] at hb
   ·rw [if_neg Bool.false_ne_true]
    repeat' (first|(with_reducible first|apply qA|apply qB|apply qC|apply qD|apply qE|apply qF)|(refine qL rfl (WF.of ?_) ?_; first|rfl|skip)|(simp (disch:=omega) only [go_sem, simprocAttr, qN, qO, qP, qQ, hd, capB, rF, rG])|exact qM rfl rfl rfl|(refine qG rfl ?_)|(refine qK (hb) (by decide) ?_)|(refine qH rfl ?_)|(refine qI rfl ?_ ?_<;>intro hc<;>(try simp only [go_sem] at hc))|(refine qJ ?_ ?_<;>intro hc<;>(try simp only [hc])<;>(try simp only [go_sem] at hc)))
    refine round_end rfl rfl (Ent.to ?_ ?_) <;> simp (disch:=omega) only [qR,qS,qT,qU,get,Nat.reduceEqDiff,↓reduceIte,qV,qW,qX,qY,qZ,and_self,dI,i64_in,and_true,true_and,rA,rB,rC,rD,capB,List.cons_append,List.nil_append]
   ·rw [if_pos rfl]
    repeat' (first|(with_reducible first|apply qA|apply qB|apply qC|apply qD|apply qE|apply qF)|(refine qL rfl (WF.of ?_) ?_; first|rfl|skip)|(simp (disch:=omega) only [go_sem, simprocAttr, qN, qO, qP, qQ, hd, capB, rF, rG])|exact qM rfl rfl rfl|(refine qG rfl ?_)|(refine qK (hb) (by decide) ?_)|(refine qK (hcl) (by decide) ?_)|(refine qH rfl ?_)|(refine qI rfl ?_ ?_<;>intro hc<;>(try simp only [go_sem] at hc))|(refine qJ ?_ ?_<;>intro hc<;>(try simp only [hc])<;>(try simp only [go_sem] at hc)))
    refine round_end rfl rfl (Ent.to ?_ ?_) <;> simp (disch:=omega) only [qR,qS,qT,qU,get,Nat.reduceEqDiff,↓reduceIte,qV,qW,qX,qY,qZ,and_self,dI,i64_in,and_true,true_and,rA,rB,rC,rD,capB,List.cons_append,List.nil_append,oRes]
 ·rw [hrun]
  cases G.find? (fun e => bearX l (pkI q e)) with
  | none =>
   dsimp only
   simp (disch:=omega) only [go_sem,simprocAttr,qN,qO,qP,qQ,Option.getD_none]
   repeat' (first|(with_reducible first|apply qA|apply qB|apply qC|apply qD|apply qE|apply qF)|(refine qL rfl (WF.of ?_) ?_; first|rfl|skip)|(simp (disch:=omega) only [go_sem, simprocAttr, qN, qO, qP, qQ, oRes])|exact qM rfl rfl rfl|(refine qG rfl ?_)|(refine qH rfl ?_)|(refine qI rfl ?_ ?_<;>intro hc<;>(try simp only [go_sem] at hc))|(refine qJ ?_ ?_<;>intro hc<;>(try simp only [hc])<;>(try simp only [go_sem] at hc)))
  | some e =>
   dsimp only
   simp (disch:=omega) only [go_sem,simprocAttr,qN,qO,qP,qQ,Option.getD_some]
   simp only [oRes, oErr]
   refine retS_wk rfl ?_ (by simp only [Blk.nb, rowC_nb, D.nb, D.nbs, C.nb, C.nbs, C.nbss, rows_nb eI_nb, Bool.and_true, Bool.not_false, Bool.and_self, bD, dI, iD, rows_nb eIt_nb]); exact .refl _
end Go.Dw.Seat
end
section
set_option linter.unusedSimpArgs false
set_option maxRecDepth 100000
namespace Go.Dw.Seat
open Go Go.Dw Go.Proofs Go.IntWalk
def ex3 : List PPl := [⟨0, 0, false⟩, ⟨40, 0, false⟩, ⟨0, 30, false⟩]
def ex8 : List PPl := [⟨0, 0, true⟩, ⟨30, 0, true⟩, ⟨60, 0, true⟩, ⟨90, 0, true⟩, ⟨0, 40, true⟩, ⟨30, 40, true⟩, ⟨60, 40, true⟩, ⟨90, 40, true⟩]
def ex3t : List PPl := [⟨80, 0, false⟩, ⟨40, 0, false⟩, ⟨80, 30, false⟩]
def exIt : List PIt := [⟨120, 1000000, 1000000⟩, ⟨120, 800000, 900000⟩]
def exR : List PRs := [⟨[], 0⟩, ⟨[1], 1000⟩, ⟨[], 0⟩]
theorem ex8_at : ∀ i : Fin 8, ex8.take i.1 ++ [⟨30 * ((i.1 % 4 : Nat) : Int), 40 * ((i.1 / 4 : Nat) : Int), true⟩] = ex8.take (i.1 + 1) := by decide +kernel
theorem exc0 : chkE (exBs 0) exBx = 0 := by decide +kernel
theorem exc5 : chkE (exBs 5) exBx = 0 := by decide +kernel
theorem exb0 : bndX (exBs 0) exBx = 8 := by decide +kernel
theorem exb5 : bndX (exBs 5) exBx = 9 := by decide +kernel
theorem exm : mostX (exBs 5) exBx = 9 := by decide +kernel
theorem exl : (layX (exBs 0) exBx).length = 8 := by decide +kernel
theorem ext1 : trnE (exBs 0) exBx ex3 2 = 0 := by decide +kernel
theorem ext2 : ex3.map (trnP (exBs 0) exBx 2) = ex3t := by decide +kernel
theorem exr1 : rgtE (exBs 0) exBx [ex3, ex3t] = 0 := by decide +kernel
theorem exr2 : (ex3t.map (rsF exBx ex3)).map (fun r => (r.on, r.sh)) = exR.map (fun r => (r.on, r.sh)) := by decide +kernel
theorem prs_ext : ∀ {a b : List PRs}, a.map (fun r => (r.on, r.sh)) = b.map (fun r => (r.on, r.sh)) → a = b
 | [], [], _ => rfl
 | [], _ :: _, h => by simp at h
 | _ :: _, [], h => by simp at h
 | ⟨o, s⟩ :: a, ⟨o', s'⟩ :: b, h => by
  simp only [List.map_cons, List.cons.injEq, Prod.mk.injEq] at h
  obtain ⟨⟨rfl, rfl⟩, h⟩ := h
  rw [prs_ext h]
theorem exr3 : ex3t.map (rsF exBx ex3) = exR := prs_ext exr2
theorem exn1 : rgtE (exBs 0) exBx [ex8] = 0 := by decide +kernel
theorem exn2 : bindS (exBs 0) exBx ex8 4 = (0, 0) := by decide +kernel
theorem exy1 : lorE exLy exIt = 0 := by decide +kernel
theorem exy2 : (prtF exLy exIt).fl / 800 = 1740000 ∧ (prtF exLy exIt).fh / 800 = 1820000 ∧ (prtF exLy exIt).bl / 800 = 60000 ∧ (prtF exLy exIt).bh / 800 = 80000 := by decide +kernel
theorem exo : findO exLy exIt = some [0, 1] := by decide +kernel
theorem exTab : TabOk [(0, 1000)] 0 := by
 refine ⟨tabF_of (by decide) (fun u h => ?_) (fun j hj v hv => ?_), by decide⟩
 ·simp at h; subst h; rfl
 ·have hj0 : j = 0 := by simp at hj; omega
  subst hj0
  simp at hv
  subst hv
  exact ⟨⟨by decide, by decide⟩, fun k u h => by omega⟩
theorem exh : layI (exBs 0) exBx 8 (highI (lodF exBx) [(0, 1000)] 0) = 6 := by decide +kernel
end Go.Dw.Seat
end
