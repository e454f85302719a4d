/- Helpers of a proof. -/
import Derived.Test.YtimgcfmeakekbaaJ00
set_option linter.unusedVariables false
set_option linter.unusedSimpArgs false
section
set_option linter.unusedSimpArgs false
set_option maxRecDepth 100000
namespace Go.Dw.Seat
open Go Go.Dw Go.Proofs Go.IntWalk
theorem rowC_snocA (b : PBx) (l : List PPl) (q : PPl) : rowC (rows (eA b) l) ++ [[D.c (.v (.int .i64 q.x)), D.c (.v (.int .i64 q.y)), D.c (.v (.int .i64 (q.x + sdX b q))), D.c (.v (.int .i64 (q.y + sdY b q)))]] = rowC (rows (eA b) (l ++ [q])) := by simp [rowC, rows, eA]
set_option maxHeartbeats 4000000 in
theorem plFlt (p : PBs) (b : PBx) (hp : p.ok) (hb : b.ok) (lab : Bool) (l : List PPl) (hl : l.length ≤ 1000) (hf : ∀ q ∈ l, q.fine) : DCall Try.prog 90 [bedD p b, lyD lab l] [] (.tup [dI (fltF p b l).1, dI (fltF p b l).2]) [] := by
 have hr := plRoom p b hp
 obtain ⟨R, hR⟩ : ∃ R, fltF p b l = R := ⟨_, rfl⟩
 rw [hR]
 refine DCall.of Try.func90 sf90 hb90 (Nat.le_of_ble_eq_true rfl) (okRes_nil fun _ => rfl) ?_; simp only [s90, idxs, Nat.reduceAdd]
 repeat' (first|(with_reducible first|apply qA|apply qB|apply qC|apply qD|apply qE|apply qF)|(simp (disch:=omega) only [go_sem, simprocAttr, qN, qO, qP, qQ])|exact qM rfl rfl rfl|(refine qG rfl ?_)|(refine qK (hr) (by decide) ?_)|(refine qH rfl ?_)|(refine qI rfl ?_ ?_<;>intro hc<;>(try simp only [go_sem] at hc))|(refine qJ ?_ ?_<;>intro hc<;>(try simp only [hc])<;>(try simp only [go_sem] at hc)))
 refine DW.loop (ι := { i : Nat // i ≤ l.length ∧ faultF p b (l.take i) (l.drop i) = R }) (fun i => ⟨48, [(16, dI i.1), (15, dI l.length), (14, lyD lab l), (7, .own 13), (6, .box 6 0), (2, .box 2 0)], [(13, .row 4 (rowC (rows (eA b) (l.take i.1)))), (6, .box [dI (rmX p), dI (rmY p)]), (2, .box [dI p.lg, dI p.wd, dI p.hi, dI p.ov, dI p.top, dI p.load, dI b.lg, dI b.wd, dI b.hi, dI b.wl, dI b.wh, dI b.sl, dI b.sh])]⟩) (fun i => l.length - i.1) ⟨0, Nat.zero_le _, hR⟩ ?_ ?_
 ·refine Ent.to ?_ ?_ <;> simp (disch:=omega) only [qR,qS,qTw,qU,get,Nat.reduceEqDiff,↓reduceIte,qV,qW,qX,qY,qZ,and_self,dI,i64_in,and_true,true_and,rA,rB,rC,rD,List.take_zero]
  all_goals first | exact ⟨.refl _, .refl _, .refl _⟩ | exact ⟨.refl _, .refl _⟩ | exact .refl _
 rintro ⟨i, hi, hr2⟩
 dsimp only
 rcases at_or l i hi with ⟨q, hq, hlt, hd⟩ | ⟨he, hd⟩
 ·have h1 : l.drop i = q :: l.drop (i + 1) := by rw [List.drop_eq_getElem_cons hlt, (List.getElem_eq_iff hlt).2 hq]
  have htk : l.take (i + 1) = l.take i ++ [q] := by rw [List.take_add_one, hq]; rfl
  have htl : (l.take i).length = i := by rw [List.length_take]; omega
  rw [h1, faultF, htl, ← htk] at hr2
  have hqf := hf q (List.mem_of_getElem? hq)
  have ha := plArea p b hb q hqf
  have hqx := hqf.x
  have hqy := hqf.y
  have hqs := side_pos hb q
  have hany := plAAny b true (l.take i) (by omega) 117 [] [.ro true (eA b q) 0] (fun r => decide (0 < comI b q r)) (fun r hr' => plFault1 b hb q r hqf (hf r (List.mem_of_mem_take hr')) true)
  by_cases o1 : rmX p < q.x + sdX b q
  ·have d1 : decide (rmX p < q.x + sdX b q) = true := decide_eq_true o1
   rw [outB, d1, Bool.true_or, if_pos rfl] at hr2
   subst hr2
   repeat' (first|(with_reducible first|apply qA|apply qB|apply qC|apply qD|apply qE|apply qF)|(simp (disch:=omega) only [go_sem, simprocAttr, qN, qO, qP, qQ, hd, hq, d1, rF, rG])|exact qM rfl rfl rfl|(refine qG rfl ?_)|(refine qK (ha) (by decide) ?_)|(refine qH rfl ?_)|(refine qI rfl ?_ ?_<;>intro hc<;>(try simp only [go_sem] at hc))|(refine qJ ?_ ?_<;>intro hc<;>(try simp only [hc])<;>(try simp only [go_sem] at hc)))
  have d1 : decide (rmX p < q.x + sdX b q) = false := decide_eq_false o1
  by_cases o2 : rmY p < q.y + sdY b q
  ·have d2 : decide (rmY p < q.y + sdY b q) = true := decide_eq_true o2
   rw [outB, d1, d2, Bool.or_true, if_pos rfl] at hr2
   subst hr2
   repeat' (first|(with_reducible first|apply qA|apply qB|apply qC|apply qD|apply qE|apply qF)|(simp (disch:=omega) only [go_sem, simprocAttr, qN, qO, qP, qQ, hd, hq, d1, d2, rF, rG])|exact qM rfl rfl rfl|(refine qG rfl ?_)|(refine qK (ha) (by decide) ?_)|(refine qH rfl ?_)|(refine qI rfl ?_ ?_<;>intro hc<;>(try simp only [go_sem] at hc))|(refine qJ ?_ ?_<;>intro hc<;>(try simp only [hc])<;>(try simp only [go_sem] at hc)))
  have d2 : decide (rmY p < q.y + sdY b q) = false := decide_eq_false o2
  rw [outB, d1, d2, Bool.or_false, if_neg Bool.false_ne_true, intoB] at hr2
  cases hA : (l.take i).any fun r => decide (0 < comI b q r) with
  | true =>
   rw [hA, if_pos rfl] at hr2
   rw [hA] at hany
   subst hr2
   repeat' (first|(with_reducible first|apply qA|apply qB|apply qC|apply qD|apply qE|apply qF)|(simp (disch:=omega) only [go_sem, simprocAttr, qN, qO, qP, qQ, hd, hq, d1, d2, rF, rG])|exact qM rfl rfl rfl|(refine qG rfl ?_)|(refine qK (ha) (by decide) ?_)|(refine qK (hany) (by decide) ?_)|(refine qH rfl ?_)|(refine qI rfl ?_ ?_<;>intro hc<;>(try simp only [go_sem] at hc))|(refine qJ ?_ ?_<;>intro hc<;>(try simp only [hc])<;>(try simp only [go_sem] at hc)))
   skip
  | false =>
   rw [hA, if_neg Bool.false_ne_true] at hr2
   rw [hA] at hany
   repeat' (first|(with_reducible first|apply qA|apply qB|apply qC|apply qD|apply qE|apply qF)|(simp (disch:=omega) only [go_sem, simprocAttr, qN, qO, qP, qQ, hd, hq, d1, d2, htl, rF, rG])|exact qM rfl rfl rfl|(refine qG rfl ?_)|(refine qK (ha) (by decide) ?_)|(refine qK (hany) (by decide) ?_)|(refine qH rfl ?_)|(refine qI rfl ?_ ?_<;>intro hc<;>(try simp only [go_sem] at hc))|(refine qJ ?_ ?_<;>intro hc<;>(try simp only [hc])<;>(try simp only [go_sem] at hc)))
   refine ⟨⟨i + 1, hlt, hr2⟩, ?_, Ent.to ?_ ?_⟩ <;> first | (show _ < _; (try simp only); omega) | (simp (disch:=omega) only [qR,qS,qTw,qU,get,Nat.reduceEqDiff,↓reduceIte,qV,qW,qX,qY,qZ,and_self,dI,i64_in,and_true,true_and,rA,rB,rC,rD, htk,rowC_snocA])
   all_goals first | exact ⟨.refl _, .refl _, .refl _⟩ | exact ⟨.refl _, .refl _⟩ | exact .refl _
 ·rw [List.drop_eq_nil_of_le (by omega), faultF] at hr2
  subst hr2
  repeat' (first|(with_reducible first|apply qA|apply qB|apply qC|apply qD|apply qE|apply qF)|(simp (disch:=omega) only [go_sem, simprocAttr, qN, qO, qP, qQ, hd])|exact qM rfl rfl rfl|(refine qG rfl ?_)|(refine qH rfl ?_)|(refine qI rfl ?_ ?_<;>intro hc<;>(try simp only [go_sem] at hc))|(refine qJ ?_ ?_<;>intro hc<;>(try simp only [hc])<;>(try simp only [go_sem] at hc)))
end Go.Dw.Seat
end
section
set_option linter.unusedSimpArgs false
set_option maxRecDepth 100000
namespace Go.Dw.Seat
open Go Go.Dw Go.Proofs Go.IntWalk
theorem ly_ok : ∀ {ls : List (List PPl)}, lyE ls = 0 → ∀ l ∈ ls, l.length ≤ 200 ∧ ∀ q ∈ l, (0 ≤ q.x ∧ q.x ≤ 140) ∧ 0 ≤ q.y ∧ q.y ≤ 140
 | [], _, l, h => by cases h
 | a :: t, h, l, hl => by
  rw [lyE] at h
  split at h
  ·cases h
  ·rename_i h1
   split at h
   ·cases h
   ·rename_i h2
    rcases List.mem_cons.1 hl with rfl | hl
    ·refine ⟨by omega, fun q hq => plBad_no.1 ?_⟩
     simp only [List.any_eq_true, not_exists, not_and, Bool.not_eq_true] at h2
     exact h2 q hq
    ·exact ly_ok h l hl
theorem fine_of {q : PPl} (h : (0 ≤ q.x ∧ q.x ≤ 140) ∧ 0 ≤ q.y ∧ q.y ≤ 140) : q.fine := ⟨by omega, by omega⟩
theorem op_ok {p : PBs} {b : PBx} {ls : List (List PPl)} (h : opE p b ls = 0) : (chkE p b = 0 ∧ lyE ls = 0) ∧ p.ok ∧ b.ok := by
 unfold opE at h
 split at h
 ·rename_i h1; exact absurd h h1
 ·rename_i h1
  have h1 : chkE p b = 0 := by simpa using h1
  exact ⟨⟨h1, h⟩, chk_ok.1 h1⟩
theorem one_ls (lab : Bool) (l : List PPl) : D.c (.sl lab 1 (rows eLs [l])) = D.c (.sl lab 1 [[C.sl false 3 (rows eP l)]]) := rfl
def rgtE (p : PBs) (b : PBx) (ls : List (List PPl)) : Int := if opE p b ls ≠ 0 then opE p b ls else if ls.all (fun l => decide ((fltF p b l).2 = 0)) then 0 else 9
abbrev bedL (p : PBs) (b : PBx) : List D := [dI p.lg, dI p.wd, dI p.hi, dI p.ov, dI p.top, dI p.load, dI b.lg, dI b.wd, dI b.hi, dI b.wl, dI b.wh, dI b.sl, dI b.sh]
abbrev nonL : List D := [dI 0, dI 0, dI 0, dI 0, dI 0, dI 0, dI 0, dI 0, dI 0, dI 0, dI 0, dI 0, dI 0]
set_option maxHeartbeats 4000000 in
theorem plRight (lab : Bool) (p : PBs) (b : PBx) (ls : List (List PPl)) (hs : ls.length ≤ 1000) (hl : ∀ l ∈ ls, l.length ≤ 2 ^ 36) : DCall Try.prog 72 [bsD p, bxD b, .c (.sl lab 1 (rows eLs ls))] [] (.tup [if chkE p b = 0 then bedD p b else noneBed, dI (rgtE p b ls)]) [] := by
 by_cases hc : chkE p b = 0
 case neg =>
  have h1 := plOpenE lab p b ls hc
  have hE : opE p b ls = chkE p b := if_pos hc
  rw [rgtE, hE, if_pos hc, if_neg hc]
  generalize chkE p b = e at *
  have hd : (e != 0) = true := by simpa using hc
  refine DCall.of Try.func72 sf72 hb72 (Nat.le_of_ble_eq_true rfl) (okRes_nil fun _ => rfl) ?_; simp only [s72, idxs, Nat.reduceAdd]
  repeat' (first|(with_reducible first|apply qA|apply qB|apply qC|apply qD|apply qE|apply qF)|(simp (disch:=omega) only [go_sem, simprocAttr, qN, qO, qP, qQ])|exact qM rfl rfl rfl|(refine qG rfl ?_)|(refine qK (h1) (by decide) ?_)|(refine qH rfl ?_)|(refine qI rfl ?_ ?_<;>intro hc<;>(try simp only [go_sem] at hc))|(refine qJ ?_ ?_<;>intro hc<;>(try simp only [hc])<;>(try simp only [go_sem] at hc)))
  refine DW.loop (ι := Unit) (fun _ => ⟨42, [(23, dI 0), (22, dI ls.length), (21, .c (.sl lab 1 (rows eLs ls))), (9, dI e), (8, .box 8 0), (6, .box 6 0)], [(8, .box nonL), (6, .box nonL)]⟩) (fun _ => 0) () ?_ ?_
  ·refine Ent.to ?_ ?_ <;> simp (disch:=omega) only [qR,qS,qTw,qU,get,Nat.reduceEqDiff,↓reduceIte,qV,qW,qX,qY,qZ,and_self,dI,i64_in,and_true,true_and,rA,rB,rC,rD]
   all_goals first | exact ⟨.refl _, .refl _, .refl _⟩ | exact ⟨.refl _, .refl _⟩ | exact .refl _
  rintro ⟨⟩
  cases ls with
  | nil =>
   have hd0 : decide ((0 : Int) < ((([] : List (List PPl)).length : Nat) : Int)) = false := rfl
   repeat' (first|(with_reducible first|apply qA|apply qB|apply qC|apply qD|apply qE|apply qF)|(simp (disch:=omega) only [go_sem, simprocAttr, qN, qO, qP, qQ, hd0])|exact qM rfl rfl rfl|(refine qG rfl ?_)|(refine qH rfl ?_)|(refine qI rfl ?_ ?_<;>intro hc<;>(try simp only [go_sem] at hc))|(refine qJ ?_ ?_<;>intro hc<;>(try simp only [hc])<;>(try simp only [go_sem] at hc)))
  | cons l t =>
   have hd0 : decide ((0 : Int) < (((l :: t).length : Nat) : Int)) = true := decide_eq_true (by simp only [List.length_cons]; omega)
   have hg : (l :: t)[0]? = some l := rfl
   generalize l :: t = ls at *
   repeat' (first|(with_reducible first|apply qA|apply qB|apply qC|apply qD|apply qE|apply qF)|(simp (disch:=omega) only [go_sem, simprocAttr, qN, qO, qP, qQ, hd0, hd, hg, rF, rG])|exact qM rfl rfl rfl|(refine qG rfl ?_)|(refine qH rfl ?_)|(refine qI rfl ?_ ?_<;>intro hc<;>(try simp only [go_sem] at hc))|(refine qJ ?_ ?_<;>intro hc<;>(try simp only [hc])<;>(try simp only [go_sem] at hc)))
 have h1 := plOpen lab p b ls hs hl hc
 have hE : opE p b ls = lyE ls := if_neg (by rw [hc]; decide)
 rw [rgtE, hE, if_pos hc]
 obtain ⟨hp, hb⟩ := chk_ok.1 hc
 by_cases hy : lyE ls = 0
 case neg =>
  rw [if_pos hy]
  generalize lyE ls = e at *
  have hd : (e != 0) = true := by simpa using hy
  refine DCall.of Try.func72 sf72 hb72 (Nat.le_of_ble_eq_true rfl) (okRes_nil fun _ => rfl) ?_; simp only [s72, idxs, Nat.reduceAdd]
  repeat' (first|(with_reducible first|apply qA|apply qB|apply qC|apply qD|apply qE|apply qF)|(simp (disch:=omega) only [go_sem, simprocAttr, qN, qO, qP, qQ])|exact qM rfl rfl rfl|(refine qG rfl ?_)|(refine qK (h1) (by decide) ?_)|(refine qH rfl ?_)|(refine qI rfl ?_ ?_<;>intro hc<;>(try simp only [go_sem] at hc))|(refine qJ ?_ ?_<;>intro hc<;>(try simp only [hc])<;>(try simp only [go_sem] at hc)))
  refine DW.loop (ι := Unit) (fun _ => ⟨42, [(23, dI 0), (22, dI ls.length), (21, .c (.sl lab 1 (rows eLs ls))), (9, dI e), (8, .box 8 0), (6, .box 6 0)], [(8, .box (bedL p b)), (6, .box nonL)]⟩) (fun _ => 0) () ?_ ?_
  ·refine Ent.to ?_ ?_ <;> simp (disch:=omega) only [qR,qS,qTw,qU,get,Nat.reduceEqDiff,↓reduceIte,qV,qW,qX,qY,qZ,and_self,dI,i64_in,and_true,true_and,rA,rB,rC,rD]
   all_goals first | exact ⟨.refl _, .refl _, .refl _⟩ | exact ⟨.refl _, .refl _⟩ | exact .refl _
  rintro ⟨⟩
  cases ls with
  | nil =>
   have hd0 : decide ((0 : Int) < ((([] : List (List PPl)).length : Nat) : Int)) = false := rfl
   repeat' (first|(with_reducible first|apply qA|apply qB|apply qC|apply qD|apply qE|apply qF)|(simp (disch:=omega) only [go_sem, simprocAttr, qN, qO, qP, qQ, hd0])|exact qM rfl rfl rfl|(refine qG rfl ?_)|(refine qH rfl ?_)|(refine qI rfl ?_ ?_<;>intro hc<;>(try simp only [go_sem] at hc))|(refine qJ ?_ ?_<;>intro hc<;>(try simp only [hc])<;>(try simp only [go_sem] at hc)))
  | cons l t =>
   have hd0 : decide ((0 : Int) < (((l :: t).length : Nat) : Int)) = true := decide_eq_true (by simp only [List.length_cons]; omega)
   have hg : (l :: t)[0]? = some l := rfl
   generalize l :: t = ls at *
   repeat' (first|(with_reducible first|apply qA|apply qB|apply qC|apply qD|apply qE|apply qF)|(simp (disch:=omega) only [go_sem, simprocAttr, qN, qO, qP, qQ, hd0, hd, hg, rF, rG])|exact qM rfl rfl rfl|(refine qG rfl ?_)|(refine qH rfl ?_)|(refine qI rfl ?_ ?_<;>intro hc<;>(try simp only [go_sem] at hc))|(refine qJ ?_ ?_<;>intro hc<;>(try simp only [hc])<;>(try simp only [go_sem] at hc)))
 rw [if_neg (by rw [hy]; decide)]
 rw [hy] at h1
 obtain ⟨R, hR⟩ : ∃ R, (if ls.all (fun l => decide ((fltF p b l).2 = 0)) then (0 : Int) else 9) = R := ⟨_, rfl⟩
 rw [hR]
 refine DCall.of Try.func72 sf72 hb72 (Nat.le_of_ble_eq_true rfl) (okRes_nil fun _ => rfl) ?_; simp only [s72, idxs, Nat.reduceAdd]
 repeat' (first|(with_reducible first|apply qA|apply qB|apply qC|apply qD|apply qE|apply qF)|(simp (disch:=omega) only [go_sem, simprocAttr, qN, qO, qP, qQ])|exact qM rfl rfl rfl|(refine qG rfl ?_)|(refine qK (h1) (by decide) ?_)|(refine qH rfl ?_)|(refine qI rfl ?_ ?_<;>intro hc<;>(try simp only [go_sem] at hc))|(refine qJ ?_ ?_<;>intro hc<;>(try simp only [hc])<;>(try simp only [go_sem] at hc)))
 refine DW.loop (ι := { y : Nat × Int // y.1 ≤ ls.length ∧ ((y.2 = 0 ∧ (if (ls.drop y.1).all (fun l => decide ((fltF p b l).2 = 0)) then (0 : Int) else 9) = R) ∨ (y.2 = 9 ∧ R = 9)) }) (fun y => ⟨42, [(23, dI y.1.1), (22, dI ls.length), (21, .c (.sl lab 1 (rows eLs ls))), (9, dI y.1.2), (8, .box 8 0), (6, .box 6 0)], [(8, .box (bedL p b)), (6, .box nonL)]⟩) (fun y => ls.length - y.1.1) ⟨(0, 0), Nat.zero_le _, .inl ⟨rfl, hR⟩⟩ ?_ ?_
 ·refine Ent.to ?_ ?_ <;> simp (disch:=omega) only [qR,qS,qTw,qU,get,Nat.reduceEqDiff,↓reduceIte,qV,qW,qX,qY,qZ,and_self,dI,i64_in,and_true,true_and,rA,rB,rC,rD]
  all_goals first | exact ⟨.refl _, .refl _, .refl _⟩ | exact ⟨.refl _, .refl _⟩ | exact .refl _
 rintro ⟨⟨i, e⟩, hi, hr⟩
 dsimp only at hi hr ⊢
 rcases at_or ls i hi with ⟨l, hg, hlt, hd⟩ | ⟨he, hd⟩
 ·rcases hr with ⟨rfl, hr⟩ | ⟨rfl, hr⟩
  ·have h2 : ls.drop i = l :: ls.drop (i + 1) := by rw [List.drop_eq_getElem_cons hlt, (List.getElem_eq_iff hlt).2 hg]
   obtain ⟨h200, hpl⟩ := ly_ok hy l (List.mem_of_getElem? hg)
   have h3 := plFlt p b hp hb false l (by omega) (fun q hq => fine_of (hpl q hq))
   rw [h2, List.all_cons] at hr
   by_cases hf : (fltF p b l).2 = 0
   ·rw [decide_eq_true hf, Bool.true_and] at hr
    rw [hf] at h3
    generalize (fltF p b l).1 = a at *
    repeat' (first|(with_reducible first|apply qA|apply qB|apply qC|apply qD|apply qE|apply qF)|(simp (disch:=omega) only [go_sem, simprocAttr, qN, qO, qP, qQ, hd, hg, rF, rG])|exact qM rfl rfl rfl|(refine qG rfl ?_)|(refine qK (h3) (by decide) ?_)|(refine qH rfl ?_)|(refine qI rfl ?_ ?_<;>intro hc<;>(try simp only [go_sem] at hc))|(refine qJ ?_ ?_<;>intro hc<;>(try simp only [hc])<;>(try simp only [go_sem] at hc)))
    refine ⟨⟨(i + 1, 0), hlt, .inl ⟨rfl, hr⟩⟩, ?_, Ent.to ?_ ?_⟩ <;> first | (show _ < _; (try simp only); omega) | (simp (disch:=omega) only [qR,qS,qTw,qU,get,Nat.reduceEqDiff,↓reduceIte,qV,qW,qX,qY,qZ,and_self,dI,i64_in,and_true,true_and,rA,rB,rC,rD])
    all_goals first | exact ⟨.refl _, .refl _, .refl _⟩ | exact ⟨.refl _, .refl _⟩ | exact .refl _
   ·rw [decide_eq_false hf, Bool.false_and, if_neg Bool.false_ne_true] at hr
    have hd2 : ((fltF p b l).2 != 0) = true := by simpa using hf
    generalize (fltF p b l).1 = a at *
    generalize (fltF p b l).2 = c at *
    repeat' (first|(with_reducible first|apply qA|apply qB|apply qC|apply qD|apply qE|apply qF)|(simp (disch:=omega) only [go_sem, simprocAttr, qN, qO, qP, qQ, hd, hg, hd2, rF, rG])|exact qM rfl rfl rfl|(refine qG rfl ?_)|(refine qK (h3) (by decide) ?_)|(refine qH rfl ?_)|(refine qI rfl ?_ ?_<;>intro hc<;>(try simp only [go_sem] at hc))|(refine qJ ?_ ?_<;>intro hc<;>(try simp only [hc])<;>(try simp only [go_sem] at hc)))
    refine ⟨⟨(i + 1, 9), hlt, .inr ⟨rfl, hr.symm⟩⟩, ?_, Ent.to ?_ ?_⟩ <;> first | (show _ < _; (try simp only); omega) | (simp (disch:=omega) only [qR,qS,qTw,qU,get,Nat.reduceEqDiff,↓reduceIte,qV,qW,qX,qY,qZ,and_self,dI,i64_in,and_true,true_and,rA,rB,rC,rD])
    all_goals first | exact ⟨.refl _, .refl _, .refl _⟩ | exact ⟨.refl _, .refl _⟩ | exact .refl _
  ·subst hr
   repeat' (first|(with_reducible first|apply qA|apply qB|apply qC|apply qD|apply qE|apply qF)|(simp (disch:=omega) only [go_sem, simprocAttr, qN, qO, qP, qQ, hd, hg, rF, rG])|exact qM rfl rfl rfl|(refine qG rfl ?_)|(refine qH rfl ?_)|(refine qI rfl ?_ ?_<;>intro hc<;>(try simp only [go_sem] at hc))|(refine qJ ?_ ?_<;>intro hc<;>(try simp only [hc])<;>(try simp only [go_sem] at hc)))
 ·have hRe : e = R := by
   rcases hr with ⟨rfl, hr⟩ | ⟨rfl, hr⟩
   ·rw [List.drop_eq_nil_of_le (by omega)] at hr
    exact hr
   ·exact hr.symm
  subst hRe
  repeat' (first|(with_reducible first|apply qA|apply qB|apply qC|apply qD|apply qE|apply qF)|(simp (disch:=omega) only [go_sem, simprocAttr, qN, qO, qP, qQ, hd])|exact qM rfl rfl rfl|(refine qG rfl ?_)|(refine qH rfl ?_)|(refine qI rfl ?_ ?_<;>intro hc<;>(try simp only [go_sem] at hc))|(refine qJ ?_ ?_<;>intro hc<;>(try simp only [hc])<;>(try simp only [go_sem] at hc)))
abbrev trnL : List (List C) := [[.v (.bool false), .v (.bool false)], [.v (.bool true), .v (.bool true)], [.v (.bool true), .v (.bool false)], [.v (.bool false), .v (.bool true)]]
theorem plTurns : DCall Try.prog 86 [] [] (.c (.sl false 2 trnL)) [] := by
 refine DCall.of Try.func86 sf86 hb86 (Nat.le_of_ble_eq_true rfl) (okRes_nil fun _ => rfl) ?_; simp only [s86, idxs, Nat.reduceAdd]
 repeat' (first|(with_reducible first|apply qA|apply qB|apply qC|apply qD|apply qE|apply qF)|(simp (disch:=omega) only [go_sem, simprocAttr, qN, qO, qP, qQ])|exact qM rfl rfl rfl|(refine qG rfl ?_)|(refine qH rfl ?_)|(refine qI rfl ?_ ?_<;>intro hc<;>(try simp only [go_sem] at hc))|(refine qJ ?_ ?_<;>intro hc<;>(try simp only [hc])<;>(try simp only [go_sem] at hc)))
 (refine retS_ent (Ent.rel 5 rfl) ?_; simp (disch:=omega) only [go_sem,simprocAttr,qN,qO,qP,qQ])
 exact retS_of rfl rfl rfl
def trnX (k : Nat) : Bool := k == 1 || k == 2
def trnY (k : Nat) : Bool := k == 1 || k == 3
def trnP (p : PBs) (b : PBx) (k : Nat) (q : PPl) : PPl := ⟨if trnX k then rmX p - (q.x + sdX b q) else q.x, if trnY k then rmY p - (q.y + sdY b q) else q.y, q.t⟩
theorem trn_get {k : Nat} (hk : k < 4) : trnL[k]? = some [.v (.bool (trnX k)), .v (.bool (trnY k))] := by
 match k, hk with
 | 0, _ => rfl
 | 1, _ => rfl
 | 2, _ => rfl
 | 3, _ => rfl
theorem rowC_snocP (l : List PPl) (q : PPl) : rowC (rows eP l) ++ [[D.c (.v (.int .i64 q.x)), D.c (.v (.int .i64 q.y)), D.c (.v (.bool q.t))]] = rowC (rows eP (l ++ [q])) := by simp [rowC, rows, eP]
set_option maxHeartbeats 4000000 in
theorem plTurned (p : PBs) (b : PBx) (hp : p.ok) (hb : b.ok) (lab : Bool) (l : List PPl) (hl : l.length ≤ 1000) (hf : ∀ q ∈ l, q.fine) (k : Nat) (hk : k < 4) : DCall Try.prog 87 [bedD p b, lyD lab l, dI k] [] (lyD false (l.map (trnP p b k))) [] := by
 have hr := plRoom p b hp
 have ht := plTurns
 have hg := trn_get hk
 have hk4 : (k < 4) = True := eq_true hk
 generalize trnL = T at *
 refine DCall.of Try.func87 sf87 hb87 (Nat.le_of_ble_eq_true rfl) (okRes_nil fun _ => rfl) ?_; simp only [s87, o87_0, o87_1, o87_2, o87_3, o87_4, o87_5, o87_6, o87_7, o87_8, o87_9, idxs, Nat.reduceAdd]
 repeat' (first|(with_reducible first|apply qA|apply qB|apply qC|apply qD|apply qE|apply qF)|(refine DW.ord rfl (WF.of (by first|rfl|simp (disch:=omega) only [go_sem, simprocAttr, qN, qO, qP, qQ, hg, hk4])) ?_ ?_ ?_; rotate_left)|rfl|(with_reducible refine And.intro ?_ ?_)|(simp (disch:=omega) only [go_sem, simprocAttr, qN, qO, qP, qQ, hg, hk4])|exact qM rfl rfl rfl|(refine qG rfl ?_)|(refine qK (hr) (by decide) ?_)|(refine qK (ht) (by decide) ?_)|(refine qH rfl ?_)|(refine qI rfl ?_ ?_<;>intro hc<;>(try simp only [go_sem] at hc))|(refine qJ ?_ ?_<;>intro hc<;>(try simp only [hc])<;>(try simp only [go_sem] at hc)))
 refine DW.ent (Ent.adopt 6 48 3 rfl rfl rfl) ?_
 refine DW.loop (ι := { i : Nat // i ≤ l.length }) (fun i => ⟨51, [(20, dI i.1), (19, dI l.length), (18, lyD lab l), (8, .box 8 0), (7, .box 7 0), (6, .own 48), (3, .box 3 0)], [(48, .row 3 (rowC (rows eP ((l.take i.1).map (trnP p b k))))), (8, .box [bD (trnX k), bD (trnY k)]), (7, .box [dI (rmX p), dI (rmY p)]), (3, .box (bedL p b))]⟩) (fun i => l.length - i.1) ⟨0, Nat.zero_le _⟩ ?_ ?_
 ·refine Ent.to ?_ ?_ <;> simp (disch:=omega) only [qR,qS,qTw,qU,get,Nat.reduceEqDiff,↓reduceIte,qV,qW,qX,qY,qZ,and_self,dI,i64_in,and_true,true_and,rA,rB,rC,rD,ins,Nat.reduceLT,List.take_zero,rG]
  all_goals first | exact ⟨.refl _, .refl _, .refl _⟩ | exact ⟨.refl _, .refl _⟩ | exact .refl _
 rintro ⟨i, hi⟩
 dsimp only
 rcases at_or l i hi with ⟨q, hq, hlt, hd⟩ | ⟨he, hd⟩
 ·have hqf := hf q (List.mem_of_getElem? hq)
  have ha := plArea p b hb q hqf
  have hqx := hqf.x
  have hqy := hqf.y
  have hqs := side_pos hb q
  have hrx : 1 ≤ rmX p ∧ rmX p ≤ 140 := by have := hp.lg; have := hp.ov; unfold rmX; omega
  have hry : 1 ≤ rmY p ∧ rmY p ≤ 140 := by have := hp.wd; have := hp.ov; unfold rmY; omega
  have w1 : IntKind.i64.wrap (rmX p - (q.x + sdX b q)) = rmX p - (q.x + sdX b q) := IntWalk.i64_in _ (by omega)
  have w2 : IntKind.i64.wrap (rmY p - (q.y + sdY b q)) = rmY p - (q.y + sdY b q) := IntWalk.i64_in _ (by omega)
  have htk : (l.take (i + 1)).map (trnP p b k) = (l.take i).map (trnP p b k) ++ [trnP p b k q] := by rw [List.take_add_one, hq]; simp
  have htl : ((l.take i).map (trnP p b k)).length ≤ 1000 := by rw [List.length_map, List.length_take]; omega
  generalize (l.take i).map (trnP p b k) = M at *
  cases hx : trnX k <;> cases hy : trnY k
  all_goals
   have hsn := rowC_snocP M (trnP p b k q)
   simp only [trnP, hx, hy, if_true, Bool.false_eq_true, if_false] at hsn htk
   repeat' (first|(with_reducible first|apply qA|apply qB|apply qC|apply qD|apply qE|apply qF)|(refine DW.ord rfl (WF.of (by first|rfl|simp (disch:=omega) only [go_sem, simprocAttr, qN, qO, qP, qQ, hd, hq, w1, w2, hsn, rF, rG])) ?_ ?_ ?_; rotate_left)|rfl|(with_reducible refine And.intro ?_ ?_)|(simp (disch:=omega) only [go_sem, simprocAttr, qN, qO, qP, qQ, hd, hq, w1, w2, hsn, rF, rG])|exact qM rfl rfl rfl|(refine qG rfl ?_)|(refine qK (ha) (by decide) ?_)|(refine qH rfl ?_)|(refine qI rfl ?_ ?_<;>intro hc<;>(try simp only [go_sem] at hc))|(refine qJ ?_ ?_<;>intro hc<;>(try simp only [hc])<;>(try simp only [go_sem] at hc)))
   refine ⟨⟨i + 1, hlt⟩, ?_, Ent.to ?_ ?_⟩ <;> first | (show _ < _; (try simp only); omega) | (simp (disch:=omega) only [qR,qS,qTw,qU,get,Nat.reduceEqDiff,↓reduceIte,qV,qW,qX,qY,qZ,and_self,dI,i64_in,and_true,true_and,rA,rB,rC,rD, htk,hsn,hx,hy])
   all_goals first | exact ⟨.refl _, .refl _, .refl _⟩ | exact ⟨.refl _, .refl _⟩ | exact .refl _
 ·have hti : l.take i = l := by rw [he, List.take_length]
  rw [hti]
  repeat' (first|(with_reducible first|apply qA|apply qB|apply qC|apply qD|apply qE|apply qF)|(refine DW.ord rfl (WF.of (by first|rfl|simp (disch:=omega) only [go_sem, simprocAttr, qN, qO, qP, qQ, hd])) ?_ ?_ ?_; rotate_left)|rfl|(with_reducible refine And.intro ?_ ?_)|(simp (disch:=omega) only [go_sem, simprocAttr, qN, qO, qP, qQ, hd])|exact qM rfl rfl rfl|(refine qG rfl ?_)|(refine qH rfl ?_)|(refine qI rfl ?_ ?_<;>intro hc<;>(try simp only [go_sem] at hc))|(refine qJ ?_ ?_<;>intro hc<;>(try simp only [hc])<;>(try simp only [go_sem] at hc)))
  (refine retS_ent (Ent.rel 48 rfl) ?_; simp (disch:=omega) only [go_sem,simprocAttr,qN,qO,qP,qQ])
  refine retS_wk rfl ?_ (by simp only [Blk.nb, rowC_nb, D.nb, D.nbs, C.nb, C.nbs, C.nbss, rows_nb eI_nb, Bool.and_true, Bool.not_false, Bool.and_self, bD, dI, iD, rows_nb eP_nb, rows_nb eLs_nb]); exact .refl _
def trnE (p : PBs) (b : PBx) (l : List PPl) (k : Int) : Int := if opE p b [l] ≠ 0 then opE p b [l] else if ¬ (0 ≤ k ∧ k ≤ 3) then 3 else rgtE p b [l]
def trnD (p : PBs) (b : PBx) (l : List PPl) (k : Int) : D := if trnE p b l k = 0 then lyD false (l.map (trnP p b k.toNat)) else .c (.v (.slice none 0 0))
set_option maxHeartbeats 2000000 in
theorem plTurnX (p : PBs) (b : PBx) (l : List PPl) (hl : l.length ≤ 2 ^ 36) (k : Int) : DCall Try.prog 38 [bsD p, bxD b, lyD false l, dI k] [] (.tup [trnD p b l k, dI (trnE p b l k)]) [] := by
 have ht := plTurns
 by_cases hc : chkE p b = 0
 case neg =>
  have h1 := plOpenE true p b [l] hc
  rw [one_ls] at h1
  have hE : opE p b [l] = chkE p b := if_pos hc
  have hT : trnE p b l k = chkE p b := by unfold trnE; rw [hE, if_pos hc]
  rw [trnD, hT, if_neg hc]
  generalize chkE p b = e at *
  have hd : (e != 0) = true := by simpa using hc
  refine DCall.of Try.func38 sf38 hb38 (Nat.le_of_ble_eq_true rfl) (okRes_nil fun _ => rfl) ?_; simp only [s38, idxs, Nat.reduceAdd]
  repeat' (first|(with_reducible first|apply qA|apply qB|apply qC|apply qD|apply qE|apply qF)|(simp (disch:=omega) only [go_sem, simprocAttr, qN, qO, qP, qQ, hd])|exact qM rfl rfl rfl|(refine qG rfl ?_)|(refine qK (h1) (by decide) ?_)|(refine qH rfl ?_)|(refine qI rfl ?_ ?_<;>intro hc<;>(try simp only [go_sem] at hc))|(refine qJ ?_ ?_<;>intro hc<;>(try simp only [hc])<;>(try simp only [go_sem] at hc)))
 have h1 := plOpen true p b [l] (by simp) (by simpa using hl) hc
 rw [one_ls] at h1
 have hE : opE p b [l] = lyE [l] := if_neg (by rw [hc]; decide)
 by_cases hy : lyE [l] = 0
 case neg =>
  have hT : trnE p b l k = lyE [l] := by unfold trnE; rw [hE, if_pos hy]
  rw [trnD, hT, if_neg hy]
  generalize lyE [l] = e at *
  have hd : (e != 0) = true := by simpa using hy
  refine DCall.of Try.func38 sf38 hb38 (Nat.le_of_ble_eq_true rfl) (okRes_nil fun _ => rfl) ?_; simp only [s38, idxs, Nat.reduceAdd]
  repeat' (first|(with_reducible first|apply qA|apply qB|apply qC|apply qD|apply qE|apply qF)|(simp (disch:=omega) only [go_sem, simprocAttr, qN, qO, qP, qQ, hd])|exact qM rfl rfl rfl|(refine qG rfl ?_)|(refine qK (h1) (by decide) ?_)|(refine qH rfl ?_)|(refine qI rfl ?_ ?_<;>intro hc<;>(try simp only [go_sem] at hc))|(refine qJ ?_ ?_<;>intro hc<;>(try simp only [hc])<;>(try simp only [go_sem] at hc)))
 obtain ⟨h200, hpl⟩ := ly_ok hy l (by simp)
 obtain ⟨hp, hb⟩ := chk_ok.1 hc
 rw [hy] at h1
 have h2 := plWithin true 0 3 [k] (by simp)
 by_cases hk : 0 ≤ k ∧ k ≤ 3
 case neg =>
  have hT : trnE p b l k = 3 := by unfold trnE; rw [hE, if_neg (by rw [hy]; decide), if_pos hk]
  rw [trnD, hT, if_neg (by decide)]
  have hw : wthn 0 3 [k] = false := by
   rw [← Bool.not_eq_true, wthn_iff]
   intro h
   exact hk (h k (by simp))
  rw [hw] at h2
  refine DCall.of Try.func38 sf38 hb38 (Nat.le_of_ble_eq_true rfl) (okRes_nil fun _ => rfl) ?_; simp only [s38, idxs, Nat.reduceAdd]
  repeat' (first|(with_reducible first|apply qA|apply qB|apply qC|apply qD|apply qE|apply qF)|(simp (disch:=omega) only [go_sem, simprocAttr, qN, qO, qP, qQ])|exact qM rfl rfl rfl|(refine qG rfl ?_)|(refine qK (h1) (by decide) ?_)|(refine qK (h2) (by decide) ?_)|(refine qK (ht) (by decide) ?_)|(refine qH rfl ?_)|(refine qI rfl ?_ ?_<;>intro hc<;>(try simp only [go_sem] at hc))|(refine qJ ?_ ?_<;>intro hc<;>(try simp only [hc])<;>(try simp only [go_sem] at hc)))
 have hw : wthn 0 3 [k] = true := wthn_iff.2 (by simpa using hk)
 rw [hw] at h2
 have h3 := plRight true p b [l] (by simp) (by simpa using hl)
 rw [one_ls, if_pos hc] at h3
 have hT : trnE p b l k = rgtE p b [l] := by unfold trnE; rw [hE, if_neg (by rw [hy]; decide), if_neg (by simpa using hk)]
 obtain ⟨n, rfl⟩ : ∃ n : Nat, k = (n : Int) := ⟨k.toNat, by omega⟩
 have h4 := plTurned p b hp hb false l (by omega) (fun q hq => fine_of (hpl q hq)) n (by omega)
 by_cases hr : rgtE p b [l] = 0
 ·rw [trnD, hT, if_pos hr, Int.toNat_natCast]
  rw [hr] at h3 ⊢
  refine DCall.of Try.func38 sf38 hb38 (Nat.le_of_ble_eq_true rfl) (okRes_nil fun _ => rfl) ?_; simp only [s38, idxs, Nat.reduceAdd]
  repeat' (first|(with_reducible first|apply qA|apply qB|apply qC|apply qD|apply qE|apply qF)|(simp (disch:=omega) only [go_sem, simprocAttr, qN, qO, qP, qQ])|exact qM rfl rfl rfl|(refine qG rfl ?_)|(refine qK (h1) (by decide) ?_)|(refine qK (h2) (by decide) ?_)|(refine qK (h3) (by decide) ?_)|(refine qK (h4) (by decide) ?_)|(refine qK (ht) (by decide) ?_)|(refine qH rfl ?_)|(refine qI rfl ?_ ?_<;>intro hc<;>(try simp only [go_sem] at hc))|(refine qJ ?_ ?_<;>intro hc<;>(try simp only [hc])<;>(try simp only [go_sem] at hc)))
  refine retS_wk rfl ?_ (by simp only [Blk.nb, rowC_nb, D.nb, D.nbs, C.nb, C.nbs, C.nbss, rows_nb eI_nb, Bool.and_true, Bool.not_false, Bool.and_self, bD, dI, iD, rows_nb eP_nb, rows_nb eLs_nb]); exact .refl _
 ·rw [trnD, hT, if_neg hr]
  generalize rgtE p b [l] = e at *
  have hd : (e != 0) = true := by simpa using hr
  refine DCall.of Try.func38 sf38 hb38 (Nat.le_of_ble_eq_true rfl) (okRes_nil fun _ => rfl) ?_; simp only [s38, idxs, Nat.reduceAdd]
  repeat' (first|(with_reducible first|apply qA|apply qB|apply qC|apply qD|apply qE|apply qF)|(simp (disch:=omega) only [go_sem, simprocAttr, qN, qO, qP, qQ, hd])|exact qM rfl rfl rfl|(refine qG rfl ?_)|(refine qK (h1) (by decide) ?_)|(refine qK (h2) (by decide) ?_)|(refine qK (h3) (by decide) ?_)|(refine qK (ht) (by decide) ?_)|(refine qH rfl ?_)|(refine qI rfl ?_ ?_<;>intro hc<;>(try simp only [go_sem] at hc))|(refine qJ ?_ ?_<;>intro hc<;>(try simp only [hc])<;>(try simp only [go_sem] at hc)))
end Go.Dw.Seat
end
section
set_option linter.unusedSimpArgs false
set_option maxRecDepth 100000
namespace Go.Dw.Seat
open Go Go.Dw Go.Proofs Go.IntWalk
def onF (b : PBx) (q : PPl) : Nat → List PPl → List Int
 | _, [] => []
 | i, r :: l => if 0 < comI b q r then (i : Int) :: onF b q (i + 1) l else onF b q (i + 1) l
def arF (b : PBx) (q : PPl) : List PPl → Int
 | [] => 0
 | r :: l => comI b q r + arF b q l
structure PRs where
 on : List Int
 sh : Int
def rsF (b : PBx) (l : List PPl) (q : PPl) : PRs := ⟨onF b q 0 l, 1000 * arF b q l / (b.lg * b.wd)⟩
def eR (r : PRs) : List C := [.sl false 1 (rows eI r.on), .v (.int .i64 r.sh)]
theorem eR_nb (r : PRs) : C.nbs (eR r) = true := by
 simp only [eR, C.nbs, C.nb, rows_nb eI_nb, Bool.and_self, Bool.not_false]
attribute [go_sem] eR
theorem onF_app (b : PBx) (q : PPl) : ∀ (l : List PPl) (i : Nat) (r : PPl), onF b q i (l ++ [r]) = onF b q i l ++ (if 0 < comI b q r then [((i + l.length : Nat) : Int)] else [])
 | [], i, r => by simp only [List.nil_append, onF, List.length_nil, Nat.add_zero]
 | a :: l, i, r => by
  rw [List.cons_append, onF, onF_app b q l, onF, List.length_cons, show i + 1 + l.length = i + (l.length + 1) by omega]
  split <;> rfl
theorem arF_app (b : PBx) (q : PPl) : ∀ (l : List PPl) (r : PPl), arF b q (l ++ [r]) = arF b q l + comI b q r
 | [], r => by simp [arF]
 | a :: l, r => by rw [List.cons_append, arF, arF_app b q l, arF]; omega
theorem onF_len (b : PBx) (q : PPl) : ∀ (l : List PPl) (i : Nat), (onF b q i l).length ≤ l.length
 | [], _ => Nat.le_refl _
 | a :: l, i => by
  have := onF_len b q l (i + 1)
  rw [onF]
  split <;> simp only [List.length_cons] <;> omega
theorem com_le {b : PBx} (hb : b.ok) (q r : PPl) : 0 ≤ comI b q r ∧ comI b q r ≤ 10000 := by
 have hov := ov_b hb q r
 have h1 := Int.mul_le_mul hov.1.2 hov.2.2 hov.2.1 (by omega : (0 : Int) ≤ 100)
 have h2 := Int.mul_nonneg hov.1.1 hov.2.1
 unfold comI
 omega
theorem arF_b {b : PBx} (hb : b.ok) (q : PPl) : ∀ l : List PPl, 0 ≤ arF b q l ∧ arF b q l ≤ 10000 * (l.length : Int)
 | [] => by simp [arF]
 | a :: l => by
  have := arF_b hb q l
  have := com_le hb q a
  rw [arF, List.length_cons]
  omega
abbrev rsD (r : PRs) : D := .agg [dIs false r.on, dI r.sh]
theorem rowC_snocI (l : List Int) (x : Int) : rowC (rows eI l) ++ [[D.c (.v (.int .i64 x))]] = rowC (rows eI (l ++ [x])) := by simp [rowC, rows, eI]
def enR (r : PRs) : List D := [rsD r]
attribute [go_sem] enR
abbrev bedC (p : PBs) (b : PBx) : List C := [.v (.int .i64 p.lg), .v (.int .i64 p.wd), .v (.int .i64 p.hi), .v (.int .i64 p.ov), .v (.int .i64 p.top), .v (.int .i64 p.load), .v (.int .i64 b.lg), .v (.int .i64 b.wd), .v (.int .i64 b.hi), .v (.int .i64 b.wl), .v (.int .i64 b.wh), .v (.int .i64 b.sl), .v (.int .i64 b.sh)]
theorem plRests0 (p : PBs) (b : PBx) (below above : List PPl) : DCall Try.prog 74 [bedD p b, lyD false below, lyD false above] [] (.fn (.func 102) [] [.c (.ro false [.sl false 3 (rows eP above)] 0), .c (.ro false [.sl false 3 (rows eP below)] 0), .c (.ro false (bedC p b) 0)]) [] := by
 refine DCall.of Try.func74 sf74 hb74 (Nat.le_of_ble_eq_true rfl) (okRes_nil fun _ => rfl) ?_; simp only [s74, idxs, Nat.reduceAdd]
 repeat' (first|(with_reducible first|apply qA|apply qB|apply qC|apply qD|apply qE|apply qF)|(simp (disch:=omega) only [go_sem, simprocAttr, qN, qO, qP, qQ])|exact qM rfl rfl rfl|(refine qG rfl ?_)|(refine qH rfl ?_)|(refine qI rfl ?_ ?_<;>intro hc<;>(try simp only [go_sem] at hc))|(refine qJ ?_ ?_<;>intro hc<;>(try simp only [hc])<;>(try simp only [go_sem] at hc)))
 (refine retS_ent (Ent.rel 3 rfl) ?_; simp (disch:=omega) only [go_sem,simprocAttr,qN,qO,qP,qQ])
 (refine retS_ent (Ent.rel 4 rfl) ?_; simp (disch:=omega) only [go_sem,simprocAttr,qN,qO,qP,qQ])
 (refine retS_ent (Ent.rel 5 rfl) ?_; simp (disch:=omega) only [go_sem,simprocAttr,qN,qO,qP,qQ])
 refine retS_wk rfl ?_ (by simp only [Blk.nb, rowC_nb, D.nb, D.nbs, C.nb, C.nbs, C.nbss, rows_nb eI_nb, Bool.and_true, Bool.not_false, Bool.and_self, bD, dI, iD, rows_nb eP_nb, rows_nb eLs_nb]); exact .refl _
set_option maxHeartbeats 4000000 in
theorem plRests1 (p : PBs) (b : PBx) (hb : b.ok) (below above : List PPl) (hl1 : below.length ≤ 1000) (hl2 : above.length ≤ 1000) (hf1 : ∀ q ∈ below, q.fine) (hf2 : ∀ q ∈ above, q.fine) : ItB true Try.prog 102 [] [.c (.ro false [.sl false 3 (rows eP above)] 0), .c (.ro false [.sl false 3 (rows eP below)] 0), .c (.ro false (bedC p b) 0)] enR (fun _ => True) (above.map (rsF b below)) := by
 intro ly β H stp live _ hW hY b0 hl0
 have hH : ∀ b, HidOk (H b) := fun b => (hW b).toHidOk
 refine DCall.of Try.func102 sf102 hb102 (Nat.le_of_ble_eq_true rfl) (hH _).res ?_
 simp only [s102, idxs, Nat.reduceAdd, List.map_nil, List.map_cons, List.nil_append, List.cons_append]
 have f1 := hid_get (hH b0)
 have f2 := hid_ins (hH b0)
 have f3 := (hH b0).men
 have f4 := (hH b0).lo
 repeat' (first|(with_reducible first|apply qA|apply qB|apply qC|apply qD|apply qE|apply qF)|(refine qL rfl (WF.of ?_) ?_; first|rfl|skip)|(simp (disch:=omega) only [go_sem, simprocAttr, qN, qO, qP, qQ, f1, f2, f3, f4, ins, rF, rG])|exact qM rfl rfl rfl|(refine qG rfl ?_)|(refine qH rfl ?_)|(refine qI rfl ?_ ?_<;>intro hc<;>(try simp only [go_sem] at hc))|(refine qJ ?_ ?_<;>intro hc<;>(try simp only [hc])<;>(try simp only [go_sem] at hc)))
 refine DW.loop (ι := { y : Nat × β // y.1 ≤ above.length ∧ live ((above.drop y.1).map (rsF b below)) y.2 ∧ runB stp b0 (above.map (rsF b below)) = runB stp y.2 ((above.drop y.1).map (rsF b below)) })
  (fun y => ⟨60, [(14, dI y.1.1), (13, dI above.length), (12, lyD false above), (0, .c (.fn (.yield ly) [] [])), (2, .c (.ro false [.sl false 3 (rows eP below)] 0)), (3, .c (.ro false (bedC p b) 0))], H y.1.2⟩) (fun y => above.length - y.1.1) ⟨(0, b0), Nat.zero_le _, by simpa using hl0, by simp⟩ ?_ ?_
 ·refine Ent.toH (o := []) (o' := []) (hH b0) rfl ?_ ?_ <;> simp (disch:=omega) only [qR,qS,qTw,qU,get,Nat.reduceEqDiff,↓reduceIte,qV,qW,qX,qY,qZ,and_self,dI,i64_in,and_true,true_and,rA,rB,rC,rD]
 rintro ⟨⟨k, b1⟩, hk, hlv, hrun⟩
 dsimp only at hk hlv hrun ⊢
 have g1 := hid_get (hH b1)
 have g2 := hid_ins (hH b1)
 have g3 := (hH b1).men
 have g4 := (hH b1).lo
 have g5 : ∀ k x, k < 1000 → ins k x (H b1) = H b1 ++ [(k, x)] := fun k x hk => by have := g2 k hk x []; rwa [List.append_nil] at this
 have g6 := (hW b1).app4
 have g7 := (hW b1).app3
 have g8 := fun k x (hk : k < 1000) => relX_hid (hH b1) k hk x
 have g9 := fun k (hk : k < 1000) => kill_hid (hH b1) k hk
 rcases at_or above k hk with ⟨q, hq, hlt, hd⟩ | ⟨he, hd⟩
 ·have hqf := hf2 q (List.mem_of_getElem? hq)
  have ha := plArea p b hb q hqf
  have hbl := hb.lg
  have hbw := hb.wd
  repeat' (first|(with_reducible first|apply qA|apply qB|apply qC|apply qD|apply qE|apply qF)|(refine qL rfl (WF.of ?_) ?_; first|rfl|skip)|(simp (disch:=omega) only [go_sem, simprocAttr, qN, qO, qP, qQ, g1, g2, g3, g4, g5, ins, hd, hq, rF, rG])|exact qM rfl rfl rfl|(refine qG rfl ?_)|(refine qH rfl ?_)|(refine qI rfl ?_ ?_<;>intro hc<;>(try simp only [go_sem] at hc))|(refine qJ ?_ ?_<;>intro hc<;>(try simp only [hc])<;>(try simp only [go_sem] at hc)))
  refine DW.ent (Ent.comm (hH b1) rfl).1 ?_
  simp (disch:=omega) only [go_sem,simprocAttr,qN,qO,qP,qQ,List.cons_append,List.nil_append]
  refine DW.ent (Ent.adoptB 7 0 38 1 rfl rfl (by simp (disch:=omega) only [go_sem,simprocAttr,qN,qO,qP,qQ,g4]) (by simp (disch:=omega) only [go_sem,simprocAttr,qN,qO,qP,qQ,g3,menS,List.any_cons])) ?_
  simp only [ins, Nat.reduceLT, Nat.reduceEqDiff, ↓reduceIte, List.set_cons_zero, List.set_cons_succ]
  refine DW.loop (ι := { i : Nat // i ≤ below.length }) (fun i => ⟨60, [(20, dI i.1), (19, dI below.length), (18, lyD false below), (14, dI k), (13, dI above.length), (12, lyD false above), (8, dI (arF b q (below.take i.1))), (7, .box 7 0), (6, .box 6 0), (0, .c (.fn (.yield ly) [] [])), (2, .c (.ro false [.sl false 3 (rows eP below)] 0)), (3, .c (.ro false (bedC p b) 0))], [(38, .row 1 (rowC (rows eI (onF b q 0 (below.take i.1))))), (7, .box [.own 38, dI 0]), (6, .box [dI q.x, dI q.y, bD q.t])] ++ H b1⟩) (fun i => below.length - i.1) ⟨0, Nat.zero_le _⟩ ?_ ?_
  ·refine Ent.toH (o := [_, _, _]) (o' := [_, _, _]) (hH b1) rfl ?_ ?_ <;> simp (disch:=omega) only [qR,qS,qTw,qU,get,Nat.reduceEqDiff,↓reduceIte,qV,qW,qX,qY,qZ,and_self,dI,i64_in,and_true,true_and,rA,rB,rC,rD,List.take_zero,onF,arF]
   all_goals first | exact ⟨.refl _, .refl _, .refl _⟩ | exact ⟨.refl _, .refl _⟩ | exact .refl _
  rintro ⟨i, hi⟩
  dsimp only
  rcases at_or below i hi with ⟨r, hr, hlti, hdi⟩ | ⟨hei, hdi⟩
  ·have hrf := hf1 r (List.mem_of_getElem? hr)
   have ha2 := plArea p b hb r hrf
   have hc := plCommon b hb q r hqf hrf
   have hcb := com_le hb q r
   have htk : below.take (i + 1) = below.take i ++ [r] := by rw [List.take_add_one, hr]; rfl
   have htl : (below.take i).length = i := by rw [List.length_take]; omega
   have hab := arF_b hb q (below.take i)
   have hol := onF_len b q (below.take i) 0
   have hS := arF_app b q (below.take i) r
   have hO := onF_app b q (below.take i) 0 r
   rw [← htk, htl, Nat.zero_add] at hO
   rw [← htk] at hS
   rw [htl] at hab hol
   generalize arF b q (below.take i) = S at *
   generalize onF b q 0 (below.take i) = O at *
   by_cases hpos : 0 < comI b q r
   ·have dp : decide (0 < comI b q r) = true := decide_eq_true hpos
    rw [if_pos hpos] at hO
    repeat' (first|(with_reducible first|apply qA|apply qB|apply qC|apply qD|apply qE|apply qF)|(refine qL rfl (WF.of ?_) ?_; first|rfl|skip)|(simp (disch:=omega) only [go_sem, simprocAttr, qN, qO, qP, qQ, g1, g2, g3, g4, g5, g6, g7, g9, ins, hdi, hr, dp, rF, rG])|exact qM rfl rfl rfl|(refine qG rfl ?_)|(refine qK (ha) (by decide) ?_)|(refine qK (ha2) (by decide) ?_)|(refine qK (hc) (by decide) ?_)|(refine qH rfl ?_)|(refine qI rfl ?_ ?_<;>intro hc<;>(try simp only [go_sem] at hc))|(refine qJ ?_ ?_<;>intro hc<;>(try simp only [hc])<;>(try simp only [go_sem] at hc)))
    have wS : IntKind.i64.wrap (S + comI b q r) = S + comI b q r := IntWalk.i64_in _ (by omega)
    refine ⟨⟨i + 1, hlti⟩, (by show _ < _; (try simp only); omega), Ent.toH (o := [_, _, _, _, _]) (o' := [_, _, _]) (hH b1) rfl ?_ ?_⟩ <;> simp (disch:=omega) only [qR,qS,qTw,qU,get,Nat.reduceEqDiff,↓reduceIte,qV,qW,qX,qY,qZ,and_self,dI,i64_in,and_true,true_and,rA,rB,rC,rD,hS,hO,rowC_snocI]
    all_goals first | exact ⟨.refl _, .refl _, .refl _⟩ | exact ⟨.refl _, .refl _⟩ | exact .refl _
   ·have dp : decide (0 < comI b q r) = false := decide_eq_false hpos
    rw [if_neg hpos, List.append_nil] at hO
    have h0 : comI b q r = 0 := by omega
    repeat' (first|(with_reducible first|apply qA|apply qB|apply qC|apply qD|apply qE|apply qF)|(refine qL rfl (WF.of ?_) ?_; first|rfl|skip)|(simp (disch:=omega) only [go_sem, simprocAttr, qN, qO, qP, qQ, g1, g2, g3, g4, g5, g6, g7, g9, ins, hdi, hr, dp, rF, rG])|exact qM rfl rfl rfl|(refine qG rfl ?_)|(refine qK (ha) (by decide) ?_)|(refine qK (ha2) (by decide) ?_)|(refine qK (hc) (by decide) ?_)|(refine qH rfl ?_)|(refine qI rfl ?_ ?_<;>intro hc<;>(try simp only [go_sem] at hc))|(refine qJ ?_ ?_<;>intro hc<;>(try simp only [hc])<;>(try simp only [go_sem] at hc)))
    refine ⟨⟨i + 1, hlti⟩, (by show _ < _; (try simp only); omega), Ent.toH (o := [_, _, _, _]) (o' := [_, _, _]) (hH b1) rfl ?_ ?_⟩ <;> simp (disch:=omega) only [qR,qS,qTw,qU,get,Nat.reduceEqDiff,↓reduceIte,qV,qW,qX,qY,qZ,and_self,dI,i64_in,and_true,true_and,rA,rB,rC,rD,hS,hO,h0,Int.add_zero]
    all_goals first | exact ⟨.refl _, .refl _, .refl _⟩ | exact ⟨.refl _, .refl _⟩ | exact .refl _
  ·have hti : below.take i = below := List.take_of_length_le (by omega)
   rw [hti]
   have hab := arF_b hb q below
   have hm1 : 0 < b.lg * b.wd := Int.mul_pos (by omega) (by omega)
   have hm2 : b.lg * b.wd ≤ 100 * 100 := Int.mul_le_mul hbl.2 hbw.2 (by omega) (by omega)
   have w1 : IntKind.i64.wrap (b.lg * b.wd) = b.lg * b.wd := IntWalk.i64_in _ (by omega)
   have hz : (b.lg * b.wd = 0) = False := eq_false (by omega)
   have w2 : IntKind.i64.wrap (1000 * arF b q below) = 1000 * arF b q below := IntWalk.i64_in _ (by omega)
   have hq0 : 0 ≤ 1000 * arF b q below / (b.lg * b.wd) := Int.ediv_nonneg (by omega) (by omega)
   have hq1 : 1000 * arF b q below / (b.lg * b.wd) ≤ 1000 * arF b q below := Int.ediv_le_self _ (by omega)
   have ht : Int.tdiv (1000 * arF b q below) (b.lg * b.wd) = 1000 * arF b q below / (b.lg * b.wd) := Int.tdiv_eq_ediv_of_nonneg (by omega)
   have w3 : IntKind.i64.wrap (1000 * arF b q below / (b.lg * b.wd)) = 1000 * arF b q below / (b.lg * b.wd) := IntWalk.i64_in _ (by omega)
   have hrs : rsF b below q = ⟨onF b q 0 below, 1000 * arF b q below / (b.lg * b.wd)⟩ := rfl
   have hdk : above.drop k = q :: above.drop (k + 1) := by rw [List.drop_eq_getElem_cons hlt, (List.getElem_eq_iff hlt).2 hq]
   rw [hdk, List.map_cons] at hlv hrun
   obtain ⟨hyc, hlv2⟩ := hY b1 (rsF b below q) _ hlv trivial
   rw [runB] at hrun
   generalize rsF b below q = Rs at *
   subst hrs
   generalize onF b q 0 below = O at *
   generalize 1000 * arF b q below / (b.lg * b.wd) = Q at *
   refine DW.ent (Ent.rel 38 rfl) ?_
   simp (disch:=omega) only [go_sem,simprocAttr,qN,qO,qP,qQ,g8,List.cons_append,List.nil_append]
   cases hc : (stp b1 ⟨O, Q⟩).1 with
   | true =>
    rw [hc] at hyc
    rw [hc, if_pos rfl] at hrun
    repeat' (first|(with_reducible first|apply qA|apply qB|apply qC|apply qD|apply qE|apply qF)|(refine qL rfl (WF.of ?_) ?_; first|rfl|skip)|(simp (disch:=omega) only [go_sem, simprocAttr, qN, qO, qP, qQ, g1, g2, g3, g4, g5, g6, g7, g9, ins, hdi, w1, w2, w3, hz, ht, rF, rG])|exact qM rfl rfl rfl|(refine qG rfl ?_)|(refine qH rfl ?_)|(refine qI rfl ?_ ?_<;>intro hc<;>(try simp only [go_sem] at hc))|(refine qJ ?_ ?_<;>intro hc<;>(try simp only [hc])<;>(try simp only [go_sem] at hc)))
    refine call_y (own := [_, _]) hyc rfl rfl rfl (hH _) (hH _) (by decide) ?_
    simp (disch:=omega) only [go_sem,simprocAttr,qN,qO,qP,qQ]
    repeat' (first|(with_reducible first|apply qA|apply qB|apply qC|apply qD|apply qE|apply qF)|(refine qL rfl (WF.of ?_) ?_; first|rfl|skip)|(simp (disch:=omega) only [go_sem, simprocAttr, qN, qO, qP, qQ])|exact qM rfl rfl rfl|(refine qG rfl ?_)|(refine qH rfl ?_)|(refine qI rfl ?_ ?_<;>intro hc<;>(try simp only [go_sem] at hc))|(refine qJ ?_ ?_<;>intro hc<;>(try simp only [hc])<;>(try simp only [go_sem] at hc)))
    refine ⟨⟨(k + 1, (stp b1 ⟨O, Q⟩).2), hlt, hlv2 hc, hrun⟩, (by show _ < _; (try simp only); omega), Ent.toH (o := [_, _]) (o' := []) (hH _) rfl ?_ ?_⟩ <;> simp (disch:=omega) only [qR,qS,qTw,qU,get,Nat.reduceEqDiff,↓reduceIte,qV,qW,qX,qY,qZ,and_self,dI,i64_in,and_true,true_and,rA,rB,rC,rD]
    all_goals first | exact ⟨.refl _, .refl _, .refl _⟩ | exact ⟨.refl _, .refl _⟩ | exact .refl _
   | false =>
    rw [hc] at hyc
    rw [hc, if_neg Bool.false_ne_true] at hrun
    repeat' (first|(with_reducible first|apply qA|apply qB|apply qC|apply qD|apply qE|apply qF)|(refine qL rfl (WF.of ?_) ?_; first|rfl|skip)|(simp (disch:=omega) only [go_sem, simprocAttr, qN, qO, qP, qQ, g1, g2, g3, g4, g5, g6, g7, g9, ins, hdi, w1, w2, w3, hz, ht, rF, rG])|exact qM rfl rfl rfl|(refine qG rfl ?_)|(refine qH rfl ?_)|(refine qI rfl ?_ ?_<;>intro hc<;>(try simp only [go_sem] at hc))|(refine qJ ?_ ?_<;>intro hc<;>(try simp only [hc])<;>(try simp only [go_sem] at hc)))
    refine call_y (own := [_, _]) hyc rfl rfl rfl (hH _) (hH _) (by decide) ?_
    simp (disch:=omega) only [go_sem,simprocAttr,qN,qO,qP,qQ]
    repeat' (first|(with_reducible first|apply qA|apply qB|apply qC|apply qD|apply qE|apply qF)|(refine qL rfl (WF.of ?_) ?_; first|rfl|skip)|(simp (disch:=omega) only [go_sem, simprocAttr, qN, qO, qP, qQ])|exact qM rfl rfl rfl|(refine qG rfl ?_)|(refine qH rfl ?_)|(refine qI rfl ?_ ?_<;>intro hc<;>(try simp only [go_sem] at hc))|(refine qJ ?_ ?_<;>intro hc<;>(try simp only [hc])<;>(try simp only [go_sem] at hc)))
    rw [hrun]
    exact retS_hid (own := [_, _]) (.inl rfl) (hH _) rfl
 ·have hnil : above.drop k = [] := List.drop_eq_nil_of_le (by omega)
  rw [hnil, List.map_nil, runB] at hrun
  repeat' (first|(with_reducible first|apply qA|apply qB|apply qC|apply qD|apply qE|apply qF)|(refine qL rfl (WF.of ?_) ?_; first|rfl|skip)|(simp (disch:=omega) only [go_sem, simprocAttr, qN, qO, qP, qQ, hd])|exact qM rfl rfl rfl|(refine qG rfl ?_)|(refine qH rfl ?_)|(refine qI rfl ?_ ?_<;>intro hc<;>(try simp only [go_sem] at hc))|(refine qJ ?_ ?_<;>intro hc<;>(try simp only [hc])<;>(try simp only [go_sem] at hc)))
  rw [hrun]
  exact retS_hid (own := []) (.inr rfl) (hH _) rfl
end Go.Dw.Seat
end
section
set_option linter.unusedSimpArgs false
set_option maxRecDepth 100000
namespace Go.Dw.Seat
open Go Go.Dw Go.IntWalk
structure PLy where
 lg : Int
 fr : Int
 bk : Int
 fm : Int
 bm : Int
structure PIt where
 lg : Int
 wl : Int
 wh : Int
structure PLy.ok (l : PLy) : Prop where
 lg : 1 ≤ l.lg ∧ l.lg ≤ 2000
 ax : (0 ≤ l.fr ∧ l.fr < l.bk) ∧ l.bk ≤ l.lg
 fm : 0 ≤ l.fm ∧ l.fm ≤ 40000000
 bm : 0 ≤ l.bm ∧ l.bm ≤ 40000000
structure PIt.ok (x : PIt) : Prop where
 lg : 1 ≤ x.lg ∧ x.lg ≤ 2000
 w : 0 ≤ x.wl ∧ x.wl ≤ x.wh ∧ x.wh ≤ 5000000
def lgI : List PIt → Int
 | [] => 0
 | x :: t => x.lg + lgI t
def sumM (g : Int → PIt → Int) : Int → List PIt → Int
 | _, [] => 0
 | at', x :: t => g (2 * at' + x.lg) x + sumM g (at' + x.lg) t
def cF (l : PLy) (m : Int) : Int := 2 * l.bk - m
def cB (l : PLy) (m : Int) : Int := m - 2 * l.fr
def loW (x : PIt) (c : Int) : Int := min (x.wl * c) (x.wh * c)
def hiW (x : PIt) (c : Int) : Int := max (x.wl * c) (x.wh * c)
structure Prt where
 fl : Int
 fh : Int
 bl : Int
 bh : Int
def prtF (l : PLy) (q : List PIt) : Prt := ⟨sumM (fun m x => loW x (cF l m)) 0 q, sumM (fun m x => hiW x (cF l m)) 0 q, sumM (fun m x => loW x (cB l m)) 0 q, sumM (fun m x => hiW x (cB l m)) 0 q⟩
def bearB (l : PLy) (q : List PIt) : Bool := (decide (0 ≤ (prtF l q).fl) && decide (0 ≤ (prtF l q).bl)) && (decide ((prtF l q).fh ≤ l.fm * (2 * (l.bk - l.fr))) && decide ((prtF l q).bh ≤ l.bm * (2 * (l.bk - l.fr))))
def sumR (c : Int → Int) : Int → List PIt → List Int → Int
 | at', x :: t, w :: ws => w * c (2 * at' + x.lg) + sumR c (at' + x.lg) t ws
 | _, _, _ => 0
theorem mul_between {w lo hi c : Int} (h : lo ≤ w ∧ w ≤ hi) : min (lo * c) (hi * c) ≤ w * c ∧ w * c ≤ max (lo * c) (hi * c) := by
 rcases Int.le_total 0 c with hc | hc
 ·have h1 := Int.mul_le_mul_of_nonneg_right h.1 hc
  have h2 := Int.mul_le_mul_of_nonneg_right h.2 hc
  omega
 ·have h1 := Int.mul_le_mul_of_nonpos_right h.1 hc
  have h2 := Int.mul_le_mul_of_nonpos_right h.2 hc
  omega
theorem sumR_between (c : Int → Int) : ∀ {q : List PIt} {ws : List Int} {at' : Int}, ws.length = q.length → (∀ (i : Nat) x w, q[i]? = some x → ws[i]? = some w → x.wl ≤ w ∧ w ≤ x.wh) → sumM (fun m x => loW x (c m)) at' q ≤ sumR c at' q ws ∧ sumR c at' q ws ≤ sumM (fun m x => hiW x (c m)) at' q
 | [], [], at', _, _ => by simp [sumM, sumR]
 | [], _ :: _, _, h, _ => by simp at h
 | _ :: _, [], _, h, _ => by simp at h
 | x :: q, w :: ws, at', h, hw => by
  have ih := sumR_between c (q := q) (ws := ws) (at' := at' + x.lg) (by simpa using h) (fun i y v h1 h2 => hw (i + 1) y v h1 h2)
  have h0 := mul_between (c := c (2 * at' + x.lg)) (hw 0 x w rfl rfl)
  simp only [sumM, sumR, loW, hiW] at ih ⊢
  omega
theorem sumM_snoc (g : Int → PIt → Int) : ∀ (q : List PIt) (at' : Int) (x : PIt), sumM g at' (q ++ [x]) = sumM g at' q + g (2 * (at' + lgI q) + x.lg) x
 | [], at', x => by simp [sumM, lgI]
 | y :: q, at', x => by rw [List.cons_append, sumM, sumM_snoc g q, sumM, lgI, Int.add_assoc, Int.add_assoc]
theorem lgI_snoc : ∀ (q : List PIt) (x : PIt), lgI (q ++ [x]) = lgI q + x.lg
 | [], x => by simp [lgI]
 | y :: q, x => by rw [List.cons_append, lgI, lgI_snoc q, lgI]; omega
theorem lgI_nn : ∀ {q : List PIt}, (∀ x ∈ q, x.ok) → 0 ≤ lgI q ∧ lgI q ≤ 2000 * (q.length : Int)
 | [], _ => by simp [lgI]
 | x :: q, h => by
  have := lgI_nn (q := q) (fun y hy => h y (by simp [hy]))
  have := (h x (by simp)).lg
  rw [lgI, List.length_cons]; omega
theorem floor_eq {n y : Int} (hy : 0 < y) : Int.tdiv (n - Int.tmod (Int.tmod n y + y) y) y = n / y := by
 have e1 : Int.tmod (Int.tmod n y + y) y = n % y := by
  have hlt := Int.tmod_lt_of_pos n hy
  have hgt : -y < Int.tmod n y := by
   rcases Int.le_total 0 n with h | h
   ·have := Int.tmod_nonneg y h; omega
   ·have h2 := Int.tmod_lt_of_pos (-n) hy
    rw [Int.neg_tmod] at h2; omega
  rw [Int.tmod_eq_emod_of_nonneg (by omega), Int.add_emod_right]
  have hd := Int.tmod_add_mul_tdiv n y
  rw [show Int.tmod n y = n - y * Int.tdiv n y by omega, Int.sub_mul_emod_self_left]
 rw [e1]
 have h2 := Int.mul_ediv_add_emod n y
 have : n - n % y = y * (n / y) := by omega
 rw [this, Int.mul_tdiv_cancel_left _ (by omega)]
end Go.Dw.Seat
end
section
set_option linter.unusedSimpArgs false
set_option maxRecDepth 100000
namespace Go.Dw.Seat
open Go Go.Dw Go.Proofs Go.IntWalk
abbrev lyrD (l : PLy) : D := .agg [dI l.lg, dI l.fr, dI l.bk, dI l.fm, dI l.bm]
def eIt (x : PIt) : List C := [.v (.int .i64 x.lg), .v (.int .i64 x.wl), .v (.int .i64 x.wh)]
theorem eIt_nb (x : PIt) : C.nbs (eIt x) = true := rfl
attribute [go_sem] eIt
abbrev itsD (b : Bool) (q : List PIt) : D := .c (.sl b 3 (rows eIt q))
abbrev lorD (l : PLy) (b : Bool) (q : List PIt) : D := .agg [dI l.lg, dI l.fr, dI l.bk, dI l.fm, dI l.bm, itsD b q]
def itOk (x : PIt) : Bool := wthn 1 2000 [x.lg] && spanOk x.wl x.wh 0 5000000
theorem itOk_iff {x : PIt} : itOk x = true ↔ x.ok := by
 simp only [itOk, Bool.and_eq_true, wthn_iff, spanOk_iff, List.mem_cons, List.not_mem_nil, or_false, forall_eq]
 exact ⟨fun h => ⟨h.1, h.2⟩, fun h => ⟨h.1, h.2⟩⟩
def lyOk (l : PLy) : Bool := ((wthn 1 2000 [l.lg] && wthn 0 l.lg [l.fr, l.bk]) && !decide (l.bk ≤ l.fr)) && wthn 0 40000000 [l.fm, l.bm]
theorem lyOk_iff {l : PLy} : lyOk l = true ↔ l.ok := by
 simp only [lyOk, Bool.and_eq_true, wthn_iff, Bool.not_eq_true', decide_eq_false_iff_not, List.mem_cons, List.not_mem_nil, or_false, forall_eq_or_imp, forall_eq]
 constructor
 ·rintro ⟨⟨⟨h1, h2⟩, h3⟩, h4⟩; exact ⟨h1, by omega, h4.1, h4.2⟩
 ·rintro ⟨h1, h2, h3, h4⟩; exact ⟨⟨⟨h1, by omega⟩, by omega⟩, h3, h4⟩
def lorE (l : PLy) (q : List PIt) : Int := if lyOk l = false then 2 else if (7 : Int) < (q.length : Int) then 5 else if (q.any fun x => !itOk x) = true then 4 else if l.lg < lgI q then 3 else 0
structure LorOk (l : PLy) (q : List PIt) : Prop where
 ly : l.ok
 len : q.length ≤ 7
 its : ∀ x ∈ q, x.ok
 lg : lgI q ≤ l.lg
theorem lor_iff {l : PLy} {q : List PIt} : lorE l q = 0 ↔ LorOk l q := by
 unfold lorE
 constructor
 ·intro h
  split at h
  ·cases h
  ·rename_i h1
   split at h
   ·cases h
   ·rename_i h2
    split at h
    ·cases h
    ·rename_i h3
     split at h
     ·cases h
     ·rename_i h4
      refine ⟨lyOk_iff.1 (by simpa using h1), by omega, fun x hx => itOk_iff.1 ?_, by omega⟩
      simp only [List.any_eq_true, not_exists, not_and, Bool.not_eq_true, Bool.not_eq_false'] at h3
      exact h3 x hx
 ·rintro ⟨h1, h2, h3, h4⟩
  rw [if_neg (by rw [lyOk_iff.2 h1]; decide), if_neg (by omega), if_neg, if_neg (by omega)]
  simp only [List.any_eq_true, not_exists, not_and, Bool.not_eq_true, Bool.not_eq_false']
  exact fun x hx => itOk_iff.2 (h3 x hx)
theorem plIt1 (x : PIt) : DCall Try.prog 105 [.agg ((eIt x).map D.c)] [] (bD (!itOk x)) [] := by
 have h1 := plWithin true 1 2000 [x.lg] (by simp)
 have h2 := plSpan x.wl x.wh 0 5000000
 unfold itOk
 cases e1 : wthn 1 2000 [x.lg] <;> rw [e1] at h1 <;> simp only [Bool.true_and, Bool.false_and, Bool.not_false]
 ·refine DCall.of Try.func105 sf105 hb105 (Nat.le_of_ble_eq_true rfl) (okRes_nil fun _ => rfl) ?_; simp only [s105, idxs, Nat.reduceAdd]
  repeat' (first|(with_reducible first|apply qA|apply qB|apply qC|apply qD|apply qE|apply qF)|(simp (disch:=omega) only [go_sem, simprocAttr, qN, qO, qP, qQ, rF, rG])|exact qM rfl rfl rfl|(refine qG rfl ?_)|(refine qK (h1) (by decide) ?_)|(refine qH rfl ?_)|(refine qI rfl ?_ ?_<;>intro hc<;>(try simp only [go_sem] at hc))|(refine qJ ?_ ?_<;>intro hc<;>(try simp only [hc])<;>(try simp only [go_sem] at hc)))
 ·refine DCall.of Try.func105 sf105 hb105 (Nat.le_of_ble_eq_true rfl) (okRes_nil fun _ => rfl) ?_; simp only [s105, idxs, Nat.reduceAdd]
  repeat' (first|(with_reducible first|apply qA|apply qB|apply qC|apply qD|apply qE|apply qF)|(simp (disch:=omega) only [go_sem, simprocAttr, qN, qO, qP, qQ, rF, rG])|exact qM rfl rfl rfl|(refine qG rfl ?_)|(refine qK (h1) (by decide) ?_)|(refine qK (h2) (by decide) ?_)|(refine qH rfl ?_)|(refine qI rfl ?_ ?_<;>intro hc<;>(try simp only [go_sem] at hc))|(refine qJ ?_ ?_<;>intro hc<;>(try simp only [hc])<;>(try simp only [go_sem] at hc)))
theorem plItIdx (lab : Bool) (l : List PIt) (hl : l.length ≤ 2 ^ 36) (g : FuncId) (fs caps : List C) (p : PIt → Bool) (hp : ∀ x ∈ l, DCall Try.prog g (fs.map D.c ++ [.agg ((eIt x).map D.c)] ++ caps.map D.c) [] (bD (p x)) []) : DCall Try.prog 129 [itsD lab l, .c (.fn (.func g) fs caps)] [] (dI (idxI p l)) [] := by
 refine DCall.of Try.func129 sf129 hb129 (Nat.le_of_ble_eq_true rfl) (okRes_nil fun _ => rfl) ?_; simp only [s129, idxs, Nat.reduceAdd]
 repeat' (first|(with_reducible first|apply qA|apply qB|apply qC|apply qD|apply qE|apply qF)|(simp (disch:=omega) only [go_sem, simprocAttr, qN, qO, qP, qQ])|exact qM rfl rfl rfl|(refine qG rfl ?_)|(refine qH rfl ?_)|(refine qI rfl ?_ ?_<;>intro hc<;>(try simp only [go_sem] at hc))|(refine qJ ?_ ?_<;>intro hc<;>(try simp only [hc])<;>(try simp only [go_sem] at hc)))
 refine DW.loop (ι := { i : Nat // i ≤ l.length ∧ ∀ j u, j < i → l[j]? = some u → p u = false }) (fun i => ⟨19, [(8, dI i.1), (7, dI l.length), (1, .c (.fn (.func g) fs caps)), (0, itsD lab l)], []⟩) (fun i => l.length - i.1) ⟨0, Nat.zero_le _, fun j u h => by omega⟩ ?_ ?_
 ·refine Ent.to ?_ ?_ <;> simp (disch:=omega) only [qR,qS,qTw,qU,get,Nat.reduceEqDiff,↓reduceIte,qV,qW,qX,qY,qZ,and_self,dI,i64_in,and_true,true_and,rA,rB,rC,rD]
  all_goals exact .refl _
 rintro ⟨i, hi, hij⟩
 rcases at_or l i hi with ⟨v, hv, hlt, hd⟩ | ⟨he, hd⟩
 ·have hcall := hp v (List.mem_of_getElem? hv)
  repeat' (first|(with_reducible first|apply qA|apply qB|apply qC|apply qD|apply qE|apply qF)|(simp (disch:=omega) only [go_sem, simprocAttr, qN, qO, qP, qQ, hd, hv, closeDs_fn, rF, rG])|exact qM rfl rfl rfl|(refine qG rfl ?_)|(refine qH rfl ?_)|(refine qI rfl ?_ ?_<;>intro hc<;>(try simp only [go_sem] at hc))|(refine qJ ?_ ?_<;>intro hc<;>(try simp only [hc])<;>(try simp only [go_sem] at hc)))
  refine call_c hcall (by decide) ?_
  simp (disch:=omega) only [go_sem,simprocAttr,qN,qO,qP,qQ]
  refine DW.cond rfl ?_ ?_ <;> intro hc
  ·repeat' (first|(with_reducible first|apply qA|apply qB|apply qC|apply qD|apply qE|apply qF)|(simp (disch:=omega) only [go_sem, simprocAttr, qN, qO, qP, qQ])|exact qM rfl rfl rfl|(refine qG rfl ?_)|(refine qH rfl ?_)|(refine qI rfl ?_ ?_<;>intro hc<;>(try simp only [go_sem] at hc))|(refine qJ ?_ ?_<;>intro hc<;>(try simp only [hc])<;>(try simp only [go_sem] at hc)))
   refine retS_of rfl ?_ rfl; simp only [oneD, St.op, get, Nat.reduceEqDiff, ↓reduceIte, Option.getD_some, bD, dI]
   simp only [idxI, idxOf_some hij hv hc]
  ·repeat' (first|(with_reducible first|apply qA|apply qB|apply qC|apply qD|apply qE|apply qF)|(simp (disch:=omega) only [go_sem, simprocAttr, qN, qO, qP, qQ])|exact qM rfl rfl rfl|(refine qG rfl ?_)|(refine qH rfl ?_)|(refine qI rfl ?_ ?_<;>intro hc<;>(try simp only [go_sem] at hc))|(refine qJ ?_ ?_<;>intro hc<;>(try simp only [hc])<;>(try simp only [go_sem] at hc)))
   refine ⟨⟨i + 1, by omega, fun j u hj hu => by
    rcases Nat.lt_or_ge j i with h | h
    ·exact hij j u h hu
    ·have : j = i := by omega
     subst this
     rw [hv] at hu; cases hu; exact hc⟩, ?_, Ent.to ?_ ?_⟩ <;> first | (show _ < _; (try simp only); omega) | (simp (disch:=omega) only [qR,qS,qTw,qU,get,Nat.reduceEqDiff,↓reduceIte,qV,qW,qX,qY,qZ,and_self,dI,i64_in,and_true,true_and,rA,rB,rC,rD])
   all_goals exact .refl _
 ·repeat' (first|(with_reducible first|apply qA|apply qB|apply qC|apply qD|apply qE|apply qF)|(simp (disch:=omega) only [go_sem, simprocAttr, qN, qO, qP, qQ, hd])|exact qM rfl rfl rfl|(refine qG rfl ?_)|(refine qH rfl ?_)|(refine qI rfl ?_ ?_<;>intro hc<;>(try simp only [go_sem] at hc))|(refine qJ ?_ ?_<;>intro hc<;>(try simp only [hc])<;>(try simp only [go_sem] at hc)))
  refine retS_of rfl ?_ rfl; simp only [oneD, St.op, get, Nat.reduceEqDiff, ↓reduceIte, Option.getD_some, bD, dI]
  simp only [idxI, idxOf_none (he ▸ hij)]
theorem plItAny (lab : Bool) (l : List PIt) (hl : l.length ≤ 2 ^ 36) (g : FuncId) (fs caps : List C) (p : PIt → Bool) (hp : ∀ x ∈ l, DCall Try.prog g (fs.map D.c ++ [.agg ((eIt x).map D.c)] ++ caps.map D.c) [] (bD (p x)) []) : DCall Try.prog 106 [itsD lab l, .c (.fn (.func g) fs caps)] [] (bD (l.any p)) [] := by
 refine DCall.of Try.func106 sf106 hb106 (Nat.le_of_ble_eq_true rfl) (okRes_nil fun _ => rfl) ?_; simp only [s106, idxs, Nat.reduceAdd]
 repeat' (first|(with_reducible first|apply qA|apply qB|apply qC|apply qD|apply qE|apply qF)|(simp (disch:=omega) only [go_sem, simprocAttr, qN, qO, qP, qQ])|exact qM rfl rfl rfl|(refine qG rfl ?_)|(refine qH rfl ?_)|(refine qI rfl ?_ ?_<;>intro hc<;>(try simp only [go_sem] at hc))|(refine qJ ?_ ?_<;>intro hc<;>(try simp only [hc])<;>(try simp only [go_sem] at hc)))
 refine call_c (plItIdx lab l hl g fs caps p hp) (by decide) ?_
 repeat' (first|(with_reducible first|apply qA|apply qB|apply qC|apply qD|apply qE|apply qF)|(simp (disch:=omega) only [go_sem, simprocAttr, qN, qO, qP, qQ])|exact qM rfl rfl rfl|(refine qG rfl ?_)|(refine qH rfl ?_)|(refine qI rfl ?_ ?_<;>intro hc<;>(try simp only [go_sem] at hc))|(refine qJ ?_ ?_<;>intro hc<;>(try simp only [hc])<;>(try simp only [go_sem] at hc)))
 refine retS_of rfl ?_ rfl; simp only [oneD, St.op, get, Nat.reduceEqDiff, ↓reduceIte, Option.getD_some, bD, dI]
 rw [idxI_any]
set_option maxHeartbeats 2000000 in
theorem plCheckLorry (lab : Bool) (l : PLy) (q : List PIt) (hq : q.length ≤ 2 ^ 36) : DCall Try.prog 75 [lyrD l, itsD lab q] [] (dI (lorE l q)) [] := by
 have h1 := plWithin true 1 2000 [l.lg] (by simp)
 have h2 := plWithin true 0 l.lg [l.fr, l.bk] (by simp)
 have h3 := plWithin true 0 40000000 [l.fm, l.bm] (by simp)
 have h4 := plItAny lab q hq 105 [] [] (fun x => !itOk x) (fun x _ => plIt1 x)
 unfold lorE lyOk
 cases e1 : wthn 1 2000 [l.lg] <;> rw [e1] at h1 <;> simp only [Bool.true_and, Bool.false_and, if_true]
 ·refine DCall.of Try.func75 sf75 hb75 (Nat.le_of_ble_eq_true rfl) (okRes_nil fun _ => rfl) ?_; simp only [s75, idxs, Nat.reduceAdd]
  repeat' (first|(with_reducible first|apply qA|apply qB|apply qC|apply qD|apply qE|apply qF)|(simp (disch:=omega) only [go_sem, simprocAttr, qN, qO, qP, qQ])|exact qM rfl rfl rfl|(refine qG rfl ?_)|(refine qK (h1) (by decide) ?_)|(refine qH rfl ?_)|(refine qI rfl ?_ ?_<;>intro hc<;>(try simp only [go_sem] at hc))|(refine qJ ?_ ?_<;>intro hc<;>(try simp only [hc])<;>(try simp only [go_sem] at hc)))
 cases e2 : wthn 0 l.lg [l.fr, l.bk] <;> rw [e2] at h2 <;> simp only [Bool.true_and, Bool.false_and, if_true]
 ·refine DCall.of Try.func75 sf75 hb75 (Nat.le_of_ble_eq_true rfl) (okRes_nil fun _ => rfl) ?_; simp only [s75, idxs, Nat.reduceAdd]
  repeat' (first|(with_reducible first|apply qA|apply qB|apply qC|apply qD|apply qE|apply qF)|(simp (disch:=omega) only [go_sem, simprocAttr, qN, qO, qP, qQ])|exact qM rfl rfl rfl|(refine qG rfl ?_)|(refine qK (h1) (by decide) ?_)|(refine qK (h2) (by decide) ?_)|(refine qH rfl ?_)|(refine qI rfl ?_ ?_<;>intro hc<;>(try simp only [go_sem] at hc))|(refine qJ ?_ ?_<;>intro hc<;>(try simp only [hc])<;>(try simp only [go_sem] at hc)))
 cases e3 : decide (l.bk ≤ l.fr) <;> simp only [Bool.not_false, Bool.not_true, Bool.true_and, Bool.false_and, if_true]
 case true =>
  refine DCall.of Try.func75 sf75 hb75 (Nat.le_of_ble_eq_true rfl) (okRes_nil fun _ => rfl) ?_; simp only [s75, idxs, Nat.reduceAdd]
  repeat' (first|(with_reducible first|apply qA|apply qB|apply qC|apply qD|apply qE|apply qF)|(simp (disch:=omega) only [go_sem, simprocAttr, qN, qO, qP, qQ, e3])|exact qM rfl rfl rfl|(refine qG rfl ?_)|(refine qK (h1) (by decide) ?_)|(refine qK (h2) (by decide) ?_)|(refine qH rfl ?_)|(refine qI rfl ?_ ?_<;>intro hc<;>(try simp only [go_sem] at hc))|(refine qJ ?_ ?_<;>intro hc<;>(try simp only [hc])<;>(try simp only [go_sem] at hc)))
 cases e4 : wthn 0 40000000 [l.fm, l.bm] <;> rw [e4] at h3 <;> simp only [if_true, Bool.true_eq_false, Bool.false_eq_true, if_false, reduceCtorEq]
 ·refine DCall.of Try.func75 sf75 hb75 (Nat.le_of_ble_eq_true rfl) (okRes_nil fun _ => rfl) ?_; simp only [s75, idxs, Nat.reduceAdd]
  repeat' (first|(with_reducible first|apply qA|apply qB|apply qC|apply qD|apply qE|apply qF)|(simp (disch:=omega) only [go_sem, simprocAttr, qN, qO, qP, qQ, e3])|exact qM rfl rfl rfl|(refine qG rfl ?_)|(refine qK (h1) (by decide) ?_)|(refine qK (h2) (by decide) ?_)|(refine qK (h3) (by decide) ?_)|(refine qH rfl ?_)|(refine qI rfl ?_ ?_<;>intro hc<;>(try simp only [go_sem] at hc))|(refine qJ ?_ ?_<;>intro hc<;>(try simp only [hc])<;>(try simp only [go_sem] at hc)))
 by_cases h7 : (7 : Int) < (q.length : Int)
 ·have d7 : decide ((7 : Int) < (q.length : Int)) = true := decide_eq_true h7
  rw [if_pos h7]
  refine DCall.of Try.func75 sf75 hb75 (Nat.le_of_ble_eq_true rfl) (okRes_nil fun _ => rfl) ?_; simp only [s75, idxs, Nat.reduceAdd]
  repeat' (first|(with_reducible first|apply qA|apply qB|apply qC|apply qD|apply qE|apply qF)|(simp (disch:=omega) only [go_sem, simprocAttr, qN, qO, qP, qQ, e3, d7])|exact qM rfl rfl rfl|(refine qG rfl ?_)|(refine qK (h1) (by decide) ?_)|(refine qK (h2) (by decide) ?_)|(refine qK (h3) (by decide) ?_)|(refine qH rfl ?_)|(refine qI rfl ?_ ?_<;>intro hc<;>(try simp only [go_sem] at hc))|(refine qJ ?_ ?_<;>intro hc<;>(try simp only [hc])<;>(try simp only [go_sem] at hc)))
 have d7 : decide ((7 : Int) < (q.length : Int)) = false := decide_eq_false h7
 rw [if_neg h7]
 cases e5 : (q.any fun x => !itOk x) <;> rw [e5] at h4 <;> simp only [if_true, Bool.false_eq_true, if_false]
 case true =>
  refine DCall.of Try.func75 sf75 hb75 (Nat.le_of_ble_eq_true rfl) (okRes_nil fun _ => rfl) ?_; simp only [s75, idxs, Nat.reduceAdd]
  repeat' (first|(with_reducible first|apply qA|apply qB|apply qC|apply qD|apply qE|apply qF)|(simp (disch:=omega) only [go_sem, simprocAttr, qN, qO, qP, qQ, e3, d7])|exact qM rfl rfl rfl|(refine qG rfl ?_)|(refine qK (h1) (by decide) ?_)|(refine qK (h2) (by decide) ?_)|(refine qK (h3) (by decide) ?_)|(refine qK (h4) (by decide) ?_)|(refine qH rfl ?_)|(refine qI rfl ?_ ?_<;>intro hc<;>(try simp only [go_sem] at hc))|(refine qJ ?_ ?_<;>intro hc<;>(try simp only [hc])<;>(try simp only [go_sem] at hc)))
 have hits : ∀ x ∈ q, x.ok := fun x hx => itOk_iff.1 (by
  simp only [List.any_eq_false, Bool.not_eq_true, Bool.not_eq_false'] at e5
  exact e5 x hx)
 have hlg := wthn_one e1
 obtain ⟨R, hR⟩ : ∃ R, (if l.lg < lgI q then (3 : Int) else 0) = R := ⟨_, rfl⟩
 rw [hR]
 refine DCall.of Try.func75 sf75 hb75 (Nat.le_of_ble_eq_true rfl) (okRes_nil fun _ => rfl) ?_; simp only [s75, idxs, Nat.reduceAdd]
 repeat' (first|(with_reducible first|apply qA|apply qB|apply qC|apply qD|apply qE|apply qF)|(simp (disch:=omega) only [go_sem, simprocAttr, qN, qO, qP, qQ, e3, d7])|exact qM rfl rfl rfl|(refine qG rfl ?_)|(refine qK (h1) (by decide) ?_)|(refine qK (h2) (by decide) ?_)|(refine qK (h3) (by decide) ?_)|(refine qK (h4) (by decide) ?_)|(refine qH rfl ?_)|(refine qI rfl ?_ ?_<;>intro hc<;>(try simp only [go_sem] at hc))|(refine qJ ?_ ?_<;>intro hc<;>(try simp only [hc])<;>(try simp only [go_sem] at hc)))
 refine DW.loop (ι := { i : Nat // i ≤ q.length }) (fun i => ⟨59, [(46, dI i.1), (45, dI q.length), (44, itsD lab q), (6, dI (lgI (q.take i.1))), (2, .box 2 0)], [(2, .box [dI l.lg, dI l.fr, dI l.bk, dI l.fm, dI l.bm])]⟩) (fun i => q.length - i.1) ⟨0, Nat.zero_le _⟩ ?_ ?_
 ·refine Ent.to ?_ ?_ <;> simp (disch:=omega) only [qR,qS,qTw,qU,get,Nat.reduceEqDiff,↓reduceIte,qV,qW,qX,qY,qZ,and_self,dI,i64_in,and_true,true_and,rA,rB,rC,rD,List.take_zero,lgI]
  all_goals first | exact ⟨.refl _, .refl _, .refl _⟩ | exact ⟨.refl _, .refl _⟩ | exact .refl _
 rintro ⟨i, hi⟩
 dsimp only
 rcases at_or q i hi with ⟨x, hx, hlt, hd⟩ | ⟨he, hd⟩
 ·have hxo := (hits x (List.mem_of_getElem? hx)).lg
  have htk : q.take (i + 1) = q.take i ++ [x] := by rw [List.take_add_one, hx]; rfl
  have hsn := lgI_snoc (q.take i) x
  have hb := lgI_nn (q := q.take i) (fun y hy => hits y (List.mem_of_mem_take hy))
  rw [List.length_take] at hb
  rw [← htk] at hsn
  generalize lgI (q.take i) = S at *
  repeat' (first|(with_reducible first|apply qA|apply qB|apply qC|apply qD|apply qE|apply qF)|(simp (disch:=omega) only [go_sem, simprocAttr, qN, qO, qP, qQ, hd, hx, rF, rG])|exact qM rfl rfl rfl|(refine qG rfl ?_)|(refine qH rfl ?_)|(refine qI rfl ?_ ?_<;>intro hc<;>(try simp only [go_sem] at hc))|(refine qJ ?_ ?_<;>intro hc<;>(try simp only [hc])<;>(try simp only [go_sem] at hc)))
  refine ⟨⟨i + 1, hlt⟩, ?_, Ent.to ?_ ?_⟩ <;> first | (show _ < _; (try simp only); omega) | (simp (disch:=omega) only [qR,qS,qTw,qU,get,Nat.reduceEqDiff,↓reduceIte,qV,qW,qX,qY,qZ,and_self,dI,i64_in,and_true,true_and,rA,rB,rC,rD, hsn])
  all_goals first | exact ⟨.refl _, .refl _, .refl _⟩ | exact ⟨.refl _, .refl _⟩ | exact .refl _
 ·have hti : q.take i = q := by rw [he, List.take_length]
  rw [hti]
  by_cases h8 : l.lg < lgI q
  ·have d8 : decide (l.lg < lgI q) = true := decide_eq_true h8
   rw [if_pos h8] at hR
   subst hR
   repeat' (first|(with_reducible first|apply qA|apply qB|apply qC|apply qD|apply qE|apply qF)|(simp (disch:=omega) only [go_sem, simprocAttr, qN, qO, qP, qQ, hd, d8])|exact qM rfl rfl rfl|(refine qG rfl ?_)|(refine qH rfl ?_)|(refine qI rfl ?_ ?_<;>intro hc<;>(try simp only [go_sem] at hc))|(refine qJ ?_ ?_<;>intro hc<;>(try simp only [hc])<;>(try simp only [go_sem] at hc)))
  ·have d8 : decide (l.lg < lgI q) = false := decide_eq_false h8
   rw [if_neg h8] at hR
   subst hR
   repeat' (first|(with_reducible first|apply qA|apply qB|apply qC|apply qD|apply qE|apply qF)|(simp (disch:=omega) only [go_sem, simprocAttr, qN, qO, qP, qQ, hd, d8])|exact qM rfl rfl rfl|(refine qG rfl ?_)|(refine qH rfl ?_)|(refine qI rfl ?_ ?_<;>intro hc<;>(try simp only [go_sem] at hc))|(refine qJ ?_ ?_<;>intro hc<;>(try simp only [hc])<;>(try simp only [go_sem] at hc)))
theorem plWhole (l : PLy) (hl : l.ok) (lab : Bool) (q : List PIt) : DCall Try.prog 78 [lorD l lab q] [] (dI (2 * (l.bk - l.fr))) [] := by
 have := hl.ax
 have := hl.lg
 refine DCall.of Try.func78 sf78 hb78 (Nat.le_of_ble_eq_true rfl) (okRes_nil fun _ => rfl) ?_; simp only [s78, idxs, Nat.reduceAdd]
 repeat' (first|(with_reducible first|apply qA|apply qB|apply qC|apply qD|apply qE|apply qF)|(simp (disch:=omega) only [go_sem, simprocAttr, qN, qO, qP, qQ])|exact qM rfl rfl rfl|(refine qG rfl ?_)|(refine qH rfl ?_)|(refine qI rfl ?_ ?_<;>intro hc<;>(try simp only [go_sem] at hc))|(refine qJ ?_ ?_<;>intro hc<;>(try simp only [hc])<;>(try simp only [go_sem] at hc)))
theorem mul_abs {a b A B : Int} (ha : -A ≤ a ∧ a ≤ A) (hb : -B ≤ b ∧ b ≤ B) : -(A * B) ≤ a * b ∧ a * b ≤ A * B := by
 have hA : 0 ≤ A := by omega
 have hB : 0 ≤ B := by omega
 have h1 : 0 ≤ (A - a) * (B - b) := Int.mul_nonneg (by omega) (by omega)
 have h2 : 0 ≤ (A + a) * (B + b) := Int.mul_nonneg (by omega) (by omega)
 have h3 : 0 ≤ (A - a) * (B + b) := Int.mul_nonneg (by omega) (by omega)
 have h4 : 0 ≤ (A + a) * (B - b) := Int.mul_nonneg (by omega) (by omega)
 simp only [Int.sub_mul, Int.mul_sub, Int.add_mul, Int.mul_add] at h1 h2 h3 h4
 omega
theorem plTimes (x : PIt) (hx : x.ok) (c : Int) (hc : -10000 ≤ c ∧ c ≤ 10000) : DCall Try.prog 108 [.agg [dI x.wl, dI x.wh], dI c] [] (.agg [dI (loW x c), dI (hiW x c)]) [] := by
 have hw := hx.w
 have h1 := mul_abs (a := x.wl) (A := 5000000) (by omega) hc
 have h2 := mul_abs (a := x.wh) (A := 5000000) (by omega) hc
 have w1 : IntKind.i64.wrap (x.wl * c) = x.wl * c := IntWalk.i64_in _ (by omega)
 have w2 : IntKind.i64.wrap (x.wh * c) = x.wh * c := IntWalk.i64_in _ (by omega)
 unfold loW hiW
 refine DCall.of Try.func108 sf108 hb108 (Nat.le_of_ble_eq_true rfl) (okRes_nil fun _ => rfl) ?_; simp only [s108, idxs, Nat.reduceAdd]
 repeat' (first|(with_reducible first|apply qA|apply qB|apply qC|apply qD|apply qE|apply qF)|(simp (disch:=omega) only [go_sem, simprocAttr, qN, qO, qP, qQ, w1, w2, min_if, max_if])|exact qM rfl rfl rfl|(refine qG rfl ?_)|(refine qH rfl ?_)|(refine qI rfl ?_ ?_<;>intro hc<;>(try simp only [go_sem] at hc))|(refine qJ ?_ ?_<;>intro hc<;>(try simp only [hc])<;>(try simp only [go_sem] at hc)))
theorem plPlus (a b c d : Int) (ha : -1000000000000000 ≤ a ∧ a ≤ 1000000000000000) (hb : -1000000000000000 ≤ b ∧ b ≤ 1000000000000000) (hc : -1000000000000000 ≤ c ∧ c ≤ 1000000000000000) (hd : -1000000000000000 ≤ d ∧ d ≤ 1000000000000000) : DCall Try.prog 107 [.agg [dI a, dI b], .agg [dI c, dI d]] [] (.agg [dI (a + c), dI (b + d)]) [] := by
 refine DCall.of Try.func107 sf107 hb107 (Nat.le_of_ble_eq_true rfl) (okRes_nil fun _ => rfl) ?_; simp only [s107, idxs, Nat.reduceAdd]
 repeat' (first|(with_reducible first|apply qA|apply qB|apply qC|apply qD|apply qE|apply qF)|(simp (disch:=omega) only [go_sem, simprocAttr, qN, qO, qP, qQ])|exact qM rfl rfl rfl|(refine qG rfl ?_)|(refine qH rfl ?_)|(refine qI rfl ?_ ?_<;>intro hc<;>(try simp only [go_sem] at hc))|(refine qJ ?_ ?_<;>intro hc<;>(try simp only [hc])<;>(try simp only [go_sem] at hc)))
theorem plDown1 (n y : Int) (lab : Bool) (hn : -1000000000000000 ≤ n ∧ n ≤ 1000000000000000) (hy : 0 < y ∧ y ≤ 10000) : DCall Try.prog 109 [dI n, .c (.ro lab [.v (.int .i64 y)] 0)] [] (dI (n / y)) [] := by
 have hf := floor_eq (n := n) hy.1
 have h1 : -y < Int.tmod n y ∧ Int.tmod n y < y := by
  have hlt := Int.tmod_lt_of_pos n hy.1
  refine ⟨?_, hlt⟩
  rcases Int.le_total 0 n with h | h
  ·have := Int.tmod_nonneg y h; omega
  ·have h2 := Int.tmod_lt_of_pos (-n) hy.1
   rw [Int.neg_tmod] at h2; omega
 have hz : (y = 0) = False := eq_false (by omega)
 have h3 := Int.tmod_lt_of_pos (Int.tmod n y + y) hy.1
 have h4 := Int.tmod_nonneg y (show 0 ≤ Int.tmod n y + y by omega)
 have h5 : -1000000000000000 - 10000 ≤ n / y ∧ n / y ≤ 1000000000000000 := by
  have e1 := Int.mul_ediv_add_emod n y
  have e2 := Int.emod_nonneg n (show y ≠ 0 by omega)
  have e3 := Int.emod_lt_of_pos n hy.1
  rcases Int.le_total 0 (n / y) with h | h
  ·have : n / y ≤ y * (n / y) := by
    have := Int.mul_le_mul_of_nonneg_right (show 1 ≤ y by omega) h
    omega
   omega
  ·have : y * (n / y) ≤ n / y := by
    have := Int.mul_le_mul_of_nonpos_right (show 1 ≤ y by omega) h
    omega
   omega
 have w1 : IntKind.i64.wrap (Int.tmod n y) = Int.tmod n y := IntWalk.i64_in _ (by omega)
 have w2 : IntKind.i64.wrap (Int.tmod n y + y) = Int.tmod n y + y := IntWalk.i64_in _ (by omega)
 have w3 : IntKind.i64.wrap (Int.tmod (Int.tmod n y + y) y) = Int.tmod (Int.tmod n y + y) y := IntWalk.i64_in _ (by omega)
 have w4 : IntKind.i64.wrap (n - Int.tmod (Int.tmod n y + y) y) = n - Int.tmod (Int.tmod n y + y) y := IntWalk.i64_in _ (by omega)
 have w5 : IntKind.i64.wrap (n / y) = n / y := IntWalk.i64_in _ (by omega)
 refine DCall.of Try.func109 sf109 hb109 (Nat.le_of_ble_eq_true rfl) (okRes_nil fun _ => rfl) ?_; simp only [s109, idxs, Nat.reduceAdd]
 repeat' (first|(with_reducible first|apply qA|apply qB|apply qC|apply qD|apply qE|apply qF)|(refine qL rfl (WF.of ?_) ?_; first|rfl|skip)|(simp (disch:=omega) only [go_sem, simprocAttr, qN, qO, qP, qQ, hz, w1, w2, w3, w4, hf, w5])|exact qM rfl rfl rfl|(refine qG rfl ?_)|(refine qH rfl ?_)|(refine qI rfl ?_ ?_<;>intro hc<;>(try simp only [go_sem] at hc))|(refine qJ ?_ ?_<;>intro hc<;>(try simp only [hc])<;>(try simp only [go_sem] at hc)))
theorem plDown (a b y : Int) (ha : -1000000000000000 ≤ a ∧ a ≤ 1000000000000000) (hb : -1000000000000000 ≤ b ∧ b ≤ 1000000000000000) (hy : 0 < y ∧ y ≤ 10000) : DCall Try.prog 77 [.agg [dI a, dI b], dI y] [] (.agg [dI (a / y), dI (b / y)]) [] := by
 have h1 := plDown1 a y true ha hy
 have h2 := plDown1 b y true hb hy
 refine DCall.of Try.func77 sf77 hb77 (Nat.le_of_ble_eq_true rfl) (okRes_nil fun _ => rfl) ?_; simp only [s77, idxs, Nat.reduceAdd]
 repeat' (first|(with_reducible first|apply qA|apply qB|apply qC|apply qD|apply qE|apply qF)|(refine qL rfl (WF.of ?_) ?_; first|rfl|skip)|(simp (disch:=omega) only [go_sem, simprocAttr, qN, qO, qP, qQ])|exact qM rfl rfl rfl|(refine qG rfl ?_)|(refine qK (h1) (by decide) ?_)|(refine qK (h2) (by decide) ?_)|(refine qH rfl ?_)|(refine qI rfl ?_ ?_<;>intro hc<;>(try simp only [go_sem] at hc))|(refine qJ ?_ ?_<;>intro hc<;>(try simp only [hc])<;>(try simp only [go_sem] at hc)))
end Go.Dw.Seat
end
section
set_option linter.unusedSimpArgs false
set_option maxRecDepth 100000
namespace Go.Dw.Seat
open Go Go.Dw Go.Proofs Go.IntWalk
abbrev rsL (b : Bool) (l : List PRs) : D := .c (.sl b 2 (rows eR l))
theorem rowC_snocR (l : List PRs) (x : PRs) : rowC (rows eR l) ++ [[D.c (.sl false 1 (rows eI x.on)), D.c (.v (.int .i64 x.sh))]] = rowC (rows eR (l ++ [x])) := by simp [rowC, rows, eR]
def apRS (a : List PRs) (e : PRs) : Option Exit × List PRs := (none, a ++ [e])
theorem apR_run : ∀ (L : List PRs) (a : List PRs), runIt apRS a L = (none, a ++ L)
 | [], a => by simp [runIt]
 | e :: L, a => by
  simp only [runIt, apRS, apR_run L]
  simp
abbrev rsC (p : PBs) (b : PBx) (below above : List PPl) : List C := [.ro false [.sl false 3 (rows eP above)] 0, .ro false [.sl false 3 (rows eP below)] 0, .ro false (bedC p b) 0]
set_option maxHeartbeats 1000000 in
theorem plAppSeq (p : PBs) (b : PBx) (hb : b.ok) (below above : List PPl) (hl1 : below.length ≤ 1000) (hl2 : above.length ≤ 1000) (hf1 : ∀ q ∈ below, q.fine) (hf2 : ∀ q ∈ above, q.fine) : DCall Try.prog 101 [.c (.v (.slice none 0 0)), .c (.fn (.func 102) [] (rsC p b below above))] [] (rsL false (above.map (rsF b below))) [] := by
 have hit := plRests1 p b hb below above hl1 hl2 hf1 hf2
 have hbl : (above.map (rsF b below)).length ≤ 1000 := by rw [List.length_map]; exact hl2
 generalize above.map (rsF b below) = L at *
 refine DCall.of Try.func101 sf101 hb101 (Nat.le_of_ble_eq_true rfl) (okRes_nil fun _ => rfl) ?_; simp only [s101, idxs, Nat.reduceAdd]
 repeat' (first|(with_reducible first|apply qA|apply qB|apply qC|apply qD|apply qE|apply qF)|(simp (disch:=omega) only [go_sem, simprocAttr, qN, qO, qP, qQ])|exact qM rfl rfl rfl|(refine qG rfl ?_)|(refine qH rfl ?_)|(refine qI rfl ?_ ?_<;>intro hc<;>(try simp only [go_sem] at hc))|(refine qJ ?_ ?_<;>intro hc<;>(try simp only [hc])<;>(try simp only [go_sem] at hc)))
 (refine DW.ent (Ent.adoptB 2 0 11 2 rfl rfl rfl rfl) ?_; simp only [ins, Nat.reduceLT, Nat.reduceEqDiff, ↓reduceIte, List.set_cons_zero, List.set_cons_succ])
 refine DW.rngBS (fs := []) (caps := [.c (.ro false [.sl false 3 (rows eP above)] 0), .c (.ro false [.sl false 3 (rows eP below)] 0), .c (.ro false (bedC p b) 0)]) (fun y : List PRs => [(11, .row 2 (rowC (rows eR y))), (2, .box [.own 11])]) [] apRS enR (fun _ => True) L hit (fun t y => y.length + t.length ≤ 1000) (by simpa using hbl) (fun a e t ha he _ => by simp only [apRS, List.length_append, List.length_cons, List.length_nil] at ha ⊢; omega) rfl (fun _ => ⟨rfl, rfl⟩) rfl (by decide) (fun _ _ => rfl) (fun _ _ _ => rfl) (by simp only [List.map_cons, List.map_nil]; decide) (fun _ => rfl) (fun _ => wf_row rfl rfl) (fun _ => nb_row eR_nb _ rfl) (by simp only [List.all_cons, List.all_nil, Blk.nb, rowC_nb, D.nb, D.nbs, C.nb, C.nbs, C.nbss, rows_nb eI_nb, Bool.and_true, Bool.not_false, Bool.and_self, bD, dI, iD, rows_nb eP_nb, rows_nb eLs_nb, rows_nb eR_nb]) (fun _ _ => rfl) ?_ ?_
 ·rintro y e t hy he v
  simp only [List.length_cons] at hy
  have hy : y.length ≤ 1000 := by omega
  simp (disch:=omega) only [go_sem,simprocAttr,qN,qO,qP,qQ,rF,rG,apRS]
  repeat' (first|(with_reducible first|apply qA|apply qB|apply qC|apply qD|apply qE|apply qF)|(simp (disch:=omega) only [go_sem, simprocAttr, qN, qO, qP, qQ, rF, rG])|exact qM rfl rfl rfl|(refine qG rfl ?_)|(refine qH rfl ?_)|(refine qI rfl ?_ ?_<;>intro hc<;>(try simp only [go_sem] at hc))|(refine qJ ?_ ?_<;>intro hc<;>(try simp only [hc])<;>(try simp only [go_sem] at hc)))
  refine round_end rfl rfl (Ent.to ?_ ?_) <;> simp (disch:=omega) only [qR,qS,qTw,qU,get,Nat.reduceEqDiff,↓reduceIte,qV,qW,qX,qY,qZ,and_self,dI,i64_in,and_true,true_and,rA,rB,rC,rD,capB,List.cons_append,List.nil_append,rowC_snocR]
 ·rw [apR_run]
  repeat' (first|(with_reducible first|apply qA|apply qB|apply qC|apply qD|apply qE|apply qF)|(simp (disch:=omega) only [go_sem, simprocAttr, qN, qO, qP, qQ])|exact qM rfl rfl rfl|(refine qG rfl ?_)|(refine qH rfl ?_)|(refine qI rfl ?_ ?_<;>intro hc<;>(try simp only [go_sem] at hc))|(refine qJ ?_ ?_<;>intro hc<;>(try simp only [hc])<;>(try simp only [go_sem] at hc)))
  (refine retS_ent (Ent.rel 11 rfl) ?_; simp (disch:=omega) only [go_sem,simprocAttr,qN,qO,qP,qQ])
  refine retS_wk rfl ?_ (by simp only [Blk.nb, rowC_nb, D.nb, D.nbs, C.nb, C.nbs, C.nbss, rows_nb eI_nb, Bool.and_true, Bool.not_false, Bool.and_self, bD, dI, iD, rows_nb eP_nb, rows_nb eLs_nb, rows_nb eR_nb]); exact .refl _
theorem plCollect (p : PBs) (b : PBx) (hb : b.ok) (below above : List PPl) (hl1 : below.length ≤ 1000) (hl2 : above.length ≤ 1000) (hf1 : ∀ q ∈ below, q.fine) (hf2 : ∀ q ∈ above, q.fine) : DCall Try.prog 73 [.c (.fn (.func 102) [] (rsC p b below above))] [] (rsL false (above.map (rsF b below))) [] := by
 have h1 := plAppSeq p b hb below above hl1 hl2 hf1 hf2
 refine DCall.of Try.func73 sf73 hb73 (Nat.le_of_ble_eq_true rfl) (okRes_nil fun _ => rfl) ?_; simp only [s73, idxs, Nat.reduceAdd]
 repeat' (first|(with_reducible first|apply qA|apply qB|apply qC|apply qD|apply qE|apply qF)|(simp (disch:=omega) only [go_sem, simprocAttr, qN, qO, qP, qQ])|exact qM rfl rfl rfl|(refine qG rfl ?_)|(refine qK (h1) (by decide) ?_)|(refine qH rfl ?_)|(refine qI rfl ?_ ?_<;>intro hc<;>(try simp only [go_sem] at hc))|(refine qJ ?_ ?_<;>intro hc<;>(try simp only [hc])<;>(try simp only [go_sem] at hc)))
 refine retS_wk rfl ?_ (by simp only [Blk.nb, rowC_nb, D.nb, D.nbs, C.nb, C.nbs, C.nbss, rows_nb eI_nb, Bool.and_true, Bool.not_false, Bool.and_self, bD, dI, iD, rows_nb eP_nb, rows_nb eLs_nb, rows_nb eR_nb]); exact .refl _
theorem two_ls (lab : Bool) (l m : List PPl) : D.c (.sl lab 1 (rows eLs [l, m])) = D.c (.sl lab 1 [[C.sl false 3 (rows eP l)], [C.sl false 3 (rows eP m)]]) := rfl
def rsX (p : PBs) (b : PBx) (below above : List PPl) : D := if rgtE p b [below, above] = 0 then rsL false (above.map (rsF b below)) else .c (.v (.slice none 0 0))
theorem rgt_op {p : PBs} {b : PBx} {ls : List (List PPl)} (h : rgtE p b ls = 0) : opE p b ls = 0 ∧ ∀ l ∈ ls, Lies p b l := by
 unfold rgtE at h
 split at h
 ·rename_i h1; exact absurd h h1
 ·rename_i h1
  split at h
  ·rename_i h2
   refine ⟨by simpa using h1, fun l hl => flt_lies.1 ?_⟩
   have := List.all_eq_true.1 h2 l hl
   simpa using this
  ·cases h
set_option maxHeartbeats 2000000 in
theorem plRestsX (p : PBs) (b : PBx) (below above : List PPl) (hl1 : below.length ≤ 2 ^ 36) (hl2 : above.length ≤ 2 ^ 36) : DCall Try.prog 24 [bsD p, bxD b, lyD false below, lyD false above] [] (.tup [rsX p b below above, dI (rgtE p b [below, above])]) [] := by
 have hls : ∀ l ∈ [below, above], l.length ≤ 2 ^ 36 := by simp [hl1, hl2]
 by_cases hc : chkE p b = 0
 case neg =>
  have h1 := plOpenE true p b [below, above] hc
  rw [two_ls] at h1
  have hE : opE p b [below, above] = chkE p b := if_pos hc
  have hT : rgtE p b [below, above] = chkE p b := by unfold rgtE; rw [hE, if_pos hc]
  rw [rsX, hT, if_neg hc]
  generalize chkE p b = e at *
  have hd : (e != 0) = true := by simpa using hc
  refine DCall.of Try.func24 sf24 hb24 (Nat.le_of_ble_eq_true rfl) (okRes_nil fun _ => rfl) ?_; simp only [s24, idxs, Nat.reduceAdd]
  repeat' (first|(with_reducible first|apply qA|apply qB|apply qC|apply qD|apply qE|apply qF)|(simp (disch:=omega) only [go_sem, simprocAttr, qN, qO, qP, qQ, hd])|exact qM rfl rfl rfl|(refine qG rfl ?_)|(refine qK (h1) (by decide) ?_)|(refine qH rfl ?_)|(refine qI rfl ?_ ?_<;>intro hc<;>(try simp only [go_sem] at hc))|(refine qJ ?_ ?_<;>intro hc<;>(try simp only [hc])<;>(try simp only [go_sem] at hc)))
 have h1 := plOpen true p b [below, above] (by simp) hls hc
 rw [two_ls] at h1
 have hE : opE p b [below, above] = lyE [below, above] := if_neg (by rw [hc]; decide)
 by_cases hy : lyE [below, above] = 0
 case neg =>
  have hT : rgtE p b [below, above] = lyE [below, above] := by unfold rgtE; rw [hE, if_pos hy]
  rw [rsX, hT, if_neg hy]
  generalize lyE [below, above] = e at *
  have hd : (e != 0) = true := by simpa using hy
  refine DCall.of Try.func24 sf24 hb24 (Nat.le_of_ble_eq_true rfl) (okRes_nil fun _ => rfl) ?_; simp only [s24, idxs, Nat.reduceAdd]
  repeat' (first|(with_reducible first|apply qA|apply qB|apply qC|apply qD|apply qE|apply qF)|(simp (disch:=omega) only [go_sem, simprocAttr, qN, qO, qP, qQ, hd])|exact qM rfl rfl rfl|(refine qG rfl ?_)|(refine qK (h1) (by decide) ?_)|(refine qH rfl ?_)|(refine qI rfl ?_ ?_<;>intro hc<;>(try simp only [go_sem] at hc))|(refine qJ ?_ ?_<;>intro hc<;>(try simp only [hc])<;>(try simp only [go_sem] at hc)))
 have k1 := ly_ok hy below (by simp)
 have k2 := ly_ok hy above (by simp)
 obtain ⟨hp, hb⟩ := chk_ok.1 hc
 rw [hy] at h1
 have h3 := plRight true p b [below, above] (by simp) hls
 rw [two_ls, if_pos hc] at h3
 have h4 := plRests0 p b below above
 have h5 := plCollect p b hb below above (by omega) (by omega) (fun q hq => fine_of (k1.2 q hq)) (fun q hq => fine_of (k2.2 q hq))
 by_cases hr : rgtE p b [below, above] = 0
 ·rw [rsX, if_pos hr]
  rw [hr] at h3 ⊢
  refine DCall.of Try.func24 sf24 hb24 (Nat.le_of_ble_eq_true rfl) (okRes_nil fun _ => rfl) ?_; simp only [s24, idxs, Nat.reduceAdd]
  repeat' (first|(with_reducible first|apply qA|apply qB|apply qC|apply qD|apply qE|apply qF)|(simp (disch:=omega) only [go_sem, simprocAttr, qN, qO, qP, qQ])|exact qM rfl rfl rfl|(refine qG rfl ?_)|(refine qK (h1) (by decide) ?_)|(refine qK (h3) (by decide) ?_)|(refine qK (h4) (by decide) ?_)|(refine qK (h5) (by decide) ?_)|(refine qH rfl ?_)|(refine qI rfl ?_ ?_<;>intro hc<;>(try simp only [go_sem] at hc))|(refine qJ ?_ ?_<;>intro hc<;>(try simp only [hc])<;>(try simp only [go_sem] at hc)))
  refine retS_wk rfl ?_ (by simp only [Blk.nb, rowC_nb, D.nb, D.nbs, C.nb, C.nbs, C.nbss, rows_nb eI_nb, Bool.and_true, Bool.not_false, Bool.and_self, bD, dI, iD, rows_nb eP_nb, rows_nb eLs_nb, rows_nb eR_nb]); exact .refl _
 ·rw [rsX, if_neg hr]
  generalize rgtE p b [below, above] = e at *
  have hd : (e != 0) = true := by simpa using hr
  refine DCall.of Try.func24 sf24 hb24 (Nat.le_of_ble_eq_true rfl) (okRes_nil fun _ => rfl) ?_; simp only [s24, idxs, Nat.reduceAdd]
  repeat' (first|(with_reducible first|apply qA|apply qB|apply qC|apply qD|apply qE|apply qF)|(simp (disch:=omega) only [go_sem, simprocAttr, qN, qO, qP, qQ, hd])|exact qM rfl rfl rfl|(refine qG rfl ?_)|(refine qK (h1) (by decide) ?_)|(refine qK (h3) (by decide) ?_)|(refine qH rfl ?_)|(refine qI rfl ?_ ?_<;>intro hc<;>(try simp only [go_sem] at hc))|(refine qJ ?_ ?_<;>intro hc<;>(try simp only [hc])<;>(try simp only [go_sem] at hc)))
def twoN : List PRs → Int
 | [] => 0
 | r :: l => (if 2 ≤ r.on.length then 1 else 0) + twoN l
def bndT (p : PBs) (b : PBx) (l : List PPl) (k : Nat) : Int := twoN ((l.map (trnP p b k)).map (rsF b l))
def bindS (p : PBs) (b : PBx) (l : List PPl) : Nat → Int × Int
 | 0 => (0, 0)
 | k + 1 => if (bindS p b l k).2 < bndT p b l k then ((k : Int), bndT p b l k) else bindS p b l k
def cnS (a : Int) (e : PRs) : Option Exit × Int := (none, a + if 2 ≤ e.on.length then 1 else 0)
theorem cn_run : ∀ (L : List PRs) (a : Int), runIt cnS a L = (none, a + twoN L)
 | [], a => by simp [runIt, twoN]
 | e :: L, a => by
  simp only [runIt, cnS, cn_run L, twoN, Int.add_assoc]
theorem twoN_b : ∀ L : List PRs, 0 ≤ twoN L ∧ twoN L ≤ (L.length : Int)
 | [] => by simp [twoN]
 | e :: L => by
  have := twoN_b L
  rw [twoN, List.length_cons]
  split <;> omega
theorem trn_fine {p : PBs} (hp : p.ok) {b : PBx} (hb : b.ok) (k : Nat) {q : PPl} (h : (0 ≤ q.x ∧ q.x ≤ 140) ∧ 0 ≤ q.y ∧ q.y ≤ 140) : (trnP p b k q).fine := by
 have hs := side_pos hb q
 have := hp.lg
 have := hp.wd
 have := hp.ov
 unfold trnP rmX rmY
 constructor <;> dsimp only <;> split <;> omega
set_option maxHeartbeats 4000000 in
theorem plBind (p : PBs) (b : PBx) (l : List PPl) (hl : l.length ≤ 2 ^ 36) : DCall Try.prog 42 [bsD p, bxD b, lyD false l] [] (.tup [dI (if rgtE p b [l] = 0 then (bindS p b l 4).1 else 0), dI (if rgtE p b [l] = 0 then (bindS p b l 4).2 else 0), dI (rgtE p b [l])]) [] := by
 have h3 := plRight true p b [l] (by simp) (by simpa using hl)
 rw [one_ls] at h3
 by_cases hr : rgtE p b [l] = 0
 case neg =>
  rw [if_neg hr, if_neg hr]
  generalize rgtE p b [l] = e at *
  have hd : (e != 0) = true := by simpa using hr
  by_cases hc : chkE p b = 0
  ·rw [if_pos hc] at h3
   refine DCall.of Try.func42 sf42 hb42 (Nat.le_of_ble_eq_true rfl) (okRes_nil fun _ => rfl) ?_; simp only [s42, idxs, Nat.reduceAdd]
   repeat' (first|(with_reducible first|apply qA|apply qB|apply qC|apply qD|apply qE|apply qF)|(refine qL rfl (WF.of ?_) ?_; first|rfl|skip)|(simp (disch:=omega) only [go_sem, simprocAttr, qN, qO, qP, qQ, hd])|exact qM rfl rfl rfl|(refine qG rfl ?_)|(refine qK (h3) (by decide) ?_)|(refine qH rfl ?_)|(refine qI rfl ?_ ?_<;>intro hc<;>(try simp only [go_sem] at hc))|(refine qJ ?_ ?_<;>intro hc<;>(try simp only [hc])<;>(try simp only [go_sem] at hc)))
  ·rw [if_neg hc] at h3
   refine DCall.of Try.func42 sf42 hb42 (Nat.le_of_ble_eq_true rfl) (okRes_nil fun _ => rfl) ?_; simp only [s42, idxs, Nat.reduceAdd]
   repeat' (first|(with_reducible first|apply qA|apply qB|apply qC|apply qD|apply qE|apply qF)|(refine qL rfl (WF.of ?_) ?_; first|rfl|skip)|(simp (disch:=omega) only [go_sem, simprocAttr, qN, qO, qP, qQ, hd])|exact qM rfl rfl rfl|(refine qG rfl ?_)|(refine qK (h3) (by decide) ?_)|(refine qH rfl ?_)|(refine qI rfl ?_ ?_<;>intro hc<;>(try simp only [go_sem] at hc))|(refine qJ ?_ ?_<;>intro hc<;>(try simp only [hc])<;>(try simp only [go_sem] at hc)))
 obtain ⟨ho, hli⟩ := rgt_op hr
 obtain ⟨⟨hc, hy⟩, hp, hb⟩ := op_ok ho
 rw [if_pos hr, if_pos hr, hr]
 rw [hr, if_pos hc] at h3
 have k1 := ly_ok hy l (by simp)
 have ht := plTurns
 refine DCall.of Try.func42 sf42 hb42 (Nat.le_of_ble_eq_true rfl) (okRes_nil fun _ => rfl) ?_; simp only [s42, idxs, Nat.reduceAdd]
 repeat' (first|(with_reducible first|apply qA|apply qB|apply qC|apply qD|apply qE|apply qF)|(refine qL rfl (WF.of ?_) ?_; first|rfl|skip)|(simp (disch:=omega) only [go_sem, simprocAttr, qN, qO, qP, qQ])|exact qM rfl rfl rfl|(refine qG rfl ?_)|(refine qK (h3) (by decide) ?_)|(refine qK (ht) (by decide) ?_)|(refine qH rfl ?_)|(refine qI rfl ?_ ?_<;>intro hc<;>(try simp only [go_sem] at hc))|(refine qJ ?_ ?_<;>intro hc<;>(try simp only [hc])<;>(try simp only [go_sem] at hc)))
 refine DW.loop (ι := { k : Nat // k ≤ 4 }) (fun k => ⟨51, [(26, dI k.1), (25, dI 4), (9, .box 9 0), (7, dI (bindS p b l k.1).2), (6, dI (bindS p b l k.1).1), (2, lyD false l)], [(9, .box (bedL p b))]⟩) (fun k => 4 - k.1) ⟨0, by decide⟩ ?_ ?_
 ·refine Ent.to ?_ ?_ <;> simp (disch:=omega) only [qR,qS,qTw,qU,get,Nat.reduceEqDiff,↓reduceIte,qV,qW,qX,qY,qZ,and_self,dI,i64_in,and_true,true_and,rA,rB,rC,rD,bindS]
  all_goals first | exact ⟨.refl _, .refl _, .refl _⟩ | exact ⟨.refl _, .refl _⟩ | exact .refl _
 rintro ⟨k, hk⟩
 dsimp only
 by_cases hlt : k < 4
 ·have hd : decide ((k : Int) < 4) = true := decide_eq_true (by omega)
  have h4 := plTurned p b hp hb false l (by omega) (fun q hq => fine_of (k1.2 q hq)) k hlt
  have h5 := plRests0 p b l (l.map (trnP p b k))
  have hit := plRests1 p b hb l (l.map (trnP p b k)) (by omega) (by rw [List.length_map]; omega) (fun q hq => fine_of (k1.2 q hq)) (fun q hq => by
   obtain ⟨u, hu, rfl⟩ := List.mem_map.1 hq
   exact trn_fine hp hb k (k1.2 u hu))
  have hbl : (l.map (trnP p b k)).length ≤ 200 := by rw [List.length_map]; omega
  have hbT : bndT p b l k = twoN ((l.map (trnP p b k)).map (rsF b l)) := rfl
  have hbb : bindS p b l (k + 1) = if (bindS p b l k).2 < bndT p b l k then ((k : Int), bndT p b l k) else bindS p b l k := rfl
  have htn := twoN_b ((l.map (trnP p b k)).map (rsF b l))
  rw [List.length_map, ← hbT] at htn
  repeat' (first|(with_reducible first|apply qA|apply qB|apply qC|apply qD|apply qE|apply qF)|(refine qL rfl (WF.of ?_) ?_; first|rfl|skip)|(simp (disch:=omega) only [go_sem, simprocAttr, qN, qO, qP, qQ, hd])|exact qM rfl rfl rfl|(refine qG rfl ?_)|(refine qK (h4) (by decide) ?_)|(refine qK (h5) (by decide) ?_)|(refine qH rfl ?_)|(refine qI rfl ?_ ?_<;>intro hc<;>(try simp only [go_sem] at hc))|(refine qJ ?_ ?_<;>intro hc<;>(try simp only [hc])<;>(try simp only [go_sem] at hc)))
  refine DW.ent (σ' := ⟨51, [(35, .fn (.func 102) [] [.c (.ro false [.sl false 3 (rows eP (l.map (trnP p b k)))] 0), .c (.ro false [.sl false 3 (rows eP l)] 0), .c (.ro false (bedC p b) 0)]), (26, dI k), (25, dI 4), (11, .box 11 0), (10, dI k), (9, .box 9 0), (7, dI (bindS p b l k).2), (6, dI (bindS p b l k).1), (2, lyD false l)], [(11, .box [dI 0]), (9, .box (bedL p b))]⟩) ?_ ?_
  ·refine Ent.to ?_ ?_ <;> simp (disch:=omega) only [qR,qS,qTw,qU,get,Nat.reduceEqDiff,↓reduceIte,qV,qW,qX,qY,qZ,and_self,dI,i64_in,and_true,true_and,rA,rB,rC,rD]
   all_goals first | exact ⟨.refl _, .refl _, .refl _⟩ | exact ⟨.refl _, .refl _⟩ | exact .refl _
  have hll : ((l.map (trnP p b k)).map (rsF b l)).length ≤ 200 := by rw [List.length_map]; exact hbl
  generalize l.map (trnP p b k) = M at *
  generalize M.map (rsF b l) = L at *
  refine DW.rngBS (fs := []) (caps := [.c (.ro false [.sl false 3 (rows eP M)] 0), .c (.ro false [.sl false 3 (rows eP l)] 0), .c (.ro false (bedC p b) 0)]) (fun y : Int => [(11, .box [dI y]), (9, .box (bedL p b))]) 0 cnS enR (fun _ => True) L hit (fun t y => 0 ≤ y ∧ y + (t.length : Int) ≤ 1000) (by omega) (fun a e t ha he _ => by
   simp only [cnS, List.length_cons] at ha ⊢
   split <;> omega) rfl (fun _ => ⟨rfl, rfl⟩) rfl (by decide) (fun _ _ => rfl) (fun _ _ _ => rfl) (by simp only [List.map_cons, List.map_nil]; decide) (fun _ => rfl) (fun _ => rfl) (fun _ => (by simp only [List.all_cons, List.all_nil, Blk.nb, rowC_nb, D.nb, D.nbs, C.nb, C.nbs, C.nbss, rows_nb eI_nb, Bool.and_true, Bool.not_false, Bool.and_self, bD, dI, iD, rows_nb eP_nb, rows_nb eLs_nb, rows_nb eR_nb])) (by simp only [List.all_cons, List.all_nil, Blk.nb, rowC_nb, D.nb, D.nbs, C.nb, C.nbs, C.nbss, rows_nb eI_nb, Bool.and_true, Bool.not_false, Bool.and_self, bD, dI, iD, rows_nb eP_nb, rows_nb eLs_nb, rows_nb eR_nb]) (fun _ _ => rfl) ?_ ?_
  ·rintro y e t hy he v
   simp only [List.length_cons] at hy
   by_cases h2 : 2 ≤ e.on.length
   ·have d2 : decide ((2 : Int) ≤ (e.on.length : Int)) = true := decide_eq_true (by omega)
    have hS : cnS y e = (none, y + 1) := by rw [cnS, if_pos h2]
    rw [hS]
    simp (disch:=omega) only [go_sem,simprocAttr,qN,qO,qP,qQ,rF,rG]
    repeat' (first|(with_reducible first|apply qA|apply qB|apply qC|apply qD|apply qE|apply qF)|(refine qL rfl (WF.of ?_) ?_; first|rfl|skip)|(simp (disch:=omega) only [go_sem, simprocAttr, qN, qO, qP, qQ, rF, rG, d2])|exact qM rfl rfl rfl|(refine qG rfl ?_)|(refine qH rfl ?_)|(refine qI rfl ?_ ?_<;>intro hc<;>(try simp only [go_sem] at hc))|(refine qJ ?_ ?_<;>intro hc<;>(try simp only [hc])<;>(try simp only [go_sem] at hc)))
    refine round_end rfl rfl (Ent.to ?_ ?_) <;> simp (disch:=omega) only [qR,qS,qTw,qU,get,Nat.reduceEqDiff,↓reduceIte,qV,qW,qX,qY,qZ,and_self,dI,i64_in,and_true,true_and,rA,rB,rC,rD,capB,List.cons_append,List.nil_append]
   ·have d2 : decide ((2 : Int) ≤ (e.on.length : Int)) = false := decide_eq_false (by omega)
    have hS : cnS y e = (none, y) := by rw [cnS, if_neg h2, Int.add_zero]
    rw [hS]
    simp (disch:=omega) only [go_sem,simprocAttr,qN,qO,qP,qQ,rF,rG]
    repeat' (first|(with_reducible first|apply qA|apply qB|apply qC|apply qD|apply qE|apply qF)|(refine qL rfl (WF.of ?_) ?_; first|rfl|skip)|(simp (disch:=omega) only [go_sem, simprocAttr, qN, qO, qP, qQ, rF, rG, d2])|exact qM rfl rfl rfl|(refine qG rfl ?_)|(refine qH rfl ?_)|(refine qI rfl ?_ ?_<;>intro hc<;>(try simp only [go_sem] at hc))|(refine qJ ?_ ?_<;>intro hc<;>(try simp only [hc])<;>(try simp only [go_sem] at hc)))
    refine round_end rfl rfl (Ent.to ?_ ?_) <;> simp (disch:=omega) only [qR,qS,qTw,qU,get,Nat.reduceEqDiff,↓reduceIte,qV,qW,qX,qY,qZ,and_self,dI,i64_in,and_true,true_and,rA,rB,rC,rD,capB,List.cons_append,List.nil_append]
  ·rw [cn_run, ← hbT, Int.zero_add]
   generalize bindS p b l k = B at *
   obtain ⟨B1, B2⟩ := B
   dsimp only at hbb
   by_cases hlt2 : B2 < bndT p b l k
   ·have d2 : decide (B2 < bndT p b l k) = true := decide_eq_true hlt2
    rw [if_pos hlt2] at hbb
    generalize bndT p b l k = T at *
    repeat' (first|(with_reducible first|apply qA|apply qB|apply qC|apply qD|apply qE|apply qF)|(refine qL rfl (WF.of ?_) ?_; first|rfl|skip)|(simp (disch:=omega) only [go_sem, simprocAttr, qN, qO, qP, qQ, d2])|exact qM rfl rfl rfl|(refine qG rfl ?_)|(refine qH rfl ?_)|(refine qI rfl ?_ ?_<;>intro hc<;>(try simp only [go_sem] at hc))|(refine qJ ?_ ?_<;>intro hc<;>(try simp only [hc])<;>(try simp only [go_sem] at hc)))
    refine ⟨⟨k + 1, hlt⟩, ?_, Ent.to ?_ ?_⟩ <;> first | (show _ < _; (try simp only); omega) | (simp (disch:=omega) only [qR,qS,qTw,qU,get,Nat.reduceEqDiff,↓reduceIte,qV,qW,qX,qY,qZ,and_self,dI,i64_in,and_true,true_and,rA,rB,rC,rD, hbb])
    all_goals first | exact ⟨.refl _, .refl _, .refl _⟩ | exact ⟨.refl _, .refl _⟩ | exact .refl _
   ·have d2 : decide (B2 < bndT p b l k) = false := decide_eq_false hlt2
    rw [if_neg hlt2] at hbb
    generalize bndT p b l k = T at *
    repeat' (first|(with_reducible first|apply qA|apply qB|apply qC|apply qD|apply qE|apply qF)|(refine qL rfl (WF.of ?_) ?_; first|rfl|skip)|(simp (disch:=omega) only [go_sem, simprocAttr, qN, qO, qP, qQ, d2])|exact qM rfl rfl rfl|(refine qG rfl ?_)|(refine qH rfl ?_)|(refine qI rfl ?_ ?_<;>intro hc<;>(try simp only [go_sem] at hc))|(refine qJ ?_ ?_<;>intro hc<;>(try simp only [hc])<;>(try simp only [go_sem] at hc)))
    refine ⟨⟨k + 1, hlt⟩, ?_, Ent.to ?_ ?_⟩ <;> first | (show _ < _; (try simp only); omega) | (simp (disch:=omega) only [qR,qS,qTw,qU,get,Nat.reduceEqDiff,↓reduceIte,qV,qW,qX,qY,qZ,and_self,dI,i64_in,and_true,true_and,rA,rB,rC,rD, hbb])
    all_goals first | exact ⟨.refl _, .refl _, .refl _⟩ | exact ⟨.refl _, .refl _⟩ | exact .refl _
 ·obtain rfl : k = 4 := by omega
  repeat' (first|(with_reducible first|apply qA|apply qB|apply qC|apply qD|apply qE|apply qF)|(refine qL rfl (WF.of ?_) ?_; first|rfl|skip)|(simp (disch:=omega) only [go_sem, simprocAttr, qN, qO, qP, qQ])|exact qM rfl rfl rfl|(refine qG rfl ?_)|(refine qH rfl ?_)|(refine qI rfl ?_ ?_<;>intro hc<;>(try simp only [go_sem] at hc))|(refine qJ ?_ ?_<;>intro hc<;>(try simp only [hc])<;>(try simp only [go_sem] at hc)))
end Go.Dw.Seat
end
section
set_option linter.unusedSimpArgs false
set_option maxRecDepth 100000
namespace Go.Dw.Seat
open Go Go.Dw Go.Proofs Go.IntWalk
theorem list_same {α : Type} {s t : List α} {i : Nat} (hl : s.length = t.length) (hi : i = s.length) (h : ∀ j, j < i → s[j]? = t[j]?) : s = t := by
 apply List.ext_getElem?
 intro j
 rcases Nat.lt_or_ge j i with h1 | h1
 ·exact h j h1
 ·rw [List.getElem?_eq_none (by omega), List.getElem?_eq_none (by omega)]
theorem upto_succ {p : Nat → Prop} {i : Nat} (h : ∀ j, j < i → p j) (hp : p i) : ∀ j, j < i + 1 → p j := fun j hj => by
 rcases Nat.lt_or_ge j i with h1 | h1
 ·exact h j h1
 ·obtain rfl : j = i := by omega
  exact hp
theorem getE {α : Type} {l : List α} {i : Nat} (h : i < l.length) : ∃ v, l[i]? = some v := ⟨l[i], List.getElem?_eq_getElem h⟩
theorem sameY {R : Bool} {α : Type} {s t : List α} (h : s = t) (hR : R = true) : (R = true ↔ s = t) := by simp [h, hR]
theorem reInts (b1 b2 : Bool) (s t : List Int) (hs : s.length ≤ 2 ^ 36) (ht : t.length ≤ 2 ^ 36) : DCall Try.prog 35 [dIs b1 s, dIs b2 t] [] (bD (decide (s = t))) [] := by
 by_cases hl : s.length = t.length
 ·have e : ((s.length : Int) != t.length) = false := by rw [hl]; simp
  generalize hR : decide (s = t) = R
  refine DCall.of Try.func35 sf35 hb35 (Nat.le_of_ble_eq_true rfl) (okRes_nil fun _ => rfl) ?_; simp only [s35, idxs, Nat.reduceAdd]
  repeat' (first|(with_reducible first|apply qA|apply qB|apply qC|apply qD|apply qE|apply qF)|(refine qL rfl (WF.of ?_) ?_; first|rfl|skip)|(simp (disch:=omega) only [go_sem, simprocAttr, qN, qO, qP, qQ, e])|exact qM rfl rfl rfl|(refine qG rfl ?_)|(refine qH rfl ?_)|(refine qI rfl ?_ ?_<;>intro hc<;>(try simp only [go_sem] at hc))|(refine qJ ?_ ?_<;>intro hc<;>(try simp only [hc])<;>(try simp only [go_sem] at hc)))
  refine DW.loop (ι := { i : Nat // i ≤ s.length ∧ ∀ j, j < i → s[j]? = t[j]? }) (fun i => ⟨26, [(5, dI i.1), (1, dIs b2 t), (0, dIs b1 s)], []⟩) (fun i => s.length - i.1) ⟨0, Nat.zero_le _, fun j h => by omega⟩ ?_ ?_
  ·refine Ent.to ?_ ?_ <;> simp (disch:=omega) only [qR,qS,qTw,qU,get,Nat.reduceEqDiff,↓reduceIte,qV,qW,qX,qY,qZ,and_self,dI,i64_in,and_true,true_and,rA,rB,rC,rD]
  rintro ⟨i, hi, hij⟩
  dsimp only
  rcases at_or s i hi with ⟨v, hv, hlt, hd⟩ | ⟨he, hd⟩
  ·obtain ⟨u, hu⟩ := getE (l := t) (i := i) (by omega)
   by_cases hvu : v = u
   ·have d1 : (v != u) = false := by rw [hvu]; simp
    repeat' (first|(with_reducible first|apply qA|apply qB|apply qC|apply qD|apply qE|apply qF)|(refine qL rfl (WF.of ?_) ?_; first|rfl|skip)|(simp (disch:=omega) only [go_sem, simprocAttr, qN, qO, qP, qQ, hd, hv, hu, d1])|exact qM rfl rfl rfl|(refine qG rfl ?_)|(refine qH rfl ?_)|(refine qI rfl ?_ ?_<;>intro hc<;>(try simp only [go_sem] at hc))|(refine qJ ?_ ?_<;>intro hc<;>(try simp only [hc])<;>(try simp only [go_sem] at hc)))
    refine ⟨⟨i + 1, by omega, upto_succ hij (by rw [hv, hu, hvu])⟩, ?_, Ent.to ?_ ?_⟩ <;> first | (show _ < _; (try simp only); omega) | (simp (disch:=omega) only [qR,qS,qTw,qU,get,Nat.reduceEqDiff,↓reduceIte,qV,qW,qX,qY,qZ,and_self,dI,i64_in,and_true,true_and,rA,rB,rC,rD])
   ·have d1 : (v != u) = true := by simpa using hvu
    have hne : R = false := by
     rw [← hR, decide_eq_false_iff_not]
     rintro rfl
     rw [hv] at hu; cases hu; exact hvu rfl
    subst hne
    repeat' (first|(with_reducible first|apply qA|apply qB|apply qC|apply qD|apply qE|apply qF)|(refine qL rfl (WF.of ?_) ?_; first|rfl|skip)|(simp (disch:=omega) only [go_sem, simprocAttr, qN, qO, qP, qQ, hd, hv, hu, d1])|exact qM rfl rfl rfl|(refine qG rfl ?_)|(refine qH rfl ?_)|(refine qI rfl ?_ ?_<;>intro hc<;>(try simp only [go_sem] at hc))|(refine qJ ?_ ?_<;>intro hc<;>(try simp only [hc])<;>(try simp only [go_sem] at hc)))
  ·have hst : R = true := by rw [← hR, decide_eq_true_eq]; exact list_same hl he hij
   subst hst
   repeat' (first|(with_reducible first|apply qA|apply qB|apply qC|apply qD|apply qE|apply qF)|(refine qL rfl (WF.of ?_) ?_; first|rfl|skip)|(simp (disch:=omega) only [go_sem, simprocAttr, qN, qO, qP, qQ, hd])|exact qM rfl rfl rfl|(refine qG rfl ?_)|(refine qH rfl ?_)|(refine qI rfl ?_ ?_<;>intro hc<;>(try simp only [go_sem] at hc))|(refine qJ ?_ ?_<;>intro hc<;>(try simp only [hc])<;>(try simp only [go_sem] at hc)))
 ·have e : ((s.length : Int) != t.length) = true := by rw [bne_iff_ne]; omega
  have hne : decide (s = t) = false := by rw [decide_eq_false_iff_not]; rintro rfl; exact hl rfl
  rw [hne]
  refine DCall.of Try.func35 sf35 hb35 (Nat.le_of_ble_eq_true rfl) (okRes_nil fun _ => rfl) ?_; simp only [s35, idxs, Nat.reduceAdd]
  repeat' (first|(with_reducible first|apply qA|apply qB|apply qC|apply qD|apply qE|apply qF)|(refine qL rfl (WF.of ?_) ?_; first|rfl|skip)|(simp (disch:=omega) only [go_sem, simprocAttr, qN, qO, qP, qQ, e])|exact qM rfl rfl rfl|(refine qG rfl ?_)|(refine qH rfl ?_)|(refine qI rfl ?_ ?_<;>intro hc<;>(try simp only [go_sem] at hc))|(refine qJ ?_ ?_<;>intro hc<;>(try simp only [hc])<;>(try simp only [go_sem] at hc)))
def eqP (a b : PPl) : Bool := (a.x == b.x) && ((a.y == b.y) && (a.t == b.t))
theorem eqP_iff {a b : PPl} : eqP a b = true ↔ a = b := by
 obtain ⟨a1, a2, a3⟩ := a
 obtain ⟨b1, b2, b3⟩ := b
 simp [eqP]
theorem reSame (b1 b2 : Bool) (s t : List PPl) (hs : s.length ≤ 2 ^ 36) (ht : t.length ≤ 2 ^ 36) (R : Bool) (hR : (R = true ↔ s = t)) : DCall Try.prog 25 [lyD b1 s, lyD b2 t] [] (bD R) [] := by
 by_cases hl : s.length = t.length
 ·have e : ((s.length : Int) != t.length) = false := by rw [hl]; simp
  refine DCall.of Try.func25 sf25 hb25 (Nat.le_of_ble_eq_true rfl) (okRes_nil fun _ => rfl) ?_; simp only [s25, idxs, Nat.reduceAdd]
  repeat' (first|(with_reducible first|apply qA|apply qB|apply qC|apply qD|apply qE|apply qF)|(refine qL rfl (WF.of ?_) ?_; first|rfl|skip)|(simp (disch:=omega) only [go_sem, simprocAttr, qN, qO, qP, qQ, e])|exact qM rfl rfl rfl|(refine qG rfl ?_)|(refine qH rfl ?_)|(refine qI rfl ?_ ?_<;>intro hc<;>(try simp only [go_sem] at hc))|(refine qJ ?_ ?_<;>intro hc<;>(try simp only [hc])<;>(try simp only [go_sem] at hc)))
  refine DW.loop (ι := { i : Nat // i ≤ s.length ∧ ∀ j, j < i → s[j]? = t[j]? }) (fun i => ⟨26, [(5, dI i.1), (1, lyD b2 t), (0, lyD b1 s)], []⟩) (fun i => s.length - i.1) ⟨0, Nat.zero_le _, fun j h => by omega⟩ ?_ ?_
  ·refine Ent.to ?_ ?_ <;> simp (disch:=omega) only [qR,qS,qTw,qU,get,Nat.reduceEqDiff,↓reduceIte,qV,qW,qX,qY,qZ,and_self,dI,i64_in,and_true,true_and,rA,rB,rC,rD]
   all_goals first | exact ⟨.refl _, .refl _⟩ | exact .refl _
  rintro ⟨i, hi, hij⟩
  dsimp only
  rcases at_or s i hi with ⟨v, hv, hlt, hd⟩ | ⟨he, hd⟩
  ·obtain ⟨u, hu⟩ := getE (l := t) (i := i) (by omega)
   by_cases hvu : v = u
   ·have d1 : ((v.x == u.x) && ((v.y == u.y) && (v.t == u.t))) = true := eqP_iff.2 hvu
    repeat' (first|(with_reducible first|apply qA|apply qB|apply qC|apply qD|apply qE|apply qF)|(refine qL rfl (WF.of ?_) ?_; first|rfl|skip)|(simp (disch:=omega) only [go_sem, simprocAttr, qN, qO, qP, qQ, hd, hv, hu, d1, rF, rG])|exact qM rfl rfl rfl|(refine qG rfl ?_)|(refine qH rfl ?_)|(refine qI rfl ?_ ?_<;>intro hc<;>(try simp only [go_sem] at hc))|(refine qJ ?_ ?_<;>intro hc<;>(try simp only [hc])<;>(try simp only [go_sem] at hc)))
    refine ⟨⟨i + 1, by omega, upto_succ hij (by rw [hv, hu, hvu])⟩, ?_, Ent.to ?_ ?_⟩ <;> first | (show _ < _; (try simp only); omega) | (simp (disch:=omega) only [qR,qS,qTw,qU,get,Nat.reduceEqDiff,↓reduceIte,qV,qW,qX,qY,qZ,and_self,dI,i64_in,and_true,true_and,rA,rB,rC,rD])
    all_goals first | exact ⟨.refl _, .refl _⟩ | exact .refl _
   ·have d1 : ((v.x == u.x) && ((v.y == u.y) && (v.t == u.t))) = false := by
     have : ¬ eqP v u = true := fun h => hvu (eqP_iff.1 h)
     simpa [eqP] using this
    have hne : R = false := by
     cases R with
     | false => rfl
     | true =>
      have := hR.1 rfl
      subst this
      rw [hv] at hu; cases hu; exact absurd rfl hvu
    subst hne
    repeat' (first|(with_reducible first|apply qA|apply qB|apply qC|apply qD|apply qE|apply qF)|(refine qL rfl (WF.of ?_) ?_; first|rfl|skip)|(simp (disch:=omega) only [go_sem, simprocAttr, qN, qO, qP, qQ, hd, hv, hu, d1, rF, rG])|exact qM rfl rfl rfl|(refine qG rfl ?_)|(refine qH rfl ?_)|(refine qI rfl ?_ ?_<;>intro hc<;>(try simp only [go_sem] at hc))|(refine qJ ?_ ?_<;>intro hc<;>(try simp only [hc])<;>(try simp only [go_sem] at hc)))
  ·have hst : R = true := hR.2 (list_same hl he hij)
   subst hst
   repeat' (first|(with_reducible first|apply qA|apply qB|apply qC|apply qD|apply qE|apply qF)|(refine qL rfl (WF.of ?_) ?_; first|rfl|skip)|(simp (disch:=omega) only [go_sem, simprocAttr, qN, qO, qP, qQ, hd])|exact qM rfl rfl rfl|(refine qG rfl ?_)|(refine qH rfl ?_)|(refine qI rfl ?_ ?_<;>intro hc<;>(try simp only [go_sem] at hc))|(refine qJ ?_ ?_<;>intro hc<;>(try simp only [hc])<;>(try simp only [go_sem] at hc)))
 ·have e : ((s.length : Int) != t.length) = true := by rw [bne_iff_ne]; omega
  have hne : R = false := by
   cases R with
   | false => rfl
   | true =>
    have := hR.1 rfl
    subst this
    exact absurd rfl hl
  subst hne
  refine DCall.of Try.func25 sf25 hb25 (Nat.le_of_ble_eq_true rfl) (okRes_nil fun _ => rfl) ?_; simp only [s25, idxs, Nat.reduceAdd]
  repeat' (first|(with_reducible first|apply qA|apply qB|apply qC|apply qD|apply qE|apply qF)|(refine qL rfl (WF.of ?_) ?_; first|rfl|skip)|(simp (disch:=omega) only [go_sem, simprocAttr, qN, qO, qP, qQ, e])|exact qM rfl rfl rfl|(refine qG rfl ?_)|(refine qH rfl ?_)|(refine qI rfl ?_ ?_<;>intro hc<;>(try simp only [go_sem] at hc))|(refine qJ ?_ ?_<;>intro hc<;>(try simp only [hc])<;>(try simp only [go_sem] at hc)))
theorem laSpan (a b : Int) : DCall Try.prog 54 [dI a, dI b] [] (.agg [dI a, dI b]) [] := by
 refine DCall.of Try.func54 sf54 hb54 (Nat.le_of_ble_eq_true rfl) (okRes_nil fun _ => rfl) ?_; simp only [s54, idxs, Nat.reduceAdd]
 repeat' (first|(with_reducible first|apply qA|apply qB|apply qC|apply qD|apply qE|apply qF)|(simp (disch:=omega) only [go_sem, simprocAttr, qN, qO, qP, qQ])|exact qM rfl rfl rfl|(refine qG rfl ?_)|(refine qH rfl ?_)|(refine qI rfl ?_ ?_<;>intro hc<;>(try simp only [go_sem] at hc))|(refine qJ ?_ ?_<;>intro hc<;>(try simp only [hc])<;>(try simp only [go_sem] at hc)))
def exBs (o : Int) : PBs := ⟨120, 80, 15, o, 180, 500000⟩
def exBx : PBx := ⟨40, 30, 25, 5000, 6000, 900, 1000⟩
def exLy : PLy := ⟨600, 100, 500, 3000000, 3000000⟩
theorem laBase (o : Int) : DCall Try.prog 58 [dI o] [] (bsD (exBs o)) [] := by
 refine DCall.of Try.func58 sf58 hb58 (Nat.le_of_ble_eq_true rfl) (okRes_nil fun _ => rfl) ?_; simp only [s58, idxs, Nat.reduceAdd]
 repeat' (first|(with_reducible first|apply qA|apply qB|apply qC|apply qD|apply qE|apply qF)|(simp (disch:=omega) only [go_sem, simprocAttr, qN, qO, qP, qQ, exBs])|exact qM rfl rfl rfl|(refine qG rfl ?_)|(refine qH rfl ?_)|(refine qI rfl ?_ ?_<;>intro hc<;>(try simp only [go_sem] at hc))|(refine qJ ?_ ?_<;>intro hc<;>(try simp only [hc])<;>(try simp only [go_sem] at hc)))
theorem laBox : DCall Try.prog 59 [] [] (bxD exBx) [] := by
 have h1 := laSpan 5000 6000
 have h2 := laSpan 900 1000
 refine DCall.of Try.func59 sf59 hb59 (Nat.le_of_ble_eq_true rfl) (okRes_nil fun _ => rfl) ?_; simp only [s59, idxs, Nat.reduceAdd]
 repeat' (first|(with_reducible first|apply qA|apply qB|apply qC|apply qD|apply qE|apply qF)|(simp (disch:=omega) only [go_sem, simprocAttr, qN, qO, qP, qQ, exBx])|exact qM rfl rfl rfl|(refine qG rfl ?_)|(refine qK (h1) (by decide) ?_)|(refine qK (h2) (by decide) ?_)|(refine qH rfl ?_)|(refine qI rfl ?_ ?_<;>intro hc<;>(try simp only [go_sem] at hc))|(refine qJ ?_ ?_<;>intro hc<;>(try simp only [hc])<;>(try simp only [go_sem] at hc)))
theorem laAt (x y : Int) : DCall Try.prog 57 [dI x, dI y] [] (plD ⟨x, y, false⟩) [] := by
 refine DCall.of Try.func57 sf57 hb57 (Nat.le_of_ble_eq_true rfl) (okRes_nil fun _ => rfl) ?_; simp only [s57, idxs, Nat.reduceAdd]
 repeat' (first|(with_reducible first|apply qA|apply qB|apply qC|apply qD|apply qE|apply qF)|(simp (disch:=omega) only [go_sem, simprocAttr, qN, qO, qP, qQ, rF, rG])|exact qM rfl rfl rfl|(refine qG rfl ?_)|(refine qH rfl ?_)|(refine qI rfl ?_ ?_<;>intro hc<;>(try simp only [go_sem] at hc))|(refine qJ ?_ ?_<;>intro hc<;>(try simp only [hc])<;>(try simp only [go_sem] at hc)))
 skip
theorem laLorry : DCall Try.prog 61 [] [] (lyrD exLy) [] := by
 refine DCall.of Try.func61 sf61 hb61 (Nat.le_of_ble_eq_true rfl) (okRes_nil fun _ => rfl) ?_; simp only [s61, idxs, Nat.reduceAdd]
 repeat' (first|(with_reducible first|apply qA|apply qB|apply qC|apply qD|apply qE|apply qF)|(simp (disch:=omega) only [go_sem, simprocAttr, qN, qO, qP, qQ, exLy])|exact qM rfl rfl rfl|(refine qG rfl ?_)|(refine qH rfl ?_)|(refine qI rfl ?_ ?_<;>intro hc<;>(try simp only [go_sem] at hc))|(refine qJ ?_ ?_<;>intro hc<;>(try simp only [hc])<;>(try simp only [go_sem] at hc)))
theorem laOwn (b : Bool) (l : List PPl) (hl : l.length ≤ 2 ^ 36) : DCall Try.prog 23 [lyD b l] [] (lyD false l) [] := by
 refine DCall.of Try.func23 sf23 hb23 (Nat.le_of_ble_eq_true rfl) (okRes_nil fun _ => rfl) ?_; simp only [s23, idxs, Nat.reduceAdd]
 repeat' (first|(with_reducible first|apply qA|apply qB|apply qC|apply qD|apply qE|apply qF)|(simp (disch:=omega) only [go_sem, simprocAttr, qN, qO, qP, qQ])|exact qM rfl rfl rfl|(refine qG rfl ?_)|(refine qH rfl ?_)|(refine qI rfl ?_ ?_<;>intro hc<;>(try simp only [go_sem] at hc))|(refine qJ ?_ ?_<;>intro hc<;>(try simp only [hc])<;>(try simp only [go_sem] at hc)))
 (refine retS_ent (Ent.rel 3 rfl) ?_; simp (disch:=omega) only [go_sem,simprocAttr,qN,qO,qP,qQ])
 refine retS_wk rfl ?_ (by simp only [Blk.nb, rowC_nb, D.nb, D.nbs, C.nb, C.nbs, C.nbss, rows_nb eI_nb, Bool.and_true, Bool.not_false, Bool.and_self, bD, dI, iD, rows_nb eP_nb, rows_nb eIt_nb, rows_nb eR_nb]); exact .refl _
theorem laOurs (b : Bool) (l : List PIt) (hl : l.length ≤ 2 ^ 36) : DCall Try.prog 28 [itsD b l] [] (itsD false l) [] := by
 refine DCall.of Try.func28 sf28 hb28 (Nat.le_of_ble_eq_true rfl) (okRes_nil fun _ => rfl) ?_; simp only [s28, idxs, Nat.reduceAdd]
 repeat' (first|(with_reducible first|apply qA|apply qB|apply qC|apply qD|apply qE|apply qF)|(simp (disch:=omega) only [go_sem, simprocAttr, qN, qO, qP, qQ])|exact qM rfl rfl rfl|(refine qG rfl ?_)|(refine qH rfl ?_)|(refine qI rfl ?_ ?_<;>intro hc<;>(try simp only [go_sem] at hc))|(refine qJ ?_ ?_<;>intro hc<;>(try simp only [hc])<;>(try simp only [go_sem] at hc)))
 (refine retS_ent (Ent.rel 3 rfl) ?_; simp (disch:=omega) only [go_sem,simprocAttr,qN,qO,qP,qQ])
 refine retS_wk rfl ?_ (by simp only [Blk.nb, rowC_nb, D.nb, D.nbs, C.nb, C.nbs, C.nbss, rows_nb eI_nb, Bool.and_true, Bool.not_false, Bool.and_self, bD, dI, iD, rows_nb eP_nb, rows_nb eIt_nb, rows_nb eR_nb]); exact .refl _
end Go.Dw.Seat
end
section
set_option linter.unusedSimpArgs false
set_option maxRecDepth 100000
namespace Go.Dw.Seat
open Go Go.Dw Go.Proofs Go.IntWalk
def eB (v : Bool) : List C := [.v (.bool v)]
theorem eB_nb (v : Bool) : C.nbs (eB v) = true := rfl
attribute [go_sem] eB
abbrev bLg (b : PBx) : Nat := b.lg.toNat
abbrev bWd (b : PBx) : Nat := b.wd.toNat
def rdL (a c n i : Nat) : List Bool := (List.range (n + 1)).map fun j => if j < i then sumB a c j else decide (j = 0)
theorem rdL_len (a c n i : Nat) : (rdL a c n i).length = n + 1 := by simp [rdL]
theorem rdL_get {a c n i j : Nat} (h : j ≤ n) : (rdL a c n i)[j]? = some (if j < i then sumB a c j else decide (j = 0)) := by
 rw [rdL, List.getElem?_map, List.getElem?_range (by omega), Option.map_some]
theorem rdL_set {a c n i : Nat} (h : i ≤ n) (v : Bool) (hv : v = sumB a c i) : (rdL a c n i).set i v = rdL a c n (i + 1) := by
 apply List.ext_getElem?
 intro j
 rw [List.getElem?_set, rdL_len]
 by_cases hj : j ≤ n
 ·rw [rdL_get hj, rdL_get hj]
  by_cases e : i = j
  ·subst e
   rw [if_pos rfl, if_pos (by omega), if_pos (by omega), hv]
  ·rw [if_neg e]
   congr 1
   by_cases h1 : j < i
   ·rw [if_pos h1, if_pos (by omega)]
   ·rw [if_neg h1, if_neg (by omega)]
 ·rw [List.getElem?_eq_none (by rw [rdL_len]; omega), List.getElem?_eq_none (by rw [rdL_len]; omega)]
  rw [if_neg (by omega)]
theorem set_eB (l : List Bool) (i : Nat) (v : Bool) : (rowC (rows eB l)).set i [D.c (.v (.bool v))] = rowC (rows eB (l.set i v)) := by
 rw [rows, rows, List.map_set, rowC, rowC, List.map_set]; rfl
theorem replB (n : Nat) : List.replicate n [C.v (.bool false)] = rows eB (List.replicate n false) := by simp [rows, eB]
set_option maxHeartbeats 4000000 in
theorem plReached (b : PBx) (hb : b.ok) (n : Nat) (hn : n ≤ 1000) : DCall Try.prog 96 [bxD b, dI n] [] (.c (.sl false 1 (rows eB ((List.range (n + 1)).map (sumB (bLg b) (bWd b)))))) [] := by
 have hbl := hb.lg
 have hbw := hb.wd
 have ea : b.lg = ((bLg b : Nat) : Int) := (Int.toNat_of_nonneg (by omega)).symm
 have ec : b.wd = ((bWd b : Nat) : Int) := (Int.toNat_of_nonneg (by omega)).symm
 have ha : 0 < bLg b := by omega
 have h0 : (List.replicate (n + 1) false).set 0 true = rdL (bLg b) (bWd b) n 0 := by
  apply List.ext_getElem?
  intro j
  by_cases hj : j ≤ n
  ·rw [rdL_get hj, List.getElem?_set]
   simp only [List.length_replicate, Nat.not_lt_zero, if_false]
   by_cases e : 0 = j
   ·subst e; simp
   ·rw [if_neg e, List.getElem?_replicate, if_pos (by omega), decide_eq_false (by omega)]
  ·rw [List.getElem?_eq_none (by simp; omega), List.getElem?_eq_none (by rw [rdL_len]; omega)]
 obtain ⟨N, hN⟩ : ∃ N, N = n + 1 := ⟨_, rfl⟩
 have hrl : (rdL (bLg b) (bWd b) n N) = (List.range (n + 1)).map (sumB (bLg b) (bWd b)) := by
  rw [rdL]
  apply List.map_congr_left
  intro j hj
  rw [if_pos (by rw [hN]; exact List.mem_range.1 hj)]
 rw [← hrl]
 rw [← hN] at h0
 have hll := fun i => rdL_len (bLg b) (bWd b) n i
 rw [← hN] at hll
 have hn1 : ((n : Int) + 1).toNat = N := by omega
 have hlr : (List.replicate N false).length = N := by simp
 have hpos : (0 < N) = True := eq_true (by omega)
 have hset := fun (i : Nat) (hi : i ≤ n) v hv => rdL_set (a := bLg b) (c := bWd b) hi v hv
 have hget := fun (i j : Nat) (hj : j ≤ n) => rdL_get (a := bLg b) (c := bWd b) (i := i) hj
 have hrec := fun (i : Nat) (hi : 0 < i) => sumB_rec (a := bLg b) (c := bWd b) ha hi
 have hs0 := sumB_zero (bLg b) (bWd b)
 generalize bLg b = a at *
 generalize bWd b = c at *
 have hr0 : (List.replicate N false)[0]? = some false := by rw [List.getElem?_replicate, if_pos (by omega)]
 refine DCall.of Try.func96 sf96 hb96 (Nat.le_of_ble_eq_true rfl) (okRes_nil fun _ => rfl) ?_; simp only [s96, idxs, Nat.reduceAdd]
 repeat' (first|(with_reducible first|apply qA|apply qB|apply qC|apply qD|apply qE|apply qF)|(simp (disch:=omega) only [go_sem, simprocAttr, qN, qO, qP, qQ, hn1, hr0, replB, set_eB, h0, hlr, hpos])|exact qM rfl rfl rfl|(refine qG rfl ?_)|(refine qH rfl ?_)|(refine qI rfl ?_ ?_<;>intro hc<;>(try simp only [go_sem] at hc))|(refine qJ ?_ ?_<;>intro hc<;>(try simp only [hc])<;>(try simp only [go_sem] at hc)))
 refine DW.loop (ι := { i : Nat // i ≤ N }) (fun i => ⟨50, [(16, dI i.1), (15, dI N), (5, .own 11), (2, .box 2 0)], [(11, .row 1 (rowC (rows eB (rdL a c n i.1)))), (2, .box [dI b.lg, dI b.wd, dI b.hi, dI b.wl, dI b.wh, dI b.sl, dI b.sh])]⟩) (fun i => N - i.1) ⟨0, Nat.zero_le _⟩ ?_ ?_
 ·refine Ent.to ?_ ?_ <;> simp (disch:=omega) only [qR,qS,qTw,qU,get,Nat.reduceEqDiff,↓reduceIte,qV,qW,qX,qY,qZ,and_self,dI,i64_in,and_true,true_and,rA,rB,rC,rD,h0,hll]
  all_goals first | exact ⟨.refl _, .refl _, .refl _⟩ | exact ⟨.refl _, .refl _⟩ | exact .refl _
 rintro ⟨i, hi⟩
 dsimp only
 by_cases hlt : i < N
 ·have hd : decide ((i : Int) < (N : Int)) = true := decide_eq_true (by omega)
  have hiN : (i < N) = True := eq_true hlt
  have hli := hll i
  have hgi := hget i i (by omega)
  rw [if_neg (by omega)] at hgi
  have hga : a ≤ i → (rdL a c n i)[i - a]? = some (sumB a c (i - a)) := fun h => by rw [hget i _ (by omega), if_pos (by omega)]
  have hgc : c ≤ i → (rdL a c n i)[i - c]? = some (sumB a c (i - c)) := fun h => by rw [hget i _ (by omega), if_pos (by omega)]
  have hsi := hset i (by omega)
  obtain ⟨L, hL⟩ : ∃ L, L = rdL a c n i := ⟨_, rfl⟩
  rw [← hL] at hli hgi hga hgc hsi
  have hLL : ∀ v, (L.set i v).length = N := fun v => by rw [List.length_set]; exact hli
  have hLi : ∀ v, (L.set i v)[i]? = some v := fun v => List.getElem?_set_self (by omega)
  have hLa : ∀ v, a ≤ i → (L.set i v)[i - a]? = some (sumB a c (i - a)) := fun v h => by rw [List.getElem?_set_ne (by omega)]; exact hga h
  have hLc : ∀ v, c ≤ i → (L.set i v)[i - c]? = some (sumB a c (i - c)) := fun v h => by rw [List.getElem?_set_ne (by omega)]; exact hgc h
  rw [← hL]
  repeat' (first|(with_reducible first|apply qA|apply qB|apply qC|apply qD|apply qE|apply qF)|(simp (disch:=omega) only [go_sem, simprocAttr, qN, qO, qP, qQ, hd, ea, ec])|exact qM rfl rfl rfl|(refine qG rfl ?_)|(refine qH rfl ?_)|(refine qI rfl ?_ ?_<;>intro hc<;>(try simp only [go_sem] at hc))|(refine qJ ?_ ?_<;>intro hc<;>(try simp only [hc])<;>(try simp only [go_sem] at hc)))
  obtain ⟨v, hv0, hv1, hv2⟩ : ∃ v : Nat → Bool, v 0 = decide (i = 0) ∧ v 1 = (v 0 || (decide (a ≤ i) && sumB a c (i - a))) ∧ v 2 = (v 1 || (decide (c ≤ i) && sumB a c (i - c))) :=
   ⟨fun k => if k = 0 then decide (i = 0) else if k = 1 then (decide (i = 0) || (decide (a ≤ i) && sumB a c (i - a))) else ((decide (i = 0) || (decide (a ≤ i) && sumB a c (i - a))) || (decide (c ≤ i) && sumB a c (i - c))), rfl, rfl, rfl⟩
  have hvE : v 2 = sumB a c i := by
   rw [hv2, hv1, hv0]
   by_cases h : i = 0
   ·rw [h, hs0]; simp
   ·rw [decide_eq_false h, Bool.false_or, hrec i (by omega)]
  have hvL : L.set i (v 0) = L := by
   rw [hv0]
   apply List.ext_getElem?
   intro j
   rw [List.getElem?_set]
   by_cases e : i = j
   ·subst e; rw [if_pos rfl, if_pos (by omega), hgi]
   ·rw [if_neg e]
  refine DW.loop (ι := { k : Nat // k ≤ 2 }) (fun k => ⟨50, [(24, dI k.1), (23, .agg [dI a, dI c]), (16, dI i), (15, dI N), (6, dI i), (5, .own 11), (2, .box 2 0)], [(11, .row 1 (rowC (rows eB (L.set i (v k.1))))), (2, .box [dI a, dI c, dI b.hi, dI b.wl, dI b.wh, dI b.sl, dI b.sh])]⟩) (fun k => 2 - k.1) ⟨0, by decide⟩ ?_ ?_
  ·refine Ent.to ?_ ?_ <;> simp (disch:=omega) only [qR,qS,qTw,qU,get,Nat.reduceEqDiff,↓reduceIte,qV,qW,qX,qY,qZ,and_self,dI,i64_in,and_true,true_and,rA,rB,rC,rD,hvL]
   all_goals first | exact ⟨.refl _, .refl _, .refl _⟩ | exact ⟨.refl _, .refl _⟩ | exact .refl _
  rintro ⟨k, hk⟩
  dsimp only
  match k, hk with
  | 0, _ =>
   have hLv := hLi (v 0)
   have hLl := hLL (v 0)
   cases h0 : v 0 with
   | true =>
    rw [h0] at hv1 hLv hLl
    rw [Bool.true_or] at hv1
    repeat' (first|(with_reducible first|apply qA|apply qB|apply qC|apply qD|apply qE|apply qF)|(simp (disch:=omega) only [go_sem, simprocAttr, qN, qO, qP, qQ, hiN, hLl, hLv, set_eB, List.set_set, rF, rG])|exact qM rfl rfl rfl|(refine qG rfl ?_)|(refine qH rfl ?_)|(refine qI rfl ?_ ?_<;>intro hc<;>(try simp only [go_sem] at hc))|(refine qJ ?_ ?_<;>intro hc<;>(try simp only [hc])<;>(try simp only [go_sem] at hc)))
    refine ⟨⟨1, by decide⟩, ?_, Ent.to ?_ ?_⟩ <;> first | (show _ < _; (try simp only); omega) | (simp (disch:=omega) only [qR,qS,qTw,qU,get,Nat.reduceEqDiff,↓reduceIte,qV,qW,qX,qY,qZ,and_self,dI,i64_in,and_true,true_and,rA,rB,rC,rD, hv1])
    all_goals first | exact ⟨.refl _, .refl _, .refl _⟩ | exact ⟨.refl _, .refl _⟩ | exact .refl _
   | false =>
    have hLa' := hLa (v 0)
    rw [h0] at hv1 hLv hLl hLa'
    rw [Bool.false_or] at hv1
    by_cases hai : a ≤ i
    ·have da : decide ((a : Int) ≤ (i : Int)) = true := decide_eq_true (by omega)
     have wa : IntKind.i64.wrap ((i : Int) - (a : Int)) = ((i - a : Nat) : Int) := by rw [IntWalk.i64_in _ (by omega)]; omega
     have hia : (i - a < N) = True := eq_true (by omega)
     have hLg := hLa' hai
     rw [decide_eq_true hai, Bool.true_and] at hv1
     repeat' (first|(with_reducible first|apply qA|apply qB|apply qC|apply qD|apply qE|apply qF)|(simp (disch:=omega) only [go_sem, simprocAttr, qN, qO, qP, qQ, hiN, hia, hLl, hLv, hLg, da, wa, set_eB, List.set_set, rF, rG])|exact qM rfl rfl rfl|(refine qG rfl ?_)|(refine qH rfl ?_)|(refine qI rfl ?_ ?_<;>intro hc<;>(try simp only [go_sem] at hc))|(refine qJ ?_ ?_<;>intro hc<;>(try simp only [hc])<;>(try simp only [go_sem] at hc)))
     refine ⟨⟨1, by decide⟩, ?_, Ent.to ?_ ?_⟩ <;> first | (show _ < _; (try simp only); omega) | (simp (disch:=omega) only [qR,qS,qTw,qU,get,Nat.reduceEqDiff,↓reduceIte,qV,qW,qX,qY,qZ,and_self,dI,i64_in,and_true,true_and,rA,rB,rC,rD, hv1])
     all_goals first | exact ⟨.refl _, .refl _, .refl _⟩ | exact ⟨.refl _, .refl _⟩ | exact .refl _
    ·have da : decide ((a : Int) ≤ (i : Int)) = false := decide_eq_false (by omega)
     rw [decide_eq_false hai, Bool.false_and] at hv1
     repeat' (first|(with_reducible first|apply qA|apply qB|apply qC|apply qD|apply qE|apply qF)|(simp (disch:=omega) only [go_sem, simprocAttr, qN, qO, qP, qQ, hiN, hLl, hLv, da, set_eB, List.set_set, rF, rG])|exact qM rfl rfl rfl|(refine qG rfl ?_)|(refine qH rfl ?_)|(refine qI rfl ?_ ?_<;>intro hc<;>(try simp only [go_sem] at hc))|(refine qJ ?_ ?_<;>intro hc<;>(try simp only [hc])<;>(try simp only [go_sem] at hc)))
     refine ⟨⟨1, by decide⟩, ?_, Ent.to ?_ ?_⟩ <;> first | (show _ < _; (try simp only); omega) | (simp (disch:=omega) only [qR,qS,qTw,qU,get,Nat.reduceEqDiff,↓reduceIte,qV,qW,qX,qY,qZ,and_self,dI,i64_in,and_true,true_and,rA,rB,rC,rD, hv1])
     all_goals first | exact ⟨.refl _, .refl _, .refl _⟩ | exact ⟨.refl _, .refl _⟩ | exact .refl _
  | 1, _ =>
   have hLv := hLi (v 1)
   have hLl := hLL (v 1)
   cases h0 : v 1 with
   | true =>
    rw [h0] at hv2 hLv hLl
    rw [Bool.true_or] at hv2
    repeat' (first|(with_reducible first|apply qA|apply qB|apply qC|apply qD|apply qE|apply qF)|(simp (disch:=omega) only [go_sem, simprocAttr, qN, qO, qP, qQ, hiN, hLl, hLv, set_eB, List.set_set, rF, rG])|exact qM rfl rfl rfl|(refine qG rfl ?_)|(refine qH rfl ?_)|(refine qI rfl ?_ ?_<;>intro hc<;>(try simp only [go_sem] at hc))|(refine qJ ?_ ?_<;>intro hc<;>(try simp only [hc])<;>(try simp only [go_sem] at hc)))
    refine ⟨⟨2, by decide⟩, ?_, Ent.to ?_ ?_⟩ <;> first | (show _ < _; (try simp only); omega) | (simp (disch:=omega) only [qR,qS,qTw,qU,get,Nat.reduceEqDiff,↓reduceIte,qV,qW,qX,qY,qZ,and_self,dI,i64_in,and_true,true_and,rA,rB,rC,rD, hv2])
    all_goals first | exact ⟨.refl _, .refl _, .refl _⟩ | exact ⟨.refl _, .refl _⟩ | exact .refl _
   | false =>
    have hLa' := hLc (v 1)
    rw [h0] at hv2 hLv hLl hLa'
    rw [Bool.false_or] at hv2
    by_cases hai : c ≤ i
    ·have da : decide ((c : Int) ≤ (i : Int)) = true := decide_eq_true (by omega)
     have wa : IntKind.i64.wrap ((i : Int) - (c : Int)) = ((i - c : Nat) : Int) := by rw [IntWalk.i64_in _ (by omega)]; omega
     have hia : (i - c < N) = True := eq_true (by omega)
     have hLg := hLa' hai
     rw [decide_eq_true hai, Bool.true_and] at hv2
     repeat' (first|(with_reducible first|apply qA|apply qB|apply qC|apply qD|apply qE|apply qF)|(simp (disch:=omega) only [go_sem, simprocAttr, qN, qO, qP, qQ, hiN, hia, hLl, hLv, hLg, da, wa, set_eB, List.set_set, rF, rG])|exact qM rfl rfl rfl|(refine qG rfl ?_)|(refine qH rfl ?_)|(refine qI rfl ?_ ?_<;>intro hc<;>(try simp only [go_sem] at hc))|(refine qJ ?_ ?_<;>intro hc<;>(try simp only [hc])<;>(try simp only [go_sem] at hc)))
     refine ⟨⟨2, by decide⟩, ?_, Ent.to ?_ ?_⟩ <;> first | (show _ < _; (try simp only); omega) | (simp (disch:=omega) only [qR,qS,qTw,qU,get,Nat.reduceEqDiff,↓reduceIte,qV,qW,qX,qY,qZ,and_self,dI,i64_in,and_true,true_and,rA,rB,rC,rD, hv2])
     all_goals first | exact ⟨.refl _, .refl _, .refl _⟩ | exact ⟨.refl _, .refl _⟩ | exact .refl _
    ·have da : decide ((c : Int) ≤ (i : Int)) = false := decide_eq_false (by omega)
     rw [decide_eq_false hai, Bool.false_and] at hv2
     repeat' (first|(with_reducible first|apply qA|apply qB|apply qC|apply qD|apply qE|apply qF)|(simp (disch:=omega) only [go_sem, simprocAttr, qN, qO, qP, qQ, hiN, hLl, hLv, da, set_eB, List.set_set, rF, rG])|exact qM rfl rfl rfl|(refine qG rfl ?_)|(refine qH rfl ?_)|(refine qI rfl ?_ ?_<;>intro hc<;>(try simp only [go_sem] at hc))|(refine qJ ?_ ?_<;>intro hc<;>(try simp only [hc])<;>(try simp only [go_sem] at hc)))
     refine ⟨⟨2, by decide⟩, ?_, Ent.to ?_ ?_⟩ <;> first | (show _ < _; (try simp only); omega) | (simp (disch:=omega) only [qR,qS,qTw,qU,get,Nat.reduceEqDiff,↓reduceIte,qV,qW,qX,qY,qZ,and_self,dI,i64_in,and_true,true_and,rA,rB,rC,rD, hv2])
     all_goals first | exact ⟨.refl _, .refl _, .refl _⟩ | exact ⟨.refl _, .refl _⟩ | exact .refl _
  | 2, _ =>
   have hfin := hsi (v 2) hvE
   repeat' (first|(with_reducible first|apply qA|apply qB|apply qC|apply qD|apply qE|apply qF)|(simp (disch:=omega) only [go_sem, simprocAttr, qN, qO, qP, qQ])|exact qM rfl rfl rfl|(refine qG rfl ?_)|(refine qH rfl ?_)|(refine qI rfl ?_ ?_<;>intro hc<;>(try simp only [go_sem] at hc))|(refine qJ ?_ ?_<;>intro hc<;>(try simp only [hc])<;>(try simp only [go_sem] at hc)))
   refine ⟨⟨i + 1, hlt⟩, ?_, Ent.to ?_ ?_⟩ <;> first | (show _ < _; (try simp only); omega) | (simp (disch:=omega) only [qR,qS,qTw,qU,get,Nat.reduceEqDiff,↓reduceIte,qV,qW,qX,qY,qZ,and_self,dI,i64_in,and_true,true_and,rA,rB,rC,rD, hfin,ea,ec])
   all_goals first | exact ⟨.refl _, .refl _, .refl _⟩ | exact ⟨.refl _, .refl _⟩ | exact .refl _
 ·obtain rfl : i = N := by omega
  have hd : decide ((i : Int) < (i : Int)) = false := decide_eq_false (by omega)
  repeat' (first|(with_reducible first|apply qA|apply qB|apply qC|apply qD|apply qE|apply qF)|(simp (disch:=omega) only [go_sem, simprocAttr, qN, qO, qP, qQ, hd])|exact qM rfl rfl rfl|(refine qG rfl ?_)|(refine qH rfl ?_)|(refine qI rfl ?_ ?_<;>intro hc<;>(try simp only [go_sem] at hc))|(refine qJ ?_ ?_<;>intro hc<;>(try simp only [hc])<;>(try simp only [go_sem] at hc)))
  (refine retS_ent (Ent.rel 11 rfl) ?_; simp (disch:=omega) only [go_sem,simprocAttr,qN,qO,qP,qQ])
  refine retS_wk rfl ?_ (by simp only [Blk.nb, rowC_nb, D.nb, D.nbs, C.nb, C.nbs, C.nbss, rows_nb eI_nb, Bool.and_true, Bool.not_false, Bool.and_self, bD, dI, iD, rows_nb eB_nb]); exact .refl _
def rcL (a c n : Nat) : List Int := (List.range (n + 1)).map fun j => ((rchF a c j : Nat) : Int)
theorem rcL_len (a c n : Nat) : (rcL a c n).length = n + 1 := by simp [rcL]
theorem rcL_get {a c n j : Nat} (h : j ≤ n) : (rcL a c n)[j]? = some ((rchF a c j : Nat) : Int) := by
 rw [rcL, List.getElem?_map, List.getElem?_range (by omega), Option.map_some]
def rcP (a c n i : Nat) : List Int := (List.range (n + 1)).map fun j => if j < i then ((rchF a c j : Nat) : Int) else 0
theorem rcP_len (a c n i : Nat) : (rcP a c n i).length = n + 1 := by simp [rcP]
theorem rcP_set {a c n i : Nat} (h : i ≤ n) : (rcP a c n i).set i ((rchF a c i : Nat) : Int) = rcP a c n (i + 1) := by
 apply List.ext_getElem?
 intro j
 rw [List.getElem?_set, rcP_len]
 by_cases hj : j ≤ n
 ·rw [rcP, rcP, List.getElem?_map, List.getElem?_map, List.getElem?_range (by omega), Option.map_some, Option.map_some]
  by_cases e : i = j
  ·subst e
   rw [if_pos rfl, if_pos (by omega), if_pos (by omega)]
  ·rw [if_neg e]
   congr 1
   by_cases h1 : j < i
   ·rw [if_pos h1, if_pos (by omega)]
   ·rw [if_neg h1, if_neg (by omega)]
 ·rw [if_neg (by omega), List.getElem?_eq_none (by rw [rcP_len]; omega), List.getElem?_eq_none (by rw [rcP_len]; omega)]
theorem set_eI (l : List Int) (i : Nat) (v : Int) : (rowC (rows eI l)).set i [D.c (.v (.int .i64 v))] = rowC (rows eI (l.set i v)) := by
 rw [rows, rows, List.map_set, rowC, rowC, List.map_set]; rfl
theorem replI (n : Nat) : List.replicate n [C.v (.int .i64 0)] = rows eI (List.replicate n 0) := by simp [rows, eI]
set_option maxHeartbeats 4000000 in
theorem plReach (b : PBx) (hb : b.ok) (n : Nat) (hn : n ≤ 1000) : DCall Try.prog 63 [bxD b, dI n] [] (.c (.sl false 1 (rows eI (rcL (bLg b) (bWd b) n)))) [] := by
 have h1 := plReached b hb n hn
 have ha : 0 < bLg b := by have := hb.lg; show 0 < b.lg.toNat; omega
 generalize bLg b = a at *
 generalize bWd b = c at *
 obtain ⟨N, hN⟩ : ∃ N, N = n + 1 := ⟨_, rfl⟩
 have h0 : List.replicate N (0 : Int) = rcP a c n 0 := by
  rw [rcP, hN]
  apply List.ext_getElem?
  intro j
  rw [List.getElem?_replicate, List.getElem?_map]
  by_cases hj : j < n + 1
  ·rw [if_pos hj, List.getElem?_range hj]; simp
  ·rw [if_neg hj, List.getElem?_eq_none (by simp; omega)]; rfl
 have hz : rcP a c n N = rcL a c n := by
  rw [rcP, rcL]
  apply List.map_congr_left
  intro j hj
  rw [if_pos (by rw [hN]; exact List.mem_range.1 hj)]
 have hll := fun i => rcP_len a c n i
 have hset := fun (i : Nat) (hi : i ≤ n) => rcP_set (a := a) (c := c) hi
 rw [← hN] at h1 hll
 obtain ⟨S, hS⟩ : ∃ S, S = (List.range N).map (sumB a c) := ⟨_, rfl⟩
 have hSl : S.length = N := by rw [hS]; simp
 have hSg : ∀ j, j < N → S[j]? = some (sumB a c j) := fun j hj => by rw [hS, List.getElem?_map, List.getElem?_range hj]; rfl
 rw [← hS] at h1
 have hn1 : ((n : Int) + 1).toNat = N := by omega
 refine DCall.of Try.func63 sf63 hb63 (Nat.le_of_ble_eq_true rfl) (okRes_nil fun _ => rfl) ?_; simp only [s63, idxs, Nat.reduceAdd]
 repeat' (first|(with_reducible first|apply qA|apply qB|apply qC|apply qD|apply qE|apply qF)|(simp (disch:=omega) only [go_sem, simprocAttr, qN, qO, qP, qQ, hn1, replI, h0, hSl])|exact qM rfl rfl rfl|(refine qG rfl ?_)|(refine qK (h1) (by decide) ?_)|(refine qH rfl ?_)|(refine qI rfl ?_ ?_<;>intro hc<;>(try simp only [go_sem] at hc))|(refine qJ ?_ ?_<;>intro hc<;>(try simp only [hc])<;>(try simp only [go_sem] at hc)))
 refine DW.loop (ι := { i : Nat // i ≤ N }) (fun i => ⟨29, [(16, dI i.1), (15, dI N), (14, .c (.sl false 1 (rows eB S))), (6, dI (((rchF a c (i.1 - 1)) : Nat) : Int)), (5, .own 11)], [(11, .row 1 (rowC (rows eI (rcP a c n i.1))))]⟩) (fun i => N - i.1) ⟨0, Nat.zero_le _⟩ ?_ ?_
 ·refine Ent.to ?_ ?_ <;> simp (disch:=omega) only [qR,qS,qTw,qU,get,Nat.reduceEqDiff,↓reduceIte,qV,qW,qX,qY,qZ,and_self,dI,i64_in,and_true,true_and,rA,rB,rC,rD,rchF,Nat.zero_sub]
  all_goals first | exact ⟨.refl _, .refl _, .refl _⟩ | exact ⟨.refl _, .refl _⟩ | exact .refl _
 rintro ⟨i, hi⟩
 dsimp only
 by_cases hlt : i < N
 ·have hd : decide ((i : Int) < (N : Int)) = true := decide_eq_true (by omega)
  have hiN : (i < N) = True := eq_true hlt
  have hg := hSg i hlt
  have hst := hset i (by omega)
  have hli := hll i
  obtain ⟨z, hzg⟩ : ∃ z, (rcP a c n i)[i]? = some z := ⟨_, List.getElem?_eq_getElem (by rw [hli]; exact hlt)⟩
  have hrE : (if sumB a c i = true then i else rchF a c (i - 1)) = rchF a c i := by
   cases i with
   | zero => rw [sumB_zero]; rfl
   | succ i => rw [rchF, Nat.add_sub_cancel]
  cases hs : sumB a c i with
  | true =>
   rw [hs] at hg
   rw [hs, if_pos rfl] at hrE
   rw [← hrE] at hst
   repeat' (first|(with_reducible first|apply qA|apply qB|apply qC|apply qD|apply qE|apply qF)|(simp (disch:=omega) only [go_sem, simprocAttr, qN, qO, qP, qQ, hd, hiN, hg, hzg, hli, set_eI, hst, rF, rG])|exact qM rfl rfl rfl|(refine qG rfl ?_)|(refine qH rfl ?_)|(refine qI rfl ?_ ?_<;>intro hc<;>(try simp only [go_sem] at hc))|(refine qJ ?_ ?_<;>intro hc<;>(try simp only [hc])<;>(try simp only [go_sem] at hc)))
   refine ⟨⟨i + 1, hlt⟩, ?_, Ent.to ?_ ?_⟩ <;> first | (show _ < _; (try simp only); omega) | (simp (disch:=omega) only [qR,qS,qTw,qU,get,Nat.reduceEqDiff,↓reduceIte,qV,qW,qX,qY,qZ,and_self,dI,i64_in,and_true,true_and,rA,rB,rC,rD, Nat.add_sub_cancel,hrE.symm])
   all_goals first | exact ⟨.refl _, .refl _, .refl _⟩ | exact ⟨.refl _, .refl _⟩ | exact .refl _
  | false =>
   rw [hs] at hg
   rw [hs, if_neg Bool.false_ne_true] at hrE
   rw [← hrE] at hst
   repeat' (first|(with_reducible first|apply qA|apply qB|apply qC|apply qD|apply qE|apply qF)|(simp (disch:=omega) only [go_sem, simprocAttr, qN, qO, qP, qQ, hd, hiN, hg, hzg, hli, set_eI, hst, rF, rG])|exact qM rfl rfl rfl|(refine qG rfl ?_)|(refine qH rfl ?_)|(refine qI rfl ?_ ?_<;>intro hc<;>(try simp only [go_sem] at hc))|(refine qJ ?_ ?_<;>intro hc<;>(try simp only [hc])<;>(try simp only [go_sem] at hc)))
   refine ⟨⟨i + 1, hlt⟩, ?_, Ent.to ?_ ?_⟩ <;> first | (show _ < _; (try simp only); omega) | (simp (disch:=omega) only [qR,qS,qTw,qU,get,Nat.reduceEqDiff,↓reduceIte,qV,qW,qX,qY,qZ,and_self,dI,i64_in,and_true,true_and,rA,rB,rC,rD, Nat.add_sub_cancel,hrE.symm])
   all_goals first | exact ⟨.refl _, .refl _, .refl _⟩ | exact ⟨.refl _, .refl _⟩ | exact .refl _
 ·obtain rfl : i = N := by omega
  have hd : decide ((i : Int) < (i : Int)) = false := decide_eq_false (by omega)
  rw [hz]
  repeat' (first|(with_reducible first|apply qA|apply qB|apply qC|apply qD|apply qE|apply qF)|(simp (disch:=omega) only [go_sem, simprocAttr, qN, qO, qP, qQ, hd])|exact qM rfl rfl rfl|(refine qG rfl ?_)|(refine qH rfl ?_)|(refine qI rfl ?_ ?_<;>intro hc<;>(try simp only [go_sem] at hc))|(refine qJ ?_ ?_<;>intro hc<;>(try simp only [hc])<;>(try simp only [go_sem] at hc)))
  (refine retS_ent (Ent.rel 11 rfl) ?_; simp (disch:=omega) only [go_sem,simprocAttr,qN,qO,qP,qQ])
  refine retS_wk rfl ?_ (by simp only [Blk.nb, rowC_nb, D.nb, D.nbs, C.nb, C.nbs, C.nbss, rows_nb eI_nb, Bool.and_true, Bool.not_false, Bool.and_self, bD, dI, iD, rows_nb eB_nb]); exact .refl _
end Go.Dw.Seat
end
section
set_option linter.unusedSimpArgs false
set_option maxRecDepth 100000
namespace Go.Dw.Seat
open Go Go.Dw Go.Proofs Go.IntWalk
theorem rm_in {p : PBs} (hp : p.ok) : (0 ≤ rmX p ∧ rmX p ≤ 140) ∧ 0 ≤ rmY p ∧ rmY p ≤ 140 := by
 have := hp.lg
 have := hp.wd
 have := hp.ov
 unfold rmX rmY
 omega
abbrev rxN (p : PBs) : Nat := (rmX p).toNat
abbrev ryN (p : PBs) : Nat := (rmY p).toNat
def bndX (p : PBs) (b : PBx) : Int := if chkE p b = 0 then ((bndF (bLg b) (bWd b) (rxN p) (ryN p) : Nat) : Int) else 0
set_option maxHeartbeats 4000000 in
theorem plBound (p : PBs) (b : PBx) : DCall Try.prog 15 [bsD p, bxD b] [] (.tup [dI (bndX p b), dI (chkE p b)]) [] := by
 have h0 := plCheck p b
 unfold bndX
 by_cases hc : chkE p b = 0
 ·obtain ⟨hp, hb⟩ := chk_ok.1 hc
  rw [if_pos hc]
  rw [hc] at h0 ⊢
  have hr := plRoom p b hp
  obtain ⟨hx, hy⟩ := rm_in hp
  have hX : rmX p = ((rxN p : Nat) : Int) := (Int.toNat_of_nonneg hx.1).symm
  have hY : rmY p = ((ryN p : Nat) : Int) := (Int.toNat_of_nonneg hy.1).symm
  have hnX : rxN p ≤ 140 := by show (rmX p).toNat ≤ 140; omega
  have hnY : ryN p ≤ 140 := by show (rmY p).toNat ≤ 140; omega
  rw [hX, hY] at hr
  have c1 := plReach b hb (rxN p) (by omega)
  have c2 := plReach b hb (ryN p) (by omega)
  have hbl := hb.lg
  have hbw := hb.wd
  have ea : b.lg = ((bLg b : Nat) : Int) := (Int.toNat_of_nonneg (by omega)).symm
  have ec : b.wd = ((bWd b : Nat) : Int) := (Int.toNat_of_nonneg (by omega)).symm
  unfold bndF
  have g1 := rcL_get (a := bLg b) (c := bWd b) (n := rxN p) (Nat.le_refl _)
  have g2 := rcL_get (a := bLg b) (c := bWd b) (n := ryN p) (Nat.le_refl _)
  have l1 := rcL_len (bLg b) (bWd b) (rxN p)
  have l2 := rcL_len (bLg b) (bWd b) (ryN p)
  have r1 := rch_le (bLg b) (bWd b) (rxN p)
  have r2 := rch_le (bLg b) (bWd b) (ryN p)
  generalize rcL (bLg b) (bWd b) (rxN p) = L1 at *
  generalize rcL (bLg b) (bWd b) (ryN p) = L2 at *
  generalize rchF (bLg b) (bWd b) (rxN p) = X at *
  generalize rchF (bLg b) (bWd b) (ryN p) = Y at *
  generalize rxN p = nx at *
  generalize ryN p = ny at *
  generalize bLg b = a at *
  generalize bWd b = c at *
  have m1 : X * Y ≤ 140 * 140 := Nat.mul_le_mul (by omega) (by omega)
  have m2 : a * c ≤ 100 * 100 := Nat.mul_le_mul (by omega) (by omega)
  have m3 : 0 < a * c := Nat.mul_pos (by omega) (by omega)
  have w1 : IntKind.i64.wrap ((X : Int) * (Y : Int)) = ((X * Y : Nat) : Int) := by rw [← Int.natCast_mul]; exact IntWalk.i64_in _ (by omega)
  have w2 : IntKind.i64.wrap (b.lg * b.wd) = ((a * c : Nat) : Int) := by rw [ea, ec, ← Int.natCast_mul]; exact IntWalk.i64_in _ (by omega)
  have hq := Nat.div_le_self (X * Y) (a * c)
  have t1 : Int.tdiv ((X * Y : Nat) : Int) ((a * c : Nat) : Int) = ((X * Y / (a * c) : Nat) : Int) := by
   rw [Int.tdiv_eq_ediv_of_nonneg (by omega)]; rfl
  have w3 : IntKind.i64.wrap ((X * Y / (a * c) : Nat) : Int) = ((X * Y / (a * c) : Nat) : Int) := IntWalk.i64_in _ (by generalize X * Y / (a * c) = q at *; omega)
  have z1 : ((((a * c : Nat) : Int)) = 0) = False := eq_false (by omega)
  have i1 : (nx < nx + 1) = True := eq_true (by omega)
  have i2 : (ny < ny + 1) = True := eq_true (by omega)
  generalize a * c = ac at *
  generalize X * Y = xy at *
  generalize xy / ac = q at *
  refine DCall.of Try.func15 sf15 hb15 (Nat.le_of_ble_eq_true rfl) (okRes_nil fun _ => rfl) ?_; simp only [s15, idxs, Nat.reduceAdd]
  repeat' (first|(with_reducible first|apply qA|apply qB|apply qC|apply qD|apply qE|apply qF)|(refine qL rfl (WF.of ?_) ?_; first|rfl|skip)|(simp (disch:=omega) only [go_sem, simprocAttr, qN, qO, qP, qQ, g1, g2, l1, l2, w1, w2, w3, t1, z1, i1, i2])|exact qM rfl rfl rfl|(refine qG rfl ?_)|(refine qK (h0) (by decide) ?_)|(refine qK (hr) (by decide) ?_)|(refine qK (c1) (by decide) ?_)|(refine qK (c2) (by decide) ?_)|(refine qH rfl ?_)|(refine qI rfl ?_ ?_<;>intro hc<;>(try simp only [go_sem] at hc))|(refine qJ ?_ ?_<;>intro hc<;>(try simp only [hc])<;>(try simp only [go_sem] at hc)))
 ·have h2 := chk_two hc
  rw [if_neg hc]
  rw [h2] at h0 ⊢
  refine DCall.of Try.func15 sf15 hb15 (Nat.le_of_ble_eq_true rfl) (okRes_nil fun _ => rfl) ?_; simp only [s15, idxs, Nat.reduceAdd]
  repeat' (first|(with_reducible first|apply qA|apply qB|apply qC|apply qD|apply qE|apply qF)|(refine qL rfl (WF.of ?_) ?_; first|rfl|skip)|(simp (disch:=omega) only [go_sem, simprocAttr, qN, qO, qP, qQ])|exact qM rfl rfl rfl|(refine qG rfl ?_)|(refine qK (h0) (by decide) ?_)|(refine qH rfl ?_)|(refine qI rfl ?_ ?_<;>intro hc<;>(try simp only [go_sem] at hc))|(refine qJ ?_ ?_<;>intro hc<;>(try simp only [hc])<;>(try simp only [go_sem] at hc)))
end Go.Dw.Seat
end
section
set_option linter.unusedSimpArgs false
set_option maxRecDepth 100000
namespace Go.Dw.Seat
open Go Go.Dw Go.Proofs Go.IntWalk
abbrev sawC (p : PBs) (b : PBx) (RX RY : List Int) (lm : Nat) : C := .ro false [.v (.int .i64 p.lg), .v (.int .i64 p.wd), .v (.int .i64 p.hi), .v (.int .i64 p.ov), .v (.int .i64 p.top), .v (.int .i64 p.load), .v (.int .i64 b.lg), .v (.int .i64 b.wd), .v (.int .i64 b.hi), .v (.int .i64 b.wl), .v (.int .i64 b.wh), .v (.int .i64 b.sl), .v (.int .i64 b.sh), .sl false 1 (rows eI RX), .sl false 1 (rows eI RY), .v (.map (some lm))] 0
abbrev sawD (p : PBs) (b : PBx) (RX RY : List Int) (lm : Nat) : D := .c (sawC p b RX RY lm)
abbrev rctD (X Y : Nat) : D := .agg [dI X, dI Y]
def fitT (a c X Y : Nat) : Bool × Bool := if a ≤ X ∧ c ≤ Y then (false, true) else if c ≤ X ∧ a ≤ Y then (true, true) else (false, false)
theorem fitT_snd (a c X Y : Nat) : (fitT a c X Y).2 = fitB a c X Y := by
 unfold fitT fitB
 by_cases h1 : a ≤ X ∧ c ≤ Y
 ·rw [if_pos h1, decide_eq_true h1.1, decide_eq_true h1.2]; rfl
 ·rw [if_neg h1]
  by_cases h2 : c ≤ X ∧ a ≤ Y
  ·rw [if_pos h2, decide_eq_true h2.1, decide_eq_true h2.2]; simp
  ·rw [if_neg h2]
   symm
   rw [Bool.or_eq_false_iff, Bool.and_eq_false_iff, Bool.and_eq_false_iff, decide_eq_false_iff_not, decide_eq_false_iff_not, decide_eq_false_iff_not, decide_eq_false_iff_not]
   omega
set_option maxHeartbeats 4000000 in
theorem plFits (p : PBs) (b : PBx) (hb : b.ok) (RX RY : List Int) (lm X Y : Nat) : DCall Try.prog 97 [sawD p b RX RY lm, rctD X Y] [] (.tup [bD (fitT (bLg b) (bWd b) X Y).1, bD (fitT (bLg b) (bWd b) X Y).2]) [] := by
 have hbl := hb.lg
 have hbw := hb.wd
 have ea : b.lg = ((bLg b : Nat) : Int) := (Int.toNat_of_nonneg (by omega)).symm
 have ec : b.wd = ((bWd b : Nat) : Int) := (Int.toNat_of_nonneg (by omega)).symm
 have hs := plSizes b 18
 have hf : fitT (bLg b) (bWd b) X Y = if (decide (b.lg ≤ (X : Int)) && decide (b.wd ≤ (Y : Int))) then (false, true) else if (decide (b.wd ≤ (X : Int)) && decide (b.lg ≤ (Y : Int))) then (true, true) else (false, false) := by
  rw [ea, ec]
  unfold fitT
  simp only [Bool.and_eq_true, decide_eq_true_eq, Int.ofNat_le]
 rw [hf]
 obtain ⟨u1, e1⟩ : ∃ u, decide (b.lg ≤ (X : Int)) = u := ⟨_, rfl⟩
 obtain ⟨u2, e2⟩ : ∃ u, decide (b.wd ≤ (Y : Int)) = u := ⟨_, rfl⟩
 obtain ⟨u3, e3⟩ : ∃ u, decide (b.wd ≤ (X : Int)) = u := ⟨_, rfl⟩
 obtain ⟨u4, e4⟩ : ∃ u, decide (b.lg ≤ (Y : Int)) = u := ⟨_, rfl⟩
 rw [e1, e2, e3, e4]
 refine DCall.of Try.func97 sf97 hb97 (Nat.le_of_ble_eq_true rfl) (okRes_nil fun _ => rfl) ?_; simp only [s97, idxs, Nat.reduceAdd]
 repeat' (first|(with_reducible first|apply qA|apply qB|apply qC|apply qD|apply qE|apply qF)|(simp (disch:=omega) only [go_sem, simprocAttr, qN, qO, qP, qQ, rF, rG])|exact qM rfl rfl rfl|(refine qG rfl ?_)|(refine qH rfl ?_)|(refine qI rfl ?_ ?_<;>intro hc<;>(try simp only [go_sem] at hc))|(refine qJ ?_ ?_<;>intro hc<;>(try simp only [hc])<;>(try simp only [go_sem] at hc)))
 refine DW.loop (ι := { k : Nat // k ≤ 2 ∧ (1 ≤ k → (u1 && u2) = false) ∧ (2 ≤ k → (u3 && u4) = false) }) (fun k => ⟨35, [(10, dI k.1), (9, .agg [bD false, bD true]), (5, bD false), (4, bD false), (3, .box 3 0), (0, sawD p b RX RY lm)], [(3, .box [dI X, dI Y])]⟩) (fun k => 2 - k.1) ⟨0, by decide, by omega, by omega⟩ ?_ ?_
 ·refine Ent.to ?_ ?_ <;> simp (disch:=omega) only [qR,qS,qTw,qU,get,Nat.reduceEqDiff,↓reduceIte,qV,qW,qX,qY,qZ,and_self,dI,i64_in,and_true,true_and,rA,rB,rC,rD]
  all_goals first | exact ⟨.refl _, .refl _⟩ | exact .refl _
 rintro ⟨k, hk, h1, h2⟩
 dsimp only
 match k, hk, h1, h2 with
 | 0, _, _, _ =>
  repeat' (first|(with_reducible first|apply qA|apply qB|apply qC|apply qD|apply qE|apply qF)|(simp (disch:=omega) only [go_sem, simprocAttr, qN, qO, qP, qQ, rF, rG])|exact qM rfl rfl rfl|(refine qG rfl ?_)|(refine qH rfl ?_)|(refine qI rfl ?_ ?_<;>intro hc<;>(try simp only [go_sem] at hc))|(refine qJ ?_ ?_<;>intro hc<;>(try simp only [hc])<;>(try simp only [go_sem] at hc)))
  (refine call_r (hs) (by decide) (by first | rfl | simp (disch:=omega) only [go_sem,simprocAttr,qN,qO,qP,qQ]) (by first | rfl | simp (disch:=omega) only [go_sem,simprocAttr,qN,qO,qP,qQ]) ?_; simp (disch:=omega) only [go_sem,simprocAttr,qN,qO,qP,qQ])
  cases u1
  ·repeat' (first|(with_reducible first|apply qA|apply qB|apply qC|apply qD|apply qE|apply qF)|(simp (disch:=omega) only [go_sem, simprocAttr, qN, qO, qP, qQ, findL, keyEq, keysOK, KK.is, List.all_nil, List.all_cons, lookIn, commaD, rF, rG, e1])|exact qM rfl rfl rfl|(refine qG rfl ?_)|(refine qH rfl ?_)|(refine qI rfl ?_ ?_<;>intro hc<;>(try simp only [go_sem] at hc))|(refine qJ ?_ ?_<;>intro hc<;>(try simp only [hc])<;>(try simp only [go_sem] at hc)))
   refine ⟨⟨1, by decide, fun _ => rfl, by omega⟩, ?_, Ent.to ?_ ?_⟩ <;> first | (show _ < _; (try simp only); omega) | (simp (disch:=omega) only [qR,qS,qTw,qU,get,Nat.reduceEqDiff,↓reduceIte,qV,qW,qX,qY,qZ,and_self,dI,i64_in,and_true,true_and,rA,rB,rC,rD])
   all_goals first | exact ⟨.refl _, .refl _⟩ | exact .refl _
  cases u2
  ·repeat' (first|(with_reducible first|apply qA|apply qB|apply qC|apply qD|apply qE|apply qF)|(simp (disch:=omega) only [go_sem, simprocAttr, qN, qO, qP, qQ, findL, keyEq, keysOK, KK.is, List.all_nil, List.all_cons, lookIn, commaD, rF, rG, e1, e2])|exact qM rfl rfl rfl|(refine qG rfl ?_)|(refine qH rfl ?_)|(refine qI rfl ?_ ?_<;>intro hc<;>(try simp only [go_sem] at hc))|(refine qJ ?_ ?_<;>intro hc<;>(try simp only [hc])<;>(try simp only [go_sem] at hc)))
   refine ⟨⟨1, by decide, fun _ => rfl, by omega⟩, ?_, Ent.to ?_ ?_⟩ <;> first | (show _ < _; (try simp only); omega) | (simp (disch:=omega) only [qR,qS,qTw,qU,get,Nat.reduceEqDiff,↓reduceIte,qV,qW,qX,qY,qZ,and_self,dI,i64_in,and_true,true_and,rA,rB,rC,rD])
   all_goals first | exact ⟨.refl _, .refl _⟩ | exact .refl _
  ·repeat' (first|(with_reducible first|apply qA|apply qB|apply qC|apply qD|apply qE|apply qF)|(simp (disch:=omega) only [go_sem, simprocAttr, qN, qO, qP, qQ, findL, keyEq, keysOK, KK.is, List.all_nil, List.all_cons, lookIn, commaD, rF, rG, e1, e2])|exact qM rfl rfl rfl|(refine qG rfl ?_)|(refine qH rfl ?_)|(refine qI rfl ?_ ?_<;>intro hc<;>(try simp only [go_sem] at hc))|(refine qJ ?_ ?_<;>intro hc<;>(try simp only [hc])<;>(try simp only [go_sem] at hc)))
   skip
 | 1, _, h1, _ =>
  have h1 := h1 (Nat.le_refl _)
  rw [if_neg (by rw [h1]; exact Bool.false_ne_true)]
  repeat' (first|(with_reducible first|apply qA|apply qB|apply qC|apply qD|apply qE|apply qF)|(simp (disch:=omega) only [go_sem, simprocAttr, qN, qO, qP, qQ, rF, rG])|exact qM rfl rfl rfl|(refine qG rfl ?_)|(refine qH rfl ?_)|(refine qI rfl ?_ ?_<;>intro hc<;>(try simp only [go_sem] at hc))|(refine qJ ?_ ?_<;>intro hc<;>(try simp only [hc])<;>(try simp only [go_sem] at hc)))
  (refine call_r (hs) (by decide) (by first | rfl | simp (disch:=omega) only [go_sem,simprocAttr,qN,qO,qP,qQ]) (by first | rfl | simp (disch:=omega) only [go_sem,simprocAttr,qN,qO,qP,qQ]) ?_; simp (disch:=omega) only [go_sem,simprocAttr,qN,qO,qP,qQ])
  cases u3
  ·repeat' (first|(with_reducible first|apply qA|apply qB|apply qC|apply qD|apply qE|apply qF)|(simp (disch:=omega) only [go_sem, simprocAttr, qN, qO, qP, qQ, findL, keyEq, keysOK, KK.is, List.all_nil, List.all_cons, lookIn, commaD, rF, rG, e3])|exact qM rfl rfl rfl|(refine qG rfl ?_)|(refine qH rfl ?_)|(refine qI rfl ?_ ?_<;>intro hc<;>(try simp only [go_sem] at hc))|(refine qJ ?_ ?_<;>intro hc<;>(try simp only [hc])<;>(try simp only [go_sem] at hc)))
   refine ⟨⟨2, by decide, fun _ => h1, fun _ => rfl⟩, ?_, Ent.to ?_ ?_⟩ <;> first | (show _ < _; (try simp only); omega) | (simp (disch:=omega) only [qR,qS,qTw,qU,get,Nat.reduceEqDiff,↓reduceIte,qV,qW,qX,qY,qZ,and_self,dI,i64_in,and_true,true_and,rA,rB,rC,rD])
   all_goals first | exact ⟨.refl _, .refl _⟩ | exact .refl _
  cases u4
  ·repeat' (first|(with_reducible first|apply qA|apply qB|apply qC|apply qD|apply qE|apply qF)|(simp (disch:=omega) only [go_sem, simprocAttr, qN, qO, qP, qQ, findL, keyEq, keysOK, KK.is, List.all_nil, List.all_cons, lookIn, commaD, rF, rG, e3, e4])|exact qM rfl rfl rfl|(refine qG rfl ?_)|(refine qH rfl ?_)|(refine qI rfl ?_ ?_<;>intro hc<;>(try simp only [go_sem] at hc))|(refine qJ ?_ ?_<;>intro hc<;>(try simp only [hc])<;>(try simp only [go_sem] at hc)))
   refine ⟨⟨2, by decide, fun _ => h1, fun _ => rfl⟩, ?_, Ent.to ?_ ?_⟩ <;> first | (show _ < _; (try simp only); omega) | (simp (disch:=omega) only [qR,qS,qTw,qU,get,Nat.reduceEqDiff,↓reduceIte,qV,qW,qX,qY,qZ,and_self,dI,i64_in,and_true,true_and,rA,rB,rC,rD])
   all_goals first | exact ⟨.refl _, .refl _⟩ | exact .refl _
  ·repeat' (first|(with_reducible first|apply qA|apply qB|apply qC|apply qD|apply qE|apply qF)|(simp (disch:=omega) only [go_sem, simprocAttr, qN, qO, qP, qQ, findL, keyEq, keysOK, KK.is, List.all_nil, List.all_cons, lookIn, commaD, rF, rG, e3, e4])|exact qM rfl rfl rfl|(refine qG rfl ?_)|(refine qH rfl ?_)|(refine qI rfl ?_ ?_<;>intro hc<;>(try simp only [go_sem] at hc))|(refine qJ ?_ ?_<;>intro hc<;>(try simp only [hc])<;>(try simp only [go_sem] at hc)))
   skip
 | 2, _, h1, h2 =>
  have h1 := h1 (by omega)
  have h2 := h2 (by omega)
  rw [if_neg (by rw [h1]; exact Bool.false_ne_true), if_neg (by rw [h2]; exact Bool.false_ne_true)]
  repeat' (first|(with_reducible first|apply qA|apply qB|apply qC|apply qD|apply qE|apply qF)|(simp (disch:=omega) only [go_sem, simprocAttr, qN, qO, qP, qQ])|exact qM rfl rfl rfl|(refine qG rfl ?_)|(refine qH rfl ?_)|(refine qI rfl ?_ ?_<;>intro hc<;>(try simp only [go_sem] at hc))|(refine qJ ?_ ?_<;>intro hc<;>(try simp only [hc])<;>(try simp only [go_sem] at hc)))
  skip
abbrev sdI (s : Bool) : Int := if s then 1 else 0
abbrev lnD (l : Ln) : D := .agg [dI (sdI l.1), dI l.2]
theorem plLnParts (X Y : Nat) (l : Ln) (hX : X ≤ 1000) (hY : Y ≤ 1000) (h1 : l.2 ≤ if l.1 then Y else X) : DCall Try.prog 99 [lnD l, rctD X Y] [] (.tup [rctD (oneF X Y l).1 (oneF X Y l).2, rctD (twoF X Y l).1 (twoF X Y l).2]) [] := by
 obtain ⟨s, t⟩ := l
 cases s
 ·have h1 : t ≤ X := h1
  have hw : IntKind.i64.wrap ((X : Int) - (t : Int)) = ((X - t : Nat) : Int) := by rw [IntWalk.i64_in _ (by omega)]; omega
  show DCall Try.prog 99 [.agg [dI 0, dI t], .agg [dI X, dI Y]] [] (.tup [.agg [dI t, dI Y], .agg [dI (X - t : Nat), dI Y]]) []
  refine DCall.of Try.func99 sf99 hb99 (Nat.le_of_ble_eq_true rfl) (okRes_nil fun _ => rfl) ?_; simp only [s99, o99_0, o99_1, o99_2, o99_3, o99_4, o99_5, o99_6, o99_7, o99_8, o99_9, o99_10, o99_11, o99_12, o99_13, o99_14, o99_15, o99_16, o99_17, o99_18, o99_19, o99_20, o99_21, o99_22, o99_23, o99_24, idxs, Nat.reduceAdd]
  repeat' (first|(with_reducible first|apply qA|apply qB|apply qC|apply qD|apply qE|apply qF)|(refine DW.ord rfl (WF.of (by first|rfl|simp (disch:=omega) only [go_sem, simprocAttr, qN, qO, qP, qQ, hw])) ?_ ?_ ?_; rotate_left)|rfl|(with_reducible refine And.intro ?_ ?_)|(simp (disch:=omega) only [go_sem, simprocAttr, qN, qO, qP, qQ, hw])|exact qM rfl rfl rfl|(refine qG rfl ?_)|(refine qH rfl ?_)|(refine qI rfl ?_ ?_<;>intro hc<;>(try simp only [go_sem] at hc))|(refine qJ ?_ ?_<;>intro hc<;>(try simp only [hc])<;>(try simp only [go_sem] at hc)))
  skip
 ·have h1 : t ≤ Y := h1
  have hw : IntKind.i64.wrap ((Y : Int) - (t : Int)) = ((Y - t : Nat) : Int) := by rw [IntWalk.i64_in _ (by omega)]; omega
  show DCall Try.prog 99 [.agg [dI 1, dI t], .agg [dI X, dI Y]] [] (.tup [.agg [dI X, dI t], .agg [dI X, dI (Y - t : Nat)]]) []
  refine DCall.of Try.func99 sf99 hb99 (Nat.le_of_ble_eq_true rfl) (okRes_nil fun _ => rfl) ?_; simp only [s99, o99_0, o99_1, o99_2, o99_3, o99_4, o99_5, o99_6, o99_7, o99_8, o99_9, o99_10, o99_11, o99_12, o99_13, o99_14, o99_15, o99_16, o99_17, o99_18, o99_19, o99_20, o99_21, o99_22, o99_23, o99_24, idxs, Nat.reduceAdd]
  repeat' (first|(with_reducible first|apply qA|apply qB|apply qC|apply qD|apply qE|apply qF)|(refine DW.ord rfl (WF.of (by first|rfl|simp (disch:=omega) only [go_sem, simprocAttr, qN, qO, qP, qQ, hw])) ?_ ?_ ?_; rotate_left)|rfl|(with_reducible refine And.intro ?_ ?_)|(simp (disch:=omega) only [go_sem, simprocAttr, qN, qO, qP, qQ, hw])|exact qM rfl rfl rfl|(refine qG rfl ?_)|(refine qH rfl ?_)|(refine qI rfl ?_ ?_<;>intro hc<;>(try simp only [go_sem] at hc))|(refine qJ ?_ ?_<;>intro hc<;>(try simp only [hc])<;>(try simp only [go_sem] at hc)))
  skip
theorem plLines (p : PBs) (b : PBx) (RX RY : List Int) (lm X Y : Nat) : DCall Try.prog 98 [sawD p b RX RY lm, rctD X Y] [] (.fn (.func 126) [] [.c (.ro false [.v (.int .i64 X), .v (.int .i64 Y)] 0), .c (.ro false [sawC p b RX RY lm] 0)]) [] := by
 refine DCall.of Try.func98 sf98 hb98 (Nat.le_of_ble_eq_true rfl) (okRes_nil fun _ => rfl) ?_; simp only [s98, idxs, Nat.reduceAdd]
 repeat' (first|(with_reducible first|apply qA|apply qB|apply qC|apply qD|apply qE|apply qF)|(simp (disch:=omega) only [go_sem, simprocAttr, qN, qO, qP, qQ])|exact qM rfl rfl rfl|(refine qG rfl ?_)|(refine qH rfl ?_)|(refine qI rfl ?_ ?_<;>intro hc<;>(try simp only [go_sem] at hc))|(refine qJ ?_ ?_<;>intro hc<;>(try simp only [hc])<;>(try simp only [go_sem] at hc)))
 (refine retS_ent (Ent.rel 2 rfl) ?_; simp (disch:=omega) only [go_sem,simprocAttr,qN,qO,qP,qQ])
 (refine retS_ent (Ent.rel 3 rfl) ?_; simp (disch:=omega) only [go_sem,simprocAttr,qN,qO,qP,qQ])
 refine retS_wk rfl ?_ (by simp only [Blk.nb, rowC_nb, D.nb, D.nbs, C.nb, C.nbs, C.nbss, rows_nb eI_nb, Bool.and_true, Bool.not_false, Bool.and_self, bD, dI, iD]); exact .refl _
end Go.Dw.Seat
end
section
set_option linter.unusedSimpArgs false
set_option maxRecDepth 100000
namespace Go.Dw.Seat
open Go Go.Dw Go.Proofs Go.IntWalk
def enL (l : Ln) : List D := [lnD l]
structure Rch (a c : Nat) (R : List Int) (n : Nat) : Prop where
 len : R.length = n + 1
 get : ∀ j, j ≤ n → R[j]? = some ((rchF a c j : Nat) : Int)
theorem rcL_ok (a c n : Nat) : Rch a c (rcL a c n) n := ⟨rcL_len a c n, fun _ h => rcL_get h⟩
def lnsR (a c x t : Nat) : List Nat := (List.range' t (x / 2 - t)).filterMap fun t => if sumB a c (t + 1) then some (t + 1) else none
theorem lnsR_0 (a c x : Nat) : lnsR a c x 0 = lnX a c x := by rw [lnsR, lnX, Nat.sub_zero, List.range_eq_range']
theorem lnsR_end {a c x t : Nat} (h : x < 2 * (t + 1)) : lnsR a c x t = [] := by
 rw [lnsR, show x / 2 - t = 0 by omega]; rfl
theorem lnsR_step {a c x t : Nat} (h : 2 * (t + 1) ≤ x) : lnsR a c x t = if sumB a c (t + 1) then (t + 1) :: lnsR a c x (t + 1) else lnsR a c x (t + 1) := by
 obtain ⟨m, hm⟩ : ∃ m, x / 2 - t = m + 1 := ⟨x / 2 - t - 1, by omega⟩
 rw [lnsR, lnsR, hm, show x / 2 - (t + 1) = m by omega, List.range'_succ, List.filterMap_cons]
 by_cases h1 : sumB a c (t + 1) = true
 ·rw [if_pos h1, if_pos h1]
 ·rw [if_neg h1, if_neg h1]
def lnsT (a c X Y k t : Nat) : List Ln := match k with
 | 0 => (lnsR a c X t).map (fun t => (false, t)) ++ (lnX a c Y).map (fun t => (true, t))
 | 1 => (lnsR a c Y t).map fun t => (true, t)
 | _ => []
theorem rch_sumB {a c t : Nat} : sumB a c (t + 1) = decide (t + 1 = rchF a c (t + 1)) := by
 cases h : sumB a c (t + 1) with
 | true => rw [rch_eq h]; simp
 | false =>
  symm
  rw [decide_eq_false_iff_not]
  intro e
  have := rch_sum a c (t + 1)
  rw [← e, h] at this; cases this
theorem rch_sumJ {a c j : Nat} (h : 1 ≤ j) : sumB a c j = decide (j = rchF a c j) := by
 obtain ⟨t, rfl⟩ : ∃ t, j = t + 1 := ⟨j - 1, by omega⟩
 exact rch_sumB
theorem lnsT0_step {a c X Y j : Nat} (h : 1 ≤ j) (hX : 2 * j ≤ X) : lnsT a c X Y 0 (j - 1) = if sumB a c j then (false, j) :: lnsT a c X Y 0 (j + 1 - 1) else lnsT a c X Y 0 (j + 1 - 1) := by
 obtain ⟨t, rfl⟩ : ∃ t, j = t + 1 := ⟨j - 1, by omega⟩
 rw [lnsT, lnsT, Nat.add_sub_cancel, Nat.add_sub_cancel, lnsR_step hX]
 split <;> rfl
theorem lnsT1_step {a c X Y j : Nat} (h : 1 ≤ j) (hX : 2 * j ≤ Y) : lnsT a c X Y 1 (j - 1) = if sumB a c j then (true, j) :: lnsT a c X Y 1 (j + 1 - 1) else lnsT a c X Y 1 (j + 1 - 1) := by
 obtain ⟨t, rfl⟩ : ∃ t, j = t + 1 := ⟨j - 1, by omega⟩
 rw [lnsT, lnsT, Nat.add_sub_cancel, Nat.add_sub_cancel, lnsR_step hX]
 split <;> rfl
theorem lnsT0_end {a c X Y j : Nat} (h : 1 ≤ j) (hX : X < 2 * j) : lnsT a c X Y 0 (j - 1) = lnsT a c X Y 1 0 := by
 rw [lnsT, lnsT, lnsR_end (by omega), lnsR_0]; rfl
theorem lnsT1_end {a c X Y j : Nat} (h : 1 ≤ j) (hX : Y < 2 * j) : lnsT a c X Y 1 (j - 1) = lnsT a c X Y 2 0 := by
 rw [lnsT, lnsR_end (by omega)]; rfl
set_option maxHeartbeats 4000000 in
theorem plLines1 (p : PBs) (b : PBx) (RX RY : List Int) (nx ny : Nat) (hrx : Rch (bLg b) (bWd b) RX nx) (hry : Rch (bLg b) (bWd b) RY ny) (hnx : nx ≤ 1000) (hny : ny ≤ 1000) (lm X Y : Nat) (hX : X ≤ nx) (hY : Y ≤ ny) :
  ItB true Try.prog 126 [] [.c (.ro false [.v (.int .i64 X), .v (.int .i64 Y)] 0), .c (.ro false [sawC p b RX RY lm] 0)] enL (fun l => l ∈ lnsF (bLg b) (bWd b) X Y) (lnsF (bLg b) (bWd b) X Y) := by
 generalize bLg b = a at *
 generalize bWd b = c at *
 intro ly β H stp live _ hW hY' b0 hl0
 have hH : ∀ b, HidOk (H b) := fun b => (hW b).toHidOk
 have hYC : ∀ (b1 : β) (s : Bool) (t : Nat) (tl : List Ln), (s, t) ∈ lnsF a c X Y → live ((s, t) :: tl) b1 → YCall Try.prog ly [.agg [dI (sdI s), dI t]] (H b1) (bD (stp b1 (s, t)).1) (H (stp b1 (s, t)).2) ∧ ((stp b1 (s, t)).1 = true → live tl (stp b1 (s, t)).2) := fun b1 s t tl hm hl => hY' b1 (s, t) tl hl hm
 refine DCall.of Try.func126 sf126 hb126 (Nat.le_of_ble_eq_true rfl) (hH _).res ?_
 simp only [s126, idxs, Nat.reduceAdd, List.map_nil, List.map_cons, List.nil_append, List.cons_append]
 have f1 := hid_get (hH b0)
 have f2 := hid_ins (hH b0)
 have f3 := (hH b0).men
 have f4 := (hH b0).lo
 repeat' (first|(with_reducible first|apply qA|apply qB|apply qC|apply qD|apply qE|apply qF)|(simp (disch:=omega) only [go_sem, simprocAttr, qN, qO, qP, qQ, f1, f2, f3, f4, ins, rF, rG])|exact qM rfl rfl rfl|(refine qG rfl ?_)|(refine qH rfl ?_)|(refine qI rfl ?_ ?_<;>intro hc<;>(try simp only [go_sem] at hc))|(refine qJ ?_ ?_<;>intro hc<;>(try simp only [hc])<;>(try simp only [go_sem] at hc)))
 have hl00 : live (lnsT a c X Y 0 0) b0 := by rw [lnsT, lnsR_0]; exact hl0
 have hr00 : runB stp b0 (lnsF a c X Y) = runB stp b0 (lnsT a c X Y 0 0) := by rw [lnsT, lnsR_0]; rfl
 refine DW.loop (ι := { y : Nat × β // y.1 ≤ 2 ∧ live (lnsT a c X Y y.1 0) y.2 ∧ runB stp b0 (lnsF a c X Y) = runB stp y.2 (lnsT a c X Y y.1 0) })
  (fun y => ⟨37, [(6, dI y.1.1), (0, .c (.fn (.yield ly) [] [])), (1, .c (.ro false [.v (.int .i64 X), .v (.int .i64 Y)] 0)), (2, .c (.ro false [sawC p b RX RY lm] 0))], H y.1.2⟩) (fun y => 2 - y.1.1) ⟨(0, b0), Nat.zero_le _, hl00, hr00⟩ ?_ ?_
 ·refine Ent.toH (o := []) (o' := []) (hH b0) rfl ?_ ?_ <;> simp (disch:=omega) only [qR,qS,qTw,qU,get,Nat.reduceEqDiff,↓reduceIte,qV,qW,qX,qY,qZ,and_self,dI,i64_in,and_true,true_and,rA,rB,rC,rD]
 rintro ⟨⟨k, b1⟩, hk, hlv, hrun⟩
 dsimp only at hk hlv hrun ⊢
 have g1 := hid_get (hH b1)
 have g2 := hid_ins (hH b1)
 have g3 := (hH b1).men
 have g4 := (hH b1).lo
 match k, hk with
 | 0, _ =>
  repeat' (first|(with_reducible first|apply qA|apply qB|apply qC|apply qD|apply qE|apply qF)|(simp (disch:=omega) only [go_sem, simprocAttr, qN, qO, qP, qQ, g1, g2, g3, g4, ins, rF, rG])|exact qM rfl rfl rfl|(refine qG rfl ?_)|(refine qH rfl ?_)|(refine qI rfl ?_ ?_<;>intro hc<;>(try simp only [go_sem] at hc))|(refine qJ ?_ ?_<;>intro hc<;>(try simp only [hc])<;>(try simp only [go_sem] at hc)))
  refine DW.loop (ι := { y : Nat × β // (1 ≤ y.1 ∧ 2 * y.1 ≤ X + 2) ∧ live (lnsT a c X Y 0 (y.1 - 1)) y.2 ∧ runB stp b0 (lnsF a c X Y) = runB stp y.2 (lnsT a c X Y 0 (y.1 - 1)) })
   (fun y => ⟨37, [(6, dI 0), (5, dI (y.1.1 : Nat)), (4, dI 0), (0, .c (.fn (.yield ly) [] [])), (1, .c (.ro false [.v (.int .i64 X), .v (.int .i64 Y)] 0)), (2, .c (.ro false [sawC p b RX RY lm] 0))], H y.1.2⟩) (fun y => X + 1 - y.1.1) ⟨(1, b1), by omega, hlv, hrun⟩ ?_ ?_
  ·refine Ent.toH (o := []) (o' := []) (hH b1) rfl ?_ ?_ <;> simp (disch:=omega) only [qR,qS,qTw,qU,get,Nat.reduceEqDiff,↓reduceIte,qV,qW,qX,qY,qZ,and_self,dI,i64_in,and_true,true_and,rA,rB,rC,rD]
  clear g1 g2 g3 g4
  rintro ⟨⟨j, b1⟩, hj, hlv, hrun⟩
  dsimp only at hj hlv hrun ⊢
  have g1 := hid_get (hH b1)
  have g2 := hid_ins (hH b1)
  have g3 := (hH b1).men
  have g4 := (hH b1).lo
  by_cases hle : 2 * j ≤ X
  ·have hd : decide (2 * (j : Int) ≤ (X : Int)) = true := decide_eq_true (by omega)
   have hg := hrx.get j (by omega)
   have hl := hrx.len
   have hjn : (j < nx + 1) = True := eq_true (by omega)
   have hst := lnsT0_step (a := a) (c := c) (X := X) (Y := Y) hj.1 hle
   cases hs : sumB a c j with
   | false =>
    have he : (((rchF a c j : Nat) : Int) == (j : Int)) = false := by rw [beq_eq_false_iff_ne]; intro e; rw [rch_sumJ hj.1, decide_eq_false_iff_not] at hs; omega
    rw [hs, if_neg Bool.false_ne_true] at hst
    rw [hst] at hlv hrun
    repeat' (first|(with_reducible first|apply qA|apply qB|apply qC|apply qD|apply qE|apply qF)|(simp (disch:=omega) only [go_sem, simprocAttr, qN, qO, qP, qQ, g1, g2, g3, g4, ins, hd, hg, hl, hjn, he, rF, rG])|exact qM rfl rfl rfl|(refine qG rfl ?_)|(refine qH rfl ?_)|(refine qI rfl ?_ ?_<;>intro hc<;>(try simp only [go_sem] at hc))|(refine qJ ?_ ?_<;>intro hc<;>(try simp only [hc])<;>(try simp only [go_sem] at hc)))
    refine ⟨⟨(j + 1, b1), by dsimp only; omega, hlv, hrun⟩, (by show _ < _; (try simp only); omega), Ent.toH (o := []) (o' := []) (hH _) rfl ?_ ?_⟩ <;> simp (disch:=omega) only [qR,qS,qTw,qU,get,Nat.reduceEqDiff,↓reduceIte,qV,qW,qX,qY,qZ,and_self,dI,i64_in,and_true,true_and,rA,rB,rC,rD]
   | true =>
    have he : (((rchF a c j : Nat) : Int) == (j : Int)) = true := by rw [rch_eq hs, beq_self_eq_true]
    have hmem : ((false, j) : Ln) ∈ lnsF a c X Y := lns_mem.2 ⟨hj.1, by simpa using hle, hs⟩
    rw [hs, if_pos rfl] at hst
    rw [hst] at hlv hrun
    obtain ⟨hyc, hlv2⟩ := hYC b1 false j _ hmem hlv
    rw [runB] at hrun
    have hyc : YCall Try.prog ly [.agg [dI 0, dI j]] (H b1) _ _ := hyc
    cases hc : (stp b1 (false, j)).1 with
    | true =>
     rw [hc] at hyc
     rw [hc, if_pos rfl] at hrun
     repeat' (first|(with_reducible first|apply qA|apply qB|apply qC|apply qD|apply qE|apply qF)|(simp (disch:=omega) only [go_sem, simprocAttr, qN, qO, qP, qQ, g1, g2, g3, g4, ins, hd, hg, hl, hjn, he, rF, rG])|exact qM rfl rfl rfl|(refine qG rfl ?_)|(refine qH rfl ?_)|(refine qI rfl ?_ ?_<;>intro hc<;>(try simp only [go_sem] at hc))|(refine qJ ?_ ?_<;>intro hc<;>(try simp only [hc])<;>(try simp only [go_sem] at hc)))
     refine call_y (own := []) hyc rfl rfl rfl (hH _) (hH _) (by decide) ?_
     simp (disch:=omega) only [go_sem,simprocAttr,qN,qO,qP,qQ]
     repeat' (first|(with_reducible first|apply qA|apply qB|apply qC|apply qD|apply qE|apply qF)|(simp (disch:=omega) only [go_sem, simprocAttr, qN, qO, qP, qQ])|exact qM rfl rfl rfl|(refine qG rfl ?_)|(refine qH rfl ?_)|(refine qI rfl ?_ ?_<;>intro hc<;>(try simp only [go_sem] at hc))|(refine qJ ?_ ?_<;>intro hc<;>(try simp only [hc])<;>(try simp only [go_sem] at hc)))
     refine ⟨⟨(j + 1, (stp b1 (false, j)).2), by dsimp only; omega, hlv2 hc, hrun⟩, (by show _ < _; (try simp only); omega), Ent.toH (o := []) (o' := []) (hH _) rfl ?_ ?_⟩ <;> simp (disch:=omega) only [qR,qS,qTw,qU,get,Nat.reduceEqDiff,↓reduceIte,qV,qW,qX,qY,qZ,and_self,dI,i64_in,and_true,true_and,rA,rB,rC,rD]
    | false =>
     rw [hc] at hyc
     rw [hc, if_neg Bool.false_ne_true] at hrun
     repeat' (first|(with_reducible first|apply qA|apply qB|apply qC|apply qD|apply qE|apply qF)|(simp (disch:=omega) only [go_sem, simprocAttr, qN, qO, qP, qQ, g1, g2, g3, g4, ins, hd, hg, hl, hjn, he, rF, rG])|exact qM rfl rfl rfl|(refine qG rfl ?_)|(refine qH rfl ?_)|(refine qI rfl ?_ ?_<;>intro hc<;>(try simp only [go_sem] at hc))|(refine qJ ?_ ?_<;>intro hc<;>(try simp only [hc])<;>(try simp only [go_sem] at hc)))
     refine call_y (own := []) hyc rfl rfl rfl (hH _) (hH _) (by decide) ?_
     simp (disch:=omega) only [go_sem,simprocAttr,qN,qO,qP,qQ]
     repeat' (first|(with_reducible first|apply qA|apply qB|apply qC|apply qD|apply qE|apply qF)|(simp (disch:=omega) only [go_sem, simprocAttr, qN, qO, qP, qQ])|exact qM rfl rfl rfl|(refine qG rfl ?_)|(refine qH rfl ?_)|(refine qI rfl ?_ ?_<;>intro hc<;>(try simp only [go_sem] at hc))|(refine qJ ?_ ?_<;>intro hc<;>(try simp only [hc])<;>(try simp only [go_sem] at hc)))
     rw [hrun]
     exact retS_hid (own := []) (.inl rfl) (hH _) rfl
  ·have hd : decide (2 * (j : Int) ≤ (X : Int)) = false := decide_eq_false (by omega)
   rw [lnsT0_end (a := a) (c := c) (X := X) (Y := Y) hj.1 (by omega)] at hlv hrun
   repeat' (first|(with_reducible first|apply qA|apply qB|apply qC|apply qD|apply qE|apply qF)|(simp (disch:=omega) only [go_sem, simprocAttr, qN, qO, qP, qQ, g1, g2, g3, g4, ins, hd, rF, rG])|exact qM rfl rfl rfl|(refine qG rfl ?_)|(refine qH rfl ?_)|(refine qI rfl ?_ ?_<;>intro hc<;>(try simp only [go_sem] at hc))|(refine qJ ?_ ?_<;>intro hc<;>(try simp only [hc])<;>(try simp only [go_sem] at hc)))
   refine ⟨⟨(1, b1), by dsimp only; omega, hlv, hrun⟩, (by show _ < _; (try simp only); omega), Ent.toH (o := []) (o' := []) (hH _) rfl ?_ ?_⟩ <;> simp (disch:=omega) only [qR,qS,qTw,qU,get,Nat.reduceEqDiff,↓reduceIte,qV,qW,qX,qY,qZ,and_self,dI,i64_in,and_true,true_and,rA,rB,rC,rD]
 | 1, _ =>
  repeat' (first|(with_reducible first|apply qA|apply qB|apply qC|apply qD|apply qE|apply qF)|(simp (disch:=omega) only [go_sem, simprocAttr, qN, qO, qP, qQ, g1, g2, g3, g4, ins, rF, rG])|exact qM rfl rfl rfl|(refine qG rfl ?_)|(refine qH rfl ?_)|(refine qI rfl ?_ ?_<;>intro hc<;>(try simp only [go_sem] at hc))|(refine qJ ?_ ?_<;>intro hc<;>(try simp only [hc])<;>(try simp only [go_sem] at hc)))
  refine DW.loop (ι := { y : Nat × β // (1 ≤ y.1 ∧ 2 * y.1 ≤ Y + 2) ∧ live (lnsT a c X Y 1 (y.1 - 1)) y.2 ∧ runB stp b0 (lnsF a c X Y) = runB stp y.2 (lnsT a c X Y 1 (y.1 - 1)) })
   (fun y => ⟨37, [(6, dI 1), (5, dI (y.1.1 : Nat)), (4, dI 1), (0, .c (.fn (.yield ly) [] [])), (1, .c (.ro false [.v (.int .i64 X), .v (.int .i64 Y)] 0)), (2, .c (.ro false [sawC p b RX RY lm] 0))], H y.1.2⟩) (fun y => Y + 1 - y.1.1) ⟨(1, b1), by omega, hlv, hrun⟩ ?_ ?_
  ·refine Ent.toH (o := []) (o' := []) (hH b1) rfl ?_ ?_ <;> simp (disch:=omega) only [qR,qS,qTw,qU,get,Nat.reduceEqDiff,↓reduceIte,qV,qW,qX,qY,qZ,and_self,dI,i64_in,and_true,true_and,rA,rB,rC,rD]
  clear g1 g2 g3 g4
  rintro ⟨⟨j, b1⟩, hj, hlv, hrun⟩
  dsimp only at hj hlv hrun ⊢
  have g1 := hid_get (hH b1)
  have g2 := hid_ins (hH b1)
  have g3 := (hH b1).men
  have g4 := (hH b1).lo
  by_cases hle : 2 * j ≤ Y
  ·have hd : decide (2 * (j : Int) ≤ (Y : Int)) = true := decide_eq_true (by omega)
   have hg := hry.get j (by omega)
   have hl := hry.len
   have hjn : (j < ny + 1) = True := eq_true (by omega)
   have hst := lnsT1_step (a := a) (c := c) (X := X) (Y := Y) hj.1 hle
   cases hs : sumB a c j with
   | false =>
    have he : (((rchF a c j : Nat) : Int) == (j : Int)) = false := by rw [beq_eq_false_iff_ne]; intro e; rw [rch_sumJ hj.1, decide_eq_false_iff_not] at hs; omega
    rw [hs, if_neg Bool.false_ne_true] at hst
    rw [hst] at hlv hrun
    repeat' (first|(with_reducible first|apply qA|apply qB|apply qC|apply qD|apply qE|apply qF)|(simp (disch:=omega) only [go_sem, simprocAttr, qN, qO, qP, qQ, g1, g2, g3, g4, ins, hd, hg, hl, hjn, he, rF, rG])|exact qM rfl rfl rfl|(refine qG rfl ?_)|(refine qH rfl ?_)|(refine qI rfl ?_ ?_<;>intro hc<;>(try simp only [go_sem] at hc))|(refine qJ ?_ ?_<;>intro hc<;>(try simp only [hc])<;>(try simp only [go_sem] at hc)))
    refine ⟨⟨(j + 1, b1), by dsimp only; omega, hlv, hrun⟩, (by show _ < _; (try simp only); omega), Ent.toH (o := []) (o' := []) (hH _) rfl ?_ ?_⟩ <;> simp (disch:=omega) only [qR,qS,qTw,qU,get,Nat.reduceEqDiff,↓reduceIte,qV,qW,qX,qY,qZ,and_self,dI,i64_in,and_true,true_and,rA,rB,rC,rD]
   | true =>
    have he : (((rchF a c j : Nat) : Int) == (j : Int)) = true := by rw [rch_eq hs, beq_self_eq_true]
    have hmem : ((true, j) : Ln) ∈ lnsF a c X Y := lns_mem.2 ⟨hj.1, by simpa using hle, hs⟩
    rw [hs, if_pos rfl] at hst
    rw [hst] at hlv hrun
    obtain ⟨hyc, hlv2⟩ := hYC b1 true j _ hmem hlv
    rw [runB] at hrun
    have hyc : YCall Try.prog ly [.agg [dI 1, dI j]] (H b1) _ _ := hyc
    cases hc : (stp b1 (true, j)).1 with
    | true =>
     rw [hc] at hyc
     rw [hc, if_pos rfl] at hrun
     repeat' (first|(with_reducible first|apply qA|apply qB|apply qC|apply qD|apply qE|apply qF)|(simp (disch:=omega) only [go_sem, simprocAttr, qN, qO, qP, qQ, g1, g2, g3, g4, ins, hd, hg, hl, hjn, he, rF, rG])|exact qM rfl rfl rfl|(refine qG rfl ?_)|(refine qH rfl ?_)|(refine qI rfl ?_ ?_<;>intro hc<;>(try simp only [go_sem] at hc))|(refine qJ ?_ ?_<;>intro hc<;>(try simp only [hc])<;>(try simp only [go_sem] at hc)))
     refine call_y (own := []) hyc rfl rfl rfl (hH _) (hH _) (by decide) ?_
     simp (disch:=omega) only [go_sem,simprocAttr,qN,qO,qP,qQ]
     repeat' (first|(with_reducible first|apply qA|apply qB|apply qC|apply qD|apply qE|apply qF)|(simp (disch:=omega) only [go_sem, simprocAttr, qN, qO, qP, qQ])|exact qM rfl rfl rfl|(refine qG rfl ?_)|(refine qH rfl ?_)|(refine qI rfl ?_ ?_<;>intro hc<;>(try simp only [go_sem] at hc))|(refine qJ ?_ ?_<;>intro hc<;>(try simp only [hc])<;>(try simp only [go_sem] at hc)))
     refine ⟨⟨(j + 1, (stp b1 (true, j)).2), by dsimp only; omega, hlv2 hc, hrun⟩, (by show _ < _; (try simp only); omega), Ent.toH (o := []) (o' := []) (hH _) rfl ?_ ?_⟩ <;> simp (disch:=omega) only [qR,qS,qTw,qU,get,Nat.reduceEqDiff,↓reduceIte,qV,qW,qX,qY,qZ,and_self,dI,i64_in,and_true,true_and,rA,rB,rC,rD]
    | false =>
     rw [hc] at hyc
     rw [hc, if_neg Bool.false_ne_true] at hrun
     repeat' (first|(with_reducible first|apply qA|apply qB|apply qC|apply qD|apply qE|apply qF)|(simp (disch:=omega) only [go_sem, simprocAttr, qN, qO, qP, qQ, g1, g2, g3, g4, ins, hd, hg, hl, hjn, he, rF, rG])|exact qM rfl rfl rfl|(refine qG rfl ?_)|(refine qH rfl ?_)|(refine qI rfl ?_ ?_<;>intro hc<;>(try simp only [go_sem] at hc))|(refine qJ ?_ ?_<;>intro hc<;>(try simp only [hc])<;>(try simp only [go_sem] at hc)))
     refine call_y (own := []) hyc rfl rfl rfl (hH _) (hH _) (by decide) ?_
     simp (disch:=omega) only [go_sem,simprocAttr,qN,qO,qP,qQ]
     repeat' (first|(with_reducible first|apply qA|apply qB|apply qC|apply qD|apply qE|apply qF)|(simp (disch:=omega) only [go_sem, simprocAttr, qN, qO, qP, qQ])|exact qM rfl rfl rfl|(refine qG rfl ?_)|(refine qH rfl ?_)|(refine qI rfl ?_ ?_<;>intro hc<;>(try simp only [go_sem] at hc))|(refine qJ ?_ ?_<;>intro hc<;>(try simp only [hc])<;>(try simp only [go_sem] at hc)))
     rw [hrun]
     exact retS_hid (own := []) (.inl rfl) (hH _) rfl
  ·have hd : decide (2 * (j : Int) ≤ (Y : Int)) = false := decide_eq_false (by omega)
   rw [lnsT1_end (a := a) (c := c) (X := X) (Y := Y) hj.1 (by omega)] at hlv hrun
   repeat' (first|(with_reducible first|apply qA|apply qB|apply qC|apply qD|apply qE|apply qF)|(simp (disch:=omega) only [go_sem, simprocAttr, qN, qO, qP, qQ, g1, g2, g3, g4, ins, hd, rF, rG])|exact qM rfl rfl rfl|(refine qG rfl ?_)|(refine qH rfl ?_)|(refine qI rfl ?_ ?_<;>intro hc<;>(try simp only [go_sem] at hc))|(refine qJ ?_ ?_<;>intro hc<;>(try simp only [hc])<;>(try simp only [go_sem] at hc)))
   refine ⟨⟨(2, b1), by dsimp only; omega, hlv, hrun⟩, (by show _ < _; (try simp only); omega), Ent.toH (o := []) (o' := []) (hH _) rfl ?_ ?_⟩ <;> simp (disch:=omega) only [qR,qS,qTw,qU,get,Nat.reduceEqDiff,↓reduceIte,qV,qW,qX,qY,qZ,and_self,dI,i64_in,and_true,true_and,rA,rB,rC,rD]
   all_goals exact .refl _
 | 2, _ =>
  rw [lnsT, runB] at hrun
  repeat' (first|(with_reducible first|apply qA|apply qB|apply qC|apply qD|apply qE|apply qF)|(simp (disch:=omega) only [go_sem, simprocAttr, qN, qO, qP, qQ, g1, g2, g3, g4, ins, rF, rG])|exact qM rfl rfl rfl|(refine qG rfl ?_)|(refine qH rfl ?_)|(refine qI rfl ?_ ?_<;>intro hc<;>(try simp only [go_sem] at hc))|(refine qJ ?_ ?_<;>intro hc<;>(try simp only [hc])<;>(try simp only [go_sem] at hc)))
  all_goals first | exact id | (rw [hrun]; exact retS_hid (own := []) (.inr rfl) (hH _) rfl)
end Go.Dw.Seat
end
section
set_option linter.unusedSimpArgs false
set_option maxRecDepth 100000
namespace Go.Dw.Seat
open Go Go.Dw Go.Proofs Go.IntWalk
abbrev nilC : C := .v (.slice none 0 0)
abbrev sawBx (p : PBs) (b : PBx) (RX RY : C) : Blk := .box [dI p.lg, dI p.wd, dI p.hi, dI p.ov, dI p.top, dI p.load, dI b.lg, dI b.wd, dI b.hi, dI b.wl, dI b.wh, dI b.sl, dI b.sh, .c RX, .c RY, .hd 7]
abbrev sawBs (p : PBs) (b : PBx) (RX RY : List Int) : List (Nat × Blk) := [(9, sawBx p b (.sl false 1 (rows eI RX)) (.sl false 1 (rows eI RY))), (7, .map [] [])]
theorem sawBs_ok (p : PBs) (b : PBx) (RX RY : List Int) : okRes (.box 9 0) (sawBs p b RX RY) := by
 have hg : ∀ j, get j (sawBs p b RX RY) = none → j ≠ 9 ∧ j ≠ 7 := fun j hj => by
  constructor <;> (rintro rfl; cases hj)
 refine ⟨fun j hj => ?_, fun i x hi j hj => ?_⟩
 ·obtain ⟨h1, h2⟩ := hg j hj
  simp only [D.men, D.mens, Bool.or_false, beq_eq_false_iff_ne]
  omega
 ·obtain ⟨h1, h2⟩ := hg j hj
  have := get_mem hi
  simp only [List.mem_cons, Prod.mk.injEq, List.not_mem_nil, or_false] at this
  rcases this with ⟨_, rfl⟩ | ⟨_, rfl⟩
  ·simp only [Blk.men, D.men, D.mens, Bool.or_false, Bool.false_or, beq_eq_false_iff_ne]
   omega
  ·rfl
set_option maxHeartbeats 2000000 in
theorem plNewSaw (p : PBs) (b : PBx) (hp : p.ok) (hb : b.ok) : DCall Try.prog 64 [bedD p b] [] (.box 9 0) (sawBs p b (rcL (bLg b) (bWd b) (rxN p)) (rcL (bLg b) (bWd b) (ryN p))) := by
 have hr := plRoom p b hp
 obtain ⟨hx, hy⟩ := rm_in hp
 have hX : rmX p = ((rxN p : Nat) : Int) := (Int.toNat_of_nonneg hx.1).symm
 have hY : rmY p = ((ryN p : Nat) : Int) := (Int.toNat_of_nonneg hy.1).symm
 have hnX : rxN p ≤ 140 := by show (rmX p).toNat ≤ 140; omega
 have hnY : ryN p ≤ 140 := by show (rmY p).toNat ≤ 140; omega
 rw [hX, hY] at hr
 have c1 := plReach b hb (rxN p) (by omega)
 have c2 := plReach b hb (ryN p) (by omega)
 have hok := sawBs_ok p b (rcL (bLg b) (bWd b) (rxN p)) (rcL (bLg b) (bWd b) (ryN p))
 generalize rcL (bLg b) (bWd b) (rxN p) = L1 at *
 generalize rcL (bLg b) (bWd b) (ryN p) = L2 at *
 generalize rxN p = nx at *
 generalize ryN p = ny at *
 refine DCall.of Try.func64 sf64 hb64 (Nat.le_of_ble_eq_true rfl) hok ?_
 simp only [s64, idxs, Nat.reduceAdd]
 repeat' (first|(with_reducible first|apply qA|apply qB|apply qC|apply qD|apply qE|apply qF)|(refine qL rfl (WF.of ?_) ?_; first|rfl|skip)|(simp (disch:=omega) only [go_sem, simprocAttr, qN, qO, qP, qQ])|exact qM rfl rfl rfl|(refine qG rfl ?_)|(refine qK (hr) (by decide) ?_)|(refine qH rfl ?_)|(refine qI rfl ?_ ?_<;>intro hc<;>(try simp only [go_sem] at hc))|(refine qJ ?_ ?_<;>intro hc<;>(try simp only [hc])<;>(try simp only [go_sem] at hc)))
 obtain ⟨r0, hr0⟩ : ∃ r : Nat → C, r 0 = nilC ∧ r 1 = .sl false 1 (rows eI L1) ∧ r 2 = .sl false 1 (rows eI L1) := ⟨fun k => if k = 0 then nilC else .sl false 1 (rows eI L1), rfl, rfl, rfl⟩
 obtain ⟨r1, hr1⟩ : ∃ r : Nat → C, r 0 = nilC ∧ r 1 = nilC ∧ r 2 = .sl false 1 (rows eI L2) := ⟨fun k => if k ≤ 1 then nilC else .sl false 1 (rows eI L2), rfl, rfl, rfl⟩
 refine DW.loop (ι := { k : Nat // k ≤ 2 }) (fun k => ⟨27, [(12, dI k.1), (11, .agg [dI nx, dI ny]), (3, .box 9 0), (1, .box 1 0)], [(9, sawBx p b (r0 k.1) (r1 k.1)), (7, .map [] []), (1, .box [dI p.lg, dI p.wd, dI p.hi, dI p.ov, dI p.top, dI p.load, dI b.lg, dI b.wd, dI b.hi, dI b.wl, dI b.wh, dI b.sl, dI b.sh])]⟩) (fun k => 2 - k.1) ⟨0, by decide⟩ ?_ ?_
 ·refine Ent.to ?_ ?_ <;> simp (disch:=omega) only [qR,qS,qTw,qU,get,Nat.reduceEqDiff,↓reduceIte,qV,qW,qX,qY,qZ,and_self,dI,i64_in,and_true,true_and,rA,rB,rC,rD,hr0.1,hr1.1]
  all_goals first | exact ⟨.refl _, .refl _, .refl _⟩ | exact ⟨.refl _, .refl _⟩ | exact .refl _
 rintro ⟨k, hk⟩
 dsimp only
 match k, hk with
 | 0, _ =>
  rw [hr0.1, hr1.1]
  repeat' (first|(with_reducible first|apply qA|apply qB|apply qC|apply qD|apply qE|apply qF)|(refine qL rfl (WF.of ?_) ?_; first|rfl|skip)|(simp (disch:=omega) only [go_sem, simprocAttr, qN, qO, qP, qQ])|exact qM rfl rfl rfl|(refine qG rfl ?_)|(refine qK (c1) (by decide) ?_)|(refine qH rfl ?_)|(refine qI rfl ?_ ?_<;>intro hc<;>(try simp only [go_sem] at hc))|(refine qJ ?_ ?_<;>intro hc<;>(try simp only [hc])<;>(try simp only [go_sem] at hc)))
  refine ⟨⟨1, by decide⟩, ?_, Ent.to ?_ ?_⟩ <;> first | (show _ < _; (try simp only); omega) | (simp (disch:=omega) only [qR,qS,qTw,qU,get,Nat.reduceEqDiff,↓reduceIte,qV,qW,qX,qY,qZ,and_self,dI,i64_in,and_true,true_and,rA,rB,rC,rD, hr0.2.1,hr1.2.1])
  all_goals first | exact ⟨.refl _, .refl _, .refl _⟩ | exact ⟨.refl _, .refl _⟩ | exact .refl _
 | 1, _ =>
  rw [hr0.2.1, hr1.2.1]
  repeat' (first|(with_reducible first|apply qA|apply qB|apply qC|apply qD|apply qE|apply qF)|(refine qL rfl (WF.of ?_) ?_; first|rfl|skip)|(simp (disch:=omega) only [go_sem, simprocAttr, qN, qO, qP, qQ])|exact qM rfl rfl rfl|(refine qG rfl ?_)|(refine qK (c2) (by decide) ?_)|(refine qH rfl ?_)|(refine qI rfl ?_ ?_<;>intro hc<;>(try simp only [go_sem] at hc))|(refine qJ ?_ ?_<;>intro hc<;>(try simp only [hc])<;>(try simp only [go_sem] at hc)))
  refine ⟨⟨2, by decide⟩, ?_, Ent.to ?_ ?_⟩ <;> first | (show _ < _; (try simp only); omega) | (simp (disch:=omega) only [qR,qS,qTw,qU,get,Nat.reduceEqDiff,↓reduceIte,qV,qW,qX,qY,qZ,and_self,dI,i64_in,and_true,true_and,rA,rB,rC,rD, hr0.2.2,hr1.2.2])
  all_goals first | exact ⟨.refl _, .refl _, .refl _⟩ | exact ⟨.refl _, .refl _⟩ | exact .refl _
 | 2, _ =>
  rw [hr0.2.2, hr1.2.2]
  repeat' (first|(with_reducible first|apply qA|apply qB|apply qC|apply qD|apply qE|apply qF)|(refine qL rfl (WF.of ?_) ?_; first|rfl|skip)|(simp (disch:=omega) only [go_sem, simprocAttr, qN, qO, qP, qQ])|exact qM rfl rfl rfl|(refine qG rfl ?_)|(refine qH rfl ?_)|(refine qI rfl ?_ ?_<;>intro hc<;>(try simp only [go_sem] at hc))|(refine qJ ?_ ?_<;>intro hc<;>(try simp only [hc])<;>(try simp only [go_sem] at hc)))
  refine retS_bs rfl rfl rfl (get_all (p := fun k x => get k _ = some x ∧ x.nb = true) ?_)
  intro q hq
  simp only [List.mem_cons, Prod.mk.injEq, List.not_mem_nil, or_false] at hq
  rcases hq with rfl | rfl
  ·exact ⟨rfl, (by simp only [List.all_cons, List.all_nil, Blk.nb, rowC_nb, D.nb, D.nbs, C.nb, C.nbs, C.nbss, rows_nb eI_nb, Bool.and_true, Bool.not_false, Bool.and_self, bD, dI, iD])⟩
  ·exact ⟨rfl, rfl⟩
end Go.Dw.Seat
end
section
set_option linter.unusedSimpArgs false
set_option maxRecDepth 100000
namespace Go.Dw.Seat
open Go Go.Dw Go.IntWalk
def layF (a c : Nat) : Nat → Nat → Nat → Nat → Nat → List PPl
 | 0, _, _, _, _ => []
 | f + 1, fx, fy, x, y => if (cutI a c x y).n = 0 then [] else match (cutI a c x y).ln with
  | none => [⟨fx, fy, !(decide (a ≤ x) && decide (c ≤ y))⟩]
  | some l => layF a c f fx fy (oneF (rchF a c x) (rchF a c y) l).1 (oneF (rchF a c x) (rchF a c y) l).2 ++ layF a c f (fx + if l.1 then 0 else l.2) (fy + if l.1 then l.2 else 0) (twoF (rchF a c x) (rchF a c y) l).1 (twoF (rchF a c x) (rchF a c y) l).2
theorem rch_ge {a c s n : Nat} (hs : sumB a c s = true) : s ≤ rchF a c n ↔ s ≤ n := ⟨fun h => Nat.le_trans h (rch_le a c n), fun h => rch_max h hs⟩
theorem fit_rch {a c : Nat} (ha : 0 < a) (x y : Nat) : fitB a c (rchF a c x) (rchF a c y) = fitB a c x y := by
 have h1 := sumB_a (c := c) ha
 have h2 := sumB_c (c := c) ha
 unfold fitB
 rw [decide_eq_decide.2 (rch_ge h1), decide_eq_decide.2 (rch_ge h2), decide_eq_decide.2 (rch_ge h2), decide_eq_decide.2 (rch_ge h1)]
structure LayOk (b : PBx) (fx fy x y : Nat) (l : List PPl) : Prop where
 inn : ∀ q ∈ l, ((fx : Int) ≤ q.x ∧ q.x + sdX b q ≤ fx + x) ∧ (fy : Int) ≤ q.y ∧ q.y + sdY b q ≤ fy + y
 off : l.Pairwise fun q r => comI b r q ≤ 0
theorem off_x {b : PBx} {q r : PPl} (h : q.x + sdX b q ≤ r.x ∨ q.y + sdY b q ≤ r.y) : comI b r q ≤ 0 := by
 have hn : ¬ 0 < comI b r q := by
  rw [com_pos, ov_pos, ov_pos]; omega
 omega
theorem lay_ok {b : PBx} {a c : Nat} (ha : 0 < a) (hbl : b.lg = a) (hbw : b.wd = c) : ∀ (f fx fy x y : Nat), x + y < f → (layF a c f fx fy x y).length = mst a c x y ∧ LayOk b fx fy x y (layF a c f fx fy x y)
 | 0, _, _, _, _, h => by omega
 | f + 1, fx, fy, x, y, h => by
  have l1 := rch_le a c x
  have l2 := rch_le a c y
  rw [layF]
  cases cut_ok a c x y with
  | no h0 e =>
   rw [mst_no h0, e, if_pos rfl]
   exact ⟨rfl, fun q hq => (by cases hq), .nil⟩
  | one h0 e =>
   rw [mst, e, if_neg (by decide)]
   refine ⟨rfl, fun q hq => ?_, List.pairwise_singleton _ _⟩
   rw [fit_rch ha] at h0
   obtain rfl := List.mem_singleton.1 hq
   simp only [fitB, Bool.or_eq_true, Bool.and_eq_true, decide_eq_true_eq] at h0
   by_cases hf : a ≤ x ∧ c ≤ y
   ·simp only [sdX, sdY, decide_eq_true hf.1, decide_eq_true hf.2, Bool.and_self, Bool.not_true, Bool.false_eq_true, if_false]
    omega
   ·have hff : (decide (a ≤ x) && decide (c ≤ y)) = false := by
     rw [Bool.and_eq_false_iff, decide_eq_false_iff_not, decide_eq_false_iff_not]; omega
    simp only [sdX, sdY, hff, Bool.not_false, if_true]
    omega
  | two l h0 e hl h1 e2 =>
   have hn : ¬ (cutI a c x y).n = 0 := by
    have : 1 ≤ (cutI a c x y).n := h1
    omega
   rw [if_neg hn, e, e2]
   dsimp only
   have hls := ln_less hl
   obtain ⟨d, v⟩ := l
   have hh := hl.half
   have hp := hl.pos
   obtain ⟨i1, j1⟩ := lay_ok ha hbl hbw f fx fy (oneF (rchF a c x) (rchF a c y) (d, v)).1 (oneF (rchF a c x) (rchF a c y) (d, v)).2 (by omega)
   obtain ⟨i2, j2⟩ := lay_ok ha hbl hbw f (fx + if d then 0 else v) (fy + if d then v else 0) (twoF (rchF a c x) (rchF a c y) (d, v)).1 (twoF (rchF a c x) (rchF a c y) (d, v)).2 (by omega)
   refine ⟨by rw [List.length_append, i1, i2], fun q hq => ?_, List.pairwise_append.2 ⟨j1.off, j2.off, fun q hq r hr => off_x ?_⟩⟩
   ·rcases List.mem_append.1 hq with hq | hq
    ·have := j1.inn q hq
     cases d <;> simp [oneF] at this hh <;> omega
    ·have := j2.inn q hq
     cases d <;> simp [twoF] at this hh <;> omega
   ·have g1 := j1.inn q hq
    have g2 := j2.inn r hr
    cases d
    ·simp [oneF, twoF] at g1 g2 hh; omega
    ·simp [oneF, twoF] at g1 g2 hh; omega
end Go.Dw.Seat
end
section
set_option linter.unusedSimpArgs false
set_option maxRecDepth 100000
namespace Go.Dw.Seat
open Go Go.Dw Go.IntWalk
abbrev CMemo := List ((Nat × Nat) × Cut)
def cFind : CMemo → Nat × Nat → Option Cut
 | [], _ => none
 | p :: t, k => if k = p.1 then some p.2 else cFind t k
def cUpd : CMemo → Nat × Nat → Cut → CMemo
 | [], k, v => [(k, v)]
 | p :: t, k, v => if k = p.1 then (k, v) :: t else p :: cUpd t k v
theorem cFind_upd {k j : Nat × Nat} {v : Cut} : ∀ M : CMemo, cFind (cUpd M k v) j = if j = k then some v else cFind M j
 | [] => by simp only [cUpd, cFind]
 | p :: t => by
  simp only [cUpd]
  by_cases h : k = p.1
  ·rw [if_pos h]
   simp only [cFind]
   by_cases h2 : j = k
   ·rw [if_pos h2, if_pos h2]
   ·rw [if_neg h2, if_neg h2, if_neg (by rw [← h]; exact h2)]
  ·rw [if_neg h]
   simp only [cFind, cFind_upd t]
   by_cases h2 : j = p.1
   ·rw [if_pos h2, if_neg (by rw [h2]; exact fun e => h e.symm), if_pos h2]
   ·rw [if_neg h2, if_neg h2]
def stepM (rec : Nat → Nat → CMemo → Cut × CMemo) (x y : Nat) (s : Cut × CMemo) (l : Ln) : Cut × CMemo :=
 (if s.1.n < (rec (oneF x y l).1 (oneF x y l).2 s.2).1.n + (rec (twoF x y l).1 (twoF x y l).2 (rec (oneF x y l).1 (oneF x y l).2 s.2).2).1.n then ⟨(rec (oneF x y l).1 (oneF x y l).2 s.2).1.n + (rec (twoF x y l).1 (twoF x y l).2 (rec (oneF x y l).1 (oneF x y l).2 s.2).2).1.n, some l⟩ else s.1, (rec (twoF x y l).1 (twoF x y l).2 (rec (oneF x y l).1 (oneF x y l).2 s.2).2).2)
def cutM (a c : Nat) : Nat → Nat → Nat → CMemo → Cut × CMemo
 | 0, _, _, M => (⟨0, none⟩, M)
 | f + 1, x, y, M => match cFind M (rchF a c x, rchF a c y) with
  | some v => (v, M)
  | none =>
   let s := if fitB a c (rchF a c x) (rchF a c y) then (lnsF a c (rchF a c x) (rchF a c y)).foldl (stepM (cutM a c f) (rchF a c x) (rchF a c y)) (⟨1, none⟩, M) else (⟨0, none⟩, M)
   (s.1, cUpd s.2 (rchF a c x, rchF a c y) s.1)
def MOk (a c : Nat) (M : CMemo) : Prop := ∀ k v, cFind M k = some v → v = cutI a c k.1 k.2
theorem foldM_ok {a c f x y : Nat} (hrec : ∀ u v M, u + v < x + y → MOk a c M → (cutM a c f u v M).1 = cutI a c u v ∧ MOk a c (cutM a c f u v M).2) : ∀ (ls : List Ln) (b : Cut) (M : CMemo), (∀ l ∈ ls, IsLn a c x y l) → MOk a c M →
  (ls.foldl (stepM (cutM a c f) x y) (b, M)).1 = ls.foldl (stepC (mst a c) x y) b ∧ MOk a c (ls.foldl (stepM (cutM a c f) x y) (b, M)).2
 | [], b, M, _, hM => ⟨rfl, hM⟩
 | l :: ls, b, M, h, hM => by
  have hl := ln_less (h l (by simp))
  obtain ⟨h1, h2⟩ := hrec (oneF x y l).1 (oneF x y l).2 M hl.1 hM
  obtain ⟨h3, h4⟩ := hrec (twoF x y l).1 (twoF x y l).2 _ hl.2 h2
  rw [List.foldl_cons, List.foldl_cons]
  have e : stepM (cutM a c f) x y (b, M) l = (stepC (mst a c) x y b l, (cutM a c f (twoF x y l).1 (twoF x y l).2 (cutM a c f (oneF x y l).1 (oneF x y l).2 M).2).2) := by
   unfold stepM stepC mst
   dsimp only
   rw [h1, h3]
  rw [e]
  exact foldM_ok hrec ls _ _ (fun t ht => h t (by simp [ht])) h4
theorem cutM_ok (a c : Nat) : ∀ (f x y : Nat) (M : CMemo), x + y < f → MOk a c M → (cutM a c f x y M).1 = cutI a c x y ∧ MOk a c (cutM a c f x y M).2
 | 0, _, _, _, h, _ => by omega
 | f + 1, x, y, M, h, hM => by
  have l1 := rch_le a c x
  have l2 := rch_le a c y
  rw [cutM]
  cases hf : cFind M (rchF a c x, rchF a c y) with
  | some v =>
   dsimp only
   exact ⟨by rw [hM _ _ hf]; exact cutI_rch a c x y, hM⟩
  | none =>
   dsimp only
   have upd : ∀ {v : Cut} {M' : CMemo}, v = cutI a c x y → MOk a c M' → MOk a c (cUpd M' (rchF a c x, rchF a c y) v) := fun hv hM' k u hk => by
    rw [cFind_upd] at hk
    split at hk
    ·rename_i e
     cases hk
     rw [hv, e]
     exact (cutI_rch a c x y).symm
    ·exact hM' k u hk
   have e := cutI_eq a c x y
   cases hfit : fitB a c (rchF a c x) (rchF a c y) with
   | false =>
    rw [hfit, if_neg Bool.false_ne_true] at e
    rw [if_neg Bool.false_ne_true]
    exact ⟨e.symm, upd e.symm hM⟩
   | true =>
    rw [hfit, if_pos rfl] at e
    rw [if_pos rfl]
    obtain ⟨h1, h2⟩ := foldM_ok (a := a) (c := c) (f := f) (x := rchF a c x) (y := rchF a c y) (fun u v M' huv hM' => cutM_ok a c f u v M' (by omega) hM') (lnsF a c (rchF a c x) (rchF a c y)) ⟨1, none⟩ M (fun l hl => lns_mem.1 hl) hM
    rw [← e] at h1
    exact ⟨h1, upd h1 h2⟩
theorem mok_nil (a c : Nat) : MOk a c [] := fun k v h => by cases h
end Go.Dw.Seat
end
section
set_option linter.unusedSimpArgs false
set_option maxRecDepth 100000
namespace Go.Dw.Seat
open Go Go.Dw Go.Proofs Go.IntWalk
def lnS : Option Ln → Int
 | none => -1
 | some l => sdI l.1
def lnA : Option Ln → Nat
 | none => 0
 | some l => l.2
abbrev cutV (v : Cut) : D := .agg [dI v.n, dI (lnS v.ln), dI (lnA v.ln)]
abbrev ckV (k : Nat × Nat) : Value := .agg #[.int .i64 k.1, .int .i64 k.2]
def cK (M : CMemo) : List Value := M.map fun p => ckV p.1
def cD (M : CMemo) : List D := M.map fun p => cutV p.2
theorem cK_ok (X Y : Nat) (M : CMemo) : keysOK (.arr .i64 2) (.agg #[.int .i64 X, .int .i64 Y]) (cK M) = true := by
 simp only [keysOK, cK, List.all_map, Bool.and_eq_true, List.all_eq_true]
 exact ⟨rfl, fun p _ => rfl⟩
theorem findL_cK (s : Nat × Nat) : ∀ (M : CMemo) (n : Nat), (match cFind M s with
  | some b => ∃ i, findL (ckV s) (cK M) n = some (n + i) ∧ (cD M)[i]? = some (cutV b) ∧ ∀ c, (cK M).set i (ckV s) = cK (cUpd M s c) ∧ (cD M).set i (cutV c) = cD (cUpd M s c)
  | none => findL (ckV s) (cK M) n = none ∧ ∀ c, cK M ++ [ckV s] = cK (cUpd M s c) ∧ cD M ++ [cutV c] = cD (cUpd M s c))
 | [], n => ⟨rfl, fun c => ⟨rfl, rfl⟩⟩
 | p :: t, n => by
  have ih := findL_cK s t (n + 1)
  simp only [cFind, cUpd]
  by_cases h : s = p.1
  ·rw [if_pos h]
   have hk : keyEq (ckV s) (ckV p.1) = true := by simp [keyEq, eqVs, h]
   refine ⟨0, ?_, rfl, fun c => ?_⟩
   ·simp only [cK, List.map_cons, findL, hk, if_true]; rfl
   ·simp only [if_pos h]
    exact ⟨rfl, rfl⟩
  ·rw [if_neg h]
   have hk : keyEq (ckV s) (ckV p.1) = false := by
    have h' : ¬ (s.1 = p.1.1 ∧ s.2 = p.1.2) := fun e => h (Prod.ext e.1 e.2)
    simp only [keyEq, eqVs, Bool.and_true, Bool.and_eq_false_iff, beq_eq_false_iff_ne]
    omega
   cases hf : cFind t s with
   | some b =>
    rw [hf] at ih
    obtain ⟨i, h1, h2, h3⟩ := ih
    refine ⟨i + 1, ?_, h2, fun c => ?_⟩
    ·have : n + (i + 1) = n + 1 + i := by omega
     rw [this]
     simpa only [cK, List.map_cons, findL, hk, Bool.false_eq_true, if_false] using h1
    ·obtain ⟨h4, h5⟩ := h3 c
     simp only [if_neg h]
     exact ⟨by simpa [cK] using h4, by simpa [cD] using h5⟩
   | none =>
    rw [hf] at ih
    obtain ⟨h1, h3⟩ := ih
    refine ⟨by simpa only [cK, List.map_cons, findL, hk, Bool.false_eq_true, if_false] using h1, fun c => ?_⟩
    obtain ⟨h4, h5⟩ := h3 c
    simp only [if_neg h]
    exact ⟨by simpa [cK] using h4, by simpa [cD] using h5⟩
theorem look_cK (X Y : Nat) (M : CMemo) (z : D) : lookIn z (cK M) (cD M) (.agg #[.int .i64 X, .int .i64 Y]) true = some (.tup [match cFind M (X, Y) with | some b => cutV b | none => z, .c (.v (.bool (cFind M (X, Y)).isSome))]) := by
 have h := findL_cK (X, Y) M 0
 unfold lookIn
 cases hf : cFind M (X, Y) with
 | some b =>
  rw [hf] at h
  obtain ⟨i, h1, h2, _⟩ := h
  rw [Nat.zero_add] at h1
  simp only [h1, h2, commaD, if_true]; rfl
 | none =>
  rw [hf] at h
  simp only [h.1, commaD, if_true]; rfl
theorem upd_cK (X Y : Nat) (M : CMemo) (c : Cut) : updK (cK M) (cD M) (.agg #[.int .i64 X, .int .i64 Y]) (.agg [dI c.n, dI (lnS c.ln), dI (lnA c.ln)]) = (cK (cUpd M (X, Y) c), cD (cUpd M (X, Y) c)) := by
 have h := findL_cK (X, Y) M 0
 unfold updK
 cases hf : cFind M (X, Y) with
 | some b =>
  rw [hf] at h
  obtain ⟨i, h1, h2, h3⟩ := h
  rw [Nat.zero_add] at h1
  simp only [h1, (h3 c).1, (h3 c).2]
 | none =>
  rw [hf] at h
  simp only [h.1, (h.2 c).1, (h.2 c).2]
theorem cD_nb (M : CMemo) : D.nbs (cD M) = true := by
 induction M with
 | nil => rfl
 | cons p m ih => simp only [cD, List.map_cons, D.nbs, Bool.and_eq_true]; exact ⟨rfl, ih⟩
theorem cD_men (k : Nat) (M : CMemo) : D.mens k (cD M) = false := by
 induction M with
 | nil => rfl
 | cons p m ih => simpa [cD, D.mens, D.men, dI] using ih
theorem cD_keys (bx : List (Nat × Blk)) (M : CMemo) : D.keysIns bx (cD M) = true := by
 induction M with
 | nil => rfl
 | cons p m ih => simpa [cD, D.keysIns, D.keysIn, dI] using ih
theorem killB_cD [Lays] (k l : Nat) (ks : List Value) (M : CMemo) : killB k (.pmap l ks (cD M)) = .pmap l ks (cD M) := by
 show Blk.pmap l ks ((cD M).map (killD k)) = _
 rw [map_killD_of (cD_men k M)]
abbrev ctB (lm : Nat) (M : CMemo) : Nat × Blk := (7, .pmap lm (cK M) (cD M))
attribute [go_sem] killB_cD cK_ok look_cK upd_cK cD_men cD_keys ctB sawD sawC
theorem ctB_ok (r : D) (hr : ∀ k, r.men k = false) (lm : Nat) (M : CMemo) : okRes r [ctB lm M] := by
 refine ⟨fun k _ => hr k, fun j x hj k hk => ?_⟩
 simp only [get] at hj
 split at hj
 ·cases hj; exact cD_men k M
 ·cases hj
theorem ctB_nb (lm : Nat) (M : CMemo) {k : Nat} {x : Blk} (hk : get k [ctB lm M] = some x) : k = 7 ∧ x = .pmap lm (cK M) (cD M) ∧ x.nb = true := by
 simp only [get] at hk
 split at hk
 ·rename_i e; cases hk; exact ⟨e, rfl, cD_nb M⟩
 ·cases hk
end Go.Dw.Seat
end
section
set_option linter.unusedSimpArgs false
set_option maxRecDepth 100000
namespace Go.Dw.Seat
open Go Go.Dw Go.Proofs Go.IntWalk
def CutC (p : PBs) (b : PBx) (RX RY : List Int) (nx ny lm f : Nat) : Prop := ∀ X Y M, MOk (bLg b) (bWd b) M → X ≤ nx → Y ≤ ny → X + Y < f → DCall Try.prog 65 [sawD p b RX RY lm, rctD X Y] [ctB lm M] (cutV (cutI (bLg b) (bWd b) X Y)) [ctB lm (cutM (bLg b) (bWd b) f X Y M).2]
def stS (a c f X Y : Nat) (s : Cut × CMemo) (l : Ln) : Option Exit × (Cut × CMemo) := (none, stepM (cutM a c f) X Y s l)
theorem st_run (a c f X Y : Nat) : ∀ (L : List Ln) (s : Cut × CMemo), runIt (stS a c f X Y) s L = (none, L.foldl (stepM (cutM a c f) X Y) s)
 | [], _ => rfl
 | l :: L, s => by simp only [runIt, stS, List.foldl_cons]; exact st_run a c f X Y L _
theorem one_le {a c X Y : Nat} {l : Ln} (h : l ∈ lnsF a c X Y) : ((oneF X Y l).1 ≤ X ∧ (oneF X Y l).2 ≤ Y) ∧ ((twoF X Y l).1 ≤ X ∧ (twoF X Y l).2 ≤ Y) ∧ l.2 ≤ if l.1 then Y else X := by
 have h1 := (lns_mem.1 h).half
 obtain ⟨s, t⟩ := l
 cases s <;> simp [oneF, twoF] at h1 ⊢ <;> omega
theorem mst_xy {a c : Nat} (ha : 0 < a) (hc : 0 < c) {x y : Nat} (hx : x ≤ 140) (hy : y ≤ 140) : mst a c x y ≤ 19600 := by
 have h1 := mst_bnd ha hc x y
 have h2 := Nat.div_le_self (rchF a c x * rchF a c y) (a * c)
 have h3 : rchF a c x * rchF a c y ≤ 140 * 140 := Nat.mul_le_mul (Nat.le_trans (rch_le a c x) hx) (Nat.le_trans (rch_le a c y) hy)
 unfold bndF at h1
 omega
set_option maxHeartbeats 4000000 in
theorem plCut1 (p : PBs) (b : PBx) (hb : b.ok) (RX RY : List Int) (nx ny : Nat) (hrx : Rch (bLg b) (bWd b) RX nx) (hry : Rch (bLg b) (bWd b) RY ny) (hnx : nx ≤ 140) (hny : ny ≤ 140) (lm f : Nat) (ih : CutC p b RX RY nx ny lm f) : CutC p b RX RY nx ny lm (f + 1) := by
 intro X Y M hMO hX hY hf
 have ha : 0 < bLg b := by have := hb.lg; show 0 < b.lg.toNat; omega
 have hc : 0 < bWd b := by have := hb.wd; show 0 < b.wd.toNat; omega
 rw [← (cutM_ok (bLg b) (bWd b) (f + 1) X Y M hf hMO).1]
 have hl1 := rch_le (bLg b) (bWd b) X
 have hl2 := rch_le (bLg b) (bWd b) Y
 have hgx := hrx.get X hX
 have hgy := hry.get Y hY
 have hlx := hrx.len
 have hly := hry.len
 have hiX : (X < nx + 1) = True := eq_true (by omega)
 have hiY : (Y < ny + 1) = True := eq_true (by omega)
 have hfits := plFits p b hb RX RY lm (rchF (bLg b) (bWd b) X) (rchF (bLg b) (bWd b) Y)
 have hsnd := fitT_snd (bLg b) (bWd b) (rchF (bLg b) (bWd b) X) (rchF (bLg b) (bWd b) Y)
 have hlines := plLines p b RX RY lm (rchF (bLg b) (bWd b) X) (rchF (bLg b) (bWd b) Y)
 have hit := plLines1 p b RX RY nx ny hrx hry (by omega) (by omega) lm (rchF (bLg b) (bWd b) X) (rchF (bLg b) (bWd b) Y) (by omega) (by omega)
 rw [cutM]
 unfold CutC at ih
 generalize bLg b = a at *
 generalize bWd b = c at *
 have hone := fun l => one_le (a := a) (c := c) (X := rchF a c X) (Y := rchF a c Y) (l := l)
 have hless := fun l (h : l ∈ lnsF a c (rchF a c X) (rchF a c Y)) => ln_less (lns_mem.1 h)
 generalize rchF a c X = X' at *
 generalize rchF a c Y = Y' at *
 refine DCall.of Try.func65 sf65 hb65 (Nat.le_of_ble_eq_true rfl) (ctB_ok _ (fun _ => rfl) _ _) ?_
 simp only [s65, o65_0, o65_1, o65_2, o65_3, o65_4, o65_5, o65_6, o65_7, o65_8, o65_9, o65_10, o65_11, o65_12, o65_13, o65_14, o65_15, o65_16, o65_17, o65_18, o65_19, idxs, Nat.reduceAdd]
 repeat' (first|(with_reducible first|apply qA|apply qB|apply qC|apply qD|apply qE|apply qF)|(refine qL rfl (WF.of ?_) ?_; first|rfl|skip)|(refine DW.ord rfl (WF.of (by first|rfl|simp (disch:=omega) only [go_sem, simprocAttr, qN, qO, qP, qQ])) ?_ ?_ ?_; rotate_left)|rfl|(with_reducible refine And.intro ?_ ?_)|(simp (disch:=omega) only [go_sem, simprocAttr, qN, qO, qP, qQ])|exact qM rfl rfl rfl|(refine qG rfl ?_)|(refine qH rfl ?_)|(refine qI rfl ?_ ?_<;>intro hc<;>(try simp only [go_sem] at hc))|(refine qJ ?_ ?_<;>intro hc<;>(try simp only [hc])<;>(try simp only [go_sem] at hc)))
 obtain ⟨r0, hr0⟩ : ∃ r : Nat → Nat, r 0 = X ∧ r 1 = X' ∧ r 2 = X' := ⟨fun k => if k = 0 then X else X', rfl, rfl, rfl⟩
 obtain ⟨r1, hr1⟩ : ∃ r : Nat → Nat, r 0 = Y ∧ r 1 = Y ∧ r 2 = Y' := ⟨fun k => if k ≤ 1 then Y else Y', rfl, rfl, rfl⟩
 refine DW.loop (ι := { k : Nat // k ≤ 2 }) (fun k => ⟨86, [(15, dI k.1), (4, .box 4 0), (3, .box 3 0), (2, .box 2 0)], [ctB lm M, (4, .box [dI 0, dI 0, dI 0]), (3, .box [dI (r0 k.1), dI (r1 k.1)]), (2, .box [sawD p b RX RY lm])]⟩) (fun k => 2 - k.1) ⟨0, by decide⟩ ?_ ?_
 ·refine Ent.to ?_ ?_ <;> simp (disch:=omega) only [qR,qS,qTw,qU,get,Nat.reduceEqDiff,↓reduceIte,qV,qW,qX,qY,qZ,and_self,dI,i64_in,and_true,true_and,rA,rB,rC,rD,hr0.1,hr1.1]
  all_goals first | exact ⟨.refl _, .refl _, .refl _⟩ | exact ⟨.refl _, .refl _⟩ | exact .refl _
 rintro ⟨k, hk⟩
 dsimp only
 match k, hk with
 | 0, _ =>
  rw [hr0.1, hr1.1]
  repeat' (first|(with_reducible first|apply qA|apply qB|apply qC|apply qD|apply qE|apply qF)|(refine qL rfl (WF.of ?_) ?_; first|rfl|skip)|(refine DW.ord rfl (WF.of (by first|rfl|simp (disch:=omega) only [go_sem, simprocAttr, qN, qO, qP, qQ, hgx, hlx, hiX, rF, rG])) ?_ ?_ ?_; rotate_left)|rfl|(with_reducible refine And.intro ?_ ?_)|(simp (disch:=omega) only [go_sem, simprocAttr, qN, qO, qP, qQ, hgx, hlx, hiX, rF, rG])|exact qM rfl rfl rfl|(refine qG rfl ?_)|(refine qH rfl ?_)|(refine qI rfl ?_ ?_<;>intro hc<;>(try simp only [go_sem] at hc))|(refine qJ ?_ ?_<;>intro hc<;>(try simp only [hc])<;>(try simp only [go_sem] at hc)))
  refine ⟨⟨1, by decide⟩, ?_, Ent.to ?_ ?_⟩ <;> first | (show _ < _; (try simp only); omega) | (simp (disch:=omega) only [qR,qS,qTw,qU,get,Nat.reduceEqDiff,↓reduceIte,qV,qW,qX,qY,qZ,and_self,dI,i64_in,and_true,true_and,rA,rB,rC,rD, hr0.2.1,hr1.2.1])
  all_goals first | exact ⟨.refl _, .refl _, .refl _⟩ | exact ⟨.refl _, .refl _⟩ | exact .refl _
 | 1, _ =>
  rw [hr0.2.1, hr1.2.1]
  repeat' (first|(with_reducible first|apply qA|apply qB|apply qC|apply qD|apply qE|apply qF)|(refine qL rfl (WF.of ?_) ?_; first|rfl|skip)|(refine DW.ord rfl (WF.of (by first|rfl|simp (disch:=omega) only [go_sem, simprocAttr, qN, qO, qP, qQ, hgy, hly, hiY, rF, rG])) ?_ ?_ ?_; rotate_left)|rfl|(with_reducible refine And.intro ?_ ?_)|(simp (disch:=omega) only [go_sem, simprocAttr, qN, qO, qP, qQ, hgy, hly, hiY, rF, rG])|exact qM rfl rfl rfl|(refine qG rfl ?_)|(refine qH rfl ?_)|(refine qI rfl ?_ ?_<;>intro hc<;>(try simp only [go_sem] at hc))|(refine qJ ?_ ?_<;>intro hc<;>(try simp only [hc])<;>(try simp only [go_sem] at hc)))
  refine ⟨⟨2, by decide⟩, ?_, Ent.to ?_ ?_⟩ <;> first | (show _ < _; (try simp only); omega) | (simp (disch:=omega) only [qR,qS,qTw,qU,get,Nat.reduceEqDiff,↓reduceIte,qV,qW,qX,qY,qZ,and_self,dI,i64_in,and_true,true_and,rA,rB,rC,rD, hr0.2.2,hr1.2.2])
  all_goals first | exact ⟨.refl _, .refl _, .refl _⟩ | exact ⟨.refl _, .refl _⟩ | exact .refl _
 | 2, _ =>
  rw [hr0.2.2, hr1.2.2]
  clear hr0 hr1 hgx hgy hlx hly hiX hiY
  cases hm : cFind M (X', Y') with
  | some v =>
   repeat' (first|(with_reducible first|apply qA|apply qB|apply qC|apply qD|apply qE|apply qF)|(refine qL rfl (WF.of ?_) ?_; first|rfl|skip)|(refine DW.ord rfl (WF.of (by first|rfl|simp (disch:=omega) only [go_sem, simprocAttr, qN, qO, qP, qQ, hm, Option.isSome_some, rF, rG])) ?_ ?_ ?_; rotate_left)|rfl|(with_reducible refine And.intro ?_ ?_)|(simp (disch:=omega) only [go_sem, simprocAttr, qN, qO, qP, qQ, hm, Option.isSome_some, rF, rG])|exact qM rfl rfl rfl|(refine qG rfl ?_)|(refine qH rfl ?_)|(refine qI rfl ?_ ?_<;>intro hc<;>(try simp only [go_sem] at hc))|(refine qJ ?_ ?_<;>intro hc<;>(try simp only [hc])<;>(try simp only [go_sem] at hc)))
   exact retS_bs rfl rfl rfl (fun j x hj => by
    obtain ⟨rfl, rfl, hn⟩ := ctB_nb lm M hj
    exact ⟨rfl, hn⟩)
  | none =>
   generalize fitT a c X' Y' = ft at *
   obtain ⟨ft1, ft2⟩ := ft
   dsimp only at hsnd hfits ⊢
   rw [← hsnd]
   clear hsnd
   cases ft2 with
   | false =>
    rw [if_neg Bool.false_ne_true]
    dsimp only
    have hupd : updK (cK M) (cD M) (.agg #[.int .i64 X', .int .i64 Y']) (.agg [dI 0, dI (-1), dI 0]) = (cK (cUpd M (X', Y') ⟨0, none⟩), cD (cUpd M (X', Y') ⟨0, none⟩)) := upd_cK X' Y' M ⟨0, none⟩
    repeat' (first|(with_reducible first|apply qA|apply qB|apply qC|apply qD|apply qE|apply qF)|(refine qL rfl (WF.of ?_) ?_; first|rfl|skip)|(refine DW.ord rfl (WF.of (by first|rfl|simp (disch:=omega) only [go_sem, simprocAttr, qN, qO, qP, qQ, hm, Option.isSome_none, hupd, rF, rG])) ?_ ?_ ?_; rotate_left)|rfl|(with_reducible refine And.intro ?_ ?_)|(simp (disch:=omega) only [go_sem, simprocAttr, qN, qO, qP, qQ, hm, Option.isSome_none, hupd, rF, rG])|exact qM rfl rfl rfl|(refine qG rfl ?_)|(refine qK (hfits) (by decide) ?_)|(refine qH rfl ?_)|(refine qI rfl ?_ ?_<;>intro hc<;>(try simp only [go_sem] at hc))|(refine qJ ?_ ?_<;>intro hc<;>(try simp only [hc])<;>(try simp only [go_sem] at hc)))
    exact retS_bs rfl rfl rfl (fun j x hj => by
     obtain ⟨rfl, rfl, hn⟩ := ctB_nb lm _ hj
     exact ⟨rfl, hn⟩)
   | true =>
    rw [if_pos rfl]
    repeat' (first|(with_reducible first|apply qA|apply qB|apply qC|apply qD|apply qE|apply qF)|(refine qL rfl (WF.of ?_) ?_; first|rfl|skip)|(refine DW.ord rfl (WF.of (by first|rfl|simp (disch:=omega) only [go_sem, simprocAttr, qN, qO, qP, qQ, hm, Option.isSome_none, rF, rG])) ?_ ?_ ?_; rotate_left)|rfl|(with_reducible refine And.intro ?_ ?_)|(simp (disch:=omega) only [go_sem, simprocAttr, qN, qO, qP, qQ, hm, Option.isSome_none, rF, rG])|exact qM rfl rfl rfl|(refine qG rfl ?_)|(refine qK (hfits) (by decide) ?_)|(refine qK (hlines) (by decide) ?_)|(refine qH rfl ?_)|(refine qI rfl ?_ ?_<;>intro hc<;>(try simp only [go_sem] at hc))|(refine qJ ?_ ?_<;>intro hc<;>(try simp only [hc])<;>(try simp only [go_sem] at hc)))
    have htM : ∀ l ∈ lnsF a c X' Y', ∀ M1, MOk a c M1 → ((cutM a c f (oneF X' Y' l).1 (oneF X' Y' l).2 M1).1 = cutI a c (oneF X' Y' l).1 (oneF X' Y' l).2 ∧ MOk a c (cutM a c f (oneF X' Y' l).1 (oneF X' Y' l).2 M1).2) ∧ (cutM a c f (twoF X' Y' l).1 (twoF X' Y' l).2 (cutM a c f (oneF X' Y' l).1 (oneF X' Y' l).2 M1).2).1 = cutI a c (twoF X' Y' l).1 (twoF X' Y' l).2 ∧ MOk a c (cutM a c f (twoF X' Y' l).1 (twoF X' Y' l).2 (cutM a c f (oneF X' Y' l).1 (oneF X' Y' l).2 M1).2).2 := fun l hl M1 h1 => by
     have hle := hless l hl
     have e1 := cutM_ok a c f (oneF X' Y' l).1 (oneF X' Y' l).2 M1 (by omega) h1
     exact ⟨e1, cutM_ok a c f (twoF X' Y' l).1 (twoF X' Y' l).2 _ (by omega) e1.2⟩
    refine DW.ent (σ' := ⟨86, [(55, .fn (.func 126) [] [.c (.ro false [.v (.int .i64 X'), .v (.int .i64 Y')] 0), .c (.ro false [sawC p b RX RY lm] 0)]), (8, .box 8 0), (4, .box 4 0), (3, .box 3 0), (2, .box 2 0)], [ctB lm M, (8, .box [dI 1, dI (-1), dI 0]), (4, .box [dI 0, dI 0, dI 0]), (3, .box [dI X', dI Y']), (2, .box [sawD p b RX RY lm])]⟩) (Ent.to ?_ ?_) ?_
    ·simp (disch:=omega) only [qR,qS,qTw,qU,get,Nat.reduceEqDiff,↓reduceIte,qV,qW,qX,qY,qZ,and_self,dI,i64_in,and_true,true_and,rA,rB,rC,rD]
    ·simp (disch:=omega) only [qR,qS,qTw,qU,get,Nat.reduceEqDiff,↓reduceIte,qV,qW,qX,qY,qZ,and_self,dI,i64_in,and_true,true_and,rA,rB,rC,rD]
    refine DW.rngBS (fs := []) (caps := [.c (.ro false [.v (.int .i64 X'), .v (.int .i64 Y')] 0), .c (.ro false [sawC p b RX RY lm] 0)]) (fun y : Cut × CMemo => [ctB lm y.2, (8, .box [dI y.1.n, dI (lnS y.1.ln), dI (lnA y.1.ln)]), (4, .box [dI 0, dI 0, dI 0]), (3, .box [dI X', dI Y']), (2, .box [sawD p b RX RY lm])]) (⟨1, none⟩, M) (stS a c f X' Y') enL (fun l => l ∈ lnsF a c X' Y') (lnsF a c X' Y') hit (fun _ y => MOk a c y.2) hMO (fun y l t hy hl _ => (htM l hl y.2 hy).2.2) rfl (fun _ => ⟨rfl, rfl⟩) rfl (by decide) (fun _ _ => rfl) (fun _ _ _ => rfl) (by simp only [List.map_cons, List.map_nil]; decide) (fun _ => rfl) (fun y => by show (_ && (D.keysIns _ (cD y.2) && _)) = true; rw [cD_keys]; rfl) (fun y => by show (D.nbs (cD y.2) && _) = true; rw [cD_nb, Bool.true_and]; exact (by simp only [List.all_cons, List.all_nil, Blk.nb, rowC_nb, D.nb, D.nbs, C.nb, C.nbs, C.nbss, rows_nb eI_nb, Bool.and_true, Bool.not_false, Bool.and_self, bD, dI, iD])) (by simp only [List.all_cons, List.all_nil, Blk.nb, rowC_nb, D.nb, D.nbs, C.nb, C.nbs, C.nbss, rows_nb eI_nb, Bool.and_true, Bool.not_false, Bool.and_self, bD, dI, iD]) (fun _ _ => rfl) ?_ ?_
    ·rintro ⟨y, M1⟩ l t hM1 hl v
     dsimp only at hM1
     obtain ⟨⟨e1, hM2⟩, e2, hM3⟩ := htM l hl M1 hM1
     have hle := hless l hl
     obtain ⟨hl1, hl2, hl3⟩ := hone l hl
     have hparts := plLnParts X' Y' l (by omega) (by omega) hl3
     have h1 := ih (oneF X' Y' l).1 (oneF X' Y' l).2 M1 hM1 (by omega) (by omega) (by omega)
     have h2 := ih (twoF X' Y' l).1 (twoF X' Y' l).2 _ hM2 (by omega) (by omega) (by omega)
     have b1 := mst_xy ha hc (x := (oneF X' Y' l).1) (y := (oneF X' Y' l).2) (by omega) (by omega)
     have b2 := mst_xy ha hc (x := (twoF X' Y' l).1) (y := (twoF X' Y' l).2) (by omega) (by omega)
     rw [mst] at b1 b2
     have hS : stS a c f X' Y' (y, M1) l = (none, (if y.n < (cutI a c (oneF X' Y' l).1 (oneF X' Y' l).2).n + (cutI a c (twoF X' Y' l).1 (twoF X' Y' l).2).n then ⟨(cutI a c (oneF X' Y' l).1 (oneF X' Y' l).2).n + (cutI a c (twoF X' Y' l).1 (twoF X' Y' l).2).n, some l⟩ else y, (cutM a c f (twoF X' Y' l).1 (twoF X' Y' l).2 (cutM a c f (oneF X' Y' l).1 (oneF X' Y' l).2 M1).2).2)) := by
      unfold stS stepM
      dsimp only
      rw [e1, e2]
     rw [hS]
     clear hS e1 e2 htM hone hless hit ih
     generalize (cutM a c f (twoF X' Y' l).1 (twoF X' Y' l).2 (cutM a c f (oneF X' Y' l).1 (oneF X' Y' l).2 M1).2).2 = M3 at *
     generalize (cutM a c f (oneF X' Y' l).1 (oneF X' Y' l).2 M1).2 = M2 at *
     generalize cutI a c (oneF X' Y' l).1 (oneF X' Y' l).2 = C1 at *
     generalize cutI a c (twoF X' Y' l).1 (twoF X' Y' l).2 = C2 at *
     generalize (oneF X' Y' l).1 = o1 at *
     generalize (oneF X' Y' l).2 = o2 at *
     generalize (twoF X' Y' l).1 = q1 at *
     generalize (twoF X' Y' l).2 = q2 at *
     simp (disch:=omega) only [go_sem,simprocAttr,qN,qO,qP,qQ,rF,rG,enL]
     by_cases hlt : y.n < C1.n + C2.n
     ·have hd : decide ((y.n : Int) < (C1.n : Int) + (C2.n : Int)) = true := decide_eq_true (by omega)
      rw [if_pos hlt]
      repeat' (first|(with_reducible first|apply qA|apply qB|apply qC|apply qD|apply qE|apply qF)|(refine qL rfl (WF.of ?_) ?_; first|rfl|skip)|(refine DW.ord rfl (WF.of (by first|rfl|simp (disch:=omega) only [go_sem, simprocAttr, qN, qO, qP, qQ, rF, rG, del, cD_keys, hd, Bool.and_self, Bool.and_true, Bool.true_and])) ?_ ?_ ?_; rotate_left)|rfl|(with_reducible refine And.intro ?_ ?_)|(simp (disch:=omega) only [go_sem, simprocAttr, qN, qO, qP, qQ, rF, rG, del, cD_keys, hd, Bool.and_self, Bool.and_true, Bool.true_and])|exact qM rfl rfl rfl|(refine qG rfl ?_)|(refine qK (hparts) (by decide) ?_)|(refine call_hk 7 (h1) rfl rfl rfl (by simp (disch:=omega) only [go_sem, simprocAttr, qN, qO, qP, qQ, del]) (by decide) ?_)|(refine call_hk 7 (h2) rfl rfl rfl (by simp (disch:=omega) only [go_sem, simprocAttr, qN, qO, qP, qQ, del]) (by decide) ?_)|(refine qH rfl ?_)|(refine qI rfl ?_ ?_<;>intro hc<;>(try simp only [go_sem] at hc))|(refine qJ ?_ ?_<;>intro hc<;>(try simp only [hc])<;>(try simp only [go_sem] at hc)))
      refine round_end rfl rfl (Ent.to ?_ ?_) <;> simp (disch:=omega) only [qR,qS,qTw,qU,get,Nat.reduceEqDiff,↓reduceIte,qV,qW,qX,qY,qZ,and_self,dI,i64_in,and_true,true_and,rA,rB,rC,rD,capB,List.cons_append,List.nil_append,lnS,lnA,rA]
      all_goals first | exact ⟨.refl _, .refl _, .refl _⟩ | exact ⟨.refl _, .refl _⟩ | exact .refl _
     ·have hd : decide ((y.n : Int) < (C1.n : Int) + (C2.n : Int)) = false := decide_eq_false (by omega)
      rw [if_neg hlt]
      repeat' (first|(with_reducible first|apply qA|apply qB|apply qC|apply qD|apply qE|apply qF)|(refine qL rfl (WF.of ?_) ?_; first|rfl|skip)|(refine DW.ord rfl (WF.of (by first|rfl|simp (disch:=omega) only [go_sem, simprocAttr, qN, qO, qP, qQ, rF, rG, del, cD_keys, hd, Bool.and_self, Bool.and_true, Bool.true_and])) ?_ ?_ ?_; rotate_left)|rfl|(with_reducible refine And.intro ?_ ?_)|(simp (disch:=omega) only [go_sem, simprocAttr, qN, qO, qP, qQ, rF, rG, del, cD_keys, hd, Bool.and_self, Bool.and_true, Bool.true_and])|exact qM rfl rfl rfl|(refine qG rfl ?_)|(refine qK (hparts) (by decide) ?_)|(refine call_hk 7 (h1) rfl rfl rfl (by simp (disch:=omega) only [go_sem, simprocAttr, qN, qO, qP, qQ, del]) (by decide) ?_)|(refine call_hk 7 (h2) rfl rfl rfl (by simp (disch:=omega) only [go_sem, simprocAttr, qN, qO, qP, qQ, del]) (by decide) ?_)|(refine qH rfl ?_)|(refine qI rfl ?_ ?_<;>intro hc<;>(try simp only [go_sem] at hc))|(refine qJ ?_ ?_<;>intro hc<;>(try simp only [hc])<;>(try simp only [go_sem] at hc)))
      refine round_end rfl rfl (Ent.to ?_ ?_) <;> simp (disch:=omega) only [qR,qS,qTw,qU,get,Nat.reduceEqDiff,↓reduceIte,qV,qW,qX,qY,qZ,and_self,dI,i64_in,and_true,true_and,rA,rB,rC,rD,capB,List.cons_append,List.nil_append]
    ·rw [st_run]
     generalize (lnsF a c X' Y').foldl (stepM (cutM a c f) X' Y') (⟨1, none⟩, M) = R at *
     obtain ⟨v, M3⟩ := R
     dsimp only
     simp (disch:=omega) only [go_sem,simprocAttr,qN,qO,qP,qQ,Option.getD_none]
     have hupd := upd_cK X' Y' M3 v
     repeat' (first|(with_reducible first|apply qA|apply qB|apply qC|apply qD|apply qE|apply qF)|(refine qL rfl (WF.of ?_) ?_; first|rfl|skip)|(refine DW.ord rfl (WF.of (by first|rfl|simp (disch:=omega) only [go_sem, simprocAttr, qN, qO, qP, qQ, hupd, rF, rG])) ?_ ?_ ?_; rotate_left)|rfl|(with_reducible refine And.intro ?_ ?_)|(simp (disch:=omega) only [go_sem, simprocAttr, qN, qO, qP, qQ, hupd, rF, rG])|exact qM rfl rfl rfl|(refine qG rfl ?_)|(refine qH rfl ?_)|(refine qI rfl ?_ ?_<;>intro hc<;>(try simp only [go_sem] at hc))|(refine qJ ?_ ?_<;>intro hc<;>(try simp only [hc])<;>(try simp only [go_sem] at hc)))
     exact retS_bs rfl rfl rfl (fun j x hj => by
      obtain ⟨rfl, rfl, hn⟩ := ctB_nb lm _ hj
      exact ⟨rfl, hn⟩)
theorem plCut (p : PBs) (b : PBx) (hb : b.ok) (RX RY : List Int) (nx ny : Nat) (hrx : Rch (bLg b) (bWd b) RX nx) (hry : Rch (bLg b) (bWd b) RY ny) (hnx : nx ≤ 140) (hny : ny ≤ 140) (lm : Nat) : ∀ f, CutC p b RX RY nx ny lm f
 | 0 => fun _ _ _ _ _ _ h => by omega
 | f + 1 => plCut1 p b hb RX RY nx ny hrx hry hnx hny lm f (plCut p b hb RX RY nx ny hrx hry hnx hny lm f)
end Go.Dw.Seat
end
section
set_option linter.unusedSimpArgs false
set_option maxRecDepth 100000
namespace Go.Dw.Seat
open Go Go.Dw Go.Proofs Go.IntWalk
abbrev sawCL (lab : Bool) (p : PBs) (b : PBx) (RX RY : List Int) (lm : Nat) : D := .c (.ro lab [.v (.int .i64 p.lg), .v (.int .i64 p.wd), .v (.int .i64 p.hi), .v (.int .i64 p.ov), .v (.int .i64 p.top), .v (.int .i64 p.load), .v (.int .i64 b.lg), .v (.int .i64 b.wd), .v (.int .i64 b.hi), .v (.int .i64 b.wl), .v (.int .i64 b.wh), .v (.int .i64 b.sl), .v (.int .i64 b.sh), .sl false 1 (rows eI RX), .sl false 1 (rows eI RY), .v (.map (some lm))] 0)
attribute [go_sem] sawCL
theorem cD_pl (M : CMemo) : D.pls (cD M) = true := by
 induction M with
 | nil => rfl
 | cons p m ih => simp only [cD, List.map_cons, D.pls, Bool.and_eq_true]; exact ⟨rfl, ih⟩
theorem pinDs_cD (k p : Nat) (M : CMemo) : pinDs k p (cD M) = cD M := by
 induction M with
 | nil => rfl
 | cons q m ih => simp only [cD, List.map_cons, pinDs] at ih ⊢; rw [ih]; rfl
attribute [go_sem] pinDs_cD
theorem plCutL (lab : Bool) (p : PBs) (b : PBx) (hb : b.ok) (RX RY : List Int) (nx ny : Nat) (hrx : Rch (bLg b) (bWd b) RX nx) (hry : Rch (bLg b) (bWd b) RY ny) (hnx : nx ≤ 140) (hny : ny ≤ 140) (lm X Y : Nat) (hX : X ≤ nx) (hY : Y ≤ ny) (M : CMemo) (hM : MOk (bLg b) (bWd b) M) :
  DCall Try.prog 65 [sawCL lab p b RX RY lm, rctD X Y] [ctB lm M] (cutV (cutI (bLg b) (bWd b) X Y)) [ctB lm (cutM (bLg b) (bWd b) (X + Y + 1) X Y M).2] :=
 DCall.lblM (plCut p b hb RX RY nx ny hrx hry hnx hny lm (X + Y + 1) X Y M hM hX hY (by omega)) rfl (cD_pl _) (cD_pl _) (.ro (.same .nil))
def mostX (p : PBs) (b : PBx) : Int := if chkE p b = 0 then ((mst (bLg b) (bWd b) (rxN p) (ryN p) : Nat) : Int) else 0
set_option maxHeartbeats 4000000 in
theorem plMost (p : PBs) (b : PBx) : DCall Try.prog 16 [bsD p, bxD b] [] (.tup [dI (mostX p b), dI (chkE p b)]) [] := by
 have h0 := plCheck p b
 unfold mostX
 by_cases hc : chkE p b = 0
 ·obtain ⟨hp, hb⟩ := chk_ok.1 hc
  rw [if_pos hc]
  rw [hc] at h0 ⊢
  have hr := plRoom p b hp
  obtain ⟨hx, hy⟩ := rm_in hp
  have hX : rmX p = ((rxN p : Nat) : Int) := (Int.toNat_of_nonneg hx.1).symm
  have hY : rmY p = ((ryN p : Nat) : Int) := (Int.toNat_of_nonneg hy.1).symm
  have hnX : rxN p ≤ 140 := by show (rmX p).toNat ≤ 140; omega
  have hnY : ryN p ≤ 140 := by show (rmY p).toNat ≤ 140; omega
  rw [hX, hY] at hr
  have hsaw := plNewSaw p b hp hb
  have hcut := fun lm => plCutL true p b hb _ _ _ _ (rcL_ok (bLg b) (bWd b) (rxN p)) (rcL_ok (bLg b) (bWd b) (ryN p)) hnX hnY lm (rxN p) (ryN p) (Nat.le_refl _) (Nat.le_refl _) [] (mok_nil _ _)
  rw [mst]
  generalize rcL (bLg b) (bWd b) (rxN p) = L1 at *
  generalize rcL (bLg b) (bWd b) (ryN p) = L2 at *
  generalize (cutM (bLg b) (bWd b) (rxN p + ryN p + 1) (rxN p) (ryN p) []).2 = M1 at *
  generalize cutI (bLg b) (bWd b) (rxN p) (ryN p) = C at *
  generalize rxN p = nx at *
  generalize ryN p = ny at *
  have hcut' : ∀ lm, DCall Try.prog 65 [sawCL true p b L1 L2 lm, rctD nx ny] [(7, pinO lm (pinB 7 lm (.map [] [])))] (pinD 7 lm (cutV C)) [(7, pinO lm (pinB 7 lm (.map (cK M1) (cD M1))))] := fun lm => by
   have h := hcut lm
   show DCall Try.prog 65 _ _ _ [(7, .pmap lm (cK M1) (pinDs 7 lm (cD M1)))]
   rw [pinDs_cD]
   exact h
  refine DCall.of Try.func16 sf16 hb16 (Nat.le_of_ble_eq_true rfl) (okRes_nil fun _ => rfl) ?_; simp only [s16, o16_0, o16_1, o16_2, o16_3, o16_4, o16_5, idxs, Nat.reduceAdd]
  repeat' (first|(with_reducible first|apply qA|apply qB|apply qC|apply qD|apply qE|apply qF)|(simp (disch:=omega) only [go_sem, simprocAttr, qN, qO, qP, qQ])|exact qM rfl rfl rfl|(refine qG rfl ?_)|(refine qK (h0) (by decide) ?_)|(refine qH rfl ?_)|(refine qI rfl ?_ ?_<;>intro hc<;>(try simp only [go_sem] at hc))|(refine qJ ?_ ?_<;>intro hc<;>(try simp only [hc])<;>(try simp only [go_sem] at hc)))
  refine DW.ent (Ent.swk 7 47) ?_
  simp (disch:=omega) only [go_sem,simprocAttr,qN,qO,qP,qQ,swT,swX,swD,swDs,swB,swk]
  repeat' (first|(with_reducible first|apply qA|apply qB|apply qC|apply qD|apply qE|apply qF)|(refine DW.ord rfl (WF.of (by first|rfl|simp (disch:=omega) only [go_sem, simprocAttr, qN, qO, qP, qQ, del])) ?_ ?_ ?_; rotate_left)|rfl|(with_reducible refine And.intro ?_ ?_)|(simp (disch:=omega) only [go_sem, simprocAttr, qN, qO, qP, qQ, del])|exact qM rfl rfl rfl|(refine qG rfl ?_)|(refine call_b (hsaw) ⟨⟨trivial, rfl, rfl, rfl⟩, rfl, rfl, rfl⟩ (by decide) ?_; simp only [St.addBs, St.putB, St.putO, St.put])|(refine qK (hr) (by decide) ?_)|(refine call_hp1 7 (fun lm => hcut' lm) rfl rfl rfl (fun _ => rfl) (fun _ => rfl) (fun _ => by simp (disch:=omega) only [go_sem, simprocAttr, qN, qO, qP, qQ, del, pinT, pinX, pinD, pinDs, pinB, pinO, Nat.reduceEqDiff, if_false, if_true]) (by decide) ?_)|(refine qH rfl ?_)|(refine qI rfl ?_ ?_<;>intro hc<;>(try simp only [go_sem] at hc))|(refine qJ ?_ ?_<;>intro hc<;>(try simp only [hc])<;>(try simp only [go_sem] at hc)))
  skip
 ·have h2 := chk_two hc
  rw [if_neg hc]
  rw [h2] at h0 ⊢
  refine DCall.of Try.func16 sf16 hb16 (Nat.le_of_ble_eq_true rfl) (okRes_nil fun _ => rfl) ?_; simp only [s16, o16_0, o16_1, o16_2, o16_3, o16_4, o16_5, idxs, Nat.reduceAdd]
  repeat' (first|(with_reducible first|apply qA|apply qB|apply qC|apply qD|apply qE|apply qF)|(refine DW.ord rfl (WF.of (by first|rfl|simp (disch:=omega) only [go_sem, simprocAttr, qN, qO, qP, qQ])) ?_ ?_ ?_; rotate_left)|rfl|(with_reducible refine And.intro ?_ ?_)|(simp (disch:=omega) only [go_sem, simprocAttr, qN, qO, qP, qQ])|exact qM rfl rfl rfl|(refine qG rfl ?_)|(refine qK (h0) (by decide) ?_)|(refine qH rfl ?_)|(refine qI rfl ?_ ?_<;>intro hc<;>(try simp only [go_sem] at hc))|(refine qJ ?_ ?_<;>intro hc<;>(try simp only [hc])<;>(try simp only [go_sem] at hc)))
end Go.Dw.Seat
end
section
set_option linter.unusedSimpArgs false
set_option maxRecDepth 100000
namespace Go.Dw.Seat
open Go Go.Dw Go.Proofs Go.IntWalk
theorem retS_ent [Lays] {P : Program} {res : List ResultVar} {r : D} {bo : List (Nat × Blk)} {σ σ' : St} (he : Ent σ σ') (h : retS P res r bo .ret σ') : retS P res r bo .ret σ := by
 obtain ⟨h0, σ2, ds, h1, h2⟩ := h
 exact ⟨h0, σ2, ds, fun N O0 w0 a w hi => h1 _ _ _ _ _ (he _ _ _ _ _ hi), h2⟩
abbrev mpB (lm : Nat) (M : CMemo) : Nat × Blk := (47, .pmap lm (cK M) (cD M))
abbrev rwB (l : List PPl) : Nat × Blk := (77, .row 3 (rowC (rows eP l)))
attribute [go_sem] mpB rwB
theorem mpB_ok (lm : Nat) (M : CMemo) (l : List PPl) : okRes (.own 77) [mpB lm M, rwB l] := by
 have hg : ∀ j, get j [mpB lm M, rwB l] = none → j ≠ 47 ∧ j ≠ 77 := fun j hj => by
  constructor <;> (rintro rfl; cases hj)
 refine ⟨fun j hj => ?_, fun i x hi j hj => ?_⟩
 ·obtain ⟨h1, h2⟩ := hg j hj
  simp only [D.men, beq_eq_false_iff_ne]
  omega
 ·have := get_mem hi
  simp only [List.mem_cons, Prod.mk.injEq, List.not_mem_nil, or_false] at this
  rcases this with ⟨_, rfl⟩ | ⟨_, rfl⟩
  ·exact cD_men j M
  ·exact rowC_men j 3 _
theorem mpB_get (lm : Nat) (M : CMemo) (l : List PPl) {j : Nat} {x : Blk} {σ : St} (h1 : get 47 σ.bx = some (.pmap lm (cK M) (cD M))) (h2 : get 77 σ.bx = some (.row 3 (rowC (rows eP l)))) (hj : get j [mpB lm M, rwB l] = some x) : get j σ.bx = some x ∧ x.nb = true := by
 have := get_mem hj
 simp only [List.mem_cons, Prod.mk.injEq, List.not_mem_nil, or_false] at this
 rcases this with ⟨rfl, rfl⟩ | ⟨rfl, rfl⟩
 ·exact ⟨h1, cD_nb M⟩
 ·exact ⟨h2, rowC_nb (n := 3) (rows_nb eP_nb l)⟩
theorem fitsL (lab : Bool) (p : PBs) (b : PBx) (hb : b.ok) (RX RY : List Int) (lm X Y : Nat) : DCall Try.prog 97 [sawCL lab p b RX RY lm, rctD X Y] [] (.tup [bD (fitT (bLg b) (bWd b) X Y).1, bD (fitT (bLg b) (bWd b) X Y).2]) [] :=
 DCall.lbl (plFits p b hb RX RY lm X Y) rfl (.ro (.same .nil))
theorem swDs_cD (i j : Nat) (M : CMemo) : swDs i j (cD M) = cD M := by
 induction M with
 | nil => rfl
 | cons q m ih => simp only [cD, List.map_cons, swDs] at ih ⊢; rw [ih]; rfl
theorem cutK (lab : Bool) (p : PBs) (b : PBx) (hb : b.ok) (RX RY : List Int) (nx ny : Nat) (hrx : Rch (bLg b) (bWd b) RX nx) (hry : Rch (bLg b) (bWd b) RY ny) (hnx : nx ≤ 140) (hny : ny ≤ 140) (X Y : Nat) (hX : X ≤ nx) (hY : Y ≤ ny) (M : CMemo) (hM : MOk (bLg b) (bWd b) M) :
  ∃ M', MOk (bLg b) (bWd b) M' ∧ ∀ lm, DCall Try.prog 65 [sawCL lab p b RX RY lm, rctD X Y] [mpB lm M] (cutV (cutI (bLg b) (bWd b) X Y)) [mpB lm M'] :=
 ⟨_, (cutM_ok (bLg b) (bWd b) (X + Y + 1) X Y M (by omega) hM).2, fun lm => DCall.renK (k0 := 7) (plCutL lab p b hb RX RY nx ny hrx hry hnx hny lm X Y hX hY M hM) rfl rfl (cD_pl _) (cD_pl _)⟩
def LayC (lab : Bool) (p : PBs) (b : PBx) (RX RY : List Int) (nx ny f : Nat) : Prop := ∀ fx fy x y M, MOk (bLg b) (bWd b) M → x ≤ nx → y ≤ ny → fx + x ≤ 140 → fy + y ≤ 140 → x + y < f →
 ∃ M', MOk (bLg b) (bWd b) M' ∧ ∀ lm, DCall Try.prog 66 [sawCL lab p b RX RY lm, rctD fx fy, rctD x y] [mpB lm M] (.own 77) [mpB lm M', rwB (layF (bLg b) (bWd b) f fx fy x y)]
theorem layCl {lm : Nat} {ar : List D} {M M' : CMemo} {l : List PPl} (h : DCall Try.prog 66 ar [mpB lm M] (.own 77) [mpB lm M', rwB l]) : DCall Try.prog 66 ar [mpB lm M] (.c (.sl false 3 (rows eP l))) [mpB lm M'] := by
 have e : relD 77 (.row 3 (rowC (rows eP l))) (.own 77) = .c (.sl false 3 (rows eP l)) := by
  simp (disch:=omega) only [go_sem,simprocAttr,qN,qO,qP,qQ,relD]
 have := DCall.relM (show (47 : Nat) ≠ 77 by decide) (cD_pl M') (by rw [e]; exact ⟨fun _ _ => rfl, fun j x hj k _ => by
  simp only [get] at hj
  split at hj
  ·cases hj; exact cD_men k M'
  ·cases hj⟩) h
 rwa [e] at this
set_option maxHeartbeats 8000000 in
theorem plLay1 (lab : Bool) (p : PBs) (b : PBx) (hb : b.ok) (RX RY : List Int) (nx ny : Nat) (hrx : Rch (bLg b) (bWd b) RX nx) (hry : Rch (bLg b) (bWd b) RY ny) (hnx : nx ≤ 140) (hny : ny ≤ 140) (f : Nat) (ih : LayC lab p b RX RY nx ny f) : LayC lab p b RX RY nx ny (f + 1) := by
 intro fx fy X Y M hMO hX hY hfx hfy hf
 have hbl := hb.lg
 have hbw := hb.wd
 have hbE : b.lg = ((bLg b : Nat) : Int) := (Int.toNat_of_nonneg (by omega)).symm
 have hbF : b.wd = ((bWd b : Nat) : Int) := (Int.toNat_of_nonneg (by omega)).symm
 have hc : 0 < bWd b := by omega
 have ha : 0 < bLg b := by have := hb.lg; show 0 < b.lg.toNat; omega
 obtain ⟨M1, hM1, hcut⟩ := cutK lab p b hb RX RY nx ny hrx hry hnx hny X Y hX hY M hMO
 rw [layF]
 cases cut_ok (bLg b) (bWd b) X Y with
 | no h0 e =>
  rw [e] at hcut ⊢
  rw [if_pos rfl]
  refine ⟨M1, hM1, fun lm => ?_⟩
  have hcut := hcut lm
  have hcut : DCall Try.prog 65 [sawCL lab p b RX RY lm, rctD X Y] [mpB lm M] (.agg [dI 0, dI (-1), dI 0]) [mpB lm M1] := hcut
  refine DCall.of Try.func66 sf66 hb66 (Nat.le_of_ble_eq_true rfl) (mpB_ok _ _ _) ?_
  simp only [s66, o66_0, o66_1, o66_2, o66_3, o66_4, o66_5, o66_6, o66_7, idxs, Nat.reduceAdd]
  repeat' (first|(with_reducible first|apply qA|apply qB|apply qC|apply qD|apply qE|apply qF)|(refine qL rfl (WF.of ?_) ?_; first|rfl|skip)|(refine DW.ord rfl (WF.of (by first|rfl|simp (disch:=omega) only [go_sem, simprocAttr, qN, qO, qP, qQ, del, rF, rG])) ?_ ?_ ?_; rotate_left)|rfl|(with_reducible refine And.intro ?_ ?_)|(simp (disch:=omega) only [go_sem, simprocAttr, qN, qO, qP, qQ, del, rF, rG])|exact qM rfl rfl rfl|(refine qG rfl ?_)|(refine call_hk 47 (hcut) rfl rfl rfl (by simp (disch:=omega) only [go_sem, simprocAttr, qN, qO, qP, qQ, del]) (by decide) ?_)|(refine qH rfl ?_)|(refine qI rfl ?_ ?_<;>intro hc<;>(try simp only [go_sem] at hc))|(refine qJ ?_ ?_<;>intro hc<;>(try simp only [hc])<;>(try simp only [go_sem] at hc)))
  refine retS_ent (Ent.adopt 6 77 3 rfl rfl (by simp (disch:=omega) only [go_sem,simprocAttr,qN,qO,qP,qQ,menS])) ?_
  exact retS_bs rfl rfl rfl (fun j x hj => mpB_get lm M1 [] rfl rfl hj)
 | one h0 e =>
  rw [e] at hcut ⊢
  rw [if_neg (by decide)]
  dsimp only
  refine ⟨M1, hM1, fun lm => ?_⟩
  have hcut := hcut lm
  have hcut : DCall Try.prog 65 [sawCL lab p b RX RY lm, rctD X Y] [mpB lm M] (.agg [dI 1, dI (-1), dI 0]) [mpB lm M1] := hcut
  have hfits := fitsL lab p b hb RX RY lm X Y
  have hft : fitT (bLg b) (bWd b) X Y = (!(decide (bLg b ≤ X) && decide (bWd b ≤ Y)), true) := by
   rw [fit_rch ha] at h0
   unfold fitT
   unfold fitB at h0
   by_cases h1 : bLg b ≤ X ∧ bWd b ≤ Y
   ·rw [if_pos h1, decide_eq_true h1.1, decide_eq_true h1.2]; rfl
   ·rw [if_neg h1]
    have h3 : (decide (bLg b ≤ X) && decide (bWd b ≤ Y)) = false := by
     rw [Bool.and_eq_false_iff, decide_eq_false_iff_not, decide_eq_false_iff_not]; omega
    rw [h3, Bool.false_or, Bool.and_eq_true, decide_eq_true_eq, decide_eq_true_eq] at h0
    rw [if_pos h0, h3]; rfl
  rw [hft] at hfits
  generalize (!(decide (bLg b ≤ X) && decide (bWd b ≤ Y))) = tn at *
  refine DCall.of Try.func66 sf66 hb66 (Nat.le_of_ble_eq_true rfl) (mpB_ok _ _ _) ?_
  simp only [s66, o66_0, o66_1, o66_2, o66_3, o66_4, o66_5, o66_6, o66_7, idxs, Nat.reduceAdd]
  repeat' (first|(with_reducible first|apply qA|apply qB|apply qC|apply qD|apply qE|apply qF)|(refine qL rfl (WF.of ?_) ?_; first|rfl|skip)|(refine DW.ord rfl (WF.of (by first|rfl|simp (disch:=omega) only [go_sem, simprocAttr, qN, qO, qP, qQ, del, rF, rG])) ?_ ?_ ?_; rotate_left)|rfl|(with_reducible refine And.intro ?_ ?_)|(simp (disch:=omega) only [go_sem, simprocAttr, qN, qO, qP, qQ, del, rF, rG])|exact qM rfl rfl rfl|(refine qG rfl ?_)|(refine call_hk 47 (hcut) rfl rfl rfl (by simp (disch:=omega) only [go_sem, simprocAttr, qN, qO, qP, qQ, del]) (by decide) ?_)|(refine qK (hfits) (by decide) ?_)|(refine qH rfl ?_)|(refine qI rfl ?_ ?_<;>intro hc<;>(try simp only [go_sem] at hc))|(refine qJ ?_ ?_<;>intro hc<;>(try simp only [hc])<;>(try simp only [go_sem] at hc)))
  refine retS_ent (Ent.swk 38 77) ?_
  simp (disch:=omega) only [go_sem,simprocAttr,qN,qO,qP,qQ,swT,swX,swD,swDs,swB,swk,swDs_cD]
  exact retS_bs rfl rfl rfl (fun j x hj => mpB_get lm M1 [⟨fx, fy, tn⟩] rfl rfl hj)
 | two l h0 hln hl h1 e2 =>
  have hn : ¬ (cutI (bLg b) (bWd b) X Y).n = 0 := by
   have : 1 ≤ (cutI (bLg b) (bWd b) X Y).n := h1
   omega
  rw [if_neg hn, hln]
  dsimp only
  have hl1 := rch_le (bLg b) (bWd b) X
  have hl2 := rch_le (bLg b) (bWd b) Y
  have hgx := hrx.get X hX
  have hgy := hry.get Y hY
  have hlx := hrx.len
  have hly := hry.len
  have hiX : (X < nx + 1) = True := eq_true (by omega)
  have hiY : (Y < ny + 1) = True := eq_true (by omega)
  have hls := ln_less hl
  obtain ⟨ho, ht, hh⟩ := one_le (lns_mem.2 hl)
  have hparts := plLnParts (rchF (bLg b) (bWd b) X) (rchF (bLg b) (bWd b) Y) l (by omega) (by omega) hh
  obtain ⟨M2, hM2, hlay1⟩ := ih fx fy (oneF (rchF (bLg b) (bWd b) X) (rchF (bLg b) (bWd b) Y) l).1 (oneF (rchF (bLg b) (bWd b) X) (rchF (bLg b) (bWd b) Y) l).2 M1 hM1 (by omega) (by omega) (by omega) (by omega) (by omega)
  have hft : fx + (if l.1 then 0 else l.2) + (twoF (rchF (bLg b) (bWd b) X) (rchF (bLg b) (bWd b) Y) l).1 ≤ 140 ∧ fy + (if l.1 then l.2 else 0) + (twoF (rchF (bLg b) (bWd b) X) (rchF (bLg b) (bWd b) Y) l).2 ≤ 140 := by
   obtain ⟨s, v⟩ := l
   cases s <;> simp [twoF] at hh ht ⊢ <;> omega
  obtain ⟨M3, hM3, hlay2⟩ := ih (fx + if l.1 then 0 else l.2) (fy + if l.1 then l.2 else 0) (twoF (rchF (bLg b) (bWd b) X) (rchF (bLg b) (bWd b) Y) l).1 (twoF (rchF (bLg b) (bWd b) X) (rchF (bLg b) (bWd b) Y) l).2 M2 hM2 (by omega) (by omega) hft.1 hft.2 (by omega)
  refine ⟨M3, hM3, fun lm => ?_⟩
  have hcut := hcut lm
  have hlay1 := hlay1 lm
  have hlay2 := layCl (hlay2 lm)
  have hlS : lnS (cutI (bLg b) (bWd b) X Y).ln = sdI l.1 := by rw [hln]; rfl
  have hlA : lnA (cutI (bLg b) (bWd b) X Y).ln = l.2 := by rw [hln]; rfl
  rw [cutV, hlS, hlA] at hcut
  have hz : (((cutI (bLg b) (bWd b) X Y).n : Int) == 0) = false := by rw [beq_eq_false_iff_ne]; omega
  generalize (cutI (bLg b) (bWd b) X Y).n = cn at *
  clear hln hlS hlA h1 e2 ih h0
  have hsm1 : (layF (bLg b) (bWd b) f fx fy (oneF (rchF (bLg b) (bWd b) X) (rchF (bLg b) (bWd b) Y) l).1 (oneF (rchF (bLg b) (bWd b) X) (rchF (bLg b) (bWd b) Y) l).2).length ≤ 19600 := by
   rw [(lay_ok ha hbE hbF f fx fy _ _ (by omega)).1]
   exact mst_xy ha hc (by omega) (by omega)
  have hsm2 : (layF (bLg b) (bWd b) f (fx + if l.1 then 0 else l.2) (fy + if l.1 then l.2 else 0) (twoF (rchF (bLg b) (bWd b) X) (rchF (bLg b) (bWd b) Y) l).1 (twoF (rchF (bLg b) (bWd b) X) (rchF (bLg b) (bWd b) Y) l).2).length ≤ 19600 := by
   rw [(lay_ok ha hbE hbF f _ _ _ _ (by omega)).1]
   exact mst_xy ha hc (by omega) (by omega)
  clear hls ho ht
  generalize layF (bLg b) (bWd b) f fx fy (oneF (rchF (bLg b) (bWd b) X) (rchF (bLg b) (bWd b) Y) l).1 (oneF (rchF (bLg b) (bWd b) X) (rchF (bLg b) (bWd b) Y) l).2 = L1 at *
  generalize layF (bLg b) (bWd b) f (fx + if l.1 then 0 else l.2) (fy + if l.1 then l.2 else 0) (twoF (rchF (bLg b) (bWd b) X) (rchF (bLg b) (bWd b) Y) l).1 (twoF (rchF (bLg b) (bWd b) X) (rchF (bLg b) (bWd b) Y) l).2 = L2 at *
  generalize (oneF (rchF (bLg b) (bWd b) X) (rchF (bLg b) (bWd b) Y) l).1 = o1 at *
  generalize (oneF (rchF (bLg b) (bWd b) X) (rchF (bLg b) (bWd b) Y) l).2 = o2 at *
  generalize (twoF (rchF (bLg b) (bWd b) X) (rchF (bLg b) (bWd b) Y) l).1 = q1 at *
  generalize (twoF (rchF (bLg b) (bWd b) X) (rchF (bLg b) (bWd b) Y) l).2 = q2 at *
  generalize rchF (bLg b) (bWd b) X = X' at *
  generalize rchF (bLg b) (bWd b) Y = Y' at *
  refine DCall.of Try.func66 sf66 hb66 (Nat.le_of_ble_eq_true rfl) (mpB_ok _ _ _) ?_
  simp only [s66, o66_0, o66_1, o66_2, o66_3, o66_4, o66_5, o66_6, o66_7, idxs, Nat.reduceAdd]
  obtain ⟨s, v⟩ := l
  dsimp only at *
  have hv : v ≤ 140 := by cases s <;> simp at hh <;> omega
  clear hh hl
  have hsml : small (L1.length + L2.length) 24 = True := small_true ⟨by omega, by decide⟩
  have hsm : (((sdI s) : Int) == -1) = false := by cases s <;> rfl
  repeat' (first|(with_reducible first|apply qA|apply qB|apply qC|apply qD|apply qE|apply qF)|(refine qL rfl (WF.of ?_) ?_; first|rfl|skip)|(refine DW.ord rfl (WF.of (by first|rfl|simp (disch:=omega) only [go_sem, simprocAttr, qN, qO, qP, qQ, del, rF, rG, hz, hsm])) ?_ ?_ ?_; rotate_left)|rfl|(with_reducible refine And.intro ?_ ?_)|(simp (disch:=omega) only [go_sem, simprocAttr, qN, qO, qP, qQ, del, rF, rG, hz, hsm])|exact qM rfl rfl rfl|(refine qG rfl ?_)|(refine call_hk 47 (hcut) rfl rfl rfl (by simp (disch:=omega) only [go_sem, simprocAttr, qN, qO, qP, qQ, del]) (by decide) ?_)|(refine qH rfl ?_)|(refine qI rfl ?_ ?_<;>intro hc<;>(try simp only [go_sem] at hc))|(refine qJ ?_ ?_<;>intro hc<;>(try simp only [hc])<;>(try simp only [go_sem] at hc)))
  obtain ⟨r0, hr0⟩ : ∃ r : Nat → Nat, r 0 = X ∧ r 1 = X' ∧ r 2 = X' := ⟨fun k => if k = 0 then X else X', rfl, rfl, rfl⟩
  obtain ⟨r1, hr1⟩ : ∃ r : Nat → Nat, r 0 = Y ∧ r 1 = Y ∧ r 2 = Y' := ⟨fun k => if k ≤ 1 then Y else Y', rfl, rfl, rfl⟩
  refine DW.loop (ι := { k : Nat // k ≤ 2 }) (fun k => ⟨83, [(39, dI k.1), (7, .box 7 0), (5, .box 5 0), (4, .box 4 0), (0, sawCL lab p b RX RY lm)], [mpB lm M1, (7, .box [dI cn, dI (sdI s), dI v]), (5, .box [dI (r0 k.1), dI (r1 k.1)]), (4, .box [dI fx, dI fy])]⟩) (fun k => 2 - k.1) ⟨0, by decide⟩ ?_ ?_
  ·refine Ent.to ?_ ?_ <;> simp (disch:=omega) only [qR,qS,qTw,qU,get,Nat.reduceEqDiff,↓reduceIte,qV,qW,qX,qY,qZ,and_self,dI,i64_in,and_true,true_and,rA,rB,rC,rD,hr0.1,hr1.1]
   all_goals first | exact ⟨.refl _, .refl _, .refl _⟩ | exact ⟨.refl _, .refl _⟩ | exact .refl _
  rintro ⟨k, hk⟩
  dsimp only
  match k, hk with
  | 0, _ =>
   rw [hr0.1, hr1.1]
   repeat' (first|(with_reducible first|apply qA|apply qB|apply qC|apply qD|apply qE|apply qF)|(refine qL rfl (WF.of ?_) ?_; first|rfl|skip)|(refine DW.ord rfl (WF.of (by first|rfl|simp (disch:=omega) only [go_sem, simprocAttr, qN, qO, qP, qQ, hgx, hlx, hiX, rF, rG])) ?_ ?_ ?_; rotate_left)|rfl|(with_reducible refine And.intro ?_ ?_)|(simp (disch:=omega) only [go_sem, simprocAttr, qN, qO, qP, qQ, hgx, hlx, hiX, rF, rG])|exact qM rfl rfl rfl|(refine qG rfl ?_)|(refine qH rfl ?_)|(refine qI rfl ?_ ?_<;>intro hc<;>(try simp only [go_sem] at hc))|(refine qJ ?_ ?_<;>intro hc<;>(try simp only [hc])<;>(try simp only [go_sem] at hc)))
   refine ⟨⟨1, by decide⟩, ?_, Ent.to ?_ ?_⟩ <;> first | (show _ < _; (try simp only); omega) | (simp (disch:=omega) only [qR,qS,qTw,qU,get,Nat.reduceEqDiff,↓reduceIte,qV,qW,qX,qY,qZ,and_self,dI,i64_in,and_true,true_and,rA,rB,rC,rD, hr0.2.1,hr1.2.1])
   all_goals first | exact ⟨.refl _, .refl _, .refl _⟩ | exact ⟨.refl _, .refl _⟩ | exact .refl _
  | 1, _ =>
   rw [hr0.2.1, hr1.2.1]
   repeat' (first|(with_reducible first|apply qA|apply qB|apply qC|apply qD|apply qE|apply qF)|(refine qL rfl (WF.of ?_) ?_; first|rfl|skip)|(refine DW.ord rfl (WF.of (by first|rfl|simp (disch:=omega) only [go_sem, simprocAttr, qN, qO, qP, qQ, hgy, hly, hiY, rF, rG])) ?_ ?_ ?_; rotate_left)|rfl|(with_reducible refine And.intro ?_ ?_)|(simp (disch:=omega) only [go_sem, simprocAttr, qN, qO, qP, qQ, hgy, hly, hiY, rF, rG])|exact qM rfl rfl rfl|(refine qG rfl ?_)|(refine qH rfl ?_)|(refine qI rfl ?_ ?_<;>intro hc<;>(try simp only [go_sem] at hc))|(refine qJ ?_ ?_<;>intro hc<;>(try simp only [hc])<;>(try simp only [go_sem] at hc)))
   refine ⟨⟨2, by decide⟩, ?_, Ent.to ?_ ?_⟩ <;> first | (show _ < _; (try simp only); omega) | (simp (disch:=omega) only [qR,qS,qTw,qU,get,Nat.reduceEqDiff,↓reduceIte,qV,qW,qX,qY,qZ,and_self,dI,i64_in,and_true,true_and,rA,rB,rC,rD, hr0.2.2,hr1.2.2])
   all_goals first | exact ⟨.refl _, .refl _, .refl _⟩ | exact ⟨.refl _, .refl _⟩ | exact .refl _
  | 2, _ =>
   rw [hr0.2.2, hr1.2.2]
   clear hr0 hr1 hgx hgy hlx hly hiX hiY
   cases s with
   | false =>
    have hparts : DCall Try.prog 99 [.agg [dI 0, dI v], rctD X' Y'] [] (.tup [rctD o1 o2, rctD q1 q2]) [] := hparts
    have hlay2 : DCall Try.prog 66 [sawCL lab p b RX RY lm, .agg [dI ((fx : Int) + v), dI fy], rctD q1 q2] [mpB lm M2] (.c (.sl false 3 (rows eP L2))) [mpB lm M3] := hlay2
    have hs0 : sdI false = 0 := rfl
    repeat' (first|(with_reducible first|apply qA|apply qB|apply qC|apply qD|apply qE|apply qF)|(refine qL rfl (WF.of ?_) ?_; first|rfl|skip)|(refine DW.ord rfl (WF.of (by first|rfl|simp (disch:=omega) only [go_sem, simprocAttr, qN, qO, qP, qQ, del, rF, rG, cD_keys, hs0, hsml])) ?_ ?_ ?_; rotate_left)|rfl|(with_reducible refine And.intro ?_ ?_)|(simp (disch:=omega) only [go_sem, simprocAttr, qN, qO, qP, qQ, del, rF, rG, cD_keys, hs0, hsml])|exact qM rfl rfl rfl|(refine qG rfl ?_)|(refine call_hk2 47 (hlay1) rfl rfl rfl (by simp (disch:=omega) only [go_sem, simprocAttr, qN, qO, qP, qQ, del]) rfl (by simp (disch:=omega) only [go_sem, simprocAttr, qN, qO, qP, qQ, del]) (by decide) ?_)|(refine call_hk 47 (hlay2) rfl rfl rfl (by simp (disch:=omega) only [go_sem, simprocAttr, qN, qO, qP, qQ, del]) (by decide) ?_)|(refine qK (hparts) (by decide) ?_)|(refine qH rfl ?_)|(refine qI rfl ?_ ?_<;>intro hc<;>(try simp only [go_sem] at hc))|(refine qJ ?_ ?_<;>intro hc<;>(try simp only [hc])<;>(try simp only [go_sem] at hc)))
    exact retS_bs rfl rfl rfl (fun j x hj => mpB_get lm M3 (L1 ++ L2) rfl rfl hj)
   | true =>
    have hparts : DCall Try.prog 99 [.agg [dI 1, dI v], rctD X' Y'] [] (.tup [rctD o1 o2, rctD q1 q2]) [] := hparts
    have hlay2 : DCall Try.prog 66 [sawCL lab p b RX RY lm, .agg [dI fx, dI ((fy : Int) + v)], rctD q1 q2] [mpB lm M2] (.c (.sl false 3 (rows eP L2))) [mpB lm M3] := hlay2
    have hs0 : sdI true = 1 := rfl
    repeat' (first|(with_reducible first|apply qA|apply qB|apply qC|apply qD|apply qE|apply qF)|(refine qL rfl (WF.of ?_) ?_; first|rfl|skip)|(refine DW.ord rfl (WF.of (by first|rfl|simp (disch:=omega) only [go_sem, simprocAttr, qN, qO, qP, qQ, del, rF, rG, cD_keys, hs0, hsml])) ?_ ?_ ?_; rotate_left)|rfl|(with_reducible refine And.intro ?_ ?_)|(simp (disch:=omega) only [go_sem, simprocAttr, qN, qO, qP, qQ, del, rF, rG, cD_keys, hs0, hsml])|exact qM rfl rfl rfl|(refine qG rfl ?_)|(refine call_hk2 47 (hlay1) rfl rfl rfl (by simp (disch:=omega) only [go_sem, simprocAttr, qN, qO, qP, qQ, del]) rfl (by simp (disch:=omega) only [go_sem, simprocAttr, qN, qO, qP, qQ, del]) (by decide) ?_)|(refine call_hk 47 (hlay2) rfl rfl rfl (by simp (disch:=omega) only [go_sem, simprocAttr, qN, qO, qP, qQ, del]) (by decide) ?_)|(refine qK (hparts) (by decide) ?_)|(refine qH rfl ?_)|(refine qI rfl ?_ ?_<;>intro hc<;>(try simp only [go_sem] at hc))|(refine qJ ?_ ?_<;>intro hc<;>(try simp only [hc])<;>(try simp only [go_sem] at hc)))
    exact retS_bs rfl rfl rfl (fun j x hj => mpB_get lm M3 (L1 ++ L2) rfl rfl hj)
theorem plLay (lab : Bool) (p : PBs) (b : PBx) (hb : b.ok) (RX RY : List Int) (nx ny : Nat) (hrx : Rch (bLg b) (bWd b) RX nx) (hry : Rch (bLg b) (bWd b) RY ny) (hnx : nx ≤ 140) (hny : ny ≤ 140) : ∀ f, LayC lab p b RX RY nx ny f
 | 0 => fun _ _ _ _ _ _ _ _ _ _ h => by omega
 | f + 1 => plLay1 lab p b hb RX RY nx ny hrx hry hnx hny f (plLay lab p b hb RX RY nx ny hrx hry hnx hny f)
end Go.Dw.Seat
end
