/- The law TopDampStack returns true for every input, and changes nothing that was there before: the full statement TopDampStackSaid, without conditions. -/
import Derived.Test.YtkkbfndajnmhmaaD01
import Derived.Test.YtkkbfndajnmhmaaRows
import Derived.ProofKit
import Derived.OpenShut
set_option linter.unusedVariables false
set_option linter.unusedSimpArgs false
section
set_option linter.unusedSimpArgs false
set_option maxRecDepth 100000
namespace Go.Dw.Seat.Pa
open Go Go.Dw Go.Proofs Go.IntWalk
abbrev lyrD (l : PLy) : D := .agg [dI l.lg, dI l.fr, dI l.bk, dI l.fm, dI l.bm]
def eIt (x : PIt) : List C := [.v (.int .i64 x.lg), .v (.int .i64 x.wl), .v (.int .i64 x.wh)]
theorem eIt_nb (x : PIt) : C.nbs (eIt x) = true := rfl
attribute [go_sem] eIt
abbrev itsD (b : Bool) (q : List PIt) : D := .c (.sl b 3 (rows eIt q))
abbrev lorD (l : PLy) (b : Bool) (q : List PIt) : D := .agg [dI l.lg, dI l.fr, dI l.bk, dI l.fm, dI l.bm, itsD b q]
def itOk (x : PIt) : Bool := wthn 1 2000 [x.lg] && spanOk x.wl x.wh 0 5000000
theorem itOk_iff {x : PIt} : itOk x = true ↔ x.ok := by
 simp only [itOk, Bool.and_eq_true, wthn_iff, spanOk_iff, List.mem_cons, List.not_mem_nil, or_false, forall_eq]
 exact ⟨fun h => ⟨h.1, h.2⟩, fun h => ⟨h.1, h.2⟩⟩
def lyOk (l : PLy) : Bool := ((wthn 1 2000 [l.lg] && wthn 0 l.lg [l.fr, l.bk]) && !decide (l.bk ≤ l.fr)) && wthn 0 40000000 [l.fm, l.bm]
theorem lyOk_iff {l : PLy} : lyOk l = true ↔ l.ok := by
 simp only [lyOk, Bool.and_eq_true, wthn_iff, Bool.not_eq_true', decide_eq_false_iff_not, List.mem_cons, List.not_mem_nil, or_false, forall_eq_or_imp, forall_eq]
 constructor
 ·rintro ⟨⟨⟨h1, h2⟩, h3⟩, h4⟩; exact ⟨h1, by omega, h4.1, h4.2⟩
 ·rintro ⟨h1, h2, h3, h4⟩; exact ⟨⟨⟨h1, by omega⟩, by omega⟩, h3, h4⟩
def lorE (l : PLy) (q : List PIt) : Int := if lyOk l = false then 2 else if (7 : Int) < (q.length : Int) then 5 else if (q.any fun x => !itOk x) = true then 4 else if l.lg < lgI q then 3 else 0
structure LorOk (l : PLy) (q : List PIt) : Prop where
 ly : l.ok
 len : q.length ≤ 7
 its : ∀ x ∈ q, x.ok
 lg : lgI q ≤ l.lg
theorem lor_iff {l : PLy} {q : List PIt} : lorE l q = 0 ↔ LorOk l q := by
 unfold lorE
 constructor
 ·intro h
  split at h
  ·cases h
  ·rename_i h1
   split at h
   ·cases h
   ·rename_i h2
    split at h
    ·cases h
    ·rename_i h3
     split at h
     ·cases h
     ·rename_i h4
      refine ⟨lyOk_iff.1 (by simpa using h1), by omega, fun x hx => itOk_iff.1 ?_, by omega⟩
      simp only [List.any_eq_true, not_exists, not_and, Bool.not_eq_true, Bool.not_eq_false'] at h3
      exact h3 x hx
 ·rintro ⟨h1, h2, h3, h4⟩
  rw [if_neg (by rw [lyOk_iff.2 h1]; decide), if_neg (by omega), if_neg, if_neg (by omega)]
  simp only [List.any_eq_true, not_exists, not_and, Bool.not_eq_true, Bool.not_eq_false']
  exact fun x hx => itOk_iff.2 (h3 x hx)
theorem plIt1 (x : PIt) : DCall Try.prog 126 [.agg ((eIt x).map D.c)] [] (bD (!itOk x)) [] := by
 have h1 := plWithin true 1 2000 [x.lg] (by simp)
 have h2 := plSpan x.wl x.wh 0 5000000
 unfold itOk
 cases e1 : wthn 1 2000 [x.lg] <;> rw [e1] at h1 <;> simp only [Bool.true_and, Bool.false_and, Bool.not_false]
 ·refine DCall.of Try.func126 sf126 hb126 (Nat.le_of_ble_eq_true rfl) (okRes_nil fun _ => rfl) ?_; simp only [s126, idxs, Nat.reduceAdd]
  repeat' (first|(with_reducible first|apply qA|apply qB|apply qC|apply qD|apply qE|apply qF)|(simp (disch:=omega) only [go_sem, simprocAttr, qN, qO, qP, qQ, rF, rG])|exact qM rfl rfl rfl|(refine qG rfl ?_)|(refine qK (h1) (by decide) ?_)|(refine qH rfl ?_)|(refine qI rfl ?_ ?_<;>intro hc<;>(try simp only [go_sem] at hc))|(refine qJ ?_ ?_<;>intro hc<;>(try simp only [hc])<;>(try simp only [go_sem] at hc)))
 ·refine DCall.of Try.func126 sf126 hb126 (Nat.le_of_ble_eq_true rfl) (okRes_nil fun _ => rfl) ?_; simp only [s126, idxs, Nat.reduceAdd]
  repeat' (first|(with_reducible first|apply qA|apply qB|apply qC|apply qD|apply qE|apply qF)|(simp (disch:=omega) only [go_sem, simprocAttr, qN, qO, qP, qQ, rF, rG])|exact qM rfl rfl rfl|(refine qG rfl ?_)|(refine qK (h1) (by decide) ?_)|(refine qK (h2) (by decide) ?_)|(refine qH rfl ?_)|(refine qI rfl ?_ ?_<;>intro hc<;>(try simp only [go_sem] at hc))|(refine qJ ?_ ?_<;>intro hc<;>(try simp only [hc])<;>(try simp only [go_sem] at hc)))
theorem plItIdx (lab : Bool) (l : List PIt) (hl : l.length ≤ 2 ^ 36) (g : FuncId) (fs caps : List C) (p : PIt → Bool) (hp : ∀ x ∈ l, DCall Try.prog g (fs.map D.c ++ [.agg ((eIt x).map D.c)] ++ caps.map D.c) [] (bD (p x)) []) : DCall Try.prog 172 [itsD lab l, .c (.fn (.func g) fs caps)] [] (dI (idxI p l)) [] := by
 refine DCall.of Try.func172 sf172 hb172 (Nat.le_of_ble_eq_true rfl) (okRes_nil fun _ => rfl) ?_; simp only [s172, idxs, Nat.reduceAdd]
 repeat' (first|(with_reducible first|apply qA|apply qB|apply qC|apply qD|apply qE|apply qF)|(simp (disch:=omega) only [go_sem, simprocAttr, qN, qO, qP, qQ])|exact qM rfl rfl rfl|(refine qG rfl ?_)|(refine qH rfl ?_)|(refine qI rfl ?_ ?_<;>intro hc<;>(try simp only [go_sem] at hc))|(refine qJ ?_ ?_<;>intro hc<;>(try simp only [hc])<;>(try simp only [go_sem] at hc)))
 refine DW.loop (ι := { i : Nat // i ≤ l.length ∧ ∀ j u, j < i → l[j]? = some u → p u = false }) (fun i => ⟨19, [(8, dI i.1), (7, dI l.length), (1, .c (.fn (.func g) fs caps)), (0, itsD lab l)], []⟩) (fun i => l.length - i.1) ⟨0, Nat.zero_le _, fun j u h => by omega⟩ ?_ ?_
 ·refine Ent.to ?_ ?_ <;> simp (disch:=omega) only [qR,qS,qTw,qU,get,Nat.reduceEqDiff,↓reduceIte,qV,qW,qX,qY,qZ,and_self,dI,i64_in,and_true,true_and,rA,rB,rC,rD]
  all_goals exact .refl _
 rintro ⟨i, hi, hij⟩
 rcases at_or l i hi with ⟨v, hv, hlt, hd⟩ | ⟨he, hd⟩
 ·have hcall := hp v (List.mem_of_getElem? hv)
  repeat' (first|(with_reducible first|apply qA|apply qB|apply qC|apply qD|apply qE|apply qF)|(simp (disch:=omega) only [go_sem, simprocAttr, qN, qO, qP, qQ, hd, hv, closeDs_fn, rF, rG])|exact qM rfl rfl rfl|(refine qG rfl ?_)|(refine qH rfl ?_)|(refine qI rfl ?_ ?_<;>intro hc<;>(try simp only [go_sem] at hc))|(refine qJ ?_ ?_<;>intro hc<;>(try simp only [hc])<;>(try simp only [go_sem] at hc)))
  refine call_c hcall (by decide) ?_
  simp (disch:=omega) only [go_sem,simprocAttr,qN,qO,qP,qQ]
  refine DW.cond rfl ?_ ?_ <;> intro hc
  ·repeat' (first|(with_reducible first|apply qA|apply qB|apply qC|apply qD|apply qE|apply qF)|(simp (disch:=omega) only [go_sem, simprocAttr, qN, qO, qP, qQ])|exact qM rfl rfl rfl|(refine qG rfl ?_)|(refine qH rfl ?_)|(refine qI rfl ?_ ?_<;>intro hc<;>(try simp only [go_sem] at hc))|(refine qJ ?_ ?_<;>intro hc<;>(try simp only [hc])<;>(try simp only [go_sem] at hc)))
   refine retS_of rfl ?_ rfl; simp only [oneD, St.op, get, Nat.reduceEqDiff, ↓reduceIte, Option.getD_some, bD, dI]
   simp only [idxI, idxOf_some hij hv hc]
  ·repeat' (first|(with_reducible first|apply qA|apply qB|apply qC|apply qD|apply qE|apply qF)|(simp (disch:=omega) only [go_sem, simprocAttr, qN, qO, qP, qQ])|exact qM rfl rfl rfl|(refine qG rfl ?_)|(refine qH rfl ?_)|(refine qI rfl ?_ ?_<;>intro hc<;>(try simp only [go_sem] at hc))|(refine qJ ?_ ?_<;>intro hc<;>(try simp only [hc])<;>(try simp only [go_sem] at hc)))
   refine ⟨⟨i + 1, by omega, fun j u hj hu => by
    rcases Nat.lt_or_ge j i with h | h
    ·exact hij j u h hu
    ·have : j = i := by omega
     subst this
     rw [hv] at hu; cases hu; exact hc⟩, ?_, Ent.to ?_ ?_⟩ <;> first | (show _ < _; (try simp only); omega) | (simp (disch:=omega) only [qR,qS,qTw,qU,get,Nat.reduceEqDiff,↓reduceIte,qV,qW,qX,qY,qZ,and_self,dI,i64_in,and_true,true_and,rA,rB,rC,rD])
   all_goals exact .refl _
 ·repeat' (first|(with_reducible first|apply qA|apply qB|apply qC|apply qD|apply qE|apply qF)|(simp (disch:=omega) only [go_sem, simprocAttr, qN, qO, qP, qQ, hd])|exact qM rfl rfl rfl|(refine qG rfl ?_)|(refine qH rfl ?_)|(refine qI rfl ?_ ?_<;>intro hc<;>(try simp only [go_sem] at hc))|(refine qJ ?_ ?_<;>intro hc<;>(try simp only [hc])<;>(try simp only [go_sem] at hc)))
  refine retS_of rfl ?_ rfl; simp only [oneD, St.op, get, Nat.reduceEqDiff, ↓reduceIte, Option.getD_some, bD, dI]
  simp only [idxI, idxOf_none (he ▸ hij)]
theorem plItAny (lab : Bool) (l : List PIt) (hl : l.length ≤ 2 ^ 36) (g : FuncId) (fs caps : List C) (p : PIt → Bool) (hp : ∀ x ∈ l, DCall Try.prog g (fs.map D.c ++ [.agg ((eIt x).map D.c)] ++ caps.map D.c) [] (bD (p x)) []) : DCall Try.prog 127 [itsD lab l, .c (.fn (.func g) fs caps)] [] (bD (l.any p)) [] := by
 refine DCall.of Try.func127 sf127 hb127 (Nat.le_of_ble_eq_true rfl) (okRes_nil fun _ => rfl) ?_; simp only [s127, idxs, Nat.reduceAdd]
 repeat' (first|(with_reducible first|apply qA|apply qB|apply qC|apply qD|apply qE|apply qF)|(simp (disch:=omega) only [go_sem, simprocAttr, qN, qO, qP, qQ])|exact qM rfl rfl rfl|(refine qG rfl ?_)|(refine qH rfl ?_)|(refine qI rfl ?_ ?_<;>intro hc<;>(try simp only [go_sem] at hc))|(refine qJ ?_ ?_<;>intro hc<;>(try simp only [hc])<;>(try simp only [go_sem] at hc)))
 refine call_c (plItIdx lab l hl g fs caps p hp) (by decide) ?_
 repeat' (first|(with_reducible first|apply qA|apply qB|apply qC|apply qD|apply qE|apply qF)|(simp (disch:=omega) only [go_sem, simprocAttr, qN, qO, qP, qQ])|exact qM rfl rfl rfl|(refine qG rfl ?_)|(refine qH rfl ?_)|(refine qI rfl ?_ ?_<;>intro hc<;>(try simp only [go_sem] at hc))|(refine qJ ?_ ?_<;>intro hc<;>(try simp only [hc])<;>(try simp only [go_sem] at hc)))
 refine retS_of rfl ?_ rfl; simp only [oneD, St.op, get, Nat.reduceEqDiff, ↓reduceIte, Option.getD_some, bD, dI]
 rw [idxI_any]
set_option maxHeartbeats 2000000 in
theorem plCheckLorry (lab : Bool) (l : PLy) (q : List PIt) (hq : q.length ≤ 2 ^ 36) : DCall Try.prog 74 [lyrD l, itsD lab q] [] (dI (lorE l q)) [] := by
 have h1 := plWithin true 1 2000 [l.lg] (by simp)
 have h2 := plWithin true 0 l.lg [l.fr, l.bk] (by simp)
 have h3 := plWithin true 0 40000000 [l.fm, l.bm] (by simp)
 have h4 := plItAny lab q hq 126 [] [] (fun x => !itOk x) (fun x _ => plIt1 x)
 unfold lorE lyOk
 cases e1 : wthn 1 2000 [l.lg] <;> rw [e1] at h1 <;> simp only [Bool.true_and, Bool.false_and, if_true]
 ·refine DCall.of Try.func74 sf74 hb74 (Nat.le_of_ble_eq_true rfl) (okRes_nil fun _ => rfl) ?_; simp only [s74, idxs, Nat.reduceAdd]
  repeat' (first|(with_reducible first|apply qA|apply qB|apply qC|apply qD|apply qE|apply qF)|(simp (disch:=omega) only [go_sem, simprocAttr, qN, qO, qP, qQ])|exact qM rfl rfl rfl|(refine qG rfl ?_)|(refine qK (h1) (by decide) ?_)|(refine qH rfl ?_)|(refine qI rfl ?_ ?_<;>intro hc<;>(try simp only [go_sem] at hc))|(refine qJ ?_ ?_<;>intro hc<;>(try simp only [hc])<;>(try simp only [go_sem] at hc)))
 cases e2 : wthn 0 l.lg [l.fr, l.bk] <;> rw [e2] at h2 <;> simp only [Bool.true_and, Bool.false_and, if_true]
 ·refine DCall.of Try.func74 sf74 hb74 (Nat.le_of_ble_eq_true rfl) (okRes_nil fun _ => rfl) ?_; simp only [s74, idxs, Nat.reduceAdd]
  repeat' (first|(with_reducible first|apply qA|apply qB|apply qC|apply qD|apply qE|apply qF)|(simp (disch:=omega) only [go_sem, simprocAttr, qN, qO, qP, qQ])|exact qM rfl rfl rfl|(refine qG rfl ?_)|(refine qK (h1) (by decide) ?_)|(refine qK (h2) (by decide) ?_)|(refine qH rfl ?_)|(refine qI rfl ?_ ?_<;>intro hc<;>(try simp only [go_sem] at hc))|(refine qJ ?_ ?_<;>intro hc<;>(try simp only [hc])<;>(try simp only [go_sem] at hc)))
 cases e3 : decide (l.bk ≤ l.fr) <;> simp only [Bool.not_false, Bool.not_true, Bool.true_and, Bool.false_and, if_true]
 case true =>
  refine DCall.of Try.func74 sf74 hb74 (Nat.le_of_ble_eq_true rfl) (okRes_nil fun _ => rfl) ?_; simp only [s74, idxs, Nat.reduceAdd]
  repeat' (first|(with_reducible first|apply qA|apply qB|apply qC|apply qD|apply qE|apply qF)|(simp (disch:=omega) only [go_sem, simprocAttr, qN, qO, qP, qQ, e3])|exact qM rfl rfl rfl|(refine qG rfl ?_)|(refine qK (h1) (by decide) ?_)|(refine qK (h2) (by decide) ?_)|(refine qH rfl ?_)|(refine qI rfl ?_ ?_<;>intro hc<;>(try simp only [go_sem] at hc))|(refine qJ ?_ ?_<;>intro hc<;>(try simp only [hc])<;>(try simp only [go_sem] at hc)))
 cases e4 : wthn 0 40000000 [l.fm, l.bm] <;> rw [e4] at h3 <;> simp only [if_true, Bool.true_eq_false, Bool.false_eq_true, if_false, reduceCtorEq]
 ·refine DCall.of Try.func74 sf74 hb74 (Nat.le_of_ble_eq_true rfl) (okRes_nil fun _ => rfl) ?_; simp only [s74, idxs, Nat.reduceAdd]
  repeat' (first|(with_reducible first|apply qA|apply qB|apply qC|apply qD|apply qE|apply qF)|(simp (disch:=omega) only [go_sem, simprocAttr, qN, qO, qP, qQ, e3])|exact qM rfl rfl rfl|(refine qG rfl ?_)|(refine qK (h1) (by decide) ?_)|(refine qK (h2) (by decide) ?_)|(refine qK (h3) (by decide) ?_)|(refine qH rfl ?_)|(refine qI rfl ?_ ?_<;>intro hc<;>(try simp only [go_sem] at hc))|(refine qJ ?_ ?_<;>intro hc<;>(try simp only [hc])<;>(try simp only [go_sem] at hc)))
 by_cases h7 : (7 : Int) < (q.length : Int)
 ·have d7 : decide ((7 : Int) < (q.length : Int)) = true := decide_eq_true h7
  rw [if_pos h7]
  refine DCall.of Try.func74 sf74 hb74 (Nat.le_of_ble_eq_true rfl) (okRes_nil fun _ => rfl) ?_; simp only [s74, idxs, Nat.reduceAdd]
  repeat' (first|(with_reducible first|apply qA|apply qB|apply qC|apply qD|apply qE|apply qF)|(simp (disch:=omega) only [go_sem, simprocAttr, qN, qO, qP, qQ, e3, d7])|exact qM rfl rfl rfl|(refine qG rfl ?_)|(refine qK (h1) (by decide) ?_)|(refine qK (h2) (by decide) ?_)|(refine qK (h3) (by decide) ?_)|(refine qH rfl ?_)|(refine qI rfl ?_ ?_<;>intro hc<;>(try simp only [go_sem] at hc))|(refine qJ ?_ ?_<;>intro hc<;>(try simp only [hc])<;>(try simp only [go_sem] at hc)))
 have d7 : decide ((7 : Int) < (q.length : Int)) = false := decide_eq_false h7
 rw [if_neg h7]
 cases e5 : (q.any fun x => !itOk x) <;> rw [e5] at h4 <;> simp only [if_true, Bool.false_eq_true, if_false]
 case true =>
  refine DCall.of Try.func74 sf74 hb74 (Nat.le_of_ble_eq_true rfl) (okRes_nil fun _ => rfl) ?_; simp only [s74, idxs, Nat.reduceAdd]
  repeat' (first|(with_reducible first|apply qA|apply qB|apply qC|apply qD|apply qE|apply qF)|(simp (disch:=omega) only [go_sem, simprocAttr, qN, qO, qP, qQ, e3, d7])|exact qM rfl rfl rfl|(refine qG rfl ?_)|(refine qK (h1) (by decide) ?_)|(refine qK (h2) (by decide) ?_)|(refine qK (h3) (by decide) ?_)|(refine qK (h4) (by decide) ?_)|(refine qH rfl ?_)|(refine qI rfl ?_ ?_<;>intro hc<;>(try simp only [go_sem] at hc))|(refine qJ ?_ ?_<;>intro hc<;>(try simp only [hc])<;>(try simp only [go_sem] at hc)))
 have hits : ∀ x ∈ q, x.ok := fun x hx => itOk_iff.1 (by
  simp only [List.any_eq_false, Bool.not_eq_true, Bool.not_eq_false'] at e5
  exact e5 x hx)
 have hlg := wthn_one e1
 obtain ⟨R, hR⟩ : ∃ R, (if l.lg < lgI q then (3 : Int) else 0) = R := ⟨_, rfl⟩
 rw [hR]
 refine DCall.of Try.func74 sf74 hb74 (Nat.le_of_ble_eq_true rfl) (okRes_nil fun _ => rfl) ?_; simp only [s74, idxs, Nat.reduceAdd]
 repeat' (first|(with_reducible first|apply qA|apply qB|apply qC|apply qD|apply qE|apply qF)|(simp (disch:=omega) only [go_sem, simprocAttr, qN, qO, qP, qQ, e3, d7])|exact qM rfl rfl rfl|(refine qG rfl ?_)|(refine qK (h1) (by decide) ?_)|(refine qK (h2) (by decide) ?_)|(refine qK (h3) (by decide) ?_)|(refine qK (h4) (by decide) ?_)|(refine qH rfl ?_)|(refine qI rfl ?_ ?_<;>intro hc<;>(try simp only [go_sem] at hc))|(refine qJ ?_ ?_<;>intro hc<;>(try simp only [hc])<;>(try simp only [go_sem] at hc)))
 refine DW.loop (ι := { i : Nat // i ≤ q.length }) (fun i => ⟨59, [(46, dI i.1), (45, dI q.length), (44, itsD lab q), (6, dI (lgI (q.take i.1))), (2, .box 2 0)], [(2, .box [dI l.lg, dI l.fr, dI l.bk, dI l.fm, dI l.bm])]⟩) (fun i => q.length - i.1) ⟨0, Nat.zero_le _⟩ ?_ ?_
 ·refine Ent.to ?_ ?_ <;> simp (disch:=omega) only [qR,qS,qTw,qU,get,Nat.reduceEqDiff,↓reduceIte,qV,qW,qX,qY,qZ,and_self,dI,i64_in,and_true,true_and,rA,rB,rC,rD,List.take_zero,lgI]
  all_goals first | exact ⟨.refl _, .refl _, .refl _⟩ | exact ⟨.refl _, .refl _⟩ | exact .refl _
 rintro ⟨i, hi⟩
 dsimp only
 rcases at_or q i hi with ⟨x, hx, hlt, hd⟩ | ⟨he, hd⟩
 ·have hxo := (hits x (List.mem_of_getElem? hx)).lg
  have htk : q.take (i + 1) = q.take i ++ [x] := by rw [List.take_add_one, hx]; rfl
  have hsn := lgI_snoc (q.take i) x
  have hb := lgI_nn (q := q.take i) (fun y hy => hits y (List.mem_of_mem_take hy))
  rw [List.length_take] at hb
  rw [← htk] at hsn
  generalize lgI (q.take i) = S at *
  repeat' (first|(with_reducible first|apply qA|apply qB|apply qC|apply qD|apply qE|apply qF)|(simp (disch:=omega) only [go_sem, simprocAttr, qN, qO, qP, qQ, hd, hx, rF, rG])|exact qM rfl rfl rfl|(refine qG rfl ?_)|(refine qH rfl ?_)|(refine qI rfl ?_ ?_<;>intro hc<;>(try simp only [go_sem] at hc))|(refine qJ ?_ ?_<;>intro hc<;>(try simp only [hc])<;>(try simp only [go_sem] at hc)))
  refine ⟨⟨i + 1, hlt⟩, ?_, Ent.to ?_ ?_⟩ <;> first | (show _ < _; (try simp only); omega) | (simp (disch:=omega) only [qR,qS,qTw,qU,get,Nat.reduceEqDiff,↓reduceIte,qV,qW,qX,qY,qZ,and_self,dI,i64_in,and_true,true_and,rA,rB,rC,rD, hsn])
  all_goals first | exact ⟨.refl _, .refl _, .refl _⟩ | exact ⟨.refl _, .refl _⟩ | exact .refl _
 ·have hti : q.take i = q := by rw [he, List.take_length]
  rw [hti]
  by_cases h8 : l.lg < lgI q
  ·have d8 : decide (l.lg < lgI q) = true := decide_eq_true h8
   rw [if_pos h8] at hR
   subst hR
   repeat' (first|(with_reducible first|apply qA|apply qB|apply qC|apply qD|apply qE|apply qF)|(simp (disch:=omega) only [go_sem, simprocAttr, qN, qO, qP, qQ, hd, d8])|exact qM rfl rfl rfl|(refine qG rfl ?_)|(refine qH rfl ?_)|(refine qI rfl ?_ ?_<;>intro hc<;>(try simp only [go_sem] at hc))|(refine qJ ?_ ?_<;>intro hc<;>(try simp only [hc])<;>(try simp only [go_sem] at hc)))
  ·have d8 : decide (l.lg < lgI q) = false := decide_eq_false h8
   rw [if_neg h8] at hR
   subst hR
   repeat' (first|(with_reducible first|apply qA|apply qB|apply qC|apply qD|apply qE|apply qF)|(simp (disch:=omega) only [go_sem, simprocAttr, qN, qO, qP, qQ, hd, d8])|exact qM rfl rfl rfl|(refine qG rfl ?_)|(refine qH rfl ?_)|(refine qI rfl ?_ ?_<;>intro hc<;>(try simp only [go_sem] at hc))|(refine qJ ?_ ?_<;>intro hc<;>(try simp only [hc])<;>(try simp only [go_sem] at hc)))
theorem plWhole (l : PLy) (hl : l.ok) (lab : Bool) (q : List PIt) : DCall Try.prog 81 [lorD l lab q] [] (dI (2 * (l.bk - l.fr))) [] := by
 have := hl.ax
 have := hl.lg
 refine DCall.of Try.func81 sf81 hb81 (Nat.le_of_ble_eq_true rfl) (okRes_nil fun _ => rfl) ?_; simp only [s81, idxs, Nat.reduceAdd]
 repeat' (first|(with_reducible first|apply qA|apply qB|apply qC|apply qD|apply qE|apply qF)|(simp (disch:=omega) only [go_sem, simprocAttr, qN, qO, qP, qQ])|exact qM rfl rfl rfl|(refine qG rfl ?_)|(refine qH rfl ?_)|(refine qI rfl ?_ ?_<;>intro hc<;>(try simp only [go_sem] at hc))|(refine qJ ?_ ?_<;>intro hc<;>(try simp only [hc])<;>(try simp only [go_sem] at hc)))
theorem mul_abs {a b A B : Int} (ha : -A ≤ a ∧ a ≤ A) (hb : -B ≤ b ∧ b ≤ B) : -(A * B) ≤ a * b ∧ a * b ≤ A * B := by
 have hA : 0 ≤ A := by omega
 have hB : 0 ≤ B := by omega
 have h1 : 0 ≤ (A - a) * (B - b) := Int.mul_nonneg (by omega) (by omega)
 have h2 : 0 ≤ (A + a) * (B + b) := Int.mul_nonneg (by omega) (by omega)
 have h3 : 0 ≤ (A - a) * (B + b) := Int.mul_nonneg (by omega) (by omega)
 have h4 : 0 ≤ (A + a) * (B - b) := Int.mul_nonneg (by omega) (by omega)
 simp only [Int.sub_mul, Int.mul_sub, Int.add_mul, Int.mul_add] at h1 h2 h3 h4
 omega
theorem plTimes (x : PIt) (hx : x.ok) (c : Int) (hc : -10000 ≤ c ∧ c ≤ 10000) : DCall Try.prog 140 [.agg [dI x.wl, dI x.wh], dI c] [] (.agg [dI (loW x c), dI (hiW x c)]) [] := by
 have hw := hx.w
 have h1 := mul_abs (a := x.wl) (A := 5000000) (by omega) hc
 have h2 := mul_abs (a := x.wh) (A := 5000000) (by omega) hc
 have w1 : IntKind.i64.wrap (x.wl * c) = x.wl * c := IntWalk.i64_in _ (by omega)
 have w2 : IntKind.i64.wrap (x.wh * c) = x.wh * c := IntWalk.i64_in _ (by omega)
 unfold loW hiW
 refine DCall.of Try.func140 sf140 hb140 (Nat.le_of_ble_eq_true rfl) (okRes_nil fun _ => rfl) ?_; simp only [s140, idxs, Nat.reduceAdd]
 repeat' (first|(with_reducible first|apply qA|apply qB|apply qC|apply qD|apply qE|apply qF)|(simp (disch:=omega) only [go_sem, simprocAttr, qN, qO, qP, qQ, w1, w2, min_if, max_if])|exact qM rfl rfl rfl|(refine qG rfl ?_)|(refine qH rfl ?_)|(refine qI rfl ?_ ?_<;>intro hc<;>(try simp only [go_sem] at hc))|(refine qJ ?_ ?_<;>intro hc<;>(try simp only [hc])<;>(try simp only [go_sem] at hc)))
theorem plPlus (a b c d : Int) (ha : -1000000000000000 ≤ a ∧ a ≤ 1000000000000000) (hb : -1000000000000000 ≤ b ∧ b ≤ 1000000000000000) (hc : -1000000000000000 ≤ c ∧ c ≤ 1000000000000000) (hd : -1000000000000000 ≤ d ∧ d ≤ 1000000000000000) : DCall Try.prog 139 [.agg [dI a, dI b], .agg [dI c, dI d]] [] (.agg [dI (a + c), dI (b + d)]) [] := by
 refine DCall.of Try.func139 sf139 hb139 (Nat.le_of_ble_eq_true rfl) (okRes_nil fun _ => rfl) ?_; simp only [s139, idxs, Nat.reduceAdd]
 repeat' (first|(with_reducible first|apply qA|apply qB|apply qC|apply qD|apply qE|apply qF)|(simp (disch:=omega) only [go_sem, simprocAttr, qN, qO, qP, qQ])|exact qM rfl rfl rfl|(refine qG rfl ?_)|(refine qH rfl ?_)|(refine qI rfl ?_ ?_<;>intro hc<;>(try simp only [go_sem] at hc))|(refine qJ ?_ ?_<;>intro hc<;>(try simp only [hc])<;>(try simp only [go_sem] at hc)))
theorem plDown1 (n y : Int) (lab : Bool) (hn : -1000000000000000 ≤ n ∧ n ≤ 1000000000000000) (hy : 0 < y ∧ y ≤ 10000) : DCall Try.prog 141 [dI n, .c (.ro lab [.v (.int .i64 y)] 0)] [] (dI (n / y)) [] := by
 have hf := floor_eq (n := n) hy.1
 have h1 : -y < Int.tmod n y ∧ Int.tmod n y < y := by
  have hlt := Int.tmod_lt_of_pos n hy.1
  refine ⟨?_, hlt⟩
  rcases Int.le_total 0 n with h | h
  ·have := Int.tmod_nonneg y h; omega
  ·have h2 := Int.tmod_lt_of_pos (-n) hy.1
   rw [Int.neg_tmod] at h2; omega
 have hz : (y = 0) = False := eq_false (by omega)
 have h3 := Int.tmod_lt_of_pos (Int.tmod n y + y) hy.1
 have h4 := Int.tmod_nonneg y (show 0 ≤ Int.tmod n y + y by omega)
 have h5 : -1000000000000000 - 10000 ≤ n / y ∧ n / y ≤ 1000000000000000 := by
  have e1 := Int.mul_ediv_add_emod n y
  have e2 := Int.emod_nonneg n (show y ≠ 0 by omega)
  have e3 := Int.emod_lt_of_pos n hy.1
  rcases Int.le_total 0 (n / y) with h | h
  ·have : n / y ≤ y * (n / y) := by
    have := Int.mul_le_mul_of_nonneg_right (show 1 ≤ y by omega) h
    omega
   omega
  ·have : y * (n / y) ≤ n / y := by
    have := Int.mul_le_mul_of_nonpos_right (show 1 ≤ y by omega) h
    omega
   omega
 have w1 : IntKind.i64.wrap (Int.tmod n y) = Int.tmod n y := IntWalk.i64_in _ (by omega)
 have w2 : IntKind.i64.wrap (Int.tmod n y + y) = Int.tmod n y + y := IntWalk.i64_in _ (by omega)
 have w3 : IntKind.i64.wrap (Int.tmod (Int.tmod n y + y) y) = Int.tmod (Int.tmod n y + y) y := IntWalk.i64_in _ (by omega)
 have w4 : IntKind.i64.wrap (n - Int.tmod (Int.tmod n y + y) y) = n - Int.tmod (Int.tmod n y + y) y := IntWalk.i64_in _ (by omega)
 have w5 : IntKind.i64.wrap (n / y) = n / y := IntWalk.i64_in _ (by omega)
 refine DCall.of Try.func141 sf141 hb141 (Nat.le_of_ble_eq_true rfl) (okRes_nil fun _ => rfl) ?_; simp only [s141, idxs, Nat.reduceAdd]
 repeat' (first|(with_reducible first|apply qA|apply qB|apply qC|apply qD|apply qE|apply qF)|(refine qL rfl (WF.of ?_) ?_; first|rfl|skip)|(simp (disch:=omega) only [go_sem, simprocAttr, qN, qO, qP, qQ, hz, w1, w2, w3, w4, hf, w5])|exact qM rfl rfl rfl|(refine qG rfl ?_)|(refine qH rfl ?_)|(refine qI rfl ?_ ?_<;>intro hc<;>(try simp only [go_sem] at hc))|(refine qJ ?_ ?_<;>intro hc<;>(try simp only [hc])<;>(try simp only [go_sem] at hc)))
theorem plDown (a b y : Int) (ha : -1000000000000000 ≤ a ∧ a ≤ 1000000000000000) (hb : -1000000000000000 ≤ b ∧ b ≤ 1000000000000000) (hy : 0 < y ∧ y ≤ 10000) : DCall Try.prog 80 [.agg [dI a, dI b], dI y] [] (.agg [dI (a / y), dI (b / y)]) [] := by
 have h1 := plDown1 a y true ha hy
 have h2 := plDown1 b y true hb hy
 refine DCall.of Try.func80 sf80 hb80 (Nat.le_of_ble_eq_true rfl) (okRes_nil fun _ => rfl) ?_; simp only [s80, idxs, Nat.reduceAdd]
 repeat' (first|(with_reducible first|apply qA|apply qB|apply qC|apply qD|apply qE|apply qF)|(refine qL rfl (WF.of ?_) ?_; first|rfl|skip)|(simp (disch:=omega) only [go_sem, simprocAttr, qN, qO, qP, qQ])|exact qM rfl rfl rfl|(refine qG rfl ?_)|(refine qK (h1) (by decide) ?_)|(refine qK (h2) (by decide) ?_)|(refine qH rfl ?_)|(refine qI rfl ?_ ?_<;>intro hc<;>(try simp only [go_sem] at hc))|(refine qJ ?_ ?_<;>intro hc<;>(try simp only [hc])<;>(try simp only [go_sem] at hc)))
end Go.Dw.Seat.Pa
end
section
set_option linter.unusedSimpArgs false
set_option maxRecDepth 100000
namespace Go.Dw.Seat.Pa
open Go Go.Dw Go.Proofs Go.IntWalk
def inI (n lo hi : Int) : Bool := decide (lo ≤ n) && decide (n ≤ hi)
end Go.Dw.Seat.Pa
end
section
set_option linter.unusedSimpArgs false
set_option maxRecDepth 100000
namespace Go.Dw.Seat.Pa
open Go Go.Dw Go.Proofs Go.IntWalk
theorem getE {α : Type} {l : List α} {i : Nat} (h : i < l.length) : ∃ v, l[i]? = some v := ⟨l[i], List.getElem?_eq_getElem h⟩
def exBs (o : Int) : PBs := ⟨120, 80, 15, o, 180, 500000⟩
def exBx : PBx := ⟨40, 30, 25, 5000, 6000, 900, 1000⟩
def exLy : PLy := ⟨600, 100, 500, 3000000, 3000000⟩
end Go.Dw.Seat.Pa
end
section
set_option linter.unusedSimpArgs false
set_option maxRecDepth 100000
namespace Go.Dw.Seat.Pa
open Go Go.Dw Go.Proofs Go.IntWalk
def cells (xs : List Int) : List D := xs.map fun x => dI x
def tops (m : Nat) : List D := List.replicate m .top
theorem cells_men (j : Nat) (xs : List Int) (m : Nat) : D.mens j (cells xs ++ tops m) = false := by
 induction xs with
 | nil =>
  show D.mens j (tops m) = false
  induction m with
  | zero => rfl
  | succ m ih => simpa [tops, List.replicate_succ, D.mens, D.men] using ih
 | cons x xs ih => simpa [cells, D.mens, D.men, dI] using ih
theorem cells_keys (bx : List (Nat × Blk)) (xs : List Int) (m : Nat) : D.keysIns bx (cells xs ++ tops m) = true := by
 induction xs with
 | nil =>
  show D.keysIns bx (tops m) = true
  induction m with
  | zero => rfl
  | succ m ih => simpa [tops, List.replicate_succ, D.keysIns, D.keysIn] using ih
 | cons x xs ih => simpa [cells, D.keysIns, D.keysIn, dI] using ih
theorem bk_pbx (bx : List (Nat × Blk)) (l : Nat) (ds : List D) : Blk.keysIn bx (.pbox l ds) = D.keysIns bx ds := rfl
theorem bm_pbx (k l : Nat) (ds : List D) : Blk.men k (.pbox l ds) = D.mens k ds := rfl
attribute [go_sem] cells_keys bk_pbx bm_pbx cells_men
def swp1 (xs : List Int) (i j : Nat) : List Int := (xs.set i (xs.getD j 0)).set j (xs.getD i 0)
def swpN (lo L : Nat) : Nat → List Int → List Int
 | 0, xs => xs
 | k + 1, xs => swp1 (swpN lo L k xs) (lo + k) (lo + L - 1 - k)
def revF (lo L : Nat) (xs : List Int) : List Int := swpN lo L (L / 2) xs
end Go.Dw.Seat.Pa
end
section
set_option linter.unusedSimpArgs false
set_option maxRecDepth 100000
namespace Go.Dw.Seat.Pa
open Go Go.Dw Go.Proofs Go.IntWalk
def dscF (xs : List Int) : Nat → Nat
 | 0 => 0
 | c + 1 => if xs.getD (c + 1) 0 < xs.getD c 0 then dscF xs c else c + 1
def ascF (xs : List Int) (v : Int) : Nat → Nat
 | 0 => 0
 | j + 1 => if xs.getD (j + 1) 0 < v then ascF xs v j else j + 1
def nxtP (xs : List Int) : Option (List Int) := match dscF xs (xs.length - 1) with
 | 0 => none
 | i + 1 => some (revF (i + 1) (xs.length - (i + 1)) (swp1 xs i (ascF xs (xs.getD i 0) (xs.length - 1))))
def goP : Nat → List Int → List (List Int)
 | 0, _ => []
 | f + 1, xs => xs :: match nxtP xs with
  | none => []
  | some ys => goP f ys
def upN (n : Nat) : List Int := (List.range n).map fun i : Nat => (i : Int)
end Go.Dw.Seat.Pa
end
section
set_option linter.unusedSimpArgs false
set_option maxRecDepth 100000
namespace Go.Dw.Seat.Pa
open Go Go.Dw Go.Proofs Go.IntWalk
theorem lohi_b {x : PIt} (hx : x.ok) {c : Int} (hc : -10000 ≤ c ∧ c ≤ 10000) : (-50000000000 ≤ loW x c ∧ loW x c ≤ 50000000000) ∧ (-50000000000 ≤ hiW x c ∧ hiW x c ≤ 50000000000) ∧ loW x c ≤ hiW x c := by
 have hw := hx.w
 have h1 := mul_abs (a := x.wl) (A := 5000000) (by omega) hc
 have h2 := mul_abs (a := x.wh) (A := 5000000) (by omega) hc
 unfold loW hiW
 omega
theorem sumM_b {c : Int → Int} (hc : ∀ m, 0 ≤ m → m ≤ 4000 → -10000 ≤ c m ∧ c m ≤ 10000) : ∀ {q : List PIt} {a : Int}, 0 ≤ a → a + lgI q ≤ 2000 → (∀ x ∈ q, x.ok) →
  (-(50000000000 * (q.length : Int)) ≤ sumM (fun m x => loW x (c m)) a q ∧ sumM (fun m x => loW x (c m)) a q ≤ 50000000000 * (q.length : Int)) ∧ (-(50000000000 * (q.length : Int)) ≤ sumM (fun m x => hiW x (c m)) a q ∧ sumM (fun m x => hiW x (c m)) a q ≤ 50000000000 * (q.length : Int)) ∧ sumM (fun m x => loW x (c m)) a q ≤ sumM (fun m x => hiW x (c m)) a q
 | [], a, _, _, _ => by simp [sumM]
 | x :: q, a, h0, h1, h2 => by
  have hx := h2 x (by simp)
  have hxl := hx.lg
  have hq := fun y hy => h2 y (List.mem_cons_of_mem x hy)
  have hn := lgI_nn hq
  rw [lgI] at h1
  have ih := sumM_b hc (q := q) (a := a + x.lg) (by omega) (by omega) hq
  have hb := lohi_b hx (hc (2 * a + x.lg) (by omega) (by omega))
  simp only [sumM, List.length_cons, Int.natCast_add, Int.natCast_one]
  omega
theorem cF_b {l : PLy} (hl : l.ok) (m : Int) (h1 : 0 ≤ m) (h2 : m ≤ 4000) : -10000 ≤ cF l m ∧ cF l m ≤ 10000 := by
 have := hl.ax
 have := hl.lg
 unfold cF; omega
theorem cB_b {l : PLy} (hl : l.ok) (m : Int) (h1 : 0 ≤ m) (h2 : m ≤ 4000) : -10000 ≤ cB l m ∧ cB l m ≤ 10000 := by
 have := hl.ax
 have := hl.lg
 unfold cB; omega
theorem lgI_take {q : List PIt} (h : ∀ x ∈ q, x.ok) (i : Nat) : lgI (q.take i) ≤ lgI q := by
 have e : ∀ a b : List PIt, lgI (a ++ b) = lgI a + lgI b := by
  intro a b
  induction a with
  | nil => simp [lgI]
  | cons x a ih => rw [List.cons_append, lgI, ih, lgI]; omega
 have h1 := e (q.take i) (q.drop i)
 rw [List.take_append_drop] at h1
 have h2 := lgI_nn (q := q.drop i) (fun x hx => h x (List.mem_of_mem_drop hx))
 omega
abbrev prtD (r : Prt) : D := .tup [.agg [dI r.fl, dI r.fh], .agg [dI r.bl, dI r.bh]]
set_option maxHeartbeats 4000000 in
theorem plParts (l : PLy) (lab : Bool) (q : List PIt) (h : LorOk l q) : DCall Try.prog 79 [lorD l lab q] [] (prtD (prtF l q)) [] := by
 have hl := h.ly
 have hlen := h.len
 have hits := h.its
 have hlg := h.lg
 have hll := hl.lg
 have hax := hl.ax
 refine DCall.of Try.func79 sf79 hb79 (Nat.le_of_ble_eq_true rfl) (okRes_nil fun _ => rfl) ?_; simp only [s79, o79_0, o79_1, o79_2, o79_3, idxs, Nat.reduceAdd]
 repeat' (first|(with_reducible first|apply qA|apply qB|apply qC|apply qD|apply qE|apply qF)|(refine qL rfl (WF.of ?_) ?_; first|rfl|skip)|(refine DW.ord rfl (WF.of (by first|rfl|simp (disch:=omega) only [go_sem, simprocAttr, qN, qO, qP, qQ])) ?_ ?_ ?_; rotate_left)|rfl|(with_reducible refine And.intro ?_ ?_)|(simp (disch:=omega) only [go_sem, simprocAttr, qN, qO, qP, qQ])|exact qM rfl rfl rfl|(refine qG rfl ?_)|(refine qH rfl ?_)|(refine qI rfl ?_ ?_<;>intro hc<;>(try simp only [go_sem] at hc))|(refine qJ ?_ ?_<;>intro hc<;>(try simp only [hc])<;>(try simp only [go_sem] at hc)))
 refine DW.loop (ι := { i : Nat // i ≤ q.length }) (fun i => ⟨49, [(11, dI i.1), (10, dI q.length), (9, itsD lab q), (4, dI (lgI (q.take i.1))), (3, .box 3 0), (2, .box 2 0), (1, .box 1 0)], [(3, .box [dI (prtF l (q.take i.1)).bl, dI (prtF l (q.take i.1)).bh]), (2, .box [dI (prtF l (q.take i.1)).fl, dI (prtF l (q.take i.1)).fh]), (1, .box [dI l.lg, dI l.fr, dI l.bk, dI l.fm, dI l.bm, itsD lab q])]⟩) (fun i => q.length - i.1) ⟨0, Nat.zero_le _⟩ ?_ ?_
 ·refine Ent.to ?_ ?_ <;> simp (disch:=omega) only [qR,qS,qTw,qU,get,Nat.reduceEqDiff,↓reduceIte,qV,qW,qX,qY,qZ,and_self,dI,i64_in,and_true,true_and,rA,rB,rC,rD,List.take_zero,lgI,prtF,sumM]
  all_goals first | exact ⟨.refl _, .refl _, .refl _⟩ | exact ⟨.refl _, .refl _⟩ | exact .refl _
 rintro ⟨i, hi⟩
 dsimp only
 rcases at_or q i hi with ⟨x, hx, hlt, hd⟩ | ⟨he, hd⟩
 ·have hxo := hits x (List.mem_of_getElem? hx)
  have hxl := hxo.lg
  have htk : q.take (i + 1) = q.take i ++ [x] := by rw [List.take_add_one, hx]; rfl
  have htm : ∀ y ∈ q.take i, y.ok := fun y hy => hits y (List.mem_of_mem_take hy)
  have hsn := lgI_snoc (q.take i) x
  have hS1 := lgI_take hits (i + 1)
  rw [htk, hsn] at hS1
  have hS0 := lgI_nn htm
  have hl7 : (q.take i).length ≤ 7 := by rw [List.length_take]; omega
  have bF := sumM_b (cF_b hl) (q := q.take i) (a := 0) (by omega) (by omega) htm
  have bB := sumM_b (cB_b hl) (q := q.take i) (a := 0) (by omega) (by omega) htm
  have e1 := sumM_snoc (fun m x => loW x (cF l m)) (q.take i) 0 x
  have e2 := sumM_snoc (fun m x => hiW x (cF l m)) (q.take i) 0 x
  have e3 := sumM_snoc (fun m x => loW x (cB l m)) (q.take i) 0 x
  have e4 := sumM_snoc (fun m x => hiW x (cB l m)) (q.take i) 0 x
  rw [← htk, Int.zero_add] at e1 e2 e3 e4
  rw [← htk] at hsn
  have hP : prtF l (q.take i) = ⟨sumM (fun m x => loW x (cF l m)) 0 (q.take i), sumM (fun m x => hiW x (cF l m)) 0 (q.take i), sumM (fun m x => loW x (cB l m)) 0 (q.take i), sumM (fun m x => hiW x (cB l m)) 0 (q.take i)⟩ := rfl
  have hP1 : prtF l (q.take (i + 1)) = ⟨sumM (fun m x => loW x (cF l m)) 0 (q.take (i + 1)), sumM (fun m x => hiW x (cF l m)) 0 (q.take (i + 1)), sumM (fun m x => loW x (cB l m)) 0 (q.take (i + 1)), sumM (fun m x => hiW x (cB l m)) 0 (q.take (i + 1))⟩ := rfl
  rw [e1, e2, e3, e4] at hP1
  clear e1 e2 e3 e4
  generalize sumM (fun m x => loW x (cF l m)) 0 (q.take i) = A1 at *
  generalize sumM (fun m x => hiW x (cF l m)) 0 (q.take i) = A2 at *
  generalize sumM (fun m x => loW x (cB l m)) 0 (q.take i) = A3 at *
  generalize sumM (fun m x => hiW x (cB l m)) 0 (q.take i) = A4 at *
  generalize lgI (q.take i) = S at *
  have hm1 : 2 * l.bk - (2 * S + x.lg) = cF l (2 * S + x.lg) := rfl
  have hm2 : 2 * S + x.lg - 2 * l.fr = cB l (2 * S + x.lg) := rfl
  have c1 := cF_b hl (2 * S + x.lg) (by omega) (by omega)
  have c2 := cB_b hl (2 * S + x.lg) (by omega) (by omega)
  have t1 := plTimes x hxo _ c1
  have t2 := plTimes x hxo _ c2
  have b1 := lohi_b hxo c1
  have b2 := lohi_b hxo c2
  rw [hP]
  dsimp only
  have p1 := plPlus A1 A2 (loW x (cF l (2 * S + x.lg))) (hiW x (cF l (2 * S + x.lg))) (by omega) (by omega) (by omega) (by omega)
  have p2 := plPlus A3 A4 (loW x (cB l (2 * S + x.lg))) (hiW x (cB l (2 * S + x.lg))) (by omega) (by omega) (by omega) (by omega)
  repeat' (first|(with_reducible first|apply qA|apply qB|apply qC|apply qD|apply qE|apply qF)|(refine qL rfl (WF.of ?_) ?_; first|rfl|skip)|(refine DW.ord rfl (WF.of (by first|rfl|simp (disch:=omega) only [go_sem, simprocAttr, qN, qO, qP, qQ, hd, hx, hm1, hm2, rF, rG])) ?_ ?_ ?_; rotate_left)|rfl|(with_reducible refine And.intro ?_ ?_)|(simp (disch:=omega) only [go_sem, simprocAttr, qN, qO, qP, qQ, hd, hx, hm1, hm2, rF, rG])|exact qM rfl rfl rfl|(refine qG rfl ?_)|(refine qK (t1) (by decide) ?_)|(refine qK (t2) (by decide) ?_)|(refine qK (p1) (by decide) ?_)|(refine qK (p2) (by decide) ?_)|(refine qH rfl ?_)|(refine qI rfl ?_ ?_<;>intro hc<;>(try simp only [go_sem] at hc))|(refine qJ ?_ ?_<;>intro hc<;>(try simp only [hc])<;>(try simp only [go_sem] at hc)))
  refine ⟨⟨i + 1, hlt⟩, ?_, Ent.to ?_ ?_⟩ <;> first | (show _ < _; (try simp only); omega) | (simp (disch:=omega) only [qR,qS,qTw,qU,get,Nat.reduceEqDiff,↓reduceIte,qV,qW,qX,qY,qZ,and_self,dI,i64_in,and_true,true_and,rA,rB,rC,rD, hsn,hP1])
  all_goals first | exact ⟨.refl _, .refl _, .refl _⟩ | exact ⟨.refl _, .refl _⟩ | exact .refl _
 ·have hti : q.take i = q := by rw [he, List.take_length]
  rw [hti]
  generalize prtF l q = R at *
  repeat' (first|(with_reducible first|apply qA|apply qB|apply qC|apply qD|apply qE|apply qF)|(refine qL rfl (WF.of ?_) ?_; first|rfl|skip)|(refine DW.ord rfl (WF.of (by first|rfl|simp (disch:=omega) only [go_sem, simprocAttr, qN, qO, qP, qQ, hd])) ?_ ?_ ?_; rotate_left)|rfl|(with_reducible refine And.intro ?_ ?_)|(simp (disch:=omega) only [go_sem, simprocAttr, qN, qO, qP, qQ, hd])|exact qM rfl rfl rfl|(refine qG rfl ?_)|(refine qH rfl ?_)|(refine qI rfl ?_ ?_<;>intro hc<;>(try simp only [go_sem] at hc))|(refine qJ ?_ ?_<;>intro hc<;>(try simp only [hc])<;>(try simp only [go_sem] at hc)))
theorem prt_b {l : PLy} {q : List PIt} (h : LorOk l q) : ((-350000000000 ≤ (prtF l q).fl ∧ (prtF l q).fl ≤ (prtF l q).fh) ∧ (prtF l q).fh ≤ 350000000000) ∧ (-350000000000 ≤ (prtF l q).bl ∧ (prtF l q).bl ≤ (prtF l q).bh) ∧ (prtF l q).bh ≤ 350000000000 := by
 have hlen := h.len
 have hll := h.ly.lg
 have hlg := h.lg
 have bF := sumM_b (cF_b h.ly) (q := q) (a := 0) (by omega) (by omega) h.its
 have bB := sumM_b (cB_b h.ly) (q := q) (a := 0) (by omega) (by omega) h.its
 unfold prtF
 dsimp only
 omega
def axD (l : PLy) (q : List PIt) : D := if lorE l q = 0 then .tup [.agg [dI ((prtF l q).fl / (2 * (l.bk - l.fr))), dI ((prtF l q).fh / (2 * (l.bk - l.fr)))], .agg [dI ((prtF l q).bl / (2 * (l.bk - l.fr))), dI ((prtF l q).bh / (2 * (l.bk - l.fr)))], dI 0] else .tup [.agg [dI 0, dI 0], .agg [dI 0, dI 0], dI (lorE l q)]
set_option maxHeartbeats 4000000 in
theorem plAxles (l : PLy) (q : List PIt) (hq : q.length ≤ 2 ^ 36) : DCall Try.prog 38 [lyrD l, itsD false q] [] (axD l q) [] := by
 have h1 := plCheckLorry false l q hq
 unfold axD
 by_cases he : lorE l q = 0
 ·have hL := lor_iff.1 he
  have hP := plParts l false q hL
  have hb := prt_b hL
  have hW := plWhole l hL.ly false q
  have hax := hL.ly.ax
  have hll := hL.ly.lg
  rw [if_pos he]
  rw [he] at h1
  generalize prtF l q = R at *
  obtain ⟨fl, fh, bl, bh⟩ := R
  dsimp only at hb ⊢
  have d1 := plDown fl fh (2 * (l.bk - l.fr)) (by omega) (by omega) (by omega)
  have d2 := plDown bl bh (2 * (l.bk - l.fr)) (by omega) (by omega) (by omega)
  refine DCall.of Try.func38 sf38 hb38 (Nat.le_of_ble_eq_true rfl) (okRes_nil fun _ => rfl) ?_; simp only [s38, o38_0, o38_1, o38_2, o38_3, o38_4, o38_5, idxs, Nat.reduceAdd]
  repeat' (first|(with_reducible first|apply qA|apply qB|apply qC|apply qD|apply qE|apply qF)|(refine qL rfl (WF.of ?_) ?_; first|rfl|skip)|(refine DW.ord rfl (WF.of (by first|rfl|simp (disch:=omega) only [go_sem, simprocAttr, qN, qO, qP, qQ])) ?_ ?_ ?_; rotate_left)|rfl|(with_reducible refine And.intro ?_ ?_)|(simp (disch:=omega) only [go_sem, simprocAttr, qN, qO, qP, qQ])|exact qM rfl rfl rfl|(refine qG rfl ?_)|(refine qK (h1) (by decide) ?_)|(refine qK (hP) (by decide) ?_)|(refine qK (hW) (by decide) ?_)|(refine qK (d1) (by decide) ?_)|(refine qK (d2) (by decide) ?_)|(refine qH rfl ?_)|(refine qI rfl ?_ ?_<;>intro hc<;>(try simp only [go_sem] at hc))|(refine qJ ?_ ?_<;>intro hc<;>(try simp only [hc])<;>(try simp only [go_sem] at hc)))
  skip
 ·rw [if_neg he]
  generalize lorE l q = e at *
  have hd : (e != 0) = true := by simpa using he
  refine DCall.of Try.func38 sf38 hb38 (Nat.le_of_ble_eq_true rfl) (okRes_nil fun _ => rfl) ?_; simp only [s38, o38_0, o38_1, o38_2, o38_3, o38_4, o38_5, idxs, Nat.reduceAdd]
  repeat' (first|(with_reducible first|apply qA|apply qB|apply qC|apply qD|apply qE|apply qF)|(refine qL rfl (WF.of ?_) ?_; first|rfl|skip)|(refine DW.ord rfl (WF.of (by first|rfl|simp (disch:=omega) only [go_sem, simprocAttr, qN, qO, qP, qQ, hd])) ?_ ?_ ?_; rotate_left)|rfl|(with_reducible refine And.intro ?_ ?_)|(simp (disch:=omega) only [go_sem, simprocAttr, qN, qO, qP, qQ, hd])|exact qM rfl rfl rfl|(refine qG rfl ?_)|(refine qK (h1) (by decide) ?_)|(refine qH rfl ?_)|(refine qI rfl ?_ ?_<;>intro hc<;>(try simp only [go_sem] at hc))|(refine qJ ?_ ?_<;>intro hc<;>(try simp only [hc])<;>(try simp only [go_sem] at hc)))
  skip
def bearX (l : PLy) (q : List PIt) : Bool := spanOk (prtF l q).fl (prtF l q).fh 0 (l.fm * (2 * (l.bk - l.fr))) && spanOk (prtF l q).bl (prtF l q).bh 0 (l.bm * (2 * (l.bk - l.fr)))
end Go.Dw.Seat.Pa
end
section
set_option linter.unusedSimpArgs false
set_option maxRecDepth 100000
namespace Go.Dw.Seat.Pa
open Go Go.Dw Go.Proofs Go.IntWalk
def pkI (q : List PIt) (e : List Int) : List PIt := e.map fun i => q.getD i.toNat ⟨1, 0, 0⟩
def oRes : Option (List Int) → D
 | some e => dIs false e
 | none => .c (.v (.slice none 0 0))
def oErr : Option (List Int) → Int
 | some _ => 0
 | none => 9
theorem oRes_men (k : Nat) (F : Option (List Int)) : D.men k (oRes F) = false := by cases F <;> rfl
theorem oRes_keys (bx : List (Nat × Blk)) (F : Option (List Int)) : D.keysIn bx (oRes F) = true := by cases F <;> rfl
theorem oRes_kill (k : Nat) (F : Option (List Int)) : killD k (oRes F) = oRes F := by cases F <;> rfl
attribute [go_sem] oRes_men oRes_keys oRes_kill
def findO (l : PLy) (q : List PIt) : Option (List Int) := (goP 721 (upN q.length)).find? fun e => bearX l (pkI q e)
def ordD (l : PLy) (q : List PIt) : D := if lorE l q = 0 then .tup [oRes (findO l q), dI (oErr (findO l q))] else .tup [.c (.v (.slice none 0 0)), dI (lorE l q)]
end Go.Dw.Seat.Pa
end
section
set_option linter.unusedSimpArgs false
set_option maxRecDepth 100000
namespace Go.Dw.Seat.Pa
open Go Go.Dw Go.Proofs Go.IntWalk
def exIt : List PIt := [⟨120, 1000000, 1000000⟩, ⟨120, 800000, 900000⟩]
theorem exc5 : chkE (exBs 5) exBx = 0 := by decide +kernel
theorem exm : mostX (exBs 5) exBx = 9 := by decide +kernel
theorem exy1 : lorE exLy exIt = 0 := by decide +kernel
theorem exy2 : (prtF exLy exIt).fl / 800 = 1740000 ∧ (prtF exLy exIt).fh / 800 = 1820000 ∧ (prtF exLy exIt).bl / 800 = 60000 ∧ (prtF exLy exIt).bh / 800 = 80000 := by decide +kernel
end Go.Dw.Seat.Pa
end
section
set_option linter.unusedSimpArgs false
set_option maxRecDepth 100000
namespace Go.Dw.Seat.Pa
open Go Go.Dw Go.Proofs Go.IntWalk
theorem rowC_snocL (l : List Lod) (x : Lod) : rowC (rows eLd l) ++ [[D.c (.v (.int .i64 x.sl)), D.c (.v (.int .i64 x.sh)), D.c (.v (.int .i64 x.wl)), D.c (.v (.int .i64 x.wh))]] = rowC (rows eLd (l ++ [x])) := by simp [rowC, rows, eLd]
end Go.Dw.Seat.Pa
end
section
set_option linter.unusedSimpArgs false
set_option maxRecDepth 100000
namespace Go.Dw.Seat.Pa
open Go Go.Dw Go.Proofs Go.IntWalk
theorem failN_rep0 (k : Int) (b : Lod) : failN k (List.replicate 0 b) = none := failN_none (by simp)
theorem rep_ok {b : Lod} (h : b.ok) (n : Nat) : ∀ x ∈ List.replicate n b, x.ok := fun x hx => by rw [List.eq_of_mem_replicate hx]; exact h
end Go.Dw.Seat.Pa
end
section
set_option linter.unusedSimpArgs false
set_option maxRecDepth 100000
namespace Go.Dw.Seat.Pa
open Go Go.Dw Go.Proofs Go.IntWalk
theorem paSpan (a b : Int) : DCall Try.prog 8 [dI a, dI b] [] (.agg [dI a, dI b]) [] := by
 refine DCall.of Try.func8 sf8 hb8 (Nat.le_of_ble_eq_true rfl) (okRes_nil fun _ => rfl) ?_; simp only [s8, idxs, Nat.reduceAdd]
 repeat' (first|(with_reducible first|apply qA|apply qB|apply qC|apply qD|apply qE|apply qF)|(simp (disch:=omega) only [go_sem, simprocAttr, qN, qO, qP, qQ])|exact qM rfl rfl rfl|(refine qG rfl ?_)|(refine qH rfl ?_)|(refine qI rfl ?_ ?_<;>intro hc<;>(try simp only [go_sem] at hc))|(refine qJ ?_ ?_<;>intro hc<;>(try simp only [hc])<;>(try simp only [go_sem] at hc)))
theorem paPallet : DCall Try.prog 14 [] [] (bD true) [] := by
 have s1 := paSpan 5000 6000
 have s2 := paSpan 900 1000
 have s3 := paSpan 1000000 1000000
 have s4 := paSpan 800000 900000
 have s5 := paSpan 60000 80000
 have c3 := plMost (exBs 5) exBx
 rw [exm, exc5] at c3
 have c9 := plAxles exLy exIt (by decide)
 rw [axD, if_pos exy1, show 2 * (exLy.bk - exLy.fr) = 800 from rfl, exy2.1, exy2.2.1, exy2.2.2.1, exy2.2.2.2] at c9
 have c9 : DCall Try.prog 38 [lyrD exLy, itsD true exIt] [] _ [] := DCall.lbl c9 rfl (.same (.sl .nil))
 refine DCall.of Try.func14 sf14 hb14 (Nat.le_of_ble_eq_true rfl) (okRes_nil fun _ => rfl) ?_; simp only [s14, idxs, Nat.reduceAdd]
 repeat' (first|(with_reducible first|apply qA|apply qB|apply qC|apply qD|apply qE|apply qF)|(refine qL rfl (WF.of ?_) ?_; first|rfl|skip)|(simp (disch:=omega) only [go_sem, simprocAttr, qN, qO, qP, qQ])|exact qM rfl rfl rfl|(refine qG rfl ?_)|(refine qK (s1) (by decide) ?_)|(refine qK (s2) (by decide) ?_)|(refine qK (s3) (by decide) ?_)|(refine qK (s4) (by decide) ?_)|(refine qK (s5) (by decide) ?_)|(refine qK (c3) (by decide) ?_)|(refine qK (c9) (by decide) ?_)|(refine qH rfl ?_)|(refine qI rfl ?_ ?_<;>intro hc<;>(try simp only [go_sem] at hc))|(refine qJ ?_ ?_<;>intro hc<;>(try simp only [hc])<;>(try simp only [go_sem] at hc)))
theorem paLoads (b : Bool) (l : List Lod) (hl : l.length ≤ 2 ^ 36) : DCall Try.prog 16 [.c (.sl b 4 (rows eLd l))] [] (.c (.sl false 4 (rows eLd l))) [] := by
 refine DCall.of Try.func16 sf16 hb16 (Nat.le_of_ble_eq_true rfl) (okRes_nil fun _ => rfl) ?_; simp only [s16, idxs, Nat.reduceAdd]
 repeat' (first|(with_reducible first|apply qA|apply qB|apply qC|apply qD|apply qE|apply qF)|(simp (disch:=omega) only [go_sem, simprocAttr, qN, qO, qP, qQ])|exact qM rfl rfl rfl|(refine qG rfl ?_)|(refine qH rfl ?_)|(refine qI rfl ?_ ?_<;>intro hc<;>(try simp only [go_sem] at hc))|(refine qJ ?_ ?_<;>intro hc<;>(try simp only [hc])<;>(try simp only [go_sem] at hc)))
 (refine retS_ent (Ent.rel 3 rfl) ?_; simp (disch:=omega) only [go_sem,simprocAttr,qN,qO,qP,qQ])
 refine retS_wk rfl ?_ (by simp only [Blk.nb, rowC_nb, D.nb, D.nbs, C.nb, C.nbs, C.nbss, rows_nb eI_nb, Bool.and_true, Bool.not_false, Bool.and_self, bD, dI, iD, rows_nb eP_nb, rows_nb eK_nb, rows_nb eLd_nb, rows_nb eIt_nb]); exact .refl _
end Go.Dw.Seat.Pa
end
section
set_option linter.unusedSimpArgs false
namespace Go.Dw.Seat
open Go Go.Dw Go.Proofs Go.IntWalk
structure Cause where
 noz : Int
 kind : Int
 frm : Int
instance : DecidableEq Cause := fun a b => decidable_of_iff (a.noz = b.noz ∧ a.kind = b.kind ∧ a.frm = b.frm) (by cases a; cases b; simp)
def eC (c : Cause) : List C := [.v (.int .i64 c.noz), .v (.int .i64 c.kind), .v (.int .i64 c.frm)]
structure Look where
 box : Int
 noz : Int
 step : Int
 glue : Bool
instance : DecidableEq Look := fun a b => decidable_of_iff (a.box = b.box ∧ a.noz = b.noz ∧ a.step = b.step ∧ a.glue = b.glue) (by cases a; cases b; simp)
def eL (c : Look) : List C := [.v (.int .i64 c.box), .v (.int .i64 c.noz), .v (.int .i64 c.step), .v (.bool c.glue)]
structure Room where
 wl : Int
 wh : Int
 dl : Int
 dh : Int
instance : DecidableEq Room := fun a b => decidable_of_iff (a.wl = b.wl ∧ a.wh = b.wh ∧ a.dl = b.dl ∧ a.dh = b.dh) (by cases a; cases b; simp)
def eR (c : Room) : List C := [.v (.int .i64 c.wl), .v (.int .i64 c.wh), .v (.int .i64 c.dl), .v (.int .i64 c.dh)]
def eSb (b : Bool) (s : List Cause) : List C := [.sl b 3 (rows eC s)]
abbrev eS := eSb false
def eG (s : List Int) : List C := [.sl false 1 (rows eI s)]
structure Plan where
 steps : Int
 noz : List Int
abbrev dP (b : Bool) (p : Plan) : D := .agg [.c (.v (.int .i64 p.steps)), .c (.sl b 1 (rows eI p.noz))]
abbrev dCs (b : Bool) (l : List Cause) : D := .c (.sl b 3 (rows eC l))
abbrev dLs (b : Bool) (l : List Look) : D := .c (.sl b 4 (rows eL l))
abbrev dSs (b : Bool) (l : List (List Cause)) : D := .c (.sl b 1 (rows eS l))
theorem rowC_snocC (l : List Cause) (a b c : Int) : rowC (rows eC l) ++ [[D.c (.v (.int .i64 a)), D.c (.v (.int .i64 b)), D.c (.v (.int .i64 c))]] = rowC (rows eC (l ++ [⟨a, b, c⟩])) := by simp [rowC, rows, eC]
theorem rowC_snocL (l : List Look) (a b c : Int) (d : Bool) : rowC (rows eL l) ++ [[D.c (.v (.int .i64 a)), D.c (.v (.int .i64 b)), D.c (.v (.int .i64 c)), D.c (.v (.bool d))]] = rowC (rows eL (l ++ [⟨a, b, c, d⟩])) := by simp [rowC, rows, eL]
theorem rowC_snocS (l : List (List Cause)) (s : List Cause) : rowC (rows (eSb false) l) ++ [[D.c (.sl false 3 (rows eC s))]] = rowC (rows (eSb false) (l ++ [s])) := by simp [rowC, rows, eSb]
attribute [go_sem] rowC_snocC rowC_snocL rowC_snocS
attribute [go_sem] eC eL eR eS eSb eG dP dCs dLs dSs
end Go.Dw.Seat
end
section
set_option linter.unusedSimpArgs false
namespace Go.Dw.Seat
open Go Go.Dw Go.Proofs Go.IntWalk
theorem c122 (b : Bool) (l : List (Int)) (hl : l.length ≤ 2 ^ 36) (g : FuncId) (fs caps : List C) (p : Int → Bool) (hp : ∀ x ∈ l, DCall Try.prog g (fs.map D.c ++ [dI x] ++ caps.map D.c) [] (bD (p x)) []) : DCall Try.prog 159 [.c (.sl b 1 (rows eI l)), .c (.fn (.func g) fs caps)] [] (dI (idxI p l)) [] := by
 refine DCall.of Try.func159 sf159 hb159 (Nat.le_of_ble_eq_true rfl) (okRes_nil fun _ => rfl) ?_; simp only [s159, idxs, Nat.reduceAdd]
 repeat' (first|(with_reducible first|apply qA|apply qB|apply qC|apply qD|apply qE|apply qF)|(simp (disch:=omega) only [go_sem, simprocAttr, Blk.men, Blk.keysIn])|exact qM rfl rfl rfl|(refine qG rfl ?_)|(refine qH rfl ?_)|(refine qI rfl ?_ ?_<;>intro hc<;>(try simp only [go_sem] at hc))|(refine qJ ?_ ?_<;>intro hc<;>(try simp only [hc])<;>(try simp only [go_sem] at hc)))
 refine DW.loop (ι := { i : Nat // i ≤ l.length ∧ ∀ j u, j < i → l[j]? = some u → p u = false }) (fun i => ⟨19, [(8, dI i.1), (7, dI l.length), (1, .c (.fn (.func g) fs caps)), (0, .c (.sl b 1 (rows eI l)))], []⟩) (fun i => l.length - i.1) ⟨0, Nat.zero_le _, fun j u h => by omega⟩ ?_ ?_
 ·refine Ent.to ?_ ?_ <;> simp (disch:=omega) only [qR,qS,qTw,qU,get,Nat.reduceEqDiff,↓reduceIte,qV,qW,qX,qY,qZ,and_self,dI,i64_in,and_true,true_and,rA,rB,rC,rD]
 rintro ⟨i, hi, hij⟩
 rcases at_or l i hi with ⟨v, hv, hlt, hd⟩ | ⟨he, hd⟩
 ·have hcall := hp v (List.mem_of_getElem? hv)
  repeat' (first|(with_reducible first|apply qA|apply qB|apply qC|apply qD|apply qE|apply qF)|(simp (disch:=omega) only [go_sem, simprocAttr, Blk.men, Blk.keysIn, hd, hv, closeDs_fn, rF, rG])|exact qM rfl rfl rfl|(refine qG rfl ?_)|(refine qH rfl ?_)|(refine qI rfl ?_ ?_<;>intro hc<;>(try simp only [go_sem] at hc))|(refine qJ ?_ ?_<;>intro hc<;>(try simp only [hc])<;>(try simp only [go_sem] at hc)))
  refine call_c hcall (by decide) ?_
  simp (disch:=omega) only [go_sem,simprocAttr,Blk.men,Blk.keysIn]
  refine DW.cond rfl ?_ ?_ <;> intro hc
  ·repeat' (first|(with_reducible first|apply qA|apply qB|apply qC|apply qD|apply qE|apply qF)|(simp (disch:=omega) only [go_sem, simprocAttr, Blk.men, Blk.keysIn])|exact qM rfl rfl rfl|(refine qG rfl ?_)|(refine qH rfl ?_)|(refine qI rfl ?_ ?_<;>intro hc<;>(try simp only [go_sem] at hc))|(refine qJ ?_ ?_<;>intro hc<;>(try simp only [hc])<;>(try simp only [go_sem] at hc)))
   refine retS_of rfl ?_ rfl; simp only [oneD, St.op, get, Nat.reduceEqDiff, ↓reduceIte, Option.getD_some, bD, dI]
   simp only [idxI, idxOf_some hij hv hc]
  ·repeat' (first|(with_reducible first|apply qA|apply qB|apply qC|apply qD|apply qE|apply qF)|(simp (disch:=omega) only [go_sem, simprocAttr, Blk.men, Blk.keysIn])|exact qM rfl rfl rfl|(refine qG rfl ?_)|(refine qH rfl ?_)|(refine qI rfl ?_ ?_<;>intro hc<;>(try simp only [go_sem] at hc))|(refine qJ ?_ ?_<;>intro hc<;>(try simp only [hc])<;>(try simp only [go_sem] at hc)))
   refine ⟨⟨i + 1, by omega, fun j u hj hu => by
    rcases Nat.lt_or_ge j i with h | h
    ·exact hij j u h hu
    ·have : j = i := by omega
     subst this
     rw [hv] at hu; cases hu; exact hc⟩, ?_, Ent.to ?_ ?_⟩ <;> first | (show _ < _; (try simp only); omega) | (simp (disch:=omega) only [qR,qS,qTw,qU,get,Nat.reduceEqDiff,↓reduceIte,qV,qW,qX,qY,qZ,and_self,dI,i64_in,and_true,true_and,rA,rB,rC,rD])
 ·repeat' (first|(with_reducible first|apply qA|apply qB|apply qC|apply qD|apply qE|apply qF)|(simp (disch:=omega) only [go_sem, simprocAttr, Blk.men, Blk.keysIn, hd])|exact qM rfl rfl rfl|(refine qG rfl ?_)|(refine qH rfl ?_)|(refine qI rfl ?_ ?_<;>intro hc<;>(try simp only [go_sem] at hc))|(refine qJ ?_ ?_<;>intro hc<;>(try simp only [hc])<;>(try simp only [go_sem] at hc)))
  refine retS_of rfl ?_ rfl; simp only [oneD, St.op, get, Nat.reduceEqDiff, ↓reduceIte, Option.getD_some, bD, dI]
  simp only [idxI, idxOf_none (he ▸ hij)]
theorem c110 (b : Bool) (l : List (Int)) (hl : l.length ≤ 2 ^ 36) (g : FuncId) (fs caps : List C) (p : Int → Bool) (hp : ∀ x ∈ l, DCall Try.prog g (fs.map D.c ++ [dI x] ++ caps.map D.c) [] (bD (p x)) []) : DCall Try.prog 104 [.c (.sl b 1 (rows eI l)), .c (.fn (.func g) fs caps)] [] (bD (l.any p)) [] := by
 refine DCall.of Try.func104 sf104 hb104 (Nat.le_of_ble_eq_true rfl) (okRes_nil fun _ => rfl) ?_; simp only [s104, idxs, Nat.reduceAdd]
 repeat' (first|(with_reducible first|apply qA|apply qB|apply qC|apply qD|apply qE|apply qF)|(simp (disch:=omega) only [go_sem, simprocAttr, Blk.men, Blk.keysIn])|exact qM rfl rfl rfl|(refine qG rfl ?_)|(refine qH rfl ?_)|(refine qI rfl ?_ ?_<;>intro hc<;>(try simp only [go_sem] at hc))|(refine qJ ?_ ?_<;>intro hc<;>(try simp only [hc])<;>(try simp only [go_sem] at hc)))
 refine call_c (c122 b l hl g fs caps p hp) (by decide) ?_
 repeat' (first|(with_reducible first|apply qA|apply qB|apply qC|apply qD|apply qE|apply qF)|(simp (disch:=omega) only [go_sem, simprocAttr, Blk.men, Blk.keysIn])|exact qM rfl rfl rfl|(refine qG rfl ?_)|(refine qH rfl ?_)|(refine qI rfl ?_ ?_<;>intro hc<;>(try simp only [go_sem] at hc))|(refine qJ ?_ ?_<;>intro hc<;>(try simp only [hc])<;>(try simp only [go_sem] at hc)))
 refine retS_of rfl ?_ rfl; simp only [oneD, St.op, get, Nat.reduceEqDiff, ↓reduceIte, Option.getD_some, bD, dI]
 rw [idxI_any]
end Go.Dw.Seat
end
section
set_option linter.unusedSimpArgs false
set_option maxRecDepth 100000
namespace Go.Dw.Seat
open Go Go.Dw Go.Proofs Go.IntWalk
def wthn (lo hi : Int) (l : List Int) : Bool := !(l.any fun n => decide (n < lo) || decide (hi < n))
theorem wthn_one {lo hi n : Int} (h : wthn lo hi [n] = true) : lo ≤ n ∧ n ≤ hi := by
 simp [wthn] at h; omega
end Go.Dw.Seat
end
section
set_option linter.unusedSimpArgs false
set_option maxRecDepth 100000
namespace Go.Dw.Seat
open Go Go.Dw Go.Proofs Go.IntWalk
structure Seen where
 froms : List Int
 looks : List Look
abbrev dX (b : Bool) (x : Seen) : D := .agg [.c (.sl b 1 (rows eI x.froms)), .c (.sl b 4 (rows eL x.looks))]
attribute [go_sem] dX
end Go.Dw.Seat
end
section
set_option linter.unusedSimpArgs false
set_option maxRecDepth 100000
namespace Go.Dw.Seat
open Go Go.Dw Go.Proofs Go.IntWalk
attribute [go_sem] Try.underlying3
def toldN (st v : Nat) (step : Int) : Bool := (decide (0 ≤ step) && decide (step ≤ (st : Int) - 1)) && ((v >>> step.toNat) % 2 == 1)
end Go.Dw.Seat
end
section
set_option linter.unusedSimpArgs false
set_option maxRecDepth 100000
namespace Go.Dw.Seat
open Go Go.Dw Go.Proofs Go.IntWalk
def kindStep (box : Int) (z : Nat) (k : Int) (c : Cause) : Int := if c.noz = z ∧ c.frm ≤ box then c.kind else k
def kindOf (s : List Cause) (box : Int) (z : Nat) : Int := s.foldl (kindStep box z) 0
def glueB (kind box : Int) (now before : Bool) : Bool :=
 if kind = 1 then false else if kind = 2 then now || before else if kind = 3 then now && before else if kind = 4 then now && decide (box.tmod 2 = 0) else now
def glueN (st : Nat) (noz : List Nat) (s : List Cause) (box : Int) (z : Nat) (step : Int) : Bool :=
 glueB (kindOf s box z) box (toldN st (noz.getD z 0) step) (toldN st (noz.getD z 0) (step - 1))
end Go.Dw.Seat
end
section
set_option linter.unusedSimpArgs false
set_option maxRecDepth 100000
namespace Go.Dw.Seat
open Go Go.Dw Go.Proofs Go.IntWalk
def bitsN (f : Nat → Bool) : Nat → Nat
 | 0 => 0
 | n + 1 => bitsN f n + if f n then 2 ^ n else 0
def boxB (st : Nat) (noz : List Nat) (s : List Cause) (box : Int) (z n : Nat) : Nat := bitsN (fun step => glueN st noz s box z step) n
end Go.Dw.Seat
end
section
set_option linter.unusedSimpArgs false
set_option maxRecDepth 100000
namespace Go.Dw.Seat
open Go Go.Dw Go.Proofs Go.IntWalk
def fits (st : Nat) (noz : List Nat) (s : List Cause) (l : Look) : Bool := glueN st noz s l.box l.noz.toNat l.step == l.glue
end Go.Dw.Seat
end
section
set_option linter.unusedSimpArgs false
set_option maxRecDepth 100000
namespace Go.Dw.Seat
open Go Go.Dw Go.Proofs Go.IntWalk
def lookD (l : Option Look) : List C := eL (l.getD ⟨0, 0, 0, false⟩)
end Go.Dw.Seat
end
section
set_option linter.unusedSimpArgs false
set_option maxRecDepth 100000
namespace Go.Dw.Seat
open Go Go.Dw Go.Proofs Go.IntWalk
def spanOk (lo hi least most : Int) : Bool := wthn least most [lo, hi] && decide (lo ≤ hi)
structure Rule where
 mins : Int
 deg : Int
 damp : Int
abbrev dR (r : Rule) : D := .agg [dI r.mins, dI r.deg, dI r.damp]
attribute [go_sem] dR
end Go.Dw.Seat
end
section
set_option linter.unusedSimpArgs false
set_option maxRecDepth 100000
namespace Go.Dw.Seat
open Go Go.Dw Go.Proofs Go.IntWalk
section
variable {α : Type} {p : α → Bool}
structure Del (p : α → Bool) (l : List α) (j : Nat) (cur : List α) : Prop where
 le : j ≤ l.length
 len : cur.length = l.length
 lt : ((l.take j).filter (fun x => !p x)).length < j
 tk : cur.take ((l.take j).filter (fun x => !p x)).length = (l.take j).filter (fun x => !p x)
 dr : cur.drop j = l.drop j
theorem Del.get {l : List α} {j : Nat} {cur : List α} (h : Del p l j cur) : cur[j]? = l[j]? := by
 have h1 : (cur.drop j)[0]? = (l.drop j)[0]? := by rw [h.dr]
 simpa using h1
theorem Del.skip {l : List α} {j : Nat} {cur : List α} {v : α} (h : Del p l j cur) (hv : l[j]? = some v) (hp : p v = true) : Del p l (j + 1) cur ∧ ((l.take (j + 1)).filter (fun x => !p x)).length = ((l.take j).filter (fun x => !p x)).length := by
 have e : (l.take (j + 1)).filter (fun x => !p x) = (l.take j).filter (fun x => !p x) := by rw [List.take_add_one, hv, List.filter_append]; simp [hp]
 have hlt : j < l.length := by
  rcases Nat.lt_or_ge j l.length with h | h
  ·exact h
  ·rw [List.getElem?_eq_none h] at hv; cases hv
 refine ⟨⟨hlt, h.len, by have := h.lt; rw [e]; omega, by rw [e]; exact h.tk, ?_⟩, by rw [e]⟩
 have := congrArg (List.drop 1) h.dr
 simpa [List.drop_drop] using this
theorem Del.keep {l : List α} {j : Nat} {cur : List α} {v : α} (h : Del p l j cur) (hv : l[j]? = some v) (hp : p v = false) : Del p l (j + 1) (cur.set ((l.take j).filter (fun x => !p x)).length v) ∧ ((l.take (j + 1)).filter (fun x => !p x)).length = ((l.take j).filter (fun x => !p x)).length + 1 := by
 have e : (l.take (j + 1)).filter (fun x => !p x) = (l.take j).filter (fun x => !p x) ++ [v] := by rw [List.take_add_one, hv, List.filter_append]; simp [hp]
 have hlt : j < l.length := by
  rcases Nat.lt_or_ge j l.length with h | h
  ·exact h
  ·rw [List.getElem?_eq_none h] at hv; cases hv
 have h1 := h.lt
 have h2 := h.len
 have h3 := h.tk
 generalize (l.take j).filter (fun x => !p x) = f at *
 refine ⟨⟨hlt, by simp [h2], by rw [e]; simp; omega, ?_, ?_⟩, by rw [e]; simp⟩
 ·rw [e]
  simp only [List.length_append, List.length_cons, List.length_nil]
  rw [List.take_add_one, List.take_set_of_le (Nat.le_refl _), h3, List.getElem?_set_self (by omega)]
  rfl
 ·rw [List.drop_set_of_lt (by omega)]
  have := congrArg (List.drop 1) h.dr
  simpa [List.drop_drop] using this
theorem Del.fin {l : List α} {cur : List α} (h : Del p l l.length cur) : cur.take (l.filter (fun x => !p x)).length = l.filter (fun x => !p x) ∧ (l.filter (fun x => !p x)).length ≤ cur.length := by
 have h1 := h.tk
 have h2 := h.lt
 rw [List.take_length] at h1 h2
 exact ⟨h1, by rw [h.len]; omega⟩
end
end Go.Dw.Seat
end
section
set_option linter.unusedSimpArgs false
set_option maxRecDepth 100000
namespace Go.Dw.Seat
open Go Go.Dw Go.Proofs Go.IntWalk
def dupAt : List Int → Nat → Option Nat
 | a :: b :: l, k => if b = a then some (k + 1) else dupAt (b :: l) (k + 1)
 | _, _ => none
def keptTo (s : List Int) (m : Nat) : List Int := (((s.tail.zip s).take m).filter fun q => decide (q.1 ≠ q.2)).map (·.1)
def cpt (l : List Int) : List Int := match dupAt l 0 with
 | none => l
 | some k => l.take k ++ keptTo (l.drop k) ((l.drop k).length - 1)
theorem keptTo_len (s : List Int) (m : Nat) : (keptTo s m).length ≤ m := by
 simp only [keptTo, List.length_map]
 refine Nat.le_trans (List.length_filter_le _ _) ?_
 rw [List.length_take]; omega
theorem keptTo_succ {s : List Int} {m : Nat} {a b : Int} (ha : s[m]? = some a) (hb : s[m + 1]? = some b) : keptTo s (m + 1) = keptTo s m ++ if b = a then [] else [b] := by
 have hz : (s.tail.zip s)[m]? = some (b, a) := by
  rw [List.getElem?_zip_eq_some]
  exact ⟨by rw [List.getElem?_tail]; exact hb, ha⟩
 simp only [keptTo, List.take_add_one, hz, List.filter_append, List.map_append, Option.toList_some]
 congr 1
 by_cases h : b = a <;> simp [h]
structure Cp (l : List Int) (K m : Nat) (cur : List Int) : Prop where
 le : K + m + 1 ≤ l.length
 len : cur.length = l.length
 tk : cur.take (K + (keptTo (l.drop K) m).length) = l.take K ++ keptTo (l.drop K) m
 dr : cur.drop (K + m) = l.drop (K + m)
theorem Cp.step {l : List Int} {K m : Nat} {cur : List Int} {a b : Int} (h : Cp l K m cur) (hlt : K + m + 1 < l.length) (ha : l[K + m]? = some a) (hb : l[K + m + 1]? = some b) :
  (b = a → Cp l K (m + 1) cur ∧ (keptTo (l.drop K) (m + 1)).length = (keptTo (l.drop K) m).length) ∧
  (b ≠ a → Cp l K (m + 1) (cur.set (K + (keptTo (l.drop K) m).length) b) ∧ (keptTo (l.drop K) (m + 1)).length = (keptTo (l.drop K) m).length + 1) := by
 have hk := keptTo_succ (s := l.drop K) (m := m) (a := a) (b := b) (by rw [List.getElem?_drop]; exact ha) (by rw [List.getElem?_drop]; exact hb)
 have h1 := keptTo_len (l.drop K) m
 have h2 := h.tk
 have h3 := h.len
 have h4 : cur.drop (K + (m + 1)) = l.drop (K + (m + 1)) := by
  have := congrArg (List.drop 1) h.dr
  simpa [List.drop_drop, Nat.add_assoc] using this
 generalize keptTo (l.drop K) m = f at *
 constructor
 ·intro hba
  rw [if_pos hba, List.append_nil] at hk
  exact ⟨⟨by omega, h3, by rw [hk]; exact h2, h4⟩, by rw [hk]⟩
 ·intro hba
  rw [if_neg hba] at hk
  refine ⟨⟨by omega, by simp [h3], ?_, ?_⟩, by rw [hk]; simp⟩
  ·rw [hk]
   simp only [List.length_append, List.length_cons, List.length_nil, ← Nat.add_assoc]
   rw [List.take_add_one, List.take_set_of_le (Nat.le_refl _), h2, List.getElem?_set_self (by omega), List.append_assoc]
   rfl
  ·rw [List.drop_set_of_lt (by omega)]
   exact h4
theorem Cp.fin {l : List Int} {K m : Nat} {cur : List Int} (h : Cp l K m cur) (hm : m + 1 = (l.drop K).length) (hd : dupAt l 0 = some K) : cur.take (K + (keptTo (l.drop K) m).length) = cpt l := by
 unfold cpt
 rw [hd, h.tk]
 dsimp only
 rw [← hm, Nat.add_sub_cancel]
end Go.Dw.Seat
end
section
set_option linter.unusedSimpArgs false
set_option maxRecDepth 100000
namespace Go.Dw.Seat
open Go Go.Dw Go.Proofs Go.IntWalk
structure Spot where
 box : Nat
 noz : Nat
 step : Nat
def enSpot (s : Spot) : List D := [.agg [dI s.box, dI s.noz, dI s.step]]
end Go.Dw.Seat
end
section
set_option linter.unusedSimpArgs false
set_option maxRecDepth 100000
namespace Go.Dw.Seat
open Go Go.Dw Go.Proofs Go.IntWalk
attribute [go_sem] enSpot
end Go.Dw.Seat
end
section
set_option linter.unusedSimpArgs false
set_option maxRecDepth 100000
namespace Go.Dw.Seat
open Go Go.Dw Go.Proofs Go.IntWalk
def eGb (b : Bool) (s : List Int) : List C := [.sl b 1 (rows eI s)]
attribute [go_sem] eGb
end Go.Dw.Seat
end
section
set_option linter.unusedSimpArgs false
set_option maxRecDepth 100000
namespace Go.Dw.Seat.Pa
open Go Go.Dw Go.Proofs Go.IntWalk
theorem tab1_ok {k : Int} (hk : 0 ≤ k ∧ k ≤ 1000) {w : Int} (hw : 0 ≤ w ∧ w ≤ 10000) : TabOk [(0, k)] w := by
 refine ⟨tabF_of (by simp) (fun y h => ?_) (fun j hj y hy => ?_), hw⟩
 ·simp at h; subst h; rfl
 ·have hj2 : j < 1 := hj
  obtain rfl : j = 0 := by omega
  simp at hy
  subst hy
  exact ⟨⟨⟨by dsimp only; omega, by dsimp only; omega⟩, hk⟩, fun k u h => by omega⟩
end Go.Dw.Seat.Pa
end
section
set_option linter.unusedSimpArgs false
set_option maxRecDepth 100000
namespace Go.Dw.Seat
open Go Go.Dw Go.Proofs Go.IntWalk
theorem dmW1 (n lo hi : Int) (p q : Bool) : DCall Try.prog 121 [dI n, .c (.ro p [.v (.int .i64 lo)] 0), .c (.ro q [.v (.int .i64 hi)] 0)] [] (bD (decide (n < lo) || decide (hi < n))) [] := by
 refine DCall.of Try.func121 sf121 hb121 (Nat.le_of_ble_eq_true rfl) (okRes_nil fun _ => rfl) ?_; simp only [s121, idxs, Nat.reduceAdd]
 repeat' (first|(with_reducible first|apply qA|apply qB|apply qC|apply qD|apply qE|apply qF)|(simp (disch:=omega) only [go_sem, simprocAttr, Blk.men, Blk.keysIn])|exact qM rfl rfl rfl|(refine qG rfl ?_)|(refine qH rfl ?_)|(refine qI rfl ?_ ?_<;>intro hc<;>(try simp only [go_sem] at hc))|(refine qJ ?_ ?_<;>intro hc<;>(try simp only [hc])<;>(try simp only [go_sem] at hc)))
theorem dmWithin (b : Bool) (lo hi : Int) (l : List Int) (hl : l.length ≤ 2 ^ 36) : DCall Try.prog 67 [dI lo, dI hi, dIs b l] [] (bD (wthn lo hi l)) [] := by
 refine DCall.of Try.func67 sf67 hb67 (Nat.le_of_ble_eq_true rfl) (okRes_nil fun _ => rfl) ?_; simp only [s67, idxs, Nat.reduceAdd]
 repeat' (first|(with_reducible first|apply qA|apply qB|apply qC|apply qD|apply qE|apply qF)|(simp (disch:=omega) only [go_sem, simprocAttr, Blk.men, Blk.keysIn])|exact qM rfl rfl rfl|(refine qG rfl ?_)|(refine qH rfl ?_)|(refine qI rfl ?_ ?_<;>intro hc<;>(try simp only [go_sem] at hc))|(refine qJ ?_ ?_<;>intro hc<;>(try simp only [hc])<;>(try simp only [go_sem] at hc)))
 (refine call_c (c110 b l hl 121 [] [.ro true [.v (.int .i64 lo)] 0, .ro true [.v (.int .i64 hi)] 0] (fun n => decide (n < lo) || decide (hi < n)) (fun x _ => dmW1 x lo hi true true)) (by decide) ?_; simp (disch:=omega) only [go_sem,simprocAttr,Blk.men,Blk.keysIn])
 repeat' (first|(with_reducible first|apply qA|apply qB|apply qC|apply qD|apply qE|apply qF)|(simp (disch:=omega) only [go_sem, simprocAttr, Blk.men, Blk.keysIn])|exact qM rfl rfl rfl|(refine qG rfl ?_)|(refine qH rfl ?_)|(refine qI rfl ?_ ?_<;>intro hc<;>(try simp only [go_sem] at hc))|(refine qJ ?_ ?_<;>intro hc<;>(try simp only [hc])<;>(try simp only [go_sem] at hc)))
theorem dmIn (b : Bool) (lo hi : Int) (l : List Int) (hl : l.length ≤ 2 ^ 36) (h : ∀ v ∈ l, lo ≤ v ∧ v ≤ hi) : DCall Try.prog 67 [dI lo, dI hi, dIs b l] [] (bD true) [] := by
 have h1 := dmWithin b lo hi l hl
 have : wthn lo hi l = true := by
  simp only [wthn, Bool.not_eq_true', List.any_eq_false, Bool.or_eq_true, decide_eq_true_eq]
  intro v hv
  have := h v hv
  omega
 rwa [this] at h1
def eSp (s : Int × Int) : List C := [.v (.int .i64 s.1), .v (.int .i64 s.2)]
theorem eSp_nb (s : Int × Int) : C.nbs (eSp s) = true := rfl
attribute [go_sem] eSp
def spM (s : Int × Int) : Prop := 0 ≤ s.1 ∧ s.1 ≤ s.2 ∧ s.2 ≤ 300
structure DSt where
 lo : Int
 hi : Int
 h : Int
structure DSt.ok (s : DSt) : Prop where
 r : spM (s.lo, s.hi)
 h : 0 ≤ s.h ∧ s.h ≤ 500
def eDs (s : DSt) : List C := [.v (.int .i64 s.lo), .v (.int .i64 s.hi), .v (.int .i64 s.h)]
theorem eDs_nb (s : DSt) : C.nbs (eDs s) = true := rfl
attribute [go_sem] eDs
theorem dmIsMoist (s : Int × Int) (h : spM s) : DCall Try.prog 124 [.agg [dI s.1, dI s.2]] [] (bD true) [] := by
 obtain ⟨h1, h2, h3⟩ := h
 have hw := dmIn true 0 300 [s.1, s.2] (by simp) (fun v hv => by
  simp only [List.mem_cons, List.not_mem_nil, or_false] at hv
  rcases hv with rfl | rfl <;> omega)
 have hd : decide (s.1 ≤ s.2) = true := decide_eq_true h2
 refine DCall.of Try.func124 sf124 hb124 (Nat.le_of_ble_eq_true rfl) (okRes_nil fun _ => rfl) ?_; simp only [s124, idxs, Nat.reduceAdd]
 repeat' (first|(with_reducible first|apply qA|apply qB|apply qC|apply qD|apply qE|apply qF)|(simp (disch:=omega) only [go_sem, simprocAttr, Blk.men, Blk.keysIn, hd])|exact qM rfl rfl rfl|(refine qG rfl ?_)|(refine qK (hw) (by decide) ?_)|(refine qH rfl ?_)|(refine qI rfl ?_ ?_<;>intro hc<;>(try simp only [go_sem] at hc))|(refine qJ ?_ ?_<;>intro hc<;>(try simp only [hc])<;>(try simp only [go_sem] at hc)))
theorem dmM1 (s : Int × Int) (h : spM s) : DCall Try.prog 123 [.agg ((eSp s).map D.c)] [] (bD false) [] := by
 have h1 := dmIsMoist s h
 refine DCall.of Try.func123 sf123 hb123 (Nat.le_of_ble_eq_true rfl) (okRes_nil fun _ => rfl) ?_; simp only [s123, idxs, Nat.reduceAdd]
 repeat' (first|(with_reducible first|apply qA|apply qB|apply qC|apply qD|apply qE|apply qF)|(simp (disch:=omega) only [go_sem, simprocAttr, Blk.men, Blk.keysIn, rF, rG])|exact qM rfl rfl rfl|(refine qG rfl ?_)|(refine qK (h1) (by decide) ?_)|(refine qH rfl ?_)|(refine qI rfl ?_ ?_<;>intro hc<;>(try simp only [go_sem] at hc))|(refine qJ ?_ ?_<;>intro hc<;>(try simp only [hc])<;>(try simp only [go_sem] at hc)))
theorem dmSpIdx (b : Bool) (l : List (Int × Int)) (hl : l.length ≤ 2 ^ 36) (g : FuncId) (hp : ∀ x ∈ l, DCall Try.prog g [.agg ((eSp x).map D.c)] [] (bD false) []) : DCall Try.prog 171 [.c (.sl b 2 (rows eSp l)), .c (.fn (.func g) [] [])] [] (dI (-1)) [] := by
 refine DCall.of Try.func171 sf171 hb171 (Nat.le_of_ble_eq_true rfl) (okRes_nil fun _ => rfl) ?_; simp only [s171, idxs, Nat.reduceAdd]
 repeat' (first|(with_reducible first|apply qA|apply qB|apply qC|apply qD|apply qE|apply qF)|(simp (disch:=omega) only [go_sem, simprocAttr, Blk.men, Blk.keysIn])|exact qM rfl rfl rfl|(refine qG rfl ?_)|(refine qH rfl ?_)|(refine qI rfl ?_ ?_<;>intro hc<;>(try simp only [go_sem] at hc))|(refine qJ ?_ ?_<;>intro hc<;>(try simp only [hc])<;>(try simp only [go_sem] at hc)))
 refine DW.loop (ι := { i : Nat // i ≤ l.length }) (fun i => ⟨19, [(8, dI i.1), (7, dI l.length), (1, .c (.fn (.func g) [] [])), (0, .c (.sl b 2 (rows eSp l)))], []⟩) (fun i => l.length - i.1) ⟨0, Nat.zero_le _⟩ ?_ ?_
 ·refine Ent.to ?_ ?_ <;> simp (disch:=omega) only [qR,qS,qTw,qU,get,Nat.reduceEqDiff,↓reduceIte,qV,qW,qX,qY,qZ,and_self,dI,i64_in,and_true,true_and,rA,rB,rC,rD]
 rintro ⟨i, hi⟩
 rcases at_or l i hi with ⟨v, hv, hlt, hd⟩ | ⟨he, hd⟩
 ·have hcall := hp v (List.mem_of_getElem? hv)
  repeat' (first|(with_reducible first|apply qA|apply qB|apply qC|apply qD|apply qE|apply qF)|(simp (disch:=omega) only [go_sem, simprocAttr, Blk.men, Blk.keysIn, hd, hv, closeDs_fn, rF, rG])|exact qM rfl rfl rfl|(refine qG rfl ?_)|(refine qH rfl ?_)|(refine qI rfl ?_ ?_<;>intro hc<;>(try simp only [go_sem] at hc))|(refine qJ ?_ ?_<;>intro hc<;>(try simp only [hc])<;>(try simp only [go_sem] at hc)))
  refine call_c hcall (by decide) ?_
  simp (disch:=omega) only [go_sem,simprocAttr,Blk.men,Blk.keysIn]
  repeat' (first|(with_reducible first|apply qA|apply qB|apply qC|apply qD|apply qE|apply qF)|(simp (disch:=omega) only [go_sem, simprocAttr, Blk.men, Blk.keysIn])|exact qM rfl rfl rfl|(refine qG rfl ?_)|(refine qH rfl ?_)|(refine qI rfl ?_ ?_<;>intro hc<;>(try simp only [go_sem] at hc))|(refine qJ ?_ ?_<;>intro hc<;>(try simp only [hc])<;>(try simp only [go_sem] at hc)))
  refine ⟨⟨i + 1, hlt⟩, ?_, Ent.to ?_ ?_⟩ <;> first | (show _ < _; (try simp only); omega) | (simp (disch:=omega) only [qR,qS,qTw,qU,get,Nat.reduceEqDiff,↓reduceIte,qV,qW,qX,qY,qZ,and_self,dI,i64_in,and_true,true_and,rA,rB,rC,rD])
 ·repeat' (first|(with_reducible first|apply qA|apply qB|apply qC|apply qD|apply qE|apply qF)|(simp (disch:=omega) only [go_sem, simprocAttr, Blk.men, Blk.keysIn, hd])|exact qM rfl rfl rfl|(refine qG rfl ?_)|(refine qH rfl ?_)|(refine qI rfl ?_ ?_<;>intro hc<;>(try simp only [go_sem] at hc))|(refine qJ ?_ ?_<;>intro hc<;>(try simp only [hc])<;>(try simp only [go_sem] at hc)))
theorem dmSpCon (b : Bool) (l : List (Int × Int)) (hl : l.length ≤ 2 ^ 36) (g : FuncId) (hp : ∀ x ∈ l, DCall Try.prog g [.agg ((eSp x).map D.c)] [] (bD false) []) : DCall Try.prog 122 [.c (.sl b 2 (rows eSp l)), .c (.fn (.func g) [] [])] [] (bD false) [] := by
 refine DCall.of Try.func122 sf122 hb122 (Nat.le_of_ble_eq_true rfl) (okRes_nil fun _ => rfl) ?_; simp only [s122, idxs, Nat.reduceAdd]
 repeat' (first|(with_reducible first|apply qA|apply qB|apply qC|apply qD|apply qE|apply qF)|(simp (disch:=omega) only [go_sem, simprocAttr, Blk.men, Blk.keysIn])|exact qM rfl rfl rfl|(refine qG rfl ?_)|(refine qH rfl ?_)|(refine qI rfl ?_ ?_<;>intro hc<;>(try simp only [go_sem] at hc))|(refine qJ ?_ ?_<;>intro hc<;>(try simp only [hc])<;>(try simp only [go_sem] at hc)))
 (refine call_c (dmSpIdx b l hl g hp) (by decide) ?_; simp (disch:=omega) only [go_sem,simprocAttr,Blk.men,Blk.keysIn])
 repeat' (first|(with_reducible first|apply qA|apply qB|apply qC|apply qD|apply qE|apply qF)|(simp (disch:=omega) only [go_sem, simprocAttr, Blk.men, Blk.keysIn])|exact qM rfl rfl rfl|(refine qG rfl ?_)|(refine qH rfl ?_)|(refine qI rfl ?_ ?_<;>intro hc<;>(try simp only [go_sem] at hc))|(refine qJ ?_ ?_<;>intro hc<;>(try simp only [hc])<;>(try simp only [go_sem] at hc)))
theorem dmMoist (b : Bool) (l : List (Int × Int)) (hl : l.length ≤ 2 ^ 36) (h : ∀ s ∈ l, spM s) : DCall Try.prog 68 [.c (.sl b 2 (rows eSp l))] [] (bD true) [] := by
 have h1 := dmSpCon b l hl 123 (fun x hx => dmM1 x (h x hx))
 refine DCall.of Try.func68 sf68 hb68 (Nat.le_of_ble_eq_true rfl) (okRes_nil fun _ => rfl) ?_; simp only [s68, idxs, Nat.reduceAdd]
 repeat' (first|(with_reducible first|apply qA|apply qB|apply qC|apply qD|apply qE|apply qF)|(simp (disch:=omega) only [go_sem, simprocAttr, Blk.men, Blk.keysIn])|exact qM rfl rfl rfl|(refine qG rfl ?_)|(refine qK (h1) (by decide) ?_)|(refine qH rfl ?_)|(refine qI rfl ?_ ?_<;>intro hc<;>(try simp only [go_sem] at hc))|(refine qJ ?_ ?_<;>intro hc<;>(try simp only [hc])<;>(try simp only [go_sem] at hc)))
theorem dmRule (u d : Int) (h : (0 ≤ u ∧ u ≤ 50) ∧ 0 ≤ d ∧ d ≤ 50) : DCall Try.prog 117 [.agg [dI u, dI d]] [] (bD true) [] := by
 have hw := dmIn true 0 50 [u, d] (by simp) (fun v hv => by
  simp only [List.mem_cons, List.not_mem_nil, or_false] at hv
  rcases hv with rfl | rfl <;> omega)
 refine DCall.of Try.func117 sf117 hb117 (Nat.le_of_ble_eq_true rfl) (okRes_nil fun _ => rfl) ?_; simp only [s117, idxs, Nat.reduceAdd]
 repeat' (first|(with_reducible first|apply qA|apply qB|apply qC|apply qD|apply qE|apply qF)|(simp (disch:=omega) only [go_sem, simprocAttr, Blk.men, Blk.keysIn])|exact qM rfl rfl rfl|(refine qG rfl ?_)|(refine qK (hw) (by decide) ?_)|(refine qH rfl ?_)|(refine qI rfl ?_ ?_<;>intro hc<;>(try simp only [go_sem] at hc))|(refine qJ ?_ ?_<;>intro hc<;>(try simp only [hc])<;>(try simp only [go_sem] at hc)))
theorem dmC1 (s : DSt) (h : s.ok) : DCall Try.prog 116 [.agg ((eDs s).map D.c)] [] (bD false) [] := by
 have h1 := dmMoist true [(s.lo, s.hi)] (by simp) (fun x hx => by rw [List.mem_singleton.1 hx]; exact h.r)
 have h2 := dmIn true 0 500 [s.h] (by simp) (fun x hx => by rw [List.mem_singleton.1 hx]; exact h.h)
 refine DCall.of Try.func116 sf116 hb116 (Nat.le_of_ble_eq_true rfl) (okRes_nil fun _ => rfl) ?_; simp only [s116, idxs, Nat.reduceAdd]
 repeat' (first|(with_reducible first|apply qA|apply qB|apply qC|apply qD|apply qE|apply qF)|(simp (disch:=omega) only [go_sem, simprocAttr, Blk.men, Blk.keysIn, rF, rG])|exact qM rfl rfl rfl|(refine qG rfl ?_)|(refine qK (h1) (by decide) ?_)|(refine qK (h2) (by decide) ?_)|(refine qH rfl ?_)|(refine qI rfl ?_ ?_<;>intro hc<;>(try simp only [go_sem] at hc))|(refine qJ ?_ ?_<;>intro hc<;>(try simp only [hc])<;>(try simp only [go_sem] at hc)))
theorem dmStIdx (b : Bool) (l : List DSt) (hl : l.length ≤ 2 ^ 36) (g : FuncId) (hp : ∀ x ∈ l, DCall Try.prog g [.agg ((eDs x).map D.c)] [] (bD false) []) : DCall Try.prog 169 [.c (.sl b 3 (rows eDs l)), .c (.fn (.func g) [] [])] [] (dI (-1)) [] := by
 refine DCall.of Try.func169 sf169 hb169 (Nat.le_of_ble_eq_true rfl) (okRes_nil fun _ => rfl) ?_; simp only [s169, idxs, Nat.reduceAdd]
 repeat' (first|(with_reducible first|apply qA|apply qB|apply qC|apply qD|apply qE|apply qF)|(simp (disch:=omega) only [go_sem, simprocAttr, Blk.men, Blk.keysIn])|exact qM rfl rfl rfl|(refine qG rfl ?_)|(refine qH rfl ?_)|(refine qI rfl ?_ ?_<;>intro hc<;>(try simp only [go_sem] at hc))|(refine qJ ?_ ?_<;>intro hc<;>(try simp only [hc])<;>(try simp only [go_sem] at hc)))
 refine DW.loop (ι := { i : Nat // i ≤ l.length }) (fun i => ⟨19, [(8, dI i.1), (7, dI l.length), (1, .c (.fn (.func g) [] [])), (0, .c (.sl b 3 (rows eDs l)))], []⟩) (fun i => l.length - i.1) ⟨0, Nat.zero_le _⟩ ?_ ?_
 ·refine Ent.to ?_ ?_ <;> simp (disch:=omega) only [qR,qS,qTw,qU,get,Nat.reduceEqDiff,↓reduceIte,qV,qW,qX,qY,qZ,and_self,dI,i64_in,and_true,true_and,rA,rB,rC,rD]
 rintro ⟨i, hi⟩
 rcases at_or l i hi with ⟨v, hv, hlt, hd⟩ | ⟨he, hd⟩
 ·have hcall := hp v (List.mem_of_getElem? hv)
  repeat' (first|(with_reducible first|apply qA|apply qB|apply qC|apply qD|apply qE|apply qF)|(simp (disch:=omega) only [go_sem, simprocAttr, Blk.men, Blk.keysIn, hd, hv, closeDs_fn, rF, rG])|exact qM rfl rfl rfl|(refine qG rfl ?_)|(refine qH rfl ?_)|(refine qI rfl ?_ ?_<;>intro hc<;>(try simp only [go_sem] at hc))|(refine qJ ?_ ?_<;>intro hc<;>(try simp only [hc])<;>(try simp only [go_sem] at hc)))
  refine call_c hcall (by decide) ?_
  simp (disch:=omega) only [go_sem,simprocAttr,Blk.men,Blk.keysIn]
  repeat' (first|(with_reducible first|apply qA|apply qB|apply qC|apply qD|apply qE|apply qF)|(simp (disch:=omega) only [go_sem, simprocAttr, Blk.men, Blk.keysIn])|exact qM rfl rfl rfl|(refine qG rfl ?_)|(refine qH rfl ?_)|(refine qI rfl ?_ ?_<;>intro hc<;>(try simp only [go_sem] at hc))|(refine qJ ?_ ?_<;>intro hc<;>(try simp only [hc])<;>(try simp only [go_sem] at hc)))
  refine ⟨⟨i + 1, hlt⟩, ?_, Ent.to ?_ ?_⟩ <;> first | (show _ < _; (try simp only); omega) | (simp (disch:=omega) only [qR,qS,qTw,qU,get,Nat.reduceEqDiff,↓reduceIte,qV,qW,qX,qY,qZ,and_self,dI,i64_in,and_true,true_and,rA,rB,rC,rD])
 ·repeat' (first|(with_reducible first|apply qA|apply qB|apply qC|apply qD|apply qE|apply qF)|(simp (disch:=omega) only [go_sem, simprocAttr, Blk.men, Blk.keysIn, hd])|exact qM rfl rfl rfl|(refine qG rfl ?_)|(refine qH rfl ?_)|(refine qI rfl ?_ ?_<;>intro hc<;>(try simp only [go_sem] at hc))|(refine qJ ?_ ?_<;>intro hc<;>(try simp only [hc])<;>(try simp only [go_sem] at hc)))
theorem dmStCon (b : Bool) (l : List DSt) (hl : l.length ≤ 2 ^ 36) (g : FuncId) (hp : ∀ x ∈ l, DCall Try.prog g [.agg ((eDs x).map D.c)] [] (bD false) []) : DCall Try.prog 118 [.c (.sl b 3 (rows eDs l)), .c (.fn (.func g) [] [])] [] (bD false) [] := by
 refine DCall.of Try.func118 sf118 hb118 (Nat.le_of_ble_eq_true rfl) (okRes_nil fun _ => rfl) ?_; simp only [s118, idxs, Nat.reduceAdd]
 repeat' (first|(with_reducible first|apply qA|apply qB|apply qC|apply qD|apply qE|apply qF)|(simp (disch:=omega) only [go_sem, simprocAttr, Blk.men, Blk.keysIn])|exact qM rfl rfl rfl|(refine qG rfl ?_)|(refine qH rfl ?_)|(refine qI rfl ?_ ?_<;>intro hc<;>(try simp only [go_sem] at hc))|(refine qJ ?_ ?_<;>intro hc<;>(try simp only [hc])<;>(try simp only [go_sem] at hc)))
 (refine call_c (dmStIdx b l hl g hp) (by decide) ?_; simp (disch:=omega) only [go_sem,simprocAttr,Blk.men,Blk.keysIn])
 repeat' (first|(with_reducible first|apply qA|apply qB|apply qC|apply qD|apply qE|apply qF)|(simp (disch:=omega) only [go_sem, simprocAttr, Blk.men, Blk.keysIn])|exact qM rfl rfl rfl|(refine qG rfl ?_)|(refine qH rfl ?_)|(refine qI rfl ?_ ?_<;>intro hc<;>(try simp only [go_sem] at hc))|(refine qJ ?_ ?_<;>intro hc<;>(try simp only [hc])<;>(try simp only [go_sem] at hc)))
theorem dmCheck (u d : Int) (hr : (0 ≤ u ∧ u ≤ 50) ∧ 0 ≤ d ∧ d ≤ 50) (s : Int × Int) (hs : spM s) (b : Bool) (l : List DSt) (hl : l.length ≤ 10) (h : ∀ x ∈ l, x.ok) : DCall Try.prog 65 [.agg [dI u, dI d], .agg [dI s.1, dI s.2], .c (.sl b 3 (rows eDs l))] [] (dI 0) [] := by
 have h1 := dmRule u d hr
 have h2 := dmMoist true [s] (by simp) (fun x hx => by rw [List.mem_singleton.1 hx]; exact hs)
 have h3 := dmStCon b l (by omega) 116 (fun x hx => dmC1 x (h x hx))
 have hd : decide ((10 : Int) < (l.length : Int)) = false := decide_eq_false (by omega)
 refine DCall.of Try.func65 sf65 hb65 (Nat.le_of_ble_eq_true rfl) (okRes_nil fun _ => rfl) ?_; simp only [s65, idxs, Nat.reduceAdd]
 repeat' (first|(with_reducible first|apply qA|apply qB|apply qC|apply qD|apply qE|apply qF)|(simp (disch:=omega) only [go_sem, simprocAttr, Blk.men, Blk.keysIn, hd])|exact qM rfl rfl rfl|(refine qG rfl ?_)|(refine qK (h1) (by decide) ?_)|(refine qK (h2) (by decide) ?_)|(refine qK (h3) (by decide) ?_)|(refine qH rfl ?_)|(refine qI rfl ?_ ?_<;>intro hc<;>(try simp only [go_sem] at hc))|(refine qJ ?_ ?_<;>intro hc<;>(try simp only [hc])<;>(try simp only [go_sem] at hc)))
def towI (u d f r h : Int) : Int := if f < r then min r (f + u * h) else max r (f - d * h)
theorem tow_b {u d f r h : Int} (hr : (0 ≤ u ∧ u ≤ 50) ∧ 0 ≤ d ∧ d ≤ 50) (hf : 0 ≤ f ∧ f ≤ 300) (hm : 0 ≤ r ∧ r ≤ 300) (hh : 0 ≤ h) : 0 ≤ towI u d f r h ∧ towI u d f r h ≤ 300 := by
 have h1 : 0 ≤ u * h := Int.mul_nonneg hr.1.1 hh
 have h2 : 0 ≤ d * h := Int.mul_nonneg hr.2.1 hh
 unfold towI
 split <;> omega
theorem dm_min (a b : Int) : (if b < a then b else a) = min a b := by split <;> omega
theorem dm_max (a b : Int) : (if a < b then b else a) = max a b := by split <;> omega
theorem dmToward (u d f r h : Int) (hr : (0 ≤ u ∧ u ≤ 50) ∧ 0 ≤ d ∧ d ≤ 50) (hf : 0 ≤ f ∧ f ≤ 300) (hm : 0 ≤ r ∧ r ≤ 300) (hh : 0 ≤ h ∧ h ≤ 1000) : DCall Try.prog 170 [.agg [dI u, dI d], dI f, dI r, dI h] [] (dI (towI u d f r h)) [] := by
 obtain ⟨p, hp⟩ : ∃ p, u * h = p := ⟨_, rfl⟩
 obtain ⟨q, hq⟩ : ∃ q, d * h = q := ⟨_, rfl⟩
 have h1 : 0 ≤ p ∧ p ≤ 50 * 1000 := by
  rw [← hp]
  exact ⟨Int.mul_nonneg hr.1.1 hh.1, Int.mul_le_mul hr.1.2 hh.2 hh.1 (by decide)⟩
 have h2 : 0 ≤ q ∧ q ≤ 50 * 1000 := by
  rw [← hq]
  exact ⟨Int.mul_nonneg hr.2.1 hh.1, Int.mul_le_mul hr.2.2 hh.2 hh.1 (by decide)⟩
 unfold towI
 rw [hp, hq]
 by_cases hc : f < r
 ·have hd : decide (f < r) = true := decide_eq_true hc
  rw [if_pos hc]
  refine DCall.of Try.func170 sf170 hb170 (Nat.le_of_ble_eq_true rfl) (okRes_nil fun _ => rfl) ?_; simp only [s170, idxs, Nat.reduceAdd]
  repeat' (first|(with_reducible first|apply qA|apply qB|apply qC|apply qD|apply qE|apply qF)|(simp (disch:=omega) only [go_sem, simprocAttr, Blk.men, Blk.keysIn, hd, hp, hq, dm_min, dm_max])|exact qM rfl rfl rfl|(refine qG rfl ?_)|(refine qH rfl ?_)|(refine qI rfl ?_ ?_<;>intro hc<;>(try simp only [go_sem] at hc))|(refine qJ ?_ ?_<;>intro hc<;>(try simp only [hc])<;>(try simp only [go_sem] at hc)))
 ·have hd : decide (f < r) = false := decide_eq_false hc
  rw [if_neg hc]
  refine DCall.of Try.func170 sf170 hb170 (Nat.le_of_ble_eq_true rfl) (okRes_nil fun _ => rfl) ?_; simp only [s170, idxs, Nat.reduceAdd]
  repeat' (first|(with_reducible first|apply qA|apply qB|apply qC|apply qD|apply qE|apply qF)|(simp (disch:=omega) only [go_sem, simprocAttr, Blk.men, Blk.keysIn, hd, hp, hq, dm_min, dm_max])|exact qM rfl rfl rfl|(refine qG rfl ?_)|(refine qH rfl ?_)|(refine qI rfl ?_ ?_<;>intro hc<;>(try simp only [go_sem] at hc))|(refine qJ ?_ ?_<;>intro hc<;>(try simp only [hc])<;>(try simp only [go_sem] at hc)))
def hrsF (u d : Int) (k : Int × Int) (s : DSt) : Int × Int := (towI u d k.1 s.lo s.h, towI u d k.2 s.hi s.h)
theorem tow_mono {u d f f' r r' h : Int} (hf : f ≤ f') (hr : r ≤ r') : towI u d f r h ≤ towI u d f' r' h ∨ u * h < 0 ∨ d * h < 0 := by
 unfold towI
 split <;> split <;> omega
theorem hrs_ok {u d : Int} {k : Int × Int} {s : DSt} (hr : (0 ≤ u ∧ u ≤ 50) ∧ 0 ≤ d ∧ d ≤ 50) (hk : spM k) (hs : s.ok) : spM (hrsF u d k s) := by
 obtain ⟨k1, k2, k3⟩ := hk
 obtain ⟨s1, s2, s3⟩ := hs.r
 have hh := hs.h
 dsimp only at s1 s2 s3
 have h1 := (tow_b (u := u) (d := d) (f := k.1) (r := s.lo) (h := s.h) hr ⟨k1, by omega⟩ ⟨s1, by omega⟩ hh.1).1
 have h2 := (tow_b (u := u) (d := d) (f := k.2) (r := s.hi) (h := s.h) hr ⟨by omega, k3⟩ ⟨by omega, s3⟩ hh.1).2
 have h3 : 0 ≤ u * s.h := Int.mul_nonneg hr.1.1 hh.1
 have h4 : 0 ≤ d * s.h := Int.mul_nonneg hr.2.1 hh.1
 refine ⟨h1, ?_, h2⟩
 rcases tow_mono (u := u) (d := d) (h := s.h) k2 s2 with h | h | h
 ·exact h
 ·omega
 ·omega
theorem dmHrs (u d : Int) (k : Int × Int) (s : DSt) (hr : (0 ≤ u ∧ u ≤ 50) ∧ 0 ≤ d ∧ d ≤ 50) (hk : spM k) (hs : s.ok) : DCall Try.prog 120 [.agg [dI k.1, dI k.2], .agg [dI u, dI d], .agg [dI s.lo, dI s.hi], dI s.h] [] (.agg [dI (hrsF u d k s).1, dI (hrsF u d k s).2]) [] := by
 obtain ⟨k1, k2, k3⟩ := hk
 obtain ⟨s1, s2, s3⟩ := hs.r
 have hh := hs.h
 dsimp only at s1 s2 s3
 have h1 := dmToward u d k.1 s.lo s.h hr ⟨k1, by omega⟩ ⟨s1, by omega⟩ ⟨hh.1, by omega⟩
 have h2 := dmToward u d k.2 s.hi s.h hr ⟨by omega, k3⟩ ⟨by omega, s3⟩ ⟨hh.1, by omega⟩
 unfold hrsF
 dsimp only
 refine DCall.of Try.func120 sf120 hb120 (Nat.le_of_ble_eq_true rfl) (okRes_nil fun _ => rfl) ?_; simp only [s120, idxs, Nat.reduceAdd]
 repeat' (first|(with_reducible first|apply qA|apply qB|apply qC|apply qD|apply qE|apply qF)|(refine qL rfl (WF.of ?_) ?_; first|rfl|skip)|(simp (disch:=omega) only [go_sem, simprocAttr, Blk.men, Blk.keysIn])|exact qM rfl rfl rfl|(refine qG rfl ?_)|(refine qK (h1) (by decide) ?_)|(refine qK (h2) (by decide) ?_)|(refine qH rfl ?_)|(refine qI rfl ?_ ?_<;>intro hc<;>(try simp only [go_sem] at hc))|(refine qJ ?_ ?_<;>intro hc<;>(try simp only [hc])<;>(try simp only [go_sem] at hc)))
end Go.Dw.Seat
end
section
set_option linter.unusedSimpArgs false
set_option maxRecDepth 100000
namespace Go.Dw.Seat
open Go Go.Dw Go.Proofs Go.IntWalk
theorem dm_bm_pbox (k l : Nat) (ds : List D) : Blk.men k (.pbox l ds) = D.mens k ds := rfl
theorem dm_bk_pbox (bx : List (Nat × Blk)) (l : Nat) (ds : List D) : Blk.keysIn bx (.pbox l ds) = D.keysIns bx ds := rfl
theorem dm_killB_pbox (k l : Nat) (ds : List D) : killB k (.pbox l ds) = .pbox l (ds.map (killD k)) := rfl
attribute [go_sem] dm_bm_pbox dm_bk_pbox dm_killB_pbox
def aftL (u d : Int) : Int × Int → List DSt → List ((DSt × (Int × Int)) × List Int)
 | _, [] => []
 | k, s :: l => ((s, hrsF u d k s), [(hrsF u d k s).1, (hrsF u d k s).2]) :: aftL u d (hrsF u d k s) l
def enA (e : DSt × (Int × Int)) : List D := [.agg ((eDs e.1).map D.c), .agg ((eSp e.2).map D.c)]
def okA (e : DSt × (Int × Int)) : Prop := e.1.ok ∧ spM e.2
theorem dm_drop {α : Type} {l : List α} {i : Nat} {v : α} (h : l[i]? = some v) : l.drop i = v :: l.drop (i + 1) := by
 have hlt : i < l.length := by
  rcases Nat.lt_or_ge i l.length with h1 | h1
  ·exact h1
  ·rw [List.getElem?_eq_none h1] at h; cases h
 have e : l[i] = v := by
  have := List.getElem?_eq_getElem hlt
  rw [h] at this; cases this; rfl
 rw [← e]; exact List.drop_eq_getElem_cons hlt
set_option maxHeartbeats 4000000 in
theorem dmAft1 (u d : Int) (hr : (0 ≤ u ∧ u ≤ 50) ∧ 0 ≤ d ∧ d ≤ 50) (l : List DSt) (hl : l.length ≤ 1000) (ho : ∀ s ∈ l, s.ok) (k : Int × Int) (hk : spM k) (p : Nat) :
  ItP Try.prog 119 [] [.c (.ro false [.sl false 3 (rows eDs l)] 0), .c (.v (.pointer (some ⟨p, 0, none⟩))), .c (.ro false [.v (.int .i64 u), .v (.int .i64 d)] 0)] enA okA p 2 [k.1, k.2] (aftL u d k l) := by
 intro ly β H stp live hW h40 hC hY b0 hl0
 have hH : ∀ b c, HidOk ((1040, pnB p 2 c) :: H b) := fun b c => (hC b c).toHidOk
 have hHb : ∀ b, HidOk (H b) := fun b => (hW b).toHidOk
 refine DCall.of Try.func119 sf119 hb119 (Nat.le_of_ble_eq_true rfl) (hH _ _).res ?_
 simp only [s119, idxs, Nat.reduceAdd, List.map_nil, List.map_cons, List.nil_append, List.cons_append]
 have f1 := hid_get (hHb b0)
 have f2 := hid_ins (hHb b0)
 have f3 := (hHb b0).men
 have f4 := (hHb b0).lo
 repeat' (first|(with_reducible first|apply qA|apply qB|apply qC|apply qD|apply qE|apply qF)|(simp (disch:=omega) only [go_sem, simprocAttr, qN, qO, qP, qQ, f1, f2, f3, f4, ins, pnB, pnC, rF, rG])|exact qM rfl rfl rfl|(refine qG rfl ?_)|(refine qH rfl ?_)|(refine qI rfl ?_ ?_<;>intro hc<;>(try simp only [go_sem] at hc))|(refine qJ ?_ ?_<;>intro hc<;>(try simp only [hc])<;>(try simp only [go_sem] at hc)))
 refine DW.loop (ι := { y : Nat × β × (Int × Int) // y.1 ≤ l.length ∧ live ((aftL u d y.2.2 (l.drop y.1)).map (·.1)) y.2.1 ∧ spM y.2.2 ∧ runB stp b0 ((aftL u d k l).map (·.1)) = runB stp y.2.1 ((aftL u d y.2.2 (l.drop y.1)).map (·.1)) ∧ runC stp b0 (aftL u d k l) [k.1, k.2] = runC stp y.2.1 (aftL u d y.2.2 (l.drop y.1)) [y.2.2.1, y.2.2.2] })
  (fun y => ⟨26, [(9, dI y.1.1), (8, dI l.length), (7, .c (.sl false 3 (rows eDs l))), (0, .c (.fn (.yield ly) [] [])), (2, .c (.v (.pointer (some ⟨p, 0, none⟩)))), (3, .c (.ro false [.v (.int .i64 u), .v (.int .i64 d)] 0))], (1040, pnB p 2 (some [y.1.2.2.1, y.1.2.2.2])) :: H y.1.2.1⟩) (fun y => l.length - y.1.1) ⟨(0, b0, k), Nat.zero_le _, hl0, hk, rfl, rfl⟩ ?_ ?_
 ·refine Ent.toT ?_; simp (disch:=omega) only [qR,qS,qTw,qU,get,Nat.reduceEqDiff,↓reduceIte,qV,qW,qX,qY,qZ,and_self,dI,i64_in,and_true,true_and,rA,rB,rC,rD]
 rintro ⟨⟨i, b1, kk⟩, hi, hlv, hkk, hrun, hrc⟩
 dsimp only at hi hlv hkk hrun hrc ⊢
 have g1 := hid_get (hHb b1)
 have g2 := hid_ins (hHb b1)
 have g3 := (hHb b1).men
 have g4 := (hHb b1).lo
 have g5 : ∀ k x, k < 1000 → ins k x (H b1) = H b1 ++ [(k, x)] := fun k x hk => by have := g2 k hk x []; rwa [List.append_nil] at this
 rcases at_or l i hi with ⟨s, hs, hlt, hd⟩ | ⟨he, hd⟩
 ·have hso := ho s (List.mem_of_getElem? hs)
  rw [dm_drop hs, aftL] at hrun hrc hlv
  simp only [List.map_cons, runB, runC] at hrun hrc hlv
  have hh := dmHrs u d kk s hr hkk hso
  have hk' := hrs_ok hr hkk hso
  generalize hrsF u d kk s = k' at *
  obtain ⟨hyc, hlv4⟩ := hY b1 [k'.1, k'.2] (s, k') _ hlv ⟨hso, hk'⟩
  repeat' (first|(with_reducible first|apply qA|apply qB|apply qC|apply qD|apply qE|apply qF)|(simp (disch:=omega) only [go_sem, simprocAttr, qN, qO, qP, qQ, g1, g2, g3, g4, g5, ins, hd, pnB, pnC, rF, rG])|exact qM rfl rfl rfl|(refine qG rfl ?_)|(refine qH rfl ?_)|(refine qI rfl ?_ ?_<;>intro hc<;>(try simp only [go_sem] at hc))|(refine qJ ?_ ?_<;>intro hc<;>(try simp only [hc])<;>(try simp only [go_sem] at hc)))
  simp (disch:=omega) only [go_sem,simprocAttr,qN,qO,qP,qQ,g1,g2,g3,g4,g5,ins,hs,rF,rG]
  repeat' (first|(with_reducible first|apply qA|apply qB|apply qC|apply qD|apply qE|apply qF)|(simp (disch:=omega) only [go_sem, simprocAttr, qN, qO, qP, qQ, g1, g2, g3, g4, g5, ins, pnB, pnC, rF, rG])|exact qM rfl rfl rfl|(refine qG rfl ?_)|(refine qH rfl ?_)|(refine qI rfl ?_ ?_<;>intro hc<;>(try simp only [go_sem] at hc))|(refine qJ ?_ ?_<;>intro hc<;>(try simp only [hc])<;>(try simp only [go_sem] at hc)))
  refine call_c hh (by decide) ?_
  simp (disch:=omega) only [go_sem,simprocAttr,qN,qO,qP,qQ,g1,g2,g3,g4,g5,ins,pnB,pnC,rF,rG]
  refine DW.ent (Ent.comm (o := [(6, .box [dI s.lo, dI s.hi, dI s.h])]) (hH b1 (some [k'.1, k'.2])) rfl).1 ?_
  simp (disch:=omega) only [go_sem,simprocAttr,qN,qO,qP,qQ,List.cons_append,List.nil_append]
  repeat' (first|(with_reducible first|apply qA|apply qB|apply qC|apply qD|apply qE|apply qF)|(simp (disch:=omega) only [go_sem, simprocAttr, qN, qO, qP, qQ, g1, g2, g3, g4, g5, ins, pnB, pnC, rF, rG])|exact qM rfl rfl rfl|(refine qG rfl ?_)|(refine qH rfl ?_)|(refine qI rfl ?_ ?_<;>intro hc<;>(try simp only [go_sem] at hc))|(refine qJ ?_ ?_<;>intro hc<;>(try simp only [hc])<;>(try simp only [go_sem] at hc)))
  refine call_y (own := [(6, .box [dI s.lo, dI s.hi, dI s.h])]) hyc rfl rfl rfl (hH b1 (some [k'.1, k'.2])) (hH (stp b1 (s, k')).2 (some [k'.1, k'.2])) (by decide) ?_
  cases hst : (stp b1 (s, k')).1 with
  | true =>
   rw [hst] at hrun hrc hlv4
   simp only [if_true] at hrun hrc
   simp (disch:=omega) only [go_sem,simprocAttr,qN,qO,qP,qQ]
   repeat' (first|(with_reducible first|apply qA|apply qB|apply qC|apply qD|apply qE|apply qF)|(simp (disch:=omega) only [go_sem, simprocAttr, qN, qO, qP, qQ])|exact qM rfl rfl rfl|(refine qG rfl ?_)|(refine qH rfl ?_)|(refine qI rfl ?_ ?_<;>intro hc<;>(try simp only [go_sem] at hc))|(refine qJ ?_ ?_<;>intro hc<;>(try simp only [hc])<;>(try simp only [go_sem] at hc)))
   refine ⟨⟨(i + 1, (stp b1 (s, k')).2, k'), by dsimp only; omega, hlv4 rfl, hk', hrun, hrc⟩, (by show _ < _; (try simp only); omega), Ent.toH (o := [_]) (o' := []) (hH (stp b1 (s, k')).2 (some [k'.1, k'.2])) rfl ?_ ?_⟩ <;> simp (disch:=omega) only [qR,qS,qTw,qU,get,Nat.reduceEqDiff,↓reduceIte,qV,qW,qX,qY,qZ,and_self,dI,i64_in,and_true,true_and,rA,rB,rC,rD]
  | false =>
   rw [hst] at hrun hrc
   simp only [Bool.false_eq_true, if_false] at hrun hrc
   simp (disch:=omega) only [go_sem,simprocAttr,qN,qO,qP,qQ]
   repeat' (first|(with_reducible first|apply qA|apply qB|apply qC|apply qD|apply qE|apply qF)|(simp (disch:=omega) only [go_sem, simprocAttr, qN, qO, qP, qQ])|exact qM rfl rfl rfl|(refine qG rfl ?_)|(refine qH rfl ?_)|(refine qI rfl ?_ ?_<;>intro hc<;>(try simp only [go_sem] at hc))|(refine qJ ?_ ?_<;>intro hc<;>(try simp only [hc])<;>(try simp only [go_sem] at hc)))
   rw [hrun, hrc]
   exact retS_hid (own := [_]) (.inl rfl) (hH (stp b1 (s, k')).2 (some [k'.1, k'.2])) rfl
 ·repeat' (first|(with_reducible first|apply qA|apply qB|apply qC|apply qD|apply qE|apply qF)|(simp (disch:=omega) only [go_sem, simprocAttr, qN, qO, qP, qQ, hd])|exact qM rfl rfl rfl|(refine qG rfl ?_)|(refine qH rfl ?_)|(refine qI rfl ?_ ?_<;>intro hc<;>(try simp only [go_sem] at hc))|(refine qJ ?_ ?_<;>intro hc<;>(try simp only [hc])<;>(try simp only [go_sem] at hc)))
  rw [he, List.drop_length] at hrun hrc
  simp only [aftL, List.map_nil, runB, runC] at hrun hrc
  rw [hrun, hrc]
  exact retS_hid (own := []) (.inr rfl) (hH b1 (some [kk.1, kk.2])) rfl
theorem dmAfterI (u d : Int) (l : List DSt) (k : Int × Int) : DCall Try.prog 66 [.agg [dI k.1, dI k.2], .agg [dI u, dI d], .c (.sl false 3 (rows eDs l))] []
  (.fn (.func 119) [] [.c (.ro false [.sl false 3 (rows eDs l)] 0), .box 40 0, .c (.ro false [.v (.int .i64 u), .v (.int .i64 d)] 0)]) [(40, .box [dI k.1, dI k.2])] := by
 have hok : ∀ i : Nat, okRes (.fn (.func 119) [] [.c (.ro false [.sl false 3 (rows eDs l)] 0), .box i 0, .c (.ro false [.v (.int .i64 u), .v (.int .i64 d)] 0)]) [(i, .box [dI k.1, dI k.2])] := fun i => by
  refine ⟨fun j hj => ?_, fun m x hi j hj => ?_⟩
  ·have hne : j ≠ i := by rintro rfl; simp [get] at hj
   have hne' : i ≠ j := fun h => hne h.symm
   simp only [D.men, D.mens, Bool.or_false, Bool.false_or, beq_eq_false_iff_ne, ne_eq]
   first | exact hne | exact hne'
  ·have := get_mem hi
   simp only [List.mem_cons, Prod.mk.injEq, List.not_mem_nil, or_false] at this
   obtain ⟨_, rfl⟩ := this
   rfl
 refine DCall.swap 3 40 (r := .fn (.func 119) [] [.c (.ro false [.sl false 3 (rows eDs l)] 0), .box 3 0, .c (.ro false [.v (.int .i64 u), .v (.int .i64 d)] 0)]) (bo := [(3, .box [dI k.1, dI k.2])]) (hok 40) ?_
 refine DCall.of Try.func66 sf66 hb66 (Nat.le_of_ble_eq_true rfl) (hok 3) ?_
 simp only [s66, idxs, Nat.reduceAdd]
 repeat' (first|(with_reducible first|apply qA|apply qB|apply qC|apply qD|apply qE|apply qF)|(simp (disch:=omega) only [go_sem, simprocAttr, qN, qO, qP, qQ])|exact qM rfl rfl rfl|(refine qG rfl ?_)|(refine qH rfl ?_)|(refine qI rfl ?_ ?_<;>intro hc<;>(try simp only [go_sem] at hc))|(refine qJ ?_ ?_<;>intro hc<;>(try simp only [hc])<;>(try simp only [go_sem] at hc)))
 (refine retS_ent (Ent.rel 5 rfl) ?_; simp (disch:=omega) only [go_sem,simprocAttr,qN,qO,qP,qQ])
 (refine retS_ent (Ent.rel 4 rfl) ?_; simp (disch:=omega) only [go_sem,simprocAttr,qN,qO,qP,qQ])
 refine retS_bs rfl rfl (by simp only [D.nb, D.nbs, C.nb, C.nbs, rows_nb eDs_nb, Bool.and_true, Bool.not_false, Bool.and_self]) (get_all (p := fun k x => get k _ = some x ∧ x.nb = true) ?_)
 intro q hq
 simp only [List.mem_cons, List.not_mem_nil, or_false] at hq
 subst hq
 exact ⟨rfl, rfl⟩
end Go.Dw.Seat
end
section
set_option linter.unusedSimpArgs false
set_option maxRecDepth 100000
namespace Go.Dw.Seat
open Go Go.Dw Go.Proofs Go.IntWalk
def aftS (u d : Int) : Int × Int → List DSt → List (Int × Int)
 | _, [] => []
 | k, s :: l => hrsF u d k s :: aftS u d (hrsF u d k s) l
theorem aftL_snd (u d : Int) : ∀ (l : List DSt) (k : Int × Int), ((aftL u d k l).map (·.1)).map (·.2) = aftS u d k l
 | [], _ => rfl
 | s :: l, k => by simp only [aftL, aftS, List.map_cons, aftL_snd u d l]
theorem aftS_len (u d : Int) : ∀ (l : List DSt) (k : Int × Int), (aftS u d k l).length = l.length
 | [], _ => rfl
 | s :: l, k => by simp only [aftS, List.length_cons, aftS_len u d l]
theorem aftL_len (u d : Int) : ∀ (l : List DSt) (k : Int × Int), (aftL u d k l).length = l.length
 | [], _ => rfl
 | s :: l, k => by simp only [aftL, List.length_cons, aftL_len u d l]
def apA (a : List (Int × Int)) (e : DSt × (Int × Int)) : Option Exit × List (Int × Int) := (none, a ++ [e.2])
theorem apA_run : ∀ (L : List (DSt × (Int × Int))) (a : List (Int × Int)), runIt apA a L = (none, a ++ L.map (·.2))
 | [], a => by simp [runIt]
 | e :: L, a => by simp [runIt, apA, apA_run L]
theorem rowC_snocSp (l : List (Int × Int)) (x : Int × Int) : rowC (rows eSp l) ++ [[D.c (.v (.int .i64 x.1)), D.c (.v (.int .i64 x.2))]] = rowC (rows eSp (l ++ [x])) := by simp [rowC, rows, eSp]
set_option maxHeartbeats 4000000 in
theorem dmAfter (u d : Int) (hr : (0 ≤ u ∧ u ≤ 50) ∧ 0 ≤ d ∧ d ≤ 50) (k : Int × Int) (hk : spM k) (l : List DSt) (hl : l.length ≤ 10) (ho : ∀ s ∈ l, s.ok) :
  DCall Try.prog 26 [.agg [dI u, dI d], .agg [dI k.1, dI k.2], .c (.sl false 3 (rows eDs l))] [] (.tup [.c (.sl false 2 (rows eSp (aftS u d k l))), dI 0]) [] := by
 have h1 := dmCheck u d hr k hk false l hl ho
 have h2 := dmAfterI u d l k
 refine DCall.of Try.func26 sf26 hb26 (Nat.le_of_ble_eq_true rfl) (okRes_nil fun _ => rfl) ?_; simp only [s26, idxs, Nat.reduceAdd]
 repeat' (first|(with_reducible first|apply qA|apply qB|apply qC|apply qD|apply qE|apply qF)|(simp (disch:=omega) only [go_sem, simprocAttr, qN, qO, qP, qQ])|exact qM rfl rfl rfl|(refine qG rfl ?_)|(refine qK (h1) (by decide) ?_)|(refine qH rfl ?_)|(refine qI rfl ?_ ?_<;>intro hc<;>(try simp only [go_sem] at hc))|(refine qJ ?_ ?_<;>intro hc<;>(try simp only [hc])<;>(try simp only [go_sem] at hc)))
 refine call_b h2 ⟨trivial, rfl, rfl, rfl⟩ (by decide) ?_
 simp only [St.addBs, St.putB, St.putO, St.put]
 simp (disch:=omega) only [go_sem,simprocAttr,qN,qO,qP,qQ]
 refine DW.pin 40 rfl rfl (fun p => ?_)
 simp (disch:=omega) only [go_sem,simprocAttr,qN,qO,qP,qQ,pinT,pinX,pinD,pinDs,pinB,pinO]
 (refine DW.ent (Ent.adoptB 6 0 29 2 rfl rfl rfl rfl) ?_; simp only [ins, Nat.reduceLT, Nat.reduceEqDiff, ↓reduceIte, List.set_cons_zero, List.set_cons_succ])
 refine DW.ent (σ' := ⟨31, [(22, .fn (.func 119) [] [.c (.ro false [.sl false 3 (rows eDs l)] 0), .c (.v (.pointer (some ⟨p, 0, none⟩))), .c (.ro false [.v (.int .i64 u), .v (.int .i64 d)] 0)]), (6, .box 6 0)], (40, pnB p 2 (some [k.1, k.2])) :: [(29, .row 2 (rowC (rows eSp []))), (6, .box [.own 29])]⟩) ?_ ?_
 ·refine Ent.to ?_ ?_ <;> simp (disch:=omega) only [qR,qS,qTw,qU,get,Nat.reduceEqDiff,↓reduceIte,qV,qW,qX,qY,qZ,and_self,dI,i64_in,and_true,true_and,rA,rB,rC,rD,pnB,pnC,rF,rG]
  all_goals first | exact ⟨.refl _, .refl _, .refl _⟩ | exact ⟨.refl _, .refl _⟩ | exact .refl _
 refine DW.block ?_
 refine DW.rngP (fs := []) (caps := [.c (.ro false [.sl false 3 (rows eDs l)] 0), .c (.v (.pointer (some ⟨p, 0, none⟩))), .c (.ro false [.v (.int .i64 u), .v (.int .i64 d)] 0)]) p 2 [k.1, k.2] (fun y : List (Int × Int) => [(29, .row 2 (rowC (rows eSp y))), (6, .box [.own 29])]) [] apA enA okA (aftL u d k l) (dmAft1 u d hr l (by omega) ho k hk p) (fun t y => y.length + t.length ≤ 10) (by simpa [aftL_len] using hl) (fun a e t ha he _ => by simp only [apA, List.length_append, List.length_cons, List.length_nil] at ha ⊢; omega) rfl (fun _ => ⟨rfl, rfl⟩) rfl (by decide) (fun _ _ => rfl) (fun _ _ _ => rfl) (by simp only [List.map_cons, List.map_nil]; decide) (fun _ => rfl) (fun _ => rfl) (fun _ => wf_row rfl rfl) (fun _ => nb_row eSp_nb _ rfl) (by simp only [List.all_cons, List.all_nil, Blk.nb, rowC_nb, D.nb, D.nbs, C.nb, C.nbs, C.nbss, rows_nb eI_nb, Bool.and_true, Bool.not_false, Bool.and_self, bD, dI, iD, rows_nb eSp_nb, rows_nb eDs_nb]) (fun _ _ => rfl) ?_ ?_
 ·rintro y e t hy xs he v
  simp only [List.length_cons] at hy
  have hy : y.length ≤ 1000 := by omega
  simp (disch:=omega) only [go_sem,simprocAttr,qN,qO,qP,qQ,rF,rG,apA,enA]
  repeat' (first|(with_reducible first|apply qA|apply qB|apply qC|apply qD|apply qE|apply qF)|(simp (disch:=omega) only [go_sem, simprocAttr, qN, qO, qP, qQ, rF, rG])|exact qM rfl rfl rfl|(refine qG rfl ?_)|(refine qH rfl ?_)|(refine qI rfl ?_ ?_<;>intro hc<;>(try simp only [go_sem] at hc))|(refine qJ ?_ ?_<;>intro hc<;>(try simp only [hc])<;>(try simp only [go_sem] at hc)))
  refine round_end rfl rfl (Ent.to ?_ ?_) <;> simp (disch:=omega) only [qR,qS,qTw,qU,get,Nat.reduceEqDiff,↓reduceIte,qV,qW,qX,qY,qZ,and_self,dI,i64_in,and_true,true_and,rA,rB,rC,rD,capB,List.cons_append,List.nil_append,rowC_snocSp]
 ·intro c
  rw [apA_run, aftL_snd, List.nil_append]
  have hlen := aftS_len u d l k
  generalize aftS u d k l = L at *
  repeat' (first|(with_reducible first|apply qA|apply qB|apply qC|apply qD|apply qE|apply qF)|(simp (disch:=omega) only [go_sem, simprocAttr, qN, qO, qP, qQ])|exact qM rfl rfl rfl|(refine qG rfl ?_)|(refine qH rfl ?_)|(refine qI rfl ?_ ?_<;>intro hc<;>(try simp only [go_sem] at hc))|(refine qJ ?_ ?_<;>intro hc<;>(try simp only [hc])<;>(try simp only [go_sem] at hc)))
  (refine retS_ent (Ent.rel 29 rfl) ?_; simp (disch:=omega) only [go_sem,simprocAttr,qN,qO,qP,qQ])
  refine retS_wk rfl ?_ (by simp only [Blk.nb, rowC_nb, D.nb, D.nbs, C.nb, C.nbs, C.nbss, rows_nb eI_nb, Bool.and_true, Bool.not_false, Bool.and_self, bD, dI, iD, rows_nb eSp_nb, rows_nb eDs_nb]); exact .tup (.cons (.refl _) (.cons (.refl _) .nil))
end Go.Dw.Seat
end
section
set_option linter.unusedSimpArgs false
set_option maxRecDepth 100000
namespace Go.Dw.Seat
open Go Go.Dw Go.Proofs Go.IntWalk
theorem ud5 : Try.prog.underlying 5 = some (.int .u8) := by kernel_rfl
abbrev d8 (n : Nat) : D := .c (.v (.int .u8 n))
def eY (v : Nat) : List C := [.v (.int .u8 v)]
attribute [go_sem] ud5 d8 eY
theorem tmodN (m k : Nat) : (m : Int).tmod (k : Int) = ((m % k : Nat) : Int) := by
 rw [Int.tmod_eq_emod_of_nonneg (by omega)]; simp
def byteI (l : List Nat) (i : Nat) : Nat := (l[i % l.length]?).getD 0
theorem arByte (b : Bool) (l : List Nat) (i : Nat) (hi : i ≤ 1000) (hl : ∀ v ∈ l, v < 256) : DCall Try.prog 70 [.c (.sl b 1 (rows eY l)), dI i] [] (dI (byteI l i)) [] := by
 by_cases h0 : l.length = 0
 ·have he : ((l.length : Int) == 0) = true := by rw [h0]; rfl
  have hb : byteI l i = 0 := by
   have : l = [] := List.length_eq_zero_iff.1 h0
   subst this; rfl
  rw [hb]
  refine DCall.of Try.func70 sf70 hb70 (Nat.le_of_ble_eq_true rfl) (okRes_nil fun _ => rfl) ?_; simp only [s70, idxs, Nat.reduceAdd]
  repeat' (first|(with_reducible first|apply qA|apply qB|apply qC|apply qD|apply qE|apply qF)|(simp (disch:=omega) only [go_sem, simprocAttr, Blk.men, Blk.keysIn, he])|exact qM rfl rfl rfl|(refine qG rfl ?_)|(refine qH rfl ?_)|(refine qI rfl ?_ ?_<;>intro hc<;>(try simp only [go_sem] at hc))|(refine qJ ?_ ?_<;>intro hc<;>(try simp only [hc])<;>(try simp only [go_sem] at hc)))
 ·have he : ((l.length : Int) == 0) = false := by rw [beq_eq_false_iff_ne]; omega
  have hz : ((l.length : Int) = 0) = False := eq_false (by omega)
  have hr : (i : Int).tmod (l.length : Int) = ((i % l.length : Nat) : Int) := tmodN i l.length
  have hlt : i % l.length < l.length := Nat.mod_lt _ (by omega)
  have hv : l[i % l.length]? = some (byteI l i) := by
   rw [byteI, List.getElem?_eq_getElem hlt]; rfl
  have hv8 := hl _ (List.mem_of_getElem? hv)
  generalize byteI l i = v at *
  generalize i % l.length = j at *
  refine DCall.of Try.func70 sf70 hb70 (Nat.le_of_ble_eq_true rfl) (okRes_nil fun _ => rfl) ?_; simp only [s70, idxs, Nat.reduceAdd]
  repeat' (first|(with_reducible first|apply qA|apply qB|apply qC|apply qD|apply qE|apply qF)|(simp (disch:=omega) only [go_sem, simprocAttr, Blk.men, Blk.keysIn, he, hz, hr, hv])|exact qM rfl rfl rfl|(refine qG rfl ?_)|(refine qH rfl ?_)|(refine qI rfl ?_ ?_<;>intro hc<;>(try simp only [go_sem] at hc))|(refine qJ ?_ ?_<;>intro hc<;>(try simp only [hc])<;>(try simp only [go_sem] at hc)))
end Go.Dw.Seat
end
section
set_option linter.unusedSimpArgs false
set_option maxRecDepth 100000
namespace Go.Dw.Seat
open Go Go.Dw Go.Proofs Go.IntWalk
def inI (lo hi : Int) (y : Nat) : Int := lo + ((y : Int) * (hi - lo)).tdiv 255
theorem inI_b {lo hi : Int} {y : Nat} (hy : y < 256) (h : lo ≤ hi) : lo ≤ inI lo hi y ∧ inI lo hi y ≤ hi := by
 unfold inI
 have h1 : (y : Int) * (hi - lo) ≤ 255 * (hi - lo) := Int.mul_le_mul_of_nonneg_right (by omega) (by omega)
 have h2 : 0 ≤ (y : Int) * (hi - lo) := Int.mul_nonneg (by omega) (by omega)
 rw [Int.tdiv_eq_ediv_of_nonneg h2]
 generalize (y : Int) * (hi - lo) = q at *
 omega
theorem arIn (lo hi : Int) (y : Nat) (hy : y < 256) (h : 0 ≤ lo ∧ lo ≤ hi ∧ hi ≤ 1000000) : DCall Try.prog 69 [.agg [dI lo, dI hi], dI y] [] (dI (inI lo hi y)) [] := by
 have h1 : (y : Int) * (hi - lo) ≤ 255 * 1000000 := Int.mul_le_mul (by omega) (by omega) (by omega) (by omega)
 have h2 : 0 ≤ (y : Int) * (hi - lo) := Int.mul_nonneg (by omega) (by omega)
 have hb := inI_b hy h.2.1
 unfold inI at *
 have hq : 0 ≤ Int.tdiv ((y : Int) * (hi - lo)) 255 ∧ Int.tdiv ((y : Int) * (hi - lo)) 255 ≤ 1000000 := by
  rw [Int.tdiv_eq_ediv_of_nonneg h2]
  omega
 refine DCall.of Try.func69 sf69 hb69 (Nat.le_of_ble_eq_true rfl) (okRes_nil fun _ => rfl) ?_; simp only [s69, idxs, Nat.reduceAdd]
 repeat' (first|(with_reducible first|apply qA|apply qB|apply qC|apply qD|apply qE|apply qF)|(simp (disch:=omega) only [go_sem, simprocAttr, Blk.men, Blk.keysIn])|exact qM rfl rfl rfl|(refine qG rfl ?_)|(refine qH rfl ?_)|(refine qI rfl ?_ ?_<;>intro hc<;>(try simp only [go_sem] at hc))|(refine qJ ?_ ?_<;>intro hc<;>(try simp only [hc])<;>(try simp only [go_sem] at hc)))
end Go.Dw.Seat
end
section
set_option linter.unusedSimpArgs false
set_option maxRecDepth 100000
namespace Go.Dw.Seat
open Go Go.Dw Go.Proofs Go.IntWalk
theorem dtSpan (a b : Int) : DCall Try.prog 8 [dI a, dI b] [] (.agg [dI a, dI b]) [] := by
 refine DCall.of Try.func8 sf8 hb8 (Nat.le_of_ble_eq_true rfl) (okRes_nil fun _ => rfl) ?_; simp only [s8, idxs, Nat.reduceAdd]
 repeat' (first|(with_reducible first|apply qA|apply qB|apply qC|apply qD|apply qE|apply qF)|(simp (disch:=omega) only [go_sem, simprocAttr, qN, qO, qP, qQ])|exact qM rfl rfl rfl|(refine qG rfl ?_)|(refine qH rfl ?_)|(refine qI rfl ?_ ?_<;>intro hc<;>(try simp only [go_sem] at hc))|(refine qJ ?_ ?_<;>intro hc<;>(try simp only [hc])<;>(try simp only [go_sem] at hc)))
theorem dtWithin (n a b : Int) : DCall Try.prog 30 [dI n, .agg [dI a, dI b]] [] (bD (decide (a ≤ n) && decide (n ≤ b))) [] := by
 refine DCall.of Try.func30 sf30 hb30 (Nat.le_of_ble_eq_true rfl) (okRes_nil fun _ => rfl) ?_; simp only [s30, idxs, Nat.reduceAdd]
 repeat' (first|(with_reducible first|apply qA|apply qB|apply qC|apply qD|apply qE|apply qF)|(simp (disch:=omega) only [go_sem, simprocAttr, qN, qO, qP, qQ])|exact qM rfl rfl rfl|(refine qG rfl ?_)|(refine qH rfl ?_)|(refine qI rfl ?_ ?_<;>intro hc<;>(try simp only [go_sem] at hc))|(refine qJ ?_ ?_<;>intro hc<;>(try simp only [hc])<;>(try simp only [go_sem] at hc)))
theorem dtStays (b : Bool) (l : List DSt) (hl : l.length ≤ 2 ^ 36) : DCall Try.prog 27 [.c (.sl b 3 (rows eDs l))] [] (.c (.sl false 3 (rows eDs l))) [] := by
 refine DCall.of Try.func27 sf27 hb27 (Nat.le_of_ble_eq_true rfl) (okRes_nil fun _ => rfl) ?_; simp only [s27, idxs, Nat.reduceAdd]
 repeat' (first|(with_reducible first|apply qA|apply qB|apply qC|apply qD|apply qE|apply qF)|(simp (disch:=omega) only [go_sem, simprocAttr, qN, qO, qP, qQ])|exact qM rfl rfl rfl|(refine qG rfl ?_)|(refine qH rfl ?_)|(refine qI rfl ?_ ?_<;>intro hc<;>(try simp only [go_sem] at hc))|(refine qJ ?_ ?_<;>intro hc<;>(try simp only [hc])<;>(try simp only [go_sem] at hc)))
 (refine retS_ent (Ent.rel 3 rfl) ?_; simp (disch:=omega) only [go_sem,simprocAttr,qN,qO,qP,qQ])
 refine retS_wk rfl ?_ (by simp only [Blk.nb, rowC_nb, D.nb, D.nbs, C.nb, C.nbs, C.nbss, rows_nb eI_nb, Bool.and_true, Bool.not_false, Bool.and_self, bD, dI, iD, rows_nb eSp_nb, rows_nb eDs_nb]); exact .refl _
end Go.Dw.Seat
end
section
set_option linter.unusedSimpArgs false
set_option maxRecDepth 100000
namespace Go.Dw.Seat
open Go Go.Dw Go.Proofs Go.IntWalk
theorem dmLies (k s : Int × Int) : DCall Try.prog 125 [.agg [dI k.1, dI k.2], .agg [dI s.1, dI s.2]] [] (bD (decide (s.1 ≤ k.1) && decide (k.2 ≤ s.2))) [] := by
 refine DCall.of Try.func125 sf125 hb125 (Nat.le_of_ble_eq_true rfl) (okRes_nil fun _ => rfl) ?_; simp only [s125, idxs, Nat.reduceAdd]
 repeat' (first|(with_reducible first|apply qA|apply qB|apply qC|apply qD|apply qE|apply qF)|(simp (disch:=omega) only [go_sem, simprocAttr, qN, qO, qP, qQ])|exact qM rfl rfl rfl|(refine qG rfl ?_)|(refine qH rfl ?_)|(refine qI rfl ?_ ?_<;>intro hc<;>(try simp only [go_sem] at hc))|(refine qJ ?_ ?_<;>intro hc<;>(try simp only [hc])<;>(try simp only [go_sem] at hc)))
def hrsN (u d : Int) (k room lim : Int × Int) : Nat → Nat → Nat
 | 0, n => n
 | f + 1, n => if (lim.1 ≤ towI u d k.1 room.1 ((n : Int) + 1) ∧ towI u d k.2 room.2 ((n : Int) + 1) ≤ lim.2) then hrsN u d k room lim f (n + 1) else n
set_option maxHeartbeats 2000000 in
theorem dmHours (u d : Int) (hr : (0 ≤ u ∧ u ≤ 50) ∧ 0 ≤ d ∧ d ≤ 50) (k room lim : Int × Int) (hk : spM k) (hm : spM room) (hl : spM lim) (hin : lim.1 ≤ k.1 ∧ k.2 ≤ lim.2) :
  DCall Try.prog 73 [.agg [dI u, dI d], .agg [dI k.1, dI k.2], .agg [dI room.1, dI room.2], .agg [dI lim.1, dI lim.2]] [] (.tup [dI (hrsN u d k room lim 500 0), dI 0]) [] := by
 have h1 := dmRule u d hr
 have h2 := dmMoist true [k, room, lim] (by simp) (fun x hx => by
  simp only [List.mem_cons, List.not_mem_nil, or_false] at hx
  rcases hx with rfl | rfl | rfl
  ·exact hk
  ·exact hm
  ·exact hl)
 have h3 := dmLies k lim
 rw [decide_eq_true hin.1, decide_eq_true hin.2] at h3
 refine DCall.of Try.func73 sf73 hb73 (Nat.le_of_ble_eq_true rfl) (okRes_nil fun _ => rfl) ?_; simp only [s73, idxs, Nat.reduceAdd]
 repeat' (first|(with_reducible first|apply qA|apply qB|apply qC|apply qD|apply qE|apply qF)|(refine qL rfl (WF.of ?_) ?_; first|rfl|skip)|(simp (disch:=omega) only [go_sem, simprocAttr, qN, qO, qP, qQ])|exact qM rfl rfl rfl|(refine qG rfl ?_)|(refine qK (h1) (by decide) ?_)|(refine qK (h2) (by decide) ?_)|(refine qK (h3) (by decide) ?_)|(refine qH rfl ?_)|(refine qI rfl ?_ ?_<;>intro hc<;>(try simp only [go_sem] at hc))|(refine qJ ?_ ?_<;>intro hc<;>(try simp only [hc])<;>(try simp only [go_sem] at hc)))
 obtain ⟨R, hR⟩ : ∃ R, hrsN u d k room lim 500 0 = R := ⟨_, rfl⟩
 rw [hR]
 refine DW.loop (ι := { n : Nat // n ≤ 500 ∧ hrsN u d k room lim (500 - n) n = R }) (fun n => ⟨44, [(10, dI n.1), (7, .box 7 0), (6, .box 6 0), (5, .box 5 0), (4, .box 4 0)], [(7, .box [dI lim.1, dI lim.2]), (6, .box [dI room.1, dI room.2]), (5, .box [dI k.1, dI k.2]), (4, .box [dI u, dI d])]⟩) (fun n => 500 - n.1) ⟨0, by decide, hR⟩ ?_ ?_
 ·refine Ent.to ?_ ?_ <;> simp (disch:=omega) only [qR,qS,qTw,qU,get,Nat.reduceEqDiff,↓reduceIte,qV,qW,qX,qY,qZ,and_self,dI,i64_in,and_true,true_and,rA,rB,rC,rD]
  all_goals first | exact ⟨.refl _, .refl _, .refl _⟩ | exact ⟨.refl _, .refl _⟩ | exact .refl _
 rintro ⟨n, hn, hnr⟩
 dsimp only
 rcases Nat.lt_or_ge n 500 with hlt | hge
 ·have hd : decide ((n : Int) < 500) = true := decide_eq_true (by omega)
  have hh := dmHrs u d k ⟨room.1, room.2, (n : Int) + 1⟩ hr hk ⟨hm, by dsimp only; omega⟩
  rw [show 500 - n = (500 - (n + 1)) + 1 by omega, hrsN] at hnr
  obtain ⟨K, hK⟩ : ∃ K, hrsF u d k ⟨room.1, room.2, (n : Int) + 1⟩ = K := ⟨_, rfl⟩
  have ha : towI u d k.1 room.1 ((n : Int) + 1) = K.1 := by rw [← hK]; rfl
  have hb : towI u d k.2 room.2 ((n : Int) + 1) = K.2 := by rw [← hK]; rfl
  have hl2 := dmLies K lim
  have hnr2 := hnr
  rw [ha, hb] at hnr2
  rw [hK] at hh
  obtain ⟨a, b⟩ := K
  dsimp only at hl2 hnr2 hh
  by_cases hc : lim.1 ≤ a ∧ b ≤ lim.2
  ·rw [if_pos hc] at hnr2
   rw [decide_eq_true hc.1, decide_eq_true hc.2] at hl2
   repeat' (first|(with_reducible first|apply qA|apply qB|apply qC|apply qD|apply qE|apply qF)|(refine qL rfl (WF.of ?_) ?_; first|rfl|skip)|(simp (disch:=omega) only [go_sem, simprocAttr, qN, qO, qP, qQ, hd])|exact qM rfl rfl rfl|(refine qG rfl ?_)|(refine qK (hh) (by decide) ?_)|(refine qK (hl2) (by decide) ?_)|(refine qH rfl ?_)|(refine qI rfl ?_ ?_<;>intro hc<;>(try simp only [go_sem] at hc))|(refine qJ ?_ ?_<;>intro hc<;>(try simp only [hc])<;>(try simp only [go_sem] at hc)))
   refine ⟨⟨n + 1, hlt, hnr2⟩, ?_, Ent.to ?_ ?_⟩ <;> first | (show _ < _; (try simp only); omega) | (simp (disch:=omega) only [qR,qS,qTw,qU,get,Nat.reduceEqDiff,↓reduceIte,qV,qW,qX,qY,qZ,and_self,dI,i64_in,and_true,true_and,rA,rB,rC,rD])
  ·rw [if_neg hc] at hnr2
   have hf : (decide (lim.1 ≤ a) && decide (b ≤ lim.2)) = false := by
    rw [Bool.and_eq_false_iff, decide_eq_false_iff_not, decide_eq_false_iff_not]
    by_cases h : lim.1 ≤ a
    ·exact .inr (fun h' => hc ⟨h, h'⟩)
    ·exact .inl h
   rw [hf] at hl2
   repeat' (first|(with_reducible first|apply qA|apply qB|apply qC|apply qD|apply qE|apply qF)|(refine qL rfl (WF.of ?_) ?_; first|rfl|skip)|(simp (disch:=omega) only [go_sem, simprocAttr, qN, qO, qP, qQ, hd])|exact qM rfl rfl rfl|(refine qG rfl ?_)|(refine qK (hh) (by decide) ?_)|(refine qK (hl2) (by decide) ?_)|(refine qH rfl ?_)|(refine qI rfl ?_ ?_<;>intro hc<;>(try simp only [go_sem] at hc))|(refine qJ ?_ ?_<;>intro hc<;>(try simp only [hc])<;>(try simp only [go_sem] at hc)))
   all_goals (rw [← hnr2]; exact retS_of rfl rfl rfl)
 ·obtain rfl : n = 500 := by omega
  have hd : decide (((500 : Nat) : Int) < 500) = false := by decide
  have hnr2 := hnr
  rw [Nat.sub_self, hrsN] at hnr2
  repeat' (first|(with_reducible first|apply qA|apply qB|apply qC|apply qD|apply qE|apply qF)|(refine qL rfl (WF.of ?_) ?_; first|rfl|skip)|(simp (disch:=omega) only [go_sem, simprocAttr, qN, qO, qP, qQ, hd])|exact qM rfl rfl rfl|(refine qG rfl ?_)|(refine qH rfl ?_)|(refine qI rfl ?_ ?_<;>intro hc<;>(try simp only [go_sem] at hc))|(refine qJ ?_ ?_<;>intro hc<;>(try simp only [hc])<;>(try simp only [go_sem] at hc)))
  all_goals (rw [← hnr2]; exact retS_of rfl rfl rfl)
structure DKp (l : List (Int × Int)) : Prop where
 len : 1 ≤ l.length ∧ l.length ≤ 10
 head : ∀ v, l[0]? = some v → v.1 = 0
 mem : ∀ v ∈ l, (0 ≤ v.1 ∧ v.1 ≤ 300) ∧ 0 ≤ v.2 ∧ v.2 ≤ 1000
 step : ∀ i u v, l[i]? = some u → l[i + 1]? = some v → u.1 < v.1 ∧ v.2 ≤ u.2
def kpI (m : Int) (l : List (Int × Int)) (k : Int) : Int := l.foldl (fun k s => if s.1 ≤ m then s.2 else k) k
theorem kpI_take (m : Int) {l : List (Int × Int)} {i : Nat} {v : Int × Int} (hv : l[i]? = some v) : kpI m (l.take (i + 1)) 0 = if v.1 ≤ m then v.2 else kpI m (l.take i) 0 := by
 rw [List.take_add_one, hv]
 simp only [kpI, Option.toList_some, List.foldl_append, List.foldl_cons, List.foldl_nil]
set_option maxHeartbeats 2000000 in
theorem dmKeep (b : Bool) (l : List (Int × Int)) (h : DKp l) (m : Int × Int) (hm : spM m) : DCall Try.prog 28 [.c (.sl b 2 (rows eSp l)), .agg [dI m.1, dI m.2]] [] (.tup [.agg [dI (kpI m.2 l 0), dI (kpI m.1 l 0)], dI 0]) [] := by
 have hlen := h.len
 have h1 := dmIn true 1 10 [(l.length : Int)] (by simp) (fun v hv => by rw [List.mem_singleton.1 hv]; omega)
 have h2 := dmMoist true [m] (by simp) (fun x hx => by rw [List.mem_singleton.1 hx]; exact hm)
 obtain ⟨v0, hv0⟩ := getE (l := l) (i := 0) (by omega)
 have h00 := h.head v0 hv0
 have e0 : (v0.1 != 0) = false := by rw [h00]; rfl
 have hlt0 : decide ((0 : Int) < (l.length : Int)) = true := decide_eq_true (by omega)
 refine DCall.of Try.func28 sf28 hb28 (Nat.le_of_ble_eq_true rfl) (okRes_nil fun _ => rfl) ?_; simp only [s28, idxs, Nat.reduceAdd]
 repeat' (first|(with_reducible first|apply qA|apply qB|apply qC|apply qD|apply qE|apply qF)|(refine qL rfl (WF.of ?_) ?_; first|rfl|skip)|(simp (disch:=omega) only [go_sem, simprocAttr, qN, qO, qP, qQ, hv0, hlt0, e0])|exact qM rfl rfl rfl|(refine qG rfl ?_)|(refine qK (h1) (by decide) ?_)|(refine qH rfl ?_)|(refine qI rfl ?_ ?_<;>intro hc<;>(try simp only [go_sem] at hc))|(refine qJ ?_ ?_<;>intro hc<;>(try simp only [hc])<;>(try simp only [go_sem] at hc)))
 refine DW.loop (ι := { i : Nat // i ≤ l.length }) (fun i => ⟨99, [(25, dI i.1), (24, dI l.length), (23, .c (.sl b 2 (rows eSp l))), (5, dI 0), (4, .box 4 0), (3, .box 3 0), (0, .c (.sl b 2 (rows eSp l)))], [(4, .box [dI 0, dI 0]), (3, .box [dI m.1, dI m.2])]⟩) (fun i => l.length - i.1) ⟨0, Nat.zero_le _⟩ ?_ ?_
 ·refine Ent.to ?_ ?_ <;> simp (disch:=omega) only [qR,qS,qTw,qU,get,Nat.reduceEqDiff,↓reduceIte,qV,qW,qX,qY,qZ,and_self,dI,i64_in,and_true,true_and,rA,rB,rC,rD]
  all_goals first | exact ⟨.refl _, .refl _, .refl _⟩ | exact ⟨.refl _, .refl _⟩ | exact .refl _
 rintro ⟨i, hi⟩
 dsimp only
 rcases at_or l i hi with ⟨v, hv, hlt, hd⟩ | ⟨he, hd⟩
 ·have hvm := h.mem v (List.mem_of_getElem? hv)
  have w1 := dmIn true 0 300 [v.1] (by simp) (fun x hx => by rw [List.mem_singleton.1 hx]; exact hvm.1)
  have w2 := dmIn true 0 1000 [v.2] (by simp) (fun x hx => by rw [List.mem_singleton.1 hx]; exact hvm.2)
  rcases i with _ | j
  ·repeat' (first|(with_reducible first|apply qA|apply qB|apply qC|apply qD|apply qE|apply qF)|(refine qL rfl (WF.of ?_) ?_; first|rfl|skip)|(simp (disch:=omega) only [go_sem, simprocAttr, qN, qO, qP, qQ, hd, hlt0, hv, rF, rG, rD, rC])|exact qM rfl rfl rfl|(refine qG rfl ?_)|(refine qK (w1) (by decide) ?_)|(refine qK (w2) (by decide) ?_)|(refine qH rfl ?_)|(refine qI rfl ?_ ?_<;>intro hc<;>(try simp only [go_sem] at hc))|(refine qJ ?_ ?_<;>intro hc<;>(try simp only [hc])<;>(try simp only [go_sem] at hc)))
   refine ⟨⟨1, by omega⟩, ?_, Ent.to ?_ ?_⟩ <;> first | (show _ < _; (try simp only); omega) | (simp (disch:=omega) only [qR,qS,qTw,qU,get,Nat.reduceEqDiff,↓reduceIte,qV,qW,qX,qY,qZ,and_self,dI,i64_in,and_true,true_and,rA,rB,rC,rD])
  ·obtain ⟨u, hu⟩ := getE (l := l) (i := j) (by omega)
   have hs := h.step j u v hu hv
   have d1 : decide ((0 : Int) < ((j + 1 : Nat) : Int)) = true := decide_eq_true (by omega)
   have e1 : ((j + 1 : Nat) : Int) - 1 = (j : Int) := by omega
   have d2 : decide (v.1 ≤ u.1) = false := decide_eq_false (by omega)
   have d3 : decide (u.2 < v.2) = false := decide_eq_false (by omega)
   repeat' (first|(with_reducible first|apply qA|apply qB|apply qC|apply qD|apply qE|apply qF)|(refine qL rfl (WF.of ?_) ?_; first|rfl|skip)|(simp (disch:=omega) only [go_sem, simprocAttr, qN, qO, qP, qQ, hd, hv, hu, d1, e1, d2, d3, rF, rG])|exact qM rfl rfl rfl|(refine qG rfl ?_)|(refine qK (w1) (by decide) ?_)|(refine qK (w2) (by decide) ?_)|(refine qH rfl ?_)|(refine qI rfl ?_ ?_<;>intro hc<;>(try simp only [go_sem] at hc))|(refine qJ ?_ ?_<;>intro hc<;>(try simp only [hc])<;>(try simp only [go_sem] at hc)))
   refine ⟨⟨j + 1 + 1, hlt⟩, ?_, Ent.to ?_ ?_⟩ <;> first | (show _ < _; (try simp only); omega) | (simp (disch:=omega) only [qR,qS,qTw,qU,get,Nat.reduceEqDiff,↓reduceIte,qV,qW,qX,qY,qZ,and_self,dI,i64_in,and_true,true_and,rA,rB,rC,rD])
 repeat' (first|(with_reducible first|apply qA|apply qB|apply qC|apply qD|apply qE|apply qF)|(refine qL rfl (WF.of ?_) ?_; first|rfl|skip)|(simp (disch:=omega) only [go_sem, simprocAttr, qN, qO, qP, qQ, hd])|exact qM rfl rfl rfl|(refine qG rfl ?_)|(refine qK (h2) (by decide) ?_)|(refine qH rfl ?_)|(refine qI rfl ?_ ?_<;>intro hc<;>(try simp only [go_sem] at hc))|(refine qJ ?_ ?_<;>intro hc<;>(try simp only [hc])<;>(try simp only [go_sem] at hc)))
 refine DW.loop (ι := { i : Nat // i ≤ l.length }) (fun i => ⟨99, [(77, dI i.1), (76, dI l.length), (75, .c (.sl b 2 (rows eSp l))), (5, dI 0), (4, .box 4 0), (3, .box 3 0)], [(4, .box [dI (kpI m.2 (l.take i.1) 0), dI (kpI m.1 (l.take i.1) 0)]), (3, .box [dI m.1, dI m.2])]⟩) (fun i => l.length - i.1) ⟨0, Nat.zero_le _⟩ ?_ ?_
 ·refine Ent.to ?_ ?_ <;> simp (disch:=omega) only [qR,qS,qTw,qU,get,Nat.reduceEqDiff,↓reduceIte,qV,qW,qX,qY,qZ,and_self,dI,i64_in,and_true,true_and,rA,rB,rC,rD,List.take_zero,kpI,List.foldl_nil]
  all_goals first | exact ⟨.refl _, .refl _, .refl _⟩ | exact ⟨.refl _, .refl _⟩ | exact .refl _
 rintro ⟨i, hi⟩
 dsimp only
 rcases at_or l i hi with ⟨v, hv, hlt, hd⟩ | ⟨he, hd⟩
 ·have hvm := h.mem v (List.mem_of_getElem? hv)
  have t1 := kpI_take m.1 hv
  have t2 := kpI_take m.2 hv
  have mm := hm.2.1
  by_cases c1 : v.1 ≤ m.1
  ·have e1 : decide (v.1 ≤ m.1) = true := decide_eq_true c1
   have e2 : decide (v.1 ≤ m.2) = true := decide_eq_true (by omega)
   rw [if_pos c1] at t1
   rw [if_pos (by omega)] at t2
   repeat' (first|(with_reducible first|apply qA|apply qB|apply qC|apply qD|apply qE|apply qF)|(refine qL rfl (WF.of ?_) ?_; first|rfl|skip)|(simp (disch:=omega) only [go_sem, simprocAttr, qN, qO, qP, qQ, hd, hv, e1, e2, rF, rG])|exact qM rfl rfl rfl|(refine qG rfl ?_)|(refine qH rfl ?_)|(refine qI rfl ?_ ?_<;>intro hc<;>(try simp only [go_sem] at hc))|(refine qJ ?_ ?_<;>intro hc<;>(try simp only [hc])<;>(try simp only [go_sem] at hc)))
   refine ⟨⟨i + 1, hlt⟩, ?_, Ent.to ?_ ?_⟩ <;> first | (show _ < _; (try simp only); omega) | (simp (disch:=omega) only [qR,qS,qTw,qU,get,Nat.reduceEqDiff,↓reduceIte,qV,qW,qX,qY,qZ,and_self,dI,i64_in,and_true,true_and,rA,rB,rC,rD, t1,t2])
   all_goals first | exact ⟨.refl _, .refl _, .refl _⟩ | exact ⟨.refl _, .refl _⟩ | exact .refl _
  ·have e1 : decide (v.1 ≤ m.1) = false := decide_eq_false c1
   rw [if_neg c1] at t1
   by_cases c2 : v.1 ≤ m.2
   ·have e2 : decide (v.1 ≤ m.2) = true := decide_eq_true c2
    rw [if_pos c2] at t2
    repeat' (first|(with_reducible first|apply qA|apply qB|apply qC|apply qD|apply qE|apply qF)|(refine qL rfl (WF.of ?_) ?_; first|rfl|skip)|(simp (disch:=omega) only [go_sem, simprocAttr, qN, qO, qP, qQ, hd, hv, e1, e2, rF, rG])|exact qM rfl rfl rfl|(refine qG rfl ?_)|(refine qH rfl ?_)|(refine qI rfl ?_ ?_<;>intro hc<;>(try simp only [go_sem] at hc))|(refine qJ ?_ ?_<;>intro hc<;>(try simp only [hc])<;>(try simp only [go_sem] at hc)))
    refine ⟨⟨i + 1, hlt⟩, ?_, Ent.to ?_ ?_⟩ <;> first | (show _ < _; (try simp only); omega) | (simp (disch:=omega) only [qR,qS,qTw,qU,get,Nat.reduceEqDiff,↓reduceIte,qV,qW,qX,qY,qZ,and_self,dI,i64_in,and_true,true_and,rA,rB,rC,rD, t1,t2])
    all_goals first | exact ⟨.refl _, .refl _, .refl _⟩ | exact ⟨.refl _, .refl _⟩ | exact .refl _
   ·have e2 : decide (v.1 ≤ m.2) = false := decide_eq_false c2
    rw [if_neg c2] at t2
    repeat' (first|(with_reducible first|apply qA|apply qB|apply qC|apply qD|apply qE|apply qF)|(refine qL rfl (WF.of ?_) ?_; first|rfl|skip)|(simp (disch:=omega) only [go_sem, simprocAttr, qN, qO, qP, qQ, hd, hv, e1, e2, rF, rG])|exact qM rfl rfl rfl|(refine qG rfl ?_)|(refine qH rfl ?_)|(refine qI rfl ?_ ?_<;>intro hc<;>(try simp only [go_sem] at hc))|(refine qJ ?_ ?_<;>intro hc<;>(try simp only [hc])<;>(try simp only [go_sem] at hc)))
    refine ⟨⟨i + 1, hlt⟩, ?_, Ent.to ?_ ?_⟩ <;> first | (show _ < _; (try simp only); omega) | (simp (disch:=omega) only [qR,qS,qTw,qU,get,Nat.reduceEqDiff,↓reduceIte,qV,qW,qX,qY,qZ,and_self,dI,i64_in,and_true,true_and,rA,rB,rC,rD, t1,t2])
    all_goals first | exact ⟨.refl _, .refl _, .refl _⟩ | exact ⟨.refl _, .refl _⟩ | exact .refl _
 ·have hT : l.take i = l := by rw [he, List.take_length]
  repeat' (first|(with_reducible first|apply qA|apply qB|apply qC|apply qD|apply qE|apply qF)|(refine qL rfl (WF.of ?_) ?_; first|rfl|skip)|(simp (disch:=omega) only [go_sem, simprocAttr, qN, qO, qP, qQ, hd, hT])|exact qM rfl rfl rfl|(refine qG rfl ?_)|(refine qH rfl ?_)|(refine qI rfl ?_ ?_<;>intro hc<;>(try simp only [go_sem] at hc))|(refine qJ ?_ ?_<;>intro hc<;>(try simp only [hc])<;>(try simp only [go_sem] at hc)))
end Go.Dw.Seat
end
section
set_option linter.unusedSimpArgs false
set_option maxRecDepth 100000
namespace Go.Dw.Seat
open Go Go.Dw Go.Proofs Go.IntWalk
structure T3 where
 v0 : Nat
 v1 : Nat
 v2 : Nat
structure T3.ok (v : T3) : Prop where
 v0 : v.v0 < 256
 v1 : v.v1 < 256
 v2 : v.v2 < 256
def eT3 (v : T3) : List C := [.v (.int .u8 v.v0), .v (.int .u8 v.v1), .v (.int .u8 v.v2)]
theorem eT3_nb (v : T3) : C.nbs (eT3 v) = true := rfl
attribute [go_sem] eT3
structure TripY where
 r0 : Nat
 r1 : Nat
 s0 : Nat
 s1 : Nat
 l : List T3
structure TripY.ok (x : TripY) : Prop where
 r0 : x.r0 < 256
 r1 : x.r1 < 256
 s0 : x.s0 < 256
 s1 : x.s1 < 256
 m : x.l.length ≤ maxLen
 l : ∀ v ∈ x.l, v.ok
abbrev dTrip (b : Bool) (x : TripY) : D := .agg [d8 x.r0, d8 x.r1, d8 x.s0, d8 x.s1, .c (.sl b 3 (rows eT3 x.l))]
def stOf (v : T3) : DSt := ⟨((v.v0 % 150 : Nat) : Int), ((v.v0 % 150 : Nat) : Int) + ((v.v1 % 30 : Nat) : Int), ((v.v2 % 21 : Nat) : Int)⟩
theorem stOf_ok (v : T3) : (stOf v).ok ∧ (stOf v).h ≤ 20 := by
 have h1 : v.v0 % 150 < 150 := Nat.mod_lt _ (by decide)
 have h2 : v.v1 % 30 < 30 := Nat.mod_lt _ (by decide)
 have h3 : v.v2 % 21 < 21 := Nat.mod_lt _ (by decide)
 refine ⟨⟨⟨?_, ?_, ?_⟩, ?_⟩, ?_⟩ <;> simp only [stOf] <;> omega
def tripL (x : TripY) : List DSt := (x.l.take 5).map stOf
def tripU (x : TripY) : Int := ((x.r0 % 21 : Nat) : Int)
def tripD (x : TripY) : Int := ((x.r1 % 21 : Nat) : Int)
def tripK (x : TripY) : Int × Int := (((x.s0 % 100 : Nat) : Int), ((x.s0 % 100 : Nat) : Int) + ((x.s1 % 20 : Nat) : Int))
theorem trip_ok (x : TripY) : ((0 ≤ tripU x ∧ tripU x ≤ 50) ∧ 0 ≤ tripD x ∧ tripD x ≤ 50) ∧ spM (tripK x) ∧ (tripL x).length ≤ 5 ∧ ∀ s ∈ tripL x, s.ok ∧ s.h ≤ 20 := by
 have h1 : x.r0 % 21 < 21 := Nat.mod_lt _ (by decide)
 have h2 : x.r1 % 21 < 21 := Nat.mod_lt _ (by decide)
 have h3 : x.s0 % 100 < 100 := Nat.mod_lt _ (by decide)
 have h4 : x.s1 % 20 < 20 := Nat.mod_lt _ (by decide)
 refine ⟨by unfold tripU tripD; omega, by unfold tripK spM; dsimp only; omega, by unfold tripL; rw [List.length_map, List.length_take]; omega, fun s hs => ?_⟩
 obtain ⟨v, _, rfl⟩ := List.mem_map.1 hs
 exact stOf_ok v
theorem rowC_snocDs (l : List DSt) (x : DSt) : rowC (rows eDs l) ++ [[D.c (.v (.int .i64 x.lo)), D.c (.v (.int .i64 x.hi)), D.c (.v (.int .i64 x.h))]] = rowC (rows eDs (l ++ [x])) := by simp [rowC, rows, eDs]
theorem dt150 (m : Nat) : (m : Int).tmod 150 = ((m % 150 : Nat) : Int) := tmodN m 150
theorem dt30 (m : Nat) : (m : Int).tmod 30 = ((m % 30 : Nat) : Int) := tmodN m 30
theorem dt21 (m : Nat) : (m : Int).tmod 21 = ((m % 21 : Nat) : Int) := tmodN m 21
theorem dt20 (m : Nat) : (m : Int).tmod 20 = ((m % 20 : Nat) : Int) := tmodN m 20
theorem dt100 (m : Nat) : (m : Int).tmod 100 = ((m % 100 : Nat) : Int) := tmodN m 100
set_option maxHeartbeats 4000000 in
theorem dtTrip (b : Bool) (x : TripY) (hx : x.ok) : DCall Try.prog 25 [dTrip b x] [] (.tup [.agg [dI (tripU x), dI (tripD x)], .agg [dI (tripK x).1, dI (tripK x).2], .c (.sl false 3 (rows eDs (tripL x)))]) [] := by
 have hm : x.l.length ≤ 9223372036854775807 := hx.m
 have h3 : x.s0 % 100 < 100 := Nat.mod_lt _ (by decide)
 have h4 : x.s1 % 20 < 20 := Nat.mod_lt _ (by decide)
 have r0 := hx.r0
 have r1 := hx.r1
 have s0 := hx.s0
 have s1 := hx.s1
 have sp := dtSpan ((x.s0 % 100 : Nat) : Int) (((x.s0 % 100 : Nat) : Int) + ((x.s1 % 20 : Nat) : Int))
 obtain ⟨N, hN⟩ : ∃ N : Nat, N = min x.l.length 5 := ⟨_, rfl⟩
 refine DCall.of Try.func25 sf25 hb25 (Nat.le_of_ble_eq_true rfl) (okRes_nil fun _ => rfl) ?_; simp only [s25, o25_0, o25_1, o25_2, o25_3, o25_4, o25_5, o25_6, o25_7, o25_8, o25_9, o25_10, o25_11, o25_12, o25_13, o25_14, o25_15, o25_16, o25_17, o25_18, o25_19, o25_20, o25_21, o25_22, o25_23, idxs, Nat.reduceAdd]
 repeat' (first|(with_reducible first|apply qA|apply qB|apply qC|apply qD|apply qE|apply qF)|(refine qL rfl (WF.of ?_) ?_; first|rfl|skip)|(refine DW.ord rfl (WF.of (by first|rfl|simp (disch:=omega) only [go_sem, simprocAttr, qN, qO, qP, qQ])) ?_ ?_ ?_; rotate_left)|rfl|(with_reducible refine And.intro ?_ ?_)|(simp (disch:=omega) only [go_sem, simprocAttr, qN, qO, qP, qQ])|exact qM rfl rfl rfl|(refine qG rfl ?_)|(refine qH rfl ?_)|(refine qI rfl ?_ ?_<;>intro hc<;>(try simp only [go_sem] at hc))|(refine qJ ?_ ?_<;>intro hc<;>(try simp only [hc])<;>(try simp only [go_sem] at hc)))
 refine DW.loop (ι := { i : Nat // i ≤ N }) (fun i => ⟨74, [(6, dI i.1), (5, .own 9), (3, .box 3 0), (2, .box 2 0), (1, .box 1 0)], [(9, .row 3 (rowC (rows eDs ((x.l.take i.1).map stOf)))), (3, .box [dI 0, dI 0]), (2, .box [dI 0, dI 0]), (1, .box [d8 x.r0, d8 x.r1, d8 x.s0, d8 x.s1, .c (.sl b 3 (rows eT3 x.l))])]⟩) (fun i => N - i.1) ⟨0, Nat.zero_le _⟩ ?_ ?_
 ·refine Ent.to ?_ ?_ <;> simp (disch:=omega) only [qR,qS,qTw,qU,get,Nat.reduceEqDiff,↓reduceIte,qV,qW,qX,qY,qZ,and_self,dI,i64_in,and_true,true_and,rA,rB,rC,rD,List.take_zero,rG]
  all_goals first | exact ⟨.refl _, .refl _, .refl _, .refl _⟩ | exact ⟨.refl _, .refl _, .refl _⟩ | exact ⟨.refl _, .refl _⟩ | exact .refl _
 rintro ⟨i, hi⟩
 dsimp only
 rcases Nat.lt_or_ge i N with hlt | hge
 ·obtain ⟨v, hv⟩ := getE (l := x.l) (i := i) (by omega)
  have hd1 : decide ((i : Int) < (x.l.length : Int)) = true := decide_eq_true (by omega)
  have hd2 : decide ((i : Int) < 5) = true := decide_eq_true (by omega)
  have hvo := hx.l v (List.mem_of_getElem? hv)
  have k1 := hvo.v0
  have k2 := hvo.v1
  have k3 := hvo.v2
  have q1 : v.v0 % 150 < 150 := Nat.mod_lt _ (by decide)
  have q2 : v.v1 % 30 < 30 := Nat.mod_lt _ (by decide)
  have q3 : v.v2 % 21 < 21 := Nat.mod_lt _ (by decide)
  have sp2 := dtSpan ((v.v0 % 150 : Nat) : Int) (((v.v0 % 150 : Nat) : Int) + ((v.v1 % 30 : Nat) : Int))
  have htk : (x.l.take (i + 1)).map stOf = (x.l.take i).map stOf ++ [stOf v] := by rw [List.take_add_one, hv, Option.toList_some, List.map_append, List.map_cons, List.map_nil]
  have hlen : ((x.l.take i).map stOf).length ≤ 5 := by rw [List.length_map, List.length_take]; omega
  have hsn := rowC_snocDs ((x.l.take i).map stOf) (stOf v)
  rw [← htk] at hsn
  generalize (x.l.take i).map stOf = A at *
  generalize hA1 : (x.l.take (i + 1)).map stOf = A1 at *
  simp only [stOf] at hsn
  repeat' (first|(with_reducible first|apply qA|apply qB|apply qC|apply qD|apply qE|apply qF)|(refine qL rfl (WF.of ?_) ?_; first|rfl|skip)|(refine DW.ord rfl (WF.of (by first|rfl|simp (disch:=omega) only [go_sem, simprocAttr, qN, qO, qP, qQ, hd1, hd2, hv, hsn, dt150, dt30, dt21, rF, rG])) ?_ ?_ ?_; rotate_left)|rfl|(with_reducible refine And.intro ?_ ?_)|(simp (disch:=omega) only [go_sem, simprocAttr, qN, qO, qP, qQ, hd1, hd2, hv, hsn, dt150, dt30, dt21, rF, rG])|exact qM rfl rfl rfl|(refine qG rfl ?_)|(refine qK (sp2) (by decide) ?_)|(refine qH rfl ?_)|(refine qI rfl ?_ ?_<;>intro hc<;>(try simp only [go_sem] at hc))|(refine qJ ?_ ?_<;>intro hc<;>(try simp only [hc])<;>(try simp only [go_sem] at hc)))
  refine ⟨⟨i + 1, hlt⟩, ?_, Ent.to ?_ ?_⟩ <;> first | (show _ < _; (try simp only); omega) | (simp (disch:=omega) only [qR,qS,qTw,qU,get,Nat.reduceEqDiff,↓reduceIte,qV,qW,qX,qY,qZ,and_self,dI,i64_in,and_true,true_and,rA,rB,rC,rD, hsn,hA1])
  all_goals first | exact ⟨.refl _, .refl _, .refl _, .refl _⟩ | exact ⟨.refl _, .refl _, .refl _⟩ | exact ⟨.refl _, .refl _⟩ | exact .refl _
 ·obtain rfl : i = N := by omega
  have hT : (x.l.take i).map stOf = tripL x := by
   unfold tripL
   rcases Nat.lt_or_ge x.l.length 5 with h | h
   ·rw [List.take_of_length_le (by omega), List.take_of_length_le (by omega)]
   ·rw [show i = 5 by omega]
  have hd : (decide ((i : Int) < (x.l.length : Int)) = false) ∨ (decide ((i : Int) < (x.l.length : Int)) = true ∧ decide ((i : Int) < 5) = false) := by
   rcases Nat.lt_or_ge i x.l.length with h | h
   ·exact .inr ⟨decide_eq_true (by omega), decide_eq_false (by omega)⟩
   ·exact .inl (decide_eq_false (by omega))
  rw [hT]
  generalize tripL x = L at *
  rcases hd with hd | ⟨hd, hd2⟩
  ·repeat' (first|(with_reducible first|apply qA|apply qB|apply qC|apply qD|apply qE|apply qF)|(refine qL rfl (WF.of ?_) ?_; first|rfl|skip)|(refine DW.ord rfl (WF.of (by first|rfl|simp (disch:=omega) only [go_sem, simprocAttr, qN, qO, qP, qQ, hd, dt100, dt20, dt21])) ?_ ?_ ?_; rotate_left)|rfl|(with_reducible refine And.intro ?_ ?_)|(simp (disch:=omega) only [go_sem, simprocAttr, qN, qO, qP, qQ, hd, dt100, dt20, dt21])|exact qM rfl rfl rfl|(refine qG rfl ?_)|(refine qK (sp) (by decide) ?_)|(refine qH rfl ?_)|(refine qI rfl ?_ ?_<;>intro hc<;>(try simp only [go_sem] at hc))|(refine qJ ?_ ?_<;>intro hc<;>(try simp only [hc])<;>(try simp only [go_sem] at hc)))
   (refine retS_ent (Ent.rel 9 rfl) ?_; simp (disch:=omega) only [go_sem,simprocAttr,qN,qO,qP,qQ])
   refine retS_wk rfl ?_ (by simp only [Blk.nb, rowC_nb, D.nb, D.nbs, C.nb, C.nbs, C.nbss, rows_nb eI_nb, Bool.and_true, Bool.not_false, Bool.and_self, bD, dI, iD, rows_nb eSp_nb, rows_nb eDs_nb, rows_nb eT3_nb]); exact .tup (.cons (.refl _) (.cons (.refl _) (.cons (.refl _) .nil)))
  ·repeat' (first|(with_reducible first|apply qA|apply qB|apply qC|apply qD|apply qE|apply qF)|(refine qL rfl (WF.of ?_) ?_; first|rfl|skip)|(refine DW.ord rfl (WF.of (by first|rfl|simp (disch:=omega) only [go_sem, simprocAttr, qN, qO, qP, qQ, hd, hd2, dt100, dt20, dt21])) ?_ ?_ ?_; rotate_left)|rfl|(with_reducible refine And.intro ?_ ?_)|(simp (disch:=omega) only [go_sem, simprocAttr, qN, qO, qP, qQ, hd, hd2, dt100, dt20, dt21])|exact qM rfl rfl rfl|(refine qG rfl ?_)|(refine qK (sp) (by decide) ?_)|(refine qH rfl ?_)|(refine qI rfl ?_ ?_<;>intro hc<;>(try simp only [go_sem] at hc))|(refine qJ ?_ ?_<;>intro hc<;>(try simp only [hc])<;>(try simp only [go_sem] at hc)))
   (refine retS_ent (Ent.rel 9 rfl) ?_; simp (disch:=omega) only [go_sem,simprocAttr,qN,qO,qP,qQ])
   refine retS_wk rfl ?_ (by simp only [Blk.nb, rowC_nb, D.nb, D.nbs, C.nb, C.nbs, C.nbss, rows_nb eI_nb, Bool.and_true, Bool.not_false, Bool.and_self, bD, dI, iD, rows_nb eSp_nb, rows_nb eDs_nb, rows_nb eT3_nb]); exact .tup (.cons (.refl _) (.cons (.refl _) (.cons (.refl _) .nil)))
theorem kdA : aftS 10 4 (60, 70) [⟨90, 100, 2⟩, ⟨50, 60, 5⟩] = [(80, 90), (60, 70)] := by decide
theorem kdH : hrsN 10 4 (60, 70) (90, 100) (50, 85) 500 0 = 1 := by decide +kernel
theorem dtDamp : DCall Try.prog 32 [] [] (bD true) [] := by
 have hst : ∀ s ∈ ([⟨90, 100, 2⟩, ⟨50, 60, 5⟩] : List DSt), s.ok := fun s hs => by
  simp only [List.mem_cons, List.not_mem_nil, or_false] at hs
  rcases hs with rfl | rfl
  ·exact ⟨⟨by decide, by decide, by decide⟩, by decide⟩
  ·exact ⟨⟨by decide, by decide, by decide⟩, by decide⟩
 have ha := dmAfter 10 4 (by decide) (60, 70) ⟨by decide, by decide, by decide⟩ [⟨90, 100, 2⟩, ⟨50, 60, 5⟩] (by decide) hst
 rw [kdA] at ha
 have hh := dmHours 10 4 (by decide) (60, 70) (90, 100) (50, 85) ⟨by decide, by decide, by decide⟩ ⟨by decide, by decide, by decide⟩ ⟨by decide, by decide, by decide⟩ (by decide)
 rw [kdH] at hh
 have p1 := dtSpan 60 70
 have p2 := dtSpan 90 100
 have p3 := dtSpan 50 60
 have p4 := dtSpan 50 85
 have p5 := dtSpan 80 90
 refine DCall.of Try.func32 sf32 hb32 (Nat.le_of_ble_eq_true rfl) (okRes_nil fun _ => rfl) ?_; simp only [s32, idxs, Nat.reduceAdd]
 repeat' (first|(with_reducible first|apply qA|apply qB|apply qC|apply qD|apply qE|apply qF)|(refine qL rfl (WF.of ?_) ?_; first|rfl|skip)|(simp (disch:=omega) only [go_sem, simprocAttr, qN, qO, qP, qQ])|exact qM rfl rfl rfl|(refine qG rfl ?_)|(refine qK (p1) (by decide) ?_)|(refine qK (p2) (by decide) ?_)|(refine qK (p3) (by decide) ?_)|(refine qK (p4) (by decide) ?_)|(refine qK (p5) (by decide) ?_)|(refine qH rfl ?_)|(refine qI rfl ?_ ?_<;>intro hc<;>(try simp only [go_sem] at hc))|(refine qJ ?_ ?_<;>intro hc<;>(try simp only [hc])<;>(try simp only [go_sem] at hc)))
 refine call_e (Ent.rel 12 rfl) ha rfl rfl (by decide) ?_
 simp (disch:=omega) only [go_sem,simprocAttr,qN,qO,qP,qQ]
 repeat' (first|(with_reducible first|apply qA|apply qB|apply qC|apply qD|apply qE|apply qF)|(refine qL rfl (WF.of ?_) ?_; first|rfl|skip)|(simp (disch:=omega) only [go_sem, simprocAttr, qN, qO, qP, qQ])|exact qM rfl rfl rfl|(refine qG rfl ?_)|(refine qK (p1) (by decide) ?_)|(refine qK (p2) (by decide) ?_)|(refine qK (p3) (by decide) ?_)|(refine qK (p4) (by decide) ?_)|(refine qK (p5) (by decide) ?_)|(refine qK (hh) (by decide) ?_)|(refine qH rfl ?_)|(refine qI rfl ?_ ?_<;>intro hc<;>(try simp only [go_sem] at hc))|(refine qJ ?_ ?_<;>intro hc<;>(try simp only [hc])<;>(try simp only [go_sem] at hc)))
end Go.Dw.Seat
end
section
set_option linter.unusedSimpArgs false
set_option maxRecDepth 100000
namespace Go.Dw.Seat
open Go Go.Dw Go.Proofs Go.IntWalk
def stepW (u d m r : Int) : Int := if m < r then min r (m + u) else max r (m - d)
theorem stepW_mono {u d m m' r r' : Int} (hu : 0 ≤ u) (hd : 0 ≤ d) (hm : m ≤ m') (hr : r ≤ r') : stepW u d m r ≤ stepW u d m' r' := by
 unfold stepW
 split <;> split <;> omega
theorem stepW_b {u d m r : Int} (hu : 0 ≤ u) (hd : 0 ≤ d) (hm : 0 ≤ m ∧ m ≤ 300) (hr : 0 ≤ r ∧ r ≤ 300) : 0 ≤ stepW u d m r ∧ stepW u d m r ≤ 300 := by
 unfold stepW
 split <;> omega
theorem tow_step {u d f r : Int} (hu : 0 ≤ u) (hd : 0 ≤ d) (n : Nat) : towI u d f r ((n + 1 : Nat) : Int) = stepW u d (towI u d f r (n : Int)) r := by
 have e1 : u * ((n + 1 : Nat) : Int) = u * (n : Int) + u := by rw [Int.natCast_add, Int.mul_add]; simp
 have e2 : d * ((n + 1 : Nat) : Int) = d * (n : Int) + d := by rw [Int.natCast_add, Int.mul_add]; simp
 have h1 : 0 ≤ u * (n : Int) := Int.mul_nonneg hu (by omega)
 have h2 : 0 ≤ d * (n : Int) := Int.mul_nonneg hd (by omega)
 unfold towI stepW
 rw [e1, e2]
 generalize u * (n : Int) = a at *
 generalize d * (n : Int) = b at *
 split
 ·split <;> omega
 ·split <;> omega
theorem tow_zero {u d f r : Int} : towI u d f r 0 = f := by
 unfold towI
 rw [Int.mul_zero, Int.mul_zero]
 split <;> omega
def wetS (u d : Int) (tr : List Nat) (s : DSt) : Nat → Int × Nat → Int × Nat
 | 0, x => x
 | n + 1, x => wetS u d tr s n (stepW u d x.1 (inI s.lo s.hi (byteI tr (x.2 + 1))), x.2 + 1)
def wetL (u d : Int) (tr : List Nat) : List DSt → Int × Nat → Int × Nat
 | [], x => x
 | s :: l, x => wetL u d tr l (wetS u d tr s s.h.toNat x)
theorem dt_byteI {l : List Nat} (h : ∀ v ∈ l, v < 256) (i : Nat) : byteI l i < 256 := by
 unfold byteI
 cases hv : l[i % l.length]? with
 | none => simp
 | some v => simpa using h v (List.mem_of_getElem? hv)
theorem wetS_in {u d : Int} (hu : 0 ≤ u) (hd : 0 ≤ d) {tr : List Nat} (ht : ∀ v ∈ tr, v < 256) {s : DSt} (hs : s.lo ≤ s.hi) (k : Int × Int) : ∀ (n : Nat) (j : Nat) (x : Int × Nat), (towI u d k.1 s.lo (j : Int) ≤ x.1 ∧ x.1 ≤ towI u d k.2 s.hi (j : Int)) →
  towI u d k.1 s.lo ((j + n : Nat) : Int) ≤ (wetS u d tr s n x).1 ∧ (wetS u d tr s n x).1 ≤ towI u d k.2 s.hi ((j + n : Nat) : Int)
 | 0, j, x, h => h
 | n + 1, j, x, h => by
  have hi := inI_b (y := byteI tr (x.2 + 1)) (dt_byteI ht _) hs
  have := wetS_in hu hd ht hs k n (j + 1) (stepW u d x.1 (inI s.lo s.hi (byteI tr (x.2 + 1))), x.2 + 1) (by
   dsimp only
   rw [tow_step hu hd, tow_step hu hd]
   exact ⟨stepW_mono hu hd h.1 hi.1, stepW_mono hu hd h.2 hi.2⟩)
  rw [show j + 1 + n = j + (n + 1) by omega] at this
  exact this
def lastK (u d : Int) : List DSt → Int × Int → Int × Int
 | [], k => k
 | s :: l, k => lastK u d l (hrsF u d k s)
theorem wetL_in {u d : Int} (hr : (0 ≤ u ∧ u ≤ 50) ∧ 0 ≤ d ∧ d ≤ 50) {tr : List Nat} (ht : ∀ v ∈ tr, v < 256) : ∀ (l : List DSt), (∀ s ∈ l, s.ok) → ∀ (k : Int × Int) (x : Int × Nat), spM k → (k.1 ≤ x.1 ∧ x.1 ≤ k.2) → (lastK u d l k).1 ≤ (wetL u d tr l x).1 ∧ (wetL u d tr l x).1 ≤ (lastK u d l k).2
 | [], _, k, x, _, h => h
 | s :: l, ho, k, x, hk, h => by
  have hs := ho s (by simp)
  have h1 := wetS_in (u := u) (d := d) hr.1.1 hr.2.1 ht (s := s) hs.r.2.1 k s.h.toNat 0 x (by rw [show ((0 : Nat) : Int) = 0 from rfl, tow_zero, tow_zero]; exact h)
  rw [Nat.zero_add, Int.toNat_of_nonneg hs.h.1] at h1
  exact wetL_in hr ht l (fun y hy => ho y (by simp [hy])) (hrsF u d k s) _ (hrs_ok hr hk hs) h1
theorem lastK_ok {u d : Int} (hr : (0 ≤ u ∧ u ≤ 50) ∧ 0 ≤ d ∧ d ≤ 50) : ∀ (l : List DSt), (∀ s ∈ l, s.ok) → ∀ (k : Int × Int), spM k → spM (lastK u d l k)
 | [], _, _, h => h
 | s :: l, ho, k, h => lastK_ok hr l (fun y hy => ho y (by simp [hy])) _ (hrs_ok hr h (ho s (by simp)))
theorem aftS_last (u d : Int) : ∀ (l : List DSt) (k : Int × Int), (aftS u d k l = [] ∧ lastK u d l k = k) ∨ ∃ L, aftS u d k l = L ++ [lastK u d l k]
 | [], k => .inl ⟨rfl, rfl⟩
 | s :: l, k => by
  refine .inr ?_
  rcases aftS_last u d l (hrsF u d k s) with ⟨h1, h2⟩ | ⟨L, h⟩
  ·exact ⟨[], by rw [aftS, h1, lastK, h2]; rfl⟩
  ·exact ⟨hrsF u d k s :: L, by rw [aftS, h, lastK]; rfl⟩
theorem wetS_snd (u d : Int) (tr : List Nat) (s : DSt) : ∀ (n : Nat) (x : Int × Nat), (wetS u d tr s n x).2 = x.2 + n
 | 0, x => rfl
 | n + 1, x => by rw [wetS, wetS_snd u d tr s n]; dsimp only; omega
theorem wetS_b {u d : Int} (hu : 0 ≤ u) (hd : 0 ≤ d) {tr : List Nat} (ht : ∀ v ∈ tr, v < 256) {s : DSt} (hs : s.ok) : ∀ (n : Nat) (x : Int × Nat), (0 ≤ x.1 ∧ x.1 ≤ 300) → 0 ≤ (wetS u d tr s n x).1 ∧ (wetS u d tr s n x).1 ≤ 300
 | 0, _, h => h
 | n + 1, x, h => by
  have hi := inI_b (y := byteI tr (x.2 + 1)) (dt_byteI ht _) hs.r.2.1
  obtain ⟨r1, r2, r3⟩ := hs.r
  dsimp only at r1 r2 r3 hi
  exact wetS_b hu hd ht hs n _ (stepW_b hu hd h ⟨by omega, by omega⟩)
set_option maxHeartbeats 4000000 in
theorem dtWet (b : Bool) (u d : Int) (hr : (0 ≤ u ∧ u ≤ 50) ∧ 0 ≤ d ∧ d ≤ 50) (k : Int × Int) (hk : spM k) (l : List DSt) (hl : l.length ≤ 5) (ho : ∀ s ∈ l, s.ok ∧ s.h ≤ 20) (tr : List Nat) (ht : ∀ v ∈ tr, v < 256) :
  DCall Try.prog 29 [.agg [dI u, dI d], .agg [dI k.1, dI k.2], .c (.sl false 3 (rows eDs l)), .c (.sl b 1 (rows eY tr))] [] (dI (wetL u d tr l (inI k.1 k.2 (byteI tr 0), 0)).1) [] := by
 obtain ⟨k1, k2, k3⟩ := hk
 have hb0 := arByte b tr 0 (by omega) ht
 have hi0 := arIn k.1 k.2 (byteI tr 0) (dt_byteI ht 0) ⟨k1, k2, by omega⟩
 have hin := inI_b (y := byteI tr 0) (dt_byteI ht 0) k2
 obtain ⟨R, hR⟩ : ∃ R, (wetL u d tr l (inI k.1 k.2 (byteI tr 0), 0)).1 = R := ⟨_, rfl⟩
 rw [hR]
 refine DCall.of Try.func29 sf29 hb29 (Nat.le_of_ble_eq_true rfl) (okRes_nil fun _ => rfl) ?_; simp only [s29, idxs, Nat.reduceAdd]
 repeat' (first|(with_reducible first|apply qA|apply qB|apply qC|apply qD|apply qE|apply qF)|(refine qL rfl (WF.of ?_) ?_; first|rfl|skip)|(simp (disch:=omega) only [go_sem, simprocAttr, qN, qO, qP, qQ])|exact qM rfl rfl rfl|(refine qG rfl ?_)|(refine qK (hb0) (by decide) ?_)|(refine qK (hi0) (by decide) ?_)|(refine qH rfl ?_)|(refine qI rfl ?_ ?_<;>intro hc<;>(try simp only [go_sem] at hc))|(refine qJ ?_ ?_<;>intro hc<;>(try simp only [hc])<;>(try simp only [go_sem] at hc)))
 refine DW.loop (ι := { y : Nat × (Int × Nat) // y.1 ≤ l.length ∧ (0 ≤ y.2.1 ∧ y.2.1 ≤ 300) ∧ y.2.2 ≤ 20 * y.1 ∧ (wetL u d tr (l.drop y.1) y.2).1 = R }) (fun y => ⟨60, [(11, dI y.1.1), (10, dI y.1.2.2), (9, dI y.1.2.1), (4, .box 4 0), (2, .c (.sl false 3 (rows eDs l))), (3, .c (.sl b 1 (rows eY tr)))], [(4, .box [dI u, dI d])]⟩) (fun y => l.length - y.1.1) ⟨(0, (inI k.1 k.2 (byteI tr 0), 0)), Nat.zero_le _, by dsimp only; omega, Nat.le_refl _, hR⟩ ?_ ?_
 ·refine Ent.to ?_ ?_ <;> simp (disch:=omega) only [qR,qS,qTw,qU,get,Nat.reduceEqDiff,↓reduceIte,qV,qW,qX,qY,qZ,and_self,dI,i64_in,and_true,true_and,rA,rB,rC,rD]
 rintro ⟨⟨i, m, h⟩, hi, hmb, hhb, hw⟩
 dsimp only at hi hmb hhb hw ⊢
 rcases at_or l i hi with ⟨s, hs, hlt, hd⟩ | ⟨he, hd⟩
 ·obtain ⟨hso, hs20⟩ := ho s (List.mem_of_getElem? hs)
  have hsh := hso.h
  obtain ⟨r1, r2, r3⟩ := hso.r
  dsimp only at r1 r2 r3
  rw [dm_drop hs, wetL] at hw
  obtain ⟨W, hW⟩ : ∃ W, wetS u d tr s s.h.toNat (m, h) = W := ⟨_, rfl⟩
  have hWb := wetS_b hr.1.1 hr.2.1 ht hso s.h.toNat (m, h) hmb
  have hWs := wetS_snd u d tr s s.h.toNat (m, h)
  rw [hW] at hw hWb hWs
  dsimp only at hWs
  repeat' (first|(with_reducible first|apply qA|apply qB|apply qC|apply qD|apply qE|apply qF)|(refine qL rfl (WF.of ?_) ?_; first|rfl|skip)|(simp (disch:=omega) only [go_sem, simprocAttr, qN, qO, qP, qQ, hd])|exact qM rfl rfl rfl|(refine qG rfl ?_)|(refine qH rfl ?_)|(refine qI rfl ?_ ?_<;>intro hc<;>(try simp only [go_sem] at hc))|(refine qJ ?_ ?_<;>intro hc<;>(try simp only [hc])<;>(try simp only [go_sem] at hc)))
  refine DW.loop (ι := { z : Nat × (Int × Nat) // z.1 ≤ s.h.toNat ∧ (0 ≤ z.2.1 ∧ z.2.1 ≤ 300) ∧ z.2.2 ≤ 20 * i + z.1 ∧ wetS u d tr s (s.h.toNat - z.1) z.2 = W }) (fun z => ⟨60, [(12, dI z.1.1), (11, dI i), (10, dI z.1.2.2), (9, dI z.1.2.1), (4, .box 4 0), (2, .c (.sl false 3 (rows eDs l))), (3, .c (.sl b 1 (rows eY tr)))], [(4, .box [dI u, dI d])]⟩) (fun z => s.h.toNat - z.1.1) ⟨(0, (m, h)), Nat.zero_le _, hmb, by dsimp only; omega, hW⟩ ?_ ?_
  ·refine Ent.to ?_ ?_ <;> simp (disch:=omega) only [qR,qS,qTw,qU,get,Nat.reduceEqDiff,↓reduceIte,qV,qW,qX,qY,qZ,and_self,dI,i64_in,and_true,true_and,rA,rB,rC,rD]
  rintro ⟨⟨j, m1, h1⟩, hj, hmb1, hhb1, hw1⟩
  dsimp only at hj hmb1 hhb1 hw1 ⊢
  rcases Nat.lt_or_ge j s.h.toNat with hjl | hjg
  ·have hdj : decide ((j : Int) < s.h) = true := decide_eq_true (by omega)
   have hby := arByte b tr (h1 + 1) (by omega) ht
   have hai := arIn s.lo s.hi (byteI tr (h1 + 1)) (dt_byteI ht _) ⟨r1, r2, by omega⟩
   have hrb := inI_b (y := byteI tr (h1 + 1)) (dt_byteI ht _) r2
   rw [show s.h.toNat - j = (s.h.toNat - (j + 1)) + 1 by omega, wetS] at hw1
   have hsb := stepW_b (m := m1) (r := inI s.lo s.hi (byteI tr (h1 + 1))) hr.1.1 hr.2.1 hmb1 ⟨by omega, by omega⟩
   obtain ⟨rm, hrm⟩ : ∃ rm, inI s.lo s.hi (byteI tr (h1 + 1)) = rm := ⟨_, rfl⟩
   have hw2 := hw1
   dsimp only at hw2
   rw [hrm] at hai hrb hsb hw2
   rw [show ((h1 + 1 : Nat) : Int) = (h1 : Int) + 1 from rfl] at hby
   by_cases hc : m1 < rm
   ·have hdc : decide (m1 < rm) = true := decide_eq_true hc
    have e1 : stepW u d m1 rm = min rm (m1 + u) := if_pos hc
    rw [e1] at hsb hw2
    repeat' (first|(with_reducible first|apply qA|apply qB|apply qC|apply qD|apply qE|apply qF)|(refine qL rfl (WF.of ?_) ?_; first|rfl|skip)|(simp (disch:=omega) only [go_sem, simprocAttr, qN, qO, qP, qQ, hd, hs, hdj, hdc, dm_min, rF, rG])|exact qM rfl rfl rfl|(refine qG rfl ?_)|(refine qK (hby) (by decide) ?_)|(refine qK (hai) (by decide) ?_)|(refine qH rfl ?_)|(refine qI rfl ?_ ?_<;>intro hc<;>(try simp only [go_sem] at hc))|(refine qJ ?_ ?_<;>intro hc<;>(try simp only [hc])<;>(try simp only [go_sem] at hc)))
    refine ⟨⟨(j + 1, (min rm (m1 + u), h1 + 1)), by dsimp only; omega, hsb, by dsimp only; omega, hw2⟩, ?_, Ent.to ?_ ?_⟩ <;> first | (show _ < _; (try simp only); omega) | (simp (disch:=omega) only [qR,qS,qTw,qU,get,Nat.reduceEqDiff,↓reduceIte,qV,qW,qX,qY,qZ,and_self,dI,i64_in,and_true,true_and,rA,rB,rC,rD])
   ·have hdc : decide (m1 < rm) = false := decide_eq_false hc
    have e1 : stepW u d m1 rm = max rm (m1 - d) := if_neg hc
    rw [e1] at hsb hw2
    repeat' (first|(with_reducible first|apply qA|apply qB|apply qC|apply qD|apply qE|apply qF)|(refine qL rfl (WF.of ?_) ?_; first|rfl|skip)|(simp (disch:=omega) only [go_sem, simprocAttr, qN, qO, qP, qQ, hd, hs, hdj, hdc, dm_max, rF, rG])|exact qM rfl rfl rfl|(refine qG rfl ?_)|(refine qK (hby) (by decide) ?_)|(refine qK (hai) (by decide) ?_)|(refine qH rfl ?_)|(refine qI rfl ?_ ?_<;>intro hc<;>(try simp only [go_sem] at hc))|(refine qJ ?_ ?_<;>intro hc<;>(try simp only [hc])<;>(try simp only [go_sem] at hc)))
    refine ⟨⟨(j + 1, (max rm (m1 - d), h1 + 1)), by dsimp only; omega, hsb, by dsimp only; omega, hw2⟩, ?_, Ent.to ?_ ?_⟩ <;> first | (show _ < _; (try simp only); omega) | (simp (disch:=omega) only [qR,qS,qTw,qU,get,Nat.reduceEqDiff,↓reduceIte,qV,qW,qX,qY,qZ,and_self,dI,i64_in,and_true,true_and,rA,rB,rC,rD])
  ·obtain rfl : j = s.h.toNat := by omega
   have hdj : decide (((s.h.toNat : Nat) : Int) < s.h) = false := decide_eq_false (by omega)
   have hw2 := hw1
   rw [Nat.sub_self, wetS] at hw2
   repeat' (first|(with_reducible first|apply qA|apply qB|apply qC|apply qD|apply qE|apply qF)|(refine qL rfl (WF.of ?_) ?_; first|rfl|skip)|(simp (disch:=omega) only [go_sem, simprocAttr, qN, qO, qP, qQ, hd, hs, hdj, rF, rG])|exact qM rfl rfl rfl|(refine qG rfl ?_)|(refine qH rfl ?_)|(refine qI rfl ?_ ?_<;>intro hc<;>(try simp only [go_sem] at hc))|(refine qJ ?_ ?_<;>intro hc<;>(try simp only [hc])<;>(try simp only [go_sem] at hc)))
   refine ⟨⟨(i + 1, (m1, h1)), hlt, hmb1, by dsimp only; omega, by rw [← hw, ← hw2]⟩, ?_, Ent.to ?_ ?_⟩ <;> first | (show _ < _; (try simp only); omega) | (simp (disch:=omega) only [qR,qS,qTw,qU,get,Nat.reduceEqDiff,↓reduceIte,qV,qW,qX,qY,qZ,and_self,dI,i64_in,and_true,true_and,rA,rB,rC,rD])
 ·have hw2 := hw
  rw [he, List.drop_length, wetL] at hw2
  repeat' (first|(with_reducible first|apply qA|apply qB|apply qC|apply qD|apply qE|apply qF)|(refine qL rfl (WF.of ?_) ?_; first|rfl|skip)|(simp (disch:=omega) only [go_sem, simprocAttr, qN, qO, qP, qQ, hd])|exact qM rfl rfl rfl|(refine qG rfl ?_)|(refine qH rfl ?_)|(refine qI rfl ?_ ?_<;>intro hc<;>(try simp only [go_sem] at hc))|(refine qJ ?_ ?_<;>intro hc<;>(try simp only [hc])<;>(try simp only [go_sem] at hc)))
  refine retS_of rfl ?_ rfl; simp only [oneD, St.op, get, Nat.reduceEqDiff, ↓reduceIte, Option.getD_some, bD, dI]
  exact congrArg (fun x : Int => dI x) hw2
end Go.Dw.Seat
end
section
set_option linter.unusedSimpArgs false
set_option maxRecDepth 100000
namespace Go.Dw.Seat.Pa
open Go Go.Dw Go.Proofs Go.IntWalk
theorem clA {f : FuncId} {b : Bool} {n : Nat} {es : List (List C)} {rest : List D} {r : D} (h : DCall Try.prog f (.c (.sl b n es) :: rest) [] r []) : DCall Try.prog f (.c (.cl b n es) :: rest) [] r [] :=
 ⟨h.1, h.2.1, fun N G w vs hN hd hh hvs => h.2.2 N G w vs hN hd hh (by obtain ⟨y, ys, rfl, h1, h2⟩ := hvs; exact ⟨y, ys, rfl, cl_sl h1, h2⟩)⟩
def dsB : PBs := ⟨120, 80, 0, 0, 400, 5000000⟩
def dsX (b c : Nat) : PBx := ⟨40, 30, 10, 100 * (b : Int), 100 * (b : Int) + 50, 5 * (c : Int), 5 * (c : Int) + 9⟩
theorem dsB_ok : dsB.ok := by
 refine ⟨?_, ?_, ?_, ?_, ?_, ?_⟩ <;> simp only [dsB] <;> omega
theorem dsX_ok {b c : Nat} (hb : b < 256) (hc : c < 256) : (dsX b c).ok := by
 refine ⟨?_, ?_, ?_, ?_, ?_⟩ <;> simp only [dsX] <;> omega
def dsT (a : Nat) : List (Int × Int) := [(0, 1000), (40, 900 - ((a % 100 : Nat) : Int)), (90, 600 - (a : Int))]
theorem dsT_ok {a : Nat} (ha : a < 256) : DKp (dsT a) := by
 have h1 : a % 100 < 100 := Nat.mod_lt _ (by decide)
 refine ⟨by simp [dsT], fun v h => ?_, fun v h => ?_, fun i u v hu hv => ?_⟩
 ·simp [dsT] at h; subst h; rfl
 ·simp only [dsT, List.mem_cons, List.not_mem_nil, or_false] at h
  rcases h with rfl | rfl | rfl <;> dsimp only <;> omega
 ·match i with
  | 0 => simp [dsT] at hu hv; subst hu; subst hv; dsimp only; omega
  | 1 => simp [dsT] at hu hv; subst hu; subst hv; dsimp only; omega
  | i + 2 => simp [dsT] at hv
theorem kp3 (m x y z p q : Int) : kpI m [(0, x), (p, y), (q, z)] 0 = if q ≤ m then z else if p ≤ m then y else if 0 ≤ m then x else 0 := by
 simp only [kpI, List.foldl_cons, List.foldl_nil]
theorem ds_anti {a : Nat} (ha : a < 256) {m m' : Int} (h : 0 ≤ m ∧ m ≤ m') : (0 ≤ kpI m' (dsT a) 0 ∧ kpI m' (dsT a) 0 ≤ kpI m (dsT a) 0) ∧ kpI m (dsT a) 0 ≤ 1000 := by
 have h1 : a % 100 < 100 := Nat.mod_lt _ (by decide)
 unfold dsT
 rw [kp3, kp3]
 (repeat' split) <;> omega
theorem lastI_one {d k : Int} (hd : 0 ≤ d) : lastI d [(0, k)] 0 = k := by
 simp only [lastI, List.foldl_cons, List.foldl_nil]
 rw [if_pos hd]
theorem damp_stands {b : Lod} (h : b.ok) {k k' d : Int} (hk : 0 ≤ k ∧ k ≤ k') (hk' : k' ≤ 1000) (hd : 0 ≤ d ∧ d ≤ 10000) (n : Nat) (hn : n ≤ 50) (hh : 1 ≤ (n : Int) → (n : Int) ≤ highI b [(0, k)] d) : (fallR (List.replicate n b) d [(0, k')]).2.2 = 7 := by
 have t' : TabOk [(0, k')] d := tab1_ok (by omega) hd
 have t : TabOk [(0, k)] d := tab1_ok (by omega) hd
 unfold fallR
 rw [(fall_iff (rep_ok h n) t').2 ?_]
 rw [lastI_one hd.1]
 cases n with
 | zero => exact failN_rep0 _ b
 | succ n =>
  have h1 := (high_iff h t n (by omega)).2 (by have := hh (by omega); omega)
  rw [lastI_one hd.1] at h1
  exact failN_mono hk.1 hk.2 (rep_ok h _) h1
theorem tm100 (m : Nat) : (m : Int).tmod 100 = ((m % 100 : Nat) : Int) := tmodN m 100
set_option maxHeartbeats 16000000 in
theorem tpDampStack (hcr : DCall Try.prog 13 [] [] (bD true) []) (x : TripY) (hxo : x.ok) (s : List Nat) (hs : s.length = 4 ∧ AllLt 256 s) (tr : List Nat) (htr : AllLt 256 tr) :
  DCall Try.prog 6 [dTrip false x, .agg ((eN s).map D.c), .c (.sl false 1 (rows eY tr))] [] (bD true) [] := by
 obtain ⟨a, b, c, e, rfl, ⟨ha, hb⟩, hc, he⟩ := by4 hs
 rw [byE]
 simp only [List.map_cons, List.map_nil]
 clear hs
 have hpal := paPallet
 have hdm := dtDamp
 obtain ⟨hr, hK, hl5, hlo⟩ := trip_ok x
 have hho : ∀ s ∈ tripL x, s.ok := fun s h => (hlo s h).1
 have c1 := dtTrip false x hxo
 have c2 := dtStays false (tripL x) (by omega)
 have c3 := dmAfter (tripU x) (tripD x) hr (tripK x) hK (tripL x) (by omega) hho
 have c4 := dtWet false (tripU x) (tripD x) hr (tripK x) hK (tripL x) hl5 hlo tr htr
 have hin := inI_b (lo := (tripK x).1) (hi := (tripK x).2) (y := byteI tr 0) (dt_byteI htr 0) hK.2.1
 have hwi := wetL_in hr htr (tripL x) hho (tripK x) (Seat.inI (tripK x).1 (tripK x).2 (byteI tr 0), 0) hK hin
 have hlk := lastK_ok hr (tripL x) hho (tripK x) hK
 have hal := aftS_last (tripU x) (tripD x) (tripL x) (tripK x)
 have hsl := Seat.aftS_len (tripU x) (tripD x) (tripL x) (tripK x)
 generalize (Seat.wetL (tripU x) (tripD x) tr (tripL x) (Seat.inI (tripK x).1 (tripK x).2 (byteI tr 0), 0)).1 = w at *
 generalize lastK (tripU x) (tripD x) (tripL x) (tripK x) = K at *
 generalize Seat.aftS (tripU x) (tripD x) (tripK x) (tripL x) = A at *
 generalize tripU x = u at *
 generalize tripD x = d at *
 generalize tripK x = k at *
 generalize tripL x = L at *
 have l0 : ((A.length : Int) != (L.length : Int)) = false := by rw [hsl]; simp
 obtain ⟨K1, K2⟩ := K
 obtain ⟨z1, z2, z3⟩ := hlk
 dsimp only at z1 z2 z3 hwi
 have hq : a % 100 < 100 := Nat.mod_lt _ (by decide)
 have hT := dsT_ok ha
 have c5 := dmKeep true (dsT a) hT (K1, K2) ⟨z1, z2, z3⟩
 have c6 := dmKeep true (dsT a) hT (w, w) ⟨by dsimp only; omega, by dsimp only; omega, by dsimp only; omega⟩
 have an1 := ds_anti ha (m := w) (m' := K2) (by omega)
 have an2 := ds_anti ha (m := K1) (m' := w) (by omega)
 dsimp only at c5 c6
 generalize kpI K2 (dsT a) 0 = kl at *
 generalize kpI K1 (dsT a) 0 = kh at *
 generalize kpI w (dsT a) 0 = kw at *
 have w1 := dtWithin w K1 K2
 rw [decide_eq_true hwi.1, decide_eq_true hwi.2] at w1
 have w2 := dtWithin kw kl kh
 rw [decide_eq_true an1.1.2, decide_eq_true an2.1.2] at w2
 have w3 : (kw != kw) = false := by simp
 have w4 : decide (kl < 0) = false := decide_eq_false (by omega)
 have w5 : decide (1000 < kh) = false := decide_eq_false (by omega)
 have p1 := paSpan w w
 have p2 := paSpan (100 * (b : Int)) (100 * (b : Int) + 50)
 have p3 := paSpan (5 * (c : Int)) (5 * (c : Int) + 9)
 have p4 := paSpan (b : Int) ((b : Int) + 1)
 have hp := dsB_ok
 have hx := dsX_ok hb hc
 have hlies : Lies dsB (dsX b c) [⟨0, 0, false⟩, ⟨40, 0, false⟩] := by
  refine ⟨fun q hq => ?_, ?_⟩
  ·simp only [List.mem_cons, List.not_mem_nil, or_false] at hq
   rcases hq with rfl | rfl <;> simp [dsB, dsX, rmX, rmY, sdX, sdY]
  ·simp [comI, ovI, dsX, sdX, sdY]
   decide
 have hrg := lay_rgt hp hx (l := [⟨0, 0, false⟩, ⟨40, 0, false⟩]) (by decide) hlies (fun q hq => by
  simp only [List.mem_cons, List.not_mem_nil, or_false] at hq
  rcases hq with rfl | rfl <;> decide)
 have t0 : TabOk [(0, kl)] (e : Int) := tab1_ok (by omega) (by omega)
 have hLy := plLayersX dsB (dsX b c) [⟨0, 0, false⟩, ⟨40, 0, false⟩] (by decide) [(0, kl)] (e : Int) t0
 rw [hrg, if_pos ⟨rfl, by simp⟩, if_neg (by simp), if_neg (by simp)] at hLy
 have hLy : DCall Try.prog 10 [bsD dsB, bxD (dsX b c), lyD true [⟨0, 0, false⟩, ⟨40, 0, false⟩], .c (.sl true 2 (rows eK [(0, kl)])), dI e] [] _ [] := DCall.lbl hLy rfl (.same (.same (.sl (.sl (.same .nil)))))
 have hB : lodF (dsX b c) = ⟨5 * (c : Int), 5 * (c : Int) + 9, (b : Int), (b : Int) + 1⟩ := by
  have e1 : newt (100 * (b : Int)) = (b : Int) := by unfold newt; omega
  have e2 : newt (100 * (b : Int) + 50) = (b : Int) + 1 := by unfold newt; omega
  simp only [lodF, dsX, e1, e2]
 have hlo2 := lodF_ok hx
 rw [hB] at hLy hlo2
 obtain ⟨B, hBB⟩ : ∃ B : Lod, B = ⟨5 * (c : Int), 5 * (c : Int) + 9, (b : Int), (b : Int) + 1⟩ := ⟨_, rfl⟩
 have hHi := crHigh ⟨5 * (c : Int), 5 * (c : Int) + 9, (b : Int), (b : Int) + 1⟩ hlo2 [(0, kl)] (e : Int) t0
 rw [← hBB] at hLy hlo2
 have hHi : DCall Try.prog 31 [.agg [dI (5 * (c : Int)), dI (5 * (c : Int) + 9), dI b, dI ((b : Int) + 1)], .c (.sl true 2 (rows eK [(0, kl)])), dI e] [] _ [] := DCall.lbl hHi rfl (.same (.sl (.same .nil)))
 rw [← hBB] at hHi
 have hgb := high_b B hlo2 [(0, kl)] (fun s hs => (t0.mem s hs).2) (e : Int)
 have hnb := lay_b hp hx (n := (([⟨0, 0, false⟩, ⟨40, 0, false⟩] : List PPl).length : Int)) (hg := highI B [(0, kl)] (e : Int)) (by decide) (by omega)
 have hle : 1 ≤ layI dsB (dsX b c) (([⟨0, 0, false⟩, ⟨40, 0, false⟩] : List PPl).length : Int) (highI B [(0, kl)] (e : Int)) → layI dsB (dsX b c) (([⟨0, 0, false⟩, ⟨40, 0, false⟩] : List PPl).length : Int) (highI B [(0, kl)] (e : Int)) ≤ highI B [(0, kl)] (e : Int) := fun h => ((lay_iff hp hx (by decide) h).1 (Int.le_refl _)).1.2
 have hds := fun n hn hh => damp_stands hlo2 (k := kl) (k' := kw) (d := (e : Int)) (by omega) (by omega) (by omega) n hn hh
 generalize highI B [(0, kl)] (e : Int) = hg at *
 generalize layI dsB (dsX b c) (([⟨0, 0, false⟩, ⟨40, 0, false⟩] : List PPl).length : Int) hg = MI at *
 obtain ⟨M, rfl⟩ : ∃ M : Nat, MI = M := ⟨MI.toNat, by omega⟩
 obtain ⟨N, rfl⟩ : ∃ N : Nat, hg = N := ⟨hg.toNat, by omega⟩
 have hMN : M ≤ N := by
  rcases Nat.eq_zero_or_pos M with h | h
  ·omega
  ·have := hle (by omega); omega
 have hF1 := hds N (by omega) (fun _ => Int.le_refl _)
 have hF2 := hds M (by omega) (fun _ => by omega)
 have g1 : decide ((N : Int) < 1) = false := decide_eq_false (by omega)
 have g2 : decide (50 < (N : Int)) = false := decide_eq_false (by omega)
 have g3 : decide ((N : Int) < (M : Int)) = false := decide_eq_false (by omega)
 have g4 : decide ((M : Int) < 0) = false := decide_eq_false (by omega)
 have tw : TabOk [(0, kw)] (e : Int) := tab1_ok (by omega) (by omega)
 have f1 := crFall (List.replicate N B) (rep_ok hlo2 N) (by rw [List.length_replicate]; omega) [(0, kw)] (e : Int) tw
 have f2 := crFall (List.replicate M B) (rep_ok hlo2 M) (by rw [List.length_replicate]; omega) [(0, kw)] (e : Int) tw
 generalize fallR (List.replicate N B) (e : Int) [(0, kw)] = F1 at *
 generalize fallR (List.replicate M B) (e : Int) [(0, kw)] = F2 at *
 obtain ⟨x1, x2, x3⟩ := F1
 obtain ⟨y1, y2, y3⟩ := F2
 obtain rfl : x3 = 7 := hF1
 obtain rfl : y3 = 7 := hF2
 dsimp only at f1 f2
 have f1 : DCall Try.prog 17 [.c (.sl false 4 (rows eLd (List.replicate N B))), .c (.sl true 2 (rows eK [(0, kw)])), dI e] [] _ [] := DCall.lbl f1 rfl (.same (.sl (.same .nil)))
 have f2 : DCall Try.prog 17 [.c (.sl false 4 (rows eLd (List.replicate M B))), .c (.sl true 2 (rows eK [(0, kw)])), dI e] [] _ [] := DCall.lbl f2 rfl (.same (.sl (.same .nil)))
 have f2 := clA f2
 have hld := paLoads false (List.replicate N B) (by rw [List.length_replicate]; omega)
 clear hds hle hlies hrg
 rcases hal with ⟨hA, hkk⟩ | ⟨A', hA⟩
 ·subst hA
  subst hkk
  have l0' : ((0 : Int) != (L.length : Int)) = false := by rw [← hsl]; rfl
  refine DCall.of Try.func6 sf6 hb6 (Nat.le_of_ble_eq_true rfl) (okRes_nil fun _ => rfl) ?_; simp only [s6, o6_0, o6_1, o6_2, o6_3, o6_4, o6_5, o6_6, o6_7, o6_8, o6_9, o6_10, idxs, Nat.reduceAdd]
  repeat' (first|(with_reducible first|apply qA|apply qB|apply qC|apply qD|apply qE|apply qF)|(refine qL rfl (WF.of ?_) ?_; first|rfl|skip)|(refine DW.ord rfl (WF.of (by first|rfl|simp (disch:=omega) only [go_sem, simprocAttr, qN, qO, qP, qQ, ud5, tm100, dsT, l0', w3, w4, w5, g1, g2, g3, g4, List.length_nil, rD, Bool.and_self])) ?_ ?_ ?_; rotate_left)|rfl|(with_reducible refine And.intro ?_ ?_)|(simp (disch:=omega) only [go_sem, simprocAttr, qN, qO, qP, qQ, ud5, tm100, dsT, l0', w3, w4, w5, g1, g2, g3, g4, List.length_nil, rD, Bool.and_self])|exact qM rfl rfl rfl|(refine qG rfl ?_)|(refine qK (c1) (by decide) ?_)|(refine qK (c2) (by decide) ?_)|(refine qK (c3) (by decide) ?_)|(refine qK (c4) (by decide) ?_)|(refine qK (c5) (by decide) ?_)|(refine qK (p1) (by decide) ?_)|(refine qK (c6) (by decide) ?_)|(refine qK (w1) (by decide) ?_)|(refine qK (w2) (by decide) ?_)|(refine qK (p2) (by decide) ?_)|(refine qK (p3) (by decide) ?_)|(refine qK (p4) (by decide) ?_)|(refine qK (hHi) (by decide) ?_)|(refine qK (hLy) (by decide) ?_)|(refine qH rfl ?_)|(refine qI rfl ?_ ?_<;>intro hc<;>(try simp only [go_sem] at hc))|(refine qJ ?_ ?_<;>intro hc<;>(try simp only [hc])<;>(try simp only [go_sem] at hc)))
  refine DW.loop (ι := { i : Nat // i ≤ N }) (fun i => ⟨274, [(26, dI i.1), (25, .own 219), (23, dI M), (21, dI N), (20, .box 20 0), (17, .box 17 0), (4, .box 4 0)], [(219, .row 4 (rowC (rows eLd (List.replicate i.1 B)))), (20, .box [dI B.sl, dI B.sh, dI B.wl, dI B.wh]), (17, .box [dI kw, dI kw]), (4, .box [dU a, dU b, dU c, dU e])]⟩) (fun i => N - i.1) ⟨0, Nat.zero_le _⟩ ?_ ?_
  ·refine Ent.to ?_ ?_ <;> simp (disch:=omega) only [qR,qS,qTw,qU,get,Nat.reduceEqDiff,↓reduceIte,qV,qW,qX,qY,qZ,and_self,dI,i64_in,and_true,true_and,rA,rB,rC,rD,List.replicate_zero,hBB]
   all_goals first | exact ⟨.refl _, .refl _, .refl _, .refl _⟩ | exact ⟨.refl _, .refl _, .refl _⟩ | exact ⟨.refl _, .refl _⟩ | exact .refl _
  rintro ⟨i, hi⟩
  dsimp only
  by_cases hik : i < N
  ·have hdi : decide ((i : Int) < (N : Int)) = true := decide_eq_true (by omega)
   have hrp : List.replicate (i + 1) B = List.replicate i B ++ [B] := List.replicate_succ'
   have hrl : (List.replicate i B).length ≤ 50 := by rw [List.length_replicate]; omega
   clear f1 f2 hld
   generalize List.replicate i B = S at *
   have hsc2 := rowC_snocLd S B
   rw [← hrp] at hsc2
   generalize hA1 : List.replicate (i + 1) B = S1 at *
   repeat' (first|(with_reducible first|apply qA|apply qB|apply qC|apply qD|apply qE|apply qF)|(refine qL rfl (WF.of ?_) ?_; first|rfl|skip)|(refine DW.ord rfl (WF.of (by first|rfl|simp (disch:=omega) only [go_sem, simprocAttr, qN, qO, qP, qQ, hdi, hsc2])) ?_ ?_ ?_; rotate_left)|rfl|(with_reducible refine And.intro ?_ ?_)|(simp (disch:=omega) only [go_sem, simprocAttr, qN, qO, qP, qQ, hdi, hsc2])|exact qM rfl rfl rfl|(refine qG rfl ?_)|(refine qH rfl ?_)|(refine qI rfl ?_ ?_<;>intro hc<;>(try simp only [go_sem] at hc))|(refine qJ ?_ ?_<;>intro hc<;>(try simp only [hc])<;>(try simp only [go_sem] at hc)))
   refine ⟨⟨i + 1, by omega⟩, ?_, Ent.to ?_ ?_⟩ <;> first | (show _ < _; (try simp only); omega) | (simp (disch:=omega) only [qR,qS,qTw,qU,get,Nat.reduceEqDiff,↓reduceIte,qV,qW,qX,qY,qZ,and_self,dI,i64_in,and_true,true_and,rA,rB,rC,rD, hsc2,hA1])
   all_goals first | exact ⟨.refl _, .refl _, .refl _, .refl _⟩ | exact ⟨.refl _, .refl _, .refl _⟩ | exact ⟨.refl _, .refl _⟩ | exact .refl _
  obtain rfl : i = N := by omega
  have hdi : decide ((i : Int) < (i : Int)) = false := decide_eq_false (by omega)
  have htk : (List.replicate i B).take M = List.replicate M B := by rw [List.take_replicate, Nat.min_eq_left hMN]
  have hln : (List.replicate i B).length = i := List.length_replicate
  generalize List.replicate i B = S at *
  generalize List.replicate M B = SM at *
  have hq : ((M : Int) ≤ (S.length : Int)) = True := eq_true (by omega)
  have hMM : ((M : Int) ≤ (M : Int)) = True := eq_true (Int.le_refl _)
  (refine DW.ent (Ent.rel 219 rfl) ?_; simp (disch:=omega) only [go_sem,simprocAttr,qN,qO,qP,qQ])
  repeat' (first|(with_reducible first|apply qA|apply qB|apply qC|apply qD|apply qE|apply qF)|(refine qL rfl (WF.of ?_) ?_; first|rfl|skip)|(refine DW.ord rfl (WF.of (by first|rfl|simp (disch:=omega) only [go_sem, simprocAttr, qN, qO, qP, qQ, hdi, ud5, htk, hq, hMM])) ?_ ?_ ?_; rotate_left)|rfl|(with_reducible refine And.intro ?_ ?_)|(simp (disch:=omega) only [go_sem, simprocAttr, qN, qO, qP, qQ, hdi, ud5, htk, hq, hMM])|exact qM rfl rfl rfl|(refine qG rfl ?_)|(refine qK (hld) (by decide) ?_)|(refine qK (f1) (by decide) ?_)|(refine qK (f2) (by decide) ?_)|(refine qK (hdm) (by decide) ?_)|(refine qK (hcr) (by decide) ?_)|(refine qK (hpal) (by decide) ?_)|(refine qH rfl ?_)|(refine qI rfl ?_ ?_<;>intro hc<;>(try simp only [go_sem] at hc))|(refine qJ ?_ ?_<;>intro hc<;>(try simp only [hc])<;>(try simp only [go_sem] at hc)))
 ·obtain ⟨n, hn⟩ : ∃ n, A'.length = n := ⟨_, rfl⟩
  have hAn : A.length = n + 1 := by rw [hA, List.length_append, hn]; rfl
  have hv : A[n]? = some (K1, K2) := by rw [hA, ← hn]; simp
  have dA : decide ((0 : Int) < (A.length : Int)) = true := decide_eq_true (by omega)
  have eA : (A.length : Int) - 1 = (n : Int) := by omega
  clear hA
  refine DCall.of Try.func6 sf6 hb6 (Nat.le_of_ble_eq_true rfl) (okRes_nil fun _ => rfl) ?_; simp only [s6, o6_0, o6_1, o6_2, o6_3, o6_4, o6_5, o6_6, o6_7, o6_8, o6_9, o6_10, idxs, Nat.reduceAdd]
  repeat' (first|(with_reducible first|apply qA|apply qB|apply qC|apply qD|apply qE|apply qF)|(refine qL rfl (WF.of ?_) ?_; first|rfl|skip)|(refine DW.ord rfl (WF.of (by first|rfl|simp (disch:=omega) only [go_sem, simprocAttr, qN, qO, qP, qQ, ud5, tm100, dsT, l0, w3, w4, w5, g1, g2, g3, g4, dA, eA, hv, Bool.and_self])) ?_ ?_ ?_; rotate_left)|rfl|(with_reducible refine And.intro ?_ ?_)|(simp (disch:=omega) only [go_sem, simprocAttr, qN, qO, qP, qQ, ud5, tm100, dsT, l0, w3, w4, w5, g1, g2, g3, g4, dA, eA, hv, Bool.and_self])|exact qM rfl rfl rfl|(refine qG rfl ?_)|(refine qK (c1) (by decide) ?_)|(refine qK (c2) (by decide) ?_)|(refine qK (c3) (by decide) ?_)|(refine qK (c4) (by decide) ?_)|(refine qK (c5) (by decide) ?_)|(refine qK (p1) (by decide) ?_)|(refine qK (c6) (by decide) ?_)|(refine qK (w1) (by decide) ?_)|(refine qK (w2) (by decide) ?_)|(refine qK (p2) (by decide) ?_)|(refine qK (p3) (by decide) ?_)|(refine qK (p4) (by decide) ?_)|(refine qK (hHi) (by decide) ?_)|(refine qK (hLy) (by decide) ?_)|(refine qH rfl ?_)|(refine qI rfl ?_ ?_<;>intro hc<;>(try simp only [go_sem] at hc))|(refine qJ ?_ ?_<;>intro hc<;>(try simp only [hc])<;>(try simp only [go_sem] at hc)))
  refine DW.loop (ι := { i : Nat // i ≤ N }) (fun i => ⟨274, [(26, dI i.1), (25, .own 219), (23, dI M), (21, dI N), (20, .box 20 0), (17, .box 17 0), (4, .box 4 0)], [(219, .row 4 (rowC (rows eLd (List.replicate i.1 B)))), (20, .box [dI B.sl, dI B.sh, dI B.wl, dI B.wh]), (17, .box [dI kw, dI kw]), (4, .box [dU a, dU b, dU c, dU e])]⟩) (fun i => N - i.1) ⟨0, Nat.zero_le _⟩ ?_ ?_
  ·refine Ent.to ?_ ?_ <;> simp (disch:=omega) only [qR,qS,qTw,qU,get,Nat.reduceEqDiff,↓reduceIte,qV,qW,qX,qY,qZ,and_self,dI,i64_in,and_true,true_and,rA,rB,rC,rD,List.replicate_zero,hBB]
   all_goals first | exact ⟨.refl _, .refl _, .refl _, .refl _⟩ | exact ⟨.refl _, .refl _, .refl _⟩ | exact ⟨.refl _, .refl _⟩ | exact .refl _
  rintro ⟨i, hi⟩
  dsimp only
  by_cases hik : i < N
  ·have hdi : decide ((i : Int) < (N : Int)) = true := decide_eq_true (by omega)
   have hrp : List.replicate (i + 1) B = List.replicate i B ++ [B] := List.replicate_succ'
   have hrl : (List.replicate i B).length ≤ 50 := by rw [List.length_replicate]; omega
   clear f1 f2 hld
   generalize List.replicate i B = S at *
   have hsc2 := rowC_snocLd S B
   rw [← hrp] at hsc2
   generalize hA1 : List.replicate (i + 1) B = S1 at *
   repeat' (first|(with_reducible first|apply qA|apply qB|apply qC|apply qD|apply qE|apply qF)|(refine qL rfl (WF.of ?_) ?_; first|rfl|skip)|(refine DW.ord rfl (WF.of (by first|rfl|simp (disch:=omega) only [go_sem, simprocAttr, qN, qO, qP, qQ, hdi, hsc2])) ?_ ?_ ?_; rotate_left)|rfl|(with_reducible refine And.intro ?_ ?_)|(simp (disch:=omega) only [go_sem, simprocAttr, qN, qO, qP, qQ, hdi, hsc2])|exact qM rfl rfl rfl|(refine qG rfl ?_)|(refine qH rfl ?_)|(refine qI rfl ?_ ?_<;>intro hc<;>(try simp only [go_sem] at hc))|(refine qJ ?_ ?_<;>intro hc<;>(try simp only [hc])<;>(try simp only [go_sem] at hc)))
   refine ⟨⟨i + 1, by omega⟩, ?_, Ent.to ?_ ?_⟩ <;> first | (show _ < _; (try simp only); omega) | (simp (disch:=omega) only [qR,qS,qTw,qU,get,Nat.reduceEqDiff,↓reduceIte,qV,qW,qX,qY,qZ,and_self,dI,i64_in,and_true,true_and,rA,rB,rC,rD, hsc2,hA1])
   all_goals first | exact ⟨.refl _, .refl _, .refl _, .refl _⟩ | exact ⟨.refl _, .refl _, .refl _⟩ | exact ⟨.refl _, .refl _⟩ | exact .refl _
  obtain rfl : i = N := by omega
  have hdi : decide ((i : Int) < (i : Int)) = false := decide_eq_false (by omega)
  have htk : (List.replicate i B).take M = List.replicate M B := by rw [List.take_replicate, Nat.min_eq_left hMN]
  have hln : (List.replicate i B).length = i := List.length_replicate
  generalize List.replicate i B = S at *
  generalize List.replicate M B = SM at *
  have hq : ((M : Int) ≤ (S.length : Int)) = True := eq_true (by omega)
  have hMM : ((M : Int) ≤ (M : Int)) = True := eq_true (Int.le_refl _)
  (refine DW.ent (Ent.rel 219 rfl) ?_; simp (disch:=omega) only [go_sem,simprocAttr,qN,qO,qP,qQ])
  repeat' (first|(with_reducible first|apply qA|apply qB|apply qC|apply qD|apply qE|apply qF)|(refine qL rfl (WF.of ?_) ?_; first|rfl|skip)|(refine DW.ord rfl (WF.of (by first|rfl|simp (disch:=omega) only [go_sem, simprocAttr, qN, qO, qP, qQ, hdi, ud5, htk, hq, hMM])) ?_ ?_ ?_; rotate_left)|rfl|(with_reducible refine And.intro ?_ ?_)|(simp (disch:=omega) only [go_sem, simprocAttr, qN, qO, qP, qQ, hdi, ud5, htk, hq, hMM])|exact qM rfl rfl rfl|(refine qG rfl ?_)|(refine qK (hld) (by decide) ?_)|(refine qK (f1) (by decide) ?_)|(refine qK (f2) (by decide) ?_)|(refine qK (hdm) (by decide) ?_)|(refine qK (hcr) (by decide) ?_)|(refine qK (hpal) (by decide) ?_)|(refine qH rfl ?_)|(refine qI rfl ?_ ?_<;>intro hc<;>(try simp only [go_sem] at hc))|(refine qJ ?_ ?_<;>intro hc<;>(try simp only [hc])<;>(try simp only [go_sem] at hc)))
theorem dampStackY (hcr : DCall Try.prog 13 [] [] (bD true) []) (x : TripY) (hx : x.ok) (s : List Nat) (hs : s.length = 4 ∧ AllLt 256 s) (tr : List Nat) (_ : tr.length ≤ maxLen) (htr : AllLt 256 tr) :
  DCall Try.prog 6 [dTrip false x, .agg ((eN s).map D.c), .c (.sl false 1 (rows e1 tr))] [] (bD true) [] := by
 have h := tpDampStack hcr x hx s hs tr htr
 have e : rows eY tr = rows e1 tr := rfl
 rwa [e] at h
end Go.Dw.Seat.Pa
end
section
set_option linter.unusedSimpArgs false
set_option maxRecDepth 100000
namespace Go.Dw.Seat
open Go Go.Dw Go.Proofs Go.IntWalk
theorem crW1 (n lo hi : Int) (p q : Bool) : DCall Try.prog 154 [dI n, .c (.ro p [.v (.int .i64 lo)] 0), .c (.ro q [.v (.int .i64 hi)] 0)] [] (bD (decide (n < lo) || decide (hi < n))) [] := by
 refine DCall.of Try.func154 sf154 hb154 (Nat.le_of_ble_eq_true rfl) (okRes_nil fun _ => rfl) ?_; simp only [s154, idxs, Nat.reduceAdd]
 repeat' (first|(with_reducible first|apply qA|apply qB|apply qC|apply qD|apply qE|apply qF)|(simp (disch:=omega) only [go_sem, simprocAttr, Blk.men, Blk.keysIn])|exact qM rfl rfl rfl|(refine qG rfl ?_)|(refine qH rfl ?_)|(refine qI rfl ?_ ?_<;>intro hc<;>(try simp only [go_sem] at hc))|(refine qJ ?_ ?_<;>intro hc<;>(try simp only [hc])<;>(try simp only [go_sem] at hc)))
theorem crWithin (b : Bool) (lo hi : Int) (l : List Int) (hl : l.length ≤ 2 ^ 36) : DCall Try.prog 94 [dI lo, dI hi, dIs b l] [] (bD (wthn lo hi l)) [] := by
 refine DCall.of Try.func94 sf94 hb94 (Nat.le_of_ble_eq_true rfl) (okRes_nil fun _ => rfl) ?_; simp only [s94, idxs, Nat.reduceAdd]
 repeat' (first|(with_reducible first|apply qA|apply qB|apply qC|apply qD|apply qE|apply qF)|(simp (disch:=omega) only [go_sem, simprocAttr, Blk.men, Blk.keysIn])|exact qM rfl rfl rfl|(refine qG rfl ?_)|(refine qH rfl ?_)|(refine qI rfl ?_ ?_<;>intro hc<;>(try simp only [go_sem] at hc))|(refine qJ ?_ ?_<;>intro hc<;>(try simp only [hc])<;>(try simp only [go_sem] at hc)))
 (refine call_c (c110 b l hl 154 [] [.ro true [.v (.int .i64 lo)] 0, .ro true [.v (.int .i64 hi)] 0] (fun n => decide (n < lo) || decide (hi < n)) (fun x _ => crW1 x lo hi true true)) (by decide) ?_; simp (disch:=omega) only [go_sem,simprocAttr,Blk.men,Blk.keysIn])
 repeat' (first|(with_reducible first|apply qA|apply qB|apply qC|apply qD|apply qE|apply qF)|(simp (disch:=omega) only [go_sem, simprocAttr, Blk.men, Blk.keysIn])|exact qM rfl rfl rfl|(refine qG rfl ?_)|(refine qH rfl ?_)|(refine qI rfl ?_ ?_<;>intro hc<;>(try simp only [go_sem] at hc))|(refine qJ ?_ ?_<;>intro hc<;>(try simp only [hc])<;>(try simp only [go_sem] at hc)))
structure CR where
 tests : Int
 mean : Int
 low : Int
 bad : Int
abbrev dCR (r : CR) : D := .agg [dI r.tests, dI r.mean, dI r.low, dI r.bad]
structure CLot where
 off : Int
 made : Int
 ws : Int
 wb : Int
 bs : Int
 bb : Int
abbrev dLot (r : CR) (l : CLot) : D := .agg [dI r.tests, dI r.mean, dI r.low, dI r.bad, dI l.off, dI l.made, dI l.ws, dI l.wb, dI l.bs, dI l.bb]
attribute [go_sem] dCR dLot
theorem wthn_yes {lo hi : Int} {l : List Int} (h : ∀ v ∈ l, lo ≤ v ∧ v ≤ hi) : wthn lo hi l = true := by
 simp only [wthn, Bool.not_eq_true', List.any_eq_false, Bool.or_eq_true, decide_eq_true_eq]
 intro v hv
 have := h v hv
 omega
def lowT (off x : Int) : Int := if 0 < x - off then x - off else 0
def highT (off x : Int) : Int := if x + off < 100000 then x + off else 100000
def CLot.after (r : CR) (l : CLot) (x : Int) : CLot :=
 ⟨l.off, l.made + 1, l.ws + lowT l.off x, if lowT l.off x < r.low then l.wb + 1 else l.wb, l.bs + highT l.off x, if highT l.off x < r.low then l.bb + 1 else l.bb⟩
structure CLot.ok (l : CLot) : Prop where
 off : 0 ≤ l.off ∧ l.off ≤ 1000
 made : 0 ≤ l.made ∧ l.made ≤ 100
 ws : 0 ≤ l.ws ∧ l.ws ≤ 100000 * l.made
 wb : 0 ≤ l.wb ∧ l.wb ≤ l.made
 bs : 0 ≤ l.bs ∧ l.bs ≤ 100000 * l.made
 bb : 0 ≤ l.bb ∧ l.bb ≤ l.made
theorem lowT_in {off x : Int} (h1 : 0 ≤ off) (h2 : 0 ≤ x ∧ x ≤ 100000) : 0 ≤ lowT off x ∧ lowT off x ≤ 100000 := by
 unfold lowT; split <;> omega
theorem highT_in {off x : Int} (h1 : 0 ≤ off) (h2 : 0 ≤ x ∧ x ≤ 100000) : 0 ≤ highT off x ∧ highT off x ≤ 100000 := by
 unfold highT; split <;> omega
theorem CLot.ok_after {r : CR} {l : CLot} {x : Int} (h : l.ok) (hm : l.made < 100) (hx : 0 ≤ x ∧ x ≤ 100000) : (l.after r x).ok := by
 have h1 := lowT_in h.off.1 hx
 have h2 := highT_in h.off.1 hx
 have h3 := h.made
 have h4 := h.ws
 have h5 := h.wb
 have h6 := h.bs
 have h7 := h.bb
 refine ⟨h.off, ?_, ?_, ?_, ?_, ?_⟩ <;> simp only [CLot.after] <;> (try split) <;> omega
theorem fold_ok (r : CR) : ∀ (rs : List Int) (l : CLot), l.ok → l.made + rs.length ≤ 100 → (∀ x ∈ rs, 0 ≤ x ∧ x ≤ 100000) → (rs.foldl (CLot.after r) l).ok
 | [], l, h, _, _ => h
 | x :: rs, l, h, h1, h2 => by
  rw [List.foldl_cons]
  rw [List.length_cons] at h1
  refine fold_ok r rs _ (CLot.ok_after h (by omega) (h2 x (by simp))) ?_ (fun y hy => h2 y (by simp [hy]))
  simp only [CLot.after]; omega
end Go.Dw.Seat
end
section
set_option linter.unusedSimpArgs false
set_option maxRecDepth 100000
namespace Go.Dw.Seat
open Go Go.Dw Go.Proofs Go.IntWalk
theorem mulB0 {a b A B : Int} (ha : 0 ≤ a ∧ a ≤ A) (hb : 0 ≤ b ∧ b ≤ B) : 0 ≤ a * b ∧ a * b ≤ A * B := by
 refine ⟨Int.mul_nonneg ha.1 hb.1, ?_⟩
 exact Int.le_trans (Int.mul_le_mul_of_nonneg_right ha.2 hb.1) (Int.mul_le_mul_of_nonneg_left hb.2 (Int.le_trans ha.1 ha.2))
end Go.Dw.Seat
end
section
set_option linter.unusedSimpArgs false
set_option maxRecDepth 100000
namespace Go.Dw.Seat
open Go Go.Dw Go.Proofs Go.IntWalk
theorem crIn (b : Bool) (lo hi : Int) (l : List Int) (hl : l.length ≤ 2 ^ 36) (h : ∀ v ∈ l, lo ≤ v ∧ v ≤ hi) : DCall Try.prog 94 [dI lo, dI hi, dIs b l] [] (bD true) [] := by
 have := crWithin b lo hi l hl
 rwa [wthn_yes h] at this
theorem crSpan (lo hi least most : Int) (h : least ≤ lo ∧ lo ≤ hi ∧ hi ≤ most) : DCall Try.prog 93 [.agg [dI lo, dI hi], dI least, dI most] [] (bD true) [] := by
 have h1 := crIn true least most [lo, hi] (by simp) (by simp; omega)
 have hd : decide (lo ≤ hi) = true := decide_eq_true h.2.1
 refine DCall.of Try.func93 sf93 hb93 (Nat.le_of_ble_eq_true rfl) (okRes_nil fun _ => rfl) ?_; simp only [s93, idxs, Nat.reduceAdd]
 repeat' (first|(with_reducible first|apply qA|apply qB|apply qC|apply qD|apply qE|apply qF)|(simp (disch:=omega) only [go_sem, simprocAttr, Blk.men, Blk.keysIn, hd])|exact qM rfl rfl rfl|(refine qG rfl ?_)|(refine qK (h1) (by decide) ?_)|(refine qH rfl ?_)|(refine qI rfl ?_ ?_<;>intro hc<;>(try simp only [go_sem] at hc))|(refine qJ ?_ ?_<;>intro hc<;>(try simp only [hc])<;>(try simp only [go_sem] at hc)))
theorem closeDs_mapc' {σ : St} {mv : Option Nat} {caps : List C} : closeDs σ mv (caps.map D.c) = some (caps.map D.c) := by
 have := @closeDs_fn _ σ mv [] caps []
 simpa [closeDs] using this
theorem ud3 : Try.prog.underlying 3 = some (.int .i64) := by kernel_rfl
theorem ud226 : Try.prog.underlying 294 = some (.int .u64) := by kernel_rfl
theorem srSearch (n r : Int) (h : 0 ≤ r ∧ r ≤ n ∧ n ≤ 1099511627776) (g : FuncId) (caps : List C) (hp : ∀ k, 0 ≤ k → k < n → DCall Try.prog g (dI k :: caps.map D.c) [] (bD (decide (r ≤ k))) []) : DCall Try.prog 155 [dI n, .c (.fn (.func g) [] caps)] [] (dI r) [] := by
 refine DCall.of Try.func155 sf155 hb155 (Nat.le_of_ble_eq_true rfl) (okRes_nil fun _ => rfl) ?_; simp only [s155, idxs, Nat.reduceAdd]
 repeat' (first|(with_reducible first|apply qA|apply qB|apply qC|apply qD|apply qE|apply qF)|(simp (disch:=omega) only [go_sem, simprocAttr, Blk.men, Blk.keysIn])|exact qM rfl rfl rfl|(refine qG rfl ?_)|(refine qH rfl ?_)|(refine qI rfl ?_ ?_<;>intro hc<;>(try simp only [go_sem] at hc))|(refine qJ ?_ ?_<;>intro hc<;>(try simp only [hc])<;>(try simp only [go_sem] at hc)))
 refine DW.loop (ι := { s : Int × Int // 0 ≤ s.1 ∧ s.1 ≤ r ∧ r ≤ s.2 ∧ s.2 ≤ n }) (fun s => ⟨26, [(6, dI s.1.2), (5, dI s.1.1), (1, .c (.fn (.func g) [] caps))], []⟩) (fun s => (s.1.2 - s.1.1).toNat) ⟨(0, n), Int.le_refl _, h.1, h.2.1, Int.le_refl _⟩ ?_ ?_
 ·refine Ent.to ?_ ?_ <;> simp (disch:=omega) only [qR,qS,qTw,qU,get,Nat.reduceEqDiff,↓reduceIte,qV,qW,qX,qY,qZ,and_self,dI,i64_in,and_true,true_and,rA,rB,rC,rD]
 rintro ⟨⟨i, j⟩, i1, i2, i3, i4⟩
 dsimp only at i1 i2 i3 i4 ⊢
 rcases Int.lt_or_le i j with hij | hij
 ·have hd : decide (i < j) = true := decide_eq_true hij
  have hcall := hp ((i + j) / 2) (by omega) (by omega)
  have hw1 : IntKind.u64.wrap (i + j) = i + j := IntWalk.u64_in _ (by omega)
  have hsh : shrI IntKind.u64 (i + j) 1 = (i + j) / 2 := by
   have : shrI IntKind.u64 (i + j) 1 = (i + j).fdiv 2 := rfl
   rw [this, Int.fdiv_eq_ediv_of_nonneg _ (by decide)]
  repeat' (first|(with_reducible first|apply qA|apply qB|apply qC|apply qD|apply qE|apply qF)|(simp (disch:=omega) only [go_sem, simprocAttr, Blk.men, Blk.keysIn, hd, closeDs_mapc', ud3, ud226, hw1, hsh])|exact qM rfl rfl rfl|(refine qG rfl ?_)|(refine qH rfl ?_)|(refine qI rfl ?_ ?_<;>intro hc<;>(try simp only [go_sem] at hc))|(refine qJ ?_ ?_<;>intro hc<;>(try simp only [hc])<;>(try simp only [go_sem] at hc)))
  refine call_c hcall (by decide) ?_
  cases hr : decide (r ≤ (i + j) / 2) with
  | true =>
   have hr' : r ≤ (i + j) / 2 := of_decide_eq_true hr
   simp (disch:=omega) only [go_sem,simprocAttr,Blk.men,Blk.keysIn]
   repeat' (first|(with_reducible first|apply qA|apply qB|apply qC|apply qD|apply qE|apply qF)|(simp (disch:=omega) only [go_sem, simprocAttr, Blk.men, Blk.keysIn])|exact qM rfl rfl rfl|(refine qG rfl ?_)|(refine qH rfl ?_)|(refine qI rfl ?_ ?_<;>intro hc<;>(try simp only [go_sem] at hc))|(refine qJ ?_ ?_<;>intro hc<;>(try simp only [hc])<;>(try simp only [go_sem] at hc)))
   refine ⟨⟨(i, (i + j) / 2), i1, i2, hr', by dsimp only; omega⟩, ?_, Ent.to ?_ ?_⟩ <;> first | (show _ < _; (try simp only); omega) | (simp (disch:=omega) only [qR,qS,qTw,qU,get,Nat.reduceEqDiff,↓reduceIte,qV,qW,qX,qY,qZ,and_self,dI,i64_in,and_true,true_and,rA,rB,rC,rD])
  | false =>
   have hr' : ¬ r ≤ (i + j) / 2 := of_decide_eq_false hr
   simp (disch:=omega) only [go_sem,simprocAttr,Blk.men,Blk.keysIn]
   repeat' (first|(with_reducible first|apply qA|apply qB|apply qC|apply qD|apply qE|apply qF)|(simp (disch:=omega) only [go_sem, simprocAttr, Blk.men, Blk.keysIn])|exact qM rfl rfl rfl|(refine qG rfl ?_)|(refine qH rfl ?_)|(refine qI rfl ?_ ?_<;>intro hc<;>(try simp only [go_sem] at hc))|(refine qJ ?_ ?_<;>intro hc<;>(try simp only [hc])<;>(try simp only [go_sem] at hc)))
   refine ⟨⟨((i + j) / 2 + 1, j), by dsimp only; omega, by dsimp only; omega, i3, i4⟩, ?_, Ent.to ?_ ?_⟩ <;> first | (show _ < _; (try simp only); omega) | (simp (disch:=omega) only [qR,qS,qTw,qU,get,Nat.reduceEqDiff,↓reduceIte,qV,qW,qX,qY,qZ,and_self,dI,i64_in,and_true,true_and,rA,rB,rC,rD])
 ·obtain rfl : i = r := by omega
  have hd : decide (i < j) = false := by rw [decide_eq_false_iff_not]; omega
  repeat' (first|(with_reducible first|apply qA|apply qB|apply qC|apply qD|apply qE|apply qF)|(simp (disch:=omega) only [go_sem, simprocAttr, Blk.men, Blk.keysIn, hd])|exact qM rfl rfl rfl|(refine qG rfl ?_)|(refine qH rfl ?_)|(refine qI rfl ?_ ?_<;>intro hc<;>(try simp only [go_sem] at hc))|(refine qJ ?_ ?_<;>intro hc<;>(try simp only [hc])<;>(try simp only [go_sem] at hc)))
structure IsRoot (n r : Int) : Prop where
 pos : 0 ≤ r
 low : r * r ≤ n
 high : n < (r + 1) * (r + 1)
theorem sq_mono {a b : Int} (ha : 0 ≤ a) (h : a ≤ b) : a * a ≤ b * b := Int.mul_le_mul h h ha (by omega)
theorem IsRoot.le {n r k : Int} (h : IsRoot n r) (hk : 0 ≤ k) : (n < (k + 1) * (k + 1)) ↔ r ≤ k := by
 constructor
 ·intro h1
  rcases Int.lt_or_le k r with h2 | h2
  ·have := sq_mono (a := k + 1) (b := r) (by omega) (by omega)
   have := h.low
   omega
  ·exact h2
 ·intro h1
  have := sq_mono (a := r + 1) (b := k + 1) (by have := h.pos; omega) (by omega)
  have := h.high
  omega
theorem IsRoot.self {n r : Int} (h : IsRoot n r) : r ≤ n := by
 have h1 := h.low
 have h2 := h.pos
 rcases Int.lt_or_le r 1 with h3 | h3
 ·have : r = 0 := by omega
  subst this; omega
 ·have := Int.mul_le_mul_of_nonneg_left h3 h2
  omega
theorem IsRoot.mono {n n' r r' : Int} (h : IsRoot n r) (h' : IsRoot n' r') (hn : n ≤ n') : r ≤ r' :=
 (h.le h'.pos).1 (by have := h'.high; omega)
theorem IsRoot.lt {n r : Int} (h : IsRoot n r) (hn : n ≤ 200000000) : r ≤ 14142 := by
 rcases Int.lt_or_le 14142 r with h1 | h1
 ·have := sq_mono (a := 14143) (b := r) (by decide) (by omega)
  have := h.low
  omega
 ·exact h1
theorem crRoot1 (b : Bool) (n k : Int) (hk : 0 ≤ k ∧ k ≤ 1000000000) : DCall Try.prog 156 [dI k, .c (.ro b [.v (.int .i64 n)] 0)] [] (bD (decide (n < (k + 1) * (k + 1)))) [] := by
 have hm := mulB0 (a := k + 1) (b := k + 1) (A := 1000000001) (B := 1000000001) (by omega) (by omega)
 refine DCall.of Try.func156 sf156 hb156 (Nat.le_of_ble_eq_true rfl) (okRes_nil fun _ => rfl) ?_; simp only [s156, idxs, Nat.reduceAdd]
 repeat' (first|(with_reducible first|apply qA|apply qB|apply qC|apply qD|apply qE|apply qF)|(simp (disch:=omega) only [go_sem, simprocAttr, Blk.men, Blk.keysIn])|exact qM rfl rfl rfl|(refine qG rfl ?_)|(refine qH rfl ?_)|(refine qI rfl ?_ ?_<;>intro hc<;>(try simp only [go_sem] at hc))|(refine qJ ?_ ?_<;>intro hc<;>(try simp only [hc])<;>(try simp only [go_sem] at hc)))
theorem crRoot (n r : Int) (h : IsRoot n r) (hn : n ≤ 200000000) : DCall Try.prog 96 [dI n] [] (dI r) [] := by
 have hs := h.self
 have hp := h.pos
 have h1 := srSearch (n + 1) r ⟨h.pos, by omega, by omega⟩ 156 [.ro true [.v (.int .i64 n)] 0] (fun k hk hkn => by
  have := crRoot1 true n k ⟨hk, by omega⟩
  rwa [decide_eq_decide.2 (h.le hk)] at this)
 refine DCall.of Try.func96 sf96 hb96 (Nat.le_of_ble_eq_true rfl) (okRes_nil fun _ => rfl) ?_; simp only [s96, idxs, Nat.reduceAdd]
 repeat' (first|(with_reducible first|apply qA|apply qB|apply qC|apply qD|apply qE|apply qF)|(simp (disch:=omega) only [go_sem, simprocAttr, Blk.men, Blk.keysIn])|exact qM rfl rfl rfl|(refine qG rfl ?_)|(refine qK (h1) (by decide) ?_)|(refine qH rfl ?_)|(refine qI rfl ?_ ?_<;>intro hc<;>(try simp only [go_sem] at hc))|(refine qJ ?_ ?_<;>intro hc<;>(try simp only [hc])<;>(try simp only [go_sem] at hc)))
theorem crStrong1 (b : Bool) (x0 x1 x2 x3 around rule e c r : Int) (he : 0 ≤ e ∧ e ≤ 100000) (hc : 1 ≤ c ∧ c ≤ 10000) (ha : 1 ≤ around ∧ around ≤ 20000) (hu : 1 ≤ rule ∧ rule ≤ 1000) (hr : IsRoot (c * around) r) :
  DCall Try.prog 95 [dI e, dI c, .c (.ro b [.v (.int .i64 x0), .v (.int .i64 x1), .v (.int .i64 x2), .v (.int .i64 x3), .v (.int .i64 around), .v (.int .i64 rule)] 0)] [] (dI ((e * r * rule).tdiv 100000)) [] := by
 have m1 := mulB0 (a := c) (b := around) (A := 10000) (B := 20000) (by omega) (by omega)
 have hr1 := hr.lt (by omega)
 have m2 := mulB0 (a := e) (b := r) (A := 100000) (B := 14142) he ⟨hr.pos, hr1⟩
 have m3 := mulB0 (a := e * r) (b := rule) (A := 1414200000) (B := 1000) (by omega) (by omega)
 have hroot := crRoot (c * around) r hr (by omega)
 have hq : 0 ≤ (e * r * rule).tdiv 100000 ∧ (e * r * rule).tdiv 100000 ≤ 1414200000000 := by
  rw [Int.tdiv_eq_ediv_of_nonneg (by omega)]; omega
 refine DCall.of Try.func95 sf95 hb95 (Nat.le_of_ble_eq_true rfl) (okRes_nil fun _ => rfl) ?_; simp only [s95, idxs, Nat.reduceAdd]
 repeat' (first|(with_reducible first|apply qA|apply qB|apply qC|apply qD|apply qE|apply qF)|(refine qL rfl (WF.of ?_) ?_; first|rfl|skip)|(simp (disch:=omega) only [go_sem, simprocAttr, Blk.men, Blk.keysIn])|exact qM rfl rfl rfl|(refine qG rfl ?_)|(refine qK (hroot) (by decide) ?_)|(refine qH rfl ?_)|(refine qI rfl ?_ ?_<;>intro hc<;>(try simp only [go_sem] at hc))|(refine qJ ?_ ?_<;>intro hc<;>(try simp only [hc])<;>(try simp only [go_sem] at hc)))
structure CBox where
 el : Int
 eh : Int
 cl : Int
 ch : Int
 around : Int
 rule : Int
structure CBox.ok (b : CBox) : Prop where
 edge : 0 ≤ b.el ∧ b.el ≤ b.eh ∧ b.eh ≤ 100000
 cal : 1 ≤ b.cl ∧ b.cl ≤ b.ch ∧ b.ch ≤ 10000
 around : 1 ≤ b.around ∧ b.around ≤ 20000
 rule : 1 ≤ b.rule ∧ b.rule ≤ 1000
abbrev dCBox (b : CBox) : D := .agg [dI b.el, dI b.eh, dI b.cl, dI b.ch, dI b.around, dI b.rule]
attribute [go_sem] dCBox
theorem crStrength (b : CBox) (h : b.ok) (rl rh : Int) (hl : IsRoot (b.cl * b.around) rl) (hh : IsRoot (b.ch * b.around) rh) :
  DCall Try.prog 47 [dCBox b] [] (.tup [.agg [dI ((b.el * rl * b.rule).tdiv 100000), dI ((b.eh * rh * b.rule).tdiv 100000)], dI 0]) [] := by
 have h1 := crSpan b.el b.eh 0 100000 h.edge
 have h2 := crSpan b.cl b.ch 1 10000 h.cal
 have h3 := crIn true 1 20000 [b.around] (by simp) (by simpa using h.around)
 have h4 := crIn true 1 1000 [b.rule] (by simp) (by simpa using h.rule)
 have e := h.edge
 have c := h.cal
 have h5 := crStrong1 true b.el b.eh b.cl b.ch b.around b.rule b.el b.cl rl (by omega) (by omega) h.around h.rule hl
 have h6 := crStrong1 true b.el b.eh b.cl b.ch b.around b.rule b.eh b.ch rh (by omega) (by omega) h.around h.rule hh
 refine DCall.of Try.func47 sf47 hb47 (Nat.le_of_ble_eq_true rfl) (okRes_nil fun _ => rfl) ?_; simp only [s47, idxs, Nat.reduceAdd]
 repeat' (first|(with_reducible first|apply qA|apply qB|apply qC|apply qD|apply qE|apply qF)|(refine qL rfl (WF.of ?_) ?_; first|rfl|skip)|(simp (disch:=omega) only [go_sem, simprocAttr, Blk.men, Blk.keysIn])|exact qM rfl rfl rfl|(refine qG rfl ?_)|(refine qK (h1) (by decide) ?_)|(refine qK (h2) (by decide) ?_)|(refine qK (h3) (by decide) ?_)|(refine qK (h4) (by decide) ?_)|(refine qK (h5) (by decide) ?_)|(refine qK (h6) (by decide) ?_)|(refine qH rfl ?_)|(refine qI rfl ?_ ?_<;>intro hc<;>(try simp only [go_sem] at hc))|(refine qJ ?_ ?_<;>intro hc<;>(try simp only [hc])<;>(try simp only [go_sem] at hc)))
end Go.Dw.Seat
end
section
set_option linter.unusedSimpArgs false
set_option maxRecDepth 100000
namespace Go.Dw.Seat
open Go Go.Dw Go.Proofs Go.IntWalk
structure Pap where
 kind : Int
 weight : Int
 tl : Int
 th : Int
 ml : Int
 mh : Int
 price : Int
 strong : Int
structure Flu where
 pitch : Int
 draw : Int
 hl : Int
 hh : Int
def eP (p : Pap) : List C := [.v (.int .i64 p.kind), .v (.int .i64 p.weight), .v (.int .i64 p.tl), .v (.int .i64 p.th), .v (.int .i64 p.ml), .v (.int .i64 p.mh), .v (.int .i64 p.price), .v (.int .i64 p.strong)]
def eF (f : Flu) : List C := [.v (.int .i64 f.pitch), .v (.int .i64 f.draw), .v (.int .i64 f.hl), .v (.int .i64 f.hh)]
theorem eP_nb (v : Pap) : C.nbs (eP v) = true := rfl
theorem eF_nb (v : Flu) : C.nbs (eF v) = true := rfl
structure Pap.ok (p : Pap) : Prop where
 kind : p.kind = 1 ∨ p.kind = 2
 weight : 1 ≤ p.weight ∧ p.weight ≤ 1000
 thick : 1 ≤ p.tl ∧ p.tl ≤ p.th ∧ p.th ≤ 1000
 moist : 0 ≤ p.ml ∧ p.ml ≤ p.mh ∧ p.mh ≤ 200
 price : 0 ≤ p.price ∧ p.price ≤ 1000000
 strong : 0 ≤ p.strong ∧ p.strong ≤ 10000
structure Flu.ok (f : Flu) : Prop where
 pitch : 1000 ≤ f.pitch ∧ f.pitch ≤ 10000
 draw : f.pitch ≤ f.draw ∧ f.draw ≤ 2 * f.pitch
 high : 1 ≤ f.hl ∧ f.hl ≤ f.hh ∧ f.hh ≤ 10000
structure Sto where
 papers : List Pap
 flutes : List Flu
structure Sto.ok (s : Sto) : Prop where
 np : 1 ≤ s.papers.length ∧ s.papers.length ≤ 8
 nf : 1 ≤ s.flutes.length ∧ s.flutes.length ≤ 4
 papers : ∀ p ∈ s.papers, p.ok
 flutes : ∀ f ∈ s.flutes, f.ok
abbrev dSto (s : Sto) : D := .agg [.c (.sl false 8 (rows eP s.papers)), .c (.sl false 4 (rows eF s.flutes))]
attribute [go_sem] eP eF dSto
structure Mak where
 papers : List Nat
 flutes : List Nat
abbrev dMak (m : Mak) : D := .agg [.c (.sl false 1 (rows eI (nL m.papers))), .c (.sl false 1 (rows eI (nL m.flutes)))]
attribute [go_sem] dMak
structure Mak.ok (m : Mak) (s : Sto) : Prop where
 nf : 1 ≤ m.flutes.length ∧ m.flutes.length ≤ 2
 np : m.papers.length = 2 * m.flutes.length + 1
 papers : ∀ n ∈ m.papers, n < s.papers.length
 flutes : ∀ n ∈ m.flutes, n < s.flutes.length
 kind : ∀ (i n : Nat) (p : Pap), m.papers[i]? = some n → s.papers[n]? = some p → p.kind = if i % 2 = 0 then 1 else 2
end Go.Dw.Seat
end
section
set_option linter.unusedSimpArgs false
set_option maxRecDepth 100000
namespace Go.Dw.Seat
open Go Go.Dw Go.Proofs Go.IntWalk
abbrev dShe (s : Sto) (m : Mak) (w : Int) : D := .agg [.c (.sl false 1 (rows eI (nL m.papers))), .c (.sl false 1 (rows eI (nL m.flutes))), .c (.sl false 8 (rows eP s.papers)), .c (.sl false 4 (rows eF s.flutes)), dI w]
attribute [go_sem] dShe
def enLay (e : Nat × Int) : List D := [dI e.1, dI e.2]
attribute [go_sem] enLay
end Go.Dw.Seat
end
section
set_option linter.unusedSimpArgs false
set_option maxRecDepth 100000
namespace Go.Dw.Seat
open Go Go.Dw Go.Proofs Go.IntWalk
theorem tdiv_b {a b : Int} {A : Int} (ha : 0 ≤ a ∧ a ≤ A) (hb : 0 ≤ b) : 0 ≤ a.tdiv b ∧ a.tdiv b ≤ A := by
 rw [Int.tdiv_eq_ediv_of_nonneg ha.1]
 exact ⟨Int.ediv_nonneg ha.1 hb, Int.le_trans (Int.ediv_le_self _ ha.1) ha.2⟩
end Go.Dw.Seat
end
section
set_option linter.unusedSimpArgs false
set_option maxRecDepth 100000
namespace Go.Dw.Seat
open Go Go.Dw Go.Proofs Go.IntWalk
structure Lod where
 sl : Int
 sh : Int
 wl : Int
 wh : Int
def eLd (b : Lod) : List C := [.v (.int .i64 b.sl), .v (.int .i64 b.sh), .v (.int .i64 b.wl), .v (.int .i64 b.wh)]
theorem eLd_nb (v : Lod) : C.nbs (eLd v) = true := rfl
def eK (t : Int × Int) : List C := [.v (.int .i64 t.1), .v (.int .i64 t.2)]
theorem eK_nb (v : Int × Int) : C.nbs (eK v) = true := rfl
attribute [go_sem] eLd eK
structure Lod.ok (b : Lod) : Prop where
 strong : 0 ≤ b.sl ∧ b.sl ≤ b.sh ∧ b.sh ≤ 20000000
 weight : 0 ≤ b.wl ∧ b.wl ≤ b.wh ∧ b.wh ≤ 100000
theorem crBox1 (b : Lod) (h : b.ok) : DCall Try.prog 97 [.agg ((eLd b).map D.c)] [] (bD false) [] := by
 have h1 := crSpan b.sl b.sh 0 20000000 h.strong
 have h2 := crSpan b.wl b.wh 0 100000 h.weight
 refine DCall.of Try.func97 sf97 hb97 (Nat.le_of_ble_eq_true rfl) (okRes_nil fun _ => rfl) ?_; simp only [s97, idxs, Nat.reduceAdd]
 repeat' (first|(with_reducible first|apply qA|apply qB|apply qC|apply qD|apply qE|apply qF)|(simp (disch:=omega) only [go_sem, simprocAttr, Blk.men, Blk.keysIn, rF, rG])|exact qM rfl rfl rfl|(refine qG rfl ?_)|(refine qK (h1) (by decide) ?_)|(refine qK (h2) (by decide) ?_)|(refine qH rfl ?_)|(refine qI rfl ?_ ?_<;>intro hc<;>(try simp only [go_sem] at hc))|(refine qJ ?_ ?_<;>intro hc<;>(try simp only [hc])<;>(try simp only [go_sem] at hc)))
theorem crLIdx (b : Bool) (l : List Lod) (hl : l.length ≤ 2 ^ 36) (g : FuncId) (hp : ∀ x ∈ l, DCall Try.prog g [.agg ((eLd x).map D.c)] [] (bD false) []) : DCall Try.prog 157 [.c (.sl b 4 (rows eLd l)), .c (.fn (.func g) [] [])] [] (dI (-1)) [] := by
 refine DCall.of Try.func157 sf157 hb157 (Nat.le_of_ble_eq_true rfl) (okRes_nil fun _ => rfl) ?_; simp only [s157, idxs, Nat.reduceAdd]
 repeat' (first|(with_reducible first|apply qA|apply qB|apply qC|apply qD|apply qE|apply qF)|(simp (disch:=omega) only [go_sem, simprocAttr, Blk.men, Blk.keysIn])|exact qM rfl rfl rfl|(refine qG rfl ?_)|(refine qH rfl ?_)|(refine qI rfl ?_ ?_<;>intro hc<;>(try simp only [go_sem] at hc))|(refine qJ ?_ ?_<;>intro hc<;>(try simp only [hc])<;>(try simp only [go_sem] at hc)))
 refine DW.loop (ι := { i : Nat // i ≤ l.length }) (fun i => ⟨19, [(8, dI i.1), (7, dI l.length), (1, .c (.fn (.func g) [] [])), (0, .c (.sl b 4 (rows eLd l)))], []⟩) (fun i => l.length - i.1) ⟨0, Nat.zero_le _⟩ ?_ ?_
 ·refine Ent.to ?_ ?_ <;> simp (disch:=omega) only [qR,qS,qTw,qU,get,Nat.reduceEqDiff,↓reduceIte,qV,qW,qX,qY,qZ,and_self,dI,i64_in,and_true,true_and,rA,rB,rC,rD]
 rintro ⟨i, hi⟩
 rcases at_or l i hi with ⟨v, hv, hlt, hd⟩ | ⟨he, hd⟩
 ·have hcall := hp v (List.mem_of_getElem? hv)
  repeat' (first|(with_reducible first|apply qA|apply qB|apply qC|apply qD|apply qE|apply qF)|(simp (disch:=omega) only [go_sem, simprocAttr, Blk.men, Blk.keysIn, hd, hv, closeDs_fn, rF, rG])|exact qM rfl rfl rfl|(refine qG rfl ?_)|(refine qH rfl ?_)|(refine qI rfl ?_ ?_<;>intro hc<;>(try simp only [go_sem] at hc))|(refine qJ ?_ ?_<;>intro hc<;>(try simp only [hc])<;>(try simp only [go_sem] at hc)))
  refine call_c hcall (by decide) ?_
  simp (disch:=omega) only [go_sem,simprocAttr,Blk.men,Blk.keysIn]
  repeat' (first|(with_reducible first|apply qA|apply qB|apply qC|apply qD|apply qE|apply qF)|(simp (disch:=omega) only [go_sem, simprocAttr, Blk.men, Blk.keysIn])|exact qM rfl rfl rfl|(refine qG rfl ?_)|(refine qH rfl ?_)|(refine qI rfl ?_ ?_<;>intro hc<;>(try simp only [go_sem] at hc))|(refine qJ ?_ ?_<;>intro hc<;>(try simp only [hc])<;>(try simp only [go_sem] at hc)))
  refine ⟨⟨i + 1, hlt⟩, ?_, Ent.to ?_ ?_⟩ <;> first | (show _ < _; (try simp only); omega) | (simp (disch:=omega) only [qR,qS,qTw,qU,get,Nat.reduceEqDiff,↓reduceIte,qV,qW,qX,qY,qZ,and_self,dI,i64_in,and_true,true_and,rA,rB,rC,rD])
 ·repeat' (first|(with_reducible first|apply qA|apply qB|apply qC|apply qD|apply qE|apply qF)|(simp (disch:=omega) only [go_sem, simprocAttr, Blk.men, Blk.keysIn, hd])|exact qM rfl rfl rfl|(refine qG rfl ?_)|(refine qH rfl ?_)|(refine qI rfl ?_ ?_<;>intro hc<;>(try simp only [go_sem] at hc))|(refine qJ ?_ ?_<;>intro hc<;>(try simp only [hc])<;>(try simp only [go_sem] at hc)))
theorem crLCon (b : Bool) (l : List Lod) (hl : l.length ≤ 2 ^ 36) (g : FuncId) (hp : ∀ x ∈ l, DCall Try.prog g [.agg ((eLd x).map D.c)] [] (bD false) []) : DCall Try.prog 98 [.c (.sl b 4 (rows eLd l)), .c (.fn (.func g) [] [])] [] (bD false) [] := by
 refine DCall.of Try.func98 sf98 hb98 (Nat.le_of_ble_eq_true rfl) (okRes_nil fun _ => rfl) ?_; simp only [s98, idxs, Nat.reduceAdd]
 repeat' (first|(with_reducible first|apply qA|apply qB|apply qC|apply qD|apply qE|apply qF)|(simp (disch:=omega) only [go_sem, simprocAttr, Blk.men, Blk.keysIn])|exact qM rfl rfl rfl|(refine qG rfl ?_)|(refine qH rfl ?_)|(refine qI rfl ?_ ?_<;>intro hc<;>(try simp only [go_sem] at hc))|(refine qJ ?_ ?_<;>intro hc<;>(try simp only [hc])<;>(try simp only [go_sem] at hc)))
 (refine call_c (crLIdx b l hl g hp) (by decide) ?_; simp (disch:=omega) only [go_sem,simprocAttr,Blk.men,Blk.keysIn])
 repeat' (first|(with_reducible first|apply qA|apply qB|apply qC|apply qD|apply qE|apply qF)|(simp (disch:=omega) only [go_sem, simprocAttr, Blk.men, Blk.keysIn])|exact qM rfl rfl rfl|(refine qG rfl ?_)|(refine qH rfl ?_)|(refine qI rfl ?_ ?_<;>intro hc<;>(try simp only [go_sem] at hc))|(refine qJ ?_ ?_<;>intro hc<;>(try simp only [hc])<;>(try simp only [go_sem] at hc)))
theorem crBoxes (b : Bool) (l : List Lod) (most : Int) (hl : l.length ≤ 1000) (hm : (l.length : Int) ≤ most) (h : ∀ x ∈ l, x.ok) : DCall Try.prog 49 [.c (.sl b 4 (rows eLd l)), dI most] [] (dI 0) [] := by
 have h1 := crLCon b l (by omega) 97 (fun x hx => crBox1 x (h x hx))
 have hd : decide (most < (l.length : Int)) = false := by rw [decide_eq_false_iff_not]; omega
 refine DCall.of Try.func49 sf49 hb49 (Nat.le_of_ble_eq_true rfl) (okRes_nil fun _ => rfl) ?_; simp only [s49, idxs, Nat.reduceAdd]
 repeat' (first|(with_reducible first|apply qA|apply qB|apply qC|apply qD|apply qE|apply qF)|(simp (disch:=omega) only [go_sem, simprocAttr, Blk.men, Blk.keysIn, hd])|exact qM rfl rfl rfl|(refine qG rfl ?_)|(refine qK (h1) (by decide) ?_)|(refine qH rfl ?_)|(refine qI rfl ?_ ?_<;>intro hc<;>(try simp only [go_sem] at hc))|(refine qJ ?_ ?_<;>intro hc<;>(try simp only [hc])<;>(try simp only [go_sem] at hc)))
structure TabOk (l : List (Int × Int)) (days : Int) : Prop where
 len : 1 ≤ l.length ∧ l.length ≤ 10
 first : ∀ u, l[0]? = some u → u.1 = 0
 mem : ∀ s ∈ l, (0 ≤ s.1 ∧ s.1 ≤ 10000) ∧ (0 ≤ s.2 ∧ s.2 ≤ 1000)
 step : ∀ (i : Nat) (u v : Int × Int), l[i]? = some u → l[i + 1]? = some v → u.1 < v.1 ∧ v.2 ≤ u.2
 days : 0 ≤ days ∧ days ≤ 10000
theorem crTable (l : List (Int × Int)) (days : Int) (h : TabOk l days) : DCall Try.prog 51 [.c (.sl false 2 (rows eK l)), dI days] [] (.tup [.agg [.c (.sl false 2 (rows eK l)), dI days], dI 0]) [] := by
 have hlen := h.len
 have h1 := crIn true 1 10 [(l.length : Int)] (by simp) (by simp; omega)
 have h2 := crIn true 0 10000 [days] (by simp) (by simpa using h.days)
 obtain ⟨f, hf⟩ := getE (l := l) (i := 0) (by omega)
 have hf0 := h.first f hf
 have hfe : (f.1 != 0) = false := by rw [hf0]; rfl
 refine DCall.of Try.func51 sf51 hb51 (Nat.le_of_ble_eq_true rfl) (okRes_nil fun _ => rfl) ?_; simp only [s51, idxs, Nat.reduceAdd]
 repeat' (first|(with_reducible first|apply qA|apply qB|apply qC|apply qD|apply qE|apply qF)|(refine qL rfl (WF.of ?_) ?_; first|rfl|skip)|(simp (disch:=omega) only [go_sem, simprocAttr, Blk.men, Blk.keysIn, hf, hfe, rF, rG])|exact qM rfl rfl rfl|(refine qG rfl ?_)|(refine qK (h1) (by decide) ?_)|(refine qH rfl ?_)|(refine qI rfl ?_ ?_<;>intro hc<;>(try simp only [go_sem] at hc))|(refine qJ ?_ ?_<;>intro hc<;>(try simp only [hc])<;>(try simp only [go_sem] at hc)))
 refine DW.loop (ι := { i : Nat // i ≤ l.length }) (fun i => ⟨76, [(23, dI i.1), (22, dI l.length), (21, .c (.sl false 2 (rows eK l))), (4, .box 4 0), (0, .c (.sl false 2 (rows eK l))), (1, dI days)], [(4, .box [.c (.v (.slice none 0 0)), dI 0])]⟩) (fun i => l.length - i.1) ⟨0, Nat.zero_le _⟩ ?_ ?_
 ·refine Ent.to ?_ ?_ <;> simp (disch:=omega) only [qR,qS,qTw,qU,get,Nat.reduceEqDiff,↓reduceIte,qV,qW,qX,qY,qZ,and_self,dI,i64_in,and_true,true_and,rA,rB,rC,rD]
 rintro ⟨i, hi⟩
 rcases at_or l i hi with ⟨v, hv, hlt, hd⟩ | ⟨he, hd⟩
 ·have hm := h.mem v (List.mem_of_getElem? hv)
  have h3 := crIn true 0 10000 [v.1] (by simp) (by simpa using hm.1)
  have h4 := crIn true 0 1000 [v.2] (by simp) (by simpa using hm.2)
  rcases i with _ | i
  ·have hd0 : decide ((0 : Int) < ((0 : Nat) : Int)) = false := by decide
   have hd' : decide ((0 : Int) < (l.length : Int)) = true := hd
   repeat' (first|(with_reducible first|apply qA|apply qB|apply qC|apply qD|apply qE|apply qF)|(refine qL rfl (WF.of ?_) ?_; first|rfl|skip)|(simp (disch:=omega) only [go_sem, simprocAttr, Blk.men, Blk.keysIn, hd', hv, hd0, rF, rG])|exact qM rfl rfl rfl|(refine qG rfl ?_)|(refine qK (h3) (by decide) ?_)|(refine qK (h4) (by decide) ?_)|(refine qH rfl ?_)|(refine qI rfl ?_ ?_<;>intro hc<;>(try simp only [go_sem] at hc))|(refine qJ ?_ ?_<;>intro hc<;>(try simp only [hc])<;>(try simp only [go_sem] at hc)))
   refine ⟨⟨1, hlt⟩, ?_, Ent.to ?_ ?_⟩ <;> first | (show _ < _; (try simp only); omega) | (simp (disch:=omega) only [qR,qS,qTw,qU,get,Nat.reduceEqDiff,↓reduceIte,qV,qW,qX,qY,qZ,and_self,dI,i64_in,and_true,true_and,rA,rB,rC,rD])
  ·have hd0 : decide ((0 : Int) < ((i + 1 : Nat) : Int)) = true := by rw [decide_eq_true_eq]; omega
   obtain ⟨u, hu⟩ := getE (l := l) (i := i) (by omega)
   have hs := h.step i u v hu hv
   have e1 : ((i + 1 : Nat) : Int) - 1 = (i : Int) := by omega
   have d1 : decide (v.1 ≤ u.1) = false := by rw [decide_eq_false_iff_not]; omega
   have d2 : decide (u.2 < v.2) = false := by rw [decide_eq_false_iff_not]; omega
   repeat' (first|(with_reducible first|apply qA|apply qB|apply qC|apply qD|apply qE|apply qF)|(refine qL rfl (WF.of ?_) ?_; first|rfl|skip)|(simp (disch:=omega) only [go_sem, simprocAttr, Blk.men, Blk.keysIn, hd, hv, hd0, hu, e1, d1, d2, rF, rG])|exact qM rfl rfl rfl|(refine qG rfl ?_)|(refine qK (h3) (by decide) ?_)|(refine qK (h4) (by decide) ?_)|(refine qH rfl ?_)|(refine qI rfl ?_ ?_<;>intro hc<;>(try simp only [go_sem] at hc))|(refine qJ ?_ ?_<;>intro hc<;>(try simp only [hc])<;>(try simp only [go_sem] at hc)))
   refine ⟨⟨i + 1 + 1, hlt⟩, ?_, Ent.to ?_ ?_⟩ <;> first | (show _ < _; (try simp only); omega) | (simp (disch:=omega) only [qR,qS,qTw,qU,get,Nat.reduceEqDiff,↓reduceIte,qV,qW,qX,qY,qZ,and_self,dI,i64_in,and_true,true_and,rA,rB,rC,rD])
 ·repeat' (first|(with_reducible first|apply qA|apply qB|apply qC|apply qD|apply qE|apply qF)|(refine qL rfl (WF.of ?_) ?_; first|rfl|skip)|(simp (disch:=omega) only [go_sem, simprocAttr, Blk.men, Blk.keysIn, hd])|exact qM rfl rfl rfl|(refine qG rfl ?_)|(refine qK (h2) (by decide) ?_)|(refine qH rfl ?_)|(refine qI rfl ?_ ?_<;>intro hc<;>(try simp only [go_sem] at hc))|(refine qJ ?_ ?_<;>intro hc<;>(try simp only [hc])<;>(try simp only [go_sem] at hc)))
  refine retS_wk rfl ?_ (by simp only [Blk.nb, rowC_nb, D.nb, D.nbs, C.nb, C.nbs, C.nbss, rows_nb eI_nb, Bool.and_true, Bool.not_false, Bool.and_self, bD, dI, iD, rows_nb eP_nb, rows_nb eF_nb, rows_nb eK_nb, rows_nb eLd_nb]); exact .tup (.cons (.refl _) (.cons (.refl _) .nil))
def lastI (days : Int) (l : List (Int × Int)) (k : Int) : Int := l.foldl (fun k s => if s.1 ≤ days then s.2 else k) k
theorem lastI_b (days : Int) : ∀ (l : List (Int × Int)) (k : Int), (∀ s ∈ l, 0 ≤ s.2 ∧ s.2 ≤ 1000) → (0 ≤ k ∧ k ≤ 1000) → 0 ≤ lastI days l k ∧ lastI days l k ≤ 1000
 | [], _, _, hk => hk
 | s :: t, k, h, hk => by
  refine lastI_b days t _ (fun x hx => h x (by simp [hx])) ?_
  have := h s (by simp)
  show 0 ≤ (if s.1 ≤ days then s.2 else k) ∧ (if s.1 ≤ days then s.2 else k) ≤ 1000
  split <;> omega
theorem lastI_take (days : Int) {l : List (Int × Int)} {i : Nat} {v : Int × Int} (hv : l[i]? = some v) : lastI days (l.take (i + 1)) 0 = if v.1 ≤ days then v.2 else lastI days (l.take i) 0 := by
 rw [List.take_add_one, hv]
 simp only [lastI, Option.toList_some, List.foldl_append, List.foldl_cons, List.foldl_nil]
theorem crLast (l : List (Int × Int)) (days : Int) (hl : l.length ≤ 1000) : DCall Try.prog 72 [.agg [.c (.sl false 2 (rows eK l)), dI days]] [] (dI (lastI days l 0)) [] := by
 refine DCall.of Try.func72 sf72 hb72 (Nat.le_of_ble_eq_true rfl) (okRes_nil fun _ => rfl) ?_; simp only [s72, idxs, Nat.reduceAdd]
 repeat' (first|(with_reducible first|apply qA|apply qB|apply qC|apply qD|apply qE|apply qF)|(simp (disch:=omega) only [go_sem, simprocAttr, Blk.men, Blk.keysIn])|exact qM rfl rfl rfl|(refine qG rfl ?_)|(refine qH rfl ?_)|(refine qI rfl ?_ ?_<;>intro hc<;>(try simp only [go_sem] at hc))|(refine qJ ?_ ?_<;>intro hc<;>(try simp only [hc])<;>(try simp only [go_sem] at hc)))
 refine DW.loop (ι := { i : Nat // i ≤ l.length }) (fun i => ⟨21, [(8, dI i.1), (7, dI l.length), (6, .c (.sl false 2 (rows eK l))), (2, dI (lastI days (l.take i.1) 0)), (1, .box 1 0)], [(1, .box [.c (.sl false 2 (rows eK l)), dI days])]⟩) (fun i => l.length - i.1) ⟨0, Nat.zero_le _⟩ ?_ ?_
 ·refine Ent.to ?_ ?_ <;> simp (disch:=omega) only [qR,qS,qTw,qU,get,Nat.reduceEqDiff,↓reduceIte,qV,qW,qX,qY,qZ,and_self,dI,i64_in,and_true,true_and,rA,rB,rC,rD,lastI,List.take_zero,List.foldl_nil]
 rintro ⟨i, hi⟩
 rcases at_or l i hi with ⟨v, hv, hlt, hd⟩ | ⟨he, hd⟩
 ·have hnx := lastI_take days hv
  cases hc : decide (v.1 ≤ days) with
  | true =>
   rw [if_pos (of_decide_eq_true hc)] at hnx
   repeat' (first|(with_reducible first|apply qA|apply qB|apply qC|apply qD|apply qE|apply qF)|(simp (disch:=omega) only [go_sem, simprocAttr, Blk.men, Blk.keysIn, hd, hv, hc, rF, rG])|exact qM rfl rfl rfl|(refine qG rfl ?_)|(refine qH rfl ?_)|(refine qI rfl ?_ ?_<;>intro hc<;>(try simp only [go_sem] at hc))|(refine qJ ?_ ?_<;>intro hc<;>(try simp only [hc])<;>(try simp only [go_sem] at hc)))
   refine ⟨⟨i + 1, hlt⟩, ?_, Ent.to ?_ ?_⟩ <;> first | (show _ < _; (try simp only); omega) | (simp (disch:=omega) only [qR,qS,qTw,qU,get,Nat.reduceEqDiff,↓reduceIte,qV,qW,qX,qY,qZ,and_self,dI,i64_in,and_true,true_and,rA,rB,rC,rD, hnx])
  | false =>
   rw [if_neg (of_decide_eq_false hc)] at hnx
   repeat' (first|(with_reducible first|apply qA|apply qB|apply qC|apply qD|apply qE|apply qF)|(simp (disch:=omega) only [go_sem, simprocAttr, Blk.men, Blk.keysIn, hd, hv, hc, rF, rG])|exact qM rfl rfl rfl|(refine qG rfl ?_)|(refine qH rfl ?_)|(refine qI rfl ?_ ?_<;>intro hc<;>(try simp only [go_sem] at hc))|(refine qJ ?_ ?_<;>intro hc<;>(try simp only [hc])<;>(try simp only [go_sem] at hc)))
   refine ⟨⟨i + 1, hlt⟩, ?_, Ent.to ?_ ?_⟩ <;> first | (show _ < _; (try simp only); omega) | (simp (disch:=omega) only [qR,qS,qTw,qU,get,Nat.reduceEqDiff,↓reduceIte,qV,qW,qX,qY,qZ,and_self,dI,i64_in,and_true,true_and,rA,rB,rC,rD, hnx])
 ·repeat' (first|(with_reducible first|apply qA|apply qB|apply qC|apply qD|apply qE|apply qF)|(simp (disch:=omega) only [go_sem, simprocAttr, Blk.men, Blk.keysIn, hd])|exact qM rfl rfl rfl|(refine qG rfl ?_)|(refine qH rfl ?_)|(refine qI rfl ?_ ?_<;>intro hc<;>(try simp only [go_sem] at hc))|(refine qJ ?_ ?_<;>intro hc<;>(try simp only [hc])<;>(try simp only [go_sem] at hc)))
  refine retS_of rfl ?_ rfl; simp only [oneD, St.op, get, Nat.reduceEqDiff, ↓reduceIte, Option.getD_some, bD, dI]
  rw [he, List.take_length]
def bearsI (b : Lod) (k : Int) : Int := (b.sl * k).tdiv 1000
theorem crBears (b : Lod) (h : b.ok) (k : Int) (hk : 0 ≤ k ∧ k ≤ 1000) : DCall Try.prog 71 [.agg ((eLd b).map D.c), dI k] [] (dI (bearsI b k)) [] := by
 have hs := h.strong
 have hm := mulB0 (a := b.sl) (b := k) (A := 20000000) (B := 1000) (by omega) hk
 have hq := tdiv_b (b := 1000) (A := 20000000000) (a := b.sl * k) (by omega) (by decide)
 unfold bearsI
 refine DCall.of Try.func71 sf71 hb71 (Nat.le_of_ble_eq_true rfl) (okRes_nil fun _ => rfl) ?_; simp only [s71, idxs, Nat.reduceAdd]
 repeat' (first|(with_reducible first|apply qA|apply qB|apply qC|apply qD|apply qE|apply qF)|(simp (disch:=omega) only [go_sem, simprocAttr, Blk.men, Blk.keysIn, rF, rG])|exact qM rfl rfl rfl|(refine qG rfl ?_)|(refine qH rfl ?_)|(refine qI rfl ?_ ?_<;>intro hc<;>(try simp only [go_sem] at hc))|(refine qJ ?_ ?_<;>intro hc<;>(try simp only [hc])<;>(try simp only [go_sem] at hc)))
def highI (b : Lod) (l : List (Int × Int)) (days : Int) : Int := if b.wh = 0 then 50 else if 1 + (bearsI b (lastI days l 0)).tdiv b.wh < 50 then 1 + (bearsI b (lastI days l 0)).tdiv b.wh else 50
theorem crHigh (b : Lod) (h : b.ok) (l : List (Int × Int)) (days : Int) (ht : TabOk l days) : DCall Try.prog 31 [.agg ((eLd b).map D.c), .c (.sl false 2 (rows eK l)), dI days] [] (.tup [dI (highI b l days), dI 0]) [] := by
 have h1 := crBoxes true [b] 1 (by simp) (by simp) (by simpa using h)
 have h2 := crTable l days ht
 have h3 := crLast l days (by have := ht.len; omega)
 have hk := lastI_b days l 0 (fun s hs => (ht.mem s hs).2) (by decide)
 have h4 := crBears b h (lastI days l 0) hk
 have hs := h.strong
 have hw := h.weight
 unfold highI
 have hbb : 0 ≤ bearsI b (lastI days l 0) ∧ bearsI b (lastI days l 0) ≤ 20000000000 := by
  have hm := mulB0 (a := b.sl) (b := lastI days l 0) (A := 20000000) (B := 1000) (by omega) hk
  exact tdiv_b (by omega) (by decide)
 generalize lastI days l 0 = k at *
 generalize bearsI b k = be at *
 by_cases h0 : b.wh = 0
 ·have he : (b.wh == 0) = true := by rw [h0]; rfl
  rw [if_pos h0]
  refine DCall.of Try.func31 sf31 hb31 (Nat.le_of_ble_eq_true rfl) (okRes_nil fun _ => rfl) ?_; simp only [s31, idxs, Nat.reduceAdd]
  repeat' (first|(with_reducible first|apply qA|apply qB|apply qC|apply qD|apply qE|apply qF)|(refine qL rfl (WF.of ?_) ?_; first|rfl|skip)|(simp (disch:=omega) only [go_sem, simprocAttr, Blk.men, Blk.keysIn, rF, rG, he])|exact qM rfl rfl rfl|(refine qG rfl ?_)|(refine qK (h1) (by decide) ?_)|(refine qK (h2) (by decide) ?_)|(refine qH rfl ?_)|(refine qI rfl ?_ ?_<;>intro hc<;>(try simp only [go_sem] at hc))|(refine qJ ?_ ?_<;>intro hc<;>(try simp only [hc])<;>(try simp only [go_sem] at hc)))
 ·have he : (b.wh == 0) = false := by rw [beq_eq_false_iff_ne]; exact h0
  have hz : (b.wh = 0) = False := eq_false h0
  have hq := tdiv_b (b := b.wh) hbb (by omega)
  rw [if_neg h0]
  refine DCall.of Try.func31 sf31 hb31 (Nat.le_of_ble_eq_true rfl) (okRes_nil fun _ => rfl) ?_; simp only [s31, idxs, Nat.reduceAdd]
  repeat' (first|(with_reducible first|apply qA|apply qB|apply qC|apply qD|apply qE|apply qF)|(refine qL rfl (WF.of ?_) ?_; first|rfl|skip)|(simp (disch:=omega) only [go_sem, simprocAttr, Blk.men, Blk.keysIn, rF, rG, he, hz])|exact qM rfl rfl rfl|(refine qG rfl ?_)|(refine qK (h1) (by decide) ?_)|(refine qK (h2) (by decide) ?_)|(refine qK (h3) (by decide) ?_)|(refine qK (h4) (by decide) ?_)|(refine qH rfl ?_)|(refine qI rfl ?_ ?_<;>intro hc<;>(try simp only [go_sem] at hc))|(refine qJ ?_ ?_<;>intro hc<;>(try simp only [hc])<;>(try simp only [go_sem] at hc)))
theorem arSpan (a b : Int) : DCall Try.prog 8 [dI a, dI b] [] (.agg [dI a, dI b]) [] := by
 refine DCall.of Try.func8 sf8 hb8 (Nat.le_of_ble_eq_true rfl) (okRes_nil fun _ => rfl) ?_; simp only [s8, idxs, Nat.reduceAdd]
 repeat' (first|(with_reducible first|apply qA|apply qB|apply qC|apply qD|apply qE|apply qF)|(simp (disch:=omega) only [go_sem, simprocAttr, Blk.men, Blk.keysIn])|exact qM rfl rfl rfl|(refine qG rfl ?_)|(refine qH rfl ?_)|(refine qI rfl ?_ ?_<;>intro hc<;>(try simp only [go_sem] at hc))|(refine qJ ?_ ?_<;>intro hc<;>(try simp only [hc])<;>(try simp only [go_sem] at hc)))
theorem exK_ok : TabOk [(0, 1000), (10, 800), (30, 600)] 10 := by
 refine ⟨by decide, ?_, by decide, ?_, by decide⟩
 ·intro u h; cases h; rfl
 ·intro i u v h1 h2
  match i, h1, h2 with
  | 0, h1, h2 => cases h1; cases h2; decide
  | 1, h1, h2 => cases h1; cases h2; decide
  | 2, h1, h2 => cases h2
  | i + 3, h1, h2 => cases h1
theorem arCrush : DCall Try.prog 13 [] [] (bD true) [] := by
 have h1 := crStrength ⟨5000, 6000, 4000, 4200, 1600, 587⟩ ⟨by decide, by decide, by decide, by decide⟩ 2529 2592 ⟨by decide, by decide, by decide⟩ ⟨by decide, by decide, by decide⟩
 have h2 := crHigh ⟨300, 320, 100, 110⟩ ⟨by decide, by decide⟩ [(0, 1000), (10, 800), (30, 600)] 10 exK_ok
 have e1 : highI ⟨300, 320, 100, 110⟩ [(0, 1000), (10, 800), (30, 600)] 10 = 3 := by kernel_rfl
 rw [e1] at h2
 have q1 : ((5000 : Int) * 2529 * 587).tdiv 100000 = 74226 := by decide
 have q2 : ((6000 : Int) * 2592 * 587).tdiv 100000 = 91290 := by decide
 simp only [] at h1
 rw [q1, q2] at h1
 have s1 := arSpan 5000 6000
 have s2 := arSpan 4000 4200
 have s3 := arSpan 300 320
 have s4 := arSpan 100 110
 have s5 := arSpan 74226 91290
 refine DCall.of Try.func13 sf13 hb13 (Nat.le_of_ble_eq_true rfl) (okRes_nil fun _ => rfl) ?_; simp only [s13, idxs, Nat.reduceAdd]
 repeat' (first|(with_reducible first|apply qA|apply qB|apply qC|apply qD|apply qE|apply qF)|(refine qL rfl (WF.of ?_) ?_; first|rfl|skip)|(simp (disch:=omega) only [go_sem, simprocAttr, Blk.men, Blk.keysIn])|exact qM rfl rfl rfl|(refine qG rfl ?_)|(refine qK (s1) (by decide) ?_)|(refine qK (s2) (by decide) ?_)|(refine qK (s3) (by decide) ?_)|(refine qK (s4) (by decide) ?_)|(refine qK (h1) (by decide) ?_)|(refine qH rfl ?_)|(refine qI rfl ?_ ?_<;>intro hc<;>(try simp only [go_sem] at hc))|(refine qJ ?_ ?_<;>intro hc<;>(try simp only [hc])<;>(try simp only [go_sem] at hc)))
 refine call_e (Ent.rel 19 rfl) h2 rfl rfl (by decide) ?_
 simp (disch:=omega) only [go_sem,simprocAttr,Blk.men,Blk.keysIn]
 repeat' (first|(with_reducible first|apply qA|apply qB|apply qC|apply qD|apply qE|apply qF)|(refine qL rfl (WF.of ?_) ?_; first|rfl|skip)|(simp (disch:=omega) only [go_sem, simprocAttr, Blk.men, Blk.keysIn])|exact qM rfl rfl rfl|(refine qG rfl ?_)|(refine qK (s5) (by decide) ?_)|(refine qH rfl ?_)|(refine qI rfl ?_ ?_<;>intro hc<;>(try simp only [go_sem] at hc))|(refine qJ ?_ ?_<;>intro hc<;>(try simp only [hc])<;>(try simp only [go_sem] at hc)))
end Go.Dw.Seat
end
section
set_option linter.unusedSimpArgs false
set_option maxRecDepth 100000
namespace Go.Dw.Seat.Pa
open Go Go.Dw Go.Proofs Go.ChangeShapes Go.WideShapes Go.ChangeAt Go.RowKit
theorem tOwn : ownKnob Try.prog.godebug = none := by kernel_rfl
theorem tLaid : laidOutB Try.prog = true := by kernel_rfl
theorem u4 : Try.prog.underlying 4 = some .bool := by kernel_rfl
theorem uT5 : Try.prog.underlying 5 = some (.int .u8) := by kernel_rfl
theorem clT5 : Try.prog.cellsOf 5 = 1 := by kernel_rfl
def bV (l : List Nat) : List Value := l.map fun n : Nat => Value.int .u8 (n : Int)
section
variable {H : Type} {enc : TypeId × Value → H} {w : World} {base : Nat} {spare : Nat → Bool} {held : Bool}
theorem wf8 {n : Int} (h : (Lit.int .u8 n).wf = true) : ∃ v : Nat, n = v ∧ v < 256 := by
 have e1 : IntKind.min .u8 = 0 := by decide
 have e2 : IntKind.max .u8 = 255 := by decide
 simp only [Lit.wf, e1, e2, Bool.and_eq_true, decide_eq_true_eq] at h
 exact ⟨n.toNat, by omega, by omega⟩
theorem rep_bytes : ∀ l : List Nat, RepVs w A0 (eN l) (bV l)
 | [] => rfl
 | _ :: l => ⟨_, _, rfl, ⟨rfl, rfl⟩, rep_bytes l⟩
theorem rd_U8 {fuel : Nat} {cs : List Value} {x : DataW H × List MemPlace} (h : DataW.trod enc Try.prog w base spare held fuel 5 cs = some x) : ∃ l : List Nat, (l.length = 1 ∧ AllLt 256 l) ∧ cs = bV l := by
 obtain ⟨n, e, hw⟩ := rd_int uT5 h
 obtain ⟨v, rfl, hv⟩ := wf8 hw
 exact ⟨[v], ⟨rfl, fun x hx => by rw [List.mem_singleton] at hx; rw [hx]; exact hv⟩, e⟩
theorem bV_app (a b : List Nat) : bV (a ++ b) = bV a ++ bV b := by simp [bV]
theorem lt_app {b : Nat} {l l' : List Nat} (h : AllLt b l) (h' : AllLt b l') : AllLt b (l ++ l') := fun x hx => by
 rcases List.mem_append.1 hx with h1 | h1
 ·exact h x h1
 ·exact h' x h1
theorem rd_arrB {fuel : Nat} {cs : List Value} {x : DataW H × List MemPlace} {t e : TypeId} {n k : Nat} (ht : Try.prog.underlying t = some (.array n e)) (he : Try.prog.cellsOf e = k) (hc : Try.prog.cellsOf t = n * k)
  (hrd : ∀ m cs x, DataW.trod enc Try.prog w base spare held m e cs = some x → ∃ l : List Nat, (l.length = k ∧ AllLt 256 l) ∧ cs = bV l) (h : DataW.trod enc Try.prog w base spare held fuel t cs = some x) : ∃ l : List Nat, (l.length = n * k ∧ AllLt 256 l) ∧ cs = bV l := by
 obtain ⟨hl, m, hf⟩ := rd_array ht h
 rw [hc] at hl
 have key : ∀ j, j ≤ n → ∃ l : List Nat, (l.length = j * k ∧ AllLt 256 l) ∧ cs.take (j * k) = bV l := by
  intro j
  induction j with
  | zero => intro _; exact ⟨[], ⟨by simp, fun x hx => by cases hx⟩, by simp [bV]⟩
  | succ j ih =>
   intro hj
   obtain ⟨l, ⟨h1, h2⟩, h3⟩ := ih (by omega)
   obtain ⟨y, hy⟩ := hf j (by omega)
   rw [he] at hy
   obtain ⟨l', ⟨h4, h5⟩, h6⟩ := hrd _ _ _ hy
   refine ⟨l ++ l', ⟨by rw [List.length_append, h1, h4, Nat.succ_mul], lt_app h2 h5⟩, ?_⟩
   rw [Nat.succ_mul, List.take_add, h3, h6, bV_app]
 obtain ⟨l, h1, h2⟩ := key n (Nat.le_refl _)
 rw [List.take_of_length_le (by omega)] at h2
 exact ⟨l, h1, h2⟩
theorem uT23 : Try.prog.underlying 23 = some (.array 2 5) := by kernel_rfl
theorem clT23 : Try.prog.cellsOf 23 = 2 := by kernel_rfl
theorem rd_T23 {fuel : Nat} {cs : List Value} {x : DataW H × List MemPlace} (h : DataW.trod enc Try.prog w base spare held fuel 23 cs = some x) : ∃ l : List Nat, (l.length = 2 ∧ AllLt 256 l) ∧ cs = bV l := rd_arrB (n := 2) (k := 1) uT23 clT5 clT23 (fun _ _ _ h => rd_U8 h) h
theorem uT53 : Try.prog.underlying 53 = some (.array 3 5) := by kernel_rfl
theorem clT53 : Try.prog.cellsOf 53 = 3 := by kernel_rfl
theorem rd_T53 {fuel : Nat} {cs : List Value} {x : DataW H × List MemPlace} (h : DataW.trod enc Try.prog w base spare held fuel 53 cs = some x) : ∃ l : List Nat, (l.length = 3 ∧ AllLt 256 l) ∧ cs = bV l := rd_arrB (n := 3) (k := 1) uT53 clT5 clT53 (fun _ _ _ h => rd_U8 h) h
theorem uT79 : Try.prog.underlying 79 = some (.slice 53) := by kernel_rfl
theorem clT79 : Try.prog.cellsOf 79 = 1 := by kernel_rfl
theorem rd_V3 {fuel : Nat} {cs : List Value} {x : DataW H × List MemPlace} (h : DataW.trod enc Try.prog w base spare held fuel 53 cs = some x) : ∃ v : {v : T3 // v.ok}, RepVs w A0 (eT3 v.1) cs := by
 obtain ⟨l, ⟨h1, h2⟩, h3⟩ := rd_T53 h
 subst h3
 match l, h1 with
 | [a, b, c], _ => exact ⟨⟨⟨a, b, c⟩, h2 a (by simp), h2 b (by simp), h2 c (by simp)⟩, _, _, rfl, ⟨rfl, rfl⟩, _, _, rfl, ⟨rfl, rfl⟩, _, _, rfl, ⟨rfl, rfl⟩, rfl⟩
theorem rd_T79 {fuel : Nat} {cs : List Value} {x : DataW H × List MemPlace} (h : DataW.trod enc Try.prog w base spare held fuel 79 cs = some x) : ∃ (l : List T3) (v : Value), cs = [v] ∧ RepC w A0 (.sl false 3 (rows eT3 l)) v ∧ l.length ≤ maxLen ∧ ∀ v ∈ l, v.ok := by
 obtain ⟨l, v, e', hr, hm, _⟩ := rd_slice (f := fun v : {v : T3 // v.ok} => eT3 v.1) uT79 clT53 (by decide) (fun _ => rfl) (fun m cs x h => rd_V3 h) h
 refine ⟨l.map (·.1), v, e', ?_, by simpa using hm, fun u hu => ?_⟩
 ·have : rows eT3 (l.map (·.1)) = rows (fun v : {v : T3 // v.ok} => eT3 v.1) l := by simp [rows, Function.comp_def]
  rw [this]; exact hr
 ·obtain ⟨a, _, rfl⟩ := List.mem_map.1 hu
  exact a.2
theorem uT81 : structIs Try.prog 81 [(23, 0), (23, 2), (79, 4)] = true := by kernel_rfl
theorem clT81 : Try.prog.cellsOf 81 = 5 := by kernel_rfl
def cTrip (x : TripY) : List C := [.v (.int .u8 x.r0), .v (.int .u8 x.r1), .v (.int .u8 x.s0), .v (.int .u8 x.s1), .sl false 3 (rows eT3 x.l)]
theorem rd_T81 {fuel : Nat} {cs : List Value} {x : DataW H × List MemPlace} (h : DataW.trod enc Try.prog w base spare held fuel 81 cs = some x) : ∃ s : TripY, s.ok ∧ RepVs w A0 (cTrip s) cs := by
 obtain ⟨hl, m, hf⟩ := rd_struct uT81 h
 rw [clT81] at hl
 obtain ⟨y0, h0⟩ := hf 0 23 0 rfl
 obtain ⟨y1, h1⟩ := hf 1 23 2 rfl
 obtain ⟨y2, h2⟩ := hf 2 79 4 rfl
 rw [clT23] at h0 h1
 rw [clT79] at h2
 obtain ⟨l0, ⟨q0, q1⟩, e0⟩ := rd_T23 h0
 obtain ⟨l1, ⟨q2, q3⟩, e1⟩ := rd_T23 h1
 obtain ⟨T, v, e2, hr, hm, hT⟩ := rd_T79 h2
 match cs, hl with
 | [c0, c1, c2, c3, c4], _ =>
  simp at e0 e1 e2
  match l0, q0, l1, q2 with
  | [a, b], _, [c, d], _ =>
   simp [bV] at e0 e1
   obtain ⟨rfl, rfl⟩ := e0
   obtain ⟨rfl, rfl⟩ := e1
   subst e2
   exact ⟨⟨a, b, c, d, T⟩, ⟨q1 a (by simp), q1 b (by simp), q3 c (by simp), q3 d (by simp), hm, hT⟩, _, _, rfl, ⟨rfl, rfl⟩, _, _, rfl, ⟨rfl, rfl⟩, _, _, rfl, ⟨rfl, rfl⟩, _, _, rfl, ⟨rfl, rfl⟩, _, _, rfl, hr, rfl⟩
theorem uT54 : Try.prog.underlying 54 = some (.array 4 5) := by kernel_rfl
theorem clT54 : Try.prog.cellsOf 54 = 4 := by kernel_rfl
theorem rd_T54 {fuel : Nat} {cs : List Value} {x : DataW H × List MemPlace} (h : DataW.trod enc Try.prog w base spare held fuel 54 cs = some x) : ∃ l : List Nat, (l.length = 4 ∧ AllLt 256 l) ∧ cs = bV l := rd_arrB (n := 4) (k := 1) uT54 clT5 clT54 (fun _ _ _ h => rd_U8 h) h
theorem uT82 : Try.prog.underlying 82 = some (.slice 5) := by kernel_rfl
theorem rd_T82 {fuel : Nat} {cs : List Value} {x : DataW H × List MemPlace} (h : DataW.trod enc Try.prog w base spare held fuel 82 cs = some x) : ∃ (l : List Nat) (v : Value), cs = [v] ∧ RepC w A0 (.sl false 1 (rows e1 l)) v ∧ l.length ≤ maxLen ∧ AllLt 256 l := by
 obtain ⟨l, v, e', hr, hm, _⟩ := rd_slice (f := fun v : {v : Nat // v < 256} => e1 v.1) uT82 clT5 (by decide) (fun _ => rfl) (fun m cs x h => by
  obtain ⟨n, e, hw⟩ := rd_int uT5 h
  obtain ⟨v, rfl, hv⟩ := wf8 hw
  subst e
  exact ⟨⟨v, hv⟩, _, _, rfl, ⟨rfl, rfl⟩, rfl⟩) h
 refine ⟨l.map (·.1), v, e', ?_, by simpa using hm, fun u hu => ?_⟩
 ·have : rows e1 (l.map (·.1)) = rows (fun v : {v : Nat // v < 256} => e1 v.1) l := by simp [rows, Function.comp_def]
  rw [this]; exact hr
 ·obtain ⟨a, _, rfl⟩ := List.mem_map.1 hu
  exact a.2
end
set_option maxHeartbeats 800000 in
theorem topDampStackLifted (os : Os) (started : os.Started) (H : Type) (enc : TypeId × Value → H) :
  ReturnsInHanded {} Try.checked os 6 .any (Ytkkbfndajnmhmaa.Rows.topDampStackSpec.pre6 enc Try.prog Try.f6 Ytkkbfndajnmhmaa.Rows.topDampStackRow.domain false) (Ytkkbfndajnmhmaa.Rows.topDampStackSpec.post enc Try.prog Try.f6 false true false false) := by
 refine returnsInHanded_of_change (C := Try.checked) tOwn started (by kernel_rfl) Try.func6
  (ChangeSpec.witness6 (enc := enc) (C := Try.checked) false ⟨#[], #[.agg #[.int .u8 0, .int .u8 0, .int .u8 0, .int .u8 0, .slice none 0 0], .agg #[.int .u8 0, .int .u8 0, .int .u8 0, .int .u8 0], .slice none 0 0], []⟩ 8 (by kernel_rfl) (by kernel_rfl) (by kernel_rfl) (by kernel_rfl)) ?_
 intro W base args ds gs before hval0 hW _ _
 have hval : ∀ (j : Nat) t v, Try.f6.params[j]? = some t → args[j]? = some v → Value.okWide Try.prog W .any base t v := hval0
 have hW' : DataW.Whole enc Try.prog Try.f6.params.toList [] false W args.toList ds gs before := hW
 obtain ⟨p, q, hA, hV, rfl, hfz, hnd⟩ := hW
 have hA : DataW.TrodAll enc Try.prog W 0 (fun _ => true) true [81, 54, 82] args.toList ds p := hA
 obtain ⟨rfl, rfl⟩ := trodVars_none hV
 obtain ⟨v0, vs0, d0, ds0, p0, q0, hargs, rfl, rfl, h0, r0⟩ := trodAll_cons hA
 obtain ⟨v1, vs1, d1, ds1, p1, q1, rfl, rfl, rfl, h1, r1⟩ := trodAll_cons r0
 obtain ⟨v2, vs2, d2, ds2, p2, q2, rfl, rfl, rfl, h2, r2⟩ := trodAll_cons r1
 obtain ⟨rfl, rfl, rfl⟩ := trodAll_nil r2
 obtain rfl : args = #[v0, v1, v2] := by cases args; simp_all
 obtain ⟨f0, hu0, _⟩ := structIs_spec uT81
 obtain ⟨c0, rfl, _⟩ := okWide_struct hu0 (hval 0 81 v0 rfl rfl)
 obtain ⟨c1, rfl, _⟩ := okWide_array uT54 (hval 1 54 v1 rfl rfl)
 obtain ⟨a2, l2, k2, rfl⟩ := okWide_slice uT82 (hval 2 82 v2 rfl rfl)
 obtain ⟨fu0, h0⟩ := h0
 obtain ⟨fu1, h1⟩ := h1
 obtain ⟨fu2, h2⟩ := h2
 obtain ⟨s0, ho0, hr0⟩ := rd_T81 h0
 have hr0 : RepVs W A0 (cTrip s0) c0.toList := by simpa [Value.cells] using hr0
 obtain ⟨s1, ho1, e1⟩ := rd_T54 h1
 have hr1 : RepVs W A0 (eN s1) c1.toList := by
  have e : c1.toList = bV s1 := by simpa [Value.cells] using e1
  rw [e]; exact rep_bytes s1
 obtain ⟨s2, sv2, e2, hs2, hl2, ho2⟩ := rd_T82 h2
 have e2 : sv2 = Value.slice a2 l2 k2 := by simpa [Value.cells] using e2.symm
 subst e2
 refine ((dampStackY arCrush s0 ho0 s1 ho1 s2 hl2 ho2).calls (W := W) (vs := [.agg c0, .agg c1, .slice a2 l2 k2]) (laid0 W) (fun G => ?_)).mono ?_
 ·exact ⟨_, _, rfl, ⟨c0, rfl, RepDs.ofVs hr0⟩, _, _, rfl, ⟨c1, rfl, RepDs.ofVs hr1⟩, _, _, rfl, hs2, rfl⟩
 ·rintro e W' ⟨v, rfl, ⟨G', A', hr⟩, hb⟩
  obtain ⟨rfl, _⟩ := hr
  exact ⟨_, rfl, post_true tLaid (by decide +kernel) hW' hb rfl rfl u4 rfl rfl rfl⟩
theorem topDampStackHolds : Ytkkbfndajnmhmaa.Rows.topDampStackRow.holds Ytkkbfndajnmhmaa.Try.pinned (OpenSpec.ofChange Ytkkbfndajnmhmaa.Rows.topDampStackSpec) :=
 OpenClaim.holds_of_wide 6 Try.f6 rfl rfl rfl rfl rfl rfl rfl ⟨rfl, rfl, rfl, rfl, rfl⟩ rfl rfl rfl rfl rfl (by kernel_rfl) Try.func6 (by kernel_rfl)
  (of_decide_eq_true (by kernel_rfl)) (by unfold Func.isWrapper; first | (rw [if_pos (by decide +kernel)]; kernel_rfl) | (rw [if_neg (by decide +kernel)]; exact ⟨rfl, rfl⟩))
  (fun os started H enc _ => topDampStackLifted os started H enc)
end Go.Dw.Seat.Pa
namespace Go.Proofs.Ytkkbfndajnmhmaa
theorem topDampStackSaid : Rows.TopDampStackSaid := Go.Dw.Seat.Pa.topDampStackHolds
end Go.Proofs.Ytkkbfndajnmhmaa
end
