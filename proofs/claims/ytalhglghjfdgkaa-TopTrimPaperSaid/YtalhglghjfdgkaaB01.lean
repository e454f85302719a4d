/- Helpers of a proof. -/
import Derived.Test.YtalhglghjfdgkaaB00
set_option linter.unusedVariables false
set_option linter.unusedSimpArgs false
section
set_option linter.unusedSimpArgs false
set_option maxRecDepth 100000
namespace Go.Dw.Seat.Tr
open Go Go.Dw Go.Proofs Go.IntWalk
theorem dot_take : ∀ {ws : List Int} {l : List TOrd} {i : Nat} {n : Int} {o : TOrd}, ws[i]? = some n → l[i]? = some o → dotI (ws.take (i + 1)) l = dotI (ws.take i) l + n * o.w
 | [], _, _, _, _, h, _ => by simp at h
 | _ :: _, [], _, _, _, _, h => by simp at h
 | m :: ws, a :: l, 0, n, o, h1, h2 => by
  cases h1; cases h2
  simp [dotI]
 | m :: ws, a :: l, i + 1, n, o, h1, h2 => by
  have := dot_take (ws := ws) (l := l) (i := i) (n := n) (o := o) h1 h2
  rw [List.take_succ_cons, List.take_succ_cons, dotI, dotI, this]; omega
theorem sum_take : ∀ {ws : List Int} {i : Nat} {n : Int}, ws[i]? = some n → sumI (ws.take (i + 1)) = sumI (ws.take i) + n
 | [], _, _, h => by simp at h
 | m :: ws, 0, n, h => by cases h; simp [sumI]
 | m :: ws, i + 1, n, h => by
  have := sum_take (ws := ws) (i := i) (n := n) h
  rw [List.take_succ_cons, List.take_succ_cons, sumI, sumI, this]; omega
theorem used_take : ∀ {ws : List Int} {i : Nat} {n : Int}, ws[i]? = some n → usedI (ws.take (i + 1)) = usedI (ws.take i) + (if 0 < n then 1 else 0)
 | [], _, _, h => by simp at h
 | m :: ws, 0, n, h => by cases h; simp [usedI]
 | m :: ws, i + 1, n, h => by
  have := used_take (ws := ws) (i := i) (n := n) h
  rw [List.take_succ_cons, List.take_succ_cons, usedI, usedI, this]; omega
structure Ws4 (l : List TOrd) (ws : List Int) : Prop where
 len : ws.length = l.length
 b : ∀ n ∈ ws, 0 ≤ n ∧ n ≤ 4
theorem Ws4.nn {l : List TOrd} {ws : List Int} (h : Ws4 l ws) : ∀ n ∈ ws, 0 ≤ n := fun n hn => (h.b n hn).1
theorem dot_b : ∀ {ws : List Int} {l : List TOrd}, (∀ n ∈ ws, 0 ≤ n ∧ n ≤ 4) → (∀ o ∈ l, o.ok) → 0 ≤ dotI ws l ∧ dotI ws l ≤ 12000 * (l.length : Int)
 | [], _, _, _ => by simp [dotI]; omega
 | _ :: _, [], _, _ => by simp [dotI]
 | n :: ws, o :: l, h1, h2 => by
  have ih := dot_b (ws := ws) (l := l) (fun x hx => h1 x (by simp [hx])) (fun x hx => h2 x (by simp [hx]))
  have hn := h1 n (by simp)
  have ho := (h2 o (by simp)).w
  have m1 : 0 ≤ n * o.w := Int.mul_nonneg hn.1 (by omega)
  have m2 : n * o.w ≤ 4 * o.w := Int.mul_le_mul_of_nonneg_right hn.2 (by omega)
  simp only [dotI, List.length_cons, Int.natCast_add, Int.natCast_one]
  omega
theorem sum_b4 : ∀ {ws : List Int}, (∀ n ∈ ws, 0 ≤ n ∧ n ≤ 4) → (0 ≤ sumI ws ∧ sumI ws ≤ 4 * (ws.length : Int)) ∧ 0 ≤ usedI ws ∧ usedI ws ≤ (ws.length : Int)
 | [], _ => by simp [sumI, usedI]
 | n :: ws, h => by
  have ih := sum_b4 (ws := ws) (fun x hx => h x (by simp [hx]))
  have hn := h n (by simp)
  simp only [sumI, usedI, List.length_cons, Int.natCast_add, Int.natCast_one]
  split <;> omega
theorem wthn1 (lo hi x : Int) : wthn lo hi [x] = (decide (lo ≤ x) && decide (x ≤ hi)) := by
 rw [Bool.eq_iff_iff]
 simp only [Bool.and_eq_true, decide_eq_true_eq]
 exact ⟨fun h => wthn_one h, fun h => wthn_yes (by simpa using h)⟩
set_option maxHeartbeats 1000000 in
theorem trTrim (b1 b2 : Bool) (p : TPap) (hp : p.ok) (l : List TOrd) (hl : l.length ≤ 4) (ho : ∀ o ∈ l, o.ok) (ws : List Int) (hw : Ws4 l ws) : DCall Try.prog 116 [macD b1 p l, dIs b2 ws] [] (dI (trimI p l ws)) [] := by
 have hwl := hw.len
 have hwi := hp.wide
 refine DCall.of Try.func116 sf116 hb116 (Nat.le_of_ble_eq_true rfl) (okRes_nil fun _ => rfl) ?_; simp only [s116, idxs, Nat.reduceAdd]
 repeat' (first|(with_reducible first|apply qA|apply qB|apply qC|apply qD|apply qE|apply qF)|(simp (disch:=omega) only [go_sem, simprocAttr, Blk.men, Blk.keysIn])|exact qM rfl rfl rfl|(refine qG rfl ?_)|(refine qH rfl ?_)|(refine qI rfl ?_ ?_<;>intro hc<;>(try simp only [go_sem] at hc))|(refine qJ ?_ ?_<;>intro hc<;>(try simp only [hc])<;>(try simp only [go_sem] at hc)))
 refine DW.loop (ι := { i : Nat // i ≤ ws.length }) (fun i => ⟨30, [(13, dI i.1), (12, dI ws.length), (11, dIs b2 ws), (5, dI (p.wide - dotI (ws.take i.1) l)), (2, .box 2 0)], [(2, .box [dI p.wide, dI p.tl, dI p.th, dI p.webs, .c (.sl b1 3 (rows eO l))])]⟩) (fun i => ws.length - i.1) ⟨0, Nat.zero_le _⟩ ?_ ?_
 ·refine Ent.to ?_ ?_ <;> simp (disch:=omega) only [qR,qS,qTw,qU,get,Nat.reduceEqDiff,↓reduceIte,qV,qW,qX,qY,qZ,and_self,dI,i64_in,and_true,true_and,rA,rB,rC,rD,List.take_zero,dotI,Int.sub_zero]
  all_goals first | exact ⟨.refl _, .refl _⟩ | exact .refl _
 rintro ⟨i, hi⟩
 dsimp only
 rcases at_or ws i hi with ⟨n, hn, hlt, hd⟩ | ⟨he, hd⟩
 ·obtain ⟨o, hoi⟩ := getE (l := l) (i := i) (by omega)
  have hnb := hw.b n (List.mem_of_getElem? hn)
  have hob := (ho o (List.mem_of_getElem? hoi)).w
  have ht := dot_take hn hoi
  have hdb := dot_b (ws := ws.take i) (l := l) (fun x hx => hw.b x (List.mem_of_mem_take hx)) ho
  have m1 : 0 ≤ n * o.w := Int.mul_nonneg hnb.1 (by omega)
  have m2 : n * o.w ≤ 4 * o.w := Int.mul_le_mul_of_nonneg_right hnb.2 (by omega)
  have w1 : IntKind.i64.wrap (n * o.w) = n * o.w := IntWalk.i64_in _ (by omega)
  have w2 : IntKind.i64.wrap (p.wide - dotI (ws.take i) l - n * o.w) = p.wide - dotI (ws.take i) l - n * o.w := IntWalk.i64_in _ (by omega)
  have hs : p.wide - dotI (ws.take (i + 1)) l = p.wide - dotI (ws.take i) l - n * o.w := by omega
  generalize p.wide - dotI (ws.take i) l = A at *
  repeat' (first|(with_reducible first|apply qA|apply qB|apply qC|apply qD|apply qE|apply qF)|(simp (disch:=omega) only [go_sem, simprocAttr, Blk.men, Blk.keysIn, hd, hn, hoi, w1, w2, rF, rG])|exact qM rfl rfl rfl|(refine qG rfl ?_)|(refine qH rfl ?_)|(refine qI rfl ?_ ?_<;>intro hc<;>(try simp only [go_sem] at hc))|(refine qJ ?_ ?_<;>intro hc<;>(try simp only [hc])<;>(try simp only [go_sem] at hc)))
  refine ⟨⟨i + 1, hlt⟩, ?_, Ent.to ?_ ?_⟩ <;> first | (show _ < _; (try simp only); omega) | (simp (disch:=omega) only [qR,qS,qTw,qU,get,Nat.reduceEqDiff,↓reduceIte,qV,qW,qX,qY,qZ,and_self,dI,i64_in,and_true,true_and,rA,rB,rC,rD, hs])
  all_goals first | exact ⟨.refl _, .refl _⟩ | exact .refl _
 ·repeat' (first|(with_reducible first|apply qA|apply qB|apply qC|apply qD|apply qE|apply qF)|(simp (disch:=omega) only [go_sem, simprocAttr, Blk.men, Blk.keysIn, hd])|exact qM rfl rfl rfl|(refine qG rfl ?_)|(refine qH rfl ?_)|(refine qI rfl ?_ ?_<;>intro hc<;>(try simp only [go_sem] at hc))|(refine qJ ?_ ?_<;>intro hc<;>(try simp only [hc])<;>(try simp only [go_sem] at hc)))
  refine retS_of rfl ?_ rfl; simp only [oneD, St.op, get, Nat.reduceEqDiff, ↓reduceIte, Option.getD_some, bD, dI]
  rw [he, List.take_length]; rfl
end Go.Dw.Seat.Tr
end
section
set_option linter.unusedSimpArgs false
set_option maxRecDepth 100000
namespace Go.Dw.Seat.Tr
open Go Go.Dw Go.Proofs Go.IntWalk
set_option maxHeartbeats 2000000 in
theorem trIsPat (b1 b2 : Bool) (p : TPap) (hp : p.ok) (l : List TOrd) (hl : l.length ≤ 4) (ho : ∀ o ∈ l, o.ok) (ws : List Int) (hw : Ws4 l ws) : DCall Try.prog 156 [macD b1 p l, dIs b2 ws] [] (bD (patB p l ws)) [] := by
 have hwl := hw.len
 have h1 := trWithin true 1 p.webs [sumI ws] (by simp)
 have h2 := trWithin true p.tl p.th [trimI p l ws] (by simp)
 have h3 := trTrim b1 b2 p hp l hl ho ws hw
 have hE : patB p l ws = (wthn 1 p.webs [sumI ws] && decide (usedI ws ≤ 2) && wthn p.tl p.th [trimI p l ws]) := by rw [patB, wthn1, wthn1]
 rw [hE]
 clear hE
 generalize trimI p l ws = t at *
 refine DCall.of Try.func156 sf156 hb156 (Nat.le_of_ble_eq_true rfl) (okRes_nil fun _ => rfl) ?_; simp only [s156, idxs, Nat.reduceAdd]
 repeat' (first|(with_reducible first|apply qA|apply qB|apply qC|apply qD|apply qE|apply qF)|(refine qL rfl (WF.of ?_) ?_; first|rfl|skip)|(simp (disch:=omega) only [go_sem, simprocAttr, Blk.men, Blk.keysIn])|exact qM rfl rfl rfl|(refine qG rfl ?_)|(refine qH rfl ?_)|(refine qI rfl ?_ ?_<;>intro hc<;>(try simp only [go_sem] at hc))|(refine qJ ?_ ?_<;>intro hc<;>(try simp only [hc])<;>(try simp only [go_sem] at hc)))
 refine DW.loop (ι := { i : Nat // i ≤ ws.length }) (fun i => ⟨48, [(11, dI i.1), (10, dI ws.length), (9, dIs b2 ws), (6, dI (usedI (ws.take i.1))), (5, dI (sumI (ws.take i.1))), (2, .box 2 0), (1, dIs b2 ws)], [(2, .box [dI p.wide, dI p.tl, dI p.th, dI p.webs, .c (.sl b1 3 (rows eO l))])]⟩) (fun i => ws.length - i.1) ⟨0, Nat.zero_le _⟩ ?_ ?_
 ·refine Ent.to ?_ ?_ <;> simp (disch:=omega) only [qR,qS,qTw,qU,get,Nat.reduceEqDiff,↓reduceIte,qV,qW,qX,qY,qZ,and_self,dI,i64_in,and_true,true_and,rA,rB,rC,rD,List.take_zero,sumI,usedI]
  all_goals first | exact ⟨.refl _, .refl _⟩ | exact .refl _
 rintro ⟨i, hi⟩
 dsimp only
 rcases at_or ws i hi with ⟨n, hn, hlt, hd⟩ | ⟨he, hd⟩
 ·have hnb := hw.b n (List.mem_of_getElem? hn)
  have hb := sum_b4 (ws := ws.take i) (fun x hx => hw.b x (List.mem_of_mem_take hx))
  rw [List.length_take] at hb
  have hs := sum_take hn
  have hu := used_take hn
  generalize sumI (ws.take i) = A at *
  generalize usedI (ws.take i) = B at *
  by_cases hc : 0 < n
  ·have hd2 : decide (0 < n) = true := decide_eq_true hc
   rw [if_pos hc] at hu
   repeat' (first|(with_reducible first|apply qA|apply qB|apply qC|apply qD|apply qE|apply qF)|(refine qL rfl (WF.of ?_) ?_; first|rfl|skip)|(simp (disch:=omega) only [go_sem, simprocAttr, Blk.men, Blk.keysIn, hd, hn, hd2])|exact qM rfl rfl rfl|(refine qG rfl ?_)|(refine qH rfl ?_)|(refine qI rfl ?_ ?_<;>intro hc<;>(try simp only [go_sem] at hc))|(refine qJ ?_ ?_<;>intro hc<;>(try simp only [hc])<;>(try simp only [go_sem] at hc)))
   refine ⟨⟨i + 1, hlt⟩, ?_, Ent.to ?_ ?_⟩ <;> first | (show _ < _; (try simp only); omega) | (simp (disch:=omega) only [qR,qS,qTw,qU,get,Nat.reduceEqDiff,↓reduceIte,qV,qW,qX,qY,qZ,and_self,dI,i64_in,and_true,true_and,rA,rB,rC,rD, hs,hu])
   all_goals first | exact ⟨.refl _, .refl _⟩ | exact .refl _
  ·have hd2 : decide (0 < n) = false := decide_eq_false hc
   rw [if_neg hc, Int.add_zero] at hu
   repeat' (first|(with_reducible first|apply qA|apply qB|apply qC|apply qD|apply qE|apply qF)|(refine qL rfl (WF.of ?_) ?_; first|rfl|skip)|(simp (disch:=omega) only [go_sem, simprocAttr, Blk.men, Blk.keysIn, hd, hn, hd2])|exact qM rfl rfl rfl|(refine qG rfl ?_)|(refine qH rfl ?_)|(refine qI rfl ?_ ?_<;>intro hc<;>(try simp only [go_sem] at hc))|(refine qJ ?_ ?_<;>intro hc<;>(try simp only [hc])<;>(try simp only [go_sem] at hc)))
   refine ⟨⟨i + 1, hlt⟩, ?_, Ent.to ?_ ?_⟩ <;> first | (show _ < _; (try simp only); omega) | (simp (disch:=omega) only [qR,qS,qTw,qU,get,Nat.reduceEqDiff,↓reduceIte,qV,qW,qX,qY,qZ,and_self,dI,i64_in,and_true,true_and,rA,rB,rC,rD, hs,hu])
   all_goals first | exact ⟨.refl _, .refl _⟩ | exact .refl _
 ·subst he
  rw [List.take_length]
  generalize sumI ws = A at *
  generalize usedI ws = B at *
  cases e1 : wthn 1 p.webs [A] <;> rw [e1] at h1
  ·repeat' (first|(with_reducible first|apply qA|apply qB|apply qC|apply qD|apply qE|apply qF)|(refine qL rfl (WF.of ?_) ?_; first|rfl|skip)|(simp (disch:=omega) only [go_sem, simprocAttr, Blk.men, Blk.keysIn, hd])|exact qM rfl rfl rfl|(refine qG rfl ?_)|(refine qK (h1) (by decide) ?_)|(refine qH rfl ?_)|(refine qI rfl ?_ ?_<;>intro hc<;>(try simp only [go_sem] at hc))|(refine qJ ?_ ?_<;>intro hc<;>(try simp only [hc])<;>(try simp only [go_sem] at hc)))
  cases e2 : decide (B ≤ 2)
  ·repeat' (first|(with_reducible first|apply qA|apply qB|apply qC|apply qD|apply qE|apply qF)|(refine qL rfl (WF.of ?_) ?_; first|rfl|skip)|(simp (disch:=omega) only [go_sem, simprocAttr, Blk.men, Blk.keysIn, hd, e2])|exact qM rfl rfl rfl|(refine qG rfl ?_)|(refine qK (h1) (by decide) ?_)|(refine qH rfl ?_)|(refine qI rfl ?_ ?_<;>intro hc<;>(try simp only [go_sem] at hc))|(refine qJ ?_ ?_<;>intro hc<;>(try simp only [hc])<;>(try simp only [go_sem] at hc)))
  cases e3 : wthn p.tl p.th [t] <;> rw [e3] at h2
  ·repeat' (first|(with_reducible first|apply qA|apply qB|apply qC|apply qD|apply qE|apply qF)|(refine qL rfl (WF.of ?_) ?_; first|rfl|skip)|(simp (disch:=omega) only [go_sem, simprocAttr, Blk.men, Blk.keysIn, hd, e2])|exact qM rfl rfl rfl|(refine qG rfl ?_)|(refine qK (h1) (by decide) ?_)|(refine qK (h3) (by decide) ?_)|(refine qK (h2) (by decide) ?_)|(refine qH rfl ?_)|(refine qI rfl ?_ ?_<;>intro hc<;>(try simp only [go_sem] at hc))|(refine qJ ?_ ?_<;>intro hc<;>(try simp only [hc])<;>(try simp only [go_sem] at hc)))
  ·repeat' (first|(with_reducible first|apply qA|apply qB|apply qC|apply qD|apply qE|apply qF)|(refine qL rfl (WF.of ?_) ?_; first|rfl|skip)|(simp (disch:=omega) only [go_sem, simprocAttr, Blk.men, Blk.keysIn, hd, e2])|exact qM rfl rfl rfl|(refine qG rfl ?_)|(refine qK (h1) (by decide) ?_)|(refine qK (h3) (by decide) ?_)|(refine qK (h2) (by decide) ?_)|(refine qH rfl ?_)|(refine qI rfl ?_ ?_<;>intro hc<;>(try simp only [go_sem] at hc))|(refine qJ ?_ ?_<;>intro hc<;>(try simp only [hc])<;>(try simp only [go_sem] at hc)))
def websE (p : TPap) (l : List TOrd) (ws : List Int) : Int := if ws.length ≠ l.length ∨ wthn 0 4 ws = false then 4 else if patB p l ws = false then 7 else 0
theorem websE_ok {p : TPap} {l : List TOrd} {ws : List Int} (h : websE p l ws = 0) : Ws4 l ws ∧ patB p l ws = true := by
 unfold websE at h
 split at h
 ·cases h
 ·rename_i h1
  split at h
  ·cases h
  ·rename_i h2
   simp only [not_or, Classical.not_not, Bool.not_eq_false] at h1
   exact ⟨⟨h1.1, wthn_all h1.2⟩, by simpa using h2⟩
theorem websE_yes {p : TPap} {l : List TOrd} {ws : List Int} (h : Ws4 l ws) (hp : patB p l ws = true) : websE p l ws = 0 := by
 unfold websE
 rw [if_neg, if_neg (by rw [hp]; decide)]
 rw [wthn_yes h.b]
 simp [h.len]
theorem trWebs (b1 b2 : Bool) (p : TPap) (hp : p.ok) (l : List TOrd) (hl : l.length ≤ 4) (ho : ∀ o ∈ l, o.ok) (ws : List Int) (hwl : ws.length ≤ 2 ^ 36) : DCall Try.prog 141 [macD b1 p l, dIs b2 ws] [] (dI (websE p l ws)) [] := by
 have h1 := trWithin b2 0 4 ws hwl
 by_cases hlen : ws.length = l.length
 case neg =>
  have hd : ((ws.length : Int) != (l.length : Int)) = true := by rw [bne_iff_ne]; omega
  have hE : websE p l ws = 4 := if_pos (.inl hlen)
  rw [hE]
  refine DCall.of Try.func141 sf141 hb141 (Nat.le_of_ble_eq_true rfl) (okRes_nil fun _ => rfl) ?_; simp only [s141, idxs, Nat.reduceAdd]
  repeat' (first|(with_reducible first|apply qA|apply qB|apply qC|apply qD|apply qE|apply qF)|(simp (disch:=omega) only [go_sem, simprocAttr, Blk.men, Blk.keysIn, hd])|exact qM rfl rfl rfl|(refine qG rfl ?_)|(refine qH rfl ?_)|(refine qI rfl ?_ ?_<;>intro hc<;>(try simp only [go_sem] at hc))|(refine qJ ?_ ?_<;>intro hc<;>(try simp only [hc])<;>(try simp only [go_sem] at hc)))
 have hd : ((ws.length : Int) != (l.length : Int)) = false := by rw [hlen]; simp
 cases e1 : wthn 0 4 ws <;> rw [e1] at h1
 ·have hE : websE p l ws = 4 := if_pos (.inr e1)
  rw [hE]
  refine DCall.of Try.func141 sf141 hb141 (Nat.le_of_ble_eq_true rfl) (okRes_nil fun _ => rfl) ?_; simp only [s141, idxs, Nat.reduceAdd]
  repeat' (first|(with_reducible first|apply qA|apply qB|apply qC|apply qD|apply qE|apply qF)|(simp (disch:=omega) only [go_sem, simprocAttr, Blk.men, Blk.keysIn, hd])|exact qM rfl rfl rfl|(refine qG rfl ?_)|(refine qK (h1) (by decide) ?_)|(refine qH rfl ?_)|(refine qI rfl ?_ ?_<;>intro hc<;>(try simp only [go_sem] at hc))|(refine qJ ?_ ?_<;>intro hc<;>(try simp only [hc])<;>(try simp only [go_sem] at hc)))
 have hw : Ws4 l ws := ⟨hlen, wthn_all e1⟩
 have h2 := trIsPat b1 b2 p hp l hl ho ws hw
 have hn : ¬ (ws.length ≠ l.length ∨ wthn 0 4 ws = false) := by rw [e1]; simp [hlen]
 cases e2 : patB p l ws <;> rw [e2] at h2
 ·have hE : websE p l ws = 7 := by unfold websE; rw [if_neg hn, if_pos e2]
  rw [hE]
  refine DCall.of Try.func141 sf141 hb141 (Nat.le_of_ble_eq_true rfl) (okRes_nil fun _ => rfl) ?_; simp only [s141, idxs, Nat.reduceAdd]
  repeat' (first|(with_reducible first|apply qA|apply qB|apply qC|apply qD|apply qE|apply qF)|(simp (disch:=omega) only [go_sem, simprocAttr, Blk.men, Blk.keysIn, hd])|exact qM rfl rfl rfl|(refine qG rfl ?_)|(refine qK (h1) (by decide) ?_)|(refine qK (h2) (by decide) ?_)|(refine qH rfl ?_)|(refine qI rfl ?_ ?_<;>intro hc<;>(try simp only [go_sem] at hc))|(refine qJ ?_ ?_<;>intro hc<;>(try simp only [hc])<;>(try simp only [go_sem] at hc)))
 ·have hE : websE p l ws = 0 := websE_yes hw e2
  rw [hE]
  refine DCall.of Try.func141 sf141 hb141 (Nat.le_of_ble_eq_true rfl) (okRes_nil fun _ => rfl) ?_; simp only [s141, idxs, Nat.reduceAdd]
  repeat' (first|(with_reducible first|apply qA|apply qB|apply qC|apply qD|apply qE|apply qF)|(simp (disch:=omega) only [go_sem, simprocAttr, Blk.men, Blk.keysIn, hd])|exact qM rfl rfl rfl|(refine qG rfl ?_)|(refine qK (h1) (by decide) ?_)|(refine qK (h2) (by decide) ?_)|(refine qH rfl ?_)|(refine qI rfl ?_ ?_<;>intro hc<;>(try simp only [go_sem] at hc))|(refine qJ ?_ ?_<;>intro hc<;>(try simp only [hc])<;>(try simp only [go_sem] at hc)))
end Go.Dw.Seat.Tr
end
section
set_option linter.unusedSimpArgs false
set_option maxRecDepth 100000
namespace Go.Dw.Seat.Tr
open Go Go.Dw Go.Proofs Go.IntWalk
def wrO (q : TOrd × Int) : Bool := !wthn q.1.lo q.1.hi [q.2]
def wrongI (l : List TOrd) (g : List Int) : Int := idxI wrO (l.zip g)
set_option maxHeartbeats 1000000 in
theorem trWrong (b b2 : Bool) (p : TPap) (l : List TOrd) (hl : l.length ≤ 4) (g : List Int) (hg : g.length = l.length) : DCall Try.prog 106 [macD b p l, dIs b2 g] [] (dI (wrongI l g)) [] := by
 refine DCall.of Try.func106 sf106 hb106 (Nat.le_of_ble_eq_true rfl) (okRes_nil fun _ => rfl) ?_; simp only [s106, idxs, Nat.reduceAdd]
 repeat' (first|(with_reducible first|apply qA|apply qB|apply qC|apply qD|apply qE|apply qF)|(refine qL rfl (WF.of ?_) ?_; first|rfl|skip)|(simp (disch:=omega) only [go_sem, simprocAttr, Blk.men, Blk.keysIn])|exact qM rfl rfl rfl|(refine qG rfl ?_)|(refine qH rfl ?_)|(refine qI rfl ?_ ?_<;>intro hc<;>(try simp only [go_sem] at hc))|(refine qJ ?_ ?_<;>intro hc<;>(try simp only [hc])<;>(try simp only [go_sem] at hc)))
 refine DW.loop (ι := { i : Nat // i ≤ l.length ∧ ∀ j u, j < i → (l.zip g)[j]? = some u → wrO u = false }) (fun i => ⟨30, [(10, dI i.1), (9, dI l.length), (8, .c (.sl b 3 (rows eO l))), (1, dIs b2 g)], []⟩) (fun i => l.length - i.1) ⟨0, Nat.zero_le _, fun j u h => by omega⟩ ?_ ?_
 ·refine Ent.to ?_ ?_ <;> simp (disch:=omega) only [qR,qS,qTw,qU,get,Nat.reduceEqDiff,↓reduceIte,qV,qW,qX,qY,qZ,and_self,dI,i64_in,and_true,true_and,rA,rB,rC,rD]
  all_goals first | exact ⟨.refl _, .refl _⟩ | exact .refl _
 rintro ⟨i, hi, hij⟩
 dsimp only
 rcases at_or l i hi with ⟨o, ho, hlt, hd⟩ | ⟨he, hd⟩
 ·obtain ⟨n, hn⟩ := getE (l := g) (i := i) (by omega)
  have hz : (l.zip g)[i]? = some (o, n) := by rw [List.getElem?_zip_eq_some]; exact ⟨ho, hn⟩
  have h1 := trWithin true o.lo o.hi [n] (by simp)
  cases e1 : wthn o.lo o.hi [n] <;> rw [e1] at h1
  ·repeat' (first|(with_reducible first|apply qA|apply qB|apply qC|apply qD|apply qE|apply qF)|(refine qL rfl (WF.of ?_) ?_; first|rfl|skip)|(simp (disch:=omega) only [go_sem, simprocAttr, Blk.men, Blk.keysIn, hd, ho, hn, rF, rG])|exact qM rfl rfl rfl|(refine qG rfl ?_)|(refine qK (h1) (by decide) ?_)|(refine qH rfl ?_)|(refine qI rfl ?_ ?_<;>intro hc<;>(try simp only [go_sem] at hc))|(refine qJ ?_ ?_<;>intro hc<;>(try simp only [hc])<;>(try simp only [go_sem] at hc)))
   refine retS_of rfl ?_ rfl; simp only [oneD, St.op, get, Nat.reduceEqDiff, ↓reduceIte, Option.getD_some, bD, dI]
   simp only [wrongI, idxI, idxOf_some hij hz (show wrO (o, n) = true by simp only [wrO, e1]; rfl)]
  ·repeat' (first|(with_reducible first|apply qA|apply qB|apply qC|apply qD|apply qE|apply qF)|(refine qL rfl (WF.of ?_) ?_; first|rfl|skip)|(simp (disch:=omega) only [go_sem, simprocAttr, Blk.men, Blk.keysIn, hd, ho, hn, rF, rG])|exact qM rfl rfl rfl|(refine qG rfl ?_)|(refine qK (h1) (by decide) ?_)|(refine qH rfl ?_)|(refine qI rfl ?_ ?_<;>intro hc<;>(try simp only [go_sem] at hc))|(refine qJ ?_ ?_<;>intro hc<;>(try simp only [hc])<;>(try simp only [go_sem] at hc)))
   refine ⟨⟨i + 1, by omega, fun j u hj hu => by
    rcases Nat.lt_or_ge j i with h | h
    ·exact hij j u h hu
    ·have : j = i := by omega
     subst this
     rw [hz] at hu; cases hu; simp only [wrO, e1]; rfl⟩, ?_, Ent.to ?_ ?_⟩ <;> first | (show _ < _; (try simp only); omega) | (simp (disch:=omega) only [qR,qS,qTw,qU,get,Nat.reduceEqDiff,↓reduceIte,qV,qW,qX,qY,qZ,and_self,dI,i64_in,and_true,true_and,rA,rB,rC,rD])
   all_goals first | exact ⟨.refl _, .refl _⟩ | exact .refl _
 ·have hzl : (l.zip g).length = i := by rw [List.length_zip]; omega
  repeat' (first|(with_reducible first|apply qA|apply qB|apply qC|apply qD|apply qE|apply qF)|(refine qL rfl (WF.of ?_) ?_; first|rfl|skip)|(simp (disch:=omega) only [go_sem, simprocAttr, Blk.men, Blk.keysIn, hd])|exact qM rfl rfl rfl|(refine qG rfl ?_)|(refine qH rfl ?_)|(refine qI rfl ?_ ?_<;>intro hc<;>(try simp only [go_sem] at hc))|(refine qJ ?_ ?_<;>intro hc<;>(try simp only [hc])<;>(try simp only [go_sem] at hc)))
  refine retS_of rfl ?_ rfl; simp only [oneD, St.op, get, Nat.reduceEqDiff, ↓reduceIte, Option.getD_some, bD, dI]
  simp only [wrongI, idxI, idxOf_none (show ∀ j u, j < (l.zip g).length → (l.zip g)[j]? = some u → wrO u = false from hzl ▸ hij)]
theorem addG_take : ∀ {g ws : List Int} {r : Int} {i : Nat} {n : Int}, ws[i]? = some n → i < g.length → ∃ x, g[i]? = some x ∧ (addG g (ws.take i) r)[i]? = some x ∧ (addG g (ws.take i) r).set i (x + n * r) = addG g (ws.take (i + 1)) r
 | [], _, _, _, _, _, h => by simp at h
 | _ :: _, [], _, _, _, h, _ => by simp at h
 | g :: gs, m :: ws, r, 0, n, h, _ => by
  cases h
  exact ⟨g, rfl, rfl, by simp [addG]⟩
 | g :: gs, m :: ws, r, i + 1, n, h, hl => by
  obtain ⟨x, h1, h2, h3⟩ := addG_take (g := gs) (ws := ws) (r := r) (i := i) (n := n) h (by simpa using hl)
  refine ⟨x, h1, ?_, ?_⟩
  ·rw [List.take_succ_cons, addG]; exact h2
  ·rw [List.take_succ_cons, List.take_succ_cons, addG, addG, List.set_cons_succ, h3]
theorem addG_nil (g : List Int) (r : Int) : addG g [] r = g := by cases g <;> rfl
set_option maxHeartbeats 1000000 in
theorem trAdd (b bw : Bool) (g ws : List Int) (r : Int) (hg : ∀ v ∈ g, 0 ≤ v ∧ v ≤ 1000000) (hl : g.length ≤ 4) (hwl : ws.length ≤ g.length) (hw : ∀ n ∈ ws, 0 ≤ n ∧ n ≤ 4) (hr : 0 ≤ r ∧ r ≤ 100) : DCall Try.prog 135 [dIs b g, .agg [dIs bw ws, dI r]] [] (dIs false (addG g ws r)) [] := by
 refine DCall.of Try.func135 sf135 hb135 (Nat.le_of_ble_eq_true rfl) (okRes_nil fun _ => rfl) ?_; simp only [s135, idxs, Nat.reduceAdd]
 repeat' (first|(with_reducible first|apply qA|apply qB|apply qC|apply qD|apply qE|apply qF)|(refine qL rfl (WF.of ?_) ?_; first|rfl|skip)|(simp (disch:=omega) only [go_sem, simprocAttr, Blk.men, Blk.keysIn])|exact qM rfl rfl rfl|(refine qG rfl ?_)|(refine qH rfl ?_)|(refine qI rfl ?_ ?_<;>intro hc<;>(try simp only [go_sem] at hc))|(refine qJ ?_ ?_<;>intro hc<;>(try simp only [hc])<;>(try simp only [go_sem] at hc)))
 (refine call_r (c106 b g (by omega) 9) (by decide) (by first | rfl | simp (disch:=omega) only [go_sem,simprocAttr,Blk.men,Blk.keysIn]) (by first | rfl | simp (disch:=omega) only [go_sem,simprocAttr,Blk.men,Blk.keysIn]) ?_; simp (disch:=omega) only [go_sem,simprocAttr,Blk.men,Blk.keysIn])
 repeat' (first|(with_reducible first|apply qA|apply qB|apply qC|apply qD|apply qE|apply qF)|(refine qL rfl (WF.of ?_) ?_; first|rfl|skip)|(simp (disch:=omega) only [go_sem, simprocAttr, Blk.men, Blk.keysIn])|exact qM rfl rfl rfl|(refine qG rfl ?_)|(refine qH rfl ?_)|(refine qI rfl ?_ ?_<;>intro hc<;>(try simp only [go_sem] at hc))|(refine qJ ?_ ?_<;>intro hc<;>(try simp only [hc])<;>(try simp only [go_sem] at hc)))
 refine DW.loop (ι := { i : Nat // i ≤ ws.length }) (fun i => ⟨30, [(13, dI i.1), (12, dI ws.length), (11, dIs bw ws), (5, .own 9), (3, .box 3 0)], [(9, .row 1 (rowC (rows eI (addG g (ws.take i.1) r)))), (3, .box [dIs bw ws, dI r])]⟩) (fun i => ws.length - i.1) ⟨0, Nat.zero_le _⟩ ?_ ?_
 ·refine Ent.to ?_ ?_ <;> simp (disch:=omega) only [qR,qS,qTw,qU,get,Nat.reduceEqDiff,↓reduceIte,qV,qW,qX,qY,qZ,and_self,dI,i64_in,and_true,true_and,rA,rB,rC,rD,List.take_zero,addG_nil]
  all_goals first | exact ⟨.refl _, .refl _⟩ | exact .refl _
 rintro ⟨i, hi⟩
 dsimp only
 rcases at_or ws i hi with ⟨n, hn, hlt, hd⟩ | ⟨he, hd⟩
 ·obtain ⟨x, hx, hx2, hset⟩ := addG_take (g := g) (ws := ws) (r := r) (i := i) hn (by omega)
  have hxb := hg x (List.mem_of_getElem? hx)
  have hnb := hw n (List.mem_of_getElem? hn)
  have m1 : 0 ≤ n * r := Int.mul_nonneg hnb.1 hr.1
  have m2 : n * r ≤ 4 * r := Int.mul_le_mul_of_nonneg_right hnb.2 hr.1
  have hal : (addG g (ws.take i) r).length = g.length := addG_len _ _ _
  have hil : (i < (addG g (ws.take i) r).length) = True := eq_true (by omega)
  generalize addG g (ws.take i) r = G at *
  have w1 : IntKind.i64.wrap (n * r) = n * r := IntWalk.i64_in _ (by omega)
  have w2 : IntKind.i64.wrap (x + n * r) = x + n * r := IntWalk.i64_in _ (by omega)
  repeat' (first|(with_reducible first|apply qA|apply qB|apply qC|apply qD|apply qE|apply qF)|(refine qL rfl (WF.of ?_) ?_; first|rfl|skip)|(simp (disch:=omega) only [go_sem, simprocAttr, Blk.men, Blk.keysIn, hd, hn, hx2, hil, w1, w2, rowC_set1, rows_setI, hset, rF, rG])|exact qM rfl rfl rfl|(refine qG rfl ?_)|(refine qH rfl ?_)|(refine qI rfl ?_ ?_<;>intro hc<;>(try simp only [go_sem] at hc))|(refine qJ ?_ ?_<;>intro hc<;>(try simp only [hc])<;>(try simp only [go_sem] at hc)))
  refine ⟨⟨i + 1, hlt⟩, ?_, Ent.to ?_ ?_⟩ <;> first | (show _ < _; (try simp only); omega) | (simp (disch:=omega) only [qR,qS,qTw,qU,get,Nat.reduceEqDiff,↓reduceIte,qV,qW,qX,qY,qZ,and_self,dI,i64_in,and_true,true_and,rA,rB,rC,rD])
  all_goals first | exact ⟨.refl _, .refl _⟩ | exact .refl _
 ·subst he
  rw [List.take_length]
  repeat' (first|(with_reducible first|apply qA|apply qB|apply qC|apply qD|apply qE|apply qF)|(refine qL rfl (WF.of ?_) ?_; first|rfl|skip)|(simp (disch:=omega) only [go_sem, simprocAttr, Blk.men, Blk.keysIn, hd])|exact qM rfl rfl rfl|(refine qG rfl ?_)|(refine qH rfl ?_)|(refine qI rfl ?_ ?_<;>intro hc<;>(try simp only [go_sem] at hc))|(refine qJ ?_ ?_<;>intro hc<;>(try simp only [hc])<;>(try simp only [go_sem] at hc)))
  (refine retS_ent (Ent.rel 9 rfl) ?_; simp (disch:=omega) only [go_sem,simprocAttr,Blk.men,Blk.keysIn])
  refine retS_wk rfl ?_ (by simp only [Blk.nb, rowC_nb, D.nb, D.nbs, C.nb, C.nbs, C.nbss, rows_nb eI_nb, Bool.and_true, Bool.not_false, Bool.and_self, bD, dI, iD, rows_nb eO_nb]); exact .refl _
end Go.Dw.Seat.Tr
end
section
set_option linter.unusedSimpArgs false
set_option maxRecDepth 100000
namespace Go.Dw.Seat.Tr
open Go Go.Dw Go.Proofs Go.IntWalk
def eSt (s : TStp) : List C := [.sl false 1 (rows eI s.ws), .v (.int .i64 s.run)]
theorem eSt_nb (s : TStp) : C.nbs (eSt s) = true := by
 simp only [eSt, C.nbs, C.nb, rows_nb eI_nb, Bool.and_self, Bool.not_false]
attribute [go_sem] eSt
abbrev dSt (b : Bool) (q : List TStp) : D := .c (.sl b 2 (rows eSt q))
theorem trClipS (q : List TStp) : DCall Try.prog 134 [dSt false q] [] (.c (.cl false 2 (rows eSt q))) [] := by
 refine DCall.of Try.func134 sf134 hb134 (Nat.le_of_ble_eq_true rfl) (okRes_nil fun _ => rfl) ?_; simp only [s134, idxs, Nat.reduceAdd]
 repeat' (first|(with_reducible first|apply qA|apply qB|apply qC|apply qD|apply qE|apply qF)|(simp (disch:=omega) only [go_sem, simprocAttr, qN, qO, qP, qQ, Int.le_refl])|exact qM rfl rfl rfl|(refine qG rfl ?_)|(refine qH rfl ?_)|(refine qI rfl ?_ ?_<;>intro hc<;>(try simp only [go_sem] at hc))|(refine qJ ?_ ?_<;>intro hc<;>(try simp only [hc])<;>(try simp only [go_sem] at hc)))
 refine retS_wk rfl ?_ (by simp only [Blk.nb, rowC_nb, D.nb, D.nbs, C.nb, C.nbs, C.nbss, rows_nb eI_nb, Bool.and_true, Bool.not_false, Bool.and_self, bD, dI, iD, rows_nb eO_nb, rows_nb eSt_nb]); exact .refl _
def stE (p : TPap) (l : List TOrd) (prev : Option TStp) (s : TStp) : Int :=
 if websE p l s.ws ≠ 0 then websE p l s.ws else if wthn 1 30 [s.run] = false then 3 else if (match prev with | none => false | some w => decide (0 ≤ cmpL w.ws s.ws)) = true then 6 else 0
def getR (p : TPap) (l : List TOrd) : Option TStp → List Int → Int → Nat → List TStp → (List Int × Int) ⊕ (Nat × Int)
 | _, got, w, _, [] => .inl (got, w)
 | prev, got, w, i, s :: q => if stE p l prev s ≠ 0 then .inr (i, stE p l prev s) else getR p l (some s) (addG got s.ws s.run) (w + trimI p l s.ws * s.run) (i + 1) q
end Go.Dw.Seat.Tr
end
section
set_option linter.unusedSimpArgs false
set_option maxRecDepth 100000
namespace Go.Dw.Seat.Tr
open Go Go.Dw Go.Proofs Go.IntWalk
attribute [go_sem] dSt
theorem trCloneS (b : Bool) (l : List TStp) (hl : l.length ≤ 2 ^ 36) (k : Nat) : DCall Try.prog 132 [dSt b l] [] (.own k) [(k, .row 2 (rowC (rows eSt l)))] := by
 have hnb : ∀ l : List TStp, Blk.nb (.row 2 (rowC (rows eSt l))) = true := fun l => rowC_nb (rows_nb eSt_nb l)
 refine DCall.rename (k0 := 5) ?_ k
 cases l with
 | nil =>
  refine DCall.nil1 (fun a c => ?_)
  cases a with
  | none =>
   refine DCall.of Try.func132 sf132 hb132 (Nat.le_of_ble_eq_true rfl) okRes_row ?_; simp only [s132, idxs, Nat.reduceAdd]
   repeat' (first|(with_reducible first|apply qA|apply qB|apply qC|apply qD|apply qE|apply qF)|(simp (disch:=omega) only [go_sem, simprocAttr, qN, qO, qP, qQ, Option.isNone])|exact qM rfl rfl rfl|(refine qG rfl ?_)|(refine qH rfl ?_)|(refine qI rfl ?_ ?_<;>intro hc<;>(try simp only [go_sem] at hc))|(refine qJ ?_ ?_<;>intro hc<;>(try simp only [hc])<;>(try simp only [go_sem] at hc)))
   refine retS_ent (Ent.adopt 2 5 2 rfl rfl rfl) ?_
   simp (disch:=omega) only [go_sem,simprocAttr,qN,qO,qP,qQ]
   refine retS_row ?_ ?_ (hnb []) <;> rfl
  | some a =>
   refine DCall.of Try.func132 sf132 hb132 (Nat.le_of_ble_eq_true rfl) okRes_row ?_; simp only [s132, idxs, Nat.reduceAdd]
   refine DW.seq (DW.reg ?_)
   simp (disch:=omega) only [go_sem,simprocAttr,qN,qO,qP,qQ]
   refine DW.seq (DW.seq (DW.reg ?_))
   simp (disch:=omega) only [go_sem,simprocAttr,qN,qO,qP,qQ,Option.isNone]
   refine DW.cond_ff rfl (DW.skip ?_)
   simp (disch:=omega) only [go_sem,simprocAttr,qN,qO,qP,qQ]
   refine DW.ent (Ent.to (tm' := [(0, .c (.sl b 2 []))]) (bx' := []) (by simp (disch:=omega) only [qR,qS,qTw,qU,get,Nat.reduceEqDiff,↓reduceIte,qV,qW,qX,qY,qZ,and_self,dI,i64_in,and_true,true_and,rA,rB,rC,rD]) trivial) ?_
   repeat' (first|(with_reducible first|apply qA|apply qB|apply qC|apply qD|apply qE|apply qF)|(simp (disch:=omega) only [go_sem, simprocAttr, qN, qO, qP, qQ])|exact qM rfl rfl rfl|(refine qG rfl ?_)|(refine qH rfl ?_)|(refine qI rfl ?_ ?_<;>intro hc<;>(try simp only [go_sem] at hc))|(refine qJ ?_ ?_<;>intro hc<;>(try simp only [hc])<;>(try simp only [go_sem] at hc)))
   refine retS_row ?_ ?_ (hnb []) <;> rfl
 | cons x l =>
  simp only [List.length_cons] at hl
  refine DCall.of Try.func132 sf132 hb132 (Nat.le_of_ble_eq_true rfl) okRes_row ?_; simp only [s132, idxs, Nat.reduceAdd]
  repeat' (first|(with_reducible first|apply qA|apply qB|apply qC|apply qD|apply qE|apply qF)|(simp (disch:=omega) only [go_sem, simprocAttr, qN, qO, qP, qQ, rows_cons])|exact qM rfl rfl rfl|(refine qG rfl ?_)|(refine qH rfl ?_)|(refine qI rfl ?_ ?_<;>intro hc<;>(try simp only [go_sem] at hc))|(refine qJ ?_ ?_<;>intro hc<;>(try simp only [hc])<;>(try simp only [go_sem] at hc)))
  refine retS_row ?_ ?_ (hnb (x :: l)) <;> rfl
end Go.Dw.Seat.Tr
end
section
set_option linter.unusedSimpArgs false
set_option maxRecDepth 100000
namespace Go.Dw.Seat.Tr
open Go Go.Dw Go.Proofs Go.IntWalk
def getD' (r : (List Int × Int) ⊕ (Nat × Int)) : D := match r with
 | .inl (g, w) => .tup [dIs false g, dI w, dI 0, dI 0]
 | .inr (i, e) => .tup [.c (.v (.slice none 0 0)), dI 0, dI i, dI e]
def prevS (q : List TStp) : Nat → Option TStp
 | 0 => none
 | i + 1 => q[i]?
theorem replZ (n : Nat) : List.replicate n [C.v (.int .i64 0)] = rows eI (zeros n) := by simp [rows, eI, zeros]
theorem addG_b : ∀ {g ws : List Int} {r B : Int}, (∀ v ∈ g, 0 ≤ v ∧ v ≤ B) → (∀ n ∈ ws, 0 ≤ n ∧ n ≤ 4) → 0 ≤ r → ∀ v ∈ addG g ws r, 0 ≤ v ∧ v ≤ B + 4 * r
 | [], _, _, _, _, _, _ => by simp [addG]
 | g :: gs, [], r, B, hg, _, hr => fun v hv => by
  have := hg v hv
  omega
 | g :: gs, n :: ws, r, B, hg, hw, hr => fun v hv => by
  rw [addG, List.mem_cons] at hv
  rcases hv with rfl | hv
  ·have h1 := hg g (by simp)
   have h2 := hw n (by simp)
   have m1 : 0 ≤ n * r := Int.mul_nonneg h2.1 hr
   have m2 : n * r ≤ 4 * r := Int.mul_le_mul_of_nonneg_right h2.2 hr
   omega
  ·exact addG_b (fun x hx => hg x (by simp [hx])) (fun x hx => hw x (by simp [hx])) hr v hv
set_option maxHeartbeats 4000000 in
theorem trGetM (p : TPap) (hp : p.ok) (l : List TOrd) (hl : l.length ≤ 4) (ho : ∀ o ∈ l, o.ok) (q : List TStp) (hq : q.length ≤ 3) (hqw : ∀ s ∈ q, s.ws.length ≤ 2 ^ 36) : DCall Try.prog 105 [macD false p l, dSt false q] [] (getD' (getR p l none (zeros l.length) 0 0 q)) [] := by
 generalize hR : getR p l none (zeros l.length) 0 0 q = R
 have hd3 : decide ((3 : Int) < (q.length : Int)) = false := decide_eq_false (by omega)
 refine DCall.of Try.func105 sf105 hb105 (Nat.le_of_ble_eq_true rfl) (okRes_nil fun _ => by rcases R with ⟨g, w⟩ | ⟨i, e⟩ <;> rfl) ?_
 simp only [s105, idxs, Nat.reduceAdd]
 repeat' (first|(with_reducible first|apply qA|apply qB|apply qC|apply qD|apply qE|apply qF)|(refine qL rfl (WF.of ?_) ?_; first|rfl|skip)|(simp (disch:=omega) only [go_sem, simprocAttr, qN, qO, qP, qQ, hd3, replZ])|exact qM rfl rfl rfl|(refine qG rfl ?_)|(refine qH rfl ?_)|(refine qI rfl ?_ ?_<;>intro hc<;>(try simp only [go_sem] at hc))|(refine qJ ?_ ?_<;>intro hc<;>(try simp only [hc])<;>(try simp only [go_sem] at hc)))
 (refine DW.ent (Ent.rel 17 rfl) ?_; simp (disch:=omega) only [go_sem,simprocAttr,qN,qO,qP,qQ])
 refine DW.loop (ι := { y : Nat × List Int × Int // y.1 ≤ q.length ∧ y.2.1.length = l.length ∧ (∀ v ∈ y.2.1, 0 ≤ v ∧ v ≤ 120 * (y.1 : Int)) ∧ (0 ≤ y.2.2 ∧ y.2.2 ≤ 90000 * (y.1 : Int)) ∧ getR p l (prevS q y.1) y.2.1 y.2.2 y.1 (q.drop y.1) = R }) (fun y => ⟨72, [(20, dI y.1.1), (19, dI q.length), (18, dSt false q), (7, dI 0), (6, dI 0), (5, dI y.1.2.2), (4, dIs false y.1.2.1), (2, .box 2 0), (1, dSt false q)], [(2, .box [dI p.wide, dI p.tl, dI p.th, dI p.webs, .c (.sl false 3 (rows eO l))])]⟩) (fun y => q.length - y.1.1) ⟨(0, zeros l.length, 0), Nat.zero_le _, by simp [zeros], fun v hv => by (have := List.eq_of_mem_replicate hv; simp only [this]; omega), by simp only; omega, hR⟩ ?_ ?_
 ·refine Ent.to ?_ ?_ <;> simp (disch:=omega) only [qR,qS,qTw,qU,get,Nat.reduceEqDiff,↓reduceIte,qV,qW,qX,qY,qZ,and_self,dI,i64_in,and_true,true_and,rA,rB,rC,rD]
  all_goals first | exact ⟨.refl _, .refl _⟩ | exact .refl _
 rintro ⟨⟨i, G, W⟩, hi, hGl, hGb, hWb, hRun⟩
 dsimp only at hi hGl hGb hWb hRun ⊢
 rcases at_or q i hi with ⟨s, hs, hlt, hd⟩ | ⟨he, hd⟩
 ·have hdr : q.drop i = s :: q.drop (i + 1) := by
   rw [List.drop_eq_getElem_cons hlt, (List.getElem_eq_iff hlt).2 hs]
  rw [hdr, getR] at hRun
  have h1 := trWebs false false p hp l hl ho s.ws (hqw s (List.mem_of_getElem? hs))
  by_cases e1 : websE p l s.ws = 0
  case neg =>
   have hst : stE p l (prevS q i) s = websE p l s.ws := if_pos e1
   rw [hst, if_pos e1] at hRun
   subst hRun
   simp only [getD']
   generalize websE p l s.ws = e at *
   have hde : (e != 0) = true := by simpa using e1
   repeat' (first|(with_reducible first|apply qA|apply qB|apply qC|apply qD|apply qE|apply qF)|(refine qL rfl (WF.of ?_) ?_; first|rfl|skip)|(simp (disch:=omega) only [go_sem, simprocAttr, qN, qO, qP, qQ, hd, hs, hde, rF, rG])|exact qM rfl rfl rfl|(refine qG rfl ?_)|(refine qK (h1) (by decide) ?_)|(refine qH rfl ?_)|(refine qI rfl ?_ ?_<;>intro hc<;>(try simp only [go_sem] at hc))|(refine qJ ?_ ?_<;>intro hc<;>(try simp only [hc])<;>(try simp only [go_sem] at hc)))
  obtain ⟨hw, hpt⟩ := websE_ok e1
  rw [e1] at h1
  have h2 := trWithin true 1 30 [s.run] (by simp)
  cases e2 : wthn 1 30 [s.run] <;> rw [e2] at h2
  ·have hst : stE p l (prevS q i) s = 3 := by unfold stE; rw [if_neg (by simpa using e1), if_pos e2]
   rw [hst, if_pos (by decide)] at hRun
   subst hRun
   simp only [getD']
   repeat' (first|(with_reducible first|apply qA|apply qB|apply qC|apply qD|apply qE|apply qF)|(refine qL rfl (WF.of ?_) ?_; first|rfl|skip)|(simp (disch:=omega) only [go_sem, simprocAttr, qN, qO, qP, qQ, hd, hs, rF, rG])|exact qM rfl rfl rfl|(refine qG rfl ?_)|(refine qK (h1) (by decide) ?_)|(refine qK (h2) (by decide) ?_)|(refine qH rfl ?_)|(refine qI rfl ?_ ?_<;>intro hc<;>(try simp only [go_sem] at hc))|(refine qJ ?_ ?_<;>intro hc<;>(try simp only [hc])<;>(try simp only [go_sem] at hc)))
  have hrb := wthn_one e2
  have h3 := trAdd false false G s.ws s.run (fun v hv => by have := hGb v hv; omega) (by omega) (by have := hw.len; omega) hw.b (by omega)
  have h4 := trTrim false false p hp l hl ho s.ws hw
  have htb : 0 ≤ trimI p l s.ws ∧ trimI p l s.ws ≤ 3000 := by
   simp only [patB, Bool.and_eq_true, decide_eq_true_eq] at hpt
   have := hp.trim
   omega
  have m1 : 0 ≤ trimI p l s.ws * s.run := Int.mul_nonneg htb.1 (by omega)
  have m2 : trimI p l s.ws * s.run ≤ 3000 * s.run := Int.mul_le_mul_of_nonneg_right htb.2 (by omega)
  have hgl : (addG G s.ws s.run).length = l.length := by rw [addG_len]; exact hGl
  have hgb := addG_b hGb hw.b (show 0 ≤ s.run by omega)
  have w1 : IntKind.i64.wrap (trimI p l s.ws * s.run) = trimI p l s.ws * s.run := IntWalk.i64_in _ (by omega)
  have w2 : IntKind.i64.wrap (W + trimI p l s.ws * s.run) = W + trimI p l s.ws * s.run := IntWalk.i64_in _ (by omega)
  have hnx : prevS q (i + 1) = some s := hs
  rcases i with _ | k
  ·have hst : stE p l (prevS q 0) s = 0 := by unfold stE; rw [if_neg (by simpa using e1), if_neg (by rw [e2]; decide)]; rfl
   rw [hst, if_neg (by decide)] at hRun
   have hnew : getR p l (prevS q 1) (addG G s.ws s.run) (W + trimI p l s.ws * s.run) 1 (q.drop 1) = R := by rw [hnx]; exact hRun
   generalize trimI p l s.ws = t at *
   generalize addG G s.ws s.run = G2 at *
   have hd' : decide ((0 : Int) < (q.length : Int)) = true := hd
   repeat' (first|(with_reducible first|apply qA|apply qB|apply qC|apply qD|apply qE|apply qF)|(refine qL rfl (WF.of ?_) ?_; first|rfl|skip)|(simp (disch:=omega) only [go_sem, simprocAttr, qN, qO, qP, qQ, hd', hs, w1, w2, rF, rG])|exact qM rfl rfl rfl|(refine qG rfl ?_)|(refine qK (h1) (by decide) ?_)|(refine qK (h2) (by decide) ?_)|(refine qK (h3) (by decide) ?_)|(refine qK (h4) (by decide) ?_)|(refine qH rfl ?_)|(refine qI rfl ?_ ?_<;>intro hc<;>(try simp only [go_sem] at hc))|(refine qJ ?_ ?_<;>intro hc<;>(try simp only [hc])<;>(try simp only [go_sem] at hc)))
   refine ⟨⟨(1, G2, W + t * s.run), by omega, hgl, fun v hv => by have := hgb v hv; omega, by (simp only; omega), hnew⟩, ?_, Ent.to ?_ ?_⟩ <;> first | (show _ < _; (try simp only); omega) | (simp (disch:=omega) only [qR,qS,qTw,qU,get,Nat.reduceEqDiff,↓reduceIte,qV,qW,qX,qY,qZ,and_self,dI,i64_in,and_true,true_and,rA,rB,rC,rD])
   all_goals first | exact ⟨.refl _, .refl _⟩ | exact .refl _
  ·obtain ⟨s0, hs0⟩ := getE (l := q) (i := k) (by omega)
   have h5 := crCmpL false false s0.ws s.ws (hqw s0 (List.mem_of_getElem? hs0)) (hqw s (List.mem_of_getElem? hs))
   have hpv : prevS q (k + 1) = some s0 := hs0
   have hpos : decide ((0 : Int) < ((k + 1 : Nat) : Int)) = true := decide_eq_true (by omega)
   have ek : ((k + 1 : Nat) : Int) - 1 = (k : Int) := by omega
   rw [hpv] at hRun
   generalize hc : cmpL s0.ws s.ws = c at *
   cases e3 : decide (0 ≤ c)
   ·have hst : stE p l (some s0) s = 0 := by unfold stE; rw [if_neg (by simpa using e1), if_neg (by rw [e2]; decide)]; simp only [hc, e3]; rfl
    rw [hst, if_neg (by decide)] at hRun
    have hnew : getR p l (prevS q (k + 1 + 1)) (addG G s.ws s.run) (W + trimI p l s.ws * s.run) (k + 1 + 1) (q.drop (k + 1 + 1)) = R := by rw [hnx]; exact hRun
    generalize trimI p l s.ws = t at *
    generalize addG G s.ws s.run = G2 at *
    repeat' (first|(with_reducible first|apply qA|apply qB|apply qC|apply qD|apply qE|apply qF)|(refine qL rfl (WF.of ?_) ?_; first|rfl|skip)|(simp (disch:=omega) only [go_sem, simprocAttr, qN, qO, qP, qQ, hd, hs, hs0, hpos, ek, e3, w1, w2, rF, rG])|exact qM rfl rfl rfl|(refine qG rfl ?_)|(refine qK (h1) (by decide) ?_)|(refine qK (h2) (by decide) ?_)|(refine qK (h3) (by decide) ?_)|(refine qK (h4) (by decide) ?_)|(refine qK (h5) (by decide) ?_)|(refine qH rfl ?_)|(refine qI rfl ?_ ?_<;>intro hc<;>(try simp only [go_sem] at hc))|(refine qJ ?_ ?_<;>intro hc<;>(try simp only [hc])<;>(try simp only [go_sem] at hc)))
    refine ⟨⟨(k + 1 + 1, G2, W + t * s.run), by omega, hgl, fun v hv => by have := hgb v hv; omega, by (simp only; omega), hnew⟩, ?_, Ent.to ?_ ?_⟩ <;> first | (show _ < _; (try simp only); omega) | (simp (disch:=omega) only [qR,qS,qTw,qU,get,Nat.reduceEqDiff,↓reduceIte,qV,qW,qX,qY,qZ,and_self,dI,i64_in,and_true,true_and,rA,rB,rC,rD])
    all_goals first | exact ⟨.refl _, .refl _⟩ | exact .refl _
   ·have hst : stE p l (some s0) s = 6 := by unfold stE; rw [if_neg (by simpa using e1), if_neg (by rw [e2]; decide)]; simp only [hc, e3]; rfl
    rw [hst, if_pos (by decide)] at hRun
    subst hRun
    simp only [getD']
    repeat' (first|(with_reducible first|apply qA|apply qB|apply qC|apply qD|apply qE|apply qF)|(refine qL rfl (WF.of ?_) ?_; first|rfl|skip)|(simp (disch:=omega) only [go_sem, simprocAttr, qN, qO, qP, qQ, hd, hs, hs0, hpos, ek, e3, rF, rG])|exact qM rfl rfl rfl|(refine qG rfl ?_)|(refine qK (h1) (by decide) ?_)|(refine qK (h2) (by decide) ?_)|(refine qK (h5) (by decide) ?_)|(refine qH rfl ?_)|(refine qI rfl ?_ ?_<;>intro hc<;>(try simp only [go_sem] at hc))|(refine qJ ?_ ?_<;>intro hc<;>(try simp only [hc])<;>(try simp only [go_sem] at hc)))
 ·have hdr : q.drop i = [] := List.drop_eq_nil_of_le (by omega)
  rw [hdr, getR] at hRun
  subst hRun
  simp only [getD']
  repeat' (first|(with_reducible first|apply qA|apply qB|apply qC|apply qD|apply qE|apply qF)|(refine qL rfl (WF.of ?_) ?_; first|rfl|skip)|(simp (disch:=omega) only [go_sem, simprocAttr, qN, qO, qP, qQ, hd])|exact qM rfl rfl rfl|(refine qG rfl ?_)|(refine qH rfl ?_)|(refine qI rfl ?_ ?_<;>intro hc<;>(try simp only [go_sem] at hc))|(refine qJ ?_ ?_<;>intro hc<;>(try simp only [hc])<;>(try simp only [go_sem] at hc)))
  refine retS_wk rfl ?_ (by simp only [Blk.nb, rowC_nb, D.nb, D.nbs, C.nb, C.nbs, C.nbss, rows_nb eI_nb, Bool.and_true, Bool.not_false, Bool.and_self, bD, dI, iD, rows_nb eO_nb, rows_nb eSt_nb]); exact .refl _
end Go.Dw.Seat.Tr
end
section
set_option linter.unusedSimpArgs false
set_option maxRecDepth 100000
namespace Go.Dw.Seat.Tr
open Go Go.Dw Go.Proofs Go.IntWalk
theorem trGetL (b : Bool) (p : TPap) (l : List TOrd) (q : List TStp) (hq : 3 < q.length) : DCall Try.prog 105 [macD b p l, dSt b q] [] (.tup [.c (.v (.slice none 0 0)), dI 0, dI 0, dI 5]) [] := by
 have hd3 : decide ((3 : Int) < (q.length : Int)) = true := decide_eq_true (by omega)
 refine DCall.of Try.func105 sf105 hb105 (Nat.le_of_ble_eq_true rfl) (okRes_nil fun _ => rfl) ?_; simp only [s105, idxs, Nat.reduceAdd]
 repeat' (first|(with_reducible first|apply qA|apply qB|apply qC|apply qD|apply qE|apply qF)|(refine qL rfl (WF.of ?_) ?_; first|rfl|skip)|(simp (disch:=omega) only [go_sem, simprocAttr, qN, qO, qP, qQ, hd3])|exact qM rfl rfl rfl|(refine qG rfl ?_)|(refine qH rfl ?_)|(refine qI rfl ?_ ?_<;>intro hc<;>(try simp only [go_sem] at hc))|(refine qJ ?_ ?_<;>intro hc<;>(try simp only [hc])<;>(try simp only [go_sem] at hc)))
def getA (p : TPap) (l : List TOrd) (q : List TStp) : (List Int × Int) ⊕ (Nat × Int) := if 3 < q.length then .inr (0, 5) else getR p l none (zeros l.length) 0 0 q
theorem trGetA (p : TPap) (hp : p.ok) (l : List TOrd) (hl : l.length ≤ 4) (ho : ∀ o ∈ l, o.ok) (q : List TStp) (hqw : ∀ s ∈ q, s.ws.length ≤ 2 ^ 36) : DCall Try.prog 105 [macD false p l, dSt false q] [] (getD' (getA p l q)) [] := by
 unfold getA
 split
 ·rename_i h
  exact trGetL false p l q h
 ·rename_i h
  exact trGetM p hp l hl ho q (by omega) hqw
theorem getR_len (p : TPap) (l : List TOrd) : ∀ (q : List TStp) (pr : Option TStp) (G : List Int) (W : Int) (i : Nat) (g : List Int) (w : Int), getR p l pr G W i q = .inl (g, w) → g.length = G.length
 | [], _, _, _, _, _, _, h => by rw [getR] at h; cases h; rfl
 | s :: q, pr, G, W, i, g, w, h => by
  rw [getR] at h
  split at h
  ·cases h
  ·rw [getR_len p l q _ _ _ _ _ _ h, addG_len]
theorem getR_err (p : TPap) (l : List TOrd) : ∀ (q : List TStp) (pr : Option TStp) (G : List Int) (W : Int) (i : Nat) (j : Nat) (e : Int), getR p l pr G W i q = .inr (j, e) → e ≠ 0
 | [], _, _, _, _, _, _, h => by rw [getR] at h; cases h
 | s :: q, pr, G, W, i, j, e, h => by
  rw [getR] at h
  split at h
  ·rename_i h2; cases h; exact h2
  ·exact getR_err p l q _ _ _ _ _ _ h
def doesA (p : TPap) (l : List TOrd) (q : List TStp) : (List Int × Int) ⊕ (Int × Int) := match getA p l q with
 | .inr (i, e) => .inr ((i : Int), e)
 | .inl (g, w) => if 0 ≤ wrongI l g then .inr (wrongI l g, 9) else .inl (g, w)
def doesD (r : (List Int × Int) ⊕ (Int × Int)) : D := match r with
 | .inl (g, w) => .tup [dIs false g, dI w, dI 0, dI 0]
 | .inr (i, e) => .tup [.c (.v (.slice none 0 0)), dI 0, dI i, dI e]
set_option maxHeartbeats 1000000 in
theorem trDoes (p : TPap) (hp : p.ok) (l : List TOrd) (hl : l.length ≤ 4) (ho : ∀ o ∈ l, o.ok) (q : List TStp) (hqw : ∀ s ∈ q, s.ws.length ≤ 2 ^ 36) : DCall Try.prog 57 [macD false p l, dSt false q] [] (doesD (doesA p l q)) [] := by
 have h1 := trGetA p hp l hl ho q hqw
 unfold doesA
 cases hR : getA p l q with
 | inr x =>
  obtain ⟨i, e⟩ := x
  rw [hR] at h1
  have he : e ≠ 0 := by
   unfold getA at hR
   split at hR
   ·cases hR; decide
   ·exact getR_err _ _ _ _ _ _ _ _ _ hR
  have hd : (e != 0) = true := by simpa using he
  simp only [getD'] at h1
  simp only [doesD]
  refine DCall.of Try.func57 sf57 hb57 (Nat.le_of_ble_eq_true rfl) (okRes_nil fun _ => rfl) ?_; simp only [s57, idxs, Nat.reduceAdd]
  repeat' (first|(with_reducible first|apply qA|apply qB|apply qC|apply qD|apply qE|apply qF)|(simp (disch:=omega) only [go_sem, simprocAttr, qN, qO, qP, qQ, hd])|exact qM rfl rfl rfl|(refine qG rfl ?_)|(refine qK (h1) (by decide) ?_)|(refine qH rfl ?_)|(refine qI rfl ?_ ?_<;>intro hc<;>(try simp only [go_sem] at hc))|(refine qJ ?_ ?_<;>intro hc<;>(try simp only [hc])<;>(try simp only [go_sem] at hc)))
 | inl x =>
  obtain ⟨g, w⟩ := x
  rw [hR] at h1
  have hg : g.length = l.length := by
   unfold getA at hR
   split at hR
   ·cases hR
   ·rw [getR_len _ _ _ _ _ _ _ _ _ hR]; simp [zeros]
  have h2 := trWrong false false p l hl g hg
  simp only [getD'] at h1
  dsimp only
  by_cases h0 : 0 ≤ wrongI l g
  ·have hd : decide (0 ≤ wrongI l g) = true := decide_eq_true h0
   rw [if_pos h0]
   simp only [doesD]
   generalize wrongI l g = k at *
   refine DCall.of Try.func57 sf57 hb57 (Nat.le_of_ble_eq_true rfl) (okRes_nil fun _ => rfl) ?_; simp only [s57, idxs, Nat.reduceAdd]
   repeat' (first|(with_reducible first|apply qA|apply qB|apply qC|apply qD|apply qE|apply qF)|(simp (disch:=omega) only [go_sem, simprocAttr, qN, qO, qP, qQ, hd])|exact qM rfl rfl rfl|(refine qG rfl ?_)|(refine qK (h1) (by decide) ?_)|(refine qK (h2) (by decide) ?_)|(refine qH rfl ?_)|(refine qI rfl ?_ ?_<;>intro hc<;>(try simp only [go_sem] at hc))|(refine qJ ?_ ?_<;>intro hc<;>(try simp only [hc])<;>(try simp only [go_sem] at hc)))
  ·have hd : decide (0 ≤ wrongI l g) = false := decide_eq_false h0
   rw [if_neg h0]
   simp only [doesD]
   generalize wrongI l g = k at *
   refine DCall.of Try.func57 sf57 hb57 (Nat.le_of_ble_eq_true rfl) (okRes_nil fun _ => rfl) ?_; simp only [s57, idxs, Nat.reduceAdd]
   repeat' (first|(with_reducible first|apply qA|apply qB|apply qC|apply qD|apply qE|apply qF)|(simp (disch:=omega) only [go_sem, simprocAttr, qN, qO, qP, qQ, hd])|exact qM rfl rfl rfl|(refine qG rfl ?_)|(refine qK (h1) (by decide) ?_)|(refine qK (h2) (by decide) ?_)|(refine qH rfl ?_)|(refine qI rfl ?_ ?_<;>intro hc<;>(try simp only [go_sem] at hc))|(refine qJ ?_ ?_<;>intro hc<;>(try simp only [hc])<;>(try simp only [go_sem] at hc)))
   refine retS_wk rfl ?_ (by simp only [Blk.nb, rowC_nb, D.nb, D.nbs, C.nb, C.nbs, C.nbss, rows_nb eI_nb, Bool.and_true, Bool.not_false, Bool.and_self, bD, dI, iD, rows_nb eO_nb, rows_nb eSt_nb]); exact .refl _
end Go.Dw.Seat.Tr
end
section
set_option linter.unusedSimpArgs false
set_option maxRecDepth 100000
namespace Go.Dw.Seat.Tr
open Go Go.Dw Go.Proofs Go.IntWalk
theorem rows_snocI (l : List Int) (x : Int) : rows eI l ++ [[C.v (.int .i64 x)]] = rows eI (l ++ [x]) := by simp [rows, eI]
theorem shut1 (n : Int) : shutEs [[D.c (.v (.int .i64 n))]] = some [[C.v (.int .i64 n)]] := rfl
theorem trClip (l : List Int) : DCall Try.prog 157 [dIs false l] [] (.c (.cl false 1 (rows eI l))) [] := by
 refine DCall.of Try.func157 sf157 hb157 (Nat.le_of_ble_eq_true rfl) (okRes_nil fun _ => rfl) ?_; simp only [s157, idxs, Nat.reduceAdd]
 repeat' (first|(with_reducible first|apply qA|apply qB|apply qC|apply qD|apply qE|apply qF)|(simp (disch:=omega) only [go_sem, simprocAttr, qN, qO, qP, qQ, Int.le_refl])|exact qM rfl rfl rfl|(refine qG rfl ?_)|(refine qH rfl ?_)|(refine qI rfl ?_ ?_<;>intro hc<;>(try simp only [go_sem] at hc))|(refine qJ ?_ ?_<;>intro hc<;>(try simp only [hc])<;>(try simp only [go_sem] at hc)))
 refine retS_wk rfl ?_ (by simp only [Blk.nb, rowC_nb, D.nb, D.nbs, C.nb, C.nbs, C.nbss, rows_nb eI_nb, Bool.and_true, Bool.not_false, Bool.and_self, bD, dI, iD, rows_nb eO_nb]); exact .refl _
theorem trPatterns (p : TPap) (l : List TOrd) (ws : List Int) : DCall Try.prog 131 [macD false p l, dIs false ws] [] (.fn (.func 155) [] [.c (.ro false [.sl false 1 (rows eI ws)] 0), .c (.ro false [.v (.int .i64 p.wide), .v (.int .i64 p.tl), .v (.int .i64 p.th), .v (.int .i64 p.webs), .sl false 3 (rows eO l)] 0)]) [] := by
 refine DCall.of Try.func131 sf131 hb131 (Nat.le_of_ble_eq_true rfl) (okRes_nil fun _ => rfl) ?_; simp only [s131, idxs, Nat.reduceAdd]
 repeat' (first|(with_reducible first|apply qA|apply qB|apply qC|apply qD|apply qE|apply qF)|(simp (disch:=omega) only [go_sem, simprocAttr, qN, qO, qP, qQ])|exact qM rfl rfl rfl|(refine qG rfl ?_)|(refine qH rfl ?_)|(refine qI rfl ?_ ?_<;>intro hc<;>(try simp only [go_sem] at hc))|(refine qJ ?_ ?_<;>intro hc<;>(try simp only [hc])<;>(try simp only [go_sem] at hc)))
 (refine retS_ent (Ent.rel 2 rfl) ?_; simp (disch:=omega) only [go_sem,simprocAttr,qN,qO,qP,qQ])
 (refine retS_ent (Ent.rel 3 rfl) ?_; simp (disch:=omega) only [go_sem,simprocAttr,qN,qO,qP,qQ])
 refine retS_wk rfl ?_ (by simp only [Blk.nb, rowC_nb, D.nb, D.nbs, C.nb, C.nbs, C.nbss, rows_nb eI_nb, Bool.and_true, Bool.not_false, Bool.and_self, bD, dI, iD, rows_nb eO_nb]); exact .refl _
def patsX (p : TPap) (l : List TOrd) : Nat → List Int → List (List Int)
 | 0, ws => if patB p l ws = true then [ws] else []
 | r + 1, ws => (List.range (p.webs.toNat + 1)).flatMap fun (d : Nat) => patsX p l r (ws ++ [(d : Int)])
def enW (w : List Int) : List D := [dIs false w]
attribute [go_sem] enW
theorem patsX_ws (p : TPap) (hp : p.ok) (l : List TOrd) : ∀ (r : Nat) (ws : List Int), ws.length + r = l.length → (∀ n ∈ ws, 0 ≤ n ∧ n ≤ 4) → ∀ w ∈ patsX p l r ws, Ws4 l w
 | 0, ws, hl, hb, w, hw => by
  rw [patsX] at hw
  split at hw
  ·rw [List.mem_singleton] at hw; subst hw; exact ⟨hl, hb⟩
  ·cases hw
 | r + 1, ws, hl, hb, w, hw => by
  rw [patsX, List.mem_flatMap] at hw
  obtain ⟨d, hd, hw⟩ := hw
  have := hp.webs
  rw [List.mem_range] at hd
  refine patsX_ws p hp l r (ws ++ [(d : Int)]) (by simp; omega) (fun n hn => ?_) w hw
  simp only [List.mem_append, List.mem_singleton] at hn
  rcases hn with hn | rfl
  ·exact hb n hn
  ·omega
def thru {β ε : Type} (stp : β → ε → Bool × β) (b : β) (e : ε) : Option Exit × β := (if (stp b e).1 = true then none else some .ret, (stp b e).2)
theorem thru_run {β ε : Type} (stp : β → ε → Bool × β) : ∀ (L R : List ε) (b : β),
  ((runIt (thru stp) b L).1 = none ∧ runB stp b (L ++ R) = runB stp (runIt (thru stp) b L).2 R) ∨ ((runIt (thru stp) b L).1 = some .ret ∧ runB stp b (L ++ R) = (runIt (thru stp) b L).2)
 | [], R, b => .inl ⟨rfl, rfl⟩
 | e :: L, R, b => by
  by_cases hs : (stp b e).1 = true
  ·have := thru_run stp L R (stp b e).2
   simp only [runIt, thru, hs, if_true, List.cons_append, runB] at this ⊢
   exact this
  ·refine .inr ?_
   simp [runIt, thru, hs, runB]
theorem thru_live {β ε : Type} (stp : β → ε → Bool × β) (live : List ε → β → Prop) (ok : ε → Prop) (h : ∀ b e t, live (e :: t) b → ok e → (stp b e).1 = true → live t (stp b e).2) (R : List ε) : ∀ (L : List ε) (b : β), live (L ++ R) b → (∀ e ∈ L, ok e) → (runIt (thru stp) b L).1 = none → live R (runIt (thru stp) b L).2
 | [], b, hb, _, _ => hb
 | e :: L, b, hb, ho, hn => by
  by_cases hs : (stp b e).1 = true
  ·have h2 := h b e (L ++ R) hb (ho e (by simp)) hs
   simp only [runIt, thru, hs, if_true] at hn ⊢
   exact thru_live stp live ok h R L _ h2 (fun x hx => ho x (by simp [hx])) hn
  ·simp [runIt, thru, hs] at hn
abbrev macC (p : TPap) (l : List TOrd) : List C := [.v (.int .i64 p.wide), .v (.int .i64 p.tl), .v (.int .i64 p.th), .v (.int .i64 p.webs), .sl false 3 (rows eO l)]
def restX (p : TPap) (l : List TOrd) (r : Nat) (ws : List Int) (k : Nat) : List (List Int) := (List.range' k (p.webs.toNat + 1 - k)).flatMap fun (d : Nat) => patsX p l r (ws ++ [(d : Int)])
theorem restX_step {p : TPap} (l : List TOrd) (r : Nat) (ws : List Int) {k : Nat} (h : k ≤ p.webs.toNat) : restX p l r ws k = patsX p l r (ws ++ [(k : Int)]) ++ restX p l r ws (k + 1) := by
 have e : p.webs.toNat + 1 - k = (p.webs.toNat + 1 - (k + 1)) + 1 := by omega
 rw [restX, e, List.range'_succ, List.flatMap_cons, restX]
theorem restX_end {p : TPap} (l : List TOrd) (r : Nat) (ws : List Int) {k : Nat} (h : p.webs.toNat < k) : restX p l r ws k = [] := by
 have e : p.webs.toNat + 1 - k = 0 := by omega
 rw [restX, e]; rfl
theorem restX_all (p : TPap) (l : List TOrd) (r : Nat) (ws : List Int) : patsX p l (r + 1) ws = restX p l r ws 0 := by
 rw [patsX, restX, Nat.sub_zero, List.range_eq_range']
set_option maxHeartbeats 2000000 in
theorem trPats1 (p : TPap) (hp : p.ok) (l : List TOrd) (hl : l.length ≤ 4) (ho : ∀ o ∈ l, o.ok) : ∀ (r : Nat) (ws : List Int), ws.length + r = l.length → (∀ n ∈ ws, 0 ≤ n ∧ n ≤ 4) → ItB true Try.prog 155 [] [.c (.ro false [.sl false 1 (rows eI ws)] 0), .c (.ro false (macC p l) 0)] enW (Ws4 l) (patsX p l r ws)
 | 0, ws, hwl, hb => by
  intro ly β H stp live _ hW hY b0 hl0
  have hH : ∀ b, HidOk (H b) := fun b => (hW b).toHidOk
  have hw : Ws4 l ws := ⟨hwl, hb⟩
  have h1 := trIsPat false false p hp l hl ho ws hw
  rw [patsX] at hl0 ⊢
  refine DCall.of Try.func155 sf155 hb155 (Nat.le_of_ble_eq_true rfl) (hH _).res ?_
  simp only [s155, o155_0, o155_1, o155_2, o155_3, o155_4, o155_5, o155_6, idxs, Nat.reduceAdd, List.map_nil, List.map_cons, List.nil_append, List.cons_append]
  have f1 := hid_get (hH b0)
  have f2 := hid_ins (hH b0)
  have f3 := (hH b0).men
  have f4 := (hH b0).lo
  have f5 : ∀ k x, k < 1000 → ins k x (H b0) = H b0 ++ [(k, x)] := fun k x hk => by have := f2 k hk x []; rwa [List.append_nil] at this
  have hd : ((ws.length : Int) == (l.length : Int)) = true := by rw [hwl.symm]; simp
  refine DW.seq (DW.reg ?_)
  simp (disch:=omega) only [go_sem,simprocAttr,qN,qO,qP,qQ,f1,f2,f3,f4,f5,ins]
  refine DW.ent (Ent.comm (hH b0) rfl).1 ?_
  cases e1 : patB p l ws <;> rw [e1] at h1 hl0
  ·repeat' (first|(with_reducible first|apply qA|apply qB|apply qC|apply qD|apply qE|apply qF)|(refine DW.ord rfl (WF.of (by first|rfl|simp (disch:=omega) only [go_sem, simprocAttr, qN, qO, qP, qQ, f1, f2, f3, f4, ins, hd])) ?_ ?_ ?_; rotate_left)|rfl|(with_reducible refine And.intro ?_ ?_)|(simp (disch:=omega) only [go_sem, simprocAttr, qN, qO, qP, qQ, f1, f2, f3, f4, ins, hd])|exact qM rfl rfl rfl|(refine qG rfl ?_)|(refine qK (h1) (by decide) ?_)|(refine qH rfl ?_)|(refine qI rfl ?_ ?_<;>intro hc<;>(try simp only [go_sem] at hc))|(refine qJ ?_ ?_<;>intro hc<;>(try simp only [hc])<;>(try simp only [go_sem] at hc)))
   exact retS_hid (own := [_]) (.inl rfl) (hH _) rfl
  ·obtain ⟨hyc, -⟩ := hY b0 ws [] hl0 hw
   repeat' (first|(with_reducible first|apply qA|apply qB|apply qC|apply qD|apply qE|apply qF)|(refine DW.ord rfl (WF.of (by first|rfl|simp (disch:=omega) only [go_sem, simprocAttr, qN, qO, qP, qQ, f1, f2, f3, f4, ins, hd])) ?_ ?_ ?_; rotate_left)|rfl|(with_reducible refine And.intro ?_ ?_)|(simp (disch:=omega) only [go_sem, simprocAttr, qN, qO, qP, qQ, f1, f2, f3, f4, ins, hd])|exact qM rfl rfl rfl|(refine qG rfl ?_)|(refine qK (h1) (by decide) ?_)|(refine qH rfl ?_)|(refine qI rfl ?_ ?_<;>intro hc<;>(try simp only [go_sem] at hc))|(refine qJ ?_ ?_<;>intro hc<;>(try simp only [hc])<;>(try simp only [go_sem] at hc)))
   refine call_y (own := [_]) hyc rfl rfl rfl (hH _) (hH _) (by decide) ?_
   simp (disch:=omega) only [go_sem,simprocAttr,qN,qO,qP,qQ]
   repeat' (first|(with_reducible first|apply qA|apply qB|apply qC|apply qD|apply qE|apply qF)|(refine DW.ord rfl (WF.of (by first|rfl|simp (disch:=omega) only [go_sem, simprocAttr, qN, qO, qP, qQ])) ?_ ?_ ?_; rotate_left)|rfl|(with_reducible refine And.intro ?_ ?_)|(simp (disch:=omega) only [go_sem, simprocAttr, qN, qO, qP, qQ])|exact qM rfl rfl rfl|(refine qG rfl ?_)|(refine qH rfl ?_)|(refine qI rfl ?_ ?_<;>intro hc<;>(try simp only [go_sem] at hc))|(refine qJ ?_ ?_<;>intro hc<;>(try simp only [hc])<;>(try simp only [go_sem] at hc)))
   have e2 : runB stp b0 [ws] = (stp b0 ws).2 := by simp only [runB]; cases (stp b0 ws).1 <;> rfl
   rw [e2]
   exact retS_hid (own := [_]) (.inl rfl) (hH _) rfl
 | r + 1, ws, hwl, hb => by
  intro ly β H stp live _ hW hY b0 hl0
  have hH : ∀ b, HidOk (H b) := fun b => (hW b).toHidOk
  have hd : ((ws.length : Int) == (l.length : Int)) = false := by rw [beq_eq_false_iff_ne]; omega
  rw [restX_all] at hl0 ⊢
  refine DCall.of Try.func155 sf155 hb155 (Nat.le_of_ble_eq_true rfl) (hH _).res ?_
  simp only [s155, o155_0, o155_1, o155_2, o155_3, o155_4, o155_5, o155_6, idxs, Nat.reduceAdd, List.map_nil, List.map_cons, List.nil_append, List.cons_append]
  have f1 := hid_get (hH b0)
  have f2 := hid_ins (hH b0)
  have f3 := (hH b0).men
  have f4 := (hH b0).lo
  have f5 : ∀ k x, k < 1000 → ins k x (H b0) = H b0 ++ [(k, x)] := fun k x hk => by have := f2 k hk x []; rwa [List.append_nil] at this
  repeat' (first|(with_reducible first|apply qA|apply qB|apply qC|apply qD|apply qE|apply qF)|(refine DW.ord rfl (WF.of (by first|rfl|simp (disch:=omega) only [go_sem, simprocAttr, qN, qO, qP, qQ, f1, f2, f3, f4, f5, ins, hd])) ?_ ?_ ?_; rotate_left)|rfl|(with_reducible refine And.intro ?_ ?_)|(simp (disch:=omega) only [go_sem, simprocAttr, qN, qO, qP, qQ, f1, f2, f3, f4, f5, ins, hd])|exact qM rfl rfl rfl|(refine qG rfl ?_)|(refine qH rfl ?_)|(refine qI rfl ?_ ?_<;>intro hc<;>(try simp only [go_sem] at hc))|(refine qJ ?_ ?_<;>intro hc<;>(try simp only [hc])<;>(try simp only [go_sem] at hc)))
  have hpw := hp.webs
  have w1 : IntKind.i64.wrap (p.webs + 1) = p.webs + 1 := IntWalk.i64_in _ (by omega)
  refine DW.ent (Ent.comm (hH b0) rfl).1 ?_
  refine DW.loop (ι := { y : Nat × β // y.1 ≤ p.webs.toNat + 1 ∧ live (restX p l r ws y.1) y.2 ∧ runB stp b0 (restX p l r ws 0) = runB stp y.2 (restX p l r ws y.1) })
   (fun y => ⟨38, [(22, dI y.1.1), (21, dI (p.webs + 1)), (3, .box 3 0), (1, .c (.ro false [.sl false 1 (rows eI ws)] 0)), (2, .c (.ro false (macC p l) 0))], [(3, .box [.c (.fn (.yield ly) [] [])])] ++ H y.1.2⟩) (fun y => p.webs.toNat + 1 - y.1.1) ⟨(0, b0), Nat.zero_le _, hl0, rfl⟩ ?_ ?_
  ·refine Ent.toH (hH b0) rfl ?_ ?_ <;> simp (disch:=omega) only [qR,qS,qTw,qU,get,Nat.reduceEqDiff,↓reduceIte,qV,qW,qX,qY,qZ,and_self,dI,i64_in,and_true,true_and,rA,rB,rC,rD,w1]
  rintro ⟨⟨k, b1⟩, hk, hlv, hrun⟩
  dsimp only at hk hlv hrun ⊢
  by_cases hkw : k ≤ p.webs.toNat
  ·have hd2 : decide ((k : Int) < p.webs + 1) = true := decide_eq_true (by omega)
   have hb' : ∀ n ∈ ws ++ [(k : Int)], 0 ≤ n ∧ n ≤ 4 := fun n hn => by
    simp only [List.mem_append, List.mem_singleton] at hn
    rcases hn with hn | rfl
    ·exact hb n hn
    ·omega
   have hit := trPats1 p hp l hl ho r (ws ++ [(k : Int)]) (by simp; omega) hb'
   have hall := patsX_ws p hp l r (ws ++ [(k : Int)]) (by simp; omega) hb'
   have hc1 := trClip ws
   have hc2 := trPatterns p l (ws ++ [(k : Int)])
   have g1 := hid_get (hH b1)
   have g2 := hid_ins (hH b1)
   have g3 := (hH b1).men
   have g4 := (hH b1).lo
   have g5 : ∀ k x, k < 1000 → ins k x (H b1) = H b1 ++ [(k, x)] := fun k x hk => by have := g2 k hk x []; rwa [List.append_nil] at this
   have g6 : ((H b1).all fun p => Blk.keysIn ((3, Blk.box [D.c (C.fn (Fn.yield ly) [] [])]) :: H b1) p.snd) = true := (hW b1).app [_]
   repeat' (first|(with_reducible first|apply qA|apply qB|apply qC|apply qD|apply qE|apply qF)|(refine DW.ord rfl (WF.of (by first|rfl|simp (disch:=omega) only [go_sem, simprocAttr, qN, qO, qP, qQ, g1, g2, g3, g4, g5, g6, ins, hd2, rows_snocI, shut1])) ?_ ?_ ?_; rotate_left)|rfl|(with_reducible refine And.intro ?_ ?_)|(simp (disch:=omega) only [go_sem, simprocAttr, qN, qO, qP, qQ, g1, g2, g3, g4, g5, g6, ins, hd2, rows_snocI, shut1])|exact qM rfl rfl rfl|(refine qG rfl ?_)|(refine qK (hc1) (by decide) ?_)|(refine qK (hc2) (by decide) ?_)|(refine qH rfl ?_)|(refine qI rfl ?_ ?_<;>intro hc<;>(try simp only [go_sem] at hc))|(refine qJ ?_ ?_<;>intro hc<;>(try simp only [hc])<;>(try simp only [go_sem] at hc)))
   ·exact (hW b1).app [_, _]
   refine DW.ent (σ' := ⟨38, [(31, .fn (.func 155) [] [.c (.ro false [.sl false 1 (rows eI (ws ++ [(k : Int)]))] 0), .c (.ro false (macC p l) 0)]), (22, dI k), (21, dI (p.webs + 1)), (3, .box 3 0), (1, .c (.ro false [.sl false 1 (rows eI ws)] 0)), (2, .c (.ro false (macC p l) 0))], [(3, .box [.c (.fn (.yield ly) [] [])])] ++ H b1⟩) ?_ ?_
   ·refine Ent.toH (o := [_, _]) (o' := [_]) (hH b1) rfl ?_ ?_ <;> simp (disch:=omega) only [qR,qS,qTw,qU,get,Nat.reduceEqDiff,↓reduceIte,qV,qW,qX,qY,qZ,and_self,dI,i64_in,and_true,true_and,rA,rB,rC,rD]
   refine DW.rngS (fs := []) (caps := [.c (.ro false [.sl false 1 (rows eI (ws ++ [(k : Int)]))] 0), .c (.ro false (macC p l) 0)]) rfl (fun _ => ⟨rfl, rfl⟩) (fun y : β => [(3, .box [.c (.fn (.yield ly) [] [])])] ++ H y) b1 rfl (thru stp) enW (Ws4 l) (patsX p l r (ws ++ [(k : Int)])) hit (fun t y => live (t ++ restX p l r ws (k + 1)) y) (by rw [← restX_step l r ws hkw]; exact hlv) ?_ (by decide) (fun _ _ => rfl) (fun _ _ _ => rfl) (by simp only [List.map_cons, List.map_nil]; decide) ?_ ?_ ?_ ?_ ?_ ?_ ?_
   ·intro b e t hiv hs h1
    simp only [thru] at h1 ⊢
    split at h1
    ·rename_i hc
     exact (hY b e _ hiv hs).2 hc
    ·cases h1
   ·intro y
    show get 999 (H y) = none
    exact (hH y).lo 999 (by decide)
   ·intro y
    have := (hW y).app [(3, Blk.box [.c (.fn (.yield ly) [] [])])]
    simp only [List.cons_append, List.nil_append, wfB, List.all_cons, List.all_nil, this, Bool.and_true] at this ⊢
    rfl
   ·intro y j x hj
    rw [get_app] at hj
    cases hg : get j [(3, Blk.box [.c (.fn (.yield ly) [] [])])] with
    | none => rw [hg] at hj; exact (hH y).nb j x hj
    | some x' =>
     rw [hg] at hj; cases hj
     have := get_mem hg
     simp only [List.mem_cons, Prod.mk.injEq, List.not_mem_nil, or_false] at this
     obtain ⟨_, rfl⟩ := this
     rfl
   ·intro q hq
    simp only [List.mem_cons, List.not_mem_nil, or_false] at hq
    rcases hq with rfl | rfl | rfl | rfl | rfl | rfl <;> first | rfl | (simp only [D.nb, D.nbs, C.nb, C.nbs, rows_nb eO_nb, rows_nb eI_nb, Bool.and_self, Bool.not_false])
   ·intro y e
    simp only [thru]
    split <;> rfl
   ·intro b w t hiv hs v
    obtain ⟨hyc, -⟩ := hY b w _ hiv hs
    have g1 := hid_get (hH b)
    have g2 := hid_ins (hH b)
    have g3 := (hH b).men
    have g4 := (hH b).lo
    refine DW.ent (Ent.swap ((hH b).lo 999 (by decide))).1 ?_
    have hS : thru stp b w = (if (stp b w).1 = true then none else some .ret, (stp b w).2) := rfl
    cases hc : (stp b w).1 with
    | true =>
     rw [hc, if_pos rfl] at hS
     rw [hc] at hyc
     rw [hS]
     repeat' (first|(with_reducible first|apply qA|apply qB|apply qC|apply qD|apply qE|apply qF)|(refine DW.ord rfl (WF.of (by first|rfl|simp (disch:=omega) only [go_sem, simprocAttr, qN, qO, qP, qQ, g3, g4])) ?_ ?_ ?_; rotate_left)|rfl|(with_reducible refine And.intro ?_ ?_)|(simp (disch:=omega) only [go_sem, simprocAttr, qN, qO, qP, qQ, g3, g4])|exact qM rfl rfl rfl|(refine qG rfl ?_)|(refine qH rfl ?_)|(refine qI rfl ?_ ?_<;>intro hc<;>(try simp only [go_sem] at hc))|(refine qJ ?_ ?_<;>intro hc<;>(try simp only [hc])<;>(try simp only [go_sem] at hc)))
     refine call_y (own := [_, _]) hyc rfl rfl rfl (hH _) (hH _) (by decide) ?_
     simp (disch:=omega) only [go_sem,simprocAttr,qN,qO,qP,qQ]
     repeat' (first|(with_reducible first|apply qA|apply qB|apply qC|apply qD|apply qE|apply qF)|(refine DW.ord rfl (WF.of (by first|rfl|simp (disch:=omega) only [go_sem, simprocAttr, qN, qO, qP, qQ])) ?_ ?_ ?_; rotate_left)|rfl|(with_reducible refine And.intro ?_ ?_)|(simp (disch:=omega) only [go_sem, simprocAttr, qN, qO, qP, qQ])|exact qM rfl rfl rfl|(refine qG rfl ?_)|(refine qH rfl ?_)|(refine qI rfl ?_ ?_<;>intro hc<;>(try simp only [go_sem] at hc))|(refine qJ ?_ ?_<;>intro hc<;>(try simp only [hc])<;>(try simp only [go_sem] at hc)))
     refine round_end rfl rfl (Ent.trans ?_ (Ent.swap (o := [(3, Blk.box [D.c (C.fn (Fn.yield ly) [] [])])]) ((hH (stp b w).2).lo 999 (by decide))).2)
     refine Ent.toH (o := [_, _]) (o' := [_, _]) (hH _) ?_ ?_ ?_
     ·rfl
     ·simp (disch:=omega) only [qR,qS,qTw,qU,get,Nat.reduceEqDiff,↓reduceIte,qV,qW,qX,qY,qZ,and_self,dI,i64_in,and_true,true_and,rA,rB,rC,rD,capB]
     ·simp (disch:=omega) only [qR,qS,qTw,qU,get,Nat.reduceEqDiff,↓reduceIte,qV,qW,qX,qY,qZ,and_self,dI,i64_in,and_true,true_and,rA,rB,rC,rD,capB]
    | false =>
     rw [hc, if_neg (by decide)] at hS
     rw [hc] at hyc
     rw [hS]
     repeat' (first|(with_reducible first|apply qA|apply qB|apply qC|apply qD|apply qE|apply qF)|(refine DW.ord rfl (WF.of (by first|rfl|simp (disch:=omega) only [go_sem, simprocAttr, qN, qO, qP, qQ, g3, g4])) ?_ ?_ ?_; rotate_left)|rfl|(with_reducible refine And.intro ?_ ?_)|(simp (disch:=omega) only [go_sem, simprocAttr, qN, qO, qP, qQ, g3, g4])|exact qM rfl rfl rfl|(refine qG rfl ?_)|(refine qH rfl ?_)|(refine qI rfl ?_ ?_<;>intro hc<;>(try simp only [go_sem] at hc))|(refine qJ ?_ ?_<;>intro hc<;>(try simp only [hc])<;>(try simp only [go_sem] at hc)))
     refine call_y (own := [_, _]) hyc rfl rfl rfl (hH _) (hH _) (by decide) ?_
     simp (disch:=omega) only [go_sem,simprocAttr,qN,qO,qP,qQ]
     repeat' (first|(with_reducible first|apply qA|apply qB|apply qC|apply qD|apply qE|apply qF)|(refine DW.ord rfl (WF.of (by first|rfl|simp (disch:=omega) only [go_sem, simprocAttr, qN, qO, qP, qQ])) ?_ ?_ ?_; rotate_left)|rfl|(with_reducible refine And.intro ?_ ?_)|(simp (disch:=omega) only [go_sem, simprocAttr, qN, qO, qP, qQ])|exact qM rfl rfl rfl|(refine qG rfl ?_)|(refine qH rfl ?_)|(refine qI rfl ?_ ?_<;>intro hc<;>(try simp only [go_sem] at hc))|(refine qJ ?_ ?_<;>intro hc<;>(try simp only [hc])<;>(try simp only [go_sem] at hc)))
     refine round_end rfl rfl (Ent.trans ?_ (Ent.swap (o := [(3, Blk.box [D.c (C.fn (Fn.yield ly) [] [])])]) ((hH (stp b w).2).lo 999 (by decide))).2)
     refine Ent.toH (o := [_, _]) (o' := [_, _]) (hH _) ?_ ?_ ?_
     ·rfl
     ·simp (disch:=omega) only [qR,qS,qTw,qU,get,Nat.reduceEqDiff,↓reduceIte,qV,qW,qX,qY,qZ,and_self,dI,i64_in,and_true,true_and,rA,rB,rC,rD,capB]
     ·simp (disch:=omega) only [qR,qS,qTw,qU,get,Nat.reduceEqDiff,↓reduceIte,qV,qW,qX,qY,qZ,and_self,dI,i64_in,and_true,true_and,rA,rB,rC,rD,capB]
   ·have hrs := thru_run stp (patsX p l r (ws ++ [(k : Int)])) (restX p l r ws (k + 1)) b1
    have hlive := thru_live stp live (Ws4 l) (fun b e t h1 h2 h3 => (hY b e t h1 h2).2 h3) (restX p l r ws (k + 1)) (patsX p l r (ws ++ [(k : Int)])) b1 (by rw [← restX_step l r ws hkw]; exact hlv) hall
    rw [restX_step (k := k) l r ws hkw] at hrun
    generalize runIt (thru stp) b1 (patsX p l r (ws ++ [(k : Int)])) = R at *
    obtain ⟨o, b2⟩ := R
    dsimp only at hrs hlive ⊢
    rcases hrs with ⟨rfl, h2⟩ | ⟨rfl, h2⟩
    ·simp (disch:=omega) only [go_sem,simprocAttr,qN,qO,qP,qQ,Option.getD_none]
     repeat' (first|(with_reducible first|apply qA|apply qB|apply qC|apply qD|apply qE|apply qF)|(refine DW.ord rfl (WF.of (by first|rfl|simp (disch:=omega) only [go_sem, simprocAttr, qN, qO, qP, qQ])) ?_ ?_ ?_; rotate_left)|rfl|(with_reducible refine And.intro ?_ ?_)|(simp (disch:=omega) only [go_sem, simprocAttr, qN, qO, qP, qQ])|exact qM rfl rfl rfl|(refine qG rfl ?_)|(refine qH rfl ?_)|(refine qI rfl ?_ ?_<;>intro hc<;>(try simp only [go_sem] at hc))|(refine qJ ?_ ?_<;>intro hc<;>(try simp only [hc])<;>(try simp only [go_sem] at hc)))
     refine ⟨⟨(k + 1, b2), by omega, hlive rfl, hrun.trans h2⟩, by (show _ < _; (try simp only); omega), Ent.toT ?_⟩; simp (disch:=omega) only [qR,qS,qTw,qU,get,Nat.reduceEqDiff,↓reduceIte,qV,qW,qX,qY,qZ,and_self,dI,i64_in,and_true,true_and,rA,rB,rC,rD]
    ·simp (disch:=omega) only [go_sem,simprocAttr,qN,qO,qP,qQ,Option.getD_some]
     rw [hrun, h2]
     exact retS_hid (own := [_]) (.inl rfl) (hH _) rfl
  ·have hd2 : decide ((k : Int) < p.webs + 1) = false := decide_eq_false (by omega)
   have hre := restX_end (p := p) l r ws (k := k) (by omega)
   rw [hre] at hrun
   simp only [runB] at hrun
   repeat' (first|(with_reducible first|apply qA|apply qB|apply qC|apply qD|apply qE|apply qF)|(refine DW.ord rfl (WF.of (by first|rfl|simp (disch:=omega) only [go_sem, simprocAttr, qN, qO, qP, qQ, hd2])) ?_ ?_ ?_; rotate_left)|rfl|(with_reducible refine And.intro ?_ ?_)|(simp (disch:=omega) only [go_sem, simprocAttr, qN, qO, qP, qQ, hd2])|exact qM rfl rfl rfl|(refine qG rfl ?_)|(refine qH rfl ?_)|(refine qI rfl ?_ ?_<;>intro hc<;>(try simp only [go_sem] at hc))|(refine qJ ?_ ?_<;>intro hc<;>(try simp only [hc])<;>(try simp only [go_sem] at hc)))
   rw [hrun]
   exact retS_hid (own := [_]) (.inr rfl) (hH _) rfl
end Go.Dw.Seat.Tr
end
section
set_option linter.unusedSimpArgs false
set_option maxRecDepth 100000
namespace Go.Dw.Seat.Tr
open Go Go.Dw Go.Proofs Go.IntWalk
def eWs (w : List Int) : List C := [.sl false 1 (rows eI w)]
theorem eWs_nb (w : List Int) : C.nbs (eWs w) = true := by
 simp only [eWs, C.nbs, C.nb, rows_nb eI_nb, Bool.and_self, Bool.not_false]
attribute [go_sem] eWs
abbrev dWs (b : Bool) (P : List (List Int)) : D := .c (.sl b 1 (rows eWs P))
theorem rowC_snocW (l : List (List Int)) (x : List Int) : rowC (rows eWs l) ++ [[D.c (.sl false 1 (rows eI x))]] = rowC (rows eWs (l ++ [x])) := by simp [rowC, rows, eWs]
theorem flat_len {α β : Type} (f : α → List β) (m : Nat) : ∀ (L : List α), (∀ d ∈ L, (f d).length ≤ m) → (L.flatMap f).length ≤ L.length * m
 | [], _ => by simp
 | d :: L, h => by
  have h1 := h d (by simp)
  have h2 := flat_len f m L (fun x hx => h x (by simp [hx]))
  rw [List.flatMap_cons, List.length_append, List.length_cons, Nat.succ_mul]; omega
theorem patsX_len (p : TPap) (hp : p.ok) (l : List TOrd) : ∀ (r : Nat) (ws : List Int), (patsX p l r ws).length ≤ 5 ^ r
 | 0, ws => by rw [patsX]; split <;> simp
 | r + 1, ws => by
  have hw := hp.webs
  have h1 := flat_len (fun (d : Nat) => patsX p l r (ws ++ [(d : Int)])) (5 ^ r) (List.range (p.webs.toNat + 1)) (fun d _ => patsX_len p hp l r _)
  rw [List.length_range] at h1
  have h2 : (p.webs.toNat + 1) * 5 ^ r ≤ 5 * 5 ^ r := Nat.mul_le_mul_right _ (by omega)
  rw [patsX, Nat.pow_succ, Nat.mul_comm]
  omega
theorem patsX_len4 (p : TPap) (hp : p.ok) (l : List TOrd) (hl : l.length ≤ 4) : (patsX p l l.length []).length ≤ 625 := Nat.le_trans (patsX_len p hp l _ _) (Nat.pow_le_pow_right (n := 5) (by decide) hl)
def apWS (a : List (List Int)) (e : List Int) : Option Exit × List (List Int) := (none, a ++ [e])
theorem apW_run : ∀ (L : List (List Int)) (a : List (List Int)), runIt apWS a L = (none, a ++ L)
 | [], a => by simp [runIt]
 | e :: L, a => by
  simp only [runIt, apWS, apW_run L]
  simp
set_option maxHeartbeats 1000000 in
theorem trAppSeq (p : TPap) (hp : p.ok) (l : List TOrd) (hl : l.length ≤ 4) (ho : ∀ o ∈ l, o.ok) : DCall Try.prog 154 [.c (.v (.slice none 0 0)), .c (.fn (.func 155) [] [.ro false [.sl false 1 (rows eI [])] 0, .ro false (macC p l) 0])] [] (dWs false (patsX p l l.length [])) [] := by
 have hit := trPats1 p hp l hl ho l.length [] (by simp) (by simp)
 have hbl := patsX_len4 p hp l hl
 refine DCall.of Try.func154 sf154 hb154 (Nat.le_of_ble_eq_true rfl) (okRes_nil fun _ => rfl) ?_; simp only [s154, idxs, Nat.reduceAdd]
 repeat' (first|(with_reducible first|apply qA|apply qB|apply qC|apply qD|apply qE|apply qF)|(simp (disch:=omega) only [go_sem, simprocAttr, qN, qO, qP, qQ])|exact qM rfl rfl rfl|(refine qG rfl ?_)|(refine qH rfl ?_)|(refine qI rfl ?_ ?_<;>intro hc<;>(try simp only [go_sem] at hc))|(refine qJ ?_ ?_<;>intro hc<;>(try simp only [hc])<;>(try simp only [go_sem] at hc)))
 (refine DW.ent (Ent.adoptB 2 0 11 1 rfl rfl rfl rfl) ?_; simp only [ins, Nat.reduceLT, Nat.reduceEqDiff, ↓reduceIte, List.set_cons_zero, List.set_cons_succ])
 refine DW.rngBS (fs := []) (caps := [.c (.ro false [.sl false 1 (rows eI [])] 0), .c (.ro false (macC p l) 0)]) (fun y : List (List Int) => [(11, .row 1 (rowC (rows eWs y))), (2, .box [.own 11])]) [] apWS enW (Ws4 l) (patsX p l l.length []) hit (fun t y => y.length + t.length ≤ 625) (by simpa using hbl) (fun a e t ha he _ => by simp only [apWS, List.length_append, List.length_cons, List.length_nil] at ha ⊢; omega) rfl (fun _ => ⟨rfl, rfl⟩) rfl (by decide) (fun _ _ => rfl) (fun _ _ _ => rfl) (by simp only [List.map_cons, List.map_nil]; decide) (fun _ => rfl) (fun _ => wf_row rfl rfl) (fun _ => nb_row eWs_nb _ rfl) (by simp only [List.all_cons, List.all_nil, Blk.nb, rowC_nb, D.nb, D.nbs, C.nb, C.nbs, C.nbss, rows_nb eI_nb, Bool.and_true, Bool.not_false, Bool.and_self, bD, dI, iD, rows_nb eO_nb, rows_nb eWs_nb]) (fun _ _ => rfl) ?_ ?_
 ·rintro y e t hy he v
  have hy : y.length ≤ 625 := by omega
  simp (disch:=omega) only [go_sem,simprocAttr,qN,qO,qP,qQ,rF,rG,apWS]
  repeat' (first|(with_reducible first|apply qA|apply qB|apply qC|apply qD|apply qE|apply qF)|(simp (disch:=omega) only [go_sem, simprocAttr, qN, qO, qP, qQ, rF, rG])|exact qM rfl rfl rfl|(refine qG rfl ?_)|(refine qH rfl ?_)|(refine qI rfl ?_ ?_<;>intro hc<;>(try simp only [go_sem] at hc))|(refine qJ ?_ ?_<;>intro hc<;>(try simp only [hc])<;>(try simp only [go_sem] at hc)))
  refine round_end rfl rfl (Ent.to ?_ ?_) <;> simp (disch:=omega) only [qR,qS,qTw,qU,get,Nat.reduceEqDiff,↓reduceIte,qV,qW,qX,qY,qZ,and_self,dI,i64_in,and_true,true_and,rA,rB,rC,rD,capB,List.cons_append,List.nil_append,rowC_snocW]
 ·rw [apW_run]
  repeat' (first|(with_reducible first|apply qA|apply qB|apply qC|apply qD|apply qE|apply qF)|(simp (disch:=omega) only [go_sem, simprocAttr, qN, qO, qP, qQ])|exact qM rfl rfl rfl|(refine qG rfl ?_)|(refine qH rfl ?_)|(refine qI rfl ?_ ?_<;>intro hc<;>(try simp only [go_sem] at hc))|(refine qJ ?_ ?_<;>intro hc<;>(try simp only [hc])<;>(try simp only [go_sem] at hc)))
  (refine retS_ent (Ent.rel 11 rfl) ?_; simp (disch:=omega) only [go_sem,simprocAttr,qN,qO,qP,qQ])
  refine retS_wk rfl ?_ (by simp only [Blk.nb, rowC_nb, D.nb, D.nbs, C.nb, C.nbs, C.nbss, rows_nb eI_nb, Bool.and_true, Bool.not_false, Bool.and_self, bD, dI, iD, rows_nb eO_nb, rows_nb eWs_nb]); exact .refl _
theorem trCollect (p : TPap) (hp : p.ok) (l : List TOrd) (hl : l.length ≤ 4) (ho : ∀ o ∈ l, o.ok) : DCall Try.prog 130 [.c (.fn (.func 155) [] [.ro false [.sl false 1 (rows eI [])] 0, .ro false (macC p l) 0])] [] (dWs false (patsX p l l.length [])) [] := by
 have h1 := trAppSeq p hp l hl ho
 refine DCall.of Try.func130 sf130 hb130 (Nat.le_of_ble_eq_true rfl) (okRes_nil fun _ => rfl) ?_; simp only [s130, idxs, Nat.reduceAdd]
 repeat' (first|(with_reducible first|apply qA|apply qB|apply qC|apply qD|apply qE|apply qF)|(simp (disch:=omega) only [go_sem, simprocAttr, qN, qO, qP, qQ])|exact qM rfl rfl rfl|(refine qG rfl ?_)|(refine qK (h1) (by decide) ?_)|(refine qH rfl ?_)|(refine qI rfl ?_ ?_<;>intro hc<;>(try simp only [go_sem] at hc))|(refine qJ ?_ ?_<;>intro hc<;>(try simp only [hc])<;>(try simp only [go_sem] at hc)))
 refine retS_wk rfl ?_ (by simp only [Blk.nb, rowC_nb, D.nb, D.nbs, C.nb, C.nbs, C.nbss, rows_nb eI_nb, Bool.and_true, Bool.not_false, Bool.and_self, bD, dI, iD, rows_nb eO_nb, rows_nb eWs_nb]); exact .refl _
theorem trAll (p : TPap) (hp : p.ok) (l : List TOrd) (hl : l.length ≤ 4) (ho : ∀ o ∈ l, o.ok) : DCall Try.prog 101 [macD false p l] [] (dWs false (patsX p l l.length [])) [] := by
 have h1 := DCall.weakA (l := [macD false p l, .c (.v (.slice none 0 0))]) (trPatterns p l []) (.cons (.inl rfl) (.cons (.inr ⟨_, _, rfl, rfl, .nil _ _⟩) .nil))
 have h2 := trCollect p hp l hl ho
 refine DCall.of Try.func101 sf101 hb101 (Nat.le_of_ble_eq_true rfl) (okRes_nil fun _ => rfl) ?_; simp only [s101, idxs, Nat.reduceAdd]
 repeat' (first|(with_reducible first|apply qA|apply qB|apply qC|apply qD|apply qE|apply qF)|(simp (disch:=omega) only [go_sem, simprocAttr, qN, qO, qP, qQ])|exact qM rfl rfl rfl|(refine qG rfl ?_)|(refine qK (h1) (by decide) ?_)|(refine qK (h2) (by decide) ?_)|(refine qH rfl ?_)|(refine qI rfl ?_ ?_<;>intro hc<;>(try simp only [go_sem] at hc))|(refine qJ ?_ ?_<;>intro hc<;>(try simp only [hc])<;>(try simp only [go_sem] at hc)))
 refine retS_wk rfl ?_ (by simp only [Blk.nb, rowC_nb, D.nb, D.nbs, C.nb, C.nbs, C.nbss, rows_nb eI_nb, Bool.and_true, Bool.not_false, Bool.and_self, bD, dI, iD, rows_nb eO_nb, rows_nb eWs_nb]); exact .refl _
def patsD (p : TPap) (l : List TOrd) : D := if openE p l = 0 then dWs false (patsX p l l.length []) else .c (.v (.slice none 0 0))
theorem trPatternsX (p : TPap) (l : List TOrd) (hl : l.length ≤ 2 ^ 36) : DCall Try.prog 55 [papD p, .c (.sl false 3 (rows eO l))] [] (.tup [patsD p l, dI (openE p l)]) [] := by
 by_cases h : openE p l = 0
 ·obtain ⟨hp, hl4, ho⟩ := openE_ok h
  have h1 := trOpen p l h
  have h2 := trAll p hp l hl4 ho
  rw [patsD, if_pos h, h]
  refine DCall.of Try.func55 sf55 hb55 (Nat.le_of_ble_eq_true rfl) (okRes_nil fun _ => rfl) ?_; simp only [s55, idxs, Nat.reduceAdd]
  repeat' (first|(with_reducible first|apply qA|apply qB|apply qC|apply qD|apply qE|apply qF)|(simp (disch:=omega) only [go_sem, simprocAttr, qN, qO, qP, qQ])|exact qM rfl rfl rfl|(refine qG rfl ?_)|(refine qK (h1) (by decide) ?_)|(refine qK (h2) (by decide) ?_)|(refine qH rfl ?_)|(refine qI rfl ?_ ?_<;>intro hc<;>(try simp only [go_sem] at hc))|(refine qJ ?_ ?_<;>intro hc<;>(try simp only [hc])<;>(try simp only [go_sem] at hc)))
  refine retS_wk rfl ?_ (by simp only [Blk.nb, rowC_nb, D.nb, D.nbs, C.nb, C.nbs, C.nbss, rows_nb eI_nb, Bool.and_true, Bool.not_false, Bool.and_self, bD, dI, iD, rows_nb eO_nb, rows_nb eWs_nb]); exact .refl _
 ·have h1 := trOpenE false p l hl h
  rw [patsD, if_neg h]
  generalize openE p l = e at *
  have hd : (e != 0) = true := by simpa using h
  refine DCall.of Try.func55 sf55 hb55 (Nat.le_of_ble_eq_true rfl) (okRes_nil fun _ => rfl) ?_; simp only [s55, idxs, Nat.reduceAdd]
  repeat' (first|(with_reducible first|apply qA|apply qB|apply qC|apply qD|apply qE|apply qF)|(simp (disch:=omega) only [go_sem, simprocAttr, qN, qO, qP, qQ, hd])|exact qM rfl rfl rfl|(refine qG rfl ?_)|(refine qK (h1) (by decide) ?_)|(refine qH rfl ?_)|(refine qI rfl ?_ ?_<;>intro hc<;>(try simp only [go_sem] at hc))|(refine qJ ?_ ?_<;>intro hc<;>(try simp only [hc])<;>(try simp only [go_sem] at hc)))
end Go.Dw.Seat.Tr
end
section
set_option linter.unusedSimpArgs false
set_option maxRecDepth 100000
namespace Go.Dw.Seat.Tr
open Go Go.Dw Go.IntWalk
structure Srch where
 best : List TStp
 waste : Int
 found : Bool
def max2 (a b : Int) : Int := if b > a then b else a
def min2 (a b : Int) : Int := if b < a then b else a
def roomF (one : Bool) : List TOrd → List Int → List Int → Int → Int → Int × Int
 | o :: l, g :: got, n :: ws, lo, hi =>
  if 0 < n then roomF one l got ws (if one then max2 lo ((o.lo - g + n - 1).tdiv n) else lo) (min2 hi ((o.hi - g).tdiv n))
  else if one && decide (g < o.lo) then (1, 0) else roomF one l got ws lo hi
 | _, _, _, lo, hi => (lo, hi)
def leafF (l : List TOrd) (plan : List TStp) (waste : Int) (got : List Int) (S : Srch) : Srch := if doesB l got && (!S.found || decide (waste < S.waste)) then ⟨plan, waste, true⟩ else S
def runF (rec : List TStp → Int → List Int → Srch → Srch) (p : TPap) (l : List TOrd) (ws : List Int) (plan : List TStp) (waste : Int) (got : List Int) : Nat → Int → Srch → Srch
 | 0, _, S => S
 | k + 1, r, S => runF rec p l ws plan waste got k (r + 1) (rec (plan ++ [⟨ws, r⟩]) (waste + trimI p l ws * r) (addG got ws r) S)
def cntF (one : Bool) (R : Int × Int) : Nat := if one then (if R.1 ≤ R.2 then 1 else 0) else (R.2 - R.1 + 1).toNat
def loopF (rec : List (List Int) → List TStp → Int → List Int → Srch → Srch) (one : Bool) (p : TPap) (l : List TOrd) (plan : List TStp) (waste : Int) (got : List Int) : List (List Int) → Srch → Srch
 | [], S => S
 | ws :: T, S => loopF rec one p l plan waste got T (runF (rec T) p l ws plan waste got (cntF one (roomF one l got ws 1 30)) (roomF one l got ws 1 30).1 S)
def tryF (p : TPap) (l : List TOrd) : Nat → List (List Int) → List TStp → Int → List Int → Srch → Srch
 | 0, _, plan, waste, got, S => leafF l plan waste got S
 | m + 1, T, plan, waste, got, S => if S.found && decide (S.waste ≤ waste) then S else loopF (tryF p l m) (decide (m = 0)) p l plan waste got T S
def Ext : List (List Int) → Nat → List TStp → Prop
 | [], m, q => m = 0 ∧ q = []
 | ws :: T, m, q => match m with
  | 0 => q = []
  | m + 1 => (∃ r q', q = ⟨ws, r⟩ :: q' ∧ (1 ≤ r ∧ r ≤ 30) ∧ Ext T m q') ∨ Ext T (m + 1) q
theorem ext_zero {T : List (List Int)} {q : List TStp} : Ext T 0 q ↔ q = [] := by
 cases T with
 | nil => simp [Ext]
 | cons ws T => rfl
theorem ext_mem : ∀ {T : List (List Int)} {m : Nat} {q : List TStp}, Ext T m q → q.length = m ∧ ∀ s ∈ q, s.ws ∈ T ∧ 1 ≤ s.run ∧ s.run ≤ 30
 | [], m, q, h => by obtain ⟨rfl, rfl⟩ := h; exact ⟨rfl, fun s hs => by cases hs⟩
 | ws :: T, 0, q, h => by
  have : q = [] := h
  subst this; exact ⟨rfl, fun s hs => by cases hs⟩
 | ws :: T, m + 1, q, h => by
  rcases h with ⟨r, q', rfl, hr, h⟩ | h
  ·obtain ⟨h1, h2⟩ := ext_mem h
   refine ⟨by rw [List.length_cons, h1], fun s hs => ?_⟩
   rcases List.mem_cons.1 hs with rfl | hs
   ·exact ⟨by simp, hr.1, hr.2⟩
   ·have := h2 s hs
    exact ⟨List.mem_cons_of_mem _ this.1, this.2⟩
  ·obtain ⟨h1, h2⟩ := ext_mem h
   exact ⟨h1, fun s hs => ⟨List.mem_cons_of_mem _ (h2 s hs).1, (h2 s hs).2⟩⟩
def doesP (l : List TOrd) (q : List TStp) : Bool := doesB l (gotF (zeros l.length) q)
def bef (p : TPap) (l : List TOrd) (q b : List TStp) : Prop := wasteF p l q < wasteF p l b ∨ (wasteF p l q = wasteF p l b ∧ ltP q b = true)
theorem bef_irr (p : TPap) (l : List TOrd) (q : List TStp) : ¬ bef p l q q := by
 rintro (h | ⟨_, h⟩)
 ·omega
 ·have := ltP_asym h; rw [h] at this; cases this
theorem bef_trans {p : TPap} {l : List TOrd} {a b c : List TStp} (h1 : bef p l a b) (h2 : bef p l b c) : bef p l a c := by
 rcases h1 with h1 | ⟨h1, h3⟩ <;> rcases h2 with h2 | ⟨h2, h4⟩
 ·exact .inl (by omega)
 ·exact .inl (by omega)
 ·exact .inl (by omega)
 ·exact .inr ⟨by omega, ltP_trans h3 h4⟩
structure Good (p : TPap) (l : List TOrd) (S : Srch) (A : List TStp → Prop) : Prop where
 none : S.found = false → ∀ q, A q → doesP l q = false
 some : S.found = true → A S.best ∧ doesP l S.best = true ∧ S.waste = wasteF p l S.best ∧ ∀ q, A q → doesP l q = true → ¬ bef p l q S.best
theorem Good.add {p : TPap} {l : List TOrd} {S : Srch} {A B : List TStp → Prop} (h : Good p l S A) (hB : ∀ q, B q → doesP l q = true → S.found = true ∧ ¬ bef p l q S.best) : Good p l S (fun q => A q ∨ B q) := by
 refine ⟨fun hf q hq => ?_, fun hf => ?_⟩
 ·rcases hq with hq | hq
  ·exact h.none hf q hq
  ·cases hd : doesP l q with
   | false => rfl
   | true => have := (hB q hq hd).1; rw [hf] at this; cases this
 ·obtain ⟨h1, h2, h3, h4⟩ := h.some hf
  refine ⟨.inl h1, h2, h3, fun q hq hd => ?_⟩
  rcases hq with hq | hq
  ·exact h4 q hq hd
  ·exact (hB q hq hd).2
theorem Good.iff {p : TPap} {l : List TOrd} {S : Srch} {A B : List TStp → Prop} (h : Good p l S A) (hB : ∀ q, B q ↔ A q) : Good p l S B := by
 have : B = A := funext fun q => propext (hB q)
 rw [this]; exact h
theorem leaf_good {p : TPap} {l : List TOrd} {S : Srch} {A : List TStp → Prop} {plan : List TStp} (h : Good p l S A) (hA : ∀ a, A a → ltP a plan = true) : Good p l (leafF l plan (wasteF p l plan) (gotF (zeros l.length) plan) S) (fun q => A q ∨ q = plan) := by
 unfold leafF
 cases hd : doesB l (gotF (zeros l.length) plan) with
 | false =>
  rw [Bool.false_and, if_neg (by decide)]
  refine h.add fun q hq hd2 => ?_
  subst hq
  rw [doesP, hd] at hd2; cases hd2
 | true =>
  rw [Bool.true_and]
  cases hf : S.found with
  | false =>
   rw [Bool.not_false, Bool.true_or, if_pos rfl]
   refine ⟨fun hc => (by cases hc), fun _ => ⟨.inr rfl, hd, rfl, fun q hq hd2 => ?_⟩⟩
   rcases hq with hq | rfl
   ·rw [h.none hf q hq] at hd2; cases hd2
   ·exact bef_irr p l q
  | true =>
   obtain ⟨h1, h2, h3, h4⟩ := h.some hf
   rw [Bool.not_true, Bool.false_or]
   by_cases hw : wasteF p l plan < S.waste
   ·rw [decide_eq_true hw, if_pos rfl]
    refine ⟨fun hc => (by cases hc), fun _ => ⟨.inr rfl, hd, rfl, fun q hq hd2 hb => ?_⟩⟩
    rcases hq with hq | rfl
    ·have := h4 q hq hd2
     refine this (.inl ?_)
     rcases hb with hb | ⟨hb, _⟩ <;> dsimp only at hb <;> omega
    ·exact bef_irr p l q hb
   ·rw [decide_eq_false hw, if_neg (by decide)]
    refine h.add fun q hq hd2 => ⟨hf, fun hb => ?_⟩
    subst hq
    rcases hb with hb | ⟨_, hb⟩
    ·omega
    ·have := ltP_asym (hA _ h1)
     rw [hb] at this; cases this
theorem addG_cons (g : Int) (got : List Int) (n : Int) (ws : List Int) (r : Int) : addG (g :: got) (n :: ws) r = (g + n * r) :: addG got ws r := rfl
theorem le_tdiv {a n r : Int} (hn : 0 < n) (ha : 0 ≤ a) : r ≤ a.tdiv n ↔ n * r ≤ a := by
 rw [Int.tdiv_eq_ediv_of_nonneg ha, Int.le_ediv_iff_mul_le hn, Int.mul_comm]
theorem ceil_le {a n r : Int} (hn : 0 < n) (hr : 1 ≤ r) : (a + n - 1).tdiv n ≤ r ↔ a ≤ n * r := by
 have hnr : n ≤ n * r := by
  have := Int.mul_le_mul_of_nonneg_left hr (Int.le_of_lt hn)
  rwa [Int.mul_one] at this
 by_cases h : 0 ≤ a + n - 1
 ·rw [Int.tdiv_eq_ediv_of_nonneg h]
  have := Int.ediv_lt_iff_lt_mul (a := a + n - 1) (b := r + 1) hn
  rw [Int.add_mul, Int.one_mul, Int.mul_comm] at this
  omega
 ·have h2 : (a + n - 1).tdiv n ≤ 0 := by
   have e : a + n - 1 = -(-(a + n - 1)) := by omega
   rw [e, Int.neg_tdiv, Int.tdiv_eq_ediv_of_nonneg (by omega)]
   have := Int.ediv_nonneg (a := -(a + n - 1)) (b := n) (by omega) (by omega)
   omega
  constructor <;> intro _ <;> omega
theorem room_one : ∀ (l : List TOrd) (got ws : List Int) (lo hi r : Int), got.length = l.length → ws.length = l.length → (∀ n ∈ ws, 0 ≤ n) → leH l got = true → 1 ≤ lo → 1 ≤ r →
  ((roomF true l got ws lo hi).1 ≤ r ∧ r ≤ (roomF true l got ws lo hi).2 ↔ (lo ≤ r ∧ r ≤ hi) ∧ doesB l (addG got ws r) = true)
 | [], got, ws, lo, hi, r, h1, h2, _, _, _, _ => by
  obtain rfl := List.eq_nil_of_length_eq_zero h1
  obtain rfl := List.eq_nil_of_length_eq_zero h2
  simp [roomF, addG, doesB]
 | o :: l, [], _, _, _, _, h1, _, _, _, _, _ => by cases h1
 | o :: l, _ :: _, [], _, _, _, _, h2, _, _, _, _ => by cases h2
 | o :: l, g :: got, n :: ws, lo, hi, r, h1, h2, hn, hg, hlo, hr => by
  simp only [leH, Bool.and_eq_true, decide_eq_true_eq] at hg
  have hn0 := hn n (by simp)
  have ih := fun lo' hi' h => room_one l got ws lo' hi' r (by simpa using h1) (by simpa using h2) (fun m hm => hn m (by simp [hm])) hg.2 h hr
  rw [addG_cons]
  simp only [roomF, doesB, Bool.and_eq_true, decide_eq_true_eq, Bool.true_and, if_true]
  by_cases hnp : 0 < n
  ·rw [if_pos hnp]
   have hm : 1 ≤ max2 lo ((o.lo - g + n - 1).tdiv n) := by unfold max2; split <;> omega
   rw [ih _ _ hm]
   have c1 := ceil_le (a := o.lo - g) hnp hr
   have c2 := le_tdiv (a := o.hi - g) (r := r) hnp (by omega)
   generalize (o.lo - g + n - 1).tdiv n = A at *
   generalize (o.hi - g).tdiv n = B at *
   generalize n * r = C at *
   have m1 : max2 lo A ≤ r ↔ lo ≤ r ∧ A ≤ r := by unfold max2; split <;> omega
   have m2 : r ≤ min2 hi B ↔ r ≤ hi ∧ r ≤ B := by unfold min2; split <;> omega
   rw [m1, m2, c1, c2]
   constructor
   ·rintro ⟨⟨⟨a, b⟩, c, d⟩, e⟩; exact ⟨⟨a, c⟩, ⟨by omega, by omega⟩, e⟩
   ·rintro ⟨⟨a, c⟩, ⟨b, d⟩, e⟩; exact ⟨⟨⟨a, by omega⟩, c, by omega⟩, e⟩
  ·rw [if_neg hnp]
   obtain rfl : n = 0 := by omega
   rw [Int.zero_mul, Int.add_zero]
   by_cases hgl : g < o.lo
   ·rw [if_pos hgl]
    constructor
    ·rintro ⟨a, b⟩; dsimp only at a b; omega
    ·rintro ⟨_, ⟨a, _⟩, _⟩; omega
   ·rw [if_neg hgl, ih _ _ hlo]
    constructor
    ·rintro ⟨a, b⟩; exact ⟨a, ⟨by omega, hg.1⟩, b⟩
    ·rintro ⟨a, _, b⟩; exact ⟨a, b⟩
theorem room_more : ∀ (l : List TOrd) (got ws : List Int) (lo hi r : Int), got.length = l.length → ws.length = l.length → (∀ n ∈ ws, 0 ≤ n) → leH l got = true →
  (roomF false l got ws lo hi).1 = lo ∧ (r ≤ (roomF false l got ws lo hi).2 ↔ r ≤ hi ∧ leH l (addG got ws r) = true)
 | [], got, ws, lo, hi, r, h1, h2, _, _ => by
  obtain rfl := List.eq_nil_of_length_eq_zero h1
  obtain rfl := List.eq_nil_of_length_eq_zero h2
  simp [roomF, addG, leH]
 | o :: l, [], _, _, _, _, h1, _, _, _ => by cases h1
 | o :: l, _ :: _, [], _, _, _, _, h2, _, _ => by cases h2
 | o :: l, g :: got, n :: ws, lo, hi, r, h1, h2, hn, hg => by
  simp only [leH, Bool.and_eq_true, decide_eq_true_eq] at hg
  have hn0 := hn n (by simp)
  have ih := fun lo' hi' => room_more l got ws lo' hi' r (by simpa using h1) (by simpa using h2) (fun m hm => hn m (by simp [hm])) hg.2
  rw [addG_cons]
  simp only [roomF, leH, Bool.and_eq_true, decide_eq_true_eq, Bool.false_and, Bool.false_eq_true, if_false]
  by_cases hnp : 0 < n
  ·rw [if_pos hnp]
   obtain ⟨i1, i2⟩ := ih lo (min2 hi ((o.hi - g).tdiv n))
   refine ⟨i1, ?_⟩
   rw [i2]
   have c2 := le_tdiv (a := o.hi - g) (r := r) hnp (by omega)
   generalize (o.hi - g).tdiv n = B at *
   generalize n * r = C at *
   have m2 : r ≤ min2 hi B ↔ r ≤ hi ∧ r ≤ B := by unfold min2; split <;> omega
   rw [m2, c2]
   constructor
   ·rintro ⟨⟨c, d⟩, e⟩; exact ⟨c, by omega, e⟩
   ·rintro ⟨c, d, e⟩; exact ⟨⟨c, by omega⟩, e⟩
  ·rw [if_neg hnp]
   obtain rfl : n = 0 := by omega
   obtain ⟨i1, i2⟩ := ih lo hi
   refine ⟨i1, ?_⟩
   rw [i2, Int.zero_mul, Int.add_zero]
   constructor
   ·rintro ⟨a, b⟩; exact ⟨a, hg.1, b⟩
   ·rintro ⟨a, _, b⟩; exact ⟨a, b⟩
end Go.Dw.Seat.Tr
end
section
set_option linter.unusedSimpArgs false
set_option maxRecDepth 100000
namespace Go.Dw.Seat.Tr
open Go Go.Dw Go.IntWalk
structure WsOk (p : TPap) (l : List TOrd) (ws : List Int) : Prop where
 len : ws.length = l.length
 nn : ∀ n ∈ ws, 0 ≤ n
 pat : patB p l ws = true
structure PatsOk (p : TPap) (l : List TOrd) (T : List (List Int)) : Prop where
 asc : T.Pairwise fun a b => lexW a b = true
 ok : ∀ ws ∈ T, WsOk p l ws
theorem patB_b {p : TPap} {l : List TOrd} {ws : List Int} (h : patB p l ws = true) : (1 ≤ sumI ws ∧ sumI ws ≤ p.webs) ∧ usedI ws ≤ 2 ∧ p.tl ≤ trimI p l ws ∧ trimI p l ws ≤ p.th := by
 simpa [patB, and_assoc] using h
theorem trim_nn {p : TPap} (hp : p.ok) {l : List TOrd} {ws : List Int} (h : WsOk p l ws) : 0 ≤ trimI p l ws := by
 have := (patB_b h.pat).2.2
 have := hp.trim
 omega
theorem waste_nn {p : TPap} (hp : p.ok) {l : List TOrd} : ∀ {q : List TStp}, (∀ s ∈ q, WsOk p l s.ws ∧ 1 ≤ s.run) → 0 ≤ wasteF p l q
 | [], _ => Int.le_refl _
 | s :: q, h => by
  have h1 := waste_nn hp (q := q) (fun x hx => h x (by simp [hx]))
  obtain ⟨h2, h3⟩ := h s (by simp)
  have := Int.mul_nonneg (trim_nn hp h2) (show 0 ≤ s.run by omega)
  rw [wasteF]; omega
theorem leH_add : ∀ (l : List TOrd) (got ws : List Int) (r : Int), (∀ n ∈ ws, 0 ≤ n) → 0 ≤ r → leH l (addG got ws r) = true → leH l got = true
 | [], _, _, _, _, _, _ => by simp [leH]
 | _ :: _, [], _, _, _, _, _ => by simp [leH]
 | o :: l, g :: got, [], r, _, _, h => by rwa [addG] at h; all_goals simp
 | o :: l, g :: got, n :: ws, r, hn, hr, h => by
  rw [addG_cons] at h
  simp only [leH, Bool.and_eq_true, decide_eq_true_eq] at h ⊢
  have := Int.mul_nonneg (hn n (by simp)) hr
  exact ⟨by omega, leH_add l got ws r (fun m hm => hn m (by simp [hm])) hr h.2⟩
theorem leH_back {l : List TOrd} : ∀ {q : List TStp} {got : List Int}, (∀ s ∈ q, (∀ n ∈ s.ws, 0 ≤ n) ∧ 1 ≤ s.run) → leH l (gotF got q) = true → leH l got = true
 | [], _, _, h => h
 | s :: q, got, hq, h => by
  have h1 := leH_back (q := q) (got := addG got s.ws s.run) (fun x hx => hq x (by simp [hx])) h
  exact leH_add l got s.ws s.run (hq s (by simp)).1 (by have := (hq s (by simp)).2; omega) h1
theorem does_leH : ∀ {l : List TOrd} {got : List Int}, doesB l got = true → leH l got = true
 | [], _, _ => by simp [leH]
 | _ :: _, [], _ => by simp [leH]
 | o :: l, g :: got, h => by
  simp only [doesB, Bool.and_eq_true, decide_eq_true_eq] at h
  simp only [leH, Bool.and_eq_true, decide_eq_true_eq]
  exact ⟨h.1.2, does_leH h.2⟩
theorem gotF_len : ∀ (q : List TStp) (got : List Int), (gotF got q).length = got.length
 | [], _ => rfl
 | s :: q, got => by rw [gotF, gotF_len q, addG_len]
theorem room_lo : ∀ (l : List TOrd) (got ws : List Int) (lo hi : Int), 1 ≤ lo → 1 ≤ (roomF true l got ws lo hi).1
 | [], _, _, _, _, h => by simpa [roomF] using h
 | _ :: _, [], _, _, _, h => by simpa [roomF] using h
 | _ :: _, _ :: _, [], _, _, h => by simpa [roomF] using h
 | o :: l, g :: got, n :: ws, lo, hi, h => by
  simp only [roomF, Bool.true_and, if_true, decide_eq_true_eq]
  split
  ·exact room_lo l got ws _ _ (by unfold max2; split <;> omega)
  ·split
   ·exact Int.le_refl _
   ·exact room_lo l got ws _ _ h
theorem ext_head {T : List (List Int)} : ∀ {m : Nat} {q : List TStp}, Ext T (m + 1) q → ∃ ws r q', q = ⟨ws, r⟩ :: q' ∧ ws ∈ T := by
 induction T with
 | nil => intro m q h; cases h.1
 | cons ws T ih =>
  intro m q h
  rcases h with ⟨r, q', rfl, _, _⟩ | h
  ·exact ⟨ws, r, q', rfl, by simp⟩
  ·obtain ⟨ws', r, q', h1, h2⟩ := ih h
   exact ⟨ws', r, q', h1, by simp [h2]⟩
section
variable {p : TPap} {l : List TOrd}
theorem got_snoc (plan : List TStp) (ws : List Int) (r : Int) (got : List Int) : addG (gotF got plan) ws r = gotF got (plan ++ [⟨ws, r⟩]) := by rw [gotF_app]; rfl
theorem waste_snoc (plan : List TStp) (ws : List Int) (r : Int) : wasteF p l plan + trimI p l ws * r = wasteF p l (plan ++ [⟨ws, r⟩]) := by rw [wasteF_app]; simp [wasteF]
theorem runs_good {rec : List TStp → Int → List Int → Srch → Srch} {T : List (List Int)} {m : Nat}
  (hrec : ∀ plan S A, leH l (gotF (zeros l.length) plan) = true → Good p l S A → (∀ a q, A a → Ext T m q → ltP a (plan ++ q) = true) → Good p l (rec plan (wasteF p l plan) (gotF (zeros l.length) plan) S) (fun q => A q ∨ ∃ e, Ext T m e ∧ q = plan ++ e))
  (ws : List Int) (plan : List TStp) : ∀ (k : Nat) (r : Int) (S : Srch) (A : List TStp → Prop), (∀ r', r ≤ r' → r' < r + k → leH l (gotF (zeros l.length) (plan ++ [⟨ws, r'⟩])) = true) → Good p l S A →
   (∀ a r' e, A a → r ≤ r' → r' < r + k → Ext T m e → ltP a (plan ++ ⟨ws, r'⟩ :: e) = true) →
   Good p l (runF rec p l ws plan (wasteF p l plan) (gotF (zeros l.length) plan) k r S) (fun q => A q ∨ ∃ r' e, (r ≤ r' ∧ r' < r + k) ∧ Ext T m e ∧ q = plan ++ ⟨ws, r'⟩ :: e)
 | 0, r, S, A, _, h, _ => h.iff fun q => by
  constructor
  ·rintro (hq | ⟨r', e, hr, _⟩)
   ·exact hq
   ·omega
  ·exact .inl
 | k + 1, r, S, A, hle, h, hlt => by
  rw [runF, waste_snoc, got_snoc]
  have h1 := hrec (plan ++ [⟨ws, r⟩]) S A (hle r (Int.le_refl _) (by omega)) h (fun a q ha hq => by
   rw [List.append_assoc]
   exact hlt a r q ha (Int.le_refl _) (by omega) hq)
  have h2 := runs_good hrec ws plan k (r + 1) _ _ (fun r' h1 h2 => hle r' (by omega) (by omega)) h1 (fun a r' e ha hr1 hr2 he => by
   rcases ha with ha | ⟨e0, _, rfl⟩
   ·exact hlt a r' e ha (by omega) (by omega) he
   ·rw [List.append_assoc, ltP_app]
    show ltP (⟨ws, r⟩ :: e0) (⟨ws, r'⟩ :: e) = true
    simp only [ltP, if_true]
    rw [if_neg (by omega)]
    exact decide_eq_true (by omega))
  refine h2.iff fun q => ?_
  constructor
  ·rintro (hq | ⟨r', e, hr, he, rfl⟩)
   ·exact .inl (.inl hq)
   ·by_cases e1 : r' = r
    ·subst e1
     exact .inl (.inr ⟨e, he, by rw [List.append_assoc]; rfl⟩)
    ·exact .inr ⟨r', e, ⟨by omega, by omega⟩, he, rfl⟩
  ·rintro ((hq | ⟨e, he, rfl⟩) | ⟨r', e, hr, he, rfl⟩)
   ·exact .inl hq
   ·exact .inr ⟨r, e, ⟨by omega, by omega⟩, he, by rw [List.append_assoc]; rfl⟩
   ·exact .inr ⟨r', e, ⟨by omega, by omega⟩, he, rfl⟩
theorem ext_ok {T : List (List Int)} (hT : PatsOk p l T) {m : Nat} {q : List TStp} (h : Ext T m q) : ∀ s ∈ q, WsOk p l s.ws ∧ 1 ≤ s.run := fun s hs =>
 ⟨hT.ok _ ((ext_mem h).2 s hs).1, ((ext_mem h).2 s hs).2.1⟩
theorem not_does {plan e : List TStp} (h : leH l (gotF (zeros l.length) plan) ≠ true) (he : ∀ s ∈ e, WsOk p l s.ws ∧ 1 ≤ s.run) : doesP l (plan ++ e) ≠ true := fun hd => by
 unfold doesP at hd
 rw [gotF_app] at hd
 exact h (leH_back (fun s hs => ⟨(he s hs).1.nn, (he s hs).2⟩) (does_leH hd))
theorem loop_good (hp : p.ok) {m : Nat} {rec : List (List Int) → List TStp → Int → List Int → Srch → Srch}
  (hrec : ∀ T, PatsOk p l T → ∀ plan S A, leH l (gotF (zeros l.length) plan) = true → Good p l S A → (∀ a q, A a → Ext T m q → ltP a (plan ++ q) = true) → Good p l (rec T plan (wasteF p l plan) (gotF (zeros l.length) plan) S) (fun q => A q ∨ ∃ e, Ext T m e ∧ q = plan ++ e))
  (plan : List TStp) (hle : leH l (gotF (zeros l.length) plan) = true) : ∀ (T : List (List Int)) (S : Srch) (A : List TStp → Prop), PatsOk p l T → Good p l S A → (∀ a q, A a → Ext T (m + 1) q → ltP a (plan ++ q) = true) →
   Good p l (loopF rec (decide (m = 0)) p l plan (wasteF p l plan) (gotF (zeros l.length) plan) T S) (fun q => A q ∨ ∃ e, Ext T (m + 1) e ∧ q = plan ++ e)
 | [], S, A, _, h, _ => h.iff fun q => by
  constructor
  ·rintro (hq | ⟨e, he, _⟩)
   ·exact hq
   ·cases he.1
  ·exact .inl
 | ws :: T, S, A, hT, h, hlt => by
  obtain ⟨hs1, hs2⟩ := List.pairwise_cons.1 hT.asc
  have hT' : PatsOk p l T := ⟨hs2, fun w hw => hT.ok w (by simp [hw])⟩
  have hws := hT.ok ws (by simp)
  have hgl : (gotF (zeros l.length) plan).length = l.length := by rw [gotF_len]; simp [zeros]
  have hruns : Good p l (runF (rec T) p l ws plan (wasteF p l plan) (gotF (zeros l.length) plan) (cntF (decide (m = 0)) (roomF (decide (m = 0)) l (gotF (zeros l.length) plan) ws 1 30)) (roomF (decide (m = 0)) l (gotF (zeros l.length) plan) ws 1 30).1 S) (fun q => A q ∨ ∃ r' e, (1 ≤ r' ∧ r' ≤ 30) ∧ Ext T m e ∧ q = plan ++ ⟨ws, r'⟩ :: e) := by
   by_cases hm : m = 0
   ·subst hm
    rw [decide_eq_true rfl]
    have hr1 := fun r hr => room_one l (gotF (zeros l.length) plan) ws 1 30 r hgl hws.len hws.nn hle (Int.le_refl _) hr
    have hlo := room_lo l (gotF (zeros l.length) plan) ws 1 30 (Int.le_refl _)
    generalize roomF true l (gotF (zeros l.length) plan) ws 1 30 = R at *
    have hdoes : ∀ r, doesP l (plan ++ [⟨ws, r⟩]) = doesB l (addG (gotF (zeros l.length) plan) ws r) := fun r => by rw [got_snoc]; rfl
    unfold cntF
    rw [if_pos rfl]
    by_cases hR : R.1 ≤ R.2
    ·rw [if_pos hR]
     have hdL := ((hr1 R.1 hlo).1 ⟨Int.le_refl _, hR⟩)
     have h1 := runs_good (hrec T hT') ws plan 1 R.1 S A (fun r' a b => by
      obtain rfl : r' = R.1 := by omega
      rw [← got_snoc]
      exact does_leH hdL.2) h (fun a r' e ha hr1' hr2 he => hlt a _ ha (.inl ⟨r', e, rfl, by
       obtain rfl : r' = R.1 := by omega
       exact hdL.1, he⟩))
     have hL : ∃ r' e, (R.1 ≤ r' ∧ r' < R.1 + ((1 : Nat) : Int)) ∧ Ext T 0 e ∧ plan ++ [(⟨ws, R.1⟩ : TStp)] = plan ++ ⟨ws, r'⟩ :: e := ⟨R.1, [], ⟨Int.le_refl _, by omega⟩, ext_zero.2 rfl, rfl⟩
     have h2 := h1.add (B := fun q => ∃ r' e, (1 ≤ r' ∧ r' ≤ 30) ∧ Ext T 0 e ∧ q = plan ++ ⟨ws, r'⟩ :: e) (fun q hq hd => by
      obtain ⟨r', e, hr', he, rfl⟩ := hq
      obtain rfl := ext_zero.1 he
      rw [hdoes] at hd
      have hrr := (hr1 r' hr'.1).2 ⟨hr', hd⟩
      cases hf : (runF (rec T) p l ws plan (wasteF p l plan) (gotF (zeros l.length) plan) 1 R.1 S).found with
      | false =>
       have := h1.none hf _ (.inr hL)
       rw [hdoes, hdL.2] at this; cases this
      | true =>
       refine ⟨rfl, fun hb => ?_⟩
       obtain ⟨_, _, _, h4⟩ := h1.some hf
       have hbL := h4 _ (.inr hL) (by rw [hdoes]; exact hdL.2)
       by_cases e1 : r' = R.1
       ·rw [e1] at hb; exact hbL hb
       ·refine hbL (bef_trans ?_ hb)
        have ht := trim_nn hp hws
        have hm1 : trimI p l ws * R.1 ≤ trimI p l ws * r' := Int.mul_le_mul_of_nonneg_left hrr.1 ht
        have hlr : ltP (plan ++ [(⟨ws, R.1⟩ : TStp)]) (plan ++ [⟨ws, r'⟩]) = true := by
         rw [ltP_app]
         simp only [ltP, if_true]
         rw [if_neg (by omega)]
         exact decide_eq_true (by omega)
        rcases Int.lt_or_le (trimI p l ws * R.1) (trimI p l ws * r') with hc | hc
        ·exact .inl (by rw [← waste_snoc, ← waste_snoc]; omega)
        ·exact .inr ⟨by rw [← waste_snoc, ← waste_snoc]; omega, hlr⟩)
     refine h2.iff fun q => ?_
     constructor
     ·rintro (hq | hq)
      ·exact .inl (.inl hq)
      ·exact .inr hq
     ·rintro ((hq | ⟨r', e, hr, he, rfl⟩) | hq)
      ·exact .inl hq
      ·obtain rfl : r' = R.1 := by omega
       exact .inr ⟨R.1, e, hdL.1, he, rfl⟩
      ·exact .inr hq
    ·rw [if_neg hR]
     refine h.add fun q hq hd => ?_
     obtain ⟨r', e, hr', he, rfl⟩ := hq
     obtain rfl := ext_zero.1 he
     rw [hdoes] at hd
     have := (hr1 r' hr'.1).2 ⟨hr', hd⟩
     omega
   ·rw [decide_eq_false hm]
    have hr1 := fun r => room_more l (gotF (zeros l.length) plan) ws 1 30 r hgl hws.len hws.nn hle
    generalize roomF false l (gotF (zeros l.length) plan) ws 1 30 = R at *
    have e1 : R.1 = 1 := (hr1 0).1
    unfold cntF
    rw [if_neg (by decide), e1]
    have hcnt : ∀ r', 1 ≤ r' → (r' < 1 + ((R.2 - 1 + 1).toNat : Int) ↔ r' ≤ R.2) := fun r' h => by omega
    have h1 := runs_good (hrec T hT') ws plan (R.2 - 1 + 1).toNat 1 S A (fun r' a b => by
     rw [← got_snoc]
     exact ((hr1 r').2.1 ((hcnt r' a).1 b)).2) h (fun a r' e ha hr1' hr2 he => hlt a _ ha (.inl ⟨r', e, rfl, ⟨hr1', ((hr1 r').2.1 ((hcnt r' hr1').1 hr2)).1⟩, he⟩))
    have h2 := h1.add (B := fun q => ∃ r' e, (1 ≤ r' ∧ r' ≤ 30) ∧ ¬ r' ≤ R.2 ∧ Ext T m e ∧ q = plan ++ ⟨ws, r'⟩ :: e) (fun q hq hd => by
     obtain ⟨r', e, hr', hn, he, rfl⟩ := hq
     exfalso
     have h3 : leH l (gotF (zeros l.length) (plan ++ [⟨ws, r'⟩])) ≠ true := fun h4 => hn ((hr1 r').2.2 ⟨hr'.2, by rw [got_snoc]; exact h4⟩)
     have h5 := not_does (p := p) (e := e) h3 (ext_ok hT' he)
     rw [List.append_assoc] at h5
     exact h5 hd)
    refine h2.iff fun q => ?_
    constructor
    ·rintro (hq | ⟨r', e, hr, he, rfl⟩)
     ·exact .inl (.inl hq)
     ·by_cases hle2 : r' ≤ R.2
      ·exact .inl (.inr ⟨r', e, ⟨hr.1, (hcnt r' hr.1).2 hle2⟩, he, rfl⟩)
      ·exact .inr ⟨r', e, hr, hle2, he, rfl⟩
    ·rintro ((hq | ⟨r', e, hr, he, rfl⟩) | ⟨r', e, hr, _, he, rfl⟩)
     ·exact .inl hq
     ·exact .inr ⟨r', e, ⟨hr.1, ((hr1 r').2.1 ((hcnt r' hr.1).1 hr.2)).1⟩, he, rfl⟩
     ·exact .inr ⟨r', e, hr, he, rfl⟩
  rw [loopF]
  have h3 := loop_good hp hrec plan hle T _ _ hT' hruns (fun a q ha hq => by
   rcases ha with ha | ⟨r', e, _, _, rfl⟩
   ·exact hlt a q ha (.inr hq)
   ·obtain ⟨ws', r2, q', rfl, hmem⟩ := ext_head hq
    have hlx := hs1 ws' hmem
    rw [ltP_app]
    simp only [ltP]
    rw [if_neg (fun e => by rw [e, lexW_irr] at hlx; cases hlx)]
    exact hlx)
  refine h3.iff fun q => ?_
  constructor
  ·rintro (hq | ⟨e, he, rfl⟩)
   ·exact .inl (.inl hq)
   ·rcases he with ⟨r, q', rfl, hr, he⟩ | he
    ·exact .inl (.inr ⟨r, q', hr, he, rfl⟩)
    ·exact .inr ⟨e, he, rfl⟩
  ·rintro ((hq | ⟨r', e, hr, he, rfl⟩) | ⟨e, he, rfl⟩)
   ·exact .inl hq
   ·exact .inr ⟨_, .inl ⟨r', e, rfl, hr, he⟩, rfl⟩
   ·exact .inr ⟨e, .inr he, rfl⟩
theorem try_good (hp : p.ok) : ∀ (m : Nat) (T : List (List Int)), PatsOk p l T → ∀ plan S A, leH l (gotF (zeros l.length) plan) = true → Good p l S A → (∀ a q, A a → Ext T m q → ltP a (plan ++ q) = true) →
  Good p l (tryF p l m T plan (wasteF p l plan) (gotF (zeros l.length) plan) S) (fun q => A q ∨ ∃ e, Ext T m e ∧ q = plan ++ e)
 | 0, T, hT, plan, S, A, hle, h, hlt => by
  rw [tryF]
  refine (leaf_good h (fun a ha => by have := hlt a [] ha (ext_zero.2 rfl); rwa [List.append_nil] at this)).iff fun q => ?_
  constructor
  ·rintro (hq | ⟨e, he, rfl⟩)
   ·exact .inl hq
   ·obtain rfl := ext_zero.1 he
    exact .inr (List.append_nil _)
  ·rintro (hq | rfl)
   ·exact .inl hq
   ·exact .inr ⟨[], ext_zero.2 rfl, (List.append_nil _).symm⟩
 | m + 1, T, hT, plan, S, A, hle, h, hlt => by
  rw [tryF]
  cases hf : S.found && decide (S.waste ≤ wasteF p l plan) with
  | true =>
   rw [if_pos rfl]
   simp only [Bool.and_eq_true, decide_eq_true_eq] at hf
   obtain ⟨h1, h2, h3, h4⟩ := h.some hf.1
   refine h.add fun q hq hd => ⟨hf.1, fun hb => ?_⟩
   obtain ⟨e, he, rfl⟩ := hq
   have hw := waste_nn hp (ext_ok hT he)
   rcases hb with hb | ⟨_, hb⟩
   ·rw [wasteF_app] at hb; omega
   ·have := ltP_asym (hlt _ e h1 he)
    rw [hb] at this; cases this
  | false =>
   rw [if_neg (by decide)]
   exact loop_good hp (fun T hT => try_good hp m T hT) plan hle T S A hT h hlt
end
end Go.Dw.Seat.Tr
end
section
set_option linter.unusedSimpArgs false
set_option maxRecDepth 100000
namespace Go.Dw.Seat.Tr
open Go Go.Dw Go.IntWalk
theorem allW_spec : ∀ n, (allW n).Pairwise (fun a b => lexW a b = true) ∧ ∀ ws ∈ allW n, ws.length = n ∧ ∀ x ∈ ws, 0 ≤ x ∧ x ≤ 4
 | 0 => ⟨by simp [allW], fun ws h => by
  simp only [allW, List.mem_singleton] at h
  subst h; exact ⟨rfl, fun x hx => by cases hx⟩⟩
 | n + 1 => by
  obtain ⟨h1, h2⟩ := allW_spec n
  have hmem : ∀ d ws, ws ∈ (allW n).map (d :: ·) → ∃ t, t ∈ allW n ∧ ws = d :: t := fun d ws h => by
   obtain ⟨t, ht, rfl⟩ := List.mem_map.1 h
   exact ⟨t, ht, rfl⟩
  refine ⟨?_, fun ws h => ?_⟩
  ·rw [allW, List.pairwise_flatMap]
   refine ⟨fun d _ => ?_, ?_⟩
   ·rw [List.pairwise_map]
    exact h1.imp fun {a b} h => by rw [lexW, if_pos rfl]; exact h
   ·have key : ∀ d e : Int, d < e → ∀ x ∈ (allW n).map (d :: ·), ∀ y ∈ (allW n).map (e :: ·), lexW x y = true := fun d e hde x hx y hy => by
     obtain ⟨s, _, rfl⟩ := hmem d x hx
     obtain ⟨t, _, rfl⟩ := hmem e y hy
     rw [lexW, if_neg (by omega)]
     exact decide_eq_true hde
    have hp : ([0, 1, 2, 3, 4] : List Int).Pairwise (· < ·) := by decide
    exact hp.imp fun {a b} h => key a b h
  ·rw [allW, List.mem_flatMap] at h
   obtain ⟨d, hd, h⟩ := h
   obtain ⟨t, ht, rfl⟩ := hmem d ws h
   obtain ⟨h3, h4⟩ := h2 t ht
   refine ⟨by rw [List.length_cons, h3], fun x hx => ?_⟩
   rcases List.mem_cons.1 hx with rfl | hx
   ·simp only [List.mem_cons, List.not_mem_nil, or_false] at hd
    rcases hd with rfl | rfl | rfl | rfl | rfl <;> decide
   ·exact h4 x hx
theorem pats_ok (p : TPap) (l : List TOrd) : PatsOk p l (pats p l) := by
 obtain ⟨h1, h2⟩ := allW_spec l.length
 refine ⟨h1.filter _, fun ws h => ?_⟩
 obtain ⟨h3, h4⟩ := List.mem_filter.1 h
 exact ⟨(h2 ws h3).1, fun n hn => ((h2 ws h3).2 n hn).1, h4⟩
def srch (p : TPap) (l : List TOrd) (n : Nat) : Srch := tryF p l n (pats p l) [] 0 (zeros l.length) ⟨[], 0, false⟩
def planF (p : TPap) (l : List TOrd) : Option (List TStp × Int) := (List.range 4).findSome? fun n => if (srch p l n).found then some ((srch p l n).best, (srch p l n).waste) else none
structure PlanOk (p : TPap) (l : List TOrd) (q : List TStp) : Prop where
 len : q.length ≤ 3
 ext : Ext (pats p l) q.length q
 does : doesP l q = true
def Better (p : TPap) (l : List TOrd) (q b : List TStp) : Prop := q.length < b.length ∨ (q.length = b.length ∧ bef p l q b)
theorem zeros_le : ∀ (l : List TOrd), (∀ o ∈ l, o.ok) → leH l (zeros l.length) = true
 | [], _ => by simp [leH]
 | o :: l, h => by
  have := (h o (by simp)).need
  show leH (o :: l) ((0 : Int) :: zeros l.length) = true
  simp only [leH, Bool.and_eq_true, decide_eq_true_eq]
  exact ⟨by omega, zeros_le l fun x hx => h x (by simp [hx])⟩
theorem srch_good {p : TPap} (hp : p.ok) {l : List TOrd} (hl : ∀ o ∈ l, o.ok) (n : Nat) : Good p l (srch p l n) (fun q => Ext (pats p l) n q) := by
 have h := try_good hp n (pats p l) (pats_ok p l) [] ⟨[], 0, false⟩ (fun _ => False) (zeros_le l hl) ⟨fun _ _ h => h.elim, fun h => by cases h⟩ (fun _ _ h => h.elim)
 refine h.iff fun q => ?_
 constructor
 ·intro hq; exact .inr ⟨q, hq, rfl⟩
 ·rintro (hq | ⟨e, he, rfl⟩)
  ·exact hq.elim
  ·exact he
theorem plan_spec {p : TPap} (hp : p.ok) {l : List TOrd} (hl : ∀ o ∈ l, o.ok) : match planF p l with
  | none => ∀ q, ¬ PlanOk p l q
  | some (b, w) => PlanOk p l b ∧ w = wasteF p l b ∧ ∀ q, PlanOk p l q → ¬ Better p l q b := by
 have hg := fun n => srch_good hp hl n
 cases hF : planF p l with
 | none =>
  intro q hq
  have h1 := List.findSome?_eq_none_iff.1 hF q.length (List.mem_range.2 (by have := hq.len; omega))
  have h2 := (hg q.length).none (by
   cases hf : (srch p l q.length).found with
   | false => rfl
   | true => rw [hf] at h1; cases h1) q hq.ext
  rw [hq.does] at h2; cases h2
 | some x =>
  obtain ⟨b, w⟩ := x
  have key : ∀ n, (List.range n).findSome? (fun n => if (srch p l n).found then some ((srch p l n).best, (srch p l n).waste) else none) = some (b, w) → ∃ i, i < n ∧ (srch p l i).found = true ∧ (srch p l i).best = b ∧ (srch p l i).waste = w ∧ ∀ j, j < i → (srch p l j).found = false := by
   intro n
   induction n with
   | zero => intro h; cases h
   | succ n ih =>
    intro h
    rw [List.range_succ, List.findSome?_append] at h
    cases hr : (List.range n).findSome? (fun n => if (srch p l n).found then some ((srch p l n).best, (srch p l n).waste) else none) with
    | some y =>
     rw [hr] at h
     cases h
     obtain ⟨i, h1, h2⟩ := ih hr
     exact ⟨i, by omega, h2⟩
    | none =>
     rw [hr] at h
     simp only [Option.none_or, List.findSome?_cons, List.findSome?_nil] at h
     refine ⟨n, by omega, ?_⟩
     cases hf : (srch p l n).found with
     | false => rw [hf] at h; simp at h
     | true =>
      rw [hf] at h
      simp only [if_true, Option.some.injEq, Prod.mk.injEq] at h
      refine ⟨rfl, h.1, h.2, fun j hj => ?_⟩
      have := List.findSome?_eq_none_iff.1 hr j (List.mem_range.2 hj)
      cases hfj : (srch p l j).found with
      | false => rfl
      | true => rw [hfj] at this; cases this
  obtain ⟨i, hi, hf, rfl, rfl, hj⟩ := key 4 hF
  obtain ⟨h1, h2, h3, h4⟩ := (hg i).some hf
  have hlen := (ext_mem h1).1
  refine ⟨⟨by omega, by rw [hlen]; exact h1, h2⟩, h3, fun q hq hb => ?_⟩
  rcases hb with hb | ⟨hb1, hb2⟩
  ·have := (hg q.length).none (hj q.length (by omega)) q hq.ext
   rw [hq.does] at this; cases this
  ·have hx := hq.ext
   rw [hb1, hlen] at hx
   exact h4 q hx hq.does hb2
theorem plan_ws {p : TPap} {l : List TOrd} {q : List TStp} (h : PlanOk p l q) : ∀ s ∈ q, WsOk p l s.ws ∧ 1 ≤ s.run := ext_ok (pats_ok p l) h.ext
structure Good2 (p : TPap) (l : List TOrd) (b : Option (List TStp)) (A : List TStp → Prop) : Prop where
 none : b = none → ∀ q, A q → doesP l q = false
 some : ∀ x, b = some x → A x ∧ doesP l x = true ∧ ∀ q, A q → doesP l q = true → ¬ Better p l q x
theorem Good2.iff {p : TPap} {l : List TOrd} {S : Option (List TStp)} {A B : List TStp → Prop} (h : Good2 p l S A) (hB : ∀ q, B q ↔ A q) : Good2 p l S B := by
 have : B = A := funext fun q => propext (hB q)
 rw [this]; exact h
end Go.Dw.Seat.Tr
end
section
set_option linter.unusedSimpArgs false
set_option maxRecDepth 100000
namespace Go.Dw.Seat.Tr
open Go Go.Dw Go.Proofs Go.IntWalk
abbrev srC (p : TPap) (l : List TOrd) (P : List (List Int)) (S : Srch) : List D := [dI p.wide, dI p.tl, dI p.th, dI p.webs, .c (.sl false 3 (rows eO l)), dWs false P, dSt false S.best, dI S.waste, bD S.found]
abbrev srB (lm : Nat) (p : TPap) (l : List TOrd) (P : List (List Int)) (S : Srch) : Nat × Blk := (14, .pbox lm (srC p l P S))
abbrev srD (lm : Nat) : D := .c (.v (.pointer (some ⟨lm, 0, none⟩)))
theorem bm_pbox (k l : Nat) (ds : List D) : Blk.men k (.pbox l ds) = D.mens k ds := rfl
theorem bk_pbox (bx : List (Nat × Blk)) (l : Nat) (ds : List D) : Blk.keysIn bx (.pbox l ds) = D.keysIns bx ds := rfl
theorem killB_pbox (k l : Nat) (ds : List D) : killB k (.pbox l ds) = .pbox l (ds.map (killD k)) := rfl
attribute [go_sem] bm_pbox bk_pbox killB_pbox dWs srB srD srC
theorem srB_ok (r : D) (hr : ∀ k, r.men k = false) (lm : Nat) (p : TPap) (l : List TOrd) (P : List (List Int)) (S : Srch) : okRes r [srB lm p l P S] := by
 refine ⟨fun k _ => hr k, fun j x hj k hk => ?_⟩
 simp only [get] at hj
 split at hj
 ·cases hj; rfl
 ·cases hj
theorem srB_nb (lm : Nat) (p : TPap) (l : List TOrd) (P : List (List Int)) (S : Srch) {k : Nat} {x : Blk} (hk : get k [srB lm p l P S] = some x) : k = 14 ∧ x = .pbox lm (srC p l P S) ∧ x.nb = true := by
 simp only [get] at hk
 split at hk
 ·rename_i e; cases hk; exact ⟨e, rfl, by simp only [Blk.nb]; exact (by simp only [List.all_cons, List.all_nil, Blk.nb, rowC_nb, D.nb, D.nbs, C.nb, C.nbs, C.nbss, rows_nb eI_nb, Bool.and_true, Bool.not_false, Bool.and_self, bD, dI, iD, rows_nb eO_nb, rows_nb eSt_nb, rows_nb eWs_nb])⟩
 ·cases hk
theorem room_drop {one : Bool} {l : List TOrd} {got ws : List Int} {i : Nat} {o : TOrd} {g n : Int} (ho : l[i]? = some o) (hg : got[i]? = some g) (hn : ws[i]? = some n) (lo hi : Int) :
  roomF one (l.drop i) (got.drop i) (ws.drop i) lo hi = if 0 < n then roomF one (l.drop (i + 1)) (got.drop (i + 1)) (ws.drop (i + 1)) (if one then max2 lo ((o.lo - g + n - 1).tdiv n) else lo) (min2 hi ((o.hi - g).tdiv n))
  else if one && decide (g < o.lo) then (1, 0) else roomF one (l.drop (i + 1)) (got.drop (i + 1)) (ws.drop (i + 1)) lo hi := by
 obtain ⟨h1, e1⟩ := List.getElem?_eq_some_iff.1 ho
 obtain ⟨h2, e2⟩ := List.getElem?_eq_some_iff.1 hg
 obtain ⟨h3, e3⟩ := List.getElem?_eq_some_iff.1 hn
 rw [List.drop_eq_getElem_cons h1, List.drop_eq_getElem_cons h2, List.drop_eq_getElem_cons h3, e1, e2, e3, roomF]
theorem max2_eq (a b : Int) : max2 a b = max a b := by unfold max2; split <;> omega
theorem min2_eq (a b : Int) : min2 a b = min a b := by unfold min2; split <;> omega
theorem tdiv_b {a n : Int} (ha : -1000 ≤ a ∧ a ≤ 1000) (hn : 1 ≤ n ∧ n ≤ 4) : -1000 ≤ Int.tdiv a n ∧ Int.tdiv a n ≤ 1000 := by
 have key : ∀ c : Int, 0 ≤ c → c ≤ 1000 → 0 ≤ Int.tdiv c n ∧ Int.tdiv c n ≤ 1000 := fun c h1 h2 => by
  rw [Int.tdiv_eq_ediv_of_nonneg h1]
  exact ⟨Int.ediv_nonneg h1 (by omega), Int.le_trans (Int.ediv_le_self _ h1) h2⟩
 by_cases h : 0 ≤ a
 ·have := key a h ha.2
  omega
 ·have h2 := key (-a) (by omega) (by omega)
  have e : a = -(-a) := by omega
  rw [e, Int.neg_tdiv]
  omega
theorem roomF_nil (one : Bool) (got ws : List Int) (lo hi : Int) : roomF one [] got ws lo hi = (lo, hi) := by simp [roomF]
set_option maxHeartbeats 2000000 in
theorem trRoom (b1 b2 one : Bool) (lm : Nat) (p : TPap) (l : List TOrd) (hl : l.length ≤ 4) (ho : ∀ o ∈ l, o.ok) (P : List (List Int)) (S : Srch) (got : List Int) (hg : got.length = l.length) (hgb : ∀ v ∈ got, 0 ≤ v ∧ v ≤ 1000) (ws : List Int) (hw : Ws4 l ws) :
  DCall Try.prog 133 [srD lm, dIs b1 got, dIs b2 ws, bD one] [srB lm p l P S] (.agg [dI (roomF one l got ws 1 30).1, dI (roomF one l got ws 1 30).2]) [srB lm p l P S] := by
 have hwl := hw.len
 generalize hR : roomF one l got ws 1 30 = R
 refine DCall.of Try.func133 sf133 hb133 (Nat.le_of_ble_eq_true rfl) (srB_ok _ (fun _ => rfl) _ _ _ _ _) ?_
 simp only [s133, idxs, Nat.reduceAdd]
 repeat' (first|(with_reducible first|apply qA|apply qB|apply qC|apply qD|apply qE|apply qF)|(refine qL rfl (WF.of ?_) ?_; first|rfl|skip)|(simp (disch:=omega) only [go_sem, simprocAttr, qN, qO, qP, qQ])|exact qM rfl rfl rfl|(refine qG rfl ?_)|(refine qH rfl ?_)|(refine qI rfl ?_ ?_<;>intro hc<;>(try simp only [go_sem] at hc))|(refine qJ ?_ ?_<;>intro hc<;>(try simp only [hc])<;>(try simp only [go_sem] at hc)))
 refine DW.loop (ι := { y : Nat × Int × Int // y.1 ≤ ws.length ∧ roomF one (l.drop y.1) (got.drop y.1) (ws.drop y.1) y.2.1 y.2.2 = R ∧ (-10000 ≤ y.2.1 ∧ y.2.1 ≤ 10000) ∧ -10000 ≤ y.2.2 ∧ y.2.2 ≤ 10000 }) (fun y => ⟨77, [(16, dI y.1.1), (15, dI ws.length), (14, dIs b2 ws), (9, .box 9 0), (8, .box 8 0), (0, srD lm), (1, dIs b1 got), (3, bD one)], [srB lm p l P S, (9, .box [dI y.1.2.1, dI y.1.2.2]), (8, .box [dI 0, dI 0])]⟩) (fun y => ws.length - y.1.1) ⟨(0, 1, 30), Nat.zero_le _, hR, by decide, by decide⟩ ?_ ?_
 ·refine Ent.to ?_ ?_ <;> simp (disch:=omega) only [qR,qS,qTw,qU,get,Nat.reduceEqDiff,↓reduceIte,qV,qW,qX,qY,qZ,and_self,dI,i64_in,and_true,true_and,rA,rB,rC,rD]
  all_goals first | exact ⟨.refl _, .refl _⟩ | exact .refl _
 rintro ⟨⟨i, lo, hi⟩, hi1, hi2, hi3, hi4⟩
 dsimp only at hi1 hi2 hi3 hi4 ⊢
 rcases at_or ws i hi1 with ⟨n, hn, hlt, hd⟩ | ⟨he, hd⟩
 ·obtain ⟨o, hoi⟩ := getE (l := l) (i := i) (by omega)
  obtain ⟨g, hgi⟩ := getE (l := got) (i := i) (by omega)
  have hnb := hw.b n (List.mem_of_getElem? hn)
  have hob := (ho o (List.mem_of_getElem? hoi)).need
  have hgv := hgb g (List.mem_of_getElem? hgi)
  rw [room_drop hoi hgi hn] at hi2
  by_cases hnp : 0 < n
  ·have hdn : decide (0 < n) = true := decide_eq_true hnp
   have hnz : (n = 0) = False := eq_false (by omega)
   rw [if_pos hnp] at hi2
   have q1 := tdiv_b (a := o.hi - g) (n := n) (by omega) (by omega)
   have q2 := tdiv_b (a := o.lo - g + n - 1) (n := n) (by omega) (by omega)
   have em : (if Int.tdiv (o.hi - g) n < hi then Int.tdiv (o.hi - g) n else hi) = min2 hi (Int.tdiv (o.hi - g) n) := rfl
   have m2 : -10000 ≤ min2 hi (Int.tdiv (o.hi - g) n) ∧ min2 hi (Int.tdiv (o.hi - g) n) ≤ 10000 := by rw [min2_eq]; omega
   have ex : (if lo < Int.tdiv (o.lo - g + n - 1) n then Int.tdiv (o.lo - g + n - 1) n else lo) = max2 lo (Int.tdiv (o.lo - g + n - 1) n) := rfl
   have m1 : -10000 ≤ max2 lo (Int.tdiv (o.lo - g + n - 1) n) ∧ max2 lo (Int.tdiv (o.lo - g + n - 1) n) ≤ 10000 := by rw [max2_eq]; omega
   generalize hX : min2 hi (Int.tdiv (o.hi - g) n) = X at *
   generalize hY : max2 lo (Int.tdiv (o.lo - g + n - 1) n) = Y at *
   generalize hA : Int.tdiv (o.hi - g) n = A at *
   generalize hB : Int.tdiv (o.lo - g + n - 1) n = B at *
   cases one with
   | true =>
    rw [if_pos rfl] at hi2
    repeat' (first|(with_reducible first|apply qA|apply qB|apply qC|apply qD|apply qE|apply qF)|(refine qL rfl (WF.of ?_) ?_; first|rfl|skip)|(simp (disch:=omega) only [go_sem, simprocAttr, qN, qO, qP, qQ, hd, hn, hoi, hgi, hdn, hnz, hA, hB, em, ex, rF, rG])|exact qM rfl rfl rfl|(refine qG rfl ?_)|(refine qH rfl ?_)|(refine qI rfl ?_ ?_<;>intro hc<;>(try simp only [go_sem] at hc))|(refine qJ ?_ ?_<;>intro hc<;>(try simp only [hc])<;>(try simp only [go_sem] at hc)))
    refine ⟨⟨(i + 1, Y, X), hlt, hi2, m1, m2⟩, ?_, Ent.to ?_ ?_⟩ <;> first | (show _ < _; (try simp only); omega) | (simp (disch:=omega) only [qR,qS,qTw,qU,get,Nat.reduceEqDiff,↓reduceIte,qV,qW,qX,qY,qZ,and_self,dI,i64_in,and_true,true_and,rA,rB,rC,rD])
    all_goals first | exact ⟨.refl _, .refl _⟩ | exact .refl _
   | false =>
    rw [if_neg (by decide)] at hi2
    repeat' (first|(with_reducible first|apply qA|apply qB|apply qC|apply qD|apply qE|apply qF)|(refine qL rfl (WF.of ?_) ?_; first|rfl|skip)|(simp (disch:=omega) only [go_sem, simprocAttr, qN, qO, qP, qQ, hd, hn, hoi, hgi, hdn, hnz, hA, em, rF, rG])|exact qM rfl rfl rfl|(refine qG rfl ?_)|(refine qH rfl ?_)|(refine qI rfl ?_ ?_<;>intro hc<;>(try simp only [go_sem] at hc))|(refine qJ ?_ ?_<;>intro hc<;>(try simp only [hc])<;>(try simp only [go_sem] at hc)))
    refine ⟨⟨(i + 1, lo, X), hlt, hi2, hi3, m2⟩, ?_, Ent.to ?_ ?_⟩ <;> first | (show _ < _; (try simp only); omega) | (simp (disch:=omega) only [qR,qS,qTw,qU,get,Nat.reduceEqDiff,↓reduceIte,qV,qW,qX,qY,qZ,and_self,dI,i64_in,and_true,true_and,rA,rB,rC,rD])
    all_goals first | exact ⟨.refl _, .refl _⟩ | exact .refl _
  ·have hdn : decide (0 < n) = false := decide_eq_false hnp
   rw [if_neg hnp] at hi2
   cases one with
   | false =>
    rw [Bool.false_and, if_neg (by decide)] at hi2
    repeat' (first|(with_reducible first|apply qA|apply qB|apply qC|apply qD|apply qE|apply qF)|(refine qL rfl (WF.of ?_) ?_; first|rfl|skip)|(simp (disch:=omega) only [go_sem, simprocAttr, qN, qO, qP, qQ, hd, hn, hoi, hgi, hdn, rF, rG])|exact qM rfl rfl rfl|(refine qG rfl ?_)|(refine qH rfl ?_)|(refine qI rfl ?_ ?_<;>intro hc<;>(try simp only [go_sem] at hc))|(refine qJ ?_ ?_<;>intro hc<;>(try simp only [hc])<;>(try simp only [go_sem] at hc)))
    refine ⟨⟨(i + 1, lo, hi), hlt, hi2, hi3, hi4⟩, ?_, Ent.to ?_ ?_⟩ <;> first | (show _ < _; (try simp only); omega) | (simp (disch:=omega) only [qR,qS,qTw,qU,get,Nat.reduceEqDiff,↓reduceIte,qV,qW,qX,qY,qZ,and_self,dI,i64_in,and_true,true_and,rA,rB,rC,rD])
    all_goals first | exact ⟨.refl _, .refl _⟩ | exact .refl _
   | true =>
    rw [Bool.true_and] at hi2
    cases hgl : decide (g < o.lo) with
    | true =>
     rw [hgl, if_pos rfl] at hi2
     subst hi2
     repeat' (first|(with_reducible first|apply qA|apply qB|apply qC|apply qD|apply qE|apply qF)|(refine qL rfl (WF.of ?_) ?_; first|rfl|skip)|(simp (disch:=omega) only [go_sem, simprocAttr, qN, qO, qP, qQ, hd, hn, hoi, hgi, hdn, hgl, rF, rG])|exact qM rfl rfl rfl|(refine qG rfl ?_)|(refine qH rfl ?_)|(refine qI rfl ?_ ?_<;>intro hc<;>(try simp only [go_sem] at hc))|(refine qJ ?_ ?_<;>intro hc<;>(try simp only [hc])<;>(try simp only [go_sem] at hc)))
     exact retS_bs rfl rfl rfl (fun j x hj => by
      obtain ⟨rfl, rfl, hn⟩ := srB_nb lm p l P S hj
      exact ⟨rfl, hn⟩)
    | false =>
     rw [hgl, if_neg (by decide)] at hi2
     repeat' (first|(with_reducible first|apply qA|apply qB|apply qC|apply qD|apply qE|apply qF)|(refine qL rfl (WF.of ?_) ?_; first|rfl|skip)|(simp (disch:=omega) only [go_sem, simprocAttr, qN, qO, qP, qQ, hd, hn, hoi, hgi, hdn, hgl, rF, rG])|exact qM rfl rfl rfl|(refine qG rfl ?_)|(refine qH rfl ?_)|(refine qI rfl ?_ ?_<;>intro hc<;>(try simp only [go_sem] at hc))|(refine qJ ?_ ?_<;>intro hc<;>(try simp only [hc])<;>(try simp only [go_sem] at hc)))
     refine ⟨⟨(i + 1, lo, hi), hlt, hi2, hi3, hi4⟩, ?_, Ent.to ?_ ?_⟩ <;> first | (show _ < _; (try simp only); omega) | (simp (disch:=omega) only [qR,qS,qTw,qU,get,Nat.reduceEqDiff,↓reduceIte,qV,qW,qX,qY,qZ,and_self,dI,i64_in,and_true,true_and,rA,rB,rC,rD])
     all_goals first | exact ⟨.refl _, .refl _⟩ | exact .refl _
 ·have hl0 : l.drop i = [] := List.drop_eq_nil_of_le (by omega)
  rw [hl0, roomF_nil] at hi2
  subst hi2
  repeat' (first|(with_reducible first|apply qA|apply qB|apply qC|apply qD|apply qE|apply qF)|(refine qL rfl (WF.of ?_) ?_; first|rfl|skip)|(simp (disch:=omega) only [go_sem, simprocAttr, qN, qO, qP, qQ, hd])|exact qM rfl rfl rfl|(refine qG rfl ?_)|(refine qH rfl ?_)|(refine qI rfl ?_ ?_<;>intro hc<;>(try simp only [go_sem] at hc))|(refine qJ ?_ ?_<;>intro hc<;>(try simp only [hc])<;>(try simp only [go_sem] at hc)))
  exact retS_bs rfl rfl rfl (fun j x hj => by
   obtain ⟨rfl, rfl, hn⟩ := srB_nb lm p l P S hj
   exact ⟨rfl, hn⟩)
end Go.Dw.Seat.Tr
end
section
set_option linter.unusedSimpArgs false
set_option maxRecDepth 100000
namespace Go.Dw.Seat.Tr
open Go Go.Dw Go.Proofs Go.IntWalk
theorem wrong_does : ∀ (l : List TOrd) (g : List Int), g.length = l.length → decide (wrongI l g < 0) = doesB l g
 | l, g, h => by
  have key : ∀ (l : List TOrd) (g : List Int), g.length = l.length → (l.zip g).any wrO = !doesB l g := by
   intro l
   induction l with
   | nil => intro g _; simp [doesB]
   | cons o l ih =>
    intro g h
    cases g with
    | nil => cases h
    | cons v g =>
     rw [List.zip_cons_cons, List.any_cons, ih g (by simpa using h), doesB, wrO, wthn1]
     simp only [Bool.not_and]
  have h1 := key l g h
  have h2 := idxI_any wrO (l.zip g)
  rw [h1] at h2
  unfold wrongI
  cases hd : doesB l g <;> rw [hd] at h2 <;> simp at h2 ⊢ <;> omega
abbrev noneR : D := .tup []
def TryC (p : TPap) (l : List TOrd) (P : List (List Int)) (m : Nat) : Prop := ∀ (lm : Nat) (b2 : Bool) (i : Nat) (plan : List TStp) (waste : Int) (got : List Int) (S : Srch), i ≤ P.length → plan.length + m ≤ 3 → (0 ≤ waste ∧ waste ≤ 90000 * (plan.length : Int)) → got.length = l.length → (∀ v ∈ got, 0 ≤ v ∧ v ≤ 120 * (plan.length : Int)) →
 DCall Try.prog 102 [srD lm, dSt false plan, dI i, dI m, dI waste, dIs b2 got] [srB lm p l P S] noneR [srB lm p l P (tryF p l m (P.drop i) plan waste got S)]
set_option maxHeartbeats 2000000 in
theorem trTry0 (p : TPap) (l : List TOrd) (hl : l.length ≤ 4) (P : List (List Int)) : TryC p l P 0 := by
 intro lm b2 i plan waste got S hi hpl hw hg hgb
 have h1 := trWrong false b2 p l hl got hg
 have hwd := wrong_does l got hg
 have h2 := trCloneS false plan (by omega) 60
 refine DCall.of Try.func102 sf102 hb102 (Nat.le_of_ble_eq_true rfl) (srB_ok _ (fun _ => rfl) _ _ _ _ _) ?_
 simp only [s102, o102_0, o102_1, o102_2, o102_3, o102_4, o102_5, o102_6, o102_7, o102_8, o102_9, o102_10, o102_11, o102_12, o102_13, o102_14, o102_15, o102_16, o102_17, o102_18, o102_19, o102_20, o102_21, o102_22, o102_23, idxs, Nat.reduceAdd]
 have d0 : decide ((0 : Int) < ((0 : Nat) : Int)) = false := rfl
 have e0 : ((((0 : Nat) : Int)) == 0) = true := rfl
 rw [tryF, leafF]
 generalize wrongI l got = W at *
 obtain ⟨B, w, F⟩ := S
 dsimp only
 cases hd : doesB l got with
 | false =>
  rw [Bool.false_and, if_neg (by decide)]
  rw [hd] at hwd
  cases F with
  | false =>
   repeat' (first|(with_reducible first|apply qA|apply qB|apply qC|apply qD|apply qE|apply qF)|(refine DW.ord rfl (WF.of (by first|rfl|simp (disch:=omega) only [go_sem, simprocAttr, qN, qO, qP, qQ, d0, e0, hwd])) ?_ ?_ ?_; rotate_left)|rfl|(with_reducible refine And.intro ?_ ?_)|(simp (disch:=omega) only [go_sem, simprocAttr, qN, qO, qP, qQ, d0, e0, hwd])|exact qM rfl rfl rfl|(refine qG rfl ?_)|(refine qK (h1) (by decide) ?_)|(refine qH rfl ?_)|(refine qI rfl ?_ ?_<;>intro hc<;>(try simp only [go_sem] at hc))|(refine qJ ?_ ?_<;>intro hc<;>(try simp only [hc])<;>(try simp only [go_sem] at hc)))
   exact retS_bs rfl rfl rfl (fun j x hj => by
    obtain ⟨rfl, rfl, hn⟩ := srB_nb lm p l P ⟨B, w, false⟩ hj
    exact ⟨rfl, hn⟩)
  | true =>
   cases hx : decide (w ≤ waste) with
   | true =>
    repeat' (first|(with_reducible first|apply qA|apply qB|apply qC|apply qD|apply qE|apply qF)|(refine DW.ord rfl (WF.of (by first|rfl|simp (disch:=omega) only [go_sem, simprocAttr, qN, qO, qP, qQ, d0, e0, hwd, hx])) ?_ ?_ ?_; rotate_left)|rfl|(with_reducible refine And.intro ?_ ?_)|(simp (disch:=omega) only [go_sem, simprocAttr, qN, qO, qP, qQ, d0, e0, hwd, hx])|exact qM rfl rfl rfl|(refine qG rfl ?_)|(refine qK (h1) (by decide) ?_)|(refine qH rfl ?_)|(refine qI rfl ?_ ?_<;>intro hc<;>(try simp only [go_sem] at hc))|(refine qJ ?_ ?_<;>intro hc<;>(try simp only [hc])<;>(try simp only [go_sem] at hc)))
    exact retS_bs rfl rfl rfl (fun j x hj => by
     obtain ⟨rfl, rfl, hn⟩ := srB_nb lm p l P ⟨B, w, true⟩ hj
     exact ⟨rfl, hn⟩)
   | false =>
    repeat' (first|(with_reducible first|apply qA|apply qB|apply qC|apply qD|apply qE|apply qF)|(refine DW.ord rfl (WF.of (by first|rfl|simp (disch:=omega) only [go_sem, simprocAttr, qN, qO, qP, qQ, d0, e0, hwd, hx])) ?_ ?_ ?_; rotate_left)|rfl|(with_reducible refine And.intro ?_ ?_)|(simp (disch:=omega) only [go_sem, simprocAttr, qN, qO, qP, qQ, d0, e0, hwd, hx])|exact qM rfl rfl rfl|(refine qG rfl ?_)|(refine qK (h1) (by decide) ?_)|(refine qH rfl ?_)|(refine qI rfl ?_ ?_<;>intro hc<;>(try simp only [go_sem] at hc))|(refine qJ ?_ ?_<;>intro hc<;>(try simp only [hc])<;>(try simp only [go_sem] at hc)))
    exact retS_bs rfl rfl rfl (fun j x hj => by
     obtain ⟨rfl, rfl, hn⟩ := srB_nb lm p l P ⟨B, w, true⟩ hj
     exact ⟨rfl, hn⟩)
 | true =>
  rw [Bool.true_and]
  rw [hd] at hwd
  cases F with
  | false =>
   rw [Bool.not_false, Bool.true_or, if_pos rfl]
   repeat' (first|(with_reducible first|apply qA|apply qB|apply qC|apply qD|apply qE|apply qF)|(refine DW.ord rfl (WF.of (by first|rfl|simp (disch:=omega) only [go_sem, simprocAttr, qN, qO, qP, qQ, d0, e0, hwd])) ?_ ?_ ?_; rotate_left)|rfl|(with_reducible refine And.intro ?_ ?_)|(simp (disch:=omega) only [go_sem, simprocAttr, qN, qO, qP, qQ, d0, e0, hwd])|exact qM rfl rfl rfl|(refine qG rfl ?_)|(refine qK (h1) (by decide) ?_)|(refine qH rfl ?_)|(refine qI rfl ?_ ?_<;>intro hc<;>(try simp only [go_sem] at hc))|(refine qJ ?_ ?_<;>intro hc<;>(try simp only [hc])<;>(try simp only [go_sem] at hc)))
   (refine call_r (h2) (by decide) (by first | rfl | simp (disch:=omega) only [go_sem,simprocAttr,qN,qO,qP,qQ]) (by first | rfl | simp (disch:=omega) only [go_sem,simprocAttr,qN,qO,qP,qQ]) ?_; simp (disch:=omega) only [go_sem,simprocAttr,qN,qO,qP,qQ])
   repeat' (first|(with_reducible first|apply qA|apply qB|apply qC|apply qD|apply qE|apply qF)|(refine DW.ord rfl (WF.of (by first|rfl|simp (disch:=omega) only [go_sem, simprocAttr, qN, qO, qP, qQ])) ?_ ?_ ?_; rotate_left)|rfl|(with_reducible refine And.intro ?_ ?_)|(simp (disch:=omega) only [go_sem, simprocAttr, qN, qO, qP, qQ])|exact qM rfl rfl rfl|(refine qG rfl ?_)|(refine qH rfl ?_)|(refine qI rfl ?_ ?_<;>intro hc<;>(try simp only [go_sem] at hc))|(refine qJ ?_ ?_<;>intro hc<;>(try simp only [hc])<;>(try simp only [go_sem] at hc)))
   (refine retS_ent (Ent.rel 60 rfl) ?_; simp (disch:=omega) only [go_sem,simprocAttr,qN,qO,qP,qQ])
   exact retS_bs rfl rfl rfl (fun j x hj => by
    obtain ⟨rfl, rfl, hn⟩ := srB_nb lm p l P ⟨plan, waste, true⟩ hj
    exact ⟨rfl, hn⟩)
  | true =>
   rw [Bool.not_true, Bool.false_or]
   by_cases hx : waste < w
   ·have hx1 : decide (waste < w) = true := decide_eq_true hx
    have hx2 : decide (w ≤ waste) = false := decide_eq_false (by omega)
    rw [if_pos hx1]
    repeat' (first|(with_reducible first|apply qA|apply qB|apply qC|apply qD|apply qE|apply qF)|(refine DW.ord rfl (WF.of (by first|rfl|simp (disch:=omega) only [go_sem, simprocAttr, qN, qO, qP, qQ, d0, e0, hwd, hx1, hx2])) ?_ ?_ ?_; rotate_left)|rfl|(with_reducible refine And.intro ?_ ?_)|(simp (disch:=omega) only [go_sem, simprocAttr, qN, qO, qP, qQ, d0, e0, hwd, hx1, hx2])|exact qM rfl rfl rfl|(refine qG rfl ?_)|(refine qK (h1) (by decide) ?_)|(refine qH rfl ?_)|(refine qI rfl ?_ ?_<;>intro hc<;>(try simp only [go_sem] at hc))|(refine qJ ?_ ?_<;>intro hc<;>(try simp only [hc])<;>(try simp only [go_sem] at hc)))
    (refine call_r (h2) (by decide) (by first | rfl | simp (disch:=omega) only [go_sem,simprocAttr,qN,qO,qP,qQ]) (by first | rfl | simp (disch:=omega) only [go_sem,simprocAttr,qN,qO,qP,qQ]) ?_; simp (disch:=omega) only [go_sem,simprocAttr,qN,qO,qP,qQ])
    repeat' (first|(with_reducible first|apply qA|apply qB|apply qC|apply qD|apply qE|apply qF)|(refine DW.ord rfl (WF.of (by first|rfl|simp (disch:=omega) only [go_sem, simprocAttr, qN, qO, qP, qQ])) ?_ ?_ ?_; rotate_left)|rfl|(with_reducible refine And.intro ?_ ?_)|(simp (disch:=omega) only [go_sem, simprocAttr, qN, qO, qP, qQ])|exact qM rfl rfl rfl|(refine qG rfl ?_)|(refine qH rfl ?_)|(refine qI rfl ?_ ?_<;>intro hc<;>(try simp only [go_sem] at hc))|(refine qJ ?_ ?_<;>intro hc<;>(try simp only [hc])<;>(try simp only [go_sem] at hc)))
    (refine retS_ent (Ent.rel 60 rfl) ?_; simp (disch:=omega) only [go_sem,simprocAttr,qN,qO,qP,qQ])
    exact retS_bs rfl rfl rfl (fun j x hj => by
     obtain ⟨rfl, rfl, hn⟩ := srB_nb lm p l P ⟨plan, waste, true⟩ hj
     exact ⟨rfl, hn⟩)
   ·have hx1 : decide (waste < w) = false := decide_eq_false hx
    have hx2 : decide (w ≤ waste) = true := decide_eq_true (by omega)
    rw [if_neg (by rw [hx1]; decide)]
    repeat' (first|(with_reducible first|apply qA|apply qB|apply qC|apply qD|apply qE|apply qF)|(refine DW.ord rfl (WF.of (by first|rfl|simp (disch:=omega) only [go_sem, simprocAttr, qN, qO, qP, qQ, d0, e0, hwd, hx1, hx2])) ?_ ?_ ?_; rotate_left)|rfl|(with_reducible refine And.intro ?_ ?_)|(simp (disch:=omega) only [go_sem, simprocAttr, qN, qO, qP, qQ, d0, e0, hwd, hx1, hx2])|exact qM rfl rfl rfl|(refine qG rfl ?_)|(refine qK (h1) (by decide) ?_)|(refine qH rfl ?_)|(refine qI rfl ?_ ?_<;>intro hc<;>(try simp only [go_sem] at hc))|(refine qJ ?_ ?_<;>intro hc<;>(try simp only [hc])<;>(try simp only [go_sem] at hc)))
    exact retS_bs rfl rfl rfl (fun j x hj => by
     obtain ⟨rfl, rfl, hn⟩ := srB_nb lm p l P ⟨B, w, true⟩ hj
     exact ⟨rfl, hn⟩)
end Go.Dw.Seat.Tr
end
section
set_option linter.unusedSimpArgs false
set_option maxRecDepth 100000
namespace Go.Dw.Seat.Tr
open Go Go.Dw Go.Proofs Go.IntWalk
theorem sum_app : ∀ (a b : List Int), sumI (a ++ b) = sumI a + sumI b
 | [], b => by simp [sumI]
 | n :: a, b => by rw [List.cons_append, sumI, sumI, sum_app a b]; omega
theorem sum_nn : ∀ (a : List Int), (∀ n ∈ a, 0 ≤ n) → 0 ≤ sumI a
 | [], _ => by simp [sumI]
 | n :: a, h => by
  have h1 := h n (by simp)
  have h2 := sum_nn a (fun x hx => h x (by simp [hx]))
  rw [sumI]; omega
theorem pat_none (p : TPap) (l : List TOrd) (r : Nat) (ws : List Int) (hw : ∀ n ∈ ws, 0 ≤ n) (d : Int) (hd : p.webs < d) : (((allW r).map (d :: ·)).map (ws ++ ·)).filter (patB p l) = [] := by
 rw [List.filter_eq_nil_iff]
 intro w hm hp
 simp only [List.mem_map] at hm
 obtain ⟨t, ⟨u, hu, rfl⟩, rfl⟩ := hm
 have h1 := (patB_b hp).1.2
 rw [sum_app, sumI] at h1
 have h2 := sum_nn ws hw
 have h3 := sum_nn u (fun n hn => (((allW_spec r).2 u hu).2 n hn).1)
 omega
theorem patsX_pats (p : TPap) (hp : p.ok) (l : List TOrd) : ∀ (r : Nat) (ws : List Int), (∀ n ∈ ws, 0 ≤ n) → patsX p l r ws = ((allW r).map (ws ++ ·)).filter (patB p l)
 | 0, ws, _ => by
  simp only [patsX, allW, List.map_cons, List.map_nil, List.append_nil, List.filter_cons, List.filter_nil]
 | r + 1, ws, hw => by
  have hyes : ∀ d : Nat, patsX p l r (ws ++ [(d : Int)]) = (((allW r).map ((d : Int) :: ·)).map (ws ++ ·)).filter (patB p l) := fun d => by
   rw [patsX_pats p hp l r (ws ++ [(d : Int)]) (fun n hn => by
    simp only [List.mem_append, List.mem_singleton] at hn
    rcases hn with hn | rfl
    ·exact hw n hn
    ·omega), List.map_map]
   congr 2
   funext u
   simp
  have hno := pat_none p l r ws hw
  have hwb := hp.webs
  rw [patsX, allW, List.map_flatMap, List.filter_flatMap]
  simp only [hyes]
  generalize hG : (fun d : Int => (((allW r).map (d :: ·)).map (ws ++ ·)).filter (patB p l)) = G
  have hG' : ∀ d : Int, (((allW r).map (d :: ·)).map (ws ++ ·)).filter (patB p l) = G d := fun d => by rw [← hG]
  simp only [hG'] at hno ⊢
  have hc : p.webs = 1 ∨ p.webs = 2 ∨ p.webs = 3 ∨ p.webs = 4 := by omega
  rcases hc with e | e | e | e <;> rw [e] at hno ⊢
  ·simp [List.range_succ, hno 2 (by decide), hno 3 (by decide), hno 4 (by decide)]
  ·simp [List.range_succ, hno 3 (by decide), hno 4 (by decide)]
  ·simp [List.range_succ, hno 4 (by decide)]
  ·simp [List.range_succ]
theorem patsX_all (p : TPap) (hp : p.ok) (l : List TOrd) : patsX p l l.length [] = pats p l := by
 rw [patsX_pats p hp l l.length [] (by simp), pats]
 simp
end Go.Dw.Seat.Tr
end
section
set_option linter.unusedSimpArgs false
set_option maxRecDepth 100000
namespace Go.Dw.Seat.Tr
open Go Go.Dw Go.Proofs Go.IntWalk
theorem WsOk.ws4 {p : TPap} (hp : p.ok) {l : List TOrd} {ws : List Int} (h : WsOk p l ws) : Ws4 l ws := by
 refine ⟨h.len, fun n hn => ⟨h.nn n hn, ?_⟩⟩
 have h1 := (patB_b h.pat).1.2
 have h2 := hp.webs
 have : ∀ ws : List Int, (∀ n ∈ ws, 0 ≤ n) → ∀ n ∈ ws, n ≤ sumI ws := by
  intro ws
  induction ws with
  | nil => intro _ n hn; cases hn
  | cons a ws ih =>
   intro h n hn
   have h3 := sum_nn ws (fun x hx => h x (by simp [hx]))
   have h4 := h a (by simp)
   rw [sumI]
   rcases List.mem_cons.1 hn with rfl | hn
   ·omega
   ·have := ih (fun x hx => h x (by simp [hx])) n hn
    omega
 have := this ws h.nn n hn
 omega
theorem rows_snocS (q : List TStp) (ws : List Int) (r : Int) : rows eSt q ++ [[C.sl false 1 (rows eI ws), C.v (.int .i64 r)]] = rows eSt (q ++ [⟨ws, r⟩]) := by simp [rows, eSt]
theorem shut2 (ws : List Int) (r : Int) : shutEs [[D.c (.sl false 1 (rows eI ws)), D.c (.v (.int .i64 r))]] = some [[C.sl false 1 (rows eI ws), C.v (.int .i64 r)]] := rfl
theorem room_hi : ∀ (one : Bool) (l : List TOrd) (got ws : List Int) (lo hi : Int), 0 ≤ hi → (roomF one l got ws lo hi).2 ≤ hi
 | _, [], _, _, _, _, _ => by simp [roomF]
 | _, _ :: _, [], _, _, _, _ => by simp [roomF]
 | _, _ :: _, _ :: _, [], _, _, _ => by simp [roomF]
 | one, o :: l, g :: got, n :: ws, lo, hi, h => by
  have key : ∀ (l : List TOrd) (got ws : List Int) (lo hi' : Int), hi' ≤ hi → (roomF one l got ws lo hi').2 ≤ hi := by
   intro l
   induction l with
   | nil => intro got ws lo hi' h; simpa [roomF] using h
   | cons o l ih =>
    intro got ws lo hi' h'
    cases got with
    | nil => simpa [roomF] using h'
    | cons g got =>
     cases ws with
     | nil => simpa [roomF] using h'
     | cons n ws =>
      rw [roomF]
      split
      ·exact ih _ _ _ _ (by rw [min2_eq]; omega)
      ·split
       ·exact h
       ·exact ih _ _ _ _ h'
  exact key _ _ _ _ _ (Int.le_refl _)
theorem room_lo1 (one : Bool) (l : List TOrd) (got ws : List Int) (hi : Int) : 1 ≤ (roomF one l got ws 1 hi).1 := by
 cases one with
 | true => exact room_lo l got ws 1 hi (Int.le_refl _)
 | false =>
  have key : ∀ (l : List TOrd) (got ws : List Int) (hi : Int), 1 ≤ (roomF false l got ws 1 hi).1 := by
   intro l
   induction l with
   | nil => intro _ _ _; simp [roomF]
   | cons o l ih =>
    intro got ws hi
    cases got with
    | nil => simp [roomF]
    | cons g got =>
     cases ws with
     | nil => simp [roomF]
     | cons n ws =>
      rw [roomF]
      split
      ·exact ih _ _ _
      ·split
       ·exact Int.le_refl _
       ·exact ih _ _ _
  exact key _ _ _ _
theorem srRet (lm : Nat) (p : TPap) (l : List TOrd) (P : List (List Int)) (S : Srch) {σ : St} {e : Exit} (he : e = .ret ∨ e = .normal) (h : get 14 σ.bx = some (.pbox lm (srC p l P S))) : retS Try.prog [] noneR [srB lm p l P S] e σ :=
 ⟨he, σ, [], Ent.refl _, rfl, .refl _, rfl, fun j x hj => by
  obtain ⟨rfl, rfl, hn⟩ := srB_nb lm p l P S hj
  exact ⟨h, hn⟩⟩
set_option maxHeartbeats 4000000 in
theorem trTryS (p : TPap) (hp : p.ok) (l : List TOrd) (hl : l.length ≤ 4) (ho : ∀ o ∈ l, o.ok) (P : List (List Int)) (hP : ∀ ws ∈ P, WsOk p l ws) (hPl : P.length ≤ 625) (m : Nat) (ih : TryC p l P m) : TryC p l P (m + 1) := by
 intro lm b2 i plan waste got S hi hpl hw hg hgb
 refine DCall.of Try.func102 sf102 hb102 (Nat.le_of_ble_eq_true rfl) (srB_ok _ (fun _ => rfl) _ _ _ _ _) ?_
 simp only [s102, o102_0, o102_1, o102_2, o102_3, o102_4, o102_5, o102_6, o102_7, o102_8, o102_9, o102_10, o102_11, o102_12, o102_13, o102_14, o102_15, o102_16, o102_17, o102_18, o102_19, o102_20, o102_21, o102_22, o102_23, idxs, Nat.reduceAdd]
 obtain ⟨M, hM⟩ : ∃ M : Int, M = ((m + 1 : Nat) : Int) := ⟨_, rfl⟩
 rw [← hM]
 have d0 : decide ((0 : Int) < M) = true := decide_eq_true (by omega)
 have e0 : (M == 0) = false := by rw [beq_eq_false_iff_ne]; omega
 have sM : M - 1 = (m : Int) := by omega
 have e1 : (M == 1) = decide (m = 0) := by rw [Bool.eq_iff_iff, beq_iff_eq, decide_eq_true_eq]; omega
 rw [tryF]
 obtain ⟨B, w, F⟩ := S
 dsimp only
 cases hF : (F && decide (w ≤ waste)) with
 | true =>
  simp only [Bool.and_eq_true] at hF
  obtain ⟨rfl, hx⟩ := hF
  rw [if_pos rfl]
  repeat' (first|(with_reducible first|apply qA|apply qB|apply qC|apply qD|apply qE|apply qF)|(refine DW.ord rfl (WF.of (by first|rfl|simp (disch:=omega) only [go_sem, simprocAttr, qN, qO, qP, qQ, d0, hx])) ?_ ?_ ?_; rotate_left)|rfl|(with_reducible refine And.intro ?_ ?_)|(simp (disch:=omega) only [go_sem, simprocAttr, qN, qO, qP, qQ, d0, hx])|exact qM rfl rfl rfl|(refine qG rfl ?_)|(refine qH rfl ?_)|(refine qI rfl ?_ ?_<;>intro hc<;>(try simp only [go_sem] at hc))|(refine qJ ?_ ?_<;>intro hc<;>(try simp only [hc])<;>(try simp only [go_sem] at hc)))
  exact srRet lm p l P ⟨B, w, true⟩ (.inl rfl) rfl
 | false =>
  rw [if_neg (by decide)]
  generalize hR : loopF (tryF p l m) (decide (m = 0)) p l plan waste got (P.drop i) ⟨B, w, F⟩ = R
  have hcut : ∀ Q : Prop, (F = false → Q) → (F = true → decide (w ≤ waste) = false → Q) → Q := fun Q h1 h2 => by
   cases F with
   | false => exact h1 rfl
   | true => exact h2 rfl (by simpa using hF)
  refine DW.cut ⟨134, [(0, srD lm), (1, dSt false plan), (2, dI i), (3, dI M), (4, dI waste), (5, dIs b2 got)], [srB lm p l P ⟨B, w, F⟩]⟩ ?_ ?_
  ·refine hcut _ (fun hf => ?_) (fun hf hx => ?_)
   ·subst hf
    repeat' (first|(with_reducible first|apply qA|apply qB|apply qC|apply qD|apply qE|apply qF)|(refine DW.ord rfl (WF.of (by first|rfl|simp (disch:=omega) only [go_sem, simprocAttr, qN, qO, qP, qQ, d0])) ?_ ?_ ?_; rotate_left)|rfl|(with_reducible refine And.intro ?_ ?_)|(simp (disch:=omega) only [go_sem, simprocAttr, qN, qO, qP, qQ, d0])|exact qM rfl rfl rfl|(refine qG rfl ?_)|(refine qH rfl ?_)|(refine qI rfl ?_ ?_<;>intro hc<;>(try simp only [go_sem] at hc))|(refine qJ ?_ ?_<;>intro hc<;>(try simp only [hc])<;>(try simp only [go_sem] at hc)))
    refine Ent.to ?_ ?_ <;> simp (disch:=omega) only [qR,qS,qTw,qU,get,Nat.reduceEqDiff,↓reduceIte,qV,qW,qX,qY,qZ,and_self,dI,i64_in,and_true,true_and,rA,rB,rC,rD]
    all_goals first | exact ⟨.refl _, .refl _⟩ | exact .refl _
   ·subst hf
    repeat' (first|(with_reducible first|apply qA|apply qB|apply qC|apply qD|apply qE|apply qF)|(refine DW.ord rfl (WF.of (by first|rfl|simp (disch:=omega) only [go_sem, simprocAttr, qN, qO, qP, qQ, d0, hx])) ?_ ?_ ?_; rotate_left)|rfl|(with_reducible refine And.intro ?_ ?_)|(simp (disch:=omega) only [go_sem, simprocAttr, qN, qO, qP, qQ, d0, hx])|exact qM rfl rfl rfl|(refine qG rfl ?_)|(refine qH rfl ?_)|(refine qI rfl ?_ ?_<;>intro hc<;>(try simp only [go_sem] at hc))|(refine qJ ?_ ?_<;>intro hc<;>(try simp only [hc])<;>(try simp only [go_sem] at hc)))
    refine Ent.to ?_ ?_ <;> simp (disch:=omega) only [qR,qS,qTw,qU,get,Nat.reduceEqDiff,↓reduceIte,qV,qW,qX,qY,qZ,and_self,dI,i64_in,and_true,true_and,rA,rB,rC,rD]
    all_goals first | exact ⟨.refl _, .refl _⟩ | exact .refl _
  repeat' (first|(with_reducible first|apply qA|apply qB|apply qC|apply qD|apply qE|apply qF)|(refine DW.ord rfl (WF.of (by first|rfl|simp (disch:=omega) only [go_sem, simprocAttr, qN, qO, qP, qQ, e0])) ?_ ?_ ?_; rotate_left)|rfl|(with_reducible refine And.intro ?_ ?_)|(simp (disch:=omega) only [go_sem, simprocAttr, qN, qO, qP, qQ, e0])|exact qM rfl rfl rfl|(refine qG rfl ?_)|(refine qH rfl ?_)|(refine qI rfl ?_ ?_<;>intro hc<;>(try simp only [go_sem] at hc))|(refine qJ ?_ ?_<;>intro hc<;>(try simp only [hc])<;>(try simp only [go_sem] at hc)))
  refine DW.loop (ι := { y : Nat × Srch // y.1 ≤ P.length ∧ loopF (tryF p l m) (decide (m = 0)) p l plan waste got (P.drop y.1) y.2 = R }) (fun y => ⟨134, [(12, dI y.1.1), (0, srD lm), (1, dSt false plan), (3, dI M), (4, dI waste), (5, dIs b2 got)], [srB lm p l P y.1.2]⟩) (fun y => P.length - y.1.1) ⟨(i, ⟨B, w, F⟩), hi, hR⟩ ?_ ?_
  ·refine Ent.to ?_ ?_ <;> simp (disch:=omega) only [qR,qS,qTw,qU,get,Nat.reduceEqDiff,↓reduceIte,qV,qW,qX,qY,qZ,and_self,dI,i64_in,and_true,true_and,rA,rB,rC,rD]
   all_goals first | exact ⟨.refl _, .refl _⟩ | exact .refl _
  clear hR hcut hF
  rintro ⟨⟨j, S⟩, hj, hR⟩
  dsimp only at hj hR ⊢
  rcases at_or P j hj with ⟨ws, hws, hlt, hd⟩ | ⟨he, hd⟩
  case inr =>
   rw [List.drop_eq_nil_of_le (by omega), loopF] at hR
   subst hR
   repeat' (first|(with_reducible first|apply qA|apply qB|apply qC|apply qD|apply qE|apply qF)|(refine DW.ord rfl (WF.of (by first|rfl|simp (disch:=omega) only [go_sem, simprocAttr, qN, qO, qP, qQ, hd])) ?_ ?_ ?_; rotate_left)|rfl|(with_reducible refine And.intro ?_ ?_)|(simp (disch:=omega) only [go_sem, simprocAttr, qN, qO, qP, qQ, hd])|exact qM rfl rfl rfl|(refine qG rfl ?_)|(refine qH rfl ?_)|(refine qI rfl ?_ ?_<;>intro hc<;>(try simp only [go_sem] at hc))|(refine qJ ?_ ?_<;>intro hc<;>(try simp only [hc])<;>(try simp only [go_sem] at hc)))
   exact srRet lm p l P S (.inr rfl) rfl
  have hwo := hP ws (List.mem_of_getElem? hws)
  have hw4 := hwo.ws4 hp
  have hdr : P.drop j = ws :: P.drop (j + 1) := by rw [List.drop_eq_getElem_cons hlt, (List.getElem_eq_iff hlt).2 hws]
  rw [hdr, loopF] at hR
  have hroom := trRoom b2 false (decide (m = 0)) lm p l hl ho P S got hg (fun v hv => by have := hgb v hv; omega) ws hw4
  have hlo := room_lo1 (decide (m = 0)) l got ws 30
  have hhi := room_hi (decide (m = 0)) l got ws 1 30 (by decide)
  generalize roomF (decide (m = 0)) l got ws 1 30 = RM at *
  obtain ⟨lo, hi⟩ := RM
  dsimp only at hroom hlo hhi hR
  repeat' (first|(with_reducible first|apply qA|apply qB|apply qC|apply qD|apply qE|apply qF)|(refine DW.ord rfl (WF.of (by first|rfl|simp (disch:=omega) only [go_sem, simprocAttr, qN, qO, qP, qQ, hd, hws, e1, rF, rG])) ?_ ?_ ?_; rotate_left)|rfl|(with_reducible refine And.intro ?_ ?_)|(simp (disch:=omega) only [go_sem, simprocAttr, qN, qO, qP, qQ, hd, hws, e1, rF, rG])|exact qM rfl rfl rfl|(refine qG rfl ?_)|(refine qH rfl ?_)|(refine qI rfl ?_ ?_<;>intro hc<;>(try simp only [go_sem] at hc))|(refine qJ ?_ ?_<;>intro hc<;>(try simp only [hc])<;>(try simp only [go_sem] at hc)))
  refine call_hk 14 hroom rfl rfl rfl (by simp (disch:=omega) only [go_sem,simprocAttr,qN,qO,qP,qQ,del]) (by decide) ?_
  simp (disch:=omega) only [go_sem,simprocAttr,qN,qO,qP,qQ,rF,rG,del]
  repeat' (first|(with_reducible first|apply qA|apply qB|apply qC|apply qD|apply qE|apply qF)|(refine DW.ord rfl (WF.of (by first|rfl|simp (disch:=omega) only [go_sem, simprocAttr, qN, qO, qP, qQ, rF, rG])) ?_ ?_ ?_; rotate_left)|rfl|(with_reducible refine And.intro ?_ ?_)|(simp (disch:=omega) only [go_sem, simprocAttr, qN, qO, qP, qQ, rF, rG])|exact qM rfl rfl rfl|(refine qG rfl ?_)|(refine qH rfl ?_)|(refine qI rfl ?_ ?_<;>intro hc<;>(try simp only [go_sem] at hc))|(refine qJ ?_ ?_<;>intro hc<;>(try simp only [hc])<;>(try simp only [go_sem] at hc)))
  have hpb := patB_b hwo.pat
  have hpt := hp.trim
  have htr := trTrim false false p hp l hl ho ws hw4
  have hcl := trClipS plan
  generalize hT : trimI p l ws = T at *
  rcases m with _ | m
  ·
   rw [decide_eq_true rfl] at *
   refine DW.loop (ι := Unit) (fun _ => ⟨134, [(14, dI lo), (13, .box 13 0), (12, dI j), (0, srD lm), (1, dSt false plan), (3, dI M), (4, dI waste), (5, dIs b2 got)], [srB lm p l P S, (13, .box [dI lo, dI hi])]⟩) (fun _ => 0) () ?_ ?_
   ·refine Ent.to ?_ ?_ <;> simp (disch:=omega) only [qR,qS,qTw,qU,get,Nat.reduceEqDiff,↓reduceIte,qV,qW,qX,qY,qZ,and_self,dI,i64_in,and_true,true_and,rA,rB,rC,rD]
    all_goals first | exact ⟨.refl _, .refl _⟩ | exact .refl _
   rintro ⟨⟩
   by_cases hc : lo ≤ hi
   ·have hdc : decide (lo ≤ hi) = true := decide_eq_true hc
    have m1 : 0 ≤ T * lo := Int.mul_nonneg (by omega) (by omega)
    have m2 : T * lo ≤ 3000 * lo := Int.mul_le_mul_of_nonneg_right (by omega) (by omega)
    have had := trAdd b2 false got ws lo (fun v hv => by have := hgb v hv; omega) (by omega) (by have := hwo.len; omega) hw4.b (by omega)
    have hgb2 := addG_b hgb hw4.b (show 0 ≤ lo by omega)
    have hgl2 : (addG got ws lo).length = l.length := by rw [addG_len]; exact hg
    have w1 : IntKind.i64.wrap (T * lo) = T * lo := IntWalk.i64_in _ (by omega)
    have w2 : IntKind.i64.wrap (waste + T * lo) = waste + T * lo := IntWalk.i64_in _ (by omega)
    have hrec := ih lm false (j + 1) (plan ++ [⟨ws, lo⟩]) (waste + T * lo) (addG got ws lo) S hlt (by simp; omega) (by simp only [List.length_append, List.length_cons, List.length_nil, Int.natCast_add]; omega) hgl2 (fun v hv => by have := hgb2 v hv; simp only [List.length_append, List.length_cons, List.length_nil, Int.natCast_add]; omega)
    rw [cntF, if_pos rfl, if_pos hc] at hR
    simp only [runF] at hR
    rw [hT] at hR
    generalize addG got ws lo = G at *
    generalize tryF p l 0 (P.drop (j + 1)) (plan ++ [⟨ws, lo⟩]) (waste + T * lo) G S = S2 at *
    repeat' (first|(with_reducible first|apply qA|apply qB|apply qC|apply qD|apply qE|apply qF)|(refine DW.ord rfl (WF.of (by first|rfl|simp (disch:=omega) only [go_sem, simprocAttr, qN, qO, qP, qQ, hdc, hws, w1, w2, rows_snocS, sM, shut2, rF, rG])) ?_ ?_ ?_; rotate_left)|rfl|(with_reducible refine And.intro ?_ ?_)|(simp (disch:=omega) only [go_sem, simprocAttr, qN, qO, qP, qQ, hdc, hws, w1, w2, rows_snocS, sM, shut2, rF, rG])|exact qM rfl rfl rfl|(refine qG rfl ?_)|(refine qK (hcl) (by decide) ?_)|(refine qK (htr) (by decide) ?_)|(refine qK (had) (by decide) ?_)|(refine qH rfl ?_)|(refine qI rfl ?_ ?_<;>intro hc<;>(try simp only [go_sem] at hc))|(refine qJ ?_ ?_<;>intro hc<;>(try simp only [hc])<;>(try simp only [go_sem] at hc)))
    refine call_hk 14 hrec rfl rfl rfl (by simp (disch:=omega) only [go_sem,simprocAttr,qN,qO,qP,qQ,del]) (by decide) ?_
    simp (disch:=omega) only [go_sem,simprocAttr,qN,qO,qP,qQ,rF,rG,del]
    repeat' (first|(with_reducible first|apply qA|apply qB|apply qC|apply qD|apply qE|apply qF)|(refine DW.ord rfl (WF.of (by first|rfl|simp (disch:=omega) only [go_sem, simprocAttr, qN, qO, qP, qQ, e1, rF, rG])) ?_ ?_ ?_; rotate_left)|rfl|(with_reducible refine And.intro ?_ ?_)|(simp (disch:=omega) only [go_sem, simprocAttr, qN, qO, qP, qQ, e1, rF, rG])|exact qM rfl rfl rfl|(refine qG rfl ?_)|(refine qH rfl ?_)|(refine qI rfl ?_ ?_<;>intro hc<;>(try simp only [go_sem] at hc))|(refine qJ ?_ ?_<;>intro hc<;>(try simp only [hc])<;>(try simp only [go_sem] at hc)))
    refine ⟨⟨(j + 1, S2), hlt, hR⟩, ?_, Ent.to ?_ ?_⟩ <;> first | (show _ < _; (try simp only); omega) | (simp (disch:=omega) only [qR,qS,qTw,qU,get,Nat.reduceEqDiff,↓reduceIte,qV,qW,qX,qY,qZ,and_self,dI,i64_in,and_true,true_and,rA,rB,rC,rD])
    all_goals first | exact ⟨.refl _, .refl _⟩ | exact .refl _
   ·have hdc : decide (lo ≤ hi) = false := decide_eq_false hc
    rw [cntF, if_pos rfl, if_neg hc] at hR
    simp only [runF] at hR
    repeat' (first|(with_reducible first|apply qA|apply qB|apply qC|apply qD|apply qE|apply qF)|(refine DW.ord rfl (WF.of (by first|rfl|simp (disch:=omega) only [go_sem, simprocAttr, qN, qO, qP, qQ, hdc])) ?_ ?_ ?_; rotate_left)|rfl|(with_reducible refine And.intro ?_ ?_)|(simp (disch:=omega) only [go_sem, simprocAttr, qN, qO, qP, qQ, hdc])|exact qM rfl rfl rfl|(refine qG rfl ?_)|(refine qH rfl ?_)|(refine qI rfl ?_ ?_<;>intro hc<;>(try simp only [go_sem] at hc))|(refine qJ ?_ ?_<;>intro hc<;>(try simp only [hc])<;>(try simp only [go_sem] at hc)))
    refine ⟨⟨(j + 1, S), hlt, hR⟩, ?_, Ent.to ?_ ?_⟩ <;> first | (show _ < _; (try simp only); omega) | (simp (disch:=omega) only [qR,qS,qTw,qU,get,Nat.reduceEqDiff,↓reduceIte,qV,qW,qX,qY,qZ,and_self,dI,i64_in,and_true,true_and,rA,rB,rC,rD])
    all_goals first | exact ⟨.refl _, .refl _⟩ | exact .refl _
  ·
   rw [decide_eq_false (Nat.succ_ne_zero m)] at *
   rw [cntF, if_neg (by decide)] at hR
   refine DW.loop (ι := { y : Int × Srch // 1 ≤ y.1 ∧ loopF (tryF p l (m + 1)) false p l plan waste got (P.drop (j + 1)) (runF (tryF p l (m + 1) (P.drop (j + 1))) p l ws plan waste got (hi - y.1 + 1).toNat y.1 y.2) = R }) (fun y => ⟨134, [(14, dI y.1.1), (13, .box 13 0), (12, dI j), (0, srD lm), (1, dSt false plan), (3, dI M), (4, dI waste), (5, dIs b2 got)], [srB lm p l P y.1.2, (13, .box [dI lo, dI hi])]⟩) (fun y => (hi - y.1.1 + 1).toNat) ⟨(lo, S), hlo, hR⟩ ?_ ?_
   ·refine Ent.to ?_ ?_ <;> simp (disch:=omega) only [qR,qS,qTw,qU,get,Nat.reduceEqDiff,↓reduceIte,qV,qW,qX,qY,qZ,and_self,dI,i64_in,and_true,true_and,rA,rB,rC,rD]
    all_goals first | exact ⟨.refl _, .refl _⟩ | exact .refl _
   clear hR hroom
   rintro ⟨⟨r, S1⟩, hr, hR⟩
   dsimp only at hr hR ⊢
   by_cases hc : r ≤ hi
   ·have hdc : decide (r ≤ hi) = true := decide_eq_true hc
    have m1 : 0 ≤ T * r := Int.mul_nonneg (by omega) (by omega)
    have m2 : T * r ≤ 3000 * r := Int.mul_le_mul_of_nonneg_right (by omega) (by omega)
    have had := trAdd b2 false got ws r (fun v hv => by have := hgb v hv; omega) (by omega) (by have := hwo.len; omega) hw4.b (by omega)
    have hgb2 := addG_b hgb hw4.b (show 0 ≤ r by omega)
    have hgl2 : (addG got ws r).length = l.length := by rw [addG_len]; exact hg
    have w1 : IntKind.i64.wrap (T * r) = T * r := IntWalk.i64_in _ (by omega)
    have w2 : IntKind.i64.wrap (waste + T * r) = waste + T * r := IntWalk.i64_in _ (by omega)
    have hrec := ih lm false (j + 1) (plan ++ [⟨ws, r⟩]) (waste + T * r) (addG got ws r) S1 hlt (by simp; omega) (by simp only [List.length_append, List.length_cons, List.length_nil, Int.natCast_add]; omega) hgl2 (fun v hv => by have := hgb2 v hv; simp only [List.length_append, List.length_cons, List.length_nil, Int.natCast_add]; omega)
    have ec : (hi - r + 1).toNat = (hi - (r + 1) + 1).toNat + 1 := by omega
    rw [ec, runF, hT] at hR
    generalize addG got ws r = G at *
    generalize tryF p l (m + 1) (P.drop (j + 1)) (plan ++ [⟨ws, r⟩]) (waste + T * r) G S1 = S2 at *
    repeat' (first|(with_reducible first|apply qA|apply qB|apply qC|apply qD|apply qE|apply qF)|(refine DW.ord rfl (WF.of (by first|rfl|simp (disch:=omega) only [go_sem, simprocAttr, qN, qO, qP, qQ, hdc, hws, w1, w2, rows_snocS, sM, shut2, rF, rG])) ?_ ?_ ?_; rotate_left)|rfl|(with_reducible refine And.intro ?_ ?_)|(simp (disch:=omega) only [go_sem, simprocAttr, qN, qO, qP, qQ, hdc, hws, w1, w2, rows_snocS, sM, shut2, rF, rG])|exact qM rfl rfl rfl|(refine qG rfl ?_)|(refine qK (hcl) (by decide) ?_)|(refine qK (htr) (by decide) ?_)|(refine qK (had) (by decide) ?_)|(refine qH rfl ?_)|(refine qI rfl ?_ ?_<;>intro hc<;>(try simp only [go_sem] at hc))|(refine qJ ?_ ?_<;>intro hc<;>(try simp only [hc])<;>(try simp only [go_sem] at hc)))
    refine call_hk 14 hrec rfl rfl rfl (by simp (disch:=omega) only [go_sem,simprocAttr,qN,qO,qP,qQ,del]) (by decide) ?_
    simp (disch:=omega) only [go_sem,simprocAttr,qN,qO,qP,qQ,rF,rG,del]
    repeat' (first|(with_reducible first|apply qA|apply qB|apply qC|apply qD|apply qE|apply qF)|(refine DW.ord rfl (WF.of (by first|rfl|simp (disch:=omega) only [go_sem, simprocAttr, qN, qO, qP, qQ, e1, rF, rG])) ?_ ?_ ?_; rotate_left)|rfl|(with_reducible refine And.intro ?_ ?_)|(simp (disch:=omega) only [go_sem, simprocAttr, qN, qO, qP, qQ, e1, rF, rG])|exact qM rfl rfl rfl|(refine qG rfl ?_)|(refine qH rfl ?_)|(refine qI rfl ?_ ?_<;>intro hc<;>(try simp only [go_sem] at hc))|(refine qJ ?_ ?_<;>intro hc<;>(try simp only [hc])<;>(try simp only [go_sem] at hc)))
    refine ⟨⟨(r + 1, S2), by omega, hR⟩, ?_, Ent.to ?_ ?_⟩ <;> first | (show _ < _; (try simp only); omega) | (simp (disch:=omega) only [qR,qS,qTw,qU,get,Nat.reduceEqDiff,↓reduceIte,qV,qW,qX,qY,qZ,and_self,dI,i64_in,and_true,true_and,rA,rB,rC,rD])
    all_goals first | exact ⟨.refl _, .refl _⟩ | exact .refl _
   ·have hdc : decide (r ≤ hi) = false := decide_eq_false hc
    have ec : (hi - r + 1).toNat = 0 := by omega
    rw [ec, runF] at hR
    repeat' (first|(with_reducible first|apply qA|apply qB|apply qC|apply qD|apply qE|apply qF)|(refine DW.ord rfl (WF.of (by first|rfl|simp (disch:=omega) only [go_sem, simprocAttr, qN, qO, qP, qQ, hdc])) ?_ ?_ ?_; rotate_left)|rfl|(with_reducible refine And.intro ?_ ?_)|(simp (disch:=omega) only [go_sem, simprocAttr, qN, qO, qP, qQ, hdc])|exact qM rfl rfl rfl|(refine qG rfl ?_)|(refine qH rfl ?_)|(refine qI rfl ?_ ?_<;>intro hc<;>(try simp only [go_sem] at hc))|(refine qJ ?_ ?_<;>intro hc<;>(try simp only [hc])<;>(try simp only [go_sem] at hc)))
    refine ⟨⟨(j + 1, S1), hlt, hR⟩, ?_, Ent.to ?_ ?_⟩ <;> first | (show _ < _; (try simp only); omega) | (simp (disch:=omega) only [qR,qS,qTw,qU,get,Nat.reduceEqDiff,↓reduceIte,qV,qW,qX,qY,qZ,and_self,dI,i64_in,and_true,true_and,rA,rB,rC,rD])
    all_goals first | exact ⟨.refl _, .refl _⟩ | exact .refl _
theorem trTry (p : TPap) (hp : p.ok) (l : List TOrd) (hl : l.length ≤ 4) (ho : ∀ o ∈ l, o.ok) (P : List (List Int)) (hP : ∀ ws ∈ P, WsOk p l ws) (hPl : P.length ≤ 625) : ∀ m, TryC p l P m
 | 0 => trTry0 p l hl P
 | m + 1 => trTryS p hp l hl ho P hP hPl m (trTry p hp l hl ho P hP hPl m)
end Go.Dw.Seat.Tr
end
section
set_option linter.unusedSimpArgs false
set_option maxRecDepth 100000
namespace Go.Dw.Seat.Tr
open Go Go.Dw Go.Proofs Go.IntWalk
def planD (r : Option (List TStp × Int)) : D := match r with
 | some x => .tup [dSt false x.1, dI x.2, bD true]
 | none => .tup [.c (.v (.slice none 0 0)), dI 0, bD false]
set_option maxHeartbeats 2000000 in
theorem trPlanM (p : TPap) (hp : p.ok) (l : List TOrd) (hl : l.length ≤ 4) (ho : ∀ o ∈ l, o.ok) : DCall Try.prog 51 [macD false p l] [] (planD (planF p l)) [] := by
 have hall := trAll p hp l hl ho
 have hPl := patsX_len4 p hp l hl
 rw [patsX_all p hp l] at hall hPl
 have htry := trTry p hp l hl ho (pats p l) (pats_ok p l).ok hPl
 have hpf : planF p l = (List.range 4).findSome? fun n => if (srch p l n).found then some ((srch p l n).best, (srch p l n).waste) else none := rfl
 have hsr : ∀ n, srch p l n = tryF p l n ((pats p l).drop 0) [] 0 (zeros l.length) ⟨[], 0, false⟩ := fun n => rfl
 generalize pats p l = P at *
 generalize hR : planF p l = R at *
 refine DCall.of Try.func51 sf51 hb51 (Nat.le_of_ble_eq_true rfl) (okRes_nil fun _ => by rcases R with _ | ⟨q, w⟩ <;> rfl) ?_
 simp only [s51, idxs, Nat.reduceAdd]
 repeat' (first|(with_reducible first|apply qA|apply qB|apply qC|apply qD|apply qE|apply qF)|(refine qL rfl (WF.of ?_) ?_; first|rfl|skip)|(simp (disch:=omega) only [go_sem, simprocAttr, qN, qO, qP, qQ])|exact qM rfl rfl rfl|(refine qG rfl ?_)|(refine qH rfl ?_)|(refine qI rfl ?_ ?_<;>intro hc<;>(try simp only [go_sem] at hc))|(refine qJ ?_ ?_<;>intro hc<;>(try simp only [hc])<;>(try simp only [go_sem] at hc)))
 refine DW.loop (ι := { n : Nat // n ≤ 4 ∧ ((List.range 4).drop n).findSome? (fun n => if (srch p l n).found then some ((srch p l n).best, (srch p l n).waste) else none) = R }) (fun n => ⟨35, [(7, dI n.1), (1, .box 1 0)], [(1, .box [dI p.wide, dI p.tl, dI p.th, dI p.webs, .c (.sl false 3 (rows eO l))])]⟩) (fun n => 4 - n.1) ⟨0, Nat.zero_le _, hpf.symm⟩ ?_ ?_
 ·refine Ent.to ?_ ?_ <;> simp (disch:=omega) only [qR,qS,qTw,qU,get,Nat.reduceEqDiff,↓reduceIte,qV,qW,qX,qY,qZ,and_self,dI,i64_in,and_true,true_and,rA,rB,rC,rD]
  all_goals first | exact ⟨.refl _, .refl _⟩ | exact .refl _
 rintro ⟨n, hn, hf⟩
 dsimp only at hn hf ⊢
 by_cases h4 : n < 4
 ·have hd : decide ((n : Int) < 4) = true := decide_eq_true (by omega)
  have hdr : (List.range 4).drop n = n :: (List.range 4).drop (n + 1) := by
   rw [List.drop_eq_getElem_cons (by simpa using h4)]; simp
  rw [hdr, List.findSome?_cons] at hf
  have hs := hsr n
  repeat' (first|(with_reducible first|apply qA|apply qB|apply qC|apply qD|apply qE|apply qF)|(refine qL rfl (WF.of ?_) ?_; first|rfl|skip)|(simp (disch:=omega) only [go_sem, simprocAttr, qN, qO, qP, qQ, hd])|exact qM rfl rfl rfl|(refine qG rfl ?_)|(refine qH rfl ?_)|(refine qI rfl ?_ ?_<;>intro hc<;>(try simp only [go_sem] at hc))|(refine qJ ?_ ?_<;>intro hc<;>(try simp only [hc])<;>(try simp only [go_sem] at hc)))
  (refine call_c (hall) (by decide) ?_; simp (disch:=omega) only [go_sem,simprocAttr,qN,qO,qP,qQ])
  refine DW.ent (Ent.to (tm' := [(7, dI n), (6, .box 14 0), (5, dI n), (1, .box 1 0)]) (bx' := [(14, .box (srC p l P ⟨[], 0, false⟩)), (1, .box [dI p.wide, dI p.tl, dI p.th, dI p.webs, .c (.sl false 3 (rows eO l))])]) ?_ ?_) ?_
  ·simp (disch:=omega) only [qR,qS,qTw,qU,get,Nat.reduceEqDiff,↓reduceIte,qV,qW,qX,qY,qZ,and_self,dI,i64_in,and_true,true_and,rA,rB,rC,rD]
  ·simp (disch:=omega) only [qR,qS,qTw,qU,get,Nat.reduceEqDiff,↓reduceIte,qV,qW,qX,qY,qZ,and_self,dI,i64_in,and_true,true_and,rA,rB,rC,rD]
   exact .box (.cons (.refl _) (.cons (.refl _) (.cons (.refl _) (.cons (.refl _) (.cons (.refl _) (.cons (.refl _) (.cons (.nil _ _) (.cons (.refl _) (.cons (.refl _) .nil)))))))))
  refine DW.pin 14 rfl rfl fun lm => ?_
  simp (disch:=omega) only [go_sem,simprocAttr,qN,qO,qP,qQ,pinT,pinX,pinD,pinDs,pinB,pinO]
  have htn := DCall.weakA (l := [srD lm, .c (.v (.slice none 0 0)), dI (0 : Nat), dI n, dI 0, dIs true (zeros l.length)]) (htry n lm true 0 [] 0 (zeros l.length) ⟨[], 0, false⟩ (Nat.zero_le _) (by simp; omega) (by simp) (by simp [zeros]) (fun v hv => by have := List.eq_of_mem_replicate hv; subst this; simp)) (.cons (.inl rfl) (.cons (.inr ⟨_, _, rfl, rfl, .nil _ _⟩) (.cons (.inl rfl) (.cons (.inl rfl) (.cons (.inl rfl) (.cons (.inl rfl) .nil))))))
  rw [← hs] at htn
  generalize srch p l n = S at *
  obtain ⟨B, w, F⟩ := S
  repeat' (first|(with_reducible first|apply qA|apply qB|apply qC|apply qD|apply qE|apply qF)|(refine qL rfl (WF.of ?_) ?_; first|rfl|skip)|(simp (disch:=omega) only [go_sem, simprocAttr, qN, qO, qP, qQ])|exact qM rfl rfl rfl|(refine qG rfl ?_)|(refine qH rfl ?_)|(refine qI rfl ?_ ?_<;>intro hc<;>(try simp only [go_sem] at hc))|(refine qJ ?_ ?_<;>intro hc<;>(try simp only [hc])<;>(try simp only [go_sem] at hc)))
  refine call_hk 14 htn rfl rfl (by simp (disch:=omega) only [go_sem,simprocAttr,qN,qO,qP,qQ,del,zeros,rG]) (by simp (disch:=omega) only [go_sem,simprocAttr,qN,qO,qP,qQ,del]) (by decide) ?_
  simp (disch:=omega) only [go_sem,simprocAttr,qN,qO,qP,qQ,del]
  cases F with
  | true =>
   dsimp only at hf
   rw [if_pos rfl] at hf
   cases hf
   simp only [planD]
   repeat' (first|(with_reducible first|apply qA|apply qB|apply qC|apply qD|apply qE|apply qF)|(refine qL rfl (WF.of ?_) ?_; first|rfl|skip)|(simp (disch:=omega) only [go_sem, simprocAttr, qN, qO, qP, qQ])|exact qM rfl rfl rfl|(refine qG rfl ?_)|(refine qH rfl ?_)|(refine qI rfl ?_ ?_<;>intro hc<;>(try simp only [go_sem] at hc))|(refine qJ ?_ ?_<;>intro hc<;>(try simp only [hc])<;>(try simp only [go_sem] at hc)))
   refine retS_wk rfl ?_ (by simp only [Blk.nb, rowC_nb, D.nb, D.nbs, C.nb, C.nbs, C.nbss, rows_nb eI_nb, Bool.and_true, Bool.not_false, Bool.and_self, bD, dI, iD, rows_nb eO_nb, rows_nb eSt_nb, rows_nb eWs_nb]); exact .refl _
  | false =>
   dsimp only at hf
   rw [if_neg (by decide)] at hf
   repeat' (first|(with_reducible first|apply qA|apply qB|apply qC|apply qD|apply qE|apply qF)|(refine qL rfl (WF.of ?_) ?_; first|rfl|skip)|(simp (disch:=omega) only [go_sem, simprocAttr, qN, qO, qP, qQ])|exact qM rfl rfl rfl|(refine qG rfl ?_)|(refine qH rfl ?_)|(refine qI rfl ?_ ?_<;>intro hc<;>(try simp only [go_sem] at hc))|(refine qJ ?_ ?_<;>intro hc<;>(try simp only [hc])<;>(try simp only [go_sem] at hc)))
   refine ⟨⟨n + 1, by omega, hf⟩, ?_, Ent.to ?_ ?_⟩ <;> first | (show _ < _; (try simp only); omega) | (simp (disch:=omega) only [qR,qS,qTw,qU,get,Nat.reduceEqDiff,↓reduceIte,qV,qW,qX,qY,qZ,and_self,dI,i64_in,and_true,true_and,rA,rB,rC,rD])
   all_goals first | exact ⟨.refl _, .refl _⟩ | exact .refl _
 ·have hd : decide ((n : Int) < 4) = false := decide_eq_false (by omega)
  obtain rfl : n = 4 := by omega
  subst hf
  repeat' (first|(with_reducible first|apply qA|apply qB|apply qC|apply qD|apply qE|apply qF)|(refine qL rfl (WF.of ?_) ?_; first|rfl|skip)|(simp (disch:=omega) only [go_sem, simprocAttr, qN, qO, qP, qQ, hd])|exact qM rfl rfl rfl|(refine qG rfl ?_)|(refine qH rfl ?_)|(refine qI rfl ?_ ?_<;>intro hc<;>(try simp only [go_sem] at hc))|(refine qJ ?_ ?_<;>intro hc<;>(try simp only [hc])<;>(try simp only [go_sem] at hc)))
end Go.Dw.Seat.Tr
end
section
set_option linter.unusedSimpArgs false
set_option maxRecDepth 100000
namespace Go.Dw.Seat.Tr
open Go Go.Dw Go.Proofs Go.IntWalk
theorem rowC_snocS (q : List TStp) (s : TStp) : rowC (rows eSt q) ++ [[D.c (.sl false 1 (rows eI s.ws)), D.c (.v (.int .i64 s.run))]] = rowC (rows eSt (q ++ [s])) := by simp [rowC, rows, eSt]
set_option maxHeartbeats 2000000 in
theorem trOwn (b : Bool) (q : List TStp) (hq : q.length ≤ 1000) (hw : ∀ s ∈ q, s.ws.length ≤ 2 ^ 36) : DCall Try.prog 52 [dSt b q] [] (dSt false q) [] := by
 refine DCall.of Try.func52 sf52 hb52 (Nat.le_of_ble_eq_true rfl) (okRes_nil fun _ => rfl) ?_; simp only [s52, idxs, Nat.reduceAdd]
 repeat' (first|(with_reducible first|apply qA|apply qB|apply qC|apply qD|apply qE|apply qF)|(refine qL rfl (WF.of ?_) ?_; first|rfl|skip)|(simp (disch:=omega) only [go_sem, simprocAttr, qN, qO, qP, qQ])|exact qM rfl rfl rfl|(refine qG rfl ?_)|(refine qH rfl ?_)|(refine qI rfl ?_ ?_<;>intro hc<;>(try simp only [go_sem] at hc))|(refine qJ ?_ ?_<;>intro hc<;>(try simp only [hc])<;>(try simp only [go_sem] at hc)))
 refine DW.ent (Ent.adopt 2 19 2 rfl rfl rfl) ?_
 refine DW.loop (ι := { i : Nat // i ≤ q.length }) (fun i => ⟨22, [(7, dI i.1), (6, dI q.length), (5, dSt b q), (2, .own 19)], [(19, .row 2 (rowC (rows eSt (q.take i.1))))]⟩) (fun i => q.length - i.1) ⟨0, Nat.zero_le _⟩ ?_ ?_
 ·refine Ent.to ?_ ?_ <;> simp (disch:=omega) only [qR,qS,qTw,qU,get,Nat.reduceEqDiff,↓reduceIte,qV,qW,qX,qY,qZ,and_self,dI,i64_in,and_true,true_and,rA,rB,rC,rD,ins,Nat.reduceLT,List.take_zero]
  all_goals first | exact ⟨.refl _, .refl _⟩ | exact .refl _
 rintro ⟨i, hi⟩
 dsimp only
 rcases at_or q i hi with ⟨s, hs, hlt, hd⟩ | ⟨he, hd⟩
 ·have hc := c106 false s.ws (hw s (List.mem_of_getElem? hs)) 14
  have htk : q.take (i + 1) = q.take i ++ [s] := by rw [List.take_add_one, hs]; rfl
  have hlen : (q.take i).length ≤ 1000 := by rw [List.length_take]; omega
  generalize q.take i = Q at *
  repeat' (first|(with_reducible first|apply qA|apply qB|apply qC|apply qD|apply qE|apply qF)|(refine qL rfl (WF.of ?_) ?_; first|rfl|skip)|(simp (disch:=omega) only [go_sem, simprocAttr, qN, qO, qP, qQ, hd, hs, rF, rG])|exact qM rfl rfl rfl|(refine qG rfl ?_)|(refine qH rfl ?_)|(refine qI rfl ?_ ?_<;>intro hc<;>(try simp only [go_sem] at hc))|(refine qJ ?_ ?_<;>intro hc<;>(try simp only [hc])<;>(try simp only [go_sem] at hc)))
  (refine call_r (hc) (by decide) (by first | rfl | simp (disch:=omega) only [go_sem,simprocAttr,qN,qO,qP,qQ]) (by first | rfl | simp (disch:=omega) only [go_sem,simprocAttr,qN,qO,qP,qQ]) ?_; simp (disch:=omega) only [go_sem,simprocAttr,qN,qO,qP,qQ])
  repeat' (first|(with_reducible first|apply qA|apply qB|apply qC|apply qD|apply qE|apply qF)|(refine qL rfl (WF.of ?_) ?_; first|rfl|skip)|(simp (disch:=omega) only [go_sem, simprocAttr, qN, qO, qP, qQ])|exact qM rfl rfl rfl|(refine qG rfl ?_)|(refine qH rfl ?_)|(refine qI rfl ?_ ?_<;>intro hc<;>(try simp only [go_sem] at hc))|(refine qJ ?_ ?_<;>intro hc<;>(try simp only [hc])<;>(try simp only [go_sem] at hc)))
  refine ⟨⟨i + 1, hlt⟩, by (show _ < _; (try simp only); omega), (Ent.rel 14 rfl).trans ?_⟩; simp (disch:=omega) only [go_sem,simprocAttr,qN,qO,qP,qQ, htk,rowC_snocS]; refine Ent.to ?_ ?_ <;> (simp (disch:=omega) only [qR,qS,qTw,qU,get,Nat.reduceEqDiff,↓reduceIte,qV,qW,qX,qY,qZ,and_self,dI,i64_in,and_true,true_and,rA,rB,rC,rD, htk,rowC_snocS])
  all_goals first | exact ⟨.refl _, .refl _⟩ | exact .refl _ | skip
 ·subst he
  rw [List.take_length]
  repeat' (first|(with_reducible first|apply qA|apply qB|apply qC|apply qD|apply qE|apply qF)|(refine qL rfl (WF.of ?_) ?_; first|rfl|skip)|(simp (disch:=omega) only [go_sem, simprocAttr, qN, qO, qP, qQ, hd])|exact qM rfl rfl rfl|(refine qG rfl ?_)|(refine qH rfl ?_)|(refine qI rfl ?_ ?_<;>intro hc<;>(try simp only [go_sem] at hc))|(refine qJ ?_ ?_<;>intro hc<;>(try simp only [hc])<;>(try simp only [go_sem] at hc)))
  (refine retS_ent (Ent.rel 19 rfl) ?_; simp (disch:=omega) only [go_sem,simprocAttr,qN,qO,qP,qQ])
  refine retS_wk rfl ?_ (by simp only [Blk.nb, rowC_nb, D.nb, D.nbs, C.nb, C.nbs, C.nbss, rows_nb eI_nb, Bool.and_true, Bool.not_false, Bool.and_self, bD, dI, iD, rows_nb eO_nb, rows_nb eSt_nb, rows_nb eWs_nb]); exact .refl _
end Go.Dw.Seat.Tr
end
section
set_option linter.unusedSimpArgs false
set_option maxRecDepth 100000
namespace Go.Dw.Seat.Tr
open Go Go.Dw Go.Proofs Go.IntWalk
theorem planF_ok {p : TPap} (hp : p.ok) {l : List TOrd} (hl : ∀ o ∈ l, o.ok) {q : List TStp} {w : Int} (h : planF p l = some (q, w)) : PlanOk p l q ∧ w = wasteF p l q := by
 have := plan_spec hp hl
 rw [h] at this
 exact ⟨this.1, this.2.1⟩
theorem plan_len {p : TPap} {l : List TOrd} {q : List TStp} (h : PlanOk p l q) : q.length ≤ 3 := h.len
def planX (p : TPap) (l : List TOrd) : D := if openE p l = 0 then (match planF p l with
 | some x => .tup [dSt false x.1, dI 0]
 | none => .tup [.c (.v (.slice none 0 0)), dI 9]) else .tup [.c (.v (.slice none 0 0)), dI (openE p l)]
set_option maxHeartbeats 1000000 in
theorem trPlanX (p : TPap) (l : List TOrd) (hl : l.length ≤ 2 ^ 36) : DCall Try.prog 18 [papD p, .c (.sl false 3 (rows eO l))] [] (planX p l) [] := by
 unfold planX
 by_cases h : openE p l = 0
 ·obtain ⟨hp, hl4, ho⟩ := openE_ok h
  have h1 := trOpen p l h
  have h2 := trPlanM p hp l hl4 ho
  rw [if_pos h]
  cases hR : planF p l with
  | none =>
   rw [hR] at h2
   simp only [planD] at h2
   refine DCall.of Try.func18 sf18 hb18 (Nat.le_of_ble_eq_true rfl) (okRes_nil fun _ => rfl) ?_; simp only [s18, idxs, Nat.reduceAdd]
   repeat' (first|(with_reducible first|apply qA|apply qB|apply qC|apply qD|apply qE|apply qF)|(simp (disch:=omega) only [go_sem, simprocAttr, qN, qO, qP, qQ])|exact qM rfl rfl rfl|(refine qG rfl ?_)|(refine qK (h1) (by decide) ?_)|(refine qK (h2) (by decide) ?_)|(refine qH rfl ?_)|(refine qI rfl ?_ ?_<;>intro hc<;>(try simp only [go_sem] at hc))|(refine qJ ?_ ?_<;>intro hc<;>(try simp only [hc])<;>(try simp only [go_sem] at hc)))
  | some x =>
   obtain ⟨q, w⟩ := x
   have hq := planF_ok hp ho hR
   have hws := plan_ws hq.1
   have h3 := trOwn false q (by have := plan_len hq.1; omega) (fun s hs => by have := (hws s hs).1.len; omega)
   rw [hR] at h2
   simp only [planD] at h2
   refine DCall.of Try.func18 sf18 hb18 (Nat.le_of_ble_eq_true rfl) (okRes_nil fun _ => rfl) ?_; simp only [s18, idxs, Nat.reduceAdd]
   repeat' (first|(with_reducible first|apply qA|apply qB|apply qC|apply qD|apply qE|apply qF)|(simp (disch:=omega) only [go_sem, simprocAttr, qN, qO, qP, qQ])|exact qM rfl rfl rfl|(refine qG rfl ?_)|(refine qK (h1) (by decide) ?_)|(refine qK (h2) (by decide) ?_)|(refine qK (h3) (by decide) ?_)|(refine qH rfl ?_)|(refine qI rfl ?_ ?_<;>intro hc<;>(try simp only [go_sem] at hc))|(refine qJ ?_ ?_<;>intro hc<;>(try simp only [hc])<;>(try simp only [go_sem] at hc)))
   refine retS_wk rfl ?_ (by simp only [Blk.nb, rowC_nb, D.nb, D.nbs, C.nb, C.nbs, C.nbss, rows_nb eI_nb, Bool.and_true, Bool.not_false, Bool.and_self, bD, dI, iD, rows_nb eO_nb, rows_nb eSt_nb, rows_nb eWs_nb]); exact .refl _
 ·have h1 := trOpenE false p l hl h
  rw [if_neg h]
  generalize openE p l = e at *
  have hd : (e != 0) = true := by simpa using h
  refine DCall.of Try.func18 sf18 hb18 (Nat.le_of_ble_eq_true rfl) (okRes_nil fun _ => rfl) ?_; simp only [s18, idxs, Nat.reduceAdd]
  repeat' (first|(with_reducible first|apply qA|apply qB|apply qC|apply qD|apply qE|apply qF)|(simp (disch:=omega) only [go_sem, simprocAttr, qN, qO, qP, qQ, hd])|exact qM rfl rfl rfl|(refine qG rfl ?_)|(refine qK (h1) (by decide) ?_)|(refine qH rfl ?_)|(refine qI rfl ?_ ?_<;>intro hc<;>(try simp only [go_sem] at hc))|(refine qJ ?_ ?_<;>intro hc<;>(try simp only [hc])<;>(try simp only [go_sem] at hc)))
structure TOff where
 paper : Int
 setups : Int
 waste : Int
def eOf (o : TOff) : List C := [.v (.int .i64 o.paper), .v (.int .i64 o.setups), .v (.int .i64 o.waste)]
attribute [go_sem] eOf
def TOff.ok (o : TOff) : Prop := (0 ≤ o.paper ∧ o.paper ≤ 1000000000) ∧ (0 ≤ o.setups ∧ o.setups ≤ 1000000000) ∧ 0 ≤ o.waste ∧ o.waste ≤ 1000000000
end Go.Dw.Seat.Tr
end
section
set_option linter.unusedSimpArgs false
set_option maxRecDepth 100000
namespace Go.Dw.Seat.Tr
open Go Go.Dw Go.Proofs Go.IntWalk
def getX (p : TPap) (l : List TOrd) (q : List TStp) : (List Int × Int) ⊕ (Int × Int) := if openE p l = 0 then doesA p l q else .inr (0, openE p l)
set_option maxHeartbeats 1000000 in
theorem trGetX (p : TPap) (l : List TOrd) (hl : l.length ≤ 2 ^ 36) (q : List TStp) (hqw : ∀ s ∈ q, s.ws.length ≤ 2 ^ 36) : DCall Try.prog 21 [papD p, .c (.sl false 3 (rows eO l)), dSt false q] [] (doesD (getX p l q)) [] := by
 by_cases h : openE p l = 0
 ·obtain ⟨hp, hl4, ho⟩ := openE_ok h
  have h1 := trOpen p l h
  have h2 := trDoes p hp l hl4 ho q hqw
  rw [getX, if_pos h]
  generalize doesA p l q = R at *
  rcases R with ⟨g, w⟩ | ⟨i, e⟩ <;> simp only [doesD] at h2 ⊢
  ·refine DCall.of Try.func21 sf21 hb21 (Nat.le_of_ble_eq_true rfl) (okRes_nil fun _ => rfl) ?_; simp only [s21, idxs, Nat.reduceAdd]
   repeat' (first|(with_reducible first|apply qA|apply qB|apply qC|apply qD|apply qE|apply qF)|(simp (disch:=omega) only [go_sem, simprocAttr, qN, qO, qP, qQ])|exact qM rfl rfl rfl|(refine qG rfl ?_)|(refine qK (h1) (by decide) ?_)|(refine qK (h2) (by decide) ?_)|(refine qH rfl ?_)|(refine qI rfl ?_ ?_<;>intro hc<;>(try simp only [go_sem] at hc))|(refine qJ ?_ ?_<;>intro hc<;>(try simp only [hc])<;>(try simp only [go_sem] at hc)))
   refine retS_wk rfl ?_ (by simp only [Blk.nb, rowC_nb, D.nb, D.nbs, C.nb, C.nbs, C.nbss, rows_nb eI_nb, Bool.and_true, Bool.not_false, Bool.and_self, bD, dI, iD, rows_nb eO_nb, rows_nb eSt_nb]); exact .refl _
  ·refine DCall.of Try.func21 sf21 hb21 (Nat.le_of_ble_eq_true rfl) (okRes_nil fun _ => rfl) ?_; simp only [s21, idxs, Nat.reduceAdd]
   repeat' (first|(with_reducible first|apply qA|apply qB|apply qC|apply qD|apply qE|apply qF)|(simp (disch:=omega) only [go_sem, simprocAttr, qN, qO, qP, qQ])|exact qM rfl rfl rfl|(refine qG rfl ?_)|(refine qK (h1) (by decide) ?_)|(refine qK (h2) (by decide) ?_)|(refine qH rfl ?_)|(refine qI rfl ?_ ?_<;>intro hc<;>(try simp only [go_sem] at hc))|(refine qJ ?_ ?_<;>intro hc<;>(try simp only [hc])<;>(try simp only [go_sem] at hc)))
 ·have h1 := trOpenE false p l hl h
  rw [getX, if_neg h]
  simp only [doesD]
  generalize openE p l = e at *
  have hd : (e != 0) = true := by simpa using h
  refine DCall.of Try.func21 sf21 hb21 (Nat.le_of_ble_eq_true rfl) (okRes_nil fun _ => rfl) ?_; simp only [s21, idxs, Nat.reduceAdd]
  repeat' (first|(with_reducible first|apply qA|apply qB|apply qC|apply qD|apply qE|apply qF)|(simp (disch:=omega) only [go_sem, simprocAttr, qN, qO, qP, qQ, hd])|exact qM rfl rfl rfl|(refine qG rfl ?_)|(refine qK (h1) (by decide) ?_)|(refine qH rfl ?_)|(refine qI rfl ?_ ?_<;>intro hc<;>(try simp only [go_sem] at hc))|(refine qJ ?_ ?_<;>intro hc<;>(try simp only [hc])<;>(try simp only [go_sem] at hc)))
end Go.Dw.Seat.Tr
end
section
set_option linter.unusedSimpArgs false
set_option maxRecDepth 100000
namespace Go.Dw.Seat.Tr
open Go Go.Dw Go.Proofs Go.IntWalk
def eP (p : TPap) : List C := [.v (.int .i64 p.wide), .v (.int .i64 p.tl), .v (.int .i64 p.th), .v (.int .i64 p.webs)]
theorem eP_nb (v : TPap) : C.nbs (eP v) = true := rfl
attribute [go_sem] eP
theorem plan_wsb {p : TPap} {l : List TOrd} {q : List TStp} (h : PlanOk p l q) : ∀ s ∈ q, WsOk p l s.ws ∧ 1 ≤ s.run ∧ s.run ≤ 30 := fun s hs => by
 have h1 := (ext_mem h.ext).2 s hs
 exact ⟨(plan_ws h s hs).1, h1.2⟩
end Go.Dw.Seat.Tr
end
section
set_option linter.unusedSimpArgs false
set_option maxRecDepth 100000
namespace Go.Dw.Seat.Tr
open Go Go.Dw Go.Proofs Go.IntWalk
theorem lexW_cmpT : ∀ {s t : List Int}, s.length = t.length → lexW s t = !decide (0 ≤ cmpL s t)
 | [], [], _ => rfl
 | a :: s, b :: t, h => by
  rw [lexW, cmpL]
  have ih := lexW_cmpT (s := s) (t := t) (by simpa using h)
  by_cases e : a = b
  ·subst e
   rw [if_pos rfl, if_pos (by unfold cmpI; rw [if_neg (by omega), if_neg (by omega)]), ih]
  ·rw [if_neg e]
   by_cases h1 : a < b
   ·have hc : cmpI a b = -1 := by unfold cmpI; rw [if_pos h1]
    rw [hc, if_neg (by decide), decide_eq_true h1]; rfl
   ·have hc : cmpI a b = 1 := by unfold cmpI; rw [if_neg h1, if_pos (by omega)]
    rw [hc, if_neg (by decide), decide_eq_false h1]; rfl
structure FineT (p : TPap) (l : List TOrd) (q : List TStp) : Prop where
 ok : ∀ s ∈ q, WsOk p l s.ws ∧ 1 ≤ s.run ∧ s.run ≤ 30
 asc : q.Pairwise fun a b => lexW a.ws b.ws = true
theorem ext_ascT : ∀ {T : List (List Int)} {m : Nat} {q : List TStp}, (T.Pairwise fun a b => lexW a b = true) → Ext T m q → q.Pairwise fun a b => lexW a.ws b.ws = true
 | [], _, q, _, h => by rw [h.2]; exact List.Pairwise.nil
 | ws :: T, 0, q, _, h => by
  have : q = [] := h
  rw [this]; exact List.Pairwise.nil
 | ws :: T, m + 1, q, hT, h => by
  obtain ⟨hT1, hT2⟩ := List.pairwise_cons.1 hT
  rcases h with ⟨r, q', rfl, _, h⟩ | h
  ·exact List.pairwise_cons.2 ⟨fun t ht => hT1 _ ((ext_mem h).2 t ht).1, ext_ascT hT2 h⟩
  ·exact ext_ascT hT2 h
theorem plan_fineT {p : TPap} {l : List TOrd} {q : List TStp} (h : PlanOk p l q) : FineT p l q := ⟨plan_wsb h, ext_ascT (pats_ok p l).asc h.ext⟩
theorem stE_fineT {p : TPap} (hp : p.ok) {l : List TOrd} {s : TStp} (h : WsOk p l s.ws ∧ 1 ≤ s.run ∧ s.run ≤ 30) {pr : Option TStp} (hpr : ∀ w, pr = some w → w.ws.length = s.ws.length ∧ lexW w.ws s.ws = true) : stE p l pr s = 0 := by
 have h1 := websE_yes (h.1.ws4 hp) h.1.pat
 have h2 : wthn 1 30 [s.run] = true := wthn_yes (by simpa using h.2)
 unfold stE
 rw [if_neg (by simpa using h1), if_neg (by rw [h2]; decide), if_neg]
 cases pr with
 | none => simp
 | some w =>
  obtain ⟨g1, g2⟩ := hpr w rfl
  have := lexW_cmpT g1
  rw [g2] at this
  simpa using this.symm
theorem getR_fineT {p : TPap} (hp : p.ok) {l : List TOrd} : ∀ {q : List TStp} {pr : Option TStp} {G : List Int} {W : Int} {i : Nat}, FineT p l q → (∀ w, pr = some w → ∀ s ∈ q, w.ws.length = s.ws.length ∧ lexW w.ws s.ws = true) → getR p l pr G W i q = .inl (gotF G q, W + wasteF p l q)
 | [], _, G, W, i, _, _ => by rw [getR, gotF, wasteF, Int.add_zero]
 | s :: q, pr, G, W, i, h, hpr => by
  have h1 := stE_fineT hp (h.ok s (by simp)) (pr := pr) (fun w hw => hpr w hw s (by simp))
  obtain ⟨a1, a2⟩ := List.pairwise_cons.1 h.asc
  rw [getR, if_neg (by simpa using h1), getR_fineT hp (q := q) ⟨fun t ht => h.ok t (by simp [ht]), a2⟩ (fun w hw t ht => by
   cases hw
   exact ⟨by rw [(h.ok s (by simp)).1.len, (h.ok t (by simp [ht])).1.len], a1 t ht⟩), gotF, wasteF, Int.add_assoc]
theorem getX_fineT {p : TPap} (hp : p.ok) {l : List TOrd} (hl : l.length ≤ 4) (ho : ∀ o ∈ l, o.ok) {q : List TStp} (h : FineT p l q) (hq : q.length ≤ 3) (hd : doesP l q = true) : getX p l q = .inl (gotF (zeros l.length) q, wasteF p l q) := by
 have hw := wrong_does l (gotF (zeros l.length) q) (by rw [gotF_len]; simp [zeros])
 rw [show doesB l (gotF (zeros l.length) q) = true from hd, decide_eq_true_eq] at hw
 have hg : getA p l q = .inl (gotF (zeros l.length) q, wasteF p l q) := by
  unfold getA
  rw [if_neg (by omega), getR_fineT hp h (fun w hw => by cases hw), Int.zero_add]
 unfold getX
 rw [if_pos (openE_yes hp hl ho)]
 unfold doesA
 rw [hg]
 dsimp only
 rw [if_neg (by omega)]
def runI : List TStp → Int
 | [] => 0
 | s :: q => s.run + runI q
theorem dot_add : ∀ (G ws : List Int) (l : List TOrd) (r : Int), G.length = l.length → ws.length = l.length → dotI (addG G ws r) l = dotI G l + dotI ws l * r
 | [], [], [], _, _, _ => by simp [addG, dotI]
 | g :: G, n :: ws, o :: l, r, h1, h2 => by
  have ih := dot_add G ws l r (by simpa using h1) (by simpa using h2)
  rw [addG, dotI, dotI, dotI, ih, Int.add_mul, Int.add_mul, Int.mul_right_comm n r]
  omega
 | [], _ :: _, _, _, h1, h2 => by cases ‹List TOrd› <;> simp_all
 | _ :: _, [], _, _, h1, h2 => by cases ‹List TOrd› <;> simp_all
theorem area_law (p : TPap) (l : List TOrd) : ∀ (q : List TStp) (G : List Int), (∀ s ∈ q, s.ws.length = l.length) → G.length = l.length → dotI (gotF G q) l + wasteF p l q = dotI G l + p.wide * runI q
 | [], G, _, _ => by simp [gotF, wasteF, runI]
 | s :: q, G, h, hG => by
  have hs := h s (by simp)
  have ih := area_law p l q (addG G s.ws s.run) (fun t ht => h t (by simp [ht])) (by rw [addG_len]; exact hG)
  rw [gotF, wasteF, runI, Int.mul_add]
  rw [dot_add G s.ws l s.run hG hs] at ih
  have e : trimI p l s.ws * s.run = p.wide * s.run - dotI s.ws l * s.run := by unfold trimI; rw [Int.sub_mul]
  rw [e]
  omega
theorem got_nn : ∀ (q : List TStp) (G : List Int), (∀ s ∈ q, (∀ n ∈ s.ws, 0 ≤ n) ∧ 1 ≤ s.run) → (∀ g ∈ G, 0 ≤ g) → ∀ g ∈ gotF G q, 0 ≤ g
 | [], _, _, hG => hG
 | s :: q, G, h, hG => by
  rw [gotF]
  refine got_nn q _ (fun t ht => h t (by simp [ht])) ?_
  have hs := h s (by simp)
  have key : ∀ (G ws : List Int), (∀ n ∈ ws, 0 ≤ n) → (∀ g ∈ G, 0 ≤ g) → ∀ g ∈ addG G ws s.run, 0 ≤ g := by
   intro G
   induction G with
   | nil => intro ws _ _ g hg; cases ws <;> simp [addG] at hg
   | cons a G ih =>
    intro ws h1 h2 g hg
    cases ws with
    | nil => rw [addG_nil] at hg; exact h2 g hg
    | cons n ws =>
     rw [addG_cons] at hg
     rcases List.mem_cons.1 hg with rfl | hg
     ·have := h2 a (by simp)
      have := Int.mul_nonneg (h1 n (by simp)) (show 0 ≤ s.run by omega)
      omega
     ·exact ih ws (fun m hm => h1 m (by simp [hm])) (fun m hm => h2 m (by simp [hm])) g hg
  exact key G s.ws hs.1 hG
theorem waste_nnT {p : TPap} {l : List TOrd} : ∀ q : List TStp, (∀ s ∈ q, 0 ≤ trimI p l s.ws ∧ 1 ≤ s.run) → 0 ≤ wasteF p l q
 | [], _ => by simp [wasteF]
 | s :: q, h => by
  have hs := h s (by simp)
  have ih := waste_nnT q (fun t ht => h t (by simp [ht]))
  have := Int.mul_nonneg hs.1 (show 0 ≤ s.run by omega)
  rw [wasteF]
  omega
theorem run_b : ∀ q : List TStp, (∀ s ∈ q, 1 ≤ s.run ∧ s.run ≤ 30) → 0 ≤ runI q ∧ runI q ≤ 30 * (q.length : Int)
 | [], _ => by simp [runI]
 | s :: q, h => by
  have hs := h s (by simp)
  have ih := run_b q (fun t ht => h t (by simp [ht]))
  rw [runI, List.length_cons]
  omega
theorem runI_snoc : ∀ (q : List TStp) (s : TStp), runI (q ++ [s]) = runI q + s.run
 | [], s => by simp [runI]
 | a :: q, s => by rw [List.cons_append, runI, runI_snoc q s, runI]; omega
end Go.Dw.Seat.Tr
end
section
set_option linter.unusedSimpArgs false
set_option maxRecDepth 100000
namespace Go.Dw.Seat.Tr
open Go Go.Dw Go.Proofs Go.IntWalk
theorem tmSame (p q : Bool) (a b : List Int) (ha : a.length ≤ 2 ^ 36) (hb : b.length ≤ 2 ^ 36) : DCall Try.prog 56 [.c (.sl p 1 (rows eI a)), .c (.sl q 1 (rows eI b))] [] (bD (decide (a = b))) [] := by
 refine DCall.of Try.func56 sf56 hb56 (Nat.le_of_ble_eq_true rfl) (okRes_nil fun _ => rfl) ?_; simp only [s56, idxs, Nat.reduceAdd]
 repeat' (first|(with_reducible first|apply qA|apply qB|apply qC|apply qD|apply qE|apply qF)|(refine qL rfl (WF.of ?_) ?_; first|rfl|skip)|(simp (disch:=omega) only [go_sem, simprocAttr, qN, qO, qP, qQ])|exact qM rfl rfl rfl|(refine qG rfl ?_)|(refine qH rfl ?_)|(refine qI rfl ?_ ?_<;>intro hc<;>(try simp only [go_sem] at hc))|(refine qJ ?_ ?_<;>intro hc<;>(try simp only [hc])<;>(try simp only [go_sem] at hc)))
 ·refine retS_of rfl ?_ rfl; simp only [oneD, St.op, get, Nat.reduceEqDiff, ↓reduceIte, Option.getD_some, bD, dI]
  have : a ≠ b := by rintro rfl; simp_all
  simp only [this, decide_false]
 refine DW.loop (ι := { i : Nat // i ≤ a.length ∧ ∀ j, j < i → a[j]? = b[j]? }) (fun i => ⟨26, [(5, dI i.1), (1, .c (.sl q 1 (rows eI b))), (0, .c (.sl p 1 (rows eI a)))], []⟩) (fun i => a.length - i.1) ⟨0, Nat.zero_le _, fun j h => by omega⟩ ?_ ?_
 ·refine Ent.to ?_ ?_ <;> simp (disch:=omega) only [qR,qS,qTw,qU,get,Nat.reduceEqDiff,↓reduceIte,qV,qW,qX,qY,qZ,and_self,dI,i64_in,and_true,true_and,rA,rB,rC,rD]
 rintro ⟨i, hi, hij⟩
 rcases at_or a i hi with ⟨v, hv, hlt, hd⟩ | ⟨he, hd⟩
 ·obtain ⟨u, hu⟩ : ∃ u, b[i]? = some u := getE (by omega)
  repeat' (first|(with_reducible first|apply qA|apply qB|apply qC|apply qD|apply qE|apply qF)|(refine qL rfl (WF.of ?_) ?_; first|rfl|skip)|(simp (disch:=omega) only [go_sem, simprocAttr, qN, qO, qP, qQ, hd, hv, hu])|exact qM rfl rfl rfl|(refine qG rfl ?_)|(refine qH rfl ?_)|(refine qI rfl ?_ ?_<;>intro hc<;>(try simp only [go_sem] at hc))|(refine qJ ?_ ?_<;>intro hc<;>(try simp only [hc])<;>(try simp only [go_sem] at hc)))
  ·refine retS_of rfl ?_ rfl; simp only [oneD, St.op, get, Nat.reduceEqDiff, ↓reduceIte, Option.getD_some, bD, dI]
   have : a ≠ b := by rintro rfl; simp_all
   simp only [this, decide_false]
  ·refine ⟨⟨i + 1, by omega, upto1 hij (by rw [hv, hu]; congr 1)⟩, ?_, Ent.to ?_ ?_⟩ <;> first | (show _ < _; (try simp only); omega) | (simp (disch:=omega) only [qR,qS,qTw,qU,get,Nat.reduceEqDiff,↓reduceIte,qV,qW,qX,qY,qZ,and_self,dI,i64_in,and_true,true_and,rA,rB,rC,rD])
 ·repeat' (first|(with_reducible first|apply qA|apply qB|apply qC|apply qD|apply qE|apply qF)|(refine qL rfl (WF.of ?_) ?_; first|rfl|skip)|(simp (disch:=omega) only [go_sem, simprocAttr, qN, qO, qP, qQ, hd])|exact qM rfl rfl rfl|(refine qG rfl ?_)|(refine qH rfl ?_)|(refine qI rfl ?_ ?_<;>intro hc<;>(try simp only [go_sem] at hc))|(refine qJ ?_ ?_<;>intro hc<;>(try simp only [hc])<;>(try simp only [go_sem] at hc)))
  refine retS_of rfl ?_ rfl; simp only [oneD, St.op, get, Nat.reduceEqDiff, ↓reduceIte, Option.getD_some, bD, dI]
  have : a = b := ext_upto (by omega) (he ▸ hij)
  simp only [this, decide_true]
theorem tmSpan (a b : Int) : DCall Try.prog 7 [dI a, dI b] [] (.agg [dI a, dI b]) [] := by
 refine DCall.of Try.func7 sf7 hb7 (Nat.le_of_ble_eq_true rfl) (okRes_nil fun _ => rfl) ?_; simp only [s7, idxs, Nat.reduceAdd]
 repeat' (first|(with_reducible first|apply qA|apply qB|apply qC|apply qD|apply qE|apply qF)|(simp (disch:=omega) only [go_sem, simprocAttr, qN, qO, qP, qQ])|exact qM rfl rfl rfl|(refine qG rfl ?_)|(refine qH rfl ?_)|(refine qI rfl ?_ ?_<;>intro hc<;>(try simp only [go_sem] at hc))|(refine qJ ?_ ?_<;>intro hc<;>(try simp only [hc])<;>(try simp only [go_sem] at hc)))
def tmP : TPap := ⟨2500, 20, 200, 4⟩
def tmL : List TOrd := [⟨800, 10, 12⟩, ⟨700, 8, 9⟩, ⟨1200, 4, 4⟩]
theorem tm_open : openE tmP tmL = 0 := by kernel_rfl
theorem tm_pats : patsX tmP tmL tmL.length [] = [[0, 0, 2], [2, 1, 0], [3, 0, 0]] := by kernel_rfl
theorem tmPats : DCall Try.prog 55 [papD tmP, .c (.sl false 3 (rows eO tmL))] [] (.tup [.c (.sl false 1 (rows eWs [[0, 0, 2], [2, 1, 0], [3, 0, 0]])), dI 0]) [] := by
 have hp := trPatternsX tmP tmL (by decide)
 rw [tm_open, patsD, if_pos tm_open, tm_pats] at hp
 exact hp
theorem tmTrim : DCall Try.prog 20 [] [] (bD true) [] := by
 have s1 := tmSpan 20 200
 have s2 := tmSpan 10 12
 have s3 := tmSpan 8 9
 have s4 := tmSpan 4 4
 have h1 := tmPats
 simp only [tmP, tmL] at h1
 have e1 := tmSame false true [2, 1, 0] [2, 1, 0] (by decide) (by decide)
 rw [show decide (([2, 1, 0] : List Int) = [2, 1, 0]) = true from by decide] at e1
 refine DCall.of Try.func20 sf20 hb20 (Nat.le_of_ble_eq_true rfl) (okRes_nil fun _ => rfl) ?_; simp only [s20, idxs, Nat.reduceAdd]
 repeat' (first|(with_reducible first|apply qA|apply qB|apply qC|apply qD|apply qE|apply qF)|(simp (disch:=omega) only [go_sem, simprocAttr, qN, qO, qP, qQ])|exact qM rfl rfl rfl|(refine qG rfl ?_)|(refine qK (s1) (by decide) ?_)|(refine qK (s2) (by decide) ?_)|(refine qK (s3) (by decide) ?_)|(refine qK (s4) (by decide) ?_)|(refine qH rfl ?_)|(refine qI rfl ?_ ?_<;>intro hc<;>(try simp only [go_sem] at hc))|(refine qJ ?_ ?_<;>intro hc<;>(try simp only [hc])<;>(try simp only [go_sem] at hc)))
 refine call_e (Ent.rel 12 rfl) h1 (by rfl) (by rfl) (by decide) ?_
 simp (disch:=omega) only [go_sem,simprocAttr,qN,qO,qP,qQ]
 repeat' (first|(with_reducible first|apply qA|apply qB|apply qC|apply qD|apply qE|apply qF)|(simp (disch:=omega) only [go_sem, simprocAttr, qN, qO, qP, qQ])|exact qM rfl rfl rfl|(refine qG rfl ?_)|(refine qK (e1) (by decide) ?_)|(refine qH rfl ?_)|(refine qI rfl ?_ ?_<;>intro hc<;>(try simp only [go_sem] at hc))|(refine qJ ?_ ?_<;>intro hc<;>(try simp only [hc])<;>(try simp only [go_sem] at hc)))
end Go.Dw.Seat.Tr
end
section
set_option linter.unusedSimpArgs false
set_option maxRecDepth 100000
namespace Go.Dw.Seat.Tr
open Go Go.Dw Go.Proofs Go.IntWalk
structure PlanT (p : TPap) (o0 o1 o2 : TOrd) (q : List TStp) (g0 g1 g2 W : Int) : Prop where
 len : q.length ≤ 3
 st : ∀ s ∈ q, s.ws.length = 3 ∧ 1 ≤ s.run ∧ s.run ≤ 30
 get : getX p [o0, o1, o2] q = .inl ([g0, g1, g2], W)
 b0 : 0 ≤ g0 ∧ g0 ≤ o0.hi
 b1 : 0 ≤ g1 ∧ g1 ≤ o1.hi
 b2 : 0 ≤ g2 ∧ g2 ≤ o2.hi
 area : g0 * o0.w + g1 * o1.w + g2 * o2.w + W = p.wide * runI q
 nn : 0 ≤ W
theorem plan_tops {p : TPap} (hp : p.ok) {o0 o1 o2 : TOrd} (h0 : o0.ok) (h1 : o1.ok) (h2 : o2.ok) : planX p [o0, o1, o2] = .tup [.c (.v (.slice none 0 0)), dI 9] ∨ ∃ q g0 g1 g2 W, planX p [o0, o1, o2] = .tup [dSt false q, dI 0] ∧ PlanT p o0 o1 o2 q g0 g1 g2 W := by
 have ho : ∀ o ∈ [o0, o1, o2], o.ok := by
  intro o h
  simp only [List.mem_cons, List.not_mem_nil, or_false] at h
  rcases h with rfl | rfl | rfl <;> assumption
 have hop := openE_yes hp (l := [o0, o1, o2]) (by simp) ho
 unfold planX
 rw [if_pos hop]
 cases hF : planF p [o0, o1, o2] with
 | none => exact .inl rfl
 | some x =>
  obtain ⟨q, w⟩ := x
  right
  obtain ⟨hq, -⟩ := planF_ok hp ho hF
  have hws := plan_wsb hq
  have hlen : (gotF (zeros [o0, o1, o2].length) q).length = 3 := by rw [gotF_len]; rfl
  have hget := getX_fineT hp (l := [o0, o1, o2]) (by simp) ho (plan_fineT hq) hq.len hq.does
  have hd := hq.does
  have harea := area_law p [o0, o1, o2] q (zeros [o0, o1, o2].length) (fun s hs => (hws s hs).1.len) rfl
  have hnn := got_nn q (zeros [o0, o1, o2].length) (fun s hs => ⟨(hws s hs).1.nn, (hws s hs).2.1⟩) (by
   intro g hg
   simp only [zeros, List.mem_replicate] at hg
   omega)
  have hw := waste_nnT (p := p) (l := [o0, o1, o2]) q (fun s hs => ⟨trim_nn hp (hws s hs).1, (hws s hs).2.1⟩)
  unfold doesP at hd
  rw [show ([o0, o1, o2] : List TOrd).length = 3 from rfl] at *
  generalize gotF (zeros 3) q = G at *
  match G, hlen with
  | [g0, g1, g2], _ =>
   refine ⟨q, g0, g1, g2, wasteF p [o0, o1, o2] q, rfl, hq.len, fun s hs => ⟨(hws s hs).1.len, (hws s hs).2⟩, hget, ?_, ?_, ?_, ?_, hw⟩
   ·simp only [doesB, Bool.and_eq_true, decide_eq_true_eq] at hd
    exact ⟨hnn g0 (by simp), hd.1.2⟩
   ·simp only [doesB, Bool.and_eq_true, decide_eq_true_eq] at hd
    exact ⟨hnn g1 (by simp), hd.2.1.2⟩
   ·simp only [doesB, Bool.and_eq_true, decide_eq_true_eq] at hd
    exact ⟨hnn g2 (by simp), hd.2.2.1.2⟩
   ·simp only [dotI, zeros, List.replicate, Int.zero_mul, Int.zero_add, Int.add_zero] at harea
    omega
end Go.Dw.Seat.Tr
end
section
set_option linter.unusedSimpArgs false
namespace Go.Dw.Seat
open Go Go.Dw Go.Proofs Go.IntWalk
structure Cause where
 noz : Int
 kind : Int
 frm : Int
instance : DecidableEq Cause := fun a b => decidable_of_iff (a.noz = b.noz ∧ a.kind = b.kind ∧ a.frm = b.frm) (by cases a; cases b; simp)
def eC (c : Cause) : List C := [.v (.int .i64 c.noz), .v (.int .i64 c.kind), .v (.int .i64 c.frm)]
structure Look where
 box : Int
 noz : Int
 step : Int
 glue : Bool
instance : DecidableEq Look := fun a b => decidable_of_iff (a.box = b.box ∧ a.noz = b.noz ∧ a.step = b.step ∧ a.glue = b.glue) (by cases a; cases b; simp)
def eL (c : Look) : List C := [.v (.int .i64 c.box), .v (.int .i64 c.noz), .v (.int .i64 c.step), .v (.bool c.glue)]
structure Room where
 wl : Int
 wh : Int
 dl : Int
 dh : Int
instance : DecidableEq Room := fun a b => decidable_of_iff (a.wl = b.wl ∧ a.wh = b.wh ∧ a.dl = b.dl ∧ a.dh = b.dh) (by cases a; cases b; simp)
def eR (c : Room) : List C := [.v (.int .i64 c.wl), .v (.int .i64 c.wh), .v (.int .i64 c.dl), .v (.int .i64 c.dh)]
def eSb (b : Bool) (s : List Cause) : List C := [.sl b 3 (rows eC s)]
abbrev eS := eSb false
def eG (s : List Int) : List C := [.sl false 1 (rows eI s)]
structure Plan where
 steps : Int
 noz : List Int
abbrev dP (b : Bool) (p : Plan) : D := .agg [.c (.v (.int .i64 p.steps)), .c (.sl b 1 (rows eI p.noz))]
abbrev dCs (b : Bool) (l : List Cause) : D := .c (.sl b 3 (rows eC l))
abbrev dLs (b : Bool) (l : List Look) : D := .c (.sl b 4 (rows eL l))
abbrev dSs (b : Bool) (l : List (List Cause)) : D := .c (.sl b 1 (rows eS l))
theorem rowC_snocC (l : List Cause) (a b c : Int) : rowC (rows eC l) ++ [[D.c (.v (.int .i64 a)), D.c (.v (.int .i64 b)), D.c (.v (.int .i64 c))]] = rowC (rows eC (l ++ [⟨a, b, c⟩])) := by simp [rowC, rows, eC]
theorem rowC_snocL (l : List Look) (a b c : Int) (d : Bool) : rowC (rows eL l) ++ [[D.c (.v (.int .i64 a)), D.c (.v (.int .i64 b)), D.c (.v (.int .i64 c)), D.c (.v (.bool d))]] = rowC (rows eL (l ++ [⟨a, b, c, d⟩])) := by simp [rowC, rows, eL]
theorem rowC_snocS (l : List (List Cause)) (s : List Cause) : rowC (rows (eSb false) l) ++ [[D.c (.sl false 3 (rows eC s))]] = rowC (rows (eSb false) (l ++ [s])) := by simp [rowC, rows, eSb]
attribute [go_sem] rowC_snocC rowC_snocL rowC_snocS
attribute [go_sem] eC eL eR eS eSb eG dP dCs dLs dSs
end Go.Dw.Seat
end
section
set_option linter.unusedSimpArgs false
namespace Go.Dw.Seat
open Go Go.Dw Go.Proofs Go.IntWalk
theorem c122 (b : Bool) (l : List (Int)) (hl : l.length ≤ 2 ^ 36) (g : FuncId) (fs caps : List C) (p : Int → Bool) (hp : ∀ x ∈ l, DCall Try.prog g (fs.map D.c ++ [dI x] ++ caps.map D.c) [] (bD (p x)) []) : DCall Try.prog 146 [.c (.sl b 1 (rows eI l)), .c (.fn (.func g) fs caps)] [] (dI (idxI p l)) [] := by
 refine DCall.of Try.func146 sf146 hb146 (Nat.le_of_ble_eq_true rfl) (okRes_nil fun _ => rfl) ?_; simp only [s146, idxs, Nat.reduceAdd]
 repeat' (first|(with_reducible first|apply qA|apply qB|apply qC|apply qD|apply qE|apply qF)|(simp (disch:=omega) only [go_sem, simprocAttr, Blk.men, Blk.keysIn])|exact qM rfl rfl rfl|(refine qG rfl ?_)|(refine qH rfl ?_)|(refine qI rfl ?_ ?_<;>intro hc<;>(try simp only [go_sem] at hc))|(refine qJ ?_ ?_<;>intro hc<;>(try simp only [hc])<;>(try simp only [go_sem] at hc)))
 refine DW.loop (ι := { i : Nat // i ≤ l.length ∧ ∀ j u, j < i → l[j]? = some u → p u = false }) (fun i => ⟨19, [(8, dI i.1), (7, dI l.length), (1, .c (.fn (.func g) fs caps)), (0, .c (.sl b 1 (rows eI l)))], []⟩) (fun i => l.length - i.1) ⟨0, Nat.zero_le _, fun j u h => by omega⟩ ?_ ?_
 ·refine Ent.to ?_ ?_ <;> simp (disch:=omega) only [qR,qS,qTw,qU,get,Nat.reduceEqDiff,↓reduceIte,qV,qW,qX,qY,qZ,and_self,dI,i64_in,and_true,true_and,rA,rB,rC,rD]
 rintro ⟨i, hi, hij⟩
 rcases at_or l i hi with ⟨v, hv, hlt, hd⟩ | ⟨he, hd⟩
 ·have hcall := hp v (List.mem_of_getElem? hv)
  repeat' (first|(with_reducible first|apply qA|apply qB|apply qC|apply qD|apply qE|apply qF)|(simp (disch:=omega) only [go_sem, simprocAttr, Blk.men, Blk.keysIn, hd, hv, closeDs_fn, rF, rG])|exact qM rfl rfl rfl|(refine qG rfl ?_)|(refine qH rfl ?_)|(refine qI rfl ?_ ?_<;>intro hc<;>(try simp only [go_sem] at hc))|(refine qJ ?_ ?_<;>intro hc<;>(try simp only [hc])<;>(try simp only [go_sem] at hc)))
  refine call_c hcall (by decide) ?_
  simp (disch:=omega) only [go_sem,simprocAttr,Blk.men,Blk.keysIn]
  refine DW.cond rfl ?_ ?_ <;> intro hc
  ·repeat' (first|(with_reducible first|apply qA|apply qB|apply qC|apply qD|apply qE|apply qF)|(simp (disch:=omega) only [go_sem, simprocAttr, Blk.men, Blk.keysIn])|exact qM rfl rfl rfl|(refine qG rfl ?_)|(refine qH rfl ?_)|(refine qI rfl ?_ ?_<;>intro hc<;>(try simp only [go_sem] at hc))|(refine qJ ?_ ?_<;>intro hc<;>(try simp only [hc])<;>(try simp only [go_sem] at hc)))
   refine retS_of rfl ?_ rfl; simp only [oneD, St.op, get, Nat.reduceEqDiff, ↓reduceIte, Option.getD_some, bD, dI]
   simp only [idxI, idxOf_some hij hv hc]
  ·repeat' (first|(with_reducible first|apply qA|apply qB|apply qC|apply qD|apply qE|apply qF)|(simp (disch:=omega) only [go_sem, simprocAttr, Blk.men, Blk.keysIn])|exact qM rfl rfl rfl|(refine qG rfl ?_)|(refine qH rfl ?_)|(refine qI rfl ?_ ?_<;>intro hc<;>(try simp only [go_sem] at hc))|(refine qJ ?_ ?_<;>intro hc<;>(try simp only [hc])<;>(try simp only [go_sem] at hc)))
   refine ⟨⟨i + 1, by omega, fun j u hj hu => by
    rcases Nat.lt_or_ge j i with h | h
    ·exact hij j u h hu
    ·have : j = i := by omega
     subst this
     rw [hv] at hu; cases hu; exact hc⟩, ?_, Ent.to ?_ ?_⟩ <;> first | (show _ < _; (try simp only); omega) | (simp (disch:=omega) only [qR,qS,qTw,qU,get,Nat.reduceEqDiff,↓reduceIte,qV,qW,qX,qY,qZ,and_self,dI,i64_in,and_true,true_and,rA,rB,rC,rD])
 ·repeat' (first|(with_reducible first|apply qA|apply qB|apply qC|apply qD|apply qE|apply qF)|(simp (disch:=omega) only [go_sem, simprocAttr, Blk.men, Blk.keysIn, hd])|exact qM rfl rfl rfl|(refine qG rfl ?_)|(refine qH rfl ?_)|(refine qI rfl ?_ ?_<;>intro hc<;>(try simp only [go_sem] at hc))|(refine qJ ?_ ?_<;>intro hc<;>(try simp only [hc])<;>(try simp only [go_sem] at hc)))
  refine retS_of rfl ?_ rfl; simp only [oneD, St.op, get, Nat.reduceEqDiff, ↓reduceIte, Option.getD_some, bD, dI]
  simp only [idxI, idxOf_none (he ▸ hij)]
theorem c110 (b : Bool) (l : List (Int)) (hl : l.length ≤ 2 ^ 36) (g : FuncId) (fs caps : List C) (p : Int → Bool) (hp : ∀ x ∈ l, DCall Try.prog g (fs.map D.c ++ [dI x] ++ caps.map D.c) [] (bD (p x)) []) : DCall Try.prog 109 [.c (.sl b 1 (rows eI l)), .c (.fn (.func g) fs caps)] [] (bD (l.any p)) [] := by
 refine DCall.of Try.func109 sf109 hb109 (Nat.le_of_ble_eq_true rfl) (okRes_nil fun _ => rfl) ?_; simp only [s109, idxs, Nat.reduceAdd]
 repeat' (first|(with_reducible first|apply qA|apply qB|apply qC|apply qD|apply qE|apply qF)|(simp (disch:=omega) only [go_sem, simprocAttr, Blk.men, Blk.keysIn])|exact qM rfl rfl rfl|(refine qG rfl ?_)|(refine qH rfl ?_)|(refine qI rfl ?_ ?_<;>intro hc<;>(try simp only [go_sem] at hc))|(refine qJ ?_ ?_<;>intro hc<;>(try simp only [hc])<;>(try simp only [go_sem] at hc)))
 refine call_c (c122 b l hl g fs caps p hp) (by decide) ?_
 repeat' (first|(with_reducible first|apply qA|apply qB|apply qC|apply qD|apply qE|apply qF)|(simp (disch:=omega) only [go_sem, simprocAttr, Blk.men, Blk.keysIn])|exact qM rfl rfl rfl|(refine qG rfl ?_)|(refine qH rfl ?_)|(refine qI rfl ?_ ?_<;>intro hc<;>(try simp only [go_sem] at hc))|(refine qJ ?_ ?_<;>intro hc<;>(try simp only [hc])<;>(try simp only [go_sem] at hc)))
 refine retS_of rfl ?_ rfl; simp only [oneD, St.op, get, Nat.reduceEqDiff, ↓reduceIte, Option.getD_some, bD, dI]
 rw [idxI_any]
end Go.Dw.Seat
end
section
set_option linter.unusedSimpArgs false
set_option maxRecDepth 100000
namespace Go.Dw.Seat
open Go Go.Dw Go.Proofs Go.IntWalk
def wthn (lo hi : Int) (l : List Int) : Bool := !(l.any fun n => decide (n < lo) || decide (hi < n))
theorem wthn_one {lo hi n : Int} (h : wthn lo hi [n] = true) : lo ≤ n ∧ n ≤ hi := by
 simp [wthn] at h; omega
end Go.Dw.Seat
end
section
set_option linter.unusedSimpArgs false
set_option maxRecDepth 100000
namespace Go.Dw.Seat
open Go Go.Dw Go.Proofs Go.IntWalk
def eT (t : Int × Int) : List C := [.v (.int .i64 t.1), .v (.int .i64 t.2)]
attribute [go_sem] eT
structure Quote where
 area : Int
 board : Int
 waste : Int
 tool : Int
 setup : Int
 run : Int
 work : Int
 pallet : Int
 freight : Int
 margin : Int
 steps : List (Int × Int)
abbrev dQ (b : Bool) (q : Quote) : D := .agg [dI q.area, dI q.board, dI q.waste, dI q.tool, dI q.setup, dI q.run, dI q.work, dI q.pallet, dI q.freight, dI q.margin, .c (.sl b 2 (rows eT q.steps))]
attribute [go_sem] dQ
structure Quote.ok (q : Quote) : Prop where
 area : 1 ≤ q.area ∧ q.area ≤ 100000
 board : 0 ≤ q.board ∧ q.board ≤ 100000
 waste : 0 ≤ q.waste ∧ q.waste ≤ 500
 tool : 0 ≤ q.tool ∧ q.tool ≤ 1000000
 setup : 0 ≤ q.setup ∧ q.setup ≤ 1000000
 run : 1 ≤ q.run ∧ q.run ≤ 100000
 work : 0 ≤ q.work ∧ q.work ≤ 1000000
 pallet : 1 ≤ q.pallet ∧ q.pallet ≤ 100000
 freight : 0 ≤ q.freight ∧ q.freight ≤ 1000000
 margin : 0 ≤ q.margin ∧ q.margin ≤ 1000
 len : q.steps.length ≤ 6
 steps : ∀ s ∈ q.steps, (1 ≤ s.1 ∧ s.1 ≤ 100000) ∧ (0 ≤ s.2 ∧ s.2 ≤ 900)
 asc : q.steps.Pairwise (fun a b => a.1 < b.1)
end Go.Dw.Seat
end
section
set_option linter.unusedSimpArgs false
set_option maxRecDepth 100000
namespace Go.Dw.Seat
open Go Go.Dw Go.Proofs Go.IntWalk
structure CR where
 tests : Int
 mean : Int
 low : Int
 bad : Int
abbrev dCR (r : CR) : D := .agg [dI r.tests, dI r.mean, dI r.low, dI r.bad]
structure CLot where
 off : Int
 made : Int
 ws : Int
 wb : Int
 bs : Int
 bb : Int
abbrev dLot (r : CR) (l : CLot) : D := .agg [dI r.tests, dI r.mean, dI r.low, dI r.bad, dI l.off, dI l.made, dI l.ws, dI l.wb, dI l.bs, dI l.bb]
attribute [go_sem] dCR dLot
theorem wthn_yes {lo hi : Int} {l : List Int} (h : ∀ v ∈ l, lo ≤ v ∧ v ≤ hi) : wthn lo hi l = true := by
 simp only [wthn, Bool.not_eq_true', List.any_eq_false, Bool.or_eq_true, decide_eq_true_eq]
 intro v hv
 have := h v hv
 omega
def lowT (off x : Int) : Int := if 0 < x - off then x - off else 0
def highT (off x : Int) : Int := if x + off < 100000 then x + off else 100000
def CLot.after (r : CR) (l : CLot) (x : Int) : CLot :=
 ⟨l.off, l.made + 1, l.ws + lowT l.off x, if lowT l.off x < r.low then l.wb + 1 else l.wb, l.bs + highT l.off x, if highT l.off x < r.low then l.bb + 1 else l.bb⟩
structure CLot.ok (l : CLot) : Prop where
 off : 0 ≤ l.off ∧ l.off ≤ 1000
 made : 0 ≤ l.made ∧ l.made ≤ 100
 ws : 0 ≤ l.ws ∧ l.ws ≤ 100000 * l.made
 wb : 0 ≤ l.wb ∧ l.wb ≤ l.made
 bs : 0 ≤ l.bs ∧ l.bs ≤ 100000 * l.made
 bb : 0 ≤ l.bb ∧ l.bb ≤ l.made
end Go.Dw.Seat
end
section
set_option linter.unusedSimpArgs false
set_option maxRecDepth 100000
namespace Go.Dw.Seat
open Go Go.Dw Go.Proofs Go.IntWalk
theorem mulB0 {a b A B : Int} (ha : 0 ≤ a ∧ a ≤ A) (hb : 0 ≤ b ∧ b ≤ B) : 0 ≤ a * b ∧ a * b ≤ A * B := by
 refine ⟨Int.mul_nonneg ha.1 hb.1, ?_⟩
 exact Int.le_trans (Int.mul_le_mul_of_nonneg_right ha.2 hb.1) (Int.mul_le_mul_of_nonneg_left hb.2 (Int.le_trans ha.1 ha.2))
end Go.Dw.Seat
end
section
set_option linter.unusedSimpArgs false
set_option maxRecDepth 100000
namespace Go.Dw.Seat
open Go Go.Dw Go.Proofs Go.IntWalk
def enBack (e : (Int × Int) × Nat) : List D := [dI e.2, .agg ((eT e.1).map D.c)]
def enSp (e : Int × Int) : List D := [.agg [dI e.1, dI e.2]]
attribute [go_sem] enBack enSp
end Go.Dw.Seat
end
section
set_option linter.unusedSimpArgs false
set_option maxRecDepth 100000
namespace Go.Dw.Seat
open Go Go.Dw Go.Proofs Go.IntWalk
theorem ud5 : Try.prog.underlying 5 = some (.int .u8) := by kernel_rfl
abbrev d8 (n : Nat) : D := .c (.v (.int .u8 n))
def eY (v : Nat) : List C := [.v (.int .u8 v)]
theorem eY_nb (v : Nat) : C.nbs (eY v) = true := rfl
attribute [go_sem] ud5 d8 eY
theorem tmodN (m k : Nat) : (m : Int).tmod (k : Int) = ((m % k : Nat) : Int) := by
 rw [Int.tmod_eq_emod_of_nonneg (by omega)]; simp
theorem tdivN (m k : Nat) : (m : Int).tdiv (k : Int) = ((m / k : Nat) : Int) := by
 rw [Int.tdiv_eq_ediv_of_nonneg (by omega)]; simp
def byteI (l : List Nat) (i : Nat) : Nat := (l[i % l.length]?).getD 0
theorem arByte (b : Bool) (l : List Nat) (i : Nat) (hi : i ≤ 1000) (hl : ∀ v ∈ l, v < 256) : DCall Try.prog 43 [.c (.sl b 1 (rows eY l)), dI i] [] (dI (byteI l i)) [] := by
 by_cases h0 : l.length = 0
 ·have he : ((l.length : Int) == 0) = true := by rw [h0]; rfl
  have hb : byteI l i = 0 := by
   have : l = [] := List.length_eq_zero_iff.1 h0
   subst this; rfl
  rw [hb]
  refine DCall.of Try.func43 sf43 hb43 (Nat.le_of_ble_eq_true rfl) (okRes_nil fun _ => rfl) ?_; simp only [s43, idxs, Nat.reduceAdd]
  repeat' (first|(with_reducible first|apply qA|apply qB|apply qC|apply qD|apply qE|apply qF)|(simp (disch:=omega) only [go_sem, simprocAttr, Blk.men, Blk.keysIn, he])|exact qM rfl rfl rfl|(refine qG rfl ?_)|(refine qH rfl ?_)|(refine qI rfl ?_ ?_<;>intro hc<;>(try simp only [go_sem] at hc))|(refine qJ ?_ ?_<;>intro hc<;>(try simp only [hc])<;>(try simp only [go_sem] at hc)))
 ·have he : ((l.length : Int) == 0) = false := by rw [beq_eq_false_iff_ne]; omega
  have hz : ((l.length : Int) = 0) = False := eq_false (by omega)
  have hr : (i : Int).tmod (l.length : Int) = ((i % l.length : Nat) : Int) := tmodN i l.length
  have hlt : i % l.length < l.length := Nat.mod_lt _ (by omega)
  have hv : l[i % l.length]? = some (byteI l i) := by
   rw [byteI, List.getElem?_eq_getElem hlt]; rfl
  have hv8 := hl _ (List.mem_of_getElem? hv)
  generalize byteI l i = v at *
  generalize i % l.length = j at *
  refine DCall.of Try.func43 sf43 hb43 (Nat.le_of_ble_eq_true rfl) (okRes_nil fun _ => rfl) ?_; simp only [s43, idxs, Nat.reduceAdd]
  repeat' (first|(with_reducible first|apply qA|apply qB|apply qC|apply qD|apply qE|apply qF)|(simp (disch:=omega) only [go_sem, simprocAttr, Blk.men, Blk.keysIn, he, hz, hr, hv])|exact qM rfl rfl rfl|(refine qG rfl ?_)|(refine qH rfl ?_)|(refine qI rfl ?_ ?_<;>intro hc<;>(try simp only [go_sem] at hc))|(refine qJ ?_ ?_<;>intro hc<;>(try simp only [hc])<;>(try simp only [go_sem] at hc)))
end Go.Dw.Seat
end
section
set_option linter.unusedSimpArgs false
set_option maxRecDepth 100000
namespace Go.Dw.Seat
open Go Go.Dw Go.Proofs Go.IntWalk
theorem ud3 : Try.prog.underlying 3 = some (.int .i64) := by kernel_rfl
structure IsRoot (n r : Int) : Prop where
 pos : 0 ≤ r
 low : r * r ≤ n
 high : n < (r + 1) * (r + 1)
theorem sq_mono {a b : Int} (ha : 0 ≤ a) (h : a ≤ b) : a * a ≤ b * b := Int.mul_le_mul h h ha (by omega)
theorem IsRoot.le {n r k : Int} (h : IsRoot n r) (hk : 0 ≤ k) : (n < (k + 1) * (k + 1)) ↔ r ≤ k := by
 constructor
 ·intro h1
  rcases Int.lt_or_le k r with h2 | h2
  ·have := sq_mono (a := k + 1) (b := r) (by omega) (by omega)
   have := h.low
   omega
  ·exact h2
 ·intro h1
  have := sq_mono (a := r + 1) (b := k + 1) (by have := h.pos; omega) (by omega)
  have := h.high
  omega
theorem IsRoot.mono {n n' r r' : Int} (h : IsRoot n r) (h' : IsRoot n' r') (hn : n ≤ n') : r ≤ r' :=
 (h.le h'.pos).1 (by have := h'.high; omega)
theorem IsRoot.lt {n r : Int} (h : IsRoot n r) (hn : n ≤ 200000000) : r ≤ 14142 := by
 rcases Int.lt_or_le 14142 r with h1 | h1
 ·have := sq_mono (a := 14143) (b := r) (by decide) (by omega)
  have := h.low
  omega
 ·exact h1
structure CBox where
 el : Int
 eh : Int
 cl : Int
 ch : Int
 around : Int
 rule : Int
structure CBox.ok (b : CBox) : Prop where
 edge : 0 ≤ b.el ∧ b.el ≤ b.eh ∧ b.eh ≤ 100000
 cal : 1 ≤ b.cl ∧ b.cl ≤ b.ch ∧ b.ch ≤ 10000
 around : 1 ≤ b.around ∧ b.around ≤ 20000
 rule : 1 ≤ b.rule ∧ b.rule ≤ 1000
abbrev dCBox (b : CBox) : D := .agg [dI b.el, dI b.eh, dI b.cl, dI b.ch, dI b.around, dI b.rule]
attribute [go_sem] dCBox
end Go.Dw.Seat
end
section
set_option linter.unusedSimpArgs false
set_option maxRecDepth 100000
namespace Go.Dw.Seat
open Go Go.Dw Go.Proofs Go.IntWalk
theorem bdW1 (n lo hi : Int) (p q : Bool) : DCall Try.prog 110 [dI n, .c (.ro p [.v (.int .i64 lo)] 0), .c (.ro q [.v (.int .i64 hi)] 0)] [] (bD (decide (n < lo) || decide (hi < n))) [] := by
 refine DCall.of Try.func110 sf110 hb110 (Nat.le_of_ble_eq_true rfl) (okRes_nil fun _ => rfl) ?_; simp only [s110, idxs, Nat.reduceAdd]
 repeat' (first|(with_reducible first|apply qA|apply qB|apply qC|apply qD|apply qE|apply qF)|(simp (disch:=omega) only [go_sem, simprocAttr, Blk.men, Blk.keysIn])|exact qM rfl rfl rfl|(refine qG rfl ?_)|(refine qH rfl ?_)|(refine qI rfl ?_ ?_<;>intro hc<;>(try simp only [go_sem] at hc))|(refine qJ ?_ ?_<;>intro hc<;>(try simp only [hc])<;>(try simp only [go_sem] at hc)))
theorem bdWithin (b : Bool) (lo hi : Int) (l : List Int) (hl : l.length ≤ 2 ^ 36) : DCall Try.prog 60 [dI lo, dI hi, dIs b l] [] (bD (wthn lo hi l)) [] := by
 refine DCall.of Try.func60 sf60 hb60 (Nat.le_of_ble_eq_true rfl) (okRes_nil fun _ => rfl) ?_; simp only [s60, idxs, Nat.reduceAdd]
 repeat' (first|(with_reducible first|apply qA|apply qB|apply qC|apply qD|apply qE|apply qF)|(simp (disch:=omega) only [go_sem, simprocAttr, Blk.men, Blk.keysIn])|exact qM rfl rfl rfl|(refine qG rfl ?_)|(refine qH rfl ?_)|(refine qI rfl ?_ ?_<;>intro hc<;>(try simp only [go_sem] at hc))|(refine qJ ?_ ?_<;>intro hc<;>(try simp only [hc])<;>(try simp only [go_sem] at hc)))
 (refine call_c (c110 b l hl 110 [] [.ro true [.v (.int .i64 lo)] 0, .ro true [.v (.int .i64 hi)] 0] (fun n => decide (n < lo) || decide (hi < n)) (fun x _ => bdW1 x lo hi true true)) (by decide) ?_; simp (disch:=omega) only [go_sem,simprocAttr,Blk.men,Blk.keysIn])
 repeat' (first|(with_reducible first|apply qA|apply qB|apply qC|apply qD|apply qE|apply qF)|(simp (disch:=omega) only [go_sem, simprocAttr, Blk.men, Blk.keysIn])|exact qM rfl rfl rfl|(refine qG rfl ?_)|(refine qH rfl ?_)|(refine qI rfl ?_ ?_<;>intro hc<;>(try simp only [go_sem] at hc))|(refine qJ ?_ ?_<;>intro hc<;>(try simp only [hc])<;>(try simp only [go_sem] at hc)))
theorem bdIn (b : Bool) (lo hi : Int) (l : List Int) (hl : l.length ≤ 2 ^ 36) (h : ∀ v ∈ l, lo ≤ v ∧ v ≤ hi) : DCall Try.prog 60 [dI lo, dI hi, dIs b l] [] (bD true) [] := by
 have := bdWithin b lo hi l hl
 rwa [wthn_yes h] at this
structure Pap where
 kind : Int
 weight : Int
 tl : Int
 th : Int
 ml : Int
 mh : Int
 price : Int
 strong : Int
structure Flu where
 pitch : Int
 draw : Int
 hl : Int
 hh : Int
def eP (p : Pap) : List C := [.v (.int .i64 p.kind), .v (.int .i64 p.weight), .v (.int .i64 p.tl), .v (.int .i64 p.th), .v (.int .i64 p.ml), .v (.int .i64 p.mh), .v (.int .i64 p.price), .v (.int .i64 p.strong)]
def eF (f : Flu) : List C := [.v (.int .i64 f.pitch), .v (.int .i64 f.draw), .v (.int .i64 f.hl), .v (.int .i64 f.hh)]
theorem eP_nb (v : Pap) : C.nbs (eP v) = true := rfl
theorem eF_nb (v : Flu) : C.nbs (eF v) = true := rfl
structure Pap.ok (p : Pap) : Prop where
 kind : p.kind = 1 ∨ p.kind = 2
 weight : 1 ≤ p.weight ∧ p.weight ≤ 1000
 thick : 1 ≤ p.tl ∧ p.tl ≤ p.th ∧ p.th ≤ 1000
 moist : 0 ≤ p.ml ∧ p.ml ≤ p.mh ∧ p.mh ≤ 200
 price : 0 ≤ p.price ∧ p.price ≤ 1000000
 strong : 0 ≤ p.strong ∧ p.strong ≤ 10000
structure Flu.ok (f : Flu) : Prop where
 pitch : 1000 ≤ f.pitch ∧ f.pitch ≤ 10000
 draw : f.pitch ≤ f.draw ∧ f.draw ≤ 2 * f.pitch
 high : 1 ≤ f.hl ∧ f.hl ≤ f.hh ∧ f.hh ≤ 10000
structure Sto where
 papers : List Pap
 flutes : List Flu
structure Sto.ok (s : Sto) : Prop where
 np : 1 ≤ s.papers.length ∧ s.papers.length ≤ 8
 nf : 1 ≤ s.flutes.length ∧ s.flutes.length ≤ 4
 papers : ∀ p ∈ s.papers, p.ok
 flutes : ∀ f ∈ s.flutes, f.ok
abbrev dSto (s : Sto) : D := .agg [.c (.sl false 8 (rows eP s.papers)), .c (.sl false 4 (rows eF s.flutes))]
attribute [go_sem] eP eF dSto
theorem bdSpan (lo hi least most : Int) (h : least ≤ lo ∧ lo ≤ hi ∧ hi ≤ most) : DCall Try.prog 172 [.agg [dI lo, dI hi], dI least, dI most] [] (bD true) [] := by
 have h1 := bdIn true least most [lo, hi] (by simp) (by simp; omega)
 have hd : decide (lo ≤ hi) = true := decide_eq_true h.2.1
 refine DCall.of Try.func172 sf172 hb172 (Nat.le_of_ble_eq_true rfl) (okRes_nil fun _ => rfl) ?_; simp only [s172, idxs, Nat.reduceAdd]
 repeat' (first|(with_reducible first|apply qA|apply qB|apply qC|apply qD|apply qE|apply qF)|(simp (disch:=omega) only [go_sem, simprocAttr, Blk.men, Blk.keysIn, hd])|exact qM rfl rfl rfl|(refine qG rfl ?_)|(refine qK (h1) (by decide) ?_)|(refine qH rfl ?_)|(refine qI rfl ?_ ?_<;>intro hc<;>(try simp only [go_sem] at hc))|(refine qJ ?_ ?_<;>intro hc<;>(try simp only [hc])<;>(try simp only [go_sem] at hc)))
theorem bdPaper (p : Pap) (h : p.ok) : DCall Try.prog 162 [.agg ((eP p).map D.c)] [] (bD true) [] := by
 have h1 := bdIn true 1 1000 [p.weight] (by simp) (by simpa using h.weight)
 have h2 := bdSpan p.tl p.th 1 1000 h.thick
 have h3 := bdSpan p.ml p.mh 0 200 h.moist
 have h4 := bdIn true 0 1000000 [p.price] (by simp) (by simpa using h.price)
 have h5 := bdIn true 0 10000 [p.strong] (by simp) (by simpa using h.strong)
 rcases h.kind with hk | hk
 ·refine DCall.of Try.func162 sf162 hb162 (Nat.le_of_ble_eq_true rfl) (okRes_nil fun _ => rfl) ?_; simp only [s162, idxs, Nat.reduceAdd]
  repeat' (first|(with_reducible first|apply qA|apply qB|apply qC|apply qD|apply qE|apply qF)|(simp (disch:=omega) only [go_sem, simprocAttr, Blk.men, Blk.keysIn, rF, rG, hk])|exact qM rfl rfl rfl|(refine qG rfl ?_)|(refine qK (h1) (by decide) ?_)|(refine qK (h2) (by decide) ?_)|(refine qK (h3) (by decide) ?_)|(refine qK (h4) (by decide) ?_)|(refine qK (h5) (by decide) ?_)|(refine qH rfl ?_)|(refine qI rfl ?_ ?_<;>intro hc<;>(try simp only [go_sem] at hc))|(refine qJ ?_ ?_<;>intro hc<;>(try simp only [hc])<;>(try simp only [go_sem] at hc)))
 ·refine DCall.of Try.func162 sf162 hb162 (Nat.le_of_ble_eq_true rfl) (okRes_nil fun _ => rfl) ?_; simp only [s162, idxs, Nat.reduceAdd]
  repeat' (first|(with_reducible first|apply qA|apply qB|apply qC|apply qD|apply qE|apply qF)|(simp (disch:=omega) only [go_sem, simprocAttr, Blk.men, Blk.keysIn, rF, rG, hk])|exact qM rfl rfl rfl|(refine qG rfl ?_)|(refine qK (h1) (by decide) ?_)|(refine qK (h2) (by decide) ?_)|(refine qK (h3) (by decide) ?_)|(refine qK (h4) (by decide) ?_)|(refine qK (h5) (by decide) ?_)|(refine qH rfl ?_)|(refine qI rfl ?_ ?_<;>intro hc<;>(try simp only [go_sem] at hc))|(refine qJ ?_ ?_<;>intro hc<;>(try simp only [hc])<;>(try simp only [go_sem] at hc)))
theorem bdFlute (f : Flu) (h : f.ok) : DCall Try.prog 165 [.agg ((eF f).map D.c)] [] (bD true) [] := by
 have hp := h.pitch
 have h1 := bdIn true 1000 10000 [f.pitch] (by simp) (by simpa using h.pitch)
 have h2 := bdIn true f.pitch (2 * f.pitch) [f.draw] (by simp) (by simpa using h.draw)
 have h3 := bdSpan f.hl f.hh 1 10000 h.high
 refine DCall.of Try.func165 sf165 hb165 (Nat.le_of_ble_eq_true rfl) (okRes_nil fun _ => rfl) ?_; simp only [s165, idxs, Nat.reduceAdd]
 repeat' (first|(with_reducible first|apply qA|apply qB|apply qC|apply qD|apply qE|apply qF)|(simp (disch:=omega) only [go_sem, simprocAttr, Blk.men, Blk.keysIn, rF, rG])|exact qM rfl rfl rfl|(refine qG rfl ?_)|(refine qK (h1) (by decide) ?_)|(refine qK (h2) (by decide) ?_)|(refine qK (h3) (by decide) ?_)|(refine qH rfl ?_)|(refine qI rfl ?_ ?_<;>intro hc<;>(try simp only [go_sem] at hc))|(refine qJ ?_ ?_<;>intro hc<;>(try simp only [hc])<;>(try simp only [go_sem] at hc)))
theorem bdP1 (p : Pap) (h : p.ok) : DCall Try.prog 161 [.agg ((eP p).map D.c)] [] (bD false) [] := by
 have h1 := bdPaper p h
 refine DCall.of Try.func161 sf161 hb161 (Nat.le_of_ble_eq_true rfl) (okRes_nil fun _ => rfl) ?_; simp only [s161, idxs, Nat.reduceAdd]
 repeat' (first|(with_reducible first|apply qA|apply qB|apply qC|apply qD|apply qE|apply qF)|(simp (disch:=omega) only [go_sem, simprocAttr, Blk.men, Blk.keysIn, rF, rG])|exact qM rfl rfl rfl|(refine qG rfl ?_)|(refine qK (h1) (by decide) ?_)|(refine qH rfl ?_)|(refine qI rfl ?_ ?_<;>intro hc<;>(try simp only [go_sem] at hc))|(refine qJ ?_ ?_<;>intro hc<;>(try simp only [hc])<;>(try simp only [go_sem] at hc)))
theorem bdF1 (f : Flu) (h : f.ok) : DCall Try.prog 164 [.agg ((eF f).map D.c)] [] (bD false) [] := by
 have h1 := bdFlute f h
 refine DCall.of Try.func164 sf164 hb164 (Nat.le_of_ble_eq_true rfl) (okRes_nil fun _ => rfl) ?_; simp only [s164, idxs, Nat.reduceAdd]
 repeat' (first|(with_reducible first|apply qA|apply qB|apply qC|apply qD|apply qE|apply qF)|(simp (disch:=omega) only [go_sem, simprocAttr, Blk.men, Blk.keysIn, rF, rG])|exact qM rfl rfl rfl|(refine qG rfl ?_)|(refine qK (h1) (by decide) ?_)|(refine qH rfl ?_)|(refine qI rfl ?_ ?_<;>intro hc<;>(try simp only [go_sem] at hc))|(refine qJ ?_ ?_<;>intro hc<;>(try simp only [hc])<;>(try simp only [go_sem] at hc)))
theorem bdPIdx (b : Bool) (l : List Pap) (hl : l.length ≤ 2 ^ 36) (g : FuncId) (hp : ∀ x ∈ l, DCall Try.prog g [.agg ((eP x).map D.c)] [] (bD false) []) : DCall Try.prog 171 [.c (.sl b 8 (rows eP l)), .c (.fn (.func g) [] [])] [] (dI (-1)) [] := by
 refine DCall.of Try.func171 sf171 hb171 (Nat.le_of_ble_eq_true rfl) (okRes_nil fun _ => rfl) ?_; simp only [s171, idxs, Nat.reduceAdd]
 repeat' (first|(with_reducible first|apply qA|apply qB|apply qC|apply qD|apply qE|apply qF)|(simp (disch:=omega) only [go_sem, simprocAttr, Blk.men, Blk.keysIn])|exact qM rfl rfl rfl|(refine qG rfl ?_)|(refine qH rfl ?_)|(refine qI rfl ?_ ?_<;>intro hc<;>(try simp only [go_sem] at hc))|(refine qJ ?_ ?_<;>intro hc<;>(try simp only [hc])<;>(try simp only [go_sem] at hc)))
 refine DW.loop (ι := { i : Nat // i ≤ l.length }) (fun i => ⟨19, [(8, dI i.1), (7, dI l.length), (1, .c (.fn (.func g) [] [])), (0, .c (.sl b 8 (rows eP l)))], []⟩) (fun i => l.length - i.1) ⟨0, Nat.zero_le _⟩ ?_ ?_
 ·refine Ent.to ?_ ?_ <;> simp (disch:=omega) only [qR,qS,qTw,qU,get,Nat.reduceEqDiff,↓reduceIte,qV,qW,qX,qY,qZ,and_self,dI,i64_in,and_true,true_and,rA,rB,rC,rD]
 rintro ⟨i, hi⟩
 rcases at_or l i hi with ⟨v, hv, hlt, hd⟩ | ⟨he, hd⟩
 ·have hcall := hp v (List.mem_of_getElem? hv)
  repeat' (first|(with_reducible first|apply qA|apply qB|apply qC|apply qD|apply qE|apply qF)|(simp (disch:=omega) only [go_sem, simprocAttr, Blk.men, Blk.keysIn, hd, hv, closeDs_fn, rF, rG])|exact qM rfl rfl rfl|(refine qG rfl ?_)|(refine qH rfl ?_)|(refine qI rfl ?_ ?_<;>intro hc<;>(try simp only [go_sem] at hc))|(refine qJ ?_ ?_<;>intro hc<;>(try simp only [hc])<;>(try simp only [go_sem] at hc)))
  refine call_c hcall (by decide) ?_
  simp (disch:=omega) only [go_sem,simprocAttr,Blk.men,Blk.keysIn]
  repeat' (first|(with_reducible first|apply qA|apply qB|apply qC|apply qD|apply qE|apply qF)|(simp (disch:=omega) only [go_sem, simprocAttr, Blk.men, Blk.keysIn])|exact qM rfl rfl rfl|(refine qG rfl ?_)|(refine qH rfl ?_)|(refine qI rfl ?_ ?_<;>intro hc<;>(try simp only [go_sem] at hc))|(refine qJ ?_ ?_<;>intro hc<;>(try simp only [hc])<;>(try simp only [go_sem] at hc)))
  refine ⟨⟨i + 1, hlt⟩, ?_, Ent.to ?_ ?_⟩ <;> first | (show _ < _; (try simp only); omega) | (simp (disch:=omega) only [qR,qS,qTw,qU,get,Nat.reduceEqDiff,↓reduceIte,qV,qW,qX,qY,qZ,and_self,dI,i64_in,and_true,true_and,rA,rB,rC,rD])
 ·repeat' (first|(with_reducible first|apply qA|apply qB|apply qC|apply qD|apply qE|apply qF)|(simp (disch:=omega) only [go_sem, simprocAttr, Blk.men, Blk.keysIn, hd])|exact qM rfl rfl rfl|(refine qG rfl ?_)|(refine qH rfl ?_)|(refine qI rfl ?_ ?_<;>intro hc<;>(try simp only [go_sem] at hc))|(refine qJ ?_ ?_<;>intro hc<;>(try simp only [hc])<;>(try simp only [go_sem] at hc)))
theorem bdPCon (b : Bool) (l : List Pap) (hl : l.length ≤ 2 ^ 36) (g : FuncId) (hp : ∀ x ∈ l, DCall Try.prog g [.agg ((eP x).map D.c)] [] (bD false) []) : DCall Try.prog 160 [.c (.sl b 8 (rows eP l)), .c (.fn (.func g) [] [])] [] (bD false) [] := by
 refine DCall.of Try.func160 sf160 hb160 (Nat.le_of_ble_eq_true rfl) (okRes_nil fun _ => rfl) ?_; simp only [s160, idxs, Nat.reduceAdd]
 repeat' (first|(with_reducible first|apply qA|apply qB|apply qC|apply qD|apply qE|apply qF)|(simp (disch:=omega) only [go_sem, simprocAttr, Blk.men, Blk.keysIn])|exact qM rfl rfl rfl|(refine qG rfl ?_)|(refine qH rfl ?_)|(refine qI rfl ?_ ?_<;>intro hc<;>(try simp only [go_sem] at hc))|(refine qJ ?_ ?_<;>intro hc<;>(try simp only [hc])<;>(try simp only [go_sem] at hc)))
 (refine call_c (bdPIdx b l hl g hp) (by decide) ?_; simp (disch:=omega) only [go_sem,simprocAttr,Blk.men,Blk.keysIn])
 repeat' (first|(with_reducible first|apply qA|apply qB|apply qC|apply qD|apply qE|apply qF)|(simp (disch:=omega) only [go_sem, simprocAttr, Blk.men, Blk.keysIn])|exact qM rfl rfl rfl|(refine qG rfl ?_)|(refine qH rfl ?_)|(refine qI rfl ?_ ?_<;>intro hc<;>(try simp only [go_sem] at hc))|(refine qJ ?_ ?_<;>intro hc<;>(try simp only [hc])<;>(try simp only [go_sem] at hc)))
theorem bdFIdx (b : Bool) (l : List Flu) (hl : l.length ≤ 2 ^ 36) (g : FuncId) (hp : ∀ x ∈ l, DCall Try.prog g [.agg ((eF x).map D.c)] [] (bD false) []) : DCall Try.prog 173 [.c (.sl b 4 (rows eF l)), .c (.fn (.func g) [] [])] [] (dI (-1)) [] := by
 refine DCall.of Try.func173 sf173 hb173 (Nat.le_of_ble_eq_true rfl) (okRes_nil fun _ => rfl) ?_; simp only [s173, idxs, Nat.reduceAdd]
 repeat' (first|(with_reducible first|apply qA|apply qB|apply qC|apply qD|apply qE|apply qF)|(simp (disch:=omega) only [go_sem, simprocAttr, Blk.men, Blk.keysIn])|exact qM rfl rfl rfl|(refine qG rfl ?_)|(refine qH rfl ?_)|(refine qI rfl ?_ ?_<;>intro hc<;>(try simp only [go_sem] at hc))|(refine qJ ?_ ?_<;>intro hc<;>(try simp only [hc])<;>(try simp only [go_sem] at hc)))
 refine DW.loop (ι := { i : Nat // i ≤ l.length }) (fun i => ⟨19, [(8, dI i.1), (7, dI l.length), (1, .c (.fn (.func g) [] [])), (0, .c (.sl b 4 (rows eF l)))], []⟩) (fun i => l.length - i.1) ⟨0, Nat.zero_le _⟩ ?_ ?_
 ·refine Ent.to ?_ ?_ <;> simp (disch:=omega) only [qR,qS,qTw,qU,get,Nat.reduceEqDiff,↓reduceIte,qV,qW,qX,qY,qZ,and_self,dI,i64_in,and_true,true_and,rA,rB,rC,rD]
 rintro ⟨i, hi⟩
 rcases at_or l i hi with ⟨v, hv, hlt, hd⟩ | ⟨he, hd⟩
 ·have hcall := hp v (List.mem_of_getElem? hv)
  repeat' (first|(with_reducible first|apply qA|apply qB|apply qC|apply qD|apply qE|apply qF)|(simp (disch:=omega) only [go_sem, simprocAttr, Blk.men, Blk.keysIn, hd, hv, closeDs_fn, rF, rG])|exact qM rfl rfl rfl|(refine qG rfl ?_)|(refine qH rfl ?_)|(refine qI rfl ?_ ?_<;>intro hc<;>(try simp only [go_sem] at hc))|(refine qJ ?_ ?_<;>intro hc<;>(try simp only [hc])<;>(try simp only [go_sem] at hc)))
  refine call_c hcall (by decide) ?_
  simp (disch:=omega) only [go_sem,simprocAttr,Blk.men,Blk.keysIn]
  repeat' (first|(with_reducible first|apply qA|apply qB|apply qC|apply qD|apply qE|apply qF)|(simp (disch:=omega) only [go_sem, simprocAttr, Blk.men, Blk.keysIn])|exact qM rfl rfl rfl|(refine qG rfl ?_)|(refine qH rfl ?_)|(refine qI rfl ?_ ?_<;>intro hc<;>(try simp only [go_sem] at hc))|(refine qJ ?_ ?_<;>intro hc<;>(try simp only [hc])<;>(try simp only [go_sem] at hc)))
  refine ⟨⟨i + 1, hlt⟩, ?_, Ent.to ?_ ?_⟩ <;> first | (show _ < _; (try simp only); omega) | (simp (disch:=omega) only [qR,qS,qTw,qU,get,Nat.reduceEqDiff,↓reduceIte,qV,qW,qX,qY,qZ,and_self,dI,i64_in,and_true,true_and,rA,rB,rC,rD])
 ·repeat' (first|(with_reducible first|apply qA|apply qB|apply qC|apply qD|apply qE|apply qF)|(simp (disch:=omega) only [go_sem, simprocAttr, Blk.men, Blk.keysIn, hd])|exact qM rfl rfl rfl|(refine qG rfl ?_)|(refine qH rfl ?_)|(refine qI rfl ?_ ?_<;>intro hc<;>(try simp only [go_sem] at hc))|(refine qJ ?_ ?_<;>intro hc<;>(try simp only [hc])<;>(try simp only [go_sem] at hc)))
theorem bdFCon (b : Bool) (l : List Flu) (hl : l.length ≤ 2 ^ 36) (g : FuncId) (hp : ∀ x ∈ l, DCall Try.prog g [.agg ((eF x).map D.c)] [] (bD false) []) : DCall Try.prog 163 [.c (.sl b 4 (rows eF l)), .c (.fn (.func g) [] [])] [] (bD false) [] := by
 refine DCall.of Try.func163 sf163 hb163 (Nat.le_of_ble_eq_true rfl) (okRes_nil fun _ => rfl) ?_; simp only [s163, idxs, Nat.reduceAdd]
 repeat' (first|(with_reducible first|apply qA|apply qB|apply qC|apply qD|apply qE|apply qF)|(simp (disch:=omega) only [go_sem, simprocAttr, Blk.men, Blk.keysIn])|exact qM rfl rfl rfl|(refine qG rfl ?_)|(refine qH rfl ?_)|(refine qI rfl ?_ ?_<;>intro hc<;>(try simp only [go_sem] at hc))|(refine qJ ?_ ?_<;>intro hc<;>(try simp only [hc])<;>(try simp only [go_sem] at hc)))
 (refine call_c (bdFIdx b l hl g hp) (by decide) ?_; simp (disch:=omega) only [go_sem,simprocAttr,Blk.men,Blk.keysIn])
 repeat' (first|(with_reducible first|apply qA|apply qB|apply qC|apply qD|apply qE|apply qF)|(simp (disch:=omega) only [go_sem, simprocAttr, Blk.men, Blk.keysIn])|exact qM rfl rfl rfl|(refine qG rfl ?_)|(refine qH rfl ?_)|(refine qI rfl ?_ ?_<;>intro hc<;>(try simp only [go_sem] at hc))|(refine qJ ?_ ?_<;>intro hc<;>(try simp only [hc])<;>(try simp only [go_sem] at hc)))
theorem bdCheck (s : Sto) (h : s.ok) : DCall Try.prog 143 [dSto s] [] (dI 0) [] := by
 have hp := h.np
 have hf := h.nf
 have h1 := bdPCon false s.papers (by omega) 161 (fun p hp => bdP1 p (h.papers p hp))
 have h2 := bdFCon false s.flutes (by omega) 164 (fun f hf => bdF1 f (h.flutes f hf))
 have d1 : decide ((8 : Int) < (s.papers.length : Int)) = false := by rw [decide_eq_false_iff_not]; omega
 have d2 : decide ((4 : Int) < (s.flutes.length : Int)) = false := by rw [decide_eq_false_iff_not]; omega
 have d3 : ((s.papers.length : Int) == 0) = false := by rw [beq_eq_false_iff_ne]; omega
 have d4 : ((s.flutes.length : Int) == 0) = false := by rw [beq_eq_false_iff_ne]; omega
 refine DCall.of Try.func143 sf143 hb143 (Nat.le_of_ble_eq_true rfl) (okRes_nil fun _ => rfl) ?_; simp only [s143, idxs, Nat.reduceAdd]
 repeat' (first|(with_reducible first|apply qA|apply qB|apply qC|apply qD|apply qE|apply qF)|(simp (disch:=omega) only [go_sem, simprocAttr, Blk.men, Blk.keysIn, d1, d2, d3, d4])|exact qM rfl rfl rfl|(refine qG rfl ?_)|(refine qK (h1) (by decide) ?_)|(refine qK (h2) (by decide) ?_)|(refine qH rfl ?_)|(refine qI rfl ?_ ?_<;>intro hc<;>(try simp only [go_sem] at hc))|(refine qJ ?_ ?_<;>intro hc<;>(try simp only [hc])<;>(try simp only [go_sem] at hc)))
structure Mak where
 papers : List Nat
 flutes : List Nat
abbrev dMak (m : Mak) : D := .agg [.c (.sl false 1 (rows eI (nL m.papers))), .c (.sl false 1 (rows eI (nL m.flutes)))]
attribute [go_sem] dMak
structure Mak.ok (m : Mak) (s : Sto) : Prop where
 nf : 1 ≤ m.flutes.length ∧ m.flutes.length ≤ 2
 np : m.papers.length = 2 * m.flutes.length + 1
 papers : ∀ n ∈ m.papers, n < s.papers.length
 flutes : ∀ n ∈ m.flutes, n < s.flutes.length
 kind : ∀ (i n : Nat) (p : Pap), m.papers[i]? = some n → s.papers[n]? = some p → p.kind = if i % 2 = 0 then 1 else 2
def kindsL : Nat → List Int
 | 0 => [1]
 | n + 1 => kindsL n ++ [2, 1]
theorem kindsL_len : ∀ n, (kindsL n).length = 2 * n + 1
 | 0 => rfl
 | n + 1 => by rw [kindsL, List.length_append, kindsL_len n]; simp; omega
theorem kindsL_get : ∀ n i, i < 2 * n + 1 → (kindsL n)[i]? = some (if i % 2 = 0 then 1 else 2)
 | 0, i, h => by
  obtain rfl : i = 0 := by omega
  rfl
 | n + 1, i, h => by
  rw [kindsL]
  rcases Nat.lt_or_ge i (2 * n + 1) with h1 | h1
  ·rw [List.getElem?_append_left (by rw [kindsL_len]; omega)]
   exact kindsL_get n i h1
  ·rw [List.getElem?_append_right (by rw [kindsL_len]; omega), kindsL_len]
   rcases (by omega : i = 2 * n + 1 ∨ i = 2 * n + 2) with rfl | rfl
   ·rw [if_neg (by omega)]; simp
   ·rw [if_pos (by omega)]; simp
theorem snoc2 (l : List Int) (a b : Int) : rowC (rows eI l) ++ [[D.c (.v (.int .i64 a))], [D.c (.v (.int .i64 b))]] = rowC (rows eI (l ++ [a, b])) := by simp [rowC, rows, eI]
theorem bdKinds (n : Nat) (hn : n ≤ 1000) : DCall Try.prog 145 [dI n] [] (dIs false (kindsL n)) [] := by
 refine DCall.of Try.func145 sf145 hb145 (Nat.le_of_ble_eq_true rfl) (okRes_nil fun _ => rfl) ?_; simp only [s145, idxs, Nat.reduceAdd]
 repeat' (first|(with_reducible first|apply qA|apply qB|apply qC|apply qD|apply qE|apply qF)|(simp (disch:=omega) only [go_sem, simprocAttr, Blk.men, Blk.keysIn])|exact qM rfl rfl rfl|(refine qG rfl ?_)|(refine qH rfl ?_)|(refine qI rfl ?_ ?_<;>intro hc<;>(try simp only [go_sem] at hc))|(refine qJ ?_ ?_<;>intro hc<;>(try simp only [hc])<;>(try simp only [go_sem] at hc)))
 refine DW.loop (ι := { i : Nat // i ≤ n }) (fun i => ⟨13, [(6, dI i.1), (5, dI n), (3, .own 4)], [(4, .row 1 (rowC (rows eI (kindsL i.1))))]⟩) (fun i => n - i.1) ⟨0, Nat.zero_le _⟩ ?_ ?_
 ·refine Ent.to ?_ ?_ <;> simp (disch:=omega) only [qR,qS,qTw,qU,get,Nat.reduceEqDiff,↓reduceIte,qV,qW,qX,qY,qZ,and_self,dI,i64_in,and_true,true_and,rA,rB,rC,rD]
  exact .refl _
 rintro ⟨i, hi⟩
 rcases Nat.lt_or_ge i n with hlt | hge
 ·have hd : decide ((i : Int) < (n : Int)) = true := by rw [decide_eq_true_eq]; omega
  have hl := kindsL_len i
  have hs : kindsL (i + 1) = kindsL i ++ [2, 1] := rfl
  generalize kindsL i = k at *
  repeat' (first|(with_reducible first|apply qA|apply qB|apply qC|apply qD|apply qE|apply qF)|(simp (disch:=omega) only [go_sem, simprocAttr, Blk.men, Blk.keysIn, hd, snoc2])|exact qM rfl rfl rfl|(refine qG rfl ?_)|(refine qH rfl ?_)|(refine qI rfl ?_ ?_<;>intro hc<;>(try simp only [go_sem] at hc))|(refine qJ ?_ ?_<;>intro hc<;>(try simp only [hc])<;>(try simp only [go_sem] at hc)))
  refine ⟨⟨i + 1, hlt⟩, ?_, Ent.to ?_ ?_⟩ <;> first | (show _ < _; (try simp only); omega) | (simp (disch:=omega) only [qR,qS,qTw,qU,get,Nat.reduceEqDiff,↓reduceIte,qV,qW,qX,qY,qZ,and_self,dI,i64_in,and_true,true_and,rA,rB,rC,rD, hs])
  all_goals exact .refl _
 ·obtain rfl : i = n := by omega
  have hd : decide ((i : Int) < (i : Int)) = false := by rw [decide_eq_false_iff_not]; omega
  repeat' (first|(with_reducible first|apply qA|apply qB|apply qC|apply qD|apply qE|apply qF)|(simp (disch:=omega) only [go_sem, simprocAttr, Blk.men, Blk.keysIn, hd])|exact qM rfl rfl rfl|(refine qG rfl ?_)|(refine qH rfl ?_)|(refine qI rfl ?_ ?_<;>intro hc<;>(try simp only [go_sem] at hc))|(refine qJ ?_ ?_<;>intro hc<;>(try simp only [hc])<;>(try simp only [go_sem] at hc)))
  (refine retS_ent (Ent.rel 4 rfl) ?_; simp (disch:=omega) only [go_sem,simprocAttr,Blk.men,Blk.keysIn])
  refine retS_wk rfl ?_ (by simp only [Blk.nb, rowC_nb, D.nb, D.nbs, C.nb, C.nbs, C.nbss, rows_nb eI_nb, Bool.and_true, Bool.not_false, Bool.and_self, bD, dI, iD, rows_nb eP_nb, rows_nb eF_nb]); exact .refl _
end Go.Dw.Seat
end
