/- The law TopQuotePallets returns true for every input, and changes nothing that was there before: the full statement TopQuotePalletsSaid, without conditions. -/
import Derived.Test.YtkkbfndajnmhmaaC01
import Derived.Test.YtkkbfndajnmhmaaRows
import Derived.ProofKit
import Derived.OpenShut
set_option linter.unusedVariables false
set_option linter.unusedSimpArgs false
section
set_option linter.unusedSimpArgs false
set_option maxRecDepth 100000
namespace Go.Dw.Seat
open Go Go.Dw Go.Proofs Go.IntWalk
def gStep (st v : Nat) (box : Int) (z : Nat) (step : Int) (now : Bool) (c : Cause) : Bool :=
 if c.noz = z ∧ c.frm ≤ box then
  (if c.kind = 1 then false else if c.kind = 2 then now || toldN st v (step - 1) else if c.kind = 3 then now && toldN st v (step - 1) else if c.kind = 4 then now && (box.tmod 2 == 0) else now)
 else now
def givesL (st v : Nat) (s : List Cause) (box : Int) (z : Nat) (step : Int) : Bool := s.foldl (gStep st v box z step) (toldN st v step)
end Go.Dw.Seat
end
section
set_option linter.unusedSimpArgs false
set_option maxRecDepth 100000
namespace Go.Dw.Seat
open Go Go.Dw Go.Proofs Go.IntWalk
def fitsL (st : Nat) (noz : List Nat) (s : List Cause) (l : Look) : Bool := givesL st (noz.getD l.noz.toNat 0) s l.box l.noz.toNat l.step == l.glue
end Go.Dw.Seat
end
section
set_option linter.unusedSimpArgs false
set_option maxRecDepth 100000
namespace Go.Dw.Seat
open Go Go.Dw Go.Proofs Go.IntWalk
section
variable {α : Type} {p : α → Bool}
structure Del (p : α → Bool) (l : List α) (j : Nat) (cur : List α) : Prop where
 le : j ≤ l.length
 len : cur.length = l.length
 lt : ((l.take j).filter (fun x => !p x)).length < j
 tk : cur.take ((l.take j).filter (fun x => !p x)).length = (l.take j).filter (fun x => !p x)
 dr : cur.drop j = l.drop j
theorem Del.get {l : List α} {j : Nat} {cur : List α} (h : Del p l j cur) : cur[j]? = l[j]? := by
 have h1 : (cur.drop j)[0]? = (l.drop j)[0]? := by rw [h.dr]
 simpa using h1
theorem Del.skip {l : List α} {j : Nat} {cur : List α} {v : α} (h : Del p l j cur) (hv : l[j]? = some v) (hp : p v = true) : Del p l (j + 1) cur ∧ ((l.take (j + 1)).filter (fun x => !p x)).length = ((l.take j).filter (fun x => !p x)).length := by
 have e : (l.take (j + 1)).filter (fun x => !p x) = (l.take j).filter (fun x => !p x) := by rw [List.take_add_one, hv, List.filter_append]; simp [hp]
 have hlt : j < l.length := by
  rcases Nat.lt_or_ge j l.length with h | h
  ·exact h
  ·rw [List.getElem?_eq_none h] at hv; cases hv
 refine ⟨⟨hlt, h.len, by have := h.lt; rw [e]; omega, by rw [e]; exact h.tk, ?_⟩, by rw [e]⟩
 have := congrArg (List.drop 1) h.dr
 simpa [List.drop_drop] using this
theorem Del.keep {l : List α} {j : Nat} {cur : List α} {v : α} (h : Del p l j cur) (hv : l[j]? = some v) (hp : p v = false) : Del p l (j + 1) (cur.set ((l.take j).filter (fun x => !p x)).length v) ∧ ((l.take (j + 1)).filter (fun x => !p x)).length = ((l.take j).filter (fun x => !p x)).length + 1 := by
 have e : (l.take (j + 1)).filter (fun x => !p x) = (l.take j).filter (fun x => !p x) ++ [v] := by rw [List.take_add_one, hv, List.filter_append]; simp [hp]
 have hlt : j < l.length := by
  rcases Nat.lt_or_ge j l.length with h | h
  ·exact h
  ·rw [List.getElem?_eq_none h] at hv; cases hv
 have h1 := h.lt
 have h2 := h.len
 have h3 := h.tk
 generalize (l.take j).filter (fun x => !p x) = f at *
 refine ⟨⟨hlt, by simp [h2], by rw [e]; simp; omega, ?_, ?_⟩, by rw [e]; simp⟩
 ·rw [e]
  simp only [List.length_append, List.length_cons, List.length_nil]
  rw [List.take_add_one, List.take_set_of_le (Nat.le_refl _), h3, List.getElem?_set_self (by omega)]
  rfl
 ·rw [List.drop_set_of_lt (by omega)]
  have := congrArg (List.drop 1) h.dr
  simpa [List.drop_drop] using this
theorem Del.fin {l : List α} {cur : List α} (h : Del p l l.length cur) : cur.take (l.filter (fun x => !p x)).length = l.filter (fun x => !p x) ∧ (l.filter (fun x => !p x)).length ≤ cur.length := by
 have h1 := h.tk
 have h2 := h.lt
 rw [List.take_length] at h1 h2
 exact ⟨h1, by rw [h.len]; omega⟩
end
end Go.Dw.Seat
end
section
set_option linter.unusedSimpArgs false
set_option maxRecDepth 100000
namespace Go.Dw.Seat
open Go Go.Dw Go.Proofs Go.IntWalk
def dupAt : List Int → Nat → Option Nat
 | a :: b :: l, k => if b = a then some (k + 1) else dupAt (b :: l) (k + 1)
 | _, _ => none
def keptTo (s : List Int) (m : Nat) : List Int := (((s.tail.zip s).take m).filter fun q => decide (q.1 ≠ q.2)).map (·.1)
def cpt (l : List Int) : List Int := match dupAt l 0 with
 | none => l
 | some k => l.take k ++ keptTo (l.drop k) ((l.drop k).length - 1)
theorem keptTo_len (s : List Int) (m : Nat) : (keptTo s m).length ≤ m := by
 simp only [keptTo, List.length_map]
 refine Nat.le_trans (List.length_filter_le _ _) ?_
 rw [List.length_take]; omega
theorem keptTo_succ {s : List Int} {m : Nat} {a b : Int} (ha : s[m]? = some a) (hb : s[m + 1]? = some b) : keptTo s (m + 1) = keptTo s m ++ if b = a then [] else [b] := by
 have hz : (s.tail.zip s)[m]? = some (b, a) := by
  rw [List.getElem?_zip_eq_some]
  exact ⟨by rw [List.getElem?_tail]; exact hb, ha⟩
 simp only [keptTo, List.take_add_one, hz, List.filter_append, List.map_append, Option.toList_some]
 congr 1
 by_cases h : b = a <;> simp [h]
structure Cp (l : List Int) (K m : Nat) (cur : List Int) : Prop where
 le : K + m + 1 ≤ l.length
 len : cur.length = l.length
 tk : cur.take (K + (keptTo (l.drop K) m).length) = l.take K ++ keptTo (l.drop K) m
 dr : cur.drop (K + m) = l.drop (K + m)
theorem Cp.step {l : List Int} {K m : Nat} {cur : List Int} {a b : Int} (h : Cp l K m cur) (hlt : K + m + 1 < l.length) (ha : l[K + m]? = some a) (hb : l[K + m + 1]? = some b) :
  (b = a → Cp l K (m + 1) cur ∧ (keptTo (l.drop K) (m + 1)).length = (keptTo (l.drop K) m).length) ∧
  (b ≠ a → Cp l K (m + 1) (cur.set (K + (keptTo (l.drop K) m).length) b) ∧ (keptTo (l.drop K) (m + 1)).length = (keptTo (l.drop K) m).length + 1) := by
 have hk := keptTo_succ (s := l.drop K) (m := m) (a := a) (b := b) (by rw [List.getElem?_drop]; exact ha) (by rw [List.getElem?_drop]; exact hb)
 have h1 := keptTo_len (l.drop K) m
 have h2 := h.tk
 have h3 := h.len
 have h4 : cur.drop (K + (m + 1)) = l.drop (K + (m + 1)) := by
  have := congrArg (List.drop 1) h.dr
  simpa [List.drop_drop, Nat.add_assoc] using this
 generalize keptTo (l.drop K) m = f at *
 constructor
 ·intro hba
  rw [if_pos hba, List.append_nil] at hk
  exact ⟨⟨by omega, h3, by rw [hk]; exact h2, h4⟩, by rw [hk]⟩
 ·intro hba
  rw [if_neg hba] at hk
  refine ⟨⟨by omega, by simp [h3], ?_, ?_⟩, by rw [hk]; simp⟩
  ·rw [hk]
   simp only [List.length_append, List.length_cons, List.length_nil, ← Nat.add_assoc]
   rw [List.take_add_one, List.take_set_of_le (Nat.le_refl _), h2, List.getElem?_set_self (by omega), List.append_assoc]
   rfl
  ·rw [List.drop_set_of_lt (by omega)]
   exact h4
theorem Cp.fin {l : List Int} {K m : Nat} {cur : List Int} (h : Cp l K m cur) (hm : m + 1 = (l.drop K).length) (hd : dupAt l 0 = some K) : cur.take (K + (keptTo (l.drop K) m).length) = cpt l := by
 unfold cpt
 rw [hd, h.tk]
 dsimp only
 rw [← hm, Nat.add_sub_cancel]
end Go.Dw.Seat
end
section
set_option linter.unusedSimpArgs false
set_option maxRecDepth 100000
namespace Go.Dw.Seat
open Go Go.Dw Go.Proofs Go.IntWalk
structure Spot where
 box : Nat
 noz : Nat
 step : Nat
def enSpot (s : Spot) : List D := [.agg [dI s.box, dI s.noz, dI s.step]]
end Go.Dw.Seat
end
section
set_option linter.unusedSimpArgs false
set_option maxRecDepth 100000
namespace Go.Dw.Seat
open Go Go.Dw Go.Proofs Go.IntWalk
attribute [go_sem] enSpot
end Go.Dw.Seat
end
section
set_option linter.unusedSimpArgs false
set_option maxRecDepth 100000
namespace Go.Dw.Seat
open Go Go.Dw Go.Proofs Go.IntWalk
def eGb (b : Bool) (s : List Int) : List C := [.sl b 1 (rows eI s)]
attribute [go_sem] eGb
end Go.Dw.Seat
end
section
set_option linter.unusedSimpArgs false
set_option maxRecDepth 100000
namespace Go.Dw.Seat.Pa
open Go Go.Dw Go.Proofs Go.IntWalk
theorem stack_stands {b : Lod} (h : b.ok) {t : List (Int × Int)} {d : Int} (ht : TabOk t d) (n : Nat) (hn : n ≤ 50) (hh : 1 ≤ (n : Int) → (n : Int) ≤ highI b t d) : (fallR (List.replicate n b) d t).2.2 = 7 := by
 cases n with
 | zero =>
  unfold fallR
  rw [(fall_iff (rep_ok h 0) ht).2 (failN_rep0 _ b)]
 | succ n => exact (stack_law h ht ht n (by omega) (by have := hh (by omega); omega)).1
theorem tm20 (m : Nat) : (m : Int).tmod 20 = ((m % 20 : Nat) : Int) := tmodN m 20
end Go.Dw.Seat.Pa
end
section
set_option linter.unusedSimpArgs false
set_option maxRecDepth 100000
namespace Go.Dw.Seat
open Go Go.Dw Go.Proofs Go.IntWalk
theorem prW1 (n lo hi : Int) (p q : Bool) : DCall Try.prog 185 [dI n, .c (.ro p [.v (.int .i64 lo)] 0), .c (.ro q [.v (.int .i64 hi)] 0)] [] (bD (decide (n < lo) || decide (hi < n))) [] := by
 refine DCall.of Try.func185 sf185 hb185 (Nat.le_of_ble_eq_true rfl) (okRes_nil fun _ => rfl) ?_; simp only [s185, idxs, Nat.reduceAdd]
 repeat' (first|(with_reducible first|apply qA|apply qB|apply qC|apply qD|apply qE|apply qF)|(simp (disch:=omega) only [go_sem, simprocAttr, Blk.men, Blk.keysIn])|exact qM rfl rfl rfl|(refine qG rfl ?_)|(refine qH rfl ?_)|(refine qI rfl ?_ ?_<;>intro hc<;>(try simp only [go_sem] at hc))|(refine qJ ?_ ?_<;>intro hc<;>(try simp only [hc])<;>(try simp only [go_sem] at hc)))
theorem prWithin (b : Bool) (lo hi : Int) (l : List Int) (hl : l.length ≤ 2 ^ 36) : DCall Try.prog 165 [dI lo, dI hi, dIs b l] [] (bD (wthn lo hi l)) [] := by
 refine DCall.of Try.func165 sf165 hb165 (Nat.le_of_ble_eq_true rfl) (okRes_nil fun _ => rfl) ?_; simp only [s165, idxs, Nat.reduceAdd]
 repeat' (first|(with_reducible first|apply qA|apply qB|apply qC|apply qD|apply qE|apply qF)|(simp (disch:=omega) only [go_sem, simprocAttr, Blk.men, Blk.keysIn])|exact qM rfl rfl rfl|(refine qG rfl ?_)|(refine qH rfl ?_)|(refine qI rfl ?_ ?_<;>intro hc<;>(try simp only [go_sem] at hc))|(refine qJ ?_ ?_<;>intro hc<;>(try simp only [hc])<;>(try simp only [go_sem] at hc)))
 (refine call_c (c110 b l hl 185 [] [.ro true [.v (.int .i64 lo)] 0, .ro true [.v (.int .i64 hi)] 0] (fun n => decide (n < lo) || decide (hi < n)) (fun x _ => prW1 x lo hi true true)) (by decide) ?_; simp (disch:=omega) only [go_sem,simprocAttr,Blk.men,Blk.keysIn])
 repeat' (first|(with_reducible first|apply qA|apply qB|apply qC|apply qD|apply qE|apply qF)|(simp (disch:=omega) only [go_sem, simprocAttr, Blk.men, Blk.keysIn])|exact qM rfl rfl rfl|(refine qG rfl ?_)|(refine qH rfl ?_)|(refine qI rfl ?_ ?_<;>intro hc<;>(try simp only [go_sem] at hc))|(refine qJ ?_ ?_<;>intro hc<;>(try simp only [hc])<;>(try simp only [go_sem] at hc)))
theorem prCount (b : Bool) (l : List Int) (hl : l.length ≤ 2 ^ 36) : DCall Try.prog 112 [dIs b l] [] (bD (wthn 1 100000 l)) [] := by
 refine DCall.of Try.func112 sf112 hb112 (Nat.le_of_ble_eq_true rfl) (okRes_nil fun _ => rfl) ?_; simp only [s112, idxs, Nat.reduceAdd]
 repeat' (first|(with_reducible first|apply qA|apply qB|apply qC|apply qD|apply qE|apply qF)|(simp (disch:=omega) only [go_sem, simprocAttr, Blk.men, Blk.keysIn])|exact qM rfl rfl rfl|(refine qG rfl ?_)|(refine qK (prWithin b 1 100000 l hl) (by decide) ?_)|(refine qH rfl ?_)|(refine qI rfl ?_ ?_<;>intro hc<;>(try simp only [go_sem] at hc))|(refine qJ ?_ ?_<;>intro hc<;>(try simp only [hc])<;>(try simp only [go_sem] at hc)))
theorem wthn_ok {lo hi : Int} {l : List Int} (h : ∀ v ∈ l, lo ≤ v ∧ v ≤ hi) : wthn lo hi l = true := by
 simp only [wthn, Bool.not_eq_true', List.any_eq_false, Bool.or_eq_true, decide_eq_true_eq]
 intro v hv
 have := h v hv
 omega
def eT (t : Int × Int) : List C := [.v (.int .i64 t.1), .v (.int .i64 t.2)]
theorem eT_nb (v : Int × Int) : C.nbs (eT v) = true := rfl
attribute [go_sem] eT
structure Quote where
 area : Int
 board : Int
 waste : Int
 tool : Int
 setup : Int
 run : Int
 work : Int
 pallet : Int
 freight : Int
 margin : Int
 steps : List (Int × Int)
abbrev dQ (b : Bool) (q : Quote) : D := .agg [dI q.area, dI q.board, dI q.waste, dI q.tool, dI q.setup, dI q.run, dI q.work, dI q.pallet, dI q.freight, dI q.margin, .c (.sl b 2 (rows eT q.steps))]
attribute [go_sem] dQ
structure Quote.ok (q : Quote) : Prop where
 area : 1 ≤ q.area ∧ q.area ≤ 100000
 board : 0 ≤ q.board ∧ q.board ≤ 100000
 waste : 0 ≤ q.waste ∧ q.waste ≤ 500
 tool : 0 ≤ q.tool ∧ q.tool ≤ 1000000
 setup : 0 ≤ q.setup ∧ q.setup ≤ 1000000
 run : 1 ≤ q.run ∧ q.run ≤ 100000
 work : 0 ≤ q.work ∧ q.work ≤ 1000000
 pallet : 1 ≤ q.pallet ∧ q.pallet ≤ 100000
 freight : 0 ≤ q.freight ∧ q.freight ≤ 1000000
 margin : 0 ≤ q.margin ∧ q.margin ≤ 1000
 len : q.steps.length ≤ 6
 steps : ∀ s ∈ q.steps, (1 ≤ s.1 ∧ s.1 ≤ 100000) ∧ (0 ≤ s.2 ∧ s.2 ≤ 900)
 asc : q.steps.Pairwise (fun a b => a.1 < b.1)
theorem prOpen1 (s : Int × Int) (h : (1 ≤ s.1 ∧ s.1 ≤ 100000) ∧ (0 ≤ s.2 ∧ s.2 ≤ 900)) : DCall Try.prog 164 [.agg ((eT s).map D.c)] [] (bD false) [] := by
 have h1 := prCount true [s.1] (by simp)
 have h2 := prWithin true 0 900 [s.2] (by simp)
 rw [wthn_ok (by simpa using h.1)] at h1
 rw [wthn_ok (by simpa using h.2)] at h2
 refine DCall.of Try.func164 sf164 hb164 (Nat.le_of_ble_eq_true rfl) (okRes_nil fun _ => rfl) ?_; simp only [s164, idxs, Nat.reduceAdd]
 repeat' (first|(with_reducible first|apply qA|apply qB|apply qC|apply qD|apply qE|apply qF)|(simp (disch:=omega) only [go_sem, simprocAttr, Blk.men, Blk.keysIn, rF, rG])|exact qM rfl rfl rfl|(refine qG rfl ?_)|(refine qK (h1) (by decide) ?_)|(refine qK (h2) (by decide) ?_)|(refine qH rfl ?_)|(refine qI rfl ?_ ?_<;>intro hc<;>(try simp only [go_sem] at hc))|(refine qJ ?_ ?_<;>intro hc<;>(try simp only [hc])<;>(try simp only [go_sem] at hc)))
theorem prOpen2 (a b : Int × Int) : DCall Try.prog 167 [.agg ((eT a).map D.c), .agg ((eT b).map D.c)] [] (dI (if a.1 ≤ b.1 then -1 else 1)) [] := by
 by_cases h : a.1 ≤ b.1
 ·have hd : decide (a.1 ≤ b.1) = true := decide_eq_true h
  rw [if_pos h]
  refine DCall.of Try.func167 sf167 hb167 (Nat.le_of_ble_eq_true rfl) (okRes_nil fun _ => rfl) ?_; simp only [s167, idxs, Nat.reduceAdd]
  repeat' (first|(with_reducible first|apply qA|apply qB|apply qC|apply qD|apply qE|apply qF)|(simp (disch:=omega) only [go_sem, simprocAttr, Blk.men, Blk.keysIn, rF, rG, hd])|exact qM rfl rfl rfl|(refine qG rfl ?_)|(refine qH rfl ?_)|(refine qI rfl ?_ ?_<;>intro hc<;>(try simp only [go_sem] at hc))|(refine qJ ?_ ?_<;>intro hc<;>(try simp only [hc])<;>(try simp only [go_sem] at hc)))
 ·have hd : decide (a.1 ≤ b.1) = false := decide_eq_false h
  rw [if_neg h]
  refine DCall.of Try.func167 sf167 hb167 (Nat.le_of_ble_eq_true rfl) (okRes_nil fun _ => rfl) ?_; simp only [s167, idxs, Nat.reduceAdd]
  repeat' (first|(with_reducible first|apply qA|apply qB|apply qC|apply qD|apply qE|apply qF)|(simp (disch:=omega) only [go_sem, simprocAttr, Blk.men, Blk.keysIn, rF, rG, hd])|exact qM rfl rfl rfl|(refine qG rfl ?_)|(refine qH rfl ?_)|(refine qI rfl ?_ ?_<;>intro hc<;>(try simp only [go_sem] at hc))|(refine qJ ?_ ?_<;>intro hc<;>(try simp only [hc])<;>(try simp only [go_sem] at hc)))
theorem prIdx (b : Bool) (l : List (Int × Int)) (hl : l.length ≤ 2 ^ 36) (g : FuncId) (hp : ∀ x ∈ l, DCall Try.prog g [.agg ((eT x).map D.c)] [] (bD false) []) : DCall Try.prog 186 [.c (.sl b 2 (rows eT l)), .c (.fn (.func g) [] [])] [] (dI (-1)) [] := by
 refine DCall.of Try.func186 sf186 hb186 (Nat.le_of_ble_eq_true rfl) (okRes_nil fun _ => rfl) ?_; simp only [s186, idxs, Nat.reduceAdd]
 repeat' (first|(with_reducible first|apply qA|apply qB|apply qC|apply qD|apply qE|apply qF)|(simp (disch:=omega) only [go_sem, simprocAttr, Blk.men, Blk.keysIn])|exact qM rfl rfl rfl|(refine qG rfl ?_)|(refine qH rfl ?_)|(refine qI rfl ?_ ?_<;>intro hc<;>(try simp only [go_sem] at hc))|(refine qJ ?_ ?_<;>intro hc<;>(try simp only [hc])<;>(try simp only [go_sem] at hc)))
 refine DW.loop (ι := { i : Nat // i ≤ l.length }) (fun i => ⟨19, [(8, dI i.1), (7, dI l.length), (1, .c (.fn (.func g) [] [])), (0, .c (.sl b 2 (rows eT l)))], []⟩) (fun i => l.length - i.1) ⟨0, Nat.zero_le _⟩ ?_ ?_
 ·refine Ent.to ?_ ?_ <;> simp (disch:=omega) only [qR,qS,qTw,qU,get,Nat.reduceEqDiff,↓reduceIte,qV,qW,qX,qY,qZ,and_self,dI,i64_in,and_true,true_and,rA,rB,rC,rD]
 rintro ⟨i, hi⟩
 rcases at_or l i hi with ⟨v, hv, hlt, hd⟩ | ⟨he, hd⟩
 ·have hcall := hp v (List.mem_of_getElem? hv)
  repeat' (first|(with_reducible first|apply qA|apply qB|apply qC|apply qD|apply qE|apply qF)|(simp (disch:=omega) only [go_sem, simprocAttr, Blk.men, Blk.keysIn, hd, hv, closeDs_fn, rF, rG])|exact qM rfl rfl rfl|(refine qG rfl ?_)|(refine qH rfl ?_)|(refine qI rfl ?_ ?_<;>intro hc<;>(try simp only [go_sem] at hc))|(refine qJ ?_ ?_<;>intro hc<;>(try simp only [hc])<;>(try simp only [go_sem] at hc)))
  refine call_c hcall (by decide) ?_
  simp (disch:=omega) only [go_sem,simprocAttr,Blk.men,Blk.keysIn]
  repeat' (first|(with_reducible first|apply qA|apply qB|apply qC|apply qD|apply qE|apply qF)|(simp (disch:=omega) only [go_sem, simprocAttr, Blk.men, Blk.keysIn])|exact qM rfl rfl rfl|(refine qG rfl ?_)|(refine qH rfl ?_)|(refine qI rfl ?_ ?_<;>intro hc<;>(try simp only [go_sem] at hc))|(refine qJ ?_ ?_<;>intro hc<;>(try simp only [hc])<;>(try simp only [go_sem] at hc)))
  refine ⟨⟨i + 1, hlt⟩, ?_, Ent.to ?_ ?_⟩ <;> first | (show _ < _; (try simp only); omega) | (simp (disch:=omega) only [qR,qS,qTw,qU,get,Nat.reduceEqDiff,↓reduceIte,qV,qW,qX,qY,qZ,and_self,dI,i64_in,and_true,true_and,rA,rB,rC,rD])
 ·repeat' (first|(with_reducible first|apply qA|apply qB|apply qC|apply qD|apply qE|apply qF)|(simp (disch:=omega) only [go_sem, simprocAttr, Blk.men, Blk.keysIn, hd])|exact qM rfl rfl rfl|(refine qG rfl ?_)|(refine qH rfl ?_)|(refine qI rfl ?_ ?_<;>intro hc<;>(try simp only [go_sem] at hc))|(refine qJ ?_ ?_<;>intro hc<;>(try simp only [hc])<;>(try simp only [go_sem] at hc)))
theorem prContains (b : Bool) (l : List (Int × Int)) (hl : l.length ≤ 2 ^ 36) (g : FuncId) (hp : ∀ x ∈ l, DCall Try.prog g [.agg ((eT x).map D.c)] [] (bD false) []) : DCall Try.prog 168 [.c (.sl b 2 (rows eT l)), .c (.fn (.func g) [] [])] [] (bD false) [] := by
 refine DCall.of Try.func168 sf168 hb168 (Nat.le_of_ble_eq_true rfl) (okRes_nil fun _ => rfl) ?_; simp only [s168, idxs, Nat.reduceAdd]
 repeat' (first|(with_reducible first|apply qA|apply qB|apply qC|apply qD|apply qE|apply qF)|(simp (disch:=omega) only [go_sem, simprocAttr, Blk.men, Blk.keysIn])|exact qM rfl rfl rfl|(refine qG rfl ?_)|(refine qH rfl ?_)|(refine qI rfl ?_ ?_<;>intro hc<;>(try simp only [go_sem] at hc))|(refine qJ ?_ ?_<;>intro hc<;>(try simp only [hc])<;>(try simp only [go_sem] at hc)))
 (refine call_c (prIdx b l hl g hp) (by decide) ?_; simp (disch:=omega) only [go_sem,simprocAttr,Blk.men,Blk.keysIn])
 repeat' (first|(with_reducible first|apply qA|apply qB|apply qC|apply qD|apply qE|apply qF)|(simp (disch:=omega) only [go_sem, simprocAttr, Blk.men, Blk.keysIn])|exact qM rfl rfl rfl|(refine qG rfl ?_)|(refine qH rfl ?_)|(refine qI rfl ?_ ?_<;>intro hc<;>(try simp only [go_sem] at hc))|(refine qJ ?_ ?_<;>intro hc<;>(try simp only [hc])<;>(try simp only [go_sem] at hc)))
theorem prSorted (b : Bool) (l : List (Int × Int)) (hl : l.length ≤ 2 ^ 36) (ha : l.Pairwise (fun a b => a.1 < b.1)) : DCall Try.prog 166 [.c (.sl b 2 (rows eT l)), .c (.fn (.func 167) [] [])] [] (bD true) [] := by
 refine DCall.of Try.func166 sf166 hb166 (Nat.le_of_ble_eq_true rfl) (okRes_nil fun _ => rfl) ?_; simp only [s166, idxs, Nat.reduceAdd]
 repeat' (first|(with_reducible first|apply qA|apply qB|apply qC|apply qD|apply qE|apply qF)|(refine qL rfl (WF.of ?_) ?_; first|rfl|skip)|(simp (disch:=omega) only [go_sem, simprocAttr, Blk.men, Blk.keysIn])|exact qM rfl rfl rfl|(refine qG rfl ?_)|(refine qH rfl ?_)|(refine qI rfl ?_ ?_<;>intro hc<;>(try simp only [go_sem] at hc))|(refine qJ ?_ ?_<;>intro hc<;>(try simp only [hc])<;>(try simp only [go_sem] at hc)))
 refine DW.loop (ι := { i : Nat // i ≤ l.length }) (fun i => ⟨25, [(5, dI ((i.1 : Int) - 1)), (1, .c (.fn (.func 167) [] [])), (0, .c (.sl b 2 (rows eT l)))], []⟩) (fun i => i.1) ⟨l.length, Nat.le_refl _⟩ ?_ ?_
 ·refine Ent.to ?_ ?_ <;> simp (disch:=omega) only [qR,qS,qTw,qU,get,Nat.reduceEqDiff,↓reduceIte,qV,qW,qX,qY,qZ,and_self,dI,i64_in,and_true,true_and,rA,rB,rC,rD]
 rintro ⟨i, hi⟩
 dsimp only
 rcases Nat.lt_or_ge 1 i with h1 | h1
 ·obtain ⟨j, rfl⟩ : ∃ j, i = j + 2 := ⟨i - 2, by omega⟩
  have hd : decide ((0 : Int) < ((j + 2 : Nat) : Int) - 1) = true := by rw [decide_eq_true_eq]; omega
  have e1 : ((j + 2 : Nat) : Int) - 1 = ((j + 1 : Nat) : Int) := by omega
  have e2 : ((j + 1 : Nat) : Int) - 1 = ((j : Nat) : Int) := by omega
  obtain ⟨v, hv⟩ := getE (l := l) (i := j + 1) (by omega)
  obtain ⟨u, hu⟩ := getE (l := l) (i := j) (by omega)
  have hlt : u.1 < v.1 := by
   have := List.pairwise_iff_getElem.1 ha j (j + 1) (by omega) (by omega) (by omega)
   rw [List.getElem?_eq_some_iff] at hu hv
   obtain ⟨_, rfl⟩ := hu
   obtain ⟨_, rfl⟩ := hv
   exact this
  have hcall := prOpen2 v u
  rw [if_neg (by omega)] at hcall
  have hd' : decide ((0 : Int) < ((j + 1 : Nat) : Int)) = true := by rw [decide_eq_true_eq]; omega
  rw [e1]
  repeat' (first|(with_reducible first|apply qA|apply qB|apply qC|apply qD|apply qE|apply qF)|(refine qL rfl (WF.of ?_) ?_; first|rfl|skip)|(simp (disch:=omega) only [go_sem, simprocAttr, Blk.men, Blk.keysIn, hd', e2, hv, hu, closeDs_fn, rF, rG])|exact qM rfl rfl rfl|(refine qG rfl ?_)|(refine qH rfl ?_)|(refine qI rfl ?_ ?_<;>intro hc<;>(try simp only [go_sem] at hc))|(refine qJ ?_ ?_<;>intro hc<;>(try simp only [hc])<;>(try simp only [go_sem] at hc)))
  refine call_c hcall (by decide) ?_
  simp (disch:=omega) only [go_sem,simprocAttr,Blk.men,Blk.keysIn]
  repeat' (first|(with_reducible first|apply qA|apply qB|apply qC|apply qD|apply qE|apply qF)|(refine qL rfl (WF.of ?_) ?_; first|rfl|skip)|(simp (disch:=omega) only [go_sem, simprocAttr, Blk.men, Blk.keysIn])|exact qM rfl rfl rfl|(refine qG rfl ?_)|(refine qH rfl ?_)|(refine qI rfl ?_ ?_<;>intro hc<;>(try simp only [go_sem] at hc))|(refine qJ ?_ ?_<;>intro hc<;>(try simp only [hc])<;>(try simp only [go_sem] at hc)))
  refine ⟨⟨j + 1, by omega⟩, ?_, Ent.to ?_ ?_⟩ <;> first | (show _ < _; (try simp only); omega) | (simp (disch:=omega) only [qR,qS,qTw,qU,get,Nat.reduceEqDiff,↓reduceIte,qV,qW,qX,qY,qZ,and_self,dI,i64_in,and_true,true_and,rA,rB,rC,rD])
 ·have hd : decide ((0 : Int) < (i : Int) - 1) = false := by rw [decide_eq_false_iff_not]; omega
  repeat' (first|(with_reducible first|apply qA|apply qB|apply qC|apply qD|apply qE|apply qF)|(refine qL rfl (WF.of ?_) ?_; first|rfl|skip)|(simp (disch:=omega) only [go_sem, simprocAttr, Blk.men, Blk.keysIn, hd])|exact qM rfl rfl rfl|(refine qG rfl ?_)|(refine qH rfl ?_)|(refine qI rfl ?_ ?_<;>intro hc<;>(try simp only [go_sem] at hc))|(refine qJ ?_ ?_<;>intro hc<;>(try simp only [hc])<;>(try simp only [go_sem] at hc)))
theorem prOpen (q : Quote) (h : q.ok) : DCall Try.prog 111 [dQ false q] [] (.tup [dQ false q, dI 0]) [] := by
 have h1 := prContains false q.steps (by have := h.len; omega) 164 (fun s hs => prOpen1 s (h.steps s hs))
 have h2 := prSorted false q.steps (by have := h.len; omega) h.asc
 have h3 := prWithin true 1 100000 [q.area] (by simp)
 have h4 := prWithin true 0 100000 [q.board] (by simp)
 have h5 := prWithin true 0 500 [q.waste] (by simp)
 have h6 := prWithin true 0 1000000 [q.tool, q.setup, q.work, q.freight] (by simp)
 have h7 := prCount true [q.run, q.pallet] (by simp)
 have h8 := prWithin true 0 1000 [q.margin] (by simp)
 rw [wthn_ok (by simpa using h.area)] at h3
 rw [wthn_ok (by simpa using h.board)] at h4
 rw [wthn_ok (by simpa using h.waste)] at h5
 rw [wthn_ok (by have a := h.tool; have b := h.setup; have c := h.work; have d := h.freight; simp; omega)] at h6
 rw [wthn_ok (by have a := h.run; have b := h.pallet; simp; omega)] at h7
 rw [wthn_ok (by simpa using h.margin)] at h8
 have hd : decide ((6 : Int) < (q.steps.length : Int)) = false := by have := h.len; rw [decide_eq_false_iff_not]; omega
 refine DCall.of Try.func111 sf111 hb111 (Nat.le_of_ble_eq_true rfl) (okRes_nil fun _ => rfl) ?_; simp only [s111, idxs, Nat.reduceAdd]
 repeat' (first|(with_reducible first|apply qA|apply qB|apply qC|apply qD|apply qE|apply qF)|(simp (disch:=omega) only [go_sem, simprocAttr, Blk.men, Blk.keysIn, hd])|exact qM rfl rfl rfl|(refine qG rfl ?_)|(refine qK (h1) (by decide) ?_)|(refine qK (h2) (by decide) ?_)|(refine qK (h3) (by decide) ?_)|(refine qK (h4) (by decide) ?_)|(refine qK (h5) (by decide) ?_)|(refine qK (h6) (by decide) ?_)|(refine qK (h7) (by decide) ?_)|(refine qK (h8) (by decide) ?_)|(refine qH rfl ?_)|(refine qI rfl ?_ ?_<;>intro hc<;>(try simp only [go_sem] at hc))|(refine qJ ?_ ?_<;>intro hc<;>(try simp only [hc])<;>(try simp only [go_sem] at hc)))
 refine retS_wk rfl ?_ (by simp only [Blk.nb, rowC_nb, D.nb, D.nbs, C.nb, C.nbs, C.nbss, rows_nb eI_nb, Bool.and_true, Bool.not_false, Bool.and_self, bD, dI, iD, rows_nb eT_nb]); exact .tup (.cons (.refl _) (.cons (.refl _) .nil))
end Go.Dw.Seat
end
section
set_option linter.unusedSimpArgs false
set_option maxRecDepth 100000
namespace Go.Dw.Seat
open Go Go.Dw Go.Proofs Go.IntWalk
theorem crW1 (n lo hi : Int) (p q : Bool) : DCall Try.prog 154 [dI n, .c (.ro p [.v (.int .i64 lo)] 0), .c (.ro q [.v (.int .i64 hi)] 0)] [] (bD (decide (n < lo) || decide (hi < n))) [] := by
 refine DCall.of Try.func154 sf154 hb154 (Nat.le_of_ble_eq_true rfl) (okRes_nil fun _ => rfl) ?_; simp only [s154, idxs, Nat.reduceAdd]
 repeat' (first|(with_reducible first|apply qA|apply qB|apply qC|apply qD|apply qE|apply qF)|(simp (disch:=omega) only [go_sem, simprocAttr, Blk.men, Blk.keysIn])|exact qM rfl rfl rfl|(refine qG rfl ?_)|(refine qH rfl ?_)|(refine qI rfl ?_ ?_<;>intro hc<;>(try simp only [go_sem] at hc))|(refine qJ ?_ ?_<;>intro hc<;>(try simp only [hc])<;>(try simp only [go_sem] at hc)))
theorem crWithin (b : Bool) (lo hi : Int) (l : List Int) (hl : l.length ≤ 2 ^ 36) : DCall Try.prog 94 [dI lo, dI hi, dIs b l] [] (bD (wthn lo hi l)) [] := by
 refine DCall.of Try.func94 sf94 hb94 (Nat.le_of_ble_eq_true rfl) (okRes_nil fun _ => rfl) ?_; simp only [s94, idxs, Nat.reduceAdd]
 repeat' (first|(with_reducible first|apply qA|apply qB|apply qC|apply qD|apply qE|apply qF)|(simp (disch:=omega) only [go_sem, simprocAttr, Blk.men, Blk.keysIn])|exact qM rfl rfl rfl|(refine qG rfl ?_)|(refine qH rfl ?_)|(refine qI rfl ?_ ?_<;>intro hc<;>(try simp only [go_sem] at hc))|(refine qJ ?_ ?_<;>intro hc<;>(try simp only [hc])<;>(try simp only [go_sem] at hc)))
 (refine call_c (c110 b l hl 154 [] [.ro true [.v (.int .i64 lo)] 0, .ro true [.v (.int .i64 hi)] 0] (fun n => decide (n < lo) || decide (hi < n)) (fun x _ => crW1 x lo hi true true)) (by decide) ?_; simp (disch:=omega) only [go_sem,simprocAttr,Blk.men,Blk.keysIn])
 repeat' (first|(with_reducible first|apply qA|apply qB|apply qC|apply qD|apply qE|apply qF)|(simp (disch:=omega) only [go_sem, simprocAttr, Blk.men, Blk.keysIn])|exact qM rfl rfl rfl|(refine qG rfl ?_)|(refine qH rfl ?_)|(refine qI rfl ?_ ?_<;>intro hc<;>(try simp only [go_sem] at hc))|(refine qJ ?_ ?_<;>intro hc<;>(try simp only [hc])<;>(try simp only [go_sem] at hc)))
structure CR where
 tests : Int
 mean : Int
 low : Int
 bad : Int
abbrev dCR (r : CR) : D := .agg [dI r.tests, dI r.mean, dI r.low, dI r.bad]
structure CLot where
 off : Int
 made : Int
 ws : Int
 wb : Int
 bs : Int
 bb : Int
abbrev dLot (r : CR) (l : CLot) : D := .agg [dI r.tests, dI r.mean, dI r.low, dI r.bad, dI l.off, dI l.made, dI l.ws, dI l.wb, dI l.bs, dI l.bb]
attribute [go_sem] dCR dLot
theorem wthn_yes {lo hi : Int} {l : List Int} (h : ∀ v ∈ l, lo ≤ v ∧ v ≤ hi) : wthn lo hi l = true := by
 simp only [wthn, Bool.not_eq_true', List.any_eq_false, Bool.or_eq_true, decide_eq_true_eq]
 intro v hv
 have := h v hv
 omega
def lowT (off x : Int) : Int := if 0 < x - off then x - off else 0
def highT (off x : Int) : Int := if x + off < 100000 then x + off else 100000
def CLot.after (r : CR) (l : CLot) (x : Int) : CLot :=
 ⟨l.off, l.made + 1, l.ws + lowT l.off x, if lowT l.off x < r.low then l.wb + 1 else l.wb, l.bs + highT l.off x, if highT l.off x < r.low then l.bb + 1 else l.bb⟩
structure CLot.ok (l : CLot) : Prop where
 off : 0 ≤ l.off ∧ l.off ≤ 1000
 made : 0 ≤ l.made ∧ l.made ≤ 100
 ws : 0 ≤ l.ws ∧ l.ws ≤ 100000 * l.made
 wb : 0 ≤ l.wb ∧ l.wb ≤ l.made
 bs : 0 ≤ l.bs ∧ l.bs ≤ 100000 * l.made
 bb : 0 ≤ l.bb ∧ l.bb ≤ l.made
theorem lowT_in {off x : Int} (h1 : 0 ≤ off) (h2 : 0 ≤ x ∧ x ≤ 100000) : 0 ≤ lowT off x ∧ lowT off x ≤ 100000 := by
 unfold lowT; split <;> omega
theorem highT_in {off x : Int} (h1 : 0 ≤ off) (h2 : 0 ≤ x ∧ x ≤ 100000) : 0 ≤ highT off x ∧ highT off x ≤ 100000 := by
 unfold highT; split <;> omega
theorem CLot.ok_after {r : CR} {l : CLot} {x : Int} (h : l.ok) (hm : l.made < 100) (hx : 0 ≤ x ∧ x ≤ 100000) : (l.after r x).ok := by
 have h1 := lowT_in h.off.1 hx
 have h2 := highT_in h.off.1 hx
 have h3 := h.made
 have h4 := h.ws
 have h5 := h.wb
 have h6 := h.bs
 have h7 := h.bb
 refine ⟨h.off, ?_, ?_, ?_, ?_, ?_⟩ <;> simp only [CLot.after] <;> (try split) <;> omega
theorem fold_ok (r : CR) : ∀ (rs : List Int) (l : CLot), l.ok → l.made + rs.length ≤ 100 → (∀ x ∈ rs, 0 ≤ x ∧ x ≤ 100000) → (rs.foldl (CLot.after r) l).ok
 | [], l, h, _, _ => h
 | x :: rs, l, h, h1, h2 => by
  rw [List.foldl_cons]
  rw [List.length_cons] at h1
  refine fold_ok r rs _ (CLot.ok_after h (by omega) (h2 x (by simp))) ?_ (fun y hy => h2 y (by simp [hy]))
  simp only [CLot.after]; omega
end Go.Dw.Seat
end
section
set_option linter.unusedSimpArgs false
set_option maxRecDepth 100000
namespace Go.Dw.Seat
open Go Go.Dw Go.Proofs Go.IntWalk
theorem mulB0 {a b A B : Int} (ha : 0 ≤ a ∧ a ≤ A) (hb : 0 ≤ b ∧ b ≤ B) : 0 ≤ a * b ∧ a * b ≤ A * B := by
 refine ⟨Int.mul_nonneg ha.1 hb.1, ?_⟩
 exact Int.le_trans (Int.mul_le_mul_of_nonneg_right ha.2 hb.1) (Int.mul_le_mul_of_nonneg_left hb.2 (Int.le_trans ha.1 ha.2))
end Go.Dw.Seat
end
section
set_option linter.unusedSimpArgs false
set_option maxRecDepth 100000
namespace Go.Dw.Seat
open Go Go.Dw Go.Proofs Go.IntWalk
theorem prOpenCount (q : Quote) (h : q.ok) (n : Int) (hn : 1 ≤ n ∧ n ≤ 100000) : DCall Try.prog 62 [dQ false q, dI n] [] (.tup [dQ false q, dI 0]) [] := by
 have h1 := prOpen q h
 have h2 := prCount true [n] (by simp)
 rw [wthn_ok (by simpa using hn)] at h2
 refine DCall.of Try.func62 sf62 hb62 (Nat.le_of_ble_eq_true rfl) (okRes_nil fun _ => rfl) ?_; simp only [s62, idxs, Nat.reduceAdd]
 repeat' (first|(with_reducible first|apply qA|apply qB|apply qC|apply qD|apply qE|apply qF)|(simp (disch:=omega) only [go_sem, simprocAttr, Blk.men, Blk.keysIn])|exact qM rfl rfl rfl|(refine qG rfl ?_)|(refine qK (h1) (by decide) ?_)|(refine qK (h2) (by decide) ?_)|(refine qH rfl ?_)|(refine qI rfl ?_ ?_<;>intro hc<;>(try simp only [go_sem] at hc))|(refine qJ ?_ ?_<;>intro hc<;>(try simp only [hc])<;>(try simp only [go_sem] at hc)))
 refine retS_wk rfl ?_ (by simp only [Blk.nb, rowC_nb, D.nb, D.nbs, C.nb, C.nbs, C.nbss, rows_nb eI_nb, Bool.and_true, Bool.not_false, Bool.and_self, bD, dI, iD, rows_nb eT_nb]); exact .tup (.cons (.refl _) (.cons (.refl _) .nil))
def upI (n d : Int) : Int := (n + d - 1).tdiv d
theorem upI_b {n d N : Int} (hn : 0 ≤ n ∧ n ≤ N) (hd : 1 ≤ d) : 0 ≤ upI n d ∧ upI n d ≤ N := by
 unfold upI
 rw [Int.tdiv_eq_ediv_of_nonneg (by omega)]
 refine ⟨Int.ediv_nonneg (by omega) (by omega), ?_⟩
 have h1 : n + d - 1 < (n + 1) * d := by
  rw [Int.add_mul]
  have := Int.mul_le_mul_of_nonneg_left hd hn.1
  omega
 have := Int.ediv_lt_of_lt_mul (by omega) h1
 omega
theorem prUp (n d : Int) (hn : 0 ≤ n ∧ n ≤ 4000000000000000000) (hd : 1 ≤ d ∧ d ≤ 1000000000000) : DCall Try.prog 113 [dI n, dI d] [] (dI (upI n d)) [] := by
 have hb := upI_b (N := 4000000000000000000) hn hd.1
 have h0 : (d = 0) = False := by rw [eq_iff_iff, iff_false]; omega
 unfold upI at *
 refine DCall.of Try.func113 sf113 hb113 (Nat.le_of_ble_eq_true rfl) (okRes_nil fun _ => rfl) ?_; simp only [s113, idxs, Nat.reduceAdd]
 repeat' (first|(with_reducible first|apply qA|apply qB|apply qC|apply qD|apply qE|apply qF)|(simp (disch:=omega) only [go_sem, simprocAttr, Blk.men, Blk.keysIn, h0])|exact qM rfl rfl rfl|(refine qG rfl ?_)|(refine qH rfl ?_)|(refine qI rfl ?_ ?_<;>intro hc<;>(try simp only [go_sem] at hc))|(refine qJ ?_ ?_<;>intro hc<;>(try simp only [hc])<;>(try simp only [go_sem] at hc)))
 trace_state
def offQ (n : Int) (l : List (Int × Int)) (o : Int) : Int := l.foldl (fun o s => if s.1 ≤ n then s.2 else o) o
theorem offQ_b (n : Int) (l : List (Int × Int)) (h : ∀ s ∈ l, 0 ≤ s.2 ∧ s.2 ≤ 900) : ∀ o, 0 ≤ o ∧ o ≤ 900 → 0 ≤ offQ n l o ∧ offQ n l o ≤ 900 := by
 induction l with
 | nil => exact fun o ho => ho
 | cons s t ih =>
  intro o ho
  refine ih (fun x hx => h x (by simp [hx])) _ ?_
  show 0 ≤ (if s.1 ≤ n then s.2 else o) ∧ (if s.1 ≤ n then s.2 else o) ≤ 900
  split
  ·exact h s (by simp)
  ·exact ho
theorem offQ_take (n : Int) (l : List (Int × Int)) (i : Nat) (v : Int × Int) (hv : l[i]? = some v) : offQ n (l.take (i + 1)) 0 = if v.1 ≤ n then v.2 else offQ n (l.take i) 0 := by
 rw [List.take_add_one, hv]
 simp only [offQ, Option.toList_some, List.foldl_append, List.foldl_cons, List.foldl_nil]
theorem prOff (q : Quote) (h : q.ok) (n : Int) : DCall Try.prog 115 [dQ false q, dI n] [] (dI (offQ n q.steps 0)) [] := by
 have hl : q.steps.length ≤ 2 ^ 36 := by have := h.len; omega
 have hlI : ((q.steps.length : Nat) : Int) ≤ 68719476736 := by omega
 refine DCall.of Try.func115 sf115 hb115 (Nat.le_of_ble_eq_true rfl) (okRes_nil fun _ => rfl) ?_; simp only [s115, idxs, Nat.reduceAdd]
 repeat' (first|(with_reducible first|apply qA|apply qB|apply qC|apply qD|apply qE|apply qF)|(simp (disch:=omega) only [go_sem, simprocAttr, Blk.men, Blk.keysIn])|exact qM rfl rfl rfl|(refine qG rfl ?_)|(refine qH rfl ?_)|(refine qI rfl ?_ ?_<;>intro hc<;>(try simp only [go_sem] at hc))|(refine qJ ?_ ?_<;>intro hc<;>(try simp only [hc])<;>(try simp only [go_sem] at hc)))
 refine DW.loop (ι := { i : Nat // i ≤ q.steps.length }) (fun i => ⟨23, [(11, dI i.1), (10, dI q.steps.length), (9, .c (.sl false 2 (rows eT q.steps))), (4, dI (offQ n (q.steps.take i.1) 0)), (1, dI n)], []⟩) (fun i => q.steps.length - i.1) ⟨0, Nat.zero_le _⟩ ?_ ?_
 ·refine Ent.to ?_ ?_ <;> simp (disch:=omega) only [qR,qS,qTw,qU,get,Nat.reduceEqDiff,↓reduceIte,qV,qW,qX,qY,qZ,and_self,dI,i64_in,and_true,true_and,rA,rB,rC,rD,offQ,List.take_zero,List.foldl_nil]
 rintro ⟨i, hi⟩
 rcases at_or q.steps i hi with ⟨v, hv, hlt, hd⟩ | ⟨he, hd⟩
 ·have hnx := offQ_take n q.steps i v hv
  by_cases hc : v.1 ≤ n
  ·have hcd : decide (v.1 ≤ n) = true := decide_eq_true hc
   rw [if_pos hc] at hnx
   repeat' (first|(with_reducible first|apply qA|apply qB|apply qC|apply qD|apply qE|apply qF)|(simp (disch:=omega) only [go_sem, simprocAttr, Blk.men, Blk.keysIn, hd, hv, hcd, rF, rG])|exact qM rfl rfl rfl|(refine qG rfl ?_)|(refine qH rfl ?_)|(refine qI rfl ?_ ?_<;>intro hc<;>(try simp only [go_sem] at hc))|(refine qJ ?_ ?_<;>intro hc<;>(try simp only [hc])<;>(try simp only [go_sem] at hc)))
   refine ⟨⟨i + 1, hlt⟩, ?_, Ent.to ?_ ?_⟩ <;> first | (show _ < _; (try simp only); omega) | (simp (disch:=omega) only [qR,qS,qTw,qU,get,Nat.reduceEqDiff,↓reduceIte,qV,qW,qX,qY,qZ,and_self,dI,i64_in,and_true,true_and,rA,rB,rC,rD, hnx])
  ·have hcd : decide (v.1 ≤ n) = false := decide_eq_false hc
   rw [if_neg hc] at hnx
   repeat' (first|(with_reducible first|apply qA|apply qB|apply qC|apply qD|apply qE|apply qF)|(simp (disch:=omega) only [go_sem, simprocAttr, Blk.men, Blk.keysIn, hd, hv, hcd, rF, rG])|exact qM rfl rfl rfl|(refine qG rfl ?_)|(refine qH rfl ?_)|(refine qI rfl ?_ ?_<;>intro hc<;>(try simp only [go_sem] at hc))|(refine qJ ?_ ?_<;>intro hc<;>(try simp only [hc])<;>(try simp only [go_sem] at hc)))
   refine ⟨⟨i + 1, hlt⟩, ?_, Ent.to ?_ ?_⟩ <;> first | (show _ < _; (try simp only); omega) | (simp (disch:=omega) only [qR,qS,qTw,qU,get,Nat.reduceEqDiff,↓reduceIte,qV,qW,qX,qY,qZ,and_self,dI,i64_in,and_true,true_and,rA,rB,rC,rD, hnx])
 ·repeat' (first|(with_reducible first|apply qA|apply qB|apply qC|apply qD|apply qE|apply qF)|(simp (disch:=omega) only [go_sem, simprocAttr, Blk.men, Blk.keysIn, hd])|exact qM rfl rfl rfl|(refine qG rfl ?_)|(refine qH rfl ?_)|(refine qI rfl ?_ ?_<;>intro hc<;>(try simp only [go_sem] at hc))|(refine qJ ?_ ?_<;>intro hc<;>(try simp only [hc])<;>(try simp only [go_sem] at hc)))
  refine retS_of rfl ?_ rfl; simp only [oneD, St.op, get, Nat.reduceEqDiff, ↓reduceIte, Option.getD_some, bD, dI]
  rw [he, List.take_length]
def costB (q : Quote) (n : Int) : Int := upI (n * q.area * (1000 + q.waste) * q.board) 10000000000
def costS (q : Quote) (n : Int) : Int := q.setup * upI n q.run
def costW (q : Quote) (n : Int) : Int := upI (q.work * n) 1000
def costF (q : Quote) (n : Int) : Int := q.freight * upI n q.pallet
def costQ (q : Quote) (n : Int) : Int := costB q n + q.tool + costS q n + costW q n + costF q n
def priceQ (q : Quote) (n : Int) : Int := upI (costQ q n * (1000 + q.margin) * (1000 - offQ n q.steps 0)) 1000000
abbrev dParts (q : Quote) (n : Int) : D := .agg [dI (costB q n), dI q.tool, dI (costS q n), dI (costW q n), dI (costF q n)]
structure CostB (q : Quote) (n : Int) : Prop where
 m1 : 0 ≤ n * q.area ∧ n * q.area ≤ 10000000000
 m2 : 0 ≤ n * q.area * (1000 + q.waste) ∧ n * q.area * (1000 + q.waste) ≤ 15000000000000
 m3 : 0 ≤ n * q.area * (1000 + q.waste) * q.board ∧ n * q.area * (1000 + q.waste) * q.board ≤ 1500000000000000000
 s1 : 0 ≤ upI n q.run ∧ upI n q.run ≤ 100000
 s2 : 0 ≤ costS q n ∧ costS q n ≤ 100000000000
 w1 : 0 ≤ q.work * n ∧ q.work * n ≤ 100000000000
 w2 : 0 ≤ costW q n ∧ costW q n ≤ 100000000000
 f1 : 0 ≤ upI n q.pallet ∧ upI n q.pallet ≤ 100000
 f2 : 0 ≤ costF q n ∧ costF q n ≤ 100000000000
 b2 : 0 ≤ costB q n ∧ costB q n ≤ 150000001
theorem upI_q {n d N : Int} (k : Int) (hn : 0 ≤ n ∧ n ≤ N) (hd : 1 ≤ d) (hk : N ≤ k * d) : upI n d ≤ k := by
 unfold upI
 rw [Int.tdiv_eq_ediv_of_nonneg (by omega)]
 have h1 : n + d - 1 < (k + 1) * d := by
  rw [Int.add_mul]
  omega
 have := Int.ediv_lt_of_lt_mul (by omega) h1
 omega
theorem costs (q : Quote) (h : q.ok) (n : Int) (hn : 1 ≤ n ∧ n ≤ 100000) : CostB q n := by
 have m1 := mulB0 (a := n) (b := q.area) (A := 100000) (B := 100000) (by omega) (by have := h.area; omega)
 have m2 := mulB0 (a := n * q.area) (b := 1000 + q.waste) (A := 10000000000) (B := 1500) (by omega) (by have := h.waste; omega)
 have m3 := mulB0 (a := n * q.area * (1000 + q.waste)) (b := q.board) (A := 15000000000000) (B := 100000) (by omega) (by have := h.board; omega)
 have s1 := upI_b (n := n) (d := q.run) (N := 100000) (by omega) h.run.1
 have s2 := mulB0 (a := q.setup) (b := upI n q.run) (A := 1000000) (B := 100000) h.setup s1
 have w1 := mulB0 (a := q.work) (b := n) (A := 1000000) (B := 100000) h.work (by omega)
 have w2 := upI_b (n := q.work * n) (d := 1000) (N := 100000000000) (by omega) (by decide)
 have f1 := upI_b (n := n) (d := q.pallet) (N := 100000) (by omega) h.pallet.1
 have f2 := mulB0 (a := q.freight) (b := upI n q.pallet) (A := 1000000) (B := 100000) h.freight f1
 have b2 := upI_b (n := n * q.area * (1000 + q.waste) * q.board) (d := 10000000000) (N := 1500000000000000000) (by omega) (by decide)
 have b3 := upI_q (n := n * q.area * (1000 + q.waste) * q.board) (d := 10000000000) (N := 1500000000000000000) 150000001 (by omega) (by decide) (by decide)
 exact ⟨by omega, by omega, by omega, s1, by unfold costS; omega, by omega, by unfold costW; omega, f1, by unfold costF; omega, by unfold costB; omega⟩
theorem prParts (q : Quote) (h : q.ok) (n : Int) (hn : 1 ≤ n ∧ n ≤ 100000) : DCall Try.prog 63 [dQ false q, dI n] [] (dParts q n) [] := by
 have c := costs q h n hn
 have h0 := h.area
 have h1 := h.waste
 have h2 := h.board
 have c1 := c.m1
 have c2 := c.m2
 have c3 := c.m3
 have c4 := c.s2
 have c5 := c.w1
 have c6 := c.f2
 have h3 := prUp (n * q.area * (1000 + q.waste) * q.board) 10000000000 (by omega) (by decide)
 have h4 := prUp n q.run (by omega) (by have := h.run; omega)
 have h5 := prUp (q.work * n) 1000 (by omega) (by decide)
 have h6 := prUp n q.pallet (by omega) (by have := h.pallet; omega)
 unfold dParts
 unfold costB costS costW costF at *
 refine DCall.of Try.func63 sf63 hb63 (Nat.le_of_ble_eq_true rfl) (okRes_nil fun _ => rfl) ?_; simp only [s63, idxs, Nat.reduceAdd]
 repeat' (first|(with_reducible first|apply qA|apply qB|apply qC|apply qD|apply qE|apply qF)|(refine qL rfl (WF.of ?_) ?_; first|rfl|skip)|(simp (disch:=omega) only [go_sem, simprocAttr, Blk.men, Blk.keysIn])|exact qM rfl rfl rfl|(refine qG rfl ?_)|(refine qK (h3) (by decide) ?_)|(refine qK (h4) (by decide) ?_)|(refine qK (h5) (by decide) ?_)|(refine qK (h6) (by decide) ?_)|(refine qH rfl ?_)|(refine qI rfl ?_ ?_<;>intro hc<;>(try simp only [go_sem] at hc))|(refine qJ ?_ ?_<;>intro hc<;>(try simp only [hc])<;>(try simp only [go_sem] at hc)))
theorem prCost (q : Quote) (h : q.ok) (n : Int) (hn : 1 ≤ n ∧ n ≤ 100000) : DCall Try.prog 114 [dParts q n] [] (dI (costQ q n)) [] := by
 have c := costs q h n hn
 have h3 := h.tool
 have c4 := c.s2
 have c5 := c.w2
 have c6 := c.f2
 have c7 := c.b2
 unfold dParts costQ
 refine DCall.of Try.func114 sf114 hb114 (Nat.le_of_ble_eq_true rfl) (okRes_nil fun _ => rfl) ?_; simp only [s114, idxs, Nat.reduceAdd]
 repeat' (first|(with_reducible first|apply qA|apply qB|apply qC|apply qD|apply qE|apply qF)|(simp (disch:=omega) only [go_sem, simprocAttr, Blk.men, Blk.keysIn])|exact qM rfl rfl rfl|(refine qG rfl ?_)|(refine qH rfl ?_)|(refine qI rfl ?_ ?_<;>intro hc<;>(try simp only [go_sem] at hc))|(refine qJ ?_ ?_<;>intro hc<;>(try simp only [hc])<;>(try simp only [go_sem] at hc)))
theorem costQ_b (q : Quote) (h : q.ok) (n : Int) (hn : 1 ≤ n ∧ n ≤ 100000) : 0 ≤ costQ q n ∧ costQ q n ≤ 400000000000 := by
 have c := costs q h n hn
 have h3 := h.tool
 have c4 := c.s2
 have c5 := c.w2
 have c6 := c.f2
 have c7 := c.b2
 unfold costQ
 omega
structure PriceB (q : Quote) (n : Int) : Prop where
 m1 : 0 ≤ costQ q n * (1000 + q.margin) ∧ costQ q n * (1000 + q.margin) ≤ 800000000000000
 m2 : 0 ≤ costQ q n * (1000 + q.margin) * (1000 - offQ n q.steps 0) ∧ costQ q n * (1000 + q.margin) * (1000 - offQ n q.steps 0) ≤ 800000000000000000
 off : 0 ≤ offQ n q.steps 0 ∧ offQ n q.steps 0 ≤ 900
 b : 0 ≤ priceQ q n ∧ priceQ q n ≤ 800000000001
theorem prices (q : Quote) (h : q.ok) (n : Int) (hn : 1 ≤ n ∧ n ≤ 100000) : PriceB q n := by
 have c := costQ_b q h n hn
 have m1 := mulB0 (a := costQ q n) (b := 1000 + q.margin) (A := 400000000000) (B := 2000) c (by have := h.margin; omega)
 have o := offQ_b n q.steps (fun s hs => (h.steps s hs).2) 0 (by decide)
 have m2 := mulB0 (a := costQ q n * (1000 + q.margin)) (b := 1000 - offQ n q.steps 0) (A := 800000000000000) (B := 1000) (by omega) (by omega)
 have b1 := upI_b (n := costQ q n * (1000 + q.margin) * (1000 - offQ n q.steps 0)) (d := 1000000) (N := 800000000000000000) (by omega) (by decide)
 have b2 := upI_q (n := costQ q n * (1000 + q.margin) * (1000 - offQ n q.steps 0)) (d := 1000000) (N := 800000000000000000) 800000000001 (by omega) (by decide) (by decide)
 exact ⟨by omega, by omega, o, by unfold priceQ; omega⟩
theorem prPrice (q : Quote) (h : q.ok) (n : Int) (hn : 1 ≤ n ∧ n ≤ 100000) : DCall Try.prog 64 [dQ false q, dI n] [] (dI (priceQ q n)) [] := by
 have p := prices q h n hn
 have c := costQ_b q h n hn
 have c1 := p.m1
 have c2 := p.m2
 have c3 := p.off
 have c4 := h.margin
 have h1 := prParts q h n hn
 have h2 := prCost q h n hn
 have h3 := prOff q h n
 have h4 := prUp (costQ q n * (1000 + q.margin) * (1000 - offQ n q.steps 0)) 1000000 (by omega) (by decide)
 unfold priceQ
 refine DCall.of Try.func64 sf64 hb64 (Nat.le_of_ble_eq_true rfl) (okRes_nil fun _ => rfl) ?_; simp only [s64, idxs, Nat.reduceAdd]
 repeat' (first|(with_reducible first|apply qA|apply qB|apply qC|apply qD|apply qE|apply qF)|(refine qL rfl (WF.of ?_) ?_; first|rfl|skip)|(simp (disch:=omega) only [go_sem, simprocAttr, Blk.men, Blk.keysIn])|exact qM rfl rfl rfl|(refine qG rfl ?_)|(refine qK (h1) (by decide) ?_)|(refine qK (h2) (by decide) ?_)|(refine qK (h3) (by decide) ?_)|(refine qK (h4) (by decide) ?_)|(refine qH rfl ?_)|(refine qI rfl ?_ ?_<;>intro hc<;>(try simp only [go_sem] at hc))|(refine qJ ?_ ?_<;>intro hc<;>(try simp only [hc])<;>(try simp only [go_sem] at hc)))
theorem prQuote (q : Quote) (h : q.ok) (n : Int) (hn : 1 ≤ n ∧ n ≤ 100000) : DCall Try.prog 24 [dQ false q, dI n] [] (.tup [dParts q n, dI (priceQ q n), dI 0]) [] := by
 have h1 := prOpenCount q h n hn
 have h2 := prParts q h n hn
 have h3 := prPrice q h n hn
 refine DCall.of Try.func24 sf24 hb24 (Nat.le_of_ble_eq_true rfl) (okRes_nil fun _ => rfl) ?_; simp only [s24, idxs, Nat.reduceAdd]
 repeat' (first|(with_reducible first|apply qA|apply qB|apply qC|apply qD|apply qE|apply qF)|(refine qL rfl (WF.of ?_) ?_; first|rfl|skip)|(simp (disch:=omega) only [go_sem, simprocAttr, Blk.men, Blk.keysIn])|exact qM rfl rfl rfl|(refine qG rfl ?_)|(refine qK (h1) (by decide) ?_)|(refine qK (h2) (by decide) ?_)|(refine qK (h3) (by decide) ?_)|(refine qH rfl ?_)|(refine qI rfl ?_ ?_<;>intro hc<;>(try simp only [go_sem] at hc))|(refine qJ ?_ ?_<;>intro hc<;>(try simp only [hc])<;>(try simp only [go_sem] at hc)))
end Go.Dw.Seat
end
section
set_option linter.unusedSimpArgs false
set_option maxRecDepth 100000
namespace Go.Dw.Seat
open Go Go.Dw Go.Proofs Go.IntWalk
theorem prBackward (l : List (Int × Int)) : DCall Try.prog 184 [.c (.sl false 2 (rows eT l))] [] (.fn (.func 191) [] [.c (.ro false [.sl false 2 (rows eT l)] 0)]) [] := by
 refine DCall.of Try.func184 sf184 hb184 (Nat.le_of_ble_eq_true rfl) (okRes_nil fun _ => rfl) ?_; simp only [s184, idxs, Nat.reduceAdd]
 repeat' (first|(with_reducible first|apply qA|apply qB|apply qC|apply qD|apply qE|apply qF)|(simp (disch:=omega) only [go_sem, simprocAttr, qN, qO, qP, qQ])|exact qM rfl rfl rfl|(refine qG rfl ?_)|(refine qH rfl ?_)|(refine qI rfl ?_ ?_<;>intro hc<;>(try simp only [go_sem] at hc))|(refine qJ ?_ ?_<;>intro hc<;>(try simp only [hc])<;>(try simp only [go_sem] at hc)))
 (refine retS_ent (Ent.rel 1 rfl) ?_; simp (disch:=omega) only [go_sem,simprocAttr,qN,qO,qP,qQ])
 refine retS_wk rfl ?_ (by simp only [Blk.nb, rowC_nb, D.nb, D.nbs, C.nb, C.nbs, C.nbss, rows_nb eI_nb, Bool.and_true, Bool.not_false, Bool.and_self, bD, dI, iD, rows_nb eT_nb]); exact .refl _
def backL {α : Type} (l : List α) : List (α × Nat) := l.zipIdx.reverse
theorem backL_nil {α : Type} : backL ([] : List α) = [] := rfl
theorem backL_take {α : Type} (l : List α) (i : Nat) (v : α) (hv : l[i]? = some v) : backL (l.take (i + 1)) = (v, i) :: backL (l.take i) := by
 rw [List.take_add_one, hv]
 have hlt : i < l.length := by
  rcases Nat.lt_or_ge i l.length with h | h
  ·exact h
  ·rw [List.getElem?_eq_none h] at hv; cases hv
 simp only [backL, Option.toList_some, List.zipIdx_append, List.length_take, Nat.min_eq_left (Nat.le_of_lt hlt), List.zipIdx_singleton, List.reverse_append, List.reverse_cons, List.reverse_nil, List.nil_append, List.cons_append, Nat.zero_add]
def enBack (e : (Int × Int) × Nat) : List D := [dI e.2, .agg ((eT e.1).map D.c)]
theorem prBack (l : List (Int × Int)) (hl : l.length ≤ 1000) (p : Bool) : ItD Try.prog 191 [] [.c (.ro p [.sl false 2 (rows eT l)] 0)] enBack (fun e => e.1 ∈ l) (backL l) := by
 intro ly β H stp live hW hY b0 hl0
 have hH : ∀ b, HidOk (H b) := fun b => (hW b).toHidOk
 refine DCall.of Try.func191 sf191 hb191 (Nat.le_of_ble_eq_true rfl) (hH _).res ?_
 simp only [s191, idxs, Nat.reduceAdd, List.map_nil, List.map_cons, List.nil_append, List.cons_append]
 repeat' (first|(with_reducible first|apply qA|apply qB|apply qC|apply qD|apply qE|apply qF)|(simp (disch:=omega) only [go_sem, simprocAttr, qN, qO, qP, qQ])|exact qM rfl rfl rfl|(refine qG rfl ?_)|(refine qH rfl ?_)|(refine qI rfl ?_ ?_<;>intro hc<;>(try simp only [go_sem] at hc))|(refine qJ ?_ ?_<;>intro hc<;>(try simp only [hc])<;>(try simp only [go_sem] at hc)))
 refine DW.loop (ι := { s : Nat × β // s.1 ≤ l.length ∧ live s.2 ∧ runB stp b0 (backL l) = runB stp s.2 (backL (l.take s.1)) })
  (fun s => ⟨19, [(3, dI ((s.1.1 : Int) - 1)), (0, .c (.fn (.yield ly) [] [])), (1, .c (.ro p [.sl false 2 (rows eT l)] 0))], H s.1.2⟩) (fun s => s.1.1) ⟨(l.length, b0), Nat.le_refl _, hl0, by rw [List.take_length]⟩ ?_ ?_
 ·refine Ent.toT ?_; simp (disch:=omega) only [qR,qS,qTw,qU,get,Nat.reduceEqDiff,↓reduceIte,qV,qW,qX,qY,qZ,and_self,dI,i64_in,and_true,true_and,rA,rB,rC,rD]
 rintro ⟨⟨k, b1⟩, hk, hlv, hrun⟩
 dsimp only at hk hlv hrun
 rcases k with _ | k
 ·have hd : decide ((0 : Int) ≤ ((0 : Nat) : Int) - 1) = false := by decide
  rw [List.take_zero, backL_nil] at hrun
  simp only [runB] at hrun
  repeat' (first|(with_reducible first|apply qA|apply qB|apply qC|apply qD|apply qE|apply qF)|(simp (disch:=omega) only [go_sem, simprocAttr, qN, qO, qP, qQ, hd])|exact qM rfl rfl rfl|(refine qG rfl ?_)|(refine qH rfl ?_)|(refine qI rfl ?_ ?_<;>intro hc<;>(try simp only [go_sem] at hc))|(refine qJ ?_ ?_<;>intro hc<;>(try simp only [hc])<;>(try simp only [go_sem] at hc)))
  rw [hrun]
  exact retS_hid (own := []) (.inr rfl) (hH _) rfl
 ·have e1 : ((k + 1 : Nat) : Int) - 1 = (k : Int) := by omega
  have hd : decide ((0 : Int) ≤ (k : Int)) = true := by rw [decide_eq_true_eq]; omega
  obtain ⟨v, hv⟩ := getE (l := l) (i := k) (by omega)
  rw [backL_take l k v hv] at hrun
  obtain ⟨hyc, hlv4⟩ := hY b1 (v, k) hlv (List.mem_of_getElem? hv)
  simp only [runB] at hrun
  dsimp only
  rw [e1]
  repeat' (first|(with_reducible first|apply qA|apply qB|apply qC|apply qD|apply qE|apply qF)|(simp (disch:=omega) only [go_sem, simprocAttr, qN, qO, qP, qQ, hd, hv, rF, rG])|exact qM rfl rfl rfl|(refine qG rfl ?_)|(refine qH rfl ?_)|(refine qI rfl ?_ ?_<;>intro hc<;>(try simp only [go_sem] at hc))|(refine qJ ?_ ?_<;>intro hc<;>(try simp only [hc])<;>(try simp only [go_sem] at hc)))
  refine call_y (own := []) hyc rfl rfl rfl (hH _) (hH _) (by decide) ?_
  cases hs : (stp b1 (v, k)).1 with
  | true =>
   rw [hs] at hrun hlv4
   simp (disch:=omega) only [go_sem,simprocAttr,qN,qO,qP,qQ]
   repeat' (first|(with_reducible first|apply qA|apply qB|apply qC|apply qD|apply qE|apply qF)|(simp (disch:=omega) only [go_sem, simprocAttr, qN, qO, qP, qQ])|exact qM rfl rfl rfl|(refine qG rfl ?_)|(refine qH rfl ?_)|(refine qI rfl ?_ ?_<;>intro hc<;>(try simp only [go_sem] at hc))|(refine qJ ?_ ?_<;>intro hc<;>(try simp only [hc])<;>(try simp only [go_sem] at hc)))
   refine ⟨⟨(k, (stp b1 (v, k)).2), by omega, hlv4 rfl, hrun⟩, by (show _ < _; (try simp only); omega), Ent.toT ?_⟩; simp (disch:=omega) only [qR,qS,qTw,qU,get,Nat.reduceEqDiff,↓reduceIte,qV,qW,qX,qY,qZ,and_self,dI,i64_in,and_true,true_and,rA,rB,rC,rD]
  | false =>
   rw [hs] at hrun
   simp (disch:=omega) only [go_sem,simprocAttr,qN,qO,qP,qQ]
   repeat' (first|(with_reducible first|apply qA|apply qB|apply qC|apply qD|apply qE|apply qF)|(simp (disch:=omega) only [go_sem, simprocAttr, qN, qO, qP, qQ])|exact qM rfl rfl rfl|(refine qG rfl ?_)|(refine qH rfl ?_)|(refine qI rfl ?_ ?_<;>intro hc<;>(try simp only [go_sem] at hc))|(refine qJ ?_ ?_<;>intro hc<;>(try simp only [hc])<;>(try simp only [go_sem] at hc)))
   rw [hrun]
   exact retS_hid (own := []) (.inl rfl) (hH _) rfl
def stretchL : Int → List (Int × Int) → List (Int × Int)
 | high, [] => if 0 < high then [(1, high)] else []
 | high, s :: t => (s.1, high) :: stretchL (s.1 - 1) t
def enSp (e : Int × Int) : List D := [.agg [dI e.1, dI e.2]]
def okSp (e : Int × Int) : Prop := (1 ≤ e.1 ∧ e.1 ≤ 100000) ∧ 0 ≤ e.2 ∧ e.2 ≤ 100000
def strS {β : Type} (stp : β → Int × Int → Bool × β) (y : β × Int) (e : (Int × Int) × Nat) : Option Exit × (β × Int) :=
 if (stp y.1 (e.1.1, y.2)).1 = true then (none, ((stp y.1 (e.1.1, y.2)).2, e.1.1 - 1)) else (some .ret, ((stp y.1 (e.1.1, y.2)).2, y.2))
theorem strS_run {β : Type} (stp : β → Int × Int → Bool × β) (live : β → Prop) (hl : ∀ b e, live b → okSp e → (stp b e).1 = true → live (stp b e).2) : ∀ (L : List ((Int × Int) × Nat)) (b : β) (high : Int), live b → (0 ≤ high ∧ high ≤ 100000) → (∀ e ∈ L, 1 ≤ e.1.1 ∧ e.1.1 ≤ 100000) →
  ((runIt (strS stp) (b, high) L).1 = some .ret ∧ (runIt (strS stp) (b, high) L).2.1 = runB stp b (stretchL high (L.map (·.1)))) ∨
  ((runIt (strS stp) (b, high) L).1 = none ∧ (live (runIt (strS stp) (b, high) L).2.1 ∧ 0 ≤ (runIt (strS stp) (b, high) L).2.2 ∧ (runIt (strS stp) (b, high) L).2.2 ≤ 100000) ∧
   runB stp b (stretchL high (L.map (·.1))) = runB stp (runIt (strS stp) (b, high) L).2.1 (stretchL (runIt (strS stp) (b, high) L).2.2 []))
 | [], b, high, hb, hh, _ => .inr ⟨rfl, ⟨hb, hh⟩, rfl⟩
 | e :: L, b, high, hb, hh, hL => by
  have he := hL e (by simp)
  simp only [runIt, strS, List.map_cons, stretchL, runB]
  by_cases hs : (stp b (e.1.1, high)).1 = true
  ·simp only [hs, if_true]
   exact strS_run stp live hl L _ _ (hl b _ hb ⟨he, hh⟩ hs) (by omega) (fun x hx => hL x (by simp [hx]))
  ·left
   simp [hs]
theorem backL_fst (l : List (Int × Int)) : (backL l).map (·.1) = l.reverse := by
 rw [backL, List.map_reverse]
 congr 1
 apply List.ext_getElem <;> simp
attribute [go_sem] enBack enSp
theorem prStretches (q : Quote) (h : q.ok) : ItD Try.prog 163 [dQ false q] [] enSp okSp (stretchL 100000 q.steps.reverse) := by
 intro ly β H stp live hW hY b0 hl0
 have hH : ∀ b, HidOk (H b) := fun b => (hW b).toHidOk
 have hb := prBackward q.steps
 have hit := prBack q.steps (by have := h.len; omega) false
 have hst : ∀ s ∈ q.steps, 1 ≤ s.1 ∧ s.1 ≤ 100000 := fun s hs => (h.steps s hs).1
 refine DCall.of Try.func163 sf163 hb163 (Nat.le_of_ble_eq_true rfl) (hH _).res ?_
 simp only [s163, idxs, Nat.reduceAdd, List.map_nil, List.map_cons, List.nil_append, List.cons_append]
 have f1 := hid_get (hH b0)
 have f2 := hid_ins (hH b0)
 have f3 := (hH b0).men
 have f4 := (hH b0).lo
 have f5 : ∀ k x, k < 1000 → ins k x (H b0) = H b0 ++ [(k, x)] := fun k x hk => by have := f2 k hk x []; rwa [List.append_nil] at this
 repeat' (first|(with_reducible first|apply qA|apply qB|apply qC|apply qD|apply qE|apply qF)|(simp (disch:=omega) only [go_sem, simprocAttr, qN, qO, qP, qQ, f1, f2, f3, f4, f5, ins])|exact qM rfl rfl rfl|(refine qG rfl ?_)|(refine qK (hb) (by decide) ?_)|(refine qH rfl ?_)|(refine qI rfl ?_ ?_<;>intro hc<;>(try simp only [go_sem] at hc))|(refine qJ ?_ ?_<;>intro hc<;>(try simp only [hc])<;>(try simp only [go_sem] at hc)))
 refine DW.ent (Ent.comm (hH b0) rfl).1 ?_
 refine DW.ent (σ' := ⟨29, [(10, .fn (.func 191) [] [.c (.ro false [.sl false 2 (rows eT q.steps)] 0)]), (4, .box 4 0), (3, .box 3 0)], [(4, .box [dI 100000]), (3, .box [.c (.fn (.yield ly) [] [])])] ++ H b0⟩) ?_ ?_
 ·refine Ent.toH (hH b0) rfl ?_ ?_ <;> simp (disch:=omega) only [qR,qS,qTw,qU,get,Nat.reduceEqDiff,↓reduceIte,qV,qW,qX,qY,qZ,and_self,dI,i64_in,and_true,true_and,rA,rB,rC,rD]
 have hinv : ∀ b e, live b → okSp e → (stp b e).1 = true → live (stp b e).2 := fun b e h1 h2 => (hY b e h1 h2).2
 refine DW.rngD (fs := []) (caps := [.c (.ro false [.sl false 2 (rows eT q.steps)] 0)]) rfl (fun _ => ⟨rfl, rfl⟩) (fun y : β × Int => [(4, .box [dI y.2]), (3, .box [.c (.fn (.yield ly) [] [])])] ++ H y.1) (b0, 100000) rfl (strS stp) enBack (fun e => e.1 ∈ q.steps) (backL q.steps) hit (fun y => live y.1 ∧ 0 ≤ y.2 ∧ y.2 ≤ 100000) ⟨hl0, by omega, by omega⟩ ?_ (by decide) (fun _ _ => rfl) (fun _ _ _ => rfl) (by simp only [List.map_cons, List.map_nil]; decide) ?_ ?_ ?_ ?_ ?_ ?_ ?_
 ·rintro ⟨b, hg⟩ ⟨s, i⟩ hiv hs h1
  have := hst s hs
  simp only [strS] at h1 ⊢
  dsimp only at hiv
  split at h1
  ·rename_i hc
   rw [if_pos hc]
   exact ⟨hinv _ _ hiv.1 ⟨this, hiv.2⟩ hc, by dsimp only; omega⟩
  ·cases h1
 ·intro y
  show get 999 (H y.1) = none
  exact (hH y.1).lo 999 (by decide)
 ·intro y
  have := (hW y.1).app2 (4, Blk.box [dI y.2]) (3, .box [.c (.fn (.yield ly) [] [])])
  simp only [List.cons_append, List.nil_append, wfB, List.all_cons, List.all_nil, this, Bool.and_true]
  rfl
 ·intro y j x hj
  rw [get_app] at hj
  cases hg : get j [(4, Blk.box [dI y.2]), (3, .box [.c (.fn (.yield ly) [] [])])] with
  | none => rw [hg] at hj; exact (hH y.1).nb j x hj
  | some x' =>
   rw [hg] at hj; cases hj
   have := get_mem hg
   simp only [List.mem_cons, Prod.mk.injEq, List.not_mem_nil, or_false] at this
   rcases this with ⟨_, rfl⟩ | ⟨_, rfl⟩ <;> rfl
 ·intro p hp
  simp only [List.mem_cons, List.not_mem_nil, or_false] at hp
  rcases hp with rfl | rfl | rfl
  ·simp only [D.nb, D.nbs, C.nb, C.nbs, rows_nb eT_nb, Bool.and_self, Bool.not_false]
  ·rfl
  ·rfl
 ·intro y e
  simp only [strS]
  split <;> rfl
 ·rintro ⟨b, hg⟩ hiv ⟨s, i⟩ hs v
  have hs1 := hst s hs
  dsimp only at hiv hs1 hs
  obtain ⟨hyc, hlv⟩ := hY b (s.1, hg) hiv.1 ⟨hs1, hiv.2⟩
  have g3 := (hH b).men
  have g4 := (hH b).lo
  refine DW.ent (Ent.swap ((hH b).lo 999 (by decide))).1 ?_
  have hS : strS stp (b, hg) (s, i) = if (stp b (s.1, hg)).1 = true then (none, ((stp b (s.1, hg)).2, s.1 - 1)) else (some .ret, ((stp b (s.1, hg)).2, hg)) := rfl
  cases hc : (stp b (s.1, hg)).1 with
  | true =>
   rw [hc, if_pos rfl] at hS
   rw [hc] at hyc
   rw [hS]
   simp (disch:=omega) only [go_sem,simprocAttr,qN,qO,qP,qQ,rF,rG,g3,g4]
   repeat' (first|(with_reducible first|apply qA|apply qB|apply qC|apply qD|apply qE|apply qF)|(simp (disch:=omega) only [go_sem, simprocAttr, qN, qO, qP, qQ, rF, rG, g3, g4])|exact qM rfl rfl rfl|(refine qG rfl ?_)|(refine qH rfl ?_)|(refine qI rfl ?_ ?_<;>intro hc<;>(try simp only [go_sem] at hc))|(refine qJ ?_ ?_<;>intro hc<;>(try simp only [hc])<;>(try simp only [go_sem] at hc)))
   refine call_y (own := [_, _, _, _]) hyc rfl rfl rfl (hH _) (hH _) (by decide) ?_
   simp (disch:=omega) only [go_sem,simprocAttr,qN,qO,qP,qQ]
   repeat' (first|(with_reducible first|apply qA|apply qB|apply qC|apply qD|apply qE|apply qF)|(simp (disch:=omega) only [go_sem, simprocAttr, qN, qO, qP, qQ])|exact qM rfl rfl rfl|(refine qG rfl ?_)|(refine qH rfl ?_)|(refine qI rfl ?_ ?_<;>intro hc<;>(try simp only [go_sem] at hc))|(refine qJ ?_ ?_<;>intro hc<;>(try simp only [hc])<;>(try simp only [go_sem] at hc)))
   refine round_end rfl rfl (Ent.trans ?_ (Ent.swap (o := [(4, Blk.box [dI (s.1 - 1)]), (3, Blk.box [D.c (C.fn (Fn.yield ly) [] [])])]) (c := capB v [(10, D.fn (Fn.func 191) [] [D.c (C.ro false [C.sl false 2 (rows eT q.steps)] 0)]), (4, D.box 4 0), (3, D.box 3 0)]) ((hH (stp b (s.1, hg)).2).lo 999 (by decide))).2)
   refine Ent.toH (o := [_, _, _, _]) (o' := [_, _, _]) (hH _) ?_ ?_ ?_
   ·rfl
   ·simp (disch:=omega) only [qR,qS,qTw,qU,get,Nat.reduceEqDiff,↓reduceIte,qV,qW,qX,qY,qZ,and_self,dI,i64_in,and_true,true_and,rA,rB,rC,rD,capB]
   ·simp (disch:=omega) only [qR,qS,qTw,qU,get,Nat.reduceEqDiff,↓reduceIte,qV,qW,qX,qY,qZ,and_self,dI,i64_in,and_true,true_and,rA,rB,rC,rD,capB]
  | false =>
   rw [hc, if_neg (by decide)] at hS
   rw [hc] at hyc
   rw [hS]
   simp (disch:=omega) only [go_sem,simprocAttr,qN,qO,qP,qQ,rF,rG,g3,g4]
   repeat' (first|(with_reducible first|apply qA|apply qB|apply qC|apply qD|apply qE|apply qF)|(simp (disch:=omega) only [go_sem, simprocAttr, qN, qO, qP, qQ, rF, rG, g3, g4])|exact qM rfl rfl rfl|(refine qG rfl ?_)|(refine qH rfl ?_)|(refine qI rfl ?_ ?_<;>intro hc<;>(try simp only [go_sem] at hc))|(refine qJ ?_ ?_<;>intro hc<;>(try simp only [hc])<;>(try simp only [go_sem] at hc)))
   refine call_y (own := [_, _, _, _]) hyc rfl rfl rfl (hH _) (hH _) (by decide) ?_
   simp (disch:=omega) only [go_sem,simprocAttr,qN,qO,qP,qQ]
   repeat' (first|(with_reducible first|apply qA|apply qB|apply qC|apply qD|apply qE|apply qF)|(simp (disch:=omega) only [go_sem, simprocAttr, qN, qO, qP, qQ])|exact qM rfl rfl rfl|(refine qG rfl ?_)|(refine qH rfl ?_)|(refine qI rfl ?_ ?_<;>intro hc<;>(try simp only [go_sem] at hc))|(refine qJ ?_ ?_<;>intro hc<;>(try simp only [hc])<;>(try simp only [go_sem] at hc)))
   refine round_end rfl rfl (Ent.trans ?_ (Ent.swap (o := [(4, Blk.box [dI hg]), (3, Blk.box [D.c (C.fn (Fn.yield ly) [] [])])]) (c := capB v [(10, D.fn (Fn.func 191) [] [D.c (C.ro false [C.sl false 2 (rows eT q.steps)] 0)]), (4, D.box 4 0), (3, D.box 3 0)]) ((hH (stp b (s.1, hg)).2).lo 999 (by decide))).2)
   refine Ent.toH (o := [_, _, _, _]) (o' := [_, _, _]) (hH _) ?_ ?_ ?_
   ·rfl
   ·simp (disch:=omega) only [qR,qS,qTw,qU,get,Nat.reduceEqDiff,↓reduceIte,qV,qW,qX,qY,qZ,and_self,dI,i64_in,and_true,true_and,rA,rB,rC,rD,capB]
   ·simp (disch:=omega) only [qR,qS,qTw,qU,get,Nat.reduceEqDiff,↓reduceIte,qV,qW,qX,qY,qZ,and_self,dI,i64_in,and_true,true_and,rA,rB,rC,rD,capB]
 ·have hrs := strS_run stp live hinv (backL q.steps) b0 100000 hl0 (by decide) (fun e he => hst e.1 (by
   have : e.1 ∈ (backL q.steps).map (·.1) := List.mem_map.2 ⟨e, he, rfl⟩
   rw [backL_fst] at this
   exact List.mem_reverse.1 this))
  rw [backL_fst] at hrs
  generalize runIt (strS stp) (b0, 100000) (backL q.steps) = R at *
  obtain ⟨o, b, hg⟩ := R
  dsimp only at hrs ⊢
  rcases hrs with ⟨rfl, hr⟩ | ⟨rfl, hiv, hr⟩
  ·rw [← hr]
   simp (disch:=omega) only [go_sem,simprocAttr,qN,qO,qP,qQ,Option.getD_some]
   exact retS_hid (own := [_, _]) (.inl rfl) (hH _) rfl
  ·rw [hr]
   have hd : stretchL hg [] = if 0 < hg then [(1, hg)] else [] := rfl
   rw [hd]
   by_cases hp : 0 < hg
   ·have hpd : decide (0 < hg) = true := decide_eq_true hp
    obtain ⟨hyc, hlv⟩ := hY b (1, hg) hiv.1 ⟨by simp, hiv.2⟩
    have hf : runB stp b (if 0 < hg then [(1, hg)] else []) = (stp b (1, hg)).2 := by
     rw [if_pos hp]
     simp only [runB]
     split <;> rfl
    rw [hf]
    simp (disch:=omega) only [go_sem,simprocAttr,qN,qO,qP,qQ,Option.getD_none]
    repeat' (first|(with_reducible first|apply qA|apply qB|apply qC|apply qD|apply qE|apply qF)|(simp (disch:=omega) only [go_sem, simprocAttr, qN, qO, qP, qQ, hpd])|exact qM rfl rfl rfl|(refine qG rfl ?_)|(refine qH rfl ?_)|(refine qI rfl ?_ ?_<;>intro hc<;>(try simp only [go_sem] at hc))|(refine qJ ?_ ?_<;>intro hc<;>(try simp only [hc])<;>(try simp only [go_sem] at hc)))
    refine call_y (own := [_, _]) hyc rfl rfl rfl (hH _) (hH _) (by decide) ?_
    simp (disch:=omega) only [go_sem,simprocAttr,qN,qO,qP,qQ]
    repeat' (first|(with_reducible first|apply qA|apply qB|apply qC|apply qD|apply qE|apply qF)|(simp (disch:=omega) only [go_sem, simprocAttr, qN, qO, qP, qQ])|exact qM rfl rfl rfl|(refine qG rfl ?_)|(refine qH rfl ?_)|(refine qI rfl ?_ ?_<;>intro hc<;>(try simp only [go_sem] at hc))|(refine qJ ?_ ?_<;>intro hc<;>(try simp only [hc])<;>(try simp only [go_sem] at hc)))
    exact retS_hid (own := [_, _]) (.inr rfl) (hH _) rfl
   ·have hpd : decide (0 < hg) = false := decide_eq_false hp
    rw [if_neg hp]
    simp only [runB]
    simp (disch:=omega) only [go_sem,simprocAttr,qN,qO,qP,qQ,Option.getD_none]
    repeat' (first|(with_reducible first|apply qA|apply qB|apply qC|apply qD|apply qE|apply qF)|(simp (disch:=omega) only [go_sem, simprocAttr, qN, qO, qP, qQ, hpd])|exact qM rfl rfl rfl|(refine qG rfl ?_)|(refine qH rfl ?_)|(refine qI rfl ?_ ?_<;>intro hc<;>(try simp only [go_sem] at hc))|(refine qJ ?_ ?_<;>intro hc<;>(try simp only [hc])<;>(try simp only [go_sem] at hc)))
    exact retS_hid (own := [_, _]) (.inr rfl) (hH _) rfl
end Go.Dw.Seat
end
section
set_option linter.unusedSimpArgs false
set_option maxRecDepth 100000
namespace Go.Dw.Seat
open Go Go.Dw Go.Proofs Go.IntWalk
def bsF (f : Int → Int) (m : Int) : Nat → Int → Int → Int
 | 0, lo, _ => lo
 | k + 1, lo, hi => if lo < hi then (if m < f ((lo + hi + 1).tdiv 2) then bsF f m k lo ((lo + hi + 1).tdiv 2 - 1) else bsF f m k ((lo + hi + 1).tdiv 2) hi) else lo
theorem bsF_same (f : Int → Int) (m : Int) (lo hi : Int) (h : hi ≤ lo) : ∀ k, bsF f m k lo hi = lo
 | 0 => rfl
 | k + 1 => by rw [bsF, if_neg (by omega)]
def mostS (q : Quote) (money : Int) (r : Int) (e : Int × Int) : Option Exit × Int :=
 if e.2 < e.1 ∨ money < priceQ q e.1 then (none, r) else (some .ret, bsF (priceQ q) money 17 e.1 e.2)
def mostQ (q : Quote) (money : Int) : Int := (runIt (mostS q money) 0 (stretchL 100000 q.steps.reverse)).2
theorem mostS_run (q : Quote) (money : Int) : ∀ (L : List (Int × Int)) (r : Int), (runIt (mostS q money) r L).1 = some .ret ∨ ((runIt (mostS q money) r L).1 = none ∧ (runIt (mostS q money) r L).2 = r)
 | [], r => .inr ⟨rfl, rfl⟩
 | e :: L, r => by
  simp only [runIt, mostS]
  by_cases hc : e.2 < e.1 ∨ money < priceQ q e.1
  ·rw [if_pos hc]
   exact mostS_run q money L r
  ·rw [if_neg hc]
   exact .inl rfl
set_option maxHeartbeats 1000000 in
theorem prMost (q : Quote) (h : q.ok) (money : Int) : DCall Try.prog 110 [dQ false q, dI money] [] (dI (mostQ q money)) [] := by
 have hit := prStretches q h
 refine DCall.of Try.func110 sf110 hb110 (Nat.le_of_ble_eq_true rfl) (okRes_nil fun _ => rfl) ?_; simp only [s110, idxs, Nat.reduceAdd]
 repeat' (first|(with_reducible first|apply qA|apply qB|apply qC|apply qD|apply qE|apply qF)|(refine qL rfl (WF.of ?_) ?_; first|rfl|skip)|(simp (disch:=omega) only [go_sem, simprocAttr, qN, qO, qP, qQ])|exact qM rfl rfl rfl|(refine qG rfl ?_)|(refine qH rfl ?_)|(refine qI rfl ?_ ?_<;>intro hc<;>(try simp only [go_sem] at hc))|(refine qJ ?_ ?_<;>intro hc<;>(try simp only [hc])<;>(try simp only [go_sem] at hc)))
 refine DW.ent (σ' := ⟨47, [(8, .fn (.func 163) [dQ false q] []), (4, .box 4 0), (3, .box 3 0), (2, .box 2 0)], [(4, .box [dI 0]), (3, .box [dI money]), (2, .box [dI q.area, dI q.board, dI q.waste, dI q.tool, dI q.setup, dI q.run, dI q.work, dI q.pallet, dI q.freight, dI q.margin, .c (.sl false 2 (rows eT q.steps))])]⟩) (Ent.to ?_ ?_) ?_
 ·simp (disch:=omega) only [qR,qS,qTw,qU,get,Nat.reduceEqDiff,↓reduceIte,qV,qW,qX,qY,qZ,and_self,dI,i64_in,and_true,true_and,rA,rB,rC,rD]
 ·simp (disch:=omega) only [qR,qS,qTw,qU,get,Nat.reduceEqDiff,↓reduceIte,qV,qW,qX,qY,qZ,and_self,dI,i64_in,and_true,true_and,rA,rB,rC,rD]
 refine DW.rngBD (fun r : Int => [(4, .box [dI r]), (3, .box [dI money]), (2, .box [dI q.area, dI q.board, dI q.waste, dI q.tool, dI q.setup, dI q.run, dI q.work, dI q.pallet, dI q.freight, dI q.margin, .c (.sl false 2 (rows eT q.steps))])]) 0 (mostS q money) enSp okSp (stretchL 100000 q.steps.reverse) hit (fun _ => True) trivial (fun _ _ _ _ _ => trivial) rfl (fun _ => ⟨rfl, rfl⟩) rfl (by decide) (fun _ _ => rfl) (fun _ _ _ => rfl) (by simp only [List.map_cons, List.map_nil]; decide) (fun _ => rfl) (fun _ => rfl) (fun _ => (by simp only [List.all_cons, List.all_nil, Blk.nb, rowC_nb, D.nb, D.nbs, C.nb, C.nbs, C.nbss, rows_nb eI_nb, Bool.and_true, Bool.not_false, Bool.and_self, bD, dI, iD, rows_nb eT_nb])) (by simp only [List.all_cons, List.all_nil, Blk.nb, rowC_nb, D.nb, D.nbs, C.nb, C.nbs, C.nbss, rows_nb eI_nb, Bool.and_true, Bool.not_false, Bool.and_self, bD, dI, iD, rows_nb eT_nb]) ?_ ?_ ?_
 ·intro r e; simp only [mostS]; split <;> rfl
 ·rintro r - ⟨lo, hi⟩ he v
  have hlo : 1 ≤ lo ∧ lo ≤ 100000 := he.1
  have hhi : 0 ≤ hi ∧ hi ≤ 100000 := he.2
  have hp := prPrice q h lo hlo
  have hS : mostS q money r (lo, hi) = if hi < lo ∨ money < priceQ q lo then (none, r) else (some .ret, bsF (priceQ q) money 17 lo hi) := rfl
  rw [hS]
  cases h1 : decide (hi < lo) with
  | true =>
   rw [if_pos (.inl (of_decide_eq_true h1))]
   simp (disch:=omega) only [go_sem,simprocAttr,qN,qO,qP,qQ]
   repeat' (first|(with_reducible first|apply qA|apply qB|apply qC|apply qD|apply qE|apply qF)|(refine qL rfl (WF.of ?_) ?_; first|rfl|skip)|(simp (disch:=omega) only [go_sem, simprocAttr, qN, qO, qP, qQ, h1])|exact qM rfl rfl rfl|(refine qG rfl ?_)|(refine qK (hp) (by decide) ?_)|(refine qH rfl ?_)|(refine qI rfl ?_ ?_<;>intro hc<;>(try simp only [go_sem] at hc))|(refine qJ ?_ ?_<;>intro hc<;>(try simp only [hc])<;>(try simp only [go_sem] at hc)))
   refine round_end rfl rfl (Ent.to ?_ ?_) <;> simp (disch:=omega) only [qR,qS,qTw,qU,get,Nat.reduceEqDiff,↓reduceIte,qV,qW,qX,qY,qZ,and_self,dI,i64_in,and_true,true_and,rA,rB,rC,rD,capB,List.cons_append,List.nil_append]
  | false =>
   cases h2 : decide (money < priceQ q lo) with
   | true =>
    rw [if_pos (.inr (of_decide_eq_true h2))]
    simp (disch:=omega) only [go_sem,simprocAttr,qN,qO,qP,qQ]
    repeat' (first|(with_reducible first|apply qA|apply qB|apply qC|apply qD|apply qE|apply qF)|(refine qL rfl (WF.of ?_) ?_; first|rfl|skip)|(simp (disch:=omega) only [go_sem, simprocAttr, qN, qO, qP, qQ, h1, h2])|exact qM rfl rfl rfl|(refine qG rfl ?_)|(refine qK (hp) (by decide) ?_)|(refine qH rfl ?_)|(refine qI rfl ?_ ?_<;>intro hc<;>(try simp only [go_sem] at hc))|(refine qJ ?_ ?_<;>intro hc<;>(try simp only [hc])<;>(try simp only [go_sem] at hc)))
    refine round_end rfl rfl (Ent.to ?_ ?_) <;> simp (disch:=omega) only [qR,qS,qTw,qU,get,Nat.reduceEqDiff,↓reduceIte,qV,qW,qX,qY,qZ,and_self,dI,i64_in,and_true,true_and,rA,rB,rC,rD,capB,List.cons_append,List.nil_append]
   | false =>
    rw [if_neg (by simp only [decide_eq_false_iff_not] at h1 h2; omega)]
    simp (disch:=omega) only [go_sem,simprocAttr,qN,qO,qP,qQ]
    repeat' (first|(with_reducible first|apply qA|apply qB|apply qC|apply qD|apply qE|apply qF)|(refine qL rfl (WF.of ?_) ?_; first|rfl|skip)|(simp (disch:=omega) only [go_sem, simprocAttr, qN, qO, qP, qQ, h1, h2])|exact qM rfl rfl rfl|(refine qG rfl ?_)|(refine qK (hp) (by decide) ?_)|(refine qH rfl ?_)|(refine qI rfl ?_ ?_<;>intro hc<;>(try simp only [go_sem] at hc))|(refine qJ ?_ ?_<;>intro hc<;>(try simp only [hc])<;>(try simp only [go_sem] at hc)))
    have h1' : lo ≤ hi := by simp only [decide_eq_false_iff_not] at h1; omega
    clear hS h1 h2 hp
    generalize hr : bsF (priceQ q) money 17 lo hi = res
    refine DW.loop (ι := { s : Int × Int × Nat // 1 ≤ s.1 ∧ s.1 ≤ s.2.1 ∧ s.2.1 ≤ 100000 ∧ s.2.1 - s.1 < 2 ^ s.2.2 ∧ bsF (priceQ q) money s.2.2 s.1 s.2.1 = res })
     (fun s => ⟨47, [(5, .box 5 0), (4, .box 4 0), (3, .box 3 0), (2, .box 2 0)], [(5, .box [dI s.1.1, dI s.1.2.1]), (4, .box [dI r]), (3, .box [dI money]), (2, .box [dI q.area, dI q.board, dI q.waste, dI q.tool, dI q.setup, dI q.run, dI q.work, dI q.pallet, dI q.freight, dI q.margin, .c (.sl false 2 (rows eT q.steps))]), capB v [(8, .fn (.func 163) [dQ false q] []), (4, .box 4 0), (3, .box 3 0), (2, .box 2 0)]]⟩) (fun s => s.1.2.2) ⟨(lo, hi, 17), hlo.1, h1', hhi.2, by simp; omega, hr⟩ ?_ ?_
    ·refine Ent.to ?_ ?_ <;> simp (disch:=omega) only [qR,qS,qTw,qU,get,Nat.reduceEqDiff,↓reduceIte,qV,qW,qX,qY,qZ,and_self,dI,i64_in,and_true,true_and,rA,rB,rC,rD,capB]
    rintro ⟨⟨a, b, k⟩, i1, i2, i3, i4, i5⟩
    dsimp only at i1 i2 i3 i4 i5 ⊢
    rcases Int.lt_or_le a b with hab | hab
    ·have hd : decide (a < b) = true := decide_eq_true hab
     obtain ⟨k, rfl⟩ : ∃ j, k = j + 1 := by
      rcases k with _ | k
      ·rw [Int.pow_zero] at i4; omega
      ·exact ⟨k, rfl⟩
     have hm : (a + b + 1).tdiv 2 = (a + b + 1) / 2 := Int.tdiv_eq_ediv_of_nonneg (by omega)
     rw [bsF, if_pos hab] at i5
     rw [Int.pow_succ] at i4
     generalize hmid : (a + b + 1).tdiv 2 = mid at *
     have hp := prPrice q h mid (by omega)
     cases h3 : decide (money < priceQ q mid) with
     | true =>
      rw [if_pos (of_decide_eq_true h3)] at i5
      repeat' (first|(with_reducible first|apply qA|apply qB|apply qC|apply qD|apply qE|apply qF)|(refine qL rfl (WF.of ?_) ?_; first|rfl|skip)|(simp (disch:=omega) only [go_sem, simprocAttr, qN, qO, qP, qQ, hd, hmid, h3])|exact qM rfl rfl rfl|(refine qG rfl ?_)|(refine qK (hp) (by decide) ?_)|(refine qH rfl ?_)|(refine qI rfl ?_ ?_<;>intro hc<;>(try simp only [go_sem] at hc))|(refine qJ ?_ ?_<;>intro hc<;>(try simp only [hc])<;>(try simp only [go_sem] at hc)))
      refine ⟨⟨(a, mid - 1, k), i1, by dsimp only; omega, by dsimp only; omega, by dsimp only; omega, i5⟩, ?_, Ent.to ?_ ?_⟩ <;> first | (show _ < _; (try simp only); omega) | (simp (disch:=omega) only [qR,qS,qTw,qU,get,Nat.reduceEqDiff,↓reduceIte,qV,qW,qX,qY,qZ,and_self,dI,i64_in,and_true,true_and,rA,rB,rC,rD, capB])
     | false =>
      rw [if_neg (of_decide_eq_false h3)] at i5
      repeat' (first|(with_reducible first|apply qA|apply qB|apply qC|apply qD|apply qE|apply qF)|(refine qL rfl (WF.of ?_) ?_; first|rfl|skip)|(simp (disch:=omega) only [go_sem, simprocAttr, qN, qO, qP, qQ, hd, hmid, h3])|exact qM rfl rfl rfl|(refine qG rfl ?_)|(refine qK (hp) (by decide) ?_)|(refine qH rfl ?_)|(refine qI rfl ?_ ?_<;>intro hc<;>(try simp only [go_sem] at hc))|(refine qJ ?_ ?_<;>intro hc<;>(try simp only [hc])<;>(try simp only [go_sem] at hc)))
      refine ⟨⟨(mid, b, k), by dsimp only; omega, by dsimp only; omega, i3, by dsimp only; omega, i5⟩, ?_, Ent.to ?_ ?_⟩ <;> first | (show _ < _; (try simp only); omega) | (simp (disch:=omega) only [qR,qS,qTw,qU,get,Nat.reduceEqDiff,↓reduceIte,qV,qW,qX,qY,qZ,and_self,dI,i64_in,and_true,true_and,rA,rB,rC,rD, capB])
    ·have hd : decide (a < b) = false := by rw [decide_eq_false_iff_not]; omega
     rw [bsF_same _ _ _ _ hab] at i5
     subst i5
     repeat' (first|(with_reducible first|apply qA|apply qB|apply qC|apply qD|apply qE|apply qF)|(refine qL rfl (WF.of ?_) ?_; first|rfl|skip)|(simp (disch:=omega) only [go_sem, simprocAttr, qN, qO, qP, qQ, hd])|exact qM rfl rfl rfl|(refine qG rfl ?_)|(refine qH rfl ?_)|(refine qI rfl ?_ ?_<;>intro hc<;>(try simp only [go_sem] at hc))|(refine qJ ?_ ?_<;>intro hc<;>(try simp only [hc])<;>(try simp only [go_sem] at hc)))
     refine round_end rfl rfl (Ent.to ?_ ?_) <;> simp (disch:=omega) only [qR,qS,qTw,qU,get,Nat.reduceEqDiff,↓reduceIte,qV,qW,qX,qY,qZ,and_self,dI,i64_in,and_true,true_and,rA,rB,rC,rD,capB,List.cons_append,List.nil_append]
 ·have hrs := mostS_run q money (stretchL 100000 q.steps.reverse) 0
  have hQ : mostQ q money = (runIt (mostS q money) 0 (stretchL 100000 q.steps.reverse)).2 := rfl
  rw [hQ]
  generalize runIt (mostS q money) 0 (stretchL 100000 q.steps.reverse) = R at *
  obtain ⟨o, r⟩ := R
  dsimp only at hrs ⊢
  rcases hrs with rfl | ⟨rfl, rfl⟩
  ·simp (disch:=omega) only [go_sem,simprocAttr,qN,qO,qP,qQ,Option.getD_some]
   repeat' (first|(with_reducible first|apply qA|apply qB|apply qC|apply qD|apply qE|apply qF)|(refine qL rfl (WF.of ?_) ?_; first|rfl|skip)|(simp (disch:=omega) only [go_sem, simprocAttr, qN, qO, qP, qQ])|exact qM rfl rfl rfl|(refine qG rfl ?_)|(refine qH rfl ?_)|(refine qI rfl ?_ ?_<;>intro hc<;>(try simp only [go_sem] at hc))|(refine qJ ?_ ?_<;>intro hc<;>(try simp only [hc])<;>(try simp only [go_sem] at hc)))
  ·simp (disch:=omega) only [go_sem,simprocAttr,qN,qO,qP,qQ,Option.getD_none]
   repeat' (first|(with_reducible first|apply qA|apply qB|apply qC|apply qD|apply qE|apply qF)|(refine qL rfl (WF.of ?_) ?_; first|rfl|skip)|(simp (disch:=omega) only [go_sem, simprocAttr, qN, qO, qP, qQ])|exact qM rfl rfl rfl|(refine qG rfl ?_)|(refine qH rfl ?_)|(refine qI rfl ?_ ?_<;>intro hc<;>(try simp only [go_sem] at hc))|(refine qJ ?_ ?_<;>intro hc<;>(try simp only [hc])<;>(try simp only [go_sem] at hc)))
theorem prMore (q : Quote) (h : q.ok) (n : Int) (hn : 1 ≤ n ∧ n ≤ 100000) : DCall Try.prog 61 [dQ false q, dI n] [] (.tup [dI (mostQ q (priceQ q n)), dI 0]) [] := by
 have h1 := prOpenCount q h n hn
 have h2 := prPrice q h n hn
 have h3 := prMost q h (priceQ q n)
 refine DCall.of Try.func61 sf61 hb61 (Nat.le_of_ble_eq_true rfl) (okRes_nil fun _ => rfl) ?_; simp only [s61, idxs, Nat.reduceAdd]
 repeat' (first|(with_reducible first|apply qA|apply qB|apply qC|apply qD|apply qE|apply qF)|(refine qL rfl (WF.of ?_) ?_; first|rfl|skip)|(simp (disch:=omega) only [go_sem, simprocAttr, qN, qO, qP, qQ])|exact qM rfl rfl rfl|(refine qG rfl ?_)|(refine qK (h1) (by decide) ?_)|(refine qK (h2) (by decide) ?_)|(refine qK (h3) (by decide) ?_)|(refine qH rfl ?_)|(refine qI rfl ?_ ?_<;>intro hc<;>(try simp only [go_sem] at hc))|(refine qJ ?_ ?_<;>intro hc<;>(try simp only [hc])<;>(try simp only [go_sem] at hc)))
end Go.Dw.Seat
end
section
set_option linter.unusedSimpArgs false
set_option maxRecDepth 100000
namespace Go.Dw.Seat
open Go Go.Dw Go.Proofs Go.IntWalk
theorem ud5 : Try.prog.underlying 5 = some (.int .u8) := by kernel_rfl
abbrev d8 (n : Nat) : D := .c (.v (.int .u8 n))
def eY (v : Nat) : List C := [.v (.int .u8 v)]
attribute [go_sem] ud5 d8 eY
theorem tmodN (m k : Nat) : (m : Int).tmod (k : Int) = ((m % k : Nat) : Int) := by
 rw [Int.tmod_eq_emod_of_nonneg (by omega)]; simp
end Go.Dw.Seat
end
section
set_option linter.unusedSimpArgs false
set_option maxRecDepth 100000
namespace Go.Dw.Seat
open Go Go.Dw Go.Proofs Go.IntWalk
def exQ : Quote := ⟨10000, 20000, 100, 5000, 300, 1000, 900, 400, 50, 200, [(1000, 100)]⟩
theorem exQ_ok : exQ.ok := ⟨by decide, by decide, by decide, by decide, by decide, by decide, by decide, by decide, by decide, by decide, by decide, by decide, by decide⟩
theorem exQ1 : priceQ exQ 500 = 20220 := by kernel_rfl
theorem exQ2 : mostQ exQ (priceQ exQ 999) = 1123 := by kernel_rfl
theorem tpPrice : DCall Try.prog 23 [] [] (bD true) [] := by
 have h1 := prQuote exQ exQ_ok 500 (by decide)
 have h2 := prMore exQ exQ_ok 999 (by decide)
 rw [exQ1] at h1
 rw [exQ2] at h2
 unfold exQ at h1 h2
 refine DCall.of Try.func23 sf23 hb23 (Nat.le_of_ble_eq_true rfl) (okRes_nil fun _ => rfl) ?_; simp only [s23, idxs, Nat.reduceAdd]
 refine DW.seq (DW.reg ?_)
 simp (disch:=omega) only [go_sem,simprocAttr,Blk.men,Blk.keysIn]
 refine DW.seq (DW.reg ?_)
 simp (disch:=omega) only [go_sem,simprocAttr,Blk.men,Blk.keysIn]
 (refine DW.ent (Ent.rel 8 rfl) ?_; simp (disch:=omega) only [go_sem,simprocAttr,Blk.men,Blk.keysIn])
 repeat' (first|(with_reducible first|apply qA|apply qB|apply qC|apply qD|apply qE|apply qF)|(simp (disch:=omega) only [go_sem, simprocAttr, Blk.men, Blk.keysIn])|exact qM rfl rfl rfl|(refine qG rfl ?_)|(refine qK (h1) (by decide) ?_)|(refine qK (h2) (by decide) ?_)|(refine qH rfl ?_)|(refine qI rfl ?_ ?_<;>intro hc<;>(try simp only [go_sem] at hc))|(refine qJ ?_ ?_<;>intro hc<;>(try simp only [hc])<;>(try simp only [go_sem] at hc)))
end Go.Dw.Seat
end
section
set_option linter.unusedSimpArgs false
set_option maxRecDepth 100000
namespace Go.Dw.Seat.Pa
open Go Go.Dw Go.Proofs Go.IntWalk
theorem weakW {f : FuncId} {l as' : List D} {bi : List (Nat × Blk)} {r : D} {bo : List (Nat × Blk)} (h : DCall Try.prog f as' bi r bo) (hw : Wks l as') : DCall Try.prog f l bi r bo :=
 ⟨h.1, h.2.1, fun N G w vs hN hd hh hvs => h.2.2 N G w vs hN hd hh (Wks.sound hw hvs)⟩
def qsB (a b c d : Nat) : PBs := ⟨40 + ((a % 80 : Nat) : Int), 40 + ((b % 80 : Nat) : Int), 12, 0, 60 + (c : Int), 2000 * (d : Int)⟩
def qsX (e f g : Nat) : PBx := ⟨15 + ((e % 30 : Nat) : Int), 12 + ((f % 30 : Nat) : Int), 10 + ((e % 20 : Nat) : Int), 50 * (g : Int), 50 * (g : Int) + 9, 20 * (f : Int), 20 * (f : Int) + 5⟩
theorem qsB_ok {a b c d : Nat} (hc : c < 256) (hd : d < 256) : (qsB a b c d).ok := by
 have h1 : a % 80 < 80 := Nat.mod_lt _ (by decide)
 have h2 : b % 80 < 80 := Nat.mod_lt _ (by decide)
 refine ⟨?_, ?_, ?_, ?_, ?_, ?_⟩ <;> simp only [qsB] <;> omega
theorem qsX_ok {e f g : Nat} (hf : f < 256) (hg : g < 256) : (qsX e f g).ok := by
 have h1 : e % 30 < 30 := Nat.mod_lt _ (by decide)
 have h2 : f % 30 < 30 := Nat.mod_lt _ (by decide)
 have h3 : e % 20 < 20 := Nat.mod_lt _ (by decide)
 refine ⟨?_, ?_, ?_, ?_, ?_⟩ <;> simp only [qsX] <;> omega
def qsT : List (Int × Int) := [(0, 1000), (20, 600)]
theorem qsT_ok {w : Int} (hw : 0 ≤ w ∧ w ≤ 10000) : TabOk qsT w := by
 refine ⟨tabF_of (by simp [qsT]) (fun y h => ?_) (fun j hj y hy => ?_), hw⟩
 ·simp [qsT] at h; subst h; rfl
 ·have hj2 : j < 2 := hj
  match j, hj2 with
  | 0, _ =>
   simp [qsT] at hy
   subst hy
   exact ⟨⟨by decide, by decide⟩, fun k u h => by omega⟩
  | 1, _ =>
   simp [qsT] at hy
   subst hy
   refine ⟨⟨by decide, by decide⟩, fun k z hk hz => ?_⟩
   obtain rfl : k = 0 := by omega
   simp [qsT] at hz
   subst hz
   exact ⟨by decide, by decide⟩
theorem puSpan (a b : Int) : DCall Try.prog 22 [dI a, dI b] [] (.agg [dI a, dI b]) [] := by
 refine DCall.of Try.func22 sf22 hb22 (Nat.le_of_ble_eq_true rfl) (okRes_nil fun _ => rfl) ?_; simp only [s22, idxs, Nat.reduceAdd]
 repeat' (first|(with_reducible first|apply qA|apply qB|apply qC|apply qD|apply qE|apply qF)|(simp (disch:=omega) only [go_sem, simprocAttr, qN, qO, qP, qQ])|exact qM rfl rfl rfl|(refine qG rfl ?_)|(refine qH rfl ?_)|(refine qI rfl ?_ ?_<;>intro hc<;>(try simp only [go_sem] at hc))|(refine qJ ?_ ?_<;>intro hc<;>(try simp only [hc])<;>(try simp only [go_sem] at hc)))
theorem tm80 (m : Nat) : (m : Int).tmod 80 = ((m % 80 : Nat) : Int) := tmodN m 80
theorem ud70 : Try.prog.underlying 70 = some (.int .u16) := by kernel_rfl
theorem up_law {n per : Int} (hn : 1 ≤ n) (hp : 1 ≤ per) : (1 ≤ upI n per ∧ upI n per ≤ n) ∧ n ≤ upI n per * per ∧ (upI n per - 1) * per < n := by
 have e : upI n per = (n + per - 1) / per := Int.tdiv_eq_ediv_of_nonneg (by omega)
 have h0 : 0 < per := by omega
 have k1 : upI n per * per ≤ n + per - 1 := by rw [e]; exact Int.ediv_mul_le _ (by omega)
 have k2 : n + per - 1 < (upI n per + 1) * per := by rw [e]; exact Int.lt_ediv_add_one_mul_self _ h0
 have k3 : (upI n per + 1) * per = upI n per * per + per := by rw [Int.add_mul, Int.one_mul]
 have k4 : (upI n per - 1) * per = upI n per * per - per := by rw [Int.sub_mul, Int.one_mul]
 have k5 := upI_b (N := n) ⟨by omega, Int.le_refl n⟩ hp
 refine ⟨⟨?_, k5.2⟩, by omega, by omega⟩
 rcases Int.lt_or_le (upI n per) 1 with h | h
 ·have : upI n per = 0 := by omega
  rw [this] at k2
  omega
 ·exact h
theorem mul77 (u : Int) (h : 0 ≤ u) : Int.tmod (77 * u) 77 = 0 ∧ Int.tdiv (77 * u) 77 = u := by
 rw [Int.tmod_eq_emod_of_nonneg (by omega), Int.tdiv_eq_ediv_of_nonneg (by omega)]
 omega
theorem qq_ok {per : Int} (h : 1 ≤ per ∧ per ≤ 100000) : (Quote.mk 1 0 0 0 0 1 0 per 77 0 []).ok := by
 constructor
 all_goals first | (dsimp only; omega) | simp
set_option maxHeartbeats 16000000 in
theorem tpQuotePallets (s : List Nat) (hs : s.length = 7 ∧ AllLt 256 s) (w : Nat) (hw : w < 256) (m : Nat) (hm : m < 65536) :
  DCall Try.prog 5 [.agg ((eN s).map D.c), dU w, .c (.v (.int .u16 m))] [] (bD true) [] := by
 obtain ⟨a, b, c, d, e, f, g, rfl, ⟨ha, hb, hc, hg⟩, hd, he, hf⟩ := by7 hs
 rw [byE]
 simp only [List.map_cons, List.map_nil]
 clear hs
 have hpr := tpPrice
 have hp := qsB_ok (a := a) (b := b) hc hd
 have hx := qsX_ok (e := e) hf hg
 have q1 : a % 80 < 80 := Nat.mod_lt _ (by decide)
 have q2 : b % 80 < 80 := Nat.mod_lt _ (by decide)
 have q3 : e % 30 < 30 := Nat.mod_lt _ (by decide)
 have q4 : f % 30 < 30 := Nat.mod_lt _ (by decide)
 have q5 : e % 20 < 20 := Nat.mod_lt _ (by decide)
 have sp1 := puSpan (50 * (g : Int)) (50 * (g : Int) + 9)
 have sp2 := puSpan (20 * (f : Int)) (20 * (f : Int) + 5)
 have hL := plLayX (qsB a b c d) (qsX e f g)
 have hc0 := chk_ok.2 ⟨hp, hx⟩
 have hf0 := lay_facts hp hx
 have hlen : (layX (qsB a b c d) (qsX e f g)).length ≤ 200 := by
  have := mst_small hp hx (R := 119) (by simp only [qsB, rmX]; omega) (by simp only [qsB, rmY]; omega)
  rw [hf0.len]
  omega
 have hrg := lay_rgt hp hx hlen hf0.lies hf0.mem
 rw [layD, if_pos hc0, hc0] at hL
 clear hf0
 generalize layX (qsB a b c d) (qsX e f g) = L at *
 have l1 : decide (200 < (L.length : Int)) = false := decide_eq_false (by omega)
 by_cases h0 : L = []
 ·subst h0
  refine DCall.of Try.func5 sf5 hb5 (Nat.le_of_ble_eq_true rfl) (okRes_nil fun _ => rfl) ?_; simp only [s5, o5_0, o5_1, o5_2, o5_3, o5_4, o5_5, o5_6, o5_7, o5_8, o5_9, o5_10, o5_11, o5_12, o5_13, o5_14, o5_15, idxs, Nat.reduceAdd]
  repeat' (first|(with_reducible first|apply qA|apply qB|apply qC|apply qD|apply qE|apply qF)|(refine qL rfl (WF.of ?_) ?_; first|rfl|skip)|(refine DW.ord rfl (WF.of (by first|rfl|simp (disch:=omega) only [go_sem, simprocAttr, qN, qO, qP, qQ, ud5, tm80, tm30, tm20, List.length_nil, rD])) ?_ ?_ ?_; rotate_left)|rfl|(with_reducible refine And.intro ?_ ?_)|(simp (disch:=omega) only [go_sem, simprocAttr, qN, qO, qP, qQ, ud5, tm80, tm30, tm20, List.length_nil, rD])|exact qM rfl rfl rfl|(refine qG rfl ?_)|(refine qK (sp1) (by decide) ?_)|(refine qK (sp2) (by decide) ?_)|(refine qK (hL) (by decide) ?_)|(refine qK (hpr) (by decide) ?_)|(refine qH rfl ?_)|(refine qI rfl ?_ ?_<;>intro hc<;>(try simp only [go_sem] at hc))|(refine qJ ?_ ?_<;>intro hc<;>(try simp only [hc])<;>(try simp only [go_sem] at hc)))
 have hln : 0 < L.length := List.length_pos_iff.2 h0
 have l2 : ((L.length : Int) == 0) = false := by rw [beq_eq_false_iff_ne]; omega
 have t0 : TabOk qsT (w : Int) := qsT_ok (by omega)
 have hLy := plLayersX (qsB a b c d) (qsX e f g) L (by omega) qsT (w : Int) t0
 rw [hrg, if_pos ⟨rfl, h0⟩, if_neg (by simp), if_neg h0] at hLy
 have hLy : DCall Try.prog 10 [bsD (qsB a b c d), bxD (qsX e f g), lyD true L, .c (.sl true 2 (rows eK qsT)), dI w] [] _ [] := DCall.lbl hLy rfl (.same (.same (.sl (.sl (.same .nil)))))
 have hlo := lodF_ok hx
 have hgb := high_b (lodF (qsX e f g)) hlo qsT (fun s hs => (t0.mem s hs).2) (w : Int)
 have hnb := lay_b hp hx (n := (L.length : Int)) (hg := highI (lodF (qsX e f g)) qsT (w : Int)) (by omega) (by omega)
 have hle : 1 ≤ layI (qsB a b c d) (qsX e f g) L.length (highI (lodF (qsX e f g)) qsT (w : Int)) → layI (qsB a b c d) (qsX e f g) L.length (highI (lodF (qsX e f g)) qsT (w : Int)) ≤ highI (lodF (qsX e f g)) qsT (w : Int) ∧ layI (qsB a b c d) (qsX e f g) L.length (highI (lodF (qsX e f g)) qsT (w : Int)) * L.length * (qsX e f g).wh ≤ (qsB a b c d).load := fun h => ⟨((lay_iff hp hx (by omega) h).1 (Int.le_refl _)).1.2, ((lay_iff hp hx (by omega) h).1 (Int.le_refl _)).2.2⟩
 have hsl := fun n hn hh => stack_stands hlo t0 n hn hh
 generalize highI (lodF (qsX e f g)) qsT (w : Int) = hg at *
 generalize layI (qsB a b c d) (qsX e f g) L.length hg = NI at *
 obtain ⟨N, rfl⟩ : ∃ N : Nat, NI = N := ⟨NI.toNat, by omega⟩
 have hF7 := hsl N (by omega) (fun h => (hle h).1)
 have d1 : decide ((N : Int) < 0) = false := decide_eq_false (by omega)
 have d2 : decide (30 < (N : Int)) = false := decide_eq_false (by omega)
 obtain ⟨per, hper⟩ : ∃ per : Int, (N : Int) * (L.length : Int) = per := ⟨_, rfl⟩
 have hpb : 0 ≤ per ∧ per ≤ 30 * 200 := by
  rw [← hper]
  exact ⟨Int.mul_nonneg (by omega) (by omega), Int.mul_le_mul (by omega) (by omega) (by omega) (by omega)⟩
 by_cases hN : per = 0
 ·subst hN
  refine DCall.of Try.func5 sf5 hb5 (Nat.le_of_ble_eq_true rfl) (okRes_nil fun _ => rfl) ?_; simp only [s5, o5_0, o5_1, o5_2, o5_3, o5_4, o5_5, o5_6, o5_7, o5_8, o5_9, o5_10, o5_11, o5_12, o5_13, o5_14, o5_15, idxs, Nat.reduceAdd]
  repeat' (first|(with_reducible first|apply qA|apply qB|apply qC|apply qD|apply qE|apply qF)|(refine qL rfl (WF.of ?_) ?_; first|rfl|skip)|(refine DW.ord rfl (WF.of (by first|rfl|simp (disch:=omega) only [go_sem, simprocAttr, qN, qO, qP, qQ, ud5, tm80, tm30, tm20, l1, l2, d1, d2, hper, qsT])) ?_ ?_ ?_; rotate_left)|rfl|(with_reducible refine And.intro ?_ ?_)|(simp (disch:=omega) only [go_sem, simprocAttr, qN, qO, qP, qQ, ud5, tm80, tm30, tm20, l1, l2, d1, d2, hper, qsT])|exact qM rfl rfl rfl|(refine qG rfl ?_)|(refine qK (sp1) (by decide) ?_)|(refine qK (sp2) (by decide) ?_)|(refine qK (hL) (by decide) ?_)|(refine qK (hLy) (by decide) ?_)|(refine qK (hpr) (by decide) ?_)|(refine qH rfl ?_)|(refine qI rfl ?_ ?_<;>intro hc<;>(try simp only [go_sem] at hc))|(refine qJ ?_ ?_<;>intro hc<;>(try simp only [hc])<;>(try simp only [go_sem] at hc)))
 have hN1 : 1 ≤ per := by omega
 have hNp : 1 ≤ (N : Int) := by
  rcases Nat.eq_zero_or_pos N with h | h
  ·subst h; simp at hper; omega
  ·omega
 have hlo2 := (hle hNp).2
 rw [hper] at hlo2
 have p1 : (per == 0) = false := by rw [beq_eq_false_iff_ne]; omega
 have hq := prQuote ⟨1, 0, 0, 0, 0, 1, 0, per, 77, 0, []⟩ (qq_ok ⟨hN1, by omega⟩) (1 + (m : Int)) (by omega)
 have hu := up_law (n := 1 + (m : Int)) (by omega) hN1
 have hcF : costF ⟨1, 0, 0, 0, 0, 1, 0, per, 77, 0, []⟩ (1 + (m : Int)) = 77 * upI (1 + (m : Int)) per := rfl
 rw [dParts, hcF] at hq
 generalize costB ⟨1, 0, 0, 0, 0, 1, 0, per, 77, 0, []⟩ (1 + (m : Int)) = cb at hq
 generalize costS ⟨1, 0, 0, 0, 0, 1, 0, per, 77, 0, []⟩ (1 + (m : Int)) = cs at hq
 generalize costW ⟨1, 0, 0, 0, 0, 1, 0, per, 77, 0, []⟩ (1 + (m : Int)) = cw at hq
 generalize priceQ ⟨1, 0, 0, 0, 0, 1, 0, per, 77, 0, []⟩ (1 + (m : Int)) = pq at hq
 clear hcF
 generalize upI (1 + (m : Int)) per = u at *
 have hq : DCall Try.prog 24 [.agg [dI 1, dI 0, dI 0, dI 0, dI 0, dI 1, dI 0, dI per, dI 77, dI 0, .c (.v (.slice none 0 0))], dI (1 + (m : Int))] [] _ [] :=
  weakW hq (.cons (.agg (.cons (.refl _) (.cons (.refl _) (.cons (.refl _) (.cons (.refl _) (.cons (.refl _) (.cons (.refl _) (.cons (.refl _) (.cons (.refl _) (.cons (.refl _) (.cons (.refl _) (.cons (.nil false 2) .nil)))))))))))) (.cons (.refl _) .nil))
 have h77 := mul77 u (by omega)
 obtain ⟨U1, hU1⟩ : ∃ U1, u * per = U1 := ⟨_, rfl⟩
 obtain ⟨U2, hU2⟩ : ∃ U2, (u - 1) * per = U2 := ⟨_, rfl⟩
 obtain ⟨U3, hU3⟩ : ∃ U3, per * (50 * (g : Int) + 9) = U3 := ⟨_, rfl⟩
 have hU2' : U2 = U1 - per := by rw [← hU1, ← hU2, Int.sub_mul, Int.one_mul]
 have hU1b : U1 ≤ 65536 * 6000 := by rw [← hU1]; exact Int.mul_le_mul (by omega) (by omega) (by omega) (by omega)
 have hU3b : 0 ≤ U3 ∧ U3 ≤ 6000 * 13000 := by
  rw [← hU3]
  exact ⟨Int.mul_nonneg (by omega) (by omega), Int.mul_le_mul (by omega) (by omega) (by omega) (by omega)⟩
 have hlo3 : U3 ≤ 2000 * (d : Int) := by rw [← hU3]; exact hlo2
 rw [hU1, hU2] at hu
 have k1 : decide (1 ≤ u) = true := decide_eq_true (by omega)
 have k2 : decide (u ≤ 1 + (m : Int)) = true := decide_eq_true (by omega)
 have k3 : decide (1 + (m : Int) ≤ U1) = true := decide_eq_true (by omega)
 have k4 : decide (U2 < 1 + (m : Int)) = true := decide_eq_true (by omega)
 have k5 : decide (U3 ≤ 2000 * (d : Int)) = true := decide_eq_true hlo3
 have n1 : Int.tdiv (50 * (g : Int) + 99) 100 = newt (50 * (g : Int)) := newt_t (by omega)
 have n2 : Int.tdiv (50 * (g : Int) + 9 + 99) 100 = newt (50 * (g : Int) + 9) := newt_t (by omega)
 have n3 : 0 ≤ newt (50 * (g : Int)) ∧ newt (50 * (g : Int)) ≤ 100000 := by unfold newt; omega
 have n4 : 0 ≤ newt (50 * (g : Int) + 9) ∧ newt (50 * (g : Int) + 9) ≤ 100000 := by unfold newt; omega
 have hsn := puSpan (newt (50 * (g : Int))) (newt (50 * (g : Int) + 9))
 have hB : lodF (qsX e f g) = ⟨20 * (f : Int), 20 * (f : Int) + 5, newt (50 * (g : Int)), newt (50 * (g : Int) + 9)⟩ := rfl
 rw [hB] at hlo hF7
 clear hB hle hsl hrg hlo2 hlo3
 generalize hwl : newt (50 * (g : Int)) = wl at *
 generalize hwh : newt (50 * (g : Int) + 9) = wh at *
 obtain ⟨B, hB⟩ : ∃ B : Lod, B = ⟨20 * (f : Int), 20 * (f : Int) + 5, wl, wh⟩ := ⟨_, rfl⟩
 rw [← hB] at hlo hF7
 have hcf := crFall (List.replicate N B) (rep_ok hlo N) (by rw [List.length_replicate]; omega) qsT (w : Int) t0
 generalize fallR (List.replicate N B) (w : Int) qsT = F at *
 obtain ⟨x1, x2, x3⟩ := F
 obtain rfl : x3 = 7 := hF7
 dsimp only at hcf
 have hcf : DCall Try.prog 17 [.c (.sl true 4 (rows eLd (List.replicate N B))), .c (.sl true 2 (rows eK qsT)), dI w] [] _ [] := DCall.lbl hcf rfl (.sl (.sl (.same .nil)))
 refine DCall.of Try.func5 sf5 hb5 (Nat.le_of_ble_eq_true rfl) (okRes_nil fun _ => rfl) ?_; simp only [s5, o5_0, o5_1, o5_2, o5_3, o5_4, o5_5, o5_6, o5_7, o5_8, o5_9, o5_10, o5_11, o5_12, o5_13, o5_14, o5_15, idxs, Nat.reduceAdd]
 repeat' (first|(with_reducible first|apply qA|apply qB|apply qC|apply qD|apply qE|apply qF)|(refine qL rfl (WF.of ?_) ?_; first|rfl|skip)|(refine DW.ord rfl (WF.of (by first|rfl|simp (disch:=omega) only [go_sem, simprocAttr, qN, qO, qP, qQ, ud5, ud70, tm80, tm30, tm20, l1, l2, d1, d2, hper, p1, h77.1, h77.2, qsT])) ?_ ?_ ?_; rotate_left)|rfl|(with_reducible refine And.intro ?_ ?_)|(simp (disch:=omega) only [go_sem, simprocAttr, qN, qO, qP, qQ, ud5, ud70, tm80, tm30, tm20, l1, l2, d1, d2, hper, p1, h77.1, h77.2, qsT])|exact qM rfl rfl rfl|(refine qG rfl ?_)|(refine qK (sp1) (by decide) ?_)|(refine qK (sp2) (by decide) ?_)|(refine qK (hL) (by decide) ?_)|(refine qK (hLy) (by decide) ?_)|(refine qK (hq) (by decide) ?_)|(refine qH rfl ?_)|(refine qI rfl ?_ ?_<;>intro hc<;>(try simp only [go_sem] at hc))|(refine qJ ?_ ?_<;>intro hc<;>(try simp only [hc])<;>(try simp only [go_sem] at hc)))
 refine DW.loop (ι := { i : Nat // i ≤ N }) (fun i => ⟨224, [(21, dI i.1), (20, .own 153), (19, dI u), (15, dI (1 + (m : Int))), (14, dI per), (12, dI N), (9, .own 82), (8, .box 8 0), (7, .box 7 0), (1, dU w)], [(153, .row 4 (rowC (rows eLd (List.replicate i.1 B)))), (82, .row 2 (rowC (rows eK qsT))), (8, .box (xL (qsX e f g))), (7, .box [dI (qsB a b c d).lg, dI (qsB a b c d).wd, dI 12, dI 0, dI (60 + (c : Int)), dI (2000 * (d : Int))])]⟩) (fun i => N - i.1) ⟨0, Nat.zero_le _⟩ ?_ ?_
 ·refine Ent.to ?_ ?_ <;> simp (disch:=omega) only [qR,qS,qTw,qU,get,Nat.reduceEqDiff,↓reduceIte,qV,qW,qX,qY,qZ,and_self,dI,i64_in,and_true,true_and,rA,rB,rC,rD,List.replicate_zero]
  all_goals first | exact ⟨.refl _, .refl _, .refl _, .refl _⟩ | exact ⟨.refl _, .refl _, .refl _⟩ | exact ⟨.refl _, .refl _⟩ | exact .refl _
 rintro ⟨i, hi⟩
 dsimp only
 by_cases hik : i < N
 ·have hdi : decide ((i : Int) < (N : Int)) = true := decide_eq_true (by omega)
  have hrp : List.replicate (i + 1) B = List.replicate i B ++ [B] := List.replicate_succ'
  have hrl : (List.replicate i B).length ≤ 50 := by rw [List.length_replicate]; omega
  clear hcf
  generalize List.replicate i B = A at *
  have hsc2 := rowC_snocLd A B
  rw [← hrp] at hsc2
  generalize hA1 : List.replicate (i + 1) B = A1 at *
  rw [hB] at hsc2
  dsimp only at hsc2
  repeat' (first|(with_reducible first|apply qA|apply qB|apply qC|apply qD|apply qE|apply qF)|(refine qL rfl (WF.of ?_) ?_; first|rfl|skip)|(refine DW.ord rfl (WF.of (by first|rfl|simp (disch:=omega) only [go_sem, simprocAttr, qN, qO, qP, qQ, hdi, hsc2, qsX, n1, n2, hwl, hwh])) ?_ ?_ ?_; rotate_left)|rfl|(with_reducible refine And.intro ?_ ?_)|(simp (disch:=omega) only [go_sem, simprocAttr, qN, qO, qP, qQ, hdi, hsc2, qsX, n1, n2, hwl, hwh])|exact qM rfl rfl rfl|(refine qG rfl ?_)|(refine qK (hsn) (by decide) ?_)|(refine qH rfl ?_)|(refine qI rfl ?_ ?_<;>intro hc<;>(try simp only [go_sem] at hc))|(refine qJ ?_ ?_<;>intro hc<;>(try simp only [hc])<;>(try simp only [go_sem] at hc)))
  refine ⟨⟨i + 1, by omega⟩, ?_, Ent.to ?_ ?_⟩ <;> first | (show _ < _; (try simp only); omega) | (simp (disch:=omega) only [qR,qS,qTw,qU,get,Nat.reduceEqDiff,↓reduceIte,qV,qW,qX,qY,qZ,and_self,dI,i64_in,and_true,true_and,rA,rB,rC,rD, hsc2,hA1])
  all_goals first | exact ⟨.refl _, .refl _, .refl _⟩ | exact ⟨.refl _, .refl _⟩ | exact .refl _
 obtain rfl : i = N := by omega
 have hdi : decide ((i : Int) < (i : Int)) = false := decide_eq_false (by omega)
 repeat' (first|(with_reducible first|apply qA|apply qB|apply qC|apply qD|apply qE|apply qF)|(refine qL rfl (WF.of ?_) ?_; first|rfl|skip)|(refine DW.ord rfl (WF.of (by first|rfl|simp (disch:=omega) only [go_sem, simprocAttr, qN, qO, qP, qQ, hdi, ud5, qsX, hU1, hU2, hU3, k1, k2, k3, k4, k5])) ?_ ?_ ?_; rotate_left)|rfl|(with_reducible refine And.intro ?_ ?_)|(simp (disch:=omega) only [go_sem, simprocAttr, qN, qO, qP, qQ, hdi, ud5, qsX, hU1, hU2, hU3, k1, k2, k3, k4, k5])|exact qM rfl rfl rfl|(refine qG rfl ?_)|(refine qK (hcf) (by decide) ?_)|(refine qK (hpr) (by decide) ?_)|(refine qH rfl ?_)|(refine qI rfl ?_ ?_<;>intro hc<;>(try simp only [go_sem] at hc))|(refine qJ ?_ ?_<;>intro hc<;>(try simp only [hc])<;>(try simp only [go_sem] at hc)))
end Go.Dw.Seat.Pa
end
section
set_option linter.unusedSimpArgs false
set_option maxRecDepth 100000
namespace Go.Dw.Seat.Pa
open Go Go.Dw Go.Proofs Go.ChangeShapes Go.WideShapes Go.ChangeAt Go.RowKit
theorem tOwn : ownKnob Try.prog.godebug = none := by kernel_rfl
theorem tLaid : laidOutB Try.prog = true := by kernel_rfl
theorem u4 : Try.prog.underlying 4 = some .bool := by kernel_rfl
theorem uT5 : Try.prog.underlying 5 = some (.int .u8) := by kernel_rfl
theorem clT5 : Try.prog.cellsOf 5 = 1 := by kernel_rfl
def bV (l : List Nat) : List Value := l.map fun n : Nat => Value.int .u8 (n : Int)
section
variable {H : Type} {enc : TypeId × Value → H} {w : World} {base : Nat} {spare : Nat → Bool} {held : Bool}
theorem wf8 {n : Int} (h : (Lit.int .u8 n).wf = true) : ∃ v : Nat, n = v ∧ v < 256 := by
 have e1 : IntKind.min .u8 = 0 := by decide
 have e2 : IntKind.max .u8 = 255 := by decide
 simp only [Lit.wf, e1, e2, Bool.and_eq_true, decide_eq_true_eq] at h
 exact ⟨n.toNat, by omega, by omega⟩
theorem rep_bytes : ∀ l : List Nat, RepVs w A0 (eN l) (bV l)
 | [] => rfl
 | _ :: l => ⟨_, _, rfl, ⟨rfl, rfl⟩, rep_bytes l⟩
theorem rd_Byte {fuel : Nat} {cs : List Value} {x : DataW H × List MemPlace} (h : DataW.trod enc Try.prog w base spare held fuel 5 cs = some x) : ∃ v : Nat, cs = [.int .u8 v] ∧ v < 256 := by
 obtain ⟨n, e, hw⟩ := rd_int uT5 h
 obtain ⟨v, rfl, hv⟩ := wf8 hw
 exact ⟨v, e, hv⟩
theorem rd_U8 {fuel : Nat} {cs : List Value} {x : DataW H × List MemPlace} (h : DataW.trod enc Try.prog w base spare held fuel 5 cs = some x) : ∃ l : List Nat, (l.length = 1 ∧ AllLt 256 l) ∧ cs = bV l := by
 obtain ⟨n, e, hw⟩ := rd_int uT5 h
 obtain ⟨v, rfl, hv⟩ := wf8 hw
 exact ⟨[v], ⟨rfl, fun x hx => by rw [List.mem_singleton] at hx; rw [hx]; exact hv⟩, e⟩
theorem bV_app (a b : List Nat) : bV (a ++ b) = bV a ++ bV b := by simp [bV]
theorem lt_app {b : Nat} {l l' : List Nat} (h : AllLt b l) (h' : AllLt b l') : AllLt b (l ++ l') := fun x hx => by
 rcases List.mem_append.1 hx with h1 | h1
 ·exact h x h1
 ·exact h' x h1
theorem rd_arrB {fuel : Nat} {cs : List Value} {x : DataW H × List MemPlace} {t e : TypeId} {n k : Nat} (ht : Try.prog.underlying t = some (.array n e)) (he : Try.prog.cellsOf e = k) (hc : Try.prog.cellsOf t = n * k)
  (hrd : ∀ m cs x, DataW.trod enc Try.prog w base spare held m e cs = some x → ∃ l : List Nat, (l.length = k ∧ AllLt 256 l) ∧ cs = bV l) (h : DataW.trod enc Try.prog w base spare held fuel t cs = some x) : ∃ l : List Nat, (l.length = n * k ∧ AllLt 256 l) ∧ cs = bV l := by
 obtain ⟨hl, m, hf⟩ := rd_array ht h
 rw [hc] at hl
 have key : ∀ j, j ≤ n → ∃ l : List Nat, (l.length = j * k ∧ AllLt 256 l) ∧ cs.take (j * k) = bV l := by
  intro j
  induction j with
  | zero => intro _; exact ⟨[], ⟨by simp, fun x hx => by cases hx⟩, by simp [bV]⟩
  | succ j ih =>
   intro hj
   obtain ⟨l, ⟨h1, h2⟩, h3⟩ := ih (by omega)
   obtain ⟨y, hy⟩ := hf j (by omega)
   rw [he] at hy
   obtain ⟨l', ⟨h4, h5⟩, h6⟩ := hrd _ _ _ hy
   refine ⟨l ++ l', ⟨by rw [List.length_append, h1, h4, Nat.succ_mul], lt_app h2 h5⟩, ?_⟩
   rw [Nat.succ_mul, List.take_add, h3, h6, bV_app]
 obtain ⟨l, h1, h2⟩ := key n (Nat.le_refl _)
 rw [List.take_of_length_le (by omega)] at h2
 exact ⟨l, h1, h2⟩
theorem uT69 : Try.prog.underlying 69 = some (.array 7 5) := by kernel_rfl
theorem clT69 : Try.prog.cellsOf 69 = 7 := by kernel_rfl
theorem rd_T69 {fuel : Nat} {cs : List Value} {x : DataW H × List MemPlace} (h : DataW.trod enc Try.prog w base spare held fuel 69 cs = some x) : ∃ l : List Nat, (l.length = 7 ∧ AllLt 256 l) ∧ cs = bV l := rd_arrB (n := 7) (k := 1) uT69 clT5 clT69 (fun _ _ _ h => rd_U8 h) h
theorem uT70 : Try.prog.underlying 70 = some (.int .u16) := by kernel_rfl
theorem rd_U16 {fuel : Nat} {cs : List Value} {x : DataW H × List MemPlace} (h : DataW.trod enc Try.prog w base spare held fuel 70 cs = some x) : ∃ v : Nat, cs = [.int .u16 v] ∧ v < 65536 := by
 obtain ⟨n, e, hw⟩ := rd_int uT70 h
 have e1 : IntKind.min .u16 = 0 := by decide
 have e2 : IntKind.max .u16 = 65535 := by decide
 simp only [Lit.wf, e1, e2, Bool.and_eq_true, decide_eq_true_eq] at hw
 obtain ⟨v, rfl⟩ : ∃ v : Nat, n = v := ⟨n.toNat, by omega⟩
 exact ⟨v, e, by omega⟩
end
set_option maxHeartbeats 800000 in
theorem topQuotePalletsLifted (os : Os) (started : os.Started) (H : Type) (enc : TypeId × Value → H) :
  ReturnsInHanded {} Try.checked os 5 .any (Ytkkbfndajnmhmaa.Rows.topQuotePalletsSpec.pre6 enc Try.prog Try.f5 Ytkkbfndajnmhmaa.Rows.topQuotePalletsRow.domain false) (Ytkkbfndajnmhmaa.Rows.topQuotePalletsSpec.post enc Try.prog Try.f5 false true false false) := by
 refine returnsInHanded_of_change (C := Try.checked) tOwn started (by kernel_rfl) Try.func5
  (ChangeSpec.witness6 (enc := enc) (C := Try.checked) false ⟨#[], #[.agg #[.int .u8 0, .int .u8 0, .int .u8 0, .int .u8 0, .int .u8 0, .int .u8 0, .int .u8 0], .int .u8 0, .int .u16 0], []⟩ 8 (by kernel_rfl) (by kernel_rfl) (by kernel_rfl) (by kernel_rfl)) ?_
 intro W base args ds gs before hval0 hW _ _
 have hval : ∀ (j : Nat) t v, Try.f5.params[j]? = some t → args[j]? = some v → Value.okWide Try.prog W .any base t v := hval0
 have hW' : DataW.Whole enc Try.prog Try.f5.params.toList [] false W args.toList ds gs before := hW
 obtain ⟨p, q, hA, hV, rfl, hfz, hnd⟩ := hW
 have hA : DataW.TrodAll enc Try.prog W 0 (fun _ => true) true [69, 5, 70] args.toList ds p := hA
 obtain ⟨rfl, rfl⟩ := trodVars_none hV
 obtain ⟨v0, vs0, d0, ds0, p0, q0, hargs, rfl, rfl, h0, r0⟩ := trodAll_cons hA
 obtain ⟨v1, vs1, d1, ds1, p1, q1, rfl, rfl, rfl, h1, r1⟩ := trodAll_cons r0
 obtain ⟨v2, vs2, d2, ds2, p2, q2, rfl, rfl, rfl, h2, r2⟩ := trodAll_cons r1
 obtain ⟨rfl, rfl, rfl⟩ := trodAll_nil r2
 obtain rfl : args = #[v0, v1, v2] := by cases args; simp_all
 obtain ⟨c0, rfl, _⟩ := okWide_array uT69 (hval 0 69 v0 rfl rfl)
 obtain ⟨n1, rfl⟩ := okWide_int uT5 (hval 1 5 v1 rfl rfl)
 obtain ⟨n2, rfl⟩ := okWide_int uT70 (hval 2 70 v2 rfl rfl)
 obtain ⟨fu0, h0⟩ := h0
 obtain ⟨fu1, h1⟩ := h1
 obtain ⟨fu2, h2⟩ := h2
 obtain ⟨s0, ho0, e0⟩ := rd_T69 h0
 have hr0 : RepVs W A0 (eN s0) c0.toList := by
  have e : c0.toList = bV s0 := by simpa [Value.cells] using e0
  rw [e]; exact rep_bytes s0
 obtain ⟨s1, e1, ho1⟩ := rd_Byte h1
 have e1 : n1 = s1 := by simpa [Value.cells] using e1
 subst e1
 obtain ⟨s2, e2, ho2⟩ := rd_U16 h2
 have e2 : n2 = s2 := by simpa [Value.cells] using e2
 subst e2
 refine ((tpQuotePallets s0 ho0 s1 ho1 s2 ho2).calls (W := W) (vs := [.agg c0, .int .u8 s1, .int .u16 s2]) (laid0 W) (fun G => ?_)).mono ?_
 ·exact ⟨_, _, rfl, ⟨c0, rfl, RepDs.ofVs hr0⟩, _, _, rfl, ⟨rfl, rfl⟩, _, _, rfl, ⟨rfl, rfl⟩, rfl⟩
 ·rintro e W' ⟨v, rfl, ⟨G', A', hr⟩, hb⟩
  obtain ⟨rfl, _⟩ := hr
  exact ⟨_, rfl, post_true tLaid (by decide +kernel) hW' hb rfl rfl u4 rfl rfl rfl⟩
theorem topQuotePalletsHolds : Ytkkbfndajnmhmaa.Rows.topQuotePalletsRow.holds Ytkkbfndajnmhmaa.Try.pinned (OpenSpec.ofChange Ytkkbfndajnmhmaa.Rows.topQuotePalletsSpec) :=
 OpenClaim.holds_of_wide 5 Try.f5 rfl rfl rfl rfl rfl rfl rfl ⟨rfl, rfl, rfl, rfl, rfl⟩ rfl rfl rfl rfl rfl (by kernel_rfl) Try.func5 (by kernel_rfl)
  (of_decide_eq_true (by kernel_rfl)) (by unfold Func.isWrapper; first | (rw [if_pos (by decide +kernel)]; kernel_rfl) | (rw [if_neg (by decide +kernel)]; exact ⟨rfl, rfl⟩))
  (fun os started H enc _ => topQuotePalletsLifted os started H enc)
end Go.Dw.Seat.Pa
namespace Go.Proofs.Ytkkbfndajnmhmaa
theorem topQuotePalletsSaid : Rows.TopQuotePalletsSaid := Go.Dw.Seat.Pa.topQuotePalletsHolds
end Go.Proofs.Ytkkbfndajnmhmaa
end
