/- The law TopTrimPaper returns true for every input, and changes nothing that was there before: the full statement TopTrimPaperSaid, without conditions. -/
import Derived.Test.YtalhglghjfdgkaaB01
import Derived.Test.YtalhglghjfdgkaaRows
import Derived.ProofKit
import Derived.OpenShut
set_option linter.unusedVariables false
set_option linter.unusedSimpArgs false
section
set_option linter.unusedSimpArgs false
set_option maxRecDepth 100000
namespace Go.Dw.Seat
open Go Go.Dw Go.Proofs Go.IntWalk
theorem bdForm (m : Mak) (s : Sto) (h : m.ok s) : DCall Try.prog 144 [dMak m] [] (bD true) [] := by
 have hf := h.nf
 have hn := h.np
 have h1 := bdIn true 1 2 [(m.flutes.length : Int)] (by simp) (by simp; omega)
 have h2 := bdKinds m.flutes.length (by omega)
 have hl := kindsL_len m.flutes.length
 have hd : ((m.papers.length : Int) == ((kindsL m.flutes.length).length : Int)) = true := by rw [hl, hn]; simp
 refine DCall.of Try.func144 sf144 hb144 (Nat.le_of_ble_eq_true rfl) (okRes_nil fun _ => rfl) ?_; simp only [s144, idxs, Nat.reduceAdd]
 repeat' (first|(with_reducible first|apply qA|apply qB|apply qC|apply qD|apply qE|apply qF)|(refine qL rfl (WF.of ?_) ?_; first|rfl|skip)|(simp (disch:=omega) only [go_sem, simprocAttr, qN, qO, qP, qQ, hd, nL_length])|exact qM rfl rfl rfl|(refine qG rfl ?_)|(refine qK (h1) (by decide) ?_)|(refine qK (h2) (by decide) ?_)|(refine qH rfl ?_)|(refine qI rfl ?_ ?_<;>intro hc<;>(try simp only [go_sem] at hc))|(refine qJ ?_ ?_<;>intro hc<;>(try simp only [hc])<;>(try simp only [go_sem] at hc)))
theorem nL_at {l : List Nat} {i v : Nat} (h : l[i]? = some v) : (nL l)[i]? = some (v : Int) := by rw [nL_get, h]; rfl
theorem bdMade (s : Sto) (m : Mak) (hs : s.ok) (h : m.ok s) : DCall Try.prog 107 [dSto s, dMak m] [] (dI 0) [] := by
 have hf := h.nf
 have hn := h.np
 have hsp := hs.np
 have hsf := hs.nf
 have h1 := bdCheck s hs
 have h2 := bdForm m s h
 have h3 := bdIn false 0 ((s.papers.length : Int) - 1) (nL m.papers) (by rw [nL_length]; omega) (fun v hv => by
  obtain ⟨n, hn, rfl⟩ := List.mem_map.1 hv
  have := h.papers n hn
  omega)
 have h4 := bdIn false 0 ((s.flutes.length : Int) - 1) (nL m.flutes) (by rw [nL_length]; omega) (fun v hv => by
  obtain ⟨n, hn, rfl⟩ := List.mem_map.1 hv
  have := h.flutes n hn
  omega)
 have h5 := bdKinds m.flutes.length (by omega)
 have hl := kindsL_len m.flutes.length
 have hk := kindsL_get m.flutes.length
 have hkl : (kindsL m.flutes.length).length ≤ 5 := by omega
 refine DCall.of Try.func107 sf107 hb107 (Nat.le_of_ble_eq_true rfl) (okRes_nil fun _ => rfl) ?_; simp only [s107, idxs, Nat.reduceAdd]
 repeat' (first|(with_reducible first|apply qA|apply qB|apply qC|apply qD|apply qE|apply qF)|(refine qL rfl (WF.of ?_) ?_; first|rfl|skip)|(simp (disch:=omega) only [go_sem, simprocAttr, qN, qO, qP, qQ, nL_length])|exact qM rfl rfl rfl|(refine qG rfl ?_)|(refine qK (h1) (by decide) ?_)|(refine qK (h2) (by decide) ?_)|(refine qK (h3) (by decide) ?_)|(refine qK (h4) (by decide) ?_)|(refine qK (h5) (by decide) ?_)|(refine qH rfl ?_)|(refine qI rfl ?_ ?_<;>intro hc<;>(try simp only [go_sem] at hc))|(refine qJ ?_ ?_<;>intro hc<;>(try simp only [hc])<;>(try simp only [go_sem] at hc)))
 refine DW.loop (ι := { i : Nat // i ≤ m.papers.length }) (fun i => ⟨57, [(39, dI i.1), (38, dI (kindsL m.flutes.length).length), (37, .c (.sl false 1 (rows eI (kindsL m.flutes.length)))), (3, .box 3 0), (2, .box 2 0)], [(3, .box [.c (.sl false 1 (rows eI (nL m.papers))), .c (.sl false 1 (rows eI (nL m.flutes)))]), (2, .box [.c (.sl false 8 (rows eP s.papers)), .c (.sl false 4 (rows eF s.flutes))])]⟩) (fun i => m.papers.length - i.1) ⟨0, Nat.zero_le _⟩ ?_ ?_
 ·refine Ent.to ?_ ?_ <;> simp (disch:=omega) only [qR,qS,qTw,qU,get,Nat.reduceEqDiff,↓reduceIte,qV,qW,qX,qY,qZ,and_self,dI,i64_in,and_true,true_and,rA,rB,rC,rD]
 rintro ⟨i, hi⟩
 rcases Nat.lt_or_ge i m.papers.length with hlt | hge
 ·have hd : decide ((i : Int) < ((kindsL m.flutes.length).length : Int)) = true := by rw [decide_eq_true_eq]; omega
  have hki := hk i (by omega)
  obtain ⟨v, hv⟩ := getE (l := m.papers) (i := i) hlt
  have hv' := nL_at hv
  have hvs := h.papers v (List.mem_of_getElem? hv)
  obtain ⟨p, hp⟩ := getE (l := s.papers) (i := v) hvs
  have hpk := h.kind i v p hv hp
  have hl1 : (nL m.papers).length = m.papers.length := nL_length _
  rw [← hpk] at hki
  have hne : (p.kind != p.kind) = false := by simp
  generalize kindsL m.flutes.length = k at *
  repeat' (first|(with_reducible first|apply qA|apply qB|apply qC|apply qD|apply qE|apply qF)|(refine qL rfl (WF.of ?_) ?_; first|rfl|skip)|(simp (disch:=omega) only [go_sem, simprocAttr, qN, qO, qP, qQ, hd, hki, hv', hp, hl1, hne, rF, rG])|exact qM rfl rfl rfl|(refine qG rfl ?_)|(refine qH rfl ?_)|(refine qI rfl ?_ ?_<;>intro hc<;>(try simp only [go_sem] at hc))|(refine qJ ?_ ?_<;>intro hc<;>(try simp only [hc])<;>(try simp only [go_sem] at hc)))
  refine ⟨⟨i + 1, hlt⟩, ?_, Ent.to ?_ ?_⟩ <;> first | (show _ < _; (try simp only); omega) | (simp (disch:=omega) only [qR,qS,qTw,qU,get,Nat.reduceEqDiff,↓reduceIte,qV,qW,qX,qY,qZ,and_self,dI,i64_in,and_true,true_and,rA,rB,rC,rD])
 ·have hd : decide ((i : Int) < ((kindsL m.flutes.length).length : Int)) = false := by rw [decide_eq_false_iff_not]; omega
  repeat' (first|(with_reducible first|apply qA|apply qB|apply qC|apply qD|apply qE|apply qF)|(refine qL rfl (WF.of ?_) ?_; first|rfl|skip)|(simp (disch:=omega) only [go_sem, simprocAttr, qN, qO, qP, qQ, hd])|exact qM rfl rfl rfl|(refine qG rfl ?_)|(refine qH rfl ?_)|(refine qI rfl ?_ ?_<;>intro hc<;>(try simp only [go_sem] at hc))|(refine qJ ?_ ?_<;>intro hc<;>(try simp only [hc])<;>(try simp only [go_sem] at hc)))
def papAt (s : Sto) (n : Nat) : Pap := s.papers[n]?.getD ⟨0, 0, 0, 0, 0, 0, 0, 0⟩
def fluAt (s : Sto) (n : Nat) : Flu := s.flutes[n]?.getD ⟨0, 0, 0, 0⟩
theorem papAt_get {s : Sto} {n : Nat} (h : n < s.papers.length) : s.papers[n]? = some (papAt s n) := by
 rw [papAt, List.getElem?_eq_getElem h]; rfl
theorem fluAt_get {s : Sto} {n : Nat} (h : n < s.flutes.length) : s.flutes[n]? = some (fluAt s n) := by
 rw [fluAt, List.getElem?_eq_getElem h]; rfl
theorem papAt_ok {s : Sto} {n : Nat} (hs : s.ok) (h : n < s.papers.length) : (papAt s n).ok := hs.papers _ (List.mem_of_getElem? (papAt_get h))
theorem fluAt_ok {s : Sto} {n : Nat} (hs : s.ok) (h : n < s.flutes.length) : (fluAt s n).ok := hs.flutes _ (List.mem_of_getElem? (fluAt_get h))
def wholeF (s : Sto) (w : Int) (l : List Nat) : Int := l.foldl (fun w n => w * (fluAt s n).pitch) w
theorem wholeF_take (s : Sto) (w : Int) {l : List Nat} {i v : Nat} (h : l[i]? = some v) : wholeF s w (l.take (i + 1)) = wholeF s w (l.take i) * (fluAt s v).pitch := by
 rw [List.take_add_one, h]
 simp only [wholeF, Option.toList_some, List.foldl_append, List.foldl_cons, List.foldl_nil]
theorem wholeF_b (s : Sto) (hs : s.ok) : ∀ (l : List Nat), (∀ n ∈ l, n < s.flutes.length) → l.length ≤ 2 → 1 ≤ wholeF s 1 l ∧ wholeF s 1 l ≤ 100000000
 | [], _, _ => by simp [wholeF]
 | [a], h, _ => by
  have := (fluAt_ok hs (h a (by simp))).pitch
  simp only [wholeF, List.foldl_cons, List.foldl_nil]
  omega
 | [a, b], h, _ => by
  have h1 := (fluAt_ok hs (h a (by simp))).pitch
  have h2 := (fluAt_ok hs (h b (by simp))).pitch
  simp only [wholeF, List.foldl_cons, List.foldl_nil, Int.one_mul]
  have h3 := mulB0 (a := (fluAt s a).pitch) (b := (fluAt s b).pitch) (A := 10000) (B := 10000) (by omega) (by omega)
  have h4 : 1 * 1 ≤ (fluAt s a).pitch * (fluAt s b).pitch := Int.mul_le_mul (by omega) (by omega) (by decide) (by omega)
  omega
 | a :: b :: c :: l, _, h => by simp at h
abbrev dShe (s : Sto) (m : Mak) (w : Int) : D := .agg [.c (.sl false 1 (rows eI (nL m.papers))), .c (.sl false 1 (rows eI (nL m.flutes))), .c (.sl false 8 (rows eP s.papers)), .c (.sl false 4 (rows eF s.flutes)), dI w]
attribute [go_sem] dShe
def wholeI (s : Sto) (m : Mak) : Int := wholeF s 1 m.flutes
theorem bdSheetOf (s : Sto) (m : Mak) (hs : s.ok) (h : m.ok s) : DCall Try.prog 108 [dSto s, dMak m] [] (dShe s m (wholeI s m)) [] := by
 have hf := h.nf
 have hl1 : (nL m.flutes).length = m.flutes.length := nL_length _
 refine DCall.of Try.func108 sf108 hb108 (Nat.le_of_ble_eq_true rfl) (okRes_nil fun _ => rfl) ?_; simp only [s108, idxs, Nat.reduceAdd]
 repeat' (first|(with_reducible first|apply qA|apply qB|apply qC|apply qD|apply qE|apply qF)|(refine qL rfl (WF.of ?_) ?_; first|rfl|skip)|(simp (disch:=omega) only [go_sem, simprocAttr, qN, qO, qP, qQ, hl1])|exact qM rfl rfl rfl|(refine qG rfl ?_)|(refine qH rfl ?_)|(refine qI rfl ?_ ?_<;>intro hc<;>(try simp only [go_sem] at hc))|(refine qJ ?_ ?_<;>intro hc<;>(try simp only [hc])<;>(try simp only [go_sem] at hc)))
 refine DW.loop (ι := { i : Nat // i ≤ m.flutes.length }) (fun i => ⟨30, [(14, dI i.1), (13, dI m.flutes.length), (12, .c (.sl false 1 (rows eI (nL m.flutes)))), (5, .box 5 0), (4, .box 4 0), (2, .box 2 0)], [(5, .box [.c (.sl false 1 (rows eI (nL m.papers))), .c (.sl false 1 (rows eI (nL m.flutes))), .c (.sl false 8 (rows eP s.papers)), .c (.sl false 4 (rows eF s.flutes)), dI (wholeF s 1 (m.flutes.take i.1))]), (4, .box [.c (.v (.slice none 0 0)), .c (.v (.slice none 0 0)), .c (.v (.slice none 0 0)), .c (.v (.slice none 0 0)), dI 0]), (2, .box [.c (.sl false 8 (rows eP s.papers)), .c (.sl false 4 (rows eF s.flutes))])]⟩) (fun i => m.flutes.length - i.1) ⟨0, Nat.zero_le _⟩ ?_ ?_
 ·refine Ent.to ?_ ?_ <;> simp (disch:=omega) only [qR,qS,qTw,qU,get,Nat.reduceEqDiff,↓reduceIte,qV,qW,qX,qY,qZ,and_self,dI,i64_in,and_true,true_and,rA,rB,rC,rD,List.take_zero,wholeF,List.foldl_nil]
 rintro ⟨i, hi⟩
 rcases Nat.lt_or_ge i m.flutes.length with hlt | hge
 ·have hd : decide ((i : Int) < (m.flutes.length : Int)) = true := by rw [decide_eq_true_eq]; omega
  obtain ⟨v, hv⟩ := getE (l := m.flutes) (i := i) hlt
  have hv' := nL_at hv
  have hvs := h.flutes v (List.mem_of_getElem? hv)
  have hp := fluAt_get hvs
  have hnx := wholeF_take s 1 hv
  have hb := wholeF_b s hs (m.flutes.take (i + 1)) (fun n hn => h.flutes n (List.mem_of_mem_take hn)) (by rw [List.length_take]; omega)
  rw [hnx] at hb
  repeat' (first|(with_reducible first|apply qA|apply qB|apply qC|apply qD|apply qE|apply qF)|(refine qL rfl (WF.of ?_) ?_; first|rfl|skip)|(simp (disch:=omega) only [go_sem, simprocAttr, qN, qO, qP, qQ, hd, hv', hp, rF, rG])|exact qM rfl rfl rfl|(refine qG rfl ?_)|(refine qH rfl ?_)|(refine qI rfl ?_ ?_<;>intro hc<;>(try simp only [go_sem] at hc))|(refine qJ ?_ ?_<;>intro hc<;>(try simp only [hc])<;>(try simp only [go_sem] at hc)))
  refine ⟨⟨i + 1, hlt⟩, ?_, Ent.to ?_ ?_⟩ <;> first | (show _ < _; (try simp only); omega) | (simp (disch:=omega) only [qR,qS,qTw,qU,get,Nat.reduceEqDiff,↓reduceIte,qV,qW,qX,qY,qZ,and_self,dI,i64_in,and_true,true_and,rA,rB,rC,rD, hnx])
  all_goals exact .refl _
 ·obtain rfl : i = m.flutes.length := by omega
  have hd : decide ((m.flutes.length : Int) < (m.flutes.length : Int)) = false := by rw [decide_eq_false_iff_not]; omega
  have hw : wholeI s m = wholeF s 1 (m.flutes.take m.flutes.length) := by rw [List.take_length]; rfl
  rw [hw]
  repeat' (first|(with_reducible first|apply qA|apply qB|apply qC|apply qD|apply qE|apply qF)|(refine qL rfl (WF.of ?_) ?_; first|rfl|skip)|(simp (disch:=omega) only [go_sem, simprocAttr, qN, qO, qP, qQ, hd])|exact qM rfl rfl rfl|(refine qG rfl ?_)|(refine qH rfl ?_)|(refine qI rfl ?_ ?_<;>intro hc<;>(try simp only [go_sem] at hc))|(refine qJ ?_ ?_<;>intro hc<;>(try simp only [hc])<;>(try simp only [go_sem] at hc)))
  refine retS_wk rfl ?_ (by simp only [Blk.nb, rowC_nb, D.nb, D.nbs, C.nb, C.nbs, C.nbss, rows_nb eI_nb, Bool.and_true, Bool.not_false, Bool.and_self, bD, dI, iD, rows_nb eP_nb, rows_nb eF_nb]); exact .refl _
theorem bdNew (s : Sto) (m : Mak) (hs : s.ok) (h : m.ok s) : DCall Try.prog 59 [dSto s, dMak m] [] (.tup [dShe s m (wholeI s m), dI 0]) [] := by
 have h1 := bdMade s m hs h
 have h2 := bdSheetOf s m hs h
 refine DCall.of Try.func59 sf59 hb59 (Nat.le_of_ble_eq_true rfl) (okRes_nil fun _ => rfl) ?_; simp only [s59, idxs, Nat.reduceAdd]
 repeat' (first|(with_reducible first|apply qA|apply qB|apply qC|apply qD|apply qE|apply qF)|(simp (disch:=omega) only [go_sem, simprocAttr, qN, qO, qP, qQ])|exact qM rfl rfl rfl|(refine qG rfl ?_)|(refine qK (h1) (by decide) ?_)|(refine qK (h2) (by decide) ?_)|(refine qH rfl ?_)|(refine qI rfl ?_ ?_<;>intro hc<;>(try simp only [go_sem] at hc))|(refine qJ ?_ ?_<;>intro hc<;>(try simp only [hc])<;>(try simp only [go_sem] at hc)))
 refine retS_wk rfl ?_ (by simp only [Blk.nb, rowC_nb, D.nb, D.nbs, C.nb, C.nbs, C.nbss, rows_nb eI_nb, Bool.and_true, Bool.not_false, Bool.and_self, bD, dI, iD, rows_nb eP_nb, rows_nb eF_nb]); exact .tup (.cons (.refl _) (.cons (.refl _) .nil))
theorem drop_at {α : Type} {l : List α} {i : Nat} {v : α} (h : l[i]? = some v) : l.drop i = v :: l.drop (i + 1) := by
 obtain ⟨hi, rfl⟩ := List.getElem?_eq_some_iff.1 h
 exact List.drop_eq_getElem_cons hi
def partsAt (s : Sto) (m : Mak) (i : Nat) : Int := if i % 2 = 1 then (wholeI s m).tdiv (fluAt s (m.flutes[i / 2]?.getD 0)).pitch * (fluAt s (m.flutes[i / 2]?.getD 0)).draw else wholeI s m
def layersL (s : Sto) (m : Mak) : List (Nat × Int) := m.papers.zipIdx.map fun e => (e.1, partsAt s m e.2)
theorem layersL_get {s : Sto} {m : Mak} {i v : Nat} (h : m.papers[i]? = some v) : (layersL s m)[i]? = some (v, partsAt s m i) := by
 simp [layersL, h]
theorem layersL_len (s : Sto) (m : Mak) : (layersL s m).length = m.papers.length := by simp [layersL]
def enLay (e : Nat × Int) : List D := [dI e.1, dI e.2]
def okLay (s : Sto) (e : Nat × Int) : Prop := e.1 < s.papers.length ∧ 0 ≤ e.2 ∧ e.2 ≤ 200000000
theorem flute_at {s : Sto} {m : Mak} (h : m.ok s) {i : Nat} (hi : i < m.papers.length) (ho : i % 2 = 1) : m.flutes[i / 2]? = some (m.flutes[i / 2]?.getD 0) ∧ (m.flutes[i / 2]?.getD 0) < s.flutes.length := by
 have h1 := h.np
 obtain ⟨v, hv⟩ := getE (l := m.flutes) (i := i / 2) (by omega)
 rw [hv]
 exact ⟨rfl, h.flutes v (List.mem_of_getElem? hv)⟩
theorem wholeI_b {s : Sto} {m : Mak} (hs : s.ok) (h : m.ok s) : 1 ≤ wholeI s m ∧ wholeI s m ≤ 100000000 := wholeF_b s hs m.flutes h.flutes h.nf.2
theorem partsAt_b {s : Sto} {m : Mak} (hs : s.ok) (h : m.ok s) {i : Nat} (hi : i < m.papers.length) : 0 ≤ partsAt s m i ∧ partsAt s m i ≤ 200000000 := by
 have hw := wholeI_b hs h
 unfold partsAt
 split
 ·rename_i ho
  have hf := fluAt_ok hs (flute_at h hi ho).2
  have h1 := hf.pitch
  have h2 := hf.draw
  generalize fluAt s (m.flutes[i / 2]?.getD 0) = f at *
  generalize wholeI s m = w at *
  rw [Int.tdiv_eq_ediv_of_nonneg (by omega)]
  have q0 : 0 ≤ w / f.pitch := Int.ediv_nonneg (by omega) (by omega)
  have q1 : w / f.pitch * f.pitch ≤ w := Int.ediv_mul_le w (by omega)
  have q2 : w / f.pitch * f.draw ≤ w / f.pitch * (2 * f.pitch) := Int.mul_le_mul_of_nonneg_left h2.2 q0
  have q3 : 0 ≤ w / f.pitch * f.draw := Int.mul_nonneg q0 (by omega)
  have q4 : w / f.pitch * (2 * f.pitch) = 2 * (w / f.pitch * f.pitch) := by rw [Int.mul_left_comm]
  omega
 ·omega
attribute [go_sem] enLay
theorem bdLayers (s : Sto) (m : Mak) (hs : s.ok) (h : m.ok s) : ItD Try.prog 61 [dShe s m (wholeI s m)] [] enLay (okLay s) (layersL s m) := by
 intro ly β H stp live hW hY b0 hl0
 have hH : ∀ b, HidOk (H b) := fun b => (hW b).toHidOk
 have hw := wholeI_b hs h
 refine DCall.of Try.func61 sf61 hb61 (Nat.le_of_ble_eq_true rfl) (hH _).res ?_
 simp only [s61, idxs, Nat.reduceAdd, List.map_nil, List.map_cons, List.nil_append, List.cons_append]
 have f1 := hid_get (hH b0)
 have f2 := hid_ins (hH b0)
 have f3 := (hH b0).men
 have f4 := (hH b0).lo
 have f5 : ∀ k x, k < 1000 → ins k x (H b0) = H b0 ++ [(k, x)] := fun k x hk => by have := f2 k hk x []; rwa [List.append_nil] at this
 have hl1 : (nL m.papers).length = m.papers.length := nL_length _
 have hn5 : m.papers.length ≤ 5 := by have := h.np; have := h.nf; omega
 repeat' (first|(with_reducible first|apply qA|apply qB|apply qC|apply qD|apply qE|apply qF)|(refine qL rfl (WF.of ?_) ?_; first|rfl|skip)|(simp (disch:=omega) only [go_sem, simprocAttr, qN, qO, qP, qQ, f1, f2, f3, f4, f5, ins, hl1])|exact qM rfl rfl rfl|(refine qG rfl ?_)|(refine qH rfl ?_)|(refine qI rfl ?_ ?_<;>intro hc<;>(try simp only [go_sem] at hc))|(refine qJ ?_ ?_<;>intro hc<;>(try simp only [hc])<;>(try simp only [go_sem] at hc)))
 refine DW.ent (Ent.comm (hH b0) rfl).1 ?_
 refine DW.loop (ι := { y : Nat × β // y.1 ≤ m.papers.length ∧ live y.2 ∧ runB stp b0 (layersL s m) = runB stp y.2 ((layersL s m).drop y.1) })
  (fun y => ⟨47, [(12, dI y.1.1), (11, dI m.papers.length), (10, .c (.sl false 1 (rows eI (nL m.papers)))), (2, .box 2 0), (1, .c (.fn (.yield ly) [] []))], [(2, .box [.c (.sl false 1 (rows eI (nL m.papers))), .c (.sl false 1 (rows eI (nL m.flutes))), .c (.sl false 8 (rows eP s.papers)), .c (.sl false 4 (rows eF s.flutes)), dI (wholeI s m)])] ++ H y.1.2⟩) (fun y => m.papers.length - y.1.1) ⟨(0, b0), Nat.zero_le _, hl0, rfl⟩ ?_ ?_
 ·refine Ent.toH (o := [_]) (o' := [_]) (hH _) ?_ ?_ ?_
  ·rfl
  ·simp (disch:=omega) only [qR,qS,qTw,qU,get,Nat.reduceEqDiff,↓reduceIte,qV,qW,qX,qY,qZ,and_self,dI,i64_in,and_true,true_and,rA,rB,rC,rD]
  ·simp (disch:=omega) only [qR,qS,qTw,qU,get,Nat.reduceEqDiff,↓reduceIte,qV,qW,qX,qY,qZ,and_self,dI,i64_in,and_true,true_and,rA,rB,rC,rD]
 clear f1 f2 f3 f4 f5
 rintro ⟨⟨i, b⟩, hi, hlv, hrun⟩
 dsimp only at hi hlv hrun ⊢
 have g3 := (hH b).men
 have g4 := (hH b).lo
 have g5 := (hW b).app1
 have g6 := (hW b).app2
 rcases Nat.lt_or_ge i m.papers.length with hlt | hge
 ·have hd : decide ((i : Int) < (m.papers.length : Int)) = true := by rw [decide_eq_true_eq]; omega
  obtain ⟨v, hv⟩ := getE (l := m.papers) (i := i) hlt
  have hv' := nL_at hv
  have hvs := h.papers v (List.mem_of_getElem? hv)
  have hpb := partsAt_b hs h hlt
  rw [drop_at (layersL_get hv)] at hrun
  obtain ⟨hyc, hlv4⟩ := hY b (v, partsAt s m i) hlv ⟨hvs, hpb⟩
  simp only [runB] at hrun
  have hrem : (i : Int).tmod 2 = ((i % 2 : Nat) : Int) := by rw [Int.tmod_eq_emod_of_nonneg (by omega)]; omega
  have hquo : (i : Int).tdiv 2 = ((i / 2 : Nat) : Int) := by rw [Int.tdiv_eq_ediv_of_nonneg (by omega)]; omega
  rcases (by omega : i % 2 = 0 ∨ i % 2 = 1) with ho | ho
  ·have hpe : partsAt s m i = wholeI s m := by rw [partsAt, if_neg (by omega)]
   rw [hpe] at hyc hrun hlv4
   rw [ho] at hrem
   repeat' (first|(with_reducible first|apply qA|apply qB|apply qC|apply qD|apply qE|apply qF)|(refine qL rfl (WF.of ?_) ?_; first|rfl|skip)|(simp (disch:=omega) only [go_sem, simprocAttr, qN, qO, qP, qQ, hd, hv', hrem, g3, g4])|exact qM rfl rfl rfl|(refine qG rfl ?_)|(refine qH rfl ?_)|(refine qI rfl ?_ ?_<;>intro hc<;>(try simp only [go_sem] at hc))|(refine qJ ?_ ?_<;>intro hc<;>(try simp only [hc])<;>(try simp only [go_sem] at hc)))
   refine call_y (own := [_]) hyc rfl rfl rfl (hH _) (hH _) (by decide) ?_
   cases hs : (stp b (v, wholeI s m)).1 with
   | true =>
    rw [hs] at hrun hlv4
    simp (disch:=omega) only [go_sem,simprocAttr,qN,qO,qP,qQ]
    repeat' (first|(with_reducible first|apply qA|apply qB|apply qC|apply qD|apply qE|apply qF)|(refine qL rfl (WF.of ?_) ?_; first|rfl|skip)|(simp (disch:=omega) only [go_sem, simprocAttr, qN, qO, qP, qQ])|exact qM rfl rfl rfl|(refine qG rfl ?_)|(refine qH rfl ?_)|(refine qI rfl ?_ ?_<;>intro hc<;>(try simp only [go_sem] at hc))|(refine qJ ?_ ?_<;>intro hc<;>(try simp only [hc])<;>(try simp only [go_sem] at hc)))
    refine ⟨⟨(i + 1, (stp b (v, wholeI s m)).2), hlt, hlv4 rfl, hrun⟩, by (show _ < _; (try simp only); omega), Ent.toH (o := [_]) (o' := [_]) (hH _) ?_ ?_ ?_⟩
    ·rfl
    ·simp (disch:=omega) only [qR,qS,qTw,qU,get,Nat.reduceEqDiff,↓reduceIte,qV,qW,qX,qY,qZ,and_self,dI,i64_in,and_true,true_and,rA,rB,rC,rD]
    ·simp (disch:=omega) only [qR,qS,qTw,qU,get,Nat.reduceEqDiff,↓reduceIte,qV,qW,qX,qY,qZ,and_self,dI,i64_in,and_true,true_and,rA,rB,rC,rD]
   | false =>
    rw [hs] at hrun
    simp (disch:=omega) only [go_sem,simprocAttr,qN,qO,qP,qQ]
    repeat' (first|(with_reducible first|apply qA|apply qB|apply qC|apply qD|apply qE|apply qF)|(refine qL rfl (WF.of ?_) ?_; first|rfl|skip)|(simp (disch:=omega) only [go_sem, simprocAttr, qN, qO, qP, qQ])|exact qM rfl rfl rfl|(refine qG rfl ?_)|(refine qH rfl ?_)|(refine qI rfl ?_ ?_<;>intro hc<;>(try simp only [go_sem] at hc))|(refine qJ ?_ ?_<;>intro hc<;>(try simp only [hc])<;>(try simp only [go_sem] at hc)))
    rw [hrun]
    exact retS_hid (own := [_]) (.inl rfl) (hH _) rfl
  ·obtain ⟨hfv, hfs⟩ := flute_at h hlt ho
   have hpe : partsAt s m i = (wholeI s m).tdiv (fluAt s (m.flutes[i / 2]?.getD 0)).pitch * (fluAt s (m.flutes[i / 2]?.getD 0)).draw := by rw [partsAt, if_pos ho]
   rw [hpe] at hyc hrun hlv4 hpb
   rw [ho] at hrem
   generalize m.flutes[i / 2]?.getD 0 = z at *
   have hzv := nL_at hfv
   have hzf := fluAt_get hfs
   have hfo := fluAt_ok hs hfs
   have h1 := hfo.pitch
   have h2 := hfo.draw
   generalize fluAt s z = f at *
   have h0 : (f.pitch = 0) = False := eq_false (by omega)
   have hq : 0 ≤ (wholeI s m).tdiv f.pitch ∧ (wholeI s m).tdiv f.pitch ≤ 100000000 := by
    rw [Int.tdiv_eq_ediv_of_nonneg (by omega)]
    exact ⟨Int.ediv_nonneg (by omega) (by omega), Int.le_trans (Int.ediv_le_self _ (by omega)) hw.2⟩
   have hl2 : (nL m.flutes).length = m.flutes.length := nL_length _
   repeat' (first|(with_reducible first|apply qA|apply qB|apply qC|apply qD|apply qE|apply qF)|(refine qL rfl (WF.of ?_) ?_; first|rfl|skip)|(simp (disch:=omega) only [go_sem, simprocAttr, qN, qO, qP, qQ, hd, hv', hrem, hquo, hzv, hzf, h0, g3, g4, g5, g6, hl2, rF, rG])|exact qM rfl rfl rfl|(refine qG rfl ?_)|(refine qH rfl ?_)|(refine qI rfl ?_ ?_<;>intro hc<;>(try simp only [go_sem] at hc))|(refine qJ ?_ ?_<;>intro hc<;>(try simp only [hc])<;>(try simp only [go_sem] at hc)))
   refine call_y (own := [_, _]) hyc rfl rfl rfl (hH _) (hH _) (by decide) ?_
   cases hs : (stp b (v, (wholeI s m).tdiv f.pitch * f.draw)).1 with
   | true =>
    rw [hs] at hrun hlv4
    simp (disch:=omega) only [go_sem,simprocAttr,qN,qO,qP,qQ]
    repeat' (first|(with_reducible first|apply qA|apply qB|apply qC|apply qD|apply qE|apply qF)|(refine qL rfl (WF.of ?_) ?_; first|rfl|skip)|(simp (disch:=omega) only [go_sem, simprocAttr, qN, qO, qP, qQ])|exact qM rfl rfl rfl|(refine qG rfl ?_)|(refine qH rfl ?_)|(refine qI rfl ?_ ?_<;>intro hc<;>(try simp only [go_sem] at hc))|(refine qJ ?_ ?_<;>intro hc<;>(try simp only [hc])<;>(try simp only [go_sem] at hc)))
    refine ⟨⟨(i + 1, (stp b (v, (wholeI s m).tdiv f.pitch * f.draw)).2), hlt, hlv4 rfl, hrun⟩, by (show _ < _; (try simp only); omega), Ent.toH (o := [_, _]) (o' := [_]) (hH _) ?_ ?_ ?_⟩
    ·rfl
    ·simp (disch:=omega) only [qR,qS,qTw,qU,get,Nat.reduceEqDiff,↓reduceIte,qV,qW,qX,qY,qZ,and_self,dI,i64_in,and_true,true_and,rA,rB,rC,rD]
    ·simp (disch:=omega) only [qR,qS,qTw,qU,get,Nat.reduceEqDiff,↓reduceIte,qV,qW,qX,qY,qZ,and_self,dI,i64_in,and_true,true_and,rA,rB,rC,rD]
   | false =>
    rw [hs] at hrun
    simp (disch:=omega) only [go_sem,simprocAttr,qN,qO,qP,qQ]
    repeat' (first|(with_reducible first|apply qA|apply qB|apply qC|apply qD|apply qE|apply qF)|(refine qL rfl (WF.of ?_) ?_; first|rfl|skip)|(simp (disch:=omega) only [go_sem, simprocAttr, qN, qO, qP, qQ])|exact qM rfl rfl rfl|(refine qG rfl ?_)|(refine qH rfl ?_)|(refine qI rfl ?_ ?_<;>intro hc<;>(try simp only [go_sem] at hc))|(refine qJ ?_ ?_<;>intro hc<;>(try simp only [hc])<;>(try simp only [go_sem] at hc)))
    rw [hrun]
    exact retS_hid (own := [_, _]) (.inl rfl) (hH _) rfl
 ·obtain rfl : i = m.papers.length := by omega
  have hd : decide ((m.papers.length : Int) < (m.papers.length : Int)) = false := by rw [decide_eq_false_iff_not]; omega
  rw [List.drop_of_length_le (by rw [layersL_len]; omega)] at hrun
  simp only [runB] at hrun
  repeat' (first|(with_reducible first|apply qA|apply qB|apply qC|apply qD|apply qE|apply qF)|(refine qL rfl (WF.of ?_) ?_; first|rfl|skip)|(simp (disch:=omega) only [go_sem, simprocAttr, qN, qO, qP, qQ, hd])|exact qM rfl rfl rfl|(refine qG rfl ?_)|(refine qH rfl ?_)|(refine qI rfl ?_ ?_<;>intro hc<;>(try simp only [go_sem] at hc))|(refine qJ ?_ ?_<;>intro hc<;>(try simp only [hc])<;>(try simp only [go_sem] at hc)))
  rw [hrun]
  exact retS_hid (own := [_]) (.inr rfl) (hH _) rfl
end Go.Dw.Seat
end
section
set_option linter.unusedSimpArgs false
set_option maxRecDepth 100000
namespace Go.Dw.Seat
open Go Go.Dw Go.Proofs Go.IntWalk
def sumS (f : Pap → Int) (s : Sto) (n : Int) (e : Nat × Int) : Option Exit × Int := (none, IntKind.i64.wrap (n + f (papAt s e.1) * e.2))
def sumF (f : Pap → Int) (s : Sto) (n : Int) (l : List (Nat × Int)) : Int := l.foldl (fun n e => n + f (papAt s e.1) * e.2) n
def sumI (f : Pap → Int) (s : Sto) (m : Mak) : Int := sumF f s 0 (layersL s m)
theorem sumS_run (f : Pap → Int) (s : Sto) (hf : ∀ p ∈ s.papers, 0 ≤ f p ∧ f p ≤ 1000000000) : ∀ (l : List (Nat × Int)) (n : Int), (∀ e ∈ l, okLay s e) → 0 ≤ n → n + 200000000000000000 * (l.length : Int) ≤ 9000000000000000000 →
  runIt (sumS f s) n l = (none, sumF f s n l) ∧ n ≤ sumF f s n l ∧ sumF f s n l ≤ n + 200000000000000000 * (l.length : Int)
 | [], n, _, _, _ => ⟨rfl, Int.le_refl _, by simp [sumF]⟩
 | e :: l, n, ho, h0, hn => by
  have he := ho e (by simp)
  have hfe := hf _ (List.mem_of_getElem? (papAt_get he.1))
  have hm := mulB0 (a := f (papAt s e.1)) (b := e.2) (A := 1000000000) (B := 200000000) hfe he.2
  rw [List.length_cons, Int.natCast_add, Int.natCast_one, Int.mul_add] at hn
  have hw : IntKind.i64.wrap (n + f (papAt s e.1) * e.2) = n + f (papAt s e.1) * e.2 := i64_in _ (by omega)
  have ih := sumS_run f s hf l (n + f (papAt s e.1) * e.2) (fun x hx => ho x (by simp [hx])) (by omega) (by omega)
  have hs : sumF f s n (e :: l) = sumF f s (n + f (papAt s e.1) * e.2) l := rfl
  rw [hs]
  simp only [runIt, sumS, hw]
  refine ⟨ih.1, by omega, ?_⟩
  rw [List.length_cons, Int.natCast_add, Int.natCast_one, Int.mul_add]
  omega
theorem layers_ok {s : Sto} {m : Mak} (hs : s.ok) (h : m.ok s) : ∀ e ∈ layersL s m, okLay s e := by
 intro e he
 obtain ⟨i, hi⟩ := List.getElem?_of_mem he
 have hlt : i < m.papers.length := by
  rcases Nat.lt_or_ge i m.papers.length with h | h
  ·exact h
  ·rw [List.getElem?_eq_none (by rw [layersL_len]; exact h)] at hi; cases hi
 obtain ⟨v, hv⟩ := getE (l := m.papers) (i := i) hlt
 rw [layersL_get hv] at hi
 cases hi
 exact ⟨h.papers v (List.mem_of_getElem? hv), partsAt_b hs h hlt⟩
theorem sumI_b {s : Sto} {m : Mak} (hs : s.ok) (h : m.ok s) (f : Pap → Int) (hf : ∀ p ∈ s.papers, 0 ≤ f p ∧ f p ≤ 1000000000) : runIt (sumS f s) 0 (layersL s m) = (none, sumI f s m) ∧ 0 ≤ sumI f s m ∧ sumI f s m ≤ 1000000000000000000 := by
 have hn : (layersL s m).length ≤ 5 := by rw [layersL_len]; have := h.np; have := h.nf; omega
 have := sumS_run f s hf (layersL s m) 0 (layers_ok hs h) (Int.le_refl _) (by omega)
 exact ⟨this.1, this.2.1, by have := this.2.2; unfold sumI; omega⟩
theorem closeDs_mapc {σ : St} {mv : Option Nat} {caps : List C} : closeDs σ mv (caps.map D.c) = some (caps.map D.c) := by
 have := @closeDs_fn _ σ mv [] caps []
 simpa [closeDs] using this
theorem bdSum (s : Sto) (m : Mak) (hs : s.ok) (h : m.ok s) (g : FuncId) (caps : List C) (hcn : C.nbs caps = true) (f : Pap → Int) (hf : ∀ p ∈ s.papers, 0 ≤ f p ∧ f p ≤ 1000000000)
  (hp : ∀ p ∈ s.papers, DCall Try.prog g (.agg ((eP p).map D.c) :: caps.map D.c) [] (dI (f p)) []) : DCall Try.prog 113 [dShe s m (wholeI s m), .c (.fn (.func g) [] caps)] [] (dI (sumI f s m)) [] := by
 have hit := bdLayers s m hs h
 have hsum := sumI_b hs h f hf
 have hnp := hs.np
 refine DCall.of Try.func113 sf113 hb113 (Nat.le_of_ble_eq_true rfl) (okRes_nil fun _ => rfl) ?_; simp only [s113, idxs, Nat.reduceAdd]
 repeat' (first|(with_reducible first|apply qA|apply qB|apply qC|apply qD|apply qE|apply qF)|(refine qL rfl (WF.of ?_) ?_; first|rfl|skip)|(simp (disch:=omega) only [go_sem, simprocAttr, Blk.men, Blk.keysIn])|exact qM rfl rfl rfl|(refine qG rfl ?_)|(refine qH rfl ?_)|(refine qI rfl ?_ ?_<;>intro hc<;>(try simp only [go_sem] at hc))|(refine qJ ?_ ?_<;>intro hc<;>(try simp only [hc])<;>(try simp only [go_sem] at hc)))
 refine DW.ent (σ' := ⟨24, [(8, .fn (.func 61) [dShe s m (wholeI s m)] []), (4, .box 4 0), (3, .box 3 0), (2, .box 2 0)], [(4, .box [dI 0]), (3, .box [.c (.fn (.func g) [] caps)]), (2, .box [.c (.sl false 1 (rows eI (nL m.papers))), .c (.sl false 1 (rows eI (nL m.flutes))), .c (.sl false 8 (rows eP s.papers)), .c (.sl false 4 (rows eF s.flutes)), dI (wholeI s m)])]⟩) (Ent.to ?_ ?_) ?_
 ·simp (disch:=omega) only [qR,qS,qTw,qU,get,Nat.reduceEqDiff,↓reduceIte,qV,qW,qX,qY,qZ,and_self,dI,i64_in,and_true,true_and,rA,rB,rC,rD]
 ·simp (disch:=omega) only [qR,qS,qTw,qU,get,Nat.reduceEqDiff,↓reduceIte,qV,qW,qX,qY,qZ,and_self,dI,i64_in,and_true,true_and,rA,rB,rC,rD]
 refine DW.rngBD (fun n : Int => [(4, .box [dI n]), (3, .box [.c (.fn (.func g) [] caps)]), (2, .box [.c (.sl false 1 (rows eI (nL m.papers))), .c (.sl false 1 (rows eI (nL m.flutes))), .c (.sl false 8 (rows eP s.papers)), .c (.sl false 4 (rows eF s.flutes)), dI (wholeI s m)])]) 0 (sumS f s) enLay (okLay s) (layersL s m) hit (fun _ => True) trivial (fun _ _ _ _ _ => trivial) rfl (fun _ => ⟨rfl, rfl⟩) rfl (by decide) (fun _ _ => rfl) (fun _ _ _ => rfl) (by simp only [List.map_cons, List.map_nil]; decide) (fun _ => rfl) (fun _ => rfl) (fun _ => (by simp only [List.all_cons, List.all_nil, Blk.nb, rowC_nb, D.nb, D.nbs, C.nb, C.nbs, C.nbss, rows_nb eI_nb, Bool.and_true, Bool.not_false, Bool.and_self, bD, dI, iD, rows_nb eP_nb, rows_nb eF_nb, hcn])) (by simp only [List.all_cons, List.all_nil, Blk.nb, rowC_nb, D.nb, D.nbs, C.nb, C.nbs, C.nbss, rows_nb eI_nb, Bool.and_true, Bool.not_false, Bool.and_self, bD, dI, iD, rows_nb eP_nb, rows_nb eF_nb]) (fun _ _ => rfl) ?_ ?_
 ·rintro n - ⟨k, parts⟩ he v
  have hk : k < s.papers.length := he.1
  have hpb : 0 ≤ parts ∧ parts ≤ 200000000 := he.2
  have hpk := papAt_get hk
  have hcall := hp _ (List.mem_of_getElem? hpk)
  have hfe := hf _ (List.mem_of_getElem? hpk)
  have hm := mulB0 (a := f (papAt s k)) (b := parts) (A := 1000000000) (B := 200000000) hfe hpb
  have hS : sumS f s n (k, parts) = (none, IntKind.i64.wrap (n + f (papAt s k) * parts)) := rfl
  rw [hS]
  generalize papAt s k = p at *
  simp (disch:=omega) only [go_sem,simprocAttr,Blk.men,Blk.keysIn]
  repeat' (first|(with_reducible first|apply qA|apply qB|apply qC|apply qD|apply qE|apply qF)|(refine qL rfl (WF.of ?_) ?_; first|rfl|skip)|(simp (disch:=omega) only [go_sem, simprocAttr, Blk.men, Blk.keysIn, hpk, closeDs_mapc, rF, rG])|exact qM rfl rfl rfl|(refine qG rfl ?_)|(refine qH rfl ?_)|(refine qI rfl ?_ ?_<;>intro hc<;>(try simp only [go_sem] at hc))|(refine qJ ?_ ?_<;>intro hc<;>(try simp only [hc])<;>(try simp only [go_sem] at hc)))
  refine call_c hcall (by decide) ?_
  simp (disch:=omega) only [go_sem,simprocAttr,Blk.men,Blk.keysIn]
  repeat' (first|(with_reducible first|apply qA|apply qB|apply qC|apply qD|apply qE|apply qF)|(refine qL rfl (WF.of ?_) ?_; first|rfl|skip)|(simp (disch:=omega) only [go_sem, simprocAttr, Blk.men, Blk.keysIn])|exact qM rfl rfl rfl|(refine qG rfl ?_)|(refine qH rfl ?_)|(refine qI rfl ?_ ?_<;>intro hc<;>(try simp only [go_sem] at hc))|(refine qJ ?_ ?_<;>intro hc<;>(try simp only [hc])<;>(try simp only [go_sem] at hc)))
  refine round_end rfl rfl (Ent.to ?_ ?_) <;> simp (disch:=omega) only [qR,qS,qTw,qU,get,Nat.reduceEqDiff,↓reduceIte,qV,qW,qX,qY,qZ,and_self,dI,i64_in,and_true,true_and,rA,rB,rC,rD,capB,List.cons_append,List.nil_append]
 ·rw [hsum.1]
  simp (disch:=omega) only [go_sem,simprocAttr,Blk.men,Blk.keysIn,Option.getD_none]
  repeat' (first|(with_reducible first|apply qA|apply qB|apply qC|apply qD|apply qE|apply qF)|(refine qL rfl (WF.of ?_) ?_; first|rfl|skip)|(simp (disch:=omega) only [go_sem, simprocAttr, Blk.men, Blk.keysIn])|exact qM rfl rfl rfl|(refine qG rfl ?_)|(refine qH rfl ?_)|(refine qI rfl ?_ ?_<;>intro hc<;>(try simp only [go_sem] at hc))|(refine qJ ?_ ?_<;>intro hc<;>(try simp only [hc])<;>(try simp only [go_sem] at hc)))
theorem bdStrong (p : Pap) : DCall Try.prog 140 [.agg ((eP p).map D.c)] [] (dI p.strong) [] := by
 refine DCall.of Try.func140 sf140 hb140 (Nat.le_of_ble_eq_true rfl) (okRes_nil fun _ => rfl) ?_; simp only [s140, idxs, Nat.reduceAdd]
 repeat' (first|(with_reducible first|apply qA|apply qB|apply qC|apply qD|apply qE|apply qF)|(simp (disch:=omega) only [go_sem, simprocAttr, Blk.men, Blk.keysIn, rF, rG])|exact qM rfl rfl rfl|(refine qG rfl ?_)|(refine qH rfl ?_)|(refine qI rfl ?_ ?_<;>intro hc<;>(try simp only [go_sem] at hc))|(refine qJ ?_ ?_<;>intro hc<;>(try simp only [hc])<;>(try simp only [go_sem] at hc)))
theorem bdLow (lo hi : Int) : DCall Try.prog 136 [.agg [dI lo, dI hi]] [] (dI lo) [] := by
 refine DCall.of Try.func136 sf136 hb136 (Nat.le_of_ble_eq_true rfl) (okRes_nil fun _ => rfl) ?_; simp only [s136, idxs, Nat.reduceAdd]
 repeat' (first|(with_reducible first|apply qA|apply qB|apply qC|apply qD|apply qE|apply qF)|(simp (disch:=omega) only [go_sem, simprocAttr, Blk.men, Blk.keysIn])|exact qM rfl rfl rfl|(refine qG rfl ?_)|(refine qH rfl ?_)|(refine qI rfl ?_ ?_<;>intro hc<;>(try simp only [go_sem] at hc))|(refine qJ ?_ ?_<;>intro hc<;>(try simp only [hc])<;>(try simp only [go_sem] at hc)))
theorem bdHigh (lo hi : Int) : DCall Try.prog 137 [.agg [dI lo, dI hi]] [] (dI hi) [] := by
 refine DCall.of Try.func137 sf137 hb137 (Nat.le_of_ble_eq_true rfl) (okRes_nil fun _ => rfl) ?_; simp only [s137, idxs, Nat.reduceAdd]
 repeat' (first|(with_reducible first|apply qA|apply qB|apply qC|apply qD|apply qE|apply qF)|(simp (disch:=omega) only [go_sem, simprocAttr, Blk.men, Blk.keysIn])|exact qM rfl rfl rfl|(refine qG rfl ?_)|(refine qH rfl ?_)|(refine qI rfl ?_ ?_<;>intro hc<;>(try simp only [go_sem] at hc))|(refine qJ ?_ ?_<;>intro hc<;>(try simp only [hc])<;>(try simp only [go_sem] at hc)))
structure EndOk (g : FuncId) (ef : Int → Int → Int) : Prop where
 call : ∀ lo hi, DCall Try.prog g [.agg [dI lo, dI hi]] [] (dI (ef lo hi)) []
 mem : ∀ lo hi, lo ≤ hi → lo ≤ ef lo hi ∧ ef lo hi ≤ hi
def moistF (ef : Int → Int → Int) (p : Pap) : Int := p.weight * (1000 + ef p.ml p.mh)
theorem moistF_b {g : FuncId} {ef : Int → Int → Int} (he : EndOk g ef) {p : Pap} (hp : p.ok) : 0 ≤ moistF ef p ∧ moistF ef p ≤ 1000000000 := by
 have h1 := hp.weight
 have h2 := hp.moist
 have h3 := he.mem p.ml p.mh h2.2.1
 have := mulB0 (a := p.weight) (b := 1000 + ef p.ml p.mh) (A := 1000) (B := 1200) (by omega) (by omega)
 unfold moistF
 omega
theorem bdMoist1 (b : Bool) {g : FuncId} {ef : Int → Int → Int} (he : EndOk g ef) (p : Pap) (hp : p.ok) : DCall Try.prog 158 [.agg ((eP p).map D.c), .c (.ro b [.fn (.func g) [] []] 0)] [] (dI (moistF ef p)) [] := by
 have h1 := hp.weight
 have h2 := hp.moist
 have h3 := he.mem p.ml p.mh h2.2.1
 have hm := mulB0 (a := p.weight) (b := 1000 + ef p.ml p.mh) (A := 1000) (B := 1200) (by omega) (by omega)
 have hc := he.call p.ml p.mh
 unfold moistF
 refine DCall.of Try.func158 sf158 hb158 (Nat.le_of_ble_eq_true rfl) (okRes_nil fun _ => rfl) ?_; simp only [s158, idxs, Nat.reduceAdd]
 repeat' (first|(with_reducible first|apply qA|apply qB|apply qC|apply qD|apply qE|apply qF)|(refine qL rfl (WF.of ?_) ?_; first|rfl|skip)|(simp (disch:=omega) only [go_sem, simprocAttr, Blk.men, Blk.keysIn, rF, rG])|exact qM rfl rfl rfl|(refine qG rfl ?_)|(refine qH rfl ?_)|(refine qI rfl ?_ ?_<;>intro hc<;>(try simp only [go_sem] at hc))|(refine qJ ?_ ?_<;>intro hc<;>(try simp only [hc])<;>(try simp only [go_sem] at hc)))
 refine call_c hc (by decide) ?_
 simp (disch:=omega) only [go_sem,simprocAttr,Blk.men,Blk.keysIn]
 repeat' (first|(with_reducible first|apply qA|apply qB|apply qC|apply qD|apply qE|apply qF)|(refine qL rfl (WF.of ?_) ?_; first|rfl|skip)|(simp (disch:=omega) only [go_sem, simprocAttr, Blk.men, Blk.keysIn])|exact qM rfl rfl rfl|(refine qG rfl ?_)|(refine qH rfl ?_)|(refine qI rfl ?_ ?_<;>intro hc<;>(try simp only [go_sem] at hc))|(refine qJ ?_ ?_<;>intro hc<;>(try simp only [hc])<;>(try simp only [go_sem] at hc)))
def moistI (ef : Int → Int → Int) (s : Sto) (m : Mak) : Int := (sumI (moistF ef) s m).tdiv (1000 * wholeI s m)
theorem tdiv_b {a b : Int} {A : Int} (ha : 0 ≤ a ∧ a ≤ A) (hb : 0 ≤ b) : 0 ≤ a.tdiv b ∧ a.tdiv b ≤ A := by
 rw [Int.tdiv_eq_ediv_of_nonneg ha.1]
 exact ⟨Int.ediv_nonneg ha.1 hb, Int.le_trans (Int.ediv_le_self _ ha.1) ha.2⟩
theorem bdMoist (s : Sto) (m : Mak) (hs : s.ok) (h : m.ok s) {g : FuncId} {ef : Int → Int → Int} (he : EndOk g ef) : DCall Try.prog 138 [dShe s m (wholeI s m), .c (.fn (.func g) [] [])] [] (dI (moistI ef s m)) [] := by
 have hf : ∀ p ∈ s.papers, 0 ≤ moistF ef p ∧ moistF ef p ≤ 1000000000 := fun p hp => moistF_b he (hs.papers p hp)
 have hsum := bdSum s m hs h 158 [.ro false [.fn (.func g) [] []] 0] rfl (moistF ef) hf (fun p hp => bdMoist1 false he p (hs.papers p hp))
 have hb := (sumI_b hs h (moistF ef) hf).2
 have hw := wholeI_b hs h
 have h0 : (1000 * wholeI s m = 0) = False := eq_false (by omega)
 have hq := tdiv_b (b := 1000 * wholeI s m) hb (by omega)
 unfold moistI
 refine DCall.of Try.func138 sf138 hb138 (Nat.le_of_ble_eq_true rfl) (okRes_nil fun _ => rfl) ?_; simp only [s138, idxs, Nat.reduceAdd]
 refine DW.seq (DW.reg ?_)
 simp (disch:=omega) only [go_sem,simprocAttr,Blk.men,Blk.keysIn]
 (refine DW.ent (Ent.rel 3 rfl) ?_; simp (disch:=omega) only [go_sem,simprocAttr,Blk.men,Blk.keysIn])
 repeat' (first|(with_reducible first|apply qA|apply qB|apply qC|apply qD|apply qE|apply qF)|(refine qL rfl (WF.of ?_) ?_; first|rfl|skip)|(simp (disch:=omega) only [go_sem, simprocAttr, Blk.men, Blk.keysIn, h0])|exact qM rfl rfl rfl|(refine qG rfl ?_)|(refine qK (hsum) (by decide) ?_)|(refine qH rfl ?_)|(refine qI rfl ?_ ?_<;>intro hc<;>(try simp only [go_sem] at hc))|(refine qJ ?_ ?_<;>intro hc<;>(try simp only [hc])<;>(try simp only [go_sem] at hc)))
def calP (ef : Int → Int → Int) (s : Sto) (m : Mak) : Nat → Int
 | 0 => 0
 | i + 1 => calP ef s m i + (if i % 2 = 0 then ef (papAt s (m.papers[i]?.getD 0)).tl (papAt s (m.papers[i]?.getD 0)).th else 0)
def calH (ef : Int → Int → Int) (s : Sto) (m : Mak) : Nat → Int
 | 0 => 0
 | i + 1 => calH ef s m i + ef (fluAt s (m.flutes[i]?.getD 0)).hl (fluAt s (m.flutes[i]?.getD 0)).hh
def calI (ef : Int → Int → Int) (s : Sto) (m : Mak) : Int := calP ef s m m.papers.length + calH ef s m m.flutes.length
theorem calP_b {g : FuncId} {ef : Int → Int → Int} (he : EndOk g ef) {s : Sto} {m : Mak} (hs : s.ok) (h : m.ok s) : ∀ i, i ≤ m.papers.length → 0 ≤ calP ef s m i ∧ calP ef s m i ≤ 1000 * (i : Int)
 | 0, _ => by simp [calP]
 | i + 1, hi => by
  have ih := calP_b he hs h i (by omega)
  obtain ⟨v, hv⟩ := getE (l := m.papers) (i := i) (by omega)
  have ho := (papAt_ok hs (h.papers v (List.mem_of_getElem? hv))).thick
  have hm := he.mem _ _ ho.2.1
  rw [calP, hv, Option.getD_some]
  split <;> omega
theorem calH_b {g : FuncId} {ef : Int → Int → Int} (he : EndOk g ef) {s : Sto} {m : Mak} (hs : s.ok) (h : m.ok s) : ∀ i, i ≤ m.flutes.length → 0 ≤ calH ef s m i ∧ calH ef s m i ≤ 10000 * (i : Int)
 | 0, _ => by simp [calH]
 | i + 1, hi => by
  have ih := calH_b he hs h i (by omega)
  obtain ⟨v, hv⟩ := getE (l := m.flutes) (i := i) (by omega)
  have ho := (fluAt_ok hs (h.flutes v (List.mem_of_getElem? hv))).high
  have hm := he.mem _ _ ho.2.1
  rw [calH, hv, Option.getD_some]
  omega
end Go.Dw.Seat
end
section
set_option linter.unusedSimpArgs false
set_option maxRecDepth 100000
namespace Go.Dw.Seat
open Go Go.Dw Go.Proofs Go.IntWalk
theorem bdCaliper (s : Sto) (m : Mak) (hs : s.ok) (h : m.ok s) {g : FuncId} {ef : Int → Int → Int} (he : EndOk g ef) : DCall Try.prog 139 [dShe s m (wholeI s m), .c (.fn (.func g) [] [])] [] (dI (calI ef s m)) [] := by
 have hf := h.nf
 have hn := h.np
 have hl1 : (nL m.papers).length = m.papers.length := nL_length _
 have hl2 : (nL m.flutes).length = m.flutes.length := nL_length _
 refine DCall.of Try.func139 sf139 hb139 (Nat.le_of_ble_eq_true rfl) (okRes_nil fun _ => rfl) ?_; simp only [s139, idxs, Nat.reduceAdd]
 repeat' (first|(with_reducible first|apply qA|apply qB|apply qC|apply qD|apply qE|apply qF)|(simp (disch:=omega) only [go_sem, simprocAttr, Blk.men, Blk.keysIn, hl1])|exact qM rfl rfl rfl|(refine qG rfl ?_)|(refine qH rfl ?_)|(refine qI rfl ?_ ?_<;>intro hc<;>(try simp only [go_sem] at hc))|(refine qJ ?_ ?_<;>intro hc<;>(try simp only [hc])<;>(try simp only [go_sem] at hc)))
 refine DW.loop (ι := { i : Nat // i ≤ m.papers.length }) (fun i => ⟨54, [(13, dI i.1), (12, dI m.papers.length), (11, .c (.sl false 1 (rows eI (nL m.papers)))), (4, dI (calP ef s m i.1)), (2, .box 2 0), (1, .c (.fn (.func g) [] []))], [(2, .box [.c (.sl false 1 (rows eI (nL m.papers))), .c (.sl false 1 (rows eI (nL m.flutes))), .c (.sl false 8 (rows eP s.papers)), .c (.sl false 4 (rows eF s.flutes)), dI (wholeI s m)])]⟩) (fun i => m.papers.length - i.1) ⟨0, Nat.zero_le _⟩ ?_ ?_
 ·refine Ent.to ?_ ?_ <;> simp (disch:=omega) only [qR,qS,qTw,qU,get,Nat.reduceEqDiff,↓reduceIte,qV,qW,qX,qY,qZ,and_self,dI,i64_in,and_true,true_and,rA,rB,rC,rD,calP]
 rintro ⟨i, hi⟩
 rcases Nat.lt_or_ge i m.papers.length with hlt | hge
 ·have hd : decide ((i : Int) < (m.papers.length : Int)) = true := by rw [decide_eq_true_eq]; omega
  obtain ⟨v, hv⟩ := getE (l := m.papers) (i := i) hlt
  have hv' := nL_at hv
  have hvs := h.papers v (List.mem_of_getElem? hv)
  have hp := papAt_get hvs
  have ho := (papAt_ok hs hvs).thick
  have hcb := calP_b he hs h i hi
  have hnx : calP ef s m (i + 1) = calP ef s m i + (if i % 2 = 0 then ef (papAt s v).tl (papAt s v).th else 0) := by rw [calP, hv, Option.getD_some]
  have hm := he.mem _ _ ho.2.1
  have hcall := he.call (papAt s v).tl (papAt s v).th
  generalize papAt s v = p at *
  have hrem : (i : Int).tmod 2 = ((i % 2 : Nat) : Int) := by rw [Int.tmod_eq_emod_of_nonneg (by omega)]; omega
  rcases (by omega : i % 2 = 0 ∨ i % 2 = 1) with hod | hod
  ·rw [hod] at hrem
   rw [if_pos hod] at hnx
   repeat' (first|(with_reducible first|apply qA|apply qB|apply qC|apply qD|apply qE|apply qF)|(simp (disch:=omega) only [go_sem, simprocAttr, Blk.men, Blk.keysIn, hd, hv', hp, hrem, rF, rG])|exact qM rfl rfl rfl|(refine qG rfl ?_)|(refine qH rfl ?_)|(refine qI rfl ?_ ?_<;>intro hc<;>(try simp only [go_sem] at hc))|(refine qJ ?_ ?_<;>intro hc<;>(try simp only [hc])<;>(try simp only [go_sem] at hc)))
   refine call_c hcall (by decide) ?_
   simp (disch:=omega) only [go_sem,simprocAttr,Blk.men,Blk.keysIn]
   repeat' (first|(with_reducible first|apply qA|apply qB|apply qC|apply qD|apply qE|apply qF)|(simp (disch:=omega) only [go_sem, simprocAttr, Blk.men, Blk.keysIn])|exact qM rfl rfl rfl|(refine qG rfl ?_)|(refine qH rfl ?_)|(refine qI rfl ?_ ?_<;>intro hc<;>(try simp only [go_sem] at hc))|(refine qJ ?_ ?_<;>intro hc<;>(try simp only [hc])<;>(try simp only [go_sem] at hc)))
   refine ⟨⟨i + 1, hlt⟩, ?_, Ent.to ?_ ?_⟩ <;> first | (show _ < _; (try simp only); omega) | (simp (disch:=omega) only [qR,qS,qTw,qU,get,Nat.reduceEqDiff,↓reduceIte,qV,qW,qX,qY,qZ,and_self,dI,i64_in,and_true,true_and,rA,rB,rC,rD, hnx])
  ·rw [hod] at hrem
   rw [if_neg (by omega), Int.add_zero] at hnx
   repeat' (first|(with_reducible first|apply qA|apply qB|apply qC|apply qD|apply qE|apply qF)|(simp (disch:=omega) only [go_sem, simprocAttr, Blk.men, Blk.keysIn, hd, hv', hp, hrem, rF, rG])|exact qM rfl rfl rfl|(refine qG rfl ?_)|(refine qH rfl ?_)|(refine qI rfl ?_ ?_<;>intro hc<;>(try simp only [go_sem] at hc))|(refine qJ ?_ ?_<;>intro hc<;>(try simp only [hc])<;>(try simp only [go_sem] at hc)))
   refine ⟨⟨i + 1, hlt⟩, ?_, Ent.to ?_ ?_⟩ <;> first | (show _ < _; (try simp only); omega) | (simp (disch:=omega) only [qR,qS,qTw,qU,get,Nat.reduceEqDiff,↓reduceIte,qV,qW,qX,qY,qZ,and_self,dI,i64_in,and_true,true_and,rA,rB,rC,rD, hnx])
 ·obtain rfl : i = m.papers.length := by omega
  have hd : decide ((m.papers.length : Int) < (m.papers.length : Int)) = false := by rw [decide_eq_false_iff_not]; omega
  have hcb := calP_b he hs h m.papers.length (Nat.le_refl _)
  unfold calI
  generalize calP ef s m m.papers.length = cp at *
  repeat' (first|(with_reducible first|apply qA|apply qB|apply qC|apply qD|apply qE|apply qF)|(simp (disch:=omega) only [go_sem, simprocAttr, Blk.men, Blk.keysIn, hd, hl2])|exact qM rfl rfl rfl|(refine qG rfl ?_)|(refine qH rfl ?_)|(refine qI rfl ?_ ?_<;>intro hc<;>(try simp only [go_sem] at hc))|(refine qJ ?_ ?_<;>intro hc<;>(try simp only [hc])<;>(try simp only [go_sem] at hc)))
  refine DW.loop (ι := { i : Nat // i ≤ m.flutes.length }) (fun i => ⟨54, [(37, dI i.1), (36, dI m.flutes.length), (35, .c (.sl false 1 (rows eI (nL m.flutes)))), (4, dI (cp + calH ef s m i.1)), (2, .box 2 0), (1, .c (.fn (.func g) [] []))], [(2, .box [.c (.sl false 1 (rows eI (nL m.papers))), .c (.sl false 1 (rows eI (nL m.flutes))), .c (.sl false 8 (rows eP s.papers)), .c (.sl false 4 (rows eF s.flutes)), dI (wholeI s m)])]⟩) (fun i => m.flutes.length - i.1) ⟨0, Nat.zero_le _⟩ ?_ ?_
  ·refine Ent.to ?_ ?_ <;> simp (disch:=omega) only [qR,qS,qTw,qU,get,Nat.reduceEqDiff,↓reduceIte,qV,qW,qX,qY,qZ,and_self,dI,i64_in,and_true,true_and,rA,rB,rC,rD,calH,Int.add_zero]
  rintro ⟨i, hi⟩
  rcases Nat.lt_or_ge i m.flutes.length with hlt | hge
  ·have hd : decide ((i : Int) < (m.flutes.length : Int)) = true := by rw [decide_eq_true_eq]; omega
   obtain ⟨v, hv⟩ := getE (l := m.flutes) (i := i) hlt
   have hv' := nL_at hv
   have hvs := h.flutes v (List.mem_of_getElem? hv)
   have hp := fluAt_get hvs
   have ho := (fluAt_ok hs hvs).high
   have hhb := calH_b he hs h i hi
   have hnx : cp + calH ef s m (i + 1) = cp + calH ef s m i + ef (fluAt s v).hl (fluAt s v).hh := by rw [calH, hv, Option.getD_some]; omega
   have hm := he.mem _ _ ho.2.1
   have hcall := he.call (fluAt s v).hl (fluAt s v).hh
   generalize fluAt s v = p at *
   repeat' (first|(with_reducible first|apply qA|apply qB|apply qC|apply qD|apply qE|apply qF)|(simp (disch:=omega) only [go_sem, simprocAttr, Blk.men, Blk.keysIn, hd, hv', hp, rF, rG])|exact qM rfl rfl rfl|(refine qG rfl ?_)|(refine qH rfl ?_)|(refine qI rfl ?_ ?_<;>intro hc<;>(try simp only [go_sem] at hc))|(refine qJ ?_ ?_<;>intro hc<;>(try simp only [hc])<;>(try simp only [go_sem] at hc)))
   refine call_c hcall (by decide) ?_
   simp (disch:=omega) only [go_sem,simprocAttr,Blk.men,Blk.keysIn]
   repeat' (first|(with_reducible first|apply qA|apply qB|apply qC|apply qD|apply qE|apply qF)|(simp (disch:=omega) only [go_sem, simprocAttr, Blk.men, Blk.keysIn])|exact qM rfl rfl rfl|(refine qG rfl ?_)|(refine qH rfl ?_)|(refine qI rfl ?_ ?_<;>intro hc<;>(try simp only [go_sem] at hc))|(refine qJ ?_ ?_<;>intro hc<;>(try simp only [hc])<;>(try simp only [go_sem] at hc)))
   refine ⟨⟨i + 1, hlt⟩, ?_, Ent.to ?_ ?_⟩ <;> first | (show _ < _; (try simp only); omega) | (simp (disch:=omega) only [qR,qS,qTw,qU,get,Nat.reduceEqDiff,↓reduceIte,qV,qW,qX,qY,qZ,and_self,dI,i64_in,and_true,true_and,rA,rB,rC,rD, hnx])
  ·obtain rfl : i = m.flutes.length := by omega
   have hd : decide ((m.flutes.length : Int) < (m.flutes.length : Int)) = false := by rw [decide_eq_false_iff_not]; omega
   repeat' (first|(with_reducible first|apply qA|apply qB|apply qC|apply qD|apply qE|apply qF)|(simp (disch:=omega) only [go_sem, simprocAttr, Blk.men, Blk.keysIn, hd])|exact qM rfl rfl rfl|(refine qG rfl ?_)|(refine qH rfl ?_)|(refine qI rfl ?_ ?_<;>intro hc<;>(try simp only [go_sem] at hc))|(refine qJ ?_ ?_<;>intro hc<;>(try simp only [hc])<;>(try simp only [go_sem] at hc)))
def loE (lo _ : Int) : Int := lo
def hiE (_ hi : Int) : Int := hi
theorem loE_ok : EndOk 136 loE := ⟨bdLow, fun _ _ h => ⟨Int.le_refl _, h⟩⟩
theorem hiE_ok : EndOk 137 hiE := ⟨bdHigh, fun _ _ h => ⟨h, Int.le_refl _⟩⟩
theorem bdMeas (s : Sto) (m : Mak) (hs : s.ok) (h : m.ok s) : DCall Try.prog 103 [dShe s m (wholeI s m)] [] (.tup [.agg [dI (moistI loE s m), dI (moistI hiE s m)], .agg [dI (calI loE s m), dI (calI hiE s m)]]) [] := by
 have h1 := bdMoist s m hs h loE_ok
 have h2 := bdMoist s m hs h hiE_ok
 have h3 := bdCaliper s m hs h loE_ok
 have h4 := bdCaliper s m hs h hiE_ok
 refine DCall.of Try.func103 sf103 hb103 (Nat.le_of_ble_eq_true rfl) (okRes_nil fun _ => rfl) ?_; simp only [s103, o103_0, o103_1, o103_2, o103_3, o103_4, o103_5, o103_6, o103_7, o103_8, o103_9, o103_10, o103_11, o103_12, o103_13, o103_14, o103_15, idxs, Nat.reduceAdd]
 repeat' (first|(with_reducible first|apply qA|apply qB|apply qC|apply qD|apply qE|apply qF)|(refine DW.ord rfl (WF.of (by first|rfl|simp (disch:=omega) only [go_sem, simprocAttr, Blk.men, Blk.keysIn])) ?_ ?_ ?_; rotate_left)|rfl|(with_reducible refine And.intro ?_ ?_)|(simp (disch:=omega) only [go_sem, simprocAttr, Blk.men, Blk.keysIn])|exact qM rfl rfl rfl|(refine qG rfl ?_)|(refine qK (h1) (by decide) ?_)|(refine qK (h2) (by decide) ?_)|(refine qK (h3) (by decide) ?_)|(refine qK (h4) (by decide) ?_)|(refine qH rfl ?_)|(refine qI rfl ?_ ?_<;>intro hc<;>(try simp only [go_sem] at hc))|(refine qJ ?_ ?_<;>intro hc<;>(try simp only [hc])<;>(try simp only [go_sem] at hc)))
theorem bdMeasure (s : Sto) (m : Mak) (hs : s.ok) (h : m.ok s) : DCall Try.prog 53 [dSto s, dMak m] [] (.tup [.agg [dI (moistI loE s m), dI (moistI hiE s m)], .agg [dI (calI loE s m), dI (calI hiE s m)], dI 0]) [] := by
 have h1 := bdNew s m hs h
 have h2 := bdMeas s m hs h
 refine DCall.of Try.func53 sf53 hb53 (Nat.le_of_ble_eq_true rfl) (okRes_nil fun _ => rfl) ?_; simp only [s53, o53_0, o53_1, o53_2, o53_3, o53_4, o53_5, o53_6, o53_7, o53_8, o53_9, o53_10, idxs, Nat.reduceAdd]
 repeat' (first|(with_reducible first|apply qA|apply qB|apply qC|apply qD|apply qE|apply qF)|(refine DW.ord rfl (WF.of (by first|rfl|simp (disch:=omega) only [go_sem, simprocAttr, Blk.men, Blk.keysIn])) ?_ ?_ ?_; rotate_left)|rfl|(with_reducible refine And.intro ?_ ?_)|(simp (disch:=omega) only [go_sem, simprocAttr, Blk.men, Blk.keysIn])|exact qM rfl rfl rfl|(refine qG rfl ?_)|(refine qK (h1) (by decide) ?_)|(refine qK (h2) (by decide) ?_)|(refine qH rfl ?_)|(refine qI rfl ?_ ?_<;>intro hc<;>(try simp only [go_sem] at hc))|(refine qJ ?_ ?_<;>intro hc<;>(try simp only [hc])<;>(try simp only [go_sem] at hc)))
def strongI (s : Sto) (m : Mak) : Int := (sumI Pap.strong s m).tdiv (wholeI s m)
theorem strong_b {s : Sto} (hs : s.ok) : ∀ p ∈ s.papers, 0 ≤ p.strong ∧ p.strong ≤ 1000000000 := fun p hp => by have := (hs.papers p hp).strong; omega
theorem bdStren (s : Sto) (m : Mak) (hs : s.ok) (h : m.ok s) : DCall Try.prog 104 [dShe s m (wholeI s m)] [] (dI (strongI s m)) [] := by
 have hsum := bdSum s m hs h 140 [] rfl Pap.strong (strong_b hs) (fun p _ => bdStrong p)
 have hb := (sumI_b hs h Pap.strong (strong_b hs)).2
 have hw := wholeI_b hs h
 have h0 : (wholeI s m = 0) = False := eq_false (by omega)
 have hq := tdiv_b (b := wholeI s m) hb (by omega)
 unfold strongI
 refine DCall.of Try.func104 sf104 hb104 (Nat.le_of_ble_eq_true rfl) (okRes_nil fun _ => rfl) ?_; simp only [s104, idxs, Nat.reduceAdd]
 repeat' (first|(with_reducible first|apply qA|apply qB|apply qC|apply qD|apply qE|apply qF)|(refine qL rfl (WF.of ?_) ?_; first|rfl|skip)|(simp (disch:=omega) only [go_sem, simprocAttr, Blk.men, Blk.keysIn, h0])|exact qM rfl rfl rfl|(refine qG rfl ?_)|(refine qK (hsum) (by decide) ?_)|(refine qH rfl ?_)|(refine qI rfl ?_ ?_<;>intro hc<;>(try simp only [go_sem] at hc))|(refine qJ ?_ ?_<;>intro hc<;>(try simp only [hc])<;>(try simp only [go_sem] at hc)))
theorem bdStrength (s : Sto) (m : Mak) (hs : s.ok) (h : m.ok s) : DCall Try.prog 54 [dSto s, dMak m] [] (.tup [dI (strongI s m), dI 0]) [] := by
 have h1 := bdNew s m hs h
 have h2 := bdStren s m hs h
 refine DCall.of Try.func54 sf54 hb54 (Nat.le_of_ble_eq_true rfl) (okRes_nil fun _ => rfl) ?_; simp only [s54, idxs, Nat.reduceAdd]
 repeat' (first|(with_reducible first|apply qA|apply qB|apply qC|apply qD|apply qE|apply qF)|(simp (disch:=omega) only [go_sem, simprocAttr, Blk.men, Blk.keysIn])|exact qM rfl rfl rfl|(refine qG rfl ?_)|(refine qK (h1) (by decide) ?_)|(refine qK (h2) (by decide) ?_)|(refine qH rfl ?_)|(refine qI rfl ?_ ?_<;>intro hc<;>(try simp only [go_sem] at hc))|(refine qJ ?_ ?_<;>intro hc<;>(try simp only [hc])<;>(try simp only [go_sem] at hc)))
end Go.Dw.Seat
end
section
set_option linter.unusedSimpArgs false
set_option maxRecDepth 100000
namespace Go.Dw.Seat
open Go Go.Dw Go.Proofs Go.IntWalk
structure Lod where
 sl : Int
 sh : Int
 wl : Int
 wh : Int
def eLd (b : Lod) : List C := [.v (.int .i64 b.sl), .v (.int .i64 b.sh), .v (.int .i64 b.wl), .v (.int .i64 b.wh)]
def eK (t : Int × Int) : List C := [.v (.int .i64 t.1), .v (.int .i64 t.2)]
attribute [go_sem] eLd eK
structure Lod.ok (b : Lod) : Prop where
 strong : 0 ≤ b.sl ∧ b.sl ≤ b.sh ∧ b.sh ≤ 20000000
 weight : 0 ≤ b.wl ∧ b.wl ≤ b.wh ∧ b.wh ≤ 100000
theorem arSpan (a b : Int) : DCall Try.prog 7 [dI a, dI b] [] (.agg [dI a, dI b]) [] := by
 refine DCall.of Try.func7 sf7 hb7 (Nat.le_of_ble_eq_true rfl) (okRes_nil fun _ => rfl) ?_; simp only [s7, idxs, Nat.reduceAdd]
 repeat' (first|(with_reducible first|apply qA|apply qB|apply qC|apply qD|apply qE|apply qF)|(simp (disch:=omega) only [go_sem, simprocAttr, Blk.men, Blk.keysIn])|exact qM rfl rfl rfl|(refine qG rfl ?_)|(refine qH rfl ?_)|(refine qI rfl ?_ ?_<;>intro hc<;>(try simp only [go_sem] at hc))|(refine qJ ?_ ?_<;>intro hc<;>(try simp only [hc])<;>(try simp only [go_sem] at hc)))
def exS : Sto := ⟨[⟨1, 200, 250, 270, 60, 80, 400000, 300⟩, ⟨2, 120, 180, 190, 70, 90, 300000, 200⟩], [⟨8000, 12000, 3600, 3700⟩]⟩
def exM : Mak := ⟨[0, 1, 0], [0]⟩
theorem exS_ok : exS.ok := by
 refine ⟨by decide, by decide, ?_, ?_⟩
 ·intro p hp
  simp only [exS, List.mem_cons, List.not_mem_nil, or_false] at hp
  rcases hp with rfl | rfl <;> exact ⟨by decide, by decide, by decide, by decide, by decide, by decide⟩
 ·intro p hp
  simp only [exS, List.mem_cons, List.not_mem_nil, or_false] at hp
  rcases hp with rfl
  exact ⟨by decide, by decide, by decide⟩
theorem exM_ok : exM.ok exS := by
 refine ⟨by decide, by decide, by decide, by decide, ?_⟩
 intro i n p h1 h2
 match i, h1 with
 | 0, h1 => cases h1; cases h2; rfl
 | 1, h1 => cases h1; cases h2; rfl
 | 2, h1 => cases h1; cases h2; rfl
 | i + 3, h1 => cases h1
theorem exB : moistI loE exS exM = 616 ∧ moistI hiE exS exM = 628 ∧ calI loE exS exM = 4100 ∧ calI hiE exS exM = 4240 ∧ strongI exS exM = 900 := ⟨by kernel_rfl, by kernel_rfl, by kernel_rfl, by kernel_rfl, by kernel_rfl⟩
theorem arBoard : DCall Try.prog 19 [] [] (bD true) [] := by
 have h1 := bdMeasure exS exM exS_ok exM_ok
 have h2 := bdStrength exS exM exS_ok exM_ok
 obtain ⟨e1, e2, e3, e4, e5⟩ := exB
 rw [e1, e2, e3, e4] at h1
 rw [e5] at h2
 have n1 : nL exM.papers = [0, 1, 0] := rfl
 have n2 : nL exM.flutes = [0] := rfl
 unfold dMak dSto at h1 h2
 rw [n1, n2] at h1 h2
 unfold exS at h1 h2
 have s1 := arSpan 250 270
 have s2 := arSpan 60 80
 have s3 := arSpan 180 190
 have s4 := arSpan 70 90
 have s5 := arSpan 3600 3700
 have s6 := arSpan 616 628
 have s7 := arSpan 4100 4240
 refine DCall.of Try.func19 sf19 hb19 (Nat.le_of_ble_eq_true rfl) (okRes_nil fun _ => rfl) ?_; simp only [s19, idxs, Nat.reduceAdd]
 refine DW.seq (DW.reg ?_)
 simp (disch:=omega) only [go_sem,simprocAttr,Blk.men,Blk.keysIn]
 refine DW.seq (DW.reg ?_)
 simp (disch:=omega) only [go_sem,simprocAttr,Blk.men,Blk.keysIn]
 (refine call_c (s1) (by decide) ?_; simp (disch:=omega) only [go_sem,simprocAttr,Blk.men,Blk.keysIn])
 (refine call_c (s2) (by decide) ?_; simp (disch:=omega) only [go_sem,simprocAttr,Blk.men,Blk.keysIn])
 (refine call_c (s3) (by decide) ?_; simp (disch:=omega) only [go_sem,simprocAttr,Blk.men,Blk.keysIn])
 (refine call_c (s4) (by decide) ?_; simp (disch:=omega) only [go_sem,simprocAttr,Blk.men,Blk.keysIn])
 (refine call_c (s5) (by decide) ?_; simp (disch:=omega) only [go_sem,simprocAttr,Blk.men,Blk.keysIn])
 refine DW.seq (DW.reg ?_)
 simp (disch:=omega) only [go_sem,simprocAttr,Blk.men,Blk.keysIn]
 (refine DW.ent (Ent.rel 20 rfl) ?_; simp (disch:=omega) only [go_sem,simprocAttr,Blk.men,Blk.keysIn])
 (refine DW.ent (Ent.rel 19 rfl) ?_; simp (disch:=omega) only [go_sem,simprocAttr,Blk.men,Blk.keysIn])
 (refine DW.ent (Ent.rel 17 rfl) ?_; simp (disch:=omega) only [go_sem,simprocAttr,Blk.men,Blk.keysIn])
 (refine DW.ent (Ent.rel 14 rfl) ?_; simp (disch:=omega) only [go_sem,simprocAttr,Blk.men,Blk.keysIn])
 repeat' (first|(with_reducible first|apply qA|apply qB|apply qC|apply qD|apply qE|apply qF)|(refine qL rfl (WF.of ?_) ?_; first|rfl|skip)|(simp (disch:=omega) only [go_sem, simprocAttr, Blk.men, Blk.keysIn])|exact qM rfl rfl rfl|(refine qG rfl ?_)|(refine qK (h1) (by decide) ?_)|(refine qK (h2) (by decide) ?_)|(refine qK (s6) (by decide) ?_)|(refine qK (s7) (by decide) ?_)|(refine qH rfl ?_)|(refine qI rfl ?_ ?_<;>intro hc<;>(try simp only [go_sem] at hc))|(refine qJ ?_ ?_<;>intro hc<;>(try simp only [hc])<;>(try simp only [go_sem] at hc)))
end Go.Dw.Seat
end
section
set_option linter.unusedSimpArgs false
set_option maxRecDepth 100000
namespace Go.Dw.Seat
open Go Go.Dw Go.Proofs Go.IntWalk
structure V6 where
 v0 : Nat
 v1 : Nat
 v2 : Nat
 v3 : Nat
 v4 : Nat
 v5 : Nat
structure V6.ok (v : V6) : Prop where
 v0 : v.v0 < 256
 v1 : v.v1 < 256
 v2 : v.v2 < 256
 v3 : v.v3 < 256
 v4 : v.v4 < 256
 v5 : v.v5 < 256
structure V3 where
 v0 : Nat
 v1 : Nat
 v2 : Nat
structure V3.ok (v : V3) : Prop where
 v0 : v.v0 < 256
 v1 : v.v1 < 256
 v2 : v.v2 < 256
def e6 (v : V6) : List C := [.v (.int .u8 v.v0), .v (.int .u8 v.v1), .v (.int .u8 v.v2), .v (.int .u8 v.v3), .v (.int .u8 v.v4), .v (.int .u8 v.v5)]
def e3 (v : V3) : List C := [.v (.int .u8 v.v0), .v (.int .u8 v.v1), .v (.int .u8 v.v2)]
attribute [go_sem] e6 e3
structure War where
 papers : List V6
 flutes : List V3
 by' : List Nat
structure War.ok (x : War) : Prop where
 papers : ∀ v ∈ x.papers, v.ok
 flutes : ∀ v ∈ x.flutes, v.ok
 by' : ∀ v ∈ x.by', v < 256
abbrev dWar (b : Bool) (x : War) : D := .agg [.c (.sl b 6 (rows e6 x.papers)), .c (.sl b 3 (rows e3 x.flutes)), .c (.sl b 1 (rows eY x.by'))]
attribute [go_sem] dWar
theorem ud87 : Try.prog.underlying 143 = some (.int .i64) := by kernel_rfl
theorem t100 (m : Nat) : (m : Int).tmod 100 = ((m % 100 : Nat) : Int) := tmodN m 100
theorem t90 (m : Nat) : (m : Int).tmod 90 = ((m % 90 : Nat) : Int) := tmodN m 90
theorem t2 (m : Nat) : (m : Int).tmod 2 = ((m % 2 : Nat) : Int) := tmodN m 2
theorem d8' (m : Nat) : (m : Int).tdiv 8 = ((m / 8 : Nat) : Int) := tdivN m 8
theorem d16' (m : Nat) : (m : Int).tdiv 16 = ((m / 16 : Nat) : Int) := tdivN m 16
def papOf (i : Nat) (v : V6) : Pap := ⟨if 1 < i then 1 + ((v.v0 % 2 : Nat) : Int) else 1 + (i : Int), 50 + (v.v1 : Int), 50 + (v.v2 : Int), 50 + (v.v2 : Int) + ((v.v0 / 8 : Nat) : Int), ((v.v3 % 100 : Nat) : Int), ((v.v3 % 100 : Nat) : Int) + ((v.v3 / 16 : Nat) : Int), 1000 * (v.v4 : Int), 10 * (v.v5 : Int)⟩
def papV (x : War) (i : Nat) : V6 := (x.papers[i]?).getD ⟨i, 120, 20, 7, 30, 20⟩
def fluOf (v : V3) : Flu := ⟨1000 + 35 * (v.v0 : Int), 1000 + 35 * (v.v0 : Int) + ((1000 + 35 * (v.v0 : Int)) * (v.v1 : Int)).tdiv 255, 500 + 10 * (v.v2 : Int), 500 + 10 * (v.v2 : Int) + ((v.v1 % 90 : Nat) : Int)⟩
def fluV (x : War) (i : Nat) : V3 := (x.flutes[i]?).getD ⟨80, 128, 36⟩
def nPap (x : War) : Nat := max 2 (min 5 x.papers.length)
def nFlu (x : War) : Nat := max 1 (min 3 x.flutes.length)
def wPaps (x : War) (i : Nat) : List Pap := (List.range i).map fun k => papOf k (papV x k)
def wFlus (x : War) (i : Nat) : List Flu := (List.range i).map fun k => fluOf (fluV x k)
def wSto (x : War) : Sto := ⟨wPaps x (nPap x), wFlus x (nFlu x)⟩
theorem wPaps_succ (x : War) (i : Nat) : wPaps x (i + 1) = wPaps x i ++ [papOf i (papV x i)] := by simp [wPaps, List.range_succ]
theorem wFlus_succ (x : War) (i : Nat) : wFlus x (i + 1) = wFlus x i ++ [fluOf (fluV x i)] := by simp [wFlus, List.range_succ]
theorem wPaps_len (x : War) (i : Nat) : (wPaps x i).length = i := by simp [wPaps]
theorem wFlus_len (x : War) (i : Nat) : (wFlus x i).length = i := by simp [wFlus]
theorem papV_ok {x : War} (h : x.ok) {i : Nat} (hi : i < 256) : (papV x i).ok := by
 unfold papV
 cases hv : x.papers[i]? with
 | none => exact ⟨hi, (by decide : 120 < 256), (by decide : 20 < 256), (by decide : 7 < 256), (by decide : 30 < 256), (by decide : 20 < 256)⟩
 | some v => exact h.papers v (List.mem_of_getElem? hv)
theorem fluV_ok {x : War} (h : x.ok) (i : Nat) : (fluV x i).ok := by
 unfold fluV
 cases hv : x.flutes[i]? with
 | none => exact ⟨by decide, by decide, by decide⟩
 | some v => exact h.flutes v (List.mem_of_getElem? hv)
theorem papOf_ok {v : V6} (h : v.ok) (i : Nat) : (papOf i v).ok := by
 have h0 := h.v0
 have h1 := h.v1
 have h2 := h.v2
 have h3 := h.v3
 have h4 := h.v4
 have h5 := h.v5
 have m0 : v.v0 % 2 < 2 := Nat.mod_lt _ (by decide)
 have m1 : v.v3 % 100 < 100 := Nat.mod_lt _ (by decide)
 unfold papOf
 refine ⟨?_, ?_, ?_, ?_, ?_, ?_⟩
 ·show (if 1 < i then 1 + ((v.v0 % 2 : Nat) : Int) else 1 + (i : Int)) = 1 ∨ (if 1 < i then 1 + ((v.v0 % 2 : Nat) : Int) else 1 + (i : Int)) = 2
  split <;> omega
 all_goals dsimp only
 all_goals omega
theorem fluOf_draw {v : V3} (h : v.ok) : 0 ≤ (1000 + 35 * (v.v0 : Int)) * (v.v1 : Int) ∧ (1000 + 35 * (v.v0 : Int)) * (v.v1 : Int) ≤ 2530875 ∧ 0 ≤ ((1000 + 35 * (v.v0 : Int)) * (v.v1 : Int)).tdiv 255 ∧ ((1000 + 35 * (v.v0 : Int)) * (v.v1 : Int)).tdiv 255 ≤ 1000 + 35 * (v.v0 : Int) := by
 have h0 := h.v0
 have h1 := h.v1
 have m := mulB0 (a := 1000 + 35 * (v.v0 : Int)) (b := (v.v1 : Int)) (A := 9925) (B := 255) (by omega) (by omega)
 have m2 : (1000 + 35 * (v.v0 : Int)) * (v.v1 : Int) ≤ (1000 + 35 * (v.v0 : Int)) * 255 := Int.mul_le_mul_of_nonneg_left (by omega) (by omega)
 rw [Int.tdiv_eq_ediv_of_nonneg m.1]
 generalize (1000 + 35 * (v.v0 : Int)) * (v.v1 : Int) = q at *
 omega
theorem fluOf_ok {v : V3} (h : v.ok) : (fluOf v).ok := by
 have h0 := h.v0
 have h1 := h.v1
 have h2 := h.v2
 have hd := fluOf_draw h
 have m1 : v.v1 % 90 < 90 := Nat.mod_lt _ (by decide)
 unfold fluOf
 refine ⟨?_, ?_, ?_⟩
 all_goals dsimp only
 all_goals omega
theorem wSto_ok {x : War} (h : x.ok) : (wSto x).ok := by
 refine ⟨?_, ?_, ?_, ?_⟩
 ·show 1 ≤ (wPaps x (nPap x)).length ∧ (wPaps x (nPap x)).length ≤ 8
  rw [wPaps_len]; unfold nPap; omega
 ·show 1 ≤ (wFlus x (nFlu x)).length ∧ (wFlus x (nFlu x)).length ≤ 4
  rw [wFlus_len]; unfold nFlu; omega
 ·intro p hp
  obtain ⟨i, hi, rfl⟩ := List.mem_map.1 hp
  rw [List.mem_range] at hi
  exact papOf_ok (papV_ok h (by unfold nPap at hi; omega)) i
 ·intro p hp
  obtain ⟨i, _, rfl⟩ := List.mem_map.1 hp
  exact fluOf_ok (fluV_ok h i)
theorem snocP (l : List Pap) (a b c d e f g h : Int) : rowC (rows eP l) ++ [[D.c (.v (.int .i64 a)), D.c (.v (.int .i64 b)), D.c (.v (.int .i64 c)), D.c (.v (.int .i64 d)), D.c (.v (.int .i64 e)), D.c (.v (.int .i64 f)), D.c (.v (.int .i64 g)), D.c (.v (.int .i64 h))]] = rowC (rows eP (l ++ [⟨a, b, c, d, e, f, g, h⟩])) := by simp [rowC, rows, eP]
theorem snocF (l : List Flu) (a b c d : Int) : rowC (rows eF l) ++ [[D.c (.v (.int .i64 a)), D.c (.v (.int .i64 b)), D.c (.v (.int .i64 c)), D.c (.v (.int .i64 d))]] = rowC (rows eF (l ++ [⟨a, b, c, d⟩])) := by simp [rowC, rows, eF]
attribute [go_sem] snocP snocF
set_option maxHeartbeats 1600000 in
theorem arStore (b : Bool) (x : War) (h : x.ok) : DCall Try.prog 16 [dWar b x] [] (dSto (wSto x)) [] := by
 have hn : nPap x ≤ 5 ∧ 2 ≤ nPap x := by unfold nPap; omega
 have hnf : nFlu x ≤ 3 ∧ 1 ≤ nFlu x := by unfold nFlu; omega
 refine DCall.of Try.func16 sf16 hb16 (Nat.le_of_ble_eq_true rfl) (okRes_nil fun _ => rfl) ?_; simp only [s16, idxs, Nat.reduceAdd]
 repeat' (first|(with_reducible first|apply qA|apply qB|apply qC|apply qD|apply qE|apply qF)|(refine qL rfl (WF.of ?_) ?_; first|rfl|skip)|(simp (disch:=omega) only [go_sem, simprocAttr, Blk.men, Blk.keysIn])|exact qM rfl rfl rfl|(refine qG rfl ?_)|(refine qH rfl ?_)|(refine qI rfl ?_ ?_<;>intro hc<;>(try simp only [go_sem] at hc))|(refine qJ ?_ ?_<;>intro hc<;>(try simp only [hc])<;>(try simp only [go_sem] at hc)))
 (refine DW.ent (Ent.adoptB 3 0 94 8 rfl rfl rfl rfl) ?_; simp only [ins, Nat.reduceLT, Nat.reduceEqDiff, ↓reduceIte, List.set_cons_zero, List.set_cons_succ])
 (refine DW.ent (Ent.adoptB 3 1 156 4 rfl rfl rfl rfl) ?_; simp only [ins, Nat.reduceLT, Nat.reduceEqDiff, ↓reduceIte, List.set_cons_zero, List.set_cons_succ])
 refine DW.loop (ι := { i : Nat // i ≤ nPap x }) (fun i => ⟨159, [(4, dI i.1), (3, .box 3 0), (2, .box 2 0), (1, .box 1 0)], [(156, .row 4 []), (94, .row 8 (rowC (rows eP (wPaps x i.1)))), (3, .box [.own 94, .own 156]), (2, .box [.c (.v (.slice none 0 0)), .c (.v (.slice none 0 0))]), (1, .box [.c (.sl b 6 (rows e6 x.papers)), .c (.sl b 3 (rows e3 x.flutes)), .c (.sl b 1 (rows eY x.by'))])]⟩) (fun i => nPap x - i.1) ⟨0, Nat.zero_le _⟩ ?_ ?_
 ·refine Ent.to ?_ ?_ <;> simp (disch:=omega) only [qR,qS,qTw,qU,get,Nat.reduceEqDiff,↓reduceIte,qV,qW,qX,qY,qZ,and_self,dI,i64_in,and_true,true_and,rA,rB,rC,rD]
  exact .refl _
 rintro ⟨i, hi⟩
 dsimp only
 rcases Nat.lt_or_ge i (nPap x) with hlt | hge
 ·have hv := papV_ok h (i := i) (by omega)
  have hcond : (decide ((i : Int) < 2) = true) ∨ (decide ((i : Int) < 2) = false ∧ decide ((i : Int) < (x.papers.length : Int)) = true ∧ decide ((i : Int) < 5) = true) := by
   unfold nPap at hlt
   simp only [decide_eq_true_eq, decide_eq_false_iff_not]
   omega
  refine DW.cut ⟨159, [(4, dI i), (3, .box 3 0), (2, .box 2 0), (1, .box 1 0)], [(156, .row 4 []), (94, .row 8 (rowC (rows eP (wPaps x i)))), (3, .box [.own 94, .own 156]), (2, .box [.c (.v (.slice none 0 0)), .c (.v (.slice none 0 0))]), (1, .box [.c (.sl b 6 (rows e6 x.papers)), .c (.sl b 3 (rows e3 x.flutes)), .c (.sl b 1 (rows eY x.by'))])]⟩ ?_ ?_
  ·rcases hcond with hc | ⟨hc1, hc2, hc3⟩
   ·repeat' (first|(with_reducible first|apply qA|apply qB|apply qC|apply qD|apply qE|apply qF)|(refine qL rfl (WF.of ?_) ?_; first|rfl|skip)|(simp (disch:=omega) only [go_sem, simprocAttr, Blk.men, Blk.keysIn, hc])|exact qM rfl rfl rfl|(refine qG rfl ?_)|(refine qH rfl ?_)|(refine qI rfl ?_ ?_<;>intro hc<;>(try simp only [go_sem] at hc))|(refine qJ ?_ ?_<;>intro hc<;>(try simp only [hc])<;>(try simp only [go_sem] at hc)))
    refine Ent.to ?_ ?_ <;> simp (disch:=omega) only [qR,qS,qTw,qU,get,Nat.reduceEqDiff,↓reduceIte,qV,qW,qX,qY,qZ,and_self,dI,i64_in,and_true,true_and,rA,rB,rC,rD]
   ·repeat' (first|(with_reducible first|apply qA|apply qB|apply qC|apply qD|apply qE|apply qF)|(refine qL rfl (WF.of ?_) ?_; first|rfl|skip)|(simp (disch:=omega) only [go_sem, simprocAttr, Blk.men, Blk.keysIn, hc1, hc2, hc3])|exact qM rfl rfl rfl|(refine qG rfl ?_)|(refine qH rfl ?_)|(refine qI rfl ?_ ?_<;>intro hc<;>(try simp only [go_sem] at hc))|(refine qJ ?_ ?_<;>intro hc<;>(try simp only [hc])<;>(try simp only [go_sem] at hc)))
    refine Ent.to ?_ ?_ <;> simp (disch:=omega) only [qR,qS,qTw,qU,get,Nat.reduceEqDiff,↓reduceIte,qV,qW,qX,qY,qZ,and_self,dI,i64_in,and_true,true_and,rA,rB,rC,rD]
  refine DW.seq (DW.block (DW.seq (DW.reg ?_)))
  have hi8 : IntKind.u8.wrap (i : Int) = (i : Int) := IntWalk.u8_in _ (by omega)
  simp (disch:=omega) only [go_sem,simprocAttr,Blk.men,Blk.keysIn,ud3,hi8]
  generalize hpv : papV x i = v at *
  refine DW.cut ⟨159, [(5, .box 5 0), (4, dI i), (3, .box 3 0), (2, .box 2 0), (1, .box 1 0)], [(156, .row 4 []), (94, .row 8 (rowC (rows eP (wPaps x i)))), (5, .box ((e6 v).map D.c)), (3, .box [.own 94, .own 156]), (2, .box [.c (.v (.slice none 0 0)), .c (.v (.slice none 0 0))]), (1, .box [.c (.sl b 6 (rows e6 x.papers)), .c (.sl b 3 (rows e3 x.flutes)), .c (.sl b 1 (rows eY x.by'))])]⟩ ?_ ?_
  ·rcases Nat.lt_or_ge i x.papers.length with hl | hl
   ·have hd : decide ((i : Int) < (x.papers.length : Int)) = true := by rw [decide_eq_true_eq]; omega
    have hxv : x.papers[i]? = some v := by
     rw [← hpv, papV, List.getElem?_eq_getElem hl]; rfl
    repeat' (first|(with_reducible first|apply qA|apply qB|apply qC|apply qD|apply qE|apply qF)|(refine qL rfl (WF.of ?_) ?_; first|rfl|skip)|(simp (disch:=omega) only [go_sem, simprocAttr, Blk.men, Blk.keysIn, hd, hxv, rF, rG])|exact qM rfl rfl rfl|(refine qG rfl ?_)|(refine qH rfl ?_)|(refine qI rfl ?_ ?_<;>intro hc<;>(try simp only [go_sem] at hc))|(refine qJ ?_ ?_<;>intro hc<;>(try simp only [hc])<;>(try simp only [go_sem] at hc)))
    refine Ent.to ?_ ?_ <;> simp (disch:=omega) only [qR,qS,qTw,qU,get,Nat.reduceEqDiff,↓reduceIte,qV,qW,qX,qY,qZ,and_self,dI,i64_in,and_true,true_and,rA,rB,rC,rD]
   ·have hd : decide ((i : Int) < (x.papers.length : Int)) = false := by rw [decide_eq_false_iff_not]; omega
    have hxv : v = ⟨i, 120, 20, 7, 30, 20⟩ := by
     rw [← hpv, papV, List.getElem?_eq_none hl]; rfl
    rw [hxv]
    repeat' (first|(with_reducible first|apply qA|apply qB|apply qC|apply qD|apply qE|apply qF)|(refine qL rfl (WF.of ?_) ?_; first|rfl|skip)|(simp (disch:=omega) only [go_sem, simprocAttr, Blk.men, Blk.keysIn, hd, rF, rG])|exact qM rfl rfl rfl|(refine qG rfl ?_)|(refine qH rfl ?_)|(refine qI rfl ?_ ?_<;>intro hc<;>(try simp only [go_sem] at hc))|(refine qJ ?_ ?_<;>intro hc<;>(try simp only [hc])<;>(try simp only [go_sem] at hc)))
    refine Ent.to ?_ ?_ <;> simp (disch:=omega) only [qR,qS,qTw,qU,get,Nat.reduceEqDiff,↓reduceIte,qV,qW,qX,qY,qZ,and_self,dI,i64_in,and_true,true_and,rA,rB,rC,rD]
    all_goals exact .refl _
  have w0 := hv.v0
  have w1 := hv.v1
  have w2 := hv.v2
  have w3 := hv.v3
  have w4 := hv.v4
  have w5 := hv.v5
  have m0 : v.v0 % 2 < 2 := Nat.mod_lt _ (by decide)
  have m1 : v.v3 % 100 < 100 := Nat.mod_lt _ (by decide)
  have s1 := arSpan (50 + (v.v2 : Int)) (50 + (v.v2 : Int) + ((v.v0 / 8 : Nat) : Int))
  have s2 := arSpan ((v.v3 % 100 : Nat) : Int) (((v.v3 % 100 : Nat) : Int) + ((v.v3 / 16 : Nat) : Int))
  have hln := wPaps_len x i
  have hsn := wPaps_succ x i
  rw [hpv] at hsn
  generalize wPaps x i = l at *
  by_cases h1 : 1 < i
  ·have hd : decide ((1 : Int) < (i : Int)) = true := by rw [decide_eq_true_eq]; omega
   have hpo : papOf i v = ⟨1 + ((v.v0 % 2 : Nat) : Int), 50 + (v.v1 : Int), 50 + (v.v2 : Int), 50 + (v.v2 : Int) + ((v.v0 / 8 : Nat) : Int), ((v.v3 % 100 : Nat) : Int), ((v.v3 % 100 : Nat) : Int) + ((v.v3 / 16 : Nat) : Int), 1000 * (v.v4 : Int), 10 * (v.v5 : Int)⟩ := by rw [papOf, if_pos h1]
   rw [hpo] at hsn
   repeat' (first|(with_reducible first|apply qA|apply qB|apply qC|apply qD|apply qE|apply qF)|(refine qL rfl (WF.of ?_) ?_; first|rfl|skip)|(simp (disch:=omega) only [go_sem, simprocAttr, Blk.men, Blk.keysIn, hd, t100, t2, d8', d16', ud87, rF, rG])|exact qM rfl rfl rfl|(refine qG rfl ?_)|(refine qK (s1) (by decide) ?_)|(refine qK (s2) (by decide) ?_)|(refine qH rfl ?_)|(refine qI rfl ?_ ?_<;>intro hc<;>(try simp only [go_sem] at hc))|(refine qJ ?_ ?_<;>intro hc<;>(try simp only [hc])<;>(try simp only [go_sem] at hc)))
   refine ⟨⟨i + 1, hlt⟩, ?_, Ent.to ?_ ?_⟩ <;> first | (show _ < _; (try simp only); omega) | (simp (disch:=omega) only [qR,qS,qTw,qU,get,Nat.reduceEqDiff,↓reduceIte,qV,qW,qX,qY,qZ,and_self,dI,i64_in,and_true,true_and,rA,rB,rC,rD, hsn])
   all_goals exact .refl _
  ·have hd : decide ((1 : Int) < (i : Int)) = false := by rw [decide_eq_false_iff_not]; omega
   have hpo : papOf i v = ⟨1 + (i : Int), 50 + (v.v1 : Int), 50 + (v.v2 : Int), 50 + (v.v2 : Int) + ((v.v0 / 8 : Nat) : Int), ((v.v3 % 100 : Nat) : Int), ((v.v3 % 100 : Nat) : Int) + ((v.v3 / 16 : Nat) : Int), 1000 * (v.v4 : Int), 10 * (v.v5 : Int)⟩ := by rw [papOf, if_neg h1]
   rw [hpo] at hsn
   repeat' (first|(with_reducible first|apply qA|apply qB|apply qC|apply qD|apply qE|apply qF)|(refine qL rfl (WF.of ?_) ?_; first|rfl|skip)|(simp (disch:=omega) only [go_sem, simprocAttr, Blk.men, Blk.keysIn, hd, t100, t2, d8', d16', ud87, rF, rG])|exact qM rfl rfl rfl|(refine qG rfl ?_)|(refine qK (s1) (by decide) ?_)|(refine qK (s2) (by decide) ?_)|(refine qH rfl ?_)|(refine qI rfl ?_ ?_<;>intro hc<;>(try simp only [go_sem] at hc))|(refine qJ ?_ ?_<;>intro hc<;>(try simp only [hc])<;>(try simp only [go_sem] at hc)))
   refine ⟨⟨i + 1, hlt⟩, ?_, Ent.to ?_ ?_⟩ <;> first | (show _ < _; (try simp only); omega) | (simp (disch:=omega) only [qR,qS,qTw,qU,get,Nat.reduceEqDiff,↓reduceIte,qV,qW,qX,qY,qZ,and_self,dI,i64_in,and_true,true_and,rA,rB,rC,rD, hsn])
   all_goals exact .refl _
 ·obtain rfl : i = nPap x := by omega
  have hc1 : decide ((nPap x : Int) < 2) = false := by rw [decide_eq_false_iff_not]; omega
  have hcond : (decide ((nPap x : Int) < (x.papers.length : Int)) = false) ∨ (decide ((nPap x : Int) < (x.papers.length : Int)) = true ∧ decide ((nPap x : Int) < 5) = false) := by
   have : nPap x = max 2 (min 5 x.papers.length) := rfl
   simp only [decide_eq_true_eq, decide_eq_false_iff_not]
   omega
  refine DW.leave 0 ⟨159, [(3, .box 3 0), (2, .box 2 0), (1, .box 1 0)], [(156, .row 4 (rowC (rows eF (wFlus x 0)))), (94, .row 8 (rowC (rows eP (wPaps x (nPap x))))), (3, .box [.own 94, .own 156]), (2, .box [.c (.v (.slice none 0 0)), .c (.v (.slice none 0 0))]), (1, .box [.c (.sl b 6 (rows e6 x.papers)), .c (.sl b 3 (rows e3 x.flutes)), .c (.sl b 1 (rows eY x.by'))])]⟩ ?_ ?_
  ·rcases hcond with hc | ⟨hc2, hc3⟩
   ·repeat' (first|(with_reducible first|apply qA|apply qB|apply qC|apply qD|apply qE|apply qF)|(refine qL rfl (WF.of ?_) ?_; first|rfl|skip)|(simp (disch:=omega) only [go_sem, simprocAttr, Blk.men, Blk.keysIn, hc1, hc])|exact qM rfl rfl rfl|(refine qG rfl ?_)|(refine qH rfl ?_)|(refine qI rfl ?_ ?_<;>intro hc<;>(try simp only [go_sem] at hc))|(refine qJ ?_ ?_<;>intro hc<;>(try simp only [hc])<;>(try simp only [go_sem] at hc)))
    refine Ent.to ?_ ?_ <;> simp (disch:=omega) only [qR,qS,qTw,qU,get,Nat.reduceEqDiff,↓reduceIte,qV,qW,qX,qY,qZ,and_self,dI,i64_in,and_true,true_and,rA,rB,rC,rD]
    all_goals exact .refl _
   ·repeat' (first|(with_reducible first|apply qA|apply qB|apply qC|apply qD|apply qE|apply qF)|(refine qL rfl (WF.of ?_) ?_; first|rfl|skip)|(simp (disch:=omega) only [go_sem, simprocAttr, Blk.men, Blk.keysIn, hc1, hc2, hc3])|exact qM rfl rfl rfl|(refine qG rfl ?_)|(refine qH rfl ?_)|(refine qI rfl ?_ ?_<;>intro hc<;>(try simp only [go_sem] at hc))|(refine qJ ?_ ?_<;>intro hc<;>(try simp only [hc])<;>(try simp only [go_sem] at hc)))
    refine Ent.to ?_ ?_ <;> simp (disch:=omega) only [qR,qS,qTw,qU,get,Nat.reduceEqDiff,↓reduceIte,qV,qW,qX,qY,qZ,and_self,dI,i64_in,and_true,true_and,rA,rB,rC,rD]
    all_goals exact .refl _
  intro σ' hσ'
  simp (disch:=omega) only [go_sem,simprocAttr,Blk.men,Blk.keysIn]
  refine DW.ent hσ' ?_
  clear hσ' hcond hc1
  repeat' (first|(with_reducible first|apply qA|apply qB|apply qC|apply qD|apply qE|apply qF)|(refine qL rfl (WF.of ?_) ?_; first|rfl|skip)|(simp (disch:=omega) only [go_sem, simprocAttr, Blk.men, Blk.keysIn])|exact qM rfl rfl rfl|(refine qG rfl ?_)|(refine qH rfl ?_)|(refine qI rfl ?_ ?_<;>intro hc<;>(try simp only [go_sem] at hc))|(refine qJ ?_ ?_<;>intro hc<;>(try simp only [hc])<;>(try simp only [go_sem] at hc)))
  refine DW.loop (ι := { i : Nat // i ≤ nFlu x }) (fun i => ⟨159, [(7, dI i.1), (3, .box 3 0), (2, .box 2 0), (1, .box 1 0)], [(156, .row 4 (rowC (rows eF (wFlus x i.1)))), (94, .row 8 (rowC (rows eP (wPaps x (nPap x))))), (3, .box [.own 94, .own 156]), (2, .box [.c (.v (.slice none 0 0)), .c (.v (.slice none 0 0))]), (1, .box [.c (.sl b 6 (rows e6 x.papers)), .c (.sl b 3 (rows e3 x.flutes)), .c (.sl b 1 (rows eY x.by'))])]⟩) (fun i => nFlu x - i.1) ⟨0, Nat.zero_le _⟩ ?_ ?_
  ·refine Ent.to ?_ ?_ <;> simp (disch:=omega) only [qR,qS,qTw,qU,get,Nat.reduceEqDiff,↓reduceIte,qV,qW,qX,qY,qZ,and_self,dI,i64_in,and_true,true_and,rA,rB,rC,rD]
  clear hi
  rintro ⟨i, hi⟩
  dsimp only
  rcases Nat.lt_or_ge i (nFlu x) with hlt | hge
  ·have hv := fluV_ok h i
   have hcond : (((i : Int) == 0) = true) ∨ (((i : Int) == 0) = false ∧ decide ((i : Int) < (x.flutes.length : Int)) = true ∧ decide ((i : Int) < 3) = true) := by
    have : nFlu x = max 1 (min 3 x.flutes.length) := rfl
    simp only [decide_eq_true_eq, beq_iff_eq, beq_eq_false_iff_ne]
    omega
   refine DW.cut ⟨159, [(7, dI i), (3, .box 3 0), (2, .box 2 0), (1, .box 1 0)], [(156, .row 4 (rowC (rows eF (wFlus x i)))), (94, .row 8 (rowC (rows eP (wPaps x (nPap x))))), (3, .box [.own 94, .own 156]), (2, .box [.c (.v (.slice none 0 0)), .c (.v (.slice none 0 0))]), (1, .box [.c (.sl b 6 (rows e6 x.papers)), .c (.sl b 3 (rows e3 x.flutes)), .c (.sl b 1 (rows eY x.by'))])]⟩ ?_ ?_
   ·rcases hcond with hc | ⟨hc1, hc2, hc3⟩
    ·repeat' (first|(with_reducible first|apply qA|apply qB|apply qC|apply qD|apply qE|apply qF)|(refine qL rfl (WF.of ?_) ?_; first|rfl|skip)|(simp (disch:=omega) only [go_sem, simprocAttr, Blk.men, Blk.keysIn, hc])|exact qM rfl rfl rfl|(refine qG rfl ?_)|(refine qH rfl ?_)|(refine qI rfl ?_ ?_<;>intro hc<;>(try simp only [go_sem] at hc))|(refine qJ ?_ ?_<;>intro hc<;>(try simp only [hc])<;>(try simp only [go_sem] at hc)))
     refine Ent.to ?_ ?_ <;> simp (disch:=omega) only [qR,qS,qTw,qU,get,Nat.reduceEqDiff,↓reduceIte,qV,qW,qX,qY,qZ,and_self,dI,i64_in,and_true,true_and,rA,rB,rC,rD]
    ·repeat' (first|(with_reducible first|apply qA|apply qB|apply qC|apply qD|apply qE|apply qF)|(refine qL rfl (WF.of ?_) ?_; first|rfl|skip)|(simp (disch:=omega) only [go_sem, simprocAttr, Blk.men, Blk.keysIn, hc1, hc2, hc3])|exact qM rfl rfl rfl|(refine qG rfl ?_)|(refine qH rfl ?_)|(refine qI rfl ?_ ?_<;>intro hc<;>(try simp only [go_sem] at hc))|(refine qJ ?_ ?_<;>intro hc<;>(try simp only [hc])<;>(try simp only [go_sem] at hc)))
     refine Ent.to ?_ ?_ <;> simp (disch:=omega) only [qR,qS,qTw,qU,get,Nat.reduceEqDiff,↓reduceIte,qV,qW,qX,qY,qZ,and_self,dI,i64_in,and_true,true_and,rA,rB,rC,rD]
   refine DW.seq (DW.block (DW.seq (DW.reg ?_)))
   simp (disch:=omega) only [go_sem,simprocAttr,Blk.men,Blk.keysIn]
   generalize hpv : fluV x i = v at *
   refine DW.cut ⟨159, [(8, .box 8 0), (7, dI i), (3, .box 3 0), (2, .box 2 0), (1, .box 1 0)], [(156, .row 4 (rowC (rows eF (wFlus x i)))), (94, .row 8 (rowC (rows eP (wPaps x (nPap x))))), (8, .box ((e3 v).map D.c)), (3, .box [.own 94, .own 156]), (2, .box [.c (.v (.slice none 0 0)), .c (.v (.slice none 0 0))]), (1, .box [.c (.sl b 6 (rows e6 x.papers)), .c (.sl b 3 (rows e3 x.flutes)), .c (.sl b 1 (rows eY x.by'))])]⟩ ?_ ?_
   ·rcases Nat.lt_or_ge i x.flutes.length with hl | hl
    ·have hd : decide ((i : Int) < (x.flutes.length : Int)) = true := by rw [decide_eq_true_eq]; omega
     have hxv : x.flutes[i]? = some v := by
      rw [← hpv, fluV, List.getElem?_eq_getElem hl]; rfl
     repeat' (first|(with_reducible first|apply qA|apply qB|apply qC|apply qD|apply qE|apply qF)|(refine qL rfl (WF.of ?_) ?_; first|rfl|skip)|(simp (disch:=omega) only [go_sem, simprocAttr, Blk.men, Blk.keysIn, hd, hxv, rF, rG])|exact qM rfl rfl rfl|(refine qG rfl ?_)|(refine qH rfl ?_)|(refine qI rfl ?_ ?_<;>intro hc<;>(try simp only [go_sem] at hc))|(refine qJ ?_ ?_<;>intro hc<;>(try simp only [hc])<;>(try simp only [go_sem] at hc)))
     refine Ent.to ?_ ?_ <;> simp (disch:=omega) only [qR,qS,qTw,qU,get,Nat.reduceEqDiff,↓reduceIte,qV,qW,qX,qY,qZ,and_self,dI,i64_in,and_true,true_and,rA,rB,rC,rD]
    ·have hd : decide ((i : Int) < (x.flutes.length : Int)) = false := by rw [decide_eq_false_iff_not]; omega
     have hxv : v = ⟨80, 128, 36⟩ := by
      rw [← hpv, fluV, List.getElem?_eq_none hl]; rfl
     rw [hxv]
     repeat' (first|(with_reducible first|apply qA|apply qB|apply qC|apply qD|apply qE|apply qF)|(refine qL rfl (WF.of ?_) ?_; first|rfl|skip)|(simp (disch:=omega) only [go_sem, simprocAttr, Blk.men, Blk.keysIn, hd, rF, rG])|exact qM rfl rfl rfl|(refine qG rfl ?_)|(refine qH rfl ?_)|(refine qI rfl ?_ ?_<;>intro hc<;>(try simp only [go_sem] at hc))|(refine qJ ?_ ?_<;>intro hc<;>(try simp only [hc])<;>(try simp only [go_sem] at hc)))
     refine Ent.to ?_ ?_ <;> simp (disch:=omega) only [qR,qS,qTw,qU,get,Nat.reduceEqDiff,↓reduceIte,qV,qW,qX,qY,qZ,and_self,dI,i64_in,and_true,true_and,rA,rB,rC,rD]
     all_goals exact .refl _
   have w0 := hv.v0
   have w1 := hv.v1
   have w2 := hv.v2
   have hfd := fluOf_draw hv
   have m1 : v.v1 % 90 < 90 := Nat.mod_lt _ (by decide)
   have s1 := arSpan (500 + 10 * (v.v2 : Int)) (500 + 10 * (v.v2 : Int) + ((v.v1 % 90 : Nat) : Int))
   have hln := wFlus_len x i
   have hsn := wFlus_succ x i
   rw [hpv] at hsn
   have hpo : fluOf v = ⟨1000 + 35 * (v.v0 : Int), 1000 + 35 * (v.v0 : Int) + ((1000 + 35 * (v.v0 : Int)) * (v.v1 : Int)).tdiv 255, 500 + 10 * (v.v2 : Int), 500 + 10 * (v.v2 : Int) + ((v.v1 % 90 : Nat) : Int)⟩ := rfl
   rw [hpo] at hsn
   generalize wFlus x i = l at *
   repeat' (first|(with_reducible first|apply qA|apply qB|apply qC|apply qD|apply qE|apply qF)|(refine qL rfl (WF.of ?_) ?_; first|rfl|skip)|(simp (disch:=omega) only [go_sem, simprocAttr, Blk.men, Blk.keysIn, t90, rF, rG])|exact qM rfl rfl rfl|(refine qG rfl ?_)|(refine qK (s1) (by decide) ?_)|(refine qH rfl ?_)|(refine qI rfl ?_ ?_<;>intro hc<;>(try simp only [go_sem] at hc))|(refine qJ ?_ ?_<;>intro hc<;>(try simp only [hc])<;>(try simp only [go_sem] at hc)))
   refine ⟨⟨i + 1, hlt⟩, ?_, Ent.to ?_ ?_⟩ <;> first | (show _ < _; (try simp only); omega) | (simp (disch:=omega) only [qR,qS,qTw,qU,get,Nat.reduceEqDiff,↓reduceIte,qV,qW,qX,qY,qZ,and_self,dI,i64_in,and_true,true_and,rA,rB,rC,rD, hsn])
   all_goals exact .refl _
  ·obtain rfl : i = nFlu x := by omega
   have hc1 : ((nFlu x : Int) == 0) = false := by rw [beq_eq_false_iff_ne]; omega
   have hcond : (decide ((nFlu x : Int) < (x.flutes.length : Int)) = false) ∨ (decide ((nFlu x : Int) < (x.flutes.length : Int)) = true ∧ decide ((nFlu x : Int) < 3) = false) := by
    have : nFlu x = max 1 (min 3 x.flutes.length) := rfl
    simp only [decide_eq_true_eq, decide_eq_false_iff_not]
    omega
   rcases hcond with hc | ⟨hc2, hc3⟩
   ·repeat' (first|(with_reducible first|apply qA|apply qB|apply qC|apply qD|apply qE|apply qF)|(refine qL rfl (WF.of ?_) ?_; first|rfl|skip)|(simp (disch:=omega) only [go_sem, simprocAttr, Blk.men, Blk.keysIn, hc1, hc])|exact qM rfl rfl rfl|(refine qG rfl ?_)|(refine qH rfl ?_)|(refine qI rfl ?_ ?_<;>intro hc<;>(try simp only [go_sem] at hc))|(refine qJ ?_ ?_<;>intro hc<;>(try simp only [hc])<;>(try simp only [go_sem] at hc)))
    (refine retS_ent (Ent.rel 94 rfl) ?_; simp (disch:=omega) only [go_sem,simprocAttr,Blk.men,Blk.keysIn])
    (refine retS_ent (Ent.rel 156 rfl) ?_; simp (disch:=omega) only [go_sem,simprocAttr,Blk.men,Blk.keysIn])
    refine retS_wk rfl ?_ (by simp only [Blk.nb, rowC_nb, D.nb, D.nbs, C.nb, C.nbs, C.nbss, rows_nb eI_nb, Bool.and_true, Bool.not_false, Bool.and_self, bD, dI, iD, rows_nb eP_nb, rows_nb eF_nb, rows_nb eY_nb]); exact .refl _
   ·repeat' (first|(with_reducible first|apply qA|apply qB|apply qC|apply qD|apply qE|apply qF)|(refine qL rfl (WF.of ?_) ?_; first|rfl|skip)|(simp (disch:=omega) only [go_sem, simprocAttr, Blk.men, Blk.keysIn, hc1, hc2, hc3])|exact qM rfl rfl rfl|(refine qG rfl ?_)|(refine qH rfl ?_)|(refine qI rfl ?_ ?_<;>intro hc<;>(try simp only [go_sem] at hc))|(refine qJ ?_ ?_<;>intro hc<;>(try simp only [hc])<;>(try simp only [go_sem] at hc)))
    (refine retS_ent (Ent.rel 94 rfl) ?_; simp (disch:=omega) only [go_sem,simprocAttr,Blk.men,Blk.keysIn])
    (refine retS_ent (Ent.rel 156 rfl) ?_; simp (disch:=omega) only [go_sem,simprocAttr,Blk.men,Blk.keysIn])
    refine retS_wk rfl ?_ (by simp only [Blk.nb, rowC_nb, D.nb, D.nbs, C.nb, C.nbs, C.nbss, rows_nb eI_nb, Bool.and_true, Bool.not_false, Bool.and_self, bD, dI, iD, rows_nb eP_nb, rows_nb eF_nb, rows_nb eY_nb]); exact .refl _
end Go.Dw.Seat
end
section
set_option linter.unusedSimpArgs false
set_option maxRecDepth 100000
namespace Go.Dw.Seat
open Go Go.Dw Go.Proofs Go.IntWalk
theorem arInts (b : Bool) (l : List Int) (hl : l.length ≤ 2 ^ 36) : DCall Try.prog 58 [dIs b l] [] (dIs false l) [] := by
 refine DCall.of Try.func58 sf58 hb58 (Nat.le_of_ble_eq_true rfl) (okRes_nil fun _ => rfl) ?_; simp only [s58, idxs, Nat.reduceAdd]
 repeat' (first|(with_reducible first|apply qA|apply qB|apply qC|apply qD|apply qE|apply qF)|(simp (disch:=omega) only [go_sem, simprocAttr, Blk.men, Blk.keysIn])|exact qM rfl rfl rfl|(refine qG rfl ?_)|(refine qH rfl ?_)|(refine qI rfl ?_ ?_<;>intro hc<;>(try simp only [go_sem] at hc))|(refine qJ ?_ ?_<;>intro hc<;>(try simp only [hc])<;>(try simp only [go_sem] at hc)))
 (refine retS_ent (Ent.rel 3 rfl) ?_; simp (disch:=omega) only [go_sem,simprocAttr,Blk.men,Blk.keysIn])
 refine retS_wk rfl ?_ (by simp only [Blk.nb, rowC_nb, D.nb, D.nbs, C.nb, C.nbs, C.nbss, rows_nb eI_nb, Bool.and_true, Bool.not_false, Bool.and_self, bD, dI, iD, rows_nb eP_nb, rows_nb eF_nb, rows_nb eY_nb]); exact .refl _
theorem arMade (m : Mak) (h1 : m.papers.length ≤ 1000) (h2 : m.flutes.length ≤ 1000) : DCall Try.prog 23 [dMak m] [] (dMak m) [] := by
 have c1 := arInts false (nL m.papers) (by rw [nL_length]; omega)
 have c2 := arInts false (nL m.flutes) (by rw [nL_length]; omega)
 refine DCall.of Try.func23 sf23 hb23 (Nat.le_of_ble_eq_true rfl) (okRes_nil fun _ => rfl) ?_; simp only [s23, idxs, Nat.reduceAdd]
 repeat' (first|(with_reducible first|apply qA|apply qB|apply qC|apply qD|apply qE|apply qF)|(refine qL rfl (WF.of ?_) ?_; first|rfl|skip)|(simp (disch:=omega) only [go_sem, simprocAttr, Blk.men, Blk.keysIn])|exact qM rfl rfl rfl|(refine qG rfl ?_)|(refine qK (c1) (by decide) ?_)|(refine qK (c2) (by decide) ?_)|(refine qH rfl ?_)|(refine qI rfl ?_ ?_<;>intro hc<;>(try simp only [go_sem] at hc))|(refine qJ ?_ ?_<;>intro hc<;>(try simp only [hc])<;>(try simp only [go_sem] at hc)))
 refine retS_wk rfl ?_ (by simp only [Blk.nb, rowC_nb, D.nb, D.nbs, C.nb, C.nbs, C.nbss, rows_nb eI_nb, Bool.and_true, Bool.not_false, Bool.and_self, bD, dI, iD, rows_nb eP_nb, rows_nb eF_nb, rows_nb eY_nb]); exact .refl _
theorem arOwn (s : Sto) (h1 : s.papers.length ≤ 1000) (h2 : s.flutes.length ≤ 1000) : DCall Try.prog 25 [dSto s] [] (dSto s) [] := by
 refine DCall.of Try.func25 sf25 hb25 (Nat.le_of_ble_eq_true rfl) (okRes_nil fun _ => rfl) ?_; simp only [s25, o25_0, o25_1, o25_2, o25_3, o25_4, o25_5, o25_6, o25_7, o25_8, o25_9, idxs, Nat.reduceAdd]
 repeat' (first|(with_reducible first|apply qA|apply qB|apply qC|apply qD|apply qE|apply qF)|(refine DW.ord rfl (WF.of (by first|rfl|simp (disch:=omega) only [go_sem, simprocAttr, Blk.men, Blk.keysIn])) ?_ ?_ ?_; rotate_left)|rfl|(with_reducible refine And.intro ?_ ?_)|(simp (disch:=omega) only [go_sem, simprocAttr, Blk.men, Blk.keysIn])|exact qM rfl rfl rfl|(refine qG rfl ?_)|(refine qH rfl ?_)|(refine qI rfl ?_ ?_<;>intro hc<;>(try simp only [go_sem] at hc))|(refine qJ ?_ ?_<;>intro hc<;>(try simp only [hc])<;>(try simp only [go_sem] at hc)))
 (refine retS_ent (Ent.rel 7 rfl) ?_; simp (disch:=omega) only [go_sem,simprocAttr,Blk.men,Blk.keysIn])
 (refine retS_ent (Ent.rel 3 rfl) ?_; simp (disch:=omega) only [go_sem,simprocAttr,Blk.men,Blk.keysIn])
 refine retS_wk rfl ?_ (by simp only [Blk.nb, rowC_nb, D.nb, D.nbs, C.nb, C.nbs, C.nbss, rows_nb eI_nb, Bool.and_true, Bool.not_false, Bool.and_self, bD, dI, iD, rows_nb eP_nb, rows_nb eF_nb, rows_nb eY_nb]); exact .refl _
def kT (s : Sto) (j : Int) (i : Nat) : List Nat := (List.range i).filter fun n => decide ((papAt s n).kind = j)
theorem kT_succ (s : Sto) (j : Int) (i : Nat) : kT s j (i + 1) = if (papAt s i).kind = j then kT s j i ++ [i] else kT s j i := by
 simp only [kT, List.range_succ, List.filter_append, List.filter_cons, List.filter_nil]
 by_cases h : (papAt s i).kind = j <;> simp [h]
theorem kT_len (s : Sto) (j : Int) (i : Nat) : (kT s j i).length ≤ i := by
 have := List.length_filter_le (fun n => decide ((papAt s n).kind = j)) (List.range i)
 simpa [kT] using this
theorem kT_mem {s : Sto} {j : Int} {i n : Nat} (h : n ∈ kT s j i) : n < i ∧ (papAt s n).kind = j := by
 simpa [kT] using h
def kOf (x : War) (i : Nat) : List Nat := kT (wSto x) (if i % 2 = 0 then 1 else 2) (nPap x)
def mkPap (x : War) (i : Nat) : Nat := ((kOf x i)[byteI x.by' (i + 1) % (kOf x i).length]?).getD 0
def mkFlu (x : War) (k : Nat) : Nat := byteI x.by' (2 * k + 1 + 6) % nFlu x
def mP (x : War) (i : Nat) : List Nat := (List.range i).map (mkPap x)
def mF (x : War) (k : Nat) : List Nat := (List.range k).map (mkFlu x)
def nfOf (x : War) : Nat := 1 + byteI x.by' 0 % 2
def wMak (x : War) : Mak := ⟨mP x (2 * nfOf x + 1), mF x (nfOf x)⟩
theorem mP_succ (x : War) (i : Nat) : nL (mP x (i + 1)) = nL (mP x i) ++ [(mkPap x i : Int)] := by simp [mP, nL, List.range_succ]
theorem mF_succ (x : War) (i : Nat) : nL (mF x (i + 1)) = nL (mF x i) ++ [(mkFlu x i : Int)] := by simp [mF, nL, List.range_succ]
theorem mP_len (x : War) (i : Nat) : (mP x i).length = i := by simp [mP]
theorem mF_len (x : War) (i : Nat) : (mF x i).length = i := by simp [mF]
theorem wPap_at (x : War) {n : Nat} (h : n < nPap x) : papAt (wSto x) n = papOf n (papV x n) := by
 simp [papAt, wSto, wPaps, h]
theorem kOf_pos (x : War) (i : Nat) : 0 < (kOf x i).length := by
 have hn : 2 ≤ nPap x := by unfold nPap; omega
 have hmem : (if i % 2 = 0 then 0 else 1) ∈ kOf x i := by
  simp only [kOf, kT, List.mem_filter, List.mem_range, decide_eq_true_eq]
  split
  ·refine ⟨by omega, ?_⟩
   rw [wPap_at x (by omega)]; rfl
  ·refine ⟨by omega, ?_⟩
   rw [wPap_at x (by omega)]; rfl
 exact List.length_pos_of_mem hmem
theorem kOf_len (x : War) (i : Nat) : (kOf x i).length ≤ 5 := by
 have := kT_len (wSto x) (if i % 2 = 0 then 1 else 2) (nPap x)
 have hn : nPap x ≤ 5 := by unfold nPap; omega
 unfold kOf
 omega
theorem mkPap_at (x : War) (i : Nat) : (kOf x i)[byteI x.by' (i + 1) % (kOf x i).length]? = some (mkPap x i) := by
 have hlt : byteI x.by' (i + 1) % (kOf x i).length < (kOf x i).length := Nat.mod_lt _ (kOf_pos x i)
 rw [mkPap, List.getElem?_eq_getElem hlt]; rfl
theorem mkPap_mem (x : War) (i : Nat) : mkPap x i < nPap x ∧ (papAt (wSto x) (mkPap x i)).kind = if i % 2 = 0 then 1 else 2 := kT_mem (List.mem_of_getElem? (mkPap_at x i))
theorem wMak_ok (x : War) : (wMak x).ok (wSto x) := by
 have h2 : byteI x.by' 0 % 2 < 2 := Nat.mod_lt _ (by decide)
 have hp : (wSto x).papers.length = nPap x := wPaps_len x _
 have hf : (wSto x).flutes.length = nFlu x := wFlus_len x _
 refine ⟨?_, ?_, ?_, ?_, ?_⟩
 ·show 1 ≤ (mF x (nfOf x)).length ∧ (mF x (nfOf x)).length ≤ 2
  rw [mF_len]; unfold nfOf; omega
 ·show (mP x (2 * nfOf x + 1)).length = 2 * (mF x (nfOf x)).length + 1
  rw [mP_len, mF_len]
 ·intro n hn
  obtain ⟨i, _, rfl⟩ := List.mem_map.1 hn
  rw [hp]; exact (mkPap_mem x i).1
 ·intro n hn
  obtain ⟨i, _, rfl⟩ := List.mem_map.1 hn
  rw [hf]; exact Nat.mod_lt _ (by unfold nFlu; omega)
 ·intro i n p h1 h2
  have h1' : (mP x (2 * nfOf x + 1))[i]? = some n := h1
  have hi : i < 2 * nfOf x + 1 := by
   rcases Nat.lt_or_ge i (2 * nfOf x + 1) with h | h
   ·exact h
   ·rw [List.getElem?_eq_none (by rw [mP_len]; exact h)] at h1'; cases h1'
  have : n = mkPap x i := by simpa [mP, hi] using h1'.symm
  subst this
  have hm := mkPap_mem x i
  have hg := papAt_get (s := wSto x) (n := mkPap x i) (by rw [hp]; exact hm.1)
  rw [hg] at h2
  cases h2
  exact hm.2
set_option maxHeartbeats 1600000 in
theorem arMake (b : Bool) (x : War) (h : x.ok) : DCall Try.prog 17 [dWar b x] [] (dMak (wMak x)) [] := by
 have hst := arStore b x h
 have hn : nPap x ≤ 5 ∧ 2 ≤ nPap x := by unfold nPap; omega
 have hnf : nFlu x ≤ 3 ∧ 1 ≤ nFlu x := by unfold nFlu; omega
 have hp : (wSto x).papers.length = nPap x := wPaps_len x _
 have hf : (wSto x).flutes.length = nFlu x := wFlus_len x _
 have hso := wSto_ok h
 refine DCall.of Try.func17 sf17 hb17 (Nat.le_of_ble_eq_true rfl) (okRes_nil fun _ => rfl) ?_; simp only [s17, idxs, Nat.reduceAdd]
 repeat' (first|(with_reducible first|apply qA|apply qB|apply qC|apply qD|apply qE|apply qF)|(refine qL rfl (WF.of ?_) ?_; first|rfl|skip)|(simp (disch:=omega) only [go_sem, simprocAttr, Blk.men, Blk.keysIn])|exact qM rfl rfl rfl|(refine qG rfl ?_)|(refine qK (hst) (by decide) ?_)|(refine qH rfl ?_)|(refine qI rfl ?_ ?_<;>intro hc<;>(try simp only [go_sem] at hc))|(refine qJ ?_ ?_<;>intro hc<;>(try simp only [hc])<;>(try simp only [go_sem] at hc)))
 (refine DW.ent (Ent.adoptB 5 0 31 1 rfl rfl rfl rfl) ?_; simp only [ins, Nat.reduceLT, Nat.reduceEqDiff, ↓reduceIte, List.set_cons_zero, List.set_cons_succ])
 (refine DW.ent (Ent.adoptB 5 1 32 1 rfl rfl rfl rfl) ?_; simp only [ins, Nat.reduceLT, Nat.reduceEqDiff, ↓reduceIte, List.set_cons_zero, List.set_cons_succ])
 (refine DW.ent (Ent.adoptB 4 0 67 1 rfl rfl rfl rfl) ?_; simp only [ins, Nat.reduceLT, Nat.reduceEqDiff, ↓reduceIte, List.set_cons_zero, List.set_cons_succ])
 (refine DW.ent (Ent.adoptB 4 1 84 1 rfl rfl rfl rfl) ?_; simp only [ins, Nat.reduceLT, Nat.reduceEqDiff, ↓reduceIte, List.set_cons_zero, List.set_cons_succ])
 refine DW.loop (ι := { i : Nat // i ≤ nPap x }) (fun i => ⟨87, [(6, dI i.1), (5, .box 5 0), (4, .box 4 0), (3, .box 3 0), (2, .box 2 0), (1, .box 1 0)], [(84, .row 1 (rowC (rows eI (nL (mF x 0))))), (67, .row 1 (rowC (rows eI (nL (mP x 0))))), (32, .row 1 (rowC (rows eI (nL (kT (wSto x) 2 i.1))))), (31, .row 1 (rowC (rows eI (nL (kT (wSto x) 1 i.1))))), (5, .box [.own 31, .own 32]), (4, .box [.own 67, .own 84]), (3, .box [.c (.sl false 8 (rows eP (wSto x).papers)), .c (.sl false 4 (rows eF (wSto x).flutes))]), (2, .box [.c (.v (.slice none 0 0)), .c (.v (.slice none 0 0))]), (1, .box [.c (.sl b 6 (rows e6 x.papers)), .c (.sl b 3 (rows e3 x.flutes)), .c (.sl b 1 (rows eY x.by'))])]⟩) (fun i => nPap x - i.1) ⟨0, Nat.zero_le _⟩ ?_ ?_
 ·refine Ent.to ?_ ?_ <;> simp (disch:=omega) only [qR,qS,qTw,qU,get,Nat.reduceEqDiff,↓reduceIte,qV,qW,qX,qY,qZ,and_self,dI,i64_in,and_true,true_and,rA,rB,rC,rD]
  exact ⟨.refl _, .refl _, .refl _, .refl _⟩
 rintro ⟨i, hi⟩
 dsimp only
 rcases Nat.lt_or_ge i (nPap x) with hlt | hge
 ·have hd : decide ((i : Int) < ((wSto x).papers.length : Int)) = true := by rw [decide_eq_true_eq, hp]; omega
  have hpa := papAt_get (s := wSto x) (n := i) (by rw [hp]; exact hlt)
  have hk := (papAt_ok hso (n := i) (by rw [hp]; exact hlt)).kind
  have l1 := kT_len (wSto x) 1 i
  have l2 := kT_len (wSto x) 2 i
  have n1 := kT_succ (wSto x) 1 i
  have n2 := kT_succ (wSto x) 2 i
  generalize papAt (wSto x) i = p at *
  generalize kT (wSto x) 1 i = a1 at *
  generalize kT (wSto x) 2 i = a2 at *
  rcases hk with hk | hk
  ·have hk0 : p.kind - 1 = 0 := by omega
   rw [if_pos hk] at n1
   rw [if_neg (by omega)] at n2
   have q1 : nL (a1 ++ [i]) = nL a1 ++ [(i : Int)] := (nL_snoc a1 i).symm
   have ln1 := nL_length a1
   generalize nL a1 = c1 at *
   repeat' (first|(with_reducible first|apply qA|apply qB|apply qC|apply qD|apply qE|apply qF)|(refine qL rfl (WF.of ?_) ?_; first|rfl|skip)|(simp (disch:=omega) only [go_sem, simprocAttr, Blk.men, Blk.keysIn, hd, hpa, hk0, rF, rG])|exact qM rfl rfl rfl|(refine qG rfl ?_)|(refine qH rfl ?_)|(refine qI rfl ?_ ?_<;>intro hc<;>(try simp only [go_sem] at hc))|(refine qJ ?_ ?_<;>intro hc<;>(try simp only [hc])<;>(try simp only [go_sem] at hc)))
   refine ⟨⟨i + 1, hlt⟩, ?_, Ent.to ?_ ?_⟩ <;> first | (show _ < _; (try simp only); omega) | (simp (disch:=omega) only [qR,qS,qTw,qU,get,Nat.reduceEqDiff,↓reduceIte,qV,qW,qX,qY,qZ,and_self,dI,i64_in,and_true,true_and,rA,rB,rC,rD, n1,n2,q1])
   all_goals exact .refl _
  ·have hk0 : p.kind - 1 = 1 := by omega
   rw [if_neg (by omega)] at n1
   rw [if_pos hk] at n2
   have q1 : nL (a2 ++ [i]) = nL a2 ++ [(i : Int)] := (nL_snoc a2 i).symm
   have ln1 := nL_length a2
   generalize nL a2 = c1 at *
   repeat' (first|(with_reducible first|apply qA|apply qB|apply qC|apply qD|apply qE|apply qF)|(refine qL rfl (WF.of ?_) ?_; first|rfl|skip)|(simp (disch:=omega) only [go_sem, simprocAttr, Blk.men, Blk.keysIn, hd, hpa, hk0, rF, rG])|exact qM rfl rfl rfl|(refine qG rfl ?_)|(refine qH rfl ?_)|(refine qI rfl ?_ ?_<;>intro hc<;>(try simp only [go_sem] at hc))|(refine qJ ?_ ?_<;>intro hc<;>(try simp only [hc])<;>(try simp only [go_sem] at hc)))
   refine ⟨⟨i + 1, hlt⟩, ?_, Ent.to ?_ ?_⟩ <;> first | (show _ < _; (try simp only); omega) | (simp (disch:=omega) only [qR,qS,qTw,qU,get,Nat.reduceEqDiff,↓reduceIte,qV,qW,qX,qY,qZ,and_self,dI,i64_in,and_true,true_and,rA,rB,rC,rD, n1,n2,q1])
   all_goals exact .refl _
 ·obtain rfl : i = nPap x := by omega
  have hd : decide ((nPap x : Int) < ((wSto x).papers.length : Int)) = false := by rw [decide_eq_false_iff_not, hp]; omega
  have hb0 := arByte b x.by' 0 (by omega) h.by'
  rw [show ((0 : Nat) : Int) = 0 from rfl] at hb0
  have h28 : byteI x.by' 0 < 256 := by
   unfold byteI
   cases hv : x.by'[0 % x.by'.length]? with
   | none => decide
   | some v => exact h.by' v (List.mem_of_getElem? hv)
  have hm2 : byteI x.by' 0 % 2 < 2 := Nat.mod_lt _ (by decide)
  have hnfI : 1 + ((byteI x.by' 0 % 2 : Nat) : Int) = (nfOf x : Int) := by unfold nfOf; omega
  have hnf2 : 1 ≤ nfOf x ∧ nfOf x ≤ 2 := by unfold nfOf; omega
  repeat' (first|(with_reducible first|apply qA|apply qB|apply qC|apply qD|apply qE|apply qF)|(refine qL rfl (WF.of ?_) ?_; first|rfl|skip)|(simp (disch:=omega) only [go_sem, simprocAttr, Blk.men, Blk.keysIn, hd, t2, hnfI])|exact qM rfl rfl rfl|(refine qG rfl ?_)|(refine qK (hb0) (by decide) ?_)|(refine qH rfl ?_)|(refine qI rfl ?_ ?_<;>intro hc<;>(try simp only [go_sem] at hc))|(refine qJ ?_ ?_<;>intro hc<;>(try simp only [hc])<;>(try simp only [go_sem] at hc)))
  clear hb0 h28 hm2 hnfI hd
  generalize hnfe : nfOf x = nf at *
  refine DW.loop (ι := { i : Nat // i ≤ 2 * nf + 1 }) (fun i => ⟨87, [(9, dI i.1), (8, dI nf), (5, .box 5 0), (4, .box 4 0), (3, .box 3 0), (2, .box 2 0), (1, .box 1 0)], [(84, .row 1 (rowC (rows eI (nL (mF x (i.1 / 2)))))), (67, .row 1 (rowC (rows eI (nL (mP x i.1))))), (32, .row 1 (rowC (rows eI (nL (kT (wSto x) 2 (nPap x)))))), (31, .row 1 (rowC (rows eI (nL (kT (wSto x) 1 (nPap x)))))), (5, .box [.own 31, .own 32]), (4, .box [.own 67, .own 84]), (3, .box [.c (.sl false 8 (rows eP (wSto x).papers)), .c (.sl false 4 (rows eF (wSto x).flutes))]), (2, .box [.c (.v (.slice none 0 0)), .c (.v (.slice none 0 0))]), (1, .box [.c (.sl b 6 (rows e6 x.papers)), .c (.sl b 3 (rows e3 x.flutes)), .c (.sl b 1 (rows eY x.by'))])]⟩) (fun i => 2 * nf + 1 - i.1) ⟨0, Nat.zero_le _⟩ ?_ ?_
  ·refine Ent.to ?_ ?_ <;> simp (disch:=omega) only [qR,qS,qTw,qU,get,Nat.reduceEqDiff,↓reduceIte,qV,qW,qX,qY,qZ,and_self,dI,i64_in,and_true,true_and,rA,rB,rC,rD,Nat.zero_div]
  clear hi
  rintro ⟨i, hi⟩
  dsimp only
  rcases Nat.lt_or_ge i (2 * nf + 1) with hlt | hge
  ·have hd : decide ((i : Int) < 2 * (nf : Int) + 1) = true := by rw [decide_eq_true_eq]; omega
   have hb1 := arByte b x.by' (i + 1) (by omega) h.by'
   rw [Int.natCast_add, Int.natCast_one] at hb1
   have hkp := kOf_pos x i
   have hkl := kOf_len x i
   have hat := mkPap_at x i
   have hmm := (mkPap_mem x i).1
   have hsP := mP_succ x i
   have hlP := mP_len x i
   have hlF := mF_len x (i / 2)
   have hz : (((kOf x i).length : Int) = 0) = False := eq_false (by omega)
   have hr : (byteI x.by' (i + 1) : Int).tmod ((kOf x i).length : Int) = ((byteI x.by' (i + 1) % (kOf x i).length : Nat) : Int) := tmodN _ _
   have hjl : byteI x.by' (i + 1) % (kOf x i).length < (kOf x i).length := Nat.mod_lt _ hkp
   have hj1 : (byteI x.by' (i + 1) % (kOf x i).length < (kOf x i).length) = True := eq_true hjl
   have hj2 := nL_at hat
   have hrem : (i : Int).tmod 2 = ((i % 2 : Nat) : Int) := t2 i
   have hkk : kOf x i = kT (wSto x) (if i % 2 = 0 then 1 else 2) (nPap x) := rfl
   generalize mkPap x i = v at *
   generalize byteI x.by' (i + 1) % (kOf x i).length = j at *
   generalize byteI x.by' (i + 1) = y at *
   have hln1 := nL_length (mP x i)
   have hln2 := nL_length (mF x (i / 2))
   have hln3 := nL_length (kOf x i)
   rcases (by omega : i % 2 = 0 ∨ i % 2 = 1) with ho | ho
   ·rw [if_pos ho] at hkk
    rw [← hkk]
    rw [ho] at hrem
    generalize kOf x i = kk at *
    generalize nL kk = ck at *
    have hdiv : (i + 1) / 2 = i / 2 := by omega
    generalize nL (mP x i) = cp at *
    repeat' (first|(with_reducible first|apply qA|apply qB|apply qC|apply qD|apply qE|apply qF)|(refine qL rfl (WF.of ?_) ?_; first|rfl|skip)|(simp (disch:=omega) only [go_sem, simprocAttr, Blk.men, Blk.keysIn, hd, hrem, hz, hr, hj1, hj2, hln3])|exact qM rfl rfl rfl|(refine qG rfl ?_)|(refine qK (hb1) (by decide) ?_)|(refine qH rfl ?_)|(refine qI rfl ?_ ?_<;>intro hc<;>(try simp only [go_sem] at hc))|(refine qJ ?_ ?_<;>intro hc<;>(try simp only [hc])<;>(try simp only [go_sem] at hc)))
    refine ⟨⟨i + 1, hlt⟩, ?_, Ent.to ?_ ?_⟩ <;> first | (show _ < _; (try simp only); omega) | (simp (disch:=omega) only [qR,qS,qTw,qU,get,Nat.reduceEqDiff,↓reduceIte,qV,qW,qX,qY,qZ,and_self,dI,i64_in,and_true,true_and,rA,rB,rC,rD, hsP,hdiv])
    all_goals exact .refl _
   ·rw [if_neg (by omega)] at hkk
    rw [← hkk]
    rw [ho] at hrem
    have hb6 := arByte b x.by' (i + 6) (by omega) h.by'
    rw [Int.natCast_add] at hb6
    have hb6' : DCall Try.prog 43 [.c (.sl b 1 (rows eY x.by')), dI ((i : Int) + 6)] [] (dI (byteI x.by' (i + 6))) [] := hb6
    clear hb6
    have hzf : ((nFlu x : Int) = 0) = False := eq_false (by omega)
    have hrf : (byteI x.by' (i + 6) : Int).tmod (nFlu x : Int) = ((byteI x.by' (i + 6) % nFlu x : Nat) : Int) := tmodN _ _
    have hwf : ((wSto x).flutes.length : Int) = (nFlu x : Int) := by rw [hf]
    have hmf : mkFlu x (i / 2) = byteI x.by' (i + 6) % nFlu x := by unfold mkFlu; rw [show 2 * (i / 2) + 1 + 6 = i + 6 by omega]
    have hsF := mF_succ x (i / 2)
    rw [hmf, show i / 2 + 1 = (i + 1) / 2 by omega] at hsF
    have hfl : byteI x.by' (i + 6) % nFlu x < nFlu x := Nat.mod_lt _ (by omega)
    generalize byteI x.by' (i + 6) % nFlu x = u at *
    generalize byteI x.by' (i + 6) = z at *
    generalize kOf x i = kk at *
    generalize nL kk = ck at *
    generalize nL (mP x i) = cp at *
    generalize nL (mF x (i / 2)) = cf at *
    repeat' (first|(with_reducible first|apply qA|apply qB|apply qC|apply qD|apply qE|apply qF)|(refine qL rfl (WF.of ?_) ?_; first|rfl|skip)|(simp (disch:=omega) only [go_sem, simprocAttr, Blk.men, Blk.keysIn, hd, hrem, hz, hr, hj1, hj2, hln3, hzf, hrf, hwf])|exact qM rfl rfl rfl|(refine qG rfl ?_)|(refine qK (hb1) (by decide) ?_)|(refine qK (hb6') (by decide) ?_)|(refine qH rfl ?_)|(refine qI rfl ?_ ?_<;>intro hc<;>(try simp only [go_sem] at hc))|(refine qJ ?_ ?_<;>intro hc<;>(try simp only [hc])<;>(try simp only [go_sem] at hc)))
    refine ⟨⟨i + 1, hlt⟩, ?_, Ent.to ?_ ?_⟩ <;> first | (show _ < _; (try simp only); omega) | (simp (disch:=omega) only [qR,qS,qTw,qU,get,Nat.reduceEqDiff,↓reduceIte,qV,qW,qX,qY,qZ,and_self,dI,i64_in,and_true,true_and,rA,rB,rC,rD, hsP,hsF])
    all_goals exact .refl _
  ·obtain rfl : i = 2 * nf + 1 := by omega
   have hd : decide (((2 * nf + 1 : Nat) : Int) < 2 * (nf : Int) + 1) = false := by rw [decide_eq_false_iff_not]; omega
   have hdv : (2 * nf + 1) / 2 = nf := by omega
   have hwm : wMak x = ⟨mP x (2 * nf + 1), mF x nf⟩ := by rw [← hnfe]; rfl
   rw [hwm, hdv]
   repeat' (first|(with_reducible first|apply qA|apply qB|apply qC|apply qD|apply qE|apply qF)|(refine qL rfl (WF.of ?_) ?_; first|rfl|skip)|(simp (disch:=omega) only [go_sem, simprocAttr, Blk.men, Blk.keysIn, hd])|exact qM rfl rfl rfl|(refine qG rfl ?_)|(refine qH rfl ?_)|(refine qI rfl ?_ ?_<;>intro hc<;>(try simp only [go_sem] at hc))|(refine qJ ?_ ?_<;>intro hc<;>(try simp only [hc])<;>(try simp only [go_sem] at hc)))
   (refine retS_ent (Ent.rel 84 rfl) ?_; simp (disch:=omega) only [go_sem,simprocAttr,Blk.men,Blk.keysIn])
   (refine retS_ent (Ent.rel 67 rfl) ?_; simp (disch:=omega) only [go_sem,simprocAttr,Blk.men,Blk.keysIn])
   refine retS_wk rfl ?_ (by simp only [Blk.nb, rowC_nb, D.nb, D.nbs, C.nb, C.nbs, C.nbss, rows_nb eI_nb, Bool.and_true, Bool.not_false, Bool.and_self, bD, dI, iD, rows_nb eP_nb, rows_nb eF_nb, rows_nb eY_nb]); exact .refl _
end Go.Dw.Seat
end
section
set_option linter.unusedSimpArgs false
set_option maxRecDepth 100000
namespace Go.Dw.Seat
open Go Go.Dw Go.Proofs Go.IntWalk
abbrev IMap := List (Nat × Int)
def iFind : IMap → Nat → Option Int
 | [], _ => none
 | p :: t, s => if s = p.1 then some p.2 else iFind t s
def iG (m : IMap) (s : Nat) : Int := (iFind m s).getD 0
def iUpd : IMap → Nat → Int → IMap
 | [], s, b => [(s, b)]
 | p :: t, s, b => if s = p.1 then (s, b) :: t else p :: iUpd t s b
def iMk (m : IMap) : List Value := m.map fun p => .int .i64 p.1
def iMd (m : IMap) : List D := m.map fun p => .c (.v (.int .i64 p.2))
theorem iK_ok (s : Nat) (m : IMap) : keysOK (.int .i64) (.int .i64 s) (iMk m) = true := by
 simp only [keysOK, KK.is, decide_true, Bool.true_and, iMk, List.all_map, List.all_eq_true]
 intro p _
 simp [KK.is]
theorem findL_iK (s : Nat) : ∀ (m : IMap) (n : Nat), (match iFind m s with
  | some b => ∃ i, findL (.int .i64 s) (iMk m) n = some (n + i) ∧ (iMd m)[i]? = some (dI b) ∧ ∀ c : Int, (iMk m).set i (.int .i64 s) = iMk (iUpd m s c) ∧ (iMd m).set i (dI c) = iMd (iUpd m s c)
  | none => findL (.int .i64 s) (iMk m) n = none ∧ ∀ c : Int, iMk m ++ [.int .i64 s] = iMk (iUpd m s c) ∧ iMd m ++ [dI c] = iMd (iUpd m s c))
 | [], n => ⟨rfl, fun c => ⟨rfl, rfl⟩⟩
 | p :: t, n => by
  have ih := findL_iK s t (n + 1)
  simp only [iFind, iUpd]
  by_cases h : s = p.1
  ·rw [if_pos h]
   have hk : keyEq (.int .i64 (s : Int)) (.int .i64 (p.1 : Int)) = true := by simp [keyEq, h]
   refine ⟨0, ?_, rfl, fun c => ?_⟩
   ·simp only [iMk, List.map_cons, findL, hk, if_true]; rfl
   ·simp only [if_pos h]
    exact ⟨rfl, rfl⟩
  ·rw [if_neg h]
   have hk : keyEq (.int .i64 (s : Int)) (.int .i64 (p.1 : Int)) = false := by simp [keyEq]; omega
   cases hf : iFind t s with
   | some b =>
    rw [hf] at ih
    obtain ⟨i, h1, h2, h3⟩ := ih
    refine ⟨i + 1, ?_, h2, fun c => ?_⟩
    ·have : n + (i + 1) = n + 1 + i := by omega
     rw [this]
     simpa only [iMk, List.map_cons, findL, hk, Bool.false_eq_true, if_false] using h1
    ·obtain ⟨h4, h5⟩ := h3 c
     simp only [if_neg h]
     exact ⟨by simpa [iMk] using h4, by simpa [iMd] using h5⟩
   | none =>
    rw [hf] at ih
    obtain ⟨h1, h3⟩ := ih
    refine ⟨by simpa only [iMk, List.map_cons, findL, hk, Bool.false_eq_true, if_false] using h1, fun c => ?_⟩
    obtain ⟨h4, h5⟩ := h3 c
    simp only [if_neg h]
    exact ⟨by simpa [iMk] using h4, by simpa [iMd] using h5⟩
theorem look_iK (s : Nat) (m : IMap) : lookIn (.c (.v (.int .i64 0))) (iMk m) (iMd m) (.int .i64 s) false = some (.c (.v (.int .i64 (iG m s)))) := by
 have h := findL_iK s m 0
 unfold lookIn iG
 cases hf : iFind m s with
 | some b =>
  rw [hf] at h
  obtain ⟨i, h1, h2, _⟩ := h
  rw [Nat.zero_add] at h1
  simp only [h1, h2, commaD, Bool.false_eq_true, if_false]; rfl
 | none =>
  rw [hf] at h
  simp only [h.1, commaD, Bool.false_eq_true, if_false]; rfl
theorem upd_iK (s : Nat) (m : IMap) (c : Int) : updK (iMk m) (iMd m) (.int .i64 s) (.c (.v (.int .i64 c))) = (iMk (iUpd m s c), iMd (iUpd m s c)) := by
 have h := findL_iK s m 0
 unfold updK
 cases hf : iFind m s with
 | some b =>
  rw [hf] at h
  obtain ⟨i, h1, h2, h3⟩ := h
  rw [Nat.zero_add] at h1
  simp only [h1, (h3 c).1]
  exact congrArg _ (h3 c).2
 | none =>
  rw [hf] at h
  simp only [h.1, (h.2 c).1]
  exact congrArg _ (h.2 c).2
theorem iFind_upd {s t : Nat} {c : Int} : ∀ (m : IMap), iFind (iUpd m s c) t = if t = s then some c else iFind m t
 | [] => by simp only [iUpd, iFind]
 | p :: m => by
  simp only [iUpd]
  by_cases h : s = p.1
  ·rw [if_pos h]
   simp only [iFind]
   by_cases h2 : t = s
   ·simp [h2]
   ·rw [if_neg h2, if_neg h2, if_neg (by omega)]
  ·rw [if_neg h]
   simp only [iFind, iFind_upd m]
   by_cases h2 : t = p.1
   ·rw [if_pos h2, if_pos h2, if_neg (by omega)]
   ·rw [if_neg h2, if_neg h2]
theorem iG_upd (s t : Nat) (c : Int) (m : IMap) : iG (iUpd m s c) t = if t = s then c else iG m t := by
 unfold iG
 rw [iFind_upd]
 split <;> rfl
theorem iD_nb (m : IMap) : D.nbs (iMd m) = true := by
 induction m with
 | nil => rfl
 | cons p m ih => simp only [iMd, List.map_cons, D.nbs, Bool.and_eq_true]; exact ⟨rfl, ih⟩
theorem iD_men (k : Nat) (m : IMap) : D.mens k (iMd m) = false := by
 induction m with
 | nil => rfl
 | cons p m ih => simpa [iMd, D.mens, D.men] using ih
theorem iD_keys (bx : List (Nat × Blk)) (m : IMap) : D.keysIns bx (iMd m) = true := by
 induction m with
 | nil => rfl
 | cons p m ih => simpa [iMd, D.keysIns, D.keysIn] using ih
theorem killB_iD [Lays] (k : Nat) (ks : List Value) (m : IMap) : killB k (.map ks (iMd m)) = .map ks (iMd m) := by
 show Blk.map ks ((iMd m).map (killD k)) = _
 rw [map_killD_of (iD_men k m)]
theorem rels_iD (k : Nat) (x : Blk) : ∀ m : IMap, relDs k x (iMd m) = iMd m
 | [] => rfl
 | p :: m => by
  have := rels_iD k x m
  simpa [iMd, relDs, relD] using this
theorem relB_iD [Lays] (k : Nat) (x : Blk) (ks : List Value) (m : IMap) : relB k x (.map ks (iMd m)) = .map ks (iMd m) := by
 show Blk.map ks (relDs k x (iMd m)) = _
 rw [rels_iD]
attribute [go_sem] killB_iD relB_iD iK_ok look_iK upd_iK iD_men iD_keys
def useM : IMap → List (Nat × Int) → IMap
 | m, [] => m
 | m, e :: l => useM (iUpd m e.1 (iG m e.1 + e.2)) l
def useN (l : List (Nat × Int)) (k : Nat) (n : Int) : Int := l.foldl (fun n e => if e.1 = k then n + e.2 else n) n
theorem useM_get (k : Nat) : ∀ (l : List (Nat × Int)) (m : IMap), iG (useM m l) k = useN l k (iG m k)
 | [], _ => rfl
 | e :: l, m => by
  rw [useM, useM_get k l, iG_upd]
  have e2 : useN (e :: l) k (iG m k) = useN l k (if e.1 = k then iG m k + e.2 else iG m k) := rfl
  rw [e2]
  by_cases h : k = e.1
  ·rw [if_pos h, if_pos h.symm, h]
  ·rw [if_neg h, if_neg (fun e => h e.symm)]
theorem useN_b (k : Nat) : ∀ (l : List (Nat × Int)) (n : Int), (∀ e ∈ l, 0 ≤ e.2 ∧ e.2 ≤ 200000000) → n ≤ useN l k n ∧ useN l k n ≤ n + 200000000 * (l.length : Int)
 | [], n, _ => ⟨Int.le_refl _, by simp [useN]⟩
 | e :: l, n, h => by
  have he := h e (by simp)
  have ih := useN_b k l (if e.1 = k then n + e.2 else n) (fun x hx => h x (by simp [hx]))
  have e2 : useN (e :: l) k n = useN l k (if e.1 = k then n + e.2 else n) := rfl
  rw [e2, List.length_cons, Int.natCast_add, Int.natCast_one, Int.mul_add]
  split at ih <;> rename_i hc
  ·rw [if_pos hc]; omega
  ·rw [if_neg hc]; omega
end Go.Dw.Seat
end
section
set_option linter.unusedSimpArgs false
set_option maxRecDepth 100000
namespace Go.Dw.Seat
open Go Go.Dw Go.Proofs Go.IntWalk
theorem Mak.ok.shape {m : Mak} {s : Sto} (h : m.ok s) : (∃ a b c f, m = ⟨[a, b, c], [f]⟩) ∨ (∃ a b c d e f g, m = ⟨[a, b, c, d, e], [f, g]⟩) := by
 obtain ⟨ps, fs⟩ := m
 have h1 := h.nf
 have h2 := h.np
 dsimp only at h1 h2
 match fs, ps, h1, h2 with
 | [f], [a, b, c], _, _ => exact .inl ⟨a, b, c, f, rfl⟩
 | [f, g], [a, b, c, d, e], _, _ => exact .inr ⟨a, b, c, d, e, f, g, rfl⟩
def revM (m : Mak) : Mak := ⟨m.papers.reverse, m.flutes.reverse⟩
theorem revM_ok {m : Mak} {s : Sto} (h : m.ok s) : (revM m).ok s := by
 refine ⟨?_, ?_, ?_, ?_, ?_⟩
 ·simpa [revM] using h.nf
 ·simpa [revM] using h.np
 ·intro n hn; exact h.papers n (by simpa [revM] using hn)
 ·intro n hn; exact h.flutes n (by simpa [revM] using hn)
 ·intro i n p h1 h2
  have hk := h.kind
  rcases h.shape with ⟨a, b, c, f, rfl⟩ | ⟨a, b, c, d, e, f, g, rfl⟩
  ·match i, h1 with
   | 0, h1 => exact hk 2 n p h1 h2
   | 1, h1 => exact hk 1 n p h1 h2
   | 2, h1 => exact hk 0 n p h1 h2
   | i + 3, h1 => simp [revM] at h1
  ·match i, h1 with
   | 0, h1 => exact hk 4 n p h1 h2
   | 1, h1 => exact hk 3 n p h1 h2
   | 2, h1 => exact hk 2 n p h1 h2
   | 3, h1 => exact hk 1 n p h1 h2
   | 4, h1 => exact hk 0 n p h1 h2
   | i + 5, h1 => simp [revM] at h1
theorem wholeI_rev {m : Mak} {s : Sto} (h : m.ok s) : wholeI s (revM m) = wholeI s m := by
 rcases h.shape with ⟨a, b, c, f, rfl⟩ | ⟨a, b, c, d, e, f, g, rfl⟩
 ·rfl
 ·simp [wholeI, wholeF, revM, Int.mul_comm]
theorem sumI_rev (f : Pap → Int) {m : Mak} {s : Sto} (h : m.ok s) : sumI f s (revM m) = sumI f s m := by
 have hw := wholeI_rev h
 rcases h.shape with ⟨a, b, c, z, rfl⟩ | ⟨a, b, c, d, e, z, g, rfl⟩
 ·simp only [sumI, sumF, layersL, partsAt, hw]
  simp [revM, List.zipIdx]; omega
 ·simp only [sumI, sumF, layersL, partsAt, hw]
  simp [revM, List.zipIdx]; omega
theorem partsAt_w {s : Sto} {m : Mak} (hs : s.ok) (h : m.ok s) {i : Nat} (hi : i < m.papers.length) : 0 ≤ partsAt s m i ∧ partsAt s m i ≤ 2 * wholeI s m := by
 have hw := wholeI_b hs h
 unfold partsAt
 split
 ·rename_i ho
  have hf := fluAt_ok hs (flute_at h hi ho).2
  have h1 := hf.pitch
  have h2 := hf.draw
  generalize fluAt s (m.flutes[i / 2]?.getD 0) = f at *
  generalize wholeI s m = w at *
  rw [Int.tdiv_eq_ediv_of_nonneg (by omega)]
  have q0 : 0 ≤ w / f.pitch := Int.ediv_nonneg (by omega) (by omega)
  have q1 : w / f.pitch * f.pitch ≤ w := Int.ediv_mul_le w (by omega)
  have q2 : w / f.pitch * f.draw ≤ w / f.pitch * (2 * f.pitch) := Int.mul_le_mul_of_nonneg_left h2.2 q0
  have q3 : 0 ≤ w / f.pitch * f.draw := Int.mul_nonneg q0 (by omega)
  have q4 : w / f.pitch * (2 * f.pitch) = 2 * (w / f.pitch * f.pitch) := by rw [Int.mul_left_comm]
  omega
 ·omega
theorem layers_w {s : Sto} {m : Mak} (hs : s.ok) (h : m.ok s) : ∀ e ∈ layersL s m, e.1 < s.papers.length ∧ 0 ≤ e.2 ∧ e.2 ≤ 2 * wholeI s m := by
 intro e he
 obtain ⟨i, hi⟩ := List.getElem?_of_mem he
 have hlt : i < m.papers.length := by
  rcases Nat.lt_or_ge i m.papers.length with h | h
  ·exact h
  ·rw [List.getElem?_eq_none (by rw [layersL_len]; exact h)] at hi; cases hi
 obtain ⟨v, hv⟩ := getE (l := m.papers) (i := i) hlt
 rw [layersL_get hv] at hi
 cases hi
 exact ⟨h.papers v (List.mem_of_getElem? hv), partsAt_w hs h hlt⟩
end Go.Dw.Seat
end
section
set_option linter.unusedSimpArgs false
set_option maxRecDepth 100000
namespace Go.Dw.Seat
open Go Go.Dw Go.Proofs Go.IntWalk
def eSp (s : Int × Int) : List C := [.v (.int .i64 s.1), .v (.int .i64 s.2)]
attribute [go_sem] eSp
def spM (s : Int × Int) : Prop := 0 ≤ s.1 ∧ s.1 ≤ s.2 ∧ s.2 ≤ 300
structure DSt where
 lo : Int
 hi : Int
 h : Int
structure DSt.ok (s : DSt) : Prop where
 r : spM (s.lo, s.hi)
 h : 0 ≤ s.h ∧ s.h ≤ 500
def eDs (s : DSt) : List C := [.v (.int .i64 s.lo), .v (.int .i64 s.hi), .v (.int .i64 s.h)]
attribute [go_sem] eDs
end Go.Dw.Seat
end
section
set_option linter.unusedSimpArgs false
set_option maxRecDepth 100000
namespace Go.Dw.Seat
open Go Go.Dw Go.Proofs Go.IntWalk
theorem dm_bm_pbox (k l : Nat) (ds : List D) : Blk.men k (.pbox l ds) = D.mens k ds := rfl
theorem dm_bk_pbox (bx : List (Nat × Blk)) (l : Nat) (ds : List D) : Blk.keysIn bx (.pbox l ds) = D.keysIns bx ds := rfl
theorem dm_killB_pbox (k l : Nat) (ds : List D) : killB k (.pbox l ds) = .pbox l (ds.map (killD k)) := rfl
attribute [go_sem] dm_bm_pbox dm_bk_pbox dm_killB_pbox
end Go.Dw.Seat
end
section
set_option linter.unusedSimpArgs false
set_option maxRecDepth 100000
namespace Go.Dw.Seat
open Go Go.Dw Go.Proofs Go.IntWalk
theorem bdRatio (n d : Nat) (hd : 0 < d) (hn : n ≤ 4000000000000000000) (hdd : d ≤ 4000000000000000000) : DCall Try.prog 62 [dI n, dI d] [] (.agg [dI ((n / Nat.gcd n d : Nat) : Int), dI ((d / Nat.gcd n d : Nat) : Int)]) [] := by
 have hg : 0 < Nat.gcd n d := Nat.gcd_pos_of_pos_right n hd
 obtain ⟨G, hG⟩ : ∃ G, Nat.gcd n d = G := ⟨_, rfl⟩
 rw [hG] at hg ⊢
 have hq1 : n / G ≤ n := Nat.div_le_self _ _
 have hq2 : d / G ≤ d := Nat.div_le_self _ _
 refine DCall.of Try.func62 sf62 hb62 (Nat.le_of_ble_eq_true rfl) (okRes_nil fun _ => rfl) ?_; simp only [s62, idxs, Nat.reduceAdd]
 repeat' (first|(with_reducible first|apply qA|apply qB|apply qC|apply qD|apply qE|apply qF)|(refine qL rfl (WF.of ?_) ?_; first|rfl|skip)|(simp (disch:=omega) only [go_sem, simprocAttr, Blk.men, Blk.keysIn])|exact qM rfl rfl rfl|(refine qG rfl ?_)|(refine qH rfl ?_)|(refine qI rfl ?_ ?_<;>intro hc<;>(try simp only [go_sem] at hc))|(refine qJ ?_ ?_<;>intro hc<;>(try simp only [hc])<;>(try simp only [go_sem] at hc)))
 refine DW.loop (ι := { y : Nat × Nat // Nat.gcd y.1 y.2 = G ∧ y.1 ≤ 4000000000000000000 ∧ y.2 ≤ 4000000000000000000 }) (fun y => ⟨24, [(6, dI y.1.2), (5, dI y.1.1), (4, .box 4 0), (0, dI n), (1, dI d)], [(4, .box [dI 0, dI 0])]⟩) (fun y => y.1.2) ⟨(n, d), hG, hn, hdd⟩ ?_ ?_
 ·refine Ent.to ?_ ?_ <;> simp (disch:=omega) only [qR,qS,qTw,qU,get,Nat.reduceEqDiff,↓reduceIte,qV,qW,qX,qY,qZ,and_self,dI,i64_in,and_true,true_and,rA,rB,rC,rD]
 rintro ⟨⟨a, b⟩, hab, ha, hb⟩
 dsimp only at hab ha hb ⊢
 rcases Nat.eq_zero_or_pos b with hz | hz
 ·subst hz
  have ha' : a = G := by rw [← hab]; simp
  subst ha'
  have hd0 : (((0 : Nat) : Int) != 0) = false := rfl
  have h0 : ((a : Int) = 0) = False := eq_false (by omega)
  have e1 := tdivN n a
  have e2 := tdivN d a
  have hw1 : IntKind.i64.wrap ((n / a : Nat) : Int) = ((n / a : Nat) : Int) := i64_in _ (by generalize n / a = q at *; omega)
  have hw2 : IntKind.i64.wrap ((d / a : Nat) : Int) = ((d / a : Nat) : Int) := i64_in _ (by generalize d / a = q at *; omega)
  repeat' (first|(with_reducible first|apply qA|apply qB|apply qC|apply qD|apply qE|apply qF)|(refine qL rfl (WF.of ?_) ?_; first|rfl|skip)|(simp (disch:=omega) only [go_sem, simprocAttr, Blk.men, Blk.keysIn, hd0, h0, e1, e2, hw1, hw2, rD])|exact qM rfl rfl rfl|(refine qG rfl ?_)|(refine qH rfl ?_)|(refine qI rfl ?_ ?_<;>intro hc<;>(try simp only [go_sem] at hc))|(refine qJ ?_ ?_<;>intro hc<;>(try simp only [hc])<;>(try simp only [go_sem] at hc)))
 ·have hd0 : ((b : Int) != 0) = true := by rw [bne_iff_ne]; omega
  have h0 : ((b : Int) = 0) = False := eq_false (by omega)
  have e1 := tmodN a b
  have hlt := Nat.mod_lt a hz
  have hg2 : Nat.gcd b (a % b) = G := by rw [← hab, Nat.gcd_comm a b, Nat.gcd_rec b a, Nat.gcd_comm]
  repeat' (first|(with_reducible first|apply qA|apply qB|apply qC|apply qD|apply qE|apply qF)|(refine qL rfl (WF.of ?_) ?_; first|rfl|skip)|(simp (disch:=omega) only [go_sem, simprocAttr, Blk.men, Blk.keysIn, hd0, h0, e1])|exact qM rfl rfl rfl|(refine qG rfl ?_)|(refine qH rfl ?_)|(refine qI rfl ?_ ?_<;>intro hc<;>(try simp only [go_sem] at hc))|(refine qJ ?_ ?_<;>intro hc<;>(try simp only [hc])<;>(try simp only [go_sem] at hc)))
  refine ⟨⟨(b, a % b), hg2, by dsimp only; omega, by dsimp only; omega⟩, ?_, Ent.to ?_ ?_⟩ <;> first | (show _ < _; (try simp only); omega) | (simp (disch:=omega) only [qR,qS,qTw,qU,get,Nat.reduceEqDiff,↓reduceIte,qV,qW,qX,qY,qZ,and_self,dI,i64_in,and_true,true_and,rA,rB,rC,rD])
end Go.Dw.Seat
end
section
set_option linter.unusedSimpArgs false
set_option maxRecDepth 100000
namespace Go.Dw.Seat
open Go Go.Dw Go.Proofs Go.IntWalk
def eRt (p : Nat × Nat) : List C := [.v (.int .i64 p.1), .v (.int .i64 p.2)]
theorem eRt_nb (p : Nat × Nat) : C.nbs (eRt p) = true := rfl
attribute [go_sem] eRt
def useK (s : Sto) (m : Mak) (k : Nat) : Int := useN (layersL s m) k 0
def useNum (s : Sto) (m : Mak) (a : Int) (k : Nat) : Nat := (useK s m k * (papAt s k).weight * a).toNat
def useRat (s : Sto) (m : Mak) (a : Int) (k : Nat) : Nat × Nat := (useNum s m a k / Nat.gcd (useNum s m a k) (wholeI s m).toNat, (wholeI s m).toNat / Nat.gcd (useNum s m a k) (wholeI s m).toNat)
def useL (s : Sto) (m : Mak) (a : Int) (i : Nat) : List (Nat × Nat) := (List.range i).map (useRat s m a)
theorem rowC_snocRt (l : List (Nat × Nat)) (p : Nat × Nat) : rowC (rows eRt (l ++ [p])) = rowC (rows eRt l) ++ [[D.c (.v (.int .i64 p.1)), D.c (.v (.int .i64 p.2))]] := by simp [rowC, rows, eRt]
theorem useK_b {s : Sto} {m : Mak} (hs : s.ok) (h : m.ok s) (k : Nat) : 0 ≤ useK s m k ∧ useK s m k ≤ 1000000000 := by
 have := useN_b k (layersL s m) 0 (fun e he => (layers_ok hs h e he).2)
 have hn : (layersL s m).length ≤ 5 := by rw [layersL_len]; have := h.np; have := h.nf; omega
 unfold useK
 omega
def useS (M : IMap) (e : Nat × Int) : Option Exit × IMap := (none, iUpd M e.1 (IntKind.i64.wrap (iG M e.1 + e.2)))
theorem useS_run : ∀ (l : List (Nat × Int)) (M : IMap) (B : Int), (∀ e ∈ l, 0 ≤ e.2 ∧ e.2 ≤ 200000000) → (∀ k, 0 ≤ iG M k ∧ iG M k ≤ B) → B + 200000000 * (l.length : Int) ≤ 9000000000000000000 → runIt useS M l = (none, useM M l)
 | [], _, _, _, _, _ => rfl
 | e :: l, M, B, hl, hM, hB => by
  have he := hl e (by simp)
  have hk := hM e.1
  rw [List.length_cons, Int.natCast_add, Int.natCast_one, Int.mul_add] at hB
  have hw : IntKind.i64.wrap (iG M e.1 + e.2) = iG M e.1 + e.2 := i64_in _ (by omega)
  simp only [runIt, useS, hw, useM]
  refine useS_run l _ (B + 200000000) (fun x hx => hl x (by simp [hx])) (fun k => ?_) (by omega)
  have := hM k
  rw [iG_upd]
  split <;> omega
set_option maxHeartbeats 4000000 in
theorem bdUse (s : Sto) (m : Mak) (hs : s.ok) (h : m.ok s) (a : Int) (ha : 0 ≤ a ∧ a ≤ 1000000) : DCall Try.prog 24 [dSto s, dMak m, dI a] [] (.tup [.c (.sl false 2 (rows eRt (useL s m a s.papers.length))), dI 0]) [] := by
 have h1 := bdNew s m hs h
 have h2 := bdIn true 0 1000000 [a] (by simp) (by simp; omega)
 have hit := bdLayers s m hs h
 have hnp := hs.np
 have hw := wholeI_b hs h
 refine DCall.of Try.func24 sf24 hb24 (Nat.le_of_ble_eq_true rfl) (okRes_nil fun _ => rfl) ?_; simp only [s24, idxs, Nat.reduceAdd]
 repeat' (first|(with_reducible first|apply qA|apply qB|apply qC|apply qD|apply qE|apply qF)|(simp (disch:=omega) only [go_sem, simprocAttr, qN, qO, qP, qQ])|exact qM rfl rfl rfl|(refine qG rfl ?_)|(refine qK (h1) (by decide) ?_)|(refine qK (h2) (by decide) ?_)|(refine qH rfl ?_)|(refine qI rfl ?_ ?_<;>intro hc<;>(try simp only [go_sem] at hc))|(refine qJ ?_ ?_<;>intro hc<;>(try simp only [hc])<;>(try simp only [go_sem] at hc)))
 refine DW.ent (σ' := ⟨63, [(31, .fn (.func 61) [dShe s m (wholeI s m)] []), (9, .box 9 0), (8, .box 8 0), (6, .c (.v (.slice none 0 0))), (3, .box 3 0), (2, dI a)], [(29, .map (iMk []) (iMd [])), (9, .box [.hd 29]), (8, .box [.c (.sl false 1 (rows eI (nL m.papers))), .c (.sl false 1 (rows eI (nL m.flutes))), .c (.sl false 8 (rows eP s.papers)), .c (.sl false 4 (rows eF s.flutes)), dI (wholeI s m)]), (3, .box [.c (.sl false 8 (rows eP s.papers)), .c (.sl false 4 (rows eF s.flutes))])]⟩) (Ent.to ?_ ?_) ?_
 ·simp (disch:=omega) only [qR,qS,qTw,qU,get,Nat.reduceEqDiff,↓reduceIte,qV,qW,qX,qY,qZ,and_self,dI,i64_in,and_true,true_and,rA,rB,rC,rD]
 ·simp (disch:=omega) only [qR,qS,qTw,qU,get,Nat.reduceEqDiff,↓reduceIte,qV,qW,qX,qY,qZ,and_self,dI,i64_in,and_true,true_and,rA,rB,rC,rD,iMk,iMd,rG]
 refine DW.rngBD (fun M : IMap => [(29, .map (iMk M) (iMd M)), (9, .box [.hd 29]), (8, .box [.c (.sl false 1 (rows eI (nL m.papers))), .c (.sl false 1 (rows eI (nL m.flutes))), .c (.sl false 8 (rows eP s.papers)), .c (.sl false 4 (rows eF s.flutes)), dI (wholeI s m)]), (3, .box [.c (.sl false 8 (rows eP s.papers)), .c (.sl false 4 (rows eF s.flutes))])]) [] useS enLay (okLay s) (layersL s m) hit (fun _ => True) trivial (fun _ _ _ _ _ => trivial) rfl (fun _ => ⟨rfl, rfl⟩) rfl (by decide) (fun _ _ => rfl) (fun _ _ _ => rfl) (by simp only [List.map_cons, List.map_nil]; decide) (fun _ => rfl) (fun M => by show (_ && (D.keysIns _ (iMd M) && _)) = true; rw [iD_keys]; rfl) (fun M => by show (D.nbs (iMd M) && _) = true; rw [iD_nb, Bool.true_and]; exact (by simp only [List.all_cons, List.all_nil, Blk.nb, rowC_nb, D.nb, D.nbs, C.nb, C.nbs, C.nbss, rows_nb eI_nb, Bool.and_true, Bool.not_false, Bool.and_self, bD, dI, iD, rows_nb eP_nb, rows_nb eF_nb, rows_nb eRt_nb])) (by simp only [List.all_cons, List.all_nil, Blk.nb, rowC_nb, D.nb, D.nbs, C.nb, C.nbs, C.nbss, rows_nb eI_nb, Bool.and_true, Bool.not_false, Bool.and_self, bD, dI, iD, rows_nb eP_nb, rows_nb eF_nb, rows_nb eRt_nb]) (fun _ _ => rfl) ?_ ?_
 ·rintro M - ⟨k, parts⟩ he v
  have hS : useS M (k, parts) = (none, iUpd M k (IntKind.i64.wrap (iG M k + parts))) := rfl
  rw [hS]
  simp (disch:=omega) only [go_sem,simprocAttr,qN,qO,qP,qQ]
  repeat' (first|(with_reducible first|apply qA|apply qB|apply qC|apply qD|apply qE|apply qF)|(simp (disch:=omega) only [go_sem, simprocAttr, qN, qO, qP, qQ, rF, rG])|exact qM rfl rfl rfl|(refine qG rfl ?_)|(refine qH rfl ?_)|(refine qI rfl ?_ ?_<;>intro hc<;>(try simp only [go_sem] at hc))|(refine qJ ?_ ?_<;>intro hc<;>(try simp only [hc])<;>(try simp only [go_sem] at hc)))
  refine round_end rfl rfl (Ent.to ?_ ?_) <;> simp (disch:=omega) only [qR,qS,qTw,qU,get,Nat.reduceEqDiff,↓reduceIte,qV,qW,qX,qY,qZ,and_self,dI,i64_in,and_true,true_and,rA,rB,rC,rD,capB,List.cons_append,List.nil_append]
 ·rw [useS_run (layersL s m) [] 0 (fun e he => (layers_ok hs h e he).2) (fun k => by simp [iG, iFind]) (by rw [layersL_len]; have := h.np; have := h.nf; omega)]
  simp (disch:=omega) only [go_sem,simprocAttr,qN,qO,qP,qQ,Option.getD_none]
  repeat' (first|(with_reducible first|apply qA|apply qB|apply qC|apply qD|apply qE|apply qF)|(simp (disch:=omega) only [go_sem, simprocAttr, qN, qO, qP, qQ])|exact qM rfl rfl rfl|(refine qG rfl ?_)|(refine qH rfl ?_)|(refine qI rfl ?_ ?_<;>intro hc<;>(try simp only [go_sem] at hc))|(refine qJ ?_ ?_<;>intro hc<;>(try simp only [hc])<;>(try simp only [go_sem] at hc)))
  refine DW.ent (Ent.adopt 6 60 2 rfl rfl (by simp [menS, D.men, D.mens, Blk.men, iD_men])) ?_
  simp only [ins, Nat.reduceLT, Nat.reduceEqDiff, ↓reduceIte]
  refine DW.loop (ι := { i : Nat // i ≤ s.papers.length }) (fun i => ⟨63, [(42, dI i.1), (41, dI s.papers.length), (40, .c (.sl false 8 (rows eP s.papers))), (9, .box 9 0), (8, .box 8 0), (6, .own 60), (2, dI a)], [(60, .row 2 (rowC (rows eRt (useL s m a i.1)))), (29, .map (iMk (useM [] (layersL s m))) (iMd (useM [] (layersL s m)))), (9, .box [.hd 29]), (8, .box [.c (.sl false 1 (rows eI (nL m.papers))), .c (.sl false 1 (rows eI (nL m.flutes))), .c (.sl false 8 (rows eP s.papers)), .c (.sl false 4 (rows eF s.flutes)), dI (wholeI s m)])]⟩) (fun i => s.papers.length - i.1) ⟨0, Nat.zero_le _⟩ ?_ ?_
  ·refine Ent.to ?_ ?_ <;> simp (disch:=omega) only [qR,qS,qTw,qU,get,Nat.reduceEqDiff,↓reduceIte,qV,qW,qX,qY,qZ,and_self,dI,i64_in,and_true,true_and,rA,rB,rC,rD,useL,List.range_zero,rG]
   all_goals first | exact ⟨.refl _, .refl _⟩ | exact .refl _
  rintro ⟨i, hi⟩
  dsimp only
  rcases at_or s.papers i hi with ⟨p, hp, hlt, hd⟩ | ⟨he, hd⟩
  ·have hpa : papAt s i = p := by unfold papAt; rw [hp]; rfl
   have hpo := hs.papers p (List.mem_of_getElem? hp)
   have hub := useK_b hs h i
   have hg : iG (useM [] (layersL s m)) i = useK s m i := useM_get i (layersL s m) []
   have hx1 := mulB0 (a := useK s m i) (b := p.weight) (A := 1000000000) (B := 1000) hub (by have := hpo.weight; omega)
   have hx2 := mulB0 (a := useK s m i * p.weight) (b := a) (A := 1000000000000) (B := 1000000) (by omega) ha
   have hN : ((useNum s m a i : Nat) : Int) = useK s m i * p.weight * a := by
    unfold useNum
    rw [hpa, Int.toNat_of_nonneg (by omega)]
   have h3 := bdRatio (useNum s m a i) (wholeI s m).toNat (by omega) (by omega) (by omega)
   rw [hN, Int.toNat_of_nonneg (by omega)] at h3
   have hsn : useL s m a (i + 1) = useL s m a i ++ [useRat s m a i] := by unfold useL; rw [List.range_succ, List.map_append]; rfl
   have hrow := rowC_snocRt (useL s m a i) (useRat s m a i)
   rw [← hsn] at hrow
   simp only [useRat] at hrow
   have hul : (useL s m a i).length ≤ 8 := by unfold useL; rw [List.length_map, List.length_range]; omega
   clear hN hsn
   generalize useL s m a i = S at *
   generalize hS1 : useL s m a (i + 1) = S1 at *
   repeat' (first|(with_reducible first|apply qA|apply qB|apply qC|apply qD|apply qE|apply qF)|(simp (disch:=omega) only [go_sem, simprocAttr, qN, qO, qP, qQ, hd, hp, hg, hrow, rF, rG])|exact qM rfl rfl rfl|(refine qG rfl ?_)|(refine qK (h3) (by decide) ?_)|(refine qH rfl ?_)|(refine qI rfl ?_ ?_<;>intro hc<;>(try simp only [go_sem] at hc))|(refine qJ ?_ ?_<;>intro hc<;>(try simp only [hc])<;>(try simp only [go_sem] at hc)))
   refine ⟨⟨i + 1, hlt⟩, ?_, Ent.to ?_ ?_⟩ <;> first | (show _ < _; (try simp only); omega) | (simp (disch:=omega) only [qR,qS,qTw,qU,get,Nat.reduceEqDiff,↓reduceIte,qV,qW,qX,qY,qZ,and_self,dI,i64_in,and_true,true_and,rA,rB,rC,rD, hrow,hS1])
   all_goals first | exact ⟨.refl _, .refl _⟩ | exact .refl _
  ·subst he
   (refine DW.ent (Ent.rel 60 rfl) ?_; simp (disch:=omega) only [go_sem,simprocAttr,qN,qO,qP,qQ])
   repeat' (first|(with_reducible first|apply qA|apply qB|apply qC|apply qD|apply qE|apply qF)|(simp (disch:=omega) only [go_sem, simprocAttr, qN, qO, qP, qQ, hd])|exact qM rfl rfl rfl|(refine qG rfl ?_)|(refine qH rfl ?_)|(refine qI rfl ?_ ?_<;>intro hc<;>(try simp only [go_sem] at hc))|(refine qJ ?_ ?_<;>intro hc<;>(try simp only [hc])<;>(try simp only [go_sem] at hc)))
   refine retS_wk rfl ?_ (by simp only [Blk.nb, rowC_nb, D.nb, D.nbs, C.nb, C.nbs, C.nbss, rows_nb eI_nb, Bool.and_true, Bool.not_false, Bool.and_self, bD, dI, iD, rows_nb eP_nb, rows_nb eF_nb, rows_nb eRt_nb]); exact .refl _
end Go.Dw.Seat
end
section
set_option linter.unusedSimpArgs false
set_option maxRecDepth 100000
namespace Go.Dw.Seat
open Go Go.Dw Go.Proofs Go.IntWalk
structure V4 where
 v0 : Nat
 v1 : Nat
 v2 : Nat
 v3 : Nat
structure V4.ok (v : V4) : Prop where
 v0 : v.v0 < 256
 v1 : v.v1 < 256
 v2 : v.v2 < 256
 v3 : v.v3 < 256
structure FoldY where
 p0 : V4
 p1 : V4
 p2 : V4
 f0 : V3
 f1 : V3
 bx : List Nat
structure FoldY.ok (x : FoldY) : Prop where
 p0 : x.p0.ok
 p1 : x.p1.ok
 p2 : x.p2.ok
 f0 : x.f0.ok
 f1 : x.f1.ok
 len : x.bx.length = 7
end Go.Dw.Seat
end
section
set_option linter.unusedSimpArgs false
set_option maxRecDepth 100000
namespace Go.Dw.Seat
open Go Go.Dw Go.Proofs Go.IntWalk
theorem rat_law {N W : Nat} (hW : 0 < W) : (1 ≤ W / Nat.gcd N W) ∧ W % (W / Nat.gcd N W) = 0 ∧ W / (W / Nat.gcd N W) = Nat.gcd N W ∧ N / Nat.gcd N W * Nat.gcd N W = N := by
 have hg : 0 < Nat.gcd N W := Nat.gcd_pos_of_pos_right N hW
 obtain ⟨c, hc⟩ := Nat.gcd_dvd_right N W
 have h1 : W / Nat.gcd N W = c := Nat.div_eq_of_eq_mul_right hg hc
 have hc0 : 0 < c := by
  rcases Nat.eq_zero_or_pos c with h | h
  ·rw [h] at hc; omega
  ·exact h
 rw [h1]
 refine ⟨hc0, ?_, ?_, Nat.div_mul_cancel (Nat.gcd_dvd_left N W)⟩
 ·exact Nat.mod_eq_zero_of_dvd ⟨Nat.gcd N W, by rw [Nat.mul_comm]; exact hc⟩
 ·exact Nat.div_eq_of_eq_mul_left hc0 hc
end Go.Dw.Seat
end
section
set_option linter.unusedSimpArgs false
set_option maxRecDepth 100000
namespace Go.Dw.Seat
open Go Go.Dw Go.Proofs Go.IntWalk
structure RSt where
 num : Int
 den : Int
 tail : Int
 rolls : List (Int × Int)
structure RSt.ok (s : RSt) : Prop where
 den : 1 ≤ s.den ∧ s.den ≤ 10000
 num : s.den ≤ s.num ∧ s.num ≤ 2 * s.den
 tail : 0 ≤ s.tail ∧ s.tail ≤ 10000
 len : s.rolls.length ≤ 6
 rolls : ∀ r ∈ s.rolls, s.tail + 1 ≤ r.1 ∧ r.1 ≤ r.2 ∧ r.2 ≤ 10000000
end Go.Dw.Seat
end
section
set_option linter.unusedSimpArgs false
set_option maxRecDepth 100000
namespace Go.Dw.Seat
open Go Go.Dw Go.Proofs Go.IntWalk
def wTops (m : Nat) : List D := List.replicate m .top
structure M9 where
 a : Int
 b : Int
 c : Int
 d : Int
 e : Int
 f : Int
 g : Int
 h : Int
 i : Int
theorem wT_men (k m : Nat) : D.mens k (wTops m) = false := by
 induction m with
 | zero => rfl
 | succ m ih => exact ih
theorem wT_keys (bx : List (Nat × Blk)) (m : Nat) : D.keysIns bx (wTops m) = true := by
 induction m with
 | zero => rfl
 | succ m ih => exact ih
theorem wT_kill (k : Nat) : ∀ m : Nat, (wTops m).map (killD k) = wTops m := fun m => map_killD_of (wT_men k m)
attribute [go_sem] wT_men wT_keys wT_kill
def stp (M : M9) : Nat → Nat → Nat → M9
 | 0, 0, 0 => { M with a := if M.a + M.a < M.a then M.a + M.a else M.a }
 | 0, 0, 1 => { M with b := if M.a + M.b < M.b then M.a + M.b else M.b }
 | 0, 0, 2 => { M with c := if M.a + M.c < M.c then M.a + M.c else M.c }
 | 0, 1, 0 => { M with d := if M.d + M.a < M.d then M.d + M.a else M.d }
 | 0, 1, 1 => { M with e := if M.d + M.b < M.e then M.d + M.b else M.e }
 | 0, 1, 2 => { M with f := if M.d + M.c < M.f then M.d + M.c else M.f }
 | 0, 2, 0 => { M with g := if M.g + M.a < M.g then M.g + M.a else M.g }
 | 0, 2, 1 => { M with h := if M.g + M.b < M.h then M.g + M.b else M.h }
 | 0, 2, 2 => { M with i := if M.g + M.c < M.i then M.g + M.c else M.i }
 | 1, 0, 0 => { M with a := if M.b + M.d < M.a then M.b + M.d else M.a }
 | 1, 0, 1 => { M with b := if M.b + M.e < M.b then M.b + M.e else M.b }
 | 1, 0, 2 => { M with c := if M.b + M.f < M.c then M.b + M.f else M.c }
 | 1, 1, 0 => { M with d := if M.e + M.d < M.d then M.e + M.d else M.d }
 | 1, 1, 1 => { M with e := if M.e + M.e < M.e then M.e + M.e else M.e }
 | 1, 1, 2 => { M with f := if M.e + M.f < M.f then M.e + M.f else M.f }
 | 1, 2, 0 => { M with g := if M.h + M.d < M.g then M.h + M.d else M.g }
 | 1, 2, 1 => { M with h := if M.h + M.e < M.h then M.h + M.e else M.h }
 | 1, 2, 2 => { M with i := if M.h + M.f < M.i then M.h + M.f else M.i }
 | 2, 0, 0 => { M with a := if M.c + M.g < M.a then M.c + M.g else M.a }
 | 2, 0, 1 => { M with b := if M.c + M.h < M.b then M.c + M.h else M.b }
 | 2, 0, 2 => { M with c := if M.c + M.i < M.c then M.c + M.i else M.c }
 | 2, 1, 0 => { M with d := if M.f + M.g < M.d then M.f + M.g else M.d }
 | 2, 1, 1 => { M with e := if M.f + M.h < M.e then M.f + M.h else M.e }
 | 2, 1, 2 => { M with f := if M.f + M.i < M.f then M.f + M.i else M.f }
 | 2, 2, 0 => { M with g := if M.i + M.g < M.g then M.i + M.g else M.g }
 | 2, 2, 1 => { M with h := if M.i + M.h < M.h then M.i + M.h else M.h }
 | 2, 2, 2 => { M with i := if M.i + M.i < M.i then M.i + M.i else M.i }
 | _, _, _ => M
def bnd (x : Int) : Prop := -100000000000000 ≤ x ∧ x ≤ 100000000000000
structure M9.ok (M : M9) : Prop where
 a : bnd M.a
 b : bnd M.b
 c : bnd M.c
 d : bnd M.d
 e : bnd M.e
 f : bnd M.f
 g : bnd M.g
 h : bnd M.h
 i : bnd M.i
def M9.okB (M : M9) : Bool := [M.a, M.b, M.c, M.d, M.e, M.f, M.g, M.h, M.i].all fun x => decide (-100000000000000 ≤ x) && decide (x ≤ 100000000000000)
end Go.Dw.Seat
end
section
set_option linter.unusedSimpArgs false
set_option maxRecDepth 100000
namespace Go.Dw.Seat
open Go Go.Dw Go.Proofs Go.IntWalk
def eSn (x : Int × Int × Int) : List C := [.v (.int .i64 x.1), .v (.int .i64 x.2.1), .v (.int .i64 x.2.2)]
attribute [go_sem] eSn
end Go.Dw.Seat
end
section
set_option linter.unusedSimpArgs false
set_option maxRecDepth 100000
namespace Go.Dw.Seat
open Go Go.Dw Go.Proofs Go.IntWalk
theorem whole_div {s : Sto} {m : Mak} (hs : s.ok) (hm : m.ok s) {i : Nat} (hi : i < m.papers.length) (ho : i % 2 = 1) : ∃ q : Int, 1 ≤ q ∧ wholeI s m = (fluAt s (m.flutes[i / 2]?.getD 0)).pitch * q := by
 have h1 := hm.np
 have h2 := hm.nf
 have hf := hm.flutes
 obtain ⟨P, F⟩ := m
 dsimp only at h1 h2 hf hi
 match F, h2 with
 | [a], _ =>
  simp only [List.length_cons, List.length_nil] at h1
  obtain rfl : i = 1 := by omega
  exact ⟨1, by decide, by show 1 * (fluAt s a).pitch = (fluAt s a).pitch * 1; omega⟩
 | [a, b], _ =>
  have ha := (fluAt_ok hs (hf a (by simp))).pitch
  have hb := (fluAt_ok hs (hf b (by simp))).pitch
  simp only [List.length_cons, List.length_nil] at h1
  rcases (by omega : i = 1 ∨ i = 3) with rfl | rfl
  ·refine ⟨(fluAt s b).pitch, by omega, ?_⟩
   show 1 * (fluAt s a).pitch * (fluAt s b).pitch = (fluAt s a).pitch * (fluAt s b).pitch
   rw [Int.one_mul]
  ·refine ⟨(fluAt s a).pitch, by omega, ?_⟩
   show 1 * (fluAt s a).pitch * (fluAt s b).pitch = (fluAt s b).pitch * (fluAt s a).pitch
   rw [Int.one_mul, Int.mul_comm]
theorem parts_le {s : Sto} {m : Mak} (hs : s.ok) (hm : m.ok s) {i : Nat} (hi : i < m.papers.length) : 0 ≤ partsAt s m i ∧ partsAt s m i ≤ (if i % 2 = 1 then 2 * wholeI s m else wholeI s m) := by
 refine ⟨(partsAt_b hs hm hi).1, ?_⟩
 have hW := wholeI_b hs hm
 by_cases ho : i % 2 = 1
 ·obtain ⟨q, hq, hWq⟩ := whole_div hs hm hi ho
  have hf := fluAt_ok hs (flute_at hm hi ho).2
  have hp := hf.pitch
  have hd := hf.draw
  rw [partsAt, if_pos ho, if_pos ho]
  generalize (fluAt s (m.flutes[i / 2]?.getD 0)).pitch = p at *
  generalize (fluAt s (m.flutes[i / 2]?.getD 0)).draw = d at *
  have e1 : (wholeI s m).tdiv p = q := by rw [hWq]; exact Int.mul_tdiv_cancel_left _ (by omega)
  rw [e1, hWq]
  have d1 : q * d ≤ q * (2 * p) := Int.mul_le_mul_of_nonneg_left hd.2 (by omega)
  have d2 : q * (2 * p) = 2 * (p * q) := by rw [Int.mul_left_comm, Int.mul_comm q p]
  omega
 ·rw [partsAt, if_neg ho, if_neg ho]
  omega
def usF (s : Sto) (m : Mak) (k : Nat) : Nat → Int
 | 0 => 0
 | i + 1 => if m.papers[i]? = some k then usF s m k i + partsAt s m i else usF s m k i
theorem usF_useN (s : Sto) (m : Mak) (k : Nat) : ∀ i, i ≤ m.papers.length → usF s m k i = useN ((layersL s m).take i) k 0
 | 0, _ => by simp [usF, useN]
 | i + 1, h => by
  obtain ⟨v, hv⟩ := getE (l := m.papers) (i := i) (by omega)
  have ih := usF_useN s m k i (by omega)
  have e : useN ((layersL s m).take (i + 1)) k 0 = if v = k then useN ((layersL s m).take i) k 0 + partsAt s m i else useN ((layersL s m).take i) k 0 := by
   rw [List.take_add_one, layersL_get hv]
   unfold useN
   rw [Option.toList_some, List.foldl_append, List.foldl_cons, List.foldl_nil]
  rw [e, usF, hv, ih]
  by_cases hk : v = k
  ·rw [if_pos hk, if_pos (by rw [hk])]
  ·rw [if_neg hk, if_neg (fun h => hk (Option.some.inj h))]
theorem usF_all (s : Sto) (m : Mak) (k : Nat) : usF s m k m.papers.length = useK s m k := by
 rw [usF_useN s m k _ (Nat.le_refl _), ← layersL_len s m, List.take_length]
 rfl
theorem usF_b {s : Sto} {m : Mak} (hs : s.ok) (hm : m.ok s) (k : Nat) : ∀ i : Nat, i ≤ m.papers.length → 0 ≤ usF s m k i ∧ usF s m k i ≤ ((i + i / 2 : Nat) : Int) * wholeI s m
 | 0, _ => by simp [usF]
 | i + 1, h => by
  have ih := usF_b hs hm k i (by omega)
  have hp := parts_le hs hm (i := i) (by omega)
  have hW := wholeI_b hs hm
  rw [usF]
  rcases (by omega : i % 2 = 0 ∨ i % 2 = 1) with ho | ho
  ·rw [if_neg (by omega)] at hp
   have e : ((i + 1 + (i + 1) / 2 : Nat) : Int) = ((i + i / 2 : Nat) : Int) + 1 := by omega
   rw [e, Int.add_mul, Int.one_mul]
   split <;> omega
  ·rw [if_pos ho] at hp
   have e : ((i + 1 + (i + 1) / 2 : Nat) : Int) = ((i + i / 2 : Nat) : Int) + 2 := by omega
   rw [e, Int.add_mul]
   split <;> omega
end Go.Dw.Seat
end
section
set_option linter.unusedSimpArgs false
set_option maxRecDepth 100000
namespace Go.Dw.Seat
open Go Go.Dw Go.Proofs Go.IntWalk
theorem arPitches (s : Sto) (m : Mak) (hs : s.ok) (h : m.ok s) : DCall Try.prog 22 [dSto s, dMak m] [] (dI (wholeI s m)) [] := by
 have hf := h.nf
 have hl1 : (nL m.flutes).length = m.flutes.length := nL_length _
 refine DCall.of Try.func22 sf22 hb22 (Nat.le_of_ble_eq_true rfl) (okRes_nil fun _ => rfl) ?_; simp only [s22, idxs, Nat.reduceAdd]
 repeat' (first|(with_reducible first|apply qA|apply qB|apply qC|apply qD|apply qE|apply qF)|(refine qL rfl (WF.of ?_) ?_; first|rfl|skip)|(simp (disch:=omega) only [go_sem, simprocAttr, Blk.men, Blk.keysIn])|exact qM rfl rfl rfl|(refine qG rfl ?_)|(refine qH rfl ?_)|(refine qI rfl ?_ ?_<;>intro hc<;>(try simp only [go_sem] at hc))|(refine qJ ?_ ?_<;>intro hc<;>(try simp only [hc])<;>(try simp only [go_sem] at hc)))
 refine DW.loop (ι := { i : Nat // i ≤ m.flutes.length }) (fun i => ⟨27, [(6, dI i.1), (5, dI (wholeF s 1 (m.flutes.take i.1))), (3, .box 3 0), (2, .box 2 0)], [(3, .box [.c (.sl false 1 (rows eI (nL m.papers))), .c (.sl false 1 (rows eI (nL m.flutes)))]), (2, .box [.c (.sl false 8 (rows eP s.papers)), .c (.sl false 4 (rows eF s.flutes))])]⟩) (fun i => m.flutes.length - i.1) ⟨0, Nat.zero_le _⟩ ?_ ?_
 ·refine Ent.to ?_ ?_ <;> simp (disch:=omega) only [qR,qS,qTw,qU,get,Nat.reduceEqDiff,↓reduceIte,qV,qW,qX,qY,qZ,and_self,dI,i64_in,and_true,true_and,rA,rB,rC,rD,List.take_zero,wholeF,List.foldl_nil]
 rintro ⟨i, hi⟩
 dsimp only
 rcases Nat.lt_or_ge i m.flutes.length with hlt | hge
 ·have hd : decide ((i : Int) < (m.flutes.length : Int)) = true := by rw [decide_eq_true_eq]; omega
  obtain ⟨v, hv⟩ := getE (l := m.flutes) (i := i) hlt
  have hv' := nL_at hv
  have hvs := h.flutes v (List.mem_of_getElem? hv)
  have hp := fluAt_get hvs
  have hnx := wholeF_take s 1 hv
  have hb := wholeF_b s hs (m.flutes.take (i + 1)) (fun n hn => h.flutes n (List.mem_of_mem_take hn)) (by rw [List.length_take]; omega)
  rw [hnx] at hb
  repeat' (first|(with_reducible first|apply qA|apply qB|apply qC|apply qD|apply qE|apply qF)|(refine qL rfl (WF.of ?_) ?_; first|rfl|skip)|(simp (disch:=omega) only [go_sem, simprocAttr, Blk.men, Blk.keysIn, hl1, hd, hv', hp, rF, rG])|exact qM rfl rfl rfl|(refine qG rfl ?_)|(refine qH rfl ?_)|(refine qI rfl ?_ ?_<;>intro hc<;>(try simp only [go_sem] at hc))|(refine qJ ?_ ?_<;>intro hc<;>(try simp only [hc])<;>(try simp only [go_sem] at hc)))
  refine ⟨⟨i + 1, hlt⟩, ?_, Ent.to ?_ ?_⟩ <;> first | (show _ < _; (try simp only); omega) | (simp (disch:=omega) only [qR,qS,qTw,qU,get,Nat.reduceEqDiff,↓reduceIte,qV,qW,qX,qY,qZ,and_self,dI,i64_in,and_true,true_and,rA,rB,rC,rD, hnx])
  all_goals exact .refl _
 ·obtain rfl : i = m.flutes.length := by omega
  have hd : decide ((m.flutes.length : Int) < (m.flutes.length : Int)) = false := by rw [decide_eq_false_iff_not]; omega
  have hw : wholeI s m = wholeF s 1 (m.flutes.take m.flutes.length) := by rw [List.take_length]; rfl
  rw [hw]
  repeat' (first|(with_reducible first|apply qA|apply qB|apply qC|apply qD|apply qE|apply qF)|(refine qL rfl (WF.of ?_) ?_; first|rfl|skip)|(simp (disch:=omega) only [go_sem, simprocAttr, Blk.men, Blk.keysIn, hl1, hd])|exact qM rfl rfl rfl|(refine qG rfl ?_)|(refine qH rfl ?_)|(refine qI rfl ?_ ?_<;>intro hc<;>(try simp only [go_sem] at hc))|(refine qJ ?_ ?_<;>intro hc<;>(try simp only [hc])<;>(try simp only [go_sem] at hc)))
end Go.Dw.Seat
end
section
set_option linter.unusedSimpArgs false
set_option maxRecDepth 100000
namespace Go.Dw.Seat
open Go Go.Dw Go.Proofs Go.IntWalk
def sumK (g : Nat → Int) : Nat → Int
 | 0 => 0
 | n + 1 => sumK g n + g n
theorem sumK_one (c : Nat → Int) (w : Nat → Int) (j : Nat) (x : Int) : ∀ n, sumK (fun k => (if j = k then c k + x else c k) * w k) n = sumK (fun k => c k * w k) n + (if j < n then w j * x else 0)
 | 0 => by simp [sumK]
 | n + 1 => by
  rw [sumK, sumK, sumK_one c w j x n]
  by_cases h : j = n
  ·subst h
   rw [if_pos rfl, if_neg (Nat.lt_irrefl _), if_pos (Nat.lt_succ_self _), Int.add_mul, Int.mul_comm x]
   omega
  ·rw [if_neg h]
   by_cases h2 : j < n
   ·rw [if_pos h2, if_pos (by omega)]; omega
   ·rw [if_neg h2, if_neg (by omega)]; omega
theorem sumK_use (s : Sto) (np : Nat) (f : Pap → Int) : ∀ (l : List (Nat × Int)) (c : Nat → Int), (∀ e ∈ l, e.1 < np) → sumK (fun k => useN l k (c k) * f (papAt s k)) np = sumF f s (sumK (fun k => c k * f (papAt s k)) np) l
 | [], _, _ => rfl
 | e :: l, c, h => by
  have he := h e (by simp)
  have ih := sumK_use s np f l (fun k => if e.1 = k then c k + e.2 else c k) (fun x hx => h x (by simp [hx]))
  have e1 : sumF f s (sumK (fun k => c k * f (papAt s k)) np) (e :: l) = sumF f s (sumK (fun k => c k * f (papAt s k)) np + f (papAt s e.1) * e.2) l := rfl
  rw [e1]
  have := sumK_one c (fun k => f (papAt s k)) e.1 e.2 np
  rw [if_pos he] at this
  rw [← this, ← ih]
  rfl
theorem use_all {s : Sto} {m : Mak} (hs : s.ok) (hm : m.ok s) : sumK (fun k => useK s m k * (papAt s k).weight) s.papers.length = sumI Pap.weight s m := by
 have h := sumK_use s s.papers.length Pap.weight (layersL s m) (fun _ => 0) (fun e he => (layers_w hs hm e he).1)
 have e0 : sumK (fun k => (fun _ => (0 : Int)) k * (papAt s k).weight) s.papers.length = 0 := by
  have : ∀ n, sumK (fun k => (fun _ => (0 : Int)) k * (papAt s k).weight) n = 0 := by
   intro n
   induction n with
   | zero => rfl
   | succ n ih => rw [sumK, ih]; simp
  exact this _
 rw [e0] at h
 exact h
theorem sumK_mul (g : Nat → Int) (a : Int) : ∀ n, sumK (fun k => g k * a) n = sumK g n * a
 | 0 => by simp [sumK]
 | n + 1 => by rw [sumK, sumK, sumK_mul g a n, Int.add_mul]
end Go.Dw.Seat
end
section
set_option linter.unusedSimpArgs false
set_option maxRecDepth 100000
namespace Go.Dw.Seat
open Go Go.Dw Go.Proofs Go.IntWalk
theorem rat_factsT {s : Sto} {m : Mak} (hs : s.ok) (hm : m.ok s) {a : Int} {k : Nat} (h0 : 0 ≤ useK s m k * (papAt s k).weight * a) : ∃ (num den : Nat) (g : Int), useRat s m a k = (num, den) ∧ 1 ≤ den ∧ (wholeI s m).tmod (den : Int) = 0 ∧ (wholeI s m).tdiv (den : Int) = g ∧ 1 ≤ g ∧ (num : Int) * g = useK s m k * (papAt s k).weight * a := by
 have hWb := wholeI_b hs hm
 obtain ⟨W, hW⟩ : ∃ W : Nat, wholeI s m = (W : Int) := ⟨(wholeI s m).toNat, by omega⟩
 have hW0 : 0 < W := by omega
 obtain ⟨N, hN⟩ : ∃ N : Nat, useK s m k * (papAt s k).weight * a = (N : Int) := ⟨(useK s m k * (papAt s k).weight * a).toNat, by omega⟩
 have r := rat_law (N := N) hW0
 refine ⟨N / Nat.gcd N W, W / Nat.gcd N W, (Nat.gcd N W : Nat), ?_, r.1, ?_, ?_, ?_, ?_⟩
 ·unfold useRat useNum
  rw [hN, hW, Int.toNat_natCast, Int.toNat_natCast]
 ·rw [hW, tmodN, r.2.1]; rfl
 ·rw [hW, tdivN, r.2.2.1]
 ·have := Nat.gcd_pos_of_pos_right N hW0
  omega
 ·rw [hN, ← Int.natCast_mul, r.2.2.2]
def useA (s : Sto) (m : Mak) (a : Int) (k : Nat) : Int := useK s m k * (papAt s k).weight * a
theorem sumK_nn {g : Nat → Int} {B : Int} : ∀ n : Nat, (∀ k, k < n → 0 ≤ g k ∧ g k ≤ B) → 0 ≤ sumK g n ∧ sumK g n ≤ B * (n : Int)
 | 0, _ => by simp [sumK]
 | n + 1, h => by
  have ih := sumK_nn n (fun k hk => h k (by omega))
  have := h n (by omega)
  rw [sumK, Int.natCast_add, Int.natCast_one, Int.mul_add, Int.mul_one]
  omega
theorem arRatioL (b : Bool) (s : Sto) (m : Mak) (hs : s.ok) (hm : m.ok s) (a : Int) (hN : ∀ k, k < s.papers.length → 0 ≤ useA s m a k ∧ useA s m a k ≤ 500000000000000000) : DCall Try.prog 26 [.c (.sl b 2 (rows eRt (useL s m a s.papers.length))), dI (wholeI s m)] [] (.tup [dI (sumK (useA s m a) s.papers.length), bD true]) [] := by
 have hW := wholeI_b hs hm
 have hnp := hs.np
 have hul : (useL s m a s.papers.length).length = s.papers.length := by unfold useL; rw [List.length_map, List.length_range]
 refine DCall.of Try.func26 sf26 hb26 (Nat.le_of_ble_eq_true rfl) (okRes_nil fun _ => rfl) ?_; simp only [s26, idxs, Nat.reduceAdd]
 repeat' (first|(with_reducible first|apply qA|apply qB|apply qC|apply qD|apply qE|apply qF)|(refine qL rfl (WF.of ?_) ?_; first|rfl|skip)|(simp (disch:=omega) only [go_sem, simprocAttr, Blk.men, Blk.keysIn])|exact qM rfl rfl rfl|(refine qG rfl ?_)|(refine qH rfl ?_)|(refine qI rfl ?_ ?_<;>intro hc<;>(try simp only [go_sem] at hc))|(refine qJ ?_ ?_<;>intro hc<;>(try simp only [hc])<;>(try simp only [go_sem] at hc)))
 refine DW.loop (ι := { i : Nat // i ≤ s.papers.length }) (fun i => ⟨70, [(7, dI i.1), (6, dI (sumK (useA s m a) i.1)), (0, .c (.sl b 2 (rows eRt (useL s m a s.papers.length)))), (1, dI (wholeI s m))], []⟩) (fun i => s.papers.length - i.1) ⟨0, Nat.zero_le _⟩ ?_ ?_
 ·refine Ent.to ?_ ?_ <;> simp (disch:=omega) only [qR,qS,qTw,qU,get,Nat.reduceEqDiff,↓reduceIte,qV,qW,qX,qY,qZ,and_self,dI,i64_in,and_true,true_and,rA,rB,rC,rD,sumK]
 rintro ⟨i, hi⟩
 dsimp only
 rcases at_or s.papers i hi with ⟨pp, hpp, hlt, hd⟩ | ⟨he, hd⟩
 ·have hn := hN i hlt
  obtain ⟨num, den, g, r1, r2, r3, r4, r5, r6⟩ := rat_factsT hs hm (a := a) (k := i) hn.1
  have r6 : (num : Int) * g = useA s m a i := r6
  have hget : (useL s m a s.papers.length)[i]? = some (num, den) := by
   rw [← r1]
   unfold useL
   rw [List.getElem?_map, List.getElem?_range hlt]; rfl
  have hsb := sumK_nn (g := useA s m a) i (fun k hk => hN k (by omega))
  have hs1 : sumK (useA s m a) (i + 1) = sumK (useA s m a) i + useA s m a i := rfl
  have d0 : ((den : Int) = 0) = False := eq_false (by omega)
  have d1 : decide ((den : Int) < 1) = false := decide_eq_false (by omega)
  have d2 : decide ((num : Int) < 0) = false := decide_eq_false (by omega)
  have hgb : g ≤ 100000000 := by
   rw [← r4]
   exact Int.le_trans (by rw [Int.tdiv_eq_ediv_of_nonneg (by omega)]; exact Int.ediv_le_self _ (by omega)) hW.2
  have g0 : (g = 0) = False := eq_false (by omega)
  have hle : (num : Int) ≤ (1152921504606846976 : Int).tdiv g := by
   rw [Int.tdiv_eq_ediv_of_nonneg (by decide)]
   exact (Int.le_ediv_iff_mul_le (by omega)).2 (by omega)
  have d3 : decide ((1152921504606846976 : Int).tdiv g < (num : Int)) = false := decide_eq_false (by omega)
  have hq := tdiv_b (a := 1152921504606846976) (b := g) (A := 1152921504606846976) (by omega) (by omega)
  have hi8 : (500000000000000000 : Int) * (i : Int) ≤ 500000000000000000 * 8 := by omega
  generalize useA s m a i = NN at *
  generalize sumK (useA s m a) i = A0 at *
  generalize hA1 : sumK (useA s m a) (i + 1) = A1 at *
  repeat' (first|(with_reducible first|apply qA|apply qB|apply qC|apply qD|apply qE|apply qF)|(refine qL rfl (WF.of ?_) ?_; first|rfl|skip)|(simp (disch:=omega) only [go_sem, simprocAttr, Blk.men, Blk.keysIn, hul, hd, hget, d0, d1, d2, d3, g0, r3, r4, r6, rF, rG])|exact qM rfl rfl rfl|(refine qG rfl ?_)|(refine qH rfl ?_)|(refine qI rfl ?_ ?_<;>intro hc<;>(try simp only [go_sem] at hc))|(refine qJ ?_ ?_<;>intro hc<;>(try simp only [hc])<;>(try simp only [go_sem] at hc)))
  refine ⟨⟨i + 1, hlt⟩, ?_, Ent.to ?_ ?_⟩ <;> first | (show _ < _; (try simp only); omega) | (simp (disch:=omega) only [qR,qS,qTw,qU,get,Nat.reduceEqDiff,↓reduceIte,qV,qW,qX,qY,qZ,and_self,dI,i64_in,and_true,true_and,rA,rB,rC,rD, hA1,hs1])
 ·subst he
  repeat' (first|(with_reducible first|apply qA|apply qB|apply qC|apply qD|apply qE|apply qF)|(refine qL rfl (WF.of ?_) ?_; first|rfl|skip)|(simp (disch:=omega) only [go_sem, simprocAttr, Blk.men, Blk.keysIn, hul, hd])|exact qM rfl rfl rfl|(refine qG rfl ?_)|(refine qH rfl ?_)|(refine qI rfl ?_ ?_<;>intro hc<;>(try simp only [go_sem] at hc))|(refine qJ ?_ ?_<;>intro hc<;>(try simp only [hc])<;>(try simp only [go_sem] at hc)))
theorem useA_all {s : Sto} {m : Mak} (hs : s.ok) (hm : m.ok s) (a : Int) : sumK (useA s m a) s.papers.length = sumI Pap.weight s m * a := by
 have h := sumK_mul (fun k => useK s m k * (papAt s k).weight) a s.papers.length
 rw [use_all hs hm] at h
 exact h
theorem useA_b {s : Sto} {m : Mak} (hs : s.ok) (hm : m.ok s) {a : Int} (ha : 0 ≤ a ∧ a ≤ 500000) (k : Nat) (hk : k < s.papers.length) : 0 ≤ useA s m a k ∧ useA s m a k ≤ 500000000000000000 := by
 have hW := wholeI_b hs hm
 have hmp : m.papers.length ≤ 5 := by have := hm.np; have := hm.nf; omega
 have hpo := (papAt_ok hs hk).weight
 have hU0 := usF_b hs hm k m.papers.length (Nat.le_refl _)
 rw [usF_all] at hU0
 have hU7 : ((m.papers.length + m.papers.length / 2 : Nat) : Int) * wholeI s m ≤ 7 * wholeI s m := Int.mul_le_mul_of_nonneg_right (by omega) (by omega)
 have hUw := mulB0 (a := useK s m k) (b := (papAt s k).weight) (A := 700000000) (B := 1000) (by omega) (by omega)
 have hN := mulB0 (a := useK s m k * (papAt s k).weight) (b := a) (A := 700000000000) (B := 500000) (by omega) (by omega)
 unfold useA
 omega
end Go.Dw.Seat
end
section
set_option linter.unusedSimpArgs false
set_option maxRecDepth 100000
namespace Go.Dw.Seat.Tr
open Go Go.Dw Go.Proofs Go.IntWalk
abbrev t8 (n : Nat) : D := .c (.v (.int .u8 n))
def O3 (o0 o1 o2 : TOrd) : Nat → List TOrd
 | 0 => []
 | 1 => [o0]
 | 2 => [o0, o1]
 | _ => [o0, o1, o2]
theorem O30 (o0 o1 o2 : TOrd) : O3 o0 o1 o2 0 = [] := rfl
theorem O31 (o0 o1 o2 : TOrd) : O3 o0 o1 o2 1 = [o0] := rfl
theorem O32 (o0 o1 o2 : TOrd) : O3 o0 o1 o2 2 = [o0, o1] := rfl
theorem O33 (o0 o1 o2 : TOrd) : O3 o0 o1 o2 3 = [o0, o1, o2] := rfl
def R5 (a0 a1 a2 w aa : Int) : Nat → List D
 | 0 => [dI 0, dI 0, dI 0, dI w, dI aa]
 | 1 => [dI a0, dI 0, dI 0, dI w, dI aa]
 | 2 => [dI a0, dI a1, dI 0, dI w, dI aa]
 | _ => [dI a0, dI a1, dI a2, dI w, dI aa]
theorem R50 (a0 a1 a2 w aa : Int) : R5 a0 a1 a2 w aa 0 = [dI 0, dI 0, dI 0, dI w, dI aa] := rfl
theorem R51 (a0 a1 a2 w aa : Int) : R5 a0 a1 a2 w aa 1 = [dI a0, dI 0, dI 0, dI w, dI aa] := rfl
theorem R52 (a0 a1 a2 w aa : Int) : R5 a0 a1 a2 w aa 2 = [dI a0, dI a1, dI 0, dI w, dI aa] := rfl
theorem R53 (a0 a1 a2 w aa : Int) : R5 a0 a1 a2 w aa 3 = [dI a0, dI a1, dI a2, dI w, dI aa] := rfl
def Q5 (a0 a1 a2 w aa : Int) : Nat → List D
 | 0 => [dI 0, dI 0, dI 0, dI 0, dI 0]
 | 1 => [dI a0, dI 0, dI 0, dI 0, dI 0]
 | 2 => [dI a0, dI a1, dI 0, dI 0, dI 0]
 | 3 => [dI a0, dI a1, dI a2, dI 0, dI 0]
 | 4 => [dI a0, dI a1, dI a2, dI w, dI 0]
 | _ => [dI a0, dI a1, dI a2, dI w, dI aa]
theorem Q50 (a0 a1 a2 w aa : Int) : Q5 a0 a1 a2 w aa 0 = [dI 0, dI 0, dI 0, dI 0, dI 0] := rfl
theorem Q51 (a0 a1 a2 w aa : Int) : Q5 a0 a1 a2 w aa 1 = [dI a0, dI 0, dI 0, dI 0, dI 0] := rfl
theorem Q52 (a0 a1 a2 w aa : Int) : Q5 a0 a1 a2 w aa 2 = [dI a0, dI a1, dI 0, dI 0, dI 0] := rfl
theorem Q53 (a0 a1 a2 w aa : Int) : Q5 a0 a1 a2 w aa 3 = [dI a0, dI a1, dI a2, dI 0, dI 0] := rfl
theorem Q54 (a0 a1 a2 w aa : Int) : Q5 a0 a1 a2 w aa 4 = [dI a0, dI a1, dI a2, dI w, dI 0] := rfl
theorem Q55 (a0 a1 a2 w aa : Int) : Q5 a0 a1 a2 w aa 5 = [dI a0, dI a1, dI a2, dI w, dI aa] := rfl
theorem drop_revT {l : List Nat} {i v : Nat} (h : l[i]? = some v) : nL ((l.drop i).reverse) = nL ((l.drop (i + 1)).reverse) ++ [(v : Int)] := by
 rw [drop_at h]; simp [nL]
set_option maxHeartbeats 32000000 in
theorem tpTrimPaper (b : Bool) (x : War) (hx : x.ok) (v0 v1 v2 v3 v4 v5 v6 v7 : Nat) (h0 : v0 < 256) (h1 : v1 < 256) (h2 : v2 < 256) (h3 : v3 < 256) (h4 : v4 < 256) (h5 : v5 < 256) (h6 : v6 < 256) (h7 : v7 < 256) :
  DCall Try.prog 4 [dWar b x, .agg [t8 v0, t8 v1, t8 v2, t8 v3, t8 v4, t8 v5, t8 v6, t8 v7]] [] (bD true) [] := by
 have hbo := arBoard
 have htm := tmTrim
 have hS := arStore b x hx
 have hM := arMake b x hx
 have hs := wSto_ok hx
 have hm := wMak_ok x
 generalize wSto x = s at *
 generalize wMak x = m at *
 have hnp := hs.np
 have hnf := hs.nf
 have hmp : m.papers.length ≤ 5 := by have := hm.np; have := hm.nf; omega
 have c1 := tmSpan 0 (40 + 3 * (v1 : Int))
 have q2 : (v2 : Int).tmod 3 = ((v2 % 3 : Nat) : Int) := tmodN v2 3
 refine DCall.of Try.func4 sf4 hb4 (Nat.le_of_ble_eq_true rfl) (okRes_nil fun _ => rfl) ?_; simp only [s4, o4_0, o4_1, o4_2, o4_3, o4_4, o4_5, o4_6, o4_7, o4_8, o4_9, o4_10, o4_11, o4_12, o4_13, o4_14, o4_15, o4_16, o4_17, o4_18, o4_19, o4_20, o4_21, o4_22, o4_23, o4_24, o4_25, o4_26, o4_27, o4_28, o4_29, o4_30, o4_31, o4_32, o4_33, o4_34, o4_35, o4_36, o4_37, o4_38, o4_39, o4_40, o4_41, o4_42, o4_43, o4_44, o4_45, o4_46, o4_47, o4_48, o4_49, o4_50, o4_51, o4_52, o4_53, o4_54, o4_55, o4_56, o4_57, o4_58, idxs, Nat.reduceAdd]
 repeat' (first|(with_reducible first|apply qA|apply qB|apply qC|apply qD|apply qE|apply qF)|(refine qL rfl (WF.of ?_) ?_; first|rfl|skip)|(refine DW.ord rfl (WF.of (by first|rfl|simp (disch:=omega) only [go_sem, simprocAttr, qN, qO, qP, qQ, q2])) ?_ ?_ ?_; rotate_left)|rfl|(with_reducible refine And.intro ?_ ?_)|(simp (disch:=omega) only [go_sem, simprocAttr, qN, qO, qP, qQ, q2])|exact qM rfl rfl rfl|(refine qG rfl ?_)|(refine qK (hS) (by decide) ?_)|(refine qK (hM) (by decide) ?_)|(refine qK (c1) (by decide) ?_)|(refine qH rfl ?_)|(refine qI rfl ?_ ?_<;>intro hc<;>(try simp only [go_sem] at hc))|(refine qJ ?_ ?_<;>intro hc<;>(try simp only [hc])<;>(try simp only [go_sem] at hc)))
 have ud3 : Try.prog.underlying 3 = some (.int .i64) := by kernel_rfl
 have k0 : IntKind.u64.wrap 0 = 0 := by decide
 have k2 : IntKind.u64.wrap 2 = 2 := by decide
 have k4 : IntKind.u64.wrap 4 = 4 := by decide
 obtain ⟨w0, hw0⟩ : ∃ w : Int, 150 + 2 * (v3 : Int) = w := ⟨_, rfl⟩
 obtain ⟨w1, hw1⟩ : ∃ w : Int, 150 + 2 * (v4 : Int) = w := ⟨_, rfl⟩
 obtain ⟨w2, hw2⟩ : ∃ w : Int, 150 + 2 * (v5 : Int) = w := ⟨_, rfl⟩
 have q7 : (v7 : Int).tmod 8 = ((v7 % 8 : Nat) : Int) := tmodN v7 8
 have b7 : v7 % 8 < 8 := Nat.mod_lt _ (by decide)
 have e0 : ((v6 >>> 0 : Nat) : Int).tmod 4 = ((v6 >>> 0 % 4 : Nat) : Int) := tmodN _ 4
 have e1 : ((v6 >>> 2 : Nat) : Int).tmod 4 = ((v6 >>> 2 % 4 : Nat) : Int) := tmodN _ 4
 have e2 : ((v6 >>> 4 : Nat) : Int).tmod 4 = ((v6 >>> 4 % 4 : Nat) : Int) := tmodN _ 4
 have z0 : v6 >>> 0 % 4 < 4 := Nat.mod_lt _ (by decide)
 have z1 : v6 >>> 2 % 4 < 4 := Nat.mod_lt _ (by decide)
 have z2 : v6 >>> 4 % 4 < 4 := Nat.mod_lt _ (by decide)
 generalize v6 >>> 0 % 4 = l0 at *
 generalize v6 >>> 2 % 4 = l1 at *
 generalize v6 >>> 4 % 4 = l2 at *
 generalize v7 % 8 = r at *
 refine DW.leave 0 ⟨305, [(8, .c (.sl false 3 (rows eO [⟨w0, l0, l0 + 1 + r⟩, ⟨w1, l1, l1 + 1 + r⟩, ⟨w2, l2, l2 + 1 + r⟩]))), (7, .box 7 0), (6, .box 6 0), (5, .box 5 0)], [(7, .box [dI (500 + 4 * (v0 : Int)), dI 0, dI (40 + 3 * (v1 : Int)), dI (2 + ((v2 % 3 : Nat) : Int))]), (6, .box [.c (.sl false 1 (rows eI (nL m.papers))), .c (.sl false 1 (rows eI (nL m.flutes)))]), (5, .box [.c (.sl false 8 (rows Seat.eP s.papers)), .c (.sl false 4 (rows Seat.eF s.flutes))])]⟩ ?_ ?_
 ·refine DW.loop (ι := { i : Nat // i ≤ 3 }) (fun i => ⟨305, [(9, dI i.1), (8, .own 52), (7, .box 7 0), (6, .box 6 0), (5, .box 5 0), (3, .box 3 0)], [(52, .row 3 (rowC (rows eO (O3 ⟨w0, l0, l0 + 1 + r⟩ ⟨w1, l1, l1 + 1 + r⟩ ⟨w2, l2, l2 + 1 + r⟩ i.1)))), (7, .box [dI (500 + 4 * (v0 : Int)), dI 0, dI (40 + 3 * (v1 : Int)), dI (2 + ((v2 % 3 : Nat) : Int))]), (6, .box [.c (.sl false 1 (rows eI (nL m.papers))), .c (.sl false 1 (rows eI (nL m.flutes)))]), (5, .box [.c (.sl false 8 (rows Seat.eP s.papers)), .c (.sl false 4 (rows Seat.eF s.flutes))]), (3, .box [t8 v0, t8 v1, t8 v2, t8 v3, t8 v4, t8 v5, t8 v6, t8 v7])]⟩) (fun i => 3 - i.1) ⟨0, by omega⟩ ?_ ?_
  ·refine Ent.to ?_ ?_ <;> simp (disch:=omega) only [qR,qS,qTw,qU,get,Nat.reduceEqDiff,↓reduceIte,qV,qW,qX,qY,qZ,and_self,dI,i64_in,and_true,true_and,rA,rB,rC,rD,O30]
   all_goals exact .refl _
  rintro ⟨i, hi⟩
  dsimp only
  rcases (by omega : i = 0 ∨ i = 1 ∨ i = 2 ∨ i = 3) with rfl | rfl | rfl | rfl
  ·have c2 := tmSpan l0 (l0 + 1 + r)
   repeat' (first|(with_reducible first|apply qA|apply qB|apply qC|apply qD|apply qE|apply qF)|(refine qL rfl (WF.of ?_) ?_; first|rfl|skip)|(refine DW.ord rfl (WF.of (by first|rfl|simp (disch:=omega) only [go_sem, simprocAttr, qN, qO, qP, qQ, ud3, k0, e0, q7, O30, hw0])) ?_ ?_ ?_; rotate_left)|rfl|(with_reducible refine And.intro ?_ ?_)|(simp (disch:=omega) only [go_sem, simprocAttr, qN, qO, qP, qQ, ud3, k0, e0, q7, O30, hw0])|exact qM rfl rfl rfl|(refine qG rfl ?_)|(refine qK (c2) (by decide) ?_)|(refine qH rfl ?_)|(refine qI rfl ?_ ?_<;>intro hc<;>(try simp only [go_sem] at hc))|(refine qJ ?_ ?_<;>intro hc<;>(try simp only [hc])<;>(try simp only [go_sem] at hc)))
   refine ⟨⟨1, by omega⟩, ?_, Ent.to ?_ ?_⟩ <;> first | (show _ < _; (try simp only); omega) | (simp (disch:=omega) only [qR,qS,qTw,qU,get,Nat.reduceEqDiff,↓reduceIte,qV,qW,qX,qY,qZ,and_self,dI,i64_in,and_true,true_and,rA,rB,rC,rD, O30,O31])
   all_goals exact .refl _
  ·have c2 := tmSpan l1 (l1 + 1 + r)
   repeat' (first|(with_reducible first|apply qA|apply qB|apply qC|apply qD|apply qE|apply qF)|(refine qL rfl (WF.of ?_) ?_; first|rfl|skip)|(refine DW.ord rfl (WF.of (by first|rfl|simp (disch:=omega) only [go_sem, simprocAttr, qN, qO, qP, qQ, ud3, k2, e1, q7, O31, hw1])) ?_ ?_ ?_; rotate_left)|rfl|(with_reducible refine And.intro ?_ ?_)|(simp (disch:=omega) only [go_sem, simprocAttr, qN, qO, qP, qQ, ud3, k2, e1, q7, O31, hw1])|exact qM rfl rfl rfl|(refine qG rfl ?_)|(refine qK (c2) (by decide) ?_)|(refine qH rfl ?_)|(refine qI rfl ?_ ?_<;>intro hc<;>(try simp only [go_sem] at hc))|(refine qJ ?_ ?_<;>intro hc<;>(try simp only [hc])<;>(try simp only [go_sem] at hc)))
   refine ⟨⟨2, by omega⟩, ?_, Ent.to ?_ ?_⟩ <;> first | (show _ < _; (try simp only); omega) | (simp (disch:=omega) only [qR,qS,qTw,qU,get,Nat.reduceEqDiff,↓reduceIte,qV,qW,qX,qY,qZ,and_self,dI,i64_in,and_true,true_and,rA,rB,rC,rD, O31,O32])
   all_goals exact .refl _
  ·have c2 := tmSpan l2 (l2 + 1 + r)
   repeat' (first|(with_reducible first|apply qA|apply qB|apply qC|apply qD|apply qE|apply qF)|(refine qL rfl (WF.of ?_) ?_; first|rfl|skip)|(refine DW.ord rfl (WF.of (by first|rfl|simp (disch:=omega) only [go_sem, simprocAttr, qN, qO, qP, qQ, ud3, k4, e2, q7, O32, hw2])) ?_ ?_ ?_; rotate_left)|rfl|(with_reducible refine And.intro ?_ ?_)|(simp (disch:=omega) only [go_sem, simprocAttr, qN, qO, qP, qQ, ud3, k4, e2, q7, O32, hw2])|exact qM rfl rfl rfl|(refine qG rfl ?_)|(refine qK (c2) (by decide) ?_)|(refine qH rfl ?_)|(refine qI rfl ?_ ?_<;>intro hc<;>(try simp only [go_sem] at hc))|(refine qJ ?_ ?_<;>intro hc<;>(try simp only [hc])<;>(try simp only [go_sem] at hc)))
   refine ⟨⟨3, by omega⟩, ?_, Ent.to ?_ ?_⟩ <;> first | (show _ < _; (try simp only); omega) | (simp (disch:=omega) only [qR,qS,qTw,qU,get,Nat.reduceEqDiff,↓reduceIte,qV,qW,qX,qY,qZ,and_self,dI,i64_in,and_true,true_and,rA,rB,rC,rD, O32,O33])
   all_goals exact .refl _
  ·repeat' (first|(with_reducible first|apply qA|apply qB|apply qC|apply qD|apply qE|apply qF)|(refine qL rfl (WF.of ?_) ?_; first|rfl|skip)|(refine DW.ord rfl (WF.of (by first|rfl|simp (disch:=omega) only [go_sem, simprocAttr, qN, qO, qP, qQ, O33])) ?_ ?_ ?_; rotate_left)|rfl|(with_reducible refine And.intro ?_ ?_)|(simp (disch:=omega) only [go_sem, simprocAttr, qN, qO, qP, qQ, O33])|exact qM rfl rfl rfl|(refine qG rfl ?_)|(refine qH rfl ?_)|(refine qI rfl ?_ ?_<;>intro hc<;>(try simp only [go_sem] at hc))|(refine qJ ?_ ?_<;>intro hc<;>(try simp only [hc])<;>(try simp only [go_sem] at hc)))
   refine (Ent.rel 52 rfl).trans ?_
   simp (disch:=omega) only [go_sem,simprocAttr,qN,qO,qP,qQ,O33]
   refine Ent.to ?_ ?_ <;> simp (disch:=omega) only [qR,qS,qTw,qU,get,Nat.reduceEqDiff,↓reduceIte,qV,qW,qX,qY,qZ,and_self,dI,i64_in,and_true,true_and,rA,rB,rC,rD,O33]
 intro σ' hσ'
 simp (disch:=omega) only [go_sem,simprocAttr,qN,qO,qP,qQ]
 refine DW.ent hσ' ?_
 clear hσ'
 have hp : (⟨500 + 4 * (v0 : Int), 0, 40 + 3 * (v1 : Int), 2 + ((v2 % 3 : Nat) : Int)⟩ : TPap).ok := ⟨by dsimp only; omega, by dsimp only; omega, by dsimp only; omega⟩
 have hwid : 500 + 4 * (v0 : Int) ≤ 1520 := by omega
 generalize hP : (⟨500 + 4 * (v0 : Int), 0, 40 + 3 * (v1 : Int), 2 + ((v2 % 3 : Nat) : Int)⟩ : TPap) = P at *
 have hPw : P.wide = 500 + 4 * (v0 : Int) := by rw [← hP]
 have hPl : P.tl = 0 := by rw [← hP]
 have hPh : 40 + 3 * (v1 : Int) = P.th := by rw [← hP]
 have hPn : 2 + ((v2 % 3 : Nat) : Int) = P.webs := by rw [← hP]
 rw [hPh, hPn, ← hPw]
 rw [← hPw] at hwid
 have oo0 : (⟨w0, l0, l0 + 1 + r⟩ : TOrd).ok := ⟨by dsimp only; omega, by dsimp only; omega⟩
 have oo1 : (⟨w1, l1, l1 + 1 + r⟩ : TOrd).ok := ⟨by dsimp only; omega, by dsimp only; omega⟩
 have oo2 : (⟨w2, l2, l2 + 1 + r⟩ : TOrd).ok := ⟨by dsimp only; omega, by dsimp only; omega⟩
 have pl := trPlanX P [⟨w0, l0, l0 + 1 + r⟩, ⟨w1, l1, l1 + 1 + r⟩, ⟨w2, l2, l2 + 1 + r⟩] (by simp)
 clear hS hM c1 q2 e0 e1 e2 q7
 rcases plan_tops hp oo0 oo1 oo2 with hX | ⟨q, g0, g1, g2, W, hX, hq⟩
 ·rw [hX, papD, hPl] at pl
  refine DW.seq (DW.ord rfl (WF.of (by first | rfl | simp (disch:=omega) only [go_sem,simprocAttr,qN,qO,qP,qQ])) ?_ ?_ ?_)
  rotate_left
  ·repeat' (first | (with_reducible refine And.intro ?_ ?_) | simp (disch:=omega) only [go_sem,simprocAttr,qN,qO,qP,qQ])
   all_goals (refine call_e (Ent.rel 93 rfl) pl (by rfl) (by simp (disch:=omega) only [go_sem,simprocAttr,qN,qO,qP,qQ]) (by decide) ?_; simp (disch:=omega) only [go_sem,simprocAttr,qN,qO,qP,qQ])
   all_goals rfl
  ·simp (disch:=omega) only [go_sem,simprocAttr,qN,qO,qP,qQ]
   repeat' (first|(with_reducible first|apply qA|apply qB|apply qC|apply qD|apply qE|apply qF)|(refine qL rfl (WF.of ?_) ?_; first|rfl|skip)|(refine DW.ord rfl (WF.of (by first|rfl|simp (disch:=omega) only [go_sem, simprocAttr, qN, qO, qP, qQ])) ?_ ?_ ?_; rotate_left)|rfl|(with_reducible refine And.intro ?_ ?_)|(simp (disch:=omega) only [go_sem, simprocAttr, qN, qO, qP, qQ])|exact qM rfl rfl rfl|(refine qG rfl ?_)|(refine qK (hbo) (by decide) ?_)|(refine qK (htm) (by decide) ?_)|(refine qH rfl ?_)|(refine qI rfl ?_ ?_<;>intro hc<;>(try simp only [go_sem] at hc))|(refine qJ ?_ ?_<;>intro hc<;>(try simp only [hc])<;>(try simp only [go_sem] at hc)))
 ·rw [hX, papD, hPl] at pl
  refine DW.seq (DW.ord rfl (WF.of (by first | rfl | simp (disch:=omega) only [go_sem,simprocAttr,qN,qO,qP,qQ])) ?_ ?_ ?_)
  rotate_left
  ·repeat' (first | (with_reducible refine And.intro ?_ ?_) | simp (disch:=omega) only [go_sem,simprocAttr,qN,qO,qP,qQ])
   all_goals (refine call_e (Ent.rel 93 rfl) pl (by rfl) (by simp (disch:=omega) only [go_sem,simprocAttr,qN,qO,qP,qQ]) (by decide) ?_; simp (disch:=omega) only [go_sem,simprocAttr,qN,qO,qP,qQ])
   all_goals rfl
  ·simp (disch:=omega) only [go_sem,simprocAttr,qN,qO,qP,qQ]
   repeat' (first|(with_reducible first|apply qA|apply qB|apply qC|apply qD|apply qE|apply qF)|(refine qL rfl (WF.of ?_) ?_; first|rfl|skip)|(refine DW.ord rfl (WF.of (by first|rfl|simp (disch:=omega) only [go_sem, simprocAttr, qN, qO, qP, qQ])) ?_ ?_ ?_; rotate_left)|rfl|(with_reducible refine And.intro ?_ ?_)|(simp (disch:=omega) only [go_sem, simprocAttr, qN, qO, qP, qQ])|exact qM rfl rfl rfl|(refine qG rfl ?_)|(refine qH rfl ?_)|(refine qI rfl ?_ ?_<;>intro hc<;>(try simp only [go_sem] at hc))|(refine qJ ?_ ?_<;>intro hc<;>(try simp only [hc])<;>(try simp only [go_sem] at hc)))
   clear pl hX
   have hgt := trGetX P [⟨w0, l0, l0 + 1 + r⟩, ⟨w1, l1, l1 + 1 + r⟩, ⟨w2, l2, l2 + 1 + r⟩] (by simp) q (fun s hs => by rw [(hq.st s hs).1]; decide)
   rw [hq.get, papD, hPl, doesD] at hgt
   refine DW.leave 2 ⟨305, [(12, dI (runI q)), (10, dSt false q), (8, .c (.sl false 3 (rows eO [⟨w0, l0, l0 + 1 + r⟩, ⟨w1, l1, l1 + 1 + r⟩, ⟨w2, l2, l2 + 1 + r⟩]))), (7, .box 7 0), (6, .box 6 0), (5, .box 5 0)], [(7, .box [dI P.wide, dI 0, dI P.th, dI P.webs]), (6, .box [.c (.sl false 1 (rows eI (nL m.papers))), .c (.sl false 1 (rows eI (nL m.flutes)))]), (5, .box [.c (.sl false 8 (rows Seat.eP s.papers)), .c (.sl false 4 (rows eF s.flutes))])]⟩ ?_ ?_
   ·refine DW.loop (ι := { i : Nat // i ≤ q.length }) (fun i => ⟨305, [(13, dI i.1), (12, dI (runI (q.take i.1))), (10, dSt false q), (8, .c (.sl false 3 (rows eO [⟨w0, l0, l0 + 1 + r⟩, ⟨w1, l1, l1 + 1 + r⟩, ⟨w2, l2, l2 + 1 + r⟩]))), (7, .box 7 0), (6, .box 6 0), (5, .box 5 0)], [(7, .box [dI P.wide, dI 0, dI P.th, dI P.webs]), (6, .box [.c (.sl false 1 (rows eI (nL m.papers))), .c (.sl false 1 (rows eI (nL m.flutes)))]), (5, .box [.c (.sl false 8 (rows Seat.eP s.papers)), .c (.sl false 4 (rows eF s.flutes))])]⟩) (fun i => q.length - i.1) ⟨0, Nat.zero_le _⟩ ?_ ?_
    ·refine Ent.to ?_ ?_ <;> simp (disch:=omega) only [qR,qS,qTw,qU,get,Nat.reduceEqDiff,↓reduceIte,qV,qW,qX,qY,qZ,and_self,dI,i64_in,and_true,true_and,rA,rB,rC,rD,List.take_zero,runI]
     all_goals exact .refl _
    rintro ⟨i, hi⟩
    dsimp only
    rcases at_or q i hi with ⟨sp, hsp, hlt, hd⟩ | ⟨he, hd⟩
    ·have hst := hq.st sp (List.mem_of_getElem? hsp)
     have hl3 := hq.len
     have htk : q.take (i + 1) = q.take i ++ [sp] := by rw [List.take_add_one, hsp, Option.toList_some]
     have hrs := runI_snoc (q.take i) sp
     rw [← htk] at hrs
     have hrb := run_b (q.take i) (fun s hs => (hq.st s (List.mem_of_mem_take hs)).2)
     have hrl : (q.take i).length ≤ 3 := by rw [List.length_take]; omega
     generalize runI (q.take i) = R0 at *
     generalize hR1 : runI (q.take (i + 1)) = R1 at *
     have f1 : decide (sp.run < 1) = false := decide_eq_false (by omega)
     have f2 : decide (30 < sp.run) = false := decide_eq_false (by omega)
     have f3 : decide (3 ≤ (i : Int)) = false := decide_eq_false (by omega)
     repeat' (first|(with_reducible first|apply qA|apply qB|apply qC|apply qD|apply qE|apply qF)|(refine qL rfl (WF.of ?_) ?_; first|rfl|skip)|(refine DW.ord rfl (WF.of (by first|rfl|simp (disch:=omega) only [go_sem, simprocAttr, qN, qO, qP, qQ, hd, hsp, f1, f2, f3, rF, rG])) ?_ ?_ ?_; rotate_left)|rfl|(with_reducible refine And.intro ?_ ?_)|(simp (disch:=omega) only [go_sem, simprocAttr, qN, qO, qP, qQ, hd, hsp, f1, f2, f3, rF, rG])|exact qM rfl rfl rfl|(refine qG rfl ?_)|(refine qH rfl ?_)|(refine qI rfl ?_ ?_<;>intro hc<;>(try simp only [go_sem] at hc))|(refine qJ ?_ ?_<;>intro hc<;>(try simp only [hc])<;>(try simp only [go_sem] at hc)))
     refine ⟨⟨i + 1, hlt⟩, ?_, Ent.to ?_ ?_⟩ <;> first | (show _ < _; (try simp only); omega) | (simp (disch:=omega) only [qR,qS,qTw,qU,get,Nat.reduceEqDiff,↓reduceIte,qV,qW,qX,qY,qZ,and_self,dI,i64_in,and_true,true_and,rA,rB,rC,rD, hR1,hrs])
     all_goals exact .refl _
    ·subst he
     repeat' (first|(with_reducible first|apply qA|apply qB|apply qC|apply qD|apply qE|apply qF)|(refine qL rfl (WF.of ?_) ?_; first|rfl|skip)|(refine DW.ord rfl (WF.of (by first|rfl|simp (disch:=omega) only [go_sem, simprocAttr, qN, qO, qP, qQ, hd])) ?_ ?_ ?_; rotate_left)|rfl|(with_reducible refine And.intro ?_ ?_)|(simp (disch:=omega) only [go_sem, simprocAttr, qN, qO, qP, qQ, hd])|exact qM rfl rfl rfl|(refine qG rfl ?_)|(refine qH rfl ?_)|(refine qI rfl ?_ ?_<;>intro hc<;>(try simp only [go_sem] at hc))|(refine qJ ?_ ?_<;>intro hc<;>(try simp only [hc])<;>(try simp only [go_sem] at hc)))
     refine Ent.to ?_ ?_ <;> simp (disch:=omega) only [qR,qS,qTw,qU,get,Nat.reduceEqDiff,↓reduceIte,qV,qW,qX,qY,qZ,and_self,dI,i64_in,and_true,true_and,rA,rB,rC,rD,List.take_length]
   intro σ' hσ'
   simp (disch:=omega) only [go_sem,simprocAttr,qN,qO,qP,qQ]
   refine DW.ent hσ' ?_
   clear hσ'
   have hrb := run_b q (fun s hs => (hq.st s hs).2)
   have hl3 := hq.len
   have har := hq.area
   generalize runI q = R at *
   have hnn := hq.nn
   have hb0 := hq.b0
   have hb1 := hq.b1
   have hb2 := hq.b2
   dsimp only at har hb0 hb1 hb2
   obtain ⟨A0, hA0⟩ : ∃ A : Int, g0 * w0 = A := ⟨_, rfl⟩
   obtain ⟨A1, hA1⟩ : ∃ A : Int, g1 * w1 = A := ⟨_, rfl⟩
   obtain ⟨A2, hA2⟩ : ∃ A : Int, g2 * w2 = A := ⟨_, rfl⟩
   have B0 := mulB0 (a := g0) (b := w0) (A := 11) (B := 660) (by omega) (by omega)
   have B1 := mulB0 (a := g1) (b := w1) (A := 11) (B := 660) (by omega) (by omega)
   have B2 := mulB0 (a := g2) (b := w2) (A := 11) (B := 660) (by omega) (by omega)
   have BA := mulB0 (a := P.wide) (b := R) (A := 1520) (B := 90) (by have := hp.wide; omega) (by omega)
   generalize hAA : P.wide * R = AA at *
   rw [hA0] at B0
   rw [hA1] at B1
   rw [hA2] at B2
   rw [hA0, hA1, hA2] at har
   have dN : decide (W < 0) = false := decide_eq_false (by omega)
   have dM : decide (AA < W) = false := decide_eq_false (by omega)
   have pt := arPitches s m hs hm
   have hW := wholeI_b hs hm
   refine DW.seq (DW.ord rfl (WF.of (by first | rfl | simp (disch:=omega) only [go_sem,simprocAttr,qN,qO,qP,qQ])) ?_ ?_ ?_)
   rotate_left
   ·repeat' (first | (with_reducible refine And.intro ?_ ?_) | simp (disch:=omega) only [go_sem,simprocAttr,qN,qO,qP,qQ])
    all_goals (refine call_e (Ent.rel 147 rfl) hgt (by rfl) (by simp (disch:=omega) only [go_sem,simprocAttr,qN,qO,qP,qQ]) (by decide) ?_; simp (disch:=omega) only [go_sem,simprocAttr,qN,qO,qP,qQ])
    all_goals rfl
   ·simp (disch:=omega) only [go_sem,simprocAttr,qN,qO,qP,qQ]
    repeat' (first|(with_reducible first|apply qA|apply qB|apply qC|apply qD|apply qE|apply qF)|(refine qL rfl (WF.of ?_) ?_; first|rfl|skip)|(refine DW.ord rfl (WF.of (by first|rfl|simp (disch:=omega) only [go_sem, simprocAttr, qN, qO, qP, qQ, dN, dM, hAA])) ?_ ?_ ?_; rotate_left)|rfl|(with_reducible refine And.intro ?_ ?_)|(simp (disch:=omega) only [go_sem, simprocAttr, qN, qO, qP, qQ, dN, dM, hAA])|exact qM rfl rfl rfl|(refine qG rfl ?_)|(refine qK (pt) (by decide) ?_)|(refine qH rfl ?_)|(refine qI rfl ?_ ?_<;>intro hc<;>(try simp only [go_sem] at hc))|(refine qJ ?_ ?_<;>intro hc<;>(try simp only [hc])<;>(try simp only [go_sem] at hc)))
    clear pt hgt
    refine DW.leave 4 ⟨305, [(20, .box 20 0), (19, .box 19 0), (18, dI (wholeI s m)), (6, .box 6 0), (5, .box 5 0)], [(20, .box [dI A0, dI A1, dI A2, dI W, dI AA]), (19, .box [dI 0, dI 0, dI 0, dI 0, dI 0]), (6, .box [.c (.sl false 1 (rows eI (nL m.papers))), .c (.sl false 1 (rows eI (nL m.flutes)))]), (5, .box [.c (.sl false 8 (rows Seat.eP s.papers)), .c (.sl false 4 (rows eF s.flutes))])]⟩ ?_ ?_
    ·refine DW.loop (ι := { i : Nat // i ≤ 3 }) (fun i => ⟨305, [(21, dI i.1), (20, .box 20 0), (19, .box 19 0), (18, dI (wholeI s m)), (14, dIs false [g0, g1, g2]), (8, .c (.sl false 3 (rows eO [⟨w0, l0, l0 + 1 + r⟩, ⟨w1, l1, l1 + 1 + r⟩, ⟨w2, l2, l2 + 1 + r⟩]))), (6, .box 6 0), (5, .box 5 0)], [(20, .box (R5 A0 A1 A2 W AA i.1)), (19, .box [dI 0, dI 0, dI 0, dI 0, dI 0]), (6, .box [.c (.sl false 1 (rows eI (nL m.papers))), .c (.sl false 1 (rows eI (nL m.flutes)))]), (5, .box [.c (.sl false 8 (rows Seat.eP s.papers)), .c (.sl false 4 (rows eF s.flutes))])]⟩) (fun i => 3 - i.1) ⟨0, by omega⟩ ?_ ?_
     ·refine Ent.to ?_ ?_ <;> simp (disch:=omega) only [qR,qS,qTw,qU,get,Nat.reduceEqDiff,↓reduceIte,qV,qW,qX,qY,qZ,and_self,dI,i64_in,and_true,true_and,rA,rB,rC,rD,R50]
      all_goals exact .refl _
     rintro ⟨i, hi⟩
     dsimp only
     have f0 : decide (g0 < 0) = false := decide_eq_false (by omega)
     have f1 : decide (g1 < 0) = false := decide_eq_false (by omega)
     have f2 : decide (g2 < 0) = false := decide_eq_false (by omega)
     have m0 : decide (400 < g0) = false := decide_eq_false (by omega)
     have m1 : decide (400 < g1) = false := decide_eq_false (by omega)
     have m2 : decide (400 < g2) = false := decide_eq_false (by omega)
     rcases (by omega : i = 0 ∨ i = 1 ∨ i = 2 ∨ i = 3) with rfl | rfl | rfl | rfl
     ·repeat' (first|(with_reducible first|apply qA|apply qB|apply qC|apply qD|apply qE|apply qF)|(refine qL rfl (WF.of ?_) ?_; first|rfl|skip)|(refine DW.ord rfl (WF.of (by first|rfl|simp (disch:=omega) only [go_sem, simprocAttr, qN, qO, qP, qQ, R50, f0, m0, hA0, rF, rG])) ?_ ?_ ?_; rotate_left)|rfl|(with_reducible refine And.intro ?_ ?_)|(simp (disch:=omega) only [go_sem, simprocAttr, qN, qO, qP, qQ, R50, f0, m0, hA0, rF, rG])|exact qM rfl rfl rfl|(refine qG rfl ?_)|(refine qH rfl ?_)|(refine qI rfl ?_ ?_<;>intro hc<;>(try simp only [go_sem] at hc))|(refine qJ ?_ ?_<;>intro hc<;>(try simp only [hc])<;>(try simp only [go_sem] at hc)))
      refine ⟨⟨1, by omega⟩, ?_, Ent.to ?_ ?_⟩ <;> first | (show _ < _; (try simp only); omega) | (simp (disch:=omega) only [qR,qS,qTw,qU,get,Nat.reduceEqDiff,↓reduceIte,qV,qW,qX,qY,qZ,and_self,dI,i64_in,and_true,true_and,rA,rB,rC,rD, R50,R51])
      all_goals exact .refl _
     ·repeat' (first|(with_reducible first|apply qA|apply qB|apply qC|apply qD|apply qE|apply qF)|(refine qL rfl (WF.of ?_) ?_; first|rfl|skip)|(refine DW.ord rfl (WF.of (by first|rfl|simp (disch:=omega) only [go_sem, simprocAttr, qN, qO, qP, qQ, R51, f1, m1, hA1, rF, rG])) ?_ ?_ ?_; rotate_left)|rfl|(with_reducible refine And.intro ?_ ?_)|(simp (disch:=omega) only [go_sem, simprocAttr, qN, qO, qP, qQ, R51, f1, m1, hA1, rF, rG])|exact qM rfl rfl rfl|(refine qG rfl ?_)|(refine qH rfl ?_)|(refine qI rfl ?_ ?_<;>intro hc<;>(try simp only [go_sem] at hc))|(refine qJ ?_ ?_<;>intro hc<;>(try simp only [hc])<;>(try simp only [go_sem] at hc)))
      refine ⟨⟨2, by omega⟩, ?_, Ent.to ?_ ?_⟩ <;> first | (show _ < _; (try simp only); omega) | (simp (disch:=omega) only [qR,qS,qTw,qU,get,Nat.reduceEqDiff,↓reduceIte,qV,qW,qX,qY,qZ,and_self,dI,i64_in,and_true,true_and,rA,rB,rC,rD, R51,R52])
      all_goals exact .refl _
     ·repeat' (first|(with_reducible first|apply qA|apply qB|apply qC|apply qD|apply qE|apply qF)|(refine qL rfl (WF.of ?_) ?_; first|rfl|skip)|(refine DW.ord rfl (WF.of (by first|rfl|simp (disch:=omega) only [go_sem, simprocAttr, qN, qO, qP, qQ, R52, f2, m2, hA2, rF, rG])) ?_ ?_ ?_; rotate_left)|rfl|(with_reducible refine And.intro ?_ ?_)|(simp (disch:=omega) only [go_sem, simprocAttr, qN, qO, qP, qQ, R52, f2, m2, hA2, rF, rG])|exact qM rfl rfl rfl|(refine qG rfl ?_)|(refine qH rfl ?_)|(refine qI rfl ?_ ?_<;>intro hc<;>(try simp only [go_sem] at hc))|(refine qJ ?_ ?_<;>intro hc<;>(try simp only [hc])<;>(try simp only [go_sem] at hc)))
      refine ⟨⟨3, by omega⟩, ?_, Ent.to ?_ ?_⟩ <;> first | (show _ < _; (try simp only); omega) | (simp (disch:=omega) only [qR,qS,qTw,qU,get,Nat.reduceEqDiff,↓reduceIte,qV,qW,qX,qY,qZ,and_self,dI,i64_in,and_true,true_and,rA,rB,rC,rD, R52,R53])
      all_goals exact .refl _
     ·repeat' (first|(with_reducible first|apply qA|apply qB|apply qC|apply qD|apply qE|apply qF)|(refine qL rfl (WF.of ?_) ?_; first|rfl|skip)|(refine DW.ord rfl (WF.of (by first|rfl|simp (disch:=omega) only [go_sem, simprocAttr, qN, qO, qP, qQ, R53])) ?_ ?_ ?_; rotate_left)|rfl|(with_reducible refine And.intro ?_ ?_)|(simp (disch:=omega) only [go_sem, simprocAttr, qN, qO, qP, qQ, R53])|exact qM rfl rfl rfl|(refine qG rfl ?_)|(refine qH rfl ?_)|(refine qI rfl ?_ ?_<;>intro hc<;>(try simp only [go_sem] at hc))|(refine qJ ?_ ?_<;>intro hc<;>(try simp only [hc])<;>(try simp only [go_sem] at hc)))
      refine Ent.to ?_ ?_ <;> simp (disch:=omega) only [qR,qS,qTw,qU,get,Nat.reduceEqDiff,↓reduceIte,qV,qW,qX,qY,qZ,and_self,dI,i64_in,and_true,true_and,rA,rB,rC,rD,R53]
    intro σ' hσ'
    simp (disch:=omega) only [go_sem,simprocAttr,qN,qO,qP,qQ]
    refine DW.ent hσ' ?_
    clear hσ' hA0 hA1 hA2 hAA
    repeat' (first|(with_reducible first|apply qA|apply qB|apply qC|apply qD|apply qE|apply qF)|(refine qL rfl (WF.of ?_) ?_; first|rfl|skip)|(refine DW.ord rfl (WF.of (by first|rfl|simp (disch:=omega) only [go_sem, simprocAttr, qN, qO, qP, qQ])) ?_ ?_ ?_; rotate_left)|rfl|(with_reducible refine And.intro ?_ ?_)|(simp (disch:=omega) only [go_sem, simprocAttr, qN, qO, qP, qQ])|exact qM rfl rfl rfl|(refine qG rfl ?_)|(refine qH rfl ?_)|(refine qI rfl ?_ ?_<;>intro hc<;>(try simp only [go_sem] at hc))|(refine qJ ?_ ?_<;>intro hc<;>(try simp only [hc])<;>(try simp only [go_sem] at hc)))
    (refine DW.ent (Ent.adoptB 22 0 230 1 rfl rfl rfl rfl) ?_; simp only [ins, Nat.reduceLT, Nat.reduceEqDiff, ↓reduceIte, List.set_cons_zero, List.set_cons_succ])
    (refine DW.ent (Ent.adoptB 22 1 248 1 rfl rfl rfl rfl) ?_; simp only [ins, Nat.reduceLT, Nat.reduceEqDiff, ↓reduceIte, List.set_cons_zero, List.set_cons_succ])
    have hl1 : (nL m.papers).length = m.papers.length := nL_length _
    have hl2 : (nL m.flutes).length = m.flutes.length := nL_length _
    have hmf := hm.nf
    refine DW.leave 6 ⟨305, [(22, .box 22 0), (20, .box 20 0), (19, .box 19 0), (18, dI (wholeI s m)), (6, .box 6 0), (5, .box 5 0)], [(248, .row 1 []), (230, .row 1 (rowC (rows eI (nL (m.papers.reverse))))), (22, .box [.own 230, .own 248]), (20, .box [dI A0, dI A1, dI A2, dI W, dI AA]), (19, .box [dI 0, dI 0, dI 0, dI 0, dI 0]), (6, .box [.c (.sl false 1 (rows eI (nL m.papers))), .c (.sl false 1 (rows eI (nL m.flutes)))]), (5, .box [.c (.sl false 8 (rows Seat.eP s.papers)), .c (.sl false 4 (rows eF s.flutes))])]⟩ ?_ ?_
    ·refine DW.loop (ι := { i : Nat // i ≤ m.papers.length }) (fun i => ⟨305, [(23, dI ((i.1 : Int) - 1)), (22, .box 22 0), (20, .box 20 0), (19, .box 19 0), (18, dI (wholeI s m)), (6, .box 6 0), (5, .box 5 0)], [(248, .row 1 []), (230, .row 1 (rowC (rows eI (nL ((m.papers.drop i.1).reverse))))), (22, .box [.own 230, .own 248]), (20, .box [dI A0, dI A1, dI A2, dI W, dI AA]), (19, .box [dI 0, dI 0, dI 0, dI 0, dI 0]), (6, .box [.c (.sl false 1 (rows eI (nL m.papers))), .c (.sl false 1 (rows eI (nL m.flutes)))]), (5, .box [.c (.sl false 8 (rows Seat.eP s.papers)), .c (.sl false 4 (rows eF s.flutes))])]⟩) (fun i => i.1) ⟨m.papers.length, Nat.le_refl _⟩ ?_ ?_
     ·refine Ent.to ?_ ?_ <;> simp (disch:=omega) only [qR,qS,qTw,qU,get,Nat.reduceEqDiff,↓reduceIte,qV,qW,qX,qY,qZ,and_self,dI,i64_in,and_true,true_and,rA,rB,rC,rD,List.drop_length,List.reverse_nil]
      all_goals exact .refl _
     rintro ⟨i, hi⟩
     dsimp only
     rcases i with _ | i
     ·have hd : decide ((0 : Int) ≤ ((0 : Nat) : Int) - 1) = false := by decide
      repeat' (first|(with_reducible first|apply qA|apply qB|apply qC|apply qD|apply qE|apply qF)|(refine qL rfl (WF.of ?_) ?_; first|rfl|skip)|(refine DW.ord rfl (WF.of (by first|rfl|simp (disch:=omega) only [go_sem, simprocAttr, qN, qO, qP, qQ, hd])) ?_ ?_ ?_; rotate_left)|rfl|(with_reducible refine And.intro ?_ ?_)|(simp (disch:=omega) only [go_sem, simprocAttr, qN, qO, qP, qQ, hd])|exact qM rfl rfl rfl|(refine qG rfl ?_)|(refine qH rfl ?_)|(refine qI rfl ?_ ?_<;>intro hc<;>(try simp only [go_sem] at hc))|(refine qJ ?_ ?_<;>intro hc<;>(try simp only [hc])<;>(try simp only [go_sem] at hc)))
      refine Ent.to ?_ ?_ <;> simp (disch:=omega) only [qR,qS,qTw,qU,get,Nat.reduceEqDiff,↓reduceIte,qV,qW,qX,qY,qZ,and_self,dI,i64_in,and_true,true_and,rA,rB,rC,rD,List.drop_zero]
     ·have e1 : ((i + 1 : Nat) : Int) - 1 = (i : Int) := by omega
      have hd : decide ((0 : Int) ≤ (i : Int)) = true := by rw [decide_eq_true_eq]; omega
      obtain ⟨v, hv⟩ := getE (l := m.papers) (i := i) (by omega)
      have hv' := nL_at hv
      have hdr := drop_revT hv
      have hln : (nL ((m.papers.drop (i + 1)).reverse)).length ≤ 5 := by rw [nL_length]; simp; omega
      generalize nL ((m.papers.drop (i + 1)).reverse) = cf at *
      rw [e1]
      repeat' (first|(with_reducible first|apply qA|apply qB|apply qC|apply qD|apply qE|apply qF)|(refine qL rfl (WF.of ?_) ?_; first|rfl|skip)|(refine DW.ord rfl (WF.of (by first|rfl|simp (disch:=omega) only [go_sem, simprocAttr, qN, qO, qP, qQ, hd, hv', rF, rG])) ?_ ?_ ?_; rotate_left)|rfl|(with_reducible refine And.intro ?_ ?_)|(simp (disch:=omega) only [go_sem, simprocAttr, qN, qO, qP, qQ, hd, hv', rF, rG])|exact qM rfl rfl rfl|(refine qG rfl ?_)|(refine qH rfl ?_)|(refine qI rfl ?_ ?_<;>intro hc<;>(try simp only [go_sem] at hc))|(refine qJ ?_ ?_<;>intro hc<;>(try simp only [hc])<;>(try simp only [go_sem] at hc)))
      refine ⟨⟨i, by omega⟩, ?_, Ent.to ?_ ?_⟩ <;> first | (show _ < _; (try simp only); omega) | (simp (disch:=omega) only [qR,qS,qTw,qU,get,Nat.reduceEqDiff,↓reduceIte,qV,qW,qX,qY,qZ,and_self,dI,i64_in,and_true,true_and,rA,rB,rC,rD, hdr])
      all_goals exact .refl _
    intro σ' hσ'
    simp (disch:=omega) only [go_sem,simprocAttr,qN,qO,qP,qQ]
    refine DW.ent hσ' ?_
    clear hσ'
    repeat' (first|(with_reducible first|apply qA|apply qB|apply qC|apply qD|apply qE|apply qF)|(refine qL rfl (WF.of ?_) ?_; first|rfl|skip)|(refine DW.ord rfl (WF.of (by first|rfl|simp (disch:=omega) only [go_sem, simprocAttr, qN, qO, qP, qQ, hl2])) ?_ ?_ ?_; rotate_left)|rfl|(with_reducible refine And.intro ?_ ?_)|(simp (disch:=omega) only [go_sem, simprocAttr, qN, qO, qP, qQ, hl2])|exact qM rfl rfl rfl|(refine qG rfl ?_)|(refine qH rfl ?_)|(refine qI rfl ?_ ?_<;>intro hc<;>(try simp only [go_sem] at hc))|(refine qJ ?_ ?_<;>intro hc<;>(try simp only [hc])<;>(try simp only [go_sem] at hc)))
    refine DW.leave 8 ⟨305, [(22, .box 22 0), (20, .box 20 0), (19, .box 19 0), (18, dI (wholeI s m)), (6, .box 6 0), (5, .box 5 0)], [(22, .box [.c (.sl false 1 (rows eI (nL (m.papers.reverse)))), .c (.sl false 1 (rows eI (nL (m.flutes.reverse))))]), (20, .box [dI A0, dI A1, dI A2, dI W, dI AA]), (19, .box [dI 0, dI 0, dI 0, dI 0, dI 0]), (6, .box [.c (.sl false 1 (rows eI (nL m.papers))), .c (.sl false 1 (rows eI (nL m.flutes)))]), (5, .box [.c (.sl false 8 (rows Seat.eP s.papers)), .c (.sl false 4 (rows eF s.flutes))])]⟩ ?_ ?_
    ·refine DW.loop (ι := { i : Nat // i ≤ m.flutes.length }) (fun i => ⟨305, [(24, dI ((i.1 : Int) - 1)), (22, .box 22 0), (20, .box 20 0), (19, .box 19 0), (18, dI (wholeI s m)), (6, .box 6 0), (5, .box 5 0)], [(248, .row 1 (rowC (rows eI (nL ((m.flutes.drop i.1).reverse))))), (230, .row 1 (rowC (rows eI (nL (m.papers.reverse))))), (22, .box [.own 230, .own 248]), (20, .box [dI A0, dI A1, dI A2, dI W, dI AA]), (19, .box [dI 0, dI 0, dI 0, dI 0, dI 0]), (6, .box [.c (.sl false 1 (rows eI (nL m.papers))), .c (.sl false 1 (rows eI (nL m.flutes)))]), (5, .box [.c (.sl false 8 (rows Seat.eP s.papers)), .c (.sl false 4 (rows eF s.flutes))])]⟩) (fun i => i.1) ⟨m.flutes.length, Nat.le_refl _⟩ ?_ ?_
     ·refine Ent.to ?_ ?_ <;> simp (disch:=omega) only [qR,qS,qTw,qU,get,Nat.reduceEqDiff,↓reduceIte,qV,qW,qX,qY,qZ,and_self,dI,i64_in,and_true,true_and,rA,rB,rC,rD,List.drop_length,List.reverse_nil]
      all_goals exact .refl _
     rintro ⟨i, hi⟩
     dsimp only
     rcases i with _ | i
     ·have hd : decide ((0 : Int) ≤ ((0 : Nat) : Int) - 1) = false := by decide
      repeat' (first|(with_reducible first|apply qA|apply qB|apply qC|apply qD|apply qE|apply qF)|(refine qL rfl (WF.of ?_) ?_; first|rfl|skip)|(refine DW.ord rfl (WF.of (by first|rfl|simp (disch:=omega) only [go_sem, simprocAttr, qN, qO, qP, qQ, hd])) ?_ ?_ ?_; rotate_left)|rfl|(with_reducible refine And.intro ?_ ?_)|(simp (disch:=omega) only [go_sem, simprocAttr, qN, qO, qP, qQ, hd])|exact qM rfl rfl rfl|(refine qG rfl ?_)|(refine qH rfl ?_)|(refine qI rfl ?_ ?_<;>intro hc<;>(try simp only [go_sem] at hc))|(refine qJ ?_ ?_<;>intro hc<;>(try simp only [hc])<;>(try simp only [go_sem] at hc)))
      refine (Ent.rel 230 rfl).trans ?_
      simp (disch:=omega) only [go_sem,simprocAttr,qN,qO,qP,qQ]
      refine (Ent.rel 248 rfl).trans ?_
      simp (disch:=omega) only [go_sem,simprocAttr,qN,qO,qP,qQ]
      refine Ent.to ?_ ?_ <;> simp (disch:=omega) only [qR,qS,qTw,qU,get,Nat.reduceEqDiff,↓reduceIte,qV,qW,qX,qY,qZ,and_self,dI,i64_in,and_true,true_and,rA,rB,rC,rD,List.drop_zero]
     ·have e1 : ((i + 1 : Nat) : Int) - 1 = (i : Int) := by omega
      have hd : decide ((0 : Int) ≤ (i : Int)) = true := by rw [decide_eq_true_eq]; omega
      obtain ⟨v, hv⟩ := getE (l := m.flutes) (i := i) (by omega)
      have hv' := nL_at hv
      have hdr := drop_revT hv
      have hln : (nL ((m.flutes.drop (i + 1)).reverse)).length ≤ 2 := by rw [nL_length]; simp; omega
      generalize nL ((m.flutes.drop (i + 1)).reverse) = cf at *
      rw [e1]
      repeat' (first|(with_reducible first|apply qA|apply qB|apply qC|apply qD|apply qE|apply qF)|(refine qL rfl (WF.of ?_) ?_; first|rfl|skip)|(refine DW.ord rfl (WF.of (by first|rfl|simp (disch:=omega) only [go_sem, simprocAttr, qN, qO, qP, qQ, hd, hv', rF, rG])) ?_ ?_ ?_; rotate_left)|rfl|(with_reducible refine And.intro ?_ ?_)|(simp (disch:=omega) only [go_sem, simprocAttr, qN, qO, qP, qQ, hd, hv', rF, rG])|exact qM rfl rfl rfl|(refine qG rfl ?_)|(refine qH rfl ?_)|(refine qI rfl ?_ ?_<;>intro hc<;>(try simp only [go_sem] at hc))|(refine qJ ?_ ?_<;>intro hc<;>(try simp only [hc])<;>(try simp only [go_sem] at hc)))
      refine ⟨⟨i, by omega⟩, ?_, Ent.to ?_ ?_⟩ <;> first | (show _ < _; (try simp only); omega) | (simp (disch:=omega) only [qR,qS,qTw,qU,get,Nat.reduceEqDiff,↓reduceIte,qV,qW,qX,qY,qZ,and_self,dI,i64_in,and_true,true_and,rA,rB,rC,rD, hdr])
      all_goals exact .refl _
    intro σ' hσ'
    simp (disch:=omega) only [go_sem,simprocAttr,qN,qO,qP,qQ]
    refine DW.ent hσ' ?_
    clear hσ'
    repeat' (first|(with_reducible first|apply qA|apply qB|apply qC|apply qD|apply qE|apply qF)|(refine qL rfl (WF.of ?_) ?_; first|rfl|skip)|(refine DW.ord rfl (WF.of (by first|rfl|simp (disch:=omega) only [go_sem, simprocAttr, qN, qO, qP, qQ])) ?_ ?_ ?_; rotate_left)|rfl|(with_reducible refine And.intro ?_ ?_)|(simp (disch:=omega) only [go_sem, simprocAttr, qN, qO, qP, qQ])|exact qM rfl rfl rfl|(refine qG rfl ?_)|(refine qH rfl ?_)|(refine qI rfl ?_ ?_<;>intro hc<;>(try simp only [go_sem] at hc))|(refine qJ ?_ ?_<;>intro hc<;>(try simp only [hc])<;>(try simp only [go_sem] at hc)))
    have hrm := revM_ok hm
    have hrp : nL m.papers.reverse = nL (revM m).papers := rfl
    have hrf : nL m.flutes.reverse = nL (revM m).flutes := rfl
    rw [hrp, hrf]
    clear hrp hrf
    have how := arOwn s (by omega) (by omega)
    have hmd := arMade m (by omega) (by omega)
    have hmd2 := arMade (revM m) (by simp [revM]; omega) (by simp [revM]; omega)
    have u0 := bdUse s m hs hm A0 (by omega)
    have u1 := bdUse s m hs hm A1 (by omega)
    have u2 := bdUse s m hs hm A2 (by omega)
    have u3 := bdUse s m hs hm W (by omega)
    have u4 := bdUse s (revM m) hs hrm AA (by omega)
    have r0 := arRatioL false s m hs hm A0 (useA_b hs hm (by omega))
    have r1 := arRatioL false s m hs hm A1 (useA_b hs hm (by omega))
    have r2 := arRatioL false s m hs hm A2 (useA_b hs hm (by omega))
    have r3 := arRatioL false s m hs hm W (useA_b hs hm (by omega))
    have r4 := arRatioL false s (revM m) hs hrm AA (useA_b hs hrm (by omega))
    have n0 := (sumK_nn s.papers.length (useA_b hs hm (a := A0) (by omega))).1
    have n1 := (sumK_nn s.papers.length (useA_b hs hm (a := A1) (by omega))).1
    have n2 := (sumK_nn s.papers.length (useA_b hs hm (a := A2) (by omega))).1
    have n3 := (sumK_nn s.papers.length (useA_b hs hm (a := W) (by omega))).1
    have n4 := sumK_nn s.papers.length (useA_b hs hrm (a := AA) (by omega))
    have hS8 : (500000000000000000 : Int) * (s.papers.length : Int) ≤ 500000000000000000 * 8 := by omega
    have w0 := useA_all hs hm A0
    have w1 := useA_all hs hm A1
    have w2 := useA_all hs hm A2
    have w3 := useA_all hs hm W
    have w4 := useA_all hs hrm AA
    rw [sumI_rev _ hm] at w4
    rw [wholeI_rev hm] at r4
    generalize sumK (useA s m A0) s.papers.length = S0 at *
    generalize sumK (useA s m A1) s.papers.length = S1 at *
    generalize sumK (useA s m A2) s.papers.length = S2 at *
    generalize sumK (useA s m W) s.papers.length = S3 at *
    generalize sumK (useA s (revM m) AA) s.papers.length = S4 at *
    have hsum : S0 + S1 + S2 + S3 = S4 := by
     rw [w0, w1, w2, w3, w4, ← har, Int.mul_add, Int.mul_add, Int.mul_add]
    clear w0 w1 w2 w3 w4 har
    refine DW.loop (ι := { i : Nat // i ≤ 5 }) (fun i => ⟨305, [(25, dI i.1), (22, .box 22 0), (20, .box 20 0), (19, .box 19 0), (18, dI (wholeI s m)), (6, .box 6 0), (5, .box 5 0)], [(22, .box [.c (.sl false 1 (rows eI (nL (revM m).papers))), .c (.sl false 1 (rows eI (nL (revM m).flutes)))]), (20, .box [dI A0, dI A1, dI A2, dI W, dI AA]), (19, .box (Q5 S0 S1 S2 S3 S4 i.1)), (6, .box [.c (.sl false 1 (rows eI (nL m.papers))), .c (.sl false 1 (rows eI (nL m.flutes)))]), (5, .box [.c (.sl false 8 (rows Seat.eP s.papers)), .c (.sl false 4 (rows eF s.flutes))])]⟩) (fun i => 5 - i.1) ⟨0, by omega⟩ ?_ ?_
    ·refine Ent.to ?_ ?_ <;> simp (disch:=omega) only [qR,qS,qTw,qU,get,Nat.reduceEqDiff,↓reduceIte,qV,qW,qX,qY,qZ,and_self,dI,i64_in,and_true,true_and,rA,rB,rC,rD,Q50]
     all_goals exact .refl _
    rintro ⟨i, hi⟩
    dsimp only
    rcases (by omega : i = 0 ∨ i = 1 ∨ i = 2 ∨ i = 3 ∨ i = 4 ∨ i = 5) with rfl | rfl | rfl | rfl | rfl | rfl
    ·repeat' (first|(with_reducible first|apply qA|apply qB|apply qC|apply qD|apply qE|apply qF)|(refine qL rfl (WF.of ?_) ?_; first|rfl|skip)|(refine DW.ord rfl (WF.of (by first|rfl|simp (disch:=omega) only [go_sem, simprocAttr, qN, qO, qP, qQ, Q50])) ?_ ?_ ?_; rotate_left)|rfl|(with_reducible refine And.intro ?_ ?_)|(simp (disch:=omega) only [go_sem, simprocAttr, qN, qO, qP, qQ, Q50])|exact qM rfl rfl rfl|(refine qG rfl ?_)|(refine qK (how) (by decide) ?_)|(refine qK (hmd) (by decide) ?_)|(refine qK (u0) (by decide) ?_)|(refine qK (r0) (by decide) ?_)|(refine qH rfl ?_)|(refine qI rfl ?_ ?_<;>intro hc<;>(try simp only [go_sem] at hc))|(refine qJ ?_ ?_<;>intro hc<;>(try simp only [hc])<;>(try simp only [go_sem] at hc)))
     refine ⟨⟨1, by omega⟩, ?_, Ent.to ?_ ?_⟩ <;> first | (show _ < _; (try simp only); omega) | (simp (disch:=omega) only [qR,qS,qTw,qU,get,Nat.reduceEqDiff,↓reduceIte,qV,qW,qX,qY,qZ,and_self,dI,i64_in,and_true,true_and,rA,rB,rC,rD, Q50,Q51])
     all_goals exact .refl _
    ·repeat' (first|(with_reducible first|apply qA|apply qB|apply qC|apply qD|apply qE|apply qF)|(refine qL rfl (WF.of ?_) ?_; first|rfl|skip)|(refine DW.ord rfl (WF.of (by first|rfl|simp (disch:=omega) only [go_sem, simprocAttr, qN, qO, qP, qQ, Q51])) ?_ ?_ ?_; rotate_left)|rfl|(with_reducible refine And.intro ?_ ?_)|(simp (disch:=omega) only [go_sem, simprocAttr, qN, qO, qP, qQ, Q51])|exact qM rfl rfl rfl|(refine qG rfl ?_)|(refine qK (how) (by decide) ?_)|(refine qK (hmd) (by decide) ?_)|(refine qK (u1) (by decide) ?_)|(refine qK (r1) (by decide) ?_)|(refine qH rfl ?_)|(refine qI rfl ?_ ?_<;>intro hc<;>(try simp only [go_sem] at hc))|(refine qJ ?_ ?_<;>intro hc<;>(try simp only [hc])<;>(try simp only [go_sem] at hc)))
     refine ⟨⟨2, by omega⟩, ?_, Ent.to ?_ ?_⟩ <;> first | (show _ < _; (try simp only); omega) | (simp (disch:=omega) only [qR,qS,qTw,qU,get,Nat.reduceEqDiff,↓reduceIte,qV,qW,qX,qY,qZ,and_self,dI,i64_in,and_true,true_and,rA,rB,rC,rD, Q51,Q52])
     all_goals exact .refl _
    ·repeat' (first|(with_reducible first|apply qA|apply qB|apply qC|apply qD|apply qE|apply qF)|(refine qL rfl (WF.of ?_) ?_; first|rfl|skip)|(refine DW.ord rfl (WF.of (by first|rfl|simp (disch:=omega) only [go_sem, simprocAttr, qN, qO, qP, qQ, Q52])) ?_ ?_ ?_; rotate_left)|rfl|(with_reducible refine And.intro ?_ ?_)|(simp (disch:=omega) only [go_sem, simprocAttr, qN, qO, qP, qQ, Q52])|exact qM rfl rfl rfl|(refine qG rfl ?_)|(refine qK (how) (by decide) ?_)|(refine qK (hmd) (by decide) ?_)|(refine qK (u2) (by decide) ?_)|(refine qK (r2) (by decide) ?_)|(refine qH rfl ?_)|(refine qI rfl ?_ ?_<;>intro hc<;>(try simp only [go_sem] at hc))|(refine qJ ?_ ?_<;>intro hc<;>(try simp only [hc])<;>(try simp only [go_sem] at hc)))
     refine ⟨⟨3, by omega⟩, ?_, Ent.to ?_ ?_⟩ <;> first | (show _ < _; (try simp only); omega) | (simp (disch:=omega) only [qR,qS,qTw,qU,get,Nat.reduceEqDiff,↓reduceIte,qV,qW,qX,qY,qZ,and_self,dI,i64_in,and_true,true_and,rA,rB,rC,rD, Q52,Q53])
     all_goals exact .refl _
    ·repeat' (first|(with_reducible first|apply qA|apply qB|apply qC|apply qD|apply qE|apply qF)|(refine qL rfl (WF.of ?_) ?_; first|rfl|skip)|(refine DW.ord rfl (WF.of (by first|rfl|simp (disch:=omega) only [go_sem, simprocAttr, qN, qO, qP, qQ, Q53])) ?_ ?_ ?_; rotate_left)|rfl|(with_reducible refine And.intro ?_ ?_)|(simp (disch:=omega) only [go_sem, simprocAttr, qN, qO, qP, qQ, Q53])|exact qM rfl rfl rfl|(refine qG rfl ?_)|(refine qK (how) (by decide) ?_)|(refine qK (hmd) (by decide) ?_)|(refine qK (u3) (by decide) ?_)|(refine qK (r3) (by decide) ?_)|(refine qH rfl ?_)|(refine qI rfl ?_ ?_<;>intro hc<;>(try simp only [go_sem] at hc))|(refine qJ ?_ ?_<;>intro hc<;>(try simp only [hc])<;>(try simp only [go_sem] at hc)))
     refine ⟨⟨4, by omega⟩, ?_, Ent.to ?_ ?_⟩ <;> first | (show _ < _; (try simp only); omega) | (simp (disch:=omega) only [qR,qS,qTw,qU,get,Nat.reduceEqDiff,↓reduceIte,qV,qW,qX,qY,qZ,and_self,dI,i64_in,and_true,true_and,rA,rB,rC,rD, Q53,Q54])
     all_goals exact .refl _
    ·repeat' (first|(with_reducible first|apply qA|apply qB|apply qC|apply qD|apply qE|apply qF)|(refine qL rfl (WF.of ?_) ?_; first|rfl|skip)|(refine DW.ord rfl (WF.of (by first|rfl|simp (disch:=omega) only [go_sem, simprocAttr, qN, qO, qP, qQ, Q54])) ?_ ?_ ?_; rotate_left)|rfl|(with_reducible refine And.intro ?_ ?_)|(simp (disch:=omega) only [go_sem, simprocAttr, qN, qO, qP, qQ, Q54])|exact qM rfl rfl rfl|(refine qG rfl ?_)|(refine qK (how) (by decide) ?_)|(refine qK (hmd) (by decide) ?_)|(refine qK (hmd2) (by decide) ?_)|(refine qK (u4) (by decide) ?_)|(refine qK (r4) (by decide) ?_)|(refine qH rfl ?_)|(refine qI rfl ?_ ?_<;>intro hc<;>(try simp only [go_sem] at hc))|(refine qJ ?_ ?_<;>intro hc<;>(try simp only [hc])<;>(try simp only [go_sem] at hc)))
     refine ⟨⟨5, by omega⟩, ?_, Ent.to ?_ ?_⟩ <;> first | (show _ < _; (try simp only); omega) | (simp (disch:=omega) only [qR,qS,qTw,qU,get,Nat.reduceEqDiff,↓reduceIte,qV,qW,qX,qY,qZ,and_self,dI,i64_in,and_true,true_and,rA,rB,rC,rD, Q54,Q55])
     all_goals exact .refl _
    ·repeat' (first|(with_reducible first|apply qA|apply qB|apply qC|apply qD|apply qE|apply qF)|(refine qL rfl (WF.of ?_) ?_; first|rfl|skip)|(refine DW.ord rfl (WF.of (by first|rfl|simp (disch:=omega) only [go_sem, simprocAttr, qN, qO, qP, qQ, Q55, hsum])) ?_ ?_ ?_; rotate_left)|rfl|(with_reducible refine And.intro ?_ ?_)|(simp (disch:=omega) only [go_sem, simprocAttr, qN, qO, qP, qQ, Q55, hsum])|exact qM rfl rfl rfl|(refine qG rfl ?_)|(refine qK (hbo) (by decide) ?_)|(refine qK (htm) (by decide) ?_)|(refine qH rfl ?_)|(refine qI rfl ?_ ?_<;>intro hc<;>(try simp only [go_sem] at hc))|(refine qJ ?_ ?_<;>intro hc<;>(try simp only [hc])<;>(try simp only [go_sem] at hc)))
end Go.Dw.Seat.Tr
end
section
set_option linter.unusedSimpArgs false
set_option maxRecDepth 100000
namespace Go.Dw.Seat
open Go Go.Dw Go.Proofs Go.IntWalk
def AllLt (b : Nat) (l : List Nat) : Prop := ∀ x ∈ l, x < b
def eN (l : List Nat) : List C := l.map fun n : Nat => .v (.int .u8 (n : Int))
def e1 (n : Nat) : List C := [.v (.int .u8 n)]
theorem trimPaperY (x : War) (hx : x.ok) (s : List Nat) (hs : s.length = 8 ∧ AllLt 256 s) :
  DCall Try.prog 4 [dWar false x, .agg ((eN s).map D.c)] [] (bD true) [] := by
 obtain ⟨h3, h4⟩ := hs
 match s, h3 with
 | [a, b, c, d, e, f, g, h], _ => exact Tr.tpTrimPaper false x hx a b c d e f g h (h4 _ (by simp)) (h4 _ (by simp)) (h4 _ (by simp)) (h4 _ (by simp)) (h4 _ (by simp)) (h4 _ (by simp)) (h4 _ (by simp)) (h4 _ (by simp))
end Go.Dw.Seat
end
section
set_option linter.unusedSimpArgs false
set_option maxRecDepth 100000
namespace Go.Dw.Seat
open Go Go.Dw Go.Proofs Go.ChangeShapes Go.WideShapes Go.ChangeAt Go.RowKit
theorem tOwn : ownKnob Try.prog.godebug = none := by kernel_rfl
theorem tLaid : laidOutB Try.prog = true := by kernel_rfl
theorem u4 : Try.prog.underlying 4 = some .bool := by kernel_rfl
theorem uT5 : Try.prog.underlying 5 = some (.int .u8) := by kernel_rfl
theorem clT5 : Try.prog.cellsOf 5 = 1 := by kernel_rfl
def bV (l : List Nat) : List Value := l.map fun n : Nat => Value.int .u8 (n : Int)
section
variable {H : Type} {enc : TypeId × Value → H} {w : World} {base : Nat} {spare : Nat → Bool} {held : Bool}
theorem wf8 {n : Int} (h : (Lit.int .u8 n).wf = true) : ∃ v : Nat, n = v ∧ v < 256 := by
 have e1 : IntKind.min .u8 = 0 := by decide
 have e2 : IntKind.max .u8 = 255 := by decide
 simp only [Lit.wf, e1, e2, Bool.and_eq_true, decide_eq_true_eq] at h
 exact ⟨n.toNat, by omega, by omega⟩
theorem rep_bytes : ∀ l : List Nat, RepVs w A0 (eN l) (bV l)
 | [] => rfl
 | _ :: l => ⟨_, _, rfl, ⟨rfl, rfl⟩, rep_bytes l⟩
theorem rd_U8 {fuel : Nat} {cs : List Value} {x : DataW H × List MemPlace} (h : DataW.trod enc Try.prog w base spare held fuel 5 cs = some x) : ∃ l : List Nat, (l.length = 1 ∧ AllLt 256 l) ∧ cs = bV l := by
 obtain ⟨n, e, hw⟩ := rd_int uT5 h
 obtain ⟨v, rfl, hv⟩ := wf8 hw
 exact ⟨[v], ⟨rfl, fun x hx => by rw [List.mem_singleton] at hx; rw [hx]; exact hv⟩, e⟩
theorem bV_app (a b : List Nat) : bV (a ++ b) = bV a ++ bV b := by simp [bV]
theorem lt_app {b : Nat} {l l' : List Nat} (h : AllLt b l) (h' : AllLt b l') : AllLt b (l ++ l') := fun x hx => by
 rcases List.mem_append.1 hx with h1 | h1
 ·exact h x h1
 ·exact h' x h1
theorem rd_arrB {fuel : Nat} {cs : List Value} {x : DataW H × List MemPlace} {t e : TypeId} {n k : Nat} (ht : Try.prog.underlying t = some (.array n e)) (he : Try.prog.cellsOf e = k) (hc : Try.prog.cellsOf t = n * k)
  (hrd : ∀ m cs x, DataW.trod enc Try.prog w base spare held m e cs = some x → ∃ l : List Nat, (l.length = k ∧ AllLt 256 l) ∧ cs = bV l) (h : DataW.trod enc Try.prog w base spare held fuel t cs = some x) : ∃ l : List Nat, (l.length = n * k ∧ AllLt 256 l) ∧ cs = bV l := by
 obtain ⟨hl, m, hf⟩ := rd_array ht h
 rw [hc] at hl
 have key : ∀ j, j ≤ n → ∃ l : List Nat, (l.length = j * k ∧ AllLt 256 l) ∧ cs.take (j * k) = bV l := by
  intro j
  induction j with
  | zero => intro _; exact ⟨[], ⟨by simp, fun x hx => by cases hx⟩, by simp [bV]⟩
  | succ j ih =>
   intro hj
   obtain ⟨l, ⟨h1, h2⟩, h3⟩ := ih (by omega)
   obtain ⟨y, hy⟩ := hf j (by omega)
   rw [he] at hy
   obtain ⟨l', ⟨h4, h5⟩, h6⟩ := hrd _ _ _ hy
   refine ⟨l ++ l', ⟨by rw [List.length_append, h1, h4, Nat.succ_mul], lt_app h2 h5⟩, ?_⟩
   rw [Nat.succ_mul, List.take_add, h3, h6, bV_app]
 obtain ⟨l, h1, h2⟩ := key n (Nat.le_refl _)
 rw [List.take_of_length_le (by omega)] at h2
 exact ⟨l, h1, h2⟩
theorem uT142 : Try.prog.underlying 142 = some (.array 6 5) := by kernel_rfl
theorem clT142 : Try.prog.cellsOf 142 = 6 := by kernel_rfl
theorem rd_T142 {fuel : Nat} {cs : List Value} {x : DataW H × List MemPlace} (h : DataW.trod enc Try.prog w base spare held fuel 142 cs = some x) : ∃ l : List Nat, (l.length = 6 ∧ AllLt 256 l) ∧ cs = bV l := rd_arrB (n := 6) (k := 1) uT142 clT5 clT142 (fun _ _ _ h => rd_U8 h) h
theorem uT93 : Try.prog.underlying 93 = some (.array 3 5) := by kernel_rfl
theorem clT93 : Try.prog.cellsOf 93 = 3 := by kernel_rfl
theorem rd_T93 {fuel : Nat} {cs : List Value} {x : DataW H × List MemPlace} (h : DataW.trod enc Try.prog w base spare held fuel 93 cs = some x) : ∃ l : List Nat, (l.length = 3 ∧ AllLt 256 l) ∧ cs = bV l := rd_arrB (n := 3) (k := 1) uT93 clT5 clT93 (fun _ _ _ h => rd_U8 h) h
theorem uT26 : Try.prog.underlying 26 = some (.slice 5) := by kernel_rfl
theorem clT26 : Try.prog.cellsOf 26 = 1 := by kernel_rfl
theorem rd_T26 {fuel : Nat} {cs : List Value} {x : DataW H × List MemPlace} (h : DataW.trod enc Try.prog w base spare held fuel 26 cs = some x) : ∃ (l : List Nat) (v : Value), cs = [v] ∧ RepC w A0 (.sl false 1 (rows e1 l)) v ∧ l.length ≤ maxLen ∧ AllLt 256 l := by
 obtain ⟨l, v, e', hr, hm, _⟩ := rd_slice (f := fun v : {v : Nat // v < 256} => e1 v.1) uT26 clT5 (by decide) (fun _ => rfl) (fun m cs x h => by
  obtain ⟨n, e, hw⟩ := rd_int uT5 h
  obtain ⟨v, rfl, hv⟩ := wf8 hw
  subst e
  exact ⟨⟨v, hv⟩, _, _, rfl, ⟨rfl, rfl⟩, rfl⟩) h
 refine ⟨l.map (·.1), v, e', ?_, by simpa using hm, fun u hu => ?_⟩
 ·have : rows e1 (l.map (·.1)) = rows (fun v : {v : Nat // v < 256} => e1 v.1) l := by simp [rows, Function.comp_def]
  rw [this]; exact hr
 ·obtain ⟨a, _, rfl⟩ := List.mem_map.1 hu
  exact a.2
theorem uT55 : Try.prog.underlying 55 = some (.slice 142) := by kernel_rfl
theorem clT55 : Try.prog.cellsOf 55 = 1 := by kernel_rfl
theorem rd_W6 {fuel : Nat} {cs : List Value} {x : DataW H × List MemPlace} (h : DataW.trod enc Try.prog w base spare held fuel 142 cs = some x) : ∃ v : {v : V6 // v.ok}, RepVs w A0 (e6 v.1) cs := by
 obtain ⟨l, ⟨h1, h2⟩, h3⟩ := rd_T142 h
 subst h3
 match l, h1 with
 | [a, b, c, d, e, f], _ => exact ⟨⟨⟨a, b, c, d, e, f⟩, h2 a (by simp), h2 b (by simp), h2 c (by simp), h2 d (by simp), h2 e (by simp), h2 f (by simp)⟩, _, _, rfl, ⟨rfl, rfl⟩, _, _, rfl, ⟨rfl, rfl⟩, _, _, rfl, ⟨rfl, rfl⟩, _, _, rfl, ⟨rfl, rfl⟩, _, _, rfl, ⟨rfl, rfl⟩, _, _, rfl, ⟨rfl, rfl⟩, rfl⟩
theorem rd_X55 {fuel : Nat} {cs : List Value} {x : DataW H × List MemPlace} (h : DataW.trod enc Try.prog w base spare held fuel 55 cs = some x) : ∃ (l : List V6) (v : Value), cs = [v] ∧ RepC w A0 (.sl false 6 (rows e6 l)) v ∧ l.length ≤ maxLen ∧ ∀ v ∈ l, v.ok := by
 obtain ⟨l, v, e', hr, hm, _⟩ := rd_slice (f := fun v : {v : V6 // v.ok} => e6 v.1) uT55 clT142 (by decide) (fun _ => rfl) (fun m cs x h => rd_W6 h) h
 refine ⟨l.map (·.1), v, e', ?_, by simpa using hm, fun u hu => ?_⟩
 ·have : rows e6 (l.map (·.1)) = rows (fun v : {v : V6 // v.ok} => e6 v.1) l := by simp [rows, Function.comp_def]
  rw [this]; exact hr
 ·obtain ⟨a, _, rfl⟩ := List.mem_map.1 hu
  exact a.2
theorem uT56 : Try.prog.underlying 56 = some (.slice 93) := by kernel_rfl
theorem clT56 : Try.prog.cellsOf 56 = 1 := by kernel_rfl
theorem rd_W3 {fuel : Nat} {cs : List Value} {x : DataW H × List MemPlace} (h : DataW.trod enc Try.prog w base spare held fuel 93 cs = some x) : ∃ v : {v : V3 // v.ok}, RepVs w A0 (e3 v.1) cs := by
 obtain ⟨l, ⟨h1, h2⟩, h3⟩ := rd_T93 h
 subst h3
 match l, h1 with
 | [a, b, c], _ => exact ⟨⟨⟨a, b, c⟩, h2 a (by simp), h2 b (by simp), h2 c (by simp)⟩, _, _, rfl, ⟨rfl, rfl⟩, _, _, rfl, ⟨rfl, rfl⟩, _, _, rfl, ⟨rfl, rfl⟩, rfl⟩
theorem rd_X56 {fuel : Nat} {cs : List Value} {x : DataW H × List MemPlace} (h : DataW.trod enc Try.prog w base spare held fuel 56 cs = some x) : ∃ (l : List V3) (v : Value), cs = [v] ∧ RepC w A0 (.sl false 3 (rows e3 l)) v ∧ l.length ≤ maxLen ∧ ∀ v ∈ l, v.ok := by
 obtain ⟨l, v, e', hr, hm, _⟩ := rd_slice (f := fun v : {v : V3 // v.ok} => e3 v.1) uT56 clT93 (by decide) (fun _ => rfl) (fun m cs x h => rd_W3 h) h
 refine ⟨l.map (·.1), v, e', ?_, by simpa using hm, fun u hu => ?_⟩
 ·have : rows e3 (l.map (·.1)) = rows (fun v : {v : V3 // v.ok} => e3 v.1) l := by simp [rows, Function.comp_def]
  rw [this]; exact hr
 ·obtain ⟨a, _, rfl⟩ := List.mem_map.1 hu
  exact a.2
theorem uT58 : structIs Try.prog 58 [(55, 0), (56, 1), (26, 2)] = true := by kernel_rfl
theorem clT58 : Try.prog.cellsOf 58 = 3 := by kernel_rfl
def cWar (x : War) : List C := [.sl false 6 (rows e6 x.papers), .sl false 3 (rows e3 x.flutes), .sl false 1 (rows eY x.by')]
theorem rd_T58 {fuel : Nat} {cs : List Value} {x : DataW H × List MemPlace} (h : DataW.trod enc Try.prog w base spare held fuel 58 cs = some x) : ∃ s : War, s.ok ∧ RepVs w A0 (cWar s) cs := by
 obtain ⟨hl, m, hf⟩ := rd_struct uT58 h
 rw [clT58] at hl
 obtain ⟨y0, h0⟩ := hf 0 55 0 rfl
 obtain ⟨y1, h1⟩ := hf 1 56 1 rfl
 obtain ⟨y2, h2⟩ := hf 2 26 2 rfl
 rw [clT55] at h0
 rw [clT56] at h1
 rw [clT26] at h2
 obtain ⟨L0, v0, e0, r0, m0, p0⟩ := rd_X55 h0
 obtain ⟨L1, v1, e1, r1, m1, p1⟩ := rd_X56 h1
 obtain ⟨L2, v2, e2, r2, m2, p2⟩ := rd_T26 h2
 match cs, hl with
 | [c0, c1, c2], _ =>
  simp at e0 e1 e2
  subst e0; subst e1; subst e2
  exact ⟨⟨L0, L1, L2⟩, ⟨p0, p1, p2⟩, _, _, rfl, r0, _, _, rfl, r1, _, _, rfl, r2, rfl⟩
theorem uT59 : Try.prog.underlying 59 = some (.array 8 5) := by kernel_rfl
theorem clT59 : Try.prog.cellsOf 59 = 8 := by kernel_rfl
theorem rd_T59 {fuel : Nat} {cs : List Value} {x : DataW H × List MemPlace} (h : DataW.trod enc Try.prog w base spare held fuel 59 cs = some x) : ∃ l : List Nat, (l.length = 8 ∧ AllLt 256 l) ∧ cs = bV l := rd_arrB (n := 8) (k := 1) uT59 clT5 clT59 (fun _ _ _ h => rd_U8 h) h
end
set_option maxHeartbeats 800000 in
theorem topTrimPaperLifted (os : Os) (started : os.Started) (H : Type) (enc : TypeId × Value → H) :
  ReturnsInHanded {} Try.checked os 4 .any (Ytalhglghjfdgkaa.Rows.topTrimPaperSpec.pre6 enc Try.prog Try.f4 Ytalhglghjfdgkaa.Rows.topTrimPaperRow.domain false) (Ytalhglghjfdgkaa.Rows.topTrimPaperSpec.post enc Try.prog Try.f4 false true false false) := by
 refine returnsInHanded_of_change (C := Try.checked) tOwn started (by kernel_rfl) Try.func4
  (ChangeSpec.witness6 (enc := enc) (C := Try.checked) false ⟨#[], #[.agg #[.slice none 0 0, .slice none 0 0, .slice none 0 0], .agg #[.int .u8 0, .int .u8 0, .int .u8 0, .int .u8 0, .int .u8 0, .int .u8 0, .int .u8 0, .int .u8 0]], []⟩ 8 (by kernel_rfl) (by kernel_rfl) (by kernel_rfl) (by kernel_rfl)) ?_
 intro W base args ds gs before hval0 hW _ _
 have hval : ∀ (j : Nat) t v, Try.f4.params[j]? = some t → args[j]? = some v → Value.okWide Try.prog W .any base t v := hval0
 have hW' : DataW.Whole enc Try.prog Try.f4.params.toList [] false W args.toList ds gs before := hW
 obtain ⟨p, q, hA, hV, rfl, hfz, hnd⟩ := hW
 have hA : DataW.TrodAll enc Try.prog W 0 (fun _ => true) true [58, 59] args.toList ds p := hA
 obtain ⟨rfl, rfl⟩ := trodVars_none hV
 obtain ⟨v0, vs0, d0, ds0, p0, q0, hargs, rfl, rfl, h0, r0⟩ := trodAll_cons hA
 obtain ⟨v1, vs1, d1, ds1, p1, q1, rfl, rfl, rfl, h1, r1⟩ := trodAll_cons r0
 obtain ⟨rfl, rfl, rfl⟩ := trodAll_nil r1
 obtain rfl : args = #[v0, v1] := by cases args; simp_all
 obtain ⟨f0, hu0, _⟩ := structIs_spec uT58
 obtain ⟨c0, rfl, _⟩ := okWide_struct hu0 (hval 0 58 v0 rfl rfl)
 obtain ⟨c1, rfl, _⟩ := okWide_array uT59 (hval 1 59 v1 rfl rfl)
 obtain ⟨fu0, h0⟩ := h0
 obtain ⟨fu1, h1⟩ := h1
 obtain ⟨s0, ho0, hr0⟩ := rd_T58 h0
 have hr0 : RepVs W A0 (cWar s0) c0.toList := by simpa [Value.cells] using hr0
 obtain ⟨s1, ho1, e1⟩ := rd_T59 h1
 have hr1 : RepVs W A0 (eN s1) c1.toList := by
  have e : c1.toList = bV s1 := by simpa [Value.cells] using e1
  rw [e]; exact rep_bytes s1
 refine ((trimPaperY s0 ho0 s1 ho1).calls (W := W) (vs := [.agg c0, .agg c1]) (laid0 W) (fun G => ?_)).mono ?_
 ·exact ⟨_, _, rfl, ⟨c0, rfl, RepDs.ofVs hr0⟩, _, _, rfl, ⟨c1, rfl, RepDs.ofVs hr1⟩, rfl⟩
 ·rintro e W' ⟨v, rfl, ⟨G', A', hr⟩, hb⟩
  obtain ⟨rfl, _⟩ := hr
  exact ⟨_, rfl, post_true tLaid (by decide +kernel) hW' hb rfl rfl u4 rfl rfl rfl⟩
theorem topTrimPaperHolds : Ytalhglghjfdgkaa.Rows.topTrimPaperRow.holds Ytalhglghjfdgkaa.Try.pinned (OpenSpec.ofChange Ytalhglghjfdgkaa.Rows.topTrimPaperSpec) :=
 OpenClaim.holds_of_wide 4 Try.f4 rfl rfl rfl rfl rfl rfl rfl ⟨rfl, rfl, rfl, rfl, rfl⟩ rfl rfl rfl rfl rfl (by kernel_rfl) Try.func4 (by kernel_rfl)
  (of_decide_eq_true (by kernel_rfl)) (by unfold Func.isWrapper; first | (rw [if_pos (by decide +kernel)]; kernel_rfl) | (rw [if_neg (by decide +kernel)]; exact ⟨rfl, rfl⟩))
  (fun os started H enc _ => topTrimPaperLifted os started H enc)
end Go.Dw.Seat
namespace Go.Proofs.Ytalhglghjfdgkaa
theorem topTrimPaperSaid : Rows.TopTrimPaperSaid := Go.Dw.Seat.topTrimPaperHolds
end Go.Proofs.Ytalhglghjfdgkaa
end
