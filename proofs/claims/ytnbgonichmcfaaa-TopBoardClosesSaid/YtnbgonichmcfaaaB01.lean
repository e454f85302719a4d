/- Helpers of a proof. -/
import Derived.Test.YtnbgonichmcfaaaB00
set_option linter.unusedVariables false
set_option linter.unusedSimpArgs false
section
set_option linter.unusedSimpArgs false
set_option maxRecDepth 100000
namespace Go.Dw.Seat
open Go Go.Dw Go.Proofs Go.IntWalk
theorem bdForm (m : Mak) (s : Sto) (h : m.ok s) : DCall Try.prog 129 [dMak m] [] (bD true) [] := by
 have hf := h.nf
 have hn := h.np
 have h1 := bdIn true 1 2 [(m.flutes.length : Int)] (by simp) (by simp; omega)
 have h2 := bdKinds m.flutes.length (by omega)
 have hl := kindsL_len m.flutes.length
 have hd : ((m.papers.length : Int) == ((kindsL m.flutes.length).length : Int)) = true := by rw [hl, hn]; simp
 refine DCall.of Try.func129 sf129 hb129 (Nat.le_of_ble_eq_true rfl) (okRes_nil fun _ => rfl) ?_; simp only [s129, idxs, Nat.reduceAdd]
 repeat' (first|(with_reducible first|apply qA|apply qB|apply qC|apply qD|apply qE|apply qF)|(refine qL rfl (WF.of ?_) ?_; first|rfl|skip)|(simp (disch:=omega) only [go_sem, simprocAttr, qN, qO, qP, qQ, hd, nL_length])|exact qM rfl rfl rfl|(refine qG rfl ?_)|(refine qK (h1) (by decide) ?_)|(refine qK (h2) (by decide) ?_)|(refine qH rfl ?_)|(refine qI rfl ?_ ?_<;>intro hc<;>(try simp only [go_sem] at hc))|(refine qJ ?_ ?_<;>intro hc<;>(try simp only [hc])<;>(try simp only [go_sem] at hc)))
theorem nL_at {l : List Nat} {i v : Nat} (h : l[i]? = some v) : (nL l)[i]? = some (v : Int) := by rw [nL_get, h]; rfl
theorem bdMade (s : Sto) (m : Mak) (hs : s.ok) (h : m.ok s) : DCall Try.prog 78 [dSto s, dMak m] [] (dI 0) [] := by
 have hf := h.nf
 have hn := h.np
 have hsp := hs.np
 have hsf := hs.nf
 have h1 := bdCheck s hs
 have h2 := bdForm m s h
 have h3 := bdIn false 0 ((s.papers.length : Int) - 1) (nL m.papers) (by rw [nL_length]; omega) (fun v hv => by
  obtain ⟨n, hn, rfl⟩ := List.mem_map.1 hv
  have := h.papers n hn
  omega)
 have h4 := bdIn false 0 ((s.flutes.length : Int) - 1) (nL m.flutes) (by rw [nL_length]; omega) (fun v hv => by
  obtain ⟨n, hn, rfl⟩ := List.mem_map.1 hv
  have := h.flutes n hn
  omega)
 have h5 := bdKinds m.flutes.length (by omega)
 have hl := kindsL_len m.flutes.length
 have hk := kindsL_get m.flutes.length
 have hkl : (kindsL m.flutes.length).length ≤ 5 := by omega
 refine DCall.of Try.func78 sf78 hb78 (Nat.le_of_ble_eq_true rfl) (okRes_nil fun _ => rfl) ?_; simp only [s78, idxs, Nat.reduceAdd]
 repeat' (first|(with_reducible first|apply qA|apply qB|apply qC|apply qD|apply qE|apply qF)|(refine qL rfl (WF.of ?_) ?_; first|rfl|skip)|(simp (disch:=omega) only [go_sem, simprocAttr, qN, qO, qP, qQ, nL_length])|exact qM rfl rfl rfl|(refine qG rfl ?_)|(refine qK (h1) (by decide) ?_)|(refine qK (h2) (by decide) ?_)|(refine qK (h3) (by decide) ?_)|(refine qK (h4) (by decide) ?_)|(refine qK (h5) (by decide) ?_)|(refine qH rfl ?_)|(refine qI rfl ?_ ?_<;>intro hc<;>(try simp only [go_sem] at hc))|(refine qJ ?_ ?_<;>intro hc<;>(try simp only [hc])<;>(try simp only [go_sem] at hc)))
 refine DW.loop (ι := { i : Nat // i ≤ m.papers.length }) (fun i => ⟨57, [(39, dI i.1), (38, dI (kindsL m.flutes.length).length), (37, .c (.sl false 1 (rows eI (kindsL m.flutes.length)))), (3, .box 3 0), (2, .box 2 0)], [(3, .box [.c (.sl false 1 (rows eI (nL m.papers))), .c (.sl false 1 (rows eI (nL m.flutes)))]), (2, .box [.c (.sl false 8 (rows eP s.papers)), .c (.sl false 4 (rows eF s.flutes))])]⟩) (fun i => m.papers.length - i.1) ⟨0, Nat.zero_le _⟩ ?_ ?_
 ·refine Ent.to ?_ ?_ <;> simp (disch:=omega) only [qR,qS,qTw,qU,get,Nat.reduceEqDiff,↓reduceIte,qV,qW,qX,qY,qZ,and_self,dI,i64_in,and_true,true_and,rA,rB,rC,rD]
 rintro ⟨i, hi⟩
 rcases Nat.lt_or_ge i m.papers.length with hlt | hge
 ·have hd : decide ((i : Int) < ((kindsL m.flutes.length).length : Int)) = true := by rw [decide_eq_true_eq]; omega
  have hki := hk i (by omega)
  obtain ⟨v, hv⟩ := getE (l := m.papers) (i := i) hlt
  have hv' := nL_at hv
  have hvs := h.papers v (List.mem_of_getElem? hv)
  obtain ⟨p, hp⟩ := getE (l := s.papers) (i := v) hvs
  have hpk := h.kind i v p hv hp
  have hl1 : (nL m.papers).length = m.papers.length := nL_length _
  rw [← hpk] at hki
  have hne : (p.kind != p.kind) = false := by simp
  generalize kindsL m.flutes.length = k at *
  repeat' (first|(with_reducible first|apply qA|apply qB|apply qC|apply qD|apply qE|apply qF)|(refine qL rfl (WF.of ?_) ?_; first|rfl|skip)|(simp (disch:=omega) only [go_sem, simprocAttr, qN, qO, qP, qQ, hd, hki, hv', hp, hl1, hne, rF, rG])|exact qM rfl rfl rfl|(refine qG rfl ?_)|(refine qH rfl ?_)|(refine qI rfl ?_ ?_<;>intro hc<;>(try simp only [go_sem] at hc))|(refine qJ ?_ ?_<;>intro hc<;>(try simp only [hc])<;>(try simp only [go_sem] at hc)))
  refine ⟨⟨i + 1, hlt⟩, ?_, Ent.to ?_ ?_⟩ <;> first | (show _ < _; (try simp only); omega) | (simp (disch:=omega) only [qR,qS,qTw,qU,get,Nat.reduceEqDiff,↓reduceIte,qV,qW,qX,qY,qZ,and_self,dI,i64_in,and_true,true_and,rA,rB,rC,rD])
 ·have hd : decide ((i : Int) < ((kindsL m.flutes.length).length : Int)) = false := by rw [decide_eq_false_iff_not]; omega
  repeat' (first|(with_reducible first|apply qA|apply qB|apply qC|apply qD|apply qE|apply qF)|(refine qL rfl (WF.of ?_) ?_; first|rfl|skip)|(simp (disch:=omega) only [go_sem, simprocAttr, qN, qO, qP, qQ, hd])|exact qM rfl rfl rfl|(refine qG rfl ?_)|(refine qH rfl ?_)|(refine qI rfl ?_ ?_<;>intro hc<;>(try simp only [go_sem] at hc))|(refine qJ ?_ ?_<;>intro hc<;>(try simp only [hc])<;>(try simp only [go_sem] at hc)))
def papAt (s : Sto) (n : Nat) : Pap := s.papers[n]?.getD ⟨0, 0, 0, 0, 0, 0, 0, 0⟩
def fluAt (s : Sto) (n : Nat) : Flu := s.flutes[n]?.getD ⟨0, 0, 0, 0⟩
theorem papAt_get {s : Sto} {n : Nat} (h : n < s.papers.length) : s.papers[n]? = some (papAt s n) := by
 rw [papAt, List.getElem?_eq_getElem h]; rfl
theorem fluAt_get {s : Sto} {n : Nat} (h : n < s.flutes.length) : s.flutes[n]? = some (fluAt s n) := by
 rw [fluAt, List.getElem?_eq_getElem h]; rfl
theorem papAt_ok {s : Sto} {n : Nat} (hs : s.ok) (h : n < s.papers.length) : (papAt s n).ok := hs.papers _ (List.mem_of_getElem? (papAt_get h))
theorem fluAt_ok {s : Sto} {n : Nat} (hs : s.ok) (h : n < s.flutes.length) : (fluAt s n).ok := hs.flutes _ (List.mem_of_getElem? (fluAt_get h))
def wholeF (s : Sto) (w : Int) (l : List Nat) : Int := l.foldl (fun w n => w * (fluAt s n).pitch) w
theorem wholeF_take (s : Sto) (w : Int) {l : List Nat} {i v : Nat} (h : l[i]? = some v) : wholeF s w (l.take (i + 1)) = wholeF s w (l.take i) * (fluAt s v).pitch := by
 rw [List.take_add_one, h]
 simp only [wholeF, Option.toList_some, List.foldl_append, List.foldl_cons, List.foldl_nil]
theorem wholeF_b (s : Sto) (hs : s.ok) : ∀ (l : List Nat), (∀ n ∈ l, n < s.flutes.length) → l.length ≤ 2 → 1 ≤ wholeF s 1 l ∧ wholeF s 1 l ≤ 100000000
 | [], _, _ => by simp [wholeF]
 | [a], h, _ => by
  have := (fluAt_ok hs (h a (by simp))).pitch
  simp only [wholeF, List.foldl_cons, List.foldl_nil]
  omega
 | [a, b], h, _ => by
  have h1 := (fluAt_ok hs (h a (by simp))).pitch
  have h2 := (fluAt_ok hs (h b (by simp))).pitch
  simp only [wholeF, List.foldl_cons, List.foldl_nil, Int.one_mul]
  have h3 := mulB0 (a := (fluAt s a).pitch) (b := (fluAt s b).pitch) (A := 10000) (B := 10000) (by omega) (by omega)
  have h4 : 1 * 1 ≤ (fluAt s a).pitch * (fluAt s b).pitch := Int.mul_le_mul (by omega) (by omega) (by decide) (by omega)
  omega
 | a :: b :: c :: l, _, h => by simp at h
abbrev dShe (s : Sto) (m : Mak) (w : Int) : D := .agg [.c (.sl false 1 (rows eI (nL m.papers))), .c (.sl false 1 (rows eI (nL m.flutes))), .c (.sl false 8 (rows eP s.papers)), .c (.sl false 4 (rows eF s.flutes)), dI w]
attribute [go_sem] dShe
def wholeI (s : Sto) (m : Mak) : Int := wholeF s 1 m.flutes
theorem bdSheetOf (s : Sto) (m : Mak) (hs : s.ok) (h : m.ok s) : DCall Try.prog 79 [dSto s, dMak m] [] (dShe s m (wholeI s m)) [] := by
 have hf := h.nf
 have hl1 : (nL m.flutes).length = m.flutes.length := nL_length _
 refine DCall.of Try.func79 sf79 hb79 (Nat.le_of_ble_eq_true rfl) (okRes_nil fun _ => rfl) ?_; simp only [s79, idxs, Nat.reduceAdd]
 repeat' (first|(with_reducible first|apply qA|apply qB|apply qC|apply qD|apply qE|apply qF)|(refine qL rfl (WF.of ?_) ?_; first|rfl|skip)|(simp (disch:=omega) only [go_sem, simprocAttr, qN, qO, qP, qQ, hl1])|exact qM rfl rfl rfl|(refine qG rfl ?_)|(refine qH rfl ?_)|(refine qI rfl ?_ ?_<;>intro hc<;>(try simp only [go_sem] at hc))|(refine qJ ?_ ?_<;>intro hc<;>(try simp only [hc])<;>(try simp only [go_sem] at hc)))
 refine DW.loop (ι := { i : Nat // i ≤ m.flutes.length }) (fun i => ⟨30, [(14, dI i.1), (13, dI m.flutes.length), (12, .c (.sl false 1 (rows eI (nL m.flutes)))), (5, .box 5 0), (4, .box 4 0), (2, .box 2 0)], [(5, .box [.c (.sl false 1 (rows eI (nL m.papers))), .c (.sl false 1 (rows eI (nL m.flutes))), .c (.sl false 8 (rows eP s.papers)), .c (.sl false 4 (rows eF s.flutes)), dI (wholeF s 1 (m.flutes.take i.1))]), (4, .box [.c (.v (.slice none 0 0)), .c (.v (.slice none 0 0)), .c (.v (.slice none 0 0)), .c (.v (.slice none 0 0)), dI 0]), (2, .box [.c (.sl false 8 (rows eP s.papers)), .c (.sl false 4 (rows eF s.flutes))])]⟩) (fun i => m.flutes.length - i.1) ⟨0, Nat.zero_le _⟩ ?_ ?_
 ·refine Ent.to ?_ ?_ <;> simp (disch:=omega) only [qR,qS,qTw,qU,get,Nat.reduceEqDiff,↓reduceIte,qV,qW,qX,qY,qZ,and_self,dI,i64_in,and_true,true_and,rA,rB,rC,rD,List.take_zero,wholeF,List.foldl_nil]
 rintro ⟨i, hi⟩
 rcases Nat.lt_or_ge i m.flutes.length with hlt | hge
 ·have hd : decide ((i : Int) < (m.flutes.length : Int)) = true := by rw [decide_eq_true_eq]; omega
  obtain ⟨v, hv⟩ := getE (l := m.flutes) (i := i) hlt
  have hv' := nL_at hv
  have hvs := h.flutes v (List.mem_of_getElem? hv)
  have hp := fluAt_get hvs
  have hnx := wholeF_take s 1 hv
  have hb := wholeF_b s hs (m.flutes.take (i + 1)) (fun n hn => h.flutes n (List.mem_of_mem_take hn)) (by rw [List.length_take]; omega)
  rw [hnx] at hb
  repeat' (first|(with_reducible first|apply qA|apply qB|apply qC|apply qD|apply qE|apply qF)|(refine qL rfl (WF.of ?_) ?_; first|rfl|skip)|(simp (disch:=omega) only [go_sem, simprocAttr, qN, qO, qP, qQ, hd, hv', hp, rF, rG])|exact qM rfl rfl rfl|(refine qG rfl ?_)|(refine qH rfl ?_)|(refine qI rfl ?_ ?_<;>intro hc<;>(try simp only [go_sem] at hc))|(refine qJ ?_ ?_<;>intro hc<;>(try simp only [hc])<;>(try simp only [go_sem] at hc)))
  refine ⟨⟨i + 1, hlt⟩, ?_, Ent.to ?_ ?_⟩ <;> first | (show _ < _; (try simp only); omega) | (simp (disch:=omega) only [qR,qS,qTw,qU,get,Nat.reduceEqDiff,↓reduceIte,qV,qW,qX,qY,qZ,and_self,dI,i64_in,and_true,true_and,rA,rB,rC,rD, hnx])
  all_goals exact .refl _
 ·obtain rfl : i = m.flutes.length := by omega
  have hd : decide ((m.flutes.length : Int) < (m.flutes.length : Int)) = false := by rw [decide_eq_false_iff_not]; omega
  have hw : wholeI s m = wholeF s 1 (m.flutes.take m.flutes.length) := by rw [List.take_length]; rfl
  rw [hw]
  repeat' (first|(with_reducible first|apply qA|apply qB|apply qC|apply qD|apply qE|apply qF)|(refine qL rfl (WF.of ?_) ?_; first|rfl|skip)|(simp (disch:=omega) only [go_sem, simprocAttr, qN, qO, qP, qQ, hd])|exact qM rfl rfl rfl|(refine qG rfl ?_)|(refine qH rfl ?_)|(refine qI rfl ?_ ?_<;>intro hc<;>(try simp only [go_sem] at hc))|(refine qJ ?_ ?_<;>intro hc<;>(try simp only [hc])<;>(try simp only [go_sem] at hc)))
  refine retS_wk rfl ?_ (by simp only [Blk.nb, rowC_nb, D.nb, D.nbs, C.nb, C.nbs, C.nbss, rows_nb eI_nb, Bool.and_true, Bool.not_false, Bool.and_self, bD, dI, iD, rows_nb eP_nb, rows_nb eF_nb]); exact .refl _
theorem bdNew (s : Sto) (m : Mak) (hs : s.ok) (h : m.ok s) : DCall Try.prog 38 [dSto s, dMak m] [] (.tup [dShe s m (wholeI s m), dI 0]) [] := by
 have h1 := bdMade s m hs h
 have h2 := bdSheetOf s m hs h
 refine DCall.of Try.func38 sf38 hb38 (Nat.le_of_ble_eq_true rfl) (okRes_nil fun _ => rfl) ?_; simp only [s38, idxs, Nat.reduceAdd]
 repeat' (first|(with_reducible first|apply qA|apply qB|apply qC|apply qD|apply qE|apply qF)|(simp (disch:=omega) only [go_sem, simprocAttr, qN, qO, qP, qQ])|exact qM rfl rfl rfl|(refine qG rfl ?_)|(refine qK (h1) (by decide) ?_)|(refine qK (h2) (by decide) ?_)|(refine qH rfl ?_)|(refine qI rfl ?_ ?_<;>intro hc<;>(try simp only [go_sem] at hc))|(refine qJ ?_ ?_<;>intro hc<;>(try simp only [hc])<;>(try simp only [go_sem] at hc)))
 refine retS_wk rfl ?_ (by simp only [Blk.nb, rowC_nb, D.nb, D.nbs, C.nb, C.nbs, C.nbss, rows_nb eI_nb, Bool.and_true, Bool.not_false, Bool.and_self, bD, dI, iD, rows_nb eP_nb, rows_nb eF_nb]); exact .tup (.cons (.refl _) (.cons (.refl _) .nil))
theorem drop_at {α : Type} {l : List α} {i : Nat} {v : α} (h : l[i]? = some v) : l.drop i = v :: l.drop (i + 1) := by
 obtain ⟨hi, rfl⟩ := List.getElem?_eq_some_iff.1 h
 exact List.drop_eq_getElem_cons hi
def partsAt (s : Sto) (m : Mak) (i : Nat) : Int := if i % 2 = 1 then (wholeI s m).tdiv (fluAt s (m.flutes[i / 2]?.getD 0)).pitch * (fluAt s (m.flutes[i / 2]?.getD 0)).draw else wholeI s m
def layersL (s : Sto) (m : Mak) : List (Nat × Int) := m.papers.zipIdx.map fun e => (e.1, partsAt s m e.2)
theorem layersL_get {s : Sto} {m : Mak} {i v : Nat} (h : m.papers[i]? = some v) : (layersL s m)[i]? = some (v, partsAt s m i) := by
 simp [layersL, h]
theorem layersL_len (s : Sto) (m : Mak) : (layersL s m).length = m.papers.length := by simp [layersL]
def enLay (e : Nat × Int) : List D := [dI e.1, dI e.2]
def okLay (s : Sto) (e : Nat × Int) : Prop := e.1 < s.papers.length ∧ 0 ≤ e.2 ∧ e.2 ≤ 200000000
theorem flute_at {s : Sto} {m : Mak} (h : m.ok s) {i : Nat} (hi : i < m.papers.length) (ho : i % 2 = 1) : m.flutes[i / 2]? = some (m.flutes[i / 2]?.getD 0) ∧ (m.flutes[i / 2]?.getD 0) < s.flutes.length := by
 have h1 := h.np
 obtain ⟨v, hv⟩ := getE (l := m.flutes) (i := i / 2) (by omega)
 rw [hv]
 exact ⟨rfl, h.flutes v (List.mem_of_getElem? hv)⟩
theorem wholeI_b {s : Sto} {m : Mak} (hs : s.ok) (h : m.ok s) : 1 ≤ wholeI s m ∧ wholeI s m ≤ 100000000 := wholeF_b s hs m.flutes h.flutes h.nf.2
theorem partsAt_b {s : Sto} {m : Mak} (hs : s.ok) (h : m.ok s) {i : Nat} (hi : i < m.papers.length) : 0 ≤ partsAt s m i ∧ partsAt s m i ≤ 200000000 := by
 have hw := wholeI_b hs h
 unfold partsAt
 split
 ·rename_i ho
  have hf := fluAt_ok hs (flute_at h hi ho).2
  have h1 := hf.pitch
  have h2 := hf.draw
  generalize fluAt s (m.flutes[i / 2]?.getD 0) = f at *
  generalize wholeI s m = w at *
  rw [Int.tdiv_eq_ediv_of_nonneg (by omega)]
  have q0 : 0 ≤ w / f.pitch := Int.ediv_nonneg (by omega) (by omega)
  have q1 : w / f.pitch * f.pitch ≤ w := Int.ediv_mul_le w (by omega)
  have q2 : w / f.pitch * f.draw ≤ w / f.pitch * (2 * f.pitch) := Int.mul_le_mul_of_nonneg_left h2.2 q0
  have q3 : 0 ≤ w / f.pitch * f.draw := Int.mul_nonneg q0 (by omega)
  have q4 : w / f.pitch * (2 * f.pitch) = 2 * (w / f.pitch * f.pitch) := by rw [Int.mul_left_comm]
  omega
 ·omega
attribute [go_sem] enLay
theorem bdLayers (s : Sto) (m : Mak) (hs : s.ok) (h : m.ok s) : ItD Try.prog 72 [dShe s m (wholeI s m)] [] enLay (okLay s) (layersL s m) := by
 intro ly β H stp live hW hY b0 hl0
 have hH : ∀ b, HidOk (H b) := fun b => (hW b).toHidOk
 have hw := wholeI_b hs h
 refine DCall.of Try.func72 sf72 hb72 (Nat.le_of_ble_eq_true rfl) (hH _).res ?_
 simp only [s72, idxs, Nat.reduceAdd, List.map_nil, List.map_cons, List.nil_append, List.cons_append]
 have f1 := hid_get (hH b0)
 have f2 := hid_ins (hH b0)
 have f3 := (hH b0).men
 have f4 := (hH b0).lo
 have f5 : ∀ k x, k < 1000 → ins k x (H b0) = H b0 ++ [(k, x)] := fun k x hk => by have := f2 k hk x []; rwa [List.append_nil] at this
 have hl1 : (nL m.papers).length = m.papers.length := nL_length _
 have hn5 : m.papers.length ≤ 5 := by have := h.np; have := h.nf; omega
 repeat' (first|(with_reducible first|apply qA|apply qB|apply qC|apply qD|apply qE|apply qF)|(refine qL rfl (WF.of ?_) ?_; first|rfl|skip)|(simp (disch:=omega) only [go_sem, simprocAttr, qN, qO, qP, qQ, f1, f2, f3, f4, f5, ins, hl1])|exact qM rfl rfl rfl|(refine qG rfl ?_)|(refine qH rfl ?_)|(refine qI rfl ?_ ?_<;>intro hc<;>(try simp only [go_sem] at hc))|(refine qJ ?_ ?_<;>intro hc<;>(try simp only [hc])<;>(try simp only [go_sem] at hc)))
 refine DW.ent (Ent.comm (hH b0) rfl).1 ?_
 refine DW.loop (ι := { y : Nat × β // y.1 ≤ m.papers.length ∧ live y.2 ∧ runB stp b0 (layersL s m) = runB stp y.2 ((layersL s m).drop y.1) })
  (fun y => ⟨47, [(12, dI y.1.1), (11, dI m.papers.length), (10, .c (.sl false 1 (rows eI (nL m.papers)))), (2, .box 2 0), (1, .c (.fn (.yield ly) [] []))], [(2, .box [.c (.sl false 1 (rows eI (nL m.papers))), .c (.sl false 1 (rows eI (nL m.flutes))), .c (.sl false 8 (rows eP s.papers)), .c (.sl false 4 (rows eF s.flutes)), dI (wholeI s m)])] ++ H y.1.2⟩) (fun y => m.papers.length - y.1.1) ⟨(0, b0), Nat.zero_le _, hl0, rfl⟩ ?_ ?_
 ·refine Ent.toH (o := [_]) (o' := [_]) (hH _) ?_ ?_ ?_
  ·rfl
  ·simp (disch:=omega) only [qR,qS,qTw,qU,get,Nat.reduceEqDiff,↓reduceIte,qV,qW,qX,qY,qZ,and_self,dI,i64_in,and_true,true_and,rA,rB,rC,rD]
  ·simp (disch:=omega) only [qR,qS,qTw,qU,get,Nat.reduceEqDiff,↓reduceIte,qV,qW,qX,qY,qZ,and_self,dI,i64_in,and_true,true_and,rA,rB,rC,rD]
 clear f1 f2 f3 f4 f5
 rintro ⟨⟨i, b⟩, hi, hlv, hrun⟩
 dsimp only at hi hlv hrun ⊢
 have g3 := (hH b).men
 have g4 := (hH b).lo
 have g5 := (hW b).app1
 have g6 := (hW b).app2
 rcases Nat.lt_or_ge i m.papers.length with hlt | hge
 ·have hd : decide ((i : Int) < (m.papers.length : Int)) = true := by rw [decide_eq_true_eq]; omega
  obtain ⟨v, hv⟩ := getE (l := m.papers) (i := i) hlt
  have hv' := nL_at hv
  have hvs := h.papers v (List.mem_of_getElem? hv)
  have hpb := partsAt_b hs h hlt
  rw [drop_at (layersL_get hv)] at hrun
  obtain ⟨hyc, hlv4⟩ := hY b (v, partsAt s m i) hlv ⟨hvs, hpb⟩
  simp only [runB] at hrun
  have hrem : (i : Int).tmod 2 = ((i % 2 : Nat) : Int) := by rw [Int.tmod_eq_emod_of_nonneg (by omega)]; omega
  have hquo : (i : Int).tdiv 2 = ((i / 2 : Nat) : Int) := by rw [Int.tdiv_eq_ediv_of_nonneg (by omega)]; omega
  rcases (by omega : i % 2 = 0 ∨ i % 2 = 1) with ho | ho
  ·have hpe : partsAt s m i = wholeI s m := by rw [partsAt, if_neg (by omega)]
   rw [hpe] at hyc hrun hlv4
   rw [ho] at hrem
   repeat' (first|(with_reducible first|apply qA|apply qB|apply qC|apply qD|apply qE|apply qF)|(refine qL rfl (WF.of ?_) ?_; first|rfl|skip)|(simp (disch:=omega) only [go_sem, simprocAttr, qN, qO, qP, qQ, hd, hv', hrem, g3, g4])|exact qM rfl rfl rfl|(refine qG rfl ?_)|(refine qH rfl ?_)|(refine qI rfl ?_ ?_<;>intro hc<;>(try simp only [go_sem] at hc))|(refine qJ ?_ ?_<;>intro hc<;>(try simp only [hc])<;>(try simp only [go_sem] at hc)))
   refine call_y (own := [_]) hyc rfl rfl rfl (hH _) (hH _) (by decide) ?_
   cases hs : (stp b (v, wholeI s m)).1 with
   | true =>
    rw [hs] at hrun hlv4
    simp (disch:=omega) only [go_sem,simprocAttr,qN,qO,qP,qQ]
    repeat' (first|(with_reducible first|apply qA|apply qB|apply qC|apply qD|apply qE|apply qF)|(refine qL rfl (WF.of ?_) ?_; first|rfl|skip)|(simp (disch:=omega) only [go_sem, simprocAttr, qN, qO, qP, qQ])|exact qM rfl rfl rfl|(refine qG rfl ?_)|(refine qH rfl ?_)|(refine qI rfl ?_ ?_<;>intro hc<;>(try simp only [go_sem] at hc))|(refine qJ ?_ ?_<;>intro hc<;>(try simp only [hc])<;>(try simp only [go_sem] at hc)))
    refine ⟨⟨(i + 1, (stp b (v, wholeI s m)).2), hlt, hlv4 rfl, hrun⟩, by (show _ < _; (try simp only); omega), Ent.toH (o := [_]) (o' := [_]) (hH _) ?_ ?_ ?_⟩
    ·rfl
    ·simp (disch:=omega) only [qR,qS,qTw,qU,get,Nat.reduceEqDiff,↓reduceIte,qV,qW,qX,qY,qZ,and_self,dI,i64_in,and_true,true_and,rA,rB,rC,rD]
    ·simp (disch:=omega) only [qR,qS,qTw,qU,get,Nat.reduceEqDiff,↓reduceIte,qV,qW,qX,qY,qZ,and_self,dI,i64_in,and_true,true_and,rA,rB,rC,rD]
   | false =>
    rw [hs] at hrun
    simp (disch:=omega) only [go_sem,simprocAttr,qN,qO,qP,qQ]
    repeat' (first|(with_reducible first|apply qA|apply qB|apply qC|apply qD|apply qE|apply qF)|(refine qL rfl (WF.of ?_) ?_; first|rfl|skip)|(simp (disch:=omega) only [go_sem, simprocAttr, qN, qO, qP, qQ])|exact qM rfl rfl rfl|(refine qG rfl ?_)|(refine qH rfl ?_)|(refine qI rfl ?_ ?_<;>intro hc<;>(try simp only [go_sem] at hc))|(refine qJ ?_ ?_<;>intro hc<;>(try simp only [hc])<;>(try simp only [go_sem] at hc)))
    rw [hrun]
    exact retS_hid (own := [_]) (.inl rfl) (hH _) rfl
  ·obtain ⟨hfv, hfs⟩ := flute_at h hlt ho
   have hpe : partsAt s m i = (wholeI s m).tdiv (fluAt s (m.flutes[i / 2]?.getD 0)).pitch * (fluAt s (m.flutes[i / 2]?.getD 0)).draw := by rw [partsAt, if_pos ho]
   rw [hpe] at hyc hrun hlv4 hpb
   rw [ho] at hrem
   generalize m.flutes[i / 2]?.getD 0 = z at *
   have hzv := nL_at hfv
   have hzf := fluAt_get hfs
   have hfo := fluAt_ok hs hfs
   have h1 := hfo.pitch
   have h2 := hfo.draw
   generalize fluAt s z = f at *
   have h0 : (f.pitch = 0) = False := eq_false (by omega)
   have hq : 0 ≤ (wholeI s m).tdiv f.pitch ∧ (wholeI s m).tdiv f.pitch ≤ 100000000 := by
    rw [Int.tdiv_eq_ediv_of_nonneg (by omega)]
    exact ⟨Int.ediv_nonneg (by omega) (by omega), Int.le_trans (Int.ediv_le_self _ (by omega)) hw.2⟩
   have hl2 : (nL m.flutes).length = m.flutes.length := nL_length _
   repeat' (first|(with_reducible first|apply qA|apply qB|apply qC|apply qD|apply qE|apply qF)|(refine qL rfl (WF.of ?_) ?_; first|rfl|skip)|(simp (disch:=omega) only [go_sem, simprocAttr, qN, qO, qP, qQ, hd, hv', hrem, hquo, hzv, hzf, h0, g3, g4, g5, g6, hl2, rF, rG])|exact qM rfl rfl rfl|(refine qG rfl ?_)|(refine qH rfl ?_)|(refine qI rfl ?_ ?_<;>intro hc<;>(try simp only [go_sem] at hc))|(refine qJ ?_ ?_<;>intro hc<;>(try simp only [hc])<;>(try simp only [go_sem] at hc)))
   refine call_y (own := [_, _]) hyc rfl rfl rfl (hH _) (hH _) (by decide) ?_
   cases hs : (stp b (v, (wholeI s m).tdiv f.pitch * f.draw)).1 with
   | true =>
    rw [hs] at hrun hlv4
    simp (disch:=omega) only [go_sem,simprocAttr,qN,qO,qP,qQ]
    repeat' (first|(with_reducible first|apply qA|apply qB|apply qC|apply qD|apply qE|apply qF)|(refine qL rfl (WF.of ?_) ?_; first|rfl|skip)|(simp (disch:=omega) only [go_sem, simprocAttr, qN, qO, qP, qQ])|exact qM rfl rfl rfl|(refine qG rfl ?_)|(refine qH rfl ?_)|(refine qI rfl ?_ ?_<;>intro hc<;>(try simp only [go_sem] at hc))|(refine qJ ?_ ?_<;>intro hc<;>(try simp only [hc])<;>(try simp only [go_sem] at hc)))
    refine ⟨⟨(i + 1, (stp b (v, (wholeI s m).tdiv f.pitch * f.draw)).2), hlt, hlv4 rfl, hrun⟩, by (show _ < _; (try simp only); omega), Ent.toH (o := [_, _]) (o' := [_]) (hH _) ?_ ?_ ?_⟩
    ·rfl
    ·simp (disch:=omega) only [qR,qS,qTw,qU,get,Nat.reduceEqDiff,↓reduceIte,qV,qW,qX,qY,qZ,and_self,dI,i64_in,and_true,true_and,rA,rB,rC,rD]
    ·simp (disch:=omega) only [qR,qS,qTw,qU,get,Nat.reduceEqDiff,↓reduceIte,qV,qW,qX,qY,qZ,and_self,dI,i64_in,and_true,true_and,rA,rB,rC,rD]
   | false =>
    rw [hs] at hrun
    simp (disch:=omega) only [go_sem,simprocAttr,qN,qO,qP,qQ]
    repeat' (first|(with_reducible first|apply qA|apply qB|apply qC|apply qD|apply qE|apply qF)|(refine qL rfl (WF.of ?_) ?_; first|rfl|skip)|(simp (disch:=omega) only [go_sem, simprocAttr, qN, qO, qP, qQ])|exact qM rfl rfl rfl|(refine qG rfl ?_)|(refine qH rfl ?_)|(refine qI rfl ?_ ?_<;>intro hc<;>(try simp only [go_sem] at hc))|(refine qJ ?_ ?_<;>intro hc<;>(try simp only [hc])<;>(try simp only [go_sem] at hc)))
    rw [hrun]
    exact retS_hid (own := [_, _]) (.inl rfl) (hH _) rfl
 ·obtain rfl : i = m.papers.length := by omega
  have hd : decide ((m.papers.length : Int) < (m.papers.length : Int)) = false := by rw [decide_eq_false_iff_not]; omega
  rw [List.drop_of_length_le (by rw [layersL_len]; omega)] at hrun
  simp only [runB] at hrun
  repeat' (first|(with_reducible first|apply qA|apply qB|apply qC|apply qD|apply qE|apply qF)|(refine qL rfl (WF.of ?_) ?_; first|rfl|skip)|(simp (disch:=omega) only [go_sem, simprocAttr, qN, qO, qP, qQ, hd])|exact qM rfl rfl rfl|(refine qG rfl ?_)|(refine qH rfl ?_)|(refine qI rfl ?_ ?_<;>intro hc<;>(try simp only [go_sem] at hc))|(refine qJ ?_ ?_<;>intro hc<;>(try simp only [hc])<;>(try simp only [go_sem] at hc)))
  rw [hrun]
  exact retS_hid (own := [_]) (.inr rfl) (hH _) rfl
end Go.Dw.Seat
end
section
set_option linter.unusedSimpArgs false
set_option maxRecDepth 100000
namespace Go.Dw.Seat
open Go Go.Dw Go.Proofs Go.IntWalk
def sumS (f : Pap → Int) (s : Sto) (n : Int) (e : Nat × Int) : Option Exit × Int := (none, IntKind.i64.wrap (n + f (papAt s e.1) * e.2))
def sumF (f : Pap → Int) (s : Sto) (n : Int) (l : List (Nat × Int)) : Int := l.foldl (fun n e => n + f (papAt s e.1) * e.2) n
def sumI (f : Pap → Int) (s : Sto) (m : Mak) : Int := sumF f s 0 (layersL s m)
theorem sumS_run (f : Pap → Int) (s : Sto) (hf : ∀ p ∈ s.papers, 0 ≤ f p ∧ f p ≤ 1000000000) : ∀ (l : List (Nat × Int)) (n : Int), (∀ e ∈ l, okLay s e) → 0 ≤ n → n + 200000000000000000 * (l.length : Int) ≤ 9000000000000000000 →
  runIt (sumS f s) n l = (none, sumF f s n l) ∧ n ≤ sumF f s n l ∧ sumF f s n l ≤ n + 200000000000000000 * (l.length : Int)
 | [], n, _, _, _ => ⟨rfl, Int.le_refl _, by simp [sumF]⟩
 | e :: l, n, ho, h0, hn => by
  have he := ho e (by simp)
  have hfe := hf _ (List.mem_of_getElem? (papAt_get he.1))
  have hm := mulB0 (a := f (papAt s e.1)) (b := e.2) (A := 1000000000) (B := 200000000) hfe he.2
  rw [List.length_cons, Int.natCast_add, Int.natCast_one, Int.mul_add] at hn
  have hw : IntKind.i64.wrap (n + f (papAt s e.1) * e.2) = n + f (papAt s e.1) * e.2 := i64_in _ (by omega)
  have ih := sumS_run f s hf l (n + f (papAt s e.1) * e.2) (fun x hx => ho x (by simp [hx])) (by omega) (by omega)
  have hs : sumF f s n (e :: l) = sumF f s (n + f (papAt s e.1) * e.2) l := rfl
  rw [hs]
  simp only [runIt, sumS, hw]
  refine ⟨ih.1, by omega, ?_⟩
  rw [List.length_cons, Int.natCast_add, Int.natCast_one, Int.mul_add]
  omega
theorem layers_ok {s : Sto} {m : Mak} (hs : s.ok) (h : m.ok s) : ∀ e ∈ layersL s m, okLay s e := by
 intro e he
 obtain ⟨i, hi⟩ := List.getElem?_of_mem he
 have hlt : i < m.papers.length := by
  rcases Nat.lt_or_ge i m.papers.length with h | h
  ·exact h
  ·rw [List.getElem?_eq_none (by rw [layersL_len]; exact h)] at hi; cases hi
 obtain ⟨v, hv⟩ := getE (l := m.papers) (i := i) hlt
 rw [layersL_get hv] at hi
 cases hi
 exact ⟨h.papers v (List.mem_of_getElem? hv), partsAt_b hs h hlt⟩
theorem sumI_b {s : Sto} {m : Mak} (hs : s.ok) (h : m.ok s) (f : Pap → Int) (hf : ∀ p ∈ s.papers, 0 ≤ f p ∧ f p ≤ 1000000000) : runIt (sumS f s) 0 (layersL s m) = (none, sumI f s m) ∧ 0 ≤ sumI f s m ∧ sumI f s m ≤ 1000000000000000000 := by
 have hn : (layersL s m).length ≤ 5 := by rw [layersL_len]; have := h.np; have := h.nf; omega
 have := sumS_run f s hf (layersL s m) 0 (layers_ok hs h) (Int.le_refl _) (by omega)
 exact ⟨this.1, this.2.1, by have := this.2.2; unfold sumI; omega⟩
theorem closeDs_mapc {σ : St} {mv : Option Nat} {caps : List C} : closeDs σ mv (caps.map D.c) = some (caps.map D.c) := by
 have := @closeDs_fn _ σ mv [] caps []
 simpa [closeDs] using this
theorem bdSum (s : Sto) (m : Mak) (hs : s.ok) (h : m.ok s) (g : FuncId) (caps : List C) (hcn : C.nbs caps = true) (f : Pap → Int) (hf : ∀ p ∈ s.papers, 0 ≤ f p ∧ f p ≤ 1000000000)
  (hp : ∀ p ∈ s.papers, DCall Try.prog g (.agg ((eP p).map D.c) :: caps.map D.c) [] (dI (f p)) []) : DCall Try.prog 122 [dShe s m (wholeI s m), .c (.fn (.func g) [] caps)] [] (dI (sumI f s m)) [] := by
 have hit := bdLayers s m hs h
 have hsum := sumI_b hs h f hf
 have hnp := hs.np
 refine DCall.of Try.func122 sf122 hb122 (Nat.le_of_ble_eq_true rfl) (okRes_nil fun _ => rfl) ?_; simp only [s122, idxs, Nat.reduceAdd]
 repeat' (first|(with_reducible first|apply qA|apply qB|apply qC|apply qD|apply qE|apply qF)|(refine qL rfl (WF.of ?_) ?_; first|rfl|skip)|(simp (disch:=omega) only [go_sem, simprocAttr, Blk.men, Blk.keysIn])|exact qM rfl rfl rfl|(refine qG rfl ?_)|(refine qH rfl ?_)|(refine qI rfl ?_ ?_<;>intro hc<;>(try simp only [go_sem] at hc))|(refine qJ ?_ ?_<;>intro hc<;>(try simp only [hc])<;>(try simp only [go_sem] at hc)))
 refine DW.ent (σ' := ⟨24, [(8, .fn (.func 72) [dShe s m (wholeI s m)] []), (4, .box 4 0), (3, .box 3 0), (2, .box 2 0)], [(4, .box [dI 0]), (3, .box [.c (.fn (.func g) [] caps)]), (2, .box [.c (.sl false 1 (rows eI (nL m.papers))), .c (.sl false 1 (rows eI (nL m.flutes))), .c (.sl false 8 (rows eP s.papers)), .c (.sl false 4 (rows eF s.flutes)), dI (wholeI s m)])]⟩) (Ent.to ?_ ?_) ?_
 ·simp (disch:=omega) only [qR,qS,qTw,qU,get,Nat.reduceEqDiff,↓reduceIte,qV,qW,qX,qY,qZ,and_self,dI,i64_in,and_true,true_and,rA,rB,rC,rD]
 ·simp (disch:=omega) only [qR,qS,qTw,qU,get,Nat.reduceEqDiff,↓reduceIte,qV,qW,qX,qY,qZ,and_self,dI,i64_in,and_true,true_and,rA,rB,rC,rD]
 refine DW.rngBD (fun n : Int => [(4, .box [dI n]), (3, .box [.c (.fn (.func g) [] caps)]), (2, .box [.c (.sl false 1 (rows eI (nL m.papers))), .c (.sl false 1 (rows eI (nL m.flutes))), .c (.sl false 8 (rows eP s.papers)), .c (.sl false 4 (rows eF s.flutes)), dI (wholeI s m)])]) 0 (sumS f s) enLay (okLay s) (layersL s m) hit (fun _ => True) trivial (fun _ _ _ _ _ => trivial) rfl (fun _ => ⟨rfl, rfl⟩) rfl (by decide) (fun _ _ => rfl) (fun _ _ _ => rfl) (by simp only [List.map_cons, List.map_nil]; decide) (fun _ => rfl) (fun _ => rfl) (fun _ => (by simp only [List.all_cons, List.all_nil, Blk.nb, rowC_nb, D.nb, D.nbs, C.nb, C.nbs, C.nbss, rows_nb eI_nb, Bool.and_true, Bool.not_false, Bool.and_self, bD, dI, iD, rows_nb eP_nb, rows_nb eF_nb, hcn])) (by simp only [List.all_cons, List.all_nil, Blk.nb, rowC_nb, D.nb, D.nbs, C.nb, C.nbs, C.nbss, rows_nb eI_nb, Bool.and_true, Bool.not_false, Bool.and_self, bD, dI, iD, rows_nb eP_nb, rows_nb eF_nb]) (fun _ _ => rfl) ?_ ?_
 ·rintro n - ⟨k, parts⟩ he v
  have hk : k < s.papers.length := he.1
  have hpb : 0 ≤ parts ∧ parts ≤ 200000000 := he.2
  have hpk := papAt_get hk
  have hcall := hp _ (List.mem_of_getElem? hpk)
  have hfe := hf _ (List.mem_of_getElem? hpk)
  have hm := mulB0 (a := f (papAt s k)) (b := parts) (A := 1000000000) (B := 200000000) hfe hpb
  have hS : sumS f s n (k, parts) = (none, IntKind.i64.wrap (n + f (papAt s k) * parts)) := rfl
  rw [hS]
  generalize papAt s k = p at *
  simp (disch:=omega) only [go_sem,simprocAttr,Blk.men,Blk.keysIn]
  repeat' (first|(with_reducible first|apply qA|apply qB|apply qC|apply qD|apply qE|apply qF)|(refine qL rfl (WF.of ?_) ?_; first|rfl|skip)|(simp (disch:=omega) only [go_sem, simprocAttr, Blk.men, Blk.keysIn, hpk, closeDs_mapc, rF, rG])|exact qM rfl rfl rfl|(refine qG rfl ?_)|(refine qH rfl ?_)|(refine qI rfl ?_ ?_<;>intro hc<;>(try simp only [go_sem] at hc))|(refine qJ ?_ ?_<;>intro hc<;>(try simp only [hc])<;>(try simp only [go_sem] at hc)))
  refine call_c hcall (by decide) ?_
  simp (disch:=omega) only [go_sem,simprocAttr,Blk.men,Blk.keysIn]
  repeat' (first|(with_reducible first|apply qA|apply qB|apply qC|apply qD|apply qE|apply qF)|(refine qL rfl (WF.of ?_) ?_; first|rfl|skip)|(simp (disch:=omega) only [go_sem, simprocAttr, Blk.men, Blk.keysIn])|exact qM rfl rfl rfl|(refine qG rfl ?_)|(refine qH rfl ?_)|(refine qI rfl ?_ ?_<;>intro hc<;>(try simp only [go_sem] at hc))|(refine qJ ?_ ?_<;>intro hc<;>(try simp only [hc])<;>(try simp only [go_sem] at hc)))
  refine round_end rfl rfl (Ent.to ?_ ?_) <;> simp (disch:=omega) only [qR,qS,qTw,qU,get,Nat.reduceEqDiff,↓reduceIte,qV,qW,qX,qY,qZ,and_self,dI,i64_in,and_true,true_and,rA,rB,rC,rD,capB,List.cons_append,List.nil_append]
 ·rw [hsum.1]
  simp (disch:=omega) only [go_sem,simprocAttr,Blk.men,Blk.keysIn,Option.getD_none]
  repeat' (first|(with_reducible first|apply qA|apply qB|apply qC|apply qD|apply qE|apply qF)|(refine qL rfl (WF.of ?_) ?_; first|rfl|skip)|(simp (disch:=omega) only [go_sem, simprocAttr, Blk.men, Blk.keysIn])|exact qM rfl rfl rfl|(refine qG rfl ?_)|(refine qH rfl ?_)|(refine qI rfl ?_ ?_<;>intro hc<;>(try simp only [go_sem] at hc))|(refine qJ ?_ ?_<;>intro hc<;>(try simp only [hc])<;>(try simp only [go_sem] at hc)))
theorem bdStrong (p : Pap) : DCall Try.prog 132 [.agg ((eP p).map D.c)] [] (dI p.strong) [] := by
 refine DCall.of Try.func132 sf132 hb132 (Nat.le_of_ble_eq_true rfl) (okRes_nil fun _ => rfl) ?_; simp only [s132, idxs, Nat.reduceAdd]
 repeat' (first|(with_reducible first|apply qA|apply qB|apply qC|apply qD|apply qE|apply qF)|(simp (disch:=omega) only [go_sem, simprocAttr, Blk.men, Blk.keysIn, rF, rG])|exact qM rfl rfl rfl|(refine qG rfl ?_)|(refine qH rfl ?_)|(refine qI rfl ?_ ?_<;>intro hc<;>(try simp only [go_sem] at hc))|(refine qJ ?_ ?_<;>intro hc<;>(try simp only [hc])<;>(try simp only [go_sem] at hc)))
theorem bdLow (lo hi : Int) : DCall Try.prog 80 [.agg [dI lo, dI hi]] [] (dI lo) [] := by
 refine DCall.of Try.func80 sf80 hb80 (Nat.le_of_ble_eq_true rfl) (okRes_nil fun _ => rfl) ?_; simp only [s80, idxs, Nat.reduceAdd]
 repeat' (first|(with_reducible first|apply qA|apply qB|apply qC|apply qD|apply qE|apply qF)|(simp (disch:=omega) only [go_sem, simprocAttr, Blk.men, Blk.keysIn])|exact qM rfl rfl rfl|(refine qG rfl ?_)|(refine qH rfl ?_)|(refine qI rfl ?_ ?_<;>intro hc<;>(try simp only [go_sem] at hc))|(refine qJ ?_ ?_<;>intro hc<;>(try simp only [hc])<;>(try simp only [go_sem] at hc)))
theorem bdHigh (lo hi : Int) : DCall Try.prog 81 [.agg [dI lo, dI hi]] [] (dI hi) [] := by
 refine DCall.of Try.func81 sf81 hb81 (Nat.le_of_ble_eq_true rfl) (okRes_nil fun _ => rfl) ?_; simp only [s81, idxs, Nat.reduceAdd]
 repeat' (first|(with_reducible first|apply qA|apply qB|apply qC|apply qD|apply qE|apply qF)|(simp (disch:=omega) only [go_sem, simprocAttr, Blk.men, Blk.keysIn])|exact qM rfl rfl rfl|(refine qG rfl ?_)|(refine qH rfl ?_)|(refine qI rfl ?_ ?_<;>intro hc<;>(try simp only [go_sem] at hc))|(refine qJ ?_ ?_<;>intro hc<;>(try simp only [hc])<;>(try simp only [go_sem] at hc)))
structure EndOk (g : FuncId) (ef : Int → Int → Int) : Prop where
 call : ∀ lo hi, DCall Try.prog g [.agg [dI lo, dI hi]] [] (dI (ef lo hi)) []
 mem : ∀ lo hi, lo ≤ hi → lo ≤ ef lo hi ∧ ef lo hi ≤ hi
def moistF (ef : Int → Int → Int) (p : Pap) : Int := p.weight * (1000 + ef p.ml p.mh)
theorem moistF_b {g : FuncId} {ef : Int → Int → Int} (he : EndOk g ef) {p : Pap} (hp : p.ok) : 0 ≤ moistF ef p ∧ moistF ef p ≤ 1000000000 := by
 have h1 := hp.weight
 have h2 := hp.moist
 have h3 := he.mem p.ml p.mh h2.2.1
 have := mulB0 (a := p.weight) (b := 1000 + ef p.ml p.mh) (A := 1000) (B := 1200) (by omega) (by omega)
 unfold moistF
 omega
theorem bdMoist1 (b : Bool) {g : FuncId} {ef : Int → Int → Int} (he : EndOk g ef) (p : Pap) (hp : p.ok) : DCall Try.prog 131 [.agg ((eP p).map D.c), .c (.ro b [.fn (.func g) [] []] 0)] [] (dI (moistF ef p)) [] := by
 have h1 := hp.weight
 have h2 := hp.moist
 have h3 := he.mem p.ml p.mh h2.2.1
 have hm := mulB0 (a := p.weight) (b := 1000 + ef p.ml p.mh) (A := 1000) (B := 1200) (by omega) (by omega)
 have hc := he.call p.ml p.mh
 unfold moistF
 refine DCall.of Try.func131 sf131 hb131 (Nat.le_of_ble_eq_true rfl) (okRes_nil fun _ => rfl) ?_; simp only [s131, idxs, Nat.reduceAdd]
 repeat' (first|(with_reducible first|apply qA|apply qB|apply qC|apply qD|apply qE|apply qF)|(refine qL rfl (WF.of ?_) ?_; first|rfl|skip)|(simp (disch:=omega) only [go_sem, simprocAttr, Blk.men, Blk.keysIn, rF, rG])|exact qM rfl rfl rfl|(refine qG rfl ?_)|(refine qH rfl ?_)|(refine qI rfl ?_ ?_<;>intro hc<;>(try simp only [go_sem] at hc))|(refine qJ ?_ ?_<;>intro hc<;>(try simp only [hc])<;>(try simp only [go_sem] at hc)))
 refine call_c hc (by decide) ?_
 simp (disch:=omega) only [go_sem,simprocAttr,Blk.men,Blk.keysIn]
 repeat' (first|(with_reducible first|apply qA|apply qB|apply qC|apply qD|apply qE|apply qF)|(refine qL rfl (WF.of ?_) ?_; first|rfl|skip)|(simp (disch:=omega) only [go_sem, simprocAttr, Blk.men, Blk.keysIn])|exact qM rfl rfl rfl|(refine qG rfl ?_)|(refine qH rfl ?_)|(refine qI rfl ?_ ?_<;>intro hc<;>(try simp only [go_sem] at hc))|(refine qJ ?_ ?_<;>intro hc<;>(try simp only [hc])<;>(try simp only [go_sem] at hc)))
def moistI (ef : Int → Int → Int) (s : Sto) (m : Mak) : Int := (sumI (moistF ef) s m).tdiv (1000 * wholeI s m)
theorem tdiv_b {a b : Int} {A : Int} (ha : 0 ≤ a ∧ a ≤ A) (hb : 0 ≤ b) : 0 ≤ a.tdiv b ∧ a.tdiv b ≤ A := by
 rw [Int.tdiv_eq_ediv_of_nonneg ha.1]
 exact ⟨Int.ediv_nonneg ha.1 hb, Int.le_trans (Int.ediv_le_self _ ha.1) ha.2⟩
theorem bdMoist (s : Sto) (m : Mak) (hs : s.ok) (h : m.ok s) {g : FuncId} {ef : Int → Int → Int} (he : EndOk g ef) : DCall Try.prog 82 [dShe s m (wholeI s m), .c (.fn (.func g) [] [])] [] (dI (moistI ef s m)) [] := by
 have hf : ∀ p ∈ s.papers, 0 ≤ moistF ef p ∧ moistF ef p ≤ 1000000000 := fun p hp => moistF_b he (hs.papers p hp)
 have hsum := bdSum s m hs h 131 [.ro false [.fn (.func g) [] []] 0] rfl (moistF ef) hf (fun p hp => bdMoist1 false he p (hs.papers p hp))
 have hb := (sumI_b hs h (moistF ef) hf).2
 have hw := wholeI_b hs h
 have h0 : (1000 * wholeI s m = 0) = False := eq_false (by omega)
 have hq := tdiv_b (b := 1000 * wholeI s m) hb (by omega)
 unfold moistI
 refine DCall.of Try.func82 sf82 hb82 (Nat.le_of_ble_eq_true rfl) (okRes_nil fun _ => rfl) ?_; simp only [s82, idxs, Nat.reduceAdd]
 refine DW.seq (DW.reg ?_)
 simp (disch:=omega) only [go_sem,simprocAttr,Blk.men,Blk.keysIn]
 (refine DW.ent (Ent.rel 3 rfl) ?_; simp (disch:=omega) only [go_sem,simprocAttr,Blk.men,Blk.keysIn])
 repeat' (first|(with_reducible first|apply qA|apply qB|apply qC|apply qD|apply qE|apply qF)|(refine qL rfl (WF.of ?_) ?_; first|rfl|skip)|(simp (disch:=omega) only [go_sem, simprocAttr, Blk.men, Blk.keysIn, h0])|exact qM rfl rfl rfl|(refine qG rfl ?_)|(refine qK (hsum) (by decide) ?_)|(refine qH rfl ?_)|(refine qI rfl ?_ ?_<;>intro hc<;>(try simp only [go_sem] at hc))|(refine qJ ?_ ?_<;>intro hc<;>(try simp only [hc])<;>(try simp only [go_sem] at hc)))
def calP (ef : Int → Int → Int) (s : Sto) (m : Mak) : Nat → Int
 | 0 => 0
 | i + 1 => calP ef s m i + (if i % 2 = 0 then ef (papAt s (m.papers[i]?.getD 0)).tl (papAt s (m.papers[i]?.getD 0)).th else 0)
def calH (ef : Int → Int → Int) (s : Sto) (m : Mak) : Nat → Int
 | 0 => 0
 | i + 1 => calH ef s m i + ef (fluAt s (m.flutes[i]?.getD 0)).hl (fluAt s (m.flutes[i]?.getD 0)).hh
def calI (ef : Int → Int → Int) (s : Sto) (m : Mak) : Int := calP ef s m m.papers.length + calH ef s m m.flutes.length
theorem calP_b {g : FuncId} {ef : Int → Int → Int} (he : EndOk g ef) {s : Sto} {m : Mak} (hs : s.ok) (h : m.ok s) : ∀ i, i ≤ m.papers.length → 0 ≤ calP ef s m i ∧ calP ef s m i ≤ 1000 * (i : Int)
 | 0, _ => by simp [calP]
 | i + 1, hi => by
  have ih := calP_b he hs h i (by omega)
  obtain ⟨v, hv⟩ := getE (l := m.papers) (i := i) (by omega)
  have ho := (papAt_ok hs (h.papers v (List.mem_of_getElem? hv))).thick
  have hm := he.mem _ _ ho.2.1
  rw [calP, hv, Option.getD_some]
  split <;> omega
theorem calH_b {g : FuncId} {ef : Int → Int → Int} (he : EndOk g ef) {s : Sto} {m : Mak} (hs : s.ok) (h : m.ok s) : ∀ i, i ≤ m.flutes.length → 0 ≤ calH ef s m i ∧ calH ef s m i ≤ 10000 * (i : Int)
 | 0, _ => by simp [calH]
 | i + 1, hi => by
  have ih := calH_b he hs h i (by omega)
  obtain ⟨v, hv⟩ := getE (l := m.flutes) (i := i) (by omega)
  have ho := (fluAt_ok hs (h.flutes v (List.mem_of_getElem? hv))).high
  have hm := he.mem _ _ ho.2.1
  rw [calH, hv, Option.getD_some]
  omega
end Go.Dw.Seat
end
section
set_option linter.unusedSimpArgs false
set_option maxRecDepth 100000
namespace Go.Dw.Seat
open Go Go.Dw Go.Proofs Go.IntWalk
theorem bdCaliper (s : Sto) (m : Mak) (hs : s.ok) (h : m.ok s) {g : FuncId} {ef : Int → Int → Int} (he : EndOk g ef) : DCall Try.prog 83 [dShe s m (wholeI s m), .c (.fn (.func g) [] [])] [] (dI (calI ef s m)) [] := by
 have hf := h.nf
 have hn := h.np
 have hl1 : (nL m.papers).length = m.papers.length := nL_length _
 have hl2 : (nL m.flutes).length = m.flutes.length := nL_length _
 refine DCall.of Try.func83 sf83 hb83 (Nat.le_of_ble_eq_true rfl) (okRes_nil fun _ => rfl) ?_; simp only [s83, idxs, Nat.reduceAdd]
 repeat' (first|(with_reducible first|apply qA|apply qB|apply qC|apply qD|apply qE|apply qF)|(simp (disch:=omega) only [go_sem, simprocAttr, Blk.men, Blk.keysIn, hl1])|exact qM rfl rfl rfl|(refine qG rfl ?_)|(refine qH rfl ?_)|(refine qI rfl ?_ ?_<;>intro hc<;>(try simp only [go_sem] at hc))|(refine qJ ?_ ?_<;>intro hc<;>(try simp only [hc])<;>(try simp only [go_sem] at hc)))
 refine DW.loop (ι := { i : Nat // i ≤ m.papers.length }) (fun i => ⟨54, [(13, dI i.1), (12, dI m.papers.length), (11, .c (.sl false 1 (rows eI (nL m.papers)))), (4, dI (calP ef s m i.1)), (2, .box 2 0), (1, .c (.fn (.func g) [] []))], [(2, .box [.c (.sl false 1 (rows eI (nL m.papers))), .c (.sl false 1 (rows eI (nL m.flutes))), .c (.sl false 8 (rows eP s.papers)), .c (.sl false 4 (rows eF s.flutes)), dI (wholeI s m)])]⟩) (fun i => m.papers.length - i.1) ⟨0, Nat.zero_le _⟩ ?_ ?_
 ·refine Ent.to ?_ ?_ <;> simp (disch:=omega) only [qR,qS,qTw,qU,get,Nat.reduceEqDiff,↓reduceIte,qV,qW,qX,qY,qZ,and_self,dI,i64_in,and_true,true_and,rA,rB,rC,rD,calP]
 rintro ⟨i, hi⟩
 rcases Nat.lt_or_ge i m.papers.length with hlt | hge
 ·have hd : decide ((i : Int) < (m.papers.length : Int)) = true := by rw [decide_eq_true_eq]; omega
  obtain ⟨v, hv⟩ := getE (l := m.papers) (i := i) hlt
  have hv' := nL_at hv
  have hvs := h.papers v (List.mem_of_getElem? hv)
  have hp := papAt_get hvs
  have ho := (papAt_ok hs hvs).thick
  have hcb := calP_b he hs h i hi
  have hnx : calP ef s m (i + 1) = calP ef s m i + (if i % 2 = 0 then ef (papAt s v).tl (papAt s v).th else 0) := by rw [calP, hv, Option.getD_some]
  have hm := he.mem _ _ ho.2.1
  have hcall := he.call (papAt s v).tl (papAt s v).th
  generalize papAt s v = p at *
  have hrem : (i : Int).tmod 2 = ((i % 2 : Nat) : Int) := by rw [Int.tmod_eq_emod_of_nonneg (by omega)]; omega
  rcases (by omega : i % 2 = 0 ∨ i % 2 = 1) with hod | hod
  ·rw [hod] at hrem
   rw [if_pos hod] at hnx
   repeat' (first|(with_reducible first|apply qA|apply qB|apply qC|apply qD|apply qE|apply qF)|(simp (disch:=omega) only [go_sem, simprocAttr, Blk.men, Blk.keysIn, hd, hv', hp, hrem, rF, rG])|exact qM rfl rfl rfl|(refine qG rfl ?_)|(refine qH rfl ?_)|(refine qI rfl ?_ ?_<;>intro hc<;>(try simp only [go_sem] at hc))|(refine qJ ?_ ?_<;>intro hc<;>(try simp only [hc])<;>(try simp only [go_sem] at hc)))
   refine call_c hcall (by decide) ?_
   simp (disch:=omega) only [go_sem,simprocAttr,Blk.men,Blk.keysIn]
   repeat' (first|(with_reducible first|apply qA|apply qB|apply qC|apply qD|apply qE|apply qF)|(simp (disch:=omega) only [go_sem, simprocAttr, Blk.men, Blk.keysIn])|exact qM rfl rfl rfl|(refine qG rfl ?_)|(refine qH rfl ?_)|(refine qI rfl ?_ ?_<;>intro hc<;>(try simp only [go_sem] at hc))|(refine qJ ?_ ?_<;>intro hc<;>(try simp only [hc])<;>(try simp only [go_sem] at hc)))
   refine ⟨⟨i + 1, hlt⟩, ?_, Ent.to ?_ ?_⟩ <;> first | (show _ < _; (try simp only); omega) | (simp (disch:=omega) only [qR,qS,qTw,qU,get,Nat.reduceEqDiff,↓reduceIte,qV,qW,qX,qY,qZ,and_self,dI,i64_in,and_true,true_and,rA,rB,rC,rD, hnx])
  ·rw [hod] at hrem
   rw [if_neg (by omega), Int.add_zero] at hnx
   repeat' (first|(with_reducible first|apply qA|apply qB|apply qC|apply qD|apply qE|apply qF)|(simp (disch:=omega) only [go_sem, simprocAttr, Blk.men, Blk.keysIn, hd, hv', hp, hrem, rF, rG])|exact qM rfl rfl rfl|(refine qG rfl ?_)|(refine qH rfl ?_)|(refine qI rfl ?_ ?_<;>intro hc<;>(try simp only [go_sem] at hc))|(refine qJ ?_ ?_<;>intro hc<;>(try simp only [hc])<;>(try simp only [go_sem] at hc)))
   refine ⟨⟨i + 1, hlt⟩, ?_, Ent.to ?_ ?_⟩ <;> first | (show _ < _; (try simp only); omega) | (simp (disch:=omega) only [qR,qS,qTw,qU,get,Nat.reduceEqDiff,↓reduceIte,qV,qW,qX,qY,qZ,and_self,dI,i64_in,and_true,true_and,rA,rB,rC,rD, hnx])
 ·obtain rfl : i = m.papers.length := by omega
  have hd : decide ((m.papers.length : Int) < (m.papers.length : Int)) = false := by rw [decide_eq_false_iff_not]; omega
  have hcb := calP_b he hs h m.papers.length (Nat.le_refl _)
  unfold calI
  generalize calP ef s m m.papers.length = cp at *
  repeat' (first|(with_reducible first|apply qA|apply qB|apply qC|apply qD|apply qE|apply qF)|(simp (disch:=omega) only [go_sem, simprocAttr, Blk.men, Blk.keysIn, hd, hl2])|exact qM rfl rfl rfl|(refine qG rfl ?_)|(refine qH rfl ?_)|(refine qI rfl ?_ ?_<;>intro hc<;>(try simp only [go_sem] at hc))|(refine qJ ?_ ?_<;>intro hc<;>(try simp only [hc])<;>(try simp only [go_sem] at hc)))
  refine DW.loop (ι := { i : Nat // i ≤ m.flutes.length }) (fun i => ⟨54, [(37, dI i.1), (36, dI m.flutes.length), (35, .c (.sl false 1 (rows eI (nL m.flutes)))), (4, dI (cp + calH ef s m i.1)), (2, .box 2 0), (1, .c (.fn (.func g) [] []))], [(2, .box [.c (.sl false 1 (rows eI (nL m.papers))), .c (.sl false 1 (rows eI (nL m.flutes))), .c (.sl false 8 (rows eP s.papers)), .c (.sl false 4 (rows eF s.flutes)), dI (wholeI s m)])]⟩) (fun i => m.flutes.length - i.1) ⟨0, Nat.zero_le _⟩ ?_ ?_
  ·refine Ent.to ?_ ?_ <;> simp (disch:=omega) only [qR,qS,qTw,qU,get,Nat.reduceEqDiff,↓reduceIte,qV,qW,qX,qY,qZ,and_self,dI,i64_in,and_true,true_and,rA,rB,rC,rD,calH,Int.add_zero]
  rintro ⟨i, hi⟩
  rcases Nat.lt_or_ge i m.flutes.length with hlt | hge
  ·have hd : decide ((i : Int) < (m.flutes.length : Int)) = true := by rw [decide_eq_true_eq]; omega
   obtain ⟨v, hv⟩ := getE (l := m.flutes) (i := i) hlt
   have hv' := nL_at hv
   have hvs := h.flutes v (List.mem_of_getElem? hv)
   have hp := fluAt_get hvs
   have ho := (fluAt_ok hs hvs).high
   have hhb := calH_b he hs h i hi
   have hnx : cp + calH ef s m (i + 1) = cp + calH ef s m i + ef (fluAt s v).hl (fluAt s v).hh := by rw [calH, hv, Option.getD_some]; omega
   have hm := he.mem _ _ ho.2.1
   have hcall := he.call (fluAt s v).hl (fluAt s v).hh
   generalize fluAt s v = p at *
   repeat' (first|(with_reducible first|apply qA|apply qB|apply qC|apply qD|apply qE|apply qF)|(simp (disch:=omega) only [go_sem, simprocAttr, Blk.men, Blk.keysIn, hd, hv', hp, rF, rG])|exact qM rfl rfl rfl|(refine qG rfl ?_)|(refine qH rfl ?_)|(refine qI rfl ?_ ?_<;>intro hc<;>(try simp only [go_sem] at hc))|(refine qJ ?_ ?_<;>intro hc<;>(try simp only [hc])<;>(try simp only [go_sem] at hc)))
   refine call_c hcall (by decide) ?_
   simp (disch:=omega) only [go_sem,simprocAttr,Blk.men,Blk.keysIn]
   repeat' (first|(with_reducible first|apply qA|apply qB|apply qC|apply qD|apply qE|apply qF)|(simp (disch:=omega) only [go_sem, simprocAttr, Blk.men, Blk.keysIn])|exact qM rfl rfl rfl|(refine qG rfl ?_)|(refine qH rfl ?_)|(refine qI rfl ?_ ?_<;>intro hc<;>(try simp only [go_sem] at hc))|(refine qJ ?_ ?_<;>intro hc<;>(try simp only [hc])<;>(try simp only [go_sem] at hc)))
   refine ⟨⟨i + 1, hlt⟩, ?_, Ent.to ?_ ?_⟩ <;> first | (show _ < _; (try simp only); omega) | (simp (disch:=omega) only [qR,qS,qTw,qU,get,Nat.reduceEqDiff,↓reduceIte,qV,qW,qX,qY,qZ,and_self,dI,i64_in,and_true,true_and,rA,rB,rC,rD, hnx])
  ·obtain rfl : i = m.flutes.length := by omega
   have hd : decide ((m.flutes.length : Int) < (m.flutes.length : Int)) = false := by rw [decide_eq_false_iff_not]; omega
   repeat' (first|(with_reducible first|apply qA|apply qB|apply qC|apply qD|apply qE|apply qF)|(simp (disch:=omega) only [go_sem, simprocAttr, Blk.men, Blk.keysIn, hd])|exact qM rfl rfl rfl|(refine qG rfl ?_)|(refine qH rfl ?_)|(refine qI rfl ?_ ?_<;>intro hc<;>(try simp only [go_sem] at hc))|(refine qJ ?_ ?_<;>intro hc<;>(try simp only [hc])<;>(try simp only [go_sem] at hc)))
def loE (lo _ : Int) : Int := lo
def hiE (_ hi : Int) : Int := hi
theorem loE_ok : EndOk 80 loE := ⟨bdLow, fun _ _ h => ⟨Int.le_refl _, h⟩⟩
theorem hiE_ok : EndOk 81 hiE := ⟨bdHigh, fun _ _ h => ⟨h, Int.le_refl _⟩⟩
theorem bdMeas (s : Sto) (m : Mak) (hs : s.ok) (h : m.ok s) : DCall Try.prog 39 [dShe s m (wholeI s m)] [] (.tup [.agg [dI (moistI loE s m), dI (moistI hiE s m)], .agg [dI (calI loE s m), dI (calI hiE s m)]]) [] := by
 have h1 := bdMoist s m hs h loE_ok
 have h2 := bdMoist s m hs h hiE_ok
 have h3 := bdCaliper s m hs h loE_ok
 have h4 := bdCaliper s m hs h hiE_ok
 refine DCall.of Try.func39 sf39 hb39 (Nat.le_of_ble_eq_true rfl) (okRes_nil fun _ => rfl) ?_; simp only [s39, o39_0, o39_1, o39_2, o39_3, o39_4, o39_5, o39_6, o39_7, o39_8, o39_9, o39_10, o39_11, o39_12, o39_13, o39_14, o39_15, idxs, Nat.reduceAdd]
 repeat' (first|(with_reducible first|apply qA|apply qB|apply qC|apply qD|apply qE|apply qF)|(refine DW.ord rfl (WF.of (by first|rfl|simp (disch:=omega) only [go_sem, simprocAttr, Blk.men, Blk.keysIn])) ?_ ?_ ?_; rotate_left)|rfl|(with_reducible refine And.intro ?_ ?_)|(simp (disch:=omega) only [go_sem, simprocAttr, Blk.men, Blk.keysIn])|exact qM rfl rfl rfl|(refine qG rfl ?_)|(refine qK (h1) (by decide) ?_)|(refine qK (h2) (by decide) ?_)|(refine qK (h3) (by decide) ?_)|(refine qK (h4) (by decide) ?_)|(refine qH rfl ?_)|(refine qI rfl ?_ ?_<;>intro hc<;>(try simp only [go_sem] at hc))|(refine qJ ?_ ?_<;>intro hc<;>(try simp only [hc])<;>(try simp only [go_sem] at hc)))
theorem bdMeasure (s : Sto) (m : Mak) (hs : s.ok) (h : m.ok s) : DCall Try.prog 8 [dSto s, dMak m] [] (.tup [.agg [dI (moistI loE s m), dI (moistI hiE s m)], .agg [dI (calI loE s m), dI (calI hiE s m)], dI 0]) [] := by
 have h1 := bdNew s m hs h
 have h2 := bdMeas s m hs h
 refine DCall.of Try.func8 sf8 hb8 (Nat.le_of_ble_eq_true rfl) (okRes_nil fun _ => rfl) ?_; simp only [s8, o8_0, o8_1, o8_2, o8_3, o8_4, o8_5, o8_6, o8_7, o8_8, o8_9, o8_10, idxs, Nat.reduceAdd]
 repeat' (first|(with_reducible first|apply qA|apply qB|apply qC|apply qD|apply qE|apply qF)|(refine DW.ord rfl (WF.of (by first|rfl|simp (disch:=omega) only [go_sem, simprocAttr, Blk.men, Blk.keysIn])) ?_ ?_ ?_; rotate_left)|rfl|(with_reducible refine And.intro ?_ ?_)|(simp (disch:=omega) only [go_sem, simprocAttr, Blk.men, Blk.keysIn])|exact qM rfl rfl rfl|(refine qG rfl ?_)|(refine qK (h1) (by decide) ?_)|(refine qK (h2) (by decide) ?_)|(refine qH rfl ?_)|(refine qI rfl ?_ ?_<;>intro hc<;>(try simp only [go_sem] at hc))|(refine qJ ?_ ?_<;>intro hc<;>(try simp only [hc])<;>(try simp only [go_sem] at hc)))
def strongI (s : Sto) (m : Mak) : Int := (sumI Pap.strong s m).tdiv (wholeI s m)
theorem strong_b {s : Sto} (hs : s.ok) : ∀ p ∈ s.papers, 0 ≤ p.strong ∧ p.strong ≤ 1000000000 := fun p hp => by have := (hs.papers p hp).strong; omega
theorem bdStren (s : Sto) (m : Mak) (hs : s.ok) (h : m.ok s) : DCall Try.prog 84 [dShe s m (wholeI s m)] [] (dI (strongI s m)) [] := by
 have hsum := bdSum s m hs h 132 [] rfl Pap.strong (strong_b hs) (fun p _ => bdStrong p)
 have hb := (sumI_b hs h Pap.strong (strong_b hs)).2
 have hw := wholeI_b hs h
 have h0 : (wholeI s m = 0) = False := eq_false (by omega)
 have hq := tdiv_b (b := wholeI s m) hb (by omega)
 unfold strongI
 refine DCall.of Try.func84 sf84 hb84 (Nat.le_of_ble_eq_true rfl) (okRes_nil fun _ => rfl) ?_; simp only [s84, idxs, Nat.reduceAdd]
 repeat' (first|(with_reducible first|apply qA|apply qB|apply qC|apply qD|apply qE|apply qF)|(refine qL rfl (WF.of ?_) ?_; first|rfl|skip)|(simp (disch:=omega) only [go_sem, simprocAttr, Blk.men, Blk.keysIn, h0])|exact qM rfl rfl rfl|(refine qG rfl ?_)|(refine qK (hsum) (by decide) ?_)|(refine qH rfl ?_)|(refine qI rfl ?_ ?_<;>intro hc<;>(try simp only [go_sem] at hc))|(refine qJ ?_ ?_<;>intro hc<;>(try simp only [hc])<;>(try simp only [go_sem] at hc)))
theorem bdStrength (s : Sto) (m : Mak) (hs : s.ok) (h : m.ok s) : DCall Try.prog 40 [dSto s, dMak m] [] (.tup [dI (strongI s m), dI 0]) [] := by
 have h1 := bdNew s m hs h
 have h2 := bdStren s m hs h
 refine DCall.of Try.func40 sf40 hb40 (Nat.le_of_ble_eq_true rfl) (okRes_nil fun _ => rfl) ?_; simp only [s40, idxs, Nat.reduceAdd]
 repeat' (first|(with_reducible first|apply qA|apply qB|apply qC|apply qD|apply qE|apply qF)|(simp (disch:=omega) only [go_sem, simprocAttr, Blk.men, Blk.keysIn])|exact qM rfl rfl rfl|(refine qG rfl ?_)|(refine qK (h1) (by decide) ?_)|(refine qK (h2) (by decide) ?_)|(refine qH rfl ?_)|(refine qI rfl ?_ ?_<;>intro hc<;>(try simp only [go_sem] at hc))|(refine qJ ?_ ?_<;>intro hc<;>(try simp only [hc])<;>(try simp only [go_sem] at hc)))
end Go.Dw.Seat
end
section
set_option linter.unusedSimpArgs false
set_option maxRecDepth 100000
namespace Go.Dw.Seat
open Go Go.Dw Go.Proofs Go.IntWalk
structure Lod where
 sl : Int
 sh : Int
 wl : Int
 wh : Int
def eLd (b : Lod) : List C := [.v (.int .i64 b.sl), .v (.int .i64 b.sh), .v (.int .i64 b.wl), .v (.int .i64 b.wh)]
def eK (t : Int × Int) : List C := [.v (.int .i64 t.1), .v (.int .i64 t.2)]
attribute [go_sem] eLd eK
structure Lod.ok (b : Lod) : Prop where
 strong : 0 ≤ b.sl ∧ b.sl ≤ b.sh ∧ b.sh ≤ 20000000
 weight : 0 ≤ b.wl ∧ b.wl ≤ b.wh ∧ b.wh ≤ 100000
theorem arSpan (a b : Int) : DCall Try.prog 13 [dI a, dI b] [] (.agg [dI a, dI b]) [] := by
 refine DCall.of Try.func13 sf13 hb13 (Nat.le_of_ble_eq_true rfl) (okRes_nil fun _ => rfl) ?_; simp only [s13, idxs, Nat.reduceAdd]
 repeat' (first|(with_reducible first|apply qA|apply qB|apply qC|apply qD|apply qE|apply qF)|(simp (disch:=omega) only [go_sem, simprocAttr, Blk.men, Blk.keysIn])|exact qM rfl rfl rfl|(refine qG rfl ?_)|(refine qH rfl ?_)|(refine qI rfl ?_ ?_<;>intro hc<;>(try simp only [go_sem] at hc))|(refine qJ ?_ ?_<;>intro hc<;>(try simp only [hc])<;>(try simp only [go_sem] at hc)))
def exS : Sto := ⟨[⟨1, 200, 250, 270, 60, 80, 400000, 300⟩, ⟨2, 120, 180, 190, 70, 90, 300000, 200⟩], [⟨8000, 12000, 3600, 3700⟩]⟩
def exM : Mak := ⟨[0, 1, 0], [0]⟩
theorem exS_ok : exS.ok := by
 refine ⟨by decide, by decide, ?_, ?_⟩
 ·intro p hp
  simp only [exS, List.mem_cons, List.not_mem_nil, or_false] at hp
  rcases hp with rfl | rfl <;> exact ⟨by decide, by decide, by decide, by decide, by decide, by decide⟩
 ·intro p hp
  simp only [exS, List.mem_cons, List.not_mem_nil, or_false] at hp
  rcases hp with rfl
  exact ⟨by decide, by decide, by decide⟩
theorem exM_ok : exM.ok exS := by
 refine ⟨by decide, by decide, by decide, by decide, ?_⟩
 intro i n p h1 h2
 match i, h1 with
 | 0, h1 => cases h1; cases h2; rfl
 | 1, h1 => cases h1; cases h2; rfl
 | 2, h1 => cases h1; cases h2; rfl
 | i + 3, h1 => cases h1
theorem exB : moistI loE exS exM = 616 ∧ moistI hiE exS exM = 628 ∧ calI loE exS exM = 4100 ∧ calI hiE exS exM = 4240 ∧ strongI exS exM = 900 := ⟨by kernel_rfl, by kernel_rfl, by kernel_rfl, by kernel_rfl, by kernel_rfl⟩
theorem arBoard : DCall Try.prog 11 [] [] (bD true) [] := by
 have h1 := bdMeasure exS exM exS_ok exM_ok
 have h2 := bdStrength exS exM exS_ok exM_ok
 obtain ⟨e1, e2, e3, e4, e5⟩ := exB
 rw [e1, e2, e3, e4] at h1
 rw [e5] at h2
 have n1 : nL exM.papers = [0, 1, 0] := rfl
 have n2 : nL exM.flutes = [0] := rfl
 unfold dMak dSto at h1 h2
 rw [n1, n2] at h1 h2
 unfold exS at h1 h2
 have s1 := arSpan 250 270
 have s2 := arSpan 60 80
 have s3 := arSpan 180 190
 have s4 := arSpan 70 90
 have s5 := arSpan 3600 3700
 have s6 := arSpan 616 628
 have s7 := arSpan 4100 4240
 refine DCall.of Try.func11 sf11 hb11 (Nat.le_of_ble_eq_true rfl) (okRes_nil fun _ => rfl) ?_; simp only [s11, idxs, Nat.reduceAdd]
 refine DW.seq (DW.reg ?_)
 simp (disch:=omega) only [go_sem,simprocAttr,Blk.men,Blk.keysIn]
 refine DW.seq (DW.reg ?_)
 simp (disch:=omega) only [go_sem,simprocAttr,Blk.men,Blk.keysIn]
 (refine call_c (s1) (by decide) ?_; simp (disch:=omega) only [go_sem,simprocAttr,Blk.men,Blk.keysIn])
 (refine call_c (s2) (by decide) ?_; simp (disch:=omega) only [go_sem,simprocAttr,Blk.men,Blk.keysIn])
 (refine call_c (s3) (by decide) ?_; simp (disch:=omega) only [go_sem,simprocAttr,Blk.men,Blk.keysIn])
 (refine call_c (s4) (by decide) ?_; simp (disch:=omega) only [go_sem,simprocAttr,Blk.men,Blk.keysIn])
 (refine call_c (s5) (by decide) ?_; simp (disch:=omega) only [go_sem,simprocAttr,Blk.men,Blk.keysIn])
 refine DW.seq (DW.reg ?_)
 simp (disch:=omega) only [go_sem,simprocAttr,Blk.men,Blk.keysIn]
 (refine DW.ent (Ent.rel 20 rfl) ?_; simp (disch:=omega) only [go_sem,simprocAttr,Blk.men,Blk.keysIn])
 (refine DW.ent (Ent.rel 19 rfl) ?_; simp (disch:=omega) only [go_sem,simprocAttr,Blk.men,Blk.keysIn])
 (refine DW.ent (Ent.rel 17 rfl) ?_; simp (disch:=omega) only [go_sem,simprocAttr,Blk.men,Blk.keysIn])
 (refine DW.ent (Ent.rel 14 rfl) ?_; simp (disch:=omega) only [go_sem,simprocAttr,Blk.men,Blk.keysIn])
 repeat' (first|(with_reducible first|apply qA|apply qB|apply qC|apply qD|apply qE|apply qF)|(refine qL rfl (WF.of ?_) ?_; first|rfl|skip)|(simp (disch:=omega) only [go_sem, simprocAttr, Blk.men, Blk.keysIn])|exact qM rfl rfl rfl|(refine qG rfl ?_)|(refine qK (h1) (by decide) ?_)|(refine qK (h2) (by decide) ?_)|(refine qK (s6) (by decide) ?_)|(refine qK (s7) (by decide) ?_)|(refine qH rfl ?_)|(refine qI rfl ?_ ?_<;>intro hc<;>(try simp only [go_sem] at hc))|(refine qJ ?_ ?_<;>intro hc<;>(try simp only [hc])<;>(try simp only [go_sem] at hc)))
end Go.Dw.Seat
end
section
set_option linter.unusedSimpArgs false
set_option maxRecDepth 100000
namespace Go.Dw.Seat
open Go Go.Dw Go.Proofs Go.IntWalk
structure V6 where
 v0 : Nat
 v1 : Nat
 v2 : Nat
 v3 : Nat
 v4 : Nat
 v5 : Nat
structure V6.ok (v : V6) : Prop where
 v0 : v.v0 < 256
 v1 : v.v1 < 256
 v2 : v.v2 < 256
 v3 : v.v3 < 256
 v4 : v.v4 < 256
 v5 : v.v5 < 256
structure V3 where
 v0 : Nat
 v1 : Nat
 v2 : Nat
structure V3.ok (v : V3) : Prop where
 v0 : v.v0 < 256
 v1 : v.v1 < 256
 v2 : v.v2 < 256
def e6 (v : V6) : List C := [.v (.int .u8 v.v0), .v (.int .u8 v.v1), .v (.int .u8 v.v2), .v (.int .u8 v.v3), .v (.int .u8 v.v4), .v (.int .u8 v.v5)]
def e3 (v : V3) : List C := [.v (.int .u8 v.v0), .v (.int .u8 v.v1), .v (.int .u8 v.v2)]
attribute [go_sem] e6 e3
structure War where
 papers : List V6
 flutes : List V3
 by' : List Nat
structure War.ok (x : War) : Prop where
 papers : ∀ v ∈ x.papers, v.ok
 flutes : ∀ v ∈ x.flutes, v.ok
 by' : ∀ v ∈ x.by', v < 256
abbrev dWar (b : Bool) (x : War) : D := .agg [.c (.sl b 6 (rows e6 x.papers)), .c (.sl b 3 (rows e3 x.flutes)), .c (.sl b 1 (rows eY x.by'))]
attribute [go_sem] dWar
theorem ud87 : Try.prog.underlying 123 = some (.int .i64) := by kernel_rfl
theorem t100 (m : Nat) : (m : Int).tmod 100 = ((m % 100 : Nat) : Int) := tmodN m 100
theorem t90 (m : Nat) : (m : Int).tmod 90 = ((m % 90 : Nat) : Int) := tmodN m 90
theorem t2 (m : Nat) : (m : Int).tmod 2 = ((m % 2 : Nat) : Int) := tmodN m 2
theorem d8' (m : Nat) : (m : Int).tdiv 8 = ((m / 8 : Nat) : Int) := tdivN m 8
theorem d16' (m : Nat) : (m : Int).tdiv 16 = ((m / 16 : Nat) : Int) := tdivN m 16
def papOf (i : Nat) (v : V6) : Pap := ⟨if 1 < i then 1 + ((v.v0 % 2 : Nat) : Int) else 1 + (i : Int), 50 + (v.v1 : Int), 50 + (v.v2 : Int), 50 + (v.v2 : Int) + ((v.v0 / 8 : Nat) : Int), ((v.v3 % 100 : Nat) : Int), ((v.v3 % 100 : Nat) : Int) + ((v.v3 / 16 : Nat) : Int), 1000 * (v.v4 : Int), 10 * (v.v5 : Int)⟩
def papV (x : War) (i : Nat) : V6 := (x.papers[i]?).getD ⟨i, 120, 20, 7, 30, 20⟩
def fluOf (v : V3) : Flu := ⟨1000 + 35 * (v.v0 : Int), 1000 + 35 * (v.v0 : Int) + ((1000 + 35 * (v.v0 : Int)) * (v.v1 : Int)).tdiv 255, 500 + 10 * (v.v2 : Int), 500 + 10 * (v.v2 : Int) + ((v.v1 % 90 : Nat) : Int)⟩
def fluV (x : War) (i : Nat) : V3 := (x.flutes[i]?).getD ⟨80, 128, 36⟩
def nPap (x : War) : Nat := max 2 (min 5 x.papers.length)
def nFlu (x : War) : Nat := max 1 (min 3 x.flutes.length)
def wPaps (x : War) (i : Nat) : List Pap := (List.range i).map fun k => papOf k (papV x k)
def wFlus (x : War) (i : Nat) : List Flu := (List.range i).map fun k => fluOf (fluV x k)
def wSto (x : War) : Sto := ⟨wPaps x (nPap x), wFlus x (nFlu x)⟩
theorem wPaps_succ (x : War) (i : Nat) : wPaps x (i + 1) = wPaps x i ++ [papOf i (papV x i)] := by simp [wPaps, List.range_succ]
theorem wFlus_succ (x : War) (i : Nat) : wFlus x (i + 1) = wFlus x i ++ [fluOf (fluV x i)] := by simp [wFlus, List.range_succ]
theorem wPaps_len (x : War) (i : Nat) : (wPaps x i).length = i := by simp [wPaps]
theorem wFlus_len (x : War) (i : Nat) : (wFlus x i).length = i := by simp [wFlus]
theorem papV_ok {x : War} (h : x.ok) {i : Nat} (hi : i < 256) : (papV x i).ok := by
 unfold papV
 cases hv : x.papers[i]? with
 | none => exact ⟨hi, (by decide : 120 < 256), (by decide : 20 < 256), (by decide : 7 < 256), (by decide : 30 < 256), (by decide : 20 < 256)⟩
 | some v => exact h.papers v (List.mem_of_getElem? hv)
theorem fluV_ok {x : War} (h : x.ok) (i : Nat) : (fluV x i).ok := by
 unfold fluV
 cases hv : x.flutes[i]? with
 | none => exact ⟨by decide, by decide, by decide⟩
 | some v => exact h.flutes v (List.mem_of_getElem? hv)
theorem papOf_ok {v : V6} (h : v.ok) (i : Nat) : (papOf i v).ok := by
 have h0 := h.v0
 have h1 := h.v1
 have h2 := h.v2
 have h3 := h.v3
 have h4 := h.v4
 have h5 := h.v5
 have m0 : v.v0 % 2 < 2 := Nat.mod_lt _ (by decide)
 have m1 : v.v3 % 100 < 100 := Nat.mod_lt _ (by decide)
 unfold papOf
 refine ⟨?_, ?_, ?_, ?_, ?_, ?_⟩
 ·show (if 1 < i then 1 + ((v.v0 % 2 : Nat) : Int) else 1 + (i : Int)) = 1 ∨ (if 1 < i then 1 + ((v.v0 % 2 : Nat) : Int) else 1 + (i : Int)) = 2
  split <;> omega
 all_goals dsimp only
 all_goals omega
theorem fluOf_draw {v : V3} (h : v.ok) : 0 ≤ (1000 + 35 * (v.v0 : Int)) * (v.v1 : Int) ∧ (1000 + 35 * (v.v0 : Int)) * (v.v1 : Int) ≤ 2530875 ∧ 0 ≤ ((1000 + 35 * (v.v0 : Int)) * (v.v1 : Int)).tdiv 255 ∧ ((1000 + 35 * (v.v0 : Int)) * (v.v1 : Int)).tdiv 255 ≤ 1000 + 35 * (v.v0 : Int) := by
 have h0 := h.v0
 have h1 := h.v1
 have m := mulB0 (a := 1000 + 35 * (v.v0 : Int)) (b := (v.v1 : Int)) (A := 9925) (B := 255) (by omega) (by omega)
 have m2 : (1000 + 35 * (v.v0 : Int)) * (v.v1 : Int) ≤ (1000 + 35 * (v.v0 : Int)) * 255 := Int.mul_le_mul_of_nonneg_left (by omega) (by omega)
 rw [Int.tdiv_eq_ediv_of_nonneg m.1]
 generalize (1000 + 35 * (v.v0 : Int)) * (v.v1 : Int) = q at *
 omega
theorem fluOf_ok {v : V3} (h : v.ok) : (fluOf v).ok := by
 have h0 := h.v0
 have h1 := h.v1
 have h2 := h.v2
 have hd := fluOf_draw h
 have m1 : v.v1 % 90 < 90 := Nat.mod_lt _ (by decide)
 unfold fluOf
 refine ⟨?_, ?_, ?_⟩
 all_goals dsimp only
 all_goals omega
theorem wSto_ok {x : War} (h : x.ok) : (wSto x).ok := by
 refine ⟨?_, ?_, ?_, ?_⟩
 ·show 1 ≤ (wPaps x (nPap x)).length ∧ (wPaps x (nPap x)).length ≤ 8
  rw [wPaps_len]; unfold nPap; omega
 ·show 1 ≤ (wFlus x (nFlu x)).length ∧ (wFlus x (nFlu x)).length ≤ 4
  rw [wFlus_len]; unfold nFlu; omega
 ·intro p hp
  obtain ⟨i, hi, rfl⟩ := List.mem_map.1 hp
  rw [List.mem_range] at hi
  exact papOf_ok (papV_ok h (by unfold nPap at hi; omega)) i
 ·intro p hp
  obtain ⟨i, _, rfl⟩ := List.mem_map.1 hp
  exact fluOf_ok (fluV_ok h i)
theorem snocP (l : List Pap) (a b c d e f g h : Int) : rowC (rows eP l) ++ [[D.c (.v (.int .i64 a)), D.c (.v (.int .i64 b)), D.c (.v (.int .i64 c)), D.c (.v (.int .i64 d)), D.c (.v (.int .i64 e)), D.c (.v (.int .i64 f)), D.c (.v (.int .i64 g)), D.c (.v (.int .i64 h))]] = rowC (rows eP (l ++ [⟨a, b, c, d, e, f, g, h⟩])) := by simp [rowC, rows, eP]
theorem snocF (l : List Flu) (a b c d : Int) : rowC (rows eF l) ++ [[D.c (.v (.int .i64 a)), D.c (.v (.int .i64 b)), D.c (.v (.int .i64 c)), D.c (.v (.int .i64 d))]] = rowC (rows eF (l ++ [⟨a, b, c, d⟩])) := by simp [rowC, rows, eF]
attribute [go_sem] snocP snocF
set_option maxHeartbeats 1600000 in
theorem arStore (b : Bool) (x : War) (h : x.ok) : DCall Try.prog 6 [dWar b x] [] (dSto (wSto x)) [] := by
 have hn : nPap x ≤ 5 ∧ 2 ≤ nPap x := by unfold nPap; omega
 have hnf : nFlu x ≤ 3 ∧ 1 ≤ nFlu x := by unfold nFlu; omega
 refine DCall.of Try.func6 sf6 hb6 (Nat.le_of_ble_eq_true rfl) (okRes_nil fun _ => rfl) ?_; simp only [s6, idxs, Nat.reduceAdd]
 repeat' (first|(with_reducible first|apply qA|apply qB|apply qC|apply qD|apply qE|apply qF)|(refine qL rfl (WF.of ?_) ?_; first|rfl|skip)|(simp (disch:=omega) only [go_sem, simprocAttr, Blk.men, Blk.keysIn])|exact qM rfl rfl rfl|(refine qG rfl ?_)|(refine qH rfl ?_)|(refine qI rfl ?_ ?_<;>intro hc<;>(try simp only [go_sem] at hc))|(refine qJ ?_ ?_<;>intro hc<;>(try simp only [hc])<;>(try simp only [go_sem] at hc)))
 (refine DW.ent (Ent.adoptB 3 0 94 8 rfl rfl rfl rfl) ?_; simp only [ins, Nat.reduceLT, Nat.reduceEqDiff, ↓reduceIte, List.set_cons_zero, List.set_cons_succ])
 (refine DW.ent (Ent.adoptB 3 1 156 4 rfl rfl rfl rfl) ?_; simp only [ins, Nat.reduceLT, Nat.reduceEqDiff, ↓reduceIte, List.set_cons_zero, List.set_cons_succ])
 refine DW.loop (ι := { i : Nat // i ≤ nPap x }) (fun i => ⟨159, [(4, dI i.1), (3, .box 3 0), (2, .box 2 0), (1, .box 1 0)], [(156, .row 4 []), (94, .row 8 (rowC (rows eP (wPaps x i.1)))), (3, .box [.own 94, .own 156]), (2, .box [.c (.v (.slice none 0 0)), .c (.v (.slice none 0 0))]), (1, .box [.c (.sl b 6 (rows e6 x.papers)), .c (.sl b 3 (rows e3 x.flutes)), .c (.sl b 1 (rows eY x.by'))])]⟩) (fun i => nPap x - i.1) ⟨0, Nat.zero_le _⟩ ?_ ?_
 ·refine Ent.to ?_ ?_ <;> simp (disch:=omega) only [qR,qS,qTw,qU,get,Nat.reduceEqDiff,↓reduceIte,qV,qW,qX,qY,qZ,and_self,dI,i64_in,and_true,true_and,rA,rB,rC,rD]
  exact .refl _
 rintro ⟨i, hi⟩
 dsimp only
 rcases Nat.lt_or_ge i (nPap x) with hlt | hge
 ·have hv := papV_ok h (i := i) (by omega)
  have hcond : (decide ((i : Int) < 2) = true) ∨ (decide ((i : Int) < 2) = false ∧ decide ((i : Int) < (x.papers.length : Int)) = true ∧ decide ((i : Int) < 5) = true) := by
   unfold nPap at hlt
   simp only [decide_eq_true_eq, decide_eq_false_iff_not]
   omega
  refine DW.cut ⟨159, [(4, dI i), (3, .box 3 0), (2, .box 2 0), (1, .box 1 0)], [(156, .row 4 []), (94, .row 8 (rowC (rows eP (wPaps x i)))), (3, .box [.own 94, .own 156]), (2, .box [.c (.v (.slice none 0 0)), .c (.v (.slice none 0 0))]), (1, .box [.c (.sl b 6 (rows e6 x.papers)), .c (.sl b 3 (rows e3 x.flutes)), .c (.sl b 1 (rows eY x.by'))])]⟩ ?_ ?_
  ·rcases hcond with hc | ⟨hc1, hc2, hc3⟩
   ·repeat' (first|(with_reducible first|apply qA|apply qB|apply qC|apply qD|apply qE|apply qF)|(refine qL rfl (WF.of ?_) ?_; first|rfl|skip)|(simp (disch:=omega) only [go_sem, simprocAttr, Blk.men, Blk.keysIn, hc])|exact qM rfl rfl rfl|(refine qG rfl ?_)|(refine qH rfl ?_)|(refine qI rfl ?_ ?_<;>intro hc<;>(try simp only [go_sem] at hc))|(refine qJ ?_ ?_<;>intro hc<;>(try simp only [hc])<;>(try simp only [go_sem] at hc)))
    refine Ent.to ?_ ?_ <;> simp (disch:=omega) only [qR,qS,qTw,qU,get,Nat.reduceEqDiff,↓reduceIte,qV,qW,qX,qY,qZ,and_self,dI,i64_in,and_true,true_and,rA,rB,rC,rD]
   ·repeat' (first|(with_reducible first|apply qA|apply qB|apply qC|apply qD|apply qE|apply qF)|(refine qL rfl (WF.of ?_) ?_; first|rfl|skip)|(simp (disch:=omega) only [go_sem, simprocAttr, Blk.men, Blk.keysIn, hc1, hc2, hc3])|exact qM rfl rfl rfl|(refine qG rfl ?_)|(refine qH rfl ?_)|(refine qI rfl ?_ ?_<;>intro hc<;>(try simp only [go_sem] at hc))|(refine qJ ?_ ?_<;>intro hc<;>(try simp only [hc])<;>(try simp only [go_sem] at hc)))
    refine Ent.to ?_ ?_ <;> simp (disch:=omega) only [qR,qS,qTw,qU,get,Nat.reduceEqDiff,↓reduceIte,qV,qW,qX,qY,qZ,and_self,dI,i64_in,and_true,true_and,rA,rB,rC,rD]
  refine DW.seq (DW.block (DW.seq (DW.reg ?_)))
  have hi8 : IntKind.u8.wrap (i : Int) = (i : Int) := IntWalk.u8_in _ (by omega)
  simp (disch:=omega) only [go_sem,simprocAttr,Blk.men,Blk.keysIn,ud3,hi8]
  generalize hpv : papV x i = v at *
  refine DW.cut ⟨159, [(5, .box 5 0), (4, dI i), (3, .box 3 0), (2, .box 2 0), (1, .box 1 0)], [(156, .row 4 []), (94, .row 8 (rowC (rows eP (wPaps x i)))), (5, .box ((e6 v).map D.c)), (3, .box [.own 94, .own 156]), (2, .box [.c (.v (.slice none 0 0)), .c (.v (.slice none 0 0))]), (1, .box [.c (.sl b 6 (rows e6 x.papers)), .c (.sl b 3 (rows e3 x.flutes)), .c (.sl b 1 (rows eY x.by'))])]⟩ ?_ ?_
  ·rcases Nat.lt_or_ge i x.papers.length with hl | hl
   ·have hd : decide ((i : Int) < (x.papers.length : Int)) = true := by rw [decide_eq_true_eq]; omega
    have hxv : x.papers[i]? = some v := by
     rw [← hpv, papV, List.getElem?_eq_getElem hl]; rfl
    repeat' (first|(with_reducible first|apply qA|apply qB|apply qC|apply qD|apply qE|apply qF)|(refine qL rfl (WF.of ?_) ?_; first|rfl|skip)|(simp (disch:=omega) only [go_sem, simprocAttr, Blk.men, Blk.keysIn, hd, hxv, rF, rG])|exact qM rfl rfl rfl|(refine qG rfl ?_)|(refine qH rfl ?_)|(refine qI rfl ?_ ?_<;>intro hc<;>(try simp only [go_sem] at hc))|(refine qJ ?_ ?_<;>intro hc<;>(try simp only [hc])<;>(try simp only [go_sem] at hc)))
    refine Ent.to ?_ ?_ <;> simp (disch:=omega) only [qR,qS,qTw,qU,get,Nat.reduceEqDiff,↓reduceIte,qV,qW,qX,qY,qZ,and_self,dI,i64_in,and_true,true_and,rA,rB,rC,rD]
   ·have hd : decide ((i : Int) < (x.papers.length : Int)) = false := by rw [decide_eq_false_iff_not]; omega
    have hxv : v = ⟨i, 120, 20, 7, 30, 20⟩ := by
     rw [← hpv, papV, List.getElem?_eq_none hl]; rfl
    rw [hxv]
    repeat' (first|(with_reducible first|apply qA|apply qB|apply qC|apply qD|apply qE|apply qF)|(refine qL rfl (WF.of ?_) ?_; first|rfl|skip)|(simp (disch:=omega) only [go_sem, simprocAttr, Blk.men, Blk.keysIn, hd, rF, rG])|exact qM rfl rfl rfl|(refine qG rfl ?_)|(refine qH rfl ?_)|(refine qI rfl ?_ ?_<;>intro hc<;>(try simp only [go_sem] at hc))|(refine qJ ?_ ?_<;>intro hc<;>(try simp only [hc])<;>(try simp only [go_sem] at hc)))
    refine Ent.to ?_ ?_ <;> simp (disch:=omega) only [qR,qS,qTw,qU,get,Nat.reduceEqDiff,↓reduceIte,qV,qW,qX,qY,qZ,and_self,dI,i64_in,and_true,true_and,rA,rB,rC,rD]
    all_goals exact .refl _
  have w0 := hv.v0
  have w1 := hv.v1
  have w2 := hv.v2
  have w3 := hv.v3
  have w4 := hv.v4
  have w5 := hv.v5
  have m0 : v.v0 % 2 < 2 := Nat.mod_lt _ (by decide)
  have m1 : v.v3 % 100 < 100 := Nat.mod_lt _ (by decide)
  have s1 := arSpan (50 + (v.v2 : Int)) (50 + (v.v2 : Int) + ((v.v0 / 8 : Nat) : Int))
  have s2 := arSpan ((v.v3 % 100 : Nat) : Int) (((v.v3 % 100 : Nat) : Int) + ((v.v3 / 16 : Nat) : Int))
  have hln := wPaps_len x i
  have hsn := wPaps_succ x i
  rw [hpv] at hsn
  generalize wPaps x i = l at *
  by_cases h1 : 1 < i
  ·have hd : decide ((1 : Int) < (i : Int)) = true := by rw [decide_eq_true_eq]; omega
   have hpo : papOf i v = ⟨1 + ((v.v0 % 2 : Nat) : Int), 50 + (v.v1 : Int), 50 + (v.v2 : Int), 50 + (v.v2 : Int) + ((v.v0 / 8 : Nat) : Int), ((v.v3 % 100 : Nat) : Int), ((v.v3 % 100 : Nat) : Int) + ((v.v3 / 16 : Nat) : Int), 1000 * (v.v4 : Int), 10 * (v.v5 : Int)⟩ := by rw [papOf, if_pos h1]
   rw [hpo] at hsn
   repeat' (first|(with_reducible first|apply qA|apply qB|apply qC|apply qD|apply qE|apply qF)|(refine qL rfl (WF.of ?_) ?_; first|rfl|skip)|(simp (disch:=omega) only [go_sem, simprocAttr, Blk.men, Blk.keysIn, hd, t100, t2, d8', d16', ud87, rF, rG])|exact qM rfl rfl rfl|(refine qG rfl ?_)|(refine qK (s1) (by decide) ?_)|(refine qK (s2) (by decide) ?_)|(refine qH rfl ?_)|(refine qI rfl ?_ ?_<;>intro hc<;>(try simp only [go_sem] at hc))|(refine qJ ?_ ?_<;>intro hc<;>(try simp only [hc])<;>(try simp only [go_sem] at hc)))
   refine ⟨⟨i + 1, hlt⟩, ?_, Ent.to ?_ ?_⟩ <;> first | (show _ < _; (try simp only); omega) | (simp (disch:=omega) only [qR,qS,qTw,qU,get,Nat.reduceEqDiff,↓reduceIte,qV,qW,qX,qY,qZ,and_self,dI,i64_in,and_true,true_and,rA,rB,rC,rD, hsn])
   all_goals exact .refl _
  ·have hd : decide ((1 : Int) < (i : Int)) = false := by rw [decide_eq_false_iff_not]; omega
   have hpo : papOf i v = ⟨1 + (i : Int), 50 + (v.v1 : Int), 50 + (v.v2 : Int), 50 + (v.v2 : Int) + ((v.v0 / 8 : Nat) : Int), ((v.v3 % 100 : Nat) : Int), ((v.v3 % 100 : Nat) : Int) + ((v.v3 / 16 : Nat) : Int), 1000 * (v.v4 : Int), 10 * (v.v5 : Int)⟩ := by rw [papOf, if_neg h1]
   rw [hpo] at hsn
   repeat' (first|(with_reducible first|apply qA|apply qB|apply qC|apply qD|apply qE|apply qF)|(refine qL rfl (WF.of ?_) ?_; first|rfl|skip)|(simp (disch:=omega) only [go_sem, simprocAttr, Blk.men, Blk.keysIn, hd, t100, t2, d8', d16', ud87, rF, rG])|exact qM rfl rfl rfl|(refine qG rfl ?_)|(refine qK (s1) (by decide) ?_)|(refine qK (s2) (by decide) ?_)|(refine qH rfl ?_)|(refine qI rfl ?_ ?_<;>intro hc<;>(try simp only [go_sem] at hc))|(refine qJ ?_ ?_<;>intro hc<;>(try simp only [hc])<;>(try simp only [go_sem] at hc)))
   refine ⟨⟨i + 1, hlt⟩, ?_, Ent.to ?_ ?_⟩ <;> first | (show _ < _; (try simp only); omega) | (simp (disch:=omega) only [qR,qS,qTw,qU,get,Nat.reduceEqDiff,↓reduceIte,qV,qW,qX,qY,qZ,and_self,dI,i64_in,and_true,true_and,rA,rB,rC,rD, hsn])
   all_goals exact .refl _
 ·obtain rfl : i = nPap x := by omega
  have hc1 : decide ((nPap x : Int) < 2) = false := by rw [decide_eq_false_iff_not]; omega
  have hcond : (decide ((nPap x : Int) < (x.papers.length : Int)) = false) ∨ (decide ((nPap x : Int) < (x.papers.length : Int)) = true ∧ decide ((nPap x : Int) < 5) = false) := by
   have : nPap x = max 2 (min 5 x.papers.length) := rfl
   simp only [decide_eq_true_eq, decide_eq_false_iff_not]
   omega
  refine DW.leave 0 ⟨159, [(3, .box 3 0), (2, .box 2 0), (1, .box 1 0)], [(156, .row 4 (rowC (rows eF (wFlus x 0)))), (94, .row 8 (rowC (rows eP (wPaps x (nPap x))))), (3, .box [.own 94, .own 156]), (2, .box [.c (.v (.slice none 0 0)), .c (.v (.slice none 0 0))]), (1, .box [.c (.sl b 6 (rows e6 x.papers)), .c (.sl b 3 (rows e3 x.flutes)), .c (.sl b 1 (rows eY x.by'))])]⟩ ?_ ?_
  ·rcases hcond with hc | ⟨hc2, hc3⟩
   ·repeat' (first|(with_reducible first|apply qA|apply qB|apply qC|apply qD|apply qE|apply qF)|(refine qL rfl (WF.of ?_) ?_; first|rfl|skip)|(simp (disch:=omega) only [go_sem, simprocAttr, Blk.men, Blk.keysIn, hc1, hc])|exact qM rfl rfl rfl|(refine qG rfl ?_)|(refine qH rfl ?_)|(refine qI rfl ?_ ?_<;>intro hc<;>(try simp only [go_sem] at hc))|(refine qJ ?_ ?_<;>intro hc<;>(try simp only [hc])<;>(try simp only [go_sem] at hc)))
    refine Ent.to ?_ ?_ <;> simp (disch:=omega) only [qR,qS,qTw,qU,get,Nat.reduceEqDiff,↓reduceIte,qV,qW,qX,qY,qZ,and_self,dI,i64_in,and_true,true_and,rA,rB,rC,rD]
    all_goals exact .refl _
   ·repeat' (first|(with_reducible first|apply qA|apply qB|apply qC|apply qD|apply qE|apply qF)|(refine qL rfl (WF.of ?_) ?_; first|rfl|skip)|(simp (disch:=omega) only [go_sem, simprocAttr, Blk.men, Blk.keysIn, hc1, hc2, hc3])|exact qM rfl rfl rfl|(refine qG rfl ?_)|(refine qH rfl ?_)|(refine qI rfl ?_ ?_<;>intro hc<;>(try simp only [go_sem] at hc))|(refine qJ ?_ ?_<;>intro hc<;>(try simp only [hc])<;>(try simp only [go_sem] at hc)))
    refine Ent.to ?_ ?_ <;> simp (disch:=omega) only [qR,qS,qTw,qU,get,Nat.reduceEqDiff,↓reduceIte,qV,qW,qX,qY,qZ,and_self,dI,i64_in,and_true,true_and,rA,rB,rC,rD]
    all_goals exact .refl _
  intro σ' hσ'
  simp (disch:=omega) only [go_sem,simprocAttr,Blk.men,Blk.keysIn]
  refine DW.ent hσ' ?_
  clear hσ' hcond hc1
  repeat' (first|(with_reducible first|apply qA|apply qB|apply qC|apply qD|apply qE|apply qF)|(refine qL rfl (WF.of ?_) ?_; first|rfl|skip)|(simp (disch:=omega) only [go_sem, simprocAttr, Blk.men, Blk.keysIn])|exact qM rfl rfl rfl|(refine qG rfl ?_)|(refine qH rfl ?_)|(refine qI rfl ?_ ?_<;>intro hc<;>(try simp only [go_sem] at hc))|(refine qJ ?_ ?_<;>intro hc<;>(try simp only [hc])<;>(try simp only [go_sem] at hc)))
  refine DW.loop (ι := { i : Nat // i ≤ nFlu x }) (fun i => ⟨159, [(7, dI i.1), (3, .box 3 0), (2, .box 2 0), (1, .box 1 0)], [(156, .row 4 (rowC (rows eF (wFlus x i.1)))), (94, .row 8 (rowC (rows eP (wPaps x (nPap x))))), (3, .box [.own 94, .own 156]), (2, .box [.c (.v (.slice none 0 0)), .c (.v (.slice none 0 0))]), (1, .box [.c (.sl b 6 (rows e6 x.papers)), .c (.sl b 3 (rows e3 x.flutes)), .c (.sl b 1 (rows eY x.by'))])]⟩) (fun i => nFlu x - i.1) ⟨0, Nat.zero_le _⟩ ?_ ?_
  ·refine Ent.to ?_ ?_ <;> simp (disch:=omega) only [qR,qS,qTw,qU,get,Nat.reduceEqDiff,↓reduceIte,qV,qW,qX,qY,qZ,and_self,dI,i64_in,and_true,true_and,rA,rB,rC,rD]
  clear hi
  rintro ⟨i, hi⟩
  dsimp only
  rcases Nat.lt_or_ge i (nFlu x) with hlt | hge
  ·have hv := fluV_ok h i
   have hcond : (((i : Int) == 0) = true) ∨ (((i : Int) == 0) = false ∧ decide ((i : Int) < (x.flutes.length : Int)) = true ∧ decide ((i : Int) < 3) = true) := by
    have : nFlu x = max 1 (min 3 x.flutes.length) := rfl
    simp only [decide_eq_true_eq, beq_iff_eq, beq_eq_false_iff_ne]
    omega
   refine DW.cut ⟨159, [(7, dI i), (3, .box 3 0), (2, .box 2 0), (1, .box 1 0)], [(156, .row 4 (rowC (rows eF (wFlus x i)))), (94, .row 8 (rowC (rows eP (wPaps x (nPap x))))), (3, .box [.own 94, .own 156]), (2, .box [.c (.v (.slice none 0 0)), .c (.v (.slice none 0 0))]), (1, .box [.c (.sl b 6 (rows e6 x.papers)), .c (.sl b 3 (rows e3 x.flutes)), .c (.sl b 1 (rows eY x.by'))])]⟩ ?_ ?_
   ·rcases hcond with hc | ⟨hc1, hc2, hc3⟩
    ·repeat' (first|(with_reducible first|apply qA|apply qB|apply qC|apply qD|apply qE|apply qF)|(refine qL rfl (WF.of ?_) ?_; first|rfl|skip)|(simp (disch:=omega) only [go_sem, simprocAttr, Blk.men, Blk.keysIn, hc])|exact qM rfl rfl rfl|(refine qG rfl ?_)|(refine qH rfl ?_)|(refine qI rfl ?_ ?_<;>intro hc<;>(try simp only [go_sem] at hc))|(refine qJ ?_ ?_<;>intro hc<;>(try simp only [hc])<;>(try simp only [go_sem] at hc)))
     refine Ent.to ?_ ?_ <;> simp (disch:=omega) only [qR,qS,qTw,qU,get,Nat.reduceEqDiff,↓reduceIte,qV,qW,qX,qY,qZ,and_self,dI,i64_in,and_true,true_and,rA,rB,rC,rD]
    ·repeat' (first|(with_reducible first|apply qA|apply qB|apply qC|apply qD|apply qE|apply qF)|(refine qL rfl (WF.of ?_) ?_; first|rfl|skip)|(simp (disch:=omega) only [go_sem, simprocAttr, Blk.men, Blk.keysIn, hc1, hc2, hc3])|exact qM rfl rfl rfl|(refine qG rfl ?_)|(refine qH rfl ?_)|(refine qI rfl ?_ ?_<;>intro hc<;>(try simp only [go_sem] at hc))|(refine qJ ?_ ?_<;>intro hc<;>(try simp only [hc])<;>(try simp only [go_sem] at hc)))
     refine Ent.to ?_ ?_ <;> simp (disch:=omega) only [qR,qS,qTw,qU,get,Nat.reduceEqDiff,↓reduceIte,qV,qW,qX,qY,qZ,and_self,dI,i64_in,and_true,true_and,rA,rB,rC,rD]
   refine DW.seq (DW.block (DW.seq (DW.reg ?_)))
   simp (disch:=omega) only [go_sem,simprocAttr,Blk.men,Blk.keysIn]
   generalize hpv : fluV x i = v at *
   refine DW.cut ⟨159, [(8, .box 8 0), (7, dI i), (3, .box 3 0), (2, .box 2 0), (1, .box 1 0)], [(156, .row 4 (rowC (rows eF (wFlus x i)))), (94, .row 8 (rowC (rows eP (wPaps x (nPap x))))), (8, .box ((e3 v).map D.c)), (3, .box [.own 94, .own 156]), (2, .box [.c (.v (.slice none 0 0)), .c (.v (.slice none 0 0))]), (1, .box [.c (.sl b 6 (rows e6 x.papers)), .c (.sl b 3 (rows e3 x.flutes)), .c (.sl b 1 (rows eY x.by'))])]⟩ ?_ ?_
   ·rcases Nat.lt_or_ge i x.flutes.length with hl | hl
    ·have hd : decide ((i : Int) < (x.flutes.length : Int)) = true := by rw [decide_eq_true_eq]; omega
     have hxv : x.flutes[i]? = some v := by
      rw [← hpv, fluV, List.getElem?_eq_getElem hl]; rfl
     repeat' (first|(with_reducible first|apply qA|apply qB|apply qC|apply qD|apply qE|apply qF)|(refine qL rfl (WF.of ?_) ?_; first|rfl|skip)|(simp (disch:=omega) only [go_sem, simprocAttr, Blk.men, Blk.keysIn, hd, hxv, rF, rG])|exact qM rfl rfl rfl|(refine qG rfl ?_)|(refine qH rfl ?_)|(refine qI rfl ?_ ?_<;>intro hc<;>(try simp only [go_sem] at hc))|(refine qJ ?_ ?_<;>intro hc<;>(try simp only [hc])<;>(try simp only [go_sem] at hc)))
     refine Ent.to ?_ ?_ <;> simp (disch:=omega) only [qR,qS,qTw,qU,get,Nat.reduceEqDiff,↓reduceIte,qV,qW,qX,qY,qZ,and_self,dI,i64_in,and_true,true_and,rA,rB,rC,rD]
    ·have hd : decide ((i : Int) < (x.flutes.length : Int)) = false := by rw [decide_eq_false_iff_not]; omega
     have hxv : v = ⟨80, 128, 36⟩ := by
      rw [← hpv, fluV, List.getElem?_eq_none hl]; rfl
     rw [hxv]
     repeat' (first|(with_reducible first|apply qA|apply qB|apply qC|apply qD|apply qE|apply qF)|(refine qL rfl (WF.of ?_) ?_; first|rfl|skip)|(simp (disch:=omega) only [go_sem, simprocAttr, Blk.men, Blk.keysIn, hd, rF, rG])|exact qM rfl rfl rfl|(refine qG rfl ?_)|(refine qH rfl ?_)|(refine qI rfl ?_ ?_<;>intro hc<;>(try simp only [go_sem] at hc))|(refine qJ ?_ ?_<;>intro hc<;>(try simp only [hc])<;>(try simp only [go_sem] at hc)))
     refine Ent.to ?_ ?_ <;> simp (disch:=omega) only [qR,qS,qTw,qU,get,Nat.reduceEqDiff,↓reduceIte,qV,qW,qX,qY,qZ,and_self,dI,i64_in,and_true,true_and,rA,rB,rC,rD]
     all_goals exact .refl _
   have w0 := hv.v0
   have w1 := hv.v1
   have w2 := hv.v2
   have hfd := fluOf_draw hv
   have m1 : v.v1 % 90 < 90 := Nat.mod_lt _ (by decide)
   have s1 := arSpan (500 + 10 * (v.v2 : Int)) (500 + 10 * (v.v2 : Int) + ((v.v1 % 90 : Nat) : Int))
   have hln := wFlus_len x i
   have hsn := wFlus_succ x i
   rw [hpv] at hsn
   have hpo : fluOf v = ⟨1000 + 35 * (v.v0 : Int), 1000 + 35 * (v.v0 : Int) + ((1000 + 35 * (v.v0 : Int)) * (v.v1 : Int)).tdiv 255, 500 + 10 * (v.v2 : Int), 500 + 10 * (v.v2 : Int) + ((v.v1 % 90 : Nat) : Int)⟩ := rfl
   rw [hpo] at hsn
   generalize wFlus x i = l at *
   repeat' (first|(with_reducible first|apply qA|apply qB|apply qC|apply qD|apply qE|apply qF)|(refine qL rfl (WF.of ?_) ?_; first|rfl|skip)|(simp (disch:=omega) only [go_sem, simprocAttr, Blk.men, Blk.keysIn, t90, rF, rG])|exact qM rfl rfl rfl|(refine qG rfl ?_)|(refine qK (s1) (by decide) ?_)|(refine qH rfl ?_)|(refine qI rfl ?_ ?_<;>intro hc<;>(try simp only [go_sem] at hc))|(refine qJ ?_ ?_<;>intro hc<;>(try simp only [hc])<;>(try simp only [go_sem] at hc)))
   refine ⟨⟨i + 1, hlt⟩, ?_, Ent.to ?_ ?_⟩ <;> first | (show _ < _; (try simp only); omega) | (simp (disch:=omega) only [qR,qS,qTw,qU,get,Nat.reduceEqDiff,↓reduceIte,qV,qW,qX,qY,qZ,and_self,dI,i64_in,and_true,true_and,rA,rB,rC,rD, hsn])
   all_goals exact .refl _
  ·obtain rfl : i = nFlu x := by omega
   have hc1 : ((nFlu x : Int) == 0) = false := by rw [beq_eq_false_iff_ne]; omega
   have hcond : (decide ((nFlu x : Int) < (x.flutes.length : Int)) = false) ∨ (decide ((nFlu x : Int) < (x.flutes.length : Int)) = true ∧ decide ((nFlu x : Int) < 3) = false) := by
    have : nFlu x = max 1 (min 3 x.flutes.length) := rfl
    simp only [decide_eq_true_eq, decide_eq_false_iff_not]
    omega
   rcases hcond with hc | ⟨hc2, hc3⟩
   ·repeat' (first|(with_reducible first|apply qA|apply qB|apply qC|apply qD|apply qE|apply qF)|(refine qL rfl (WF.of ?_) ?_; first|rfl|skip)|(simp (disch:=omega) only [go_sem, simprocAttr, Blk.men, Blk.keysIn, hc1, hc])|exact qM rfl rfl rfl|(refine qG rfl ?_)|(refine qH rfl ?_)|(refine qI rfl ?_ ?_<;>intro hc<;>(try simp only [go_sem] at hc))|(refine qJ ?_ ?_<;>intro hc<;>(try simp only [hc])<;>(try simp only [go_sem] at hc)))
    (refine retS_ent (Ent.rel 94 rfl) ?_; simp (disch:=omega) only [go_sem,simprocAttr,Blk.men,Blk.keysIn])
    (refine retS_ent (Ent.rel 156 rfl) ?_; simp (disch:=omega) only [go_sem,simprocAttr,Blk.men,Blk.keysIn])
    refine retS_wk rfl ?_ (by simp only [Blk.nb, rowC_nb, D.nb, D.nbs, C.nb, C.nbs, C.nbss, rows_nb eI_nb, Bool.and_true, Bool.not_false, Bool.and_self, bD, dI, iD, rows_nb eP_nb, rows_nb eF_nb, rows_nb eY_nb]); exact .refl _
   ·repeat' (first|(with_reducible first|apply qA|apply qB|apply qC|apply qD|apply qE|apply qF)|(refine qL rfl (WF.of ?_) ?_; first|rfl|skip)|(simp (disch:=omega) only [go_sem, simprocAttr, Blk.men, Blk.keysIn, hc1, hc2, hc3])|exact qM rfl rfl rfl|(refine qG rfl ?_)|(refine qH rfl ?_)|(refine qI rfl ?_ ?_<;>intro hc<;>(try simp only [go_sem] at hc))|(refine qJ ?_ ?_<;>intro hc<;>(try simp only [hc])<;>(try simp only [go_sem] at hc)))
    (refine retS_ent (Ent.rel 94 rfl) ?_; simp (disch:=omega) only [go_sem,simprocAttr,Blk.men,Blk.keysIn])
    (refine retS_ent (Ent.rel 156 rfl) ?_; simp (disch:=omega) only [go_sem,simprocAttr,Blk.men,Blk.keysIn])
    refine retS_wk rfl ?_ (by simp only [Blk.nb, rowC_nb, D.nb, D.nbs, C.nb, C.nbs, C.nbss, rows_nb eI_nb, Bool.and_true, Bool.not_false, Bool.and_self, bD, dI, iD, rows_nb eP_nb, rows_nb eF_nb, rows_nb eY_nb]); exact .refl _
end Go.Dw.Seat
end
section
set_option linter.unusedSimpArgs false
set_option maxRecDepth 100000
namespace Go.Dw.Seat
open Go Go.Dw Go.Proofs Go.IntWalk
theorem scMin (a b : Int) : (if b < a then b else a) = min a b := by split <;> omega
theorem scMax (a b : Int) : (if a < b then b else a) = max a b := by split <;> omega
theorem sc_div_of {X L n : Int} (hL : 0 < L) (h1 : n * L ≤ X) (h2 : X - n * L < L) : X / L = n := by
 have h3 := (Int.ediv_emod_unique (a := X) (b := L) (r := X - n * L) (q := n) hL).2 ⟨by rw [Int.mul_comm n L]; omega, by omega, h2⟩
 exact h3.1
theorem sc_fdiv {n b : Int} (hb : 1 ≤ b) : n / b = if n.tmod b < 0 then n.tdiv b - 1 else n.tdiv b := by
 have he := Int.mul_tdiv_add_tmod n b
 rcases Int.le_total 0 n with h | h
 ·have h1 := Int.tmod_nonneg b h
  rw [if_neg (by omega), Int.tdiv_eq_ediv_of_nonneg h]
 ·obtain ⟨m, rfl⟩ : ∃ m : Int, n = -m := ⟨-n, by omega⟩
  rw [Int.neg_tmod, Int.neg_tdiv]
  rw [Int.neg_tmod, Int.neg_tdiv] at he
  have hm : 0 ≤ m := by omega
  have hm1 := Int.tmod_nonneg b hm
  have hm2 := Int.tmod_lt_of_pos m (show 0 < b by omega)
  generalize m.tmod b = r at *
  generalize m.tdiv b = q at *
  rw [Int.mul_neg] at he
  split
  ·refine sc_div_of (by omega) ?_ ?_
   ·rw [Int.sub_mul, Int.neg_mul, Int.mul_comm q b]; omega
   ·rw [Int.sub_mul, Int.neg_mul, Int.mul_comm q b]; omega
  ·refine sc_div_of (by omega) ?_ ?_
   ·rw [Int.neg_mul, Int.mul_comm q b]; omega
   ·rw [Int.neg_mul, Int.mul_comm q b]; omega
theorem sc_tdiv_b {n b B : Int} (hb : 1 ≤ b) (hn : -B ≤ n ∧ n ≤ B) : -B ≤ n.tdiv b ∧ n.tdiv b ≤ B := by
 rcases Int.le_total 0 n with h | h
 ·rw [Int.tdiv_eq_ediv_of_nonneg h]
  have h1 := Int.ediv_le_self b h
  have h2 := Int.ediv_nonneg h (show 0 ≤ b by omega)
  omega
 ·obtain ⟨m, rfl⟩ : ∃ m : Int, n = -m := ⟨-n, by omega⟩
  have hm : 0 ≤ m := by omega
  rw [Int.neg_tdiv, Int.tdiv_eq_ediv_of_nonneg hm]
  have h1 := Int.ediv_le_self b hm
  have h2 := Int.ediv_nonneg hm (show 0 ≤ b by omega)
  omega
theorem sc_tmod_b {n b B : Int} (hb : 1 ≤ b) (hn : -B ≤ n ∧ n ≤ B) : -B ≤ n.tmod b ∧ n.tmod b ≤ B := by
 rcases Int.le_total 0 n with h | h
 ·rw [Int.tmod_eq_emod_of_nonneg h]
  have h1 := Int.emod_nonneg n (show b ≠ 0 by omega)
  have h3 := Int.mul_ediv_add_emod n b
  have h4 := Int.mul_nonneg (show 0 ≤ b by omega) (Int.ediv_nonneg h (show 0 ≤ b by omega))
  omega
 ·obtain ⟨m, rfl⟩ : ∃ m : Int, n = -m := ⟨-n, by omega⟩
  have hm : 0 ≤ m := by omega
  rw [Int.neg_tmod, Int.tmod_eq_emod_of_nonneg hm]
  have h1 := Int.emod_nonneg m (show b ≠ 0 by omega)
  have h3 := Int.mul_ediv_add_emod m b
  have h4 := Int.mul_nonneg (show 0 ≤ b by omega) (Int.ediv_nonneg hm (show 0 ≤ b by omega))
  omega
theorem scDown (n b : Int) (hb : 1 ≤ b ∧ b ≤ 1000) (hn : -100000000 ≤ n ∧ n ≤ 100000000) : DCall Try.prog 135 [dI n, dI b] [] (dI (n / b)) [] := by
 have h0 : (b = 0) = False := eq_false (by omega)
 have hq := sc_fdiv (n := n) hb.1
 have hb1 := sc_tdiv_b hb.1 hn
 have hb2 := sc_tmod_b hb.1 hn
 generalize hQ : n.tdiv b = q at *
 generalize hR : n.tmod b = r at *
 rw [hq]
 by_cases h : r < 0
 ·rw [if_pos h]
  have hd : decide (r < 0) = true := decide_eq_true h
  refine DCall.of Try.func135 sf135 hb135 (Nat.le_of_ble_eq_true rfl) (okRes_nil fun _ => rfl) ?_; simp only [s135, idxs, Nat.reduceAdd]
  repeat' (first|(with_reducible first|apply qA|apply qB|apply qC|apply qD|apply qE|apply qF)|(simp (disch:=omega) only [go_sem, simprocAttr, qN, qO, qP, qQ, h0, hQ, hR, hd])|exact qM rfl rfl rfl|(refine qG rfl ?_)|(refine qH rfl ?_)|(refine qI rfl ?_ ?_<;>intro hc<;>(try simp only [go_sem] at hc))|(refine qJ ?_ ?_<;>intro hc<;>(try simp only [hc])<;>(try simp only [go_sem] at hc)))
 ·rw [if_neg h]
  have hd : decide (r < 0) = false := decide_eq_false h
  refine DCall.of Try.func135 sf135 hb135 (Nat.le_of_ble_eq_true rfl) (okRes_nil fun _ => rfl) ?_; simp only [s135, idxs, Nat.reduceAdd]
  repeat' (first|(with_reducible first|apply qA|apply qB|apply qC|apply qD|apply qE|apply qF)|(simp (disch:=omega) only [go_sem, simprocAttr, qN, qO, qP, qQ, h0, hQ, hR, hd])|exact qM rfl rfl rfl|(refine qG rfl ?_)|(refine qH rfl ?_)|(refine qI rfl ?_ ?_<;>intro hc<;>(try simp only [go_sem] at hc))|(refine qJ ?_ ?_<;>intro hc<;>(try simp only [hc])<;>(try simp only [go_sem] at hc)))
def upQ (n b : Int) : Int := 0 - (0 - n) / b
theorem div_bnd {n b B : Int} (hb : 1 ≤ b) (hB : 0 ≤ B) (hn : -B ≤ n ∧ n ≤ B) : -B ≤ n / b ∧ n / b ≤ B := by
 constructor
 ·rw [Int.le_ediv_iff_mul_le (by omega)]
  have : B * 1 ≤ B * b := Int.mul_le_mul_of_nonneg_left hb hB
  rw [Int.neg_mul]
  omega
 ·refine Int.le_of_lt_add_one (Int.ediv_lt_of_lt_mul (by omega) ?_)
  have : (B + 1) * 1 ≤ (B + 1) * b := Int.mul_le_mul_of_nonneg_left hb (by omega)
  omega
theorem scUp (n b : Int) (hb : 1 ≤ b ∧ b ≤ 1000) (hn : -100000000 ≤ n ∧ n ≤ 100000000) : DCall Try.prog 95 [dI n, dI b] [] (dI (upQ n b)) [] := by
 have h1 := scDown (0 - n) b hb (by omega)
 have h2 := div_bnd hb.1 (B := 100000000) (n := 0 - n) (by decide) (by omega)
 unfold upQ
 generalize hQ : (0 - n) / b = q at *
 refine DCall.of Try.func95 sf95 hb95 (Nat.le_of_ble_eq_true rfl) (okRes_nil fun _ => rfl) ?_; simp only [s95, idxs, Nat.reduceAdd]
 repeat' (first|(with_reducible first|apply qA|apply qB|apply qC|apply qD|apply qE|apply qF)|(simp (disch:=omega) only [go_sem, simprocAttr, qN, qO, qP, qQ])|exact qM rfl rfl rfl|(refine qG rfl ?_)|(refine qK (h1) (by decide) ?_)|(refine qH rfl ?_)|(refine qI rfl ?_ ?_<;>intro hc<;>(try simp only [go_sem] at hc))|(refine qJ ?_ ?_<;>intro hc<;>(try simp only [hc])<;>(try simp only [go_sem] at hc)))
theorem scEvery : DCall Try.prog 47 [] [] (.agg [dI 1, dI 10000]) [] := by
 refine DCall.of Try.func47 sf47 hb47 (Nat.le_of_ble_eq_true rfl) (okRes_nil fun _ => rfl) ?_; simp only [s47, idxs, Nat.reduceAdd]
 repeat' (first|(with_reducible first|apply qA|apply qB|apply qC|apply qD|apply qE|apply qF)|(simp (disch:=omega) only [go_sem, simprocAttr, qN, qO, qP, qQ])|exact qM rfl rfl rfl|(refine qG rfl ?_)|(refine qH rfl ?_)|(refine qI rfl ?_ ?_<;>intro hc<;>(try simp only [go_sem] at hc))|(refine qJ ?_ ?_<;>intro hc<;>(try simp only [hc])<;>(try simp only [go_sem] at hc)))
theorem scBoth (a b c d : Int) : DCall Try.prog 48 [.agg [dI a, dI b], .agg [dI c, dI d]] [] (.agg [dI (max a c), dI (min b d)]) [] := by
 refine DCall.of Try.func48 sf48 hb48 (Nat.le_of_ble_eq_true rfl) (okRes_nil fun _ => rfl) ?_; simp only [s48, idxs, Nat.reduceAdd]
 repeat' (first|(with_reducible first|apply qA|apply qB|apply qC|apply qD|apply qE|apply qF)|(simp (disch:=omega) only [go_sem, simprocAttr, qN, qO, qP, qQ, scMin, scMax])|exact qM rfl rfl rfl|(refine qG rfl ?_)|(refine qH rfl ?_)|(refine qI rfl ?_ ?_<;>intro hc<;>(try simp only [go_sem] at hc))|(refine qJ ?_ ?_<;>intro hc<;>(try simp only [hc])<;>(try simp only [go_sem] at hc)))
def amgF (m s : Int × Int) : Int × Int := (max 1 (upQ (1000 * (m.1 - s.2)) m.2), min 10000 (1000 * (m.1 - s.1) / m.2))
theorem scAmong (m s : Int × Int) (hm : -10000 ≤ m.1 ∧ m.1 ≤ 10000) (hc : 1 ≤ m.2 ∧ m.2 ≤ 2) (hs : -3000 ≤ s.1 ∧ s.1 ≤ 3000 ∧ -3000 ≤ s.2 ∧ s.2 ≤ 3000) : DCall Try.prog 97 [.agg [dI m.1, dI m.2], .agg [dI s.1, dI s.2]] [] (.agg [dI (amgF m s).1, dI (amgF m s).2]) [] := by
 have h1 := scEvery
 have h2 := scUp (1000 * (m.1 - s.2)) m.2 (by omega) (by omega)
 have h3 := scDown (1000 * (m.1 - s.1)) m.2 (by omega) (by omega)
 have h4 := scBoth 1 10000 (upQ (1000 * (m.1 - s.2)) m.2) (1000 * (m.1 - s.1) / m.2)
 refine DCall.of Try.func97 sf97 hb97 (Nat.le_of_ble_eq_true rfl) (okRes_nil fun _ => rfl) ?_; simp only [s97, idxs, Nat.reduceAdd]
 repeat' (first|(with_reducible first|apply qA|apply qB|apply qC|apply qD|apply qE|apply qF)|(refine qL rfl (WF.of ?_) ?_; first|rfl|skip)|(simp (disch:=omega) only [go_sem, simprocAttr, qN, qO, qP, qQ])|exact qM rfl rfl rfl|(refine qG rfl ?_)|(refine qK (h1) (by decide) ?_)|(refine qK (h2) (by decide) ?_)|(refine qK (h3) (by decide) ?_)|(refine qK (h4) (by decide) ?_)|(refine qH rfl ?_)|(refine qI rfl ?_ ?_<;>intro hc<;>(try simp only [go_sem] at hc))|(refine qJ ?_ ?_<;>intro hc<;>(try simp only [hc])<;>(try simp only [go_sem] at hc)))
structure Wsh where
 l : Int × Int
 w : Int × Int
 h : Int × Int
 o : Int × Int
 i : Int × Int
 op : Bool
structure Wsh.ok (s : Wsh) : Prop where
 l : 0 ≤ s.l.1 ∧ s.l.1 ≤ s.l.2 ∧ s.l.2 ≤ 3000
 w : 0 ≤ s.w.1 ∧ s.w.1 ≤ s.w.2 ∧ s.w.2 ≤ 3000
 h : 0 ≤ s.h.1 ∧ s.h.1 ≤ s.h.2 ∧ s.h.2 ≤ 3000
 o : -3000 ≤ s.o.1 ∧ s.o.1 ≤ s.o.2 ∧ s.o.2 ≤ 3000
 i : -3000 ≤ s.i.1 ∧ s.i.1 ≤ s.i.2 ∧ s.i.2 ≤ 3000
abbrev wshL (w : Wsh) : List D := [dI w.l.1, dI w.l.2, dI w.w.1, dI w.w.2, dI w.h.1, dI w.h.2, dI w.o.1, dI w.o.2, dI w.i.1, dI w.i.2, bD w.op]
attribute [go_sem] wshL
def tgtF (w : Wsh) : Nat → Int × Int
 | 0 => w.l
 | 1 => w.w
 | 2 => w.l
 | 3 => w.w
 | 4 => w.h
 | 5 => w.o
 | 6 => w.i
 | 7 => w.o
 | _ => w.i
theorem scTarget (w : Wsh) (k : Nat) (hk : k ≤ 8) : DCall Try.prog 98 [.agg (wshL w), dI k] [] (.agg [dI (tgtF w k).1, dI (tgtF w k).2]) [] := by
 rcases (by omega : k = 0 ∨ k = 1 ∨ k = 2 ∨ k = 3 ∨ k = 4 ∨ k = 5 ∨ k = 6 ∨ k = 7 ∨ k = 8) with rfl | rfl | rfl | rfl | rfl | rfl | rfl | rfl | rfl
 all_goals unfold tgtF
 all_goals refine DCall.of Try.func98 sf98 hb98 (Nat.le_of_ble_eq_true rfl) (okRes_nil fun _ => rfl) ?_; simp only [s98, idxs, Nat.reduceAdd]
 all_goals repeat' (first|(with_reducible first|apply qA|apply qB|apply qC|apply qD|apply qE|apply qF)|(simp (disch:=omega) only [go_sem, simprocAttr, qN, qO, qP, qQ])|exact qM rfl rfl rfl|(refine qG rfl ?_)|(refine qH rfl ?_)|(refine qI rfl ?_ ?_<;>intro hc<;>(try simp only [go_sem] at hc))|(refine qJ ?_ ?_<;>intro hc<;>(try simp only [hc])<;>(try simp only [go_sem] at hc)))
abbrev bloL (z : Bla) (o : Bool) : List D := [dI z.tab, dIs false [z.p0, z.p1, z.p2, z.p3], dI z.height, dIs false [z.t0, z.t1], dIs false [z.b0, z.b1], dI z.slot, bD o]
attribute [go_sem] bloL
def foldN (o : Bool) : Int := if o then 1 else 2
theorem scFolds (z : Bla) (o : Bool) : DCall Try.prog 90 [.agg (bloL z o)] [] (dI (foldN o)) [] := by
 cases o
 all_goals unfold foldN
 all_goals refine DCall.of Try.func90 sf90 hb90 (Nat.le_of_ble_eq_true rfl) (okRes_nil fun _ => rfl) ?_; simp only [s90, idxs, Nat.reduceAdd]
 all_goals repeat' (first|(with_reducible first|apply qA|apply qB|apply qC|apply qD|apply qE|apply qF)|(simp (disch:=omega) only [go_sem, simprocAttr, qN, qO, qP, qQ])|exact qM rfl rfl rfl|(refine qG rfl ?_)|(refine qH rfl ?_)|(refine qI rfl ?_ ?_<;>intro hc<;>(try simp only [go_sem] at hc))|(refine qJ ?_ ?_<;>intro hc<;>(try simp only [hc])<;>(try simp only [go_sem] at hc)))
theorem scGap (z : Bla) (h : z.ok) (o : Bool) (x y : Int) (hx : 0 ≤ x ∧ x ≤ 3000) (hy : 0 ≤ y ∧ y ≤ 3000) (k : Nat) (hk : k ≤ 1) : DCall Try.prog 137 [.agg (bloL z o), dIs false [x, y], dI k] [] (.agg [dI ((if k = 0 then z.p1 else z.p0) - 2 * (if k = 0 then x else y)), dI 1]) [] := by
 have h0 := h.p0
 have h1 := h.p1
 rcases (by omega : k = 0 ∨ k = 1) with rfl | rfl
 all_goals refine DCall.of Try.func137 sf137 hb137 (Nat.le_of_ble_eq_true rfl) (okRes_nil fun _ => rfl) ?_; simp only [s137, idxs, Nat.reduceAdd]
 all_goals repeat' (first|(with_reducible first|apply qA|apply qB|apply qC|apply qD|apply qE|apply qF)|(refine qL rfl (WF.of ?_) ?_; first|rfl|skip)|(simp (disch:=omega) only [go_sem, simprocAttr, qN, qO, qP, qQ])|exact qM rfl rfl rfl|(refine qG rfl ?_)|(refine qH rfl ?_)|(refine qI rfl ?_ ?_<;>intro hc<;>(try simp only [go_sem] at hc))|(refine qJ ?_ ?_<;>intro hc<;>(try simp only [hc])<;>(try simp only [go_sem] at hc)))
end Go.Dw.Seat
end
section
set_option linter.unusedSimpArgs false
set_option maxRecDepth 100000
namespace Go.Dw.Seat
open Go Go.Dw Go.Proofs Go.IntWalk
def eM2 (x : Int × Int) : List C := [.v (.int .i64 x.1), .v (.int .i64 x.2)]
theorem eM2_nb (x : Int × Int) : C.nbs (eM2 x) = true := rfl
attribute [go_sem] eM2
theorem snocM2 (l : List (Int × Int)) (a b : Int) : rowC (rows eM2 l) ++ [[D.c (.v (.int .i64 a)), D.c (.v (.int .i64 b))]] = rowC (rows eM2 (l ++ [(a, b)])) := by simp [rowC, rows, eM2]
def measL (z : Bla) (o : Bool) : List (Int × Int) := [(z.p0, 1), (z.p1, 1), (z.p2, 1), (z.p3, 1), (z.height, foldN o), (z.p1 - 2 * z.t0, 1), (z.p0 - 2 * z.t1, 1), (z.p1 - 2 * z.b0, 1), (z.p0 - 2 * z.b1, 1)]
theorem measT0 (z : Bla) (o : Bool) : (measL z o).take 0 = [] := rfl
theorem measT1 (z : Bla) (o : Bool) : (measL z o).take 1 = [(z.p0, 1)] := rfl
theorem measT2 (z : Bla) (o : Bool) : (measL z o).take 2 = [(z.p0, 1), (z.p1, 1)] := rfl
theorem measT3 (z : Bla) (o : Bool) : (measL z o).take 3 = [(z.p0, 1), (z.p1, 1), (z.p2, 1)] := rfl
theorem measT4 (z : Bla) (o : Bool) : (measL z o).take 4 = [(z.p0, 1), (z.p1, 1), (z.p2, 1), (z.p3, 1)] := rfl
theorem measT5 (z : Bla) (o : Bool) : (measL z o).take 5 = [(z.p0, 1), (z.p1, 1), (z.p2, 1), (z.p3, 1), (z.height, foldN o)] := rfl
theorem measT6 (z : Bla) (o : Bool) : (measL z o).take 6 = [(z.p0, 1), (z.p1, 1), (z.p2, 1), (z.p3, 1), (z.height, foldN o), (z.p1 - 2 * z.t0, 1)] := rfl
theorem measT7 (z : Bla) (o : Bool) : (measL z o).take 7 = [(z.p0, 1), (z.p1, 1), (z.p2, 1), (z.p3, 1), (z.height, foldN o), (z.p1 - 2 * z.t0, 1), (z.p0 - 2 * z.t1, 1)] := rfl
theorem measT8 (z : Bla) (o : Bool) : (measL z o).take 8 = [(z.p0, 1), (z.p1, 1), (z.p2, 1), (z.p3, 1), (z.height, foldN o), (z.p1 - 2 * z.t0, 1), (z.p0 - 2 * z.t1, 1), (z.p1 - 2 * z.b0, 1)] := rfl
theorem measT9 (z : Bla) (o : Bool) : (measL z o).take 9 = measL z o := rfl
set_option maxHeartbeats 8000000 in
theorem scMeasures (z : Bla) (h : z.ok) (o : Bool) : DCall Try.prog 96 [.agg (bloL z o)] [] (.c (.sl false 2 (rows eM2 (measL z o)))) [] := by
 have g0 := scGap z h o z.t0 z.t1 h.t0 h.t1 0 (by decide)
 have g1 := scGap z h o z.t0 z.t1 h.t0 h.t1 1 (by decide)
 have g2 := scGap z h o z.b0 z.b1 h.b0 h.b1 0 (by decide)
 have g3 := scGap z h o z.b0 z.b1 h.b0 h.b1 1 (by decide)
 simp only [if_true, show ¬ (1 : Nat) = 0 from by decide, if_false] at g0 g1 g2 g3
 have c1 := scFolds z o
 have hl : ∀ n, (List.take n (measL z o)).length ≤ 9 := fun n => by rw [List.length_take]; exact Nat.le_trans (Nat.min_le_right _ _) (show 9 ≤ 9 from Nat.le_refl _)
 refine DCall.of Try.func96 sf96 hb96 (Nat.le_of_ble_eq_true rfl) (okRes_nil fun _ => rfl) ?_; simp only [s96, idxs, Nat.reduceAdd]
 repeat' (first|(with_reducible first|apply qA|apply qB|apply qC|apply qD|apply qE|apply qF)|(refine qL rfl (WF.of ?_) ?_; first|rfl|skip)|(simp (disch:=omega) only [go_sem, simprocAttr, qN, qO, qP, qQ])|exact qM rfl rfl rfl|(refine qG rfl ?_)|(refine qH rfl ?_)|(refine qI rfl ?_ ?_<;>intro hc<;>(try simp only [go_sem] at hc))|(refine qJ ?_ ?_<;>intro hc<;>(try simp only [hc])<;>(try simp only [go_sem] at hc)))
 refine DW.ent (Ent.adopt 2 20 2 rfl rfl (by simp [menS, D.men, D.mens, Blk.men])) ?_
 simp only [ins, Nat.reduceLT, Nat.reduceEqDiff, ↓reduceIte]
 refine DW.loop (ι := { i : Nat // i ≤ 4 }) (fun i => ⟨54, [(12, dI i.1), (11, dI 4), (10, dIs false [z.p0, z.p1, z.p2, z.p3]), (2, .own 20), (1, .box 1 0)], [(20, .row 2 (rowC (rows eM2 ((measL z o).take i.1)))), (1, .box (bloL z o))]⟩) (fun i => 4 - i.1) ⟨0, Nat.zero_le _⟩ ?_ ?_
 ·refine Ent.to ?_ ?_ <;> simp (disch:=omega) only [qR,qS,qTw,qU,get,Nat.reduceEqDiff,↓reduceIte,qV,qW,qX,qY,qZ,and_self,dI,i64_in,and_true,true_and,rA,rB,rC,rD,measT0]
  all_goals first | exact .refl _ | exact ⟨.refl _, .refl _⟩
 rintro ⟨i, hi⟩
 dsimp only
 rcases (by omega : i = 0 ∨ i = 1 ∨ i = 2 ∨ i = 3 ∨ i = 4) with rfl | rfl | rfl | rfl | rfl
 ·repeat' (first|(with_reducible first|apply qA|apply qB|apply qC|apply qD|apply qE|apply qF)|(refine qL rfl (WF.of ?_) ?_; first|rfl|skip)|(simp (disch:=omega) only [go_sem, simprocAttr, qN, qO, qP, qQ, measT0, snocM2, List.nil_append])|exact qM rfl rfl rfl|(refine qG rfl ?_)|(refine qH rfl ?_)|(refine qI rfl ?_ ?_<;>intro hc<;>(try simp only [go_sem] at hc))|(refine qJ ?_ ?_<;>intro hc<;>(try simp only [hc])<;>(try simp only [go_sem] at hc)))
  refine ⟨⟨1, by omega⟩, ?_, Ent.to ?_ ?_⟩ <;> first | (show _ < _; (try simp only); omega) | (simp (disch:=omega) only [qR,qS,qTw,qU,get,Nat.reduceEqDiff,↓reduceIte,qV,qW,qX,qY,qZ,and_self,dI,i64_in,and_true,true_and,rA,rB,rC,rD, measT1])
  all_goals first | exact .refl _ | exact ⟨.refl _, .refl _⟩
 ·repeat' (first|(with_reducible first|apply qA|apply qB|apply qC|apply qD|apply qE|apply qF)|(refine qL rfl (WF.of ?_) ?_; first|rfl|skip)|(simp (disch:=omega) only [go_sem, simprocAttr, qN, qO, qP, qQ, measT1, snocM2])|exact qM rfl rfl rfl|(refine qG rfl ?_)|(refine qH rfl ?_)|(refine qI rfl ?_ ?_<;>intro hc<;>(try simp only [go_sem] at hc))|(refine qJ ?_ ?_<;>intro hc<;>(try simp only [hc])<;>(try simp only [go_sem] at hc)))
  refine ⟨⟨2, by omega⟩, ?_, Ent.to ?_ ?_⟩ <;> first | (show _ < _; (try simp only); omega) | (simp (disch:=omega) only [qR,qS,qTw,qU,get,Nat.reduceEqDiff,↓reduceIte,qV,qW,qX,qY,qZ,and_self,dI,i64_in,and_true,true_and,rA,rB,rC,rD, measT2])
  all_goals first | exact .refl _ | exact ⟨.refl _, .refl _⟩
 ·repeat' (first|(with_reducible first|apply qA|apply qB|apply qC|apply qD|apply qE|apply qF)|(refine qL rfl (WF.of ?_) ?_; first|rfl|skip)|(simp (disch:=omega) only [go_sem, simprocAttr, qN, qO, qP, qQ, measT2, snocM2])|exact qM rfl rfl rfl|(refine qG rfl ?_)|(refine qH rfl ?_)|(refine qI rfl ?_ ?_<;>intro hc<;>(try simp only [go_sem] at hc))|(refine qJ ?_ ?_<;>intro hc<;>(try simp only [hc])<;>(try simp only [go_sem] at hc)))
  refine ⟨⟨3, by omega⟩, ?_, Ent.to ?_ ?_⟩ <;> first | (show _ < _; (try simp only); omega) | (simp (disch:=omega) only [qR,qS,qTw,qU,get,Nat.reduceEqDiff,↓reduceIte,qV,qW,qX,qY,qZ,and_self,dI,i64_in,and_true,true_and,rA,rB,rC,rD, measT3])
  all_goals first | exact .refl _ | exact ⟨.refl _, .refl _⟩
 ·repeat' (first|(with_reducible first|apply qA|apply qB|apply qC|apply qD|apply qE|apply qF)|(refine qL rfl (WF.of ?_) ?_; first|rfl|skip)|(simp (disch:=omega) only [go_sem, simprocAttr, qN, qO, qP, qQ, measT3, snocM2])|exact qM rfl rfl rfl|(refine qG rfl ?_)|(refine qH rfl ?_)|(refine qI rfl ?_ ?_<;>intro hc<;>(try simp only [go_sem] at hc))|(refine qJ ?_ ?_<;>intro hc<;>(try simp only [hc])<;>(try simp only [go_sem] at hc)))
  refine ⟨⟨4, by omega⟩, ?_, Ent.to ?_ ?_⟩ <;> first | (show _ < _; (try simp only); omega) | (simp (disch:=omega) only [qR,qS,qTw,qU,get,Nat.reduceEqDiff,↓reduceIte,qV,qW,qX,qY,qZ,and_self,dI,i64_in,and_true,true_and,rA,rB,rC,rD, measT4])
  all_goals first | exact .refl _ | exact ⟨.refl _, .refl _⟩
 repeat' (first|(with_reducible first|apply qA|apply qB|apply qC|apply qD|apply qE|apply qF)|(refine qL rfl (WF.of ?_) ?_; first|rfl|skip)|(simp (disch:=omega) only [go_sem, simprocAttr, qN, qO, qP, qQ, measT4, snocM2])|exact qM rfl rfl rfl|(refine qG rfl ?_)|(refine qK (c1) (by decide) ?_)|(refine qH rfl ?_)|(refine qI rfl ?_ ?_<;>intro hc<;>(try simp only [go_sem] at hc))|(refine qJ ?_ ?_<;>intro hc<;>(try simp only [hc])<;>(try simp only [go_sem] at hc)))
 refine DW.loop (ι := { i : Nat // i ≤ 2 }) (fun i => ⟨54, [(38, dI i.1), (37, .agg [dIs false [z.t0, z.t1], dIs false [z.b0, z.b1]]), (2, .own 20), (1, .box 1 0)], [(20, .row 2 (rowC (rows eM2 ((measL z o).take (5 + 2 * i.1))))), (1, .box (bloL z o))]⟩) (fun i => 2 - i.1) ⟨0, Nat.zero_le _⟩ ?_ ?_
 ·refine Ent.to ?_ ?_ <;> simp (disch:=omega) only [qR,qS,qTw,qU,get,Nat.reduceEqDiff,↓reduceIte,qV,qW,qX,qY,qZ,and_self,dI,i64_in,and_true,true_and,rA,rB,rC,rD,measT5,Nat.mul_zero,Nat.add_zero]
  all_goals first | exact .refl _ | exact ⟨.refl _, .refl _⟩
 rintro ⟨i, hi⟩
 dsimp only
 rcases (by omega : i = 0 ∨ i = 1 ∨ i = 2) with rfl | rfl | rfl
 ·repeat' (first|(with_reducible first|apply qA|apply qB|apply qC|apply qD|apply qE|apply qF)|(refine qL rfl (WF.of ?_) ?_; first|rfl|skip)|(simp (disch:=omega) only [go_sem, simprocAttr, qN, qO, qP, qQ])|exact qM rfl rfl rfl|(refine qG rfl ?_)|(refine qH rfl ?_)|(refine qI rfl ?_ ?_<;>intro hc<;>(try simp only [go_sem] at hc))|(refine qJ ?_ ?_<;>intro hc<;>(try simp only [hc])<;>(try simp only [go_sem] at hc)))
  refine DW.loop (ι := { j : Nat // j ≤ 2 }) (fun j => ⟨54, [(41, dI j.1), (38, dI 0), (37, .agg [dIs false [z.t0, z.t1], dIs false [z.b0, z.b1]]), (6, dIs false [z.t0, z.t1]), (2, .own 20), (1, .box 1 0)], [(20, .row 2 (rowC (rows eM2 ((measL z o).take (5 + j.1))))), (1, .box (bloL z o))]⟩) (fun j => 2 - j.1) ⟨0, Nat.zero_le _⟩ ?_ ?_
  ·refine Ent.to ?_ ?_ <;> simp (disch:=omega) only [qR,qS,qTw,qU,get,Nat.reduceEqDiff,↓reduceIte,qV,qW,qX,qY,qZ,and_self,dI,i64_in,and_true,true_and,rA,rB,rC,rD,measT5,Nat.mul_zero,Nat.add_zero]
   all_goals first | exact .refl _ | exact ⟨.refl _, .refl _⟩
  rintro ⟨j, hj⟩
  dsimp only
  rcases (by omega : j = 0 ∨ j = 1 ∨ j = 2) with rfl | rfl | rfl
  ·repeat' (first|(with_reducible first|apply qA|apply qB|apply qC|apply qD|apply qE|apply qF)|(refine qL rfl (WF.of ?_) ?_; first|rfl|skip)|(simp (disch:=omega) only [go_sem, simprocAttr, qN, qO, qP, qQ, measT5, snocM2])|exact qM rfl rfl rfl|(refine qG rfl ?_)|(refine qK (g0) (by decide) ?_)|(refine qH rfl ?_)|(refine qI rfl ?_ ?_<;>intro hc<;>(try simp only [go_sem] at hc))|(refine qJ ?_ ?_<;>intro hc<;>(try simp only [hc])<;>(try simp only [go_sem] at hc)))
   refine ⟨⟨1, by omega⟩, ?_, Ent.to ?_ ?_⟩ <;> first | (show _ < _; (try simp only); omega) | (simp (disch:=omega) only [qR,qS,qTw,qU,get,Nat.reduceEqDiff,↓reduceIte,qV,qW,qX,qY,qZ,and_self,dI,i64_in,and_true,true_and,rA,rB,rC,rD, measT6])
   all_goals first | exact .refl _ | exact ⟨.refl _, .refl _⟩
  ·repeat' (first|(with_reducible first|apply qA|apply qB|apply qC|apply qD|apply qE|apply qF)|(refine qL rfl (WF.of ?_) ?_; first|rfl|skip)|(simp (disch:=omega) only [go_sem, simprocAttr, qN, qO, qP, qQ, measT6, snocM2])|exact qM rfl rfl rfl|(refine qG rfl ?_)|(refine qK (g1) (by decide) ?_)|(refine qH rfl ?_)|(refine qI rfl ?_ ?_<;>intro hc<;>(try simp only [go_sem] at hc))|(refine qJ ?_ ?_<;>intro hc<;>(try simp only [hc])<;>(try simp only [go_sem] at hc)))
   refine ⟨⟨2, by omega⟩, ?_, Ent.to ?_ ?_⟩ <;> first | (show _ < _; (try simp only); omega) | (simp (disch:=omega) only [qR,qS,qTw,qU,get,Nat.reduceEqDiff,↓reduceIte,qV,qW,qX,qY,qZ,and_self,dI,i64_in,and_true,true_and,rA,rB,rC,rD, measT7])
   all_goals first | exact .refl _ | exact ⟨.refl _, .refl _⟩
  ·repeat' (first|(with_reducible first|apply qA|apply qB|apply qC|apply qD|apply qE|apply qF)|(refine qL rfl (WF.of ?_) ?_; first|rfl|skip)|(simp (disch:=omega) only [go_sem, simprocAttr, qN, qO, qP, qQ])|exact qM rfl rfl rfl|(refine qG rfl ?_)|(refine qH rfl ?_)|(refine qI rfl ?_ ?_<;>intro hc<;>(try simp only [go_sem] at hc))|(refine qJ ?_ ?_<;>intro hc<;>(try simp only [hc])<;>(try simp only [go_sem] at hc)))
   refine ⟨⟨1, by omega⟩, ?_, Ent.to ?_ ?_⟩ <;> first | (show _ < _; (try simp only); omega) | (simp (disch:=omega) only [qR,qS,qTw,qU,get,Nat.reduceEqDiff,↓reduceIte,qV,qW,qX,qY,qZ,and_self,dI,i64_in,and_true,true_and,rA,rB,rC,rD])
   all_goals first | exact .refl _ | exact ⟨.refl _, .refl _⟩
 ·repeat' (first|(with_reducible first|apply qA|apply qB|apply qC|apply qD|apply qE|apply qF)|(refine qL rfl (WF.of ?_) ?_; first|rfl|skip)|(simp (disch:=omega) only [go_sem, simprocAttr, qN, qO, qP, qQ])|exact qM rfl rfl rfl|(refine qG rfl ?_)|(refine qH rfl ?_)|(refine qI rfl ?_ ?_<;>intro hc<;>(try simp only [go_sem] at hc))|(refine qJ ?_ ?_<;>intro hc<;>(try simp only [hc])<;>(try simp only [go_sem] at hc)))
  refine DW.loop (ι := { j : Nat // j ≤ 2 }) (fun j => ⟨54, [(41, dI j.1), (38, dI 1), (37, .agg [dIs false [z.t0, z.t1], dIs false [z.b0, z.b1]]), (6, dIs false [z.b0, z.b1]), (2, .own 20), (1, .box 1 0)], [(20, .row 2 (rowC (rows eM2 ((measL z o).take (7 + j.1))))), (1, .box (bloL z o))]⟩) (fun j => 2 - j.1) ⟨0, Nat.zero_le _⟩ ?_ ?_
  ·refine Ent.to ?_ ?_ <;> simp (disch:=omega) only [qR,qS,qTw,qU,get,Nat.reduceEqDiff,↓reduceIte,qV,qW,qX,qY,qZ,and_self,dI,i64_in,and_true,true_and,rA,rB,rC,rD]
   all_goals first | exact .refl _ | exact ⟨.refl _, .refl _⟩
  rintro ⟨j, hj⟩
  dsimp only
  rcases (by omega : j = 0 ∨ j = 1 ∨ j = 2) with rfl | rfl | rfl
  ·repeat' (first|(with_reducible first|apply qA|apply qB|apply qC|apply qD|apply qE|apply qF)|(refine qL rfl (WF.of ?_) ?_; first|rfl|skip)|(simp (disch:=omega) only [go_sem, simprocAttr, qN, qO, qP, qQ, measT7, snocM2])|exact qM rfl rfl rfl|(refine qG rfl ?_)|(refine qK (g2) (by decide) ?_)|(refine qH rfl ?_)|(refine qI rfl ?_ ?_<;>intro hc<;>(try simp only [go_sem] at hc))|(refine qJ ?_ ?_<;>intro hc<;>(try simp only [hc])<;>(try simp only [go_sem] at hc)))
   refine ⟨⟨1, by omega⟩, ?_, Ent.to ?_ ?_⟩ <;> first | (show _ < _; (try simp only); omega) | (simp (disch:=omega) only [qR,qS,qTw,qU,get,Nat.reduceEqDiff,↓reduceIte,qV,qW,qX,qY,qZ,and_self,dI,i64_in,and_true,true_and,rA,rB,rC,rD, measT8])
   all_goals first | exact .refl _ | exact ⟨.refl _, .refl _⟩
  ·repeat' (first|(with_reducible first|apply qA|apply qB|apply qC|apply qD|apply qE|apply qF)|(refine qL rfl (WF.of ?_) ?_; first|rfl|skip)|(simp (disch:=omega) only [go_sem, simprocAttr, qN, qO, qP, qQ, measT8, snocM2])|exact qM rfl rfl rfl|(refine qG rfl ?_)|(refine qK (g3) (by decide) ?_)|(refine qH rfl ?_)|(refine qI rfl ?_ ?_<;>intro hc<;>(try simp only [go_sem] at hc))|(refine qJ ?_ ?_<;>intro hc<;>(try simp only [hc])<;>(try simp only [go_sem] at hc)))
   refine ⟨⟨2, by omega⟩, ?_, Ent.to ?_ ?_⟩ <;> first | (show _ < _; (try simp only); omega) | (simp (disch:=omega) only [qR,qS,qTw,qU,get,Nat.reduceEqDiff,↓reduceIte,qV,qW,qX,qY,qZ,and_self,dI,i64_in,and_true,true_and,rA,rB,rC,rD, measT9])
   all_goals first | exact .refl _ | exact ⟨.refl _, .refl _⟩
  ·repeat' (first|(with_reducible first|apply qA|apply qB|apply qC|apply qD|apply qE|apply qF)|(refine qL rfl (WF.of ?_) ?_; first|rfl|skip)|(simp (disch:=omega) only [go_sem, simprocAttr, qN, qO, qP, qQ])|exact qM rfl rfl rfl|(refine qG rfl ?_)|(refine qH rfl ?_)|(refine qI rfl ?_ ?_<;>intro hc<;>(try simp only [go_sem] at hc))|(refine qJ ?_ ?_<;>intro hc<;>(try simp only [hc])<;>(try simp only [go_sem] at hc)))
   refine ⟨⟨2, by omega⟩, ?_, Ent.to ?_ ?_⟩ <;> first | (show _ < _; (try simp only); omega) | (simp (disch:=omega) only [qR,qS,qTw,qU,get,Nat.reduceEqDiff,↓reduceIte,qV,qW,qX,qY,qZ,and_self,dI,i64_in,and_true,true_and,rA,rB,rC,rD])
   all_goals first | exact .refl _ | exact ⟨.refl _, .refl _⟩
 repeat' (first|(with_reducible first|apply qA|apply qB|apply qC|apply qD|apply qE|apply qF)|(refine qL rfl (WF.of ?_) ?_; first|rfl|skip)|(simp (disch:=omega) only [go_sem, simprocAttr, qN, qO, qP, qQ, measT9])|exact qM rfl rfl rfl|(refine qG rfl ?_)|(refine qH rfl ?_)|(refine qI rfl ?_ ?_<;>intro hc<;>(try simp only [go_sem] at hc))|(refine qJ ?_ ?_<;>intro hc<;>(try simp only [hc])<;>(try simp only [go_sem] at hc)))
 (refine retS_ent (Ent.rel 20 rfl) ?_; simp (disch:=omega) only [go_sem,simprocAttr,qN,qO,qP,qQ])
 refine retS_wk rfl ?_ (by simp only [Blk.nb, rowC_nb, D.nb, D.nbs, C.nb, C.nbs, C.nbss, rows_nb eI_nb, Bool.and_true, Bool.not_false, Bool.and_self, bD, dI, iD, rows_nb eI_nb, rows_nb eM2_nb]); exact .refl _
end Go.Dw.Seat
end
section
set_option linter.unusedSimpArgs false
set_option maxRecDepth 100000
namespace Go.Dw.Seat
open Go Go.Dw Go.Proofs Go.IntWalk
def hldF (z : Bla) (w : Wsh) : Nat → Int × Int
 | 0 => amgF (z.p0, 1) w.l
 | 1 => amgF (z.p1, 1) w.w
 | 2 => amgF (z.p2, 1) w.l
 | 3 => amgF (z.p3, 1) w.w
 | 4 => amgF (z.height, foldN w.op) w.h
 | 5 => if w.op then (1, 10000) else amgF (z.p1 - 2 * z.t0, 1) w.o
 | 6 => if w.op then (1, 10000) else amgF (z.p0 - 2 * z.t1, 1) w.i
 | 7 => amgF (z.p1 - 2 * z.b0, 1) w.o
 | 8 => amgF (z.p0 - 2 * z.b1, 1) w.i
 | _ => (max 1 1, min 10000 (1000 * z.slot))
theorem foldN_b (o : Bool) : 1 ≤ foldN o ∧ foldN o ≤ 2 := by cases o <;> decide
set_option maxHeartbeats 16000000 in
theorem scHolds (z : Bla) (h : z.ok) (w : Wsh) (hw : w.ok) (k : Nat) (hk : k ≤ 9) : DCall Try.prog 46 [.agg (bloL z w.op), .agg (wshL w), dI k] [] (.agg [dI (hldF z w k).1, dI (hldF z w k).2]) [] := by
 have hm := scMeasures z h w.op
 unfold measL at hm
 obtain ⟨w1, w2, w3, w4, w5⟩ := hw
 have hf := foldN_b w.op
 obtain ⟨y1, y2, y3, y4, y5, y6, y7, y8, y9, y10, y11⟩ := h
 have e := scEvery
 have eb := scBoth 1 10000 1 (1000 * z.slot)
 obtain ⟨wl, ww, wh, wo, wi, op⟩ := w
 dsimp only at *
 rcases (by omega : k = 0 ∨ k = 1 ∨ k = 2 ∨ k = 3 ∨ k = 4 ∨ k = 5 ∨ k = 6 ∨ k = 7 ∨ k = 8 ∨ k = 9) with rfl | rfl | rfl | rfl | rfl | rfl | rfl | rfl | rfl | rfl
 ·have t := scTarget ⟨wl, ww, wh, wo, wi, op⟩ 0 (by decide)
  have a := scAmong (z.p0, 1) wl (by dsimp only; omega) (show (1 : Int) ≤ 1 ∧ (1 : Int) ≤ 2 from ⟨by decide, by decide⟩) (by omega)
  dsimp only at t a
  cases op
  all_goals refine DCall.of Try.func46 sf46 hb46 (Nat.le_of_ble_eq_true rfl) (okRes_nil fun _ => rfl) ?_; simp only [s46, idxs, Nat.reduceAdd]
  all_goals repeat' (first|(with_reducible first|apply qA|apply qB|apply qC|apply qD|apply qE|apply qF)|(refine qL rfl (WF.of ?_) ?_; first|rfl|skip)|(simp (disch:=omega) only [go_sem, simprocAttr, qN, qO, qP, qQ, hldF, rF, rG])|exact qM rfl rfl rfl|(refine qG rfl ?_)|(refine qK (hm) (by decide) ?_)|(refine qK (t) (by decide) ?_)|(refine qK (a) (by decide) ?_)|(refine qH rfl ?_)|(refine qI rfl ?_ ?_<;>intro hc<;>(try simp only [go_sem] at hc))|(refine qJ ?_ ?_<;>intro hc<;>(try simp only [hc])<;>(try simp only [go_sem] at hc)))
 ·have t := scTarget ⟨wl, ww, wh, wo, wi, op⟩ 1 (by decide)
  have a := scAmong (z.p1, 1) ww (by dsimp only; omega) (show (1 : Int) ≤ 1 ∧ (1 : Int) ≤ 2 from ⟨by decide, by decide⟩) (by omega)
  dsimp only at t a
  cases op
  all_goals refine DCall.of Try.func46 sf46 hb46 (Nat.le_of_ble_eq_true rfl) (okRes_nil fun _ => rfl) ?_; simp only [s46, idxs, Nat.reduceAdd]
  all_goals repeat' (first|(with_reducible first|apply qA|apply qB|apply qC|apply qD|apply qE|apply qF)|(refine qL rfl (WF.of ?_) ?_; first|rfl|skip)|(simp (disch:=omega) only [go_sem, simprocAttr, qN, qO, qP, qQ, hldF, rF, rG])|exact qM rfl rfl rfl|(refine qG rfl ?_)|(refine qK (hm) (by decide) ?_)|(refine qK (t) (by decide) ?_)|(refine qK (a) (by decide) ?_)|(refine qH rfl ?_)|(refine qI rfl ?_ ?_<;>intro hc<;>(try simp only [go_sem] at hc))|(refine qJ ?_ ?_<;>intro hc<;>(try simp only [hc])<;>(try simp only [go_sem] at hc)))
 ·have t := scTarget ⟨wl, ww, wh, wo, wi, op⟩ 2 (by decide)
  have a := scAmong (z.p2, 1) wl (by dsimp only; omega) (show (1 : Int) ≤ 1 ∧ (1 : Int) ≤ 2 from ⟨by decide, by decide⟩) (by omega)
  dsimp only at t a
  cases op
  all_goals refine DCall.of Try.func46 sf46 hb46 (Nat.le_of_ble_eq_true rfl) (okRes_nil fun _ => rfl) ?_; simp only [s46, idxs, Nat.reduceAdd]
  all_goals repeat' (first|(with_reducible first|apply qA|apply qB|apply qC|apply qD|apply qE|apply qF)|(refine qL rfl (WF.of ?_) ?_; first|rfl|skip)|(simp (disch:=omega) only [go_sem, simprocAttr, qN, qO, qP, qQ, hldF, rF, rG])|exact qM rfl rfl rfl|(refine qG rfl ?_)|(refine qK (hm) (by decide) ?_)|(refine qK (t) (by decide) ?_)|(refine qK (a) (by decide) ?_)|(refine qH rfl ?_)|(refine qI rfl ?_ ?_<;>intro hc<;>(try simp only [go_sem] at hc))|(refine qJ ?_ ?_<;>intro hc<;>(try simp only [hc])<;>(try simp only [go_sem] at hc)))
 ·have t := scTarget ⟨wl, ww, wh, wo, wi, op⟩ 3 (by decide)
  have a := scAmong (z.p3, 1) ww (by dsimp only; omega) (show (1 : Int) ≤ 1 ∧ (1 : Int) ≤ 2 from ⟨by decide, by decide⟩) (by omega)
  dsimp only at t a
  cases op
  all_goals refine DCall.of Try.func46 sf46 hb46 (Nat.le_of_ble_eq_true rfl) (okRes_nil fun _ => rfl) ?_; simp only [s46, idxs, Nat.reduceAdd]
  all_goals repeat' (first|(with_reducible first|apply qA|apply qB|apply qC|apply qD|apply qE|apply qF)|(refine qL rfl (WF.of ?_) ?_; first|rfl|skip)|(simp (disch:=omega) only [go_sem, simprocAttr, qN, qO, qP, qQ, hldF, rF, rG])|exact qM rfl rfl rfl|(refine qG rfl ?_)|(refine qK (hm) (by decide) ?_)|(refine qK (t) (by decide) ?_)|(refine qK (a) (by decide) ?_)|(refine qH rfl ?_)|(refine qI rfl ?_ ?_<;>intro hc<;>(try simp only [go_sem] at hc))|(refine qJ ?_ ?_<;>intro hc<;>(try simp only [hc])<;>(try simp only [go_sem] at hc)))
 ·have t := scTarget ⟨wl, ww, wh, wo, wi, op⟩ 4 (by decide)
  have a := scAmong (z.height, foldN op) wh (by dsimp only; omega) hf (by omega)
  dsimp only at t a
  cases op
  all_goals refine DCall.of Try.func46 sf46 hb46 (Nat.le_of_ble_eq_true rfl) (okRes_nil fun _ => rfl) ?_; simp only [s46, idxs, Nat.reduceAdd]
  all_goals repeat' (first|(with_reducible first|apply qA|apply qB|apply qC|apply qD|apply qE|apply qF)|(refine qL rfl (WF.of ?_) ?_; first|rfl|skip)|(simp (disch:=omega) only [go_sem, simprocAttr, qN, qO, qP, qQ, hldF, rF, rG])|exact qM rfl rfl rfl|(refine qG rfl ?_)|(refine qK (hm) (by decide) ?_)|(refine qK (t) (by decide) ?_)|(refine qK (a) (by decide) ?_)|(refine qH rfl ?_)|(refine qI rfl ?_ ?_<;>intro hc<;>(try simp only [go_sem] at hc))|(refine qJ ?_ ?_<;>intro hc<;>(try simp only [hc])<;>(try simp only [go_sem] at hc)))
 ·have t := scTarget ⟨wl, ww, wh, wo, wi, op⟩ 5 (by decide)
  have a := scAmong (z.p1 - 2 * z.t0, 1) wo (by dsimp only; omega) (show (1 : Int) ≤ 1 ∧ (1 : Int) ≤ 2 from ⟨by decide, by decide⟩) (by omega)
  dsimp only at t a
  cases op
  all_goals refine DCall.of Try.func46 sf46 hb46 (Nat.le_of_ble_eq_true rfl) (okRes_nil fun _ => rfl) ?_; simp only [s46, idxs, Nat.reduceAdd]
  all_goals repeat' (first|(with_reducible first|apply qA|apply qB|apply qC|apply qD|apply qE|apply qF)|(refine qL rfl (WF.of ?_) ?_; first|rfl|skip)|(simp (disch:=omega) only [go_sem, simprocAttr, qN, qO, qP, qQ, hldF, rF, rG])|exact qM rfl rfl rfl|(refine qG rfl ?_)|(refine qK (e) (by decide) ?_)|(refine qK (hm) (by decide) ?_)|(refine qK (t) (by decide) ?_)|(refine qK (a) (by decide) ?_)|(refine qH rfl ?_)|(refine qI rfl ?_ ?_<;>intro hc<;>(try simp only [go_sem] at hc))|(refine qJ ?_ ?_<;>intro hc<;>(try simp only [hc])<;>(try simp only [go_sem] at hc)))
 ·have t := scTarget ⟨wl, ww, wh, wo, wi, op⟩ 6 (by decide)
  have a := scAmong (z.p0 - 2 * z.t1, 1) wi (by dsimp only; omega) (show (1 : Int) ≤ 1 ∧ (1 : Int) ≤ 2 from ⟨by decide, by decide⟩) (by omega)
  dsimp only at t a
  cases op
  all_goals refine DCall.of Try.func46 sf46 hb46 (Nat.le_of_ble_eq_true rfl) (okRes_nil fun _ => rfl) ?_; simp only [s46, idxs, Nat.reduceAdd]
  all_goals repeat' (first|(with_reducible first|apply qA|apply qB|apply qC|apply qD|apply qE|apply qF)|(refine qL rfl (WF.of ?_) ?_; first|rfl|skip)|(simp (disch:=omega) only [go_sem, simprocAttr, qN, qO, qP, qQ, hldF, rF, rG])|exact qM rfl rfl rfl|(refine qG rfl ?_)|(refine qK (e) (by decide) ?_)|(refine qK (hm) (by decide) ?_)|(refine qK (t) (by decide) ?_)|(refine qK (a) (by decide) ?_)|(refine qH rfl ?_)|(refine qI rfl ?_ ?_<;>intro hc<;>(try simp only [go_sem] at hc))|(refine qJ ?_ ?_<;>intro hc<;>(try simp only [hc])<;>(try simp only [go_sem] at hc)))
 ·have t := scTarget ⟨wl, ww, wh, wo, wi, op⟩ 7 (by decide)
  have a := scAmong (z.p1 - 2 * z.b0, 1) wo (by dsimp only; omega) (show (1 : Int) ≤ 1 ∧ (1 : Int) ≤ 2 from ⟨by decide, by decide⟩) (by omega)
  dsimp only at t a
  cases op
  all_goals refine DCall.of Try.func46 sf46 hb46 (Nat.le_of_ble_eq_true rfl) (okRes_nil fun _ => rfl) ?_; simp only [s46, idxs, Nat.reduceAdd]
  all_goals repeat' (first|(with_reducible first|apply qA|apply qB|apply qC|apply qD|apply qE|apply qF)|(refine qL rfl (WF.of ?_) ?_; first|rfl|skip)|(simp (disch:=omega) only [go_sem, simprocAttr, qN, qO, qP, qQ, hldF, rF, rG])|exact qM rfl rfl rfl|(refine qG rfl ?_)|(refine qK (hm) (by decide) ?_)|(refine qK (t) (by decide) ?_)|(refine qK (a) (by decide) ?_)|(refine qH rfl ?_)|(refine qI rfl ?_ ?_<;>intro hc<;>(try simp only [go_sem] at hc))|(refine qJ ?_ ?_<;>intro hc<;>(try simp only [hc])<;>(try simp only [go_sem] at hc)))
 ·have t := scTarget ⟨wl, ww, wh, wo, wi, op⟩ 8 (by decide)
  have a := scAmong (z.p0 - 2 * z.b1, 1) wi (by dsimp only; omega) (show (1 : Int) ≤ 1 ∧ (1 : Int) ≤ 2 from ⟨by decide, by decide⟩) (by omega)
  dsimp only at t a
  cases op
  all_goals refine DCall.of Try.func46 sf46 hb46 (Nat.le_of_ble_eq_true rfl) (okRes_nil fun _ => rfl) ?_; simp only [s46, idxs, Nat.reduceAdd]
  all_goals repeat' (first|(with_reducible first|apply qA|apply qB|apply qC|apply qD|apply qE|apply qF)|(refine qL rfl (WF.of ?_) ?_; first|rfl|skip)|(simp (disch:=omega) only [go_sem, simprocAttr, qN, qO, qP, qQ, hldF, rF, rG])|exact qM rfl rfl rfl|(refine qG rfl ?_)|(refine qK (hm) (by decide) ?_)|(refine qK (t) (by decide) ?_)|(refine qK (a) (by decide) ?_)|(refine qH rfl ?_)|(refine qI rfl ?_ ?_<;>intro hc<;>(try simp only [go_sem] at hc))|(refine qJ ?_ ?_<;>intro hc<;>(try simp only [hc])<;>(try simp only [go_sem] at hc)))
 ·cases op
  all_goals refine DCall.of Try.func46 sf46 hb46 (Nat.le_of_ble_eq_true rfl) (okRes_nil fun _ => rfl) ?_; simp only [s46, idxs, Nat.reduceAdd]
  all_goals repeat' (first|(with_reducible first|apply qA|apply qB|apply qC|apply qD|apply qE|apply qF)|(refine qL rfl (WF.of ?_) ?_; first|rfl|skip)|(simp (disch:=omega) only [go_sem, simprocAttr, qN, qO, qP, qQ, hldF])|exact qM rfl rfl rfl|(refine qG rfl ?_)|(refine qK (e) (by decide) ?_)|(refine qK (eb) (by decide) ?_)|(refine qH rfl ?_)|(refine qI rfl ?_ ?_<;>intro hc<;>(try simp only [go_sem] at hc))|(refine qJ ?_ ?_<;>intro hc<;>(try simp only [hc])<;>(try simp only [go_sem] at hc)))
end Go.Dw.Seat
end
section
set_option linter.unusedSimpArgs false
set_option maxRecDepth 100000
namespace Go.Dw.Seat
open Go Go.Dw Go.Proofs Go.IntWalk
def eSp (s : Int × Int) : List C := [.v (.int .i64 s.1), .v (.int .i64 s.2)]
theorem eSp_nb (s : Int × Int) : C.nbs (eSp s) = true := rfl
attribute [go_sem] eSp
def spM (s : Int × Int) : Prop := 0 ≤ s.1 ∧ s.1 ≤ s.2 ∧ s.2 ≤ 300
structure DSt where
 lo : Int
 hi : Int
 h : Int
structure DSt.ok (s : DSt) : Prop where
 r : spM (s.lo, s.hi)
 h : 0 ≤ s.h ∧ s.h ≤ 500
def eDs (s : DSt) : List C := [.v (.int .i64 s.lo), .v (.int .i64 s.hi), .v (.int .i64 s.h)]
attribute [go_sem] eDs
theorem dmSpIdx (b : Bool) (l : List (Int × Int)) (hl : l.length ≤ 2 ^ 36) (g : FuncId) (hp : ∀ x ∈ l, DCall Try.prog g [.agg ((eSp x).map D.c)] [] (bD false) []) : DCall Try.prog 133 [.c (.sl b 2 (rows eSp l)), .c (.fn (.func g) [] [])] [] (dI (-1)) [] := by
 refine DCall.of Try.func133 sf133 hb133 (Nat.le_of_ble_eq_true rfl) (okRes_nil fun _ => rfl) ?_; simp only [s133, idxs, Nat.reduceAdd]
 repeat' (first|(with_reducible first|apply qA|apply qB|apply qC|apply qD|apply qE|apply qF)|(simp (disch:=omega) only [go_sem, simprocAttr, Blk.men, Blk.keysIn])|exact qM rfl rfl rfl|(refine qG rfl ?_)|(refine qH rfl ?_)|(refine qI rfl ?_ ?_<;>intro hc<;>(try simp only [go_sem] at hc))|(refine qJ ?_ ?_<;>intro hc<;>(try simp only [hc])<;>(try simp only [go_sem] at hc)))
 refine DW.loop (ι := { i : Nat // i ≤ l.length }) (fun i => ⟨19, [(8, dI i.1), (7, dI l.length), (1, .c (.fn (.func g) [] [])), (0, .c (.sl b 2 (rows eSp l)))], []⟩) (fun i => l.length - i.1) ⟨0, Nat.zero_le _⟩ ?_ ?_
 ·refine Ent.to ?_ ?_ <;> simp (disch:=omega) only [qR,qS,qTw,qU,get,Nat.reduceEqDiff,↓reduceIte,qV,qW,qX,qY,qZ,and_self,dI,i64_in,and_true,true_and,rA,rB,rC,rD]
 rintro ⟨i, hi⟩
 rcases at_or l i hi with ⟨v, hv, hlt, hd⟩ | ⟨he, hd⟩
 ·have hcall := hp v (List.mem_of_getElem? hv)
  repeat' (first|(with_reducible first|apply qA|apply qB|apply qC|apply qD|apply qE|apply qF)|(simp (disch:=omega) only [go_sem, simprocAttr, Blk.men, Blk.keysIn, hd, hv, closeDs_fn, rF, rG])|exact qM rfl rfl rfl|(refine qG rfl ?_)|(refine qH rfl ?_)|(refine qI rfl ?_ ?_<;>intro hc<;>(try simp only [go_sem] at hc))|(refine qJ ?_ ?_<;>intro hc<;>(try simp only [hc])<;>(try simp only [go_sem] at hc)))
  refine call_c hcall (by decide) ?_
  simp (disch:=omega) only [go_sem,simprocAttr,Blk.men,Blk.keysIn]
  repeat' (first|(with_reducible first|apply qA|apply qB|apply qC|apply qD|apply qE|apply qF)|(simp (disch:=omega) only [go_sem, simprocAttr, Blk.men, Blk.keysIn])|exact qM rfl rfl rfl|(refine qG rfl ?_)|(refine qH rfl ?_)|(refine qI rfl ?_ ?_<;>intro hc<;>(try simp only [go_sem] at hc))|(refine qJ ?_ ?_<;>intro hc<;>(try simp only [hc])<;>(try simp only [go_sem] at hc)))
  refine ⟨⟨i + 1, hlt⟩, ?_, Ent.to ?_ ?_⟩ <;> first | (show _ < _; (try simp only); omega) | (simp (disch:=omega) only [qR,qS,qTw,qU,get,Nat.reduceEqDiff,↓reduceIte,qV,qW,qX,qY,qZ,and_self,dI,i64_in,and_true,true_and,rA,rB,rC,rD])
 ·repeat' (first|(with_reducible first|apply qA|apply qB|apply qC|apply qD|apply qE|apply qF)|(simp (disch:=omega) only [go_sem, simprocAttr, Blk.men, Blk.keysIn, hd])|exact qM rfl rfl rfl|(refine qG rfl ?_)|(refine qH rfl ?_)|(refine qI rfl ?_ ?_<;>intro hc<;>(try simp only [go_sem] at hc))|(refine qJ ?_ ?_<;>intro hc<;>(try simp only [hc])<;>(try simp only [go_sem] at hc)))
theorem dmSpCon (b : Bool) (l : List (Int × Int)) (hl : l.length ≤ 2 ^ 36) (g : FuncId) (hp : ∀ x ∈ l, DCall Try.prog g [.agg ((eSp x).map D.c)] [] (bD false) []) : DCall Try.prog 87 [.c (.sl b 2 (rows eSp l)), .c (.fn (.func g) [] [])] [] (bD false) [] := by
 refine DCall.of Try.func87 sf87 hb87 (Nat.le_of_ble_eq_true rfl) (okRes_nil fun _ => rfl) ?_; simp only [s87, idxs, Nat.reduceAdd]
 repeat' (first|(with_reducible first|apply qA|apply qB|apply qC|apply qD|apply qE|apply qF)|(simp (disch:=omega) only [go_sem, simprocAttr, Blk.men, Blk.keysIn])|exact qM rfl rfl rfl|(refine qG rfl ?_)|(refine qH rfl ?_)|(refine qI rfl ?_ ?_<;>intro hc<;>(try simp only [go_sem] at hc))|(refine qJ ?_ ?_<;>intro hc<;>(try simp only [hc])<;>(try simp only [go_sem] at hc)))
 (refine call_c (dmSpIdx b l hl g hp) (by decide) ?_; simp (disch:=omega) only [go_sem,simprocAttr,Blk.men,Blk.keysIn])
 repeat' (first|(with_reducible first|apply qA|apply qB|apply qC|apply qD|apply qE|apply qF)|(simp (disch:=omega) only [go_sem, simprocAttr, Blk.men, Blk.keysIn])|exact qM rfl rfl rfl|(refine qG rfl ?_)|(refine qH rfl ?_)|(refine qI rfl ?_ ?_<;>intro hc<;>(try simp only [go_sem] at hc))|(refine qJ ?_ ?_<;>intro hc<;>(try simp only [hc])<;>(try simp only [go_sem] at hc)))
end Go.Dw.Seat
end
section
set_option linter.unusedSimpArgs false
set_option maxRecDepth 100000
namespace Go.Dw.Seat
open Go Go.Dw Go.Proofs Go.IntWalk
def enBack (e : (Int × Int) × Nat) : List D := [dI e.2, .agg ((eT e.1).map D.c)]
def enSp (e : Int × Int) : List D := [.agg [dI e.1, dI e.2]]
attribute [go_sem] enBack enSp
end Go.Dw.Seat
end
section
set_option linter.unusedSimpArgs false
set_option maxRecDepth 100000
namespace Go.Dw.Seat
open Go Go.Dw Go.Proofs Go.IntWalk
def inI (lo hi : Int) (y : Nat) : Int := lo + ((y : Int) * (hi - lo)).tdiv 255
theorem inI_b {lo hi : Int} {y : Nat} (hy : y < 256) (h : lo ≤ hi) : lo ≤ inI lo hi y ∧ inI lo hi y ≤ hi := by
 unfold inI
 have h1 : (y : Int) * (hi - lo) ≤ 255 * (hi - lo) := Int.mul_le_mul_of_nonneg_right (by omega) (by omega)
 have h2 : 0 ≤ (y : Int) * (hi - lo) := Int.mul_nonneg (by omega) (by omega)
 rw [Int.tdiv_eq_ediv_of_nonneg h2]
 generalize (y : Int) * (hi - lo) = q at *
 omega
theorem arIn (lo hi : Int) (y : Nat) (hy : y < 256) (h : 0 ≤ lo ∧ lo ≤ hi ∧ hi ≤ 1000000) : DCall Try.prog 49 [.agg [dI lo, dI hi], dI y] [] (dI (inI lo hi y)) [] := by
 have h1 : (y : Int) * (hi - lo) ≤ 255 * 1000000 := Int.mul_le_mul (by omega) (by omega) (by omega) (by omega)
 have h2 : 0 ≤ (y : Int) * (hi - lo) := Int.mul_nonneg (by omega) (by omega)
 have hb := inI_b hy h.2.1
 unfold inI at *
 have hq : 0 ≤ Int.tdiv ((y : Int) * (hi - lo)) 255 ∧ Int.tdiv ((y : Int) * (hi - lo)) 255 ≤ 1000000 := by
  rw [Int.tdiv_eq_ediv_of_nonneg h2]
  omega
 refine DCall.of Try.func49 sf49 hb49 (Nat.le_of_ble_eq_true rfl) (okRes_nil fun _ => rfl) ?_; simp only [s49, idxs, Nat.reduceAdd]
 repeat' (first|(with_reducible first|apply qA|apply qB|apply qC|apply qD|apply qE|apply qF)|(simp (disch:=omega) only [go_sem, simprocAttr, Blk.men, Blk.keysIn])|exact qM rfl rfl rfl|(refine qG rfl ?_)|(refine qH rfl ?_)|(refine qI rfl ?_ ?_<;>intro hc<;>(try simp only [go_sem] at hc))|(refine qJ ?_ ?_<;>intro hc<;>(try simp only [hc])<;>(try simp only [go_sem] at hc)))
end Go.Dw.Seat
end
section
set_option linter.unusedSimpArgs false
set_option maxRecDepth 100000
namespace Go.Dw.Seat
open Go Go.Dw Go.Proofs Go.IntWalk
theorem arInts (b : Bool) (l : List Int) (hl : l.length ≤ 2 ^ 36) : DCall Try.prog 21 [dIs b l] [] (dIs false l) [] := by
 refine DCall.of Try.func21 sf21 hb21 (Nat.le_of_ble_eq_true rfl) (okRes_nil fun _ => rfl) ?_; simp only [s21, idxs, Nat.reduceAdd]
 repeat' (first|(with_reducible first|apply qA|apply qB|apply qC|apply qD|apply qE|apply qF)|(simp (disch:=omega) only [go_sem, simprocAttr, Blk.men, Blk.keysIn])|exact qM rfl rfl rfl|(refine qG rfl ?_)|(refine qH rfl ?_)|(refine qI rfl ?_ ?_<;>intro hc<;>(try simp only [go_sem] at hc))|(refine qJ ?_ ?_<;>intro hc<;>(try simp only [hc])<;>(try simp only [go_sem] at hc)))
 (refine retS_ent (Ent.rel 3 rfl) ?_; simp (disch:=omega) only [go_sem,simprocAttr,Blk.men,Blk.keysIn])
 refine retS_wk rfl ?_ (by simp only [Blk.nb, rowC_nb, D.nb, D.nbs, C.nb, C.nbs, C.nbss, rows_nb eI_nb, Bool.and_true, Bool.not_false, Bool.and_self, bD, dI, iD, rows_nb eP_nb, rows_nb eF_nb, rows_nb eY_nb]); exact .refl _
theorem arMade (m : Mak) (h1 : m.papers.length ≤ 1000) (h2 : m.flutes.length ≤ 1000) : DCall Try.prog 10 [dMak m] [] (dMak m) [] := by
 have c1 := arInts false (nL m.papers) (by rw [nL_length]; omega)
 have c2 := arInts false (nL m.flutes) (by rw [nL_length]; omega)
 refine DCall.of Try.func10 sf10 hb10 (Nat.le_of_ble_eq_true rfl) (okRes_nil fun _ => rfl) ?_; simp only [s10, idxs, Nat.reduceAdd]
 repeat' (first|(with_reducible first|apply qA|apply qB|apply qC|apply qD|apply qE|apply qF)|(refine qL rfl (WF.of ?_) ?_; first|rfl|skip)|(simp (disch:=omega) only [go_sem, simprocAttr, Blk.men, Blk.keysIn])|exact qM rfl rfl rfl|(refine qG rfl ?_)|(refine qK (c1) (by decide) ?_)|(refine qK (c2) (by decide) ?_)|(refine qH rfl ?_)|(refine qI rfl ?_ ?_<;>intro hc<;>(try simp only [go_sem] at hc))|(refine qJ ?_ ?_<;>intro hc<;>(try simp only [hc])<;>(try simp only [go_sem] at hc)))
 refine retS_wk rfl ?_ (by simp only [Blk.nb, rowC_nb, D.nb, D.nbs, C.nb, C.nbs, C.nbss, rows_nb eI_nb, Bool.and_true, Bool.not_false, Bool.and_self, bD, dI, iD, rows_nb eP_nb, rows_nb eF_nb, rows_nb eY_nb]); exact .refl _
theorem arOwn (s : Sto) (h1 : s.papers.length ≤ 1000) (h2 : s.flutes.length ≤ 1000) : DCall Try.prog 9 [dSto s] [] (dSto s) [] := by
 refine DCall.of Try.func9 sf9 hb9 (Nat.le_of_ble_eq_true rfl) (okRes_nil fun _ => rfl) ?_; simp only [s9, o9_0, o9_1, o9_2, o9_3, o9_4, o9_5, o9_6, o9_7, o9_8, o9_9, idxs, Nat.reduceAdd]
 repeat' (first|(with_reducible first|apply qA|apply qB|apply qC|apply qD|apply qE|apply qF)|(refine DW.ord rfl (WF.of (by first|rfl|simp (disch:=omega) only [go_sem, simprocAttr, Blk.men, Blk.keysIn])) ?_ ?_ ?_; rotate_left)|rfl|(with_reducible refine And.intro ?_ ?_)|(simp (disch:=omega) only [go_sem, simprocAttr, Blk.men, Blk.keysIn])|exact qM rfl rfl rfl|(refine qG rfl ?_)|(refine qH rfl ?_)|(refine qI rfl ?_ ?_<;>intro hc<;>(try simp only [go_sem] at hc))|(refine qJ ?_ ?_<;>intro hc<;>(try simp only [hc])<;>(try simp only [go_sem] at hc)))
 (refine retS_ent (Ent.rel 7 rfl) ?_; simp (disch:=omega) only [go_sem,simprocAttr,Blk.men,Blk.keysIn])
 (refine retS_ent (Ent.rel 3 rfl) ?_; simp (disch:=omega) only [go_sem,simprocAttr,Blk.men,Blk.keysIn])
 refine retS_wk rfl ?_ (by simp only [Blk.nb, rowC_nb, D.nb, D.nbs, C.nb, C.nbs, C.nbss, rows_nb eI_nb, Bool.and_true, Bool.not_false, Bool.and_self, bD, dI, iD, rows_nb eP_nb, rows_nb eF_nb, rows_nb eY_nb]); exact .refl _
def kT (s : Sto) (j : Int) (i : Nat) : List Nat := (List.range i).filter fun n => decide ((papAt s n).kind = j)
theorem kT_succ (s : Sto) (j : Int) (i : Nat) : kT s j (i + 1) = if (papAt s i).kind = j then kT s j i ++ [i] else kT s j i := by
 simp only [kT, List.range_succ, List.filter_append, List.filter_cons, List.filter_nil]
 by_cases h : (papAt s i).kind = j <;> simp [h]
theorem kT_len (s : Sto) (j : Int) (i : Nat) : (kT s j i).length ≤ i := by
 have := List.length_filter_le (fun n => decide ((papAt s n).kind = j)) (List.range i)
 simpa [kT] using this
theorem kT_mem {s : Sto} {j : Int} {i n : Nat} (h : n ∈ kT s j i) : n < i ∧ (papAt s n).kind = j := by
 simpa [kT] using h
def kOf (x : War) (i : Nat) : List Nat := kT (wSto x) (if i % 2 = 0 then 1 else 2) (nPap x)
def mkPap (x : War) (i : Nat) : Nat := ((kOf x i)[byteI x.by' (i + 1) % (kOf x i).length]?).getD 0
def mkFlu (x : War) (k : Nat) : Nat := byteI x.by' (2 * k + 1 + 6) % nFlu x
def mP (x : War) (i : Nat) : List Nat := (List.range i).map (mkPap x)
def mF (x : War) (k : Nat) : List Nat := (List.range k).map (mkFlu x)
def nfOf (x : War) : Nat := 1 + byteI x.by' 0 % 2
def wMak (x : War) : Mak := ⟨mP x (2 * nfOf x + 1), mF x (nfOf x)⟩
theorem mP_succ (x : War) (i : Nat) : nL (mP x (i + 1)) = nL (mP x i) ++ [(mkPap x i : Int)] := by simp [mP, nL, List.range_succ]
theorem mF_succ (x : War) (i : Nat) : nL (mF x (i + 1)) = nL (mF x i) ++ [(mkFlu x i : Int)] := by simp [mF, nL, List.range_succ]
theorem mP_len (x : War) (i : Nat) : (mP x i).length = i := by simp [mP]
theorem mF_len (x : War) (i : Nat) : (mF x i).length = i := by simp [mF]
theorem wPap_at (x : War) {n : Nat} (h : n < nPap x) : papAt (wSto x) n = papOf n (papV x n) := by
 simp [papAt, wSto, wPaps, h]
theorem kOf_pos (x : War) (i : Nat) : 0 < (kOf x i).length := by
 have hn : 2 ≤ nPap x := by unfold nPap; omega
 have hmem : (if i % 2 = 0 then 0 else 1) ∈ kOf x i := by
  simp only [kOf, kT, List.mem_filter, List.mem_range, decide_eq_true_eq]
  split
  ·refine ⟨by omega, ?_⟩
   rw [wPap_at x (by omega)]; rfl
  ·refine ⟨by omega, ?_⟩
   rw [wPap_at x (by omega)]; rfl
 exact List.length_pos_of_mem hmem
theorem kOf_len (x : War) (i : Nat) : (kOf x i).length ≤ 5 := by
 have := kT_len (wSto x) (if i % 2 = 0 then 1 else 2) (nPap x)
 have hn : nPap x ≤ 5 := by unfold nPap; omega
 unfold kOf
 omega
theorem mkPap_at (x : War) (i : Nat) : (kOf x i)[byteI x.by' (i + 1) % (kOf x i).length]? = some (mkPap x i) := by
 have hlt : byteI x.by' (i + 1) % (kOf x i).length < (kOf x i).length := Nat.mod_lt _ (kOf_pos x i)
 rw [mkPap, List.getElem?_eq_getElem hlt]; rfl
theorem mkPap_mem (x : War) (i : Nat) : mkPap x i < nPap x ∧ (papAt (wSto x) (mkPap x i)).kind = if i % 2 = 0 then 1 else 2 := kT_mem (List.mem_of_getElem? (mkPap_at x i))
theorem wMak_ok (x : War) : (wMak x).ok (wSto x) := by
 have h2 : byteI x.by' 0 % 2 < 2 := Nat.mod_lt _ (by decide)
 have hp : (wSto x).papers.length = nPap x := wPaps_len x _
 have hf : (wSto x).flutes.length = nFlu x := wFlus_len x _
 refine ⟨?_, ?_, ?_, ?_, ?_⟩
 ·show 1 ≤ (mF x (nfOf x)).length ∧ (mF x (nfOf x)).length ≤ 2
  rw [mF_len]; unfold nfOf; omega
 ·show (mP x (2 * nfOf x + 1)).length = 2 * (mF x (nfOf x)).length + 1
  rw [mP_len, mF_len]
 ·intro n hn
  obtain ⟨i, _, rfl⟩ := List.mem_map.1 hn
  rw [hp]; exact (mkPap_mem x i).1
 ·intro n hn
  obtain ⟨i, _, rfl⟩ := List.mem_map.1 hn
  rw [hf]; exact Nat.mod_lt _ (by unfold nFlu; omega)
 ·intro i n p h1 h2
  have h1' : (mP x (2 * nfOf x + 1))[i]? = some n := h1
  have hi : i < 2 * nfOf x + 1 := by
   rcases Nat.lt_or_ge i (2 * nfOf x + 1) with h | h
   ·exact h
   ·rw [List.getElem?_eq_none (by rw [mP_len]; exact h)] at h1'; cases h1'
  have : n = mkPap x i := by simpa [mP, hi] using h1'.symm
  subst this
  have hm := mkPap_mem x i
  have hg := papAt_get (s := wSto x) (n := mkPap x i) (by rw [hp]; exact hm.1)
  rw [hg] at h2
  cases h2
  exact hm.2
set_option maxHeartbeats 1600000 in
theorem arMake (b : Bool) (x : War) (h : x.ok) : DCall Try.prog 7 [dWar b x] [] (dMak (wMak x)) [] := by
 have hst := arStore b x h
 have hn : nPap x ≤ 5 ∧ 2 ≤ nPap x := by unfold nPap; omega
 have hnf : nFlu x ≤ 3 ∧ 1 ≤ nFlu x := by unfold nFlu; omega
 have hp : (wSto x).papers.length = nPap x := wPaps_len x _
 have hf : (wSto x).flutes.length = nFlu x := wFlus_len x _
 have hso := wSto_ok h
 refine DCall.of Try.func7 sf7 hb7 (Nat.le_of_ble_eq_true rfl) (okRes_nil fun _ => rfl) ?_; simp only [s7, idxs, Nat.reduceAdd]
 repeat' (first|(with_reducible first|apply qA|apply qB|apply qC|apply qD|apply qE|apply qF)|(refine qL rfl (WF.of ?_) ?_; first|rfl|skip)|(simp (disch:=omega) only [go_sem, simprocAttr, Blk.men, Blk.keysIn])|exact qM rfl rfl rfl|(refine qG rfl ?_)|(refine qK (hst) (by decide) ?_)|(refine qH rfl ?_)|(refine qI rfl ?_ ?_<;>intro hc<;>(try simp only [go_sem] at hc))|(refine qJ ?_ ?_<;>intro hc<;>(try simp only [hc])<;>(try simp only [go_sem] at hc)))
 (refine DW.ent (Ent.adoptB 5 0 31 1 rfl rfl rfl rfl) ?_; simp only [ins, Nat.reduceLT, Nat.reduceEqDiff, ↓reduceIte, List.set_cons_zero, List.set_cons_succ])
 (refine DW.ent (Ent.adoptB 5 1 32 1 rfl rfl rfl rfl) ?_; simp only [ins, Nat.reduceLT, Nat.reduceEqDiff, ↓reduceIte, List.set_cons_zero, List.set_cons_succ])
 (refine DW.ent (Ent.adoptB 4 0 67 1 rfl rfl rfl rfl) ?_; simp only [ins, Nat.reduceLT, Nat.reduceEqDiff, ↓reduceIte, List.set_cons_zero, List.set_cons_succ])
 (refine DW.ent (Ent.adoptB 4 1 84 1 rfl rfl rfl rfl) ?_; simp only [ins, Nat.reduceLT, Nat.reduceEqDiff, ↓reduceIte, List.set_cons_zero, List.set_cons_succ])
 refine DW.loop (ι := { i : Nat // i ≤ nPap x }) (fun i => ⟨87, [(6, dI i.1), (5, .box 5 0), (4, .box 4 0), (3, .box 3 0), (2, .box 2 0), (1, .box 1 0)], [(84, .row 1 (rowC (rows eI (nL (mF x 0))))), (67, .row 1 (rowC (rows eI (nL (mP x 0))))), (32, .row 1 (rowC (rows eI (nL (kT (wSto x) 2 i.1))))), (31, .row 1 (rowC (rows eI (nL (kT (wSto x) 1 i.1))))), (5, .box [.own 31, .own 32]), (4, .box [.own 67, .own 84]), (3, .box [.c (.sl false 8 (rows eP (wSto x).papers)), .c (.sl false 4 (rows eF (wSto x).flutes))]), (2, .box [.c (.v (.slice none 0 0)), .c (.v (.slice none 0 0))]), (1, .box [.c (.sl b 6 (rows e6 x.papers)), .c (.sl b 3 (rows e3 x.flutes)), .c (.sl b 1 (rows eY x.by'))])]⟩) (fun i => nPap x - i.1) ⟨0, Nat.zero_le _⟩ ?_ ?_
 ·refine Ent.to ?_ ?_ <;> simp (disch:=omega) only [qR,qS,qTw,qU,get,Nat.reduceEqDiff,↓reduceIte,qV,qW,qX,qY,qZ,and_self,dI,i64_in,and_true,true_and,rA,rB,rC,rD]
  exact ⟨.refl _, .refl _, .refl _, .refl _⟩
 rintro ⟨i, hi⟩
 dsimp only
 rcases Nat.lt_or_ge i (nPap x) with hlt | hge
 ·have hd : decide ((i : Int) < ((wSto x).papers.length : Int)) = true := by rw [decide_eq_true_eq, hp]; omega
  have hpa := papAt_get (s := wSto x) (n := i) (by rw [hp]; exact hlt)
  have hk := (papAt_ok hso (n := i) (by rw [hp]; exact hlt)).kind
  have l1 := kT_len (wSto x) 1 i
  have l2 := kT_len (wSto x) 2 i
  have n1 := kT_succ (wSto x) 1 i
  have n2 := kT_succ (wSto x) 2 i
  generalize papAt (wSto x) i = p at *
  generalize kT (wSto x) 1 i = a1 at *
  generalize kT (wSto x) 2 i = a2 at *
  rcases hk with hk | hk
  ·have hk0 : p.kind - 1 = 0 := by omega
   rw [if_pos hk] at n1
   rw [if_neg (by omega)] at n2
   have q1 : nL (a1 ++ [i]) = nL a1 ++ [(i : Int)] := (nL_snoc a1 i).symm
   have ln1 := nL_length a1
   generalize nL a1 = c1 at *
   repeat' (first|(with_reducible first|apply qA|apply qB|apply qC|apply qD|apply qE|apply qF)|(refine qL rfl (WF.of ?_) ?_; first|rfl|skip)|(simp (disch:=omega) only [go_sem, simprocAttr, Blk.men, Blk.keysIn, hd, hpa, hk0, rF, rG])|exact qM rfl rfl rfl|(refine qG rfl ?_)|(refine qH rfl ?_)|(refine qI rfl ?_ ?_<;>intro hc<;>(try simp only [go_sem] at hc))|(refine qJ ?_ ?_<;>intro hc<;>(try simp only [hc])<;>(try simp only [go_sem] at hc)))
   refine ⟨⟨i + 1, hlt⟩, ?_, Ent.to ?_ ?_⟩ <;> first | (show _ < _; (try simp only); omega) | (simp (disch:=omega) only [qR,qS,qTw,qU,get,Nat.reduceEqDiff,↓reduceIte,qV,qW,qX,qY,qZ,and_self,dI,i64_in,and_true,true_and,rA,rB,rC,rD, n1,n2,q1])
   all_goals exact .refl _
  ·have hk0 : p.kind - 1 = 1 := by omega
   rw [if_neg (by omega)] at n1
   rw [if_pos hk] at n2
   have q1 : nL (a2 ++ [i]) = nL a2 ++ [(i : Int)] := (nL_snoc a2 i).symm
   have ln1 := nL_length a2
   generalize nL a2 = c1 at *
   repeat' (first|(with_reducible first|apply qA|apply qB|apply qC|apply qD|apply qE|apply qF)|(refine qL rfl (WF.of ?_) ?_; first|rfl|skip)|(simp (disch:=omega) only [go_sem, simprocAttr, Blk.men, Blk.keysIn, hd, hpa, hk0, rF, rG])|exact qM rfl rfl rfl|(refine qG rfl ?_)|(refine qH rfl ?_)|(refine qI rfl ?_ ?_<;>intro hc<;>(try simp only [go_sem] at hc))|(refine qJ ?_ ?_<;>intro hc<;>(try simp only [hc])<;>(try simp only [go_sem] at hc)))
   refine ⟨⟨i + 1, hlt⟩, ?_, Ent.to ?_ ?_⟩ <;> first | (show _ < _; (try simp only); omega) | (simp (disch:=omega) only [qR,qS,qTw,qU,get,Nat.reduceEqDiff,↓reduceIte,qV,qW,qX,qY,qZ,and_self,dI,i64_in,and_true,true_and,rA,rB,rC,rD, n1,n2,q1])
   all_goals exact .refl _
 ·obtain rfl : i = nPap x := by omega
  have hd : decide ((nPap x : Int) < ((wSto x).papers.length : Int)) = false := by rw [decide_eq_false_iff_not, hp]; omega
  have hb0 := arByte b x.by' 0 (by omega) h.by'
  rw [show ((0 : Nat) : Int) = 0 from rfl] at hb0
  have h28 : byteI x.by' 0 < 256 := by
   unfold byteI
   cases hv : x.by'[0 % x.by'.length]? with
   | none => decide
   | some v => exact h.by' v (List.mem_of_getElem? hv)
  have hm2 : byteI x.by' 0 % 2 < 2 := Nat.mod_lt _ (by decide)
  have hnfI : 1 + ((byteI x.by' 0 % 2 : Nat) : Int) = (nfOf x : Int) := by unfold nfOf; omega
  have hnf2 : 1 ≤ nfOf x ∧ nfOf x ≤ 2 := by unfold nfOf; omega
  repeat' (first|(with_reducible first|apply qA|apply qB|apply qC|apply qD|apply qE|apply qF)|(refine qL rfl (WF.of ?_) ?_; first|rfl|skip)|(simp (disch:=omega) only [go_sem, simprocAttr, Blk.men, Blk.keysIn, hd, t2, hnfI])|exact qM rfl rfl rfl|(refine qG rfl ?_)|(refine qK (hb0) (by decide) ?_)|(refine qH rfl ?_)|(refine qI rfl ?_ ?_<;>intro hc<;>(try simp only [go_sem] at hc))|(refine qJ ?_ ?_<;>intro hc<;>(try simp only [hc])<;>(try simp only [go_sem] at hc)))
  clear hb0 h28 hm2 hnfI hd
  generalize hnfe : nfOf x = nf at *
  refine DW.loop (ι := { i : Nat // i ≤ 2 * nf + 1 }) (fun i => ⟨87, [(9, dI i.1), (8, dI nf), (5, .box 5 0), (4, .box 4 0), (3, .box 3 0), (2, .box 2 0), (1, .box 1 0)], [(84, .row 1 (rowC (rows eI (nL (mF x (i.1 / 2)))))), (67, .row 1 (rowC (rows eI (nL (mP x i.1))))), (32, .row 1 (rowC (rows eI (nL (kT (wSto x) 2 (nPap x)))))), (31, .row 1 (rowC (rows eI (nL (kT (wSto x) 1 (nPap x)))))), (5, .box [.own 31, .own 32]), (4, .box [.own 67, .own 84]), (3, .box [.c (.sl false 8 (rows eP (wSto x).papers)), .c (.sl false 4 (rows eF (wSto x).flutes))]), (2, .box [.c (.v (.slice none 0 0)), .c (.v (.slice none 0 0))]), (1, .box [.c (.sl b 6 (rows e6 x.papers)), .c (.sl b 3 (rows e3 x.flutes)), .c (.sl b 1 (rows eY x.by'))])]⟩) (fun i => 2 * nf + 1 - i.1) ⟨0, Nat.zero_le _⟩ ?_ ?_
  ·refine Ent.to ?_ ?_ <;> simp (disch:=omega) only [qR,qS,qTw,qU,get,Nat.reduceEqDiff,↓reduceIte,qV,qW,qX,qY,qZ,and_self,dI,i64_in,and_true,true_and,rA,rB,rC,rD,Nat.zero_div]
  clear hi
  rintro ⟨i, hi⟩
  dsimp only
  rcases Nat.lt_or_ge i (2 * nf + 1) with hlt | hge
  ·have hd : decide ((i : Int) < 2 * (nf : Int) + 1) = true := by rw [decide_eq_true_eq]; omega
   have hb1 := arByte b x.by' (i + 1) (by omega) h.by'
   rw [Int.natCast_add, Int.natCast_one] at hb1
   have hkp := kOf_pos x i
   have hkl := kOf_len x i
   have hat := mkPap_at x i
   have hmm := (mkPap_mem x i).1
   have hsP := mP_succ x i
   have hlP := mP_len x i
   have hlF := mF_len x (i / 2)
   have hz : (((kOf x i).length : Int) = 0) = False := eq_false (by omega)
   have hr : (byteI x.by' (i + 1) : Int).tmod ((kOf x i).length : Int) = ((byteI x.by' (i + 1) % (kOf x i).length : Nat) : Int) := tmodN _ _
   have hjl : byteI x.by' (i + 1) % (kOf x i).length < (kOf x i).length := Nat.mod_lt _ hkp
   have hj1 : (byteI x.by' (i + 1) % (kOf x i).length < (kOf x i).length) = True := eq_true hjl
   have hj2 := nL_at hat
   have hrem : (i : Int).tmod 2 = ((i % 2 : Nat) : Int) := t2 i
   have hkk : kOf x i = kT (wSto x) (if i % 2 = 0 then 1 else 2) (nPap x) := rfl
   generalize mkPap x i = v at *
   generalize byteI x.by' (i + 1) % (kOf x i).length = j at *
   generalize byteI x.by' (i + 1) = y at *
   have hln1 := nL_length (mP x i)
   have hln2 := nL_length (mF x (i / 2))
   have hln3 := nL_length (kOf x i)
   rcases (by omega : i % 2 = 0 ∨ i % 2 = 1) with ho | ho
   ·rw [if_pos ho] at hkk
    rw [← hkk]
    rw [ho] at hrem
    generalize kOf x i = kk at *
    generalize nL kk = ck at *
    have hdiv : (i + 1) / 2 = i / 2 := by omega
    generalize nL (mP x i) = cp at *
    repeat' (first|(with_reducible first|apply qA|apply qB|apply qC|apply qD|apply qE|apply qF)|(refine qL rfl (WF.of ?_) ?_; first|rfl|skip)|(simp (disch:=omega) only [go_sem, simprocAttr, Blk.men, Blk.keysIn, hd, hrem, hz, hr, hj1, hj2, hln3])|exact qM rfl rfl rfl|(refine qG rfl ?_)|(refine qK (hb1) (by decide) ?_)|(refine qH rfl ?_)|(refine qI rfl ?_ ?_<;>intro hc<;>(try simp only [go_sem] at hc))|(refine qJ ?_ ?_<;>intro hc<;>(try simp only [hc])<;>(try simp only [go_sem] at hc)))
    refine ⟨⟨i + 1, hlt⟩, ?_, Ent.to ?_ ?_⟩ <;> first | (show _ < _; (try simp only); omega) | (simp (disch:=omega) only [qR,qS,qTw,qU,get,Nat.reduceEqDiff,↓reduceIte,qV,qW,qX,qY,qZ,and_self,dI,i64_in,and_true,true_and,rA,rB,rC,rD, hsP,hdiv])
    all_goals exact .refl _
   ·rw [if_neg (by omega)] at hkk
    rw [← hkk]
    rw [ho] at hrem
    have hb6 := arByte b x.by' (i + 6) (by omega) h.by'
    rw [Int.natCast_add] at hb6
    have hb6' : DCall Try.prog 37 [.c (.sl b 1 (rows eY x.by')), dI ((i : Int) + 6)] [] (dI (byteI x.by' (i + 6))) [] := hb6
    clear hb6
    have hzf : ((nFlu x : Int) = 0) = False := eq_false (by omega)
    have hrf : (byteI x.by' (i + 6) : Int).tmod (nFlu x : Int) = ((byteI x.by' (i + 6) % nFlu x : Nat) : Int) := tmodN _ _
    have hwf : ((wSto x).flutes.length : Int) = (nFlu x : Int) := by rw [hf]
    have hmf : mkFlu x (i / 2) = byteI x.by' (i + 6) % nFlu x := by unfold mkFlu; rw [show 2 * (i / 2) + 1 + 6 = i + 6 by omega]
    have hsF := mF_succ x (i / 2)
    rw [hmf, show i / 2 + 1 = (i + 1) / 2 by omega] at hsF
    have hfl : byteI x.by' (i + 6) % nFlu x < nFlu x := Nat.mod_lt _ (by omega)
    generalize byteI x.by' (i + 6) % nFlu x = u at *
    generalize byteI x.by' (i + 6) = z at *
    generalize kOf x i = kk at *
    generalize nL kk = ck at *
    generalize nL (mP x i) = cp at *
    generalize nL (mF x (i / 2)) = cf at *
    repeat' (first|(with_reducible first|apply qA|apply qB|apply qC|apply qD|apply qE|apply qF)|(refine qL rfl (WF.of ?_) ?_; first|rfl|skip)|(simp (disch:=omega) only [go_sem, simprocAttr, Blk.men, Blk.keysIn, hd, hrem, hz, hr, hj1, hj2, hln3, hzf, hrf, hwf])|exact qM rfl rfl rfl|(refine qG rfl ?_)|(refine qK (hb1) (by decide) ?_)|(refine qK (hb6') (by decide) ?_)|(refine qH rfl ?_)|(refine qI rfl ?_ ?_<;>intro hc<;>(try simp only [go_sem] at hc))|(refine qJ ?_ ?_<;>intro hc<;>(try simp only [hc])<;>(try simp only [go_sem] at hc)))
    refine ⟨⟨i + 1, hlt⟩, ?_, Ent.to ?_ ?_⟩ <;> first | (show _ < _; (try simp only); omega) | (simp (disch:=omega) only [qR,qS,qTw,qU,get,Nat.reduceEqDiff,↓reduceIte,qV,qW,qX,qY,qZ,and_self,dI,i64_in,and_true,true_and,rA,rB,rC,rD, hsP,hsF])
    all_goals exact .refl _
  ·obtain rfl : i = 2 * nf + 1 := by omega
   have hd : decide (((2 * nf + 1 : Nat) : Int) < 2 * (nf : Int) + 1) = false := by rw [decide_eq_false_iff_not]; omega
   have hdv : (2 * nf + 1) / 2 = nf := by omega
   have hwm : wMak x = ⟨mP x (2 * nf + 1), mF x nf⟩ := by rw [← hnfe]; rfl
   rw [hwm, hdv]
   repeat' (first|(with_reducible first|apply qA|apply qB|apply qC|apply qD|apply qE|apply qF)|(refine qL rfl (WF.of ?_) ?_; first|rfl|skip)|(simp (disch:=omega) only [go_sem, simprocAttr, Blk.men, Blk.keysIn, hd])|exact qM rfl rfl rfl|(refine qG rfl ?_)|(refine qH rfl ?_)|(refine qI rfl ?_ ?_<;>intro hc<;>(try simp only [go_sem] at hc))|(refine qJ ?_ ?_<;>intro hc<;>(try simp only [hc])<;>(try simp only [go_sem] at hc)))
   (refine retS_ent (Ent.rel 84 rfl) ?_; simp (disch:=omega) only [go_sem,simprocAttr,Blk.men,Blk.keysIn])
   (refine retS_ent (Ent.rel 67 rfl) ?_; simp (disch:=omega) only [go_sem,simprocAttr,Blk.men,Blk.keysIn])
   refine retS_wk rfl ?_ (by simp only [Blk.nb, rowC_nb, D.nb, D.nbs, C.nb, C.nbs, C.nbss, rows_nb eI_nb, Bool.and_true, Bool.not_false, Bool.and_self, bD, dI, iD, rows_nb eP_nb, rows_nb eF_nb, rows_nb eY_nb]); exact .refl _
end Go.Dw.Seat
end
section
set_option linter.unusedSimpArgs false
set_option maxRecDepth 100000
namespace Go.Dw.Seat
open Go Go.Dw Go.Proofs Go.IntWalk
abbrev IMap := List (Nat × Int)
def iFind : IMap → Nat → Option Int
 | [], _ => none
 | p :: t, s => if s = p.1 then some p.2 else iFind t s
def iG (m : IMap) (s : Nat) : Int := (iFind m s).getD 0
def iUpd : IMap → Nat → Int → IMap
 | [], s, b => [(s, b)]
 | p :: t, s, b => if s = p.1 then (s, b) :: t else p :: iUpd t s b
def iMk (m : IMap) : List Value := m.map fun p => .int .i64 p.1
def iMd (m : IMap) : List D := m.map fun p => .c (.v (.int .i64 p.2))
theorem iK_ok (s : Nat) (m : IMap) : keysOK (.int .i64) (.int .i64 s) (iMk m) = true := by
 simp only [keysOK, KK.is, decide_true, Bool.true_and, iMk, List.all_map, List.all_eq_true]
 intro p _
 simp [KK.is]
theorem findL_iK (s : Nat) : ∀ (m : IMap) (n : Nat), (match iFind m s with
  | some b => ∃ i, findL (.int .i64 s) (iMk m) n = some (n + i) ∧ (iMd m)[i]? = some (dI b) ∧ ∀ c : Int, (iMk m).set i (.int .i64 s) = iMk (iUpd m s c) ∧ (iMd m).set i (dI c) = iMd (iUpd m s c)
  | none => findL (.int .i64 s) (iMk m) n = none ∧ ∀ c : Int, iMk m ++ [.int .i64 s] = iMk (iUpd m s c) ∧ iMd m ++ [dI c] = iMd (iUpd m s c))
 | [], n => ⟨rfl, fun c => ⟨rfl, rfl⟩⟩
 | p :: t, n => by
  have ih := findL_iK s t (n + 1)
  simp only [iFind, iUpd]
  by_cases h : s = p.1
  ·rw [if_pos h]
   have hk : keyEq (.int .i64 (s : Int)) (.int .i64 (p.1 : Int)) = true := by simp [keyEq, h]
   refine ⟨0, ?_, rfl, fun c => ?_⟩
   ·simp only [iMk, List.map_cons, findL, hk, if_true]; rfl
   ·simp only [if_pos h]
    exact ⟨rfl, rfl⟩
  ·rw [if_neg h]
   have hk : keyEq (.int .i64 (s : Int)) (.int .i64 (p.1 : Int)) = false := by simp [keyEq]; omega
   cases hf : iFind t s with
   | some b =>
    rw [hf] at ih
    obtain ⟨i, h1, h2, h3⟩ := ih
    refine ⟨i + 1, ?_, h2, fun c => ?_⟩
    ·have : n + (i + 1) = n + 1 + i := by omega
     rw [this]
     simpa only [iMk, List.map_cons, findL, hk, Bool.false_eq_true, if_false] using h1
    ·obtain ⟨h4, h5⟩ := h3 c
     simp only [if_neg h]
     exact ⟨by simpa [iMk] using h4, by simpa [iMd] using h5⟩
   | none =>
    rw [hf] at ih
    obtain ⟨h1, h3⟩ := ih
    refine ⟨by simpa only [iMk, List.map_cons, findL, hk, Bool.false_eq_true, if_false] using h1, fun c => ?_⟩
    obtain ⟨h4, h5⟩ := h3 c
    simp only [if_neg h]
    exact ⟨by simpa [iMk] using h4, by simpa [iMd] using h5⟩
theorem look_iK (s : Nat) (m : IMap) : lookIn (.c (.v (.int .i64 0))) (iMk m) (iMd m) (.int .i64 s) false = some (.c (.v (.int .i64 (iG m s)))) := by
 have h := findL_iK s m 0
 unfold lookIn iG
 cases hf : iFind m s with
 | some b =>
  rw [hf] at h
  obtain ⟨i, h1, h2, _⟩ := h
  rw [Nat.zero_add] at h1
  simp only [h1, h2, commaD, Bool.false_eq_true, if_false]; rfl
 | none =>
  rw [hf] at h
  simp only [h.1, commaD, Bool.false_eq_true, if_false]; rfl
theorem upd_iK (s : Nat) (m : IMap) (c : Int) : updK (iMk m) (iMd m) (.int .i64 s) (.c (.v (.int .i64 c))) = (iMk (iUpd m s c), iMd (iUpd m s c)) := by
 have h := findL_iK s m 0
 unfold updK
 cases hf : iFind m s with
 | some b =>
  rw [hf] at h
  obtain ⟨i, h1, h2, h3⟩ := h
  rw [Nat.zero_add] at h1
  simp only [h1, (h3 c).1]
  exact congrArg _ (h3 c).2
 | none =>
  rw [hf] at h
  simp only [h.1, (h.2 c).1]
  exact congrArg _ (h.2 c).2
theorem iD_men (k : Nat) (m : IMap) : D.mens k (iMd m) = false := by
 induction m with
 | nil => rfl
 | cons p m ih => simpa [iMd, D.mens, D.men] using ih
theorem iD_keys (bx : List (Nat × Blk)) (m : IMap) : D.keysIns bx (iMd m) = true := by
 induction m with
 | nil => rfl
 | cons p m ih => simpa [iMd, D.keysIns, D.keysIn] using ih
theorem killB_iD [Lays] (k : Nat) (ks : List Value) (m : IMap) : killB k (.map ks (iMd m)) = .map ks (iMd m) := by
 show Blk.map ks ((iMd m).map (killD k)) = _
 rw [map_killD_of (iD_men k m)]
theorem rels_iD (k : Nat) (x : Blk) : ∀ m : IMap, relDs k x (iMd m) = iMd m
 | [] => rfl
 | p :: m => by
  have := rels_iD k x m
  simpa [iMd, relDs, relD] using this
theorem relB_iD [Lays] (k : Nat) (x : Blk) (ks : List Value) (m : IMap) : relB k x (.map ks (iMd m)) = .map ks (iMd m) := by
 show Blk.map ks (relDs k x (iMd m)) = _
 rw [rels_iD]
attribute [go_sem] killB_iD relB_iD iK_ok look_iK upd_iK iD_men iD_keys
end Go.Dw.Seat
end
section
set_option linter.unusedSimpArgs false
set_option maxRecDepth 100000
namespace Go.Dw.Seat
open Go Go.Dw Go.Proofs Go.IntWalk
theorem byteI_lt {l : List Nat} (h : ∀ v ∈ l, v < 256) (i : Nat) : byteI l i < 256 := by
 unfold byteI
 cases hv : l[i % l.length]? with
 | none => decide
 | some v => exact h v (List.mem_of_getElem? hv)
def thickI (s : Sto) (m : Mak) (tr : List Nat) : Nat → Int
 | 0 => 0
 | i + 1 => thickI s m tr i + (if i % 2 = 0 then inI (papAt s (m.papers[i]?.getD 0)).tl (papAt s (m.papers[i]?.getD 0)).th (byteI tr i) else inI (fluAt s (m.flutes[i / 2]?.getD 0)).hl (fluAt s (m.flutes[i / 2]?.getD 0)).hh (byteI tr i))
theorem thickI_b {s : Sto} {m : Mak} {tr : List Nat} (hs : s.ok) (h : m.ok s) (ht : ∀ v ∈ tr, v < 256) : ∀ i, i ≤ m.papers.length → 0 ≤ thickI s m tr i ∧ thickI s m tr i ≤ 10000 * (i : Int)
 | 0, _ => by simp [thickI]
 | i + 1, hi => by
  have ih := thickI_b hs h ht i (by omega)
  have hb := byteI_lt ht i
  rw [thickI]
  split
  ·obtain ⟨v, hv⟩ := getE (l := m.papers) (i := i) (by omega)
   have ho := (papAt_ok hs (h.papers v (List.mem_of_getElem? hv))).thick
   rw [hv, Option.getD_some]
   have := inI_b hb ho.2.1
   omega
  ·obtain ⟨_, hfs⟩ := flute_at h (i := i) (by omega) (by omega)
   have ho := (fluAt_ok hs hfs).high
   have := inI_b hb ho.2.1
   omega
theorem arThick (b : Bool) (s : Sto) (m : Mak) (tr : List Nat) (hs : s.ok) (h : m.ok s) (ht : ∀ v ∈ tr, v < 256) : DCall Try.prog 18 [dSto s, dMak m, .c (.sl b 1 (rows eY tr))] [] (dI (thickI s m tr m.papers.length)) [] := by
 have hf := h.nf
 have hn := h.np
 have hl1 : (nL m.papers).length = m.papers.length := nL_length _
 have hl2 : (nL m.flutes).length = m.flutes.length := nL_length _
 refine DCall.of Try.func18 sf18 hb18 (Nat.le_of_ble_eq_true rfl) (okRes_nil fun _ => rfl) ?_; simp only [s18, idxs, Nat.reduceAdd]
 repeat' (first|(with_reducible first|apply qA|apply qB|apply qC|apply qD|apply qE|apply qF)|(refine qL rfl (WF.of ?_) ?_; first|rfl|skip)|(simp (disch:=omega) only [go_sem, simprocAttr, Blk.men, Blk.keysIn])|exact qM rfl rfl rfl|(refine qG rfl ?_)|(refine qH rfl ?_)|(refine qI rfl ?_ ?_<;>intro hc<;>(try simp only [go_sem] at hc))|(refine qJ ?_ ?_<;>intro hc<;>(try simp only [hc])<;>(try simp only [go_sem] at hc)))
 refine DW.loop (ι := { i : Nat // i ≤ m.papers.length }) (fun i => ⟨53, [(8, dI i.1), (7, dI (thickI s m tr i.1)), (4, .box 4 0), (3, .box 3 0), (2, .c (.sl b 1 (rows eY tr)))], [(4, .box [.c (.sl false 1 (rows eI (nL m.papers))), .c (.sl false 1 (rows eI (nL m.flutes)))]), (3, .box [.c (.sl false 8 (rows eP s.papers)), .c (.sl false 4 (rows eF s.flutes))])]⟩) (fun i => m.papers.length - i.1) ⟨0, Nat.zero_le _⟩ ?_ ?_
 ·refine Ent.to ?_ ?_ <;> simp (disch:=omega) only [qR,qS,qTw,qU,get,Nat.reduceEqDiff,↓reduceIte,qV,qW,qX,qY,qZ,and_self,dI,i64_in,and_true,true_and,rA,rB,rC,rD,thickI]
 rintro ⟨i, hi⟩
 dsimp only
 rcases Nat.lt_or_ge i m.papers.length with hlt | hge
 ·have hd : decide ((i : Int) < (m.papers.length : Int)) = true := by rw [decide_eq_true_eq]; omega
  have hrem : (i : Int).tmod 2 = ((i % 2 : Nat) : Int) := t2 i
  have hquo : (i : Int).tdiv 2 = ((i / 2 : Nat) : Int) := tdivN i 2
  have hby := arByte b tr i (by omega) ht
  have hb8 := byteI_lt ht i
  have hcb := thickI_b hs h ht i hi
  have hnx : thickI s m tr (i + 1) = thickI s m tr i + (if i % 2 = 0 then inI (papAt s (m.papers[i]?.getD 0)).tl (papAt s (m.papers[i]?.getD 0)).th (byteI tr i) else inI (fluAt s (m.flutes[i / 2]?.getD 0)).hl (fluAt s (m.flutes[i / 2]?.getD 0)).hh (byteI tr i)) := rfl
  rcases (by omega : i % 2 = 0 ∨ i % 2 = 1) with ho | ho
  ·obtain ⟨v, hv⟩ := getE (l := m.papers) (i := i) hlt
   have hv' := nL_at hv
   have hvs := h.papers v (List.mem_of_getElem? hv)
   have hp := papAt_get hvs
   have hpo := (papAt_ok hs hvs).thick
   rw [if_pos ho, hv, Option.getD_some] at hnx
   rw [ho] at hrem
   have hin := arIn (papAt s v).tl (papAt s v).th (byteI tr i) hb8 (by omega)
   have hib := inI_b hb8 hpo.2.1
   generalize papAt s v = p at *
   generalize byteI tr i = y at *
   repeat' (first|(with_reducible first|apply qA|apply qB|apply qC|apply qD|apply qE|apply qF)|(refine qL rfl (WF.of ?_) ?_; first|rfl|skip)|(simp (disch:=omega) only [go_sem, simprocAttr, Blk.men, Blk.keysIn, hd, hl1, hrem, hv', hp, rF, rG])|exact qM rfl rfl rfl|(refine qG rfl ?_)|(refine qK (hby) (by decide) ?_)|(refine qK (hin) (by decide) ?_)|(refine qH rfl ?_)|(refine qI rfl ?_ ?_<;>intro hc<;>(try simp only [go_sem] at hc))|(refine qJ ?_ ?_<;>intro hc<;>(try simp only [hc])<;>(try simp only [go_sem] at hc)))
   refine ⟨⟨i + 1, hlt⟩, ?_, Ent.to ?_ ?_⟩ <;> first | (show _ < _; (try simp only); omega) | (simp (disch:=omega) only [qR,qS,qTw,qU,get,Nat.reduceEqDiff,↓reduceIte,qV,qW,qX,qY,qZ,and_self,dI,i64_in,and_true,true_and,rA,rB,rC,rD, hnx])
  ·obtain ⟨hfv, hfs⟩ := flute_at h hlt ho
   rw [if_neg (by omega)] at hnx
   rw [ho] at hrem
   generalize m.flutes[i / 2]?.getD 0 = z at *
   have hv' := nL_at hfv
   have hp := fluAt_get hfs
   have hpo := (fluAt_ok hs hfs).high
   have hin := arIn (fluAt s z).hl (fluAt s z).hh (byteI tr i) hb8 (by omega)
   have hib := inI_b hb8 hpo.2.1
   generalize fluAt s z = p at *
   generalize byteI tr i = y at *
   repeat' (first|(with_reducible first|apply qA|apply qB|apply qC|apply qD|apply qE|apply qF)|(refine qL rfl (WF.of ?_) ?_; first|rfl|skip)|(simp (disch:=omega) only [go_sem, simprocAttr, Blk.men, Blk.keysIn, hd, hl1, hl2, hrem, hquo, hv', hp, rF, rG])|exact qM rfl rfl rfl|(refine qG rfl ?_)|(refine qK (hby) (by decide) ?_)|(refine qK (hin) (by decide) ?_)|(refine qH rfl ?_)|(refine qI rfl ?_ ?_<;>intro hc<;>(try simp only [go_sem] at hc))|(refine qJ ?_ ?_<;>intro hc<;>(try simp only [hc])<;>(try simp only [go_sem] at hc)))
   refine ⟨⟨i + 1, hlt⟩, ?_, Ent.to ?_ ?_⟩ <;> first | (show _ < _; (try simp only); omega) | (simp (disch:=omega) only [qR,qS,qTw,qU,get,Nat.reduceEqDiff,↓reduceIte,qV,qW,qX,qY,qZ,and_self,dI,i64_in,and_true,true_and,rA,rB,rC,rD, hnx])
 ·obtain rfl : i = m.papers.length := by omega
  have hd : decide ((m.papers.length : Int) < (m.papers.length : Int)) = false := by rw [decide_eq_false_iff_not]; omega
  repeat' (first|(with_reducible first|apply qA|apply qB|apply qC|apply qD|apply qE|apply qF)|(refine qL rfl (WF.of ?_) ?_; first|rfl|skip)|(simp (disch:=omega) only [go_sem, simprocAttr, Blk.men, Blk.keysIn, hd, hl1])|exact qM rfl rfl rfl|(refine qG rfl ?_)|(refine qH rfl ?_)|(refine qI rfl ?_ ?_<;>intro hc<;>(try simp only [go_sem] at hc))|(refine qJ ?_ ?_<;>intro hc<;>(try simp only [hc])<;>(try simp only [go_sem] at hc)))
theorem Mak.ok.shape {m : Mak} {s : Sto} (h : m.ok s) : (∃ a b c f, m = ⟨[a, b, c], [f]⟩) ∨ (∃ a b c d e f g, m = ⟨[a, b, c, d, e], [f, g]⟩) := by
 obtain ⟨ps, fs⟩ := m
 have h1 := h.nf
 have h2 := h.np
 dsimp only at h1 h2
 match fs, ps, h1, h2 with
 | [f], [a, b, c], _, _ => exact .inl ⟨a, b, c, f, rfl⟩
 | [f, g], [a, b, c, d, e], _, _ => exact .inr ⟨a, b, c, d, e, f, g, rfl⟩
theorem thick_in {s : Sto} {m : Mak} {tr : List Nat} (hs : s.ok) (h : m.ok s) (ht : ∀ v ∈ tr, v < 256) : calI loE s m ≤ thickI s m tr m.papers.length ∧ thickI s m tr m.papers.length ≤ calI hiE s m := by
 have hp : ∀ v ∈ m.papers, ∀ i, (papAt s v).tl ≤ inI (papAt s v).tl (papAt s v).th (byteI tr i) ∧ inI (papAt s v).tl (papAt s v).th (byteI tr i) ≤ (papAt s v).th := fun v hv i =>
  inI_b (byteI_lt ht i) (papAt_ok hs (h.papers v hv)).thick.2.1
 have hf : ∀ v ∈ m.flutes, ∀ i, (fluAt s v).hl ≤ inI (fluAt s v).hl (fluAt s v).hh (byteI tr i) ∧ inI (fluAt s v).hl (fluAt s v).hh (byteI tr i) ≤ (fluAt s v).hh := fun v hv i =>
  inI_b (byteI_lt ht i) (fluAt_ok hs (h.flutes v hv)).high.2.1
 rcases h.shape with ⟨a, b, c, z, rfl⟩ | ⟨a, b, c, d, e, z, g, rfl⟩
 ·have q1 := hp a (by simp) 0
  have q2 := hf z (by simp) 1
  have q3 := hp c (by simp) 2
  simp [calI, calP, calH, thickI, loE, hiE]; omega
 ·have q1 := hp a (by simp) 0
  have q2 := hf z (by simp) 1
  have q3 := hp c (by simp) 2
  have q4 := hf g (by simp) 3
  have q5 := hp e (by simp) 4
  simp [calI, calP, calH, thickI, loE, hiE]; omega
theorem calI_pos {s : Sto} {m : Mak} (hs : s.ok) (h : m.ok s) : 1 ≤ calI loE s m ∧ calI loE s m ≤ calI hiE s m := by
 have hp : ∀ v ∈ m.papers, 1 ≤ (papAt s v).tl ∧ (papAt s v).tl ≤ (papAt s v).th := fun v hv => by have := (papAt_ok hs (h.papers v hv)).thick; omega
 have hf : ∀ v ∈ m.flutes, 1 ≤ (fluAt s v).hl ∧ (fluAt s v).hl ≤ (fluAt s v).hh := fun v hv => by have := (fluAt_ok hs (h.flutes v hv)).high; omega
 rcases h.shape with ⟨a, b, c, z, rfl⟩ | ⟨a, b, c, d, e, z, g, rfl⟩
 ·have q1 := hp a (by simp)
  have q2 := hf z (by simp)
  have q3 := hp c (by simp)
  simp [calI, calP, calH, loE, hiE]; omega
 ·have q1 := hp a (by simp)
  have q2 := hf z (by simp)
  have q3 := hp c (by simp)
  have q4 := hf g (by simp)
  have q5 := hp e (by simp)
  simp [calI, calP, calH, loE, hiE]; omega
end Go.Dw.Seat
end
section
set_option linter.unusedSimpArgs false
set_option maxRecDepth 100000
namespace Go.Dw.Seat
open Go Go.Dw Go.Proofs Go.IntWalk
theorem dm_bm_pbox (k l : Nat) (ds : List D) : Blk.men k (.pbox l ds) = D.mens k ds := rfl
theorem dm_bk_pbox (bx : List (Nat × Blk)) (l : Nat) (ds : List D) : Blk.keysIn bx (.pbox l ds) = D.keysIns bx ds := rfl
theorem dm_killB_pbox (k l : Nat) (ds : List D) : killB k (.pbox l ds) = .pbox l (ds.map (killD k)) := rfl
attribute [go_sem] dm_bm_pbox dm_bk_pbox dm_killB_pbox
end Go.Dw.Seat
end
section
set_option linter.unusedSimpArgs false
set_option maxRecDepth 100000
namespace Go.Dw.Seat
open Go Go.Dw Go.Proofs Go.IntWalk
def eRt (p : Nat × Nat) : List C := [.v (.int .i64 p.1), .v (.int .i64 p.2)]
attribute [go_sem] eRt
end Go.Dw.Seat
end
section
set_option linter.unusedSimpArgs false
set_option maxRecDepth 100000
namespace Go.Dw.Seat
open Go Go.Dw Go.Proofs Go.IntWalk
structure V4 where
 v0 : Nat
 v1 : Nat
 v2 : Nat
 v3 : Nat
structure V4.ok (v : V4) : Prop where
 v0 : v.v0 < 256
 v1 : v.v1 < 256
 v2 : v.v2 < 256
 v3 : v.v3 < 256
structure FoldY where
 p0 : V4
 p1 : V4
 p2 : V4
 f0 : V3
 f1 : V3
 bx : List Nat
structure FoldY.ok (x : FoldY) : Prop where
 p0 : x.p0.ok
 p1 : x.p1.ok
 p2 : x.p2.ok
 f0 : x.f0.ok
 f1 : x.f1.ok
 len : x.bx.length = 7
end Go.Dw.Seat
end
section
set_option linter.unusedSimpArgs false
set_option maxRecDepth 100000
namespace Go.Dw.Seat
open Go Go.Dw Go.Proofs Go.IntWalk
theorem weakW0 {f : FuncId} {l as' : List D} {bi : List (Nat × Blk)} {r : D} {bo : List (Nat × Blk)} (h : DCall Try.prog f as' bi r bo) (hw : Wks l as') : DCall Try.prog f l bi r bo :=
 ⟨h.1, h.2.1, fun N G w vs hN hd hh hvs => h.2.2 N G w vs hN hd hh (Wks.sound hw hvs)⟩
end Go.Dw.Seat
end
section
set_option linter.unusedSimpArgs false
set_option maxRecDepth 100000
namespace Go.Dw.Seat
open Go Go.Dw Go.Proofs Go.IntWalk
theorem scIsSpan (a b lo hi : Int) (h : lo ≤ a ∧ a ≤ b ∧ b ≤ hi) : DCall Try.prog 85 [.agg [dI a, dI b], dI lo, dI hi] [] (bD true) [] := by
 have h1 := scIn true lo hi [a, b] (by simp) (fun v hv => by
  simp only [List.mem_cons, List.not_mem_nil, or_false] at hv
  rcases hv with rfl | rfl <;> omega)
 have hd : decide (a ≤ b) = true := decide_eq_true h.2.1
 refine DCall.of Try.func85 sf85 hb85 (Nat.le_of_ble_eq_true rfl) (okRes_nil fun _ => rfl) ?_; simp only [s85, idxs, Nat.reduceAdd]
 repeat' (first|(with_reducible first|apply qA|apply qB|apply qC|apply qD|apply qE|apply qF)|(simp (disch:=omega) only [go_sem, simprocAttr, qN, qO, qP, qQ, hd])|exact qM rfl rfl rfl|(refine qG rfl ?_)|(refine qK (h1) (by decide) ?_)|(refine qH rfl ?_)|(refine qI rfl ?_ ?_<;>intro hc<;>(try simp only [go_sem] at hc))|(refine qJ ?_ ?_<;>intro hc<;>(try simp only [hc])<;>(try simp only [go_sem] at hc)))
set_option maxHeartbeats 4000000 in
theorem scWish (w : Wsh) (hw : w.ok) : DCall Try.prog 41 [.agg (wshL w)] [] (dI 0) [] := by
 have s1 := scIsSpan w.l.1 w.l.2 0 3000 (by have := hw.l; omega)
 have s2 := scIsSpan w.w.1 w.w.2 0 3000 (by have := hw.w; omega)
 have s3' := scIsSpan w.h.1 w.h.2 0 3000 (by have := hw.h; omega)
 have s4' := scIsSpan w.o.1 w.o.2 (-3000) 3000 (by have := hw.o; omega)
 have s5' := scIsSpan w.i.1 w.i.2 (-3000) 3000 (by have := hw.i; omega)
 refine DCall.of Try.func41 sf41 hb41 (Nat.le_of_ble_eq_true rfl) (okRes_nil fun _ => rfl) ?_; simp only [s41, idxs, Nat.reduceAdd]
 repeat' (first|(with_reducible first|apply qA|apply qB|apply qC|apply qD|apply qE|apply qF)|(simp (disch:=omega) only [go_sem, simprocAttr, qN, qO, qP, qQ])|exact qM rfl rfl rfl|(refine qG rfl ?_)|(refine qH rfl ?_)|(refine qI rfl ?_ ?_<;>intro hc<;>(try simp only [go_sem] at hc))|(refine qJ ?_ ?_<;>intro hc<;>(try simp only [hc])<;>(try simp only [go_sem] at hc)))
 refine DW.loop (ι := { i : Nat // i ≤ 3 }) (fun i => ⟨33, [(14, dI i.1), (13, .agg [dI w.l.1, dI w.l.2, dI w.w.1, dI w.w.2, dI w.h.1, dI w.h.2]), (2, dI 0), (1, .box 1 0)], [(1, .box (wshL w))]⟩) (fun i => 3 - i.1) ⟨0, Nat.zero_le _⟩ ?_ ?_
 ·refine Ent.to ?_ ?_ <;> simp (disch:=omega) only [qR,qS,qTw,qU,get,Nat.reduceEqDiff,↓reduceIte,qV,qW,qX,qY,qZ,and_self,dI,i64_in,and_true,true_and,rA,rB,rC,rD]
  all_goals first | exact .refl _ | exact ⟨.refl _, .refl _⟩
 rintro ⟨i, hi⟩
 dsimp only
 rcases (by omega : i = 0 ∨ i = 1 ∨ i = 2 ∨ i = 3) with rfl | rfl | rfl | rfl
 ·repeat' (first|(with_reducible first|apply qA|apply qB|apply qC|apply qD|apply qE|apply qF)|(simp (disch:=omega) only [go_sem, simprocAttr, qN, qO, qP, qQ])|exact qM rfl rfl rfl|(refine qG rfl ?_)|(refine qK (s1) (by decide) ?_)|(refine qH rfl ?_)|(refine qI rfl ?_ ?_<;>intro hc<;>(try simp only [go_sem] at hc))|(refine qJ ?_ ?_<;>intro hc<;>(try simp only [hc])<;>(try simp only [go_sem] at hc)))
  refine ⟨⟨1, by omega⟩, ?_, Ent.to ?_ ?_⟩ <;> first | (show _ < _; (try simp only); omega) | (simp (disch:=omega) only [qR,qS,qTw,qU,get,Nat.reduceEqDiff,↓reduceIte,qV,qW,qX,qY,qZ,and_self,dI,i64_in,and_true,true_and,rA,rB,rC,rD])
  all_goals first | exact .refl _ | exact ⟨.refl _, .refl _⟩
 ·repeat' (first|(with_reducible first|apply qA|apply qB|apply qC|apply qD|apply qE|apply qF)|(simp (disch:=omega) only [go_sem, simprocAttr, qN, qO, qP, qQ])|exact qM rfl rfl rfl|(refine qG rfl ?_)|(refine qK (s2) (by decide) ?_)|(refine qH rfl ?_)|(refine qI rfl ?_ ?_<;>intro hc<;>(try simp only [go_sem] at hc))|(refine qJ ?_ ?_<;>intro hc<;>(try simp only [hc])<;>(try simp only [go_sem] at hc)))
  refine ⟨⟨2, by omega⟩, ?_, Ent.to ?_ ?_⟩ <;> first | (show _ < _; (try simp only); omega) | (simp (disch:=omega) only [qR,qS,qTw,qU,get,Nat.reduceEqDiff,↓reduceIte,qV,qW,qX,qY,qZ,and_self,dI,i64_in,and_true,true_and,rA,rB,rC,rD])
  all_goals first | exact .refl _ | exact ⟨.refl _, .refl _⟩
 ·repeat' (first|(with_reducible first|apply qA|apply qB|apply qC|apply qD|apply qE|apply qF)|(simp (disch:=omega) only [go_sem, simprocAttr, qN, qO, qP, qQ])|exact qM rfl rfl rfl|(refine qG rfl ?_)|(refine qK (s3') (by decide) ?_)|(refine qH rfl ?_)|(refine qI rfl ?_ ?_<;>intro hc<;>(try simp only [go_sem] at hc))|(refine qJ ?_ ?_<;>intro hc<;>(try simp only [hc])<;>(try simp only [go_sem] at hc)))
  refine ⟨⟨3, by omega⟩, ?_, Ent.to ?_ ?_⟩ <;> first | (show _ < _; (try simp only); omega) | (simp (disch:=omega) only [qR,qS,qTw,qU,get,Nat.reduceEqDiff,↓reduceIte,qV,qW,qX,qY,qZ,and_self,dI,i64_in,and_true,true_and,rA,rB,rC,rD])
  all_goals first | exact .refl _ | exact ⟨.refl _, .refl _⟩
 repeat' (first|(with_reducible first|apply qA|apply qB|apply qC|apply qD|apply qE|apply qF)|(simp (disch:=omega) only [go_sem, simprocAttr, qN, qO, qP, qQ])|exact qM rfl rfl rfl|(refine qG rfl ?_)|(refine qH rfl ?_)|(refine qI rfl ?_ ?_<;>intro hc<;>(try simp only [go_sem] at hc))|(refine qJ ?_ ?_<;>intro hc<;>(try simp only [hc])<;>(try simp only [go_sem] at hc)))
 refine DW.loop (ι := { i : Nat // i ≤ 2 }) (fun i => ⟨33, [(26, dI i.1), (25, .agg [dI w.o.1, dI w.o.2, dI w.i.1, dI w.i.2]), (2, dI 0)], []⟩) (fun i => 2 - i.1) ⟨0, Nat.zero_le _⟩ ?_ ?_
 ·refine Ent.to ?_ ?_ <;> simp (disch:=omega) only [qR,qS,qTw,qU,get,Nat.reduceEqDiff,↓reduceIte,qV,qW,qX,qY,qZ,and_self,dI,i64_in,and_true,true_and,rA,rB,rC,rD]
  all_goals first | exact .refl _ | exact ⟨.refl _, .refl _⟩
 rintro ⟨i, hi⟩
 dsimp only
 rcases (by omega : i = 0 ∨ i = 1 ∨ i = 2) with rfl | rfl | rfl
 ·repeat' (first|(with_reducible first|apply qA|apply qB|apply qC|apply qD|apply qE|apply qF)|(simp (disch:=omega) only [go_sem, simprocAttr, qN, qO, qP, qQ])|exact qM rfl rfl rfl|(refine qG rfl ?_)|(refine qK (s4') (by decide) ?_)|(refine qH rfl ?_)|(refine qI rfl ?_ ?_<;>intro hc<;>(try simp only [go_sem] at hc))|(refine qJ ?_ ?_<;>intro hc<;>(try simp only [hc])<;>(try simp only [go_sem] at hc)))
  refine ⟨⟨1, by omega⟩, ?_, Ent.to ?_ ?_⟩ <;> first | (show _ < _; (try simp only); omega) | (simp (disch:=omega) only [qR,qS,qTw,qU,get,Nat.reduceEqDiff,↓reduceIte,qV,qW,qX,qY,qZ,and_self,dI,i64_in,and_true,true_and,rA,rB,rC,rD])
  all_goals first | exact .refl _ | exact ⟨.refl _, .refl _⟩
 ·repeat' (first|(with_reducible first|apply qA|apply qB|apply qC|apply qD|apply qE|apply qF)|(simp (disch:=omega) only [go_sem, simprocAttr, qN, qO, qP, qQ])|exact qM rfl rfl rfl|(refine qG rfl ?_)|(refine qK (s5') (by decide) ?_)|(refine qH rfl ?_)|(refine qI rfl ?_ ?_<;>intro hc<;>(try simp only [go_sem] at hc))|(refine qJ ?_ ?_<;>intro hc<;>(try simp only [hc])<;>(try simp only [go_sem] at hc)))
  refine ⟨⟨2, by omega⟩, ?_, Ent.to ?_ ?_⟩ <;> first | (show _ < _; (try simp only); omega) | (simp (disch:=omega) only [qR,qS,qTw,qU,get,Nat.reduceEqDiff,↓reduceIte,qV,qW,qX,qY,qZ,and_self,dI,i64_in,and_true,true_and,rA,rB,rC,rD])
  all_goals first | exact .refl _ | exact ⟨.refl _, .refl _⟩
 ·repeat' (first|(with_reducible first|apply qA|apply qB|apply qC|apply qD|apply qE|apply qF)|(simp (disch:=omega) only [go_sem, simprocAttr, qN, qO, qP, qQ])|exact qM rfl rfl rfl|(refine qG rfl ?_)|(refine qH rfl ?_)|(refine qI rfl ?_ ?_<;>intro hc<;>(try simp only [go_sem] at hc))|(refine qJ ?_ ?_<;>intro hc<;>(try simp only [hc])<;>(try simp only [go_sem] at hc)))
theorem scCk1 (c : Int × Int) (h : 1 ≤ c.1 ∧ c.1 ≤ c.2 ∧ c.2 ≤ 10000) : DCall Try.prog 86 [.agg ((eSp c).map D.c)] [] (bD false) [] := by
 have h1 := scIsSpan c.1 c.2 1 10000 h
 refine DCall.of Try.func86 sf86 hb86 (Nat.le_of_ble_eq_true rfl) (okRes_nil fun _ => rfl) ?_; simp only [s86, idxs, Nat.reduceAdd]
 repeat' (first|(with_reducible first|apply qA|apply qB|apply qC|apply qD|apply qE|apply qF)|(simp (disch:=omega) only [go_sem, simprocAttr, qN, qO, qP, qQ, rF, rG])|exact qM rfl rfl rfl|(refine qG rfl ?_)|(refine qK (h1) (by decide) ?_)|(refine qH rfl ?_)|(refine qI rfl ?_ ?_<;>intro hc<;>(try simp only [go_sem] at hc))|(refine qJ ?_ ?_<;>intro hc<;>(try simp only [hc])<;>(try simp only [go_sem] at hc)))
theorem scChecked (b : Bool) (c : Int × Int) (h : 1 ≤ c.1 ∧ c.1 ≤ c.2 ∧ c.2 ≤ 10000) : DCall Try.prog 42 [.c (.v (.slice none 0 0)), .c (.sl b 2 (rows eSp [c]))] [] (dI 0) [] := by
 have h1 := dmSpCon b [c] (show 1 ≤ 2 ^ 36 by decide) 86 (fun x hx => by
  rw [List.mem_singleton] at hx
  subst hx
  exact scCk1 x h)
 refine DCall.of Try.func42 sf42 hb42 (Nat.le_of_ble_eq_true rfl) (okRes_nil fun _ => rfl) ?_; simp only [s42, idxs, Nat.reduceAdd]
 repeat' (first|(with_reducible first|apply qA|apply qB|apply qC|apply qD|apply qE|apply qF)|(simp (disch:=omega) only [go_sem, simprocAttr, qN, qO, qP, qQ])|exact qM rfl rfl rfl|(refine qG rfl ?_)|(refine qH rfl ?_)|(refine qI rfl ?_ ?_<;>intro hc<;>(try simp only [go_sem] at hc))|(refine qJ ?_ ?_<;>intro hc<;>(try simp only [hc])<;>(try simp only [go_sem] at hc)))
 refine DW.loop (ι := Unit) (fun _ => ⟨24, [(11, dI 0), (10, dI 0), (4, dI 0), (1, .c (.sl b 2 (rows eSp [c])))], []⟩) (fun _ => 0) () ?_ ?_
 ·refine Ent.to ?_ ?_ <;> simp (disch:=omega) only [qR,qS,qTw,qU,get,Nat.reduceEqDiff,↓reduceIte,qV,qW,qX,qY,qZ,and_self,dI,i64_in,and_true,true_and,rA,rB,rC,rD]
  all_goals first | exact .refl _ | exact ⟨.refl _, .refl _⟩
 rintro ⟨⟩
 repeat' (first|(with_reducible first|apply qA|apply qB|apply qC|apply qD|apply qE|apply qF)|(simp (disch:=omega) only [go_sem, simprocAttr, qN, qO, qP, qQ])|exact qM rfl rfl rfl|(refine qG rfl ?_)|(refine qK (h1) (by decide) ?_)|(refine qH rfl ?_)|(refine qI rfl ?_ ?_<;>intro hc<;>(try simp only [go_sem] at hc))|(refine qJ ?_ ?_<;>intro hc<;>(try simp only [hc])<;>(try simp only [go_sem] at hc)))
theorem scChecked0 : DCall Try.prog 42 [.c (.v (.slice none 0 0)), .c (.v (.slice none 0 0))] [] (dI 0) [] := by
 have h1 := dmSpCon false [] (by decide) 86 (fun x hx => by cases hx)
 have h1 : DCall Try.prog 87 [.c (.v (.slice none 0 0)), .c (.fn (.func 86) [] [])] [] (bD false) [] := weakW0 h1 (.cons (.nil false 2) (.cons (.refl _) .nil))
 refine DCall.of Try.func42 sf42 hb42 (Nat.le_of_ble_eq_true rfl) (okRes_nil fun _ => rfl) ?_; simp only [s42, idxs, Nat.reduceAdd]
 repeat' (first|(with_reducible first|apply qA|apply qB|apply qC|apply qD|apply qE|apply qF)|(simp (disch:=omega) only [go_sem, simprocAttr, qN, qO, qP, qQ])|exact qM rfl rfl rfl|(refine qG rfl ?_)|(refine qH rfl ?_)|(refine qI rfl ?_ ?_<;>intro hc<;>(try simp only [go_sem] at hc))|(refine qJ ?_ ?_<;>intro hc<;>(try simp only [hc])<;>(try simp only [go_sem] at hc)))
 refine DW.loop (ι := Unit) (fun _ => ⟨24, [(11, dI 0), (10, dI 0), (4, dI 0), (1, .c (.v (.slice none 0 0)))], []⟩) (fun _ => 0) () ?_ ?_
 ·refine Ent.to ?_ ?_ <;> simp (disch:=omega) only [qR,qS,qTw,qU,get,Nat.reduceEqDiff,↓reduceIte,qV,qW,qX,qY,qZ,and_self,dI,i64_in,and_true,true_and,rA,rB,rC,rD]
  all_goals first | exact .refl _ | exact ⟨.refl _, .refl _⟩
 rintro ⟨⟩
 repeat' (first|(with_reducible first|apply qA|apply qB|apply qC|apply qD|apply qE|apply qF)|(simp (disch:=omega) only [go_sem, simprocAttr, qN, qO, qP, qQ])|exact qM rfl rfl rfl|(refine qG rfl ?_)|(refine qK (h1) (by decide) ?_)|(refine qH rfl ?_)|(refine qI rfl ?_ ?_<;>intro hc<;>(try simp only [go_sem] at hc))|(refine qJ ?_ ?_<;>intro hc<;>(try simp only [hc])<;>(try simp only [go_sem] at hc)))
theorem scCheckO (z : Bla) (h : z.ok) (o : Bool) (ho : o = true → z.t0 = 0 ∧ z.t1 = 0) : DCall Try.prog 50 [.agg (bloL z o)] [] (dI 0) [] := by
 obtain ⟨h1, h2, h3, h4, h5, h6, h7, h8, h9, h10, h11⟩ := h
 have c1 := scIn true 0 100 [z.tab] (by simp) (by simpa using h1)
 have c2 := scLong false 1 [z.p0, z.p1, z.p2, z.p3] (by simp) (by simp; omega)
 have c3 := scLong true 1 [z.height] (by simp) (by simpa using h6)
 have c4 := scConcat true [z.t0, z.t1] [z.b0, z.b1] (by simp) (by simp)
 have c5 := scLong false 0 [z.t0, z.t1, z.b0, z.b1] (by simp) (by simp; omega)
 have c6 := scIn true 0 20 [z.slot] (by simp) (by simpa using h11)
 cases o with
 | false =>
  refine DCall.of Try.func50 sf50 hb50 (Nat.le_of_ble_eq_true rfl) (okRes_nil fun _ => rfl) ?_; simp only [s50, idxs, Nat.reduceAdd]
  repeat' (first|(with_reducible first|apply qA|apply qB|apply qC|apply qD|apply qE|apply qF)|(simp (disch:=omega) only [go_sem, simprocAttr, qN, qO, qP, qQ])|exact qM rfl rfl rfl|(refine qG rfl ?_)|(refine qK (c1) (by decide) ?_)|(refine qK (c2) (by decide) ?_)|(refine qK (c3) (by decide) ?_)|(refine qK (c4) (by decide) ?_)|(refine qK (c5) (by decide) ?_)|(refine qK (c6) (by decide) ?_)|(refine qH rfl ?_)|(refine qI rfl ?_ ?_<;>intro hc<;>(try simp only [go_sem] at hc))|(refine qJ ?_ ?_<;>intro hc<;>(try simp only [hc])<;>(try simp only [go_sem] at hc)))
 | true =>
  obtain ⟨e0, e1⟩ := ho rfl
  have c7 := scIn false 0 0 [z.t0, z.t1] (by simp) (by simp; omega)
  refine DCall.of Try.func50 sf50 hb50 (Nat.le_of_ble_eq_true rfl) (okRes_nil fun _ => rfl) ?_; simp only [s50, idxs, Nat.reduceAdd]
  repeat' (first|(with_reducible first|apply qA|apply qB|apply qC|apply qD|apply qE|apply qF)|(simp (disch:=omega) only [go_sem, simprocAttr, qN, qO, qP, qQ])|exact qM rfl rfl rfl|(refine qG rfl ?_)|(refine qK (c1) (by decide) ?_)|(refine qK (c2) (by decide) ?_)|(refine qK (c3) (by decide) ?_)|(refine qK (c4) (by decide) ?_)|(refine qK (c5) (by decide) ?_)|(refine qK (c6) (by decide) ?_)|(refine qK (c7) (by decide) ?_)|(refine qH rfl ?_)|(refine qI rfl ?_ ?_<;>intro hc<;>(try simp only [go_sem] at hc))|(refine qJ ?_ ?_<;>intro hc<;>(try simp only [hc])<;>(try simp only [go_sem] at hc)))
theorem scWished (z : Bla) (h : z.ok) (w : Wsh) (hw : w.ok) (ho : w.op = true → z.t0 = 0 ∧ z.t1 = 0) (b : Bool) (c : Int × Int) (hc : 1 ≤ c.1 ∧ c.1 ≤ c.2 ∧ c.2 ≤ 10000) : DCall Try.prog 45 [.agg (bloL z w.op), .agg (wshL w), .c (.sl b 2 (rows eSp [c]))] [] (dI 0) [] := by
 have h1 := scCheckO z h w.op ho
 have h2 := scWish w hw
 have h3 := scChecked b c hc
 refine DCall.of Try.func45 sf45 hb45 (Nat.le_of_ble_eq_true rfl) (okRes_nil fun _ => rfl) ?_; simp only [s45, idxs, Nat.reduceAdd]
 repeat' (first|(with_reducible first|apply qA|apply qB|apply qC|apply qD|apply qE|apply qF)|(simp (disch:=omega) only [go_sem, simprocAttr, qN, qO, qP, qQ])|exact qM rfl rfl rfl|(refine qG rfl ?_)|(refine qK (h1) (by decide) ?_)|(refine qK (h2) (by decide) ?_)|(refine qK (h3) (by decide) ?_)|(refine qH rfl ?_)|(refine qI rfl ?_ ?_<;>intro hc<;>(try simp only [go_sem] at hc))|(refine qJ ?_ ?_<;>intro hc<;>(try simp only [hc])<;>(try simp only [go_sem] at hc)))
theorem scWished0 (z : Bla) (h : z.ok) (w : Wsh) (hw : w.ok) (ho : w.op = true → z.t0 = 0 ∧ z.t1 = 0) : DCall Try.prog 45 [.agg (bloL z w.op), .agg (wshL w), .c (.v (.slice none 0 0))] [] (dI 0) [] := by
 have h1 := scCheckO z h w.op ho
 have h2 := scWish w hw
 have h3 := scChecked0
 refine DCall.of Try.func45 sf45 hb45 (Nat.le_of_ble_eq_true rfl) (okRes_nil fun _ => rfl) ?_; simp only [s45, idxs, Nat.reduceAdd]
 repeat' (first|(with_reducible first|apply qA|apply qB|apply qC|apply qD|apply qE|apply qF)|(simp (disch:=omega) only [go_sem, simprocAttr, qN, qO, qP, qQ])|exact qM rfl rfl rfl|(refine qG rfl ?_)|(refine qK (h1) (by decide) ?_)|(refine qK (h2) (by decide) ?_)|(refine qK (h3) (by decide) ?_)|(refine qH rfl ?_)|(refine qI rfl ?_ ?_<;>intro hc<;>(try simp only [go_sem] at hc))|(refine qJ ?_ ?_<;>intro hc<;>(try simp only [hc])<;>(try simp only [go_sem] at hc)))
theorem hld_hi (z : Bla) (w : Wsh) (k : Nat) : (hldF z w k).2 ≤ 10000 := by
 have e : ∀ m s : Int × Int, (amgF m s).2 ≤ 10000 := fun m s => Int.min_le_left _ _
 unfold hldF
 split
 all_goals first | exact e _ _ | exact Int.min_le_left _ _ | skip
 all_goals (split <;> first | exact e _ _ | decide)
theorem hld_lo (z : Bla) (w : Wsh) (k : Nat) : 1 ≤ (hldF z w k).1 := by
 have e : ∀ m s : Int × Int, 1 ≤ (amgF m s).1 := fun m s => Int.le_max_left _ _
 unfold hldF
 split
 all_goals first | exact e _ _ | exact Int.le_max_left _ _ | skip
 all_goals (split <;> first | exact e _ _ | decide)
def AllH (z : Bla) (w : Wsh) (c : Int × Int) : Prop := ∀ k, k ≤ 9 → (hldF z w k).1 ≤ c.1 ∧ c.2 ≤ (hldF z w k).2
set_option maxHeartbeats 4000000 in
theorem scClose (z : Bla) (h : z.ok) (w : Wsh) (hw : w.ok) (ho : w.op = true → z.t0 = 0 ∧ z.t1 = 0) (c : Int × Int) (hc : 1 ≤ c.1 ∧ c.1 ≤ c.2 ∧ c.2 ≤ 10000) (ha : AllH z w c) : DCall Try.prog 15 [.agg (bloL z w.op), .agg (wshL w), .agg [dI c.1, dI c.2]] [] (.tup [.c (.v (.slice none 0 0)), dI 0]) [] := by
 have h1 := scWished z h w hw ho true c hc
 refine DCall.of Try.func15 sf15 hb15 (Nat.le_of_ble_eq_true rfl) (okRes_nil fun _ => rfl) ?_; simp only [s15, idxs, Nat.reduceAdd]
 repeat' (first|(with_reducible first|apply qA|apply qB|apply qC|apply qD|apply qE|apply qF)|(simp (disch:=omega) only [go_sem, simprocAttr, qN, qO, qP, qQ])|exact qM rfl rfl rfl|(refine qG rfl ?_)|(refine qK (h1) (by decide) ?_)|(refine qH rfl ?_)|(refine qI rfl ?_ ?_<;>intro hc<;>(try simp only [go_sem] at hc))|(refine qJ ?_ ?_<;>intro hc<;>(try simp only [hc])<;>(try simp only [go_sem] at hc)))
 refine DW.loop (ι := { i : Nat // i ≤ 10 }) (fun i => ⟨55, [(20, dI i.1), (7, dI 0), (6, .c (.v (.slice none 0 0))), (5, .box 5 0), (4, .box 4 0), (3, .box 3 0)], [(5, .box [dI c.1, dI c.2]), (4, .box (wshL w)), (3, .box (bloL z w.op))]⟩) (fun i => 10 - i.1) ⟨0, Nat.zero_le _⟩ ?_ ?_
 ·refine Ent.to ?_ ?_ <;> simp (disch:=omega) only [qR,qS,qTw,qU,get,Nat.reduceEqDiff,↓reduceIte,qV,qW,qX,qY,qZ,and_self,dI,i64_in,and_true,true_and,rA,rB,rC,rD]
  all_goals first | exact .refl _ | exact ⟨.refl _, .refl _⟩ | exact ⟨.refl _, .refl _, .refl _⟩
 rintro ⟨i, hi⟩
 dsimp only
 by_cases hi9 : i < 10
 ·have hd : decide ((i : Int) < 10) = true := decide_eq_true (by omega)
  have hh := scHolds z h w hw i (by omega)
  have hA := ha i (by omega)
  have hb := hld_hi z w i
  have hl := hld_lo z w i
  generalize hldF z w i = s at *
  have d1 : decide (s.1 ≤ c.1) = true := decide_eq_true hA.1
  have d2 : decide (c.1 ≤ s.2) = true := decide_eq_true (by omega)
  have d3 : decide (s.2 + 1 ≤ c.2) = false := decide_eq_false (by omega)
  repeat' (first|(with_reducible first|apply qA|apply qB|apply qC|apply qD|apply qE|apply qF)|(simp (disch:=omega) only [go_sem, simprocAttr, qN, qO, qP, qQ, hd, d1, d2, d3])|exact qM rfl rfl rfl|(refine qG rfl ?_)|(refine qK (hh) (by decide) ?_)|(refine qH rfl ?_)|(refine qI rfl ?_ ?_<;>intro hc<;>(try simp only [go_sem] at hc))|(refine qJ ?_ ?_<;>intro hc<;>(try simp only [hc])<;>(try simp only [go_sem] at hc)))
  refine ⟨⟨i + 1, by omega⟩, ?_, Ent.to ?_ ?_⟩ <;> first | (show _ < _; (try simp only); omega) | (simp (disch:=omega) only [qR,qS,qTw,qU,get,Nat.reduceEqDiff,↓reduceIte,qV,qW,qX,qY,qZ,and_self,dI,i64_in,and_true,true_and,rA,rB,rC,rD])
  all_goals first | exact .refl _ | exact ⟨.refl _, .refl _⟩ | exact ⟨.refl _, .refl _, .refl _⟩
 ·obtain rfl : i = 10 := by omega
  repeat' (first|(with_reducible first|apply qA|apply qB|apply qC|apply qD|apply qE|apply qF)|(simp (disch:=omega) only [go_sem, simprocAttr, qN, qO, qP, qQ])|exact qM rfl rfl rfl|(refine qG rfl ?_)|(refine qH rfl ?_)|(refine qI rfl ?_ ?_<;>intro hc<;>(try simp only [go_sem] at hc))|(refine qJ ?_ ?_<;>intro hc<;>(try simp only [hc])<;>(try simp only [go_sem] at hc)))
def calF (z : Bla) (w : Wsh) : Nat → Int × Int
 | 0 => (1, 10000)
 | k + 1 => (max (calF z w k).1 (hldF z w k).1, min (calF z w k).2 (hldF z w k).2)
theorem cal_in {z : Bla} {w : Wsh} {c : Int × Int} (hc : 1 ≤ c.1 ∧ c.1 ≤ c.2 ∧ c.2 ≤ 10000) (ha : AllH z w c) : ∀ k, k ≤ 10 → (calF z w k).1 ≤ c.1 ∧ c.2 ≤ (calF z w k).2
 | 0, _ => ⟨hc.1, hc.2.2⟩
 | k + 1, hk => by
  have ih := cal_in hc ha k (by omega)
  have h := ha k (by omega)
  show max _ _ ≤ _ ∧ _ ≤ min _ _
  omega
set_option maxHeartbeats 4000000 in
theorem scCalipers (z : Bla) (h : z.ok) (w : Wsh) (hw : w.ok) (ho : w.op = true → z.t0 = 0 ∧ z.t1 = 0) (c : Int × Int) (hc : 1 ≤ c.1 ∧ c.1 ≤ c.2 ∧ c.2 ≤ 10000) (ha : AllH z w c) : DCall Try.prog 17 [.agg (bloL z w.op), .agg (wshL w)] [] (.tup [.agg [dI (calF z w 10).1, dI (calF z w 10).2], dI 0]) [] := by
 have h1 := scWished0 z h w hw ho
 have h2 := scEvery
 refine DCall.of Try.func17 sf17 hb17 (Nat.le_of_ble_eq_true rfl) (okRes_nil fun _ => rfl) ?_; simp only [s17, idxs, Nat.reduceAdd]
 repeat' (first|(with_reducible first|apply qA|apply qB|apply qC|apply qD|apply qE|apply qF)|(refine qL rfl (WF.of ?_) ?_; first|rfl|skip)|(simp (disch:=omega) only [go_sem, simprocAttr, qN, qO, qP, qQ])|exact qM rfl rfl rfl|(refine qG rfl ?_)|(refine qK (h1) (by decide) ?_)|(refine qK (h2) (by decide) ?_)|(refine qH rfl ?_)|(refine qI rfl ?_ ?_<;>intro hc<;>(try simp only [go_sem] at hc))|(refine qJ ?_ ?_<;>intro hc<;>(try simp only [hc])<;>(try simp only [go_sem] at hc)))
 refine DW.loop (ι := { i : Nat // i ≤ 10 }) (fun i => ⟨35, [(17, dI i.1), (7, .box 7 0), (5, dI 0), (4, .box 4 0), (3, .box 3 0), (2, .box 2 0)], [(7, .box [dI (calF z w i.1).1, dI (calF z w i.1).2]), (4, .box [dI 0, dI 0]), (3, .box (wshL w)), (2, .box (bloL z w.op))]⟩) (fun i => 10 - i.1) ⟨0, Nat.zero_le _⟩ ?_ ?_
 ·refine Ent.to ?_ ?_ <;> simp (disch:=omega) only [qR,qS,qTw,qU,get,Nat.reduceEqDiff,↓reduceIte,qV,qW,qX,qY,qZ,and_self,dI,i64_in,and_true,true_and,rA,rB,rC,rD,calF]
  all_goals first | exact .refl _ | exact ⟨.refl _, .refl _⟩ | exact ⟨.refl _, .refl _, .refl _⟩ | exact ⟨.refl _, .refl _, .refl _, .refl _⟩
 rintro ⟨i, hi⟩
 dsimp only
 by_cases hi9 : i < 10
 ·have hd : decide ((i : Int) < 10) = true := decide_eq_true (by omega)
  have hh := scHolds z h w hw i (by omega)
  have hs1 : calF z w (i + 1) = (max (calF z w i).1 (hldF z w i).1, min (calF z w i).2 (hldF z w i).2) := rfl
  generalize hldF z w i = s at *
  generalize calF z w i = a at *
  have hb := scBoth a.1 a.2 s.1 s.2
  repeat' (first|(with_reducible first|apply qA|apply qB|apply qC|apply qD|apply qE|apply qF)|(refine qL rfl (WF.of ?_) ?_; first|rfl|skip)|(simp (disch:=omega) only [go_sem, simprocAttr, qN, qO, qP, qQ, hd])|exact qM rfl rfl rfl|(refine qG rfl ?_)|(refine qK (hh) (by decide) ?_)|(refine qK (hb) (by decide) ?_)|(refine qH rfl ?_)|(refine qI rfl ?_ ?_<;>intro hc<;>(try simp only [go_sem] at hc))|(refine qJ ?_ ?_<;>intro hc<;>(try simp only [hc])<;>(try simp only [go_sem] at hc)))
  refine ⟨⟨i + 1, by omega⟩, ?_, Ent.to ?_ ?_⟩ <;> first | (show _ < _; (try simp only); omega) | (simp (disch:=omega) only [qR,qS,qTw,qU,get,Nat.reduceEqDiff,↓reduceIte,qV,qW,qX,qY,qZ,and_self,dI,i64_in,and_true,true_and,rA,rB,rC,rD, hs1])
  all_goals first | exact .refl _ | exact ⟨.refl _, .refl _⟩ | exact ⟨.refl _, .refl _, .refl _⟩ | exact ⟨.refl _, .refl _, .refl _, .refl _⟩
 ·obtain rfl : i = 10 := by omega
  have hin := cal_in hc ha 10 (by decide)
  have hd : decide ((calF z w 10).2 < (calF z w 10).1) = false := decide_eq_false (by omega)
  generalize calF z w 10 = a at *
  repeat' (first|(with_reducible first|apply qA|apply qB|apply qC|apply qD|apply qE|apply qF)|(refine qL rfl (WF.of ?_) ?_; first|rfl|skip)|(simp (disch:=omega) only [go_sem, simprocAttr, qN, qO, qP, qQ, hd])|exact qM rfl rfl rfl|(refine qG rfl ?_)|(refine qH rfl ?_)|(refine qI rfl ?_ ?_<;>intro hc<;>(try simp only [go_sem] at hc))|(refine qJ ?_ ?_<;>intro hc<;>(try simp only [hc])<;>(try simp only [go_sem] at hc)))
end Go.Dw.Seat
end
section
set_option linter.unusedSimpArgs false
set_option maxRecDepth 100000
namespace Go.Dw.Seat
open Go Go.Dw Go.Proofs Go.IntWalk
abbrev mkrL (w : Wsh) (c : Int × Int) : List D := [dI w.l.1, dI w.l.2, dI w.w.1, dI w.w.2, dI w.h.1, dI w.h.2, dI w.o.1, dI w.o.2, dI w.i.1, dI w.i.2, bD w.op, dI c.1, dI c.2]
attribute [go_sem] mkrL
def calOk (c : Int × Int) : Prop := 1 ≤ c.1 ∧ c.1 ≤ c.2 ∧ c.2 ≤ 10000
def lenF (c s : Int × Int) (k : Int) : Int × Int := (upQ (1000 * s.1 + k * c.2) 1000, (1000 * s.2 + k * c.1) / 1000)
theorem scLengths (w : Wsh) (c : Int × Int) (hc : calOk c) (s : Int × Int) (hs : -3000 ≤ s.1 ∧ s.1 ≤ 3000 ∧ -3000 ≤ s.2 ∧ s.2 ≤ 3000) (k : Int) (hk : 1 ≤ k ∧ k ≤ 2) : DCall Try.prog 92 [.agg (mkrL w c), .agg [dI s.1, dI s.2], dI k] [] (.agg [dI (lenF c s k).1, dI (lenF c s k).2]) [] := by
 obtain ⟨c1, c2, c3⟩ := hc
 have m1 := mulB0 (a := k) (b := c.2) (A := 2) (B := 10000) (by omega) (by omega)
 have m2 := mulB0 (a := k) (b := c.1) (A := 2) (B := 10000) (by omega) (by omega)
 have h1 := scUp (1000 * s.1 + k * c.2) 1000 (by decide) (by omega)
 have h2 := scDown (1000 * s.2 + k * c.1) 1000 (by decide) (by omega)
 unfold lenF
 generalize hM1 : k * c.2 = x1 at *
 generalize hM2 : k * c.1 = x2 at *
 refine DCall.of Try.func92 sf92 hb92 (Nat.le_of_ble_eq_true rfl) (okRes_nil fun _ => rfl) ?_; simp only [s92, idxs, Nat.reduceAdd]
 repeat' (first|(with_reducible first|apply qA|apply qB|apply qC|apply qD|apply qE|apply qF)|(refine qL rfl (WF.of ?_) ?_; first|rfl|skip)|(simp (disch:=omega) only [go_sem, simprocAttr, qN, qO, qP, qQ, hM1, hM2])|exact qM rfl rfl rfl|(refine qG rfl ?_)|(refine qK (h1) (by decide) ?_)|(refine qK (h2) (by decide) ?_)|(refine qH rfl ?_)|(refine qI rfl ?_ ?_<;>intro hc<;>(try simp only [go_sem] at hc))|(refine qJ ?_ ?_<;>intro hc<;>(try simp only [hc])<;>(try simp only [go_sem] at hc)))
theorem len_b {c s : Int × Int} (hc : calOk c) (hs : -3000 ≤ s.1 ∧ s.1 ≤ 3000 ∧ -3000 ≤ s.2 ∧ s.2 ≤ 3000) {k : Int} (hk : 1 ≤ k ∧ k ≤ 2) : -3100 ≤ (lenF c s k).1 ∧ (lenF c s k).1 ≤ 3100 ∧ -3100 ≤ (lenF c s k).2 ∧ (lenF c s k).2 ≤ 3100 := by
 obtain ⟨c1, c2, c3⟩ := hc
 have m1 := mulB0 (a := k) (b := c.2) (A := 2) (B := 10000) (by omega) (by omega)
 have m2 := mulB0 (a := k) (b := c.1) (A := 2) (B := 10000) (by omega) (by omega)
 unfold lenF upQ
 dsimp only
 omega
def flpF (c : Int × Int) (p : Int) (g : Int × Int) : Int × Int := (max 0 (upQ (p - (lenF c g 1).2) 2), min 3000 ((p - (lenF c g 1).1) / 2))
theorem flp_b {c : Int × Int} {p : Int} {g : Int × Int} (hc : calOk c) (hg : -3000 ≤ g.1 ∧ g.1 ≤ 3000 ∧ -3000 ≤ g.2 ∧ g.2 ≤ 3000) (hp : 0 ≤ p ∧ p ≤ 3000) : 0 ≤ (flpF c p g).1 ∧ (flpF c p g).1 ≤ 4000 ∧ -4000 ≤ (flpF c p g).2 ∧ (flpF c p g).2 ≤ 3000 := by
 have h := len_b hc hg (k := 1) (by decide)
 unfold flpF upQ
 dsimp only
 omega
theorem scFlap (w : Wsh) (c : Int × Int) (hc : calOk c) (p : Int) (hp : 0 ≤ p ∧ p ≤ 3000) (g : Int × Int) (hg : -3000 ≤ g.1 ∧ g.1 ≤ 3000 ∧ -3000 ≤ g.2 ∧ g.2 ≤ 3000) : DCall Try.prog 136 [.agg (mkrL w c), dI p, .agg [dI g.1, dI g.2]] [] (.tup [dI (flpF c p g).1, bD (decide ((flpF c p g).1 ≤ (flpF c p g).2))]) [] := by
 have h1 := scLengths w c hc g hg 1 (by decide)
 have hl := len_b hc hg (k := 1) (by decide)
 unfold flpF
 generalize lenF c g 1 = l at *
 have h2 := scUp (p - l.2) 2 (by decide) (by omega)
 have h3 := scDown (p - l.1) 2 (by decide) (by omega)
 generalize upQ (p - l.2) 2 = a at *
 generalize (p - l.1) / 2 = b at *
 have h4 := scBoth 0 3000 a b
 refine DCall.of Try.func136 sf136 hb136 (Nat.le_of_ble_eq_true rfl) (okRes_nil fun _ => rfl) ?_; simp only [s136, idxs, Nat.reduceAdd]
 repeat' (first|(with_reducible first|apply qA|apply qB|apply qC|apply qD|apply qE|apply qF)|(refine qL rfl (WF.of ?_) ?_; first|rfl|skip)|(simp (disch:=omega) only [go_sem, simprocAttr, qN, qO, qP, qQ])|exact qM rfl rfl rfl|(refine qG rfl ?_)|(refine qK (h1) (by decide) ?_)|(refine qK (h2) (by decide) ?_)|(refine qK (h3) (by decide) ?_)|(refine qK (h4) (by decide) ?_)|(refine qH rfl ?_)|(refine qI rfl ?_ ?_<;>intro hc<;>(try simp only [go_sem] at hc))|(refine qJ ?_ ?_<;>intro hc<;>(try simp only [hc])<;>(try simp only [go_sem] at hc)))
def pnlS (c g : Int × Int) (hi : Int) : Nat → Int → Option (Int × Int)
 | 0, _ => none
 | f + 1, p => if p ≤ hi then (if (flpF c p g).1 ≤ (flpF c p g).2 then some (p, (flpF c p g).1) else pnlS c g hi f (p + 1)) else none
def pnlF (c l g : Int × Int) : Option (Int × Int) := pnlS c g l.2 3002 l.1
def pnlD : Option (Int × Int) → D
 | some (p, f) => .tup [dI p, dI f, bD true]
 | none => .tup [dI 0, dI 0, bD false]
theorem pnlS_none {c g : Int × Int} {hi : Int} : ∀ {f : Nat} {p : Int}, hi < p → pnlS c g hi f p = none
 | 0, _, _ => rfl
 | f + 1, p, h => by rw [pnlS, if_neg (by omega)]
theorem pnlD_men (k : Nat) (r : Option (Int × Int)) : D.men k (pnlD r) = false := by
 cases r <;> rfl
set_option maxHeartbeats 4000000 in
theorem scPanel (w : Wsh) (c : Int × Int) (hc : calOk c) (l : Int × Int) (hl : 1 ≤ l.1 ∧ l.1 ≤ 3101 ∧ l.2 ≤ 3000) (g : Int × Int) (hg : -3000 ≤ g.1 ∧ g.1 ≤ 3000 ∧ -3000 ≤ g.2 ∧ g.2 ≤ 3000) (hl2 : -4000 ≤ l.2) : DCall Try.prog 93 [.agg (mkrL w c), .agg [dI l.1, dI l.2], .agg [dI g.1, dI g.2]] [] (pnlD (pnlF c l g)) [] := by
 generalize hR : pnlF c l g = R
 refine DCall.of Try.func93 sf93 hb93 (Nat.le_of_ble_eq_true rfl) (okRes_nil fun k => pnlD_men k R) ?_
 simp only [s93, idxs, Nat.reduceAdd]
 repeat' (first|(with_reducible first|apply qA|apply qB|apply qC|apply qD|apply qE|apply qF)|(simp (disch:=omega) only [go_sem, simprocAttr, qN, qO, qP, qQ])|exact qM rfl rfl rfl|(refine qG rfl ?_)|(refine qH rfl ?_)|(refine qI rfl ?_ ?_<;>intro hc<;>(try simp only [go_sem] at hc))|(refine qJ ?_ ?_<;>intro hc<;>(try simp only [hc])<;>(try simp only [go_sem] at hc)))
 refine DW.loop (ι := { y : Nat // y ≤ 3002 ∧ (l.1 + (y : Int) ≤ l.2 + 1 ∨ y = 0) ∧ pnlS c g l.2 (3002 - y) (l.1 + (y : Int)) = R }) (fun y => ⟨30, [(9, dI (l.1 + (y.1 : Int))), (8, bD false), (7, dI 0), (6, dI 0), (5, .box 5 0), (4, .box 4 0), (3, .box 3 0)], [(5, .box [dI g.1, dI g.2]), (4, .box [dI l.1, dI l.2]), (3, .box (mkrL w c))]⟩) (fun y => 3002 - y.1) ⟨0, Nat.zero_le _, .inr rfl, by rw [← hR]; unfold pnlF; simp⟩ ?_ ?_
 ·refine Ent.to ?_ ?_ <;> simp (disch:=omega) only [qR,qS,qTw,qU,get,Nat.reduceEqDiff,↓reduceIte,qV,qW,qX,qY,qZ,and_self,dI,i64_in,and_true,true_and,rA,rB,rC,rD,Int.add_zero]
  all_goals first | exact .refl _ | exact ⟨.refl _, .refl _⟩ | exact ⟨.refl _, .refl _, .refl _⟩
 rintro ⟨y, hy, hin, hrun⟩
 dsimp only
 by_cases hle : l.1 + (y : Int) ≤ l.2
 ·have hd : decide (l.1 + (y : Int) ≤ l.2) = true := decide_eq_true hle
  obtain ⟨n, hn⟩ : ∃ n, 3002 - y = n + 1 := ⟨3001 - y, by omega⟩
  rw [hn, pnlS, if_pos hle] at hrun
  have hf := scFlap w c hc (l.1 + (y : Int)) (by omega) g hg
  have hfb := flp_b hc hg (p := l.1 + (y : Int)) (by omega)
  generalize hF : flpF c (l.1 + (y : Int)) g = F at *
  by_cases hb : F.1 ≤ F.2
  ·rw [if_pos hb] at hrun
   have hdb : decide (F.1 ≤ F.2) = true := decide_eq_true hb
   have hD : pnlD R = .tup [dI (l.1 + (y : Int)), dI F.1, bD true] := by rw [← hrun]; rfl
   repeat' (first|(with_reducible first|apply qA|apply qB|apply qC|apply qD|apply qE|apply qF)|(simp (disch:=omega) only [go_sem, simprocAttr, qN, qO, qP, qQ, hd, hdb, hD])|exact qM rfl rfl rfl|(refine qG rfl ?_)|(refine qK (hf) (by decide) ?_)|(refine qH rfl ?_)|(refine qI rfl ?_ ?_<;>intro hc<;>(try simp only [go_sem] at hc))|(refine qJ ?_ ?_<;>intro hc<;>(try simp only [hc])<;>(try simp only [go_sem] at hc)))
  ·rw [if_neg hb] at hrun
   have hdb : decide (F.1 ≤ F.2) = false := decide_eq_false hb
   have e1 : l.1 + (y : Int) + 1 = l.1 + ((y + 1 : Nat) : Int) := by omega
   repeat' (first|(with_reducible first|apply qA|apply qB|apply qC|apply qD|apply qE|apply qF)|(simp (disch:=omega) only [go_sem, simprocAttr, qN, qO, qP, qQ, hd, hdb])|exact qM rfl rfl rfl|(refine qG rfl ?_)|(refine qK (hf) (by decide) ?_)|(refine qH rfl ?_)|(refine qI rfl ?_ ?_<;>intro hc<;>(try simp only [go_sem] at hc))|(refine qJ ?_ ?_<;>intro hc<;>(try simp only [hc])<;>(try simp only [go_sem] at hc)))
   refine ⟨⟨y + 1, by omega, .inl (by omega), by rw [← e1, show 3002 - (y + 1) = n by omega]; exact hrun⟩, ?_, Ent.to ?_ ?_⟩ <;> first | (show _ < _; (try simp only); omega) | (simp (disch:=omega) only [qR,qS,qTw,qU,get,Nat.reduceEqDiff,↓reduceIte,qV,qW,qX,qY,qZ,and_self,dI,i64_in,and_true,true_and,rA,rB,rC,rD])
   all_goals first | exact .refl _ | (rw [e1]; exact .refl _) | exact ⟨.refl _, .refl _⟩ | exact ⟨.refl _, .refl _, .refl _⟩ | skip
 ·have hd : decide (l.1 + (y : Int) ≤ l.2) = false := decide_eq_false hle
  rw [pnlS_none (by omega)] at hrun
  have hD : pnlD R = .tup [dI 0, dI 0, bD false] := by rw [← hrun]; rfl
  repeat' (first|(with_reducible first|apply qA|apply qB|apply qC|apply qD|apply qE|apply qF)|(simp (disch:=omega) only [go_sem, simprocAttr, qN, qO, qP, qQ, hd, hD])|exact qM rfl rfl rfl|(refine qG rfl ?_)|(refine qH rfl ?_)|(refine qI rfl ?_ ?_<;>intro hc<;>(try simp only [go_sem] at hc))|(refine qJ ?_ ?_<;>intro hc<;>(try simp only [hc])<;>(try simp only [go_sem] at hc)))
def vldF (s : Int × Int) : Int × Int := (max 1 s.1, min 3000 s.2)
theorem scValid (s : Int × Int) : DCall Try.prog 91 [.agg [dI s.1, dI s.2]] [] (.agg [dI (vldF s).1, dI (vldF s).2]) [] := by
 have h1 := scBoth 1 3000 s.1 s.2
 refine DCall.of Try.func91 sf91 hb91 (Nat.le_of_ble_eq_true rfl) (okRes_nil fun _ => rfl) ?_; simp only [s91, idxs, Nat.reduceAdd]
 repeat' (first|(with_reducible first|apply qA|apply qB|apply qC|apply qD|apply qE|apply qF)|(simp (disch:=omega) only [go_sem, simprocAttr, qN, qO, qP, qQ])|exact qM rfl rfl rfl|(refine qG rfl ?_)|(refine qK (h1) (by decide) ?_)|(refine qH rfl ?_)|(refine qI rfl ?_ ?_<;>intro hc<;>(try simp only [go_sem] at hc))|(refine qJ ?_ ?_<;>intro hc<;>(try simp only [hc])<;>(try simp only [go_sem] at hc)))
theorem scIsEmpty (s : Int × Int) : DCall Try.prog 94 [.agg [dI s.1, dI s.2]] [] (bD (decide (s.2 < s.1))) [] := by
 refine DCall.of Try.func94 sf94 hb94 (Nat.le_of_ble_eq_true rfl) (okRes_nil fun _ => rfl) ?_; simp only [s94, idxs, Nat.reduceAdd]
 repeat' (first|(with_reducible first|apply qA|apply qB|apply qC|apply qD|apply qE|apply qF)|(simp (disch:=omega) only [go_sem, simprocAttr, qN, qO, qP, qQ])|exact qM rfl rfl rfl|(refine qG rfl ?_)|(refine qH rfl ?_)|(refine qI rfl ?_ ?_<;>intro hc<;>(try simp only [go_sem] at hc))|(refine qJ ?_ ?_<;>intro hc<;>(try simp only [hc])<;>(try simp only [go_sem] at hc)))
end Go.Dw.Seat
end
section
set_option linter.unusedSimpArgs false
set_option maxRecDepth 100000
namespace Go.Dw.Seat
open Go Go.Dw Go.Proofs Go.IntWalk
def bkL (w : Wsh) (c : Int × Int) : Int × Int := vldF (lenF c w.l 1)
def bkW (w : Wsh) (c : Int × Int) : Int × Int := vldF (lenF c w.w 1)
def bkH (w : Wsh) (c : Int × Int) : Int × Int := vldF (lenF c w.h (foldN w.op))
def bkP (w : Wsh) (c : Int × Int) : Option (Int × Int) := pnlF c (bkL w c) w.i
def bkQ (w : Wsh) (c : Int × Int) : Option (Int × Int) := pnlF c (bkW w c) w.o
def bkAt (o : Bool) : Int := if o then 7 else 5
def bkZ (w : Wsh) (c : Int × Int) (tab : Int) (P Q : Int × Int) : Bla := ⟨tab, P.1, Q.1, (bkL w c).1, (bkW w c).1, (bkH w c).1, if w.op then 0 else Q.2, if w.op then 0 else P.2, Q.2, P.2, upQ c.2 1000⟩
abbrev noBl : D := .agg [dI 0, .c (.v (.slice none 0 0)), dI 0, .c (.v (.slice none 0 0)), .c (.v (.slice none 0 0)), dI 0, bD false]
abbrev failD (k : Int) : D := .tup [noBl, dI k, dI 9]
def prI (r : Option (Int × Int)) : Int × Int := r.getD (0, 0)
theorem pnlD_eq (r : Option (Int × Int)) : pnlD r = .tup [dI (prI r).1, dI (prI r).2, bD r.isSome] := by
 cases r <;> rfl
def bkR5 (w : Wsh) (c : Int × Int) (tab : Int) : D := .tup [.agg (bloL (bkZ w c tab (prI (bkP w c)) (prI (bkQ w c))) w.op), dI 0, dI 0]
def bkR4 (w : Wsh) (c : Int × Int) (tab : Int) : D := if (bkP w c).isSome = false then failD (bkAt w.op + 1) else bkR5 w c tab
def bkR3 (w : Wsh) (c : Int × Int) (tab : Int) : D := if (bkQ w c).isSome = false then failD (bkAt w.op) else bkR4 w c tab
def bkR2 (w : Wsh) (c : Int × Int) (tab : Int) : D := if (bkH w c).2 < (bkH w c).1 then failD 4 else bkR3 w c tab
def bkR1 (w : Wsh) (c : Int × Int) (tab : Int) : D := if (bkW w c).2 < (bkW w c).1 then failD 1 else bkR2 w c tab
def bkR0 (w : Wsh) (c : Int × Int) (tab : Int) : D := if (bkL w c).2 < (bkL w c).1 then failD 0 else bkR1 w c tab
def bkR (w : Wsh) (c : Int × Int) (tab : Int) : Nat → D
 | 0 => bkR0 w c tab
 | 1 => bkR1 w c tab
 | 2 => bkR2 w c tab
 | 3 => bkR3 w c tab
 | 4 => bkR4 w c tab
 | _ => bkR5 w c tab
theorem bkR_men (k : Nat) (w : Wsh) (c : Int × Int) (tab : Int) : D.men k (bkR0 w c tab) = false := by
 unfold bkR0
 split
 ·rfl
 unfold bkR1
 split
 ·rfl
 unfold bkR2
 split
 ·rfl
 unfold bkR3
 split
 ·rfl
 unfold bkR4
 split
 ·rfl
 ·rfl
theorem vld_b (s : Int × Int) : 1 ≤ (vldF s).1 ∧ (vldF s).2 ≤ 3000 := ⟨Int.le_max_left _ _, Int.min_le_left _ _⟩
set_option maxHeartbeats 16000000 in
theorem scMkBlank (w : Wsh) (hw : w.ok) (c : Int × Int) (hcal : calOk c) (tab : Int) (ht : 0 ≤ tab ∧ tab ≤ 100) : DCall Try.prog 44 [.agg (mkrL w c), dI tab] [] (bkR0 w c tab) [] := by
 have hlb : ∀ s : Int × Int, (-3000 ≤ s.1 ∧ s.1 ≤ 3000 ∧ -3000 ≤ s.2 ∧ s.2 ≤ 3000) → ∀ k : Int, 1 ≤ k ∧ k ≤ 2 → (vldF (lenF c s k)).1 ≤ 3101 ∧ -4000 ≤ (vldF (lenF c s k)).2 := fun s hs k hk => by
  have := len_b hcal hs hk
  unfold vldF
  dsimp only
  omega
 obtain ⟨w1, w2, w3, w4, w5⟩ := hw
 have n1 := scLengths w c hcal w.l (by omega) 1 (by decide)
 have n2 := scLengths w c hcal w.w (by omega) 1 (by decide)
 have n3 := scLengths w c hcal w.h (by omega) (foldN w.op) (foldN_b _)
 have v1 := scValid (lenF c w.l 1)
 have v2 := scValid (lenF c w.w 1)
 have v3 := scValid (lenF c w.h (foldN w.op))
 have b1 := vld_b (lenF c w.l 1)
 have b2 := vld_b (lenF c w.w 1)
 have b3 := vld_b (lenF c w.h (foldN w.op))
 have l1 := hlb w.l (by omega) 1 (by decide)
 have l2 := hlb w.w (by omega) 1 (by decide)
 have p1 := scPanel w c hcal (vldF (lenF c w.l 1)) (by omega) w.i (by omega) (by omega)
 have p2 := scPanel w c hcal (vldF (lenF c w.w 1)) (by omega) w.o (by omega) (by omega)
 have i1 := scIsEmpty (vldF (lenF c w.l 1))
 have i2 := scIsEmpty (vldF (lenF c w.w 1))
 have i3 := scIsEmpty (vldF (lenF c w.h (foldN w.op)))
 have u1 := scUp c.2 1000 (by decide) (by obtain ⟨_, _, _⟩ := hcal; omega)
 have hf : DCall Try.prog 90 [.agg [dI 0, .c (.v (.slice none 0 0)), dI 0, .c (.v (.slice none 0 0)), .c (.v (.slice none 0 0)), dI 0, bD w.op]] [] (dI (foldN w.op)) [] := by
  generalize w.op = o
  cases o
  all_goals unfold foldN
  all_goals refine DCall.of Try.func90 sf90 hb90 (Nat.le_of_ble_eq_true rfl) (okRes_nil fun _ => rfl) ?_; simp only [s90, idxs, Nat.reduceAdd]
  all_goals repeat' (first|(with_reducible first|apply qA|apply qB|apply qC|apply qD|apply qE|apply qF)|(simp (disch:=omega) only [go_sem, simprocAttr, qN, qO, qP, qQ])|exact qM rfl rfl rfl|(refine qG rfl ?_)|(refine qH rfl ?_)|(refine qI rfl ?_ ?_<;>intro hc<;>(try simp only [go_sem] at hc))|(refine qJ ?_ ?_<;>intro hc<;>(try simp only [hc])<;>(try simp only [go_sem] at hc)))
 rw [pnlD_eq] at p1 p2
 generalize hR : bkR0 w c tab = R
 have hmen : ∀ k, D.men k R = false := fun k => by rw [← hR]; exact bkR_men k w c tab
 refine DCall.of Try.func44 sf44 hb44 (Nat.le_of_ble_eq_true rfl) (okRes_nil hmen) ?_
 simp only [s44, o44_0, o44_1, o44_2, o44_3, o44_4, o44_5, idxs, Nat.reduceAdd]
 have hL : vldF (lenF c w.l 1) = bkL w c := rfl
 have hW : vldF (lenF c w.w 1) = bkW w c := rfl
 have hH : vldF (lenF c w.h (foldN w.op)) = bkH w c := rfl
 have hP : pnlF c (vldF (lenF c w.l 1)) w.i = bkP w c := rfl
 have hQ : pnlF c (vldF (lenF c w.w 1)) w.o = bkQ w c := rfl
 rw [hP] at p1
 rw [hQ] at p2
 rw [hL] at v1 b1 l1 p1 i1
 rw [hW] at v2 b2 l2 p2 i2
 rw [hH] at v3 b3 i3
 clear hL hW hH hP hQ
 generalize lenF c w.l 1 = m1 at *
 generalize lenF c w.w 1 = m2 at *
 generalize lenF c w.h (foldN w.op) = m3 at *
 repeat' (first|(with_reducible first|apply qA|apply qB|apply qC|apply qD|apply qE|apply qF)|(refine qL rfl (WF.of ?_) ?_; first|rfl|skip)|(refine DW.ord rfl (WF.of (by first|rfl|simp (disch:=omega) only [go_sem, simprocAttr, qN, qO, qP, qQ])) ?_ ?_ ?_; rotate_left)|rfl|(with_reducible refine And.intro ?_ ?_)|(simp (disch:=omega) only [go_sem, simprocAttr, qN, qO, qP, qQ])|exact qM rfl rfl rfl|(refine qG rfl ?_)|(refine qK (hf) (by decide) ?_)|(refine qK (n1) (by decide) ?_)|(refine qK (v1) (by decide) ?_)|(refine qK (n2) (by decide) ?_)|(refine qK (v2) (by decide) ?_)|(refine qK (n3) (by decide) ?_)|(refine qK (v3) (by decide) ?_)|(refine qK (p1) (by decide) ?_)|(refine qK (p2) (by decide) ?_)|(refine qK (i1) (by decide) ?_)|(refine qK (i2) (by decide) ?_)|(refine qK (i3) (by decide) ?_)|(refine qH rfl ?_)|(refine qI rfl ?_ ?_<;>intro hc<;>(try simp only [go_sem] at hc))|(refine qJ ?_ ?_<;>intro hc<;>(try simp only [hc])<;>(try simp only [go_sem] at hc)))
 ·have hop' : w.op = true := by simpa using hc
  have hat : bkAt w.op = 7 := by rw [hop']; rfl
  refine DW.loop (ι := { i : Nat // i ≤ 5 ∧ bkR w c tab i = R }) (fun i => ⟨132, [(92, dI i.1), (91, dI 5), (90, .own 89), (15, dI (prI (bkQ w c)).2), (14, dI (prI (bkQ w c)).1), (12, dI (prI (bkP w c)).2), (11, dI (prI (bkP w c)).1), (10, .box 10 0), (9, .box 9 0), (8, .box 8 0), (6, dI 0), (5, dI 0), (4, .box 4 0), (2, .box 2 0), (1, dI tab)], [(89, .row 2 [[bD (decide ((bkL w c).2 < (bkL w c).1)), dI 0], [bD (decide ((bkW w c).2 < (bkW w c).1)), dI 1], [bD (decide ((bkH w c).2 < (bkH w c).1)), dI 4], [bD (!(bkQ w c).isSome), dI 7], [bD (!(bkP w c).isSome), dI 8]]), (10, .box [dI (bkH w c).1, dI (bkH w c).2]), (9, .box [dI (bkW w c).1, dI (bkW w c).2]), (8, .box [dI (bkL w c).1, dI (bkL w c).2]), (4, .box [dI 0, .c (.v (.slice none 0 0)), dI 0, .c (.v (.slice none 0 0)), .c (.v (.slice none 0 0)), dI 0, bD false]), (2, .box (mkrL w c))]⟩) (fun i => 5 - i.1) ⟨0, Nat.zero_le _, hR⟩ ?_ ?_
  ·refine Ent.to ?_ ?_ <;> simp (disch:=omega) only [qR,qS,qTw,qU,get,Nat.reduceEqDiff,↓reduceIte,qV,qW,qX,qY,qZ,and_self,dI,i64_in,and_true,true_and,rA,rB,rC,rD]
   all_goals first | exact .refl _ | exact ⟨.refl _, .refl _⟩ | exact ⟨.refl _, .refl _, .refl _⟩ | exact ⟨.refl _, .refl _, .refl _, .refl _⟩ | exact ⟨.refl _, .refl _, .refl _, .refl _, .refl _⟩ | exact ⟨.refl _, .refl _, .refl _, .refl _, .refl _, .refl _⟩
  rintro ⟨i, hi, hrun⟩
  dsimp only
  rcases (by omega : i = 0 ∨ i = 1 ∨ i = 2 ∨ i = 3 ∨ i = 4 ∨ i = 5) with rfl | rfl | rfl | rfl | rfl | rfl
  ·by_cases h : (bkL w c).2 < (bkL w c).1
   ·have hd : decide ((bkL w c).2 < (bkL w c).1) = true := decide_eq_true h
    have hD : R = failD 0 := by rw [← hrun]; show bkR0 w c tab = _; unfold bkR0; rw [if_pos h]
    repeat' (first|(with_reducible first|apply qA|apply qB|apply qC|apply qD|apply qE|apply qF)|(refine qL rfl (WF.of ?_) ?_; first|rfl|skip)|(refine DW.ord rfl (WF.of (by first|rfl|simp (disch:=omega) only [go_sem, simprocAttr, qN, qO, qP, qQ, hd, hD])) ?_ ?_ ?_; rotate_left)|rfl|(with_reducible refine And.intro ?_ ?_)|(simp (disch:=omega) only [go_sem, simprocAttr, qN, qO, qP, qQ, hd, hD])|exact qM rfl rfl rfl|(refine qG rfl ?_)|(refine qH rfl ?_)|(refine qI rfl ?_ ?_<;>intro hc<;>(try simp only [go_sem] at hc))|(refine qJ ?_ ?_<;>intro hc<;>(try simp only [hc])<;>(try simp only [go_sem] at hc)))
   ·have hd : decide ((bkL w c).2 < (bkL w c).1) = false := decide_eq_false h
    repeat' (first|(with_reducible first|apply qA|apply qB|apply qC|apply qD|apply qE|apply qF)|(refine qL rfl (WF.of ?_) ?_; first|rfl|skip)|(refine DW.ord rfl (WF.of (by first|rfl|simp (disch:=omega) only [go_sem, simprocAttr, qN, qO, qP, qQ, hd])) ?_ ?_ ?_; rotate_left)|rfl|(with_reducible refine And.intro ?_ ?_)|(simp (disch:=omega) only [go_sem, simprocAttr, qN, qO, qP, qQ, hd])|exact qM rfl rfl rfl|(refine qG rfl ?_)|(refine qH rfl ?_)|(refine qI rfl ?_ ?_<;>intro hc<;>(try simp only [go_sem] at hc))|(refine qJ ?_ ?_<;>intro hc<;>(try simp only [hc])<;>(try simp only [go_sem] at hc)))
    refine ⟨⟨1, by omega, by rw [← hrun]; show bkR1 w c tab = bkR0 w c tab; conv => rhs; unfold bkR0; rw [if_neg h]⟩, ?_, Ent.to ?_ ?_⟩ <;> first | (show _ < _; (try simp only); omega) | (simp (disch:=omega) only [qR,qS,qTw,qU,get,Nat.reduceEqDiff,↓reduceIte,qV,qW,qX,qY,qZ,and_self,dI,i64_in,and_true,true_and,rA,rB,rC,rD])
    all_goals first | exact .refl _ | exact ⟨.refl _, .refl _⟩ | exact ⟨.refl _, .refl _, .refl _⟩ | exact ⟨.refl _, .refl _, .refl _, .refl _⟩ | exact ⟨.refl _, .refl _, .refl _, .refl _, .refl _⟩ | exact ⟨.refl _, .refl _, .refl _, .refl _, .refl _, .refl _⟩
  ·by_cases h : (bkW w c).2 < (bkW w c).1
   ·have hd : decide ((bkW w c).2 < (bkW w c).1) = true := decide_eq_true h
    have hD : R = failD 1 := by rw [← hrun]; show bkR1 w c tab = _; unfold bkR1; rw [if_pos h]
    repeat' (first|(with_reducible first|apply qA|apply qB|apply qC|apply qD|apply qE|apply qF)|(refine qL rfl (WF.of ?_) ?_; first|rfl|skip)|(refine DW.ord rfl (WF.of (by first|rfl|simp (disch:=omega) only [go_sem, simprocAttr, qN, qO, qP, qQ, hd, hD])) ?_ ?_ ?_; rotate_left)|rfl|(with_reducible refine And.intro ?_ ?_)|(simp (disch:=omega) only [go_sem, simprocAttr, qN, qO, qP, qQ, hd, hD])|exact qM rfl rfl rfl|(refine qG rfl ?_)|(refine qH rfl ?_)|(refine qI rfl ?_ ?_<;>intro hc<;>(try simp only [go_sem] at hc))|(refine qJ ?_ ?_<;>intro hc<;>(try simp only [hc])<;>(try simp only [go_sem] at hc)))
   ·have hd : decide ((bkW w c).2 < (bkW w c).1) = false := decide_eq_false h
    repeat' (first|(with_reducible first|apply qA|apply qB|apply qC|apply qD|apply qE|apply qF)|(refine qL rfl (WF.of ?_) ?_; first|rfl|skip)|(refine DW.ord rfl (WF.of (by first|rfl|simp (disch:=omega) only [go_sem, simprocAttr, qN, qO, qP, qQ, hd])) ?_ ?_ ?_; rotate_left)|rfl|(with_reducible refine And.intro ?_ ?_)|(simp (disch:=omega) only [go_sem, simprocAttr, qN, qO, qP, qQ, hd])|exact qM rfl rfl rfl|(refine qG rfl ?_)|(refine qH rfl ?_)|(refine qI rfl ?_ ?_<;>intro hc<;>(try simp only [go_sem] at hc))|(refine qJ ?_ ?_<;>intro hc<;>(try simp only [hc])<;>(try simp only [go_sem] at hc)))
    refine ⟨⟨2, by omega, by rw [← hrun]; show bkR2 w c tab = bkR1 w c tab; conv => rhs; unfold bkR1; rw [if_neg h]⟩, ?_, Ent.to ?_ ?_⟩ <;> first | (show _ < _; (try simp only); omega) | (simp (disch:=omega) only [qR,qS,qTw,qU,get,Nat.reduceEqDiff,↓reduceIte,qV,qW,qX,qY,qZ,and_self,dI,i64_in,and_true,true_and,rA,rB,rC,rD])
    all_goals first | exact .refl _ | exact ⟨.refl _, .refl _⟩ | exact ⟨.refl _, .refl _, .refl _⟩ | exact ⟨.refl _, .refl _, .refl _, .refl _⟩ | exact ⟨.refl _, .refl _, .refl _, .refl _, .refl _⟩ | exact ⟨.refl _, .refl _, .refl _, .refl _, .refl _, .refl _⟩
  ·by_cases h : (bkH w c).2 < (bkH w c).1
   ·have hd : decide ((bkH w c).2 < (bkH w c).1) = true := decide_eq_true h
    have hD : R = failD 4 := by rw [← hrun]; show bkR2 w c tab = _; unfold bkR2; rw [if_pos h]
    repeat' (first|(with_reducible first|apply qA|apply qB|apply qC|apply qD|apply qE|apply qF)|(refine qL rfl (WF.of ?_) ?_; first|rfl|skip)|(refine DW.ord rfl (WF.of (by first|rfl|simp (disch:=omega) only [go_sem, simprocAttr, qN, qO, qP, qQ, hd, hD])) ?_ ?_ ?_; rotate_left)|rfl|(with_reducible refine And.intro ?_ ?_)|(simp (disch:=omega) only [go_sem, simprocAttr, qN, qO, qP, qQ, hd, hD])|exact qM rfl rfl rfl|(refine qG rfl ?_)|(refine qH rfl ?_)|(refine qI rfl ?_ ?_<;>intro hc<;>(try simp only [go_sem] at hc))|(refine qJ ?_ ?_<;>intro hc<;>(try simp only [hc])<;>(try simp only [go_sem] at hc)))
   ·have hd : decide ((bkH w c).2 < (bkH w c).1) = false := decide_eq_false h
    repeat' (first|(with_reducible first|apply qA|apply qB|apply qC|apply qD|apply qE|apply qF)|(refine qL rfl (WF.of ?_) ?_; first|rfl|skip)|(refine DW.ord rfl (WF.of (by first|rfl|simp (disch:=omega) only [go_sem, simprocAttr, qN, qO, qP, qQ, hd])) ?_ ?_ ?_; rotate_left)|rfl|(with_reducible refine And.intro ?_ ?_)|(simp (disch:=omega) only [go_sem, simprocAttr, qN, qO, qP, qQ, hd])|exact qM rfl rfl rfl|(refine qG rfl ?_)|(refine qH rfl ?_)|(refine qI rfl ?_ ?_<;>intro hc<;>(try simp only [go_sem] at hc))|(refine qJ ?_ ?_<;>intro hc<;>(try simp only [hc])<;>(try simp only [go_sem] at hc)))
    refine ⟨⟨3, by omega, by rw [← hrun]; show bkR3 w c tab = bkR2 w c tab; conv => rhs; unfold bkR2; rw [if_neg h]⟩, ?_, Ent.to ?_ ?_⟩ <;> first | (show _ < _; (try simp only); omega) | (simp (disch:=omega) only [qR,qS,qTw,qU,get,Nat.reduceEqDiff,↓reduceIte,qV,qW,qX,qY,qZ,and_self,dI,i64_in,and_true,true_and,rA,rB,rC,rD])
    all_goals first | exact .refl _ | exact ⟨.refl _, .refl _⟩ | exact ⟨.refl _, .refl _, .refl _⟩ | exact ⟨.refl _, .refl _, .refl _, .refl _⟩ | exact ⟨.refl _, .refl _, .refl _, .refl _, .refl _⟩ | exact ⟨.refl _, .refl _, .refl _, .refl _, .refl _, .refl _⟩
  ·cases h : (bkQ w c).isSome with
   | false =>
    have hD : R = failD 7 := by rw [← hrun]; show bkR3 w c tab = _; unfold bkR3; rw [if_pos h, hat]
    repeat' (first|(with_reducible first|apply qA|apply qB|apply qC|apply qD|apply qE|apply qF)|(refine qL rfl (WF.of ?_) ?_; first|rfl|skip)|(refine DW.ord rfl (WF.of (by first|rfl|simp (disch:=omega) only [go_sem, simprocAttr, qN, qO, qP, qQ, h, hD])) ?_ ?_ ?_; rotate_left)|rfl|(with_reducible refine And.intro ?_ ?_)|(simp (disch:=omega) only [go_sem, simprocAttr, qN, qO, qP, qQ, h, hD])|exact qM rfl rfl rfl|(refine qG rfl ?_)|(refine qH rfl ?_)|(refine qI rfl ?_ ?_<;>intro hc<;>(try simp only [go_sem] at hc))|(refine qJ ?_ ?_<;>intro hc<;>(try simp only [hc])<;>(try simp only [go_sem] at hc)))
   | true =>
    repeat' (first|(with_reducible first|apply qA|apply qB|apply qC|apply qD|apply qE|apply qF)|(refine qL rfl (WF.of ?_) ?_; first|rfl|skip)|(refine DW.ord rfl (WF.of (by first|rfl|simp (disch:=omega) only [go_sem, simprocAttr, qN, qO, qP, qQ, h])) ?_ ?_ ?_; rotate_left)|rfl|(with_reducible refine And.intro ?_ ?_)|(simp (disch:=omega) only [go_sem, simprocAttr, qN, qO, qP, qQ, h])|exact qM rfl rfl rfl|(refine qG rfl ?_)|(refine qH rfl ?_)|(refine qI rfl ?_ ?_<;>intro hc<;>(try simp only [go_sem] at hc))|(refine qJ ?_ ?_<;>intro hc<;>(try simp only [hc])<;>(try simp only [go_sem] at hc)))
    refine ⟨⟨4, by omega, by rw [← hrun]; show bkR4 w c tab = bkR3 w c tab; conv => rhs; unfold bkR3; rw [if_neg (by rw [h]; decide)]⟩, ?_, Ent.to ?_ ?_⟩ <;> first | (show _ < _; (try simp only); omega) | (simp (disch:=omega) only [qR,qS,qTw,qU,get,Nat.reduceEqDiff,↓reduceIte,qV,qW,qX,qY,qZ,and_self,dI,i64_in,and_true,true_and,rA,rB,rC,rD, h])
    all_goals first | exact .refl _ | exact ⟨.refl _, .refl _⟩ | exact ⟨.refl _, .refl _, .refl _⟩ | exact ⟨.refl _, .refl _, .refl _, .refl _⟩ | exact ⟨.refl _, .refl _, .refl _, .refl _, .refl _⟩ | exact ⟨.refl _, .refl _, .refl _, .refl _, .refl _, .refl _⟩
  ·cases h : (bkP w c).isSome with
   | false =>
    have hD : R = failD 8 := by rw [← hrun]; show bkR4 w c tab = _; unfold bkR4; rw [if_pos h, hat]; rfl
    repeat' (first|(with_reducible first|apply qA|apply qB|apply qC|apply qD|apply qE|apply qF)|(refine qL rfl (WF.of ?_) ?_; first|rfl|skip)|(refine DW.ord rfl (WF.of (by first|rfl|simp (disch:=omega) only [go_sem, simprocAttr, qN, qO, qP, qQ, h, hD])) ?_ ?_ ?_; rotate_left)|rfl|(with_reducible refine And.intro ?_ ?_)|(simp (disch:=omega) only [go_sem, simprocAttr, qN, qO, qP, qQ, h, hD])|exact qM rfl rfl rfl|(refine qG rfl ?_)|(refine qH rfl ?_)|(refine qI rfl ?_ ?_<;>intro hc<;>(try simp only [go_sem] at hc))|(refine qJ ?_ ?_<;>intro hc<;>(try simp only [hc])<;>(try simp only [go_sem] at hc)))
   | true =>
    repeat' (first|(with_reducible first|apply qA|apply qB|apply qC|apply qD|apply qE|apply qF)|(refine qL rfl (WF.of ?_) ?_; first|rfl|skip)|(refine DW.ord rfl (WF.of (by first|rfl|simp (disch:=omega) only [go_sem, simprocAttr, qN, qO, qP, qQ, h])) ?_ ?_ ?_; rotate_left)|rfl|(with_reducible refine And.intro ?_ ?_)|(simp (disch:=omega) only [go_sem, simprocAttr, qN, qO, qP, qQ, h])|exact qM rfl rfl rfl|(refine qG rfl ?_)|(refine qH rfl ?_)|(refine qI rfl ?_ ?_<;>intro hc<;>(try simp only [go_sem] at hc))|(refine qJ ?_ ?_<;>intro hc<;>(try simp only [hc])<;>(try simp only [go_sem] at hc)))
    refine ⟨⟨5, by omega, by rw [← hrun]; show bkR5 w c tab = bkR4 w c tab; conv => rhs; unfold bkR4; rw [if_neg (by rw [h]; decide)]⟩, ?_, Ent.to ?_ ?_⟩ <;> first | (show _ < _; (try simp only); omega) | (simp (disch:=omega) only [qR,qS,qTw,qU,get,Nat.reduceEqDiff,↓reduceIte,qV,qW,qX,qY,qZ,and_self,dI,i64_in,and_true,true_and,rA,rB,rC,rD, h])
    all_goals first | exact .refl _ | exact ⟨.refl _, .refl _⟩ | exact ⟨.refl _, .refl _, .refl _⟩ | exact ⟨.refl _, .refl _, .refl _, .refl _⟩ | exact ⟨.refl _, .refl _, .refl _, .refl _, .refl _⟩ | exact ⟨.refl _, .refl _, .refl _, .refl _, .refl _, .refl _⟩
  ·have hD : R = .tup [.agg [dI tab, dIs false [(prI (bkP w c)).1, (prI (bkQ w c)).1, (bkL w c).1, (bkW w c).1], dI (bkH w c).1, dIs false [0, 0], dIs false [(prI (bkQ w c)).2, (prI (bkP w c)).2], dI (upQ c.2 1000), bD true], dI 0, dI 0] := by
    rw [← hrun]
    show bkR5 w c tab = _
    unfold bkR5 bkZ
    simp only [hop', if_true, Bool.false_eq_true, if_false]
   repeat' (first|(with_reducible first|apply qA|apply qB|apply qC|apply qD|apply qE|apply qF)|(refine qL rfl (WF.of ?_) ?_; first|rfl|skip)|(refine DW.ord rfl (WF.of (by first|rfl|simp (disch:=omega) only [go_sem, simprocAttr, qN, qO, qP, qQ, hop'])) ?_ ?_ ?_; rotate_left)|rfl|(with_reducible refine And.intro ?_ ?_)|(simp (disch:=omega) only [go_sem, simprocAttr, qN, qO, qP, qQ, hop'])|exact qM rfl rfl rfl|(refine qG rfl ?_)|(refine qK (u1) (by decide) ?_)|(refine qH rfl ?_)|(refine qI rfl ?_ ?_<;>intro hc<;>(try simp only [go_sem] at hc))|(refine qJ ?_ ?_<;>intro hc<;>(try simp only [hc])<;>(try simp only [go_sem] at hc)))
   rw [hD]
   (refine retS_ent (Ent.rel 109 rfl) ?_; simp (disch:=omega) only [go_sem,simprocAttr,qN,qO,qP,qQ])
   (refine retS_ent (Ent.rel 114 rfl) ?_; simp (disch:=omega) only [go_sem,simprocAttr,qN,qO,qP,qQ])
   (refine retS_ent (Ent.rel 117 rfl) ?_; simp (disch:=omega) only [go_sem,simprocAttr,qN,qO,qP,qQ])
   (refine retS_ent (Ent.rel 129 rfl) ?_; simp (disch:=omega) only [go_sem,simprocAttr,qN,qO,qP,qQ])
   refine retS_wk rfl ?_ (by simp only [Blk.nb, rowC_nb, D.nb, D.nbs, C.nb, C.nbs, C.nbss, rows_nb eI_nb, Bool.and_true, Bool.not_false, Bool.and_self, bD, dI, iD, rows_nb eI_nb, rows_nb eM2_nb, rows_nb eSp_nb]); exact .refl _
 ·have hop' : w.op = false := by simpa using hc
  have hat : bkAt w.op = 5 := by rw [hop']; rfl
  refine DW.loop (ι := { i : Nat // i ≤ 5 ∧ bkR w c tab i = R }) (fun i => ⟨132, [(92, dI i.1), (91, dI 5), (90, .own 89), (15, dI (prI (bkQ w c)).2), (14, dI (prI (bkQ w c)).1), (12, dI (prI (bkP w c)).2), (11, dI (prI (bkP w c)).1), (10, .box 10 0), (9, .box 9 0), (8, .box 8 0), (6, dI 0), (5, dI 0), (4, .box 4 0), (2, .box 2 0), (1, dI tab)], [(89, .row 2 [[bD (decide ((bkL w c).2 < (bkL w c).1)), dI 0], [bD (decide ((bkW w c).2 < (bkW w c).1)), dI 1], [bD (decide ((bkH w c).2 < (bkH w c).1)), dI 4], [bD (!(bkQ w c).isSome), dI 5], [bD (!(bkP w c).isSome), dI 6]]), (10, .box [dI (bkH w c).1, dI (bkH w c).2]), (9, .box [dI (bkW w c).1, dI (bkW w c).2]), (8, .box [dI (bkL w c).1, dI (bkL w c).2]), (4, .box [dI 0, .c (.v (.slice none 0 0)), dI 0, .c (.v (.slice none 0 0)), .c (.v (.slice none 0 0)), dI 0, bD false]), (2, .box (mkrL w c))]⟩) (fun i => 5 - i.1) ⟨0, Nat.zero_le _, hR⟩ ?_ ?_
  ·refine Ent.to ?_ ?_ <;> simp (disch:=omega) only [qR,qS,qTw,qU,get,Nat.reduceEqDiff,↓reduceIte,qV,qW,qX,qY,qZ,and_self,dI,i64_in,and_true,true_and,rA,rB,rC,rD]
   all_goals first | exact .refl _ | exact ⟨.refl _, .refl _⟩ | exact ⟨.refl _, .refl _, .refl _⟩ | exact ⟨.refl _, .refl _, .refl _, .refl _⟩ | exact ⟨.refl _, .refl _, .refl _, .refl _, .refl _⟩ | exact ⟨.refl _, .refl _, .refl _, .refl _, .refl _, .refl _⟩
  rintro ⟨i, hi, hrun⟩
  dsimp only
  rcases (by omega : i = 0 ∨ i = 1 ∨ i = 2 ∨ i = 3 ∨ i = 4 ∨ i = 5) with rfl | rfl | rfl | rfl | rfl | rfl
  ·by_cases h : (bkL w c).2 < (bkL w c).1
   ·have hd : decide ((bkL w c).2 < (bkL w c).1) = true := decide_eq_true h
    have hD : R = failD 0 := by rw [← hrun]; show bkR0 w c tab = _; unfold bkR0; rw [if_pos h]
    repeat' (first|(with_reducible first|apply qA|apply qB|apply qC|apply qD|apply qE|apply qF)|(refine qL rfl (WF.of ?_) ?_; first|rfl|skip)|(refine DW.ord rfl (WF.of (by first|rfl|simp (disch:=omega) only [go_sem, simprocAttr, qN, qO, qP, qQ, hd, hD])) ?_ ?_ ?_; rotate_left)|rfl|(with_reducible refine And.intro ?_ ?_)|(simp (disch:=omega) only [go_sem, simprocAttr, qN, qO, qP, qQ, hd, hD])|exact qM rfl rfl rfl|(refine qG rfl ?_)|(refine qH rfl ?_)|(refine qI rfl ?_ ?_<;>intro hc<;>(try simp only [go_sem] at hc))|(refine qJ ?_ ?_<;>intro hc<;>(try simp only [hc])<;>(try simp only [go_sem] at hc)))
   ·have hd : decide ((bkL w c).2 < (bkL w c).1) = false := decide_eq_false h
    repeat' (first|(with_reducible first|apply qA|apply qB|apply qC|apply qD|apply qE|apply qF)|(refine qL rfl (WF.of ?_) ?_; first|rfl|skip)|(refine DW.ord rfl (WF.of (by first|rfl|simp (disch:=omega) only [go_sem, simprocAttr, qN, qO, qP, qQ, hd])) ?_ ?_ ?_; rotate_left)|rfl|(with_reducible refine And.intro ?_ ?_)|(simp (disch:=omega) only [go_sem, simprocAttr, qN, qO, qP, qQ, hd])|exact qM rfl rfl rfl|(refine qG rfl ?_)|(refine qH rfl ?_)|(refine qI rfl ?_ ?_<;>intro hc<;>(try simp only [go_sem] at hc))|(refine qJ ?_ ?_<;>intro hc<;>(try simp only [hc])<;>(try simp only [go_sem] at hc)))
    refine ⟨⟨1, by omega, by rw [← hrun]; show bkR1 w c tab = bkR0 w c tab; conv => rhs; unfold bkR0; rw [if_neg h]⟩, ?_, Ent.to ?_ ?_⟩ <;> first | (show _ < _; (try simp only); omega) | (simp (disch:=omega) only [qR,qS,qTw,qU,get,Nat.reduceEqDiff,↓reduceIte,qV,qW,qX,qY,qZ,and_self,dI,i64_in,and_true,true_and,rA,rB,rC,rD])
    all_goals first | exact .refl _ | exact ⟨.refl _, .refl _⟩ | exact ⟨.refl _, .refl _, .refl _⟩ | exact ⟨.refl _, .refl _, .refl _, .refl _⟩ | exact ⟨.refl _, .refl _, .refl _, .refl _, .refl _⟩ | exact ⟨.refl _, .refl _, .refl _, .refl _, .refl _, .refl _⟩
  ·by_cases h : (bkW w c).2 < (bkW w c).1
   ·have hd : decide ((bkW w c).2 < (bkW w c).1) = true := decide_eq_true h
    have hD : R = failD 1 := by rw [← hrun]; show bkR1 w c tab = _; unfold bkR1; rw [if_pos h]
    repeat' (first|(with_reducible first|apply qA|apply qB|apply qC|apply qD|apply qE|apply qF)|(refine qL rfl (WF.of ?_) ?_; first|rfl|skip)|(refine DW.ord rfl (WF.of (by first|rfl|simp (disch:=omega) only [go_sem, simprocAttr, qN, qO, qP, qQ, hd, hD])) ?_ ?_ ?_; rotate_left)|rfl|(with_reducible refine And.intro ?_ ?_)|(simp (disch:=omega) only [go_sem, simprocAttr, qN, qO, qP, qQ, hd, hD])|exact qM rfl rfl rfl|(refine qG rfl ?_)|(refine qH rfl ?_)|(refine qI rfl ?_ ?_<;>intro hc<;>(try simp only [go_sem] at hc))|(refine qJ ?_ ?_<;>intro hc<;>(try simp only [hc])<;>(try simp only [go_sem] at hc)))
   ·have hd : decide ((bkW w c).2 < (bkW w c).1) = false := decide_eq_false h
    repeat' (first|(with_reducible first|apply qA|apply qB|apply qC|apply qD|apply qE|apply qF)|(refine qL rfl (WF.of ?_) ?_; first|rfl|skip)|(refine DW.ord rfl (WF.of (by first|rfl|simp (disch:=omega) only [go_sem, simprocAttr, qN, qO, qP, qQ, hd])) ?_ ?_ ?_; rotate_left)|rfl|(with_reducible refine And.intro ?_ ?_)|(simp (disch:=omega) only [go_sem, simprocAttr, qN, qO, qP, qQ, hd])|exact qM rfl rfl rfl|(refine qG rfl ?_)|(refine qH rfl ?_)|(refine qI rfl ?_ ?_<;>intro hc<;>(try simp only [go_sem] at hc))|(refine qJ ?_ ?_<;>intro hc<;>(try simp only [hc])<;>(try simp only [go_sem] at hc)))
    refine ⟨⟨2, by omega, by rw [← hrun]; show bkR2 w c tab = bkR1 w c tab; conv => rhs; unfold bkR1; rw [if_neg h]⟩, ?_, Ent.to ?_ ?_⟩ <;> first | (show _ < _; (try simp only); omega) | (simp (disch:=omega) only [qR,qS,qTw,qU,get,Nat.reduceEqDiff,↓reduceIte,qV,qW,qX,qY,qZ,and_self,dI,i64_in,and_true,true_and,rA,rB,rC,rD])
    all_goals first | exact .refl _ | exact ⟨.refl _, .refl _⟩ | exact ⟨.refl _, .refl _, .refl _⟩ | exact ⟨.refl _, .refl _, .refl _, .refl _⟩ | exact ⟨.refl _, .refl _, .refl _, .refl _, .refl _⟩ | exact ⟨.refl _, .refl _, .refl _, .refl _, .refl _, .refl _⟩
  ·by_cases h : (bkH w c).2 < (bkH w c).1
   ·have hd : decide ((bkH w c).2 < (bkH w c).1) = true := decide_eq_true h
    have hD : R = failD 4 := by rw [← hrun]; show bkR2 w c tab = _; unfold bkR2; rw [if_pos h]
    repeat' (first|(with_reducible first|apply qA|apply qB|apply qC|apply qD|apply qE|apply qF)|(refine qL rfl (WF.of ?_) ?_; first|rfl|skip)|(refine DW.ord rfl (WF.of (by first|rfl|simp (disch:=omega) only [go_sem, simprocAttr, qN, qO, qP, qQ, hd, hD])) ?_ ?_ ?_; rotate_left)|rfl|(with_reducible refine And.intro ?_ ?_)|(simp (disch:=omega) only [go_sem, simprocAttr, qN, qO, qP, qQ, hd, hD])|exact qM rfl rfl rfl|(refine qG rfl ?_)|(refine qH rfl ?_)|(refine qI rfl ?_ ?_<;>intro hc<;>(try simp only [go_sem] at hc))|(refine qJ ?_ ?_<;>intro hc<;>(try simp only [hc])<;>(try simp only [go_sem] at hc)))
   ·have hd : decide ((bkH w c).2 < (bkH w c).1) = false := decide_eq_false h
    repeat' (first|(with_reducible first|apply qA|apply qB|apply qC|apply qD|apply qE|apply qF)|(refine qL rfl (WF.of ?_) ?_; first|rfl|skip)|(refine DW.ord rfl (WF.of (by first|rfl|simp (disch:=omega) only [go_sem, simprocAttr, qN, qO, qP, qQ, hd])) ?_ ?_ ?_; rotate_left)|rfl|(with_reducible refine And.intro ?_ ?_)|(simp (disch:=omega) only [go_sem, simprocAttr, qN, qO, qP, qQ, hd])|exact qM rfl rfl rfl|(refine qG rfl ?_)|(refine qH rfl ?_)|(refine qI rfl ?_ ?_<;>intro hc<;>(try simp only [go_sem] at hc))|(refine qJ ?_ ?_<;>intro hc<;>(try simp only [hc])<;>(try simp only [go_sem] at hc)))
    refine ⟨⟨3, by omega, by rw [← hrun]; show bkR3 w c tab = bkR2 w c tab; conv => rhs; unfold bkR2; rw [if_neg h]⟩, ?_, Ent.to ?_ ?_⟩ <;> first | (show _ < _; (try simp only); omega) | (simp (disch:=omega) only [qR,qS,qTw,qU,get,Nat.reduceEqDiff,↓reduceIte,qV,qW,qX,qY,qZ,and_self,dI,i64_in,and_true,true_and,rA,rB,rC,rD])
    all_goals first | exact .refl _ | exact ⟨.refl _, .refl _⟩ | exact ⟨.refl _, .refl _, .refl _⟩ | exact ⟨.refl _, .refl _, .refl _, .refl _⟩ | exact ⟨.refl _, .refl _, .refl _, .refl _, .refl _⟩ | exact ⟨.refl _, .refl _, .refl _, .refl _, .refl _, .refl _⟩
  ·cases h : (bkQ w c).isSome with
   | false =>
    have hD : R = failD 5 := by rw [← hrun]; show bkR3 w c tab = _; unfold bkR3; rw [if_pos h, hat]
    repeat' (first|(with_reducible first|apply qA|apply qB|apply qC|apply qD|apply qE|apply qF)|(refine qL rfl (WF.of ?_) ?_; first|rfl|skip)|(refine DW.ord rfl (WF.of (by first|rfl|simp (disch:=omega) only [go_sem, simprocAttr, qN, qO, qP, qQ, h, hD])) ?_ ?_ ?_; rotate_left)|rfl|(with_reducible refine And.intro ?_ ?_)|(simp (disch:=omega) only [go_sem, simprocAttr, qN, qO, qP, qQ, h, hD])|exact qM rfl rfl rfl|(refine qG rfl ?_)|(refine qH rfl ?_)|(refine qI rfl ?_ ?_<;>intro hc<;>(try simp only [go_sem] at hc))|(refine qJ ?_ ?_<;>intro hc<;>(try simp only [hc])<;>(try simp only [go_sem] at hc)))
   | true =>
    repeat' (first|(with_reducible first|apply qA|apply qB|apply qC|apply qD|apply qE|apply qF)|(refine qL rfl (WF.of ?_) ?_; first|rfl|skip)|(refine DW.ord rfl (WF.of (by first|rfl|simp (disch:=omega) only [go_sem, simprocAttr, qN, qO, qP, qQ, h])) ?_ ?_ ?_; rotate_left)|rfl|(with_reducible refine And.intro ?_ ?_)|(simp (disch:=omega) only [go_sem, simprocAttr, qN, qO, qP, qQ, h])|exact qM rfl rfl rfl|(refine qG rfl ?_)|(refine qH rfl ?_)|(refine qI rfl ?_ ?_<;>intro hc<;>(try simp only [go_sem] at hc))|(refine qJ ?_ ?_<;>intro hc<;>(try simp only [hc])<;>(try simp only [go_sem] at hc)))
    refine ⟨⟨4, by omega, by rw [← hrun]; show bkR4 w c tab = bkR3 w c tab; conv => rhs; unfold bkR3; rw [if_neg (by rw [h]; decide)]⟩, ?_, Ent.to ?_ ?_⟩ <;> first | (show _ < _; (try simp only); omega) | (simp (disch:=omega) only [qR,qS,qTw,qU,get,Nat.reduceEqDiff,↓reduceIte,qV,qW,qX,qY,qZ,and_self,dI,i64_in,and_true,true_and,rA,rB,rC,rD, h])
    all_goals first | exact .refl _ | exact ⟨.refl _, .refl _⟩ | exact ⟨.refl _, .refl _, .refl _⟩ | exact ⟨.refl _, .refl _, .refl _, .refl _⟩ | exact ⟨.refl _, .refl _, .refl _, .refl _, .refl _⟩ | exact ⟨.refl _, .refl _, .refl _, .refl _, .refl _, .refl _⟩
  ·cases h : (bkP w c).isSome with
   | false =>
    have hD : R = failD 6 := by rw [← hrun]; show bkR4 w c tab = _; unfold bkR4; rw [if_pos h, hat]; rfl
    repeat' (first|(with_reducible first|apply qA|apply qB|apply qC|apply qD|apply qE|apply qF)|(refine qL rfl (WF.of ?_) ?_; first|rfl|skip)|(refine DW.ord rfl (WF.of (by first|rfl|simp (disch:=omega) only [go_sem, simprocAttr, qN, qO, qP, qQ, h, hD])) ?_ ?_ ?_; rotate_left)|rfl|(with_reducible refine And.intro ?_ ?_)|(simp (disch:=omega) only [go_sem, simprocAttr, qN, qO, qP, qQ, h, hD])|exact qM rfl rfl rfl|(refine qG rfl ?_)|(refine qH rfl ?_)|(refine qI rfl ?_ ?_<;>intro hc<;>(try simp only [go_sem] at hc))|(refine qJ ?_ ?_<;>intro hc<;>(try simp only [hc])<;>(try simp only [go_sem] at hc)))
   | true =>
    repeat' (first|(with_reducible first|apply qA|apply qB|apply qC|apply qD|apply qE|apply qF)|(refine qL rfl (WF.of ?_) ?_; first|rfl|skip)|(refine DW.ord rfl (WF.of (by first|rfl|simp (disch:=omega) only [go_sem, simprocAttr, qN, qO, qP, qQ, h])) ?_ ?_ ?_; rotate_left)|rfl|(with_reducible refine And.intro ?_ ?_)|(simp (disch:=omega) only [go_sem, simprocAttr, qN, qO, qP, qQ, h])|exact qM rfl rfl rfl|(refine qG rfl ?_)|(refine qH rfl ?_)|(refine qI rfl ?_ ?_<;>intro hc<;>(try simp only [go_sem] at hc))|(refine qJ ?_ ?_<;>intro hc<;>(try simp only [hc])<;>(try simp only [go_sem] at hc)))
    refine ⟨⟨5, by omega, by rw [← hrun]; show bkR5 w c tab = bkR4 w c tab; conv => rhs; unfold bkR4; rw [if_neg (by rw [h]; decide)]⟩, ?_, Ent.to ?_ ?_⟩ <;> first | (show _ < _; (try simp only); omega) | (simp (disch:=omega) only [qR,qS,qTw,qU,get,Nat.reduceEqDiff,↓reduceIte,qV,qW,qX,qY,qZ,and_self,dI,i64_in,and_true,true_and,rA,rB,rC,rD, h])
    all_goals first | exact .refl _ | exact ⟨.refl _, .refl _⟩ | exact ⟨.refl _, .refl _, .refl _⟩ | exact ⟨.refl _, .refl _, .refl _, .refl _⟩ | exact ⟨.refl _, .refl _, .refl _, .refl _, .refl _⟩ | exact ⟨.refl _, .refl _, .refl _, .refl _, .refl _, .refl _⟩
  ·have hD : R = .tup [.agg [dI tab, dIs false [(prI (bkP w c)).1, (prI (bkQ w c)).1, (bkL w c).1, (bkW w c).1], dI (bkH w c).1, dIs false [(prI (bkQ w c)).2, (prI (bkP w c)).2], dIs false [(prI (bkQ w c)).2, (prI (bkP w c)).2], dI (upQ c.2 1000), bD false], dI 0, dI 0] := by
    rw [← hrun]
    show bkR5 w c tab = _
    unfold bkR5 bkZ
    simp only [hop', if_true, Bool.false_eq_true, if_false]
   repeat' (first|(with_reducible first|apply qA|apply qB|apply qC|apply qD|apply qE|apply qF)|(refine qL rfl (WF.of ?_) ?_; first|rfl|skip)|(refine DW.ord rfl (WF.of (by first|rfl|simp (disch:=omega) only [go_sem, simprocAttr, qN, qO, qP, qQ, hop'])) ?_ ?_ ?_; rotate_left)|rfl|(with_reducible refine And.intro ?_ ?_)|(simp (disch:=omega) only [go_sem, simprocAttr, qN, qO, qP, qQ, hop'])|exact qM rfl rfl rfl|(refine qG rfl ?_)|(refine qK (u1) (by decide) ?_)|(refine qH rfl ?_)|(refine qI rfl ?_ ?_<;>intro hc<;>(try simp only [go_sem] at hc))|(refine qJ ?_ ?_<;>intro hc<;>(try simp only [hc])<;>(try simp only [go_sem] at hc)))
   rw [hD]
   (refine retS_ent (Ent.rel 109 rfl) ?_; simp (disch:=omega) only [go_sem,simprocAttr,qN,qO,qP,qQ])
   (refine retS_ent (Ent.rel 114 rfl) ?_; simp (disch:=omega) only [go_sem,simprocAttr,qN,qO,qP,qQ])
   (refine retS_ent (Ent.rel 117 rfl) ?_; simp (disch:=omega) only [go_sem,simprocAttr,qN,qO,qP,qQ])
   refine retS_wk rfl ?_ (by simp only [Blk.nb, rowC_nb, D.nb, D.nbs, C.nb, C.nbs, C.nbss, rows_nb eI_nb, Bool.and_true, Bool.not_false, Bool.and_self, bD, dI, iD, rows_nb eI_nb, rows_nb eM2_nb, rows_nb eSp_nb]); exact .refl _
end Go.Dw.Seat
end
