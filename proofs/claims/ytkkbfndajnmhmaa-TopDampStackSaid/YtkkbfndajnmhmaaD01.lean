/- Helpers of a proof. -/
import Derived.Test.YtkkbfndajnmhmaaD00
set_option linter.unusedVariables false
set_option linter.unusedSimpArgs false
section
set_option linter.unusedSimpArgs false
set_option maxRecDepth 100000
namespace Go.Dw.Seat.Pa
open Go Go.Dw Go.Proofs Go.IntWalk
abbrev bsD (p : PBs) : D := .agg [dI p.lg, dI p.wd, dI p.hi, dI p.ov, dI p.top, dI p.load]
abbrev bxD (b : PBx) : D := .agg [dI b.lg, dI b.wd, dI b.hi, dI b.wl, dI b.wh, dI b.sl, dI b.sh]
abbrev bedD (p : PBs) (b : PBx) : D := .agg [dI p.lg, dI p.wd, dI p.hi, dI p.ov, dI p.top, dI p.load, dI b.lg, dI b.wd, dI b.hi, dI b.wl, dI b.wh, dI b.sl, dI b.sh]
abbrev noneBed : D := .agg [dI 0, dI 0, dI 0, dI 0, dI 0, dI 0, dI 0, dI 0, dI 0, dI 0, dI 0, dI 0, dI 0]
def eP (q : PPl) : List C := [.v (.int .i64 q.x), .v (.int .i64 q.y), .v (.bool q.t)]
theorem eP_nb (q : PPl) : C.nbs (eP q) = true := rfl
attribute [go_sem] eP
abbrev plD (q : PPl) : D := .agg ((eP q).map D.c)
abbrev lyD (b : Bool) (l : List PPl) : D := .c (.sl b 3 (rows eP l))
def baseB (p : PBs) : Bool := ((wthn 1 120 [p.lg, p.wd] && wthn 0 400 [p.hi, p.top]) && wthn 0 10 [p.ov]) && wthn 0 5000000 [p.load]
def boxB (b : PBx) : Bool := (wthn 10 100 [b.lg, b.wd, b.hi] && spanOk b.wl b.wh 0 5000000) && spanOk b.sl b.sh 0 20000000
def chkE (p : PBs) (b : PBx) : Int := if baseB p && boxB b then 0 else 2
theorem baseB_iff {p : PBs} : baseB p = true ↔ p.ok := by
 simp only [baseB, Bool.and_eq_true, wthn_iff, List.mem_cons, List.not_mem_nil, or_false, forall_eq_or_imp, forall_eq]
 constructor
 ·rintro ⟨⟨⟨h1, h2⟩, h3⟩, h4⟩; exact ⟨h1.1, h1.2, h2.1, h2.2, h3, h4⟩
 ·rintro ⟨h1, h2, h3, h4, h5, h6⟩; exact ⟨⟨⟨⟨h1, h2⟩, h3, h4⟩, h5⟩, h6⟩
theorem boxB_iff {b : PBx} : boxB b = true ↔ b.ok := by
 simp only [boxB, Bool.and_eq_true, wthn_iff, spanOk_iff, List.mem_cons, List.not_mem_nil, or_false, forall_eq_or_imp, forall_eq]
 constructor
 ·rintro ⟨⟨h1, h2⟩, h3⟩; exact ⟨h1.1, h1.2.1, h1.2.2, h2, h3⟩
 ·rintro ⟨h1, h2, h3, h4, h5⟩; exact ⟨⟨⟨h1, h2, h3⟩, h4⟩, h5⟩
theorem chk_ok {p : PBs} {b : PBx} : chkE p b = 0 ↔ p.ok ∧ b.ok := by
 unfold chkE
 rw [← baseB_iff, ← boxB_iff, ← Bool.and_eq_true]
 split <;> simp_all
theorem chk_two {p : PBs} {b : PBx} (h : chkE p b ≠ 0) : chkE p b = 2 := by
 unfold chkE at h ⊢
 split at h <;> simp_all
set_option maxHeartbeats 1000000 in
theorem plCheck (p : PBs) (b : PBx) : DCall Try.prog 41 [bsD p, bxD b] [] (dI (chkE p b)) [] := by
 have h1 := plWithin true 1 120 [p.lg, p.wd] (by simp)
 have h2 := plWithin true 0 400 [p.hi, p.top] (by simp)
 have h3 := plWithin true 0 10 [p.ov] (by simp)
 have h4 := plWithin true 0 5000000 [p.load] (by simp)
 have h5 := plWithin true 10 100 [b.lg, b.wd, b.hi] (by simp)
 have h6 := plSpan b.wl b.wh 0 5000000
 have h7 := plSpan b.sl b.sh 0 20000000
 unfold chkE baseB boxB
 generalize wthn 1 120 [p.lg, p.wd] = w1 at *
 generalize wthn 0 400 [p.hi, p.top] = w2 at *
 generalize wthn 0 10 [p.ov] = w3 at *
 generalize wthn 0 5000000 [p.load] = w4 at *
 generalize wthn 10 100 [b.lg, b.wd, b.hi] = w5 at *
 generalize spanOk b.wl b.wh 0 5000000 = w6 at *
 generalize spanOk b.sl b.sh 0 20000000 = w7 at *
 refine DCall.of Try.func41 sf41 hb41 (Nat.le_of_ble_eq_true rfl) (okRes_nil fun _ => rfl) ?_; simp only [s41, idxs, Nat.reduceAdd]
 repeat' (first|(with_reducible first|apply qA|apply qB|apply qC|apply qD|apply qE|apply qF)|(simp (disch:=omega) only [go_sem, simprocAttr, Blk.men, Blk.keysIn])|exact qM rfl rfl rfl|(refine qG rfl ?_)|(refine qK (h1) (by decide) ?_)|(refine qK (h2) (by decide) ?_)|(refine qK (h3) (by decide) ?_)|(refine qK (h4) (by decide) ?_)|(refine qK (h5) (by decide) ?_)|(refine qK (h6) (by decide) ?_)|(refine qK (h7) (by decide) ?_)|(refine qH rfl ?_)|(refine qI rfl ?_ ?_<;>intro hc<;>(try simp only [go_sem] at hc))|(refine qJ ?_ ?_<;>intro hc<;>(try simp only [hc])<;>(try simp only [go_sem] at hc)))
 all_goals (subst_vars; first | exact retS_of rfl rfl rfl | (cases w7 <;> first | contradiction | exact retS_of rfl rfl rfl))
abbrev szB (b : PBx) : Blk := .map [.bool false, .bool true] [.agg [dI b.lg, dI b.wd], .agg [dI b.wd, dI b.lg]]
theorem plSizes (b : PBx) (k : Nat) : DCall Try.prog 148 [bxD b] [] (.hd k) [(k, szB b)] := by
 refine DCall.renameM rfl (k0 := 3) ?_ k
 refine DCall.of Try.func148 sf148 hb148 (Nat.le_of_ble_eq_true rfl) (okRes_map rfl) ?_
 simp only [s148, idxs, Nat.reduceAdd]
 repeat' (first|(with_reducible first|apply qA|apply qB|apply qC|apply qD|apply qE|apply qF)|(simp (disch:=omega) only [go_sem, simprocAttr, Blk.men, Blk.keysIn, s_insert, updK, findL, keyEq, keysOK, KK.is, List.all_nil, List.all_cons, lookIn, commaD])|exact qM rfl rfl rfl|(refine qG rfl ?_)|(refine qH rfl ?_)|(refine qI rfl ?_ ?_<;>intro hc<;>(try simp only [go_sem] at hc))|(refine qJ ?_ ?_<;>intro hc<;>(try simp only [hc])<;>(try simp only [go_sem] at hc)))
 refine retS_bs rfl rfl rfl (get_all (p := fun k x => get k _ = some x ∧ x.nb = true) ?_)
 intro q hq
 simp only [List.mem_cons, Prod.mk.injEq, List.not_mem_nil, or_false] at hq
 obtain ⟨rfl, rfl⟩ := hq
 exact ⟨rfl, rfl⟩
theorem plRoom (p : PBs) (b : PBx) (hp : p.ok) : DCall Try.prog 44 [bedD p b] [] (.agg [dI (rmX p), dI (rmY p)]) [] := by
 have := hp.lg
 have := hp.wd
 have := hp.ov
 unfold rmX rmY
 refine DCall.of Try.func44 sf44 hb44 (Nat.le_of_ble_eq_true rfl) (okRes_nil fun _ => rfl) ?_; simp only [s44, idxs, Nat.reduceAdd]
 repeat' (first|(with_reducible first|apply qA|apply qB|apply qC|apply qD|apply qE|apply qF)|(simp (disch:=omega) only [go_sem, simprocAttr, Blk.men, Blk.keysIn])|exact qM rfl rfl rfl|(refine qG rfl ?_)|(refine qH rfl ?_)|(refine qI rfl ?_ ?_<;>intro hc<;>(try simp only [go_sem] at hc))|(refine qJ ?_ ?_<;>intro hc<;>(try simp only [hc])<;>(try simp only [go_sem] at hc)))
def eA (b : PBx) (q : PPl) : List C := [.v (.int .i64 q.x), .v (.int .i64 q.y), .v (.int .i64 (q.x + sdX b q)), .v (.int .i64 (q.y + sdY b q))]
attribute [go_sem] eA
structure PPl.fine (q : PPl) : Prop where
 x : -1000 ≤ q.x ∧ q.x ≤ 1000
 y : -1000 ≤ q.y ∧ q.y ≤ 1000
set_option maxHeartbeats 1000000 in
theorem plArea (p : PBs) (b : PBx) (hb : b.ok) (q : PPl) (hq : q.fine) : DCall Try.prog 150 [bedD p b, plD q] [] (.agg ((eA b q).map D.c)) [] := by
 have h1 := plSizes b 8
 have hs := side_pos hb q
 have hx := hq.x
 have hy := hq.y
 have h2 := hb.lg
 have h3 := hb.wd
 obtain ⟨x, y, t⟩ := q
 unfold sdX sdY at hs
 dsimp only at hx hy hs
 refine DCall.of Try.func150 sf150 hb150 (Nat.le_of_ble_eq_true rfl) (okRes_nil fun _ => rfl) ?_; simp only [s150, idxs, Nat.reduceAdd]
 repeat' (first|(with_reducible first|apply qA|apply qB|apply qC|apply qD|apply qE|apply qF)|(refine qL rfl (WF.of ?_) ?_; first|rfl|skip)|(simp (disch:=omega) only [go_sem, simprocAttr, Blk.men, Blk.keysIn, rF, rG])|exact qM rfl rfl rfl|(refine qG rfl ?_)|(refine qH rfl ?_)|(refine qI rfl ?_ ?_<;>intro hc<;>(try simp only [go_sem] at hc))|(refine qJ ?_ ?_<;>intro hc<;>(try simp only [hc])<;>(try simp only [go_sem] at hc)))
 (refine call_r (h1) (by decide) (by first | rfl | simp (disch:=omega) only [go_sem,simprocAttr,Blk.men,Blk.keysIn]) (by first | rfl | simp (disch:=omega) only [go_sem,simprocAttr,Blk.men,Blk.keysIn]) ?_; simp (disch:=omega) only [go_sem,simprocAttr,Blk.men,Blk.keysIn])
 cases t
 ·repeat' (first|(with_reducible first|apply qA|apply qB|apply qC|apply qD|apply qE|apply qF)|(refine qL rfl (WF.of ?_) ?_; first|rfl|skip)|(simp (disch:=omega) only [go_sem, simprocAttr, Blk.men, Blk.keysIn, findL, keyEq, keysOK, KK.is, List.all_nil, List.all_cons, lookIn, commaD, rF, rG, sdX, sdY])|exact qM rfl rfl rfl|(refine qG rfl ?_)|(refine qH rfl ?_)|(refine qI rfl ?_ ?_<;>intro hc<;>(try simp only [go_sem] at hc))|(refine qJ ?_ ?_<;>intro hc<;>(try simp only [hc])<;>(try simp only [go_sem] at hc)))
  skip
 ·repeat' (first|(with_reducible first|apply qA|apply qB|apply qC|apply qD|apply qE|apply qF)|(refine qL rfl (WF.of ?_) ?_; first|rfl|skip)|(simp (disch:=omega) only [go_sem, simprocAttr, Blk.men, Blk.keysIn, findL, keyEq, keysOK, KK.is, List.all_nil, List.all_cons, lookIn, commaD, rF, rG, sdX, sdY])|exact qM rfl rfl rfl|(refine qG rfl ?_)|(refine qH rfl ?_)|(refine qI rfl ?_ ?_<;>intro hc<;>(try simp only [go_sem] at hc))|(refine qJ ?_ ?_<;>intro hc<;>(try simp only [hc])<;>(try simp only [go_sem] at hc)))
  skip
theorem min_if (a b : Int) : (if b < a then b else a) = min a b := by split <;> omega
theorem max_if (a b : Int) : (if a < b then b else a) = max a b := by split <;> omega
end Go.Dw.Seat.Pa
end
section
set_option linter.unusedSimpArgs false
set_option maxRecDepth 100000
namespace Go.Dw.Seat.Pa
open Go Go.Dw Go.Proofs Go.IntWalk
theorem ov_b {b : PBx} (hb : b.ok) (q r : PPl) : (0 ≤ ovI q.x (sdX b q) r.x (sdX b r) ∧ ovI q.x (sdX b q) r.x (sdX b r) ≤ 100) ∧ 0 ≤ ovI q.y (sdY b q) r.y (sdY b r) ∧ ovI q.y (sdY b q) r.y (sdY b r) ≤ 100 := by
 have h1 := side_pos hb q
 have h2 := ov_nn q.x (sdX b q) r.x (sdX b r)
 have h3 := ov_nn q.y (sdY b q) r.y (sdY b r)
 have h4 := ov_le q.x (sdX b q) r.x (sdX b r) (by omega)
 have h5 := ov_le q.y (sdY b q) r.y (sdY b r) (by omega)
 omega
def comK (b : PBx) (q r : PPl) : Nat → Int
 | 0 => 1
 | 1 => ovI q.x (sdX b q) r.x (sdX b r)
 | _ => comI b q r
set_option maxHeartbeats 2000000 in
theorem plCommon (b : PBx) (hb : b.ok) (q r : PPl) (hq : q.fine) (hr : r.fine) : DCall Try.prog 153 [.agg ((eA b q).map D.c), .agg ((eA b r).map D.c)] [] (dI (comI b q r)) [] := by
 have hqx := hq.x
 have hqy := hq.y
 have hrx := hr.x
 have hry := hr.y
 have hqs := side_pos hb q
 have hrs := side_pos hb r
 have hov := ov_b hb q r
 have e1 : ovI q.x (sdX b q) r.x (sdX b r) = max 0 (min (q.x + sdX b q) (r.x + sdX b r) - max q.x r.x) := rfl
 have e2 : ovI q.y (sdY b q) r.y (sdY b r) = max 0 (min (q.y + sdY b q) (r.y + sdY b r) - max q.y r.y) := rfl
 have hm : comI b q r = ovI q.x (sdX b q) r.x (sdX b r) * ovI q.y (sdY b q) r.y (sdY b r) := rfl
 have hmb : 0 ≤ comI b q r ∧ comI b q r ≤ 10000 := by
  have h1 := Int.mul_le_mul hov.1.2 hov.2.2 hov.2.1 (by omega : (0 : Int) ≤ 100)
  have h2 := Int.mul_nonneg hov.1.1 hov.2.1
  rw [hm]; omega
 have k0 : comK b q r 0 = 1 := rfl
 have k1 : comK b q r 1 = ovI q.x (sdX b q) r.x (sdX b r) := rfl
 have k2 : comK b q r 2 = comI b q r := rfl
 have hw : IntKind.i64.wrap (ovI q.x (sdX b q) r.x (sdX b r) * max 0 (min (q.y + sdY b q) (r.y + sdY b r) - max q.y r.y)) = comI b q r := by
  rw [← e2, ← hm]; exact IntWalk.i64_in _ (by omega)
 refine DCall.of Try.func153 sf153 hb153 (Nat.le_of_ble_eq_true rfl) (okRes_nil fun _ => rfl) ?_; simp only [s153, idxs, Nat.reduceAdd]
 repeat' (first|(with_reducible first|apply qA|apply qB|apply qC|apply qD|apply qE|apply qF)|(refine qL rfl (WF.of ?_) ?_; first|rfl|skip)|(simp (disch:=omega) only [go_sem, simprocAttr, qN, qO, qP, qQ, rF, rG])|exact qM rfl rfl rfl|(refine qG rfl ?_)|(refine qH rfl ?_)|(refine qI rfl ?_ ?_<;>intro hc<;>(try simp only [go_sem] at hc))|(refine qJ ?_ ?_<;>intro hc<;>(try simp only [hc])<;>(try simp only [go_sem] at hc)))
 refine DW.loop (ι := { i : Nat // i ≤ 2 }) (fun i => ⟨34, [(7, dI i.1), (5, dI (comK b q r i.1)), (3, .box 3 0), (2, .box 2 0)], [(3, .box ((eA b r).map D.c)), (2, .box ((eA b q).map D.c))]⟩) (fun i => 2 - i.1) ⟨0, by decide⟩ ?_ ?_
 ·refine Ent.to ?_ ?_ <;> simp (disch:=omega) only [qR,qS,qTw,qU,get,Nat.reduceEqDiff,↓reduceIte,qV,qW,qX,qY,qZ,and_self,dI,i64_in,and_true,true_and,rA,rB,rC,rD,k0,eA,rF,rG]
  all_goals first | exact ⟨.refl _, .refl _, .refl _⟩ | exact ⟨.refl _, .refl _⟩ | exact .refl _
 rintro ⟨i, hi⟩
 dsimp only
 match i, hi with
 | 0, _ =>
  repeat' (first|(with_reducible first|apply qA|apply qB|apply qC|apply qD|apply qE|apply qF)|(refine qL rfl (WF.of ?_) ?_; first|rfl|skip)|(simp (disch:=omega) only [go_sem, simprocAttr, qN, qO, qP, qQ, k0, rF, rG, min_if, max_if])|exact qM rfl rfl rfl|(refine qG rfl ?_)|(refine qH rfl ?_)|(refine qI rfl ?_ ?_<;>intro hc<;>(try simp only [go_sem] at hc))|(refine qJ ?_ ?_<;>intro hc<;>(try simp only [hc])<;>(try simp only [go_sem] at hc)))
  refine ⟨⟨1, by decide⟩, ?_, Ent.to ?_ ?_⟩ <;> first | (show _ < _; (try simp only); omega) | (simp (disch:=omega) only [qR,qS,qTw,qU,get,Nat.reduceEqDiff,↓reduceIte,qV,qW,qX,qY,qZ,and_self,dI,i64_in,and_true,true_and,rA,rB,rC,rD, k1,e1,Int.one_mul,eA,rF,rG])
  all_goals first | exact ⟨.refl _, .refl _, .refl _⟩ | exact ⟨.refl _, .refl _⟩ | exact .refl _
 | 1, _ =>
  repeat' (first|(with_reducible first|apply qA|apply qB|apply qC|apply qD|apply qE|apply qF)|(refine qL rfl (WF.of ?_) ?_; first|rfl|skip)|(simp (disch:=omega) only [go_sem, simprocAttr, qN, qO, qP, qQ, k1, rF, rG, min_if, max_if, hw])|exact qM rfl rfl rfl|(refine qG rfl ?_)|(refine qH rfl ?_)|(refine qI rfl ?_ ?_<;>intro hc<;>(try simp only [go_sem] at hc))|(refine qJ ?_ ?_<;>intro hc<;>(try simp only [hc])<;>(try simp only [go_sem] at hc)))
  refine ⟨⟨2, by decide⟩, ?_, Ent.to ?_ ?_⟩ <;> first | (show _ < _; (try simp only); omega) | (simp (disch:=omega) only [qR,qS,qTw,qU,get,Nat.reduceEqDiff,↓reduceIte,qV,qW,qX,qY,qZ,and_self,dI,i64_in,and_true,true_and,rA,rB,rC,rD, k2,eA,rF,rG])
  all_goals first | exact ⟨.refl _, .refl _, .refl _⟩ | exact ⟨.refl _, .refl _⟩ | exact .refl _
 | 2, _ =>
  repeat' (first|(with_reducible first|apply qA|apply qB|apply qC|apply qD|apply qE|apply qF)|(refine qL rfl (WF.of ?_) ?_; first|rfl|skip)|(simp (disch:=omega) only [go_sem, simprocAttr, qN, qO, qP, qQ, k2, rF, rG])|exact qM rfl rfl rfl|(refine qG rfl ?_)|(refine qH rfl ?_)|(refine qI rfl ?_ ?_<;>intro hc<;>(try simp only [go_sem] at hc))|(refine qJ ?_ ?_<;>intro hc<;>(try simp only [hc])<;>(try simp only [go_sem] at hc)))
theorem plFault1 (b : PBx) (hb : b.ok) (q r : PPl) (hq : q.fine) (hr : r.fine) (lab : Bool) : DCall Try.prog 152 [.agg ((eA b r).map D.c), .c (.ro lab (eA b q) 0)] [] (bD (decide (0 < comI b q r))) [] := by
 have h1 := plCommon b hb q r hq hr
 refine DCall.of Try.func152 sf152 hb152 (Nat.le_of_ble_eq_true rfl) (okRes_nil fun _ => rfl) ?_; simp only [s152, idxs, Nat.reduceAdd]
 repeat' (first|(with_reducible first|apply qA|apply qB|apply qC|apply qD|apply qE|apply qF)|(simp (disch:=omega) only [go_sem, simprocAttr, qN, qO, qP, qQ, rF, rG])|exact qM rfl rfl rfl|(refine qG rfl ?_)|(refine qK (h1) (by decide) ?_)|(refine qH rfl ?_)|(refine qI rfl ?_ ?_<;>intro hc<;>(try simp only [go_sem] at hc))|(refine qJ ?_ ?_<;>intro hc<;>(try simp only [hc])<;>(try simp only [go_sem] at hc)))
theorem plAIdx (b : PBx) (lab : Bool) (l : List PPl) (hl : l.length ≤ 2 ^ 36) (g : FuncId) (fs caps : List C) (p : PPl → Bool) (hp : ∀ x ∈ l, DCall Try.prog g (fs.map D.c ++ [.agg ((eA b x).map D.c)] ++ caps.map D.c) [] (bD (p x)) []) : DCall Try.prog 180 [.c (.sl lab 4 (rows (eA b) l)), .c (.fn (.func g) fs caps)] [] (dI (idxI p l)) [] := by
 refine DCall.of Try.func180 sf180 hb180 (Nat.le_of_ble_eq_true rfl) (okRes_nil fun _ => rfl) ?_; simp only [s180, idxs, Nat.reduceAdd]
 repeat' (first|(with_reducible first|apply qA|apply qB|apply qC|apply qD|apply qE|apply qF)|(simp (disch:=omega) only [go_sem, simprocAttr, qN, qO, qP, qQ])|exact qM rfl rfl rfl|(refine qG rfl ?_)|(refine qH rfl ?_)|(refine qI rfl ?_ ?_<;>intro hc<;>(try simp only [go_sem] at hc))|(refine qJ ?_ ?_<;>intro hc<;>(try simp only [hc])<;>(try simp only [go_sem] at hc)))
 refine DW.loop (ι := { i : Nat // i ≤ l.length ∧ ∀ j u, j < i → l[j]? = some u → p u = false }) (fun i => ⟨19, [(8, dI i.1), (7, dI l.length), (1, .c (.fn (.func g) fs caps)), (0, .c (.sl lab 4 (rows (eA b) l)))], []⟩) (fun i => l.length - i.1) ⟨0, Nat.zero_le _, fun j u h => by omega⟩ ?_ ?_
 ·refine Ent.to ?_ ?_ <;> simp (disch:=omega) only [qR,qS,qTw,qU,get,Nat.reduceEqDiff,↓reduceIte,qV,qW,qX,qY,qZ,and_self,dI,i64_in,and_true,true_and,rA,rB,rC,rD]
  all_goals exact .refl _
 rintro ⟨i, hi, hij⟩
 rcases at_or l i hi with ⟨v, hv, hlt, hd⟩ | ⟨he, hd⟩
 ·have hcall := hp v (List.mem_of_getElem? hv)
  repeat' (first|(with_reducible first|apply qA|apply qB|apply qC|apply qD|apply qE|apply qF)|(simp (disch:=omega) only [go_sem, simprocAttr, qN, qO, qP, qQ, hd, hv, closeDs_fn, rF, rG])|exact qM rfl rfl rfl|(refine qG rfl ?_)|(refine qH rfl ?_)|(refine qI rfl ?_ ?_<;>intro hc<;>(try simp only [go_sem] at hc))|(refine qJ ?_ ?_<;>intro hc<;>(try simp only [hc])<;>(try simp only [go_sem] at hc)))
  refine call_c hcall (by decide) ?_
  simp (disch:=omega) only [go_sem,simprocAttr,qN,qO,qP,qQ]
  refine DW.cond rfl ?_ ?_ <;> intro hc
  ·repeat' (first|(with_reducible first|apply qA|apply qB|apply qC|apply qD|apply qE|apply qF)|(simp (disch:=omega) only [go_sem, simprocAttr, qN, qO, qP, qQ])|exact qM rfl rfl rfl|(refine qG rfl ?_)|(refine qH rfl ?_)|(refine qI rfl ?_ ?_<;>intro hc<;>(try simp only [go_sem] at hc))|(refine qJ ?_ ?_<;>intro hc<;>(try simp only [hc])<;>(try simp only [go_sem] at hc)))
   refine retS_of rfl ?_ rfl; simp only [oneD, St.op, get, Nat.reduceEqDiff, ↓reduceIte, Option.getD_some, bD, dI]
   simp only [idxI, idxOf_some hij hv hc]
  ·repeat' (first|(with_reducible first|apply qA|apply qB|apply qC|apply qD|apply qE|apply qF)|(simp (disch:=omega) only [go_sem, simprocAttr, qN, qO, qP, qQ])|exact qM rfl rfl rfl|(refine qG rfl ?_)|(refine qH rfl ?_)|(refine qI rfl ?_ ?_<;>intro hc<;>(try simp only [go_sem] at hc))|(refine qJ ?_ ?_<;>intro hc<;>(try simp only [hc])<;>(try simp only [go_sem] at hc)))
   refine ⟨⟨i + 1, by omega, fun j u hj hu => by
    rcases Nat.lt_or_ge j i with h | h
    ·exact hij j u h hu
    ·have : j = i := by omega
     subst this
     rw [hv] at hu; cases hu; exact hc⟩, ?_, Ent.to ?_ ?_⟩ <;> first | (show _ < _; (try simp only); omega) | (simp (disch:=omega) only [qR,qS,qTw,qU,get,Nat.reduceEqDiff,↓reduceIte,qV,qW,qX,qY,qZ,and_self,dI,i64_in,and_true,true_and,rA,rB,rC,rD])
   all_goals exact .refl _
 ·repeat' (first|(with_reducible first|apply qA|apply qB|apply qC|apply qD|apply qE|apply qF)|(simp (disch:=omega) only [go_sem, simprocAttr, qN, qO, qP, qQ, hd])|exact qM rfl rfl rfl|(refine qG rfl ?_)|(refine qH rfl ?_)|(refine qI rfl ?_ ?_<;>intro hc<;>(try simp only [go_sem] at hc))|(refine qJ ?_ ?_<;>intro hc<;>(try simp only [hc])<;>(try simp only [go_sem] at hc)))
  refine retS_of rfl ?_ rfl; simp only [oneD, St.op, get, Nat.reduceEqDiff, ↓reduceIte, Option.getD_some, bD, dI]
  simp only [idxI, idxOf_none (he ▸ hij)]
theorem plAAny (b : PBx) (lab : Bool) (l : List PPl) (hl : l.length ≤ 2 ^ 36) (g : FuncId) (fs caps : List C) (p : PPl → Bool) (hp : ∀ x ∈ l, DCall Try.prog g (fs.map D.c ++ [.agg ((eA b x).map D.c)] ++ caps.map D.c) [] (bD (p x)) []) : DCall Try.prog 151 [.c (.sl lab 4 (rows (eA b) l)), .c (.fn (.func g) fs caps)] [] (bD (l.any p)) [] := by
 refine DCall.of Try.func151 sf151 hb151 (Nat.le_of_ble_eq_true rfl) (okRes_nil fun _ => rfl) ?_; simp only [s151, idxs, Nat.reduceAdd]
 repeat' (first|(with_reducible first|apply qA|apply qB|apply qC|apply qD|apply qE|apply qF)|(simp (disch:=omega) only [go_sem, simprocAttr, qN, qO, qP, qQ])|exact qM rfl rfl rfl|(refine qG rfl ?_)|(refine qH rfl ?_)|(refine qI rfl ?_ ?_<;>intro hc<;>(try simp only [go_sem] at hc))|(refine qJ ?_ ?_<;>intro hc<;>(try simp only [hc])<;>(try simp only [go_sem] at hc)))
 refine call_c (plAIdx b lab l hl g fs caps p hp) (by decide) ?_
 repeat' (first|(with_reducible first|apply qA|apply qB|apply qC|apply qD|apply qE|apply qF)|(simp (disch:=omega) only [go_sem, simprocAttr, qN, qO, qP, qQ])|exact qM rfl rfl rfl|(refine qG rfl ?_)|(refine qH rfl ?_)|(refine qI rfl ?_ ?_<;>intro hc<;>(try simp only [go_sem] at hc))|(refine qJ ?_ ?_<;>intro hc<;>(try simp only [hc])<;>(try simp only [go_sem] at hc)))
 refine retS_of rfl ?_ rfl; simp only [oneD, St.op, get, Nat.reduceEqDiff, ↓reduceIte, Option.getD_some, bD, dI]
 rw [idxI_any]
def plBad (q : PPl) : Bool := !(wthn 0 140 [q.x, q.y])
theorem plBad_no {q : PPl} : plBad q = false ↔ (0 ≤ q.x ∧ q.x ≤ 140) ∧ 0 ≤ q.y ∧ q.y ≤ 140 := by
 simp only [plBad, Bool.not_eq_false', wthn_iff, List.mem_cons, List.not_mem_nil, or_false, forall_eq_or_imp, forall_eq]
theorem plLayer1 (q : PPl) : DCall Try.prog 179 [plD q] [] (bD (plBad q)) [] := by
 have h1 := plWithin true 0 140 [q.x, q.y] (by simp)
 unfold plBad
 refine DCall.of Try.func179 sf179 hb179 (Nat.le_of_ble_eq_true rfl) (okRes_nil fun _ => rfl) ?_; simp only [s179, idxs, Nat.reduceAdd]
 repeat' (first|(with_reducible first|apply qA|apply qB|apply qC|apply qD|apply qE|apply qF)|(simp (disch:=omega) only [go_sem, simprocAttr, qN, qO, qP, qQ, rF, rG])|exact qM rfl rfl rfl|(refine qG rfl ?_)|(refine qK (h1) (by decide) ?_)|(refine qH rfl ?_)|(refine qI rfl ?_ ?_<;>intro hc<;>(try simp only [go_sem] at hc))|(refine qJ ?_ ?_<;>intro hc<;>(try simp only [hc])<;>(try simp only [go_sem] at hc)))
theorem plPIdx (lab : Bool) (l : List PPl) (hl : l.length ≤ 2 ^ 36) (g : FuncId) (fs caps : List C) (p : PPl → Bool) (hp : ∀ x ∈ l, DCall Try.prog g (fs.map D.c ++ [plD x] ++ caps.map D.c) [] (bD (p x)) []) : DCall Try.prog 188 [lyD lab l, .c (.fn (.func g) fs caps)] [] (dI (idxI p l)) [] := by
 refine DCall.of Try.func188 sf188 hb188 (Nat.le_of_ble_eq_true rfl) (okRes_nil fun _ => rfl) ?_; simp only [s188, idxs, Nat.reduceAdd]
 repeat' (first|(with_reducible first|apply qA|apply qB|apply qC|apply qD|apply qE|apply qF)|(simp (disch:=omega) only [go_sem, simprocAttr, qN, qO, qP, qQ])|exact qM rfl rfl rfl|(refine qG rfl ?_)|(refine qH rfl ?_)|(refine qI rfl ?_ ?_<;>intro hc<;>(try simp only [go_sem] at hc))|(refine qJ ?_ ?_<;>intro hc<;>(try simp only [hc])<;>(try simp only [go_sem] at hc)))
 refine DW.loop (ι := { i : Nat // i ≤ l.length ∧ ∀ j u, j < i → l[j]? = some u → p u = false }) (fun i => ⟨19, [(8, dI i.1), (7, dI l.length), (1, .c (.fn (.func g) fs caps)), (0, lyD lab l)], []⟩) (fun i => l.length - i.1) ⟨0, Nat.zero_le _, fun j u h => by omega⟩ ?_ ?_
 ·refine Ent.to ?_ ?_ <;> simp (disch:=omega) only [qR,qS,qTw,qU,get,Nat.reduceEqDiff,↓reduceIte,qV,qW,qX,qY,qZ,and_self,dI,i64_in,and_true,true_and,rA,rB,rC,rD]
  all_goals exact .refl _
 rintro ⟨i, hi, hij⟩
 rcases at_or l i hi with ⟨v, hv, hlt, hd⟩ | ⟨he, hd⟩
 ·have hcall := hp v (List.mem_of_getElem? hv)
  repeat' (first|(with_reducible first|apply qA|apply qB|apply qC|apply qD|apply qE|apply qF)|(simp (disch:=omega) only [go_sem, simprocAttr, qN, qO, qP, qQ, hd, hv, closeDs_fn, rF, rG])|exact qM rfl rfl rfl|(refine qG rfl ?_)|(refine qH rfl ?_)|(refine qI rfl ?_ ?_<;>intro hc<;>(try simp only [go_sem] at hc))|(refine qJ ?_ ?_<;>intro hc<;>(try simp only [hc])<;>(try simp only [go_sem] at hc)))
  refine call_c hcall (by decide) ?_
  simp (disch:=omega) only [go_sem,simprocAttr,qN,qO,qP,qQ]
  refine DW.cond rfl ?_ ?_ <;> intro hc
  ·repeat' (first|(with_reducible first|apply qA|apply qB|apply qC|apply qD|apply qE|apply qF)|(simp (disch:=omega) only [go_sem, simprocAttr, qN, qO, qP, qQ])|exact qM rfl rfl rfl|(refine qG rfl ?_)|(refine qH rfl ?_)|(refine qI rfl ?_ ?_<;>intro hc<;>(try simp only [go_sem] at hc))|(refine qJ ?_ ?_<;>intro hc<;>(try simp only [hc])<;>(try simp only [go_sem] at hc)))
   refine retS_of rfl ?_ rfl; simp only [oneD, St.op, get, Nat.reduceEqDiff, ↓reduceIte, Option.getD_some, bD, dI]
   simp only [idxI, idxOf_some hij hv hc]
  ·repeat' (first|(with_reducible first|apply qA|apply qB|apply qC|apply qD|apply qE|apply qF)|(simp (disch:=omega) only [go_sem, simprocAttr, qN, qO, qP, qQ])|exact qM rfl rfl rfl|(refine qG rfl ?_)|(refine qH rfl ?_)|(refine qI rfl ?_ ?_<;>intro hc<;>(try simp only [go_sem] at hc))|(refine qJ ?_ ?_<;>intro hc<;>(try simp only [hc])<;>(try simp only [go_sem] at hc)))
   refine ⟨⟨i + 1, by omega, fun j u hj hu => by
    rcases Nat.lt_or_ge j i with h | h
    ·exact hij j u h hu
    ·have : j = i := by omega
     subst this
     rw [hv] at hu; cases hu; exact hc⟩, ?_, Ent.to ?_ ?_⟩ <;> first | (show _ < _; (try simp only); omega) | (simp (disch:=omega) only [qR,qS,qTw,qU,get,Nat.reduceEqDiff,↓reduceIte,qV,qW,qX,qY,qZ,and_self,dI,i64_in,and_true,true_and,rA,rB,rC,rD])
   all_goals exact .refl _
 ·repeat' (first|(with_reducible first|apply qA|apply qB|apply qC|apply qD|apply qE|apply qF)|(simp (disch:=omega) only [go_sem, simprocAttr, qN, qO, qP, qQ, hd])|exact qM rfl rfl rfl|(refine qG rfl ?_)|(refine qH rfl ?_)|(refine qI rfl ?_ ?_<;>intro hc<;>(try simp only [go_sem] at hc))|(refine qJ ?_ ?_<;>intro hc<;>(try simp only [hc])<;>(try simp only [go_sem] at hc)))
  refine retS_of rfl ?_ rfl; simp only [oneD, St.op, get, Nat.reduceEqDiff, ↓reduceIte, Option.getD_some, bD, dI]
  simp only [idxI, idxOf_none (he ▸ hij)]
theorem plPAny (lab : Bool) (l : List PPl) (hl : l.length ≤ 2 ^ 36) (g : FuncId) (fs caps : List C) (p : PPl → Bool) (hp : ∀ x ∈ l, DCall Try.prog g (fs.map D.c ++ [plD x] ++ caps.map D.c) [] (bD (p x)) []) : DCall Try.prog 178 [lyD lab l, .c (.fn (.func g) fs caps)] [] (bD (l.any p)) [] := by
 refine DCall.of Try.func178 sf178 hb178 (Nat.le_of_ble_eq_true rfl) (okRes_nil fun _ => rfl) ?_; simp only [s178, idxs, Nat.reduceAdd]
 repeat' (first|(with_reducible first|apply qA|apply qB|apply qC|apply qD|apply qE|apply qF)|(simp (disch:=omega) only [go_sem, simprocAttr, qN, qO, qP, qQ])|exact qM rfl rfl rfl|(refine qG rfl ?_)|(refine qH rfl ?_)|(refine qI rfl ?_ ?_<;>intro hc<;>(try simp only [go_sem] at hc))|(refine qJ ?_ ?_<;>intro hc<;>(try simp only [hc])<;>(try simp only [go_sem] at hc)))
 refine call_c (plPIdx lab l hl g fs caps p hp) (by decide) ?_
 repeat' (first|(with_reducible first|apply qA|apply qB|apply qC|apply qD|apply qE|apply qF)|(simp (disch:=omega) only [go_sem, simprocAttr, qN, qO, qP, qQ])|exact qM rfl rfl rfl|(refine qG rfl ?_)|(refine qH rfl ?_)|(refine qI rfl ?_ ?_<;>intro hc<;>(try simp only [go_sem] at hc))|(refine qJ ?_ ?_<;>intro hc<;>(try simp only [hc])<;>(try simp only [go_sem] at hc)))
 refine retS_of rfl ?_ rfl; simp only [oneD, St.op, get, Nat.reduceEqDiff, ↓reduceIte, Option.getD_some, bD, dI]
 rw [idxI_any]
def eLs (l : List PPl) : List C := [.sl false 3 (rows eP l)]
attribute [go_sem] eLs
def lyE : List (List PPl) → Int
 | [] => 0
 | l :: t => if (200 : Int) < (l.length : Int) then 5 else if l.any plBad then 4 else lyE t
set_option maxHeartbeats 1000000 in
theorem plLayers (lab : Bool) (ls : List (List PPl)) (hs : ls.length ≤ 1000) (hl : ∀ l ∈ ls, l.length ≤ 2 ^ 36) : DCall Try.prog 149 [.c (.sl lab 1 (rows eLs ls))] [] (dI (lyE ls)) [] := by
 generalize hR : lyE ls = R
 refine DCall.of Try.func149 sf149 hb149 (Nat.le_of_ble_eq_true rfl) (okRes_nil fun _ => rfl) ?_; simp only [s149, idxs, Nat.reduceAdd]
 repeat' (first|(with_reducible first|apply qA|apply qB|apply qC|apply qD|apply qE|apply qF)|(simp (disch:=omega) only [go_sem, simprocAttr, qN, qO, qP, qQ])|exact qM rfl rfl rfl|(refine qG rfl ?_)|(refine qH rfl ?_)|(refine qI rfl ?_ ?_<;>intro hc<;>(try simp only [go_sem] at hc))|(refine qJ ?_ ?_<;>intro hc<;>(try simp only [hc])<;>(try simp only [go_sem] at hc)))
 refine DW.loop (ι := { i : Nat // i ≤ ls.length ∧ lyE (ls.drop i) = R }) (fun i => ⟨19, [(7, dI i.1), (6, dI ls.length), (5, .c (.sl lab 1 (rows eLs ls)))], []⟩) (fun i => ls.length - i.1) ⟨0, Nat.zero_le _, hR⟩ ?_ ?_
 ·refine Ent.to ?_ ?_ <;> simp (disch:=omega) only [qR,qS,qTw,qU,get,Nat.reduceEqDiff,↓reduceIte,qV,qW,qX,qY,qZ,and_self,dI,i64_in,and_true,true_and,rA,rB,rC,rD]
  all_goals exact .refl _
 rintro ⟨i, hi, hr⟩
 dsimp only
 rcases at_or ls i hi with ⟨v, hv, hlt, hd⟩ | ⟨he, hd⟩
 ·have h1 : ls.drop i = v :: ls.drop (i + 1) := by rw [List.drop_eq_getElem_cons hlt, (List.getElem_eq_iff hlt).2 hv]
  rw [h1, lyE] at hr
  have hvl := hl v (List.mem_of_getElem? hv)
  have h2 := plPAny false v hvl 179 [] [] plBad (fun q _ => plLayer1 q)
  by_cases h200 : (200 : Int) < (v.length : Int)
  ·rw [if_pos h200] at hr
   subst hr
   have d1 : decide ((200 : Int) < (v.length : Int)) = true := decide_eq_true h200
   repeat' (first|(with_reducible first|apply qA|apply qB|apply qC|apply qD|apply qE|apply qF)|(simp (disch:=omega) only [go_sem, simprocAttr, qN, qO, qP, qQ, hd, hv, d1, rF, rG])|exact qM rfl rfl rfl|(refine qG rfl ?_)|(refine qH rfl ?_)|(refine qI rfl ?_ ?_<;>intro hc<;>(try simp only [go_sem] at hc))|(refine qJ ?_ ?_<;>intro hc<;>(try simp only [hc])<;>(try simp only [go_sem] at hc)))
  ·rw [if_neg h200] at hr
   have d1 : decide ((200 : Int) < (v.length : Int)) = false := decide_eq_false h200
   cases ha : v.any plBad with
   | true =>
    rw [ha, if_pos rfl] at hr
    rw [ha] at h2
    subst hr
    repeat' (first|(with_reducible first|apply qA|apply qB|apply qC|apply qD|apply qE|apply qF)|(simp (disch:=omega) only [go_sem, simprocAttr, qN, qO, qP, qQ, hd, hv, d1, rF, rG])|exact qM rfl rfl rfl|(refine qG rfl ?_)|(refine qK (h2) (by decide) ?_)|(refine qH rfl ?_)|(refine qI rfl ?_ ?_<;>intro hc<;>(try simp only [go_sem] at hc))|(refine qJ ?_ ?_<;>intro hc<;>(try simp only [hc])<;>(try simp only [go_sem] at hc)))
   | false =>
    rw [ha, if_neg Bool.false_ne_true] at hr
    rw [ha] at h2
    repeat' (first|(with_reducible first|apply qA|apply qB|apply qC|apply qD|apply qE|apply qF)|(simp (disch:=omega) only [go_sem, simprocAttr, qN, qO, qP, qQ, hd, hv, d1, rF, rG])|exact qM rfl rfl rfl|(refine qG rfl ?_)|(refine qK (h2) (by decide) ?_)|(refine qH rfl ?_)|(refine qI rfl ?_ ?_<;>intro hc<;>(try simp only [go_sem] at hc))|(refine qJ ?_ ?_<;>intro hc<;>(try simp only [hc])<;>(try simp only [go_sem] at hc)))
    refine ⟨⟨i + 1, hlt, hr⟩, ?_, Ent.to ?_ ?_⟩ <;> first | (show _ < _; (try simp only); omega) | (simp (disch:=omega) only [qR,qS,qTw,qU,get,Nat.reduceEqDiff,↓reduceIte,qV,qW,qX,qY,qZ,and_self,dI,i64_in,and_true,true_and,rA,rB,rC,rD])
    all_goals exact .refl _
 ·rw [List.drop_eq_nil_of_le (by omega), lyE] at hr
  subst hr
  repeat' (first|(with_reducible first|apply qA|apply qB|apply qC|apply qD|apply qE|apply qF)|(simp (disch:=omega) only [go_sem, simprocAttr, qN, qO, qP, qQ, hd])|exact qM rfl rfl rfl|(refine qG rfl ?_)|(refine qH rfl ?_)|(refine qI rfl ?_ ?_<;>intro hc<;>(try simp only [go_sem] at hc))|(refine qJ ?_ ?_<;>intro hc<;>(try simp only [hc])<;>(try simp only [go_sem] at hc)))
def opE (p : PBs) (b : PBx) (ls : List (List PPl)) : Int := if chkE p b ≠ 0 then chkE p b else lyE ls
theorem plOpen (lab : Bool) (p : PBs) (b : PBx) (ls : List (List PPl)) (hs : ls.length ≤ 1000) (hl : ∀ l ∈ ls, l.length ≤ 2 ^ 36) (h : chkE p b = 0) : DCall Try.prog 91 [bsD p, bxD b, .c (.sl lab 1 (rows eLs ls))] [] (.tup [bedD p b, dI (lyE ls)]) [] := by
 have h1 := plCheck p b
 have h2 := plLayers lab ls hs hl
 rw [h] at h1
 refine DCall.of Try.func91 sf91 hb91 (Nat.le_of_ble_eq_true rfl) (okRes_nil fun _ => rfl) ?_; simp only [s91, idxs, Nat.reduceAdd]
 repeat' (first|(with_reducible first|apply qA|apply qB|apply qC|apply qD|apply qE|apply qF)|(refine qL rfl (WF.of ?_) ?_; first|rfl|skip)|(simp (disch:=omega) only [go_sem, simprocAttr, qN, qO, qP, qQ])|exact qM rfl rfl rfl|(refine qG rfl ?_)|(refine qK (h1) (by decide) ?_)|(refine qK (h2) (by decide) ?_)|(refine qH rfl ?_)|(refine qI rfl ?_ ?_<;>intro hc<;>(try simp only [go_sem] at hc))|(refine qJ ?_ ?_<;>intro hc<;>(try simp only [hc])<;>(try simp only [go_sem] at hc)))
theorem plOpenE (lab : Bool) (p : PBs) (b : PBx) (ls : List (List PPl)) (h : chkE p b ≠ 0) : DCall Try.prog 91 [bsD p, bxD b, .c (.sl lab 1 (rows eLs ls))] [] (.tup [noneBed, dI (chkE p b)]) [] := by
 have h1 := plCheck p b
 generalize chkE p b = e at *
 have hd : (e != 0) = true := by simpa using h
 refine DCall.of Try.func91 sf91 hb91 (Nat.le_of_ble_eq_true rfl) (okRes_nil fun _ => rfl) ?_; simp only [s91, idxs, Nat.reduceAdd]
 repeat' (first|(with_reducible first|apply qA|apply qB|apply qC|apply qD|apply qE|apply qF)|(refine qL rfl (WF.of ?_) ?_; first|rfl|skip)|(simp (disch:=omega) only [go_sem, simprocAttr, qN, qO, qP, qQ, hd])|exact qM rfl rfl rfl|(refine qG rfl ?_)|(refine qK (h1) (by decide) ?_)|(refine qH rfl ?_)|(refine qI rfl ?_ ?_<;>intro hc<;>(try simp only [go_sem] at hc))|(refine qJ ?_ ?_<;>intro hc<;>(try simp only [hc])<;>(try simp only [go_sem] at hc)))
end Go.Dw.Seat.Pa
end
section
set_option linter.unusedSimpArgs false
set_option maxRecDepth 100000
namespace Go.Dw.Seat.Pa
open Go Go.Dw Go.Proofs Go.IntWalk
theorem rowC_snocA (b : PBx) (l : List PPl) (q : PPl) : rowC (rows (eA b) l) ++ [[D.c (.v (.int .i64 q.x)), D.c (.v (.int .i64 q.y)), D.c (.v (.int .i64 (q.x + sdX b q))), D.c (.v (.int .i64 (q.y + sdY b q)))]] = rowC (rows (eA b) (l ++ [q])) := by simp [rowC, rows, eA]
set_option maxHeartbeats 4000000 in
theorem plFlt (p : PBs) (b : PBx) (hp : p.ok) (hb : b.ok) (lab : Bool) (l : List PPl) (hl : l.length ≤ 1000) (hf : ∀ q ∈ l, q.fine) : DCall Try.prog 92 [bedD p b, lyD lab l] [] (.tup [dI (fltF p b l).1, dI (fltF p b l).2]) [] := by
 have hr := plRoom p b hp
 obtain ⟨R, hR⟩ : ∃ R, fltF p b l = R := ⟨_, rfl⟩
 rw [hR]
 refine DCall.of Try.func92 sf92 hb92 (Nat.le_of_ble_eq_true rfl) (okRes_nil fun _ => rfl) ?_; simp only [s92, idxs, Nat.reduceAdd]
 repeat' (first|(with_reducible first|apply qA|apply qB|apply qC|apply qD|apply qE|apply qF)|(simp (disch:=omega) only [go_sem, simprocAttr, qN, qO, qP, qQ])|exact qM rfl rfl rfl|(refine qG rfl ?_)|(refine qK (hr) (by decide) ?_)|(refine qH rfl ?_)|(refine qI rfl ?_ ?_<;>intro hc<;>(try simp only [go_sem] at hc))|(refine qJ ?_ ?_<;>intro hc<;>(try simp only [hc])<;>(try simp only [go_sem] at hc)))
 refine DW.loop (ι := { i : Nat // i ≤ l.length ∧ faultF p b (l.take i) (l.drop i) = R }) (fun i => ⟨48, [(16, dI i.1), (15, dI l.length), (14, lyD lab l), (7, .own 13), (6, .box 6 0), (2, .box 2 0)], [(13, .row 4 (rowC (rows (eA b) (l.take i.1)))), (6, .box [dI (rmX p), dI (rmY p)]), (2, .box [dI p.lg, dI p.wd, dI p.hi, dI p.ov, dI p.top, dI p.load, dI b.lg, dI b.wd, dI b.hi, dI b.wl, dI b.wh, dI b.sl, dI b.sh])]⟩) (fun i => l.length - i.1) ⟨0, Nat.zero_le _, hR⟩ ?_ ?_
 ·refine Ent.to ?_ ?_ <;> simp (disch:=omega) only [qR,qS,qTw,qU,get,Nat.reduceEqDiff,↓reduceIte,qV,qW,qX,qY,qZ,and_self,dI,i64_in,and_true,true_and,rA,rB,rC,rD,List.take_zero]
  all_goals first | exact ⟨.refl _, .refl _, .refl _⟩ | exact ⟨.refl _, .refl _⟩ | exact .refl _
 rintro ⟨i, hi, hr2⟩
 dsimp only
 rcases at_or l i hi with ⟨q, hq, hlt, hd⟩ | ⟨he, hd⟩
 ·have h1 : l.drop i = q :: l.drop (i + 1) := by rw [List.drop_eq_getElem_cons hlt, (List.getElem_eq_iff hlt).2 hq]
  have htk : l.take (i + 1) = l.take i ++ [q] := by rw [List.take_add_one, hq]; rfl
  have htl : (l.take i).length = i := by rw [List.length_take]; omega
  rw [h1, faultF, htl, ← htk] at hr2
  have hqf := hf q (List.mem_of_getElem? hq)
  have ha := plArea p b hb q hqf
  have hqx := hqf.x
  have hqy := hqf.y
  have hqs := side_pos hb q
  have hany := plAAny b true (l.take i) (by omega) 152 [] [.ro true (eA b q) 0] (fun r => decide (0 < comI b q r)) (fun r hr' => plFault1 b hb q r hqf (hf r (List.mem_of_mem_take hr')) true)
  by_cases o1 : rmX p < q.x + sdX b q
  ·have d1 : decide (rmX p < q.x + sdX b q) = true := decide_eq_true o1
   rw [outB, d1, Bool.true_or, if_pos rfl] at hr2
   subst hr2
   repeat' (first|(with_reducible first|apply qA|apply qB|apply qC|apply qD|apply qE|apply qF)|(simp (disch:=omega) only [go_sem, simprocAttr, qN, qO, qP, qQ, hd, hq, d1, rF, rG])|exact qM rfl rfl rfl|(refine qG rfl ?_)|(refine qK (ha) (by decide) ?_)|(refine qH rfl ?_)|(refine qI rfl ?_ ?_<;>intro hc<;>(try simp only [go_sem] at hc))|(refine qJ ?_ ?_<;>intro hc<;>(try simp only [hc])<;>(try simp only [go_sem] at hc)))
  have d1 : decide (rmX p < q.x + sdX b q) = false := decide_eq_false o1
  by_cases o2 : rmY p < q.y + sdY b q
  ·have d2 : decide (rmY p < q.y + sdY b q) = true := decide_eq_true o2
   rw [outB, d1, d2, Bool.or_true, if_pos rfl] at hr2
   subst hr2
   repeat' (first|(with_reducible first|apply qA|apply qB|apply qC|apply qD|apply qE|apply qF)|(simp (disch:=omega) only [go_sem, simprocAttr, qN, qO, qP, qQ, hd, hq, d1, d2, rF, rG])|exact qM rfl rfl rfl|(refine qG rfl ?_)|(refine qK (ha) (by decide) ?_)|(refine qH rfl ?_)|(refine qI rfl ?_ ?_<;>intro hc<;>(try simp only [go_sem] at hc))|(refine qJ ?_ ?_<;>intro hc<;>(try simp only [hc])<;>(try simp only [go_sem] at hc)))
  have d2 : decide (rmY p < q.y + sdY b q) = false := decide_eq_false o2
  rw [outB, d1, d2, Bool.or_false, if_neg Bool.false_ne_true, intoB] at hr2
  cases hA : (l.take i).any fun r => decide (0 < comI b q r) with
  | true =>
   rw [hA, if_pos rfl] at hr2
   rw [hA] at hany
   subst hr2
   repeat' (first|(with_reducible first|apply qA|apply qB|apply qC|apply qD|apply qE|apply qF)|(simp (disch:=omega) only [go_sem, simprocAttr, qN, qO, qP, qQ, hd, hq, d1, d2, rF, rG])|exact qM rfl rfl rfl|(refine qG rfl ?_)|(refine qK (ha) (by decide) ?_)|(refine qK (hany) (by decide) ?_)|(refine qH rfl ?_)|(refine qI rfl ?_ ?_<;>intro hc<;>(try simp only [go_sem] at hc))|(refine qJ ?_ ?_<;>intro hc<;>(try simp only [hc])<;>(try simp only [go_sem] at hc)))
   skip
  | false =>
   rw [hA, if_neg Bool.false_ne_true] at hr2
   rw [hA] at hany
   repeat' (first|(with_reducible first|apply qA|apply qB|apply qC|apply qD|apply qE|apply qF)|(simp (disch:=omega) only [go_sem, simprocAttr, qN, qO, qP, qQ, hd, hq, d1, d2, htl, rF, rG])|exact qM rfl rfl rfl|(refine qG rfl ?_)|(refine qK (ha) (by decide) ?_)|(refine qK (hany) (by decide) ?_)|(refine qH rfl ?_)|(refine qI rfl ?_ ?_<;>intro hc<;>(try simp only [go_sem] at hc))|(refine qJ ?_ ?_<;>intro hc<;>(try simp only [hc])<;>(try simp only [go_sem] at hc)))
   refine ⟨⟨i + 1, hlt, hr2⟩, ?_, Ent.to ?_ ?_⟩ <;> first | (show _ < _; (try simp only); omega) | (simp (disch:=omega) only [qR,qS,qTw,qU,get,Nat.reduceEqDiff,↓reduceIte,qV,qW,qX,qY,qZ,and_self,dI,i64_in,and_true,true_and,rA,rB,rC,rD, htk,rowC_snocA])
   all_goals first | exact ⟨.refl _, .refl _, .refl _⟩ | exact ⟨.refl _, .refl _⟩ | exact .refl _
 ·rw [List.drop_eq_nil_of_le (by omega), faultF] at hr2
  subst hr2
  repeat' (first|(with_reducible first|apply qA|apply qB|apply qC|apply qD|apply qE|apply qF)|(simp (disch:=omega) only [go_sem, simprocAttr, qN, qO, qP, qQ, hd])|exact qM rfl rfl rfl|(refine qG rfl ?_)|(refine qH rfl ?_)|(refine qI rfl ?_ ?_<;>intro hc<;>(try simp only [go_sem] at hc))|(refine qJ ?_ ?_<;>intro hc<;>(try simp only [hc])<;>(try simp only [go_sem] at hc)))
end Go.Dw.Seat.Pa
end
section
set_option linter.unusedSimpArgs false
set_option maxRecDepth 100000
namespace Go.Dw.Seat.Pa
open Go Go.Dw Go.Proofs Go.IntWalk
theorem ly_ok : ∀ {ls : List (List PPl)}, lyE ls = 0 → ∀ l ∈ ls, l.length ≤ 200 ∧ ∀ q ∈ l, (0 ≤ q.x ∧ q.x ≤ 140) ∧ 0 ≤ q.y ∧ q.y ≤ 140
 | [], _, l, h => by cases h
 | a :: t, h, l, hl => by
  rw [lyE] at h
  split at h
  ·cases h
  ·rename_i h1
   split at h
   ·cases h
   ·rename_i h2
    rcases List.mem_cons.1 hl with rfl | hl
    ·refine ⟨by omega, fun q hq => plBad_no.1 ?_⟩
     simp only [List.any_eq_true, not_exists, not_and, Bool.not_eq_true] at h2
     exact h2 q hq
    ·exact ly_ok h l hl
theorem ly_yes : ∀ {ls : List (List PPl)}, (∀ l ∈ ls, l.length ≤ 200 ∧ ∀ q ∈ l, (0 ≤ q.x ∧ q.x ≤ 140) ∧ 0 ≤ q.y ∧ q.y ≤ 140) → lyE ls = 0
 | [], _ => rfl
 | a :: t, h => by
  obtain ⟨h1, h2⟩ := h a (by simp)
  rw [lyE, if_neg (by omega), if_neg, ly_yes (fun l hl => h l (by simp [hl]))]
  simp only [List.any_eq_true, not_exists, not_and, Bool.not_eq_true]
  exact fun q hq => plBad_no.2 (h2 q hq)
theorem fine_of {q : PPl} (h : (0 ≤ q.x ∧ q.x ≤ 140) ∧ 0 ≤ q.y ∧ q.y ≤ 140) : q.fine := ⟨by omega, by omega⟩
theorem op_ok {p : PBs} {b : PBx} {ls : List (List PPl)} (h : opE p b ls = 0) : (chkE p b = 0 ∧ lyE ls = 0) ∧ p.ok ∧ b.ok := by
 unfold opE at h
 split at h
 ·rename_i h1; exact absurd h h1
 ·rename_i h1
  have h1 : chkE p b = 0 := by simpa using h1
  exact ⟨⟨h1, h⟩, chk_ok.1 h1⟩
theorem op_yes {p : PBs} {b : PBx} {ls : List (List PPl)} (h1 : chkE p b = 0) (h2 : lyE ls = 0) : opE p b ls = 0 := by
 unfold opE; rw [if_neg (by rw [h1]; decide), h2]
theorem one_ls (lab : Bool) (l : List PPl) : D.c (.sl lab 1 (rows eLs [l])) = D.c (.sl lab 1 [[C.sl false 3 (rows eP l)]]) := rfl
def rgtE (p : PBs) (b : PBx) (ls : List (List PPl)) : Int := if opE p b ls ≠ 0 then opE p b ls else if ls.all (fun l => decide ((fltF p b l).2 = 0)) then 0 else 9
abbrev bedL (p : PBs) (b : PBx) : List D := [dI p.lg, dI p.wd, dI p.hi, dI p.ov, dI p.top, dI p.load, dI b.lg, dI b.wd, dI b.hi, dI b.wl, dI b.wh, dI b.sl, dI b.sh]
abbrev nonL : List D := [dI 0, dI 0, dI 0, dI 0, dI 0, dI 0, dI 0, dI 0, dI 0, dI 0, dI 0, dI 0, dI 0]
set_option maxHeartbeats 4000000 in
theorem plRight (lab : Bool) (p : PBs) (b : PBx) (ls : List (List PPl)) (hs : ls.length ≤ 1000) (hl : ∀ l ∈ ls, l.length ≤ 2 ^ 36) : DCall Try.prog 45 [bsD p, bxD b, .c (.sl lab 1 (rows eLs ls))] [] (.tup [if chkE p b = 0 then bedD p b else noneBed, dI (rgtE p b ls)]) [] := by
 by_cases hc : chkE p b = 0
 case neg =>
  have h1 := plOpenE lab p b ls hc
  have hE : opE p b ls = chkE p b := if_pos hc
  rw [rgtE, hE, if_pos hc, if_neg hc]
  generalize chkE p b = e at *
  have hd : (e != 0) = true := by simpa using hc
  refine DCall.of Try.func45 sf45 hb45 (Nat.le_of_ble_eq_true rfl) (okRes_nil fun _ => rfl) ?_; simp only [s45, idxs, Nat.reduceAdd]
  repeat' (first|(with_reducible first|apply qA|apply qB|apply qC|apply qD|apply qE|apply qF)|(simp (disch:=omega) only [go_sem, simprocAttr, qN, qO, qP, qQ])|exact qM rfl rfl rfl|(refine qG rfl ?_)|(refine qK (h1) (by decide) ?_)|(refine qH rfl ?_)|(refine qI rfl ?_ ?_<;>intro hc<;>(try simp only [go_sem] at hc))|(refine qJ ?_ ?_<;>intro hc<;>(try simp only [hc])<;>(try simp only [go_sem] at hc)))
  refine DW.loop (ι := Unit) (fun _ => ⟨42, [(23, dI 0), (22, dI ls.length), (21, .c (.sl lab 1 (rows eLs ls))), (9, dI e), (8, .box 8 0), (6, .box 6 0)], [(8, .box nonL), (6, .box nonL)]⟩) (fun _ => 0) () ?_ ?_
  ·refine Ent.to ?_ ?_ <;> simp (disch:=omega) only [qR,qS,qTw,qU,get,Nat.reduceEqDiff,↓reduceIte,qV,qW,qX,qY,qZ,and_self,dI,i64_in,and_true,true_and,rA,rB,rC,rD]
   all_goals first | exact ⟨.refl _, .refl _, .refl _⟩ | exact ⟨.refl _, .refl _⟩ | exact .refl _
  rintro ⟨⟩
  cases ls with
  | nil =>
   have hd0 : decide ((0 : Int) < ((([] : List (List PPl)).length : Nat) : Int)) = false := rfl
   repeat' (first|(with_reducible first|apply qA|apply qB|apply qC|apply qD|apply qE|apply qF)|(simp (disch:=omega) only [go_sem, simprocAttr, qN, qO, qP, qQ, hd0])|exact qM rfl rfl rfl|(refine qG rfl ?_)|(refine qH rfl ?_)|(refine qI rfl ?_ ?_<;>intro hc<;>(try simp only [go_sem] at hc))|(refine qJ ?_ ?_<;>intro hc<;>(try simp only [hc])<;>(try simp only [go_sem] at hc)))
  | cons l t =>
   have hd0 : decide ((0 : Int) < (((l :: t).length : Nat) : Int)) = true := decide_eq_true (by simp only [List.length_cons]; omega)
   have hg : (l :: t)[0]? = some l := rfl
   generalize l :: t = ls at *
   repeat' (first|(with_reducible first|apply qA|apply qB|apply qC|apply qD|apply qE|apply qF)|(simp (disch:=omega) only [go_sem, simprocAttr, qN, qO, qP, qQ, hd0, hd, hg, rF, rG])|exact qM rfl rfl rfl|(refine qG rfl ?_)|(refine qH rfl ?_)|(refine qI rfl ?_ ?_<;>intro hc<;>(try simp only [go_sem] at hc))|(refine qJ ?_ ?_<;>intro hc<;>(try simp only [hc])<;>(try simp only [go_sem] at hc)))
 have h1 := plOpen lab p b ls hs hl hc
 have hE : opE p b ls = lyE ls := if_neg (by rw [hc]; decide)
 rw [rgtE, hE, if_pos hc]
 obtain ⟨hp, hb⟩ := chk_ok.1 hc
 by_cases hy : lyE ls = 0
 case neg =>
  rw [if_pos hy]
  generalize lyE ls = e at *
  have hd : (e != 0) = true := by simpa using hy
  refine DCall.of Try.func45 sf45 hb45 (Nat.le_of_ble_eq_true rfl) (okRes_nil fun _ => rfl) ?_; simp only [s45, idxs, Nat.reduceAdd]
  repeat' (first|(with_reducible first|apply qA|apply qB|apply qC|apply qD|apply qE|apply qF)|(simp (disch:=omega) only [go_sem, simprocAttr, qN, qO, qP, qQ])|exact qM rfl rfl rfl|(refine qG rfl ?_)|(refine qK (h1) (by decide) ?_)|(refine qH rfl ?_)|(refine qI rfl ?_ ?_<;>intro hc<;>(try simp only [go_sem] at hc))|(refine qJ ?_ ?_<;>intro hc<;>(try simp only [hc])<;>(try simp only [go_sem] at hc)))
  refine DW.loop (ι := Unit) (fun _ => ⟨42, [(23, dI 0), (22, dI ls.length), (21, .c (.sl lab 1 (rows eLs ls))), (9, dI e), (8, .box 8 0), (6, .box 6 0)], [(8, .box (bedL p b)), (6, .box nonL)]⟩) (fun _ => 0) () ?_ ?_
  ·refine Ent.to ?_ ?_ <;> simp (disch:=omega) only [qR,qS,qTw,qU,get,Nat.reduceEqDiff,↓reduceIte,qV,qW,qX,qY,qZ,and_self,dI,i64_in,and_true,true_and,rA,rB,rC,rD]
   all_goals first | exact ⟨.refl _, .refl _, .refl _⟩ | exact ⟨.refl _, .refl _⟩ | exact .refl _
  rintro ⟨⟩
  cases ls with
  | nil =>
   have hd0 : decide ((0 : Int) < ((([] : List (List PPl)).length : Nat) : Int)) = false := rfl
   repeat' (first|(with_reducible first|apply qA|apply qB|apply qC|apply qD|apply qE|apply qF)|(simp (disch:=omega) only [go_sem, simprocAttr, qN, qO, qP, qQ, hd0])|exact qM rfl rfl rfl|(refine qG rfl ?_)|(refine qH rfl ?_)|(refine qI rfl ?_ ?_<;>intro hc<;>(try simp only [go_sem] at hc))|(refine qJ ?_ ?_<;>intro hc<;>(try simp only [hc])<;>(try simp only [go_sem] at hc)))
  | cons l t =>
   have hd0 : decide ((0 : Int) < (((l :: t).length : Nat) : Int)) = true := decide_eq_true (by simp only [List.length_cons]; omega)
   have hg : (l :: t)[0]? = some l := rfl
   generalize l :: t = ls at *
   repeat' (first|(with_reducible first|apply qA|apply qB|apply qC|apply qD|apply qE|apply qF)|(simp (disch:=omega) only [go_sem, simprocAttr, qN, qO, qP, qQ, hd0, hd, hg, rF, rG])|exact qM rfl rfl rfl|(refine qG rfl ?_)|(refine qH rfl ?_)|(refine qI rfl ?_ ?_<;>intro hc<;>(try simp only [go_sem] at hc))|(refine qJ ?_ ?_<;>intro hc<;>(try simp only [hc])<;>(try simp only [go_sem] at hc)))
 rw [if_neg (by rw [hy]; decide)]
 rw [hy] at h1
 obtain ⟨R, hR⟩ : ∃ R, (if ls.all (fun l => decide ((fltF p b l).2 = 0)) then (0 : Int) else 9) = R := ⟨_, rfl⟩
 rw [hR]
 refine DCall.of Try.func45 sf45 hb45 (Nat.le_of_ble_eq_true rfl) (okRes_nil fun _ => rfl) ?_; simp only [s45, idxs, Nat.reduceAdd]
 repeat' (first|(with_reducible first|apply qA|apply qB|apply qC|apply qD|apply qE|apply qF)|(simp (disch:=omega) only [go_sem, simprocAttr, qN, qO, qP, qQ])|exact qM rfl rfl rfl|(refine qG rfl ?_)|(refine qK (h1) (by decide) ?_)|(refine qH rfl ?_)|(refine qI rfl ?_ ?_<;>intro hc<;>(try simp only [go_sem] at hc))|(refine qJ ?_ ?_<;>intro hc<;>(try simp only [hc])<;>(try simp only [go_sem] at hc)))
 refine DW.loop (ι := { y : Nat × Int // y.1 ≤ ls.length ∧ ((y.2 = 0 ∧ (if (ls.drop y.1).all (fun l => decide ((fltF p b l).2 = 0)) then (0 : Int) else 9) = R) ∨ (y.2 = 9 ∧ R = 9)) }) (fun y => ⟨42, [(23, dI y.1.1), (22, dI ls.length), (21, .c (.sl lab 1 (rows eLs ls))), (9, dI y.1.2), (8, .box 8 0), (6, .box 6 0)], [(8, .box (bedL p b)), (6, .box nonL)]⟩) (fun y => ls.length - y.1.1) ⟨(0, 0), Nat.zero_le _, .inl ⟨rfl, hR⟩⟩ ?_ ?_
 ·refine Ent.to ?_ ?_ <;> simp (disch:=omega) only [qR,qS,qTw,qU,get,Nat.reduceEqDiff,↓reduceIte,qV,qW,qX,qY,qZ,and_self,dI,i64_in,and_true,true_and,rA,rB,rC,rD]
  all_goals first | exact ⟨.refl _, .refl _, .refl _⟩ | exact ⟨.refl _, .refl _⟩ | exact .refl _
 rintro ⟨⟨i, e⟩, hi, hr⟩
 dsimp only at hi hr ⊢
 rcases at_or ls i hi with ⟨l, hg, hlt, hd⟩ | ⟨he, hd⟩
 ·rcases hr with ⟨rfl, hr⟩ | ⟨rfl, hr⟩
  ·have h2 : ls.drop i = l :: ls.drop (i + 1) := by rw [List.drop_eq_getElem_cons hlt, (List.getElem_eq_iff hlt).2 hg]
   obtain ⟨h200, hpl⟩ := ly_ok hy l (List.mem_of_getElem? hg)
   have h3 := plFlt p b hp hb false l (by omega) (fun q hq => fine_of (hpl q hq))
   rw [h2, List.all_cons] at hr
   by_cases hf : (fltF p b l).2 = 0
   ·rw [decide_eq_true hf, Bool.true_and] at hr
    rw [hf] at h3
    generalize (fltF p b l).1 = a at *
    repeat' (first|(with_reducible first|apply qA|apply qB|apply qC|apply qD|apply qE|apply qF)|(simp (disch:=omega) only [go_sem, simprocAttr, qN, qO, qP, qQ, hd, hg, rF, rG])|exact qM rfl rfl rfl|(refine qG rfl ?_)|(refine qK (h3) (by decide) ?_)|(refine qH rfl ?_)|(refine qI rfl ?_ ?_<;>intro hc<;>(try simp only [go_sem] at hc))|(refine qJ ?_ ?_<;>intro hc<;>(try simp only [hc])<;>(try simp only [go_sem] at hc)))
    refine ⟨⟨(i + 1, 0), hlt, .inl ⟨rfl, hr⟩⟩, ?_, Ent.to ?_ ?_⟩ <;> first | (show _ < _; (try simp only); omega) | (simp (disch:=omega) only [qR,qS,qTw,qU,get,Nat.reduceEqDiff,↓reduceIte,qV,qW,qX,qY,qZ,and_self,dI,i64_in,and_true,true_and,rA,rB,rC,rD])
    all_goals first | exact ⟨.refl _, .refl _, .refl _⟩ | exact ⟨.refl _, .refl _⟩ | exact .refl _
   ·rw [decide_eq_false hf, Bool.false_and, if_neg Bool.false_ne_true] at hr
    have hd2 : ((fltF p b l).2 != 0) = true := by simpa using hf
    generalize (fltF p b l).1 = a at *
    generalize (fltF p b l).2 = c at *
    repeat' (first|(with_reducible first|apply qA|apply qB|apply qC|apply qD|apply qE|apply qF)|(simp (disch:=omega) only [go_sem, simprocAttr, qN, qO, qP, qQ, hd, hg, hd2, rF, rG])|exact qM rfl rfl rfl|(refine qG rfl ?_)|(refine qK (h3) (by decide) ?_)|(refine qH rfl ?_)|(refine qI rfl ?_ ?_<;>intro hc<;>(try simp only [go_sem] at hc))|(refine qJ ?_ ?_<;>intro hc<;>(try simp only [hc])<;>(try simp only [go_sem] at hc)))
    refine ⟨⟨(i + 1, 9), hlt, .inr ⟨rfl, hr.symm⟩⟩, ?_, Ent.to ?_ ?_⟩ <;> first | (show _ < _; (try simp only); omega) | (simp (disch:=omega) only [qR,qS,qTw,qU,get,Nat.reduceEqDiff,↓reduceIte,qV,qW,qX,qY,qZ,and_self,dI,i64_in,and_true,true_and,rA,rB,rC,rD])
    all_goals first | exact ⟨.refl _, .refl _, .refl _⟩ | exact ⟨.refl _, .refl _⟩ | exact .refl _
  ·subst hr
   repeat' (first|(with_reducible first|apply qA|apply qB|apply qC|apply qD|apply qE|apply qF)|(simp (disch:=omega) only [go_sem, simprocAttr, qN, qO, qP, qQ, hd, hg, rF, rG])|exact qM rfl rfl rfl|(refine qG rfl ?_)|(refine qH rfl ?_)|(refine qI rfl ?_ ?_<;>intro hc<;>(try simp only [go_sem] at hc))|(refine qJ ?_ ?_<;>intro hc<;>(try simp only [hc])<;>(try simp only [go_sem] at hc)))
 ·have hRe : e = R := by
   rcases hr with ⟨rfl, hr⟩ | ⟨rfl, hr⟩
   ·rw [List.drop_eq_nil_of_le (by omega)] at hr
    exact hr
   ·exact hr.symm
  subst hRe
  repeat' (first|(with_reducible first|apply qA|apply qB|apply qC|apply qD|apply qE|apply qF)|(simp (disch:=omega) only [go_sem, simprocAttr, qN, qO, qP, qQ, hd])|exact qM rfl rfl rfl|(refine qG rfl ?_)|(refine qH rfl ?_)|(refine qI rfl ?_ ?_<;>intro hc<;>(try simp only [go_sem] at hc))|(refine qJ ?_ ?_<;>intro hc<;>(try simp only [hc])<;>(try simp only [go_sem] at hc)))
end Go.Dw.Seat.Pa
end
section
set_option linter.unusedSimpArgs false
set_option maxRecDepth 100000
namespace Go.Dw.Seat.Pa
open Go Go.Dw Go.Proofs Go.IntWalk
structure PRs where
 on : List Int
 sh : Int
def eR (r : PRs) : List C := [.sl false 1 (rows eI r.on), .v (.int .i64 r.sh)]
attribute [go_sem] eR
abbrev rsD (r : PRs) : D := .agg [dIs false r.on, dI r.sh]
theorem rowC_snocI (l : List Int) (x : Int) : rowC (rows eI l) ++ [[D.c (.v (.int .i64 x))]] = rowC (rows eI (l ++ [x])) := by simp [rowC, rows, eI]
def enR (r : PRs) : List D := [rsD r]
attribute [go_sem] enR
end Go.Dw.Seat.Pa
end
section
set_option linter.unusedSimpArgs false
set_option maxRecDepth 100000
namespace Go.Dw.Seat.Pa
open Go Go.Dw Go.Proofs Go.IntWalk
theorem rgt_op {p : PBs} {b : PBx} {ls : List (List PPl)} (h : rgtE p b ls = 0) : opE p b ls = 0 ∧ ∀ l ∈ ls, Lies p b l := by
 unfold rgtE at h
 split at h
 ·rename_i h1; exact absurd h h1
 ·rename_i h1
  split at h
  ·rename_i h2
   refine ⟨by simpa using h1, fun l hl => flt_lies.1 ?_⟩
   have := List.all_eq_true.1 h2 l hl
   simpa using this
  ·cases h
end Go.Dw.Seat.Pa
end
section
set_option linter.unusedSimpArgs false
set_option maxRecDepth 100000
namespace Go.Dw.Seat.Pa
open Go Go.Dw Go.Proofs Go.IntWalk
theorem crW1 (n lo hi : Int) (p q : Bool) : DCall Try.prog 154 [dI n, .c (.ro p [.v (.int .i64 lo)] 0), .c (.ro q [.v (.int .i64 hi)] 0)] [] (bD (decide (n < lo) || decide (hi < n))) [] := by
 refine DCall.of Try.func154 sf154 hb154 (Nat.le_of_ble_eq_true rfl) (okRes_nil fun _ => rfl) ?_; simp only [s154, idxs, Nat.reduceAdd]
 repeat' (first|(with_reducible first|apply qA|apply qB|apply qC|apply qD|apply qE|apply qF)|(simp (disch:=omega) only [go_sem, simprocAttr, Blk.men, Blk.keysIn])|exact qM rfl rfl rfl|(refine qG rfl ?_)|(refine qH rfl ?_)|(refine qI rfl ?_ ?_<;>intro hc<;>(try simp only [go_sem] at hc))|(refine qJ ?_ ?_<;>intro hc<;>(try simp only [hc])<;>(try simp only [go_sem] at hc)))
theorem crWithin (b : Bool) (lo hi : Int) (l : List Int) (hl : l.length ≤ 2 ^ 36) : DCall Try.prog 94 [dI lo, dI hi, dIs b l] [] (bD (wthn lo hi l)) [] := by
 refine DCall.of Try.func94 sf94 hb94 (Nat.le_of_ble_eq_true rfl) (okRes_nil fun _ => rfl) ?_; simp only [s94, idxs, Nat.reduceAdd]
 repeat' (first|(with_reducible first|apply qA|apply qB|apply qC|apply qD|apply qE|apply qF)|(simp (disch:=omega) only [go_sem, simprocAttr, Blk.men, Blk.keysIn])|exact qM rfl rfl rfl|(refine qG rfl ?_)|(refine qH rfl ?_)|(refine qI rfl ?_ ?_<;>intro hc<;>(try simp only [go_sem] at hc))|(refine qJ ?_ ?_<;>intro hc<;>(try simp only [hc])<;>(try simp only [go_sem] at hc)))
 (refine call_c (plAnyI b l hl 154 [] [.ro true [.v (.int .i64 lo)] 0, .ro true [.v (.int .i64 hi)] 0] (fun n => decide (n < lo) || decide (hi < n)) (fun x _ => crW1 x lo hi true true)) (by decide) ?_; simp (disch:=omega) only [go_sem,simprocAttr,Blk.men,Blk.keysIn])
 repeat' (first|(with_reducible first|apply qA|apply qB|apply qC|apply qD|apply qE|apply qF)|(simp (disch:=omega) only [go_sem, simprocAttr, Blk.men, Blk.keysIn])|exact qM rfl rfl rfl|(refine qG rfl ?_)|(refine qH rfl ?_)|(refine qI rfl ?_ ?_<;>intro hc<;>(try simp only [go_sem] at hc))|(refine qJ ?_ ?_<;>intro hc<;>(try simp only [hc])<;>(try simp only [go_sem] at hc)))
theorem spanOk_yes {lo hi least most : Int} (h : least ≤ lo ∧ lo ≤ hi ∧ hi ≤ most) : spanOk lo hi least most = true := by
 unfold spanOk
 rw [wthn_yes (by simp; omega), decide_eq_true h.2.1]; rfl
theorem crSpanG (lo hi least most : Int) : DCall Try.prog 93 [.agg [dI lo, dI hi], dI least, dI most] [] (bD (spanOk lo hi least most)) [] := by
 have h1 := crWithin true least most [lo, hi] (by simp)
 unfold spanOk
 cases h : wthn least most [lo, hi] <;> rw [h] at h1 <;> simp only [Bool.true_and, Bool.false_and]
 ·refine DCall.of Try.func93 sf93 hb93 (Nat.le_of_ble_eq_true rfl) (okRes_nil fun _ => rfl) ?_; simp only [s93, idxs, Nat.reduceAdd]
  repeat' (first|(with_reducible first|apply qA|apply qB|apply qC|apply qD|apply qE|apply qF)|(simp (disch:=omega) only [go_sem, simprocAttr, Blk.men, Blk.keysIn])|exact qM rfl rfl rfl|(refine qG rfl ?_)|(refine qK (h1) (by decide) ?_)|(refine qH rfl ?_)|(refine qI rfl ?_ ?_<;>intro hc<;>(try simp only [go_sem] at hc))|(refine qJ ?_ ?_<;>intro hc<;>(try simp only [hc])<;>(try simp only [go_sem] at hc)))
 ·refine DCall.of Try.func93 sf93 hb93 (Nat.le_of_ble_eq_true rfl) (okRes_nil fun _ => rfl) ?_; simp only [s93, idxs, Nat.reduceAdd]
  repeat' (first|(with_reducible first|apply qA|apply qB|apply qC|apply qD|apply qE|apply qF)|(simp (disch:=omega) only [go_sem, simprocAttr, Blk.men, Blk.keysIn])|exact qM rfl rfl rfl|(refine qG rfl ?_)|(refine qK (h1) (by decide) ?_)|(refine qH rfl ?_)|(refine qI rfl ?_ ?_<;>intro hc<;>(try simp only [go_sem] at hc))|(refine qJ ?_ ?_<;>intro hc<;>(try simp only [hc])<;>(try simp only [go_sem] at hc)))
theorem mulB0 {a b A B : Int} (ha : 0 ≤ a ∧ a ≤ A) (hb : 0 ≤ b ∧ b ≤ B) : 0 ≤ a * b ∧ a * b ≤ A * B := by
 refine ⟨Int.mul_nonneg ha.1 hb.1, ?_⟩
 exact Int.le_trans (Int.mul_le_mul_of_nonneg_right ha.2 hb.1) (Int.mul_le_mul_of_nonneg_left hb.2 (Int.le_trans ha.1 ha.2))
theorem crIn (b : Bool) (lo hi : Int) (l : List Int) (hl : l.length ≤ 2 ^ 36) (h : ∀ v ∈ l, lo ≤ v ∧ v ≤ hi) : DCall Try.prog 94 [dI lo, dI hi, dIs b l] [] (bD true) [] := by
 have := crWithin b lo hi l hl
 rwa [wthn_yes h] at this
end Go.Dw.Seat.Pa
end
section
set_option linter.unusedSimpArgs false
set_option maxRecDepth 100000
namespace Go.Dw.Seat.Pa
open Go Go.Dw Go.Proofs Go.IntWalk
structure Lod where
 sl : Int
 sh : Int
 wl : Int
 wh : Int
def eLd (b : Lod) : List C := [.v (.int .i64 b.sl), .v (.int .i64 b.sh), .v (.int .i64 b.wl), .v (.int .i64 b.wh)]
theorem eLd_nb (v : Lod) : C.nbs (eLd v) = true := rfl
def eK (t : Int × Int) : List C := [.v (.int .i64 t.1), .v (.int .i64 t.2)]
theorem eK_nb (v : Int × Int) : C.nbs (eK v) = true := rfl
attribute [go_sem] eLd eK
structure Lod.ok (b : Lod) : Prop where
 strong : 0 ≤ b.sl ∧ b.sl ≤ b.sh ∧ b.sh ≤ 20000000
 weight : 0 ≤ b.wl ∧ b.wl ≤ b.wh ∧ b.wh ≤ 100000
def lodOk (b : Lod) : Bool := spanOk b.sl b.sh 0 20000000 && spanOk b.wl b.wh 0 100000
theorem lodOk_yes {b : Lod} (h : b.ok) : lodOk b = true := by
 simp only [lodOk, spanOk_yes h.strong, spanOk_yes h.weight, Bool.and_self]
theorem crBoxG (b : Lod) : DCall Try.prog 97 [.agg ((eLd b).map D.c)] [] (bD (!lodOk b)) [] := by
 have h1 := crSpanG b.sl b.sh 0 20000000
 have h2 := crSpanG b.wl b.wh 0 100000
 unfold lodOk
 cases e1 : spanOk b.sl b.sh 0 20000000 <;> rw [e1] at h1 <;> simp only [Bool.true_and, Bool.false_and, Bool.not_false]
 ·refine DCall.of Try.func97 sf97 hb97 (Nat.le_of_ble_eq_true rfl) (okRes_nil fun _ => rfl) ?_; simp only [s97, idxs, Nat.reduceAdd]
  repeat' (first|(with_reducible first|apply qA|apply qB|apply qC|apply qD|apply qE|apply qF)|(simp (disch:=omega) only [go_sem, simprocAttr, Blk.men, Blk.keysIn, rF, rG])|exact qM rfl rfl rfl|(refine qG rfl ?_)|(refine qK (h1) (by decide) ?_)|(refine qH rfl ?_)|(refine qI rfl ?_ ?_<;>intro hc<;>(try simp only [go_sem] at hc))|(refine qJ ?_ ?_<;>intro hc<;>(try simp only [hc])<;>(try simp only [go_sem] at hc)))
 ·refine DCall.of Try.func97 sf97 hb97 (Nat.le_of_ble_eq_true rfl) (okRes_nil fun _ => rfl) ?_; simp only [s97, idxs, Nat.reduceAdd]
  repeat' (first|(with_reducible first|apply qA|apply qB|apply qC|apply qD|apply qE|apply qF)|(simp (disch:=omega) only [go_sem, simprocAttr, Blk.men, Blk.keysIn, rF, rG])|exact qM rfl rfl rfl|(refine qG rfl ?_)|(refine qK (h1) (by decide) ?_)|(refine qK (h2) (by decide) ?_)|(refine qH rfl ?_)|(refine qI rfl ?_ ?_<;>intro hc<;>(try simp only [go_sem] at hc))|(refine qJ ?_ ?_<;>intro hc<;>(try simp only [hc])<;>(try simp only [go_sem] at hc)))
theorem crLIdx (b : Bool) (l : List (Lod)) (hl : l.length ≤ 2 ^ 36) (g : FuncId) (fs caps : List C) (p : Lod → Bool) (hp : ∀ x ∈ l, DCall Try.prog g (fs.map D.c ++ [.agg ((eLd x).map D.c)] ++ caps.map D.c) [] (bD (p x)) []) : DCall Try.prog 157 [.c (.sl b 4 (rows eLd l)), .c (.fn (.func g) fs caps)] [] (dI (idxI p l)) [] := by
 refine DCall.of Try.func157 sf157 hb157 (Nat.le_of_ble_eq_true rfl) (okRes_nil fun _ => rfl) ?_; simp only [s157, idxs, Nat.reduceAdd]
 repeat' (first|(with_reducible first|apply qA|apply qB|apply qC|apply qD|apply qE|apply qF)|(simp (disch:=omega) only [go_sem, simprocAttr, Blk.men, Blk.keysIn])|exact qM rfl rfl rfl|(refine qG rfl ?_)|(refine qH rfl ?_)|(refine qI rfl ?_ ?_<;>intro hc<;>(try simp only [go_sem] at hc))|(refine qJ ?_ ?_<;>intro hc<;>(try simp only [hc])<;>(try simp only [go_sem] at hc)))
 refine DW.loop (ι := { i : Nat // i ≤ l.length ∧ ∀ j u, j < i → l[j]? = some u → p u = false }) (fun i => ⟨19, [(8, dI i.1), (7, dI l.length), (1, .c (.fn (.func g) fs caps)), (0, .c (.sl b 4 (rows eLd l)))], []⟩) (fun i => l.length - i.1) ⟨0, Nat.zero_le _, fun j u h => by omega⟩ ?_ ?_
 ·refine Ent.to ?_ ?_ <;> simp (disch:=omega) only [qR,qS,qTw,qU,get,Nat.reduceEqDiff,↓reduceIte,qV,qW,qX,qY,qZ,and_self,dI,i64_in,and_true,true_and,rA,rB,rC,rD]
 rintro ⟨i, hi, hij⟩
 rcases at_or l i hi with ⟨v, hv, hlt, hd⟩ | ⟨he, hd⟩
 ·have hcall := hp v (List.mem_of_getElem? hv)
  repeat' (first|(with_reducible first|apply qA|apply qB|apply qC|apply qD|apply qE|apply qF)|(simp (disch:=omega) only [go_sem, simprocAttr, Blk.men, Blk.keysIn, hd, hv, closeDs_fn, rF, rG])|exact qM rfl rfl rfl|(refine qG rfl ?_)|(refine qH rfl ?_)|(refine qI rfl ?_ ?_<;>intro hc<;>(try simp only [go_sem] at hc))|(refine qJ ?_ ?_<;>intro hc<;>(try simp only [hc])<;>(try simp only [go_sem] at hc)))
  refine call_c hcall (by decide) ?_
  simp (disch:=omega) only [go_sem,simprocAttr,Blk.men,Blk.keysIn]
  refine DW.cond rfl ?_ ?_ <;> intro hc
  ·repeat' (first|(with_reducible first|apply qA|apply qB|apply qC|apply qD|apply qE|apply qF)|(simp (disch:=omega) only [go_sem, simprocAttr, Blk.men, Blk.keysIn])|exact qM rfl rfl rfl|(refine qG rfl ?_)|(refine qH rfl ?_)|(refine qI rfl ?_ ?_<;>intro hc<;>(try simp only [go_sem] at hc))|(refine qJ ?_ ?_<;>intro hc<;>(try simp only [hc])<;>(try simp only [go_sem] at hc)))
   refine retS_of rfl ?_ rfl; simp only [oneD, St.op, get, Nat.reduceEqDiff, ↓reduceIte, Option.getD_some, bD, dI]
   simp only [idxI, idxOf_some hij hv hc]
  ·repeat' (first|(with_reducible first|apply qA|apply qB|apply qC|apply qD|apply qE|apply qF)|(simp (disch:=omega) only [go_sem, simprocAttr, Blk.men, Blk.keysIn])|exact qM rfl rfl rfl|(refine qG rfl ?_)|(refine qH rfl ?_)|(refine qI rfl ?_ ?_<;>intro hc<;>(try simp only [go_sem] at hc))|(refine qJ ?_ ?_<;>intro hc<;>(try simp only [hc])<;>(try simp only [go_sem] at hc)))
   refine ⟨⟨i + 1, by omega, fun j u hj hu => by
    rcases Nat.lt_or_ge j i with h | h
    ·exact hij j u h hu
    ·have : j = i := by omega
     subst this
     rw [hv] at hu; cases hu; exact hc⟩, ?_, Ent.to ?_ ?_⟩ <;> first | (show _ < _; (try simp only); omega) | (simp (disch:=omega) only [qR,qS,qTw,qU,get,Nat.reduceEqDiff,↓reduceIte,qV,qW,qX,qY,qZ,and_self,dI,i64_in,and_true,true_and,rA,rB,rC,rD])
 ·repeat' (first|(with_reducible first|apply qA|apply qB|apply qC|apply qD|apply qE|apply qF)|(simp (disch:=omega) only [go_sem, simprocAttr, Blk.men, Blk.keysIn, hd])|exact qM rfl rfl rfl|(refine qG rfl ?_)|(refine qH rfl ?_)|(refine qI rfl ?_ ?_<;>intro hc<;>(try simp only [go_sem] at hc))|(refine qJ ?_ ?_<;>intro hc<;>(try simp only [hc])<;>(try simp only [go_sem] at hc)))
  refine retS_of rfl ?_ rfl; simp only [oneD, St.op, get, Nat.reduceEqDiff, ↓reduceIte, Option.getD_some, bD, dI]
  simp only [idxI, idxOf_none (he ▸ hij)]
theorem crLCon (b : Bool) (l : List (Lod)) (hl : l.length ≤ 2 ^ 36) (g : FuncId) (fs caps : List C) (p : Lod → Bool) (hp : ∀ x ∈ l, DCall Try.prog g (fs.map D.c ++ [.agg ((eLd x).map D.c)] ++ caps.map D.c) [] (bD (p x)) []) : DCall Try.prog 98 [.c (.sl b 4 (rows eLd l)), .c (.fn (.func g) fs caps)] [] (bD (l.any p)) [] := by
 refine DCall.of Try.func98 sf98 hb98 (Nat.le_of_ble_eq_true rfl) (okRes_nil fun _ => rfl) ?_; simp only [s98, idxs, Nat.reduceAdd]
 repeat' (first|(with_reducible first|apply qA|apply qB|apply qC|apply qD|apply qE|apply qF)|(simp (disch:=omega) only [go_sem, simprocAttr, Blk.men, Blk.keysIn])|exact qM rfl rfl rfl|(refine qG rfl ?_)|(refine qH rfl ?_)|(refine qI rfl ?_ ?_<;>intro hc<;>(try simp only [go_sem] at hc))|(refine qJ ?_ ?_<;>intro hc<;>(try simp only [hc])<;>(try simp only [go_sem] at hc)))
 refine call_c (crLIdx b l hl g fs caps p hp) (by decide) ?_
 repeat' (first|(with_reducible first|apply qA|apply qB|apply qC|apply qD|apply qE|apply qF)|(simp (disch:=omega) only [go_sem, simprocAttr, Blk.men, Blk.keysIn])|exact qM rfl rfl rfl|(refine qG rfl ?_)|(refine qH rfl ?_)|(refine qI rfl ?_ ?_<;>intro hc<;>(try simp only [go_sem] at hc))|(refine qJ ?_ ?_<;>intro hc<;>(try simp only [hc])<;>(try simp only [go_sem] at hc)))
 refine retS_of rfl ?_ rfl; simp only [oneD, St.op, get, Nat.reduceEqDiff, ↓reduceIte, Option.getD_some, bD, dI]
 rw [idxI_any]
def boxesE (l : List Lod) (most : Int) : Int := if most < l.length then 5 else if l.any (fun b => !lodOk b) then 2 else 0
theorem crBoxesG (b : Bool) (l : List Lod) (most : Int) (hl : l.length ≤ 2 ^ 36) : DCall Try.prog 49 [.c (.sl b 4 (rows eLd l)), dI most] [] (dI (boxesE l most)) [] := by
 have h1 := crLCon b l hl 97 [] [] (fun b => !lodOk b) (fun x _ => by simpa using crBoxG x)
 unfold boxesE
 by_cases hm : most < (l.length : Int)
 ·have hd : decide (most < (l.length : Int)) = true := decide_eq_true hm
  rw [if_pos hm]
  refine DCall.of Try.func49 sf49 hb49 (Nat.le_of_ble_eq_true rfl) (okRes_nil fun _ => rfl) ?_; simp only [s49, idxs, Nat.reduceAdd]
  repeat' (first|(with_reducible first|apply qA|apply qB|apply qC|apply qD|apply qE|apply qF)|(simp (disch:=omega) only [go_sem, simprocAttr, Blk.men, Blk.keysIn, hd])|exact qM rfl rfl rfl|(refine qG rfl ?_)|(refine qH rfl ?_)|(refine qI rfl ?_ ?_<;>intro hc<;>(try simp only [go_sem] at hc))|(refine qJ ?_ ?_<;>intro hc<;>(try simp only [hc])<;>(try simp only [go_sem] at hc)))
 have hd : decide (most < (l.length : Int)) = false := decide_eq_false hm
 rw [if_neg hm]
 cases e : l.any (fun b => !lodOk b) <;> rw [e] at h1
 ·rw [if_neg (by decide)]
  refine DCall.of Try.func49 sf49 hb49 (Nat.le_of_ble_eq_true rfl) (okRes_nil fun _ => rfl) ?_; simp only [s49, idxs, Nat.reduceAdd]
  repeat' (first|(with_reducible first|apply qA|apply qB|apply qC|apply qD|apply qE|apply qF)|(simp (disch:=omega) only [go_sem, simprocAttr, Blk.men, Blk.keysIn, hd])|exact qM rfl rfl rfl|(refine qG rfl ?_)|(refine qK (h1) (by decide) ?_)|(refine qH rfl ?_)|(refine qI rfl ?_ ?_<;>intro hc<;>(try simp only [go_sem] at hc))|(refine qJ ?_ ?_<;>intro hc<;>(try simp only [hc])<;>(try simp only [go_sem] at hc)))
 ·rw [if_pos rfl]
  refine DCall.of Try.func49 sf49 hb49 (Nat.le_of_ble_eq_true rfl) (okRes_nil fun _ => rfl) ?_; simp only [s49, idxs, Nat.reduceAdd]
  repeat' (first|(with_reducible first|apply qA|apply qB|apply qC|apply qD|apply qE|apply qF)|(simp (disch:=omega) only [go_sem, simprocAttr, Blk.men, Blk.keysIn, hd])|exact qM rfl rfl rfl|(refine qG rfl ?_)|(refine qK (h1) (by decide) ?_)|(refine qH rfl ?_)|(refine qI rfl ?_ ?_<;>intro hc<;>(try simp only [go_sem] at hc))|(refine qJ ?_ ?_<;>intro hc<;>(try simp only [hc])<;>(try simp only [go_sem] at hc)))
theorem boxesE_yes {l : List Lod} {most : Int} (h1 : (l.length : Int) ≤ most) (h : ∀ x ∈ l, x.ok) : boxesE l most = 0 := by
 unfold boxesE
 rw [if_neg (by omega), if_neg]
 simp only [Bool.not_eq_true, List.any_eq_false, Bool.not_eq_true', Bool.not_eq_false]
 exact fun x hx => lodOk_yes (h x hx)
theorem crBoxes (b : Bool) (l : List Lod) (most : Int) (hl : l.length ≤ 1000) (hm : (l.length : Int) ≤ most) (h : ∀ x ∈ l, x.ok) : DCall Try.prog 49 [.c (.sl b 4 (rows eLd l)), dI most] [] (dI 0) [] := by
 have := crBoxesG b l most (by omega)
 rwa [boxesE_yes hm h] at this
structure TabF (l : List (Int × Int)) : Prop where
 len : 1 ≤ l.length ∧ l.length ≤ 10
 first : ∀ u, l[0]? = some u → u.1 = 0
 mem : ∀ s ∈ l, (0 ≤ s.1 ∧ s.1 ≤ 10000) ∧ (0 ≤ s.2 ∧ s.2 ≤ 1000)
 step : ∀ (i : Nat) (u v : Int × Int), l[i]? = some u → l[i + 1]? = some v → u.1 < v.1 ∧ v.2 ≤ u.2
structure TabOk (l : List (Int × Int)) (days : Int) : Prop extends TabF l where
 days : 0 ≤ days ∧ days ≤ 10000
theorem crTable (l : List (Int × Int)) (days : Int) (h : TabOk l days) : DCall Try.prog 51 [.c (.sl false 2 (rows eK l)), dI days] [] (.tup [.agg [.c (.sl false 2 (rows eK l)), dI days], dI 0]) [] := by
 have hlen := h.len
 have h1 := crIn true 1 10 [(l.length : Int)] (by simp) (by simp; omega)
 have h2 := crIn true 0 10000 [days] (by simp) (by simpa using h.days)
 obtain ⟨f, hf⟩ := getE (l := l) (i := 0) (by omega)
 have hf0 := h.first f hf
 have hfe : (f.1 != 0) = false := by rw [hf0]; rfl
 refine DCall.of Try.func51 sf51 hb51 (Nat.le_of_ble_eq_true rfl) (okRes_nil fun _ => rfl) ?_; simp only [s51, idxs, Nat.reduceAdd]
 repeat' (first|(with_reducible first|apply qA|apply qB|apply qC|apply qD|apply qE|apply qF)|(refine qL rfl (WF.of ?_) ?_; first|rfl|skip)|(simp (disch:=omega) only [go_sem, simprocAttr, Blk.men, Blk.keysIn, hf, hfe, rF, rG])|exact qM rfl rfl rfl|(refine qG rfl ?_)|(refine qK (h1) (by decide) ?_)|(refine qH rfl ?_)|(refine qI rfl ?_ ?_<;>intro hc<;>(try simp only [go_sem] at hc))|(refine qJ ?_ ?_<;>intro hc<;>(try simp only [hc])<;>(try simp only [go_sem] at hc)))
 refine DW.loop (ι := { i : Nat // i ≤ l.length }) (fun i => ⟨76, [(23, dI i.1), (22, dI l.length), (21, .c (.sl false 2 (rows eK l))), (4, .box 4 0), (0, .c (.sl false 2 (rows eK l))), (1, dI days)], [(4, .box [.c (.v (.slice none 0 0)), dI 0])]⟩) (fun i => l.length - i.1) ⟨0, Nat.zero_le _⟩ ?_ ?_
 ·refine Ent.to ?_ ?_ <;> simp (disch:=omega) only [qR,qS,qTw,qU,get,Nat.reduceEqDiff,↓reduceIte,qV,qW,qX,qY,qZ,and_self,dI,i64_in,and_true,true_and,rA,rB,rC,rD]
 rintro ⟨i, hi⟩
 rcases at_or l i hi with ⟨v, hv, hlt, hd⟩ | ⟨he, hd⟩
 ·have hm := h.mem v (List.mem_of_getElem? hv)
  have h3 := crIn true 0 10000 [v.1] (by simp) (by simpa using hm.1)
  have h4 := crIn true 0 1000 [v.2] (by simp) (by simpa using hm.2)
  rcases i with _ | i
  ·have hd0 : decide ((0 : Int) < ((0 : Nat) : Int)) = false := by decide
   have hd' : decide ((0 : Int) < (l.length : Int)) = true := hd
   repeat' (first|(with_reducible first|apply qA|apply qB|apply qC|apply qD|apply qE|apply qF)|(refine qL rfl (WF.of ?_) ?_; first|rfl|skip)|(simp (disch:=omega) only [go_sem, simprocAttr, Blk.men, Blk.keysIn, hd', hv, hd0, rF, rG])|exact qM rfl rfl rfl|(refine qG rfl ?_)|(refine qK (h3) (by decide) ?_)|(refine qK (h4) (by decide) ?_)|(refine qH rfl ?_)|(refine qI rfl ?_ ?_<;>intro hc<;>(try simp only [go_sem] at hc))|(refine qJ ?_ ?_<;>intro hc<;>(try simp only [hc])<;>(try simp only [go_sem] at hc)))
   refine ⟨⟨1, hlt⟩, ?_, Ent.to ?_ ?_⟩ <;> first | (show _ < _; (try simp only); omega) | (simp (disch:=omega) only [qR,qS,qTw,qU,get,Nat.reduceEqDiff,↓reduceIte,qV,qW,qX,qY,qZ,and_self,dI,i64_in,and_true,true_and,rA,rB,rC,rD])
  ·have hd0 : decide ((0 : Int) < ((i + 1 : Nat) : Int)) = true := by rw [decide_eq_true_eq]; omega
   obtain ⟨u, hu⟩ := getE (l := l) (i := i) (by omega)
   have hs := h.step i u v hu hv
   have e1 : ((i + 1 : Nat) : Int) - 1 = (i : Int) := by omega
   have d1 : decide (v.1 ≤ u.1) = false := by rw [decide_eq_false_iff_not]; omega
   have d2 : decide (u.2 < v.2) = false := by rw [decide_eq_false_iff_not]; omega
   repeat' (first|(with_reducible first|apply qA|apply qB|apply qC|apply qD|apply qE|apply qF)|(refine qL rfl (WF.of ?_) ?_; first|rfl|skip)|(simp (disch:=omega) only [go_sem, simprocAttr, Blk.men, Blk.keysIn, hd, hv, hd0, hu, e1, d1, d2, rF, rG])|exact qM rfl rfl rfl|(refine qG rfl ?_)|(refine qK (h3) (by decide) ?_)|(refine qK (h4) (by decide) ?_)|(refine qH rfl ?_)|(refine qI rfl ?_ ?_<;>intro hc<;>(try simp only [go_sem] at hc))|(refine qJ ?_ ?_<;>intro hc<;>(try simp only [hc])<;>(try simp only [go_sem] at hc)))
   refine ⟨⟨i + 1 + 1, hlt⟩, ?_, Ent.to ?_ ?_⟩ <;> first | (show _ < _; (try simp only); omega) | (simp (disch:=omega) only [qR,qS,qTw,qU,get,Nat.reduceEqDiff,↓reduceIte,qV,qW,qX,qY,qZ,and_self,dI,i64_in,and_true,true_and,rA,rB,rC,rD])
 ·repeat' (first|(with_reducible first|apply qA|apply qB|apply qC|apply qD|apply qE|apply qF)|(refine qL rfl (WF.of ?_) ?_; first|rfl|skip)|(simp (disch:=omega) only [go_sem, simprocAttr, Blk.men, Blk.keysIn, hd])|exact qM rfl rfl rfl|(refine qG rfl ?_)|(refine qK (h2) (by decide) ?_)|(refine qH rfl ?_)|(refine qI rfl ?_ ?_<;>intro hc<;>(try simp only [go_sem] at hc))|(refine qJ ?_ ?_<;>intro hc<;>(try simp only [hc])<;>(try simp only [go_sem] at hc)))
  refine retS_wk rfl ?_ (by simp only [Blk.nb, rowC_nb, D.nb, D.nbs, C.nb, C.nbs, C.nbss, rows_nb eI_nb, Bool.and_true, Bool.not_false, Bool.and_self, bD, dI, iD, rows_nb eK_nb, rows_nb eLd_nb]); exact .tup (.cons (.refl _) (.cons (.refl _) .nil))
def stepOk (l : List (Int × Int)) (j : Nat) : Prop := ∀ v, l[j]? = some v → ((0 ≤ v.1 ∧ v.1 ≤ 10000) ∧ (0 ≤ v.2 ∧ v.2 ≤ 1000)) ∧ ∀ k u, j = k + 1 → l[k]? = some u → u.1 < v.1 ∧ v.2 ≤ u.2
theorem tabF_of {l : List (Int × Int)} (h1 : 1 ≤ l.length ∧ l.length ≤ 10) (h2 : ∀ u, l[0]? = some u → u.1 = 0) (h3 : ∀ j, j < l.length → stepOk l j) : TabF l := by
 refine ⟨h1, h2, fun s hs => ?_, fun i u v hu hv => ?_⟩
 ·obtain ⟨j, hj⟩ := List.mem_iff_getElem?.1 hs
  exact (h3 j (List.getElem?_eq_some_iff.1 hj).1 s hj).1
 ·exact (h3 (i + 1) (List.getElem?_eq_some_iff.1 hv).1 v hv).2 i u rfl hu
def lastI (days : Int) (l : List (Int × Int)) (k : Int) : Int := l.foldl (fun k s => if s.1 ≤ days then s.2 else k) k
theorem lastI_b (days : Int) : ∀ (l : List (Int × Int)) (k : Int), (∀ s ∈ l, 0 ≤ s.2 ∧ s.2 ≤ 1000) → (0 ≤ k ∧ k ≤ 1000) → 0 ≤ lastI days l k ∧ lastI days l k ≤ 1000
 | [], _, _, hk => hk
 | s :: t, k, h, hk => by
  refine lastI_b days t _ (fun x hx => h x (by simp [hx])) ?_
  have := h s (by simp)
  show 0 ≤ (if s.1 ≤ days then s.2 else k) ∧ (if s.1 ≤ days then s.2 else k) ≤ 1000
  split <;> omega
theorem lastI_take (days : Int) {l : List (Int × Int)} {i : Nat} {v : Int × Int} (hv : l[i]? = some v) : lastI days (l.take (i + 1)) 0 = if v.1 ≤ days then v.2 else lastI days (l.take i) 0 := by
 rw [List.take_add_one, hv]
 simp only [lastI, Option.toList_some, List.foldl_append, List.foldl_cons, List.foldl_nil]
theorem tdiv_b {a b : Int} {A : Int} (ha : 0 ≤ a ∧ a ≤ A) (hb : 0 ≤ b) : 0 ≤ a.tdiv b ∧ a.tdiv b ≤ A := by
 rw [Int.tdiv_eq_ediv_of_nonneg ha.1]
 exact ⟨Int.ediv_nonneg ha.1 hb, Int.le_trans (Int.ediv_le_self b ha.1) ha.2⟩
theorem crLast (b : Bool) (l : List (Int × Int)) (days : Int) (hl : l.length ≤ 1000) : DCall Try.prog 72 [.agg [.c (.sl b 2 (rows eK l)), dI days]] [] (dI (lastI days l 0)) [] := by
 refine DCall.of Try.func72 sf72 hb72 (Nat.le_of_ble_eq_true rfl) (okRes_nil fun _ => rfl) ?_; simp only [s72, idxs, Nat.reduceAdd]
 repeat' (first|(with_reducible first|apply qA|apply qB|apply qC|apply qD|apply qE|apply qF)|(simp (disch:=omega) only [go_sem, simprocAttr, Blk.men, Blk.keysIn])|exact qM rfl rfl rfl|(refine qG rfl ?_)|(refine qH rfl ?_)|(refine qI rfl ?_ ?_<;>intro hc<;>(try simp only [go_sem] at hc))|(refine qJ ?_ ?_<;>intro hc<;>(try simp only [hc])<;>(try simp only [go_sem] at hc)))
 refine DW.loop (ι := { i : Nat // i ≤ l.length }) (fun i => ⟨21, [(8, dI i.1), (7, dI l.length), (6, .c (.sl b 2 (rows eK l))), (2, dI (lastI days (l.take i.1) 0)), (1, .box 1 0)], [(1, .box [.c (.sl b 2 (rows eK l)), dI days])]⟩) (fun i => l.length - i.1) ⟨0, Nat.zero_le _⟩ ?_ ?_
 ·refine Ent.to ?_ ?_ <;> simp (disch:=omega) only [qR,qS,qTw,qU,get,Nat.reduceEqDiff,↓reduceIte,qV,qW,qX,qY,qZ,and_self,dI,i64_in,and_true,true_and,rA,rB,rC,rD,lastI,List.take_zero,List.foldl_nil]
 rintro ⟨i, hi⟩
 rcases at_or l i hi with ⟨v, hv, hlt, hd⟩ | ⟨he, hd⟩
 ·have hnx := lastI_take days hv
  cases hc : decide (v.1 ≤ days) with
  | true =>
   rw [if_pos (of_decide_eq_true hc)] at hnx
   repeat' (first|(with_reducible first|apply qA|apply qB|apply qC|apply qD|apply qE|apply qF)|(simp (disch:=omega) only [go_sem, simprocAttr, Blk.men, Blk.keysIn, hd, hv, hc, rF, rG])|exact qM rfl rfl rfl|(refine qG rfl ?_)|(refine qH rfl ?_)|(refine qI rfl ?_ ?_<;>intro hc<;>(try simp only [go_sem] at hc))|(refine qJ ?_ ?_<;>intro hc<;>(try simp only [hc])<;>(try simp only [go_sem] at hc)))
   refine ⟨⟨i + 1, hlt⟩, ?_, Ent.to ?_ ?_⟩ <;> first | (show _ < _; (try simp only); omega) | (simp (disch:=omega) only [qR,qS,qTw,qU,get,Nat.reduceEqDiff,↓reduceIte,qV,qW,qX,qY,qZ,and_self,dI,i64_in,and_true,true_and,rA,rB,rC,rD, hnx])
  | false =>
   rw [if_neg (of_decide_eq_false hc)] at hnx
   repeat' (first|(with_reducible first|apply qA|apply qB|apply qC|apply qD|apply qE|apply qF)|(simp (disch:=omega) only [go_sem, simprocAttr, Blk.men, Blk.keysIn, hd, hv, hc, rF, rG])|exact qM rfl rfl rfl|(refine qG rfl ?_)|(refine qH rfl ?_)|(refine qI rfl ?_ ?_<;>intro hc<;>(try simp only [go_sem] at hc))|(refine qJ ?_ ?_<;>intro hc<;>(try simp only [hc])<;>(try simp only [go_sem] at hc)))
   refine ⟨⟨i + 1, hlt⟩, ?_, Ent.to ?_ ?_⟩ <;> first | (show _ < _; (try simp only); omega) | (simp (disch:=omega) only [qR,qS,qTw,qU,get,Nat.reduceEqDiff,↓reduceIte,qV,qW,qX,qY,qZ,and_self,dI,i64_in,and_true,true_and,rA,rB,rC,rD, hnx])
 ·repeat' (first|(with_reducible first|apply qA|apply qB|apply qC|apply qD|apply qE|apply qF)|(simp (disch:=omega) only [go_sem, simprocAttr, Blk.men, Blk.keysIn, hd])|exact qM rfl rfl rfl|(refine qG rfl ?_)|(refine qH rfl ?_)|(refine qI rfl ?_ ?_<;>intro hc<;>(try simp only [go_sem] at hc))|(refine qJ ?_ ?_<;>intro hc<;>(try simp only [hc])<;>(try simp only [go_sem] at hc)))
  refine retS_of rfl ?_ rfl; simp only [oneD, St.op, get, Nat.reduceEqDiff, ↓reduceIte, Option.getD_some, bD, dI]
  rw [he, List.take_length]
def bearsI (b : Lod) (k : Int) : Int := (b.sl * k).tdiv 1000
theorem crBears (b : Lod) (h : b.ok) (k : Int) (hk : 0 ≤ k ∧ k ≤ 1000) : DCall Try.prog 71 [.agg ((eLd b).map D.c), dI k] [] (dI (bearsI b k)) [] := by
 have hs := h.strong
 have hm := mulB0 (a := b.sl) (b := k) (A := 20000000) (B := 1000) (by omega) hk
 have hq := tdiv_b (b := 1000) (A := 20000000000) (a := b.sl * k) (by omega) (by decide)
 unfold bearsI
 refine DCall.of Try.func71 sf71 hb71 (Nat.le_of_ble_eq_true rfl) (okRes_nil fun _ => rfl) ?_; simp only [s71, idxs, Nat.reduceAdd]
 repeat' (first|(with_reducible first|apply qA|apply qB|apply qC|apply qD|apply qE|apply qF)|(simp (disch:=omega) only [go_sem, simprocAttr, Blk.men, Blk.keysIn, rF, rG])|exact qM rfl rfl rfl|(refine qG rfl ?_)|(refine qH rfl ?_)|(refine qI rfl ?_ ?_<;>intro hc<;>(try simp only [go_sem] at hc))|(refine qJ ?_ ?_<;>intro hc<;>(try simp only [hc])<;>(try simp only [go_sem] at hc)))
def highI (b : Lod) (l : List (Int × Int)) (days : Int) : Int := if b.wh = 0 then 50 else if 1 + (bearsI b (lastI days l 0)).tdiv b.wh < 50 then 1 + (bearsI b (lastI days l 0)).tdiv b.wh else 50
theorem crHigh (b : Lod) (h : b.ok) (l : List (Int × Int)) (days : Int) (ht : TabOk l days) : DCall Try.prog 31 [.agg ((eLd b).map D.c), .c (.sl false 2 (rows eK l)), dI days] [] (.tup [dI (highI b l days), dI 0]) [] := by
 have h1 := crBoxes true [b] 1 (by simp) (by simp) (by simpa using h)
 have h2 := crTable l days ht
 have h3 := crLast false l days (by have := ht.len; omega)
 have hk := lastI_b days l 0 (fun s hs => (ht.mem s hs).2) (by decide)
 have h4 := crBears b h (lastI days l 0) hk
 have hs := h.strong
 have hw := h.weight
 unfold highI
 have hbb : 0 ≤ bearsI b (lastI days l 0) ∧ bearsI b (lastI days l 0) ≤ 20000000000 := by
  have hm := mulB0 (a := b.sl) (b := lastI days l 0) (A := 20000000) (B := 1000) (by omega) hk
  exact tdiv_b (by omega) (by decide)
 generalize lastI days l 0 = k at *
 generalize bearsI b k = be at *
 by_cases h0 : b.wh = 0
 ·have he : (b.wh == 0) = true := by rw [h0]; rfl
  rw [if_pos h0]
  refine DCall.of Try.func31 sf31 hb31 (Nat.le_of_ble_eq_true rfl) (okRes_nil fun _ => rfl) ?_; simp only [s31, idxs, Nat.reduceAdd]
  repeat' (first|(with_reducible first|apply qA|apply qB|apply qC|apply qD|apply qE|apply qF)|(refine qL rfl (WF.of ?_) ?_; first|rfl|skip)|(simp (disch:=omega) only [go_sem, simprocAttr, Blk.men, Blk.keysIn, rF, rG, he])|exact qM rfl rfl rfl|(refine qG rfl ?_)|(refine qK (h1) (by decide) ?_)|(refine qK (h2) (by decide) ?_)|(refine qH rfl ?_)|(refine qI rfl ?_ ?_<;>intro hc<;>(try simp only [go_sem] at hc))|(refine qJ ?_ ?_<;>intro hc<;>(try simp only [hc])<;>(try simp only [go_sem] at hc)))
 ·have he : (b.wh == 0) = false := by rw [beq_eq_false_iff_ne]; exact h0
  have hz : (b.wh = 0) = False := eq_false h0
  have hq := tdiv_b (b := b.wh) hbb (by omega)
  rw [if_neg h0]
  refine DCall.of Try.func31 sf31 hb31 (Nat.le_of_ble_eq_true rfl) (okRes_nil fun _ => rfl) ?_; simp only [s31, idxs, Nat.reduceAdd]
  repeat' (first|(with_reducible first|apply qA|apply qB|apply qC|apply qD|apply qE|apply qF)|(refine qL rfl (WF.of ?_) ?_; first|rfl|skip)|(simp (disch:=omega) only [go_sem, simprocAttr, Blk.men, Blk.keysIn, rF, rG, he, hz])|exact qM rfl rfl rfl|(refine qG rfl ?_)|(refine qK (h1) (by decide) ?_)|(refine qK (h2) (by decide) ?_)|(refine qK (h3) (by decide) ?_)|(refine qK (h4) (by decide) ?_)|(refine qH rfl ?_)|(refine qI rfl ?_ ?_<;>intro hc<;>(try simp only [go_sem] at hc))|(refine qJ ?_ ?_<;>intro hc<;>(try simp only [hc])<;>(try simp only [go_sem] at hc)))
end Go.Dw.Seat.Pa
end
section
set_option linter.unusedSimpArgs false
set_option maxRecDepth 100000
namespace Go.Dw.Seat.Pa
open Go Go.Dw Go.Proofs Go.IntWalk
def sumL : List Lod → Int
 | [] => 0
 | b :: t => sumL t + b.wl
def sumH : List Lod → Int
 | [] => 0
 | b :: t => sumH t + b.wh
theorem sum_b : ∀ {l : List Lod}, (∀ b ∈ l, b.ok) → (0 ≤ sumL l ∧ sumL l ≤ 100000 * (l.length : Int)) ∧ 0 ≤ sumH l ∧ sumH l ≤ 100000 * (l.length : Int)
 | [], _ => by simp [sumL, sumH]
 | b :: t, h => by
  have ih := sum_b (l := t) (fun x hx => h x (by simp [hx]))
  have hb := (h b (by simp)).weight
  simp only [sumL, sumH, List.length_cons, Int.natCast_add, Int.natCast_one]
  omega
def failN (k : Int) : List Lod → Option Nat
 | [] => none
 | b :: t => if bearsI b k < sumH t then some 0 else (failN k t).map (· + 1)
theorem failN_none {k : Int} : ∀ {l : List Lod}, (∀ j c, l[j]? = some c → ¬ bearsI c k < sumH (l.drop (j + 1))) → failN k l = none
 | [], _ => rfl
 | c :: t, h => by
  have h0 := h 0 c rfl
  have ih := failN_none (k := k) (l := t) (fun j d hd => h (j + 1) d hd)
  simp only [failN]
  rw [if_neg (show ¬ bearsI c k < sumH t from h0), ih]
  rfl
theorem bears_mono {b : Lod} (h : b.ok) {k k' : Int} (hk : 0 ≤ k) (hkk : k ≤ k') : bearsI b k ≤ bearsI b k' := by
 have hs := h.strong
 have m1 : 0 ≤ b.sl * k := Int.mul_nonneg hs.1 hk
 have m2 : b.sl * k ≤ b.sl * k' := Int.mul_le_mul_of_nonneg_left hkk hs.1
 unfold bearsI
 rw [Int.tdiv_eq_ediv_of_nonneg m1, Int.tdiv_eq_ediv_of_nonneg (by omega)]
 exact Int.ediv_le_ediv (by decide) m2
theorem bears_b {b : Lod} (h : b.ok) {k : Int} (hk : 0 ≤ k ∧ k ≤ 1000) : 0 ≤ bearsI b k ∧ bearsI b k ≤ 20000000 := by
 have hs := h.strong
 have m1 := mulB0 (a := b.sl) (b := k) (A := 20000000) (B := 1000) (by omega) hk
 unfold bearsI
 rw [Int.tdiv_eq_ediv_of_nonneg (by omega)]
 omega
theorem failN_mono {k k' : Int} (hk : 0 ≤ k) (hkk : k ≤ k') : ∀ {l : List Lod}, (∀ b ∈ l, b.ok) → failN k l = none → failN k' l = none
 | [], _, _ => rfl
 | b :: t, h, hf => by
  simp only [failN] at hf ⊢
  split at hf
  ·cases hf
  ·rename_i h1
   have := bears_mono (h b (by simp)) hk hkk
   rw [if_neg (by omega), failN_mono hk hkk (fun x hx => h x (by simp [hx])) (by simpa using hf)]
   rfl
def AscT : List (Int × Int) → Prop
 | [] => True
 | u :: t => (∀ v ∈ t, u.1 < v.1 ∧ v.2 ≤ u.2) ∧ AscT t
theorem ascT_of : ∀ {l : List (Int × Int)}, (∀ (i : Nat) (u v : Int × Int), l[i]? = some u → l[i + 1]? = some v → u.1 < v.1 ∧ v.2 ≤ u.2) → AscT l
 | [], _ => trivial
 | u :: t, h => by
  have ih := ascT_of (l := t) (fun i a b ha hb => h (i + 1) a b ha hb)
  refine ⟨?_, ih⟩
  rcases t with _ | ⟨w, t⟩
  ·intro v hv; cases hv
  ·have h0 := h 0 u w rfl rfl
   intro v hv
   rcases List.mem_cons.1 hv with rfl | hv
   ·exact h0
   ·have := ih.1 v hv
    omega
theorem TabF.asc {l : List (Int × Int)} (h : TabF l) : AscT l := ascT_of h.step
theorem lastI_cons (day : Int) (s : Int × Int) (t : List (Int × Int)) (k : Int) : lastI day (s :: t) k = lastI day t (if s.1 ≤ day then s.2 else k) := rfl
theorem lastI_past {day : Int} : ∀ {l : List (Int × Int)} {k : Int}, (∀ v ∈ l, day < v.1) → lastI day l k = k
 | [], _, _ => rfl
 | s :: t, k, h => by
  have := h s (by simp)
  rw [lastI_cons, if_neg (by omega)]
  exact lastI_past (fun v hv => h v (by simp [hv]))
theorem lastI_le {day : Int} : ∀ {l : List (Int × Int)} {k : Int}, AscT l → (∀ v ∈ l, v.2 ≤ k) → lastI day l k ≤ k
 | [], _, _, _ => Int.le_refl _
 | s :: t, k, ha, h => by
  have hs := h s (by simp)
  rw [lastI_cons]
  split
  ·have := lastI_le (day := day) (k := s.2) ha.2 (fun v hv => (ha.1 v hv).2)
   omega
  ·exact lastI_le ha.2 (fun v hv => h v (by simp [hv]))
theorem lastI_anti {day days : Int} (hd : day ≤ days) : ∀ {l : List (Int × Int)} {k : Int}, AscT l → (∀ v ∈ l, v.2 ≤ k) → lastI days l k ≤ lastI day l k
 | [], _, _, _ => Int.le_refl _
 | s :: t, k, ha, h => by
  have hs := h s (by simp)
  rw [lastI_cons, lastI_cons]
  by_cases h1 : s.1 ≤ day
  ·rw [if_pos h1, if_pos (by omega)]
   exact lastI_anti hd ha.2 (fun v hv => (ha.1 v hv).2)
  ·rw [if_neg h1]
   have h2 : lastI day t k = k := lastI_past (fun v hv => by have := (ha.1 v hv).1; omega)
   rw [h2]
   split
   ·have := lastI_le (day := days) (k := s.2) ha.2 (fun v hv => (ha.1 v hv).2)
    omega
   ·exact lastI_le ha.2 (fun v hv => h v (by simp [hv]))
def fallT (st : List Lod) (days : Int) : List (Int × Int) → Option (Int × Nat)
 | [] => none
 | s :: t => if days < s.1 then none else match failN s.2 st with
  | some i => some (s.1, i)
  | none => fallT st days t
theorem fall_none {st : List Lod} {days : Int} : ∀ {l : List (Int × Int)}, AscT l → fallT st days l = none → ∀ day k, day ≤ days → failN k st = none → failN (lastI day l k) st = none
 | [], _, _, _, _, _, hk => hk
 | s :: t, ha, hf, day, k, hd, hk => by
  simp only [fallT] at hf
  rw [lastI_cons]
  split at hf
  ·rename_i h1
   rw [if_neg (by omega), lastI_past (fun v hv => by have := (ha.1 v hv).1; omega)]
   exact hk
  ·split at hf
   ·cases hf
   ·rename_i h2
    split
    ·exact fall_none ha.2 hf day s.2 hd h2
    ·exact fall_none ha.2 hf day k hd hk
theorem fall_some {st : List Lod} {days d : Int} {i : Nat} : ∀ {l : List (Int × Int)}, AscT l → fallT st days l = some (d, i) → (d ≤ days ∧ (∃ v ∈ l, v.1 = d)) ∧ (∀ k, failN (lastI d l k) st = some i) ∧ ∀ day k, day < d → failN k st = none → failN (lastI day l k) st = none
 | s :: t, ha, hf => by
  simp only [fallT] at hf
  split at hf
  ·cases hf
  rename_i h1
  split at hf
  ·rename_i j hj
   cases hf
   refine ⟨⟨by omega, s, by simp, rfl⟩, fun k => ?_, fun day k hd hk => ?_⟩
   ·rw [lastI_cons, if_pos (Int.le_refl _), lastI_past (fun v hv => (ha.1 v hv).1)]
    exact hj
   ·rw [lastI_cons, if_neg (by omega), lastI_past (fun v hv => by have := (ha.1 v hv).1; omega)]
    exact hk
  ·rename_i hj
   obtain ⟨⟨h2, v, hv, rfl⟩, h3, h4⟩ := fall_some ha.2 hf
   have hsv := (ha.1 v hv).1
   refine ⟨⟨h2, v, by simp [hv], rfl⟩, fun k => ?_, fun day k hd hk => ?_⟩
   ·rw [lastI_cons]; exact h3 _
   ·rw [lastI_cons]
    split
    ·exact h4 day s.2 hd hj
    ·exact h4 day k hd hk
theorem TabF.head {l : List (Int × Int)} (h : TabF l) : ∃ k t, l = (0, k) :: t ∧ 0 ≤ k ∧ k ≤ 1000 := by
 rcases l with _ | ⟨⟨d, k⟩, t⟩
 ·have := h.len.1; simp at this
 ·have h0 : d = 0 := h.first (d, k) rfl
  subst h0
  exact ⟨k, t, rfl, (h.mem (0, k) (by simp)).2⟩
theorem kept_b {l : List (Int × Int)} (h : TabF l) (day : Int) : 0 ≤ lastI day l 0 ∧ lastI day l 0 ≤ 1000 := lastI_b day l 0 (fun s hs => (h.mem s hs).2) (by decide)
theorem fall_iff {st : List Lod} (hst : ∀ b ∈ st, b.ok) {l : List (Int × Int)} {days : Int} (h : TabOk l days) : fallT st days l = none ↔ failN (lastI days l 0) st = none := by
 obtain ⟨k, t, rfl, hk⟩ := h.head
 have ha := h.asc
 have hd := h.days
 constructor
 ·intro hf
  have h1 := hf
  simp only [fallT] at h1
  rw [if_neg (by omega)] at h1
  split at h1
  ·cases h1
  ·rename_i h2
   rw [lastI_cons, if_pos (by omega)]
   exact fall_none ha.2 h1 days k (Int.le_refl _) h2
 ·intro hl
  cases hf : fallT st days ((0, k) :: t) with
  | none => rfl
  | some p =>
   obtain ⟨d, i⟩ := p
   obtain ⟨⟨h1, v, hv, hvd⟩, h2, _⟩ := fall_some ha hf
   have h3 := h2 0
   have hd0 : 0 ≤ d := by have := (h.mem v hv).1; omega
   have e1 : ∀ day, 0 ≤ day → lastI day ((0, k) :: t) 0 = lastI day t k := fun day h => by rw [lastI_cons, if_pos h]
   rw [e1 d hd0] at h3
   have h5 := (kept_b h.toTabF days).1
   rw [e1 days hd.1] at hl h5
   have h4 := lastI_anti h1 (k := k) ha.2 (fun v hv => (ha.1 v hv).2)
   have := failN_mono h5 h4 hst hl
   rw [h3] at this; cases this
theorem sumH_rep (b : Lod) : ∀ n : Nat, sumH (List.replicate n b) = (n : Int) * b.wh
 | 0 => by simp [sumH]
 | n + 1 => by
  rw [List.replicate_succ, sumH, sumH_rep b n, Int.natCast_add, Int.natCast_one, Int.add_mul, Int.one_mul]
theorem failN_rep {b : Lod} (h : b.ok) {k : Int} (hk : 0 ≤ k ∧ k ≤ 1000) : ∀ n : Nat, failN k (List.replicate (n + 1) b) = none ↔ (n : Int) * b.wh ≤ bearsI b k
 | 0 => by
  have := bears_b h hk
  have e : failN k (List.replicate (0 + 1) b) = none := by
   simp only [List.replicate_succ, List.replicate_zero, failN]
   rw [if_neg (show ¬ bearsI b k < sumH [] by show ¬ _ < (0 : Int); omega)]; rfl
  rw [e]
  simp; omega
 | n + 1 => by
  have ih := failN_rep h hk n
  have hw := h.weight
  rw [List.replicate_succ, failN, sumH_rep]
  have e : ((n + 1 : Nat) : Int) * b.wh = (n : Int) * b.wh + b.wh := by rw [Int.natCast_add, Int.natCast_one, Int.add_mul, Int.one_mul]
  rw [e] at *
  split
  ·rename_i h1
   simp; omega
  ·rename_i h1
   have : failN k (List.replicate (n + 1) b) = none := ih.2 (by omega)
   rw [this]
   simp; omega
theorem high_iff {b : Lod} (h : b.ok) {l : List (Int × Int)} {days : Int} (ht : TabOk l days) (n : Nat) (hn : n < 50) : failN (lastI days l 0) (List.replicate (n + 1) b) = none ↔ ((n : Int) + 1 ≤ highI b l days) := by
 have hk := kept_b ht.toTabF days
 rw [failN_rep h hk]
 have hb := bears_b h hk
 have hw := h.weight
 unfold highI
 generalize bearsI b (lastI days l 0) = B at *
 by_cases h0 : b.wh = 0
 ·rw [if_pos h0, h0, Int.mul_zero]
  constructor <;> intro _ <;> omega
 ·rw [if_neg h0]
  have hp : 0 < b.wh := by omega
  rw [Int.tdiv_eq_ediv_of_nonneg hb.1]
  have key : (n : Int) * b.wh ≤ B ↔ (n : Int) ≤ B / b.wh := (Int.le_ediv_iff_mul_le hp).symm
  rw [key]
  generalize B / b.wh = q
  split <;> constructor <;> intro _ <;> omega
end Go.Dw.Seat.Pa
end
section
set_option linter.unusedSimpArgs false
set_option maxRecDepth 100000
namespace Go.Dw.Seat.Pa
open Go Go.Dw Go.Proofs Go.IntWalk
def newt (n : Int) : Int := (n + 99) / 100
theorem plNewton (n : Int) (h : 0 ≤ n ∧ n ≤ 5000000) : DCall Try.prog 46 [dI n] [] (dI (newt n)) [] := by
 have ht : Int.tdiv (n + 99) 100 = (n + 99) / 100 := Int.tdiv_eq_ediv_of_nonneg (by omega)
 unfold newt
 refine DCall.of Try.func46 sf46 hb46 (Nat.le_of_ble_eq_true rfl) (okRes_nil fun _ => rfl) ?_; simp only [s46, idxs, Nat.reduceAdd]
 repeat' (first|(with_reducible first|apply qA|apply qB|apply qC|apply qD|apply qE|apply qF)|(simp (disch:=omega) only [go_sem, simprocAttr, qN, qO, qP, qQ, ht])|exact qM rfl rfl rfl|(refine qG rfl ?_)|(refine qH rfl ?_)|(refine qI rfl ?_ ?_<;>intro hc<;>(try simp only [go_sem] at hc))|(refine qJ ?_ ?_<;>intro hc<;>(try simp only [hc])<;>(try simp only [go_sem] at hc)))
def lodF (b : PBx) : Lod := ⟨b.sl, b.sh, newt b.wl, newt b.wh⟩
theorem lodF_ok {b : PBx} (hb : b.ok) : (lodF b).ok := by
 have h1 := hb.w
 have h2 := hb.s
 refine ⟨h2, ?_⟩
 simp only [lodF, newt]
 omega
def layI (p : PBs) (b : PBx) (n : Int) (hg : Int) : Int :=
 if 0 < n * b.wh then min (min (min 30 hg) (max 0 (p.top - p.hi) / b.hi)) (p.load / (n * b.wh)) else min (min 30 hg) (max 0 (p.top - p.hi) / b.hi)
set_option maxHeartbeats 4000000 in
theorem plLayersX (p : PBs) (b : PBx) (l : List PPl) (hl : l.length ≤ 2 ^ 36) (keep : List (Int × Int)) (days : Int) (ht : TabOk keep days) : DCall Try.prog 10 [bsD p, bxD b, lyD false l, .c (.sl false 2 (rows eK keep)), dI days] [] (.tup [dI (if rgtE p b [l] = 0 ∧ l ≠ [] then layI p b l.length (highI (lodF b) keep days) else 0), dI (if rgtE p b [l] ≠ 0 then rgtE p b [l] else if l = [] then 7 else 0)]) [] := by
 have h3 := plRight true p b [l] (by simp) (by simpa using hl)
 rw [one_ls] at h3
 by_cases hr : rgtE p b [l] = 0
 case neg =>
  rw [if_neg (fun h => hr h.1), if_pos hr]
  generalize rgtE p b [l] = e at *
  have hd : (e != 0) = true := by simpa using hr
  by_cases hc : chkE p b = 0
  ·rw [if_pos hc] at h3
   refine DCall.of Try.func10 sf10 hb10 (Nat.le_of_ble_eq_true rfl) (okRes_nil fun _ => rfl) ?_; simp only [s10, idxs, Nat.reduceAdd]
   repeat' (first|(with_reducible first|apply qA|apply qB|apply qC|apply qD|apply qE|apply qF)|(refine qL rfl (WF.of ?_) ?_; first|rfl|skip)|(simp (disch:=omega) only [go_sem, simprocAttr, qN, qO, qP, qQ, hd])|exact qM rfl rfl rfl|(refine qG rfl ?_)|(refine qK (h3) (by decide) ?_)|(refine qH rfl ?_)|(refine qI rfl ?_ ?_<;>intro hc<;>(try simp only [go_sem] at hc))|(refine qJ ?_ ?_<;>intro hc<;>(try simp only [hc])<;>(try simp only [go_sem] at hc)))
  ·rw [if_neg hc] at h3
   refine DCall.of Try.func10 sf10 hb10 (Nat.le_of_ble_eq_true rfl) (okRes_nil fun _ => rfl) ?_; simp only [s10, idxs, Nat.reduceAdd]
   repeat' (first|(with_reducible first|apply qA|apply qB|apply qC|apply qD|apply qE|apply qF)|(refine qL rfl (WF.of ?_) ?_; first|rfl|skip)|(simp (disch:=omega) only [go_sem, simprocAttr, qN, qO, qP, qQ, hd])|exact qM rfl rfl rfl|(refine qG rfl ?_)|(refine qK (h3) (by decide) ?_)|(refine qH rfl ?_)|(refine qI rfl ?_ ?_<;>intro hc<;>(try simp only [go_sem] at hc))|(refine qJ ?_ ?_<;>intro hc<;>(try simp only [hc])<;>(try simp only [go_sem] at hc)))
 obtain ⟨ho, hli⟩ := rgt_op hr
 obtain ⟨⟨hc, hy⟩, hp, hb⟩ := op_ok ho
 have k1 := ly_ok hy l (by simp)
 rw [hr, if_pos hc] at h3
 rw [hr]
 by_cases hn : l = []
 ·rw [if_neg (fun h => h.2 hn), if_neg (by simp), if_pos hn]
  have hd : ((l.length : Int) == 0) = true := by rw [hn]; rfl
  refine DCall.of Try.func10 sf10 hb10 (Nat.le_of_ble_eq_true rfl) (okRes_nil fun _ => rfl) ?_; simp only [s10, idxs, Nat.reduceAdd]
  repeat' (first|(with_reducible first|apply qA|apply qB|apply qC|apply qD|apply qE|apply qF)|(refine qL rfl (WF.of ?_) ?_; first|rfl|skip)|(simp (disch:=omega) only [go_sem, simprocAttr, qN, qO, qP, qQ, hd])|exact qM rfl rfl rfl|(refine qG rfl ?_)|(refine qK (h3) (by decide) ?_)|(refine qH rfl ?_)|(refine qI rfl ?_ ?_<;>intro hc<;>(try simp only [go_sem] at hc))|(refine qJ ?_ ?_<;>intro hc<;>(try simp only [hc])<;>(try simp only [go_sem] at hc)))
 have hnl : 0 < l.length := List.length_pos_iff.2 hn
 rw [if_pos ⟨rfl, hn⟩, if_neg (by simp), if_neg hn]
 have hd : ((l.length : Int) == 0) = false := by rw [beq_eq_false_iff_ne]; omega
 have hw := hb.w
 have hhi := hb.hi
 have hph := hp.hi
 have hpt := hp.top
 have hpl := hp.load
 have n1 := plNewton b.wl (by omega)
 have n2 := plNewton b.wh (by omega)
 have hH := crHigh (lodF b) (lodF_ok hb) keep days ht
 simp only [lodF, eLd, List.map_cons, List.map_nil] at hH
 generalize hhg : highI (lodF b) keep days = hg
 rw [show highI ⟨b.sl, b.sh, newt b.wl, newt b.wh⟩ keep days = hg from hhg] at hH
 have hz : (b.hi = 0) = False := eq_false (by omega)
 have hm0 : 0 ≤ (l.length : Int) * b.wh := Int.mul_nonneg (by omega) (by omega)
 have hm1 : (l.length : Int) * b.wh ≤ 200 * 5000000 := Int.mul_le_mul (by omega) (by omega) (by omega) (by omega)
 have w1 : IntKind.i64.wrap ((l.length : Int) * b.wh) = (l.length : Int) * b.wh := IntWalk.i64_in _ (by omega)
 have t1 : Int.tdiv (max 0 (p.top - p.hi)) b.hi = max 0 (p.top - p.hi) / b.hi := Int.tdiv_eq_ediv_of_nonneg (by omega)
 have q1 : 0 ≤ max 0 (p.top - p.hi) / b.hi := Int.ediv_nonneg (by omega) (by omega)
 have q2 : max 0 (p.top - p.hi) / b.hi ≤ max 0 (p.top - p.hi) := Int.ediv_le_self _ (by omega)
 have w2 : IntKind.i64.wrap (max 0 (p.top - p.hi) / b.hi) = max 0 (p.top - p.hi) / b.hi := IntWalk.i64_in _ (by omega)
 unfold layI
 by_cases h0 : 0 < (l.length : Int) * b.wh
 ·have d0 : decide (0 < (l.length : Int) * b.wh) = true := decide_eq_true h0
  have hz2 : ((l.length : Int) * b.wh = 0) = False := eq_false (by omega)
  have t2 : Int.tdiv p.load ((l.length : Int) * b.wh) = p.load / ((l.length : Int) * b.wh) := Int.tdiv_eq_ediv_of_nonneg (by omega)
  have q3 : 0 ≤ p.load / ((l.length : Int) * b.wh) := Int.ediv_nonneg (by omega) (by omega)
  have q4 : p.load / ((l.length : Int) * b.wh) ≤ p.load := Int.ediv_le_self _ (by omega)
  have w3 : IntKind.i64.wrap (p.load / ((l.length : Int) * b.wh)) = p.load / ((l.length : Int) * b.wh) := IntWalk.i64_in _ (by omega)
  rw [if_pos h0]
  refine DCall.of Try.func10 sf10 hb10 (Nat.le_of_ble_eq_true rfl) (okRes_nil fun _ => rfl) ?_; simp only [s10, idxs, Nat.reduceAdd]
  repeat' (first|(with_reducible first|apply qA|apply qB|apply qC|apply qD|apply qE|apply qF)|(refine qL rfl (WF.of ?_) ?_; first|rfl|skip)|(simp (disch:=omega) only [go_sem, simprocAttr, qN, qO, qP, qQ, hd, d0, hz, hz2, w1, w2, w3, t1, t2, min_if, max_if, rF, rG])|exact qM rfl rfl rfl|(refine qG rfl ?_)|(refine qK (h3) (by decide) ?_)|(refine qK (n1) (by decide) ?_)|(refine qK (n2) (by decide) ?_)|(refine qK (hH) (by decide) ?_)|(refine qH rfl ?_)|(refine qI rfl ?_ ?_<;>intro hc<;>(try simp only [go_sem] at hc))|(refine qJ ?_ ?_<;>intro hc<;>(try simp only [hc])<;>(try simp only [go_sem] at hc)))
  skip
 ·have d0 : decide (0 < (l.length : Int) * b.wh) = false := decide_eq_false h0
  rw [if_neg h0]
  refine DCall.of Try.func10 sf10 hb10 (Nat.le_of_ble_eq_true rfl) (okRes_nil fun _ => rfl) ?_; simp only [s10, idxs, Nat.reduceAdd]
  repeat' (first|(with_reducible first|apply qA|apply qB|apply qC|apply qD|apply qE|apply qF)|(refine qL rfl (WF.of ?_) ?_; first|rfl|skip)|(simp (disch:=omega) only [go_sem, simprocAttr, qN, qO, qP, qQ, hd, d0, hz, w1, w2, t1, min_if, max_if, rF, rG])|exact qM rfl rfl rfl|(refine qG rfl ?_)|(refine qK (h3) (by decide) ?_)|(refine qK (n1) (by decide) ?_)|(refine qK (n2) (by decide) ?_)|(refine qK (hH) (by decide) ?_)|(refine qH rfl ?_)|(refine qI rfl ?_ ?_<;>intro hc<;>(try simp only [go_sem] at hc))|(refine qJ ?_ ?_<;>intro hc<;>(try simp only [hc])<;>(try simp only [go_sem] at hc)))
  skip
end Go.Dw.Seat.Pa
end
section
set_option linter.unusedSimpArgs false
set_option maxRecDepth 100000
namespace Go.Dw.Seat.Pa
open Go Go.Dw Go.Proofs Go.IntWalk
theorem crBackward (l : List (Lod)) : DCall Try.prog 100 [.c (.sl false 4 (rows eLd l))] [] (.fn (.func 158) [] [.c (.ro false [.sl false 4 (rows eLd l)] 0)]) [] := by
 refine DCall.of Try.func100 sf100 hb100 (Nat.le_of_ble_eq_true rfl) (okRes_nil fun _ => rfl) ?_; simp only [s100, idxs, Nat.reduceAdd]
 repeat' (first|(with_reducible first|apply qA|apply qB|apply qC|apply qD|apply qE|apply qF)|(simp (disch:=omega) only [go_sem, simprocAttr, qN, qO, qP, qQ])|exact qM rfl rfl rfl|(refine qG rfl ?_)|(refine qH rfl ?_)|(refine qI rfl ?_ ?_<;>intro hc<;>(try simp only [go_sem] at hc))|(refine qJ ?_ ?_<;>intro hc<;>(try simp only [hc])<;>(try simp only [go_sem] at hc)))
 (refine retS_ent (Ent.rel 1 rfl) ?_; simp (disch:=omega) only [go_sem,simprocAttr,qN,qO,qP,qQ])
 refine retS_wk rfl ?_ (by simp only [Blk.nb, rowC_nb, D.nb, D.nbs, C.nb, C.nbs, C.nbss, rows_nb eI_nb, Bool.and_true, Bool.not_false, Bool.and_self, bD, dI, iD, rows_nb eK_nb, rows_nb eLd_nb]); exact .refl _
def backL {α : Type} (l : List α) : List (α × Nat) := l.zipIdx.reverse
theorem backL_nil {α : Type} : backL ([] : List α) = [] := rfl
theorem backL_take {α : Type} (l : List α) (i : Nat) (v : α) (hv : l[i]? = some v) : backL (l.take (i + 1)) = (v, i) :: backL (l.take i) := by
 rw [List.take_add_one, hv]
 have hlt : i < l.length := by
  rcases Nat.lt_or_ge i l.length with h | h
  ·exact h
  ·rw [List.getElem?_eq_none h] at hv; cases hv
 simp only [backL, Option.toList_some, List.zipIdx_append, List.length_take, Nat.min_eq_left (Nat.le_of_lt hlt), List.zipIdx_singleton, List.reverse_append, List.reverse_cons, List.reverse_nil, List.nil_append, List.cons_append, Nat.zero_add]
def enBack (e : Lod × Nat) : List D := [dI e.2, .agg ((eLd e.1).map D.c)]
theorem crBack (l : List (Lod)) (hl : l.length ≤ 1000) (p : Bool) : ItD Try.prog 158 [] [.c (.ro p [.sl false 4 (rows eLd l)] 0)] enBack (fun e => l[e.2]? = some e.1) (backL l) := by
 intro ly β H stp live hW hY b0 hl0
 have hH : ∀ b, HidOk (H b) := fun b => (hW b).toHidOk
 refine DCall.of Try.func158 sf158 hb158 (Nat.le_of_ble_eq_true rfl) (hH _).res ?_
 simp only [s158, idxs, Nat.reduceAdd, List.map_nil, List.map_cons, List.nil_append, List.cons_append]
 repeat' (first|(with_reducible first|apply qA|apply qB|apply qC|apply qD|apply qE|apply qF)|(simp (disch:=omega) only [go_sem, simprocAttr, qN, qO, qP, qQ])|exact qM rfl rfl rfl|(refine qG rfl ?_)|(refine qH rfl ?_)|(refine qI rfl ?_ ?_<;>intro hc<;>(try simp only [go_sem] at hc))|(refine qJ ?_ ?_<;>intro hc<;>(try simp only [hc])<;>(try simp only [go_sem] at hc)))
 refine DW.loop (ι := { s : Nat × β // s.1 ≤ l.length ∧ live s.2 ∧ runB stp b0 (backL l) = runB stp s.2 (backL (l.take s.1)) })
  (fun s => ⟨19, [(3, dI ((s.1.1 : Int) - 1)), (0, .c (.fn (.yield ly) [] [])), (1, .c (.ro p [.sl false 4 (rows eLd l)] 0))], H s.1.2⟩) (fun s => s.1.1) ⟨(l.length, b0), Nat.le_refl _, hl0, by rw [List.take_length]⟩ ?_ ?_
 ·refine Ent.toT ?_; simp (disch:=omega) only [qR,qS,qTw,qU,get,Nat.reduceEqDiff,↓reduceIte,qV,qW,qX,qY,qZ,and_self,dI,i64_in,and_true,true_and,rA,rB,rC,rD]
 rintro ⟨⟨k, b1⟩, hk, hlv, hrun⟩
 dsimp only at hk hlv hrun
 rcases k with _ | k
 ·have hd : decide ((0 : Int) ≤ ((0 : Nat) : Int) - 1) = false := by decide
  rw [List.take_zero, backL_nil] at hrun
  simp only [runB] at hrun
  repeat' (first|(with_reducible first|apply qA|apply qB|apply qC|apply qD|apply qE|apply qF)|(simp (disch:=omega) only [go_sem, simprocAttr, qN, qO, qP, qQ, hd])|exact qM rfl rfl rfl|(refine qG rfl ?_)|(refine qH rfl ?_)|(refine qI rfl ?_ ?_<;>intro hc<;>(try simp only [go_sem] at hc))|(refine qJ ?_ ?_<;>intro hc<;>(try simp only [hc])<;>(try simp only [go_sem] at hc)))
  rw [hrun]
  exact retS_hid (own := []) (.inr rfl) (hH _) rfl
 ·have e1 : ((k + 1 : Nat) : Int) - 1 = (k : Int) := by omega
  have hd : decide ((0 : Int) ≤ (k : Int)) = true := by rw [decide_eq_true_eq]; omega
  obtain ⟨v, hv⟩ := getE (l := l) (i := k) (by omega)
  rw [backL_take l k v hv] at hrun
  obtain ⟨hyc, hlv4⟩ := hY b1 (v, k) hlv hv
  simp only [runB] at hrun
  dsimp only
  rw [e1]
  repeat' (first|(with_reducible first|apply qA|apply qB|apply qC|apply qD|apply qE|apply qF)|(simp (disch:=omega) only [go_sem, simprocAttr, qN, qO, qP, qQ, hd, hv, rF, rG])|exact qM rfl rfl rfl|(refine qG rfl ?_)|(refine qH rfl ?_)|(refine qI rfl ?_ ?_<;>intro hc<;>(try simp only [go_sem] at hc))|(refine qJ ?_ ?_<;>intro hc<;>(try simp only [hc])<;>(try simp only [go_sem] at hc)))
  refine call_y (own := []) hyc rfl rfl rfl (hH _) (hH _) (by decide) ?_
  cases hs : (stp b1 (v, k)).1 with
  | true =>
   rw [hs] at hrun hlv4
   simp (disch:=omega) only [go_sem,simprocAttr,qN,qO,qP,qQ]
   repeat' (first|(with_reducible first|apply qA|apply qB|apply qC|apply qD|apply qE|apply qF)|(simp (disch:=omega) only [go_sem, simprocAttr, qN, qO, qP, qQ])|exact qM rfl rfl rfl|(refine qG rfl ?_)|(refine qH rfl ?_)|(refine qI rfl ?_ ?_<;>intro hc<;>(try simp only [go_sem] at hc))|(refine qJ ?_ ?_<;>intro hc<;>(try simp only [hc])<;>(try simp only [go_sem] at hc)))
   refine ⟨⟨(k, (stp b1 (v, k)).2), by omega, hlv4 rfl, hrun⟩, by (show _ < _; (try simp only); omega), Ent.toT ?_⟩; simp (disch:=omega) only [qR,qS,qTw,qU,get,Nat.reduceEqDiff,↓reduceIte,qV,qW,qX,qY,qZ,and_self,dI,i64_in,and_true,true_and,rA,rB,rC,rD]
  | false =>
   rw [hs] at hrun
   simp (disch:=omega) only [go_sem,simprocAttr,qN,qO,qP,qQ]
   repeat' (first|(with_reducible first|apply qA|apply qB|apply qC|apply qD|apply qE|apply qF)|(simp (disch:=omega) only [go_sem, simprocAttr, qN, qO, qP, qQ])|exact qM rfl rfl rfl|(refine qG rfl ?_)|(refine qH rfl ?_)|(refine qI rfl ?_ ?_<;>intro hc<;>(try simp only [go_sem] at hc))|(refine qJ ?_ ?_<;>intro hc<;>(try simp only [hc])<;>(try simp only [go_sem] at hc)))
   rw [hrun]
   exact retS_hid (own := []) (.inl rfl) (hH _) rfl
def w64 (n : Int) : Int := IntKind.i64.wrap n
def fallS : Int → Int → List (Lod × Nat) → List (Nat × Int × Int)
 | _, _, [] => []
 | lo, hi, e :: t => (e.2, lo, hi) :: fallS (w64 (lo + e.1.wl)) (w64 (hi + e.1.wh)) t
def enF (e : Nat × Int × Int) : List D := [dI e.1, .agg [dI e.2.1, dI e.2.2]]
def falS {β : Type} (stp : β → Nat × Int × Int → Bool × β) (y : β × Int × Int) (e : Lod × Nat) : Option Exit × (β × Int × Int) :=
 if (stp y.1 (e.2, y.2.1, y.2.2)).1 = true then (none, ((stp y.1 (e.2, y.2.1, y.2.2)).2, w64 (y.2.1 + e.1.wl), w64 (y.2.2 + e.1.wh))) else (some .ret, ((stp y.1 (e.2, y.2.1, y.2.2)).2, y.2))
theorem falS_run {β : Type} (stp : β → Nat × Int × Int → Bool × β) : ∀ (L : List (Lod × Nat)) (b : β) (lo hi : Int),
  ((runIt (falS stp) (b, lo, hi) L).1 = some .ret ∨ (runIt (falS stp) (b, lo, hi) L).1 = none) ∧ (runIt (falS stp) (b, lo, hi) L).2.1 = runB stp b (fallS lo hi L)
 | [], b, lo, hi => ⟨.inr rfl, rfl⟩
 | e :: L, b, lo, hi => by
  simp only [runIt, falS, fallS, runB]
  by_cases hs : (stp b (e.2, lo, hi)).1 = true
  ·simp only [hs, if_true]
   exact falS_run stp L _ _ _
  ·simp [hs]
attribute [go_sem] enBack enF
theorem crFalling (l : List Lod) : DCall Try.prog 50 [.c (.sl false 4 (rows eLd l))] [] (.fn (.func 99) [] [.c (.ro false [.sl false 4 (rows eLd l)] 0)]) [] := by
 refine DCall.of Try.func50 sf50 hb50 (Nat.le_of_ble_eq_true rfl) (okRes_nil fun _ => rfl) ?_; simp only [s50, idxs, Nat.reduceAdd]
 repeat' (first|(with_reducible first|apply qA|apply qB|apply qC|apply qD|apply qE|apply qF)|(simp (disch:=omega) only [go_sem, simprocAttr, qN, qO, qP, qQ])|exact qM rfl rfl rfl|(refine qG rfl ?_)|(refine qH rfl ?_)|(refine qI rfl ?_ ?_<;>intro hc<;>(try simp only [go_sem] at hc))|(refine qJ ?_ ?_<;>intro hc<;>(try simp only [hc])<;>(try simp only [go_sem] at hc)))
 (refine retS_ent (Ent.rel 1 rfl) ?_; simp (disch:=omega) only [go_sem,simprocAttr,qN,qO,qP,qQ])
 refine retS_wk rfl ?_ (by simp only [Blk.nb, rowC_nb, D.nb, D.nbs, C.nb, C.nbs, C.nbss, rows_nb eI_nb, Bool.and_true, Bool.not_false, Bool.and_self, bD, dI, iD, rows_nb eK_nb, rows_nb eLd_nb]); exact .refl _
set_option maxHeartbeats 1000000 in
theorem crFall1 (l : List Lod) (hl : l.length ≤ 1000) (p : Bool) : ItD Try.prog 99 [] [.c (.ro p [.sl false 4 (rows eLd l)] 0)] enF (fun e => e.1 < l.length) (fallS 0 0 (backL l)) := by
 intro ly β H stp live hW hY b0 hl0
 have hH : ∀ b, HidOk (H b) := fun b => (hW b).toHidOk
 have hb := crBackward l
 have hit := crBack l hl false
 refine DCall.of Try.func99 sf99 hb99 (Nat.le_of_ble_eq_true rfl) (hH _).res ?_
 simp only [s99, idxs, Nat.reduceAdd, List.map_nil, List.map_cons, List.nil_append, List.cons_append]
 have f1 := hid_get (hH b0)
 have f2 := hid_ins (hH b0)
 have f3 := (hH b0).men
 have f4 := (hH b0).lo
 have f5 : ∀ k x, k < 1000 → ins k x (H b0) = H b0 ++ [(k, x)] := fun k x hk => by have := f2 k hk x []; rwa [List.append_nil] at this
 repeat' (first|(with_reducible first|apply qA|apply qB|apply qC|apply qD|apply qE|apply qF)|(simp (disch:=omega) only [go_sem, simprocAttr, qN, qO, qP, qQ, f1, f2, f3, f4, f5, ins])|exact qM rfl rfl rfl|(refine qG rfl ?_)|(refine qK (hb) (by decide) ?_)|(refine qH rfl ?_)|(refine qI rfl ?_ ?_<;>intro hc<;>(try simp only [go_sem] at hc))|(refine qJ ?_ ?_<;>intro hc<;>(try simp only [hc])<;>(try simp only [go_sem] at hc)))
 refine DW.ent (Ent.comm (hH b0) rfl).1 ?_
 refine DW.ent (σ' := ⟨28, [(7, .fn (.func 158) [] [.c (.ro false [.sl false 4 (rows eLd l)] 0)]), (3, .box 3 0), (2, .box 2 0)], [(3, .box [dI 0, dI 0]), (2, .box [.c (.fn (.yield ly) [] [])])] ++ H b0⟩) ?_ ?_
 ·refine Ent.toH (hH b0) rfl ?_ ?_ <;> simp (disch:=omega) only [qR,qS,qTw,qU,get,Nat.reduceEqDiff,↓reduceIte,qV,qW,qX,qY,qZ,and_self,dI,i64_in,and_true,true_and,rA,rB,rC,rD]
 refine DW.rngD (fs := []) (caps := [.c (.ro false [.sl false 4 (rows eLd l)] 0)]) rfl (fun _ => ⟨rfl, rfl⟩) (fun y : β × Int × Int => [(3, .box [dI y.2.1, dI y.2.2]), (2, .box [.c (.fn (.yield ly) [] [])])] ++ H y.1) (b0, 0, 0) rfl (falS stp) enBack (fun e => l[e.2]? = some e.1) (backL l) hit (fun y => live y.1) hl0 ?_ (by decide) (fun _ _ => rfl) (fun _ _ _ => rfl) (by simp only [List.map_cons, List.map_nil]; decide) ?_ ?_ ?_ ?_ ?_ ?_ ?_
 ·rintro ⟨b, lo, hi⟩ ⟨s, i⟩ hiv hs h1
  have hlt : i < l.length := (List.getElem?_eq_some_iff.1 hs).1
  simp only [falS] at h1 ⊢
  dsimp only at hiv
  split at h1
  ·rename_i hc
   rw [if_pos hc]
   exact (hY b (i, lo, hi) hiv hlt).2 hc
  ·cases h1
 ·intro y
  show get 999 (H y.1) = none
  exact (hH y.1).lo 999 (by decide)
 ·intro y
  have := (hW y.1).app2 (3, Blk.box [dI y.2.1, dI y.2.2]) (2, .box [.c (.fn (.yield ly) [] [])])
  simp only [List.cons_append, List.nil_append, wfB, List.all_cons, List.all_nil, this, Bool.and_true]
  rfl
 ·intro y j x hj
  rw [get_app] at hj
  cases hg : get j [(3, Blk.box [dI y.2.1, dI y.2.2]), (2, .box [.c (.fn (.yield ly) [] [])])] with
  | none => rw [hg] at hj; exact (hH y.1).nb j x hj
  | some x' =>
   rw [hg] at hj; cases hj
   have := get_mem hg
   simp only [List.mem_cons, Prod.mk.injEq, List.not_mem_nil, or_false] at this
   rcases this with ⟨_, rfl⟩ | ⟨_, rfl⟩ <;> rfl
 ·intro p hp
  simp only [List.mem_cons, List.not_mem_nil, or_false] at hp
  rcases hp with rfl | rfl | rfl
  ·simp only [D.nb, D.nbs, C.nb, C.nbs, rows_nb eLd_nb, Bool.and_self, Bool.not_false]
  ·rfl
  ·rfl
 ·intro y e
  simp only [falS]
  split <;> rfl
 ·rintro ⟨b, lo, hi⟩ hiv ⟨s, i⟩ hs v
  have hlt : i < l.length := (List.getElem?_eq_some_iff.1 hs).1
  dsimp only at hiv hs
  obtain ⟨hyc, hlv⟩ := hY b (i, lo, hi) hiv hlt
  have g1 := hid_get (hH b)
  have g2 := hid_ins (hH b)
  have g3 := (hH b).men
  have g4 := (hH b).lo
  refine DW.ent (Ent.swap ((hH b).lo 999 (by decide))).1 ?_
  have hS : falS stp (b, lo, hi) (s, i) = if (stp b (i, lo, hi)).1 = true then (none, ((stp b (i, lo, hi)).2, w64 (lo + s.wl), w64 (hi + s.wh))) else (some .ret, ((stp b (i, lo, hi)).2, lo, hi)) := rfl
  cases hc : (stp b (i, lo, hi)).1 with
  | true =>
   rw [hc, if_pos rfl] at hS
   rw [hc] at hyc
   rw [hS]
   simp (disch:=omega) only [go_sem,simprocAttr,qN,qO,qP,qQ,rF,rG,g3,g4]
   repeat' (first|(with_reducible first|apply qA|apply qB|apply qC|apply qD|apply qE|apply qF)|(simp (disch:=omega) only [go_sem, simprocAttr, qN, qO, qP, qQ, rF, rG, g3, g4])|exact qM rfl rfl rfl|(refine qG rfl ?_)|(refine qH rfl ?_)|(refine qI rfl ?_ ?_<;>intro hc<;>(try simp only [go_sem] at hc))|(refine qJ ?_ ?_<;>intro hc<;>(try simp only [hc])<;>(try simp only [go_sem] at hc)))
   refine call_y (own := [_, _, _, _]) hyc rfl rfl rfl (hH _) (hH _) (by decide) ?_
   simp (disch:=omega) only [go_sem,simprocAttr,qN,qO,qP,qQ]
   repeat' (first|(with_reducible first|apply qA|apply qB|apply qC|apply qD|apply qE|apply qF)|(simp (disch:=omega) only [go_sem, simprocAttr, qN, qO, qP, qQ])|exact qM rfl rfl rfl|(refine qG rfl ?_)|(refine qH rfl ?_)|(refine qI rfl ?_ ?_<;>intro hc<;>(try simp only [go_sem] at hc))|(refine qJ ?_ ?_<;>intro hc<;>(try simp only [hc])<;>(try simp only [go_sem] at hc)))
   refine round_end rfl rfl (Ent.trans ?_ (Ent.swap (o := [(3, Blk.box [dI (w64 (lo + s.wl)), dI (w64 (hi + s.wh))]), (2, Blk.box [D.c (C.fn (Fn.yield ly) [] [])])]) (c := capB v [(7, D.fn (Fn.func 158) [] [D.c (C.ro false [C.sl false 4 (rows eLd l)] 0)]), (3, D.box 3 0), (2, D.box 2 0)]) ((hH (stp b (i, lo, hi)).2).lo 999 (by decide))).2)
   refine Ent.toH (o := [_, _, _, _]) (o' := [_, _, _]) (hH _) ?_ ?_ ?_
   ·rfl
   ·simp (disch:=omega) only [qR,qS,qTw,qU,get,Nat.reduceEqDiff,↓reduceIte,qV,qW,qX,qY,qZ,and_self,dI,i64_in,and_true,true_and,rA,rB,rC,rD,capB]
   ·simp (disch:=omega) only [qR,qS,qTw,qU,get,Nat.reduceEqDiff,↓reduceIte,qV,qW,qX,qY,qZ,and_self,dI,i64_in,and_true,true_and,rA,rB,rC,rD,capB,w64]
  | false =>
   rw [hc, if_neg (by decide)] at hS
   rw [hc] at hyc
   rw [hS]
   simp (disch:=omega) only [go_sem,simprocAttr,qN,qO,qP,qQ,rF,rG,g3,g4]
   repeat' (first|(with_reducible first|apply qA|apply qB|apply qC|apply qD|apply qE|apply qF)|(simp (disch:=omega) only [go_sem, simprocAttr, qN, qO, qP, qQ, rF, rG, g3, g4])|exact qM rfl rfl rfl|(refine qG rfl ?_)|(refine qH rfl ?_)|(refine qI rfl ?_ ?_<;>intro hc<;>(try simp only [go_sem] at hc))|(refine qJ ?_ ?_<;>intro hc<;>(try simp only [hc])<;>(try simp only [go_sem] at hc)))
   refine call_y (own := [_, _, _, _]) hyc rfl rfl rfl (hH _) (hH _) (by decide) ?_
   simp (disch:=omega) only [go_sem,simprocAttr,qN,qO,qP,qQ]
   repeat' (first|(with_reducible first|apply qA|apply qB|apply qC|apply qD|apply qE|apply qF)|(simp (disch:=omega) only [go_sem, simprocAttr, qN, qO, qP, qQ])|exact qM rfl rfl rfl|(refine qG rfl ?_)|(refine qH rfl ?_)|(refine qI rfl ?_ ?_<;>intro hc<;>(try simp only [go_sem] at hc))|(refine qJ ?_ ?_<;>intro hc<;>(try simp only [hc])<;>(try simp only [go_sem] at hc)))
   refine round_end rfl rfl (Ent.trans ?_ (Ent.swap (o := [(3, Blk.box [dI lo, dI hi]), (2, Blk.box [D.c (C.fn (Fn.yield ly) [] [])])]) (c := capB v [(7, D.fn (Fn.func 158) [] [D.c (C.ro false [C.sl false 4 (rows eLd l)] 0)]), (3, D.box 3 0), (2, D.box 2 0)]) ((hH (stp b (i, lo, hi)).2).lo 999 (by decide))).2)
   refine Ent.toH (o := [_, _, _, _]) (o' := [_, _, _]) (hH _) ?_ ?_ ?_
   ·rfl
   ·simp (disch:=omega) only [qR,qS,qTw,qU,get,Nat.reduceEqDiff,↓reduceIte,qV,qW,qX,qY,qZ,and_self,dI,i64_in,and_true,true_and,rA,rB,rC,rD,capB]
   ·simp (disch:=omega) only [qR,qS,qTw,qU,get,Nat.reduceEqDiff,↓reduceIte,qV,qW,qX,qY,qZ,and_self,dI,i64_in,and_true,true_and,rA,rB,rC,rD,capB]
 ·have hrs := falS_run stp (backL l) b0 0 0
  generalize runIt (falS stp) (b0, 0, 0) (backL l) = R at *
  obtain ⟨o, b, lo, hi⟩ := R
  dsimp only at hrs ⊢
  rw [← hrs.2]
  rcases hrs.1 with rfl | rfl
  ·simp (disch:=omega) only [go_sem,simprocAttr,qN,qO,qP,qQ,Option.getD_some]
   exact retS_hid (own := [_, _]) (.inl rfl) (hH _) rfl
  ·simp (disch:=omega) only [go_sem,simprocAttr,qN,qO,qP,qQ,Option.getD_none]
   exact retS_hid (own := [_, _]) (.inr rfl) (hH _) rfl
end Go.Dw.Seat.Pa
end
section
set_option linter.unusedSimpArgs false
set_option maxRecDepth 100000
namespace Go.Dw.Seat.Pa
open Go Go.Dw Go.Proofs Go.IntWalk
theorem runIt_all {α ε : Type} {step : α → ε → Option Exit × α} (h : ∀ a e, (step a e).1 = none) : ∀ (L : List ε) (a : α), runIt step a L = (none, L.foldl (fun a e => (step a e).2) a)
 | [], a => rfl
 | e :: L, a => by
  have ih := runIt_all h L (step a e).2
  have hn := h a e
  rw [List.foldl_cons, ← ih]
  simp only [runIt]
  rcases he : step a e with ⟨o, a'⟩
  rw [he] at hn
  dsimp only at hn
  subst hn
  rfl
theorem w64_in {n : Int} (h : -9223372036854775808 ≤ n ∧ n < 9223372036854775808) : w64 n = n := i64_in n (by omega)
def loadsF : Nat → List Lod → List (Nat × Int × Int)
 | _, [] => []
 | i, _ :: t => (i, sumL t, sumH t) :: loadsF (i + 1) t
theorem fallS_app : ∀ (a b : List (Lod × Nat)) (lo hi lo' hi' : Int), lo' = a.foldl (fun s e => w64 (s + e.1.wl)) lo → hi' = a.foldl (fun s e => w64 (s + e.1.wh)) hi → fallS lo hi (a ++ b) = fallS lo hi a ++ fallS lo' hi' b
 | [], b, lo, hi, lo', hi', h1, h2 => by simp only [List.foldl_nil] at h1 h2; rw [h1, h2]; rfl
 | e :: a, b, lo, hi, lo', hi', h1, h2 => by
  simp only [List.cons_append, fallS]
  rw [fallS_app a b _ _ lo' hi' h1 h2]
theorem backL_cons (b : Lod) (t : List Lod) : backL (b :: t) = (backL t).map (fun e => (e.1, e.2 + 1)) ++ [(b, 0)] := by
 have : ∀ (l : List Lod) (n : Nat), l.zipIdx (n + 1) = (l.zipIdx n).map (fun e => (e.1, e.2 + 1)) := fun l => by
  induction l with
  | nil => intro n; rfl
  | cons x l ih => intro n; simp only [List.zipIdx_cons, List.map_cons, ih (n + 1)]
 simp only [backL, List.zipIdx_cons, Nat.zero_add, List.reverse_cons]
 rw [show t.zipIdx 1 = t.zipIdx (0 + 1) from rfl, this t 0, List.map_reverse]
theorem fallS_shift : ∀ (L : List (Lod × Nat)) (lo hi : Int), fallS lo hi (L.map (fun e => (e.1, e.2 + 1))) = (fallS lo hi L).map (fun e => (e.1 + 1, e.2))
 | [], _, _ => rfl
 | e :: L, lo, hi => by simp only [List.map_cons, fallS, fallS_shift L]
theorem loadsF_shift : ∀ (l : List Lod) (i : Nat), loadsF (i + 1) l = (loadsF i l).map (fun e => (e.1 + 1, e.2))
 | [], _ => rfl
 | b :: t, i => by simp only [loadsF, List.map_cons, loadsF_shift t (i + 1)]
theorem back_sums : ∀ (l : List Lod), (∀ b ∈ l, b.ok) → l.length ≤ 100000 → (backL l).foldl (fun s e => w64 (s + e.1.wl)) 0 = sumL l ∧ (backL l).foldl (fun s e => w64 (s + e.1.wh)) 0 = sumH l
 | [], _, _ => ⟨rfl, rfl⟩
 | b :: t, h, hl => by
  rw [List.length_cons] at hl
  have ht : ∀ x ∈ t, x.ok := fun x hx => h x (by simp [hx])
  obtain ⟨i1, i2⟩ := back_sums t ht (by omega)
  have hb := (h b (by simp)).weight
  obtain ⟨b1, b2⟩ := sum_b ht
  rw [backL_cons, List.foldl_append, List.foldl_append, List.foldl_map, List.foldl_map, i1, i2]
  simp only [List.foldl_cons, List.foldl_nil, sumL, sumH]
  exact ⟨w64_in (by omega), w64_in (by omega)⟩
theorem fallS_eq : ∀ (l : List Lod), (∀ b ∈ l, b.ok) → l.length ≤ 100000 → fallS 0 0 (backL l) = (loadsF 0 l).reverse
 | [], _, _ => rfl
 | b :: t, h, hl => by
  rw [List.length_cons] at hl
  have ht : ∀ x ∈ t, x.ok := fun x hx => h x (by simp [hx])
  have ih := fallS_eq t ht (by omega)
  obtain ⟨i1, i2⟩ := back_sums t ht (by omega)
  rw [backL_cons, fallS_app _ _ 0 0 (sumL t) (sumH t) (by rw [List.foldl_map, i1]) (by rw [List.foldl_map, i2]), fallS_shift, ih]
  simp only [fallS, loadsF, List.reverse_cons, loadsF_shift t 0, List.map_reverse]
def lowS (l : List Lod) (k : Int) (a : Int × Bool) (e : Nat × Int × Int) : Option Exit × (Int × Bool) := match l[e.1]? with
 | some v => if bearsI v k < e.2.2 then (none, ((e.1 : Int), true)) else (none, a)
 | none => (none, a)
theorem lowS_none (l : List Lod) (k : Int) (a : Int × Bool) (e : Nat × Int × Int) : (lowS l k a e).1 = none := by
 unfold lowS; split <;> (try split) <;> rfl
theorem low_fold (l : List Lod) (k : Int) (a : Int × Bool) : ∀ (t pre : List Lod), l = pre ++ t → (loadsF pre.length t).foldr (fun e a => (lowS l k a e).2) a = match failN k t with
  | some i => (((pre.length + i : Nat) : Int), true)
  | none => a
 | [], _, _ => rfl
 | b :: t, pre, hl => by
  have ih := low_fold l k a t (pre ++ [b]) (by simp [hl])
  simp only [List.length_append, List.length_singleton] at ih
  have hg : l[pre.length]? = some b := by rw [hl, List.getElem?_append_right (Nat.le_refl _), Nat.sub_self]; rfl
  simp only [loadsF, List.foldr_cons, failN, ih]
  unfold lowS
  simp only [hg]
  split
  ·simp
  ·cases hf : failN k t with
   | none => rfl
   | some i => simp only [Option.map_some]; congr 2; omega
def lowR (k : Int) (l : List Lod) : Int × Bool := match failN k l with
 | some i => ((i : Int), true)
 | none => (0, false)
theorem low_run (l : List Lod) (k : Int) (h : ∀ b ∈ l, b.ok) (hl : l.length ≤ 100000) : runIt (lowS l k) (0, false) (fallS 0 0 (backL l)) = (none, lowR k l) := by
 rw [runIt_all (lowS_none l k), fallS_eq l h hl, List.foldl_reverse]
 have := low_fold l k (0, false) l [] rfl
 simp only [List.length_nil, Nat.zero_add] at this
 rw [this]; rfl
set_option maxHeartbeats 1000000 in
theorem crLowest (l : List Lod) (h : ∀ b ∈ l, b.ok) (hl : l.length ≤ 1000) (k : Int) (hk : 0 ≤ k ∧ k ≤ 1000) : DCall Try.prog 52 [.c (.sl false 4 (rows eLd l)), dI k] [] (.tup [dI (lowR k l).1, bD (lowR k l).2]) [] := by
 have h1 := crFalling l
 have hit := crFall1 l hl false
 refine DCall.of Try.func52 sf52 hb52 (Nat.le_of_ble_eq_true rfl) (okRes_nil fun _ => rfl) ?_; simp only [s52, o52_0, o52_1, o52_2, o52_3, idxs, Nat.reduceAdd]
 repeat' (first|(with_reducible first|apply qA|apply qB|apply qC|apply qD|apply qE|apply qF)|(refine qL rfl (WF.of ?_) ?_; first|rfl|skip)|(refine DW.ord rfl (WF.of (by first|rfl|simp (disch:=omega) only [go_sem, simprocAttr, qN, qO, qP, qQ])) ?_ ?_ ?_; rotate_left)|rfl|(with_reducible refine And.intro ?_ ?_)|(simp (disch:=omega) only [go_sem, simprocAttr, qN, qO, qP, qQ])|exact qM rfl rfl rfl|(refine qG rfl ?_)|(refine qK (h1) (by decide) ?_)|(refine qH rfl ?_)|(refine qI rfl ?_ ?_<;>intro hc<;>(try simp only [go_sem] at hc))|(refine qJ ?_ ?_<;>intro hc<;>(try simp only [hc])<;>(try simp only [go_sem] at hc)))
 refine DW.rngBD (fs := []) (caps := [.c (.ro false [.sl false 4 (rows eLd l)] 0)]) (fun y : Int × Bool => [(5, .box [bD y.2]), (4, .box [dI y.1]), (3, .box [dI k]), (2, .box [.c (.sl false 4 (rows eLd l))])]) (0, false) (lowS l k) enF (fun e => e.1 < l.length) (fallS 0 0 (backL l)) hit (fun _ => True) trivial (fun _ _ _ _ _ => trivial) rfl (fun _ => ⟨rfl, rfl⟩) rfl (by decide) (fun _ _ => rfl) (fun _ _ _ => rfl) (by simp only [List.map_cons, List.map_nil]; decide) (fun _ => rfl) (fun _ => rfl) (fun _ => (by simp only [List.all_cons, List.all_nil, Blk.nb, rowC_nb, D.nb, D.nbs, C.nb, C.nbs, C.nbss, rows_nb eI_nb, Bool.and_true, Bool.not_false, Bool.and_self, bD, dI, iD, rows_nb eK_nb, rows_nb eLd_nb])) (by simp only [List.all_cons, List.all_nil, Blk.nb, rowC_nb, D.nb, D.nbs, C.nb, C.nbs, C.nbss, rows_nb eI_nb, Bool.and_true, Bool.not_false, Bool.and_self, bD, dI, iD, rows_nb eK_nb, rows_nb eLd_nb]) (fun a e => by rw [lowS_none]; rfl) ?_ ?_
 ·rintro ⟨bx, fl⟩ _ ⟨i, lo, hi⟩ hi' v
  dsimp only at hi'
  obtain ⟨u, hu⟩ := getE hi'
  have hbe := crBears u (h u (List.mem_of_getElem? hu)) k hk
  have hS : lowS l k (bx, fl) (i, lo, hi) = if bearsI u k < hi then (none, ((i : Int), true)) else (none, (bx, fl)) := by
   simp only [lowS, hu]
  rw [hS]
  by_cases hc : bearsI u k < hi
  ·have hd : decide (bearsI u k < hi) = true := decide_eq_true hc
   rw [if_pos hc]
   simp (disch:=omega) only [go_sem,simprocAttr,qN,qO,qP,qQ,rF,rG]
   repeat' (first|(with_reducible first|apply qA|apply qB|apply qC|apply qD|apply qE|apply qF)|(refine qL rfl (WF.of ?_) ?_; first|rfl|skip)|(refine DW.ord rfl (WF.of (by first|rfl|simp (disch:=omega) only [go_sem, simprocAttr, qN, qO, qP, qQ, hu, hd, rF, rG])) ?_ ?_ ?_; rotate_left)|rfl|(with_reducible refine And.intro ?_ ?_)|(simp (disch:=omega) only [go_sem, simprocAttr, qN, qO, qP, qQ, hu, hd, rF, rG])|exact qM rfl rfl rfl|(refine qG rfl ?_)|(refine qK (hbe) (by decide) ?_)|(refine qH rfl ?_)|(refine qI rfl ?_ ?_<;>intro hc<;>(try simp only [go_sem] at hc))|(refine qJ ?_ ?_<;>intro hc<;>(try simp only [hc])<;>(try simp only [go_sem] at hc)))
   refine round_end rfl rfl (Ent.to ?_ ?_) <;> simp (disch:=omega) only [qR,qS,qTw,qU,get,Nat.reduceEqDiff,↓reduceIte,qV,qW,qX,qY,qZ,and_self,dI,i64_in,and_true,true_and,rA,rB,rC,rD,capB,List.cons_append,List.nil_append]
  ·have hd : decide (bearsI u k < hi) = false := decide_eq_false hc
   rw [if_neg hc]
   simp (disch:=omega) only [go_sem,simprocAttr,qN,qO,qP,qQ,rF,rG]
   repeat' (first|(with_reducible first|apply qA|apply qB|apply qC|apply qD|apply qE|apply qF)|(refine qL rfl (WF.of ?_) ?_; first|rfl|skip)|(refine DW.ord rfl (WF.of (by first|rfl|simp (disch:=omega) only [go_sem, simprocAttr, qN, qO, qP, qQ, hu, hd, rF, rG])) ?_ ?_ ?_; rotate_left)|rfl|(with_reducible refine And.intro ?_ ?_)|(simp (disch:=omega) only [go_sem, simprocAttr, qN, qO, qP, qQ, hu, hd, rF, rG])|exact qM rfl rfl rfl|(refine qG rfl ?_)|(refine qK (hbe) (by decide) ?_)|(refine qH rfl ?_)|(refine qI rfl ?_ ?_<;>intro hc<;>(try simp only [go_sem] at hc))|(refine qJ ?_ ?_<;>intro hc<;>(try simp only [hc])<;>(try simp only [go_sem] at hc)))
   refine round_end rfl rfl (Ent.to ?_ ?_) <;> simp (disch:=omega) only [qR,qS,qTw,qU,get,Nat.reduceEqDiff,↓reduceIte,qV,qW,qX,qY,qZ,and_self,dI,i64_in,and_true,true_and,rA,rB,rC,rD,capB,List.cons_append,List.nil_append]
 ·rw [low_run l k h (by omega)]
  generalize lowR k l = R
  obtain ⟨x, y⟩ := R
  repeat' (first|(with_reducible first|apply qA|apply qB|apply qC|apply qD|apply qE|apply qF)|(refine qL rfl (WF.of ?_) ?_; first|rfl|skip)|(refine DW.ord rfl (WF.of (by first|rfl|simp (disch:=omega) only [go_sem, simprocAttr, qN, qO, qP, qQ])) ?_ ?_ ?_; rotate_left)|rfl|(with_reducible refine And.intro ?_ ?_)|(simp (disch:=omega) only [go_sem, simprocAttr, qN, qO, qP, qQ])|exact qM rfl rfl rfl|(refine qG rfl ?_)|(refine qH rfl ?_)|(refine qI rfl ?_ ?_<;>intro hc<;>(try simp only [go_sem] at hc))|(refine qJ ?_ ?_<;>intro hc<;>(try simp only [hc])<;>(try simp only [go_sem] at hc)))
end Go.Dw.Seat.Pa
end
section
set_option linter.unusedSimpArgs false
set_option maxRecDepth 100000
namespace Go.Dw.Seat.Pa
open Go Go.Dw Go.Proofs Go.IntWalk
def fallR (l : List Lod) (days : Int) (t : List (Int × Int)) : Int × Int × Int := match fallT l days t with
 | some (d, i) => (d, (i : Int), 0)
 | none => (0, 0, 7)
set_option maxHeartbeats 1000000 in
theorem crFall (l : List Lod) (h : ∀ b ∈ l, b.ok) (hl : l.length ≤ 50) (t : List (Int × Int)) (days : Int) (ht : TabOk t days) : DCall Try.prog 17 [.c (.sl false 4 (rows eLd l)), .c (.sl false 2 (rows eK t)), dI days] [] (.tup [dI (fallR l days t).1, dI (fallR l days t).2.1, dI (fallR l days t).2.2]) [] := by
 generalize hR : fallR l days t = R
 have h1 := crBoxes false l 50 (by omega) (by omega) h
 have h2 := crTable t days ht
 have hlen := ht.len
 refine DCall.of Try.func17 sf17 hb17 (Nat.le_of_ble_eq_true rfl) (okRes_nil fun _ => rfl) ?_; simp only [s17, idxs, Nat.reduceAdd]
 repeat' (first|(with_reducible first|apply qA|apply qB|apply qC|apply qD|apply qE|apply qF)|(simp (disch:=omega) only [go_sem, simprocAttr, qN, qO, qP, qQ])|exact qM rfl rfl rfl|(refine qG rfl ?_)|(refine qK (h1) (by decide) ?_)|(refine qK (h2) (by decide) ?_)|(refine qH rfl ?_)|(refine qI rfl ?_ ?_<;>intro hc<;>(try simp only [go_sem] at hc))|(refine qJ ?_ ?_<;>intro hc<;>(try simp only [hc])<;>(try simp only [go_sem] at hc)))
 refine DW.loop (ι := { i : Nat // i ≤ t.length ∧ fallR l days (t.drop i) = R }) (fun i => ⟨53, [(32, dI i.1), (31, dI t.length), (30, .c (.sl false 2 (rows eK t))), (10, .box 10 0), (0, .c (.sl false 4 (rows eLd l)))], [(10, .box [.c (.sl false 2 (rows eK t)), dI days])]⟩) (fun i => t.length - i.1) ⟨0, Nat.zero_le _, hR⟩ ?_ ?_
 ·refine Ent.to ?_ ?_ <;> simp (disch:=omega) only [qR,qS,qTw,qU,get,Nat.reduceEqDiff,↓reduceIte,qV,qW,qX,qY,qZ,and_self,dI,i64_in,and_true,true_and,rA,rB,rC,rD]
 rintro ⟨i, hi, hr⟩
 rcases at_or t i hi with ⟨v, hv, hlt, hd⟩ | ⟨he, hd⟩
 ·have hm := ht.mem v (List.mem_of_getElem? hv)
  have hlow := crLowest l h (by omega) v.2 hm.2
  have hdrop : t.drop i = v :: t.drop (i + 1) := by
   have e : t[i] = v := by
    have := List.getElem?_eq_getElem hlt
    rw [hv] at this; cases this; rfl
   rw [← e]; exact List.drop_eq_getElem_cons hlt
  rw [hdrop] at hr
  by_cases hc : days < v.1
  ·have hdd : decide (days < v.1) = true := decide_eq_true hc
   have hr' : R = (0, 0, 7) := by rw [← hr, fallR, fallT, if_pos hc]
   repeat' (first|(with_reducible first|apply qA|apply qB|apply qC|apply qD|apply qE|apply qF)|(simp (disch:=omega) only [go_sem, simprocAttr, qN, qO, qP, qQ, hd, hv, hdd, rF, rG])|exact qM rfl rfl rfl|(refine qG rfl ?_)|(refine qH rfl ?_)|(refine qI rfl ?_ ?_<;>intro hc<;>(try simp only [go_sem] at hc))|(refine qJ ?_ ?_<;>intro hc<;>(try simp only [hc])<;>(try simp only [go_sem] at hc)))
   refine retS_of rfl ?_ rfl; simp only [oneD, St.op, get, Nat.reduceEqDiff, ↓reduceIte, Option.getD_some, bD, dI]
   rw [hr']
  ·have hdd : decide (days < v.1) = false := decide_eq_false hc
   cases hf : failN v.2 l with
   | none =>
    have hr' : fallR l days (t.drop (i + 1)) = R := by rw [← hr, fallR, fallR, fallT, if_neg hc, hf]
    simp only [lowR, hf] at hlow
    repeat' (first|(with_reducible first|apply qA|apply qB|apply qC|apply qD|apply qE|apply qF)|(simp (disch:=omega) only [go_sem, simprocAttr, qN, qO, qP, qQ, hd, hv, hdd, rF, rG])|exact qM rfl rfl rfl|(refine qG rfl ?_)|(refine qK (hlow) (by decide) ?_)|(refine qH rfl ?_)|(refine qI rfl ?_ ?_<;>intro hc<;>(try simp only [go_sem] at hc))|(refine qJ ?_ ?_<;>intro hc<;>(try simp only [hc])<;>(try simp only [go_sem] at hc)))
    refine ⟨⟨i + 1, hlt, hr'⟩, ?_, Ent.to ?_ ?_⟩ <;> first | (show _ < _; (try simp only); omega) | (simp (disch:=omega) only [qR,qS,qTw,qU,get,Nat.reduceEqDiff,↓reduceIte,qV,qW,qX,qY,qZ,and_self,dI,i64_in,and_true,true_and,rA,rB,rC,rD])
   | some j =>
    have hr' : R = (v.1, (j : Int), 0) := by rw [← hr, fallR, fallT, if_neg hc, hf]
    simp only [lowR, hf] at hlow
    repeat' (first|(with_reducible first|apply qA|apply qB|apply qC|apply qD|apply qE|apply qF)|(simp (disch:=omega) only [go_sem, simprocAttr, qN, qO, qP, qQ, hd, hv, hdd, rF, rG])|exact qM rfl rfl rfl|(refine qG rfl ?_)|(refine qK (hlow) (by decide) ?_)|(refine qH rfl ?_)|(refine qI rfl ?_ ?_<;>intro hc<;>(try simp only [go_sem] at hc))|(refine qJ ?_ ?_<;>intro hc<;>(try simp only [hc])<;>(try simp only [go_sem] at hc)))
    refine retS_of rfl ?_ rfl; simp only [oneD, St.op, get, Nat.reduceEqDiff, ↓reduceIte, Option.getD_some, bD, dI]
    rw [hr']
 ·rw [he, List.drop_length] at hr
  have hr' : R = (0, 0, 7) := by rw [← hr]; rfl
  repeat' (first|(with_reducible first|apply qA|apply qB|apply qC|apply qD|apply qE|apply qF)|(simp (disch:=omega) only [go_sem, simprocAttr, qN, qO, qP, qQ, hd])|exact qM rfl rfl rfl|(refine qG rfl ?_)|(refine qH rfl ?_)|(refine qI rfl ?_ ?_<;>intro hc<;>(try simp only [go_sem] at hc))|(refine qJ ?_ ?_<;>intro hc<;>(try simp only [hc])<;>(try simp only [go_sem] at hc)))
  refine retS_of rfl ?_ rfl; simp only [oneD, St.op, get, Nat.reduceEqDiff, ↓reduceIte, Option.getD_some, bD, dI]
  rw [hr']
end Go.Dw.Seat.Pa
end
section
set_option linter.unusedSimpArgs false
set_option maxRecDepth 100000
namespace Go.Dw.Seat.Pa
open Go Go.Dw Go.Proofs Go.IntWalk
theorem le_div_iff {k a c : Int} (hc : 0 < c) : k ≤ a / c ↔ k * c ≤ a := Int.le_ediv_iff_mul_le hc
theorem high_b (b : Lod) (hb : b.ok) (l : List (Int × Int)) (hl : ∀ s ∈ l, 0 ≤ s.2 ∧ s.2 ≤ 1000) (days : Int) : 1 ≤ highI b l days ∧ highI b l days ≤ 50 := by
 unfold highI
 split
 ·omega
 ·have h1 := lastI_b days l 0 hl (by decide)
  have h2 := bears_b hb h1
  have hw : 0 ≤ b.wh := by have := hb.2; omega
  have h3 : 0 ≤ Int.tdiv (bearsI b (lastI days l 0)) b.wh := by
   rw [Int.tdiv_eq_ediv_of_nonneg h2.1]
   exact Int.ediv_nonneg h2.1 hw
  split <;> omega
theorem lay_iff {p : PBs} {b : PBx} (hp : p.ok) (hb : b.ok) {n hg : Int} (hn : 1 ≤ n) {k : Int} (hk : 1 ≤ k) : k ≤ layI p b n hg ↔ (k ≤ 30 ∧ k ≤ hg) ∧ p.hi + k * b.hi ≤ p.top ∧ k * n * b.wh ≤ p.load := by
 have hh := hb.hi
 have hw := hb.w
 have hl := hp.load
 have h0 := hp.hi
 have h1 := hp.top
 have e1 : k ≤ max 0 (p.top - p.hi) / b.hi ↔ p.hi + k * b.hi ≤ p.top := by
  rw [le_div_iff (by omega)]
  have : 1 * b.hi ≤ k * b.hi := Int.mul_le_mul_of_nonneg_right hk (by omega)
  omega
 unfold layI
 have hm : 0 ≤ n * b.wh := Int.mul_nonneg (by omega) (by omega)
 by_cases hw0 : 0 < n * b.wh
 ·rw [if_pos hw0]
  have e2 : k ≤ p.load / (n * b.wh) ↔ k * n * b.wh ≤ p.load := by rw [le_div_iff hw0, Int.mul_assoc]
  rw [← e1, ← e2]
  omega
 ·rw [if_neg hw0]
  have e3 : k * n * b.wh = 0 := by rw [Int.mul_assoc, show n * b.wh = 0 by omega, Int.mul_zero]
  rw [e3, ← e1]
  omega
theorem lay_b {p : PBs} {b : PBx} (hp : p.ok) (hb : b.ok) {n hg : Int} (hn : 1 ≤ n) (hg0 : 0 ≤ hg) : 0 ≤ layI p b n hg ∧ layI p b n hg ≤ 30 := by
 have hh := hb.hi
 have hl := hp.load
 have h1 : 0 ≤ max 0 (p.top - p.hi) / b.hi := Int.ediv_nonneg (by omega) (by omega)
 unfold layI
 split
 ·rename_i h
  have h2 : 0 ≤ p.load / (n * b.wh) := Int.ediv_nonneg (by omega) (by omega)
  omega
 ·omega
end Go.Dw.Seat.Pa
end
section
set_option linter.unusedSimpArgs false
set_option maxRecDepth 100000
namespace Go.Dw.Seat.Pa
open Go Go.Dw Go.Proofs Go.IntWalk
def eB (v : Bool) : List C := [.v (.bool v)]
theorem eB_nb (v : Bool) : C.nbs (eB v) = true := rfl
attribute [go_sem] eB
abbrev bLg (b : PBx) : Nat := b.lg.toNat
abbrev bWd (b : PBx) : Nat := b.wd.toNat
def rdL (a c n i : Nat) : List Bool := (List.range (n + 1)).map fun j => if j < i then sumB a c j else decide (j = 0)
theorem rdL_len (a c n i : Nat) : (rdL a c n i).length = n + 1 := by simp [rdL]
theorem rdL_get {a c n i j : Nat} (h : j ≤ n) : (rdL a c n i)[j]? = some (if j < i then sumB a c j else decide (j = 0)) := by
 rw [rdL, List.getElem?_map, List.getElem?_range (by omega), Option.map_some]
theorem rdL_set {a c n i : Nat} (h : i ≤ n) (v : Bool) (hv : v = sumB a c i) : (rdL a c n i).set i v = rdL a c n (i + 1) := by
 apply List.ext_getElem?
 intro j
 rw [List.getElem?_set, rdL_len]
 by_cases hj : j ≤ n
 ·rw [rdL_get hj, rdL_get hj]
  by_cases e : i = j
  ·subst e
   rw [if_pos rfl, if_pos (by omega), if_pos (by omega), hv]
  ·rw [if_neg e]
   congr 1
   by_cases h1 : j < i
   ·rw [if_pos h1, if_pos (by omega)]
   ·rw [if_neg h1, if_neg (by omega)]
 ·rw [List.getElem?_eq_none (by rw [rdL_len]; omega), List.getElem?_eq_none (by rw [rdL_len]; omega)]
  rw [if_neg (by omega)]
theorem set_eB (l : List Bool) (i : Nat) (v : Bool) : (rowC (rows eB l)).set i [D.c (.v (.bool v))] = rowC (rows eB (l.set i v)) := by
 rw [rows, rows, List.map_set, rowC, rowC, List.map_set]; rfl
theorem replB (n : Nat) : List.replicate n [C.v (.bool false)] = rows eB (List.replicate n false) := by simp [rows, eB]
set_option maxHeartbeats 4000000 in
theorem plReached (b : PBx) (hb : b.ok) (n : Nat) (hn : n ≤ 1000) : DCall Try.prog 146 [bxD b, dI n] [] (.c (.sl false 1 (rows eB ((List.range (n + 1)).map (sumB (bLg b) (bWd b)))))) [] := by
 have hbl := hb.lg
 have hbw := hb.wd
 have ea : b.lg = ((bLg b : Nat) : Int) := (Int.toNat_of_nonneg (by omega)).symm
 have ec : b.wd = ((bWd b : Nat) : Int) := (Int.toNat_of_nonneg (by omega)).symm
 have ha : 0 < bLg b := by omega
 have h0 : (List.replicate (n + 1) false).set 0 true = rdL (bLg b) (bWd b) n 0 := by
  apply List.ext_getElem?
  intro j
  by_cases hj : j ≤ n
  ·rw [rdL_get hj, List.getElem?_set]
   simp only [List.length_replicate, Nat.not_lt_zero, if_false]
   by_cases e : 0 = j
   ·subst e; simp
   ·rw [if_neg e, List.getElem?_replicate, if_pos (by omega), decide_eq_false (by omega)]
  ·rw [List.getElem?_eq_none (by simp; omega), List.getElem?_eq_none (by rw [rdL_len]; omega)]
 obtain ⟨N, hN⟩ : ∃ N, N = n + 1 := ⟨_, rfl⟩
 have hrl : (rdL (bLg b) (bWd b) n N) = (List.range (n + 1)).map (sumB (bLg b) (bWd b)) := by
  rw [rdL]
  apply List.map_congr_left
  intro j hj
  rw [if_pos (by rw [hN]; exact List.mem_range.1 hj)]
 rw [← hrl]
 rw [← hN] at h0
 have hll := fun i => rdL_len (bLg b) (bWd b) n i
 rw [← hN] at hll
 have hn1 : ((n : Int) + 1).toNat = N := by omega
 have hlr : (List.replicate N false).length = N := by simp
 have hpos : (0 < N) = True := eq_true (by omega)
 have hset := fun (i : Nat) (hi : i ≤ n) v hv => rdL_set (a := bLg b) (c := bWd b) hi v hv
 have hget := fun (i j : Nat) (hj : j ≤ n) => rdL_get (a := bLg b) (c := bWd b) (i := i) hj
 have hrec := fun (i : Nat) (hi : 0 < i) => sumB_rec (a := bLg b) (c := bWd b) ha hi
 have hs0 := sumB_zero (bLg b) (bWd b)
 generalize bLg b = a at *
 generalize bWd b = c at *
 have hr0 : (List.replicate N false)[0]? = some false := by rw [List.getElem?_replicate, if_pos (by omega)]
 refine DCall.of Try.func146 sf146 hb146 (Nat.le_of_ble_eq_true rfl) (okRes_nil fun _ => rfl) ?_; simp only [s146, idxs, Nat.reduceAdd]
 repeat' (first|(with_reducible first|apply qA|apply qB|apply qC|apply qD|apply qE|apply qF)|(simp (disch:=omega) only [go_sem, simprocAttr, qN, qO, qP, qQ, hn1, hr0, replB, set_eB, h0, hlr, hpos])|exact qM rfl rfl rfl|(refine qG rfl ?_)|(refine qH rfl ?_)|(refine qI rfl ?_ ?_<;>intro hc<;>(try simp only [go_sem] at hc))|(refine qJ ?_ ?_<;>intro hc<;>(try simp only [hc])<;>(try simp only [go_sem] at hc)))
 refine DW.loop (ι := { i : Nat // i ≤ N }) (fun i => ⟨50, [(16, dI i.1), (15, dI N), (5, .own 11), (2, .box 2 0)], [(11, .row 1 (rowC (rows eB (rdL a c n i.1)))), (2, .box [dI b.lg, dI b.wd, dI b.hi, dI b.wl, dI b.wh, dI b.sl, dI b.sh])]⟩) (fun i => N - i.1) ⟨0, Nat.zero_le _⟩ ?_ ?_
 ·refine Ent.to ?_ ?_ <;> simp (disch:=omega) only [qR,qS,qTw,qU,get,Nat.reduceEqDiff,↓reduceIte,qV,qW,qX,qY,qZ,and_self,dI,i64_in,and_true,true_and,rA,rB,rC,rD,h0,hll]
  all_goals first | exact ⟨.refl _, .refl _, .refl _⟩ | exact ⟨.refl _, .refl _⟩ | exact .refl _
 rintro ⟨i, hi⟩
 dsimp only
 by_cases hlt : i < N
 ·have hd : decide ((i : Int) < (N : Int)) = true := decide_eq_true (by omega)
  have hiN : (i < N) = True := eq_true hlt
  have hli := hll i
  have hgi := hget i i (by omega)
  rw [if_neg (by omega)] at hgi
  have hga : a ≤ i → (rdL a c n i)[i - a]? = some (sumB a c (i - a)) := fun h => by rw [hget i _ (by omega), if_pos (by omega)]
  have hgc : c ≤ i → (rdL a c n i)[i - c]? = some (sumB a c (i - c)) := fun h => by rw [hget i _ (by omega), if_pos (by omega)]
  have hsi := hset i (by omega)
  obtain ⟨L, hL⟩ : ∃ L, L = rdL a c n i := ⟨_, rfl⟩
  rw [← hL] at hli hgi hga hgc hsi
  have hLL : ∀ v, (L.set i v).length = N := fun v => by rw [List.length_set]; exact hli
  have hLi : ∀ v, (L.set i v)[i]? = some v := fun v => List.getElem?_set_self (by omega)
  have hLa : ∀ v, a ≤ i → (L.set i v)[i - a]? = some (sumB a c (i - a)) := fun v h => by rw [List.getElem?_set_ne (by omega)]; exact hga h
  have hLc : ∀ v, c ≤ i → (L.set i v)[i - c]? = some (sumB a c (i - c)) := fun v h => by rw [List.getElem?_set_ne (by omega)]; exact hgc h
  rw [← hL]
  repeat' (first|(with_reducible first|apply qA|apply qB|apply qC|apply qD|apply qE|apply qF)|(simp (disch:=omega) only [go_sem, simprocAttr, qN, qO, qP, qQ, hd, ea, ec])|exact qM rfl rfl rfl|(refine qG rfl ?_)|(refine qH rfl ?_)|(refine qI rfl ?_ ?_<;>intro hc<;>(try simp only [go_sem] at hc))|(refine qJ ?_ ?_<;>intro hc<;>(try simp only [hc])<;>(try simp only [go_sem] at hc)))
  obtain ⟨v, hv0, hv1, hv2⟩ : ∃ v : Nat → Bool, v 0 = decide (i = 0) ∧ v 1 = (v 0 || (decide (a ≤ i) && sumB a c (i - a))) ∧ v 2 = (v 1 || (decide (c ≤ i) && sumB a c (i - c))) :=
   ⟨fun k => if k = 0 then decide (i = 0) else if k = 1 then (decide (i = 0) || (decide (a ≤ i) && sumB a c (i - a))) else ((decide (i = 0) || (decide (a ≤ i) && sumB a c (i - a))) || (decide (c ≤ i) && sumB a c (i - c))), rfl, rfl, rfl⟩
  have hvE : v 2 = sumB a c i := by
   rw [hv2, hv1, hv0]
   by_cases h : i = 0
   ·rw [h, hs0]; simp
   ·rw [decide_eq_false h, Bool.false_or, hrec i (by omega)]
  have hvL : L.set i (v 0) = L := by
   rw [hv0]
   apply List.ext_getElem?
   intro j
   rw [List.getElem?_set]
   by_cases e : i = j
   ·subst e; rw [if_pos rfl, if_pos (by omega), hgi]
   ·rw [if_neg e]
  refine DW.loop (ι := { k : Nat // k ≤ 2 }) (fun k => ⟨50, [(24, dI k.1), (23, .agg [dI a, dI c]), (16, dI i), (15, dI N), (6, dI i), (5, .own 11), (2, .box 2 0)], [(11, .row 1 (rowC (rows eB (L.set i (v k.1))))), (2, .box [dI a, dI c, dI b.hi, dI b.wl, dI b.wh, dI b.sl, dI b.sh])]⟩) (fun k => 2 - k.1) ⟨0, by decide⟩ ?_ ?_
  ·refine Ent.to ?_ ?_ <;> simp (disch:=omega) only [qR,qS,qTw,qU,get,Nat.reduceEqDiff,↓reduceIte,qV,qW,qX,qY,qZ,and_self,dI,i64_in,and_true,true_and,rA,rB,rC,rD,hvL]
   all_goals first | exact ⟨.refl _, .refl _, .refl _⟩ | exact ⟨.refl _, .refl _⟩ | exact .refl _
  rintro ⟨k, hk⟩
  dsimp only
  match k, hk with
  | 0, _ =>
   have hLv := hLi (v 0)
   have hLl := hLL (v 0)
   cases h0 : v 0 with
   | true =>
    rw [h0] at hv1 hLv hLl
    rw [Bool.true_or] at hv1
    repeat' (first|(with_reducible first|apply qA|apply qB|apply qC|apply qD|apply qE|apply qF)|(simp (disch:=omega) only [go_sem, simprocAttr, qN, qO, qP, qQ, hiN, hLl, hLv, set_eB, List.set_set, rF, rG])|exact qM rfl rfl rfl|(refine qG rfl ?_)|(refine qH rfl ?_)|(refine qI rfl ?_ ?_<;>intro hc<;>(try simp only [go_sem] at hc))|(refine qJ ?_ ?_<;>intro hc<;>(try simp only [hc])<;>(try simp only [go_sem] at hc)))
    refine ⟨⟨1, by decide⟩, ?_, Ent.to ?_ ?_⟩ <;> first | (show _ < _; (try simp only); omega) | (simp (disch:=omega) only [qR,qS,qTw,qU,get,Nat.reduceEqDiff,↓reduceIte,qV,qW,qX,qY,qZ,and_self,dI,i64_in,and_true,true_and,rA,rB,rC,rD, hv1])
    all_goals first | exact ⟨.refl _, .refl _, .refl _⟩ | exact ⟨.refl _, .refl _⟩ | exact .refl _
   | false =>
    have hLa' := hLa (v 0)
    rw [h0] at hv1 hLv hLl hLa'
    rw [Bool.false_or] at hv1
    by_cases hai : a ≤ i
    ·have da : decide ((a : Int) ≤ (i : Int)) = true := decide_eq_true (by omega)
     have wa : IntKind.i64.wrap ((i : Int) - (a : Int)) = ((i - a : Nat) : Int) := by rw [IntWalk.i64_in _ (by omega)]; omega
     have hia : (i - a < N) = True := eq_true (by omega)
     have hLg := hLa' hai
     rw [decide_eq_true hai, Bool.true_and] at hv1
     repeat' (first|(with_reducible first|apply qA|apply qB|apply qC|apply qD|apply qE|apply qF)|(simp (disch:=omega) only [go_sem, simprocAttr, qN, qO, qP, qQ, hiN, hia, hLl, hLv, hLg, da, wa, set_eB, List.set_set, rF, rG])|exact qM rfl rfl rfl|(refine qG rfl ?_)|(refine qH rfl ?_)|(refine qI rfl ?_ ?_<;>intro hc<;>(try simp only [go_sem] at hc))|(refine qJ ?_ ?_<;>intro hc<;>(try simp only [hc])<;>(try simp only [go_sem] at hc)))
     refine ⟨⟨1, by decide⟩, ?_, Ent.to ?_ ?_⟩ <;> first | (show _ < _; (try simp only); omega) | (simp (disch:=omega) only [qR,qS,qTw,qU,get,Nat.reduceEqDiff,↓reduceIte,qV,qW,qX,qY,qZ,and_self,dI,i64_in,and_true,true_and,rA,rB,rC,rD, hv1])
     all_goals first | exact ⟨.refl _, .refl _, .refl _⟩ | exact ⟨.refl _, .refl _⟩ | exact .refl _
    ·have da : decide ((a : Int) ≤ (i : Int)) = false := decide_eq_false (by omega)
     rw [decide_eq_false hai, Bool.false_and] at hv1
     repeat' (first|(with_reducible first|apply qA|apply qB|apply qC|apply qD|apply qE|apply qF)|(simp (disch:=omega) only [go_sem, simprocAttr, qN, qO, qP, qQ, hiN, hLl, hLv, da, set_eB, List.set_set, rF, rG])|exact qM rfl rfl rfl|(refine qG rfl ?_)|(refine qH rfl ?_)|(refine qI rfl ?_ ?_<;>intro hc<;>(try simp only [go_sem] at hc))|(refine qJ ?_ ?_<;>intro hc<;>(try simp only [hc])<;>(try simp only [go_sem] at hc)))
     refine ⟨⟨1, by decide⟩, ?_, Ent.to ?_ ?_⟩ <;> first | (show _ < _; (try simp only); omega) | (simp (disch:=omega) only [qR,qS,qTw,qU,get,Nat.reduceEqDiff,↓reduceIte,qV,qW,qX,qY,qZ,and_self,dI,i64_in,and_true,true_and,rA,rB,rC,rD, hv1])
     all_goals first | exact ⟨.refl _, .refl _, .refl _⟩ | exact ⟨.refl _, .refl _⟩ | exact .refl _
  | 1, _ =>
   have hLv := hLi (v 1)
   have hLl := hLL (v 1)
   cases h0 : v 1 with
   | true =>
    rw [h0] at hv2 hLv hLl
    rw [Bool.true_or] at hv2
    repeat' (first|(with_reducible first|apply qA|apply qB|apply qC|apply qD|apply qE|apply qF)|(simp (disch:=omega) only [go_sem, simprocAttr, qN, qO, qP, qQ, hiN, hLl, hLv, set_eB, List.set_set, rF, rG])|exact qM rfl rfl rfl|(refine qG rfl ?_)|(refine qH rfl ?_)|(refine qI rfl ?_ ?_<;>intro hc<;>(try simp only [go_sem] at hc))|(refine qJ ?_ ?_<;>intro hc<;>(try simp only [hc])<;>(try simp only [go_sem] at hc)))
    refine ⟨⟨2, by decide⟩, ?_, Ent.to ?_ ?_⟩ <;> first | (show _ < _; (try simp only); omega) | (simp (disch:=omega) only [qR,qS,qTw,qU,get,Nat.reduceEqDiff,↓reduceIte,qV,qW,qX,qY,qZ,and_self,dI,i64_in,and_true,true_and,rA,rB,rC,rD, hv2])
    all_goals first | exact ⟨.refl _, .refl _, .refl _⟩ | exact ⟨.refl _, .refl _⟩ | exact .refl _
   | false =>
    have hLa' := hLc (v 1)
    rw [h0] at hv2 hLv hLl hLa'
    rw [Bool.false_or] at hv2
    by_cases hai : c ≤ i
    ·have da : decide ((c : Int) ≤ (i : Int)) = true := decide_eq_true (by omega)
     have wa : IntKind.i64.wrap ((i : Int) - (c : Int)) = ((i - c : Nat) : Int) := by rw [IntWalk.i64_in _ (by omega)]; omega
     have hia : (i - c < N) = True := eq_true (by omega)
     have hLg := hLa' hai
     rw [decide_eq_true hai, Bool.true_and] at hv2
     repeat' (first|(with_reducible first|apply qA|apply qB|apply qC|apply qD|apply qE|apply qF)|(simp (disch:=omega) only [go_sem, simprocAttr, qN, qO, qP, qQ, hiN, hia, hLl, hLv, hLg, da, wa, set_eB, List.set_set, rF, rG])|exact qM rfl rfl rfl|(refine qG rfl ?_)|(refine qH rfl ?_)|(refine qI rfl ?_ ?_<;>intro hc<;>(try simp only [go_sem] at hc))|(refine qJ ?_ ?_<;>intro hc<;>(try simp only [hc])<;>(try simp only [go_sem] at hc)))
     refine ⟨⟨2, by decide⟩, ?_, Ent.to ?_ ?_⟩ <;> first | (show _ < _; (try simp only); omega) | (simp (disch:=omega) only [qR,qS,qTw,qU,get,Nat.reduceEqDiff,↓reduceIte,qV,qW,qX,qY,qZ,and_self,dI,i64_in,and_true,true_and,rA,rB,rC,rD, hv2])
     all_goals first | exact ⟨.refl _, .refl _, .refl _⟩ | exact ⟨.refl _, .refl _⟩ | exact .refl _
    ·have da : decide ((c : Int) ≤ (i : Int)) = false := decide_eq_false (by omega)
     rw [decide_eq_false hai, Bool.false_and] at hv2
     repeat' (first|(with_reducible first|apply qA|apply qB|apply qC|apply qD|apply qE|apply qF)|(simp (disch:=omega) only [go_sem, simprocAttr, qN, qO, qP, qQ, hiN, hLl, hLv, da, set_eB, List.set_set, rF, rG])|exact qM rfl rfl rfl|(refine qG rfl ?_)|(refine qH rfl ?_)|(refine qI rfl ?_ ?_<;>intro hc<;>(try simp only [go_sem] at hc))|(refine qJ ?_ ?_<;>intro hc<;>(try simp only [hc])<;>(try simp only [go_sem] at hc)))
     refine ⟨⟨2, by decide⟩, ?_, Ent.to ?_ ?_⟩ <;> first | (show _ < _; (try simp only); omega) | (simp (disch:=omega) only [qR,qS,qTw,qU,get,Nat.reduceEqDiff,↓reduceIte,qV,qW,qX,qY,qZ,and_self,dI,i64_in,and_true,true_and,rA,rB,rC,rD, hv2])
     all_goals first | exact ⟨.refl _, .refl _, .refl _⟩ | exact ⟨.refl _, .refl _⟩ | exact .refl _
  | 2, _ =>
   have hfin := hsi (v 2) hvE
   repeat' (first|(with_reducible first|apply qA|apply qB|apply qC|apply qD|apply qE|apply qF)|(simp (disch:=omega) only [go_sem, simprocAttr, qN, qO, qP, qQ])|exact qM rfl rfl rfl|(refine qG rfl ?_)|(refine qH rfl ?_)|(refine qI rfl ?_ ?_<;>intro hc<;>(try simp only [go_sem] at hc))|(refine qJ ?_ ?_<;>intro hc<;>(try simp only [hc])<;>(try simp only [go_sem] at hc)))
   refine ⟨⟨i + 1, hlt⟩, ?_, Ent.to ?_ ?_⟩ <;> first | (show _ < _; (try simp only); omega) | (simp (disch:=omega) only [qR,qS,qTw,qU,get,Nat.reduceEqDiff,↓reduceIte,qV,qW,qX,qY,qZ,and_self,dI,i64_in,and_true,true_and,rA,rB,rC,rD, hfin,ea,ec])
   all_goals first | exact ⟨.refl _, .refl _, .refl _⟩ | exact ⟨.refl _, .refl _⟩ | exact .refl _
 ·obtain rfl : i = N := by omega
  have hd : decide ((i : Int) < (i : Int)) = false := decide_eq_false (by omega)
  repeat' (first|(with_reducible first|apply qA|apply qB|apply qC|apply qD|apply qE|apply qF)|(simp (disch:=omega) only [go_sem, simprocAttr, qN, qO, qP, qQ, hd])|exact qM rfl rfl rfl|(refine qG rfl ?_)|(refine qH rfl ?_)|(refine qI rfl ?_ ?_<;>intro hc<;>(try simp only [go_sem] at hc))|(refine qJ ?_ ?_<;>intro hc<;>(try simp only [hc])<;>(try simp only [go_sem] at hc)))
  (refine retS_ent (Ent.rel 11 rfl) ?_; simp (disch:=omega) only [go_sem,simprocAttr,qN,qO,qP,qQ])
  refine retS_wk rfl ?_ (by simp only [Blk.nb, rowC_nb, D.nb, D.nbs, C.nb, C.nbs, C.nbss, rows_nb eI_nb, Bool.and_true, Bool.not_false, Bool.and_self, bD, dI, iD, rows_nb eB_nb]); exact .refl _
def rcL (a c n : Nat) : List Int := (List.range (n + 1)).map fun j => ((rchF a c j : Nat) : Int)
theorem rcL_len (a c n : Nat) : (rcL a c n).length = n + 1 := by simp [rcL]
theorem rcL_get {a c n j : Nat} (h : j ≤ n) : (rcL a c n)[j]? = some ((rchF a c j : Nat) : Int) := by
 rw [rcL, List.getElem?_map, List.getElem?_range (by omega), Option.map_some]
def rcP (a c n i : Nat) : List Int := (List.range (n + 1)).map fun j => if j < i then ((rchF a c j : Nat) : Int) else 0
theorem rcP_len (a c n i : Nat) : (rcP a c n i).length = n + 1 := by simp [rcP]
theorem rcP_set {a c n i : Nat} (h : i ≤ n) : (rcP a c n i).set i ((rchF a c i : Nat) : Int) = rcP a c n (i + 1) := by
 apply List.ext_getElem?
 intro j
 rw [List.getElem?_set, rcP_len]
 by_cases hj : j ≤ n
 ·rw [rcP, rcP, List.getElem?_map, List.getElem?_map, List.getElem?_range (by omega), Option.map_some, Option.map_some]
  by_cases e : i = j
  ·subst e
   rw [if_pos rfl, if_pos (by omega), if_pos (by omega)]
  ·rw [if_neg e]
   congr 1
   by_cases h1 : j < i
   ·rw [if_pos h1, if_pos (by omega)]
   ·rw [if_neg h1, if_neg (by omega)]
 ·rw [if_neg (by omega), List.getElem?_eq_none (by rw [rcP_len]; omega), List.getElem?_eq_none (by rw [rcP_len]; omega)]
theorem set_eI (l : List Int) (i : Nat) (v : Int) : (rowC (rows eI l)).set i [D.c (.v (.int .i64 v))] = rowC (rows eI (l.set i v)) := by
 rw [rows, rows, List.map_set, rowC, rowC, List.map_set]; rfl
theorem replI (n : Nat) : List.replicate n [C.v (.int .i64 0)] = rows eI (List.replicate n 0) := by simp [rows, eI]
set_option maxHeartbeats 4000000 in
theorem plReach (b : PBx) (hb : b.ok) (n : Nat) (hn : n ≤ 1000) : DCall Try.prog 87 [bxD b, dI n] [] (.c (.sl false 1 (rows eI (rcL (bLg b) (bWd b) n)))) [] := by
 have h1 := plReached b hb n hn
 have ha : 0 < bLg b := by have := hb.lg; show 0 < b.lg.toNat; omega
 generalize bLg b = a at *
 generalize bWd b = c at *
 obtain ⟨N, hN⟩ : ∃ N, N = n + 1 := ⟨_, rfl⟩
 have h0 : List.replicate N (0 : Int) = rcP a c n 0 := by
  rw [rcP, hN]
  apply List.ext_getElem?
  intro j
  rw [List.getElem?_replicate, List.getElem?_map]
  by_cases hj : j < n + 1
  ·rw [if_pos hj, List.getElem?_range hj]; simp
  ·rw [if_neg hj, List.getElem?_eq_none (by simp; omega)]; rfl
 have hz : rcP a c n N = rcL a c n := by
  rw [rcP, rcL]
  apply List.map_congr_left
  intro j hj
  rw [if_pos (by rw [hN]; exact List.mem_range.1 hj)]
 have hll := fun i => rcP_len a c n i
 have hset := fun (i : Nat) (hi : i ≤ n) => rcP_set (a := a) (c := c) hi
 rw [← hN] at h1 hll
 obtain ⟨S, hS⟩ : ∃ S, S = (List.range N).map (sumB a c) := ⟨_, rfl⟩
 have hSl : S.length = N := by rw [hS]; simp
 have hSg : ∀ j, j < N → S[j]? = some (sumB a c j) := fun j hj => by rw [hS, List.getElem?_map, List.getElem?_range hj]; rfl
 rw [← hS] at h1
 have hn1 : ((n : Int) + 1).toNat = N := by omega
 refine DCall.of Try.func87 sf87 hb87 (Nat.le_of_ble_eq_true rfl) (okRes_nil fun _ => rfl) ?_; simp only [s87, idxs, Nat.reduceAdd]
 repeat' (first|(with_reducible first|apply qA|apply qB|apply qC|apply qD|apply qE|apply qF)|(simp (disch:=omega) only [go_sem, simprocAttr, qN, qO, qP, qQ, hn1, replI, h0, hSl])|exact qM rfl rfl rfl|(refine qG rfl ?_)|(refine qK (h1) (by decide) ?_)|(refine qH rfl ?_)|(refine qI rfl ?_ ?_<;>intro hc<;>(try simp only [go_sem] at hc))|(refine qJ ?_ ?_<;>intro hc<;>(try simp only [hc])<;>(try simp only [go_sem] at hc)))
 refine DW.loop (ι := { i : Nat // i ≤ N }) (fun i => ⟨29, [(16, dI i.1), (15, dI N), (14, .c (.sl false 1 (rows eB S))), (6, dI (((rchF a c (i.1 - 1)) : Nat) : Int)), (5, .own 11)], [(11, .row 1 (rowC (rows eI (rcP a c n i.1))))]⟩) (fun i => N - i.1) ⟨0, Nat.zero_le _⟩ ?_ ?_
 ·refine Ent.to ?_ ?_ <;> simp (disch:=omega) only [qR,qS,qTw,qU,get,Nat.reduceEqDiff,↓reduceIte,qV,qW,qX,qY,qZ,and_self,dI,i64_in,and_true,true_and,rA,rB,rC,rD,rchF,Nat.zero_sub]
  all_goals first | exact ⟨.refl _, .refl _, .refl _⟩ | exact ⟨.refl _, .refl _⟩ | exact .refl _
 rintro ⟨i, hi⟩
 dsimp only
 by_cases hlt : i < N
 ·have hd : decide ((i : Int) < (N : Int)) = true := decide_eq_true (by omega)
  have hiN : (i < N) = True := eq_true hlt
  have hg := hSg i hlt
  have hst := hset i (by omega)
  have hli := hll i
  obtain ⟨z, hzg⟩ : ∃ z, (rcP a c n i)[i]? = some z := ⟨_, List.getElem?_eq_getElem (by rw [hli]; exact hlt)⟩
  have hrE : (if sumB a c i = true then i else rchF a c (i - 1)) = rchF a c i := by
   cases i with
   | zero => rw [sumB_zero]; rfl
   | succ i => rw [rchF, Nat.add_sub_cancel]
  cases hs : sumB a c i with
  | true =>
   rw [hs] at hg
   rw [hs, if_pos rfl] at hrE
   rw [← hrE] at hst
   repeat' (first|(with_reducible first|apply qA|apply qB|apply qC|apply qD|apply qE|apply qF)|(simp (disch:=omega) only [go_sem, simprocAttr, qN, qO, qP, qQ, hd, hiN, hg, hzg, hli, set_eI, hst, rF, rG])|exact qM rfl rfl rfl|(refine qG rfl ?_)|(refine qH rfl ?_)|(refine qI rfl ?_ ?_<;>intro hc<;>(try simp only [go_sem] at hc))|(refine qJ ?_ ?_<;>intro hc<;>(try simp only [hc])<;>(try simp only [go_sem] at hc)))
   refine ⟨⟨i + 1, hlt⟩, ?_, Ent.to ?_ ?_⟩ <;> first | (show _ < _; (try simp only); omega) | (simp (disch:=omega) only [qR,qS,qTw,qU,get,Nat.reduceEqDiff,↓reduceIte,qV,qW,qX,qY,qZ,and_self,dI,i64_in,and_true,true_and,rA,rB,rC,rD, Nat.add_sub_cancel,hrE.symm])
   all_goals first | exact ⟨.refl _, .refl _, .refl _⟩ | exact ⟨.refl _, .refl _⟩ | exact .refl _
  | false =>
   rw [hs] at hg
   rw [hs, if_neg Bool.false_ne_true] at hrE
   rw [← hrE] at hst
   repeat' (first|(with_reducible first|apply qA|apply qB|apply qC|apply qD|apply qE|apply qF)|(simp (disch:=omega) only [go_sem, simprocAttr, qN, qO, qP, qQ, hd, hiN, hg, hzg, hli, set_eI, hst, rF, rG])|exact qM rfl rfl rfl|(refine qG rfl ?_)|(refine qH rfl ?_)|(refine qI rfl ?_ ?_<;>intro hc<;>(try simp only [go_sem] at hc))|(refine qJ ?_ ?_<;>intro hc<;>(try simp only [hc])<;>(try simp only [go_sem] at hc)))
   refine ⟨⟨i + 1, hlt⟩, ?_, Ent.to ?_ ?_⟩ <;> first | (show _ < _; (try simp only); omega) | (simp (disch:=omega) only [qR,qS,qTw,qU,get,Nat.reduceEqDiff,↓reduceIte,qV,qW,qX,qY,qZ,and_self,dI,i64_in,and_true,true_and,rA,rB,rC,rD, Nat.add_sub_cancel,hrE.symm])
   all_goals first | exact ⟨.refl _, .refl _, .refl _⟩ | exact ⟨.refl _, .refl _⟩ | exact .refl _
 ·obtain rfl : i = N := by omega
  have hd : decide ((i : Int) < (i : Int)) = false := decide_eq_false (by omega)
  rw [hz]
  repeat' (first|(with_reducible first|apply qA|apply qB|apply qC|apply qD|apply qE|apply qF)|(simp (disch:=omega) only [go_sem, simprocAttr, qN, qO, qP, qQ, hd])|exact qM rfl rfl rfl|(refine qG rfl ?_)|(refine qH rfl ?_)|(refine qI rfl ?_ ?_<;>intro hc<;>(try simp only [go_sem] at hc))|(refine qJ ?_ ?_<;>intro hc<;>(try simp only [hc])<;>(try simp only [go_sem] at hc)))
  (refine retS_ent (Ent.rel 11 rfl) ?_; simp (disch:=omega) only [go_sem,simprocAttr,qN,qO,qP,qQ])
  refine retS_wk rfl ?_ (by simp only [Blk.nb, rowC_nb, D.nb, D.nbs, C.nb, C.nbs, C.nbss, rows_nb eI_nb, Bool.and_true, Bool.not_false, Bool.and_self, bD, dI, iD, rows_nb eB_nb]); exact .refl _
end Go.Dw.Seat.Pa
end
section
set_option linter.unusedSimpArgs false
set_option maxRecDepth 100000
namespace Go.Dw.Seat.Pa
open Go Go.Dw Go.Proofs Go.IntWalk
theorem rm_in {p : PBs} (hp : p.ok) : (0 ≤ rmX p ∧ rmX p ≤ 140) ∧ 0 ≤ rmY p ∧ rmY p ≤ 140 := by
 have := hp.lg
 have := hp.wd
 have := hp.ov
 unfold rmX rmY
 omega
abbrev rxN (p : PBs) : Nat := (rmX p).toNat
abbrev ryN (p : PBs) : Nat := (rmY p).toNat
end Go.Dw.Seat.Pa
end
section
set_option linter.unusedSimpArgs false
set_option maxRecDepth 100000
namespace Go.Dw.Seat.Pa
open Go Go.Dw Go.Proofs Go.IntWalk
abbrev sawC (p : PBs) (b : PBx) (RX RY : List Int) (lm : Nat) : C := .ro false [.v (.int .i64 p.lg), .v (.int .i64 p.wd), .v (.int .i64 p.hi), .v (.int .i64 p.ov), .v (.int .i64 p.top), .v (.int .i64 p.load), .v (.int .i64 b.lg), .v (.int .i64 b.wd), .v (.int .i64 b.hi), .v (.int .i64 b.wl), .v (.int .i64 b.wh), .v (.int .i64 b.sl), .v (.int .i64 b.sh), .sl false 1 (rows eI RX), .sl false 1 (rows eI RY), .v (.map (some lm))] 0
abbrev sawD (p : PBs) (b : PBx) (RX RY : List Int) (lm : Nat) : D := .c (sawC p b RX RY lm)
abbrev rctD (X Y : Nat) : D := .agg [dI X, dI Y]
def fitT (a c X Y : Nat) : Bool × Bool := if a ≤ X ∧ c ≤ Y then (false, true) else if c ≤ X ∧ a ≤ Y then (true, true) else (false, false)
theorem fitT_snd (a c X Y : Nat) : (fitT a c X Y).2 = fitB a c X Y := by
 unfold fitT fitB
 by_cases h1 : a ≤ X ∧ c ≤ Y
 ·rw [if_pos h1, decide_eq_true h1.1, decide_eq_true h1.2]; rfl
 ·rw [if_neg h1]
  by_cases h2 : c ≤ X ∧ a ≤ Y
  ·rw [if_pos h2, decide_eq_true h2.1, decide_eq_true h2.2]; simp
  ·rw [if_neg h2]
   symm
   rw [Bool.or_eq_false_iff, Bool.and_eq_false_iff, Bool.and_eq_false_iff, decide_eq_false_iff_not, decide_eq_false_iff_not, decide_eq_false_iff_not, decide_eq_false_iff_not]
   omega
set_option maxHeartbeats 4000000 in
theorem plFits (p : PBs) (b : PBx) (hb : b.ok) (RX RY : List Int) (lm X Y : Nat) : DCall Try.prog 89 [sawD p b RX RY lm, rctD X Y] [] (.tup [bD (fitT (bLg b) (bWd b) X Y).1, bD (fitT (bLg b) (bWd b) X Y).2]) [] := by
 have hbl := hb.lg
 have hbw := hb.wd
 have ea : b.lg = ((bLg b : Nat) : Int) := (Int.toNat_of_nonneg (by omega)).symm
 have ec : b.wd = ((bWd b : Nat) : Int) := (Int.toNat_of_nonneg (by omega)).symm
 have hs := plSizes b 18
 have hf : fitT (bLg b) (bWd b) X Y = if (decide (b.lg ≤ (X : Int)) && decide (b.wd ≤ (Y : Int))) then (false, true) else if (decide (b.wd ≤ (X : Int)) && decide (b.lg ≤ (Y : Int))) then (true, true) else (false, false) := by
  rw [ea, ec]
  unfold fitT
  simp only [Bool.and_eq_true, decide_eq_true_eq, Int.ofNat_le]
 rw [hf]
 obtain ⟨u1, e1⟩ : ∃ u, decide (b.lg ≤ (X : Int)) = u := ⟨_, rfl⟩
 obtain ⟨u2, e2⟩ : ∃ u, decide (b.wd ≤ (Y : Int)) = u := ⟨_, rfl⟩
 obtain ⟨u3, e3⟩ : ∃ u, decide (b.wd ≤ (X : Int)) = u := ⟨_, rfl⟩
 obtain ⟨u4, e4⟩ : ∃ u, decide (b.lg ≤ (Y : Int)) = u := ⟨_, rfl⟩
 rw [e1, e2, e3, e4]
 refine DCall.of Try.func89 sf89 hb89 (Nat.le_of_ble_eq_true rfl) (okRes_nil fun _ => rfl) ?_; simp only [s89, idxs, Nat.reduceAdd]
 repeat' (first|(with_reducible first|apply qA|apply qB|apply qC|apply qD|apply qE|apply qF)|(simp (disch:=omega) only [go_sem, simprocAttr, qN, qO, qP, qQ, rF, rG])|exact qM rfl rfl rfl|(refine qG rfl ?_)|(refine qH rfl ?_)|(refine qI rfl ?_ ?_<;>intro hc<;>(try simp only [go_sem] at hc))|(refine qJ ?_ ?_<;>intro hc<;>(try simp only [hc])<;>(try simp only [go_sem] at hc)))
 refine DW.loop (ι := { k : Nat // k ≤ 2 ∧ (1 ≤ k → (u1 && u2) = false) ∧ (2 ≤ k → (u3 && u4) = false) }) (fun k => ⟨35, [(10, dI k.1), (9, .agg [bD false, bD true]), (5, bD false), (4, bD false), (3, .box 3 0), (0, sawD p b RX RY lm)], [(3, .box [dI X, dI Y])]⟩) (fun k => 2 - k.1) ⟨0, by decide, by omega, by omega⟩ ?_ ?_
 ·refine Ent.to ?_ ?_ <;> simp (disch:=omega) only [qR,qS,qTw,qU,get,Nat.reduceEqDiff,↓reduceIte,qV,qW,qX,qY,qZ,and_self,dI,i64_in,and_true,true_and,rA,rB,rC,rD]
  all_goals first | exact ⟨.refl _, .refl _⟩ | exact .refl _
 rintro ⟨k, hk, h1, h2⟩
 dsimp only
 match k, hk, h1, h2 with
 | 0, _, _, _ =>
  repeat' (first|(with_reducible first|apply qA|apply qB|apply qC|apply qD|apply qE|apply qF)|(simp (disch:=omega) only [go_sem, simprocAttr, qN, qO, qP, qQ, rF, rG])|exact qM rfl rfl rfl|(refine qG rfl ?_)|(refine qH rfl ?_)|(refine qI rfl ?_ ?_<;>intro hc<;>(try simp only [go_sem] at hc))|(refine qJ ?_ ?_<;>intro hc<;>(try simp only [hc])<;>(try simp only [go_sem] at hc)))
  (refine call_r (hs) (by decide) (by first | rfl | simp (disch:=omega) only [go_sem,simprocAttr,qN,qO,qP,qQ]) (by first | rfl | simp (disch:=omega) only [go_sem,simprocAttr,qN,qO,qP,qQ]) ?_; simp (disch:=omega) only [go_sem,simprocAttr,qN,qO,qP,qQ])
  cases u1
  ·repeat' (first|(with_reducible first|apply qA|apply qB|apply qC|apply qD|apply qE|apply qF)|(simp (disch:=omega) only [go_sem, simprocAttr, qN, qO, qP, qQ, findL, keyEq, keysOK, KK.is, List.all_nil, List.all_cons, lookIn, commaD, rF, rG, e1])|exact qM rfl rfl rfl|(refine qG rfl ?_)|(refine qH rfl ?_)|(refine qI rfl ?_ ?_<;>intro hc<;>(try simp only [go_sem] at hc))|(refine qJ ?_ ?_<;>intro hc<;>(try simp only [hc])<;>(try simp only [go_sem] at hc)))
   refine ⟨⟨1, by decide, fun _ => rfl, by omega⟩, ?_, Ent.to ?_ ?_⟩ <;> first | (show _ < _; (try simp only); omega) | (simp (disch:=omega) only [qR,qS,qTw,qU,get,Nat.reduceEqDiff,↓reduceIte,qV,qW,qX,qY,qZ,and_self,dI,i64_in,and_true,true_and,rA,rB,rC,rD])
   all_goals first | exact ⟨.refl _, .refl _⟩ | exact .refl _
  cases u2
  ·repeat' (first|(with_reducible first|apply qA|apply qB|apply qC|apply qD|apply qE|apply qF)|(simp (disch:=omega) only [go_sem, simprocAttr, qN, qO, qP, qQ, findL, keyEq, keysOK, KK.is, List.all_nil, List.all_cons, lookIn, commaD, rF, rG, e1, e2])|exact qM rfl rfl rfl|(refine qG rfl ?_)|(refine qH rfl ?_)|(refine qI rfl ?_ ?_<;>intro hc<;>(try simp only [go_sem] at hc))|(refine qJ ?_ ?_<;>intro hc<;>(try simp only [hc])<;>(try simp only [go_sem] at hc)))
   refine ⟨⟨1, by decide, fun _ => rfl, by omega⟩, ?_, Ent.to ?_ ?_⟩ <;> first | (show _ < _; (try simp only); omega) | (simp (disch:=omega) only [qR,qS,qTw,qU,get,Nat.reduceEqDiff,↓reduceIte,qV,qW,qX,qY,qZ,and_self,dI,i64_in,and_true,true_and,rA,rB,rC,rD])
   all_goals first | exact ⟨.refl _, .refl _⟩ | exact .refl _
  ·repeat' (first|(with_reducible first|apply qA|apply qB|apply qC|apply qD|apply qE|apply qF)|(simp (disch:=omega) only [go_sem, simprocAttr, qN, qO, qP, qQ, findL, keyEq, keysOK, KK.is, List.all_nil, List.all_cons, lookIn, commaD, rF, rG, e1, e2])|exact qM rfl rfl rfl|(refine qG rfl ?_)|(refine qH rfl ?_)|(refine qI rfl ?_ ?_<;>intro hc<;>(try simp only [go_sem] at hc))|(refine qJ ?_ ?_<;>intro hc<;>(try simp only [hc])<;>(try simp only [go_sem] at hc)))
   skip
 | 1, _, h1, _ =>
  have h1 := h1 (Nat.le_refl _)
  rw [if_neg (by rw [h1]; exact Bool.false_ne_true)]
  repeat' (first|(with_reducible first|apply qA|apply qB|apply qC|apply qD|apply qE|apply qF)|(simp (disch:=omega) only [go_sem, simprocAttr, qN, qO, qP, qQ, rF, rG])|exact qM rfl rfl rfl|(refine qG rfl ?_)|(refine qH rfl ?_)|(refine qI rfl ?_ ?_<;>intro hc<;>(try simp only [go_sem] at hc))|(refine qJ ?_ ?_<;>intro hc<;>(try simp only [hc])<;>(try simp only [go_sem] at hc)))
  (refine call_r (hs) (by decide) (by first | rfl | simp (disch:=omega) only [go_sem,simprocAttr,qN,qO,qP,qQ]) (by first | rfl | simp (disch:=omega) only [go_sem,simprocAttr,qN,qO,qP,qQ]) ?_; simp (disch:=omega) only [go_sem,simprocAttr,qN,qO,qP,qQ])
  cases u3
  ·repeat' (first|(with_reducible first|apply qA|apply qB|apply qC|apply qD|apply qE|apply qF)|(simp (disch:=omega) only [go_sem, simprocAttr, qN, qO, qP, qQ, findL, keyEq, keysOK, KK.is, List.all_nil, List.all_cons, lookIn, commaD, rF, rG, e3])|exact qM rfl rfl rfl|(refine qG rfl ?_)|(refine qH rfl ?_)|(refine qI rfl ?_ ?_<;>intro hc<;>(try simp only [go_sem] at hc))|(refine qJ ?_ ?_<;>intro hc<;>(try simp only [hc])<;>(try simp only [go_sem] at hc)))
   refine ⟨⟨2, by decide, fun _ => h1, fun _ => rfl⟩, ?_, Ent.to ?_ ?_⟩ <;> first | (show _ < _; (try simp only); omega) | (simp (disch:=omega) only [qR,qS,qTw,qU,get,Nat.reduceEqDiff,↓reduceIte,qV,qW,qX,qY,qZ,and_self,dI,i64_in,and_true,true_and,rA,rB,rC,rD])
   all_goals first | exact ⟨.refl _, .refl _⟩ | exact .refl _
  cases u4
  ·repeat' (first|(with_reducible first|apply qA|apply qB|apply qC|apply qD|apply qE|apply qF)|(simp (disch:=omega) only [go_sem, simprocAttr, qN, qO, qP, qQ, findL, keyEq, keysOK, KK.is, List.all_nil, List.all_cons, lookIn, commaD, rF, rG, e3, e4])|exact qM rfl rfl rfl|(refine qG rfl ?_)|(refine qH rfl ?_)|(refine qI rfl ?_ ?_<;>intro hc<;>(try simp only [go_sem] at hc))|(refine qJ ?_ ?_<;>intro hc<;>(try simp only [hc])<;>(try simp only [go_sem] at hc)))
   refine ⟨⟨2, by decide, fun _ => h1, fun _ => rfl⟩, ?_, Ent.to ?_ ?_⟩ <;> first | (show _ < _; (try simp only); omega) | (simp (disch:=omega) only [qR,qS,qTw,qU,get,Nat.reduceEqDiff,↓reduceIte,qV,qW,qX,qY,qZ,and_self,dI,i64_in,and_true,true_and,rA,rB,rC,rD])
   all_goals first | exact ⟨.refl _, .refl _⟩ | exact .refl _
  ·repeat' (first|(with_reducible first|apply qA|apply qB|apply qC|apply qD|apply qE|apply qF)|(simp (disch:=omega) only [go_sem, simprocAttr, qN, qO, qP, qQ, findL, keyEq, keysOK, KK.is, List.all_nil, List.all_cons, lookIn, commaD, rF, rG, e3, e4])|exact qM rfl rfl rfl|(refine qG rfl ?_)|(refine qH rfl ?_)|(refine qI rfl ?_ ?_<;>intro hc<;>(try simp only [go_sem] at hc))|(refine qJ ?_ ?_<;>intro hc<;>(try simp only [hc])<;>(try simp only [go_sem] at hc)))
   skip
 | 2, _, h1, h2 =>
  have h1 := h1 (by omega)
  have h2 := h2 (by omega)
  rw [if_neg (by rw [h1]; exact Bool.false_ne_true), if_neg (by rw [h2]; exact Bool.false_ne_true)]
  repeat' (first|(with_reducible first|apply qA|apply qB|apply qC|apply qD|apply qE|apply qF)|(simp (disch:=omega) only [go_sem, simprocAttr, qN, qO, qP, qQ])|exact qM rfl rfl rfl|(refine qG rfl ?_)|(refine qH rfl ?_)|(refine qI rfl ?_ ?_<;>intro hc<;>(try simp only [go_sem] at hc))|(refine qJ ?_ ?_<;>intro hc<;>(try simp only [hc])<;>(try simp only [go_sem] at hc)))
  skip
abbrev sdI (s : Bool) : Int := if s then 1 else 0
abbrev lnD (l : Ln) : D := .agg [dI (sdI l.1), dI l.2]
theorem plLnParts (X Y : Nat) (l : Ln) (hX : X ≤ 1000) (hY : Y ≤ 1000) (h1 : l.2 ≤ if l.1 then Y else X) : DCall Try.prog 90 [lnD l, rctD X Y] [] (.tup [rctD (oneF X Y l).1 (oneF X Y l).2, rctD (twoF X Y l).1 (twoF X Y l).2]) [] := by
 obtain ⟨s, t⟩ := l
 cases s
 ·have h1 : t ≤ X := h1
  have hw : IntKind.i64.wrap ((X : Int) - (t : Int)) = ((X - t : Nat) : Int) := by rw [IntWalk.i64_in _ (by omega)]; omega
  show DCall Try.prog 90 [.agg [dI 0, dI t], .agg [dI X, dI Y]] [] (.tup [.agg [dI t, dI Y], .agg [dI (X - t : Nat), dI Y]]) []
  refine DCall.of Try.func90 sf90 hb90 (Nat.le_of_ble_eq_true rfl) (okRes_nil fun _ => rfl) ?_; simp only [s90, o90_0, o90_1, o90_2, o90_3, o90_4, o90_5, o90_6, o90_7, o90_8, o90_9, o90_10, o90_11, o90_12, o90_13, o90_14, o90_15, o90_16, o90_17, o90_18, o90_19, o90_20, o90_21, o90_22, o90_23, o90_24, idxs, Nat.reduceAdd]
  repeat' (first|(with_reducible first|apply qA|apply qB|apply qC|apply qD|apply qE|apply qF)|(refine DW.ord rfl (WF.of (by first|rfl|simp (disch:=omega) only [go_sem, simprocAttr, qN, qO, qP, qQ, hw])) ?_ ?_ ?_; rotate_left)|rfl|(with_reducible refine And.intro ?_ ?_)|(simp (disch:=omega) only [go_sem, simprocAttr, qN, qO, qP, qQ, hw])|exact qM rfl rfl rfl|(refine qG rfl ?_)|(refine qH rfl ?_)|(refine qI rfl ?_ ?_<;>intro hc<;>(try simp only [go_sem] at hc))|(refine qJ ?_ ?_<;>intro hc<;>(try simp only [hc])<;>(try simp only [go_sem] at hc)))
  skip
 ·have h1 : t ≤ Y := h1
  have hw : IntKind.i64.wrap ((Y : Int) - (t : Int)) = ((Y - t : Nat) : Int) := by rw [IntWalk.i64_in _ (by omega)]; omega
  show DCall Try.prog 90 [.agg [dI 1, dI t], .agg [dI X, dI Y]] [] (.tup [.agg [dI X, dI t], .agg [dI X, dI (Y - t : Nat)]]) []
  refine DCall.of Try.func90 sf90 hb90 (Nat.le_of_ble_eq_true rfl) (okRes_nil fun _ => rfl) ?_; simp only [s90, o90_0, o90_1, o90_2, o90_3, o90_4, o90_5, o90_6, o90_7, o90_8, o90_9, o90_10, o90_11, o90_12, o90_13, o90_14, o90_15, o90_16, o90_17, o90_18, o90_19, o90_20, o90_21, o90_22, o90_23, o90_24, idxs, Nat.reduceAdd]
  repeat' (first|(with_reducible first|apply qA|apply qB|apply qC|apply qD|apply qE|apply qF)|(refine DW.ord rfl (WF.of (by first|rfl|simp (disch:=omega) only [go_sem, simprocAttr, qN, qO, qP, qQ, hw])) ?_ ?_ ?_; rotate_left)|rfl|(with_reducible refine And.intro ?_ ?_)|(simp (disch:=omega) only [go_sem, simprocAttr, qN, qO, qP, qQ, hw])|exact qM rfl rfl rfl|(refine qG rfl ?_)|(refine qH rfl ?_)|(refine qI rfl ?_ ?_<;>intro hc<;>(try simp only [go_sem] at hc))|(refine qJ ?_ ?_<;>intro hc<;>(try simp only [hc])<;>(try simp only [go_sem] at hc)))
  skip
theorem plLines (p : PBs) (b : PBx) (RX RY : List Int) (lm X Y : Nat) : DCall Try.prog 147 [sawD p b RX RY lm, rctD X Y] [] (.fn (.func 177) [] [.c (.ro false [.v (.int .i64 X), .v (.int .i64 Y)] 0), .c (.ro false [sawC p b RX RY lm] 0)]) [] := by
 refine DCall.of Try.func147 sf147 hb147 (Nat.le_of_ble_eq_true rfl) (okRes_nil fun _ => rfl) ?_; simp only [s147, idxs, Nat.reduceAdd]
 repeat' (first|(with_reducible first|apply qA|apply qB|apply qC|apply qD|apply qE|apply qF)|(simp (disch:=omega) only [go_sem, simprocAttr, qN, qO, qP, qQ])|exact qM rfl rfl rfl|(refine qG rfl ?_)|(refine qH rfl ?_)|(refine qI rfl ?_ ?_<;>intro hc<;>(try simp only [go_sem] at hc))|(refine qJ ?_ ?_<;>intro hc<;>(try simp only [hc])<;>(try simp only [go_sem] at hc)))
 (refine retS_ent (Ent.rel 2 rfl) ?_; simp (disch:=omega) only [go_sem,simprocAttr,qN,qO,qP,qQ])
 (refine retS_ent (Ent.rel 3 rfl) ?_; simp (disch:=omega) only [go_sem,simprocAttr,qN,qO,qP,qQ])
 refine retS_wk rfl ?_ (by simp only [Blk.nb, rowC_nb, D.nb, D.nbs, C.nb, C.nbs, C.nbss, rows_nb eI_nb, Bool.and_true, Bool.not_false, Bool.and_self, bD, dI, iD]); exact .refl _
end Go.Dw.Seat.Pa
end
section
set_option linter.unusedSimpArgs false
set_option maxRecDepth 100000
namespace Go.Dw.Seat.Pa
open Go Go.Dw Go.Proofs Go.IntWalk
def enL (l : Ln) : List D := [lnD l]
structure Rch (a c : Nat) (R : List Int) (n : Nat) : Prop where
 len : R.length = n + 1
 get : ∀ j, j ≤ n → R[j]? = some ((rchF a c j : Nat) : Int)
theorem rcL_ok (a c n : Nat) : Rch a c (rcL a c n) n := ⟨rcL_len a c n, fun _ h => rcL_get h⟩
def lnsR (a c x t : Nat) : List Nat := (List.range' t (x / 2 - t)).filterMap fun t => if sumB a c (t + 1) then some (t + 1) else none
theorem lnsR_0 (a c x : Nat) : lnsR a c x 0 = lnX a c x := by rw [lnsR, lnX, Nat.sub_zero, List.range_eq_range']
theorem lnsR_end {a c x t : Nat} (h : x < 2 * (t + 1)) : lnsR a c x t = [] := by
 rw [lnsR, show x / 2 - t = 0 by omega]; rfl
theorem lnsR_step {a c x t : Nat} (h : 2 * (t + 1) ≤ x) : lnsR a c x t = if sumB a c (t + 1) then (t + 1) :: lnsR a c x (t + 1) else lnsR a c x (t + 1) := by
 obtain ⟨m, hm⟩ : ∃ m, x / 2 - t = m + 1 := ⟨x / 2 - t - 1, by omega⟩
 rw [lnsR, lnsR, hm, show x / 2 - (t + 1) = m by omega, List.range'_succ, List.filterMap_cons]
 by_cases h1 : sumB a c (t + 1) = true
 ·rw [if_pos h1, if_pos h1]
 ·rw [if_neg h1, if_neg h1]
def lnsT (a c X Y k t : Nat) : List Ln := match k with
 | 0 => (lnsR a c X t).map (fun t => (false, t)) ++ (lnX a c Y).map (fun t => (true, t))
 | 1 => (lnsR a c Y t).map fun t => (true, t)
 | _ => []
theorem rch_sumB {a c t : Nat} : sumB a c (t + 1) = decide (t + 1 = rchF a c (t + 1)) := by
 cases h : sumB a c (t + 1) with
 | true => rw [rch_eq h]; simp
 | false =>
  symm
  rw [decide_eq_false_iff_not]
  intro e
  have := rch_sum a c (t + 1)
  rw [← e, h] at this; cases this
theorem rch_sumJ {a c j : Nat} (h : 1 ≤ j) : sumB a c j = decide (j = rchF a c j) := by
 obtain ⟨t, rfl⟩ : ∃ t, j = t + 1 := ⟨j - 1, by omega⟩
 exact rch_sumB
theorem lnsT0_step {a c X Y j : Nat} (h : 1 ≤ j) (hX : 2 * j ≤ X) : lnsT a c X Y 0 (j - 1) = if sumB a c j then (false, j) :: lnsT a c X Y 0 (j + 1 - 1) else lnsT a c X Y 0 (j + 1 - 1) := by
 obtain ⟨t, rfl⟩ : ∃ t, j = t + 1 := ⟨j - 1, by omega⟩
 rw [lnsT, lnsT, Nat.add_sub_cancel, Nat.add_sub_cancel, lnsR_step hX]
 split <;> rfl
theorem lnsT1_step {a c X Y j : Nat} (h : 1 ≤ j) (hX : 2 * j ≤ Y) : lnsT a c X Y 1 (j - 1) = if sumB a c j then (true, j) :: lnsT a c X Y 1 (j + 1 - 1) else lnsT a c X Y 1 (j + 1 - 1) := by
 obtain ⟨t, rfl⟩ : ∃ t, j = t + 1 := ⟨j - 1, by omega⟩
 rw [lnsT, lnsT, Nat.add_sub_cancel, Nat.add_sub_cancel, lnsR_step hX]
 split <;> rfl
theorem lnsT0_end {a c X Y j : Nat} (h : 1 ≤ j) (hX : X < 2 * j) : lnsT a c X Y 0 (j - 1) = lnsT a c X Y 1 0 := by
 rw [lnsT, lnsT, lnsR_end (by omega), lnsR_0]; rfl
theorem lnsT1_end {a c X Y j : Nat} (h : 1 ≤ j) (hX : Y < 2 * j) : lnsT a c X Y 1 (j - 1) = lnsT a c X Y 2 0 := by
 rw [lnsT, lnsR_end (by omega)]; rfl
set_option maxHeartbeats 4000000 in
theorem plLines1 (p : PBs) (b : PBx) (RX RY : List Int) (nx ny : Nat) (hrx : Rch (bLg b) (bWd b) RX nx) (hry : Rch (bLg b) (bWd b) RY ny) (hnx : nx ≤ 1000) (hny : ny ≤ 1000) (lm X Y : Nat) (hX : X ≤ nx) (hY : Y ≤ ny) :
  ItB true Try.prog 177 [] [.c (.ro false [.v (.int .i64 X), .v (.int .i64 Y)] 0), .c (.ro false [sawC p b RX RY lm] 0)] enL (fun l => l ∈ lnsF (bLg b) (bWd b) X Y) (lnsF (bLg b) (bWd b) X Y) := by
 generalize bLg b = a at *
 generalize bWd b = c at *
 intro ly β H stp live _ hW hY' b0 hl0
 have hH : ∀ b, HidOk (H b) := fun b => (hW b).toHidOk
 have hYC : ∀ (b1 : β) (s : Bool) (t : Nat) (tl : List Ln), (s, t) ∈ lnsF a c X Y → live ((s, t) :: tl) b1 → YCall Try.prog ly [.agg [dI (sdI s), dI t]] (H b1) (bD (stp b1 (s, t)).1) (H (stp b1 (s, t)).2) ∧ ((stp b1 (s, t)).1 = true → live tl (stp b1 (s, t)).2) := fun b1 s t tl hm hl => hY' b1 (s, t) tl hl hm
 refine DCall.of Try.func177 sf177 hb177 (Nat.le_of_ble_eq_true rfl) (hH _).res ?_
 simp only [s177, idxs, Nat.reduceAdd, List.map_nil, List.map_cons, List.nil_append, List.cons_append]
 have f1 := hid_get (hH b0)
 have f2 := hid_ins (hH b0)
 have f3 := (hH b0).men
 have f4 := (hH b0).lo
 repeat' (first|(with_reducible first|apply qA|apply qB|apply qC|apply qD|apply qE|apply qF)|(simp (disch:=omega) only [go_sem, simprocAttr, qN, qO, qP, qQ, f1, f2, f3, f4, ins, rF, rG])|exact qM rfl rfl rfl|(refine qG rfl ?_)|(refine qH rfl ?_)|(refine qI rfl ?_ ?_<;>intro hc<;>(try simp only [go_sem] at hc))|(refine qJ ?_ ?_<;>intro hc<;>(try simp only [hc])<;>(try simp only [go_sem] at hc)))
 have hl00 : live (lnsT a c X Y 0 0) b0 := by rw [lnsT, lnsR_0]; exact hl0
 have hr00 : runB stp b0 (lnsF a c X Y) = runB stp b0 (lnsT a c X Y 0 0) := by rw [lnsT, lnsR_0]; rfl
 refine DW.loop (ι := { y : Nat × β // y.1 ≤ 2 ∧ live (lnsT a c X Y y.1 0) y.2 ∧ runB stp b0 (lnsF a c X Y) = runB stp y.2 (lnsT a c X Y y.1 0) })
  (fun y => ⟨37, [(6, dI y.1.1), (0, .c (.fn (.yield ly) [] [])), (1, .c (.ro false [.v (.int .i64 X), .v (.int .i64 Y)] 0)), (2, .c (.ro false [sawC p b RX RY lm] 0))], H y.1.2⟩) (fun y => 2 - y.1.1) ⟨(0, b0), Nat.zero_le _, hl00, hr00⟩ ?_ ?_
 ·refine Ent.toH (o := []) (o' := []) (hH b0) rfl ?_ ?_ <;> simp (disch:=omega) only [qR,qS,qTw,qU,get,Nat.reduceEqDiff,↓reduceIte,qV,qW,qX,qY,qZ,and_self,dI,i64_in,and_true,true_and,rA,rB,rC,rD]
 rintro ⟨⟨k, b1⟩, hk, hlv, hrun⟩
 dsimp only at hk hlv hrun ⊢
 have g1 := hid_get (hH b1)
 have g2 := hid_ins (hH b1)
 have g3 := (hH b1).men
 have g4 := (hH b1).lo
 match k, hk with
 | 0, _ =>
  repeat' (first|(with_reducible first|apply qA|apply qB|apply qC|apply qD|apply qE|apply qF)|(simp (disch:=omega) only [go_sem, simprocAttr, qN, qO, qP, qQ, g1, g2, g3, g4, ins, rF, rG])|exact qM rfl rfl rfl|(refine qG rfl ?_)|(refine qH rfl ?_)|(refine qI rfl ?_ ?_<;>intro hc<;>(try simp only [go_sem] at hc))|(refine qJ ?_ ?_<;>intro hc<;>(try simp only [hc])<;>(try simp only [go_sem] at hc)))
  refine DW.loop (ι := { y : Nat × β // (1 ≤ y.1 ∧ 2 * y.1 ≤ X + 2) ∧ live (lnsT a c X Y 0 (y.1 - 1)) y.2 ∧ runB stp b0 (lnsF a c X Y) = runB stp y.2 (lnsT a c X Y 0 (y.1 - 1)) })
   (fun y => ⟨37, [(6, dI 0), (5, dI (y.1.1 : Nat)), (4, dI 0), (0, .c (.fn (.yield ly) [] [])), (1, .c (.ro false [.v (.int .i64 X), .v (.int .i64 Y)] 0)), (2, .c (.ro false [sawC p b RX RY lm] 0))], H y.1.2⟩) (fun y => X + 1 - y.1.1) ⟨(1, b1), by omega, hlv, hrun⟩ ?_ ?_
  ·refine Ent.toH (o := []) (o' := []) (hH b1) rfl ?_ ?_ <;> simp (disch:=omega) only [qR,qS,qTw,qU,get,Nat.reduceEqDiff,↓reduceIte,qV,qW,qX,qY,qZ,and_self,dI,i64_in,and_true,true_and,rA,rB,rC,rD]
  clear g1 g2 g3 g4
  rintro ⟨⟨j, b1⟩, hj, hlv, hrun⟩
  dsimp only at hj hlv hrun ⊢
  have g1 := hid_get (hH b1)
  have g2 := hid_ins (hH b1)
  have g3 := (hH b1).men
  have g4 := (hH b1).lo
  by_cases hle : 2 * j ≤ X
  ·have hd : decide (2 * (j : Int) ≤ (X : Int)) = true := decide_eq_true (by omega)
   have hg := hrx.get j (by omega)
   have hl := hrx.len
   have hjn : (j < nx + 1) = True := eq_true (by omega)
   have hst := lnsT0_step (a := a) (c := c) (X := X) (Y := Y) hj.1 hle
   cases hs : sumB a c j with
   | false =>
    have he : (((rchF a c j : Nat) : Int) == (j : Int)) = false := by rw [beq_eq_false_iff_ne]; intro e; rw [rch_sumJ hj.1, decide_eq_false_iff_not] at hs; omega
    rw [hs, if_neg Bool.false_ne_true] at hst
    rw [hst] at hlv hrun
    repeat' (first|(with_reducible first|apply qA|apply qB|apply qC|apply qD|apply qE|apply qF)|(simp (disch:=omega) only [go_sem, simprocAttr, qN, qO, qP, qQ, g1, g2, g3, g4, ins, hd, hg, hl, hjn, he, rF, rG])|exact qM rfl rfl rfl|(refine qG rfl ?_)|(refine qH rfl ?_)|(refine qI rfl ?_ ?_<;>intro hc<;>(try simp only [go_sem] at hc))|(refine qJ ?_ ?_<;>intro hc<;>(try simp only [hc])<;>(try simp only [go_sem] at hc)))
    refine ⟨⟨(j + 1, b1), by dsimp only; omega, hlv, hrun⟩, (by show _ < _; (try simp only); omega), Ent.toH (o := []) (o' := []) (hH _) rfl ?_ ?_⟩ <;> simp (disch:=omega) only [qR,qS,qTw,qU,get,Nat.reduceEqDiff,↓reduceIte,qV,qW,qX,qY,qZ,and_self,dI,i64_in,and_true,true_and,rA,rB,rC,rD]
   | true =>
    have he : (((rchF a c j : Nat) : Int) == (j : Int)) = true := by rw [rch_eq hs, beq_self_eq_true]
    have hmem : ((false, j) : Ln) ∈ lnsF a c X Y := lns_mem.2 ⟨hj.1, by simpa using hle, hs⟩
    rw [hs, if_pos rfl] at hst
    rw [hst] at hlv hrun
    obtain ⟨hyc, hlv2⟩ := hYC b1 false j _ hmem hlv
    rw [runB] at hrun
    have hyc : YCall Try.prog ly [.agg [dI 0, dI j]] (H b1) _ _ := hyc
    cases hc : (stp b1 (false, j)).1 with
    | true =>
     rw [hc] at hyc
     rw [hc, if_pos rfl] at hrun
     repeat' (first|(with_reducible first|apply qA|apply qB|apply qC|apply qD|apply qE|apply qF)|(simp (disch:=omega) only [go_sem, simprocAttr, qN, qO, qP, qQ, g1, g2, g3, g4, ins, hd, hg, hl, hjn, he, rF, rG])|exact qM rfl rfl rfl|(refine qG rfl ?_)|(refine qH rfl ?_)|(refine qI rfl ?_ ?_<;>intro hc<;>(try simp only [go_sem] at hc))|(refine qJ ?_ ?_<;>intro hc<;>(try simp only [hc])<;>(try simp only [go_sem] at hc)))
     refine call_y (own := []) hyc rfl rfl rfl (hH _) (hH _) (by decide) ?_
     simp (disch:=omega) only [go_sem,simprocAttr,qN,qO,qP,qQ]
     repeat' (first|(with_reducible first|apply qA|apply qB|apply qC|apply qD|apply qE|apply qF)|(simp (disch:=omega) only [go_sem, simprocAttr, qN, qO, qP, qQ])|exact qM rfl rfl rfl|(refine qG rfl ?_)|(refine qH rfl ?_)|(refine qI rfl ?_ ?_<;>intro hc<;>(try simp only [go_sem] at hc))|(refine qJ ?_ ?_<;>intro hc<;>(try simp only [hc])<;>(try simp only [go_sem] at hc)))
     refine ⟨⟨(j + 1, (stp b1 (false, j)).2), by dsimp only; omega, hlv2 hc, hrun⟩, (by show _ < _; (try simp only); omega), Ent.toH (o := []) (o' := []) (hH _) rfl ?_ ?_⟩ <;> simp (disch:=omega) only [qR,qS,qTw,qU,get,Nat.reduceEqDiff,↓reduceIte,qV,qW,qX,qY,qZ,and_self,dI,i64_in,and_true,true_and,rA,rB,rC,rD]
    | false =>
     rw [hc] at hyc
     rw [hc, if_neg Bool.false_ne_true] at hrun
     repeat' (first|(with_reducible first|apply qA|apply qB|apply qC|apply qD|apply qE|apply qF)|(simp (disch:=omega) only [go_sem, simprocAttr, qN, qO, qP, qQ, g1, g2, g3, g4, ins, hd, hg, hl, hjn, he, rF, rG])|exact qM rfl rfl rfl|(refine qG rfl ?_)|(refine qH rfl ?_)|(refine qI rfl ?_ ?_<;>intro hc<;>(try simp only [go_sem] at hc))|(refine qJ ?_ ?_<;>intro hc<;>(try simp only [hc])<;>(try simp only [go_sem] at hc)))
     refine call_y (own := []) hyc rfl rfl rfl (hH _) (hH _) (by decide) ?_
     simp (disch:=omega) only [go_sem,simprocAttr,qN,qO,qP,qQ]
     repeat' (first|(with_reducible first|apply qA|apply qB|apply qC|apply qD|apply qE|apply qF)|(simp (disch:=omega) only [go_sem, simprocAttr, qN, qO, qP, qQ])|exact qM rfl rfl rfl|(refine qG rfl ?_)|(refine qH rfl ?_)|(refine qI rfl ?_ ?_<;>intro hc<;>(try simp only [go_sem] at hc))|(refine qJ ?_ ?_<;>intro hc<;>(try simp only [hc])<;>(try simp only [go_sem] at hc)))
     rw [hrun]
     exact retS_hid (own := []) (.inl rfl) (hH _) rfl
  ·have hd : decide (2 * (j : Int) ≤ (X : Int)) = false := decide_eq_false (by omega)
   rw [lnsT0_end (a := a) (c := c) (X := X) (Y := Y) hj.1 (by omega)] at hlv hrun
   repeat' (first|(with_reducible first|apply qA|apply qB|apply qC|apply qD|apply qE|apply qF)|(simp (disch:=omega) only [go_sem, simprocAttr, qN, qO, qP, qQ, g1, g2, g3, g4, ins, hd, rF, rG])|exact qM rfl rfl rfl|(refine qG rfl ?_)|(refine qH rfl ?_)|(refine qI rfl ?_ ?_<;>intro hc<;>(try simp only [go_sem] at hc))|(refine qJ ?_ ?_<;>intro hc<;>(try simp only [hc])<;>(try simp only [go_sem] at hc)))
   refine ⟨⟨(1, b1), by dsimp only; omega, hlv, hrun⟩, (by show _ < _; (try simp only); omega), Ent.toH (o := []) (o' := []) (hH _) rfl ?_ ?_⟩ <;> simp (disch:=omega) only [qR,qS,qTw,qU,get,Nat.reduceEqDiff,↓reduceIte,qV,qW,qX,qY,qZ,and_self,dI,i64_in,and_true,true_and,rA,rB,rC,rD]
 | 1, _ =>
  repeat' (first|(with_reducible first|apply qA|apply qB|apply qC|apply qD|apply qE|apply qF)|(simp (disch:=omega) only [go_sem, simprocAttr, qN, qO, qP, qQ, g1, g2, g3, g4, ins, rF, rG])|exact qM rfl rfl rfl|(refine qG rfl ?_)|(refine qH rfl ?_)|(refine qI rfl ?_ ?_<;>intro hc<;>(try simp only [go_sem] at hc))|(refine qJ ?_ ?_<;>intro hc<;>(try simp only [hc])<;>(try simp only [go_sem] at hc)))
  refine DW.loop (ι := { y : Nat × β // (1 ≤ y.1 ∧ 2 * y.1 ≤ Y + 2) ∧ live (lnsT a c X Y 1 (y.1 - 1)) y.2 ∧ runB stp b0 (lnsF a c X Y) = runB stp y.2 (lnsT a c X Y 1 (y.1 - 1)) })
   (fun y => ⟨37, [(6, dI 1), (5, dI (y.1.1 : Nat)), (4, dI 1), (0, .c (.fn (.yield ly) [] [])), (1, .c (.ro false [.v (.int .i64 X), .v (.int .i64 Y)] 0)), (2, .c (.ro false [sawC p b RX RY lm] 0))], H y.1.2⟩) (fun y => Y + 1 - y.1.1) ⟨(1, b1), by omega, hlv, hrun⟩ ?_ ?_
  ·refine Ent.toH (o := []) (o' := []) (hH b1) rfl ?_ ?_ <;> simp (disch:=omega) only [qR,qS,qTw,qU,get,Nat.reduceEqDiff,↓reduceIte,qV,qW,qX,qY,qZ,and_self,dI,i64_in,and_true,true_and,rA,rB,rC,rD]
  clear g1 g2 g3 g4
  rintro ⟨⟨j, b1⟩, hj, hlv, hrun⟩
  dsimp only at hj hlv hrun ⊢
  have g1 := hid_get (hH b1)
  have g2 := hid_ins (hH b1)
  have g3 := (hH b1).men
  have g4 := (hH b1).lo
  by_cases hle : 2 * j ≤ Y
  ·have hd : decide (2 * (j : Int) ≤ (Y : Int)) = true := decide_eq_true (by omega)
   have hg := hry.get j (by omega)
   have hl := hry.len
   have hjn : (j < ny + 1) = True := eq_true (by omega)
   have hst := lnsT1_step (a := a) (c := c) (X := X) (Y := Y) hj.1 hle
   cases hs : sumB a c j with
   | false =>
    have he : (((rchF a c j : Nat) : Int) == (j : Int)) = false := by rw [beq_eq_false_iff_ne]; intro e; rw [rch_sumJ hj.1, decide_eq_false_iff_not] at hs; omega
    rw [hs, if_neg Bool.false_ne_true] at hst
    rw [hst] at hlv hrun
    repeat' (first|(with_reducible first|apply qA|apply qB|apply qC|apply qD|apply qE|apply qF)|(simp (disch:=omega) only [go_sem, simprocAttr, qN, qO, qP, qQ, g1, g2, g3, g4, ins, hd, hg, hl, hjn, he, rF, rG])|exact qM rfl rfl rfl|(refine qG rfl ?_)|(refine qH rfl ?_)|(refine qI rfl ?_ ?_<;>intro hc<;>(try simp only [go_sem] at hc))|(refine qJ ?_ ?_<;>intro hc<;>(try simp only [hc])<;>(try simp only [go_sem] at hc)))
    refine ⟨⟨(j + 1, b1), by dsimp only; omega, hlv, hrun⟩, (by show _ < _; (try simp only); omega), Ent.toH (o := []) (o' := []) (hH _) rfl ?_ ?_⟩ <;> simp (disch:=omega) only [qR,qS,qTw,qU,get,Nat.reduceEqDiff,↓reduceIte,qV,qW,qX,qY,qZ,and_self,dI,i64_in,and_true,true_and,rA,rB,rC,rD]
   | true =>
    have he : (((rchF a c j : Nat) : Int) == (j : Int)) = true := by rw [rch_eq hs, beq_self_eq_true]
    have hmem : ((true, j) : Ln) ∈ lnsF a c X Y := lns_mem.2 ⟨hj.1, by simpa using hle, hs⟩
    rw [hs, if_pos rfl] at hst
    rw [hst] at hlv hrun
    obtain ⟨hyc, hlv2⟩ := hYC b1 true j _ hmem hlv
    rw [runB] at hrun
    have hyc : YCall Try.prog ly [.agg [dI 1, dI j]] (H b1) _ _ := hyc
    cases hc : (stp b1 (true, j)).1 with
    | true =>
     rw [hc] at hyc
     rw [hc, if_pos rfl] at hrun
     repeat' (first|(with_reducible first|apply qA|apply qB|apply qC|apply qD|apply qE|apply qF)|(simp (disch:=omega) only [go_sem, simprocAttr, qN, qO, qP, qQ, g1, g2, g3, g4, ins, hd, hg, hl, hjn, he, rF, rG])|exact qM rfl rfl rfl|(refine qG rfl ?_)|(refine qH rfl ?_)|(refine qI rfl ?_ ?_<;>intro hc<;>(try simp only [go_sem] at hc))|(refine qJ ?_ ?_<;>intro hc<;>(try simp only [hc])<;>(try simp only [go_sem] at hc)))
     refine call_y (own := []) hyc rfl rfl rfl (hH _) (hH _) (by decide) ?_
     simp (disch:=omega) only [go_sem,simprocAttr,qN,qO,qP,qQ]
     repeat' (first|(with_reducible first|apply qA|apply qB|apply qC|apply qD|apply qE|apply qF)|(simp (disch:=omega) only [go_sem, simprocAttr, qN, qO, qP, qQ])|exact qM rfl rfl rfl|(refine qG rfl ?_)|(refine qH rfl ?_)|(refine qI rfl ?_ ?_<;>intro hc<;>(try simp only [go_sem] at hc))|(refine qJ ?_ ?_<;>intro hc<;>(try simp only [hc])<;>(try simp only [go_sem] at hc)))
     refine ⟨⟨(j + 1, (stp b1 (true, j)).2), by dsimp only; omega, hlv2 hc, hrun⟩, (by show _ < _; (try simp only); omega), Ent.toH (o := []) (o' := []) (hH _) rfl ?_ ?_⟩ <;> simp (disch:=omega) only [qR,qS,qTw,qU,get,Nat.reduceEqDiff,↓reduceIte,qV,qW,qX,qY,qZ,and_self,dI,i64_in,and_true,true_and,rA,rB,rC,rD]
    | false =>
     rw [hc] at hyc
     rw [hc, if_neg Bool.false_ne_true] at hrun
     repeat' (first|(with_reducible first|apply qA|apply qB|apply qC|apply qD|apply qE|apply qF)|(simp (disch:=omega) only [go_sem, simprocAttr, qN, qO, qP, qQ, g1, g2, g3, g4, ins, hd, hg, hl, hjn, he, rF, rG])|exact qM rfl rfl rfl|(refine qG rfl ?_)|(refine qH rfl ?_)|(refine qI rfl ?_ ?_<;>intro hc<;>(try simp only [go_sem] at hc))|(refine qJ ?_ ?_<;>intro hc<;>(try simp only [hc])<;>(try simp only [go_sem] at hc)))
     refine call_y (own := []) hyc rfl rfl rfl (hH _) (hH _) (by decide) ?_
     simp (disch:=omega) only [go_sem,simprocAttr,qN,qO,qP,qQ]
     repeat' (first|(with_reducible first|apply qA|apply qB|apply qC|apply qD|apply qE|apply qF)|(simp (disch:=omega) only [go_sem, simprocAttr, qN, qO, qP, qQ])|exact qM rfl rfl rfl|(refine qG rfl ?_)|(refine qH rfl ?_)|(refine qI rfl ?_ ?_<;>intro hc<;>(try simp only [go_sem] at hc))|(refine qJ ?_ ?_<;>intro hc<;>(try simp only [hc])<;>(try simp only [go_sem] at hc)))
     rw [hrun]
     exact retS_hid (own := []) (.inl rfl) (hH _) rfl
  ·have hd : decide (2 * (j : Int) ≤ (Y : Int)) = false := decide_eq_false (by omega)
   rw [lnsT1_end (a := a) (c := c) (X := X) (Y := Y) hj.1 (by omega)] at hlv hrun
   repeat' (first|(with_reducible first|apply qA|apply qB|apply qC|apply qD|apply qE|apply qF)|(simp (disch:=omega) only [go_sem, simprocAttr, qN, qO, qP, qQ, g1, g2, g3, g4, ins, hd, rF, rG])|exact qM rfl rfl rfl|(refine qG rfl ?_)|(refine qH rfl ?_)|(refine qI rfl ?_ ?_<;>intro hc<;>(try simp only [go_sem] at hc))|(refine qJ ?_ ?_<;>intro hc<;>(try simp only [hc])<;>(try simp only [go_sem] at hc)))
   refine ⟨⟨(2, b1), by dsimp only; omega, hlv, hrun⟩, (by show _ < _; (try simp only); omega), Ent.toH (o := []) (o' := []) (hH _) rfl ?_ ?_⟩ <;> simp (disch:=omega) only [qR,qS,qTw,qU,get,Nat.reduceEqDiff,↓reduceIte,qV,qW,qX,qY,qZ,and_self,dI,i64_in,and_true,true_and,rA,rB,rC,rD]
   all_goals exact .refl _
 | 2, _ =>
  rw [lnsT, runB] at hrun
  repeat' (first|(with_reducible first|apply qA|apply qB|apply qC|apply qD|apply qE|apply qF)|(simp (disch:=omega) only [go_sem, simprocAttr, qN, qO, qP, qQ, g1, g2, g3, g4, ins, rF, rG])|exact qM rfl rfl rfl|(refine qG rfl ?_)|(refine qH rfl ?_)|(refine qI rfl ?_ ?_<;>intro hc<;>(try simp only [go_sem] at hc))|(refine qJ ?_ ?_<;>intro hc<;>(try simp only [hc])<;>(try simp only [go_sem] at hc)))
  all_goals first | exact id | (rw [hrun]; exact retS_hid (own := []) (.inr rfl) (hH _) rfl)
end Go.Dw.Seat.Pa
end
section
set_option linter.unusedSimpArgs false
set_option maxRecDepth 100000
namespace Go.Dw.Seat.Pa
open Go Go.Dw Go.Proofs Go.IntWalk
abbrev nilC : C := .v (.slice none 0 0)
abbrev sawBx (p : PBs) (b : PBx) (RX RY : C) : Blk := .box [dI p.lg, dI p.wd, dI p.hi, dI p.ov, dI p.top, dI p.load, dI b.lg, dI b.wd, dI b.hi, dI b.wl, dI b.wh, dI b.sl, dI b.sh, .c RX, .c RY, .hd 7]
abbrev sawBs (p : PBs) (b : PBx) (RX RY : List Int) : List (Nat × Blk) := [(9, sawBx p b (.sl false 1 (rows eI RX)) (.sl false 1 (rows eI RY))), (7, .map [] [])]
theorem sawBs_ok (p : PBs) (b : PBx) (RX RY : List Int) : okRes (.box 9 0) (sawBs p b RX RY) := by
 have hg : ∀ j, get j (sawBs p b RX RY) = none → j ≠ 9 ∧ j ≠ 7 := fun j hj => by
  constructor <;> (rintro rfl; cases hj)
 refine ⟨fun j hj => ?_, fun i x hi j hj => ?_⟩
 ·obtain ⟨h1, h2⟩ := hg j hj
  simp only [D.men, D.mens, Bool.or_false, beq_eq_false_iff_ne]
  omega
 ·obtain ⟨h1, h2⟩ := hg j hj
  have := get_mem hi
  simp only [List.mem_cons, Prod.mk.injEq, List.not_mem_nil, or_false] at this
  rcases this with ⟨_, rfl⟩ | ⟨_, rfl⟩
  ·simp only [Blk.men, D.men, D.mens, Bool.or_false, Bool.false_or, beq_eq_false_iff_ne]
   omega
  ·rfl
set_option maxHeartbeats 2000000 in
theorem plNewSaw (p : PBs) (b : PBx) (hp : p.ok) (hb : b.ok) : DCall Try.prog 42 [bedD p b] [] (.box 9 0) (sawBs p b (rcL (bLg b) (bWd b) (rxN p)) (rcL (bLg b) (bWd b) (ryN p))) := by
 have hr := plRoom p b hp
 obtain ⟨hx, hy⟩ := rm_in hp
 have hX : rmX p = ((rxN p : Nat) : Int) := (Int.toNat_of_nonneg hx.1).symm
 have hY : rmY p = ((ryN p : Nat) : Int) := (Int.toNat_of_nonneg hy.1).symm
 have hnX : rxN p ≤ 140 := by show (rmX p).toNat ≤ 140; omega
 have hnY : ryN p ≤ 140 := by show (rmY p).toNat ≤ 140; omega
 rw [hX, hY] at hr
 have c1 := plReach b hb (rxN p) (by omega)
 have c2 := plReach b hb (ryN p) (by omega)
 have hok := sawBs_ok p b (rcL (bLg b) (bWd b) (rxN p)) (rcL (bLg b) (bWd b) (ryN p))
 generalize rcL (bLg b) (bWd b) (rxN p) = L1 at *
 generalize rcL (bLg b) (bWd b) (ryN p) = L2 at *
 generalize rxN p = nx at *
 generalize ryN p = ny at *
 refine DCall.of Try.func42 sf42 hb42 (Nat.le_of_ble_eq_true rfl) hok ?_
 simp only [s42, idxs, Nat.reduceAdd]
 repeat' (first|(with_reducible first|apply qA|apply qB|apply qC|apply qD|apply qE|apply qF)|(refine qL rfl (WF.of ?_) ?_; first|rfl|skip)|(simp (disch:=omega) only [go_sem, simprocAttr, qN, qO, qP, qQ])|exact qM rfl rfl rfl|(refine qG rfl ?_)|(refine qK (hr) (by decide) ?_)|(refine qH rfl ?_)|(refine qI rfl ?_ ?_<;>intro hc<;>(try simp only [go_sem] at hc))|(refine qJ ?_ ?_<;>intro hc<;>(try simp only [hc])<;>(try simp only [go_sem] at hc)))
 obtain ⟨r0, hr0⟩ : ∃ r : Nat → C, r 0 = nilC ∧ r 1 = .sl false 1 (rows eI L1) ∧ r 2 = .sl false 1 (rows eI L1) := ⟨fun k => if k = 0 then nilC else .sl false 1 (rows eI L1), rfl, rfl, rfl⟩
 obtain ⟨r1, hr1⟩ : ∃ r : Nat → C, r 0 = nilC ∧ r 1 = nilC ∧ r 2 = .sl false 1 (rows eI L2) := ⟨fun k => if k ≤ 1 then nilC else .sl false 1 (rows eI L2), rfl, rfl, rfl⟩
 refine DW.loop (ι := { k : Nat // k ≤ 2 }) (fun k => ⟨27, [(12, dI k.1), (11, .agg [dI nx, dI ny]), (3, .box 9 0), (1, .box 1 0)], [(9, sawBx p b (r0 k.1) (r1 k.1)), (7, .map [] []), (1, .box [dI p.lg, dI p.wd, dI p.hi, dI p.ov, dI p.top, dI p.load, dI b.lg, dI b.wd, dI b.hi, dI b.wl, dI b.wh, dI b.sl, dI b.sh])]⟩) (fun k => 2 - k.1) ⟨0, by decide⟩ ?_ ?_
 ·refine Ent.to ?_ ?_ <;> simp (disch:=omega) only [qR,qS,qTw,qU,get,Nat.reduceEqDiff,↓reduceIte,qV,qW,qX,qY,qZ,and_self,dI,i64_in,and_true,true_and,rA,rB,rC,rD,hr0.1,hr1.1]
  all_goals first | exact ⟨.refl _, .refl _, .refl _⟩ | exact ⟨.refl _, .refl _⟩ | exact .refl _
 rintro ⟨k, hk⟩
 dsimp only
 match k, hk with
 | 0, _ =>
  rw [hr0.1, hr1.1]
  repeat' (first|(with_reducible first|apply qA|apply qB|apply qC|apply qD|apply qE|apply qF)|(refine qL rfl (WF.of ?_) ?_; first|rfl|skip)|(simp (disch:=omega) only [go_sem, simprocAttr, qN, qO, qP, qQ])|exact qM rfl rfl rfl|(refine qG rfl ?_)|(refine qK (c1) (by decide) ?_)|(refine qH rfl ?_)|(refine qI rfl ?_ ?_<;>intro hc<;>(try simp only [go_sem] at hc))|(refine qJ ?_ ?_<;>intro hc<;>(try simp only [hc])<;>(try simp only [go_sem] at hc)))
  refine ⟨⟨1, by decide⟩, ?_, Ent.to ?_ ?_⟩ <;> first | (show _ < _; (try simp only); omega) | (simp (disch:=omega) only [qR,qS,qTw,qU,get,Nat.reduceEqDiff,↓reduceIte,qV,qW,qX,qY,qZ,and_self,dI,i64_in,and_true,true_and,rA,rB,rC,rD, hr0.2.1,hr1.2.1])
  all_goals first | exact ⟨.refl _, .refl _, .refl _⟩ | exact ⟨.refl _, .refl _⟩ | exact .refl _
 | 1, _ =>
  rw [hr0.2.1, hr1.2.1]
  repeat' (first|(with_reducible first|apply qA|apply qB|apply qC|apply qD|apply qE|apply qF)|(refine qL rfl (WF.of ?_) ?_; first|rfl|skip)|(simp (disch:=omega) only [go_sem, simprocAttr, qN, qO, qP, qQ])|exact qM rfl rfl rfl|(refine qG rfl ?_)|(refine qK (c2) (by decide) ?_)|(refine qH rfl ?_)|(refine qI rfl ?_ ?_<;>intro hc<;>(try simp only [go_sem] at hc))|(refine qJ ?_ ?_<;>intro hc<;>(try simp only [hc])<;>(try simp only [go_sem] at hc)))
  refine ⟨⟨2, by decide⟩, ?_, Ent.to ?_ ?_⟩ <;> first | (show _ < _; (try simp only); omega) | (simp (disch:=omega) only [qR,qS,qTw,qU,get,Nat.reduceEqDiff,↓reduceIte,qV,qW,qX,qY,qZ,and_self,dI,i64_in,and_true,true_and,rA,rB,rC,rD, hr0.2.2,hr1.2.2])
  all_goals first | exact ⟨.refl _, .refl _, .refl _⟩ | exact ⟨.refl _, .refl _⟩ | exact .refl _
 | 2, _ =>
  rw [hr0.2.2, hr1.2.2]
  repeat' (first|(with_reducible first|apply qA|apply qB|apply qC|apply qD|apply qE|apply qF)|(refine qL rfl (WF.of ?_) ?_; first|rfl|skip)|(simp (disch:=omega) only [go_sem, simprocAttr, qN, qO, qP, qQ])|exact qM rfl rfl rfl|(refine qG rfl ?_)|(refine qH rfl ?_)|(refine qI rfl ?_ ?_<;>intro hc<;>(try simp only [go_sem] at hc))|(refine qJ ?_ ?_<;>intro hc<;>(try simp only [hc])<;>(try simp only [go_sem] at hc)))
  refine retS_bs rfl rfl rfl (get_all (p := fun k x => get k _ = some x ∧ x.nb = true) ?_)
  intro q hq
  simp only [List.mem_cons, Prod.mk.injEq, List.not_mem_nil, or_false] at hq
  rcases hq with rfl | rfl
  ·exact ⟨rfl, (by simp only [List.all_cons, List.all_nil, Blk.nb, rowC_nb, D.nb, D.nbs, C.nb, C.nbs, C.nbss, rows_nb eI_nb, Bool.and_true, Bool.not_false, Bool.and_self, bD, dI, iD])⟩
  ·exact ⟨rfl, rfl⟩
end Go.Dw.Seat.Pa
end
section
set_option linter.unusedSimpArgs false
set_option maxRecDepth 100000
namespace Go.Dw.Seat.Pa
open Go Go.Dw Go.IntWalk
abbrev CMemo := List ((Nat × Nat) × Cut)
def cFind : CMemo → Nat × Nat → Option Cut
 | [], _ => none
 | p :: t, k => if k = p.1 then some p.2 else cFind t k
def cUpd : CMemo → Nat × Nat → Cut → CMemo
 | [], k, v => [(k, v)]
 | p :: t, k, v => if k = p.1 then (k, v) :: t else p :: cUpd t k v
theorem cFind_upd {k j : Nat × Nat} {v : Cut} : ∀ M : CMemo, cFind (cUpd M k v) j = if j = k then some v else cFind M j
 | [] => by simp only [cUpd, cFind]
 | p :: t => by
  simp only [cUpd]
  by_cases h : k = p.1
  ·rw [if_pos h]
   simp only [cFind]
   by_cases h2 : j = k
   ·rw [if_pos h2, if_pos h2]
   ·rw [if_neg h2, if_neg h2, if_neg (by rw [← h]; exact h2)]
  ·rw [if_neg h]
   simp only [cFind, cFind_upd t]
   by_cases h2 : j = p.1
   ·rw [if_pos h2, if_neg (by rw [h2]; exact fun e => h e.symm), if_pos h2]
   ·rw [if_neg h2, if_neg h2]
def stepM (rec : Nat → Nat → CMemo → Cut × CMemo) (x y : Nat) (s : Cut × CMemo) (l : Ln) : Cut × CMemo :=
 (if s.1.n < (rec (oneF x y l).1 (oneF x y l).2 s.2).1.n + (rec (twoF x y l).1 (twoF x y l).2 (rec (oneF x y l).1 (oneF x y l).2 s.2).2).1.n then ⟨(rec (oneF x y l).1 (oneF x y l).2 s.2).1.n + (rec (twoF x y l).1 (twoF x y l).2 (rec (oneF x y l).1 (oneF x y l).2 s.2).2).1.n, some l⟩ else s.1, (rec (twoF x y l).1 (twoF x y l).2 (rec (oneF x y l).1 (oneF x y l).2 s.2).2).2)
def cutM (a c : Nat) : Nat → Nat → Nat → CMemo → Cut × CMemo
 | 0, _, _, M => (⟨0, none⟩, M)
 | f + 1, x, y, M => match cFind M (rchF a c x, rchF a c y) with
  | some v => (v, M)
  | none =>
   let s := if fitB a c (rchF a c x) (rchF a c y) then (lnsF a c (rchF a c x) (rchF a c y)).foldl (stepM (cutM a c f) (rchF a c x) (rchF a c y)) (⟨1, none⟩, M) else (⟨0, none⟩, M)
   (s.1, cUpd s.2 (rchF a c x, rchF a c y) s.1)
def MOk (a c : Nat) (M : CMemo) : Prop := ∀ k v, cFind M k = some v → v = cutI a c k.1 k.2
theorem foldM_ok {a c f x y : Nat} (hrec : ∀ u v M, u + v < x + y → MOk a c M → (cutM a c f u v M).1 = cutI a c u v ∧ MOk a c (cutM a c f u v M).2) : ∀ (ls : List Ln) (b : Cut) (M : CMemo), (∀ l ∈ ls, IsLn a c x y l) → MOk a c M →
  (ls.foldl (stepM (cutM a c f) x y) (b, M)).1 = ls.foldl (stepC (mst a c) x y) b ∧ MOk a c (ls.foldl (stepM (cutM a c f) x y) (b, M)).2
 | [], b, M, _, hM => ⟨rfl, hM⟩
 | l :: ls, b, M, h, hM => by
  have hl := ln_less (h l (by simp))
  obtain ⟨h1, h2⟩ := hrec (oneF x y l).1 (oneF x y l).2 M hl.1 hM
  obtain ⟨h3, h4⟩ := hrec (twoF x y l).1 (twoF x y l).2 _ hl.2 h2
  rw [List.foldl_cons, List.foldl_cons]
  have e : stepM (cutM a c f) x y (b, M) l = (stepC (mst a c) x y b l, (cutM a c f (twoF x y l).1 (twoF x y l).2 (cutM a c f (oneF x y l).1 (oneF x y l).2 M).2).2) := by
   unfold stepM stepC mst
   dsimp only
   rw [h1, h3]
  rw [e]
  exact foldM_ok hrec ls _ _ (fun t ht => h t (by simp [ht])) h4
theorem cutM_ok (a c : Nat) : ∀ (f x y : Nat) (M : CMemo), x + y < f → MOk a c M → (cutM a c f x y M).1 = cutI a c x y ∧ MOk a c (cutM a c f x y M).2
 | 0, _, _, _, h, _ => by omega
 | f + 1, x, y, M, h, hM => by
  have l1 := rch_le a c x
  have l2 := rch_le a c y
  rw [cutM]
  cases hf : cFind M (rchF a c x, rchF a c y) with
  | some v =>
   dsimp only
   exact ⟨by rw [hM _ _ hf]; exact cutI_rch a c x y, hM⟩
  | none =>
   dsimp only
   have upd : ∀ {v : Cut} {M' : CMemo}, v = cutI a c x y → MOk a c M' → MOk a c (cUpd M' (rchF a c x, rchF a c y) v) := fun hv hM' k u hk => by
    rw [cFind_upd] at hk
    split at hk
    ·rename_i e
     cases hk
     rw [hv, e]
     exact (cutI_rch a c x y).symm
    ·exact hM' k u hk
   have e := cutI_eq a c x y
   cases hfit : fitB a c (rchF a c x) (rchF a c y) with
   | false =>
    rw [hfit, if_neg Bool.false_ne_true] at e
    rw [if_neg Bool.false_ne_true]
    exact ⟨e.symm, upd e.symm hM⟩
   | true =>
    rw [hfit, if_pos rfl] at e
    rw [if_pos rfl]
    obtain ⟨h1, h2⟩ := foldM_ok (a := a) (c := c) (f := f) (x := rchF a c x) (y := rchF a c y) (fun u v M' huv hM' => cutM_ok a c f u v M' (by omega) hM') (lnsF a c (rchF a c x) (rchF a c y)) ⟨1, none⟩ M (fun l hl => lns_mem.1 hl) hM
    rw [← e] at h1
    exact ⟨h1, upd h1 h2⟩
theorem mok_nil (a c : Nat) : MOk a c [] := fun k v h => by cases h
end Go.Dw.Seat.Pa
end
section
set_option linter.unusedSimpArgs false
set_option maxRecDepth 100000
namespace Go.Dw.Seat.Pa
open Go Go.Dw Go.Proofs Go.IntWalk
def lnS : Option Ln → Int
 | none => -1
 | some l => sdI l.1
def lnA : Option Ln → Nat
 | none => 0
 | some l => l.2
abbrev cutV (v : Cut) : D := .agg [dI v.n, dI (lnS v.ln), dI (lnA v.ln)]
abbrev ckV (k : Nat × Nat) : Value := .agg #[.int .i64 k.1, .int .i64 k.2]
def cK (M : CMemo) : List Value := M.map fun p => ckV p.1
def cD (M : CMemo) : List D := M.map fun p => cutV p.2
theorem cK_ok (X Y : Nat) (M : CMemo) : keysOK (.arr .i64 2) (.agg #[.int .i64 X, .int .i64 Y]) (cK M) = true := by
 simp only [keysOK, cK, List.all_map, Bool.and_eq_true, List.all_eq_true]
 exact ⟨rfl, fun p _ => rfl⟩
theorem findL_cK (s : Nat × Nat) : ∀ (M : CMemo) (n : Nat), (match cFind M s with
  | some b => ∃ i, findL (ckV s) (cK M) n = some (n + i) ∧ (cD M)[i]? = some (cutV b) ∧ ∀ c, (cK M).set i (ckV s) = cK (cUpd M s c) ∧ (cD M).set i (cutV c) = cD (cUpd M s c)
  | none => findL (ckV s) (cK M) n = none ∧ ∀ c, cK M ++ [ckV s] = cK (cUpd M s c) ∧ cD M ++ [cutV c] = cD (cUpd M s c))
 | [], n => ⟨rfl, fun c => ⟨rfl, rfl⟩⟩
 | p :: t, n => by
  have ih := findL_cK s t (n + 1)
  simp only [cFind, cUpd]
  by_cases h : s = p.1
  ·rw [if_pos h]
   have hk : keyEq (ckV s) (ckV p.1) = true := by simp [keyEq, eqVs, h]
   refine ⟨0, ?_, rfl, fun c => ?_⟩
   ·simp only [cK, List.map_cons, findL, hk, if_true]; rfl
   ·simp only [if_pos h]
    exact ⟨rfl, rfl⟩
  ·rw [if_neg h]
   have hk : keyEq (ckV s) (ckV p.1) = false := by
    have h' : ¬ (s.1 = p.1.1 ∧ s.2 = p.1.2) := fun e => h (Prod.ext e.1 e.2)
    simp only [keyEq, eqVs, Bool.and_true, Bool.and_eq_false_iff, beq_eq_false_iff_ne]
    omega
   cases hf : cFind t s with
   | some b =>
    rw [hf] at ih
    obtain ⟨i, h1, h2, h3⟩ := ih
    refine ⟨i + 1, ?_, h2, fun c => ?_⟩
    ·have : n + (i + 1) = n + 1 + i := by omega
     rw [this]
     simpa only [cK, List.map_cons, findL, hk, Bool.false_eq_true, if_false] using h1
    ·obtain ⟨h4, h5⟩ := h3 c
     simp only [if_neg h]
     exact ⟨by simpa [cK] using h4, by simpa [cD] using h5⟩
   | none =>
    rw [hf] at ih
    obtain ⟨h1, h3⟩ := ih
    refine ⟨by simpa only [cK, List.map_cons, findL, hk, Bool.false_eq_true, if_false] using h1, fun c => ?_⟩
    obtain ⟨h4, h5⟩ := h3 c
    simp only [if_neg h]
    exact ⟨by simpa [cK] using h4, by simpa [cD] using h5⟩
theorem look_cK (X Y : Nat) (M : CMemo) (z : D) : lookIn z (cK M) (cD M) (.agg #[.int .i64 X, .int .i64 Y]) true = some (.tup [match cFind M (X, Y) with | some b => cutV b | none => z, .c (.v (.bool (cFind M (X, Y)).isSome))]) := by
 have h := findL_cK (X, Y) M 0
 unfold lookIn
 cases hf : cFind M (X, Y) with
 | some b =>
  rw [hf] at h
  obtain ⟨i, h1, h2, _⟩ := h
  rw [Nat.zero_add] at h1
  simp only [h1, h2, commaD, if_true]; rfl
 | none =>
  rw [hf] at h
  simp only [h.1, commaD, if_true]; rfl
theorem upd_cK (X Y : Nat) (M : CMemo) (c : Cut) : updK (cK M) (cD M) (.agg #[.int .i64 X, .int .i64 Y]) (.agg [dI c.n, dI (lnS c.ln), dI (lnA c.ln)]) = (cK (cUpd M (X, Y) c), cD (cUpd M (X, Y) c)) := by
 have h := findL_cK (X, Y) M 0
 unfold updK
 cases hf : cFind M (X, Y) with
 | some b =>
  rw [hf] at h
  obtain ⟨i, h1, h2, h3⟩ := h
  rw [Nat.zero_add] at h1
  simp only [h1, (h3 c).1, (h3 c).2]
 | none =>
  rw [hf] at h
  simp only [h.1, (h.2 c).1, (h.2 c).2]
theorem cD_nb (M : CMemo) : D.nbs (cD M) = true := by
 induction M with
 | nil => rfl
 | cons p m ih => simp only [cD, List.map_cons, D.nbs, Bool.and_eq_true]; exact ⟨rfl, ih⟩
theorem cD_men (k : Nat) (M : CMemo) : D.mens k (cD M) = false := by
 induction M with
 | nil => rfl
 | cons p m ih => simpa [cD, D.mens, D.men, dI] using ih
theorem cD_keys (bx : List (Nat × Blk)) (M : CMemo) : D.keysIns bx (cD M) = true := by
 induction M with
 | nil => rfl
 | cons p m ih => simpa [cD, D.keysIns, D.keysIn, dI] using ih
theorem killB_cD [Lays] (k l : Nat) (ks : List Value) (M : CMemo) : killB k (.pmap l ks (cD M)) = .pmap l ks (cD M) := by
 show Blk.pmap l ks ((cD M).map (killD k)) = _
 rw [map_killD_of (cD_men k M)]
abbrev ctB (lm : Nat) (M : CMemo) : Nat × Blk := (7, .pmap lm (cK M) (cD M))
attribute [go_sem] killB_cD cK_ok look_cK upd_cK cD_men cD_keys ctB sawD sawC
theorem ctB_ok (r : D) (hr : ∀ k, r.men k = false) (lm : Nat) (M : CMemo) : okRes r [ctB lm M] := by
 refine ⟨fun k _ => hr k, fun j x hj k hk => ?_⟩
 simp only [get] at hj
 split at hj
 ·cases hj; exact cD_men k M
 ·cases hj
theorem ctB_nb (lm : Nat) (M : CMemo) {k : Nat} {x : Blk} (hk : get k [ctB lm M] = some x) : k = 7 ∧ x = .pmap lm (cK M) (cD M) ∧ x.nb = true := by
 simp only [get] at hk
 split at hk
 ·rename_i e; cases hk; exact ⟨e, rfl, cD_nb M⟩
 ·cases hk
end Go.Dw.Seat.Pa
end
section
set_option linter.unusedSimpArgs false
set_option maxRecDepth 100000
namespace Go.Dw.Seat.Pa
open Go Go.Dw Go.Proofs Go.IntWalk
def CutC (p : PBs) (b : PBx) (RX RY : List Int) (nx ny lm f : Nat) : Prop := ∀ X Y M, MOk (bLg b) (bWd b) M → X ≤ nx → Y ≤ ny → X + Y < f → DCall Try.prog 88 [sawD p b RX RY lm, rctD X Y] [ctB lm M] (cutV (cutI (bLg b) (bWd b) X Y)) [ctB lm (cutM (bLg b) (bWd b) f X Y M).2]
def stS (a c f X Y : Nat) (s : Cut × CMemo) (l : Ln) : Option Exit × (Cut × CMemo) := (none, stepM (cutM a c f) X Y s l)
theorem st_run (a c f X Y : Nat) : ∀ (L : List Ln) (s : Cut × CMemo), runIt (stS a c f X Y) s L = (none, L.foldl (stepM (cutM a c f) X Y) s)
 | [], _ => rfl
 | l :: L, s => by simp only [runIt, stS, List.foldl_cons]; exact st_run a c f X Y L _
theorem one_le {a c X Y : Nat} {l : Ln} (h : l ∈ lnsF a c X Y) : ((oneF X Y l).1 ≤ X ∧ (oneF X Y l).2 ≤ Y) ∧ ((twoF X Y l).1 ≤ X ∧ (twoF X Y l).2 ≤ Y) ∧ l.2 ≤ if l.1 then Y else X := by
 have h1 := (lns_mem.1 h).half
 obtain ⟨s, t⟩ := l
 cases s <;> simp [oneF, twoF] at h1 ⊢ <;> omega
theorem mst_xy {a c : Nat} (ha : 0 < a) (hc : 0 < c) {x y : Nat} (hx : x ≤ 140) (hy : y ≤ 140) : mst a c x y ≤ 19600 := by
 have h1 := mst_bnd ha hc x y
 have h2 := Nat.div_le_self (rchF a c x * rchF a c y) (a * c)
 have h3 : rchF a c x * rchF a c y ≤ 140 * 140 := Nat.mul_le_mul (Nat.le_trans (rch_le a c x) hx) (Nat.le_trans (rch_le a c y) hy)
 unfold bndF at h1
 omega
set_option maxHeartbeats 4000000 in
theorem plCut1 (p : PBs) (b : PBx) (hb : b.ok) (RX RY : List Int) (nx ny : Nat) (hrx : Rch (bLg b) (bWd b) RX nx) (hry : Rch (bLg b) (bWd b) RY ny) (hnx : nx ≤ 140) (hny : ny ≤ 140) (lm f : Nat) (ih : CutC p b RX RY nx ny lm f) : CutC p b RX RY nx ny lm (f + 1) := by
 intro X Y M hMO hX hY hf
 have ha : 0 < bLg b := by have := hb.lg; show 0 < b.lg.toNat; omega
 have hc : 0 < bWd b := by have := hb.wd; show 0 < b.wd.toNat; omega
 rw [← (cutM_ok (bLg b) (bWd b) (f + 1) X Y M hf hMO).1]
 have hl1 := rch_le (bLg b) (bWd b) X
 have hl2 := rch_le (bLg b) (bWd b) Y
 have hgx := hrx.get X hX
 have hgy := hry.get Y hY
 have hlx := hrx.len
 have hly := hry.len
 have hiX : (X < nx + 1) = True := eq_true (by omega)
 have hiY : (Y < ny + 1) = True := eq_true (by omega)
 have hfits := plFits p b hb RX RY lm (rchF (bLg b) (bWd b) X) (rchF (bLg b) (bWd b) Y)
 have hsnd := fitT_snd (bLg b) (bWd b) (rchF (bLg b) (bWd b) X) (rchF (bLg b) (bWd b) Y)
 have hlines := plLines p b RX RY lm (rchF (bLg b) (bWd b) X) (rchF (bLg b) (bWd b) Y)
 have hit := plLines1 p b RX RY nx ny hrx hry (by omega) (by omega) lm (rchF (bLg b) (bWd b) X) (rchF (bLg b) (bWd b) Y) (by omega) (by omega)
 rw [cutM]
 unfold CutC at ih
 generalize bLg b = a at *
 generalize bWd b = c at *
 have hone := fun l => one_le (a := a) (c := c) (X := rchF a c X) (Y := rchF a c Y) (l := l)
 have hless := fun l (h : l ∈ lnsF a c (rchF a c X) (rchF a c Y)) => ln_less (lns_mem.1 h)
 generalize rchF a c X = X' at *
 generalize rchF a c Y = Y' at *
 refine DCall.of Try.func88 sf88 hb88 (Nat.le_of_ble_eq_true rfl) (ctB_ok _ (fun _ => rfl) _ _) ?_
 simp only [s88, o88_0, o88_1, o88_2, o88_3, o88_4, o88_5, o88_6, o88_7, o88_8, o88_9, o88_10, o88_11, o88_12, o88_13, o88_14, o88_15, o88_16, o88_17, o88_18, o88_19, idxs, Nat.reduceAdd]
 repeat' (first|(with_reducible first|apply qA|apply qB|apply qC|apply qD|apply qE|apply qF)|(refine qL rfl (WF.of ?_) ?_; first|rfl|skip)|(refine DW.ord rfl (WF.of (by first|rfl|simp (disch:=omega) only [go_sem, simprocAttr, qN, qO, qP, qQ])) ?_ ?_ ?_; rotate_left)|rfl|(with_reducible refine And.intro ?_ ?_)|(simp (disch:=omega) only [go_sem, simprocAttr, qN, qO, qP, qQ])|exact qM rfl rfl rfl|(refine qG rfl ?_)|(refine qH rfl ?_)|(refine qI rfl ?_ ?_<;>intro hc<;>(try simp only [go_sem] at hc))|(refine qJ ?_ ?_<;>intro hc<;>(try simp only [hc])<;>(try simp only [go_sem] at hc)))
 obtain ⟨r0, hr0⟩ : ∃ r : Nat → Nat, r 0 = X ∧ r 1 = X' ∧ r 2 = X' := ⟨fun k => if k = 0 then X else X', rfl, rfl, rfl⟩
 obtain ⟨r1, hr1⟩ : ∃ r : Nat → Nat, r 0 = Y ∧ r 1 = Y ∧ r 2 = Y' := ⟨fun k => if k ≤ 1 then Y else Y', rfl, rfl, rfl⟩
 refine DW.loop (ι := { k : Nat // k ≤ 2 }) (fun k => ⟨86, [(15, dI k.1), (4, .box 4 0), (3, .box 3 0), (2, .box 2 0)], [ctB lm M, (4, .box [dI 0, dI 0, dI 0]), (3, .box [dI (r0 k.1), dI (r1 k.1)]), (2, .box [sawD p b RX RY lm])]⟩) (fun k => 2 - k.1) ⟨0, by decide⟩ ?_ ?_
 ·refine Ent.to ?_ ?_ <;> simp (disch:=omega) only [qR,qS,qTw,qU,get,Nat.reduceEqDiff,↓reduceIte,qV,qW,qX,qY,qZ,and_self,dI,i64_in,and_true,true_and,rA,rB,rC,rD,hr0.1,hr1.1]
  all_goals first | exact ⟨.refl _, .refl _, .refl _⟩ | exact ⟨.refl _, .refl _⟩ | exact .refl _
 rintro ⟨k, hk⟩
 dsimp only
 match k, hk with
 | 0, _ =>
  rw [hr0.1, hr1.1]
  repeat' (first|(with_reducible first|apply qA|apply qB|apply qC|apply qD|apply qE|apply qF)|(refine qL rfl (WF.of ?_) ?_; first|rfl|skip)|(refine DW.ord rfl (WF.of (by first|rfl|simp (disch:=omega) only [go_sem, simprocAttr, qN, qO, qP, qQ, hgx, hlx, hiX, rF, rG])) ?_ ?_ ?_; rotate_left)|rfl|(with_reducible refine And.intro ?_ ?_)|(simp (disch:=omega) only [go_sem, simprocAttr, qN, qO, qP, qQ, hgx, hlx, hiX, rF, rG])|exact qM rfl rfl rfl|(refine qG rfl ?_)|(refine qH rfl ?_)|(refine qI rfl ?_ ?_<;>intro hc<;>(try simp only [go_sem] at hc))|(refine qJ ?_ ?_<;>intro hc<;>(try simp only [hc])<;>(try simp only [go_sem] at hc)))
  refine ⟨⟨1, by decide⟩, ?_, Ent.to ?_ ?_⟩ <;> first | (show _ < _; (try simp only); omega) | (simp (disch:=omega) only [qR,qS,qTw,qU,get,Nat.reduceEqDiff,↓reduceIte,qV,qW,qX,qY,qZ,and_self,dI,i64_in,and_true,true_and,rA,rB,rC,rD, hr0.2.1,hr1.2.1])
  all_goals first | exact ⟨.refl _, .refl _, .refl _⟩ | exact ⟨.refl _, .refl _⟩ | exact .refl _
 | 1, _ =>
  rw [hr0.2.1, hr1.2.1]
  repeat' (first|(with_reducible first|apply qA|apply qB|apply qC|apply qD|apply qE|apply qF)|(refine qL rfl (WF.of ?_) ?_; first|rfl|skip)|(refine DW.ord rfl (WF.of (by first|rfl|simp (disch:=omega) only [go_sem, simprocAttr, qN, qO, qP, qQ, hgy, hly, hiY, rF, rG])) ?_ ?_ ?_; rotate_left)|rfl|(with_reducible refine And.intro ?_ ?_)|(simp (disch:=omega) only [go_sem, simprocAttr, qN, qO, qP, qQ, hgy, hly, hiY, rF, rG])|exact qM rfl rfl rfl|(refine qG rfl ?_)|(refine qH rfl ?_)|(refine qI rfl ?_ ?_<;>intro hc<;>(try simp only [go_sem] at hc))|(refine qJ ?_ ?_<;>intro hc<;>(try simp only [hc])<;>(try simp only [go_sem] at hc)))
  refine ⟨⟨2, by decide⟩, ?_, Ent.to ?_ ?_⟩ <;> first | (show _ < _; (try simp only); omega) | (simp (disch:=omega) only [qR,qS,qTw,qU,get,Nat.reduceEqDiff,↓reduceIte,qV,qW,qX,qY,qZ,and_self,dI,i64_in,and_true,true_and,rA,rB,rC,rD, hr0.2.2,hr1.2.2])
  all_goals first | exact ⟨.refl _, .refl _, .refl _⟩ | exact ⟨.refl _, .refl _⟩ | exact .refl _
 | 2, _ =>
  rw [hr0.2.2, hr1.2.2]
  clear hr0 hr1 hgx hgy hlx hly hiX hiY
  cases hm : cFind M (X', Y') with
  | some v =>
   repeat' (first|(with_reducible first|apply qA|apply qB|apply qC|apply qD|apply qE|apply qF)|(refine qL rfl (WF.of ?_) ?_; first|rfl|skip)|(refine DW.ord rfl (WF.of (by first|rfl|simp (disch:=omega) only [go_sem, simprocAttr, qN, qO, qP, qQ, hm, Option.isSome_some, rF, rG])) ?_ ?_ ?_; rotate_left)|rfl|(with_reducible refine And.intro ?_ ?_)|(simp (disch:=omega) only [go_sem, simprocAttr, qN, qO, qP, qQ, hm, Option.isSome_some, rF, rG])|exact qM rfl rfl rfl|(refine qG rfl ?_)|(refine qH rfl ?_)|(refine qI rfl ?_ ?_<;>intro hc<;>(try simp only [go_sem] at hc))|(refine qJ ?_ ?_<;>intro hc<;>(try simp only [hc])<;>(try simp only [go_sem] at hc)))
   exact retS_bs rfl rfl rfl (fun j x hj => by
    obtain ⟨rfl, rfl, hn⟩ := ctB_nb lm M hj
    exact ⟨rfl, hn⟩)
  | none =>
   generalize fitT a c X' Y' = ft at *
   obtain ⟨ft1, ft2⟩ := ft
   dsimp only at hsnd hfits ⊢
   rw [← hsnd]
   clear hsnd
   cases ft2 with
   | false =>
    rw [if_neg Bool.false_ne_true]
    dsimp only
    have hupd : updK (cK M) (cD M) (.agg #[.int .i64 X', .int .i64 Y']) (.agg [dI 0, dI (-1), dI 0]) = (cK (cUpd M (X', Y') ⟨0, none⟩), cD (cUpd M (X', Y') ⟨0, none⟩)) := upd_cK X' Y' M ⟨0, none⟩
    repeat' (first|(with_reducible first|apply qA|apply qB|apply qC|apply qD|apply qE|apply qF)|(refine qL rfl (WF.of ?_) ?_; first|rfl|skip)|(refine DW.ord rfl (WF.of (by first|rfl|simp (disch:=omega) only [go_sem, simprocAttr, qN, qO, qP, qQ, hm, Option.isSome_none, hupd, rF, rG])) ?_ ?_ ?_; rotate_left)|rfl|(with_reducible refine And.intro ?_ ?_)|(simp (disch:=omega) only [go_sem, simprocAttr, qN, qO, qP, qQ, hm, Option.isSome_none, hupd, rF, rG])|exact qM rfl rfl rfl|(refine qG rfl ?_)|(refine qK (hfits) (by decide) ?_)|(refine qH rfl ?_)|(refine qI rfl ?_ ?_<;>intro hc<;>(try simp only [go_sem] at hc))|(refine qJ ?_ ?_<;>intro hc<;>(try simp only [hc])<;>(try simp only [go_sem] at hc)))
    exact retS_bs rfl rfl rfl (fun j x hj => by
     obtain ⟨rfl, rfl, hn⟩ := ctB_nb lm _ hj
     exact ⟨rfl, hn⟩)
   | true =>
    rw [if_pos rfl]
    repeat' (first|(with_reducible first|apply qA|apply qB|apply qC|apply qD|apply qE|apply qF)|(refine qL rfl (WF.of ?_) ?_; first|rfl|skip)|(refine DW.ord rfl (WF.of (by first|rfl|simp (disch:=omega) only [go_sem, simprocAttr, qN, qO, qP, qQ, hm, Option.isSome_none, rF, rG])) ?_ ?_ ?_; rotate_left)|rfl|(with_reducible refine And.intro ?_ ?_)|(simp (disch:=omega) only [go_sem, simprocAttr, qN, qO, qP, qQ, hm, Option.isSome_none, rF, rG])|exact qM rfl rfl rfl|(refine qG rfl ?_)|(refine qK (hfits) (by decide) ?_)|(refine qK (hlines) (by decide) ?_)|(refine qH rfl ?_)|(refine qI rfl ?_ ?_<;>intro hc<;>(try simp only [go_sem] at hc))|(refine qJ ?_ ?_<;>intro hc<;>(try simp only [hc])<;>(try simp only [go_sem] at hc)))
    have htM : ∀ l ∈ lnsF a c X' Y', ∀ M1, MOk a c M1 → ((cutM a c f (oneF X' Y' l).1 (oneF X' Y' l).2 M1).1 = cutI a c (oneF X' Y' l).1 (oneF X' Y' l).2 ∧ MOk a c (cutM a c f (oneF X' Y' l).1 (oneF X' Y' l).2 M1).2) ∧ (cutM a c f (twoF X' Y' l).1 (twoF X' Y' l).2 (cutM a c f (oneF X' Y' l).1 (oneF X' Y' l).2 M1).2).1 = cutI a c (twoF X' Y' l).1 (twoF X' Y' l).2 ∧ MOk a c (cutM a c f (twoF X' Y' l).1 (twoF X' Y' l).2 (cutM a c f (oneF X' Y' l).1 (oneF X' Y' l).2 M1).2).2 := fun l hl M1 h1 => by
     have hle := hless l hl
     have e1 := cutM_ok a c f (oneF X' Y' l).1 (oneF X' Y' l).2 M1 (by omega) h1
     exact ⟨e1, cutM_ok a c f (twoF X' Y' l).1 (twoF X' Y' l).2 _ (by omega) e1.2⟩
    refine DW.ent (σ' := ⟨86, [(55, .fn (.func 177) [] [.c (.ro false [.v (.int .i64 X'), .v (.int .i64 Y')] 0), .c (.ro false [sawC p b RX RY lm] 0)]), (8, .box 8 0), (4, .box 4 0), (3, .box 3 0), (2, .box 2 0)], [ctB lm M, (8, .box [dI 1, dI (-1), dI 0]), (4, .box [dI 0, dI 0, dI 0]), (3, .box [dI X', dI Y']), (2, .box [sawD p b RX RY lm])]⟩) (Ent.to ?_ ?_) ?_
    ·simp (disch:=omega) only [qR,qS,qTw,qU,get,Nat.reduceEqDiff,↓reduceIte,qV,qW,qX,qY,qZ,and_self,dI,i64_in,and_true,true_and,rA,rB,rC,rD]
    ·simp (disch:=omega) only [qR,qS,qTw,qU,get,Nat.reduceEqDiff,↓reduceIte,qV,qW,qX,qY,qZ,and_self,dI,i64_in,and_true,true_and,rA,rB,rC,rD]
    refine DW.rngBS (fs := []) (caps := [.c (.ro false [.v (.int .i64 X'), .v (.int .i64 Y')] 0), .c (.ro false [sawC p b RX RY lm] 0)]) (fun y : Cut × CMemo => [ctB lm y.2, (8, .box [dI y.1.n, dI (lnS y.1.ln), dI (lnA y.1.ln)]), (4, .box [dI 0, dI 0, dI 0]), (3, .box [dI X', dI Y']), (2, .box [sawD p b RX RY lm])]) (⟨1, none⟩, M) (stS a c f X' Y') enL (fun l => l ∈ lnsF a c X' Y') (lnsF a c X' Y') hit (fun _ y => MOk a c y.2) hMO (fun y l t hy hl _ => (htM l hl y.2 hy).2.2) rfl (fun _ => ⟨rfl, rfl⟩) rfl (by decide) (fun _ _ => rfl) (fun _ _ _ => rfl) (by simp only [List.map_cons, List.map_nil]; decide) (fun _ => rfl) (fun y => by show (_ && (D.keysIns _ (cD y.2) && _)) = true; rw [cD_keys]; rfl) (fun y => by show (D.nbs (cD y.2) && _) = true; rw [cD_nb, Bool.true_and]; exact (by simp only [List.all_cons, List.all_nil, Blk.nb, rowC_nb, D.nb, D.nbs, C.nb, C.nbs, C.nbss, rows_nb eI_nb, Bool.and_true, Bool.not_false, Bool.and_self, bD, dI, iD])) (by simp only [List.all_cons, List.all_nil, Blk.nb, rowC_nb, D.nb, D.nbs, C.nb, C.nbs, C.nbss, rows_nb eI_nb, Bool.and_true, Bool.not_false, Bool.and_self, bD, dI, iD]) (fun _ _ => rfl) ?_ ?_
    ·rintro ⟨y, M1⟩ l t hM1 hl v
     dsimp only at hM1
     obtain ⟨⟨e1, hM2⟩, e2, hM3⟩ := htM l hl M1 hM1
     have hle := hless l hl
     obtain ⟨hl1, hl2, hl3⟩ := hone l hl
     have hparts := plLnParts X' Y' l (by omega) (by omega) hl3
     have h1 := ih (oneF X' Y' l).1 (oneF X' Y' l).2 M1 hM1 (by omega) (by omega) (by omega)
     have h2 := ih (twoF X' Y' l).1 (twoF X' Y' l).2 _ hM2 (by omega) (by omega) (by omega)
     have b1 := mst_xy ha hc (x := (oneF X' Y' l).1) (y := (oneF X' Y' l).2) (by omega) (by omega)
     have b2 := mst_xy ha hc (x := (twoF X' Y' l).1) (y := (twoF X' Y' l).2) (by omega) (by omega)
     rw [mst] at b1 b2
     have hS : stS a c f X' Y' (y, M1) l = (none, (if y.n < (cutI a c (oneF X' Y' l).1 (oneF X' Y' l).2).n + (cutI a c (twoF X' Y' l).1 (twoF X' Y' l).2).n then ⟨(cutI a c (oneF X' Y' l).1 (oneF X' Y' l).2).n + (cutI a c (twoF X' Y' l).1 (twoF X' Y' l).2).n, some l⟩ else y, (cutM a c f (twoF X' Y' l).1 (twoF X' Y' l).2 (cutM a c f (oneF X' Y' l).1 (oneF X' Y' l).2 M1).2).2)) := by
      unfold stS stepM
      dsimp only
      rw [e1, e2]
     rw [hS]
     clear hS e1 e2 htM hone hless hit ih
     generalize (cutM a c f (twoF X' Y' l).1 (twoF X' Y' l).2 (cutM a c f (oneF X' Y' l).1 (oneF X' Y' l).2 M1).2).2 = M3 at *
     generalize (cutM a c f (oneF X' Y' l).1 (oneF X' Y' l).2 M1).2 = M2 at *
     generalize cutI a c (oneF X' Y' l).1 (oneF X' Y' l).2 = C1 at *
     generalize cutI a c (twoF X' Y' l).1 (twoF X' Y' l).2 = C2 at *
     generalize (oneF X' Y' l).1 = o1 at *
     generalize (oneF X' Y' l).2 = o2 at *
     generalize (twoF X' Y' l).1 = q1 at *
     generalize (twoF X' Y' l).2 = q2 at *
     simp (disch:=omega) only [go_sem,simprocAttr,qN,qO,qP,qQ,rF,rG,enL]
     by_cases hlt : y.n < C1.n + C2.n
     ·have hd : decide ((y.n : Int) < (C1.n : Int) + (C2.n : Int)) = true := decide_eq_true (by omega)
      rw [if_pos hlt]
      repeat' (first|(with_reducible first|apply qA|apply qB|apply qC|apply qD|apply qE|apply qF)|(refine qL rfl (WF.of ?_) ?_; first|rfl|skip)|(refine DW.ord rfl (WF.of (by first|rfl|simp (disch:=omega) only [go_sem, simprocAttr, qN, qO, qP, qQ, rF, rG, del, cD_keys, hd, Bool.and_self, Bool.and_true, Bool.true_and])) ?_ ?_ ?_; rotate_left)|rfl|(with_reducible refine And.intro ?_ ?_)|(simp (disch:=omega) only [go_sem, simprocAttr, qN, qO, qP, qQ, rF, rG, del, cD_keys, hd, Bool.and_self, Bool.and_true, Bool.true_and])|exact qM rfl rfl rfl|(refine qG rfl ?_)|(refine qK (hparts) (by decide) ?_)|(refine call_hk 7 (h1) rfl rfl rfl (by simp (disch:=omega) only [go_sem, simprocAttr, qN, qO, qP, qQ, del]) (by decide) ?_)|(refine call_hk 7 (h2) rfl rfl rfl (by simp (disch:=omega) only [go_sem, simprocAttr, qN, qO, qP, qQ, del]) (by decide) ?_)|(refine qH rfl ?_)|(refine qI rfl ?_ ?_<;>intro hc<;>(try simp only [go_sem] at hc))|(refine qJ ?_ ?_<;>intro hc<;>(try simp only [hc])<;>(try simp only [go_sem] at hc)))
      refine round_end rfl rfl (Ent.to ?_ ?_) <;> simp (disch:=omega) only [qR,qS,qTw,qU,get,Nat.reduceEqDiff,↓reduceIte,qV,qW,qX,qY,qZ,and_self,dI,i64_in,and_true,true_and,rA,rB,rC,rD,capB,List.cons_append,List.nil_append,lnS,lnA,rA]
      all_goals first | exact ⟨.refl _, .refl _, .refl _⟩ | exact ⟨.refl _, .refl _⟩ | exact .refl _
     ·have hd : decide ((y.n : Int) < (C1.n : Int) + (C2.n : Int)) = false := decide_eq_false (by omega)
      rw [if_neg hlt]
      repeat' (first|(with_reducible first|apply qA|apply qB|apply qC|apply qD|apply qE|apply qF)|(refine qL rfl (WF.of ?_) ?_; first|rfl|skip)|(refine DW.ord rfl (WF.of (by first|rfl|simp (disch:=omega) only [go_sem, simprocAttr, qN, qO, qP, qQ, rF, rG, del, cD_keys, hd, Bool.and_self, Bool.and_true, Bool.true_and])) ?_ ?_ ?_; rotate_left)|rfl|(with_reducible refine And.intro ?_ ?_)|(simp (disch:=omega) only [go_sem, simprocAttr, qN, qO, qP, qQ, rF, rG, del, cD_keys, hd, Bool.and_self, Bool.and_true, Bool.true_and])|exact qM rfl rfl rfl|(refine qG rfl ?_)|(refine qK (hparts) (by decide) ?_)|(refine call_hk 7 (h1) rfl rfl rfl (by simp (disch:=omega) only [go_sem, simprocAttr, qN, qO, qP, qQ, del]) (by decide) ?_)|(refine call_hk 7 (h2) rfl rfl rfl (by simp (disch:=omega) only [go_sem, simprocAttr, qN, qO, qP, qQ, del]) (by decide) ?_)|(refine qH rfl ?_)|(refine qI rfl ?_ ?_<;>intro hc<;>(try simp only [go_sem] at hc))|(refine qJ ?_ ?_<;>intro hc<;>(try simp only [hc])<;>(try simp only [go_sem] at hc)))
      refine round_end rfl rfl (Ent.to ?_ ?_) <;> simp (disch:=omega) only [qR,qS,qTw,qU,get,Nat.reduceEqDiff,↓reduceIte,qV,qW,qX,qY,qZ,and_self,dI,i64_in,and_true,true_and,rA,rB,rC,rD,capB,List.cons_append,List.nil_append]
    ·rw [st_run]
     generalize (lnsF a c X' Y').foldl (stepM (cutM a c f) X' Y') (⟨1, none⟩, M) = R at *
     obtain ⟨v, M3⟩ := R
     dsimp only
     simp (disch:=omega) only [go_sem,simprocAttr,qN,qO,qP,qQ,Option.getD_none]
     have hupd := upd_cK X' Y' M3 v
     repeat' (first|(with_reducible first|apply qA|apply qB|apply qC|apply qD|apply qE|apply qF)|(refine qL rfl (WF.of ?_) ?_; first|rfl|skip)|(refine DW.ord rfl (WF.of (by first|rfl|simp (disch:=omega) only [go_sem, simprocAttr, qN, qO, qP, qQ, hupd, rF, rG])) ?_ ?_ ?_; rotate_left)|rfl|(with_reducible refine And.intro ?_ ?_)|(simp (disch:=omega) only [go_sem, simprocAttr, qN, qO, qP, qQ, hupd, rF, rG])|exact qM rfl rfl rfl|(refine qG rfl ?_)|(refine qH rfl ?_)|(refine qI rfl ?_ ?_<;>intro hc<;>(try simp only [go_sem] at hc))|(refine qJ ?_ ?_<;>intro hc<;>(try simp only [hc])<;>(try simp only [go_sem] at hc)))
     exact retS_bs rfl rfl rfl (fun j x hj => by
      obtain ⟨rfl, rfl, hn⟩ := ctB_nb lm _ hj
      exact ⟨rfl, hn⟩)
theorem plCut (p : PBs) (b : PBx) (hb : b.ok) (RX RY : List Int) (nx ny : Nat) (hrx : Rch (bLg b) (bWd b) RX nx) (hry : Rch (bLg b) (bWd b) RY ny) (hnx : nx ≤ 140) (hny : ny ≤ 140) (lm : Nat) : ∀ f, CutC p b RX RY nx ny lm f
 | 0 => fun _ _ _ _ _ _ h => by omega
 | f + 1 => plCut1 p b hb RX RY nx ny hrx hry hnx hny lm f (plCut p b hb RX RY nx ny hrx hry hnx hny lm f)
end Go.Dw.Seat.Pa
end
section
set_option linter.unusedSimpArgs false
set_option maxRecDepth 100000
namespace Go.Dw.Seat.Pa
open Go Go.Dw Go.Proofs Go.IntWalk
abbrev sawCL (lab : Bool) (p : PBs) (b : PBx) (RX RY : List Int) (lm : Nat) : D := .c (.ro lab [.v (.int .i64 p.lg), .v (.int .i64 p.wd), .v (.int .i64 p.hi), .v (.int .i64 p.ov), .v (.int .i64 p.top), .v (.int .i64 p.load), .v (.int .i64 b.lg), .v (.int .i64 b.wd), .v (.int .i64 b.hi), .v (.int .i64 b.wl), .v (.int .i64 b.wh), .v (.int .i64 b.sl), .v (.int .i64 b.sh), .sl false 1 (rows eI RX), .sl false 1 (rows eI RY), .v (.map (some lm))] 0)
attribute [go_sem] sawCL
theorem cD_pl (M : CMemo) : D.pls (cD M) = true := by
 induction M with
 | nil => rfl
 | cons p m ih => simp only [cD, List.map_cons, D.pls, Bool.and_eq_true]; exact ⟨rfl, ih⟩
theorem pinDs_cD (k p : Nat) (M : CMemo) : pinDs k p (cD M) = cD M := by
 induction M with
 | nil => rfl
 | cons q m ih => simp only [cD, List.map_cons, pinDs] at ih ⊢; rw [ih]; rfl
attribute [go_sem] pinDs_cD
theorem plCutL (lab : Bool) (p : PBs) (b : PBx) (hb : b.ok) (RX RY : List Int) (nx ny : Nat) (hrx : Rch (bLg b) (bWd b) RX nx) (hry : Rch (bLg b) (bWd b) RY ny) (hnx : nx ≤ 140) (hny : ny ≤ 140) (lm X Y : Nat) (hX : X ≤ nx) (hY : Y ≤ ny) (M : CMemo) (hM : MOk (bLg b) (bWd b) M) :
  DCall Try.prog 88 [sawCL lab p b RX RY lm, rctD X Y] [ctB lm M] (cutV (cutI (bLg b) (bWd b) X Y)) [ctB lm (cutM (bLg b) (bWd b) (X + Y + 1) X Y M).2] :=
 DCall.lblM (plCut p b hb RX RY nx ny hrx hry hnx hny lm (X + Y + 1) X Y M hM hX hY (by omega)) rfl (cD_pl _) (cD_pl _) (.ro (.same .nil))
def mostX (p : PBs) (b : PBx) : Int := if chkE p b = 0 then ((mst (bLg b) (bWd b) (rxN p) (ryN p) : Nat) : Int) else 0
set_option maxHeartbeats 4000000 in
theorem plMost (p : PBs) (b : PBx) : DCall Try.prog 48 [bsD p, bxD b] [] (.tup [dI (mostX p b), dI (chkE p b)]) [] := by
 have h0 := plCheck p b
 unfold mostX
 by_cases hc : chkE p b = 0
 ·obtain ⟨hp, hb⟩ := chk_ok.1 hc
  rw [if_pos hc]
  rw [hc] at h0 ⊢
  have hr := plRoom p b hp
  obtain ⟨hx, hy⟩ := rm_in hp
  have hX : rmX p = ((rxN p : Nat) : Int) := (Int.toNat_of_nonneg hx.1).symm
  have hY : rmY p = ((ryN p : Nat) : Int) := (Int.toNat_of_nonneg hy.1).symm
  have hnX : rxN p ≤ 140 := by show (rmX p).toNat ≤ 140; omega
  have hnY : ryN p ≤ 140 := by show (rmY p).toNat ≤ 140; omega
  rw [hX, hY] at hr
  have hsaw := plNewSaw p b hp hb
  have hcut := fun lm => plCutL true p b hb _ _ _ _ (rcL_ok (bLg b) (bWd b) (rxN p)) (rcL_ok (bLg b) (bWd b) (ryN p)) hnX hnY lm (rxN p) (ryN p) (Nat.le_refl _) (Nat.le_refl _) [] (mok_nil _ _)
  rw [mst]
  generalize rcL (bLg b) (bWd b) (rxN p) = L1 at *
  generalize rcL (bLg b) (bWd b) (ryN p) = L2 at *
  generalize (cutM (bLg b) (bWd b) (rxN p + ryN p + 1) (rxN p) (ryN p) []).2 = M1 at *
  generalize cutI (bLg b) (bWd b) (rxN p) (ryN p) = C at *
  generalize rxN p = nx at *
  generalize ryN p = ny at *
  have hcut' : ∀ lm, DCall Try.prog 88 [sawCL true p b L1 L2 lm, rctD nx ny] [(7, pinO lm (pinB 7 lm (.map [] [])))] (pinD 7 lm (cutV C)) [(7, pinO lm (pinB 7 lm (.map (cK M1) (cD M1))))] := fun lm => by
   have h := hcut lm
   show DCall Try.prog 88 _ _ _ [(7, .pmap lm (cK M1) (pinDs 7 lm (cD M1)))]
   rw [pinDs_cD]
   exact h
  refine DCall.of Try.func48 sf48 hb48 (Nat.le_of_ble_eq_true rfl) (okRes_nil fun _ => rfl) ?_; simp only [s48, o48_0, o48_1, o48_2, o48_3, o48_4, o48_5, idxs, Nat.reduceAdd]
  repeat' (first|(with_reducible first|apply qA|apply qB|apply qC|apply qD|apply qE|apply qF)|(simp (disch:=omega) only [go_sem, simprocAttr, qN, qO, qP, qQ])|exact qM rfl rfl rfl|(refine qG rfl ?_)|(refine qK (h0) (by decide) ?_)|(refine qH rfl ?_)|(refine qI rfl ?_ ?_<;>intro hc<;>(try simp only [go_sem] at hc))|(refine qJ ?_ ?_<;>intro hc<;>(try simp only [hc])<;>(try simp only [go_sem] at hc)))
  refine DW.ent (Ent.swk 7 47) ?_
  simp (disch:=omega) only [go_sem,simprocAttr,qN,qO,qP,qQ,swT,swX,swD,swDs,swB,swk]
  repeat' (first|(with_reducible first|apply qA|apply qB|apply qC|apply qD|apply qE|apply qF)|(refine DW.ord rfl (WF.of (by first|rfl|simp (disch:=omega) only [go_sem, simprocAttr, qN, qO, qP, qQ, del])) ?_ ?_ ?_; rotate_left)|rfl|(with_reducible refine And.intro ?_ ?_)|(simp (disch:=omega) only [go_sem, simprocAttr, qN, qO, qP, qQ, del])|exact qM rfl rfl rfl|(refine qG rfl ?_)|(refine call_b (hsaw) ⟨⟨trivial, rfl, rfl, rfl⟩, rfl, rfl, rfl⟩ (by decide) ?_; simp only [St.addBs, St.putB, St.putO, St.put])|(refine qK (hr) (by decide) ?_)|(refine call_hp1 7 (fun lm => hcut' lm) rfl rfl rfl (fun _ => rfl) (fun _ => rfl) (fun _ => by simp (disch:=omega) only [go_sem, simprocAttr, qN, qO, qP, qQ, del, pinT, pinX, pinD, pinDs, pinB, pinO, Nat.reduceEqDiff, if_false, if_true]) (by decide) ?_)|(refine qH rfl ?_)|(refine qI rfl ?_ ?_<;>intro hc<;>(try simp only [go_sem] at hc))|(refine qJ ?_ ?_<;>intro hc<;>(try simp only [hc])<;>(try simp only [go_sem] at hc)))
  skip
 ·have h2 := chk_two hc
  rw [if_neg hc]
  rw [h2] at h0 ⊢
  refine DCall.of Try.func48 sf48 hb48 (Nat.le_of_ble_eq_true rfl) (okRes_nil fun _ => rfl) ?_; simp only [s48, o48_0, o48_1, o48_2, o48_3, o48_4, o48_5, idxs, Nat.reduceAdd]
  repeat' (first|(with_reducible first|apply qA|apply qB|apply qC|apply qD|apply qE|apply qF)|(refine DW.ord rfl (WF.of (by first|rfl|simp (disch:=omega) only [go_sem, simprocAttr, qN, qO, qP, qQ])) ?_ ?_ ?_; rotate_left)|rfl|(with_reducible refine And.intro ?_ ?_)|(simp (disch:=omega) only [go_sem, simprocAttr, qN, qO, qP, qQ])|exact qM rfl rfl rfl|(refine qG rfl ?_)|(refine qK (h0) (by decide) ?_)|(refine qH rfl ?_)|(refine qI rfl ?_ ?_<;>intro hc<;>(try simp only [go_sem] at hc))|(refine qJ ?_ ?_<;>intro hc<;>(try simp only [hc])<;>(try simp only [go_sem] at hc)))
end Go.Dw.Seat.Pa
end
section
set_option linter.unusedSimpArgs false
set_option maxRecDepth 100000
namespace Go.Dw.Seat.Pa
open Go Go.Dw Go.Proofs Go.IntWalk
theorem retS_ent [Lays] {P : Program} {res : List ResultVar} {r : D} {bo : List (Nat × Blk)} {σ σ' : St} (he : Ent σ σ') (h : retS P res r bo .ret σ') : retS P res r bo .ret σ := by
 obtain ⟨h0, σ2, ds, h1, h2⟩ := h
 exact ⟨h0, σ2, ds, fun N O0 w0 a w hi => h1 _ _ _ _ _ (he _ _ _ _ _ hi), h2⟩
abbrev mpB (lm : Nat) (M : CMemo) : Nat × Blk := (47, .pmap lm (cK M) (cD M))
abbrev rwB (l : List PPl) : Nat × Blk := (77, .row 3 (rowC (rows eP l)))
attribute [go_sem] mpB rwB
end Go.Dw.Seat.Pa
end
section
set_option linter.unusedSimpArgs false
set_option maxRecDepth 100000
namespace Go.Dw.Seat.Pa
open Go Go.Dw Go.Proofs Go.IntWalk
abbrev dU (n : Nat) : D := .c (.v (.int .u8 n))
def e1 (n : Nat) : List C := [.v (.int .u8 n)]
def AllLt (b : Nat) (l : List Nat) : Prop := ∀ x ∈ l, x < b
def eN (l : List Nat) : List C := l.map fun n : Nat => .v (.int .u8 (n : Int))
theorem ud5 : Try.prog.underlying 5 = some (.int .u8) := by kernel_rfl
attribute [go_sem] e1
theorem byE {s : List Nat} : (eN s).map D.c = s.map dU := by rw [eN, List.map_map]; rfl
theorem tmodN (m k : Nat) : (m : Int).tmod (k : Int) = ((m % k : Nat) : Int) := by
 rw [Int.tmod_eq_emod_of_nonneg (by omega)]; simp
theorem by4 {s : List Nat} (h : s.length = 4 ∧ AllLt 256 s) : ∃ a b c d, s = [a, b, c, d] ∧ (a < 256 ∧ b < 256) ∧ c < 256 ∧ d < 256 := by
 obtain ⟨h1, h2⟩ := h
 match s, h1 with
 | [a, b, c, d], _ => exact ⟨a, b, c, d, rfl, ⟨h2 a (by simp), h2 b (by simp)⟩, h2 c (by simp), h2 d (by simp)⟩
theorem rgt_one {p : PBs} {b : PBx} {l : List PPl} (h : opE p b [l] = 0) : rgtE p b [l] = if (fltF p b l).2 = 0 then 0 else 9 := by
 unfold rgtE
 rw [if_neg (by simpa using h)]
 by_cases hf : (fltF p b l).2 = 0 <;> simp [hf]
theorem lay_rgt {p : PBs} {b : PBx} (hp : p.ok) (hb : b.ok) {l : List PPl} (hl : l.length ≤ 200) (h : Lies p b l) (hm : ∀ q ∈ l, (0 ≤ q.x ∧ q.x ≤ 140) ∧ 0 ≤ q.y ∧ q.y ≤ 140) : rgtE p b [l] = 0 := by
 have ho : opE p b [l] = 0 := op_yes (chk_ok.2 ⟨hp, hb⟩) (ly_yes fun x hx => by rw [List.mem_singleton.1 hx]; exact ⟨hl, hm⟩)
 rw [rgt_one ho, if_pos (flt_lies.2 h)]
theorem rowC_snocLd (l : List Lod) (x : Lod) : rowC (rows eLd l) ++ [[D.c (.v (.int .i64 x.sl)), D.c (.v (.int .i64 x.sh)), D.c (.v (.int .i64 x.wl)), D.c (.v (.int .i64 x.wh))]] = rowC (rows eLd (l ++ [x])) := by simp [rowC, rows, eLd]
end Go.Dw.Seat.Pa
end
section
set_option linter.unusedSimpArgs false
set_option maxRecDepth 100000
namespace Go.Dw.Seat.Pa
open Go Go.Dw Go.IntWalk
structure PLy where
 lg : Int
 fr : Int
 bk : Int
 fm : Int
 bm : Int
structure PIt where
 lg : Int
 wl : Int
 wh : Int
structure PLy.ok (l : PLy) : Prop where
 lg : 1 ≤ l.lg ∧ l.lg ≤ 2000
 ax : (0 ≤ l.fr ∧ l.fr < l.bk) ∧ l.bk ≤ l.lg
 fm : 0 ≤ l.fm ∧ l.fm ≤ 40000000
 bm : 0 ≤ l.bm ∧ l.bm ≤ 40000000
structure PIt.ok (x : PIt) : Prop where
 lg : 1 ≤ x.lg ∧ x.lg ≤ 2000
 w : 0 ≤ x.wl ∧ x.wl ≤ x.wh ∧ x.wh ≤ 5000000
def lgI : List PIt → Int
 | [] => 0
 | x :: t => x.lg + lgI t
def sumM (g : Int → PIt → Int) : Int → List PIt → Int
 | _, [] => 0
 | at', x :: t => g (2 * at' + x.lg) x + sumM g (at' + x.lg) t
def cF (l : PLy) (m : Int) : Int := 2 * l.bk - m
def cB (l : PLy) (m : Int) : Int := m - 2 * l.fr
def loW (x : PIt) (c : Int) : Int := min (x.wl * c) (x.wh * c)
def hiW (x : PIt) (c : Int) : Int := max (x.wl * c) (x.wh * c)
structure Prt where
 fl : Int
 fh : Int
 bl : Int
 bh : Int
def prtF (l : PLy) (q : List PIt) : Prt := ⟨sumM (fun m x => loW x (cF l m)) 0 q, sumM (fun m x => hiW x (cF l m)) 0 q, sumM (fun m x => loW x (cB l m)) 0 q, sumM (fun m x => hiW x (cB l m)) 0 q⟩
theorem sumM_snoc (g : Int → PIt → Int) : ∀ (q : List PIt) (at' : Int) (x : PIt), sumM g at' (q ++ [x]) = sumM g at' q + g (2 * (at' + lgI q) + x.lg) x
 | [], at', x => by simp [sumM, lgI]
 | y :: q, at', x => by rw [List.cons_append, sumM, sumM_snoc g q, sumM, lgI, Int.add_assoc, Int.add_assoc]
theorem lgI_snoc : ∀ (q : List PIt) (x : PIt), lgI (q ++ [x]) = lgI q + x.lg
 | [], x => by simp [lgI]
 | y :: q, x => by rw [List.cons_append, lgI, lgI_snoc q, lgI]; omega
theorem lgI_nn : ∀ {q : List PIt}, (∀ x ∈ q, x.ok) → 0 ≤ lgI q ∧ lgI q ≤ 2000 * (q.length : Int)
 | [], _ => by simp [lgI]
 | x :: q, h => by
  have := lgI_nn (q := q) (fun y hy => h y (by simp [hy]))
  have := (h x (by simp)).lg
  rw [lgI, List.length_cons]; omega
theorem floor_eq {n y : Int} (hy : 0 < y) : Int.tdiv (n - Int.tmod (Int.tmod n y + y) y) y = n / y := by
 have e1 : Int.tmod (Int.tmod n y + y) y = n % y := by
  have hlt := Int.tmod_lt_of_pos n hy
  have hgt : -y < Int.tmod n y := by
   rcases Int.le_total 0 n with h | h
   ·have := Int.tmod_nonneg y h; omega
   ·have h2 := Int.tmod_lt_of_pos (-n) hy
    rw [Int.neg_tmod] at h2; omega
  rw [Int.tmod_eq_emod_of_nonneg (by omega), Int.add_emod_right]
  have hd := Int.tmod_add_mul_tdiv n y
  rw [show Int.tmod n y = n - y * Int.tdiv n y by omega, Int.sub_mul_emod_self_left]
 rw [e1]
 have h2 := Int.mul_ediv_add_emod n y
 have : n - n % y = y * (n / y) := by omega
 rw [this, Int.mul_tdiv_cancel_left _ (by omega)]
end Go.Dw.Seat.Pa
end
