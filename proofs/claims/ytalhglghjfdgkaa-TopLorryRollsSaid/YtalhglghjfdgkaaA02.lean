/- The law TopLorryRolls returns true for every input, and changes nothing that was there before: the full statement TopLorryRollsSaid, without conditions. -/
import Derived.Test.YtalhglghjfdgkaaA01
import Derived.Test.YtalhglghjfdgkaaRows
import Derived.ProofKit
import Derived.OpenShut
set_option linter.unusedVariables false
set_option linter.unusedSimpArgs false
section
set_option linter.unusedSimpArgs false
set_option maxRecDepth 100000
namespace Go.Dw.Seat.Pa
open Go Go.Dw Go.Proofs Go.IntWalk
def CutC (p : PBs) (b : PBx) (RX RY : List Int) (nx ny lm f : Nat) : Prop := ∀ X Y M, MOk (bLg b) (bWd b) M → X ≤ nx → Y ≤ ny → X + Y < f → DCall Try.prog 79 [sawD p b RX RY lm, rctD X Y] [ctB lm M] (cutV (cutI (bLg b) (bWd b) X Y)) [ctB lm (cutM (bLg b) (bWd b) f X Y M).2]
def stS (a c f X Y : Nat) (s : Cut × CMemo) (l : Ln) : Option Exit × (Cut × CMemo) := (none, stepM (cutM a c f) X Y s l)
theorem st_run (a c f X Y : Nat) : ∀ (L : List Ln) (s : Cut × CMemo), runIt (stS a c f X Y) s L = (none, L.foldl (stepM (cutM a c f) X Y) s)
 | [], _ => rfl
 | l :: L, s => by simp only [runIt, stS, List.foldl_cons]; exact st_run a c f X Y L _
theorem one_le {a c X Y : Nat} {l : Ln} (h : l ∈ lnsF a c X Y) : ((oneF X Y l).1 ≤ X ∧ (oneF X Y l).2 ≤ Y) ∧ ((twoF X Y l).1 ≤ X ∧ (twoF X Y l).2 ≤ Y) ∧ l.2 ≤ if l.1 then Y else X := by
 have h1 := (lns_mem.1 h).half
 obtain ⟨s, t⟩ := l
 cases s <;> simp [oneF, twoF] at h1 ⊢ <;> omega
theorem mst_xy {a c : Nat} (ha : 0 < a) (hc : 0 < c) {x y : Nat} (hx : x ≤ 140) (hy : y ≤ 140) : mst a c x y ≤ 19600 := by
 have h1 := mst_bnd ha hc x y
 have h2 := Nat.div_le_self (rchF a c x * rchF a c y) (a * c)
 have h3 : rchF a c x * rchF a c y ≤ 140 * 140 := Nat.mul_le_mul (Nat.le_trans (rch_le a c x) hx) (Nat.le_trans (rch_le a c y) hy)
 unfold bndF at h1
 omega
set_option maxHeartbeats 4000000 in
theorem plCut1 (p : PBs) (b : PBx) (hb : b.ok) (RX RY : List Int) (nx ny : Nat) (hrx : Rch (bLg b) (bWd b) RX nx) (hry : Rch (bLg b) (bWd b) RY ny) (hnx : nx ≤ 140) (hny : ny ≤ 140) (lm f : Nat) (ih : CutC p b RX RY nx ny lm f) : CutC p b RX RY nx ny lm (f + 1) := by
 intro X Y M hMO hX hY hf
 have ha : 0 < bLg b := by have := hb.lg; show 0 < b.lg.toNat; omega
 have hc : 0 < bWd b := by have := hb.wd; show 0 < b.wd.toNat; omega
 rw [← (cutM_ok (bLg b) (bWd b) (f + 1) X Y M hf hMO).1]
 have hl1 := rch_le (bLg b) (bWd b) X
 have hl2 := rch_le (bLg b) (bWd b) Y
 have hgx := hrx.get X hX
 have hgy := hry.get Y hY
 have hlx := hrx.len
 have hly := hry.len
 have hiX : (X < nx + 1) = True := eq_true (by omega)
 have hiY : (Y < ny + 1) = True := eq_true (by omega)
 have hfits := plFits p b hb RX RY lm (rchF (bLg b) (bWd b) X) (rchF (bLg b) (bWd b) Y)
 have hsnd := fitT_snd (bLg b) (bWd b) (rchF (bLg b) (bWd b) X) (rchF (bLg b) (bWd b) Y)
 have hlines := plLines p b RX RY lm (rchF (bLg b) (bWd b) X) (rchF (bLg b) (bWd b) Y)
 have hit := plLines1 p b RX RY nx ny hrx hry (by omega) (by omega) lm (rchF (bLg b) (bWd b) X) (rchF (bLg b) (bWd b) Y) (by omega) (by omega)
 rw [cutM]
 unfold CutC at ih
 generalize bLg b = a at *
 generalize bWd b = c at *
 have hone := fun l => one_le (a := a) (c := c) (X := rchF a c X) (Y := rchF a c Y) (l := l)
 have hless := fun l (h : l ∈ lnsF a c (rchF a c X) (rchF a c Y)) => ln_less (lns_mem.1 h)
 generalize rchF a c X = X' at *
 generalize rchF a c Y = Y' at *
 refine DCall.of Try.func79 sf79 hb79 (Nat.le_of_ble_eq_true rfl) (ctB_ok _ (fun _ => rfl) _ _) ?_
 simp only [s79, o79_0, o79_1, o79_2, o79_3, o79_4, o79_5, o79_6, o79_7, o79_8, o79_9, o79_10, o79_11, o79_12, o79_13, o79_14, o79_15, o79_16, o79_17, o79_18, o79_19, idxs, Nat.reduceAdd]
 repeat' (first|(with_reducible first|apply qA|apply qB|apply qC|apply qD|apply qE|apply qF)|(refine qL rfl (WF.of ?_) ?_; first|rfl|skip)|(refine DW.ord rfl (WF.of (by first|rfl|simp (disch:=omega) only [go_sem, simprocAttr, qN, qO, qP, qQ])) ?_ ?_ ?_; rotate_left)|rfl|(with_reducible refine And.intro ?_ ?_)|(simp (disch:=omega) only [go_sem, simprocAttr, qN, qO, qP, qQ])|exact qM rfl rfl rfl|(refine qG rfl ?_)|(refine qH rfl ?_)|(refine qI rfl ?_ ?_<;>intro hc<;>(try simp only [go_sem] at hc))|(refine qJ ?_ ?_<;>intro hc<;>(try simp only [hc])<;>(try simp only [go_sem] at hc)))
 obtain ⟨r0, hr0⟩ : ∃ r : Nat → Nat, r 0 = X ∧ r 1 = X' ∧ r 2 = X' := ⟨fun k => if k = 0 then X else X', rfl, rfl, rfl⟩
 obtain ⟨r1, hr1⟩ : ∃ r : Nat → Nat, r 0 = Y ∧ r 1 = Y ∧ r 2 = Y' := ⟨fun k => if k ≤ 1 then Y else Y', rfl, rfl, rfl⟩
 refine DW.loop (ι := { k : Nat // k ≤ 2 }) (fun k => ⟨86, [(15, dI k.1), (4, .box 4 0), (3, .box 3 0), (2, .box 2 0)], [ctB lm M, (4, .box [dI 0, dI 0, dI 0]), (3, .box [dI (r0 k.1), dI (r1 k.1)]), (2, .box [sawD p b RX RY lm])]⟩) (fun k => 2 - k.1) ⟨0, by decide⟩ ?_ ?_
 ·refine Ent.to ?_ ?_ <;> simp (disch:=omega) only [qR,qS,qTw,qU,get,Nat.reduceEqDiff,↓reduceIte,qV,qW,qX,qY,qZ,and_self,dI,i64_in,and_true,true_and,rA,rB,rC,rD,hr0.1,hr1.1]
  all_goals first | exact ⟨.refl _, .refl _, .refl _⟩ | exact ⟨.refl _, .refl _⟩ | exact .refl _
 rintro ⟨k, hk⟩
 dsimp only
 match k, hk with
 | 0, _ =>
  rw [hr0.1, hr1.1]
  repeat' (first|(with_reducible first|apply qA|apply qB|apply qC|apply qD|apply qE|apply qF)|(refine qL rfl (WF.of ?_) ?_; first|rfl|skip)|(refine DW.ord rfl (WF.of (by first|rfl|simp (disch:=omega) only [go_sem, simprocAttr, qN, qO, qP, qQ, hgx, hlx, hiX, rF, rG])) ?_ ?_ ?_; rotate_left)|rfl|(with_reducible refine And.intro ?_ ?_)|(simp (disch:=omega) only [go_sem, simprocAttr, qN, qO, qP, qQ, hgx, hlx, hiX, rF, rG])|exact qM rfl rfl rfl|(refine qG rfl ?_)|(refine qH rfl ?_)|(refine qI rfl ?_ ?_<;>intro hc<;>(try simp only [go_sem] at hc))|(refine qJ ?_ ?_<;>intro hc<;>(try simp only [hc])<;>(try simp only [go_sem] at hc)))
  refine ⟨⟨1, by decide⟩, ?_, Ent.to ?_ ?_⟩ <;> first | (show _ < _; (try simp only); omega) | (simp (disch:=omega) only [qR,qS,qTw,qU,get,Nat.reduceEqDiff,↓reduceIte,qV,qW,qX,qY,qZ,and_self,dI,i64_in,and_true,true_and,rA,rB,rC,rD, hr0.2.1,hr1.2.1])
  all_goals first | exact ⟨.refl _, .refl _, .refl _⟩ | exact ⟨.refl _, .refl _⟩ | exact .refl _
 | 1, _ =>
  rw [hr0.2.1, hr1.2.1]
  repeat' (first|(with_reducible first|apply qA|apply qB|apply qC|apply qD|apply qE|apply qF)|(refine qL rfl (WF.of ?_) ?_; first|rfl|skip)|(refine DW.ord rfl (WF.of (by first|rfl|simp (disch:=omega) only [go_sem, simprocAttr, qN, qO, qP, qQ, hgy, hly, hiY, rF, rG])) ?_ ?_ ?_; rotate_left)|rfl|(with_reducible refine And.intro ?_ ?_)|(simp (disch:=omega) only [go_sem, simprocAttr, qN, qO, qP, qQ, hgy, hly, hiY, rF, rG])|exact qM rfl rfl rfl|(refine qG rfl ?_)|(refine qH rfl ?_)|(refine qI rfl ?_ ?_<;>intro hc<;>(try simp only [go_sem] at hc))|(refine qJ ?_ ?_<;>intro hc<;>(try simp only [hc])<;>(try simp only [go_sem] at hc)))
  refine ⟨⟨2, by decide⟩, ?_, Ent.to ?_ ?_⟩ <;> first | (show _ < _; (try simp only); omega) | (simp (disch:=omega) only [qR,qS,qTw,qU,get,Nat.reduceEqDiff,↓reduceIte,qV,qW,qX,qY,qZ,and_self,dI,i64_in,and_true,true_and,rA,rB,rC,rD, hr0.2.2,hr1.2.2])
  all_goals first | exact ⟨.refl _, .refl _, .refl _⟩ | exact ⟨.refl _, .refl _⟩ | exact .refl _
 | 2, _ =>
  rw [hr0.2.2, hr1.2.2]
  clear hr0 hr1 hgx hgy hlx hly hiX hiY
  cases hm : cFind M (X', Y') with
  | some v =>
   repeat' (first|(with_reducible first|apply qA|apply qB|apply qC|apply qD|apply qE|apply qF)|(refine qL rfl (WF.of ?_) ?_; first|rfl|skip)|(refine DW.ord rfl (WF.of (by first|rfl|simp (disch:=omega) only [go_sem, simprocAttr, qN, qO, qP, qQ, hm, Option.isSome_some, rF, rG])) ?_ ?_ ?_; rotate_left)|rfl|(with_reducible refine And.intro ?_ ?_)|(simp (disch:=omega) only [go_sem, simprocAttr, qN, qO, qP, qQ, hm, Option.isSome_some, rF, rG])|exact qM rfl rfl rfl|(refine qG rfl ?_)|(refine qH rfl ?_)|(refine qI rfl ?_ ?_<;>intro hc<;>(try simp only [go_sem] at hc))|(refine qJ ?_ ?_<;>intro hc<;>(try simp only [hc])<;>(try simp only [go_sem] at hc)))
   exact retS_bs rfl rfl rfl (fun j x hj => by
    obtain ⟨rfl, rfl, hn⟩ := ctB_nb lm M hj
    exact ⟨rfl, hn⟩)
  | none =>
   generalize fitT a c X' Y' = ft at *
   obtain ⟨ft1, ft2⟩ := ft
   dsimp only at hsnd hfits ⊢
   rw [← hsnd]
   clear hsnd
   cases ft2 with
   | false =>
    rw [if_neg Bool.false_ne_true]
    dsimp only
    have hupd : updK (cK M) (cD M) (.agg #[.int .i64 X', .int .i64 Y']) (.agg [dI 0, dI (-1), dI 0]) = (cK (cUpd M (X', Y') ⟨0, none⟩), cD (cUpd M (X', Y') ⟨0, none⟩)) := upd_cK X' Y' M ⟨0, none⟩
    repeat' (first|(with_reducible first|apply qA|apply qB|apply qC|apply qD|apply qE|apply qF)|(refine qL rfl (WF.of ?_) ?_; first|rfl|skip)|(refine DW.ord rfl (WF.of (by first|rfl|simp (disch:=omega) only [go_sem, simprocAttr, qN, qO, qP, qQ, hm, Option.isSome_none, hupd, rF, rG])) ?_ ?_ ?_; rotate_left)|rfl|(with_reducible refine And.intro ?_ ?_)|(simp (disch:=omega) only [go_sem, simprocAttr, qN, qO, qP, qQ, hm, Option.isSome_none, hupd, rF, rG])|exact qM rfl rfl rfl|(refine qG rfl ?_)|(refine qK (hfits) (by decide) ?_)|(refine qH rfl ?_)|(refine qI rfl ?_ ?_<;>intro hc<;>(try simp only [go_sem] at hc))|(refine qJ ?_ ?_<;>intro hc<;>(try simp only [hc])<;>(try simp only [go_sem] at hc)))
    exact retS_bs rfl rfl rfl (fun j x hj => by
     obtain ⟨rfl, rfl, hn⟩ := ctB_nb lm _ hj
     exact ⟨rfl, hn⟩)
   | true =>
    rw [if_pos rfl]
    repeat' (first|(with_reducible first|apply qA|apply qB|apply qC|apply qD|apply qE|apply qF)|(refine qL rfl (WF.of ?_) ?_; first|rfl|skip)|(refine DW.ord rfl (WF.of (by first|rfl|simp (disch:=omega) only [go_sem, simprocAttr, qN, qO, qP, qQ, hm, Option.isSome_none, rF, rG])) ?_ ?_ ?_; rotate_left)|rfl|(with_reducible refine And.intro ?_ ?_)|(simp (disch:=omega) only [go_sem, simprocAttr, qN, qO, qP, qQ, hm, Option.isSome_none, rF, rG])|exact qM rfl rfl rfl|(refine qG rfl ?_)|(refine qK (hfits) (by decide) ?_)|(refine qK (hlines) (by decide) ?_)|(refine qH rfl ?_)|(refine qI rfl ?_ ?_<;>intro hc<;>(try simp only [go_sem] at hc))|(refine qJ ?_ ?_<;>intro hc<;>(try simp only [hc])<;>(try simp only [go_sem] at hc)))
    have htM : ∀ l ∈ lnsF a c X' Y', ∀ M1, MOk a c M1 → ((cutM a c f (oneF X' Y' l).1 (oneF X' Y' l).2 M1).1 = cutI a c (oneF X' Y' l).1 (oneF X' Y' l).2 ∧ MOk a c (cutM a c f (oneF X' Y' l).1 (oneF X' Y' l).2 M1).2) ∧ (cutM a c f (twoF X' Y' l).1 (twoF X' Y' l).2 (cutM a c f (oneF X' Y' l).1 (oneF X' Y' l).2 M1).2).1 = cutI a c (twoF X' Y' l).1 (twoF X' Y' l).2 ∧ MOk a c (cutM a c f (twoF X' Y' l).1 (twoF X' Y' l).2 (cutM a c f (oneF X' Y' l).1 (oneF X' Y' l).2 M1).2).2 := fun l hl M1 h1 => by
     have hle := hless l hl
     have e1 := cutM_ok a c f (oneF X' Y' l).1 (oneF X' Y' l).2 M1 (by omega) h1
     exact ⟨e1, cutM_ok a c f (twoF X' Y' l).1 (twoF X' Y' l).2 _ (by omega) e1.2⟩
    refine DW.ent (σ' := ⟨86, [(55, .fn (.func 152) [] [.c (.ro false [.v (.int .i64 X'), .v (.int .i64 Y')] 0), .c (.ro false [sawC p b RX RY lm] 0)]), (8, .box 8 0), (4, .box 4 0), (3, .box 3 0), (2, .box 2 0)], [ctB lm M, (8, .box [dI 1, dI (-1), dI 0]), (4, .box [dI 0, dI 0, dI 0]), (3, .box [dI X', dI Y']), (2, .box [sawD p b RX RY lm])]⟩) (Ent.to ?_ ?_) ?_
    ·simp (disch:=omega) only [qR,qS,qTw,qU,get,Nat.reduceEqDiff,↓reduceIte,qV,qW,qX,qY,qZ,and_self,dI,i64_in,and_true,true_and,rA,rB,rC,rD]
    ·simp (disch:=omega) only [qR,qS,qTw,qU,get,Nat.reduceEqDiff,↓reduceIte,qV,qW,qX,qY,qZ,and_self,dI,i64_in,and_true,true_and,rA,rB,rC,rD]
    refine DW.rngBS (fs := []) (caps := [.c (.ro false [.v (.int .i64 X'), .v (.int .i64 Y')] 0), .c (.ro false [sawC p b RX RY lm] 0)]) (fun y : Cut × CMemo => [ctB lm y.2, (8, .box [dI y.1.n, dI (lnS y.1.ln), dI (lnA y.1.ln)]), (4, .box [dI 0, dI 0, dI 0]), (3, .box [dI X', dI Y']), (2, .box [sawD p b RX RY lm])]) (⟨1, none⟩, M) (stS a c f X' Y') enL (fun l => l ∈ lnsF a c X' Y') (lnsF a c X' Y') hit (fun _ y => MOk a c y.2) hMO (fun y l t hy hl _ => (htM l hl y.2 hy).2.2) rfl (fun _ => ⟨rfl, rfl⟩) rfl (by decide) (fun _ _ => rfl) (fun _ _ _ => rfl) (by simp only [List.map_cons, List.map_nil]; decide) (fun _ => rfl) (fun y => by show (_ && (D.keysIns _ (cD y.2) && _)) = true; rw [cD_keys]; rfl) (fun y => by show (D.nbs (cD y.2) && _) = true; rw [cD_nb, Bool.true_and]; exact (by simp only [List.all_cons, List.all_nil, Blk.nb, rowC_nb, D.nb, D.nbs, C.nb, C.nbs, C.nbss, rows_nb eI_nb, Bool.and_true, Bool.not_false, Bool.and_self, bD, dI, iD])) (by simp only [List.all_cons, List.all_nil, Blk.nb, rowC_nb, D.nb, D.nbs, C.nb, C.nbs, C.nbss, rows_nb eI_nb, Bool.and_true, Bool.not_false, Bool.and_self, bD, dI, iD]) (fun _ _ => rfl) ?_ ?_
    ·rintro ⟨y, M1⟩ l t hM1 hl v
     dsimp only at hM1
     obtain ⟨⟨e1, hM2⟩, e2, hM3⟩ := htM l hl M1 hM1
     have hle := hless l hl
     obtain ⟨hl1, hl2, hl3⟩ := hone l hl
     have hparts := plLnParts X' Y' l (by omega) (by omega) hl3
     have h1 := ih (oneF X' Y' l).1 (oneF X' Y' l).2 M1 hM1 (by omega) (by omega) (by omega)
     have h2 := ih (twoF X' Y' l).1 (twoF X' Y' l).2 _ hM2 (by omega) (by omega) (by omega)
     have b1 := mst_xy ha hc (x := (oneF X' Y' l).1) (y := (oneF X' Y' l).2) (by omega) (by omega)
     have b2 := mst_xy ha hc (x := (twoF X' Y' l).1) (y := (twoF X' Y' l).2) (by omega) (by omega)
     rw [mst] at b1 b2
     have hS : stS a c f X' Y' (y, M1) l = (none, (if y.n < (cutI a c (oneF X' Y' l).1 (oneF X' Y' l).2).n + (cutI a c (twoF X' Y' l).1 (twoF X' Y' l).2).n then ⟨(cutI a c (oneF X' Y' l).1 (oneF X' Y' l).2).n + (cutI a c (twoF X' Y' l).1 (twoF X' Y' l).2).n, some l⟩ else y, (cutM a c f (twoF X' Y' l).1 (twoF X' Y' l).2 (cutM a c f (oneF X' Y' l).1 (oneF X' Y' l).2 M1).2).2)) := by
      unfold stS stepM
      dsimp only
      rw [e1, e2]
     rw [hS]
     clear hS e1 e2 htM hone hless hit ih
     generalize (cutM a c f (twoF X' Y' l).1 (twoF X' Y' l).2 (cutM a c f (oneF X' Y' l).1 (oneF X' Y' l).2 M1).2).2 = M3 at *
     generalize (cutM a c f (oneF X' Y' l).1 (oneF X' Y' l).2 M1).2 = M2 at *
     generalize cutI a c (oneF X' Y' l).1 (oneF X' Y' l).2 = C1 at *
     generalize cutI a c (twoF X' Y' l).1 (twoF X' Y' l).2 = C2 at *
     generalize (oneF X' Y' l).1 = o1 at *
     generalize (oneF X' Y' l).2 = o2 at *
     generalize (twoF X' Y' l).1 = q1 at *
     generalize (twoF X' Y' l).2 = q2 at *
     simp (disch:=omega) only [go_sem,simprocAttr,qN,qO,qP,qQ,rF,rG,enL]
     by_cases hlt : y.n < C1.n + C2.n
     ·have hd : decide ((y.n : Int) < (C1.n : Int) + (C2.n : Int)) = true := decide_eq_true (by omega)
      rw [if_pos hlt]
      repeat' (first|(with_reducible first|apply qA|apply qB|apply qC|apply qD|apply qE|apply qF)|(refine qL rfl (WF.of ?_) ?_; first|rfl|skip)|(refine DW.ord rfl (WF.of (by first|rfl|simp (disch:=omega) only [go_sem, simprocAttr, qN, qO, qP, qQ, rF, rG, del, cD_keys, hd, Bool.and_self, Bool.and_true, Bool.true_and])) ?_ ?_ ?_; rotate_left)|rfl|(with_reducible refine And.intro ?_ ?_)|(simp (disch:=omega) only [go_sem, simprocAttr, qN, qO, qP, qQ, rF, rG, del, cD_keys, hd, Bool.and_self, Bool.and_true, Bool.true_and])|exact qM rfl rfl rfl|(refine qG rfl ?_)|(refine qK (hparts) (by decide) ?_)|(refine call_hk 7 (h1) rfl rfl rfl (by simp (disch:=omega) only [go_sem, simprocAttr, qN, qO, qP, qQ, del]) (by decide) ?_)|(refine call_hk 7 (h2) rfl rfl rfl (by simp (disch:=omega) only [go_sem, simprocAttr, qN, qO, qP, qQ, del]) (by decide) ?_)|(refine qH rfl ?_)|(refine qI rfl ?_ ?_<;>intro hc<;>(try simp only [go_sem] at hc))|(refine qJ ?_ ?_<;>intro hc<;>(try simp only [hc])<;>(try simp only [go_sem] at hc)))
      refine round_end rfl rfl (Ent.to ?_ ?_) <;> simp (disch:=omega) only [qR,qS,qTw,qU,get,Nat.reduceEqDiff,↓reduceIte,qV,qW,qX,qY,qZ,and_self,dI,i64_in,and_true,true_and,rA,rB,rC,rD,capB,List.cons_append,List.nil_append,lnS,lnA,rA]
      all_goals first | exact ⟨.refl _, .refl _, .refl _⟩ | exact ⟨.refl _, .refl _⟩ | exact .refl _
     ·have hd : decide ((y.n : Int) < (C1.n : Int) + (C2.n : Int)) = false := decide_eq_false (by omega)
      rw [if_neg hlt]
      repeat' (first|(with_reducible first|apply qA|apply qB|apply qC|apply qD|apply qE|apply qF)|(refine qL rfl (WF.of ?_) ?_; first|rfl|skip)|(refine DW.ord rfl (WF.of (by first|rfl|simp (disch:=omega) only [go_sem, simprocAttr, qN, qO, qP, qQ, rF, rG, del, cD_keys, hd, Bool.and_self, Bool.and_true, Bool.true_and])) ?_ ?_ ?_; rotate_left)|rfl|(with_reducible refine And.intro ?_ ?_)|(simp (disch:=omega) only [go_sem, simprocAttr, qN, qO, qP, qQ, rF, rG, del, cD_keys, hd, Bool.and_self, Bool.and_true, Bool.true_and])|exact qM rfl rfl rfl|(refine qG rfl ?_)|(refine qK (hparts) (by decide) ?_)|(refine call_hk 7 (h1) rfl rfl rfl (by simp (disch:=omega) only [go_sem, simprocAttr, qN, qO, qP, qQ, del]) (by decide) ?_)|(refine call_hk 7 (h2) rfl rfl rfl (by simp (disch:=omega) only [go_sem, simprocAttr, qN, qO, qP, qQ, del]) (by decide) ?_)|(refine qH rfl ?_)|(refine qI rfl ?_ ?_<;>intro hc<;>(try simp only [go_sem] at hc))|(refine qJ ?_ ?_<;>intro hc<;>(try simp only [hc])<;>(try simp only [go_sem] at hc)))
      refine round_end rfl rfl (Ent.to ?_ ?_) <;> simp (disch:=omega) only [qR,qS,qTw,qU,get,Nat.reduceEqDiff,↓reduceIte,qV,qW,qX,qY,qZ,and_self,dI,i64_in,and_true,true_and,rA,rB,rC,rD,capB,List.cons_append,List.nil_append]
    ·rw [st_run]
     generalize (lnsF a c X' Y').foldl (stepM (cutM a c f) X' Y') (⟨1, none⟩, M) = R at *
     obtain ⟨v, M3⟩ := R
     dsimp only
     simp (disch:=omega) only [go_sem,simprocAttr,qN,qO,qP,qQ,Option.getD_none]
     have hupd := upd_cK X' Y' M3 v
     repeat' (first|(with_reducible first|apply qA|apply qB|apply qC|apply qD|apply qE|apply qF)|(refine qL rfl (WF.of ?_) ?_; first|rfl|skip)|(refine DW.ord rfl (WF.of (by first|rfl|simp (disch:=omega) only [go_sem, simprocAttr, qN, qO, qP, qQ, hupd, rF, rG])) ?_ ?_ ?_; rotate_left)|rfl|(with_reducible refine And.intro ?_ ?_)|(simp (disch:=omega) only [go_sem, simprocAttr, qN, qO, qP, qQ, hupd, rF, rG])|exact qM rfl rfl rfl|(refine qG rfl ?_)|(refine qH rfl ?_)|(refine qI rfl ?_ ?_<;>intro hc<;>(try simp only [go_sem] at hc))|(refine qJ ?_ ?_<;>intro hc<;>(try simp only [hc])<;>(try simp only [go_sem] at hc)))
     exact retS_bs rfl rfl rfl (fun j x hj => by
      obtain ⟨rfl, rfl, hn⟩ := ctB_nb lm _ hj
      exact ⟨rfl, hn⟩)
theorem plCut (p : PBs) (b : PBx) (hb : b.ok) (RX RY : List Int) (nx ny : Nat) (hrx : Rch (bLg b) (bWd b) RX nx) (hry : Rch (bLg b) (bWd b) RY ny) (hnx : nx ≤ 140) (hny : ny ≤ 140) (lm : Nat) : ∀ f, CutC p b RX RY nx ny lm f
 | 0 => fun _ _ _ _ _ _ h => by omega
 | f + 1 => plCut1 p b hb RX RY nx ny hrx hry hnx hny lm f (plCut p b hb RX RY nx ny hrx hry hnx hny lm f)
end Go.Dw.Seat.Pa
end
section
set_option linter.unusedSimpArgs false
set_option maxRecDepth 100000
namespace Go.Dw.Seat.Pa
open Go Go.Dw Go.Proofs Go.IntWalk
abbrev sawCL (lab : Bool) (p : PBs) (b : PBx) (RX RY : List Int) (lm : Nat) : D := .c (.ro lab [.v (.int .i64 p.lg), .v (.int .i64 p.wd), .v (.int .i64 p.hi), .v (.int .i64 p.ov), .v (.int .i64 p.top), .v (.int .i64 p.load), .v (.int .i64 b.lg), .v (.int .i64 b.wd), .v (.int .i64 b.hi), .v (.int .i64 b.wl), .v (.int .i64 b.wh), .v (.int .i64 b.sl), .v (.int .i64 b.sh), .sl false 1 (rows eI RX), .sl false 1 (rows eI RY), .v (.map (some lm))] 0)
attribute [go_sem] sawCL
theorem cD_pl (M : CMemo) : D.pls (cD M) = true := by
 induction M with
 | nil => rfl
 | cons p m ih => simp only [cD, List.map_cons, D.pls, Bool.and_eq_true]; exact ⟨rfl, ih⟩
theorem pinDs_cD (k p : Nat) (M : CMemo) : pinDs k p (cD M) = cD M := by
 induction M with
 | nil => rfl
 | cons q m ih => simp only [cD, List.map_cons, pinDs] at ih ⊢; rw [ih]; rfl
attribute [go_sem] pinDs_cD
theorem plCutL (lab : Bool) (p : PBs) (b : PBx) (hb : b.ok) (RX RY : List Int) (nx ny : Nat) (hrx : Rch (bLg b) (bWd b) RX nx) (hry : Rch (bLg b) (bWd b) RY ny) (hnx : nx ≤ 140) (hny : ny ≤ 140) (lm X Y : Nat) (hX : X ≤ nx) (hY : Y ≤ ny) (M : CMemo) (hM : MOk (bLg b) (bWd b) M) :
  DCall Try.prog 79 [sawCL lab p b RX RY lm, rctD X Y] [ctB lm M] (cutV (cutI (bLg b) (bWd b) X Y)) [ctB lm (cutM (bLg b) (bWd b) (X + Y + 1) X Y M).2] :=
 DCall.lblM (plCut p b hb RX RY nx ny hrx hry hnx hny lm (X + Y + 1) X Y M hM hX hY (by omega)) rfl (cD_pl _) (cD_pl _) (.ro (.same .nil))
def mostX (p : PBs) (b : PBx) : Int := if chkE p b = 0 then ((mst (bLg b) (bWd b) (rxN p) (ryN p) : Nat) : Int) else 0
set_option maxHeartbeats 4000000 in
theorem plMost (p : PBs) (b : PBx) : DCall Try.prog 40 [bsD p, bxD b] [] (.tup [dI (mostX p b), dI (chkE p b)]) [] := by
 have h0 := plCheck p b
 unfold mostX
 by_cases hc : chkE p b = 0
 ·obtain ⟨hp, hb⟩ := chk_ok.1 hc
  rw [if_pos hc]
  rw [hc] at h0 ⊢
  have hr := plRoom p b hp
  obtain ⟨hx, hy⟩ := rm_in hp
  have hX : rmX p = ((rxN p : Nat) : Int) := (Int.toNat_of_nonneg hx.1).symm
  have hY : rmY p = ((ryN p : Nat) : Int) := (Int.toNat_of_nonneg hy.1).symm
  have hnX : rxN p ≤ 140 := by show (rmX p).toNat ≤ 140; omega
  have hnY : ryN p ≤ 140 := by show (rmY p).toNat ≤ 140; omega
  rw [hX, hY] at hr
  have hsaw := plNewSaw p b hp hb
  have hcut := fun lm => plCutL true p b hb _ _ _ _ (rcL_ok (bLg b) (bWd b) (rxN p)) (rcL_ok (bLg b) (bWd b) (ryN p)) hnX hnY lm (rxN p) (ryN p) (Nat.le_refl _) (Nat.le_refl _) [] (mok_nil _ _)
  rw [mst]
  generalize rcL (bLg b) (bWd b) (rxN p) = L1 at *
  generalize rcL (bLg b) (bWd b) (ryN p) = L2 at *
  generalize (cutM (bLg b) (bWd b) (rxN p + ryN p + 1) (rxN p) (ryN p) []).2 = M1 at *
  generalize cutI (bLg b) (bWd b) (rxN p) (ryN p) = C at *
  generalize rxN p = nx at *
  generalize ryN p = ny at *
  have hcut' : ∀ lm, DCall Try.prog 79 [sawCL true p b L1 L2 lm, rctD nx ny] [(7, pinO lm (pinB 7 lm (.map [] [])))] (pinD 7 lm (cutV C)) [(7, pinO lm (pinB 7 lm (.map (cK M1) (cD M1))))] := fun lm => by
   have h := hcut lm
   show DCall Try.prog 79 _ _ _ [(7, .pmap lm (cK M1) (pinDs 7 lm (cD M1)))]
   rw [pinDs_cD]
   exact h
  refine DCall.of Try.func40 sf40 hb40 (Nat.le_of_ble_eq_true rfl) (okRes_nil fun _ => rfl) ?_; simp only [s40, o40_0, o40_1, o40_2, o40_3, o40_4, o40_5, idxs, Nat.reduceAdd]
  repeat' (first|(with_reducible first|apply qA|apply qB|apply qC|apply qD|apply qE|apply qF)|(simp (disch:=omega) only [go_sem, simprocAttr, qN, qO, qP, qQ])|exact qM rfl rfl rfl|(refine qG rfl ?_)|(refine qK (h0) (by decide) ?_)|(refine qH rfl ?_)|(refine qI rfl ?_ ?_<;>intro hc<;>(try simp only [go_sem] at hc))|(refine qJ ?_ ?_<;>intro hc<;>(try simp only [hc])<;>(try simp only [go_sem] at hc)))
  refine DW.ent (Ent.swk 7 47) ?_
  simp (disch:=omega) only [go_sem,simprocAttr,qN,qO,qP,qQ,swT,swX,swD,swDs,swB,swk]
  repeat' (first|(with_reducible first|apply qA|apply qB|apply qC|apply qD|apply qE|apply qF)|(refine DW.ord rfl (WF.of (by first|rfl|simp (disch:=omega) only [go_sem, simprocAttr, qN, qO, qP, qQ, del])) ?_ ?_ ?_; rotate_left)|rfl|(with_reducible refine And.intro ?_ ?_)|(simp (disch:=omega) only [go_sem, simprocAttr, qN, qO, qP, qQ, del])|exact qM rfl rfl rfl|(refine qG rfl ?_)|(refine call_b (hsaw) ⟨⟨trivial, rfl, rfl, rfl⟩, rfl, rfl, rfl⟩ (by decide) ?_; simp only [St.addBs, St.putB, St.putO, St.put])|(refine qK (hr) (by decide) ?_)|(refine call_hp1 7 (fun lm => hcut' lm) rfl rfl rfl (fun _ => rfl) (fun _ => rfl) (fun _ => by simp (disch:=omega) only [go_sem, simprocAttr, qN, qO, qP, qQ, del, pinT, pinX, pinD, pinDs, pinB, pinO, Nat.reduceEqDiff, if_false, if_true]) (by decide) ?_)|(refine qH rfl ?_)|(refine qI rfl ?_ ?_<;>intro hc<;>(try simp only [go_sem] at hc))|(refine qJ ?_ ?_<;>intro hc<;>(try simp only [hc])<;>(try simp only [go_sem] at hc)))
  skip
 ·have h2 := chk_two hc
  rw [if_neg hc]
  rw [h2] at h0 ⊢
  refine DCall.of Try.func40 sf40 hb40 (Nat.le_of_ble_eq_true rfl) (okRes_nil fun _ => rfl) ?_; simp only [s40, o40_0, o40_1, o40_2, o40_3, o40_4, o40_5, idxs, Nat.reduceAdd]
  repeat' (first|(with_reducible first|apply qA|apply qB|apply qC|apply qD|apply qE|apply qF)|(refine DW.ord rfl (WF.of (by first|rfl|simp (disch:=omega) only [go_sem, simprocAttr, qN, qO, qP, qQ])) ?_ ?_ ?_; rotate_left)|rfl|(with_reducible refine And.intro ?_ ?_)|(simp (disch:=omega) only [go_sem, simprocAttr, qN, qO, qP, qQ])|exact qM rfl rfl rfl|(refine qG rfl ?_)|(refine qK (h0) (by decide) ?_)|(refine qH rfl ?_)|(refine qI rfl ?_ ?_<;>intro hc<;>(try simp only [go_sem] at hc))|(refine qJ ?_ ?_<;>intro hc<;>(try simp only [hc])<;>(try simp only [go_sem] at hc)))
end Go.Dw.Seat.Pa
end
section
set_option linter.unusedSimpArgs false
set_option maxRecDepth 100000
namespace Go.Dw.Seat.Pa
open Go Go.Dw Go.Proofs Go.IntWalk
theorem retS_ent [Lays] {P : Program} {res : List ResultVar} {r : D} {bo : List (Nat × Blk)} {σ σ' : St} (he : Ent σ σ') (h : retS P res r bo .ret σ') : retS P res r bo .ret σ := by
 obtain ⟨h0, σ2, ds, h1, h2⟩ := h
 exact ⟨h0, σ2, ds, fun N O0 w0 a w hi => h1 _ _ _ _ _ (he _ _ _ _ _ hi), h2⟩
abbrev mpB (lm : Nat) (M : CMemo) : Nat × Blk := (47, .pmap lm (cK M) (cD M))
abbrev rwB (l : List PPl) : Nat × Blk := (77, .row 3 (rowC (rows eP l)))
attribute [go_sem] mpB rwB
end Go.Dw.Seat.Pa
end
section
set_option linter.unusedSimpArgs false
set_option maxRecDepth 100000
namespace Go.Dw.Seat.Pa
open Go Go.Dw Go.Proofs Go.IntWalk
def e1 (n : Nat) : List C := [.v (.int .u8 n)]
def AllLt (b : Nat) (l : List Nat) : Prop := ∀ x ∈ l, x < b
def eN (l : List Nat) : List C := l.map fun n : Nat => .v (.int .u8 (n : Int))
theorem ud5 : Try.prog.underlying 5 = some (.int .u8) := by kernel_rfl
attribute [go_sem] e1
theorem tmodN (m k : Nat) : (m : Int).tmod (k : Int) = ((m % k : Nat) : Int) := by
 rw [Int.tmod_eq_emod_of_nonneg (by omega)]; simp
end Go.Dw.Seat.Pa
end
section
set_option linter.unusedSimpArgs false
set_option maxRecDepth 100000
namespace Go.Dw.Seat.Pa
open Go Go.Dw Go.Proofs Go.IntWalk
def inI (n lo hi : Int) : Bool := decide (lo ≤ n) && decide (n ≤ hi)
end Go.Dw.Seat.Pa
end
section
set_option linter.unusedSimpArgs false
set_option maxRecDepth 100000
namespace Go.Dw.Seat.Pa
open Go Go.Dw Go.Proofs Go.IntWalk
theorem getE {α : Type} {l : List α} {i : Nat} (h : i < l.length) : ∃ v, l[i]? = some v := ⟨l[i], List.getElem?_eq_getElem h⟩
def exBs (o : Int) : PBs := ⟨120, 80, 15, o, 180, 500000⟩
def exBx : PBx := ⟨40, 30, 25, 5000, 6000, 900, 1000⟩
def exLy : PLy := ⟨600, 100, 500, 3000000, 3000000⟩
end Go.Dw.Seat.Pa
end
section
set_option linter.unusedSimpArgs false
set_option maxRecDepth 100000
namespace Go.Dw.Seat.Pa
open Go Go.Dw Go.Proofs Go.IntWalk
def exIt : List PIt := [⟨120, 1000000, 1000000⟩, ⟨120, 800000, 900000⟩]
theorem exc5 : chkE (exBs 5) exBx = 0 := by decide +kernel
theorem exm : mostX (exBs 5) exBx = 9 := by decide +kernel
theorem exy1 : lorE exLy exIt = 0 := by decide +kernel
theorem exy2 : (prtF exLy exIt).fl / 800 = 1740000 ∧ (prtF exLy exIt).fh / 800 = 1820000 ∧ (prtF exLy exIt).bl / 800 = 60000 ∧ (prtF exLy exIt).bh / 800 = 80000 := by decide +kernel
end Go.Dw.Seat.Pa
end
section
set_option linter.unusedSimpArgs false
set_option maxRecDepth 100000
namespace Go.Dw.Seat.Pa
open Go Go.Dw Go.Proofs Go.IntWalk
theorem rowC_snocL (l : List Lod) (x : Lod) : rowC (rows eLd l) ++ [[D.c (.v (.int .i64 x.sl)), D.c (.v (.int .i64 x.sh)), D.c (.v (.int .i64 x.wl)), D.c (.v (.int .i64 x.wh))]] = rowC (rows eLd (l ++ [x])) := by simp [rowC, rows, eLd]
end Go.Dw.Seat.Pa
end
section
set_option linter.unusedSimpArgs false
set_option maxRecDepth 100000
namespace Go.Dw.Seat.Pa
open Go Go.Dw Go.Proofs Go.IntWalk
theorem paSpan (a b : Int) : DCall Try.prog 7 [dI a, dI b] [] (.agg [dI a, dI b]) [] := by
 refine DCall.of Try.func7 sf7 hb7 (Nat.le_of_ble_eq_true rfl) (okRes_nil fun _ => rfl) ?_; simp only [s7, idxs, Nat.reduceAdd]
 repeat' (first|(with_reducible first|apply qA|apply qB|apply qC|apply qD|apply qE|apply qF)|(simp (disch:=omega) only [go_sem, simprocAttr, qN, qO, qP, qQ])|exact qM rfl rfl rfl|(refine qG rfl ?_)|(refine qH rfl ?_)|(refine qI rfl ?_ ?_<;>intro hc<;>(try simp only [go_sem] at hc))|(refine qJ ?_ ?_<;>intro hc<;>(try simp only [hc])<;>(try simp only [go_sem] at hc)))
theorem paPallet : DCall Try.prog 10 [] [] (bD true) [] := by
 have s1 := paSpan 5000 6000
 have s2 := paSpan 900 1000
 have s3 := paSpan 1000000 1000000
 have s4 := paSpan 800000 900000
 have s5 := paSpan 60000 80000
 have c3 := plMost (exBs 5) exBx
 rw [exm, exc5] at c3
 have c9 := plAxles exLy exIt (by decide)
 rw [axD, if_pos exy1, show 2 * (exLy.bk - exLy.fr) = 800 from rfl, exy2.1, exy2.2.1, exy2.2.2.1, exy2.2.2.2] at c9
 have c9 : DCall Try.prog 13 [lyrD exLy, itsD true exIt] [] _ [] := DCall.lbl c9 rfl (.same (.sl .nil))
 refine DCall.of Try.func10 sf10 hb10 (Nat.le_of_ble_eq_true rfl) (okRes_nil fun _ => rfl) ?_; simp only [s10, idxs, Nat.reduceAdd]
 repeat' (first|(with_reducible first|apply qA|apply qB|apply qC|apply qD|apply qE|apply qF)|(refine qL rfl (WF.of ?_) ?_; first|rfl|skip)|(simp (disch:=omega) only [go_sem, simprocAttr, qN, qO, qP, qQ])|exact qM rfl rfl rfl|(refine qG rfl ?_)|(refine qK (s1) (by decide) ?_)|(refine qK (s2) (by decide) ?_)|(refine qK (s3) (by decide) ?_)|(refine qK (s4) (by decide) ?_)|(refine qK (s5) (by decide) ?_)|(refine qK (c3) (by decide) ?_)|(refine qK (c9) (by decide) ?_)|(refine qH rfl ?_)|(refine qI rfl ?_ ?_<;>intro hc<;>(try simp only [go_sem] at hc))|(refine qJ ?_ ?_<;>intro hc<;>(try simp only [hc])<;>(try simp only [go_sem] at hc)))
end Go.Dw.Seat.Pa
end
section
set_option linter.unusedSimpArgs false
set_option maxRecDepth 100000
namespace Go.Dw.Seat
open Go Go.Dw Go.Proofs Go.IntWalk
abbrev dQ64 (n : Int) : D := .c (.v (.int .u64 n))
theorem rlMul64 : DCall Try.prog 169 [dQ64 1, dQ64 3] [] (.tup [dQ64 0, dQ64 3]) [] := by
 refine DCall.of Try.func169 sf169 hb169 (Nat.le_of_ble_eq_true rfl) (okRes_nil fun _ => rfl) ?_; simp only [s169, idxs, Nat.reduceAdd]
 repeat' (first|(with_reducible first|apply qA|apply qB|apply qC|apply qD|apply qE|apply qF)|(simp (disch:=omega) only [go_sem, simprocAttr, qN, qO, qP, qQ])|exact qM rfl rfl rfl|(refine qG rfl ?_)|(refine qH rfl ?_)|(refine qI rfl ?_ ?_<;>intro hc<;>(try simp only [go_sem] at hc))|(refine qJ ?_ ?_<;>intro hc<;>(try simp only [hc])<;>(try simp only [go_sem] at hc)))
theorem rlMul : DCall Try.prog 153 [dQ64 1, dQ64 3] [] (.tup [dQ64 0, dQ64 3]) [] := by
 have h1 := rlMul64
 refine DCall.of Try.func153 sf153 hb153 (Nat.le_of_ble_eq_true rfl) (okRes_nil fun _ => rfl) ?_; simp only [s153, idxs, Nat.reduceAdd]
 repeat' (first|(with_reducible first|apply qA|apply qB|apply qC|apply qD|apply qE|apply qF)|(simp (disch:=omega) only [go_sem, simprocAttr, qN, qO, qP, qQ])|exact qM rfl rfl rfl|(refine qG rfl ?_)|(refine qK (h1) (by decide) ?_)|(refine qH rfl ?_)|(refine qI rfl ?_ ?_<;>intro hc<;>(try simp only [go_sem] at hc))|(refine qJ ?_ ?_<;>intro hc<;>(try simp only [hc])<;>(try simp only [go_sem] at hc)))
theorem row1_ok (k : Nat) (l : List Int) : okRes (.own k) [(k, .row 1 (rowC (rows eI l)))] := by
 refine ⟨fun q hq => ?_, fun n x hi q hq => ?_⟩
 ·have h1 : q ≠ k := by rintro rfl; simp [get] at hq
  have h2 : k ≠ q := fun h => h1 h.symm
  simp only [D.men, beq_eq_false_iff_ne, ne_eq]
  first | exact h1 | exact h2
 ·have := get_mem hi
  simp only [List.mem_cons, Prod.mk.injEq, List.not_mem_nil, or_false] at this
  obtain ⟨_, rfl⟩ := this
  exact rowC_men q 1 _
set_option maxHeartbeats 2000000 in
theorem rlRepeat (b : Bool) (x : Int) : DCall Try.prog 125 [dIs b [x], dI 3] [] (.own 30) [(30, .row 1 (rowC (rows eI [x, x, x])))] := by
 have h1 := rlMul
 refine DCall.of Try.func125 sf125 hb125 (Nat.le_of_ble_eq_true rfl) (row1_ok 30 _) ?_
 simp only [s125, o125_0, o125_1, o125_2, o125_3, o125_4, o125_5, o125_6, o125_7, o125_8, o125_9, idxs, Nat.reduceAdd]
 have u3 : Try.prog.underlying 3 = some (.int .i64) := by kernel_rfl
 have uu : Try.prog.underlying 71 = some (.int .u64) := by kernel_rfl
 have w1 : IntKind.u64.wrap 1 = 1 := by decide
 have w3 : IntKind.u64.wrap 3 = 3 := by decide
 repeat' (first|(with_reducible first|apply qA|apply qB|apply qC|apply qD|apply qE|apply qF)|(refine DW.ord rfl (WF.of (by first|rfl|simp (disch:=omega) only [go_sem, simprocAttr, qN, qO, qP, qQ, u3, uu, w1, w3])) ?_ ?_ ?_; rotate_left)|rfl|(with_reducible refine And.intro ?_ ?_)|(simp (disch:=omega) only [go_sem, simprocAttr, qN, qO, qP, qQ, u3, uu, w1, w3])|exact qM rfl rfl rfl|(refine qG rfl ?_)|(refine qK (h1) (by decide) ?_)|(refine qH rfl ?_)|(refine qI rfl ?_ ?_<;>intro hc<;>(try simp only [go_sem] at hc))|(refine qJ ?_ ?_<;>intro hc<;>(try simp only [hc])<;>(try simp only [go_sem] at hc)))
 refine DW.loop (ι := { n : Nat // 1 ≤ n ∧ n ≤ 3 }) (fun n => ⟨48, [(8, dI n.1), (7, .own 30)], [(30, .row 1 (rowC (rows eI (List.take n.1 [x, x, x] ++ List.drop n.1 [0, 0, 0]))))]⟩) (fun n => 3 - n.1) ⟨1, by omega⟩ ?_ ?_
 ·refine Ent.to ?_ ?_ <;> simp (disch:=omega) only [qR,qS,qTw,qU,get,Nat.reduceEqDiff,↓reduceIte,qV,qW,qX,qY,qZ,and_self,dI,i64_in,and_true,true_and,rA,rB,rC,rD]
  all_goals exact .refl _
 have m12 : min 1 2 = 1 := rfl
 have m21 : min 2 1 = 1 := rfl
 rintro ⟨n, hn1, hn3⟩
 dsimp only
 rcases (by omega : n = 1 ∨ n = 2 ∨ n = 3) with rfl | rfl | rfl
 ·repeat' (first|(with_reducible first|apply qA|apply qB|apply qC|apply qD|apply qE|apply qF)|(refine DW.ord rfl (WF.of (by first|rfl|simp (disch:=omega) only [go_sem, simprocAttr, qN, qO, qP, qQ, m12])) ?_ ?_ ?_; rotate_left)|rfl|(with_reducible refine And.intro ?_ ?_)|(simp (disch:=omega) only [go_sem, simprocAttr, qN, qO, qP, qQ, m12])|exact qM rfl rfl rfl|(refine qG rfl ?_)|(refine qH rfl ?_)|(refine qI rfl ?_ ?_<;>intro hc<;>(try simp only [go_sem] at hc))|(refine qJ ?_ ?_<;>intro hc<;>(try simp only [hc])<;>(try simp only [go_sem] at hc)))
  refine ⟨⟨2, by omega⟩, ?_, Ent.to ?_ ?_⟩ <;> first | (show _ < _; (try simp only); omega) | (simp (disch:=omega) only [qR,qS,qTw,qU,get,Nat.reduceEqDiff,↓reduceIte,qV,qW,qX,qY,qZ,and_self,dI,i64_in,and_true,true_and,rA,rB,rC,rD])
  all_goals exact .refl _
 ·repeat' (first|(with_reducible first|apply qA|apply qB|apply qC|apply qD|apply qE|apply qF)|(refine DW.ord rfl (WF.of (by first|rfl|simp (disch:=omega) only [go_sem, simprocAttr, qN, qO, qP, qQ, m21])) ?_ ?_ ?_; rotate_left)|rfl|(with_reducible refine And.intro ?_ ?_)|(simp (disch:=omega) only [go_sem, simprocAttr, qN, qO, qP, qQ, m21])|exact qM rfl rfl rfl|(refine qG rfl ?_)|(refine qH rfl ?_)|(refine qI rfl ?_ ?_<;>intro hc<;>(try simp only [go_sem] at hc))|(refine qJ ?_ ?_<;>intro hc<;>(try simp only [hc])<;>(try simp only [go_sem] at hc)))
  refine ⟨⟨3, by omega⟩, ?_, Ent.to ?_ ?_⟩ <;> first | (show _ < _; (try simp only); omega) | (simp (disch:=omega) only [qR,qS,qTw,qU,get,Nat.reduceEqDiff,↓reduceIte,qV,qW,qX,qY,qZ,and_self,dI,i64_in,and_true,true_and,rA,rB,rC,rD])
  all_goals exact .refl _
 ·repeat' (first|(with_reducible first|apply qA|apply qB|apply qC|apply qD|apply qE|apply qF)|(refine DW.ord rfl (WF.of (by first|rfl|simp (disch:=omega) only [go_sem, simprocAttr, qN, qO, qP, qQ])) ?_ ?_ ?_; rotate_left)|rfl|(with_reducible refine And.intro ?_ ?_)|(simp (disch:=omega) only [go_sem, simprocAttr, qN, qO, qP, qQ])|exact qM rfl rfl rfl|(refine qG rfl ?_)|(refine qH rfl ?_)|(refine qI rfl ?_ ?_<;>intro hc<;>(try simp only [go_sem] at hc))|(refine qJ ?_ ?_<;>intro hc<;>(try simp only [hc])<;>(try simp only [go_sem] at hc)))
  exact retS_row rfl rfl (rowC_nb (n := 1) (rows_nb eI_nb [x, x, x]))
theorem sw_mapi (i j : Nat) : ∀ l : List C, swDs i j (l.map D.c) = l.map D.c
 | [] => rfl
 | c :: l => by rw [List.map_cons, swDs, sw_mapi i j l]; rfl
theorem sw_rowI (i j : Nat) (es : List (List C)) : (rowC es).map (swDs i j) = rowC es := by
 simp only [rowC, List.map_map]
 exact List.map_congr_left (fun e _ => sw_mapi i j e)
theorem rlRepeatP (b : Bool) (x : Int) (k : Nat) : DCall Try.prog 125 [dIs b [x], dI 3] [] (.own k) [(k, .row 1 (rowC (rows eI [x, x, x])))] := by
 have e1 : swD 30 k (.own 30) = .own k := by simp [swD, swk]
 have e2 : swX 30 k [(30, .row 1 (rowC (rows eI [x, x, x])))] = [(k, .row 1 (rowC (rows eI [x, x, x])))] := by
  simp [swX, swB, swk, sw_rowI]
 have := DCall.swap 30 k (by rw [e1, e2]; exact row1_ok k _) (rlRepeat b x)
 rwa [e1, e2] at this
end Go.Dw.Seat
end
section
set_option linter.unusedSimpArgs false
set_option maxRecDepth 100000
namespace Go.Dw.Seat
open Go Go.Dw Go.Proofs Go.IntWalk
abbrev nvI : Int := 1099511627776
abbrev nlC : D := .c (.v (.slice none 0 0))
def nwB : Nat → List (Nat × Blk)
 | 0 => [(6, .row 1 [[nlC], [nlC], [nlC]])]
 | 1 => [(201, .row 1 (rowC (rows eI [0, nvI, nvI]))), (6, .row 1 [[.own 201], [nlC], [nlC]])]
 | 2 => [(202, .row 1 (rowC (rows eI [nvI, 0, nvI]))), (201, .row 1 (rowC (rows eI [0, nvI, nvI]))), (6, .row 1 [[.own 201], [.own 202], [nlC]])]
 | _ => [(203, .row 1 (rowC (rows eI [nvI, nvI, 0]))), (202, .row 1 (rowC (rows eI [nvI, 0, nvI]))), (201, .row 1 (rowC (rows eI [0, nvI, nvI]))), (6, .row 1 [[.own 201], [.own 202], [.own 203]])]
theorem web_ok : okRes (.own 6) (nwB 3) := by
 refine ⟨fun q hq => ?_, fun n x hi q hq => ?_⟩
 ·have h1 : q ≠ 6 := by rintro rfl; simp [nwB, get] at hq
  have h2 : 6 ≠ q := fun h => h1 h.symm
  simp only [D.men, beq_eq_false_iff_ne, ne_eq]
  first | exact h1 | exact h2
 ·have hq1 : q ≠ 201 := by rintro rfl; simp [nwB, get] at hq
  have hq2 : q ≠ 202 := by rintro rfl; simp [nwB, get] at hq
  have hq3 : q ≠ 203 := by rintro rfl; simp [nwB, get] at hq
  have := get_mem hi
  simp only [nwB, List.mem_cons, Prod.mk.injEq, List.not_mem_nil, or_false] at this
  rcases this with ⟨_, rfl⟩ | ⟨_, rfl⟩ | ⟨_, rfl⟩ | ⟨_, rfl⟩
  ·exact rowC_men q 1 _
  ·exact rowC_men q 1 _
  ·exact rowC_men q 1 _
  ·simp [Blk.men, D.mens, D.men]
   omega
set_option maxHeartbeats 4000000 in
theorem rlNewWeb : DCall Try.prog 86 [dI 3] [] (.own 6) (nwB 3) := by
 have h1 := rlRepeatP true nvI 16
 refine DCall.of Try.func86 sf86 hb86 (Nat.le_of_ble_eq_true rfl) web_ok ?_
 simp only [s86, idxs, Nat.reduceAdd]
 repeat' (first|(with_reducible first|apply qA|apply qB|apply qC|apply qD|apply qE|apply qF)|(simp (disch:=omega) only [go_sem, simprocAttr, qN, qO, qP, qQ])|exact qM rfl rfl rfl|(refine qG rfl ?_)|(refine qH rfl ?_)|(refine qI rfl ?_ ?_<;>intro hc<;>(try simp only [go_sem] at hc))|(refine qJ ?_ ?_<;>intro hc<;>(try simp only [hc])<;>(try simp only [go_sem] at hc)))
 refine DW.loop (ι := { i : Nat // i ≤ 3 }) (fun i => ⟨26, [(9, dI i.1), (8, dI 3), (3, .own 6), (0, dI 3)], nwB i.1⟩) (fun i => 3 - i.1) ⟨0, by omega⟩ ?_ ?_
 ·refine Ent.to ?_ ?_ <;> simp (disch:=omega) only [qR,qS,qTw,qU,get,Nat.reduceEqDiff,↓reduceIte,qV,qW,qX,qY,qZ,and_self,dI,i64_in,and_true,true_and,rA,rB,rC,rD,nwB]
  all_goals exact .refl _
 rintro ⟨i, hi⟩
 dsimp only
 rcases (by omega : i = 0 ∨ i = 1 ∨ i = 2 ∨ i = 3) with rfl | rfl | rfl | rfl
 ·rw [show nwB 0 = [(6, .row 1 [[nlC], [nlC], [nlC]])] from rfl]
  repeat' (first|(with_reducible first|apply qA|apply qB|apply qC|apply qD|apply qE|apply qF)|(simp (disch:=omega) only [go_sem, simprocAttr, qN, qO, qP, qQ])|exact qM rfl rfl rfl|(refine qG rfl ?_)|(refine qH rfl ?_)|(refine qI rfl ?_ ?_<;>intro hc<;>(try simp only [go_sem] at hc))|(refine qJ ?_ ?_<;>intro hc<;>(try simp only [hc])<;>(try simp only [go_sem] at hc)))
  (refine call_r (h1) (by decide) (by first | rfl | simp (disch:=omega) only [go_sem,simprocAttr,qN,qO,qP,qQ]) (by first | rfl | simp (disch:=omega) only [go_sem,simprocAttr,qN,qO,qP,qQ]) ?_; simp (disch:=omega) only [go_sem,simprocAttr,qN,qO,qP,qQ])
  have hst : List.set (rowC (rows eI [nvI, nvI, nvI])) 0 [D.c (.v (.int .i64 0))] = rowC (rows eI [0, nvI, nvI]) := rfl
  repeat' (first|(with_reducible first|apply qA|apply qB|apply qC|apply qD|apply qE|apply qF)|(simp (disch:=omega) only [go_sem, simprocAttr, qN, qO, qP, qQ, List.set_cons_zero, List.set_cons_succ, hst])|exact qM rfl rfl rfl|(refine qG rfl ?_)|(refine qH rfl ?_)|(refine qI rfl ?_ ?_<;>intro hc<;>(try simp only [go_sem] at hc))|(refine qJ ?_ ?_<;>intro hc<;>(try simp only [hc])<;>(try simp only [go_sem] at hc)))
  refine ⟨⟨1, by omega⟩, by dsimp only; omega, (Ent.swk 16 201).trans ?_⟩
  rw [show nwB 1 = [(201, .row 1 (rowC (rows eI [0, nvI, nvI]))), (6, .row 1 [[.own 201], [nlC], [nlC]])] from rfl]
  simp only [swT, swX, swB, swD, swDs, swk, sw_rowI, List.map_cons, List.map_nil, Nat.reduceEqDiff, ↓reduceIte]
  refine Ent.to ?_ ?_ <;> simp (disch:=omega) only [qR,qS,qTw,qU,get,Nat.reduceEqDiff,↓reduceIte,qV,qW,qX,qY,qZ,and_self,dI,i64_in,and_true,true_and,rA,rB,rC,rD]
  all_goals exact .refl _
 ·rw [show nwB 1 = [(201, .row 1 (rowC (rows eI [0, nvI, nvI]))), (6, .row 1 [[.own 201], [nlC], [nlC]])] from rfl]
  repeat' (first|(with_reducible first|apply qA|apply qB|apply qC|apply qD|apply qE|apply qF)|(simp (disch:=omega) only [go_sem, simprocAttr, qN, qO, qP, qQ])|exact qM rfl rfl rfl|(refine qG rfl ?_)|(refine qH rfl ?_)|(refine qI rfl ?_ ?_<;>intro hc<;>(try simp only [go_sem] at hc))|(refine qJ ?_ ?_<;>intro hc<;>(try simp only [hc])<;>(try simp only [go_sem] at hc)))
  (refine call_r (h1) (by decide) (by first | rfl | simp (disch:=omega) only [go_sem,simprocAttr,qN,qO,qP,qQ]) (by first | rfl | simp (disch:=omega) only [go_sem,simprocAttr,qN,qO,qP,qQ]) ?_; simp (disch:=omega) only [go_sem,simprocAttr,qN,qO,qP,qQ])
  have hst : List.set (rowC (rows eI [nvI, nvI, nvI])) 1 [D.c (.v (.int .i64 0))] = rowC (rows eI [nvI, 0, nvI]) := rfl
  repeat' (first|(with_reducible first|apply qA|apply qB|apply qC|apply qD|apply qE|apply qF)|(simp (disch:=omega) only [go_sem, simprocAttr, qN, qO, qP, qQ, List.set_cons_zero, List.set_cons_succ, hst])|exact qM rfl rfl rfl|(refine qG rfl ?_)|(refine qH rfl ?_)|(refine qI rfl ?_ ?_<;>intro hc<;>(try simp only [go_sem] at hc))|(refine qJ ?_ ?_<;>intro hc<;>(try simp only [hc])<;>(try simp only [go_sem] at hc)))
  refine ⟨⟨2, by omega⟩, by dsimp only; omega, (Ent.swk 16 202).trans ?_⟩
  rw [show nwB 2 = [(202, .row 1 (rowC (rows eI [nvI, 0, nvI]))), (201, .row 1 (rowC (rows eI [0, nvI, nvI]))), (6, .row 1 [[.own 201], [.own 202], [nlC]])] from rfl]
  simp only [swT, swX, swB, swD, swDs, swk, sw_rowI, List.map_cons, List.map_nil, Nat.reduceEqDiff, ↓reduceIte]
  refine Ent.to ?_ ?_ <;> simp (disch:=omega) only [qR,qS,qTw,qU,get,Nat.reduceEqDiff,↓reduceIte,qV,qW,qX,qY,qZ,and_self,dI,i64_in,and_true,true_and,rA,rB,rC,rD]
  all_goals exact .refl _
 ·rw [show nwB 2 = [(202, .row 1 (rowC (rows eI [nvI, 0, nvI]))), (201, .row 1 (rowC (rows eI [0, nvI, nvI]))), (6, .row 1 [[.own 201], [.own 202], [nlC]])] from rfl]
  repeat' (first|(with_reducible first|apply qA|apply qB|apply qC|apply qD|apply qE|apply qF)|(simp (disch:=omega) only [go_sem, simprocAttr, qN, qO, qP, qQ])|exact qM rfl rfl rfl|(refine qG rfl ?_)|(refine qH rfl ?_)|(refine qI rfl ?_ ?_<;>intro hc<;>(try simp only [go_sem] at hc))|(refine qJ ?_ ?_<;>intro hc<;>(try simp only [hc])<;>(try simp only [go_sem] at hc)))
  (refine call_r (h1) (by decide) (by first | rfl | simp (disch:=omega) only [go_sem,simprocAttr,qN,qO,qP,qQ]) (by first | rfl | simp (disch:=omega) only [go_sem,simprocAttr,qN,qO,qP,qQ]) ?_; simp (disch:=omega) only [go_sem,simprocAttr,qN,qO,qP,qQ])
  have hst : List.set (rowC (rows eI [nvI, nvI, nvI])) 2 [D.c (.v (.int .i64 0))] = rowC (rows eI [nvI, nvI, 0]) := rfl
  repeat' (first|(with_reducible first|apply qA|apply qB|apply qC|apply qD|apply qE|apply qF)|(simp (disch:=omega) only [go_sem, simprocAttr, qN, qO, qP, qQ, List.set_cons_zero, List.set_cons_succ, hst])|exact qM rfl rfl rfl|(refine qG rfl ?_)|(refine qH rfl ?_)|(refine qI rfl ?_ ?_<;>intro hc<;>(try simp only [go_sem] at hc))|(refine qJ ?_ ?_<;>intro hc<;>(try simp only [hc])<;>(try simp only [go_sem] at hc)))
  refine ⟨⟨3, by omega⟩, by dsimp only; omega, (Ent.swk 16 203).trans ?_⟩
  rw [show nwB 3 = [(203, .row 1 (rowC (rows eI [nvI, nvI, 0]))), (202, .row 1 (rowC (rows eI [nvI, 0, nvI]))), (201, .row 1 (rowC (rows eI [0, nvI, nvI]))), (6, .row 1 [[.own 201], [.own 202], [.own 203]])] from rfl]
  simp only [swT, swX, swB, swD, swDs, swk, sw_rowI, List.map_cons, List.map_nil, Nat.reduceEqDiff, ↓reduceIte]
  refine Ent.to ?_ ?_ <;> simp (disch:=omega) only [qR,qS,qTw,qU,get,Nat.reduceEqDiff,↓reduceIte,qV,qW,qX,qY,qZ,and_self,dI,i64_in,and_true,true_and,rA,rB,rC,rD]
  all_goals exact .refl _
 ·rw [show nwB 3 = [(203, .row 1 (rowC (rows eI [nvI, nvI, 0]))), (202, .row 1 (rowC (rows eI [nvI, 0, nvI]))), (201, .row 1 (rowC (rows eI [0, nvI, nvI]))), (6, .row 1 [[.own 201], [.own 202], [.own 203]])] from rfl]
  repeat' (first|(with_reducible first|apply qA|apply qB|apply qC|apply qD|apply qE|apply qF)|(simp (disch:=omega) only [go_sem, simprocAttr, qN, qO, qP, qQ])|exact qM rfl rfl rfl|(refine qG rfl ?_)|(refine qH rfl ?_)|(refine qI rfl ?_ ?_<;>intro hc<;>(try simp only [go_sem] at hc))|(refine qJ ?_ ?_<;>intro hc<;>(try simp only [hc])<;>(try simp only [go_sem] at hc)))
  refine retS_bs rfl rfl rfl (get_all (p := fun k x => get k _ = some x ∧ x.nb = true) ?_)
  intro q hq
  simp only [List.mem_cons, List.not_mem_nil, or_false] at hq
  rcases hq with rfl | rfl | rfl | rfl
  ·exact ⟨rfl, rowC_nb (n := 1) (rows_nb eI_nb _)⟩
  ·exact ⟨rfl, rowC_nb (n := 1) (rows_nb eI_nb _)⟩
  ·exact ⟨rfl, rowC_nb (n := 1) (rows_nb eI_nb _)⟩
  ·exact ⟨rfl, rfl⟩
end Go.Dw.Seat
end
section
set_option linter.unusedSimpArgs false
set_option maxRecDepth 100000
namespace Go.Dw.Seat
open Go Go.Dw Go.Proofs Go.IntWalk
structure WP where
 l0 : Nat
 l1 : Nat
 l2 : Nat
 l3 : Nat
 c0 : Nat
 c1 : Nat
 c2 : Nat
 c3 : Nat
 m0 : Nat
 m1 : Nat
 m2 : Nat
 m3 : Nat
def wTops (m : Nat) : List D := List.replicate m .top
abbrev wV (l c : Nat) : D := .c (.v (.slice (some ⟨l, 0, none⟩) 3 c))
structure M9 where
 a : Int
 b : Int
 c : Int
 d : Int
 e : Int
 f : Int
 g : Int
 h : Int
 i : Int
abbrev wbB (p : WP) (M : M9) : List (Nat × Blk) := [(6, .pbox p.l0 (wV p.l1 p.c1 :: wV p.l2 p.c2 :: wV p.l3 p.c3 :: wTops p.m0)), (201, .pbox p.l1 (dI M.a :: dI M.b :: dI M.c :: wTops p.m1)), (202, .pbox p.l2 (dI M.d :: dI M.e :: dI M.f :: wTops p.m2)), (203, .pbox p.l3 (dI M.g :: dI M.h :: dI M.i :: wTops p.m3))]
theorem wT_men (k m : Nat) : D.mens k (wTops m) = false := by
 induction m with
 | zero => rfl
 | succ m ih => exact ih
theorem wT_keys (bx : List (Nat × Blk)) (m : Nat) : D.keysIns bx (wTops m) = true := by
 induction m with
 | zero => rfl
 | succ m ih => exact ih
theorem wT_nb (m : Nat) : D.nbs (wTops m) = true := by
 induction m with
 | zero => rfl
 | succ m ih => exact ih
theorem wT_kill (k : Nat) : ∀ m : Nat, (wTops m).map (killD k) = wTops m := fun m => map_killD_of (wT_men k m)
attribute [go_sem] wT_men wT_keys wT_kill
theorem wb_ok (p : WP) (r : D) (hr : ∀ k, r.men k = false) (M : M9) : okRes r (wbB p M) := by
 refine ⟨fun k _ => hr k, fun j x hj k hk => ?_⟩
 have := get_mem hj
 simp only [List.mem_cons, Prod.mk.injEq, List.not_mem_nil, or_false] at this
 rcases this with ⟨_, rfl⟩ | ⟨_, rfl⟩ | ⟨_, rfl⟩ | ⟨_, rfl⟩ <;> simp [Blk.men, D.mens, D.men, wT_men]
theorem wb_nb (p : WP) (M : M9) : ∀ q ∈ wbB p M, q.2.nb = true := fun q hq => by
 simp only [List.mem_cons, List.not_mem_nil, or_false] at hq
 rcases hq with rfl | rfl | rfl | rfl <;> simp [Blk.nb, D.nbs, D.nb, C.nb, wT_nb]
set_option maxHeartbeats 2000000 in
theorem rlKnows01 (p : WP) (M : M9) (lo hi : Int) (hlo : -1000000000 ≤ lo ∧ lo ≤ 1000000000) : DCall Try.prog 87 [wV p.l0 p.c0, dI 0, dI 1, .agg [dI lo, dI hi]] (wbB p M) (.tup []) (wbB p { M with b := if hi < M.b then hi else M.b, d := if 0 - lo < M.d then 0 - lo else M.d }) := by
 obtain ⟨a, b, c, d, e, f, g, h, i⟩ := M
 refine DCall.of Try.func87 sf87 hb87 (Nat.le_of_ble_eq_true rfl) (wb_ok p _ (fun _ => rfl) _) ?_
 simp only [s87, idxs, Nat.reduceAdd]
 refine DW.places 6 201 (by decide) rfl rfl fun n01 => ?_
 refine DW.places 6 202 (by decide) rfl rfl fun n02 => ?_
 refine DW.places 6 203 (by decide) rfl rfl fun n03 => ?_
 refine DW.places 201 202 (by decide) rfl rfl fun n12 => ?_
 refine DW.places 201 203 (by decide) rfl rfl fun n13 => ?_
 refine DW.places 202 203 (by decide) rfl rfl fun n23 => ?_
 have q01 := eq_false n01
 have q02 := eq_false n02
 have q03 := eq_false n03
 have q12 := eq_false n12
 have q13 := eq_false n13
 have q23 := eq_false n23
 have r01 := eq_false n01.symm
 have r02 := eq_false n02.symm
 have r03 := eq_false n03.symm
 have r12 := eq_false n12.symm
 have r13 := eq_false n13.symm
 have r23 := eq_false n23.symm
 repeat' (first|(with_reducible first|apply qA|apply qB|apply qC|apply qD|apply qE|apply qF)|(refine qL rfl (WF.of ?_) ?_; first|rfl|skip)|(simp (disch:=omega) only [go_sem, simprocAttr, qN, qO, qP, qQ, q01, q02, q03, q12, q13, q23, r01, r02, r03, r12, r13, r23])|exact qM rfl rfl rfl|(refine qG rfl ?_)|(refine qH rfl ?_)|(refine qI rfl ?_ ?_<;>intro hc<;>(try simp only [go_sem] at hc))|(refine qJ ?_ ?_<;>intro hc<;>(try simp only [hc])<;>(try simp only [go_sem] at hc)))
 exact ⟨.inr rfl, _, [], Ent.refl _, rfl, .refl _, rfl, get_all (p := fun k x => get k _ = some x ∧ x.nb = true) (fun q hq => ⟨by
  simp only [List.mem_cons, List.not_mem_nil, or_false] at hq
  rcases hq with rfl | rfl | rfl | rfl <;> rfl, wb_nb p _ q hq⟩)⟩
set_option maxHeartbeats 2000000 in
theorem rlKnows12 (p : WP) (M : M9) (lo hi : Int) (hlo : -1000000000 ≤ lo ∧ lo ≤ 1000000000) : DCall Try.prog 87 [wV p.l0 p.c0, dI 1, dI 2, .agg [dI lo, dI hi]] (wbB p M) (.tup []) (wbB p { M with f := if hi < M.f then hi else M.f, h := if 0 - lo < M.h then 0 - lo else M.h }) := by
 obtain ⟨a, b, c, d, e, f, g, h, i⟩ := M
 refine DCall.of Try.func87 sf87 hb87 (Nat.le_of_ble_eq_true rfl) (wb_ok p _ (fun _ => rfl) _) ?_
 simp only [s87, idxs, Nat.reduceAdd]
 refine DW.places 6 201 (by decide) rfl rfl fun n01 => ?_
 refine DW.places 6 202 (by decide) rfl rfl fun n02 => ?_
 refine DW.places 6 203 (by decide) rfl rfl fun n03 => ?_
 refine DW.places 201 202 (by decide) rfl rfl fun n12 => ?_
 refine DW.places 201 203 (by decide) rfl rfl fun n13 => ?_
 refine DW.places 202 203 (by decide) rfl rfl fun n23 => ?_
 have q01 := eq_false n01
 have q02 := eq_false n02
 have q03 := eq_false n03
 have q12 := eq_false n12
 have q13 := eq_false n13
 have q23 := eq_false n23
 have r01 := eq_false n01.symm
 have r02 := eq_false n02.symm
 have r03 := eq_false n03.symm
 have r12 := eq_false n12.symm
 have r13 := eq_false n13.symm
 have r23 := eq_false n23.symm
 repeat' (first|(with_reducible first|apply qA|apply qB|apply qC|apply qD|apply qE|apply qF)|(refine qL rfl (WF.of ?_) ?_; first|rfl|skip)|(simp (disch:=omega) only [go_sem, simprocAttr, qN, qO, qP, qQ, q01, q02, q03, q12, q13, q23, r01, r02, r03, r12, r13, r23])|exact qM rfl rfl rfl|(refine qG rfl ?_)|(refine qH rfl ?_)|(refine qI rfl ?_ ?_<;>intro hc<;>(try simp only [go_sem] at hc))|(refine qJ ?_ ?_<;>intro hc<;>(try simp only [hc])<;>(try simp only [go_sem] at hc)))
 exact ⟨.inr rfl, _, [], Ent.refl _, rfl, .refl _, rfl, get_all (p := fun k x => get k _ = some x ∧ x.nb = true) (fun q hq => ⟨by
  simp only [List.mem_cons, List.not_mem_nil, or_false] at hq
  rcases hq with rfl | rfl | rfl | rfl <;> rfl, wb_nb p _ q hq⟩)⟩
def stp (M : M9) : Nat → Nat → Nat → M9
 | 0, 0, 0 => { M with a := if M.a + M.a < M.a then M.a + M.a else M.a }
 | 0, 0, 1 => { M with b := if M.a + M.b < M.b then M.a + M.b else M.b }
 | 0, 0, 2 => { M with c := if M.a + M.c < M.c then M.a + M.c else M.c }
 | 0, 1, 0 => { M with d := if M.d + M.a < M.d then M.d + M.a else M.d }
 | 0, 1, 1 => { M with e := if M.d + M.b < M.e then M.d + M.b else M.e }
 | 0, 1, 2 => { M with f := if M.d + M.c < M.f then M.d + M.c else M.f }
 | 0, 2, 0 => { M with g := if M.g + M.a < M.g then M.g + M.a else M.g }
 | 0, 2, 1 => { M with h := if M.g + M.b < M.h then M.g + M.b else M.h }
 | 0, 2, 2 => { M with i := if M.g + M.c < M.i then M.g + M.c else M.i }
 | 1, 0, 0 => { M with a := if M.b + M.d < M.a then M.b + M.d else M.a }
 | 1, 0, 1 => { M with b := if M.b + M.e < M.b then M.b + M.e else M.b }
 | 1, 0, 2 => { M with c := if M.b + M.f < M.c then M.b + M.f else M.c }
 | 1, 1, 0 => { M with d := if M.e + M.d < M.d then M.e + M.d else M.d }
 | 1, 1, 1 => { M with e := if M.e + M.e < M.e then M.e + M.e else M.e }
 | 1, 1, 2 => { M with f := if M.e + M.f < M.f then M.e + M.f else M.f }
 | 1, 2, 0 => { M with g := if M.h + M.d < M.g then M.h + M.d else M.g }
 | 1, 2, 1 => { M with h := if M.h + M.e < M.h then M.h + M.e else M.h }
 | 1, 2, 2 => { M with i := if M.h + M.f < M.i then M.h + M.f else M.i }
 | 2, 0, 0 => { M with a := if M.c + M.g < M.a then M.c + M.g else M.a }
 | 2, 0, 1 => { M with b := if M.c + M.h < M.b then M.c + M.h else M.b }
 | 2, 0, 2 => { M with c := if M.c + M.i < M.c then M.c + M.i else M.c }
 | 2, 1, 0 => { M with d := if M.f + M.g < M.d then M.f + M.g else M.d }
 | 2, 1, 1 => { M with e := if M.f + M.h < M.e then M.f + M.h else M.e }
 | 2, 1, 2 => { M with f := if M.f + M.i < M.f then M.f + M.i else M.f }
 | 2, 2, 0 => { M with g := if M.i + M.g < M.g then M.i + M.g else M.g }
 | 2, 2, 1 => { M with h := if M.i + M.h < M.h then M.i + M.h else M.h }
 | 2, 2, 2 => { M with i := if M.i + M.i < M.i then M.i + M.i else M.i }
 | _, _, _ => M
def clM : M9 := ⟨0, 3019, nvI, -3015, 0, 6000, nvI, -6000, 0⟩
def clF : Nat → M9
 | 0 => clM
 | n + 1 => stp (clF n) (n / 9) (n / 3 % 3) (n % 3)
def bnd (x : Int) : Prop := -100000000000000 ≤ x ∧ x ≤ 100000000000000
structure M9.ok (M : M9) : Prop where
 a : bnd M.a
 b : bnd M.b
 c : bnd M.c
 d : bnd M.d
 e : bnd M.e
 f : bnd M.f
 g : bnd M.g
 h : bnd M.h
 i : bnd M.i
def M9.okB (M : M9) : Bool := [M.a, M.b, M.c, M.d, M.e, M.f, M.g, M.h, M.i].all fun x => decide (-100000000000000 ≤ x) && decide (x ≤ 100000000000000)
theorem M9.okB_ok {M : M9} (h : M.okB = true) : M.ok := by
 simp only [M9.okB, List.all_cons, List.all_nil, Bool.and_true, Bool.and_eq_true, decide_eq_true_eq] at h
 obtain ⟨h1, h2, h3, h4, h5, h6, h7, h8, h9⟩ := h
 exact ⟨h1, h2, h3, h4, h5, h6, h7, h8, h9⟩
theorem clF_ok : ∀ n, n < 28 → (clF n).okB = true := by decide +kernel
theorem clF_end : clF 27 = ⟨0, 3019, 9019, -3015, 0, 6000, -9015, -6000, 0⟩ := by kernel_rfl
end Go.Dw.Seat
end
section
set_option linter.unusedSimpArgs false
set_option maxRecDepth 100000
namespace Go.Dw.Seat
open Go Go.Dw Go.Proofs Go.IntWalk
set_option maxHeartbeats 16000000 in
theorem rlClose (p : WP) : DCall Try.prog 89 [wV p.l0 p.c0] (wbB p clM) (bD true) (wbB p (clF 27)) := by
 refine DCall.of Try.func89 sf89 hb89 (Nat.le_of_ble_eq_true rfl) (wb_ok p _ (fun _ => rfl) _) ?_
 simp only [s89, idxs, Nat.reduceAdd]
 refine DW.places 6 201 (by decide) rfl rfl fun n01 => ?_
 refine DW.places 6 202 (by decide) rfl rfl fun n02 => ?_
 refine DW.places 6 203 (by decide) rfl rfl fun n03 => ?_
 refine DW.places 201 202 (by decide) rfl rfl fun n12 => ?_
 refine DW.places 201 203 (by decide) rfl rfl fun n13 => ?_
 refine DW.places 202 203 (by decide) rfl rfl fun n23 => ?_
 have q01 := eq_false n01
 have q02 := eq_false n02
 have q03 := eq_false n03
 have q12 := eq_false n12
 have q13 := eq_false n13
 have q23 := eq_false n23
 have r01 := eq_false n01.symm
 have r02 := eq_false n02.symm
 have r03 := eq_false n03.symm
 have r12 := eq_false n12.symm
 have r13 := eq_false n13.symm
 have r23 := eq_false n23.symm
 repeat' (first|(with_reducible first|apply qA|apply qB|apply qC|apply qD|apply qE|apply qF)|(refine qL rfl (WF.of ?_) ?_; first|rfl|skip)|(simp (disch:=omega) only [go_sem, simprocAttr, qN, qO, qP, qQ])|exact qM rfl rfl rfl|(refine qG rfl ?_)|(refine qH rfl ?_)|(refine qI rfl ?_ ?_<;>intro hc<;>(try simp only [go_sem] at hc))|(refine qJ ?_ ?_<;>intro hc<;>(try simp only [hc])<;>(try simp only [go_sem] at hc)))
 refine DW.loop (ι := { k : Nat // k ≤ 3 }) (fun k => ⟨68, [(9, dI k.1), (8, dI 3), (0, wV p.l0 p.c0)], wbB p (clF (9 * k.1))⟩) (fun k => 3 - k.1) ⟨0, by omega⟩ ?_ ?_
 ·refine Ent.to ?_ ?_ <;> simp (disch:=omega) only [qR,qS,qTw,qU,get,Nat.reduceEqDiff,↓reduceIte,qV,qW,qX,qY,qZ,and_self,dI,i64_in,and_true,true_and,rA,rB,rC,rD]
  all_goals first | exact .refl _ | exact ⟨.refl _, .refl _, .refl _, .refl _⟩ | exact ⟨.refl _, .refl _, .refl _⟩ | exact ⟨.refl _, .refl _⟩
 rintro ⟨k, hk⟩
 dsimp only
 rcases Nat.lt_or_ge k 3 with hk3 | hk3
 ·have hd : decide ((k : Int) < 3) = true := decide_eq_true (by omega)
  repeat' (first|(with_reducible first|apply qA|apply qB|apply qC|apply qD|apply qE|apply qF)|(refine qL rfl (WF.of ?_) ?_; first|rfl|skip)|(simp (disch:=omega) only [go_sem, simprocAttr, qN, qO, qP, qQ, hd])|exact qM rfl rfl rfl|(refine qG rfl ?_)|(refine qH rfl ?_)|(refine qI rfl ?_ ?_<;>intro hc<;>(try simp only [go_sem] at hc))|(refine qJ ?_ ?_<;>intro hc<;>(try simp only [hc])<;>(try simp only [go_sem] at hc)))
  refine DW.loop (ι := { i : Nat // i ≤ 3 }) (fun i => ⟨68, [(14, dI i.1), (13, dI 3), (9, dI k), (8, dI 3), (3, dI k), (0, wV p.l0 p.c0)], wbB p (clF (9 * k + 3 * i.1))⟩) (fun i => 3 - i.1) ⟨0, by omega⟩ ?_ ?_
  ·refine Ent.to ?_ ?_ <;> simp (disch:=omega) only [qR,qS,qTw,qU,get,Nat.reduceEqDiff,↓reduceIte,qV,qW,qX,qY,qZ,and_self,dI,i64_in,and_true,true_and,rA,rB,rC,rD]
   all_goals first | exact .refl _ | exact ⟨.refl _, .refl _, .refl _, .refl _⟩ | exact ⟨.refl _, .refl _, .refl _⟩ | exact ⟨.refl _, .refl _⟩
  rintro ⟨i, hi⟩
  dsimp only
  rcases Nat.lt_or_ge i 3 with hi3 | hi3
  ·have hdi : decide ((i : Int) < 3) = true := decide_eq_true (by omega)
   repeat' (first|(with_reducible first|apply qA|apply qB|apply qC|apply qD|apply qE|apply qF)|(refine qL rfl (WF.of ?_) ?_; first|rfl|skip)|(simp (disch:=omega) only [go_sem, simprocAttr, qN, qO, qP, qQ, hdi])|exact qM rfl rfl rfl|(refine qG rfl ?_)|(refine qH rfl ?_)|(refine qI rfl ?_ ?_<;>intro hc<;>(try simp only [go_sem] at hc))|(refine qJ ?_ ?_<;>intro hc<;>(try simp only [hc])<;>(try simp only [go_sem] at hc)))
   refine DW.loop (ι := { j : Nat // j ≤ 3 }) (fun j => ⟨68, [(19, dI j.1), (18, dI 3), (14, dI i), (13, dI 3), (9, dI k), (8, dI 3), (4, dI i), (3, dI k), (0, wV p.l0 p.c0)], wbB p (clF (9 * k + 3 * i + j.1))⟩) (fun j => 3 - j.1) ⟨0, by omega⟩ ?_ ?_
   ·refine Ent.to ?_ ?_ <;> simp (disch:=omega) only [qR,qS,qTw,qU,get,Nat.reduceEqDiff,↓reduceIte,qV,qW,qX,qY,qZ,and_self,dI,i64_in,and_true,true_and,rA,rB,rC,rD]
    all_goals first | exact .refl _ | exact ⟨.refl _, .refl _, .refl _, .refl _⟩ | exact ⟨.refl _, .refl _, .refl _⟩ | exact ⟨.refl _, .refl _⟩
   rintro ⟨j, hj⟩
   dsimp only
   rcases Nat.lt_or_ge j 3 with hj3 | hj3
   ·have hdj : decide ((j : Int) < 3) = true := decide_eq_true (by omega)
    have hok := M9.okB_ok (clF_ok (9 * k + 3 * i + j) (by omega))
    have hnx : clF (9 * k + 3 * i + (j + 1)) = stp (clF (9 * k + 3 * i + j)) k i j := by
     show stp (clF (9 * k + 3 * i + j)) ((9 * k + 3 * i + j) / 9) ((9 * k + 3 * i + j) / 3 % 3) ((9 * k + 3 * i + j) % 3) = _
     rw [show (9 * k + 3 * i + j) / 9 = k by omega, show (9 * k + 3 * i + j) / 3 % 3 = i by omega, show (9 * k + 3 * i + j) % 3 = j by omega]
    generalize hA : clF (9 * k + 3 * i + j) = A at *
    obtain ⟨a, b, c, d, e, f, g, h, l⟩ := A
    obtain ⟨⟨a1, a2⟩, ⟨b1, b2⟩, ⟨c1, c2⟩, ⟨d1, d2⟩, ⟨e1, e2⟩, ⟨f1, f2⟩, ⟨g1, g2⟩, ⟨h1, h2⟩, ⟨l1, l2⟩⟩ := hok
    dsimp only at a1 a2 b1 b2 c1 c2 d1 d2 e1 e2 f1 f2 g1 g2 h1 h2 l1 l2
    clear hA
    rcases (by omega : k = 0 ∨ k = 1 ∨ k = 2) with rfl | rfl | rfl <;> rcases (by omega : i = 0 ∨ i = 1 ∨ i = 2) with rfl | rfl | rfl <;> rcases (by omega : j = 0 ∨ j = 1 ∨ j = 2) with rfl | rfl | rfl
    all_goals simp only [Nat.reduceMul, Nat.reduceAdd, Nat.zero_add, Nat.mul_zero, Nat.add_zero, Nat.mul_one, stp] at hnx
    all_goals repeat' (first|(with_reducible first|apply qA|apply qB|apply qC|apply qD|apply qE|apply qF)|(refine qL rfl (WF.of ?_) ?_; first|rfl|skip)|(simp (disch:=omega) only [go_sem, simprocAttr, qN, qO, qP, qQ, q01, q02, q03, q12, q13, q23, r01, r02, r03, r12, r13, r23])|exact qM rfl rfl rfl|(refine qG rfl ?_)|(refine qH rfl ?_)|(refine qI rfl ?_ ?_<;>intro hc<;>(try simp only [go_sem] at hc))|(refine qJ ?_ ?_<;>intro hc<;>(try simp only [hc])<;>(try simp only [go_sem] at hc)))
    all_goals (refine ⟨⟨_, hj3⟩, ?_, Ent.to ?_ ?_⟩ <;> first | (show _ < _; (try simp only); omega) | (simp (disch:=omega) only [qR,qS,qTw,qU,get,Nat.reduceEqDiff,↓reduceIte,qV,qW,qX,qY,qZ,and_self,dI,i64_in,and_true,true_and,rA,rB,rC,rD,Nat.reduceMul,Nat.reduceAdd,Nat.zero_add,Nat.mul_zero,Nat.add_zero,Nat.mul_one,hnx]))
    all_goals first | exact .refl _ | exact ⟨.refl _, .refl _, .refl _, .refl _⟩ | exact ⟨.refl _, .refl _, .refl _⟩ | exact ⟨.refl _, .refl _⟩
   ·obtain rfl : j = 3 := by omega
    have hdj : decide ((3 : Int) < 3) = false := rfl
    repeat' (first|(with_reducible first|apply qA|apply qB|apply qC|apply qD|apply qE|apply qF)|(refine qL rfl (WF.of ?_) ?_; first|rfl|skip)|(simp (disch:=omega) only [go_sem, simprocAttr, qN, qO, qP, qQ, hdj])|exact qM rfl rfl rfl|(refine qG rfl ?_)|(refine qH rfl ?_)|(refine qI rfl ?_ ?_<;>intro hc<;>(try simp only [go_sem] at hc))|(refine qJ ?_ ?_<;>intro hc<;>(try simp only [hc])<;>(try simp only [go_sem] at hc)))
    refine ⟨⟨i + 1, by omega⟩, ?_, Ent.to ?_ ?_⟩ <;> first | (show _ < _; (try simp only); omega) | (simp (disch:=omega) only [qR,qS,qTw,qU,get,Nat.reduceEqDiff,↓reduceIte,qV,qW,qX,qY,qZ,and_self,dI,i64_in,and_true,true_and,rA,rB,rC,rD])
    all_goals first | exact .refl _ | exact ⟨.refl _, .refl _, .refl _, .refl _⟩ | exact ⟨.refl _, .refl _, .refl _⟩ | exact ⟨.refl _, .refl _⟩
  ·obtain rfl : i = 3 := by omega
   have hdi : decide ((3 : Int) < 3) = false := rfl
   repeat' (first|(with_reducible first|apply qA|apply qB|apply qC|apply qD|apply qE|apply qF)|(refine qL rfl (WF.of ?_) ?_; first|rfl|skip)|(simp (disch:=omega) only [go_sem, simprocAttr, qN, qO, qP, qQ, hdi])|exact qM rfl rfl rfl|(refine qG rfl ?_)|(refine qH rfl ?_)|(refine qI rfl ?_ ?_<;>intro hc<;>(try simp only [go_sem] at hc))|(refine qJ ?_ ?_<;>intro hc<;>(try simp only [hc])<;>(try simp only [go_sem] at hc)))
   refine ⟨⟨k + 1, by omega⟩, ?_, Ent.to ?_ ?_⟩ <;> first | (show _ < _; (try simp only); omega) | (simp (disch:=omega) only [qR,qS,qTw,qU,get,Nat.reduceEqDiff,↓reduceIte,qV,qW,qX,qY,qZ,and_self,dI,i64_in,and_true,true_and,rA,rB,rC,rD])
   all_goals first | exact .refl _ | exact ⟨.refl _, .refl _, .refl _, .refl _⟩ | exact ⟨.refl _, .refl _, .refl _⟩ | exact ⟨.refl _, .refl _⟩
 ·obtain rfl : k = 3 := by omega
  rw [show 9 * 3 = 27 from rfl, clF_end]
  repeat' (first|(with_reducible first|apply qA|apply qB|apply qC|apply qD|apply qE|apply qF)|(refine qL rfl (WF.of ?_) ?_; first|rfl|skip)|(simp (disch:=omega) only [go_sem, simprocAttr, qN, qO, qP, qQ])|exact qM rfl rfl rfl|(refine qG rfl ?_)|(refine qH rfl ?_)|(refine qI rfl ?_ ?_<;>intro hc<;>(try simp only [go_sem] at hc))|(refine qJ ?_ ?_<;>intro hc<;>(try simp only [hc])<;>(try simp only [go_sem] at hc)))
  refine DW.loop (ι := { i : Nat // i ≤ 3 }) (fun i => ⟨68, [(56, dI i.1), (55, dI 3), (0, wV p.l0 p.c0)], wbB p ⟨0, 3019, 9019, -3015, 0, 6000, -9015, -6000, 0⟩⟩) (fun i => 3 - i.1) ⟨0, by omega⟩ ?_ ?_
  ·refine Ent.to ?_ ?_ <;> simp (disch:=omega) only [qR,qS,qTw,qU,get,Nat.reduceEqDiff,↓reduceIte,qV,qW,qX,qY,qZ,and_self,dI,i64_in,and_true,true_and,rA,rB,rC,rD]
   all_goals first | exact .refl _ | exact ⟨.refl _, .refl _, .refl _, .refl _⟩ | exact ⟨.refl _, .refl _, .refl _⟩ | exact ⟨.refl _, .refl _⟩
  rintro ⟨i, hi⟩
  dsimp only
  rcases (by omega : i = 0 ∨ i = 1 ∨ i = 2 ∨ i = 3) with rfl | rfl | rfl | rfl
  ·repeat' (first|(with_reducible first|apply qA|apply qB|apply qC|apply qD|apply qE|apply qF)|(refine qL rfl (WF.of ?_) ?_; first|rfl|skip)|(simp (disch:=omega) only [go_sem, simprocAttr, qN, qO, qP, qQ, q01, q02, q03, q12, q13, q23, r01, r02, r03, r12, r13, r23])|exact qM rfl rfl rfl|(refine qG rfl ?_)|(refine qH rfl ?_)|(refine qI rfl ?_ ?_<;>intro hc<;>(try simp only [go_sem] at hc))|(refine qJ ?_ ?_<;>intro hc<;>(try simp only [hc])<;>(try simp only [go_sem] at hc)))
   refine ⟨⟨1, by omega⟩, ?_, Ent.to ?_ ?_⟩ <;> first | (show _ < _; (try simp only); omega) | (simp (disch:=omega) only [qR,qS,qTw,qU,get,Nat.reduceEqDiff,↓reduceIte,qV,qW,qX,qY,qZ,and_self,dI,i64_in,and_true,true_and,rA,rB,rC,rD])
   all_goals first | exact .refl _ | exact ⟨.refl _, .refl _, .refl _, .refl _⟩ | exact ⟨.refl _, .refl _, .refl _⟩ | exact ⟨.refl _, .refl _⟩
  ·repeat' (first|(with_reducible first|apply qA|apply qB|apply qC|apply qD|apply qE|apply qF)|(refine qL rfl (WF.of ?_) ?_; first|rfl|skip)|(simp (disch:=omega) only [go_sem, simprocAttr, qN, qO, qP, qQ, q01, q02, q03, q12, q13, q23, r01, r02, r03, r12, r13, r23])|exact qM rfl rfl rfl|(refine qG rfl ?_)|(refine qH rfl ?_)|(refine qI rfl ?_ ?_<;>intro hc<;>(try simp only [go_sem] at hc))|(refine qJ ?_ ?_<;>intro hc<;>(try simp only [hc])<;>(try simp only [go_sem] at hc)))
   refine ⟨⟨2, by omega⟩, ?_, Ent.to ?_ ?_⟩ <;> first | (show _ < _; (try simp only); omega) | (simp (disch:=omega) only [qR,qS,qTw,qU,get,Nat.reduceEqDiff,↓reduceIte,qV,qW,qX,qY,qZ,and_self,dI,i64_in,and_true,true_and,rA,rB,rC,rD])
   all_goals first | exact .refl _ | exact ⟨.refl _, .refl _, .refl _, .refl _⟩ | exact ⟨.refl _, .refl _, .refl _⟩ | exact ⟨.refl _, .refl _⟩
  ·repeat' (first|(with_reducible first|apply qA|apply qB|apply qC|apply qD|apply qE|apply qF)|(refine qL rfl (WF.of ?_) ?_; first|rfl|skip)|(simp (disch:=omega) only [go_sem, simprocAttr, qN, qO, qP, qQ, q01, q02, q03, q12, q13, q23, r01, r02, r03, r12, r13, r23])|exact qM rfl rfl rfl|(refine qG rfl ?_)|(refine qH rfl ?_)|(refine qI rfl ?_ ?_<;>intro hc<;>(try simp only [go_sem] at hc))|(refine qJ ?_ ?_<;>intro hc<;>(try simp only [hc])<;>(try simp only [go_sem] at hc)))
   refine ⟨⟨3, by omega⟩, ?_, Ent.to ?_ ?_⟩ <;> first | (show _ < _; (try simp only); omega) | (simp (disch:=omega) only [qR,qS,qTw,qU,get,Nat.reduceEqDiff,↓reduceIte,qV,qW,qX,qY,qZ,and_self,dI,i64_in,and_true,true_and,rA,rB,rC,rD])
   all_goals first | exact .refl _ | exact ⟨.refl _, .refl _, .refl _, .refl _⟩ | exact ⟨.refl _, .refl _, .refl _⟩ | exact ⟨.refl _, .refl _⟩
  ·repeat' (first|(with_reducible first|apply qA|apply qB|apply qC|apply qD|apply qE|apply qF)|(refine qL rfl (WF.of ?_) ?_; first|rfl|skip)|(simp (disch:=omega) only [go_sem, simprocAttr, qN, qO, qP, qQ, q01, q02, q03, q12, q13, q23, r01, r02, r03, r12, r13, r23])|exact qM rfl rfl rfl|(refine qG rfl ?_)|(refine qH rfl ?_)|(refine qI rfl ?_ ?_<;>intro hc<;>(try simp only [go_sem] at hc))|(refine qJ ?_ ?_<;>intro hc<;>(try simp only [hc])<;>(try simp only [go_sem] at hc)))
   refine retS_bs rfl rfl rfl (get_all (p := fun k x => get k _ = some x ∧ x.nb = true) (fun q hq => ⟨?_, wb_nb p _ q hq⟩))
   simp only [List.mem_cons, List.not_mem_nil, or_false] at hq
   rcases hq with rfl | rfl | rfl | rfl <;> rfl
end Go.Dw.Seat
end
section
set_option linter.unusedSimpArgs false
set_option maxRecDepth 100000
namespace Go.Dw.Seat
open Go Go.Dw Go.Proofs Go.IntWalk
def eSn (x : Int × Int × Int) : List C := [.v (.int .i64 x.1), .v (.int .i64 x.2.1), .v (.int .i64 x.2.2)]
attribute [go_sem] eSn
theorem rlSnIdx (b : Bool) (l : List (Int × Int × Int)) (hl : l.length ≤ 2 ^ 36) (g : FuncId) (caps : List C) (hp : ∀ x ∈ l, DCall Try.prog g (.agg ((eSn x).map D.c) :: caps.map D.c) [] (bD false) []) : DCall Try.prog 123 [.c (.sl b 3 (rows eSn l)), .c (.fn (.func g) [] caps)] [] (dI (-1)) [] := by
 refine DCall.of Try.func123 sf123 hb123 (Nat.le_of_ble_eq_true rfl) (okRes_nil fun _ => rfl) ?_; simp only [s123, idxs, Nat.reduceAdd]
 repeat' (first|(with_reducible first|apply qA|apply qB|apply qC|apply qD|apply qE|apply qF)|(simp (disch:=omega) only [go_sem, simprocAttr, qN, qO, qP, qQ])|exact qM rfl rfl rfl|(refine qG rfl ?_)|(refine qH rfl ?_)|(refine qI rfl ?_ ?_<;>intro hc<;>(try simp only [go_sem] at hc))|(refine qJ ?_ ?_<;>intro hc<;>(try simp only [hc])<;>(try simp only [go_sem] at hc)))
 refine DW.loop (ι := { i : Nat // i ≤ l.length }) (fun i => ⟨19, [(8, dI i.1), (7, dI l.length), (1, .c (.fn (.func g) [] caps)), (0, .c (.sl b 3 (rows eSn l)))], []⟩) (fun i => l.length - i.1) ⟨0, Nat.zero_le _⟩ ?_ ?_
 ·refine Ent.to ?_ ?_ <;> simp (disch:=omega) only [qR,qS,qTw,qU,get,Nat.reduceEqDiff,↓reduceIte,qV,qW,qX,qY,qZ,and_self,dI,i64_in,and_true,true_and,rA,rB,rC,rD]
 rintro ⟨i, hi⟩
 rcases at_or l i hi with ⟨v, hv, hlt, hd⟩ | ⟨he, hd⟩
 ·have hcall := hp v (List.mem_of_getElem? hv)
  have hcm : ∀ (σ : St) (mv : Option Nat), closeDs σ mv (caps.map D.c) = some (caps.map D.c) := fun σ mv => by
   have := @closeDs_fn _ σ mv [] caps []
   simpa [closeDs] using this
  repeat' (first|(with_reducible first|apply qA|apply qB|apply qC|apply qD|apply qE|apply qF)|(simp (disch:=omega) only [go_sem, simprocAttr, qN, qO, qP, qQ, hd, hv, hcm, closeDs_fn, rF, rG])|exact qM rfl rfl rfl|(refine qG rfl ?_)|(refine qH rfl ?_)|(refine qI rfl ?_ ?_<;>intro hc<;>(try simp only [go_sem] at hc))|(refine qJ ?_ ?_<;>intro hc<;>(try simp only [hc])<;>(try simp only [go_sem] at hc)))
  refine call_c hcall (by decide) ?_
  simp (disch:=omega) only [go_sem,simprocAttr,qN,qO,qP,qQ]
  repeat' (first|(with_reducible first|apply qA|apply qB|apply qC|apply qD|apply qE|apply qF)|(simp (disch:=omega) only [go_sem, simprocAttr, qN, qO, qP, qQ])|exact qM rfl rfl rfl|(refine qG rfl ?_)|(refine qH rfl ?_)|(refine qI rfl ?_ ?_<;>intro hc<;>(try simp only [go_sem] at hc))|(refine qJ ?_ ?_<;>intro hc<;>(try simp only [hc])<;>(try simp only [go_sem] at hc)))
  refine ⟨⟨i + 1, hlt⟩, ?_, Ent.to ?_ ?_⟩ <;> first | (show _ < _; (try simp only); omega) | (simp (disch:=omega) only [qR,qS,qTw,qU,get,Nat.reduceEqDiff,↓reduceIte,qV,qW,qX,qY,qZ,and_self,dI,i64_in,and_true,true_and,rA,rB,rC,rD])
 ·repeat' (first|(with_reducible first|apply qA|apply qB|apply qC|apply qD|apply qE|apply qF)|(simp (disch:=omega) only [go_sem, simprocAttr, qN, qO, qP, qQ, hd])|exact qM rfl rfl rfl|(refine qG rfl ?_)|(refine qH rfl ?_)|(refine qI rfl ?_ ?_<;>intro hc<;>(try simp only [go_sem] at hc))|(refine qJ ?_ ?_<;>intro hc<;>(try simp only [hc])<;>(try simp only [go_sem] at hc)))
theorem rlSnCon (b : Bool) (l : List (Int × Int × Int)) (hl : l.length ≤ 2 ^ 36) (g : FuncId) (caps : List C) (hp : ∀ x ∈ l, DCall Try.prog g (.agg ((eSn x).map D.c) :: caps.map D.c) [] (bD false) []) : DCall Try.prog 81 [.c (.sl b 3 (rows eSn l)), .c (.fn (.func g) [] caps)] [] (bD false) [] := by
 refine DCall.of Try.func81 sf81 hb81 (Nat.le_of_ble_eq_true rfl) (okRes_nil fun _ => rfl) ?_; simp only [s81, idxs, Nat.reduceAdd]
 repeat' (first|(with_reducible first|apply qA|apply qB|apply qC|apply qD|apply qE|apply qF)|(simp (disch:=omega) only [go_sem, simprocAttr, qN, qO, qP, qQ])|exact qM rfl rfl rfl|(refine qG rfl ?_)|(refine qH rfl ?_)|(refine qI rfl ?_ ?_<;>intro hc<;>(try simp only [go_sem] at hc))|(refine qJ ?_ ?_<;>intro hc<;>(try simp only [hc])<;>(try simp only [go_sem] at hc)))
 (refine call_c (rlSnIdx b l hl g caps hp) (by decide) ?_; simp (disch:=omega) only [go_sem,simprocAttr,qN,qO,qP,qQ])
 repeat' (first|(with_reducible first|apply qA|apply qB|apply qC|apply qD|apply qE|apply qF)|(simp (disch:=omega) only [go_sem, simprocAttr, qN, qO, qP, qQ])|exact qM rfl rfl rfl|(refine qG rfl ?_)|(refine qH rfl ?_)|(refine qI rfl ?_ ?_<;>intro hc<;>(try simp only [go_sem] at hc))|(refine qJ ?_ ?_<;>intro hc<;>(try simp only [hc])<;>(try simp only [go_sem] at hc)))
def exRS : RSt := ⟨3, 2, 100, [(3100, 3160), (6100, 6100)]⟩
theorem rlUp (n by' : Int) (hn : 0 ≤ n ∧ n ≤ 1000000000000000) (hb : 1 ≤ by' ∧ by' ≤ 1000000000) : DCall Try.prog 126 [dI n, dI by'] [] (dI ((n + by' - 1).tdiv by')) [] := by
 have h0 : (by' = 0) = False := eq_false (by omega)
 have hq := tdiv_b (a := n + by' - 1) (b := by') (A := 1000001000000000) (by omega) (by omega)
 refine DCall.of Try.func126 sf126 hb126 (Nat.le_of_ble_eq_true rfl) (okRes_nil fun _ => rfl) ?_; simp only [s126, idxs, Nat.reduceAdd]
 repeat' (first|(with_reducible first|apply qA|apply qB|apply qC|apply qD|apply qE|apply qF)|(simp (disch:=omega) only [go_sem, simprocAttr, qN, qO, qP, qQ, h0])|exact qM rfl rfl rfl|(refine qG rfl ?_)|(refine qH rfl ?_)|(refine qI rfl ?_ ?_<;>intro hc<;>(try simp only [go_sem] at hc))|(refine qJ ?_ ?_<;>intro hc<;>(try simp only [hc])<;>(try simp only [go_sem] at hc)))
theorem rlSeen1 (b : Bool) : DCall Try.prog 88 [dRSt b exRS, .agg [dI 2010, dI 2012]] [] (.agg [dI 3015, dI 3019]) [] := by
 have h1 := rlUp 6030 2 (by omega) (by omega)
 have h2 := rlUp 6039 2 (by omega) (by omega)
 have e1 : ((6030 : Int) + 2 - 1).tdiv 2 = 3015 := by decide
 have e2 : ((6039 : Int) + 2 - 1).tdiv 2 = 3020 := by decide
 rw [e1] at h1
 rw [e2] at h2
 unfold exRS
 refine DCall.of Try.func88 sf88 hb88 (Nat.le_of_ble_eq_true rfl) (okRes_nil fun _ => rfl) ?_; simp only [s88, idxs, Nat.reduceAdd]
 repeat' (first|(with_reducible first|apply qA|apply qB|apply qC|apply qD|apply qE|apply qF)|(refine qL rfl (WF.of ?_) ?_; first|rfl|skip)|(simp (disch:=omega) only [go_sem, simprocAttr, qN, qO, qP, qQ])|exact qM rfl rfl rfl|(refine qG rfl ?_)|(refine qK (h1) (by decide) ?_)|(refine qK (h2) (by decide) ?_)|(refine qH rfl ?_)|(refine qI rfl ?_ ?_<;>intro hc<;>(try simp only [go_sem] at hc))|(refine qJ ?_ ?_<;>intro hc<;>(try simp only [hc])<;>(try simp only [go_sem] at hc)))
theorem rlL1 : DCall Try.prog 82 [.agg ((eSn (0, 2010, 2012)).map D.c)] [] (bD false) [] := by
 have h1 := rlSpan 2010 2012 0 70000000 (by omega)
 refine DCall.of Try.func82 sf82 hb82 (Nat.le_of_ble_eq_true rfl) (okRes_nil fun _ => rfl) ?_; simp only [s82, idxs, Nat.reduceAdd]
 repeat' (first|(with_reducible first|apply qA|apply qB|apply qC|apply qD|apply qE|apply qF)|(simp (disch:=omega) only [go_sem, simprocAttr, qN, qO, qP, qQ, rF, rG])|exact qM rfl rfl rfl|(refine qG rfl ?_)|(refine qK (h1) (by decide) ?_)|(refine qH rfl ?_)|(refine qI rfl ?_ ?_<;>intro hc<;>(try simp only [go_sem] at hc))|(refine qJ ?_ ?_<;>intro hc<;>(try simp only [hc])<;>(try simp only [go_sem] at hc)))
theorem rlL2 (p b : Bool) : DCall Try.prog 84 [.agg ((eSn (0, 2010, 2012)).map D.c), .c (.ro p [.v (.int .i64 3), .v (.int .i64 2), .v (.int .i64 100), .sl b 2 (rows eSp exRS.rolls)] 0)] [] (bD false) [] := by
 have h1 := rlIn true 0 1 [0] (by simp) (by simp)
 have hl : exRS.rolls.length = 2 := rfl
 refine DCall.of Try.func84 sf84 hb84 (Nat.le_of_ble_eq_true rfl) (okRes_nil fun _ => rfl) ?_; simp only [s84, idxs, Nat.reduceAdd]
 repeat' (first|(with_reducible first|apply qA|apply qB|apply qC|apply qD|apply qE|apply qF)|(simp (disch:=omega) only [go_sem, simprocAttr, qN, qO, qP, qQ, hl, rF, rG])|exact qM rfl rfl rfl|(refine qG rfl ?_)|(refine qK (h1) (by decide) ?_)|(refine qH rfl ?_)|(refine qI rfl ?_ ?_<;>intro hc<;>(try simp only [go_sem] at hc))|(refine qJ ?_ ?_<;>intro hc<;>(try simp only [hc])<;>(try simp only [go_sem] at hc)))
theorem exRS_ok : exRS.ok := by
 refine ⟨by decide, by decide, by decide, by decide, ?_⟩
 intro r hr
 simp only [exRS, List.mem_cons, List.not_mem_nil, or_false] at hr
 rcases hr with rfl | rfl <;> decide
theorem rp_mapc (k : Nat) (p : RowAt) : ∀ l : List C, rpDs k p (l.map D.c) = l.map D.c
 | [] => rfl
 | c :: l => by rw [List.map_cons, rpDs, rp_mapc k p l]; rfl
theorem rp_rowC (k : Nat) (p : RowAt) (es : List (List C)) : (rowC es).map (rpDs k p) = rowC es := by
 simp only [rowC, List.map_map]
 exact List.map_congr_left (fun e _ => rp_mapc k p e)
theorem rp_tops (k : Nat) (p : RowAt) : ∀ m : Nat, rpDs k p (wTops m) = wTops m
 | 0 => rfl
 | m + 1 => by
  have := rp_tops k p m
  unfold wTops at this ⊢
  rw [List.replicate_succ, rpDs, this]; rfl
theorem row_three (a b c : Int) (m : Nat) : (rowC (rows eI [a, b, c])).flatten ++ List.replicate m D.top = dI a :: dI b :: dI c :: wTops m := rfl
def mA : Nat → M9
 | 0 => ⟨0, nvI, nvI, nvI, 0, nvI, nvI, nvI, 0⟩
 | 1 => ⟨0, 3060, nvI, -3000, 0, nvI, nvI, nvI, 0⟩
 | _ => ⟨0, 3060, nvI, -3000, 0, 6000, nvI, -6000, 0⟩
def mB : Nat → M9
 | 0 => mA 2
 | _ => clM
def mC : M9 := ⟨0, 3019, 9019, -3015, 0, 6000, -9015, -6000, 0⟩
theorem kClose (p : WP) : DCall Try.prog 89 [wV p.l0 p.c0] (wbB p (mB 1)) (bD true) (wbB p mC) := by
 have h := rlClose p
 rw [clF_end] at h
 exact h
def spF : Nat → List (Int × Int)
 | 0 => []
 | 1 => [(3115, 3119)]
 | _ => [(3115, 3119), (6100, 6100)]
theorem k01 (p : WP) : DCall Try.prog 87 [wV p.l0 p.c0, dI 0, dI 1, .agg [dI 3000, dI 3060]] (wbB p (mA 0)) (.tup []) (wbB p (mA 1)) := by
 have e : ({ mA 0 with b := if 3060 < (mA 0).b then 3060 else (mA 0).b, d := if 0 - 3000 < (mA 0).d then 0 - 3000 else (mA 0).d } : M9) = mA 1 := by simp [mA, nvI]
 have h := rlKnows01 p (mA 0) 3000 3060 (by omega)
 rw [e] at h
 exact h
theorem k12 (p : WP) : DCall Try.prog 87 [wV p.l0 p.c0, dI 1, dI 2, .agg [dI 6000, dI 6000]] (wbB p (mA 1)) (.tup []) (wbB p (mA 2)) := by
 have e : ({ mA 1 with f := if 6000 < (mA 1).f then 6000 else (mA 1).f, h := if 0 - 6000 < (mA 1).h then 0 - 6000 else (mA 1).h } : M9) = mA 2 := by simp [mA, nvI]
 have h := rlKnows12 p (mA 1) 6000 6000 (by omega)
 rw [e] at h
 exact h
theorem kSeen (p : WP) : DCall Try.prog 87 [wV p.l0 p.c0, dI 0, dI 1, .agg [dI 3015, dI 3019]] (wbB p (mA 2)) (.tup []) (wbB p (mB 1)) := by
 have e : ({ mA 2 with b := if 3019 < (mA 2).b then 3019 else (mA 2).b, d := if 0 - 3015 < (mA 2).d then 0 - 3015 else (mA 2).d } : M9) = mB 1 := by simp [mA, mB, clM, nvI]
 have h := rlKnows01 p (mA 2) 3015 3019 (by omega)
 rw [e] at h
 exact h
set_option maxHeartbeats 8000000 in
theorem rlLabels : DCall Try.prog 41 [dRSt false exRS, .c (.sl true 3 (rows eSn [(0, 2010, 2012)]))] [] (.tup [.c (.sl false 2 (rows eSp [(3115, 3119), (6100, 6100)])), dI 0]) [] := by
 have h1 := rlCheck false exRS exRS_ok
 have h2 := rlSnCon true [(0, 2010, 2012)] (by simp) 82 [] (fun x hx => by rw [List.mem_singleton.1 hx]; exact rlL1)
 have h3 := rlSnCon true [(0, 2010, 2012)] (by simp) 84 [.ro true [.v (.int .i64 3), .v (.int .i64 2), .v (.int .i64 100), .sl false 2 (rows eSp exRS.rolls)] 0] (fun x hx => by rw [List.mem_singleton.1 hx]; exact rlL2 true false)
 have h4 := rlNewWeb
 have h5 := rlSeen1 false
 have hl : exRS.rolls.length = 2 := rfl
 refine DCall.of Try.func41 sf41 hb41 (Nat.le_of_ble_eq_true rfl) (okRes_nil fun _ => rfl) ?_; simp only [s41, idxs, Nat.reduceAdd]
 repeat' (first|(with_reducible first|apply qA|apply qB|apply qC|apply qD|apply qE|apply qF)|(refine qL rfl (WF.of ?_) ?_; first|rfl|skip)|(refine DW.regL rfl (WF.of ?_) ?_; first|rfl|skip)|(simp (disch:=omega) only [go_sem, simprocAttr, qN, qO, qP, qQ, hl])|exact qM rfl rfl rfl|(refine qG rfl ?_)|(refine qK (h1) (by decide) ?_)|(refine qK (h2) (by decide) ?_)|(refine qK (h3) (by decide) ?_)|(refine qH rfl ?_)|(refine qI rfl ?_ ?_<;>intro hc<;>(try simp only [go_sem] at hc))|(refine qJ ?_ ?_<;>intro hc<;>(try simp only [hc])<;>(try simp only [go_sem] at hc)))
 refine call_b h4 ⟨⟨⟨⟨trivial, rfl, rfl, rfl⟩, rfl, rfl, rfl⟩, rfl, rfl, rfl⟩, rfl, rfl, rfl⟩ (by decide) ?_
 simp only [nwB, St.addBs, St.putB, St.putO, St.put]
 repeat' (first|(with_reducible first|apply qA|apply qB|apply qC|apply qD|apply qE|apply qF)|(refine qL rfl (WF.of ?_) ?_; first|rfl|skip)|(refine DW.regL rfl (WF.of ?_) ?_; first|rfl|skip)|(simp (disch:=omega) only [go_sem, simprocAttr, qN, qO, qP, qQ, hl])|exact qM rfl rfl rfl|(refine qG rfl ?_)|(refine qH rfl ?_)|(refine qI rfl ?_ ?_<;>intro hc<;>(try simp only [go_sem] at hc))|(refine qJ ?_ ?_<;>intro hc<;>(try simp only [hc])<;>(try simp only [go_sem] at hc)))
 refine DW.pinRow 6 (by simp) rfl fun p0 hp0 => ?_
 obtain ⟨l0, n0, c0, m0⟩ := p0
 obtain rfl : n0 = 3 := hp0.len
 simp only [rpT, rpX, rpB, rpD, rpDs, RowAt.v, RowAt.blk, del, List.map_cons, List.map_nil, Nat.reduceEqDiff, ↓reduceIte, rp_rowC, rp_tops, row_three, List.flatten_cons, List.flatten_nil, List.append_nil, List.cons_append, List.nil_append]
 rw [show List.replicate m0 D.top = wTops m0 from rfl]
 refine DW.pinRow 201 (by simp [rowC, rows]) rfl fun p1 hp1 => ?_
 obtain ⟨l1, n1, c1, m1⟩ := p1
 obtain rfl : n1 = 3 := hp1.len
 simp only [rpT, rpX, rpB, rpD, rpDs, RowAt.v, RowAt.blk, del, List.map_cons, List.map_nil, Nat.reduceEqDiff, ↓reduceIte, rp_rowC, rp_tops, row_three, List.flatten_cons, List.flatten_nil, List.append_nil, List.cons_append, List.nil_append]
 refine DW.pinRow 202 (by simp [rowC, rows]) rfl fun p2 hp2 => ?_
 obtain ⟨l2, n2, c2, m2⟩ := p2
 obtain rfl : n2 = 3 := hp2.len
 simp only [rpT, rpX, rpB, rpD, rpDs, RowAt.v, RowAt.blk, del, List.map_cons, List.map_nil, Nat.reduceEqDiff, ↓reduceIte, rp_rowC, rp_tops, row_three, List.flatten_cons, List.flatten_nil, List.append_nil, List.cons_append, List.nil_append]
 refine DW.pinRow 203 (by simp [rowC, rows]) rfl fun p3 hp3 => ?_
 obtain ⟨l3, n3, c3, m3⟩ := p3
 obtain rfl : n3 = 3 := hp3.len
 simp only [rpT, rpX, rpB, rpD, rpDs, RowAt.v, RowAt.blk, del, List.map_cons, List.map_nil, Nat.reduceEqDiff, ↓reduceIte, rp_rowC, rp_tops, row_three, List.flatten_cons, List.flatten_nil, List.append_nil, List.cons_append, List.nil_append]
 obtain ⟨p, hp⟩ : ∃ p : WP, p = ⟨l0, l1, l2, l3, c0, c1, c2, c3, m0, m1, m2, m3⟩ := ⟨_, rfl⟩
 refine DW.loop (ι := { i : Nat // i ≤ 2 }) (fun i => ⟨114, [(38, dI i.1), (37, dI 2), (36, .c (.sl false 2 (rows eSp exRS.rolls))), (7, wV p.l0 p.c0), (4, nlC), (2, .box 2 0), (1, .c (.sl true 3 (rows eSn [(0, 2010, 2012)])))], wbB p (mA i.1) ++ [(2, .box [dI 3, dI 2, dI 100, .c (.sl false 2 (rows eSp exRS.rolls))])]⟩) (fun i => 2 - i.1) ⟨0, by omega⟩ ?_ ?_
 ·subst hp
  refine Ent.to ?_ ?_ <;> simp (disch:=omega) only [qR,qS,qTw,qU,get,Nat.reduceEqDiff,↓reduceIte,qV,qW,qX,qY,qZ,and_self,dI,i64_in,and_true,true_and,rA,rB,rC,rD,mA,List.cons_append,List.nil_append]
  all_goals first | exact .refl _ | exact ⟨.refl _, .refl _, .refl _, .refl _⟩ | exact ⟨.refl _, .refl _, .refl _⟩ | exact ⟨.refl _, .refl _⟩
 clear hp hp0 hp1 hp2 hp3
 rintro ⟨i, hi⟩
 dsimp only
 have hr0 : exRS.rolls[0]? = some (3100, 3160) := rfl
 have hr1 : exRS.rolls[1]? = some (6100, 6100) := rfl
 rcases (by omega : i = 0 ∨ i = 1 ∨ i = 2) with rfl | rfl | rfl
 ·repeat' (first|(with_reducible first|apply qA|apply qB|apply qC|apply qD|apply qE|apply qF)|(refine qL rfl (WF.of ?_) ?_; first|rfl|skip)|(refine DW.regL rfl (WF.of ?_) ?_; first|rfl|skip)|(simp (disch:=omega) only [go_sem, simprocAttr, qN, qO, qP, qQ, hr0, List.cons_append, List.nil_append])|exact qM rfl rfl rfl|(refine qG rfl ?_)|(refine qH rfl ?_)|(refine qI rfl ?_ ?_<;>intro hc<;>(try simp only [go_sem] at hc))|(refine qJ ?_ ?_<;>intro hc<;>(try simp only [hc])<;>(try simp only [go_sem] at hc)))
  refine call_h (h := wbB p (mA 0)) (h' := wbB p (mA 1)) (own := [(2, .box [dI 3, dI 2, dI 100, .c (.sl false 2 (rows eSp exRS.rolls))])]) (tm0 := [(57, .agg [dI 3000, dI 3060]), (46, dI 1), (44, dI 0), (43, wV p.l0 p.c0), (38, dI 0), (37, dI 2), (36, .c (.sl false 2 (rows eSp exRS.rolls))), (7, wV p.l0 p.c0), (4, nlC), (2, .box 2 0), (1, .c (.sl true 3 (rows eSn [(0, 2010, 2012)])))]) (k01 p) (Ent.to ?_ ?_) rfl rfl rfl (by simp (disch:=omega) only [go_sem,simprocAttr,qN,qO,qP,qQ,Option.isNone_none]) (by decide) ?_
  ·simp (disch:=omega) only [qR,qS,qTw,qU,get,Nat.reduceEqDiff,↓reduceIte,qV,qW,qX,qY,qZ,and_self,dI,i64_in,and_true,true_and,rA,rB,rC,rD]
  ·simp (disch:=omega) only [qR,qS,qTw,qU,get,Nat.reduceEqDiff,↓reduceIte,qV,qW,qX,qY,qZ,and_self,dI,i64_in,and_true,true_and,rA,rB,rC,rD,List.cons_append,List.nil_append]
   all_goals first | exact .refl _ | exact ⟨.refl _, .refl _, .refl _, .refl _⟩ | exact ⟨.refl _, .refl _, .refl _⟩ | exact ⟨.refl _, .refl _⟩
  simp (disch:=omega) only [go_sem,simprocAttr,qN,qO,qP,qQ]
  repeat' (first|(with_reducible first|apply qA|apply qB|apply qC|apply qD|apply qE|apply qF)|(refine qL rfl (WF.of ?_) ?_; first|rfl|skip)|(refine DW.regL rfl (WF.of ?_) ?_; first|rfl|skip)|(simp (disch:=omega) only [go_sem, simprocAttr, qN, qO, qP, qQ, List.cons_append, List.nil_append])|exact qM rfl rfl rfl|(refine qG rfl ?_)|(refine qH rfl ?_)|(refine qI rfl ?_ ?_<;>intro hc<;>(try simp only [go_sem] at hc))|(refine qJ ?_ ?_<;>intro hc<;>(try simp only [hc])<;>(try simp only [go_sem] at hc)))
  refine ⟨⟨1, by omega⟩, ?_, Ent.to ?_ ?_⟩ <;> first | (show _ < _; (try simp only); omega) | (simp (disch:=omega) only [qR,qS,qTw,qU,get,Nat.reduceEqDiff,↓reduceIte,qV,qW,qX,qY,qZ,and_self,dI,i64_in,and_true,true_and,rA,rB,rC,rD, List.cons_append,List.nil_append])
  all_goals first | exact .refl _ | exact ⟨.refl _, .refl _, .refl _, .refl _⟩ | exact ⟨.refl _, .refl _, .refl _⟩ | exact ⟨.refl _, .refl _⟩
 ·repeat' (first|(with_reducible first|apply qA|apply qB|apply qC|apply qD|apply qE|apply qF)|(refine qL rfl (WF.of ?_) ?_; first|rfl|skip)|(refine DW.regL rfl (WF.of ?_) ?_; first|rfl|skip)|(simp (disch:=omega) only [go_sem, simprocAttr, qN, qO, qP, qQ, hr1, List.cons_append, List.nil_append])|exact qM rfl rfl rfl|(refine qG rfl ?_)|(refine qH rfl ?_)|(refine qI rfl ?_ ?_<;>intro hc<;>(try simp only [go_sem] at hc))|(refine qJ ?_ ?_<;>intro hc<;>(try simp only [hc])<;>(try simp only [go_sem] at hc)))
  refine call_h (h := wbB p (mA 1)) (h' := wbB p (mA 2)) (own := [(2, .box [dI 3, dI 2, dI 100, .c (.sl false 2 (rows eSp exRS.rolls))])]) (tm0 := [(57, .agg [dI 6000, dI 6000]), (46, dI 2), (44, dI 1), (43, wV p.l0 p.c0), (38, dI 1), (37, dI 2), (36, .c (.sl false 2 (rows eSp exRS.rolls))), (7, wV p.l0 p.c0), (4, nlC), (2, .box 2 0), (1, .c (.sl true 3 (rows eSn [(0, 2010, 2012)])))]) (k12 p) (Ent.to ?_ ?_) rfl rfl rfl (by simp (disch:=omega) only [go_sem,simprocAttr,qN,qO,qP,qQ,Option.isNone_none]) (by decide) ?_
  ·simp (disch:=omega) only [qR,qS,qTw,qU,get,Nat.reduceEqDiff,↓reduceIte,qV,qW,qX,qY,qZ,and_self,dI,i64_in,and_true,true_and,rA,rB,rC,rD]
  ·simp (disch:=omega) only [qR,qS,qTw,qU,get,Nat.reduceEqDiff,↓reduceIte,qV,qW,qX,qY,qZ,and_self,dI,i64_in,and_true,true_and,rA,rB,rC,rD,List.cons_append,List.nil_append]
   all_goals first | exact .refl _ | exact ⟨.refl _, .refl _, .refl _, .refl _⟩ | exact ⟨.refl _, .refl _, .refl _⟩ | exact ⟨.refl _, .refl _⟩
  simp (disch:=omega) only [go_sem,simprocAttr,qN,qO,qP,qQ]
  repeat' (first|(with_reducible first|apply qA|apply qB|apply qC|apply qD|apply qE|apply qF)|(refine qL rfl (WF.of ?_) ?_; first|rfl|skip)|(refine DW.regL rfl (WF.of ?_) ?_; first|rfl|skip)|(simp (disch:=omega) only [go_sem, simprocAttr, qN, qO, qP, qQ, List.cons_append, List.nil_append])|exact qM rfl rfl rfl|(refine qG rfl ?_)|(refine qH rfl ?_)|(refine qI rfl ?_ ?_<;>intro hc<;>(try simp only [go_sem] at hc))|(refine qJ ?_ ?_<;>intro hc<;>(try simp only [hc])<;>(try simp only [go_sem] at hc)))
  refine ⟨⟨2, by omega⟩, ?_, Ent.to ?_ ?_⟩ <;> first | (show _ < _; (try simp only); omega) | (simp (disch:=omega) only [qR,qS,qTw,qU,get,Nat.reduceEqDiff,↓reduceIte,qV,qW,qX,qY,qZ,and_self,dI,i64_in,and_true,true_and,rA,rB,rC,rD, List.cons_append,List.nil_append])
  all_goals first | exact .refl _ | exact ⟨.refl _, .refl _, .refl _, .refl _⟩ | exact ⟨.refl _, .refl _, .refl _⟩ | exact ⟨.refl _, .refl _⟩
 ·repeat' (first|(with_reducible first|apply qA|apply qB|apply qC|apply qD|apply qE|apply qF)|(refine qL rfl (WF.of ?_) ?_; first|rfl|skip)|(refine DW.regL rfl (WF.of ?_) ?_; first|rfl|skip)|(simp (disch:=omega) only [go_sem, simprocAttr, qN, qO, qP, qQ, List.cons_append, List.nil_append])|exact qM rfl rfl rfl|(refine qG rfl ?_)|(refine qH rfl ?_)|(refine qI rfl ?_ ?_<;>intro hc<;>(try simp only [go_sem] at hc))|(refine qJ ?_ ?_<;>intro hc<;>(try simp only [hc])<;>(try simp only [go_sem] at hc)))
  refine DW.loop (ι := { i : Nat // i ≤ 1 }) (fun i => ⟨114, [(62, dI i.1), (61, dI 1), (60, .c (.sl true 3 (rows eSn [(0, 2010, 2012)]))), (7, wV p.l0 p.c0), (4, nlC), (2, .box 2 0)], wbB p (mB i.1) ++ [(2, .box [dI 3, dI 2, dI 100, .c (.sl false 2 (rows eSp exRS.rolls))])]⟩) (fun i => 1 - i.1) ⟨0, by omega⟩ ?_ ?_
  ·refine Ent.to ?_ ?_ <;> simp (disch:=omega) only [qR,qS,qTw,qU,get,Nat.reduceEqDiff,↓reduceIte,qV,qW,qX,qY,qZ,and_self,dI,i64_in,and_true,true_and,rA,rB,rC,rD,mB,List.cons_append,List.nil_append]
   all_goals first | exact .refl _ | exact ⟨.refl _, .refl _, .refl _, .refl _⟩ | exact ⟨.refl _, .refl _, .refl _⟩ | exact ⟨.refl _, .refl _⟩
  rintro ⟨i, hi⟩
  dsimp only
  rcases (by omega : i = 0 ∨ i = 1) with rfl | rfl
  ·repeat' (first|(with_reducible first|apply qA|apply qB|apply qC|apply qD|apply qE|apply qF)|(refine qL rfl (WF.of ?_) ?_; first|rfl|skip)|(refine DW.regL rfl (WF.of ?_) ?_; first|rfl|skip)|(simp (disch:=omega) only [go_sem, simprocAttr, qN, qO, qP, qQ, List.cons_append, List.nil_append])|exact qM rfl rfl rfl|(refine qG rfl ?_)|(refine qK (h5) (by decide) ?_)|(refine qH rfl ?_)|(refine qI rfl ?_ ?_<;>intro hc<;>(try simp only [go_sem] at hc))|(refine qJ ?_ ?_<;>intro hc<;>(try simp only [hc])<;>(try simp only [go_sem] at hc)))
   refine call_h (h := wbB p (mB 0)) (h' := wbB p (mB 1)) (own := [(2, .box [dI 3, dI 2, dI 100, .c (.sl false 2 (rows eSp exRS.rolls))])]) (tm0 := [(74, .agg [dI 3015, dI 3019]), (69, dI 1), (66, wV p.l0 p.c0), (62, dI 0), (61, dI 1), (60, .c (.sl true 3 (rows eSn [(0, 2010, 2012)]))), (7, wV p.l0 p.c0), (4, nlC), (2, .box 2 0)]) (kSeen p) (Ent.to ?_ ?_) rfl rfl rfl (by simp (disch:=omega) only [go_sem,simprocAttr,qN,qO,qP,qQ,Option.isNone_none]) (by decide) ?_
   ·simp (disch:=omega) only [qR,qS,qTw,qU,get,Nat.reduceEqDiff,↓reduceIte,qV,qW,qX,qY,qZ,and_self,dI,i64_in,and_true,true_and,rA,rB,rC,rD]
   ·simp (disch:=omega) only [qR,qS,qTw,qU,get,Nat.reduceEqDiff,↓reduceIte,qV,qW,qX,qY,qZ,and_self,dI,i64_in,and_true,true_and,rA,rB,rC,rD,List.cons_append,List.nil_append]
    all_goals first | exact .refl _ | exact ⟨.refl _, .refl _, .refl _, .refl _⟩ | exact ⟨.refl _, .refl _, .refl _⟩ | exact ⟨.refl _, .refl _⟩
   simp (disch:=omega) only [go_sem,simprocAttr,qN,qO,qP,qQ]
   repeat' (first|(with_reducible first|apply qA|apply qB|apply qC|apply qD|apply qE|apply qF)|(refine qL rfl (WF.of ?_) ?_; first|rfl|skip)|(refine DW.regL rfl (WF.of ?_) ?_; first|rfl|skip)|(simp (disch:=omega) only [go_sem, simprocAttr, qN, qO, qP, qQ, List.cons_append, List.nil_append])|exact qM rfl rfl rfl|(refine qG rfl ?_)|(refine qH rfl ?_)|(refine qI rfl ?_ ?_<;>intro hc<;>(try simp only [go_sem] at hc))|(refine qJ ?_ ?_<;>intro hc<;>(try simp only [hc])<;>(try simp only [go_sem] at hc)))
   refine ⟨⟨1, by omega⟩, ?_, Ent.to ?_ ?_⟩ <;> first | (show _ < _; (try simp only); omega) | (simp (disch:=omega) only [qR,qS,qTw,qU,get,Nat.reduceEqDiff,↓reduceIte,qV,qW,qX,qY,qZ,and_self,dI,i64_in,and_true,true_and,rA,rB,rC,rD, List.cons_append,List.nil_append])
   all_goals first | exact .refl _ | exact ⟨.refl _, .refl _, .refl _, .refl _⟩ | exact ⟨.refl _, .refl _, .refl _⟩ | exact ⟨.refl _, .refl _⟩
  ·repeat' (first|(with_reducible first|apply qA|apply qB|apply qC|apply qD|apply qE|apply qF)|(refine qL rfl (WF.of ?_) ?_; first|rfl|skip)|(refine DW.regL rfl (WF.of ?_) ?_; first|rfl|skip)|(simp (disch:=omega) only [go_sem, simprocAttr, qN, qO, qP, qQ, List.cons_append, List.nil_append])|exact qM rfl rfl rfl|(refine qG rfl ?_)|(refine qH rfl ?_)|(refine qI rfl ?_ ?_<;>intro hc<;>(try simp only [go_sem] at hc))|(refine qJ ?_ ?_<;>intro hc<;>(try simp only [hc])<;>(try simp only [go_sem] at hc)))
   refine call_h (h := wbB p (mB 1)) (h' := wbB p mC) (own := [(2, .box [dI 3, dI 2, dI 100, .c (.sl false 2 (rows eSp exRS.rolls))])]) (tm0 := [(77, wV p.l0 p.c0), (7, wV p.l0 p.c0), (4, nlC), (2, .box 2 0)]) (kClose p) (Ent.to ?_ ?_) rfl rfl rfl (by simp (disch:=omega) only [go_sem,simprocAttr,qN,qO,qP,qQ,Option.isNone_none]) (by decide) ?_
   ·simp (disch:=omega) only [qR,qS,qTw,qU,get,Nat.reduceEqDiff,↓reduceIte,qV,qW,qX,qY,qZ,and_self,dI,i64_in,and_true,true_and,rA,rB,rC,rD]
   ·simp (disch:=omega) only [qR,qS,qTw,qU,get,Nat.reduceEqDiff,↓reduceIte,qV,qW,qX,qY,qZ,and_self,dI,i64_in,and_true,true_and,rA,rB,rC,rD,List.cons_append,List.nil_append]
    all_goals first | exact .refl _ | exact ⟨.refl _, .refl _, .refl _, .refl _⟩ | exact ⟨.refl _, .refl _, .refl _⟩ | exact ⟨.refl _, .refl _⟩
   simp (disch:=omega) only [go_sem,simprocAttr,qN,qO,qP,qQ]
   repeat' (first|(with_reducible first|apply qA|apply qB|apply qC|apply qD|apply qE|apply qF)|(refine qL rfl (WF.of ?_) ?_; first|rfl|skip)|(refine DW.regL rfl (WF.of ?_) ?_; first|rfl|skip)|(simp (disch:=omega) only [go_sem, simprocAttr, qN, qO, qP, qQ, hl, List.cons_append, List.nil_append])|exact qM rfl rfl rfl|(refine qG rfl ?_)|(refine qH rfl ?_)|(refine qI rfl ?_ ?_<;>intro hc<;>(try simp only [go_sem] at hc))|(refine qJ ?_ ?_<;>intro hc<;>(try simp only [hc])<;>(try simp only [go_sem] at hc)))
   refine DW.ent (Ent.adopt 4 111 2 rfl rfl (by simp [menS, D.men, D.mens, Blk.men, wT_men])) ?_
   simp only [ins, Nat.reduceLT, Nat.reduceEqDiff, ↓reduceIte]
   refine DW.places 6 201 (by decide) rfl rfl fun n01 => ?_
   refine DW.places 6 202 (by decide) rfl rfl fun n02 => ?_
   refine DW.places 6 203 (by decide) rfl rfl fun n03 => ?_
   refine DW.places 201 202 (by decide) rfl rfl fun n12 => ?_
   refine DW.places 201 203 (by decide) rfl rfl fun n13 => ?_
   refine DW.places 202 203 (by decide) rfl rfl fun n23 => ?_
   have q01 := eq_false n01
   have q02 := eq_false n02
   have q03 := eq_false n03
   have q12 := eq_false n12
   have q13 := eq_false n13
   have q23 := eq_false n23
   have r01 := eq_false n01.symm
   have r02 := eq_false n02.symm
   have r03 := eq_false n03.symm
   have r12 := eq_false n12.symm
   have r13 := eq_false n13.symm
   have r23 := eq_false n23.symm
   refine DW.loop (ι := { i : Nat // i ≤ 2 }) (fun i => ⟨114, [(83, dI i.1), (82, dI 2), (7, wV p.l0 p.c0), (4, .own 111), (2, .box 2 0)], (111, .row 2 (rowC (rows eSp (spF i.1)))) :: (wbB p mC ++ [(2, .box [dI 3, dI 2, dI 100, .c (.sl false 2 (rows eSp exRS.rolls))])])⟩) (fun i => 2 - i.1) ⟨0, by omega⟩ ?_ ?_
   ·refine Ent.to ?_ ?_ <;> simp (disch:=omega) only [qR,qS,qTw,qU,get,Nat.reduceEqDiff,↓reduceIte,qV,qW,qX,qY,qZ,and_self,dI,i64_in,and_true,true_and,rA,rB,rC,rD,spF,List.cons_append,List.nil_append]
    all_goals first | exact .refl _ | exact ⟨.refl _, .refl _, .refl _, .refl _⟩ | exact ⟨.refl _, .refl _, .refl _⟩ | exact ⟨.refl _, .refl _⟩
   rintro ⟨i, hi⟩
   dsimp only
   rcases (by omega : i = 0 ∨ i = 1 ∨ i = 2) with rfl | rfl | rfl
   ·have hsn : ∀ a b : Int, rowC (rows eSp (spF 0)) ++ [[D.c (.v (.int .i64 a)), D.c (.v (.int .i64 b))]] = rowC (rows eSp [(a, b)]) := fun a b => rfl
    have hlen : (spF 0).length = 0 := rfl
    repeat' (first|(with_reducible first|apply qA|apply qB|apply qC|apply qD|apply qE|apply qF)|(refine qL rfl (WF.of ?_) ?_; first|rfl|skip)|(refine DW.regL rfl (WF.of ?_) ?_; first|rfl|skip)|(simp (disch:=omega) only [go_sem, simprocAttr, qN, qO, qP, qQ, hsn, hlen, mC, List.cons_append, List.nil_append, q01, q02, q03, q12, q13, q23, r01, r02, r03, r12, r13, r23])|exact qM rfl rfl rfl|(refine qG rfl ?_)|(refine qH rfl ?_)|(refine qI rfl ?_ ?_<;>intro hc<;>(try simp only [go_sem] at hc))|(refine qJ ?_ ?_<;>intro hc<;>(try simp only [hc])<;>(try simp only [go_sem] at hc)))
    refine ⟨⟨1, by omega⟩, ?_, Ent.to ?_ ?_⟩ <;> first | (show _ < _; (try simp only); omega) | (simp (disch:=omega) only [qR,qS,qTw,qU,get,Nat.reduceEqDiff,↓reduceIte,qV,qW,qX,qY,qZ,and_self,dI,i64_in,and_true,true_and,rA,rB,rC,rD, List.cons_append,List.nil_append])
    all_goals first | exact .refl _ | exact ⟨.refl _, .refl _, .refl _, .refl _⟩ | exact ⟨.refl _, .refl _, .refl _⟩ | exact ⟨.refl _, .refl _⟩
   ·have hsn : ∀ a b : Int, rowC (rows eSp (spF 1)) ++ [[D.c (.v (.int .i64 a)), D.c (.v (.int .i64 b))]] = rowC (rows eSp [(3115, 3119), (a, b)]) := fun a b => rfl
    have hlen : (spF 1).length = 1 := rfl
    repeat' (first|(with_reducible first|apply qA|apply qB|apply qC|apply qD|apply qE|apply qF)|(refine qL rfl (WF.of ?_) ?_; first|rfl|skip)|(refine DW.regL rfl (WF.of ?_) ?_; first|rfl|skip)|(simp (disch:=omega) only [go_sem, simprocAttr, qN, qO, qP, qQ, hsn, hlen, mC, List.cons_append, List.nil_append, q01, q02, q03, q12, q13, q23, r01, r02, r03, r12, r13, r23])|exact qM rfl rfl rfl|(refine qG rfl ?_)|(refine qH rfl ?_)|(refine qI rfl ?_ ?_<;>intro hc<;>(try simp only [go_sem] at hc))|(refine qJ ?_ ?_<;>intro hc<;>(try simp only [hc])<;>(try simp only [go_sem] at hc)))
    refine ⟨⟨2, by omega⟩, ?_, Ent.to ?_ ?_⟩ <;> first | (show _ < _; (try simp only); omega) | (simp (disch:=omega) only [qR,qS,qTw,qU,get,Nat.reduceEqDiff,↓reduceIte,qV,qW,qX,qY,qZ,and_self,dI,i64_in,and_true,true_and,rA,rB,rC,rD, List.cons_append,List.nil_append])
    all_goals first | exact .refl _ | exact ⟨.refl _, .refl _, .refl _, .refl _⟩ | exact ⟨.refl _, .refl _, .refl _⟩ | exact ⟨.refl _, .refl _⟩
   ·rw [show spF 2 = [(3115, 3119), (6100, 6100)] from rfl]
    simp only [List.cons_append, List.nil_append, mC]
    (refine DW.ent (Ent.rel 111 rfl) ?_; simp (disch:=omega) only [go_sem,simprocAttr,qN,qO,qP,qQ])
    repeat' (first|(with_reducible first|apply qA|apply qB|apply qC|apply qD|apply qE|apply qF)|(refine qL rfl (WF.of ?_) ?_; first|rfl|skip)|(refine DW.regL rfl (WF.of ?_) ?_; first|rfl|skip)|(simp (disch:=omega) only [go_sem, simprocAttr, qN, qO, qP, qQ, List.cons_append, List.nil_append])|exact qM rfl rfl rfl|(refine qG rfl ?_)|(refine qH rfl ?_)|(refine qI rfl ?_ ?_<;>intro hc<;>(try simp only [go_sem] at hc))|(refine qJ ?_ ?_<;>intro hc<;>(try simp only [hc])<;>(try simp only [go_sem] at hc)))
theorem arRoll : DCall Try.prog 11 [] [] (bD true) [] := by
 have h1 := rlLasts exRS exRS_ok
 have e1 : lastsI exRS = (6000, 6040) := by kernel_rfl
 rw [e1] at h1
 have h2 := rlLabels
 unfold exRS at h1 h2
 have s1 := arSpan 3100 3160
 have s2 := arSpan 6100 6100
 have s3 := arSpan 2010 2012
 have s4 := arSpan 6000 6040
 have s5 := arSpan 3115 3119
 refine DCall.of Try.func11 sf11 hb11 (Nat.le_of_ble_eq_true rfl) (okRes_nil fun _ => rfl) ?_; simp only [s11, idxs, Nat.reduceAdd]
 refine DW.seq (DW.reg ?_)
 simp (disch:=omega) only [go_sem,simprocAttr,qN,qO,qP,qQ]
 refine DW.seq (DW.reg ?_)
 simp (disch:=omega) only [go_sem,simprocAttr,qN,qO,qP,qQ]
 (refine call_c (s1) (by decide) ?_; simp (disch:=omega) only [go_sem,simprocAttr,qN,qO,qP,qQ])
 (refine call_c (s2) (by decide) ?_; simp (disch:=omega) only [go_sem,simprocAttr,qN,qO,qP,qQ])
 (refine DW.ent (Ent.rel 9 rfl) ?_; simp (disch:=omega) only [go_sem,simprocAttr,qN,qO,qP,qQ])
 repeat' (first|(with_reducible first|apply qA|apply qB|apply qC|apply qD|apply qE|apply qF)|(refine qL rfl (WF.of ?_) ?_; first|rfl|skip)|(simp (disch:=omega) only [go_sem, simprocAttr, qN, qO, qP, qQ])|exact qM rfl rfl rfl|(refine qG rfl ?_)|(refine qK (h1) (by decide) ?_)|(refine qK (s3) (by decide) ?_)|(refine qK (h2) (by decide) ?_)|(refine qK (s4) (by decide) ?_)|(refine qK (s5) (by decide) ?_)|(refine qH rfl ?_)|(refine qI rfl ?_ ?_<;>intro hc<;>(try simp only [go_sem] at hc))|(refine qJ ?_ ?_<;>intro hc<;>(try simp only [hc])<;>(try simp only [go_sem] at hc)))
end Go.Dw.Seat
end
section
set_option linter.unusedSimpArgs false
set_option maxRecDepth 100000
namespace Go.Dw.Seat
open Go Go.Dw Go.Proofs Go.IntWalk
theorem dt_byteI {l : List Nat} (h : ∀ v ∈ l, v < 256) (i : Nat) : byteI l i < 256 := by
 unfold byteI
 cases hv : l[i % l.length]? with
 | none => simp
 | some v => simpa using h v (List.mem_of_getElem? hv)
end Go.Dw.Seat
end
section
set_option linter.unusedSimpArgs false
set_option maxRecDepth 100000
namespace Go.Dw.Seat.Pa
open Go Go.Dw Go.Proofs Go.IntWalk
theorem paGoods (b : Bool) (q : List PIt) (hl : q.length ≤ 2 ^ 36) : DCall Try.prog 9 [itsD b q] [] (itsD false q) [] := by
 refine DCall.of Try.func9 sf9 hb9 (Nat.le_of_ble_eq_true rfl) (okRes_nil fun _ => rfl) ?_; simp only [s9, idxs, Nat.reduceAdd]
 repeat' (first|(with_reducible first|apply qA|apply qB|apply qC|apply qD|apply qE|apply qF)|(simp (disch:=omega) only [go_sem, simprocAttr, qN, qO, qP, qQ])|exact qM rfl rfl rfl|(refine qG rfl ?_)|(refine qH rfl ?_)|(refine qI rfl ?_ ?_<;>intro hc<;>(try simp only [go_sem] at hc))|(refine qJ ?_ ?_<;>intro hc<;>(try simp only [hc])<;>(try simp only [go_sem] at hc)))
 (refine retS_ent (Ent.rel 3 rfl) ?_; simp (disch:=omega) only [go_sem,simprocAttr,qN,qO,qP,qQ])
 refine retS_wk rfl ?_ (by simp only [Blk.nb, rowC_nb, D.nb, D.nbs, C.nb, C.nbs, C.nbss, rows_nb eI_nb, Bool.and_true, Bool.not_false, Bool.and_self, bD, dI, iD, rows_nb eSp_nb, rows_nb eIt_nb, rows_nb eY_nb, rows_nb e2t_nb, rows_nb eI_nb]); exact .refl _
theorem paLengths (b b' : Bool) (s : RSt) (tr : List Nat) (htr : ∀ v ∈ tr, v < 256) (hl : s.rolls.length ≤ 100) (hr : ∀ r ∈ s.rolls, 0 ≤ r.1 ∧ r.1 ≤ r.2 ∧ r.2 ≤ 1000000) : DCall Try.prog 12 [dRSt b s, .c (.sl b' 1 (rows eY tr))] [] (dIs false (lenF tr s.rolls)) [] := by
 refine DCall.of Try.func12 sf12 hb12 (Nat.le_of_ble_eq_true rfl) (okRes_nil fun _ => rfl) ?_; simp only [s12, idxs, Nat.reduceAdd]
 repeat' (first|(with_reducible first|apply qA|apply qB|apply qC|apply qD|apply qE|apply qF)|(refine qL rfl (WF.of ?_) ?_; first|rfl|skip)|(simp (disch:=omega) only [go_sem, simprocAttr, qN, qO, qP, qQ])|exact qM rfl rfl rfl|(refine qG rfl ?_)|(refine qH rfl ?_)|(refine qI rfl ?_ ?_<;>intro hc<;>(try simp only [go_sem] at hc))|(refine qJ ?_ ?_<;>intro hc<;>(try simp only [hc])<;>(try simp only [go_sem] at hc)))
 refine DW.loop (ι := { i : Nat // i ≤ s.rolls.length }) (fun i => ⟨28, [(6, dI i.1), (5, .own 7), (2, .box 2 0), (1, .c (.sl b' 1 (rows eY tr)))], [(7, .row 1 (rowC (rows eI ((lenF tr s.rolls).take i.1)))), (2, .box [dI s.num, dI s.den, dI s.tail, .c (.sl b 2 (rows eSp s.rolls))])]⟩) (fun i => s.rolls.length - i.1) ⟨0, Nat.zero_le _⟩ ?_ ?_
 ·refine Ent.to ?_ ?_ <;> simp (disch:=omega) only [qR,qS,qTw,qU,get,Nat.reduceEqDiff,↓reduceIte,qV,qW,qX,qY,qZ,and_self,dI,i64_in,and_true,true_and,rA,rB,rC,rD,List.take_zero]
  all_goals exact .refl _
 rintro ⟨i, hi⟩
 dsimp only
 rcases at_or s.rolls i hi with ⟨r, hri, hlt, hd⟩ | ⟨he, hd⟩
 ·have hrb := hr r (List.mem_of_getElem? hri)
  have hbl := dt_byteI htr i
  have c1 := Seat.arByte b' tr i (by omega) htr
  have c2 := Seat.arIn r.1 r.2 (byteI tr i) hbl (by omega)
  have hg := lenF_get (tr := tr) hri
  have hll := lenF_len tr s.rolls
  have htk : (lenF tr s.rolls).take (i + 1) = (lenF tr s.rolls).take i ++ [Seat.inI r.1 r.2 (byteI tr i)] := by rw [List.take_add_one, hg]; rfl
  have hrow : rowC (rows eI ((lenF tr s.rolls).take i)) ++ [[D.c (.v (.int .i64 (Seat.inI r.1 r.2 (byteI tr i))))]] = rowC (rows eI ((lenF tr s.rolls).take (i + 1))) := by rw [htk]; simp [rowC, rows, eI]
  have hln : ((lenF tr s.rolls).take i).length ≤ 100 := by rw [List.length_take]; omega
  generalize (lenF tr s.rolls).take i = A at *
  generalize hB : (lenF tr s.rolls).take (i + 1) = B at *
  generalize Seat.inI r.1 r.2 (byteI tr i) = v at *
  repeat' (first|(with_reducible first|apply qA|apply qB|apply qC|apply qD|apply qE|apply qF)|(refine qL rfl (WF.of ?_) ?_; first|rfl|skip)|(simp (disch:=omega) only [go_sem, simprocAttr, qN, qO, qP, qQ, hd, hri, hrow, rF, rG])|exact qM rfl rfl rfl|(refine qG rfl ?_)|(refine qK (c1) (by decide) ?_)|(refine qK (c2) (by decide) ?_)|(refine qH rfl ?_)|(refine qI rfl ?_ ?_<;>intro hc<;>(try simp only [go_sem] at hc))|(refine qJ ?_ ?_<;>intro hc<;>(try simp only [hc])<;>(try simp only [go_sem] at hc)))
  refine ⟨⟨i + 1, hlt⟩, ?_, Ent.to ?_ ?_⟩ <;> first | (show _ < _; (try simp only); omega) | (simp (disch:=omega) only [qR,qS,qTw,qU,get,Nat.reduceEqDiff,↓reduceIte,qV,qW,qX,qY,qZ,and_self,dI,i64_in,and_true,true_and,rA,rB,rC,rD, hrow,hB])
  all_goals first | exact .refl _ | exact ⟨.refl _, .refl _, .refl _⟩ | exact ⟨.refl _, .refl _⟩
 ·have ht : (lenF tr s.rolls).take s.rolls.length = lenF tr s.rolls := by rw [← lenF_len tr s.rolls, List.take_length]
  subst he
  rw [ht]
  (refine DW.ent (Ent.rel 7 rfl) ?_; simp (disch:=omega) only [go_sem,simprocAttr,qN,qO,qP,qQ])
  repeat' (first|(with_reducible first|apply qA|apply qB|apply qC|apply qD|apply qE|apply qF)|(refine qL rfl (WF.of ?_) ?_; first|rfl|skip)|(simp (disch:=omega) only [go_sem, simprocAttr, qN, qO, qP, qQ, hd])|exact qM rfl rfl rfl|(refine qG rfl ?_)|(refine qH rfl ?_)|(refine qI rfl ?_ ?_<;>intro hc<;>(try simp only [go_sem] at hc))|(refine qJ ?_ ?_<;>intro hc<;>(try simp only [hc])<;>(try simp only [go_sem] at hc)))
  refine retS_wk rfl ?_ (by simp only [Blk.nb, rowC_nb, D.nb, D.nbs, C.nb, C.nbs, C.nbss, rows_nb eI_nb, Bool.and_true, Bool.not_false, Bool.and_self, bD, dI, iD, rows_nb eSp_nb, rows_nb eIt_nb, rows_nb eY_nb, rows_nb e2t_nb, rows_nb eI_nb]); exact .refl _
def lrLy (lg : Int) (b c d : Nat) : PLy := ⟨lg + 20 + (b : Int), ((c % 20 : Nat) : Int), 20 + ((lg + (b : Int)) * (100 + ((c / 2 : Nat) : Int))).tdiv 300, 200 * (d : Int), 60000 - 150 * (d : Int)⟩
theorem lr_div {lg : Int} (hl : 0 ≤ lg ∧ lg ≤ 1000) {b c : Nat} (hb : b < 256) (hc : c < 256) : (0 ≤ (lg + (b : Int)) * (100 + ((c / 2 : Nat) : Int)) ∧ (lg + (b : Int)) * (100 + ((c / 2 : Nat) : Int)) ≤ 300000) ∧ 0 ≤ ((lg + (b : Int)) * (100 + ((c / 2 : Nat) : Int))).tdiv 300 ∧ ((lg + (b : Int)) * (100 + ((c / 2 : Nat) : Int))).tdiv 300 ≤ lg + (b : Int) := by
 have m := mulB0 (a := lg + (b : Int)) (b := 100 + ((c / 2 : Nat) : Int)) (A := 1255) (B := 227) (by omega) (by omega)
 have m2 : (lg + (b : Int)) * (100 + ((c / 2 : Nat) : Int)) ≤ (lg + (b : Int)) * 300 := Int.mul_le_mul_of_nonneg_left (by omega) (by omega)
 rw [Int.tdiv_eq_ediv_of_nonneg m.1]
 generalize (lg + (b : Int)) * (100 + ((c / 2 : Nat) : Int)) = z at *
 omega
theorem lrLy_ok {lg : Int} (hl : 0 ≤ lg ∧ lg ≤ 1000) {b c d : Nat} (hb : b < 256) (hc : c < 256) (hd : d < 256) : (lrLy lg b c d).ok := by
 have h := lr_div hl hb hc
 have h2 : c % 20 < 20 := Nat.mod_lt _ (by decide)
 refine ⟨?_, ?_, ?_, ?_⟩ <;> simp only [lrLy] <;> omega
end Go.Dw.Seat.Pa
end
section
set_option linter.unusedSimpArgs false
set_option maxRecDepth 100000
namespace Go.Dw.Seat.Pa
open Go Go.Dw Go.Proofs Go.IntWalk
theorem rowC_snocIt' (l : List PIt) (x : PIt) (g a b : Int) (h : x = ⟨g, a, b⟩) : rowC (rows eIt l) ++ [[D.c (.v (.int .i64 g)), D.c (.v (.int .i64 a)), D.c (.v (.int .i64 b))]] = rowC (rows eIt (l ++ [x])) := by subst h; simp [rowC, rows, eIt]
theorem killB_mapM [Lays] (k : Nat) (ks : List Value) (m : Memo) : killB k (.map ks (mD m)) = .map ks (mD m) := by
 show Blk.map ks ((mD m).map (killD k)) = _
 rw [map_killD_of (mD_men k m)]
theorem rels_mD (k : Nat) (x : Blk) : ∀ m : Memo, relDs k x (mD m) = mD m
 | [] => rfl
 | p :: m => by
  have := rels_mD k x m
  simpa [mD, relDs, relD, bD] using this
theorem relB_mapM [Lays] (k : Nat) (x : Blk) (ks : List Value) (m : Memo) : relB k x (.map ks (mD m)) = .map ks (mD m) := by
 show Blk.map ks (relDs k x (mD m)) = _
 rw [rels_mD]
attribute [go_sem] killB_mapM relB_mapM rels_mD
set_option maxHeartbeats 32000000 in
theorem tpLorryRolls (b bt : Bool) (y : ReelY) (hy : y.ok) (va vb vc vd : Nat) (hva : va < 256) (hvb : vb < 256) (hvc : vc < 256) (hvd : vd < 256) (tr : List Nat) (htr : ∀ v ∈ tr, v < 256) :
  DCall Try.prog 3 [dReel b y, .agg [d8 va, d8 vb, d8 vc, d8 vd], .c (.sl bt 1 (rows eY tr))] [] (bD true) [] := by
 have hpa := paPallet
 have hro := Seat.arRoll
 have cS := arStand b y hy 10 7
 have hst := reelS_ok hy (num := 10) (den := 7) (by omega) (by omega)
 have hmem : ∀ r ∈ (reelS y 10 7).rolls, reelT y + 1 ≤ r.1 ∧ r.1 ≤ reelT y + 2551 ∧ r.1 ≤ r.2 ∧ r.2 ≤ reelT y + 2600 := fun r hr => reelL_mem hy hr
 have htb := reelT_b y
 have hrl : (reelS y 10 7).rolls.length ≤ 5 := by
  show (reelL y (reelN y)).length ≤ 5
  unfold reelL reelN
  rw [List.length_map, List.length_take]
  omega
 have hSt : (reelS y 10 7).tail = reelT y := rfl
 have hSn : (reelS y 10 7).num = 10 := rfl
 have hSd : (reelS y 10 7).den = 7 := rfl
 generalize reelS y 10 7 = S at *
 obtain ⟨g, hg⟩ : ∃ g : Int, 100 + ((va % 50 : Nat) : Int) = g := ⟨_, rfl⟩
 have hv50 : va % 50 < 50 := Nat.mod_lt _ (by decide)
 have hgb : 100 ≤ g ∧ g < 150 := by omega
 have h50 : (va : Int).tmod 50 = ((va % 50 : Nat) : Int) := Seat.tmodN va 50
 have h20 : (vc : Int).tmod 20 = ((vc % 20 : Nat) : Int) := Seat.tmodN vc 20
 have h2 : (vc : Int).tdiv 2 = ((vc / 2 : Nat) : Int) := Seat.tdivN vc 2
 have ud5 : Try.prog.underlying 5 = some (.int .u8) := by kernel_rfl
 refine DCall.of Try.func3 sf3 hb3 (Nat.le_of_ble_eq_true rfl) (okRes_nil fun _ => rfl) ?_; simp only [s3, o3_0, o3_1, o3_2, o3_3, o3_4, o3_5, o3_6, o3_7, o3_8, o3_9, o3_10, o3_11, o3_12, o3_13, o3_14, o3_15, o3_16, o3_17, o3_18, o3_19, o3_20, o3_21, o3_22, o3_23, o3_24, idxs, Nat.reduceAdd]
 repeat' (first|(with_reducible first|apply qA|apply qB|apply qC|apply qD|apply qE|apply qF)|(refine qL rfl (WF.of ?_) ?_; first|rfl|skip)|(refine DW.ord rfl (WF.of (by first|rfl|simp (disch:=omega) only [go_sem, simprocAttr, qN, qO, qP, qQ])) ?_ ?_ ?_; rotate_left)|rfl|(with_reducible refine And.intro ?_ ?_)|(simp (disch:=omega) only [go_sem, simprocAttr, qN, qO, qP, qQ])|exact qM rfl rfl rfl|(refine qG rfl ?_)|(refine qK (cS) (by decide) ?_)|(refine qH rfl ?_)|(refine qI rfl ?_ ?_<;>intro hc<;>(try simp only [go_sem] at hc))|(refine qJ ?_ ?_<;>intro hc<;>(try simp only [hc])<;>(try simp only [go_sem] at hc)))
 refine DW.loop (ι := { i : Nat // i ≤ S.rolls.length }) (fun i => ⟨333, [(10, dI i.1), (9, dI (lgI ((S.rolls.take i.1).map (lrIt g)))), (8, .own 34), (7, .box 7 0), (4, .box 4 0), (2, .c (.sl bt 1 (rows eY tr)))], [(34, .row 3 (rowC (rows eIt ((S.rolls.take i.1).map (lrIt g))))), (7, .box [dI S.num, dI S.den, dI S.tail, .c (.sl false 2 (rows eSp S.rolls))]), (4, .box [d8 va, d8 vb, d8 vc, d8 vd])]⟩) (fun i => S.rolls.length - i.1) ⟨0, Nat.zero_le _⟩ ?_ ?_
 ·refine Ent.to ?_ ?_ <;> simp (disch:=omega) only [qR,qS,qTw,qU,get,Nat.reduceEqDiff,↓reduceIte,qV,qW,qX,qY,qZ,and_self,dI,i64_in,and_true,true_and,rA,rB,rC,rD,List.take_zero,rG,lgI]
  all_goals first | exact .refl _ | exact ⟨.refl _, .refl _, .refl _⟩ | exact ⟨.refl _, .refl _⟩
 rintro ⟨i, hi⟩
 dsimp only
 rcases at_or S.rolls i hi with ⟨r, hr, hlt, hd⟩ | ⟨he, hd⟩
 ·have hrb := hmem r (List.mem_of_getElem? hr)
  have c1 := paSpan (3 * r.1) (3 * r.2)
  have htk : (S.rolls.take (i + 1)).map (lrIt g) = (S.rolls.take i).map (lrIt g) ++ [lrIt g r] := by rw [List.take_add_one, hr, Option.toList_some, List.map_append]; rfl
  have hsn := lgI_snoc ((S.rolls.take i).map (lrIt g)) (lrIt g r)
  have hrow := rowC_snocIt' ((S.rolls.take i).map (lrIt g)) (lrIt g r) g (3 * r.1) (3 * r.2) rfl
  rw [← htk] at hsn hrow
  have hsm := lgI_same g (S.rolls.take i)
  have hsi : ((S.rolls.take i).length : Int) = (i : Int) := by rw [List.length_take, Nat.min_eq_left (by omega)]
  rw [hsi] at hsm
  have hb1 := mulB0 (a := g) (b := (i : Int)) (A := 149) (B := 5) (by omega) (by omega)
  rw [← hsm] at hb1
  have hln : ((S.rolls.take i).map (lrIt g)).length ≤ 5 := by rw [List.length_map, List.length_take]; omega
  have hxg : (lrIt g r).lg = g := rfl
  rw [hxg] at hsn
  clear hsm hsi htk
  generalize (S.rolls.take i).map (lrIt g) = A at *
  generalize hB : (S.rolls.take (i + 1)).map (lrIt g) = B at *
  repeat' (first|(with_reducible first|apply qA|apply qB|apply qC|apply qD|apply qE|apply qF)|(refine qL rfl (WF.of ?_) ?_; first|rfl|skip)|(refine DW.ord rfl (WF.of (by first|rfl|simp (disch:=omega) only [go_sem, simprocAttr, qN, qO, qP, qQ, ud5, h50, hg, hd, hr, hrow, rF, rG])) ?_ ?_ ?_; rotate_left)|rfl|(with_reducible refine And.intro ?_ ?_)|(simp (disch:=omega) only [go_sem, simprocAttr, qN, qO, qP, qQ, ud5, h50, hg, hd, hr, hrow, rF, rG])|exact qM rfl rfl rfl|(refine qG rfl ?_)|(refine qK (c1) (by decide) ?_)|(refine qH rfl ?_)|(refine qI rfl ?_ ?_<;>intro hc<;>(try simp only [go_sem] at hc))|(refine qJ ?_ ?_<;>intro hc<;>(try simp only [hc])<;>(try simp only [go_sem] at hc)))
  refine ⟨⟨i + 1, hlt⟩, ?_, Ent.to ?_ ?_⟩ <;> first | (show _ < _; (try simp only); omega) | (simp (disch:=omega) only [qR,qS,qTw,qU,get,Nat.reduceEqDiff,↓reduceIte,qV,qW,qX,qY,qZ,and_self,dI,i64_in,and_true,true_and,rA,rB,rC,rD, hrow,hB,hsn])
  all_goals first | exact .refl _ | exact ⟨.refl _, .refl _, .refl _⟩ | exact ⟨.refl _, .refl _⟩
 subst he
 rw [List.take_length]
 obtain ⟨q, hq⟩ : ∃ q, q = S.rolls.map (lrIt g) := ⟨_, rfl⟩
 have hql : q.length = S.rolls.length := by rw [hq, List.length_map]
 have hlgq := lgI_same g S.rolls
 rw [← hq] at hlgq ⊢
 have hb1 := mulB0 (a := g) (b := (S.rolls.length : Int)) (A := 149) (B := 5) (by omega) (by omega)
 rw [← hlgq] at hb1
 have hdv := lr_div (lg := lgI q) (by omega) hvb hvc
 have hlo := lrLy_ok (lg := lgI q) (by omega) hvb hvc hvd
 have hv20 : vc % 20 < 20 := Nat.mod_lt _ (by decide)
 have f0 : lgI q + 20 + (vb : Int) = (lrLy (lgI q) vb vc vd).lg := rfl
 have f1 : ((vc % 20 : Nat) : Int) = (lrLy (lgI q) vb vc vd).fr := rfl
 have f2 : 20 + ((lgI q + (vb : Int)) * (100 + ((vc / 2 : Nat) : Int))).tdiv 300 = (lrLy (lgI q) vb vc vd).bk := rfl
 have f3 : 200 * (vd : Int) = (lrLy (lgI q) vb vc vd).fm := rfl
 have f4 : 60000 - 150 * (vd : Int) = (lrLy (lgI q) vb vc vd).bm := rfl
 generalize lrLy (lgI q) vb vc vd = l at *
 have hits : ∀ x ∈ q, x.ok := by
  intro x hx
  rw [hq] at hx
  obtain ⟨r, hr, rfl⟩ := List.mem_map.1 hx
  have := hmem r hr
  exact ⟨by show 1 ≤ g ∧ g ≤ 2000; omega, by show 0 ≤ 3 * r.1 ∧ 3 * r.1 ≤ 3 * r.2 ∧ 3 * r.2 ≤ 5000000; omega⟩
 have hL : LorOk l q := ⟨hlo, by omega, hits, by omega⟩
 have c2 := paGoods false q (by omega)
 have c3 := plOrder l q (by omega) (fun _ => by omega)
 rw [ordD, if_pos (lor_iff.2 hL)] at c3
 have hfo := fun o => ot_bearsL hL (by omega) (o := o)
 have f2d : 0 ≤ ((lgI q + (vb : Int)) * (100 + ((vc / 2 : Nat) : Int))).tdiv 300 := hdv.2.1
 have f2e : ((lgI q + (vb : Int)) * (100 + ((vc / 2 : Nat) : Int))).tdiv 300 ≤ lgI q + (vb : Int) := hdv.2.2
 have f2a : 0 ≤ (lgI q + (vb : Int)) * (100 + ((vc / 2 : Nat) : Int)) := hdv.1.1
 have f2b : (lgI q + (vb : Int)) * (100 + ((vc / 2 : Nat) : Int)) ≤ 300000 := hdv.1.2
 have z3 : ((300 : Int) = 0) = False := by decide
 (refine DW.ent (Ent.rel 34 rfl) ?_; simp (disch:=omega) only [go_sem,simprocAttr,qN,qO,qP,qQ])
 generalize findO l q = O at *
 rcases hO : O with _ | o
 ·rw [hO] at c3
  simp only [oRes, oErr] at c3
  repeat' (first|(with_reducible first|apply qA|apply qB|apply qC|apply qD|apply qE|apply qF)|(refine qL rfl (WF.of ?_) ?_; first|rfl|skip)|(refine DW.ord rfl (WF.of (by first|rfl|simp (disch:=omega) only [go_sem, simprocAttr, qN, qO, qP, qQ, hd, ud5, h20, h2, f0, f1, f2, f3, f4, z3])) ?_ ?_ ?_; rotate_left)|rfl|(with_reducible refine And.intro ?_ ?_)|(simp (disch:=omega) only [go_sem, simprocAttr, qN, qO, qP, qQ, hd, ud5, h20, h2, f0, f1, f2, f3, f4, z3])|exact qM rfl rfl rfl|(refine qG rfl ?_)|(refine qK (c2) (by decide) ?_)|(refine qK (c3) (by decide) ?_)|(refine qK (hpa) (by decide) ?_)|(refine qK (hro) (by decide) ?_)|(refine qH rfl ?_)|(refine qI rfl ?_ ?_<;>intro hc<;>(try simp only [go_sem] at hc))|(refine qJ ?_ ?_<;>intro hc<;>(try simp only [hc])<;>(try simp only [go_sem] at hc)))
 rw [hO] at c3
 simp only [oRes, oErr] at c3
 have hpm : ∀ r ∈ S.rolls, 0 ≤ r.1 ∧ r.1 ≤ r.2 ∧ r.2 ≤ 1000000 := fun r hr => by have := hmem r hr; omega
 have c4 := paLengths false bt S tr htr (by omega) hpm
 repeat' (first|(with_reducible first|apply qA|apply qB|apply qC|apply qD|apply qE|apply qF)|(refine qL rfl (WF.of ?_) ?_; first|rfl|skip)|(refine DW.ord rfl (WF.of (by first|rfl|simp (disch:=omega) only [go_sem, simprocAttr, qN, qO, qP, qQ, hd, ud5, h20, h2, f0, f1, f2, f3, f4, z3])) ?_ ?_ ?_; rotate_left)|rfl|(with_reducible refine And.intro ?_ ?_)|(simp (disch:=omega) only [go_sem, simprocAttr, qN, qO, qP, qQ, hd, ud5, h20, h2, f0, f1, f2, f3, f4, z3])|exact qM rfl rfl rfl|(refine qG rfl ?_)|(refine qK (c2) (by decide) ?_)|(refine qK (c3) (by decide) ?_)|(refine qK (c4) (by decide) ?_)|(refine qH rfl ?_)|(refine qI rfl ?_ ?_<;>intro hc<;>(try simp only [go_sem] at hc))|(refine qJ ?_ ?_<;>intro hc<;>(try simp only [hc])<;>(try simp only [go_sem] at hc)))
 clear c2 c3 c4 f0 f1 f2 f3 f4
 (refine DW.ent (Ent.adoptB 16 3 192 2 rfl rfl rfl rfl) ?_; simp only [ins, Nat.reduceLT, Nat.reduceEqDiff, ↓reduceIte, List.set_cons_zero, List.set_cons_succ])
 have hfo := hfo o hO
 have hos := allU_spec q.length q.length (u0 q.length) o hfo.1
 have hop := ot_permL (by omega) hfo.1
 have hol : o.length = q.length := hos.1.1
 have hob : ∀ x ∈ o, 0 ≤ x ∧ x < (q.length : Int) := (pk_mem hop).2
 obtain ⟨Ln, hLn⟩ : ∃ Ln, Ln = lenF tr S.rolls := ⟨_, rfl⟩
 have hLl : Ln.length = S.rolls.length := by rw [hLn, lenF_len]
 rw [← hLn]
 obtain ⟨Q, hQ⟩ : ∃ Q, Q = pkI q o := ⟨_, rfl⟩
 obtain ⟨R, hR⟩ : ∃ R, R = pkR S.rolls o := ⟨_, rfl⟩
 obtain ⟨W, hW⟩ : ∃ W, W = o.map (fun j : Int => 3 * Ln.getD j.toNat 0) := ⟨_, rfl⟩
 have hQL : LorOk l Q := by rw [hQ]; exact pk_ok hL hop
 have hQl : Q.length = o.length := by rw [hQ, pkI, List.length_map]
 have hWl : W.length = o.length := by rw [hW, List.length_map]
 have hRl : R.length = o.length := by rw [hR, pkR, List.length_map]
 have key : ∀ (i n : Nat), o[i]? = some (n : Int) → ∃ r v, S.rolls[n]? = some r ∧ Ln[n]? = some v ∧ (r.1 ≤ v ∧ v ≤ r.2) ∧ q[n]? = some (lrIt g r) ∧ Q[i]? = some (lrIt g r) ∧ R[i]? = some r ∧ W[i]? = some (3 * v) := by
  intro i n hn
  have hnb := hob _ (List.mem_of_getElem? hn)
  obtain ⟨r, hr⟩ : ∃ r, S.rolls[n]? = some r := ⟨S.rolls[n]'(by omega), List.getElem?_eq_getElem (by omega)⟩
  have hv := lenF_get (tr := tr) hr
  rw [← hLn] at hv
  have hrb := hpm r (List.mem_of_getElem? hr)
  have hvb2 := Seat.inI_b (lo := r.1) (hi := r.2) (dt_byteI htr n) hrb.2.1
  have hqn : q[n]? = some (lrIt g r) := by rw [hq, List.getElem?_map, hr]; rfl
  refine ⟨r, _, hr, hv, hvb2, hqn, ?_, ?_, ?_⟩
  ·rw [hQ, pkI, List.getElem?_map, hn]
   simp [List.getD_eq_getElem?_getD, hqn]
  ·rw [hR, pkR, List.getElem?_map, hn]
   simp [List.getD_eq_getElem?_getD, hr]
  ·rw [hW, List.getElem?_map, hn]
   simp [List.getD_eq_getElem?_getD, hv]
 have hon : ∀ (i : Nat), i < o.length → ∃ n : Nat, o[i]? = some (n : Int) := by
  intro i hi
  obtain ⟨x, hx⟩ : ∃ x, o[i]? = some x := ⟨o[i], List.getElem?_eq_getElem hi⟩
  have := hob x (List.mem_of_getElem? hx)
  exact ⟨x.toNat, by rw [hx, Int.toNat_of_nonneg this.1]⟩
 have hWx : ∀ (j : Nat) x w, Q[j]? = some x → W[j]? = some w → x.wl ≤ w ∧ w ≤ x.wh := by
  intro j x w h1 h2
  have hj : j < o.length := by rw [← hQl]; exact (List.getElem?_eq_some_iff.1 h1).1
  obtain ⟨n, hn⟩ := hon j hj
  obtain ⟨r, v, k1, k2, k3, k4, k5, k6, k7⟩ := key j n hn
  rw [k5] at h1
  rw [k7] at h2
  cases h1; cases h2
  show 3 * r.1 ≤ 3 * v ∧ 3 * v ≤ 3 * r.2
  omega
 have hWO : WOkL W := fun w hw => by
  obtain ⟨j, hj⟩ := List.getElem?_of_mem hw
  have hjl : j < o.length := by rw [← hWl]; exact (List.getElem?_eq_some_iff.1 hj).1
  obtain ⟨n, hn⟩ := hon j hjl
  obtain ⟨r, v, k1, k2, k3, k4, k5, k6, k7⟩ := key j n hn
  rw [k7] at hj
  cases hj
  have := hmem r (List.mem_of_getElem? k1)
  omega
 have hQi := hQL.its
 refine DW.loop (ι := { i : Nat // i ≤ o.length }) (fun i => ⟨333, [(21, dI i.1), (20, dI (sumR (cB l) 0 (Q.take i.1) (W.take i.1))), (19, dI (lgI (Q.take i.1))), (18, dIs false Ln), (17, dI (sumIL (W.take i.1))), (16, .box 16 0), (15, .hd 129), (14, .own 128), (12, dIs false o), (11, .box 11 0), (8, itsD false q), (7, .box 7 0)], [(192, .row 2 (rowC (rows eSp (R.take i.1)))), (129, .map (mK .i64 (usML (o.take i.1))) (mD (usML (o.take i.1)))), (128, .row 3 (rowC (rows eIt (Q.take i.1)))), (16, .box [dI S.num, dI S.den, dI S.tail, .own 192]), (11, .box [dI l.lg, dI l.fr, dI l.bk, dI l.fm, dI l.bm]), (7, .box [dI S.num, dI S.den, dI S.tail, .c (.sl false 2 (rows eSp S.rolls))])]⟩) (fun i => o.length - i.1) ⟨0, Nat.zero_le _⟩ ?_ ?_
 ·refine Ent.to ?_ ?_ <;> simp (disch:=omega) only [qR,qS,qTw,qU,get,Nat.reduceEqDiff,↓reduceIte,qV,qW,qX,qY,qZ,and_self,dI,i64_in,and_true,true_and,rA,rB,rC,rD,List.take_zero,sumR,sumIL,lgI,usML,List.foldl_nil]
  all_goals first | exact .refl _ | exact ⟨.refl _, .refl _, .refl _, .refl _⟩ | exact ⟨.refl _, .refl _, .refl _⟩ | exact ⟨.refl _, .refl _⟩
 rintro ⟨i, hi⟩
 dsimp only
 rcases at_or o i hi with ⟨z, hz, hlt, hdo⟩ | ⟨heo, hdo⟩
 ·obtain ⟨n, hn⟩ := hon i hlt
  obtain rfl : z = (n : Int) := by rw [hz] at hn; exact Option.some.inj hn
  obtain ⟨r, v, k1, k2, k3, k4, k5, k6, k7⟩ := key i n hn
  have hzb := hob _ (List.mem_of_getElem? hz)
  have htQ : Q.take (i + 1) = Q.take i ++ [lrIt g r] := by rw [List.take_add_one, k5]; rfl
  have htW : W.take (i + 1) = W.take i ++ [3 * v] := by rw [List.take_add_one, k7]; rfl
  have htR : R.take (i + 1) = R.take i ++ [r] := by rw [List.take_add_one, k6]; rfl
  have htO : o.take (i + 1) = o.take i ++ [(n : Int)] := by rw [List.take_add_one, hz]; rfl
  have hus := usM_snocL (o.take i) (n : Int)
  have hnm : (n : Int) ∉ o.take i := by
   have h := hos.1.2
   have e : o = o.take (i + 1) ++ o.drop (i + 1) := (List.take_append_drop _ _).symm
   rw [e, htO] at h
   have h := (List.nodup_append.1 h).1
   intro hh
   exact (List.nodup_append.1 h).2.2 _ hh _ (by simp) rfl
  have hmf : (mFind (usML (o.take i)) n).getD false = false := by
   rw [usML, usM_noneL (fun y hy => (hob y (List.mem_of_mem_take hy)).1) hnm rfl]; rfl
  rw [← htO, Int.toNat_natCast] at hus
  have hsn := lgI_snoc (Q.take i) (lrIt g r)
  have hS1 := lgI_take hQi (i + 1)
  rw [htQ, hsn] at hS1
  have htm : ∀ y ∈ Q.take i, y.ok := fun y hy => hQi y (List.mem_of_mem_take hy)
  have hS0 := lgI_nn htm
  have hl7 : (Q.take i).length ≤ 7 := by rw [List.length_take]; omega
  have hw7 : (W.take i).length ≤ 7 := by rw [List.length_take]; omega
  have hr7 : (R.take i).length ≤ 7 := by rw [List.length_take]; omega
  have hwt : WOkL (W.take i) := fun v hv => hWO v (List.mem_of_mem_take hv)
  have hlL := hlo.lg
  have hQg := hQL.lg
  have hxp := (hQi _ (List.mem_of_getElem? k5)).lg
  have bB := sumR_bL (cB_b hL.ly) (q := Q.take i) (ws := W.take i) (a := 0) (by omega) (by omega) htm hwt
  have bI := sumI_bL hwt
  have hlw2 : (W.take i).length = (Q.take i).length := by rw [List.length_take, List.length_take]; omega
  have e3 := sumR_appL (cB l) 0 (lrIt g r) (3 * v) hlw2
  have e4 := sumI_appL (W.take i) (3 * v)
  rw [← htQ, ← htW, Int.zero_add] at e3
  rw [← htW] at e4
  have hrQ := rowC_snocIt (Q.take i) (lrIt g r)
  rw [← htQ] at hsn hrQ
  have hrR : rowC (rows eSp (R.take i)) ++ [[D.c (.v (.int .i64 r.1)), D.c (.v (.int .i64 r.2))]] = rowC (rows eSp (R.take (i + 1))) := by rw [htR]; simp [rowC, rows, eSp]
  have hvv : 0 ≤ v ∧ v ≤ 1000000 := by have := hpm r (List.mem_of_getElem? k1); omega
  have hWv : 0 ≤ 3 * v ∧ 3 * v ≤ 5000000 := hWO _ (List.mem_of_getElem? k7)
  generalize hxx : lrIt g r = x at *
  have hxg : x.lg = g := by rw [← hxx]; rfl
  generalize sumR (cB l) 0 (Q.take i) (W.take i) = A3 at *
  generalize sumIL (W.take i) = A4 at *
  generalize lgI (Q.take i) = T at *
  have hla := hlo.ax
  have c2 := cB_b hL.ly (2 * T + x.lg) (by omega) (by omega)
  have m2 := mul_abs (a := 3 * v) (b := cB l (2 * T + x.lg)) (A := 5000000) (B := 10000) (by omega) (by omega)
  have hm2 : 2 * T + x.lg - 2 * l.fr = cB l (2 * T + x.lg) := rfl
  generalize cB l (2 * T + x.lg) = CB at *
  generalize hP2 : 3 * v * CB = P2 at *
  generalize usML (o.take i) = M at *
  generalize Q.take i = Q0 at *
  generalize hQ1 : Q.take (i + 1) = Q1 at *
  generalize R.take i = R0 at *
  generalize hR1 : R.take (i + 1) = R1 at *
  have d1 : decide ((n : Int) < 0) = false := decide_eq_false (by omega)
  have d2 : decide ((q.length : Int) ≤ (n : Int)) = false := decide_eq_false (by omega)
  repeat' (first|(with_reducible first|apply qA|apply qB|apply qC|apply qD|apply qE|apply qF)|(refine qL rfl (WF.of ?_) ?_; first|rfl|skip)|(refine DW.ord rfl (WF.of (by first|rfl|simp (disch:=omega) only [go_sem, simprocAttr, qN, qO, qP, qQ, hdo, hz, d1, d2, look1_mK2L, hmf, upd_mK', k1, k2, k4, hrQ, hrR, hm2, hP2, rF, rG])) ?_ ?_ ?_; rotate_left)|rfl|(with_reducible refine And.intro ?_ ?_)|(simp (disch:=omega) only [go_sem, simprocAttr, qN, qO, qP, qQ, hdo, hz, d1, d2, look1_mK2L, hmf, upd_mK', k1, k2, k4, hrQ, hrR, hm2, hP2, rF, rG])|exact qM rfl rfl rfl|(refine qG rfl ?_)|(refine qH rfl ?_)|(refine qI rfl ?_ ?_<;>intro hc<;>(try simp only [go_sem] at hc))|(refine qJ ?_ ?_<;>intro hc<;>(try simp only [hc])<;>(try simp only [go_sem] at hc)))
  refine ⟨⟨i + 1, hlt⟩, ?_, Ent.to ?_ ?_⟩ <;> first | (show _ < _; (try simp only); omega) | (simp (disch:=omega) only [qR,qS,qTw,qU,get,Nat.reduceEqDiff,↓reduceIte,qV,qW,qX,qY,qZ,and_self,dI,i64_in,and_true,true_and,rA,rB,rC,rD, hus,hQ1,hR1,e3,e4,hsn,hrQ,hrR])
  all_goals first | exact .refl _ | exact ⟨.refl _, .refl _, .refl _, .refl _⟩ | exact ⟨.refl _, .refl _, .refl _⟩ | exact ⟨.refl _, .refl _⟩
 ·subst heo
  have tQ : Q.take o.length = Q := by rw [← hQl, List.take_length]
  have tW : W.take o.length = W := by rw [← hWl, List.take_length]
  have tR : R.take o.length = R := by rw [← hRl, List.take_length]
  rw [tQ, tW, tR]
  have hbe := hfo.2
  rw [← hQ] at hbe
  have hWQ : W.length = Q.length := by omega
  have hbl := bears_law hbe hWQ hWx
  have sA := sumR_allL l (a := 0) hWQ
  have sB := sumR_between (cB l) (at' := 0) hWQ hWx
  have sB : (prtF l Q).bl ≤ sumR (cB l) 0 Q W ∧ sumR (cB l) 0 Q W ≤ (prtF l Q).bh := sB
  have bI := sumI_bL hWO
  have hPb := prt_b hQL
  have hax := hlo.ax
  have hll := hlo.lg
  have hfm := hlo.fm
  have hbm := hlo.bm
  have hY : 0 < 2 * (l.bk - l.fr) ∧ 2 * (l.bk - l.fr) ≤ 4000 := by omega
  have f2 := floor_okL hY.1 sB
  have g3 := quo_bL (n := (prtF l Q).bl) (B := 350000000000) hY.1 (by omega)
  have g4 := quo_bL (n := (prtF l Q).bh) (B := 350000000000) hY.1 (by omega)
  have cA := plAxles l Q (by omega)
  rw [axD, if_pos (lor_iff.2 hQL)] at cA
  generalize (prtF l Q).fl / (2 * (l.bk - l.fr)) = F1 at *
  generalize (prtF l Q).fh / (2 * (l.bk - l.fr)) = F2 at *
  generalize (prtF l Q).bl / (2 * (l.bk - l.fr)) = F3 at *
  generalize (prtF l Q).bh / (2 * (l.bk - l.fr)) = F4 at *
  generalize sumR (cF l) 0 Q W = A1 at *
  generalize sumR (cB l) 0 Q W = A3 at *
  generalize sumIL W = A4 at *
  generalize hYY : 2 * (l.bk - l.fr) = Y at *
  have b3 := mul_abs (a := F3) (b := Y) (A := 350000000001) (B := 4000) (by omega) (by omega)
  have b4 := mul_abs (a := F4 + 1) (b := Y) (A := 350000000001) (B := 4000) (by omega) (by omega)
  have b5 := mul_abs (a := l.bm) (b := Y) (A := 40000000) (B := 4000) (by omega) (by omega)
  have b6 := mul_abs (a := l.fm) (b := Y) (A := 40000000) (B := 4000) (by omega) (by omega)
  have b7 := mul_abs (a := A4) (b := Y) (A := 35000000) (B := 4000) (by omega) (by omega)
  have hpR := pkR_perm S.rolls (o := o) (by rw [← hql]; exact hop)
  rw [← hR] at hpR
  have hso : (RSt.mk S.num S.den S.tail R).ok := ⟨hst.den, hst.num, hst.tail, by show R.length ≤ 6; omega, fun r hr => hst.rolls r (hpR.mem_iff.1 hr)⟩
  have cL := rlLasts S hst
  have cO := rlLasts ⟨S.num, S.den, S.tail, R⟩ hso
  rw [lasts_perm hpR] at cO
  have cR := arRolls false S (by omega)
  generalize (lastsI S).1 = n1 at *
  generalize (lastsI S).2 = n2 at *
  have k1 : ((o.length : Int) != (q.length : Int)) = false := by simp [hol]
  have d1 : decide (A3 < 0) = false := decide_eq_false (by omega)
  have d2 : decide (l.bm * Y < A3) = false := decide_eq_false (by omega)
  have d3 : decide (A4 * Y - A3 < 0) = false := decide_eq_false (by omega)
  have d4 : decide (l.fm * Y < A4 * Y - A3) = false := decide_eq_false (by omega)
  have d5 : decide (F3 * Y ≤ A3) = true := decide_eq_true (by omega)
  have d6 : decide (A3 < (F4 + 1) * Y) = true := decide_eq_true (by omega)
  (refine DW.ent (Ent.rel 192 rfl) ?_; simp (disch:=omega) only [go_sem,simprocAttr,qN,qO,qP,qQ])
  (refine DW.ent (Ent.rel 128 rfl) ?_; simp (disch:=omega) only [go_sem,simprocAttr,qN,qO,qP,qQ])
  repeat' (first|(with_reducible first|apply qA|apply qB|apply qC|apply qD|apply qE|apply qF)|(refine qL rfl (WF.of ?_) ?_; first|rfl|skip)|(refine DW.ord rfl (WF.of (by first|rfl|simp (disch:=omega) only [go_sem, simprocAttr, qN, qO, qP, qQ, hdo, hYY, k1, d1, d2, d3, d4, d5, d6])) ?_ ?_ ?_; rotate_left)|rfl|(with_reducible refine And.intro ?_ ?_)|(simp (disch:=omega) only [go_sem, simprocAttr, qN, qO, qP, qQ, hdo, hYY, k1, d1, d2, d3, d4, d5, d6])|exact qM rfl rfl rfl|(refine qG rfl ?_)|(refine qK (cA) (by decide) ?_)|(refine qK (cR) (by decide) ?_)|(refine qK (cL) (by decide) ?_)|(refine qK (cO) (by decide) ?_)|(refine qK (hpa) (by decide) ?_)|(refine qK (hro) (by decide) ?_)|(refine qH rfl ?_)|(refine qI rfl ?_ ?_<;>intro hc<;>(try simp only [go_sem] at hc))|(refine qJ ?_ ?_<;>intro hc<;>(try simp only [hc])<;>(try simp only [go_sem] at hc)))
end Go.Dw.Seat.Pa
end
section
set_option linter.unusedSimpArgs false
set_option maxRecDepth 100000
namespace Go.Dw.Seat.Pa
open Go Go.Dw Go.Proofs Go.IntWalk
theorem lorryRollsY (y : ReelY) (hy : y.ok) (s : List Nat) (hs : s.length = 4 ∧ AllLt 256 s) (tr : List Nat) (_ : tr.length ≤ maxLen) (htr : AllLt 256 tr) :
  DCall Try.prog 3 [dReel false y, .agg ((eN s).map D.c), .c (.sl false 1 (rows e1 tr))] [] (bD true) [] := by
 obtain ⟨h3, h4⟩ := hs
 match s, h3 with
 | [u, v, w, z], _ =>
  have h := tpLorryRolls false false y hy u v w z (h4 _ (by simp)) (h4 _ (by simp)) (h4 _ (by simp)) (h4 _ (by simp)) tr htr
  have e : rows eY tr = rows e1 tr := rfl
  rw [e] at h
  exact h
end Go.Dw.Seat.Pa
end
section
set_option linter.unusedSimpArgs false
set_option maxRecDepth 100000
namespace Go.Dw.Seat.Pa
open Go Go.Dw Go.Proofs Go.ChangeShapes Go.WideShapes Go.ChangeAt Go.RowKit
theorem tOwn : ownKnob Try.prog.godebug = none := by kernel_rfl
theorem tLaid : laidOutB Try.prog = true := by kernel_rfl
theorem u4 : Try.prog.underlying 4 = some .bool := by kernel_rfl
theorem uT5 : Try.prog.underlying 5 = some (.int .u8) := by kernel_rfl
theorem clT5 : Try.prog.cellsOf 5 = 1 := by kernel_rfl
def bV (l : List Nat) : List Value := l.map fun n : Nat => Value.int .u8 (n : Int)
section
variable {H : Type} {enc : TypeId × Value → H} {w : World} {base : Nat} {spare : Nat → Bool} {held : Bool}
theorem wf8 {n : Int} (h : (Lit.int .u8 n).wf = true) : ∃ v : Nat, n = v ∧ v < 256 := by
 have e1 : IntKind.min .u8 = 0 := by decide
 have e2 : IntKind.max .u8 = 255 := by decide
 simp only [Lit.wf, e1, e2, Bool.and_eq_true, decide_eq_true_eq] at h
 exact ⟨n.toNat, by omega, by omega⟩
theorem rep_bytes : ∀ l : List Nat, RepVs w A0 (eN l) (bV l)
 | [] => rfl
 | _ :: l => ⟨_, _, rfl, ⟨rfl, rfl⟩, rep_bytes l⟩
theorem rd_Byte {fuel : Nat} {cs : List Value} {x : DataW H × List MemPlace} (h : DataW.trod enc Try.prog w base spare held fuel 5 cs = some x) : ∃ v : Nat, cs = [.int .u8 v] ∧ v < 256 := by
 obtain ⟨n, e, hw⟩ := rd_int uT5 h
 obtain ⟨v, rfl, hv⟩ := wf8 hw
 exact ⟨v, e, hv⟩
theorem rd_U8 {fuel : Nat} {cs : List Value} {x : DataW H × List MemPlace} (h : DataW.trod enc Try.prog w base spare held fuel 5 cs = some x) : ∃ l : List Nat, (l.length = 1 ∧ AllLt 256 l) ∧ cs = bV l := by
 obtain ⟨n, e, hw⟩ := rd_int uT5 h
 obtain ⟨v, rfl, hv⟩ := wf8 hw
 exact ⟨[v], ⟨rfl, fun x hx => by rw [List.mem_singleton] at hx; rw [hx]; exact hv⟩, e⟩
theorem bV_app (a b : List Nat) : bV (a ++ b) = bV a ++ bV b := by simp [bV]
theorem lt_app {b : Nat} {l l' : List Nat} (h : AllLt b l) (h' : AllLt b l') : AllLt b (l ++ l') := fun x hx => by
 rcases List.mem_append.1 hx with h1 | h1
 ·exact h x h1
 ·exact h' x h1
theorem rd_arrB {fuel : Nat} {cs : List Value} {x : DataW H × List MemPlace} {t e : TypeId} {n k : Nat} (ht : Try.prog.underlying t = some (.array n e)) (he : Try.prog.cellsOf e = k) (hc : Try.prog.cellsOf t = n * k)
  (hrd : ∀ m cs x, DataW.trod enc Try.prog w base spare held m e cs = some x → ∃ l : List Nat, (l.length = k ∧ AllLt 256 l) ∧ cs = bV l) (h : DataW.trod enc Try.prog w base spare held fuel t cs = some x) : ∃ l : List Nat, (l.length = n * k ∧ AllLt 256 l) ∧ cs = bV l := by
 obtain ⟨hl, m, hf⟩ := rd_array ht h
 rw [hc] at hl
 have key : ∀ j, j ≤ n → ∃ l : List Nat, (l.length = j * k ∧ AllLt 256 l) ∧ cs.take (j * k) = bV l := by
  intro j
  induction j with
  | zero => intro _; exact ⟨[], ⟨by simp, fun x hx => by cases hx⟩, by simp [bV]⟩
  | succ j ih =>
   intro hj
   obtain ⟨l, ⟨h1, h2⟩, h3⟩ := ih (by omega)
   obtain ⟨y, hy⟩ := hf j (by omega)
   rw [he] at hy
   obtain ⟨l', ⟨h4, h5⟩, h6⟩ := hrd _ _ _ hy
   refine ⟨l ++ l', ⟨by rw [List.length_append, h1, h4, Nat.succ_mul], lt_app h2 h5⟩, ?_⟩
   rw [Nat.succ_mul, List.take_add, h3, h6, bV_app]
 obtain ⟨l, h1, h2⟩ := key n (Nat.le_refl _)
 rw [List.take_of_length_le (by omega)] at h2
 exact ⟨l, h1, h2⟩
theorem uT113 : Try.prog.underlying 113 = some (.array 2 5) := by kernel_rfl
theorem clT113 : Try.prog.cellsOf 113 = 2 := by kernel_rfl
theorem rd_T113 {fuel : Nat} {cs : List Value} {x : DataW H × List MemPlace} (h : DataW.trod enc Try.prog w base spare held fuel 113 cs = some x) : ∃ l : List Nat, (l.length = 2 ∧ AllLt 256 l) ∧ cs = bV l := rd_arrB (n := 2) (k := 1) uT113 clT5 clT113 (fun _ _ _ h => rd_U8 h) h
theorem uT22 : Try.prog.underlying 22 = some (.slice 113) := by kernel_rfl
theorem clT22 : Try.prog.cellsOf 22 = 1 := by kernel_rfl
theorem rd_T2 {fuel : Nat} {cs : List Value} {x : DataW H × List MemPlace} (h : DataW.trod enc Try.prog w base spare held fuel 113 cs = some x) : ∃ v : {v : T2 // v.ok}, RepVs w A0 (e2t v.1) cs := by
 obtain ⟨l, ⟨h1, h2⟩, h3⟩ := rd_T113 h
 subst h3
 match l, h1 with
 | [a, b], _ => exact ⟨⟨⟨a, b⟩, h2 a (by simp), h2 b (by simp)⟩, _, _, rfl, ⟨rfl, rfl⟩, _, _, rfl, ⟨rfl, rfl⟩, rfl⟩
theorem rd_X22 {fuel : Nat} {cs : List Value} {x : DataW H × List MemPlace} (h : DataW.trod enc Try.prog w base spare held fuel 22 cs = some x) : ∃ (l : List T2) (v : Value), cs = [v] ∧ RepC w A0 (.sl false 2 (rows e2t l)) v ∧ l.length ≤ maxLen ∧ ∀ v ∈ l, v.ok := by
 obtain ⟨l, v, e', hr, hm, _⟩ := rd_slice (f := fun v : {v : T2 // v.ok} => e2t v.1) uT22 clT113 (by decide) (fun _ => rfl) (fun m cs x h => rd_T2 h) h
 refine ⟨l.map (·.1), v, e', ?_, by simpa using hm, fun u hu => ?_⟩
 ·have : rows e2t (l.map (·.1)) = rows (fun v : {v : T2 // v.ok} => e2t v.1) l := by simp [rows, Function.comp_def]
  rw [this]; exact hr
 ·obtain ⟨a, _, rfl⟩ := List.mem_map.1 hu
  exact a.2
theorem uT24 : structIs Try.prog 24 [(5, 0), (22, 1)] = true := by kernel_rfl
theorem clT24 : Try.prog.cellsOf 24 = 2 := by kernel_rfl
def cReel (x : ReelY) : List C := [.v (.int .u8 x.tail), .sl false 2 (rows e2t x.rolls)]
theorem rd_T24 {fuel : Nat} {cs : List Value} {x : DataW H × List MemPlace} (h : DataW.trod enc Try.prog w base spare held fuel 24 cs = some x) : ∃ s : ReelY, s.ok ∧ RepVs w A0 (cReel s) cs := by
 obtain ⟨hl, m, hf⟩ := rd_struct uT24 h
 rw [clT24] at hl
 obtain ⟨y0, h0⟩ := hf 0 5 0 rfl
 obtain ⟨y1, h1⟩ := hf 1 22 1 rfl
 rw [clT5] at h0
 rw [clT22] at h1
 obtain ⟨v0, e0, q0⟩ := rd_Byte h0
 obtain ⟨L1, v1, e1, r1, m1, p1⟩ := rd_X22 h1
 match cs, hl with
 | [c0, c1], _ =>
  simp at e0 e1
  subst e0; subst e1
  exact ⟨⟨v0, L1⟩, ⟨q0, p1⟩, _, _, rfl, ⟨rfl, rfl⟩, _, _, rfl, r1, rfl⟩
theorem uT25 : Try.prog.underlying 25 = some (.array 4 5) := by kernel_rfl
theorem clT25 : Try.prog.cellsOf 25 = 4 := by kernel_rfl
theorem rd_T25 {fuel : Nat} {cs : List Value} {x : DataW H × List MemPlace} (h : DataW.trod enc Try.prog w base spare held fuel 25 cs = some x) : ∃ l : List Nat, (l.length = 4 ∧ AllLt 256 l) ∧ cs = bV l := rd_arrB (n := 4) (k := 1) uT25 clT5 clT25 (fun _ _ _ h => rd_U8 h) h
theorem uT26 : Try.prog.underlying 26 = some (.slice 5) := by kernel_rfl
theorem rd_T26 {fuel : Nat} {cs : List Value} {x : DataW H × List MemPlace} (h : DataW.trod enc Try.prog w base spare held fuel 26 cs = some x) : ∃ (l : List Nat) (v : Value), cs = [v] ∧ RepC w A0 (.sl false 1 (rows e1 l)) v ∧ l.length ≤ maxLen ∧ AllLt 256 l := by
 obtain ⟨l, v, e', hr, hm, _⟩ := rd_slice (f := fun v : {v : Nat // v < 256} => e1 v.1) uT26 clT5 (by decide) (fun _ => rfl) (fun m cs x h => by
  obtain ⟨n, e, hw⟩ := rd_int uT5 h
  obtain ⟨v, rfl, hv⟩ := wf8 hw
  subst e
  exact ⟨⟨v, hv⟩, _, _, rfl, ⟨rfl, rfl⟩, rfl⟩) h
 refine ⟨l.map (·.1), v, e', ?_, by simpa using hm, fun u hu => ?_⟩
 ·have : rows e1 (l.map (·.1)) = rows (fun v : {v : Nat // v < 256} => e1 v.1) l := by simp [rows, Function.comp_def]
  rw [this]; exact hr
 ·obtain ⟨a, _, rfl⟩ := List.mem_map.1 hu
  exact a.2
end
set_option maxHeartbeats 800000 in
theorem topLorryRollsLifted (os : Os) (started : os.Started) (H : Type) (enc : TypeId × Value → H) :
  ReturnsInHanded {} Try.checked os 3 .any (Ytalhglghjfdgkaa.Rows.topLorryRollsSpec.pre6 enc Try.prog Try.f3 Ytalhglghjfdgkaa.Rows.topLorryRollsRow.domain false) (Ytalhglghjfdgkaa.Rows.topLorryRollsSpec.post enc Try.prog Try.f3 false true false false) := by
 refine returnsInHanded_of_change (C := Try.checked) tOwn started (by kernel_rfl) Try.func3
  (ChangeSpec.witness6 (enc := enc) (C := Try.checked) false ⟨#[], #[.agg #[.int .u8 0, .slice none 0 0], .agg #[.int .u8 0, .int .u8 0, .int .u8 0, .int .u8 0], .slice none 0 0], []⟩ 8 (by kernel_rfl) (by kernel_rfl) (by kernel_rfl) (by kernel_rfl)) ?_
 intro W base args ds gs before hval0 hW _ _
 have hval : ∀ (j : Nat) t v, Try.f3.params[j]? = some t → args[j]? = some v → Value.okWide Try.prog W .any base t v := hval0
 have hW' : DataW.Whole enc Try.prog Try.f3.params.toList [] false W args.toList ds gs before := hW
 obtain ⟨p, q, hA, hV, rfl, hfz, hnd⟩ := hW
 have hA : DataW.TrodAll enc Try.prog W 0 (fun _ => true) true [24, 25, 26] args.toList ds p := hA
 obtain ⟨rfl, rfl⟩ := trodVars_none hV
 obtain ⟨v0, vs0, d0, ds0, p0, q0, hargs, rfl, rfl, h0, r0⟩ := trodAll_cons hA
 obtain ⟨v1, vs1, d1, ds1, p1, q1, rfl, rfl, rfl, h1, r1⟩ := trodAll_cons r0
 obtain ⟨v2, vs2, d2, ds2, p2, q2, rfl, rfl, rfl, h2, r2⟩ := trodAll_cons r1
 obtain ⟨rfl, rfl, rfl⟩ := trodAll_nil r2
 obtain rfl : args = #[v0, v1, v2] := by cases args; simp_all
 obtain ⟨f0, hu0, _⟩ := structIs_spec uT24
 obtain ⟨c0, rfl, _⟩ := okWide_struct hu0 (hval 0 24 v0 rfl rfl)
 obtain ⟨c1, rfl, _⟩ := okWide_array uT25 (hval 1 25 v1 rfl rfl)
 obtain ⟨a2, l2, k2, rfl⟩ := okWide_slice uT26 (hval 2 26 v2 rfl rfl)
 obtain ⟨fu0, h0⟩ := h0
 obtain ⟨fu1, h1⟩ := h1
 obtain ⟨fu2, h2⟩ := h2
 obtain ⟨s0, ho0, hr0⟩ := rd_T24 h0
 have hr0 : RepVs W A0 (cReel s0) c0.toList := by simpa [Value.cells] using hr0
 obtain ⟨s1, ho1, e1⟩ := rd_T25 h1
 have hr1 : RepVs W A0 (eN s1) c1.toList := by
  have e : c1.toList = bV s1 := by simpa [Value.cells] using e1
  rw [e]; exact rep_bytes s1
 obtain ⟨s2, sv2, e2, hs2, hl2, ho2⟩ := rd_T26 h2
 have e2 : sv2 = Value.slice a2 l2 k2 := by simpa [Value.cells] using e2.symm
 subst e2
 refine ((lorryRollsY s0 ho0 s1 ho1 s2 hl2 ho2).calls (W := W) (vs := [.agg c0, .agg c1, .slice a2 l2 k2]) (laid0 W) (fun G => ?_)).mono ?_
 ·exact ⟨_, _, rfl, ⟨c0, rfl, RepDs.ofVs hr0⟩, _, _, rfl, ⟨c1, rfl, RepDs.ofVs hr1⟩, _, _, rfl, hs2, rfl⟩
 ·rintro e W' ⟨v, rfl, ⟨G', A', hr⟩, hb⟩
  obtain ⟨rfl, _⟩ := hr
  exact ⟨_, rfl, post_true tLaid (by decide +kernel) hW' hb rfl rfl u4 rfl rfl rfl⟩
theorem topLorryRollsHolds : Ytalhglghjfdgkaa.Rows.topLorryRollsRow.holds Ytalhglghjfdgkaa.Try.pinned (OpenSpec.ofChange Ytalhglghjfdgkaa.Rows.topLorryRollsSpec) :=
 OpenClaim.holds_of_wide 3 Try.f3 rfl rfl rfl rfl rfl rfl rfl ⟨rfl, rfl, rfl, rfl, rfl⟩ rfl rfl rfl rfl rfl (by kernel_rfl) Try.func3 (by kernel_rfl)
  (of_decide_eq_true (by kernel_rfl)) (by unfold Func.isWrapper; first | (rw [if_pos (by decide +kernel)]; kernel_rfl) | (rw [if_neg (by decide +kernel)]; exact ⟨rfl, rfl⟩))
  (fun os started H enc _ => topLorryRollsLifted os started H enc)
end Go.Dw.Seat.Pa
namespace Go.Proofs.Ytalhglghjfdgkaa
theorem topLorryRollsSaid : Rows.TopLorryRollsSaid := Go.Dw.Seat.Pa.topLorryRollsHolds
end Go.Proofs.Ytalhglghjfdgkaa
end
