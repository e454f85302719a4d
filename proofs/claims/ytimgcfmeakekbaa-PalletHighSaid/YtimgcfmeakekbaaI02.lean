/- The law PalletHigh returns true for every input, and changes nothing that was there before: the full statement PalletHighSaid, without conditions. -/
import Derived.Test.YtimgcfmeakekbaaI01
import Derived.Test.YtimgcfmeakekbaaRows
import Derived.ProofKit
import Derived.OpenShut
set_option linter.unusedVariables false
set_option linter.unusedSimpArgs false
section
set_option linter.unusedSimpArgs false
set_option maxRecDepth 100000
namespace Go.Dw.Seat
open Go Go.Dw Go.Proofs Go.IntWalk
def CutC (p : PBs) (b : PBx) (RX RY : List Int) (nx ny lm f : Nat) : Prop := ∀ X Y M, MOk (bLg b) (bWd b) M → X ≤ nx → Y ≤ ny → X + Y < f → DCall Try.prog 65 [sawD p b RX RY lm, rctD X Y] [ctB lm M] (cutV (cutI (bLg b) (bWd b) X Y)) [ctB lm (cutM (bLg b) (bWd b) f X Y M).2]
def stS (a c f X Y : Nat) (s : Cut × CMemo) (l : Ln) : Option Exit × (Cut × CMemo) := (none, stepM (cutM a c f) X Y s l)
theorem st_run (a c f X Y : Nat) : ∀ (L : List Ln) (s : Cut × CMemo), runIt (stS a c f X Y) s L = (none, L.foldl (stepM (cutM a c f) X Y) s)
 | [], _ => rfl
 | l :: L, s => by simp only [runIt, stS, List.foldl_cons]; exact st_run a c f X Y L _
theorem one_le {a c X Y : Nat} {l : Ln} (h : l ∈ lnsF a c X Y) : ((oneF X Y l).1 ≤ X ∧ (oneF X Y l).2 ≤ Y) ∧ ((twoF X Y l).1 ≤ X ∧ (twoF X Y l).2 ≤ Y) ∧ l.2 ≤ if l.1 then Y else X := by
 have h1 := (lns_mem.1 h).half
 obtain ⟨s, t⟩ := l
 cases s <;> simp [oneF, twoF] at h1 ⊢ <;> omega
theorem mst_xy {a c : Nat} (ha : 0 < a) (hc : 0 < c) {x y : Nat} (hx : x ≤ 140) (hy : y ≤ 140) : mst a c x y ≤ 19600 := by
 have h1 := mst_bnd ha hc x y
 have h2 := Nat.div_le_self (rchF a c x * rchF a c y) (a * c)
 have h3 : rchF a c x * rchF a c y ≤ 140 * 140 := Nat.mul_le_mul (Nat.le_trans (rch_le a c x) hx) (Nat.le_trans (rch_le a c y) hy)
 unfold bndF at h1
 omega
set_option maxHeartbeats 4000000 in
theorem plCut1 (p : PBs) (b : PBx) (hb : b.ok) (RX RY : List Int) (nx ny : Nat) (hrx : Rch (bLg b) (bWd b) RX nx) (hry : Rch (bLg b) (bWd b) RY ny) (hnx : nx ≤ 140) (hny : ny ≤ 140) (lm f : Nat) (ih : CutC p b RX RY nx ny lm f) : CutC p b RX RY nx ny lm (f + 1) := by
 intro X Y M hMO hX hY hf
 have ha : 0 < bLg b := by have := hb.lg; show 0 < b.lg.toNat; omega
 have hc : 0 < bWd b := by have := hb.wd; show 0 < b.wd.toNat; omega
 rw [← (cutM_ok (bLg b) (bWd b) (f + 1) X Y M hf hMO).1]
 have hl1 := rch_le (bLg b) (bWd b) X
 have hl2 := rch_le (bLg b) (bWd b) Y
 have hgx := hrx.get X hX
 have hgy := hry.get Y hY
 have hlx := hrx.len
 have hly := hry.len
 have hiX : (X < nx + 1) = True := eq_true (by omega)
 have hiY : (Y < ny + 1) = True := eq_true (by omega)
 have hfits := plFits p b hb RX RY lm (rchF (bLg b) (bWd b) X) (rchF (bLg b) (bWd b) Y)
 have hsnd := fitT_snd (bLg b) (bWd b) (rchF (bLg b) (bWd b) X) (rchF (bLg b) (bWd b) Y)
 have hlines := plLines p b RX RY lm (rchF (bLg b) (bWd b) X) (rchF (bLg b) (bWd b) Y)
 have hit := plLines1 p b RX RY nx ny hrx hry (by omega) (by omega) lm (rchF (bLg b) (bWd b) X) (rchF (bLg b) (bWd b) Y) (by omega) (by omega)
 rw [cutM]
 unfold CutC at ih
 generalize bLg b = a at *
 generalize bWd b = c at *
 have hone := fun l => one_le (a := a) (c := c) (X := rchF a c X) (Y := rchF a c Y) (l := l)
 have hless := fun l (h : l ∈ lnsF a c (rchF a c X) (rchF a c Y)) => ln_less (lns_mem.1 h)
 generalize rchF a c X = X' at *
 generalize rchF a c Y = Y' at *
 refine DCall.of Try.func65 sf65 hb65 (Nat.le_of_ble_eq_true rfl) (ctB_ok _ (fun _ => rfl) _ _) ?_
 simp only [s65, o65_0, o65_1, o65_2, o65_3, o65_4, o65_5, o65_6, o65_7, o65_8, o65_9, o65_10, o65_11, o65_12, o65_13, o65_14, o65_15, o65_16, o65_17, o65_18, o65_19, idxs, Nat.reduceAdd]
 repeat' (first|(with_reducible first|apply qA|apply qB|apply qC|apply qD|apply qE|apply qF)|(refine qL rfl (WF.of ?_) ?_; first|rfl|skip)|(refine DW.ord rfl (WF.of (by first|rfl|simp (disch:=omega) only [go_sem, simprocAttr, qN, qO, qP, qQ])) ?_ ?_ ?_; rotate_left)|rfl|(with_reducible refine And.intro ?_ ?_)|(simp (disch:=omega) only [go_sem, simprocAttr, qN, qO, qP, qQ])|exact qM rfl rfl rfl|(refine qG rfl ?_)|(refine qH rfl ?_)|(refine qI rfl ?_ ?_<;>intro hc<;>(try simp only [go_sem] at hc))|(refine qJ ?_ ?_<;>intro hc<;>(try simp only [hc])<;>(try simp only [go_sem] at hc)))
 obtain ⟨r0, hr0⟩ : ∃ r : Nat → Nat, r 0 = X ∧ r 1 = X' ∧ r 2 = X' := ⟨fun k => if k = 0 then X else X', rfl, rfl, rfl⟩
 obtain ⟨r1, hr1⟩ : ∃ r : Nat → Nat, r 0 = Y ∧ r 1 = Y ∧ r 2 = Y' := ⟨fun k => if k ≤ 1 then Y else Y', rfl, rfl, rfl⟩
 refine DW.loop (ι := { k : Nat // k ≤ 2 }) (fun k => ⟨86, [(15, dI k.1), (4, .box 4 0), (3, .box 3 0), (2, .box 2 0)], [ctB lm M, (4, .box [dI 0, dI 0, dI 0]), (3, .box [dI (r0 k.1), dI (r1 k.1)]), (2, .box [sawD p b RX RY lm])]⟩) (fun k => 2 - k.1) ⟨0, by decide⟩ ?_ ?_
 ·refine Ent.to ?_ ?_ <;> simp (disch:=omega) only [qR,qS,qT,qU,get,Nat.reduceEqDiff,↓reduceIte,qV,qW,qX,qY,qZ,and_self,dI,i64_in,and_true,true_and,rA,rB,rC,rD,hr0.1,hr1.1]
  all_goals first | exact ⟨.refl _, .refl _, .refl _⟩ | exact ⟨.refl _, .refl _⟩ | exact .refl _
 rintro ⟨k, hk⟩
 dsimp only
 match k, hk with
 | 0, _ =>
  rw [hr0.1, hr1.1]
  repeat' (first|(with_reducible first|apply qA|apply qB|apply qC|apply qD|apply qE|apply qF)|(refine qL rfl (WF.of ?_) ?_; first|rfl|skip)|(refine DW.ord rfl (WF.of (by first|rfl|simp (disch:=omega) only [go_sem, simprocAttr, qN, qO, qP, qQ, hgx, hlx, hiX, rF, rG])) ?_ ?_ ?_; rotate_left)|rfl|(with_reducible refine And.intro ?_ ?_)|(simp (disch:=omega) only [go_sem, simprocAttr, qN, qO, qP, qQ, hgx, hlx, hiX, rF, rG])|exact qM rfl rfl rfl|(refine qG rfl ?_)|(refine qH rfl ?_)|(refine qI rfl ?_ ?_<;>intro hc<;>(try simp only [go_sem] at hc))|(refine qJ ?_ ?_<;>intro hc<;>(try simp only [hc])<;>(try simp only [go_sem] at hc)))
  refine ⟨⟨1, by decide⟩, ?_, Ent.to ?_ ?_⟩ <;> first | (show _ < _; (try simp only); omega) | (simp (disch:=omega) only [qR,qS,qT,qU,get,Nat.reduceEqDiff,↓reduceIte,qV,qW,qX,qY,qZ,and_self,dI,i64_in,and_true,true_and,rA,rB,rC,rD, hr0.2.1,hr1.2.1])
  all_goals first | exact ⟨.refl _, .refl _, .refl _⟩ | exact ⟨.refl _, .refl _⟩ | exact .refl _
 | 1, _ =>
  rw [hr0.2.1, hr1.2.1]
  repeat' (first|(with_reducible first|apply qA|apply qB|apply qC|apply qD|apply qE|apply qF)|(refine qL rfl (WF.of ?_) ?_; first|rfl|skip)|(refine DW.ord rfl (WF.of (by first|rfl|simp (disch:=omega) only [go_sem, simprocAttr, qN, qO, qP, qQ, hgy, hly, hiY, rF, rG])) ?_ ?_ ?_; rotate_left)|rfl|(with_reducible refine And.intro ?_ ?_)|(simp (disch:=omega) only [go_sem, simprocAttr, qN, qO, qP, qQ, hgy, hly, hiY, rF, rG])|exact qM rfl rfl rfl|(refine qG rfl ?_)|(refine qH rfl ?_)|(refine qI rfl ?_ ?_<;>intro hc<;>(try simp only [go_sem] at hc))|(refine qJ ?_ ?_<;>intro hc<;>(try simp only [hc])<;>(try simp only [go_sem] at hc)))
  refine ⟨⟨2, by decide⟩, ?_, Ent.to ?_ ?_⟩ <;> first | (show _ < _; (try simp only); omega) | (simp (disch:=omega) only [qR,qS,qT,qU,get,Nat.reduceEqDiff,↓reduceIte,qV,qW,qX,qY,qZ,and_self,dI,i64_in,and_true,true_and,rA,rB,rC,rD, hr0.2.2,hr1.2.2])
  all_goals first | exact ⟨.refl _, .refl _, .refl _⟩ | exact ⟨.refl _, .refl _⟩ | exact .refl _
 | 2, _ =>
  rw [hr0.2.2, hr1.2.2]
  clear hr0 hr1 hgx hgy hlx hly hiX hiY
  cases hm : cFind M (X', Y') with
  | some v =>
   repeat' (first|(with_reducible first|apply qA|apply qB|apply qC|apply qD|apply qE|apply qF)|(refine qL rfl (WF.of ?_) ?_; first|rfl|skip)|(refine DW.ord rfl (WF.of (by first|rfl|simp (disch:=omega) only [go_sem, simprocAttr, qN, qO, qP, qQ, hm, Option.isSome_some, rF, rG])) ?_ ?_ ?_; rotate_left)|rfl|(with_reducible refine And.intro ?_ ?_)|(simp (disch:=omega) only [go_sem, simprocAttr, qN, qO, qP, qQ, hm, Option.isSome_some, rF, rG])|exact qM rfl rfl rfl|(refine qG rfl ?_)|(refine qH rfl ?_)|(refine qI rfl ?_ ?_<;>intro hc<;>(try simp only [go_sem] at hc))|(refine qJ ?_ ?_<;>intro hc<;>(try simp only [hc])<;>(try simp only [go_sem] at hc)))
   exact retS_bs rfl rfl rfl (fun j x hj => by
    obtain ⟨rfl, rfl, hn⟩ := ctB_nb lm M hj
    exact ⟨rfl, hn⟩)
  | none =>
   generalize fitT a c X' Y' = ft at *
   obtain ⟨ft1, ft2⟩ := ft
   dsimp only at hsnd hfits ⊢
   rw [← hsnd]
   clear hsnd
   cases ft2 with
   | false =>
    rw [if_neg Bool.false_ne_true]
    dsimp only
    have hupd : updK (cK M) (cD M) (.agg #[.int .i64 X', .int .i64 Y']) (.agg [dI 0, dI (-1), dI 0]) = (cK (cUpd M (X', Y') ⟨0, none⟩), cD (cUpd M (X', Y') ⟨0, none⟩)) := upd_cK X' Y' M ⟨0, none⟩
    repeat' (first|(with_reducible first|apply qA|apply qB|apply qC|apply qD|apply qE|apply qF)|(refine qL rfl (WF.of ?_) ?_; first|rfl|skip)|(refine DW.ord rfl (WF.of (by first|rfl|simp (disch:=omega) only [go_sem, simprocAttr, qN, qO, qP, qQ, hm, Option.isSome_none, hupd, rF, rG])) ?_ ?_ ?_; rotate_left)|rfl|(with_reducible refine And.intro ?_ ?_)|(simp (disch:=omega) only [go_sem, simprocAttr, qN, qO, qP, qQ, hm, Option.isSome_none, hupd, rF, rG])|exact qM rfl rfl rfl|(refine qG rfl ?_)|(refine qK (hfits) (by decide) ?_)|(refine qH rfl ?_)|(refine qI rfl ?_ ?_<;>intro hc<;>(try simp only [go_sem] at hc))|(refine qJ ?_ ?_<;>intro hc<;>(try simp only [hc])<;>(try simp only [go_sem] at hc)))
    exact retS_bs rfl rfl rfl (fun j x hj => by
     obtain ⟨rfl, rfl, hn⟩ := ctB_nb lm _ hj
     exact ⟨rfl, hn⟩)
   | true =>
    rw [if_pos rfl]
    repeat' (first|(with_reducible first|apply qA|apply qB|apply qC|apply qD|apply qE|apply qF)|(refine qL rfl (WF.of ?_) ?_; first|rfl|skip)|(refine DW.ord rfl (WF.of (by first|rfl|simp (disch:=omega) only [go_sem, simprocAttr, qN, qO, qP, qQ, hm, Option.isSome_none, rF, rG])) ?_ ?_ ?_; rotate_left)|rfl|(with_reducible refine And.intro ?_ ?_)|(simp (disch:=omega) only [go_sem, simprocAttr, qN, qO, qP, qQ, hm, Option.isSome_none, rF, rG])|exact qM rfl rfl rfl|(refine qG rfl ?_)|(refine qK (hfits) (by decide) ?_)|(refine qK (hlines) (by decide) ?_)|(refine qH rfl ?_)|(refine qI rfl ?_ ?_<;>intro hc<;>(try simp only [go_sem] at hc))|(refine qJ ?_ ?_<;>intro hc<;>(try simp only [hc])<;>(try simp only [go_sem] at hc)))
    have htM : ∀ l ∈ lnsF a c X' Y', ∀ M1, MOk a c M1 → ((cutM a c f (oneF X' Y' l).1 (oneF X' Y' l).2 M1).1 = cutI a c (oneF X' Y' l).1 (oneF X' Y' l).2 ∧ MOk a c (cutM a c f (oneF X' Y' l).1 (oneF X' Y' l).2 M1).2) ∧ (cutM a c f (twoF X' Y' l).1 (twoF X' Y' l).2 (cutM a c f (oneF X' Y' l).1 (oneF X' Y' l).2 M1).2).1 = cutI a c (twoF X' Y' l).1 (twoF X' Y' l).2 ∧ MOk a c (cutM a c f (twoF X' Y' l).1 (twoF X' Y' l).2 (cutM a c f (oneF X' Y' l).1 (oneF X' Y' l).2 M1).2).2 := fun l hl M1 h1 => by
     have hle := hless l hl
     have e1 := cutM_ok a c f (oneF X' Y' l).1 (oneF X' Y' l).2 M1 (by omega) h1
     exact ⟨e1, cutM_ok a c f (twoF X' Y' l).1 (twoF X' Y' l).2 _ (by omega) e1.2⟩
    refine DW.ent (σ' := ⟨86, [(55, .fn (.func 126) [] [.c (.ro false [.v (.int .i64 X'), .v (.int .i64 Y')] 0), .c (.ro false [sawC p b RX RY lm] 0)]), (8, .box 8 0), (4, .box 4 0), (3, .box 3 0), (2, .box 2 0)], [ctB lm M, (8, .box [dI 1, dI (-1), dI 0]), (4, .box [dI 0, dI 0, dI 0]), (3, .box [dI X', dI Y']), (2, .box [sawD p b RX RY lm])]⟩) (Ent.to ?_ ?_) ?_
    ·simp (disch:=omega) only [qR,qS,qT,qU,get,Nat.reduceEqDiff,↓reduceIte,qV,qW,qX,qY,qZ,and_self,dI,i64_in,and_true,true_and,rA,rB,rC,rD]
    ·simp (disch:=omega) only [qR,qS,qT,qU,get,Nat.reduceEqDiff,↓reduceIte,qV,qW,qX,qY,qZ,and_self,dI,i64_in,and_true,true_and,rA,rB,rC,rD]
    refine DW.rngBS (fs := []) (caps := [.c (.ro false [.v (.int .i64 X'), .v (.int .i64 Y')] 0), .c (.ro false [sawC p b RX RY lm] 0)]) (fun y : Cut × CMemo => [ctB lm y.2, (8, .box [dI y.1.n, dI (lnS y.1.ln), dI (lnA y.1.ln)]), (4, .box [dI 0, dI 0, dI 0]), (3, .box [dI X', dI Y']), (2, .box [sawD p b RX RY lm])]) (⟨1, none⟩, M) (stS a c f X' Y') enL (fun l => l ∈ lnsF a c X' Y') (lnsF a c X' Y') hit (fun _ y => MOk a c y.2) hMO (fun y l t hy hl _ => (htM l hl y.2 hy).2.2) rfl (fun _ => ⟨rfl, rfl⟩) rfl (by decide) (fun _ _ => rfl) (fun _ _ _ => rfl) (by simp only [List.map_cons, List.map_nil]; decide) (fun _ => rfl) (fun y => by show (_ && (D.keysIns _ (cD y.2) && _)) = true; rw [cD_keys]; rfl) (fun y => by show (D.nbs (cD y.2) && _) = true; rw [cD_nb, Bool.true_and]; exact (by simp only [List.all_cons, List.all_nil, Blk.nb, rowC_nb, D.nb, D.nbs, C.nb, C.nbs, C.nbss, rows_nb eI_nb, Bool.and_true, Bool.not_false, Bool.and_self, bD, dI, iD])) (by simp only [List.all_cons, List.all_nil, Blk.nb, rowC_nb, D.nb, D.nbs, C.nb, C.nbs, C.nbss, rows_nb eI_nb, Bool.and_true, Bool.not_false, Bool.and_self, bD, dI, iD]) (fun _ _ => rfl) ?_ ?_
    ·rintro ⟨y, M1⟩ l t hM1 hl v
     dsimp only at hM1
     obtain ⟨⟨e1, hM2⟩, e2, hM3⟩ := htM l hl M1 hM1
     have hle := hless l hl
     obtain ⟨hl1, hl2, hl3⟩ := hone l hl
     have hparts := plLnParts X' Y' l (by omega) (by omega) hl3
     have h1 := ih (oneF X' Y' l).1 (oneF X' Y' l).2 M1 hM1 (by omega) (by omega) (by omega)
     have h2 := ih (twoF X' Y' l).1 (twoF X' Y' l).2 _ hM2 (by omega) (by omega) (by omega)
     have b1 := mst_xy ha hc (x := (oneF X' Y' l).1) (y := (oneF X' Y' l).2) (by omega) (by omega)
     have b2 := mst_xy ha hc (x := (twoF X' Y' l).1) (y := (twoF X' Y' l).2) (by omega) (by omega)
     rw [mst] at b1 b2
     have hS : stS a c f X' Y' (y, M1) l = (none, (if y.n < (cutI a c (oneF X' Y' l).1 (oneF X' Y' l).2).n + (cutI a c (twoF X' Y' l).1 (twoF X' Y' l).2).n then ⟨(cutI a c (oneF X' Y' l).1 (oneF X' Y' l).2).n + (cutI a c (twoF X' Y' l).1 (twoF X' Y' l).2).n, some l⟩ else y, (cutM a c f (twoF X' Y' l).1 (twoF X' Y' l).2 (cutM a c f (oneF X' Y' l).1 (oneF X' Y' l).2 M1).2).2)) := by
      unfold stS stepM
      dsimp only
      rw [e1, e2]
     rw [hS]
     clear hS e1 e2 htM hone hless hit ih
     generalize (cutM a c f (twoF X' Y' l).1 (twoF X' Y' l).2 (cutM a c f (oneF X' Y' l).1 (oneF X' Y' l).2 M1).2).2 = M3 at *
     generalize (cutM a c f (oneF X' Y' l).1 (oneF X' Y' l).2 M1).2 = M2 at *
     generalize cutI a c (oneF X' Y' l).1 (oneF X' Y' l).2 = C1 at *
     generalize cutI a c (twoF X' Y' l).1 (twoF X' Y' l).2 = C2 at *
     generalize (oneF X' Y' l).1 = o1 at *
     generalize (oneF X' Y' l).2 = o2 at *
     generalize (twoF X' Y' l).1 = q1 at *
     generalize (twoF X' Y' l).2 = q2 at *
     simp (disch:=omega) only [go_sem,simprocAttr,qN,qO,qP,qQ,rF,rG,enL]
     by_cases hlt : y.n < C1.n + C2.n
     ·have hd : decide ((y.n : Int) < (C1.n : Int) + (C2.n : Int)) = true := decide_eq_true (by omega)
      rw [if_pos hlt]
      repeat' (first|(with_reducible first|apply qA|apply qB|apply qC|apply qD|apply qE|apply qF)|(refine qL rfl (WF.of ?_) ?_; first|rfl|skip)|(refine DW.ord rfl (WF.of (by first|rfl|simp (disch:=omega) only [go_sem, simprocAttr, qN, qO, qP, qQ, rF, rG, del, cD_keys, hd, Bool.and_self, Bool.and_true, Bool.true_and])) ?_ ?_ ?_; rotate_left)|rfl|(with_reducible refine And.intro ?_ ?_)|(simp (disch:=omega) only [go_sem, simprocAttr, qN, qO, qP, qQ, rF, rG, del, cD_keys, hd, Bool.and_self, Bool.and_true, Bool.true_and])|exact qM rfl rfl rfl|(refine qG rfl ?_)|(refine qK (hparts) (by decide) ?_)|(refine call_hk 7 (h1) rfl rfl rfl (by simp (disch:=omega) only [go_sem, simprocAttr, qN, qO, qP, qQ, del]) (by decide) ?_)|(refine call_hk 7 (h2) rfl rfl rfl (by simp (disch:=omega) only [go_sem, simprocAttr, qN, qO, qP, qQ, del]) (by decide) ?_)|(refine qH rfl ?_)|(refine qI rfl ?_ ?_<;>intro hc<;>(try simp only [go_sem] at hc))|(refine qJ ?_ ?_<;>intro hc<;>(try simp only [hc])<;>(try simp only [go_sem] at hc)))
      refine round_end rfl rfl (Ent.to ?_ ?_) <;> simp (disch:=omega) only [qR,qS,qT,qU,get,Nat.reduceEqDiff,↓reduceIte,qV,qW,qX,qY,qZ,and_self,dI,i64_in,and_true,true_and,rA,rB,rC,rD,capB,List.cons_append,List.nil_append,lnS,lnA,rA]
      all_goals first | exact ⟨.refl _, .refl _, .refl _⟩ | exact ⟨.refl _, .refl _⟩ | exact .refl _
     ·have hd : decide ((y.n : Int) < (C1.n : Int) + (C2.n : Int)) = false := decide_eq_false (by omega)
      rw [if_neg hlt]
      repeat' (first|(with_reducible first|apply qA|apply qB|apply qC|apply qD|apply qE|apply qF)|(refine qL rfl (WF.of ?_) ?_; first|rfl|skip)|(refine DW.ord rfl (WF.of (by first|rfl|simp (disch:=omega) only [go_sem, simprocAttr, qN, qO, qP, qQ, rF, rG, del, cD_keys, hd, Bool.and_self, Bool.and_true, Bool.true_and])) ?_ ?_ ?_; rotate_left)|rfl|(with_reducible refine And.intro ?_ ?_)|(simp (disch:=omega) only [go_sem, simprocAttr, qN, qO, qP, qQ, rF, rG, del, cD_keys, hd, Bool.and_self, Bool.and_true, Bool.true_and])|exact qM rfl rfl rfl|(refine qG rfl ?_)|(refine qK (hparts) (by decide) ?_)|(refine call_hk 7 (h1) rfl rfl rfl (by simp (disch:=omega) only [go_sem, simprocAttr, qN, qO, qP, qQ, del]) (by decide) ?_)|(refine call_hk 7 (h2) rfl rfl rfl (by simp (disch:=omega) only [go_sem, simprocAttr, qN, qO, qP, qQ, del]) (by decide) ?_)|(refine qH rfl ?_)|(refine qI rfl ?_ ?_<;>intro hc<;>(try simp only [go_sem] at hc))|(refine qJ ?_ ?_<;>intro hc<;>(try simp only [hc])<;>(try simp only [go_sem] at hc)))
      refine round_end rfl rfl (Ent.to ?_ ?_) <;> simp (disch:=omega) only [qR,qS,qT,qU,get,Nat.reduceEqDiff,↓reduceIte,qV,qW,qX,qY,qZ,and_self,dI,i64_in,and_true,true_and,rA,rB,rC,rD,capB,List.cons_append,List.nil_append]
    ·rw [st_run]
     generalize (lnsF a c X' Y').foldl (stepM (cutM a c f) X' Y') (⟨1, none⟩, M) = R at *
     obtain ⟨v, M3⟩ := R
     dsimp only
     simp (disch:=omega) only [go_sem,simprocAttr,qN,qO,qP,qQ,Option.getD_none]
     have hupd := upd_cK X' Y' M3 v
     repeat' (first|(with_reducible first|apply qA|apply qB|apply qC|apply qD|apply qE|apply qF)|(refine qL rfl (WF.of ?_) ?_; first|rfl|skip)|(refine DW.ord rfl (WF.of (by first|rfl|simp (disch:=omega) only [go_sem, simprocAttr, qN, qO, qP, qQ, hupd, rF, rG])) ?_ ?_ ?_; rotate_left)|rfl|(with_reducible refine And.intro ?_ ?_)|(simp (disch:=omega) only [go_sem, simprocAttr, qN, qO, qP, qQ, hupd, rF, rG])|exact qM rfl rfl rfl|(refine qG rfl ?_)|(refine qH rfl ?_)|(refine qI rfl ?_ ?_<;>intro hc<;>(try simp only [go_sem] at hc))|(refine qJ ?_ ?_<;>intro hc<;>(try simp only [hc])<;>(try simp only [go_sem] at hc)))
     exact retS_bs rfl rfl rfl (fun j x hj => by
      obtain ⟨rfl, rfl, hn⟩ := ctB_nb lm _ hj
      exact ⟨rfl, hn⟩)
theorem plCut (p : PBs) (b : PBx) (hb : b.ok) (RX RY : List Int) (nx ny : Nat) (hrx : Rch (bLg b) (bWd b) RX nx) (hry : Rch (bLg b) (bWd b) RY ny) (hnx : nx ≤ 140) (hny : ny ≤ 140) (lm : Nat) : ∀ f, CutC p b RX RY nx ny lm f
 | 0 => fun _ _ _ _ _ _ h => by omega
 | f + 1 => plCut1 p b hb RX RY nx ny hrx hry hnx hny lm f (plCut p b hb RX RY nx ny hrx hry hnx hny lm f)
end Go.Dw.Seat
end
section
set_option linter.unusedSimpArgs false
set_option maxRecDepth 100000
namespace Go.Dw.Seat
open Go Go.Dw Go.Proofs Go.IntWalk
abbrev sawCL (lab : Bool) (p : PBs) (b : PBx) (RX RY : List Int) (lm : Nat) : D := .c (.ro lab [.v (.int .i64 p.lg), .v (.int .i64 p.wd), .v (.int .i64 p.hi), .v (.int .i64 p.ov), .v (.int .i64 p.top), .v (.int .i64 p.load), .v (.int .i64 b.lg), .v (.int .i64 b.wd), .v (.int .i64 b.hi), .v (.int .i64 b.wl), .v (.int .i64 b.wh), .v (.int .i64 b.sl), .v (.int .i64 b.sh), .sl false 1 (rows eI RX), .sl false 1 (rows eI RY), .v (.map (some lm))] 0)
attribute [go_sem] sawCL
theorem cD_pl (M : CMemo) : D.pls (cD M) = true := by
 induction M with
 | nil => rfl
 | cons p m ih => simp only [cD, List.map_cons, D.pls, Bool.and_eq_true]; exact ⟨rfl, ih⟩
theorem pinDs_cD (k p : Nat) (M : CMemo) : pinDs k p (cD M) = cD M := by
 induction M with
 | nil => rfl
 | cons q m ih => simp only [cD, List.map_cons, pinDs] at ih ⊢; rw [ih]; rfl
attribute [go_sem] pinDs_cD
theorem plCutL (lab : Bool) (p : PBs) (b : PBx) (hb : b.ok) (RX RY : List Int) (nx ny : Nat) (hrx : Rch (bLg b) (bWd b) RX nx) (hry : Rch (bLg b) (bWd b) RY ny) (hnx : nx ≤ 140) (hny : ny ≤ 140) (lm X Y : Nat) (hX : X ≤ nx) (hY : Y ≤ ny) (M : CMemo) (hM : MOk (bLg b) (bWd b) M) :
  DCall Try.prog 65 [sawCL lab p b RX RY lm, rctD X Y] [ctB lm M] (cutV (cutI (bLg b) (bWd b) X Y)) [ctB lm (cutM (bLg b) (bWd b) (X + Y + 1) X Y M).2] :=
 DCall.lblM (plCut p b hb RX RY nx ny hrx hry hnx hny lm (X + Y + 1) X Y M hM hX hY (by omega)) rfl (cD_pl _) (cD_pl _) (.ro (.same .nil))
def mostX (p : PBs) (b : PBx) : Int := if chkE p b = 0 then ((mst (bLg b) (bWd b) (rxN p) (ryN p) : Nat) : Int) else 0
set_option maxHeartbeats 4000000 in
theorem plMost (p : PBs) (b : PBx) : DCall Try.prog 16 [bsD p, bxD b] [] (.tup [dI (mostX p b), dI (chkE p b)]) [] := by
 have h0 := plCheck p b
 unfold mostX
 by_cases hc : chkE p b = 0
 ·obtain ⟨hp, hb⟩ := chk_ok.1 hc
  rw [if_pos hc]
  rw [hc] at h0 ⊢
  have hr := plRoom p b hp
  obtain ⟨hx, hy⟩ := rm_in hp
  have hX : rmX p = ((rxN p : Nat) : Int) := (Int.toNat_of_nonneg hx.1).symm
  have hY : rmY p = ((ryN p : Nat) : Int) := (Int.toNat_of_nonneg hy.1).symm
  have hnX : rxN p ≤ 140 := by show (rmX p).toNat ≤ 140; omega
  have hnY : ryN p ≤ 140 := by show (rmY p).toNat ≤ 140; omega
  rw [hX, hY] at hr
  have hsaw := plNewSaw p b hp hb
  have hcut := fun lm => plCutL true p b hb _ _ _ _ (rcL_ok (bLg b) (bWd b) (rxN p)) (rcL_ok (bLg b) (bWd b) (ryN p)) hnX hnY lm (rxN p) (ryN p) (Nat.le_refl _) (Nat.le_refl _) [] (mok_nil _ _)
  rw [mst]
  generalize rcL (bLg b) (bWd b) (rxN p) = L1 at *
  generalize rcL (bLg b) (bWd b) (ryN p) = L2 at *
  generalize (cutM (bLg b) (bWd b) (rxN p + ryN p + 1) (rxN p) (ryN p) []).2 = M1 at *
  generalize cutI (bLg b) (bWd b) (rxN p) (ryN p) = C at *
  generalize rxN p = nx at *
  generalize ryN p = ny at *
  have hcut' : ∀ lm, DCall Try.prog 65 [sawCL true p b L1 L2 lm, rctD nx ny] [(7, pinO lm (pinB 7 lm (.map [] [])))] (pinD 7 lm (cutV C)) [(7, pinO lm (pinB 7 lm (.map (cK M1) (cD M1))))] := fun lm => by
   have h := hcut lm
   show DCall Try.prog 65 _ _ _ [(7, .pmap lm (cK M1) (pinDs 7 lm (cD M1)))]
   rw [pinDs_cD]
   exact h
  refine DCall.of Try.func16 sf16 hb16 (Nat.le_of_ble_eq_true rfl) (okRes_nil fun _ => rfl) ?_; simp only [s16, o16_0, o16_1, o16_2, o16_3, o16_4, o16_5, idxs, Nat.reduceAdd]
  repeat' (first|(with_reducible first|apply qA|apply qB|apply qC|apply qD|apply qE|apply qF)|(simp (disch:=omega) only [go_sem, simprocAttr, qN, qO, qP, qQ])|exact qM rfl rfl rfl|(refine qG rfl ?_)|(refine qK (h0) (by decide) ?_)|(refine qH rfl ?_)|(refine qI rfl ?_ ?_<;>intro hc<;>(try simp only [go_sem] at hc))|(refine qJ ?_ ?_<;>intro hc<;>(try simp only [hc])<;>(try simp only [go_sem] at hc)))
  refine DW.ent (Ent.swk 7 47) ?_
  simp (disch:=omega) only [go_sem,simprocAttr,qN,qO,qP,qQ,swT,swX,swD,swDs,swB,swk]
  repeat' (first|(with_reducible first|apply qA|apply qB|apply qC|apply qD|apply qE|apply qF)|(refine DW.ord rfl (WF.of (by first|rfl|simp (disch:=omega) only [go_sem, simprocAttr, qN, qO, qP, qQ, del])) ?_ ?_ ?_; rotate_left)|rfl|(with_reducible refine And.intro ?_ ?_)|(simp (disch:=omega) only [go_sem, simprocAttr, qN, qO, qP, qQ, del])|exact qM rfl rfl rfl|(refine qG rfl ?_)|(refine call_b (hsaw) ⟨⟨trivial, rfl, rfl, rfl⟩, rfl, rfl, rfl⟩ (by decide) ?_; simp only [St.addBs, St.putB, St.putO, St.put])|(refine qK (hr) (by decide) ?_)|(refine call_hp1 7 (fun lm => hcut' lm) rfl rfl rfl (fun _ => rfl) (fun _ => rfl) (fun _ => by simp (disch:=omega) only [go_sem, simprocAttr, qN, qO, qP, qQ, del, pinT, pinX, pinD, pinDs, pinB, pinO, Nat.reduceEqDiff, if_false, if_true]) (by decide) ?_)|(refine qH rfl ?_)|(refine qI rfl ?_ ?_<;>intro hc<;>(try simp only [go_sem] at hc))|(refine qJ ?_ ?_<;>intro hc<;>(try simp only [hc])<;>(try simp only [go_sem] at hc)))
  skip
 ·have h2 := chk_two hc
  rw [if_neg hc]
  rw [h2] at h0 ⊢
  refine DCall.of Try.func16 sf16 hb16 (Nat.le_of_ble_eq_true rfl) (okRes_nil fun _ => rfl) ?_; simp only [s16, o16_0, o16_1, o16_2, o16_3, o16_4, o16_5, idxs, Nat.reduceAdd]
  repeat' (first|(with_reducible first|apply qA|apply qB|apply qC|apply qD|apply qE|apply qF)|(refine DW.ord rfl (WF.of (by first|rfl|simp (disch:=omega) only [go_sem, simprocAttr, qN, qO, qP, qQ])) ?_ ?_ ?_; rotate_left)|rfl|(with_reducible refine And.intro ?_ ?_)|(simp (disch:=omega) only [go_sem, simprocAttr, qN, qO, qP, qQ])|exact qM rfl rfl rfl|(refine qG rfl ?_)|(refine qK (h0) (by decide) ?_)|(refine qH rfl ?_)|(refine qI rfl ?_ ?_<;>intro hc<;>(try simp only [go_sem] at hc))|(refine qJ ?_ ?_<;>intro hc<;>(try simp only [hc])<;>(try simp only [go_sem] at hc)))
end Go.Dw.Seat
end
section
set_option linter.unusedSimpArgs false
set_option maxRecDepth 100000
namespace Go.Dw.Seat
open Go Go.Dw Go.Proofs Go.IntWalk
theorem retS_ent [Lays] {P : Program} {res : List ResultVar} {r : D} {bo : List (Nat × Blk)} {σ σ' : St} (he : Ent σ σ') (h : retS P res r bo .ret σ') : retS P res r bo .ret σ := by
 obtain ⟨h0, σ2, ds, h1, h2⟩ := h
 exact ⟨h0, σ2, ds, fun N O0 w0 a w hi => h1 _ _ _ _ _ (he _ _ _ _ _ hi), h2⟩
abbrev mpB (lm : Nat) (M : CMemo) : Nat × Blk := (47, .pmap lm (cK M) (cD M))
abbrev rwB (l : List PPl) : Nat × Blk := (77, .row 3 (rowC (rows eP l)))
attribute [go_sem] mpB rwB
theorem mpB_ok (lm : Nat) (M : CMemo) (l : List PPl) : okRes (.own 77) [mpB lm M, rwB l] := by
 have hg : ∀ j, get j [mpB lm M, rwB l] = none → j ≠ 47 ∧ j ≠ 77 := fun j hj => by
  constructor <;> (rintro rfl; cases hj)
 refine ⟨fun j hj => ?_, fun i x hi j hj => ?_⟩
 ·obtain ⟨h1, h2⟩ := hg j hj
  simp only [D.men, beq_eq_false_iff_ne]
  omega
 ·have := get_mem hi
  simp only [List.mem_cons, Prod.mk.injEq, List.not_mem_nil, or_false] at this
  rcases this with ⟨_, rfl⟩ | ⟨_, rfl⟩
  ·exact cD_men j M
  ·exact rowC_men j 3 _
theorem mpB_get (lm : Nat) (M : CMemo) (l : List PPl) {j : Nat} {x : Blk} {σ : St} (h1 : get 47 σ.bx = some (.pmap lm (cK M) (cD M))) (h2 : get 77 σ.bx = some (.row 3 (rowC (rows eP l)))) (hj : get j [mpB lm M, rwB l] = some x) : get j σ.bx = some x ∧ x.nb = true := by
 have := get_mem hj
 simp only [List.mem_cons, Prod.mk.injEq, List.not_mem_nil, or_false] at this
 rcases this with ⟨rfl, rfl⟩ | ⟨rfl, rfl⟩
 ·exact ⟨h1, cD_nb M⟩
 ·exact ⟨h2, rowC_nb (n := 3) (rows_nb eP_nb l)⟩
theorem fitsL (lab : Bool) (p : PBs) (b : PBx) (hb : b.ok) (RX RY : List Int) (lm X Y : Nat) : DCall Try.prog 97 [sawCL lab p b RX RY lm, rctD X Y] [] (.tup [bD (fitT (bLg b) (bWd b) X Y).1, bD (fitT (bLg b) (bWd b) X Y).2]) [] :=
 DCall.lbl (plFits p b hb RX RY lm X Y) rfl (.ro (.same .nil))
theorem swDs_cD (i j : Nat) (M : CMemo) : swDs i j (cD M) = cD M := by
 induction M with
 | nil => rfl
 | cons q m ih => simp only [cD, List.map_cons, swDs] at ih ⊢; rw [ih]; rfl
theorem cutK (lab : Bool) (p : PBs) (b : PBx) (hb : b.ok) (RX RY : List Int) (nx ny : Nat) (hrx : Rch (bLg b) (bWd b) RX nx) (hry : Rch (bLg b) (bWd b) RY ny) (hnx : nx ≤ 140) (hny : ny ≤ 140) (X Y : Nat) (hX : X ≤ nx) (hY : Y ≤ ny) (M : CMemo) (hM : MOk (bLg b) (bWd b) M) :
  ∃ M', MOk (bLg b) (bWd b) M' ∧ ∀ lm, DCall Try.prog 65 [sawCL lab p b RX RY lm, rctD X Y] [mpB lm M] (cutV (cutI (bLg b) (bWd b) X Y)) [mpB lm M'] :=
 ⟨_, (cutM_ok (bLg b) (bWd b) (X + Y + 1) X Y M (by omega) hM).2, fun lm => DCall.renK (k0 := 7) (plCutL lab p b hb RX RY nx ny hrx hry hnx hny lm X Y hX hY M hM) rfl rfl (cD_pl _) (cD_pl _)⟩
def LayC (lab : Bool) (p : PBs) (b : PBx) (RX RY : List Int) (nx ny f : Nat) : Prop := ∀ fx fy x y M, MOk (bLg b) (bWd b) M → x ≤ nx → y ≤ ny → fx + x ≤ 140 → fy + y ≤ 140 → x + y < f →
 ∃ M', MOk (bLg b) (bWd b) M' ∧ ∀ lm, DCall Try.prog 66 [sawCL lab p b RX RY lm, rctD fx fy, rctD x y] [mpB lm M] (.own 77) [mpB lm M', rwB (layF (bLg b) (bWd b) f fx fy x y)]
theorem layCl {lm : Nat} {ar : List D} {M M' : CMemo} {l : List PPl} (h : DCall Try.prog 66 ar [mpB lm M] (.own 77) [mpB lm M', rwB l]) : DCall Try.prog 66 ar [mpB lm M] (.c (.sl false 3 (rows eP l))) [mpB lm M'] := by
 have e : relD 77 (.row 3 (rowC (rows eP l))) (.own 77) = .c (.sl false 3 (rows eP l)) := by
  simp (disch:=omega) only [go_sem,simprocAttr,qN,qO,qP,qQ,relD]
 have := DCall.relM (show (47 : Nat) ≠ 77 by decide) (cD_pl M') (by rw [e]; exact ⟨fun _ _ => rfl, fun j x hj k _ => by
  simp only [get] at hj
  split at hj
  ·cases hj; exact cD_men k M'
  ·cases hj⟩) h
 rwa [e] at this
set_option maxHeartbeats 8000000 in
theorem plLay1 (lab : Bool) (p : PBs) (b : PBx) (hb : b.ok) (RX RY : List Int) (nx ny : Nat) (hrx : Rch (bLg b) (bWd b) RX nx) (hry : Rch (bLg b) (bWd b) RY ny) (hnx : nx ≤ 140) (hny : ny ≤ 140) (f : Nat) (ih : LayC lab p b RX RY nx ny f) : LayC lab p b RX RY nx ny (f + 1) := by
 intro fx fy X Y M hMO hX hY hfx hfy hf
 have hbl := hb.lg
 have hbw := hb.wd
 have hbE : b.lg = ((bLg b : Nat) : Int) := (Int.toNat_of_nonneg (by omega)).symm
 have hbF : b.wd = ((bWd b : Nat) : Int) := (Int.toNat_of_nonneg (by omega)).symm
 have hc : 0 < bWd b := by omega
 have ha : 0 < bLg b := by have := hb.lg; show 0 < b.lg.toNat; omega
 obtain ⟨M1, hM1, hcut⟩ := cutK lab p b hb RX RY nx ny hrx hry hnx hny X Y hX hY M hMO
 rw [layF]
 cases cut_ok (bLg b) (bWd b) X Y with
 | no h0 e =>
  rw [e] at hcut ⊢
  rw [if_pos rfl]
  refine ⟨M1, hM1, fun lm => ?_⟩
  have hcut := hcut lm
  have hcut : DCall Try.prog 65 [sawCL lab p b RX RY lm, rctD X Y] [mpB lm M] (.agg [dI 0, dI (-1), dI 0]) [mpB lm M1] := hcut
  refine DCall.of Try.func66 sf66 hb66 (Nat.le_of_ble_eq_true rfl) (mpB_ok _ _ _) ?_
  simp only [s66, o66_0, o66_1, o66_2, o66_3, o66_4, o66_5, o66_6, o66_7, idxs, Nat.reduceAdd]
  repeat' (first|(with_reducible first|apply qA|apply qB|apply qC|apply qD|apply qE|apply qF)|(refine qL rfl (WF.of ?_) ?_; first|rfl|skip)|(refine DW.ord rfl (WF.of (by first|rfl|simp (disch:=omega) only [go_sem, simprocAttr, qN, qO, qP, qQ, del, rF, rG])) ?_ ?_ ?_; rotate_left)|rfl|(with_reducible refine And.intro ?_ ?_)|(simp (disch:=omega) only [go_sem, simprocAttr, qN, qO, qP, qQ, del, rF, rG])|exact qM rfl rfl rfl|(refine qG rfl ?_)|(refine call_hk 47 (hcut) rfl rfl rfl (by simp (disch:=omega) only [go_sem, simprocAttr, qN, qO, qP, qQ, del]) (by decide) ?_)|(refine qH rfl ?_)|(refine qI rfl ?_ ?_<;>intro hc<;>(try simp only [go_sem] at hc))|(refine qJ ?_ ?_<;>intro hc<;>(try simp only [hc])<;>(try simp only [go_sem] at hc)))
  refine retS_ent (Ent.adopt 6 77 3 rfl rfl (by simp (disch:=omega) only [go_sem,simprocAttr,qN,qO,qP,qQ,menS])) ?_
  exact retS_bs rfl rfl rfl (fun j x hj => mpB_get lm M1 [] rfl rfl hj)
 | one h0 e =>
  rw [e] at hcut ⊢
  rw [if_neg (by decide)]
  dsimp only
  refine ⟨M1, hM1, fun lm => ?_⟩
  have hcut := hcut lm
  have hcut : DCall Try.prog 65 [sawCL lab p b RX RY lm, rctD X Y] [mpB lm M] (.agg [dI 1, dI (-1), dI 0]) [mpB lm M1] := hcut
  have hfits := fitsL lab p b hb RX RY lm X Y
  have hft : fitT (bLg b) (bWd b) X Y = (!(decide (bLg b ≤ X) && decide (bWd b ≤ Y)), true) := by
   rw [fit_rch ha] at h0
   unfold fitT
   unfold fitB at h0
   by_cases h1 : bLg b ≤ X ∧ bWd b ≤ Y
   ·rw [if_pos h1, decide_eq_true h1.1, decide_eq_true h1.2]; rfl
   ·rw [if_neg h1]
    have h3 : (decide (bLg b ≤ X) && decide (bWd b ≤ Y)) = false := by
     rw [Bool.and_eq_false_iff, decide_eq_false_iff_not, decide_eq_false_iff_not]; omega
    rw [h3, Bool.false_or, Bool.and_eq_true, decide_eq_true_eq, decide_eq_true_eq] at h0
    rw [if_pos h0, h3]; rfl
  rw [hft] at hfits
  generalize (!(decide (bLg b ≤ X) && decide (bWd b ≤ Y))) = tn at *
  refine DCall.of Try.func66 sf66 hb66 (Nat.le_of_ble_eq_true rfl) (mpB_ok _ _ _) ?_
  simp only [s66, o66_0, o66_1, o66_2, o66_3, o66_4, o66_5, o66_6, o66_7, idxs, Nat.reduceAdd]
  repeat' (first|(with_reducible first|apply qA|apply qB|apply qC|apply qD|apply qE|apply qF)|(refine qL rfl (WF.of ?_) ?_; first|rfl|skip)|(refine DW.ord rfl (WF.of (by first|rfl|simp (disch:=omega) only [go_sem, simprocAttr, qN, qO, qP, qQ, del, rF, rG])) ?_ ?_ ?_; rotate_left)|rfl|(with_reducible refine And.intro ?_ ?_)|(simp (disch:=omega) only [go_sem, simprocAttr, qN, qO, qP, qQ, del, rF, rG])|exact qM rfl rfl rfl|(refine qG rfl ?_)|(refine call_hk 47 (hcut) rfl rfl rfl (by simp (disch:=omega) only [go_sem, simprocAttr, qN, qO, qP, qQ, del]) (by decide) ?_)|(refine qK (hfits) (by decide) ?_)|(refine qH rfl ?_)|(refine qI rfl ?_ ?_<;>intro hc<;>(try simp only [go_sem] at hc))|(refine qJ ?_ ?_<;>intro hc<;>(try simp only [hc])<;>(try simp only [go_sem] at hc)))
  refine retS_ent (Ent.swk 38 77) ?_
  simp (disch:=omega) only [go_sem,simprocAttr,qN,qO,qP,qQ,swT,swX,swD,swDs,swB,swk,swDs_cD]
  exact retS_bs rfl rfl rfl (fun j x hj => mpB_get lm M1 [⟨fx, fy, tn⟩] rfl rfl hj)
 | two l h0 hln hl h1 e2 =>
  have hn : ¬ (cutI (bLg b) (bWd b) X Y).n = 0 := by
   have : 1 ≤ (cutI (bLg b) (bWd b) X Y).n := h1
   omega
  rw [if_neg hn, hln]
  dsimp only
  have hl1 := rch_le (bLg b) (bWd b) X
  have hl2 := rch_le (bLg b) (bWd b) Y
  have hgx := hrx.get X hX
  have hgy := hry.get Y hY
  have hlx := hrx.len
  have hly := hry.len
  have hiX : (X < nx + 1) = True := eq_true (by omega)
  have hiY : (Y < ny + 1) = True := eq_true (by omega)
  have hls := ln_less hl
  obtain ⟨ho, ht, hh⟩ := one_le (lns_mem.2 hl)
  have hparts := plLnParts (rchF (bLg b) (bWd b) X) (rchF (bLg b) (bWd b) Y) l (by omega) (by omega) hh
  obtain ⟨M2, hM2, hlay1⟩ := ih fx fy (oneF (rchF (bLg b) (bWd b) X) (rchF (bLg b) (bWd b) Y) l).1 (oneF (rchF (bLg b) (bWd b) X) (rchF (bLg b) (bWd b) Y) l).2 M1 hM1 (by omega) (by omega) (by omega) (by omega) (by omega)
  have hft : fx + (if l.1 then 0 else l.2) + (twoF (rchF (bLg b) (bWd b) X) (rchF (bLg b) (bWd b) Y) l).1 ≤ 140 ∧ fy + (if l.1 then l.2 else 0) + (twoF (rchF (bLg b) (bWd b) X) (rchF (bLg b) (bWd b) Y) l).2 ≤ 140 := by
   obtain ⟨s, v⟩ := l
   cases s <;> simp [twoF] at hh ht ⊢ <;> omega
  obtain ⟨M3, hM3, hlay2⟩ := ih (fx + if l.1 then 0 else l.2) (fy + if l.1 then l.2 else 0) (twoF (rchF (bLg b) (bWd b) X) (rchF (bLg b) (bWd b) Y) l).1 (twoF (rchF (bLg b) (bWd b) X) (rchF (bLg b) (bWd b) Y) l).2 M2 hM2 (by omega) (by omega) hft.1 hft.2 (by omega)
  refine ⟨M3, hM3, fun lm => ?_⟩
  have hcut := hcut lm
  have hlay1 := hlay1 lm
  have hlay2 := layCl (hlay2 lm)
  have hlS : lnS (cutI (bLg b) (bWd b) X Y).ln = sdI l.1 := by rw [hln]; rfl
  have hlA : lnA (cutI (bLg b) (bWd b) X Y).ln = l.2 := by rw [hln]; rfl
  rw [cutV, hlS, hlA] at hcut
  have hz : (((cutI (bLg b) (bWd b) X Y).n : Int) == 0) = false := by rw [beq_eq_false_iff_ne]; omega
  generalize (cutI (bLg b) (bWd b) X Y).n = cn at *
  clear hln hlS hlA h1 e2 ih h0
  have hsm1 : (layF (bLg b) (bWd b) f fx fy (oneF (rchF (bLg b) (bWd b) X) (rchF (bLg b) (bWd b) Y) l).1 (oneF (rchF (bLg b) (bWd b) X) (rchF (bLg b) (bWd b) Y) l).2).length ≤ 19600 := by
   rw [(lay_ok ha hbE hbF f fx fy _ _ (by omega)).1]
   exact mst_xy ha hc (by omega) (by omega)
  have hsm2 : (layF (bLg b) (bWd b) f (fx + if l.1 then 0 else l.2) (fy + if l.1 then l.2 else 0) (twoF (rchF (bLg b) (bWd b) X) (rchF (bLg b) (bWd b) Y) l).1 (twoF (rchF (bLg b) (bWd b) X) (rchF (bLg b) (bWd b) Y) l).2).length ≤ 19600 := by
   rw [(lay_ok ha hbE hbF f _ _ _ _ (by omega)).1]
   exact mst_xy ha hc (by omega) (by omega)
  clear hls ho ht
  generalize layF (bLg b) (bWd b) f fx fy (oneF (rchF (bLg b) (bWd b) X) (rchF (bLg b) (bWd b) Y) l).1 (oneF (rchF (bLg b) (bWd b) X) (rchF (bLg b) (bWd b) Y) l).2 = L1 at *
  generalize layF (bLg b) (bWd b) f (fx + if l.1 then 0 else l.2) (fy + if l.1 then l.2 else 0) (twoF (rchF (bLg b) (bWd b) X) (rchF (bLg b) (bWd b) Y) l).1 (twoF (rchF (bLg b) (bWd b) X) (rchF (bLg b) (bWd b) Y) l).2 = L2 at *
  generalize (oneF (rchF (bLg b) (bWd b) X) (rchF (bLg b) (bWd b) Y) l).1 = o1 at *
  generalize (oneF (rchF (bLg b) (bWd b) X) (rchF (bLg b) (bWd b) Y) l).2 = o2 at *
  generalize (twoF (rchF (bLg b) (bWd b) X) (rchF (bLg b) (bWd b) Y) l).1 = q1 at *
  generalize (twoF (rchF (bLg b) (bWd b) X) (rchF (bLg b) (bWd b) Y) l).2 = q2 at *
  generalize rchF (bLg b) (bWd b) X = X' at *
  generalize rchF (bLg b) (bWd b) Y = Y' at *
  refine DCall.of Try.func66 sf66 hb66 (Nat.le_of_ble_eq_true rfl) (mpB_ok _ _ _) ?_
  simp only [s66, o66_0, o66_1, o66_2, o66_3, o66_4, o66_5, o66_6, o66_7, idxs, Nat.reduceAdd]
  obtain ⟨s, v⟩ := l
  dsimp only at *
  have hv : v ≤ 140 := by cases s <;> simp at hh <;> omega
  clear hh hl
  have hsml : small (L1.length + L2.length) 24 = True := small_true ⟨by omega, by decide⟩
  have hsm : (((sdI s) : Int) == -1) = false := by cases s <;> rfl
  repeat' (first|(with_reducible first|apply qA|apply qB|apply qC|apply qD|apply qE|apply qF)|(refine qL rfl (WF.of ?_) ?_; first|rfl|skip)|(refine DW.ord rfl (WF.of (by first|rfl|simp (disch:=omega) only [go_sem, simprocAttr, qN, qO, qP, qQ, del, rF, rG, hz, hsm])) ?_ ?_ ?_; rotate_left)|rfl|(with_reducible refine And.intro ?_ ?_)|(simp (disch:=omega) only [go_sem, simprocAttr, qN, qO, qP, qQ, del, rF, rG, hz, hsm])|exact qM rfl rfl rfl|(refine qG rfl ?_)|(refine call_hk 47 (hcut) rfl rfl rfl (by simp (disch:=omega) only [go_sem, simprocAttr, qN, qO, qP, qQ, del]) (by decide) ?_)|(refine qH rfl ?_)|(refine qI rfl ?_ ?_<;>intro hc<;>(try simp only [go_sem] at hc))|(refine qJ ?_ ?_<;>intro hc<;>(try simp only [hc])<;>(try simp only [go_sem] at hc)))
  obtain ⟨r0, hr0⟩ : ∃ r : Nat → Nat, r 0 = X ∧ r 1 = X' ∧ r 2 = X' := ⟨fun k => if k = 0 then X else X', rfl, rfl, rfl⟩
  obtain ⟨r1, hr1⟩ : ∃ r : Nat → Nat, r 0 = Y ∧ r 1 = Y ∧ r 2 = Y' := ⟨fun k => if k ≤ 1 then Y else Y', rfl, rfl, rfl⟩
  refine DW.loop (ι := { k : Nat // k ≤ 2 }) (fun k => ⟨83, [(39, dI k.1), (7, .box 7 0), (5, .box 5 0), (4, .box 4 0), (0, sawCL lab p b RX RY lm)], [mpB lm M1, (7, .box [dI cn, dI (sdI s), dI v]), (5, .box [dI (r0 k.1), dI (r1 k.1)]), (4, .box [dI fx, dI fy])]⟩) (fun k => 2 - k.1) ⟨0, by decide⟩ ?_ ?_
  ·refine Ent.to ?_ ?_ <;> simp (disch:=omega) only [qR,qS,qT,qU,get,Nat.reduceEqDiff,↓reduceIte,qV,qW,qX,qY,qZ,and_self,dI,i64_in,and_true,true_and,rA,rB,rC,rD,hr0.1,hr1.1]
   all_goals first | exact ⟨.refl _, .refl _, .refl _⟩ | exact ⟨.refl _, .refl _⟩ | exact .refl _
  rintro ⟨k, hk⟩
  dsimp only
  match k, hk with
  | 0, _ =>
   rw [hr0.1, hr1.1]
   repeat' (first|(with_reducible first|apply qA|apply qB|apply qC|apply qD|apply qE|apply qF)|(refine qL rfl (WF.of ?_) ?_; first|rfl|skip)|(refine DW.ord rfl (WF.of (by first|rfl|simp (disch:=omega) only [go_sem, simprocAttr, qN, qO, qP, qQ, hgx, hlx, hiX, rF, rG])) ?_ ?_ ?_; rotate_left)|rfl|(with_reducible refine And.intro ?_ ?_)|(simp (disch:=omega) only [go_sem, simprocAttr, qN, qO, qP, qQ, hgx, hlx, hiX, rF, rG])|exact qM rfl rfl rfl|(refine qG rfl ?_)|(refine qH rfl ?_)|(refine qI rfl ?_ ?_<;>intro hc<;>(try simp only [go_sem] at hc))|(refine qJ ?_ ?_<;>intro hc<;>(try simp only [hc])<;>(try simp only [go_sem] at hc)))
   refine ⟨⟨1, by decide⟩, ?_, Ent.to ?_ ?_⟩ <;> first | (show _ < _; (try simp only); omega) | (simp (disch:=omega) only [qR,qS,qT,qU,get,Nat.reduceEqDiff,↓reduceIte,qV,qW,qX,qY,qZ,and_self,dI,i64_in,and_true,true_and,rA,rB,rC,rD, hr0.2.1,hr1.2.1])
   all_goals first | exact ⟨.refl _, .refl _, .refl _⟩ | exact ⟨.refl _, .refl _⟩ | exact .refl _
  | 1, _ =>
   rw [hr0.2.1, hr1.2.1]
   repeat' (first|(with_reducible first|apply qA|apply qB|apply qC|apply qD|apply qE|apply qF)|(refine qL rfl (WF.of ?_) ?_; first|rfl|skip)|(refine DW.ord rfl (WF.of (by first|rfl|simp (disch:=omega) only [go_sem, simprocAttr, qN, qO, qP, qQ, hgy, hly, hiY, rF, rG])) ?_ ?_ ?_; rotate_left)|rfl|(with_reducible refine And.intro ?_ ?_)|(simp (disch:=omega) only [go_sem, simprocAttr, qN, qO, qP, qQ, hgy, hly, hiY, rF, rG])|exact qM rfl rfl rfl|(refine qG rfl ?_)|(refine qH rfl ?_)|(refine qI rfl ?_ ?_<;>intro hc<;>(try simp only [go_sem] at hc))|(refine qJ ?_ ?_<;>intro hc<;>(try simp only [hc])<;>(try simp only [go_sem] at hc)))
   refine ⟨⟨2, by decide⟩, ?_, Ent.to ?_ ?_⟩ <;> first | (show _ < _; (try simp only); omega) | (simp (disch:=omega) only [qR,qS,qT,qU,get,Nat.reduceEqDiff,↓reduceIte,qV,qW,qX,qY,qZ,and_self,dI,i64_in,and_true,true_and,rA,rB,rC,rD, hr0.2.2,hr1.2.2])
   all_goals first | exact ⟨.refl _, .refl _, .refl _⟩ | exact ⟨.refl _, .refl _⟩ | exact .refl _
  | 2, _ =>
   rw [hr0.2.2, hr1.2.2]
   clear hr0 hr1 hgx hgy hlx hly hiX hiY
   cases s with
   | false =>
    have hparts : DCall Try.prog 99 [.agg [dI 0, dI v], rctD X' Y'] [] (.tup [rctD o1 o2, rctD q1 q2]) [] := hparts
    have hlay2 : DCall Try.prog 66 [sawCL lab p b RX RY lm, .agg [dI ((fx : Int) + v), dI fy], rctD q1 q2] [mpB lm M2] (.c (.sl false 3 (rows eP L2))) [mpB lm M3] := hlay2
    have hs0 : sdI false = 0 := rfl
    repeat' (first|(with_reducible first|apply qA|apply qB|apply qC|apply qD|apply qE|apply qF)|(refine qL rfl (WF.of ?_) ?_; first|rfl|skip)|(refine DW.ord rfl (WF.of (by first|rfl|simp (disch:=omega) only [go_sem, simprocAttr, qN, qO, qP, qQ, del, rF, rG, cD_keys, hs0, hsml])) ?_ ?_ ?_; rotate_left)|rfl|(with_reducible refine And.intro ?_ ?_)|(simp (disch:=omega) only [go_sem, simprocAttr, qN, qO, qP, qQ, del, rF, rG, cD_keys, hs0, hsml])|exact qM rfl rfl rfl|(refine qG rfl ?_)|(refine call_hk2 47 (hlay1) rfl rfl rfl (by simp (disch:=omega) only [go_sem, simprocAttr, qN, qO, qP, qQ, del]) rfl (by simp (disch:=omega) only [go_sem, simprocAttr, qN, qO, qP, qQ, del]) (by decide) ?_)|(refine call_hk 47 (hlay2) rfl rfl rfl (by simp (disch:=omega) only [go_sem, simprocAttr, qN, qO, qP, qQ, del]) (by decide) ?_)|(refine qK (hparts) (by decide) ?_)|(refine qH rfl ?_)|(refine qI rfl ?_ ?_<;>intro hc<;>(try simp only [go_sem] at hc))|(refine qJ ?_ ?_<;>intro hc<;>(try simp only [hc])<;>(try simp only [go_sem] at hc)))
    exact retS_bs rfl rfl rfl (fun j x hj => mpB_get lm M3 (L1 ++ L2) rfl rfl hj)
   | true =>
    have hparts : DCall Try.prog 99 [.agg [dI 1, dI v], rctD X' Y'] [] (.tup [rctD o1 o2, rctD q1 q2]) [] := hparts
    have hlay2 : DCall Try.prog 66 [sawCL lab p b RX RY lm, .agg [dI fx, dI ((fy : Int) + v)], rctD q1 q2] [mpB lm M2] (.c (.sl false 3 (rows eP L2))) [mpB lm M3] := hlay2
    have hs0 : sdI true = 1 := rfl
    repeat' (first|(with_reducible first|apply qA|apply qB|apply qC|apply qD|apply qE|apply qF)|(refine qL rfl (WF.of ?_) ?_; first|rfl|skip)|(refine DW.ord rfl (WF.of (by first|rfl|simp (disch:=omega) only [go_sem, simprocAttr, qN, qO, qP, qQ, del, rF, rG, cD_keys, hs0, hsml])) ?_ ?_ ?_; rotate_left)|rfl|(with_reducible refine And.intro ?_ ?_)|(simp (disch:=omega) only [go_sem, simprocAttr, qN, qO, qP, qQ, del, rF, rG, cD_keys, hs0, hsml])|exact qM rfl rfl rfl|(refine qG rfl ?_)|(refine call_hk2 47 (hlay1) rfl rfl rfl (by simp (disch:=omega) only [go_sem, simprocAttr, qN, qO, qP, qQ, del]) rfl (by simp (disch:=omega) only [go_sem, simprocAttr, qN, qO, qP, qQ, del]) (by decide) ?_)|(refine call_hk 47 (hlay2) rfl rfl rfl (by simp (disch:=omega) only [go_sem, simprocAttr, qN, qO, qP, qQ, del]) (by decide) ?_)|(refine qK (hparts) (by decide) ?_)|(refine qH rfl ?_)|(refine qI rfl ?_ ?_<;>intro hc<;>(try simp only [go_sem] at hc))|(refine qJ ?_ ?_<;>intro hc<;>(try simp only [hc])<;>(try simp only [go_sem] at hc)))
    exact retS_bs rfl rfl rfl (fun j x hj => mpB_get lm M3 (L1 ++ L2) rfl rfl hj)
theorem plLay (lab : Bool) (p : PBs) (b : PBx) (hb : b.ok) (RX RY : List Int) (nx ny : Nat) (hrx : Rch (bLg b) (bWd b) RX nx) (hry : Rch (bLg b) (bWd b) RY ny) (hnx : nx ≤ 140) (hny : ny ≤ 140) : ∀ f, LayC lab p b RX RY nx ny f
 | 0 => fun _ _ _ _ _ _ _ _ _ _ h => by omega
 | f + 1 => plLay1 lab p b hb RX RY nx ny hrx hry hnx hny f (plLay lab p b hb RX RY nx ny hrx hry hnx hny f)
end Go.Dw.Seat
end
section
set_option linter.unusedSimpArgs false
set_option maxRecDepth 100000
namespace Go.Dw.Seat
open Go Go.Dw Go.Proofs Go.IntWalk
def layX (p : PBs) (b : PBx) : List PPl := if chkE p b = 0 then layF (bLg b) (bWd b) (rxN p + ryN p + 1) 0 0 (rxN p) (ryN p) else []
def layD (p : PBs) (b : PBx) : D := if chkE p b = 0 then lyD false (layX p b) else .c nilC
abbrev sawB47 (p : PBs) (b : PBx) (RX RY : List Int) : List (Nat × Blk) := [(9, .box [dI p.lg, dI p.wd, dI p.hi, dI p.ov, dI p.top, dI p.load, dI b.lg, dI b.wd, dI b.hi, dI b.wl, dI b.wh, dI b.sl, dI b.sh, .c (.sl false 1 (rows eI RX)), .c (.sl false 1 (rows eI RY)), .hd 47]), (47, .map [] [])]
theorem sawB47_ok (p : PBs) (b : PBx) (RX RY : List Int) : okRes (.box 9 0) (sawB47 p b RX RY) := by
 have hg : ∀ j, get j (sawB47 p b RX RY) = none → j ≠ 9 ∧ j ≠ 47 := fun j hj => by
  constructor <;> (rintro rfl; cases hj)
 refine ⟨fun j hj => ?_, fun i x hi j hj => ?_⟩
 ·obtain ⟨h1, h2⟩ := hg j hj
  simp only [D.men, D.mens, Bool.or_false, beq_eq_false_iff_ne]
  omega
 ·obtain ⟨h1, h2⟩ := hg j hj
  have := get_mem hi
  simp only [List.mem_cons, Prod.mk.injEq, List.not_mem_nil, or_false] at this
  rcases this with ⟨_, rfl⟩ | ⟨_, rfl⟩
  ·simp only [Blk.men, D.men, D.mens, Bool.or_false, Bool.false_or, beq_eq_false_iff_ne]
   omega
  ·rfl
theorem plNewSaw47 (p : PBs) (b : PBx) (hp : p.ok) (hb : b.ok) : DCall Try.prog 64 [bedD p b] [] (.box 9 0) (sawB47 p b (rcL (bLg b) (bWd b) (rxN p)) (rcL (bLg b) (bWd b) (ryN p))) :=
 DCall.swap 7 47 (r := .box 9 0) (bo := sawBs p b (rcL (bLg b) (bWd b) (rxN p)) (rcL (bLg b) (bWd b) (ryN p))) (sawB47_ok p b _ _) (plNewSaw p b hp hb)
set_option maxHeartbeats 8000000 in
theorem plLayX (p : PBs) (b : PBx) : DCall Try.prog 17 [bsD p, bxD b] [] (.tup [layD p b, dI (chkE p b)]) [] := by
 have h0 := plCheck p b
 unfold layD layX
 by_cases hc : chkE p b = 0
 ·obtain ⟨hp, hb⟩ := chk_ok.1 hc
  rw [if_pos hc, if_pos hc]
  rw [hc] at h0 ⊢
  have hr := plRoom p b hp
  obtain ⟨hx, hy⟩ := rm_in hp
  have hX : rmX p = ((rxN p : Nat) : Int) := (Int.toNat_of_nonneg hx.1).symm
  have hY : rmY p = ((ryN p : Nat) : Int) := (Int.toNat_of_nonneg hy.1).symm
  have hnX : rxN p ≤ 140 := by show (rmX p).toNat ≤ 140; omega
  have hnY : ryN p ≤ 140 := by show (rmY p).toNat ≤ 140; omega
  rw [hX, hY] at hr
  have hsaw := plNewSaw47 p b hp hb
  obtain ⟨M1, _, hlay⟩ := plLay true p b hb _ _ _ _ (rcL_ok (bLg b) (bWd b) (rxN p)) (rcL_ok (bLg b) (bWd b) (ryN p)) hnX hnY (rxN p + ryN p + 1) 0 0 (rxN p) (ryN p) [] (mok_nil _ _) (Nat.le_refl _) (Nat.le_refl _) (by omega) (by omega) (by omega)
  generalize rcL (bLg b) (bWd b) (rxN p) = L1 at *
  generalize rcL (bLg b) (bWd b) (ryN p) = L2 at *
  generalize layF (bLg b) (bWd b) (rxN p + ryN p + 1) 0 0 (rxN p) (ryN p) = R at *
  generalize rxN p = nx at *
  generalize ryN p = ny at *
  have hlay' : ∀ lm, DCall Try.prog 66 [sawCL true p b L1 L2 lm, .agg [dI 0, dI 0], rctD nx ny] [(47, pinO lm (pinB 47 lm (.map [] [])))] (pinD 47 lm (.c (.sl false 3 (rows eP R)))) [(47, pinO lm (pinB 47 lm (.map (cK M1) (cD M1))))] := fun lm => by
   have h := layCl (hlay lm)
   show DCall Try.prog 66 _ _ _ [(47, .pmap lm (cK M1) (pinDs 47 lm (cD M1)))]
   rw [pinDs_cD]
   exact h
  refine DCall.of Try.func17 sf17 hb17 (Nat.le_of_ble_eq_true rfl) (okRes_nil fun _ => rfl) ?_; simp only [s17, o17_0, o17_1, o17_2, o17_3, o17_4, o17_5, idxs, Nat.reduceAdd]
  repeat' (first|(with_reducible first|apply qA|apply qB|apply qC|apply qD|apply qE|apply qF)|(refine DW.ord rfl (WF.of (by first|rfl|simp (disch:=omega) only [go_sem, simprocAttr, qN, qO, qP, qQ, del, cD_keys])) ?_ ?_ ?_; rotate_left)|rfl|(with_reducible refine And.intro ?_ ?_)|(simp (disch:=omega) only [go_sem, simprocAttr, qN, qO, qP, qQ, del, cD_keys])|exact qM rfl rfl rfl|(refine qG rfl ?_)|(refine qK (h0) (by decide) ?_)|(refine call_b (hsaw) ⟨⟨trivial, rfl, rfl, rfl⟩, rfl, rfl, rfl⟩ (by decide) ?_; simp only [St.addBs, St.putB, St.putO, St.put])|(refine qK (hr) (by decide) ?_)|(refine call_hp1 47 (fun lm => hlay' lm) rfl rfl rfl (fun _ => rfl) (fun _ => rfl) (fun _ => by simp (disch:=omega) only [go_sem, simprocAttr, qN, qO, qP, qQ, del, pinT, pinX, pinD, pinDs, pinB, pinO, Nat.reduceEqDiff, if_false, if_true]) (by decide) ?_)|(refine qH rfl ?_)|(refine qI rfl ?_ ?_<;>intro hc<;>(try simp only [go_sem] at hc))|(refine qJ ?_ ?_<;>intro hc<;>(try simp only [hc])<;>(try simp only [go_sem] at hc)))
  refine retS_wk rfl ?_ (by simp only [Blk.nb, rowC_nb, D.nb, D.nbs, C.nb, C.nbs, C.nbss, rows_nb eI_nb, Bool.and_true, Bool.not_false, Bool.and_self, bD, dI, iD, rows_nb eP_nb]); exact .refl _
 ·have h2 := chk_two hc
  rw [if_neg hc]
  rw [h2] at h0 ⊢
  refine DCall.of Try.func17 sf17 hb17 (Nat.le_of_ble_eq_true rfl) (okRes_nil fun _ => rfl) ?_; simp only [s17, o17_0, o17_1, o17_2, o17_3, o17_4, o17_5, idxs, Nat.reduceAdd]
  repeat' (first|(with_reducible first|apply qA|apply qB|apply qC|apply qD|apply qE|apply qF)|(refine DW.ord rfl (WF.of (by first|rfl|simp (disch:=omega) only [go_sem, simprocAttr, qN, qO, qP, qQ])) ?_ ?_ ?_; rotate_left)|rfl|(with_reducible refine And.intro ?_ ?_)|(simp (disch:=omega) only [go_sem, simprocAttr, qN, qO, qP, qQ])|exact qM rfl rfl rfl|(refine qG rfl ?_)|(refine qK (h0) (by decide) ?_)|(refine qH rfl ?_)|(refine qI rfl ?_ ?_<;>intro hc<;>(try simp only [go_sem] at hc))|(refine qJ ?_ ?_<;>intro hc<;>(try simp only [hc])<;>(try simp only [go_sem] at hc)))
end Go.Dw.Seat
end
section
set_option linter.unusedSimpArgs false
set_option maxRecDepth 100000
namespace Go.Dw.Seat
open Go Go.Dw Go.Proofs Go.IntWalk
theorem crW1 (n lo hi : Int) (p q : Bool) : DCall Try.prog 133 [dI n, .c (.ro p [.v (.int .i64 lo)] 0), .c (.ro q [.v (.int .i64 hi)] 0)] [] (bD (decide (n < lo) || decide (hi < n))) [] := by
 refine DCall.of Try.func133 sf133 hb133 (Nat.le_of_ble_eq_true rfl) (okRes_nil fun _ => rfl) ?_; simp only [s133, idxs, Nat.reduceAdd]
 repeat' (first|(with_reducible first|apply qA|apply qB|apply qC|apply qD|apply qE|apply qF)|(simp (disch:=omega) only [go_sem, simprocAttr, Blk.men, Blk.keysIn])|exact qM rfl rfl rfl|(refine qG rfl ?_)|(refine qH rfl ?_)|(refine qI rfl ?_ ?_<;>intro hc<;>(try simp only [go_sem] at hc))|(refine qJ ?_ ?_<;>intro hc<;>(try simp only [hc])<;>(try simp only [go_sem] at hc)))
theorem crWithin (b : Bool) (lo hi : Int) (l : List Int) (hl : l.length ≤ 2 ^ 36) : DCall Try.prog 123 [dI lo, dI hi, dIs b l] [] (bD (wthn lo hi l)) [] := by
 refine DCall.of Try.func123 sf123 hb123 (Nat.le_of_ble_eq_true rfl) (okRes_nil fun _ => rfl) ?_; simp only [s123, idxs, Nat.reduceAdd]
 repeat' (first|(with_reducible first|apply qA|apply qB|apply qC|apply qD|apply qE|apply qF)|(simp (disch:=omega) only [go_sem, simprocAttr, Blk.men, Blk.keysIn])|exact qM rfl rfl rfl|(refine qG rfl ?_)|(refine qH rfl ?_)|(refine qI rfl ?_ ?_<;>intro hc<;>(try simp only [go_sem] at hc))|(refine qJ ?_ ?_<;>intro hc<;>(try simp only [hc])<;>(try simp only [go_sem] at hc)))
 (refine call_c (plAnyI b l hl 133 [] [.ro true [.v (.int .i64 lo)] 0, .ro true [.v (.int .i64 hi)] 0] (fun n => decide (n < lo) || decide (hi < n)) (fun x _ => crW1 x lo hi true true)) (by decide) ?_; simp (disch:=omega) only [go_sem,simprocAttr,Blk.men,Blk.keysIn])
 repeat' (first|(with_reducible first|apply qA|apply qB|apply qC|apply qD|apply qE|apply qF)|(simp (disch:=omega) only [go_sem, simprocAttr, Blk.men, Blk.keysIn])|exact qM rfl rfl rfl|(refine qG rfl ?_)|(refine qH rfl ?_)|(refine qI rfl ?_ ?_<;>intro hc<;>(try simp only [go_sem] at hc))|(refine qJ ?_ ?_<;>intro hc<;>(try simp only [hc])<;>(try simp only [go_sem] at hc)))
theorem spanOk_yes {lo hi least most : Int} (h : least ≤ lo ∧ lo ≤ hi ∧ hi ≤ most) : spanOk lo hi least most = true := by
 unfold spanOk
 rw [wthn_yes (by simp; omega), decide_eq_true h.2.1]; rfl
theorem crSpanG (lo hi least most : Int) : DCall Try.prog 121 [.agg [dI lo, dI hi], dI least, dI most] [] (bD (spanOk lo hi least most)) [] := by
 have h1 := crWithin true least most [lo, hi] (by simp)
 unfold spanOk
 cases h : wthn least most [lo, hi] <;> rw [h] at h1 <;> simp only [Bool.true_and, Bool.false_and]
 ·refine DCall.of Try.func121 sf121 hb121 (Nat.le_of_ble_eq_true rfl) (okRes_nil fun _ => rfl) ?_; simp only [s121, idxs, Nat.reduceAdd]
  repeat' (first|(with_reducible first|apply qA|apply qB|apply qC|apply qD|apply qE|apply qF)|(simp (disch:=omega) only [go_sem, simprocAttr, Blk.men, Blk.keysIn])|exact qM rfl rfl rfl|(refine qG rfl ?_)|(refine qK (h1) (by decide) ?_)|(refine qH rfl ?_)|(refine qI rfl ?_ ?_<;>intro hc<;>(try simp only [go_sem] at hc))|(refine qJ ?_ ?_<;>intro hc<;>(try simp only [hc])<;>(try simp only [go_sem] at hc)))
 ·refine DCall.of Try.func121 sf121 hb121 (Nat.le_of_ble_eq_true rfl) (okRes_nil fun _ => rfl) ?_; simp only [s121, idxs, Nat.reduceAdd]
  repeat' (first|(with_reducible first|apply qA|apply qB|apply qC|apply qD|apply qE|apply qF)|(simp (disch:=omega) only [go_sem, simprocAttr, Blk.men, Blk.keysIn])|exact qM rfl rfl rfl|(refine qG rfl ?_)|(refine qK (h1) (by decide) ?_)|(refine qH rfl ?_)|(refine qI rfl ?_ ?_<;>intro hc<;>(try simp only [go_sem] at hc))|(refine qJ ?_ ?_<;>intro hc<;>(try simp only [hc])<;>(try simp only [go_sem] at hc)))
theorem mulB0 {a b A B : Int} (ha : 0 ≤ a ∧ a ≤ A) (hb : 0 ≤ b ∧ b ≤ B) : 0 ≤ a * b ∧ a * b ≤ A * B := by
 refine ⟨Int.mul_nonneg ha.1 hb.1, ?_⟩
 exact Int.le_trans (Int.mul_le_mul_of_nonneg_right ha.2 hb.1) (Int.mul_le_mul_of_nonneg_left hb.2 (Int.le_trans ha.1 ha.2))
theorem crIn (b : Bool) (lo hi : Int) (l : List Int) (hl : l.length ≤ 2 ^ 36) (h : ∀ v ∈ l, lo ≤ v ∧ v ≤ hi) : DCall Try.prog 123 [dI lo, dI hi, dIs b l] [] (bD true) [] := by
 have := crWithin b lo hi l hl
 rwa [wthn_yes h] at this
end Go.Dw.Seat
end
section
set_option linter.unusedSimpArgs false
set_option maxRecDepth 100000
namespace Go.Dw.Seat
open Go Go.Dw Go.Proofs Go.IntWalk
structure Lod where
 sl : Int
 sh : Int
 wl : Int
 wh : Int
def eLd (b : Lod) : List C := [.v (.int .i64 b.sl), .v (.int .i64 b.sh), .v (.int .i64 b.wl), .v (.int .i64 b.wh)]
theorem eLd_nb (v : Lod) : C.nbs (eLd v) = true := rfl
def eK (t : Int × Int) : List C := [.v (.int .i64 t.1), .v (.int .i64 t.2)]
theorem eK_nb (v : Int × Int) : C.nbs (eK v) = true := rfl
attribute [go_sem] eLd eK
structure Lod.ok (b : Lod) : Prop where
 strong : 0 ≤ b.sl ∧ b.sl ≤ b.sh ∧ b.sh ≤ 20000000
 weight : 0 ≤ b.wl ∧ b.wl ≤ b.wh ∧ b.wh ≤ 100000
def lodOk (b : Lod) : Bool := spanOk b.sl b.sh 0 20000000 && spanOk b.wl b.wh 0 100000
theorem lodOk_yes {b : Lod} (h : b.ok) : lodOk b = true := by
 simp only [lodOk, spanOk_yes h.strong, spanOk_yes h.weight, Bool.and_self]
theorem crBoxG (b : Lod) : DCall Try.prog 120 [.agg ((eLd b).map D.c)] [] (bD (!lodOk b)) [] := by
 have h1 := crSpanG b.sl b.sh 0 20000000
 have h2 := crSpanG b.wl b.wh 0 100000
 unfold lodOk
 cases e1 : spanOk b.sl b.sh 0 20000000 <;> rw [e1] at h1 <;> simp only [Bool.true_and, Bool.false_and, Bool.not_false]
 ·refine DCall.of Try.func120 sf120 hb120 (Nat.le_of_ble_eq_true rfl) (okRes_nil fun _ => rfl) ?_; simp only [s120, idxs, Nat.reduceAdd]
  repeat' (first|(with_reducible first|apply qA|apply qB|apply qC|apply qD|apply qE|apply qF)|(simp (disch:=omega) only [go_sem, simprocAttr, Blk.men, Blk.keysIn, rF, rG])|exact qM rfl rfl rfl|(refine qG rfl ?_)|(refine qK (h1) (by decide) ?_)|(refine qH rfl ?_)|(refine qI rfl ?_ ?_<;>intro hc<;>(try simp only [go_sem] at hc))|(refine qJ ?_ ?_<;>intro hc<;>(try simp only [hc])<;>(try simp only [go_sem] at hc)))
 ·refine DCall.of Try.func120 sf120 hb120 (Nat.le_of_ble_eq_true rfl) (okRes_nil fun _ => rfl) ?_; simp only [s120, idxs, Nat.reduceAdd]
  repeat' (first|(with_reducible first|apply qA|apply qB|apply qC|apply qD|apply qE|apply qF)|(simp (disch:=omega) only [go_sem, simprocAttr, Blk.men, Blk.keysIn, rF, rG])|exact qM rfl rfl rfl|(refine qG rfl ?_)|(refine qK (h1) (by decide) ?_)|(refine qK (h2) (by decide) ?_)|(refine qH rfl ?_)|(refine qI rfl ?_ ?_<;>intro hc<;>(try simp only [go_sem] at hc))|(refine qJ ?_ ?_<;>intro hc<;>(try simp only [hc])<;>(try simp only [go_sem] at hc)))
theorem crLIdx (b : Bool) (l : List (Lod)) (hl : l.length ≤ 2 ^ 36) (g : FuncId) (fs caps : List C) (p : Lod → Bool) (hp : ∀ x ∈ l, DCall Try.prog g (fs.map D.c ++ [.agg ((eLd x).map D.c)] ++ caps.map D.c) [] (bD (p x)) []) : DCall Try.prog 132 [.c (.sl b 4 (rows eLd l)), .c (.fn (.func g) fs caps)] [] (dI (idxI p l)) [] := by
 refine DCall.of Try.func132 sf132 hb132 (Nat.le_of_ble_eq_true rfl) (okRes_nil fun _ => rfl) ?_; simp only [s132, idxs, Nat.reduceAdd]
 repeat' (first|(with_reducible first|apply qA|apply qB|apply qC|apply qD|apply qE|apply qF)|(simp (disch:=omega) only [go_sem, simprocAttr, Blk.men, Blk.keysIn])|exact qM rfl rfl rfl|(refine qG rfl ?_)|(refine qH rfl ?_)|(refine qI rfl ?_ ?_<;>intro hc<;>(try simp only [go_sem] at hc))|(refine qJ ?_ ?_<;>intro hc<;>(try simp only [hc])<;>(try simp only [go_sem] at hc)))
 refine DW.loop (ι := { i : Nat // i ≤ l.length ∧ ∀ j u, j < i → l[j]? = some u → p u = false }) (fun i => ⟨19, [(8, dI i.1), (7, dI l.length), (1, .c (.fn (.func g) fs caps)), (0, .c (.sl b 4 (rows eLd l)))], []⟩) (fun i => l.length - i.1) ⟨0, Nat.zero_le _, fun j u h => by omega⟩ ?_ ?_
 ·refine Ent.to ?_ ?_ <;> simp (disch:=omega) only [qR,qS,qT,qU,get,Nat.reduceEqDiff,↓reduceIte,qV,qW,qX,qY,qZ,and_self,dI,i64_in,and_true,true_and,rA,rB,rC,rD]
 rintro ⟨i, hi, hij⟩
 rcases at_or l i hi with ⟨v, hv, hlt, hd⟩ | ⟨he, hd⟩
 ·have hcall := hp v (List.mem_of_getElem? hv)
  repeat' (first|(with_reducible first|apply qA|apply qB|apply qC|apply qD|apply qE|apply qF)|(simp (disch:=omega) only [go_sem, simprocAttr, Blk.men, Blk.keysIn, hd, hv, closeDs_fn, rF, rG])|exact qM rfl rfl rfl|(refine qG rfl ?_)|(refine qH rfl ?_)|(refine qI rfl ?_ ?_<;>intro hc<;>(try simp only [go_sem] at hc))|(refine qJ ?_ ?_<;>intro hc<;>(try simp only [hc])<;>(try simp only [go_sem] at hc)))
  refine call_c hcall (by decide) ?_
  simp (disch:=omega) only [go_sem,simprocAttr,Blk.men,Blk.keysIn]
  refine DW.cond rfl ?_ ?_ <;> intro hc
  ·repeat' (first|(with_reducible first|apply qA|apply qB|apply qC|apply qD|apply qE|apply qF)|(simp (disch:=omega) only [go_sem, simprocAttr, Blk.men, Blk.keysIn])|exact qM rfl rfl rfl|(refine qG rfl ?_)|(refine qH rfl ?_)|(refine qI rfl ?_ ?_<;>intro hc<;>(try simp only [go_sem] at hc))|(refine qJ ?_ ?_<;>intro hc<;>(try simp only [hc])<;>(try simp only [go_sem] at hc)))
   refine retS_of rfl ?_ rfl; simp only [oneD, St.op, get, Nat.reduceEqDiff, ↓reduceIte, Option.getD_some, bD, dI]
   simp only [idxI, idxOf_some hij hv hc]
  ·repeat' (first|(with_reducible first|apply qA|apply qB|apply qC|apply qD|apply qE|apply qF)|(simp (disch:=omega) only [go_sem, simprocAttr, Blk.men, Blk.keysIn])|exact qM rfl rfl rfl|(refine qG rfl ?_)|(refine qH rfl ?_)|(refine qI rfl ?_ ?_<;>intro hc<;>(try simp only [go_sem] at hc))|(refine qJ ?_ ?_<;>intro hc<;>(try simp only [hc])<;>(try simp only [go_sem] at hc)))
   refine ⟨⟨i + 1, by omega, fun j u hj hu => by
    rcases Nat.lt_or_ge j i with h | h
    ·exact hij j u h hu
    ·have : j = i := by omega
     subst this
     rw [hv] at hu; cases hu; exact hc⟩, ?_, Ent.to ?_ ?_⟩ <;> first | (show _ < _; (try simp only); omega) | (simp (disch:=omega) only [qR,qS,qT,qU,get,Nat.reduceEqDiff,↓reduceIte,qV,qW,qX,qY,qZ,and_self,dI,i64_in,and_true,true_and,rA,rB,rC,rD])
 ·repeat' (first|(with_reducible first|apply qA|apply qB|apply qC|apply qD|apply qE|apply qF)|(simp (disch:=omega) only [go_sem, simprocAttr, Blk.men, Blk.keysIn, hd])|exact qM rfl rfl rfl|(refine qG rfl ?_)|(refine qH rfl ?_)|(refine qI rfl ?_ ?_<;>intro hc<;>(try simp only [go_sem] at hc))|(refine qJ ?_ ?_<;>intro hc<;>(try simp only [hc])<;>(try simp only [go_sem] at hc)))
  refine retS_of rfl ?_ rfl; simp only [oneD, St.op, get, Nat.reduceEqDiff, ↓reduceIte, Option.getD_some, bD, dI]
  simp only [idxI, idxOf_none (he ▸ hij)]
theorem crLCon (b : Bool) (l : List (Lod)) (hl : l.length ≤ 2 ^ 36) (g : FuncId) (fs caps : List C) (p : Lod → Bool) (hp : ∀ x ∈ l, DCall Try.prog g (fs.map D.c ++ [.agg ((eLd x).map D.c)] ++ caps.map D.c) [] (bD (p x)) []) : DCall Try.prog 122 [.c (.sl b 4 (rows eLd l)), .c (.fn (.func g) fs caps)] [] (bD (l.any p)) [] := by
 refine DCall.of Try.func122 sf122 hb122 (Nat.le_of_ble_eq_true rfl) (okRes_nil fun _ => rfl) ?_; simp only [s122, idxs, Nat.reduceAdd]
 repeat' (first|(with_reducible first|apply qA|apply qB|apply qC|apply qD|apply qE|apply qF)|(simp (disch:=omega) only [go_sem, simprocAttr, Blk.men, Blk.keysIn])|exact qM rfl rfl rfl|(refine qG rfl ?_)|(refine qH rfl ?_)|(refine qI rfl ?_ ?_<;>intro hc<;>(try simp only [go_sem] at hc))|(refine qJ ?_ ?_<;>intro hc<;>(try simp only [hc])<;>(try simp only [go_sem] at hc)))
 refine call_c (crLIdx b l hl g fs caps p hp) (by decide) ?_
 repeat' (first|(with_reducible first|apply qA|apply qB|apply qC|apply qD|apply qE|apply qF)|(simp (disch:=omega) only [go_sem, simprocAttr, Blk.men, Blk.keysIn])|exact qM rfl rfl rfl|(refine qG rfl ?_)|(refine qH rfl ?_)|(refine qI rfl ?_ ?_<;>intro hc<;>(try simp only [go_sem] at hc))|(refine qJ ?_ ?_<;>intro hc<;>(try simp only [hc])<;>(try simp only [go_sem] at hc)))
 refine retS_of rfl ?_ rfl; simp only [oneD, St.op, get, Nat.reduceEqDiff, ↓reduceIte, Option.getD_some, bD, dI]
 rw [idxI_any]
def boxesE (l : List Lod) (most : Int) : Int := if most < l.length then 5 else if l.any (fun b => !lodOk b) then 2 else 0
theorem crBoxesG (b : Bool) (l : List Lod) (most : Int) (hl : l.length ≤ 2 ^ 36) : DCall Try.prog 93 [.c (.sl b 4 (rows eLd l)), dI most] [] (dI (boxesE l most)) [] := by
 have h1 := crLCon b l hl 120 [] [] (fun b => !lodOk b) (fun x _ => by simpa using crBoxG x)
 unfold boxesE
 by_cases hm : most < (l.length : Int)
 ·have hd : decide (most < (l.length : Int)) = true := decide_eq_true hm
  rw [if_pos hm]
  refine DCall.of Try.func93 sf93 hb93 (Nat.le_of_ble_eq_true rfl) (okRes_nil fun _ => rfl) ?_; simp only [s93, idxs, Nat.reduceAdd]
  repeat' (first|(with_reducible first|apply qA|apply qB|apply qC|apply qD|apply qE|apply qF)|(simp (disch:=omega) only [go_sem, simprocAttr, Blk.men, Blk.keysIn, hd])|exact qM rfl rfl rfl|(refine qG rfl ?_)|(refine qH rfl ?_)|(refine qI rfl ?_ ?_<;>intro hc<;>(try simp only [go_sem] at hc))|(refine qJ ?_ ?_<;>intro hc<;>(try simp only [hc])<;>(try simp only [go_sem] at hc)))
 have hd : decide (most < (l.length : Int)) = false := decide_eq_false hm
 rw [if_neg hm]
 cases e : l.any (fun b => !lodOk b) <;> rw [e] at h1
 ·rw [if_neg (by decide)]
  refine DCall.of Try.func93 sf93 hb93 (Nat.le_of_ble_eq_true rfl) (okRes_nil fun _ => rfl) ?_; simp only [s93, idxs, Nat.reduceAdd]
  repeat' (first|(with_reducible first|apply qA|apply qB|apply qC|apply qD|apply qE|apply qF)|(simp (disch:=omega) only [go_sem, simprocAttr, Blk.men, Blk.keysIn, hd])|exact qM rfl rfl rfl|(refine qG rfl ?_)|(refine qK (h1) (by decide) ?_)|(refine qH rfl ?_)|(refine qI rfl ?_ ?_<;>intro hc<;>(try simp only [go_sem] at hc))|(refine qJ ?_ ?_<;>intro hc<;>(try simp only [hc])<;>(try simp only [go_sem] at hc)))
 ·rw [if_pos rfl]
  refine DCall.of Try.func93 sf93 hb93 (Nat.le_of_ble_eq_true rfl) (okRes_nil fun _ => rfl) ?_; simp only [s93, idxs, Nat.reduceAdd]
  repeat' (first|(with_reducible first|apply qA|apply qB|apply qC|apply qD|apply qE|apply qF)|(simp (disch:=omega) only [go_sem, simprocAttr, Blk.men, Blk.keysIn, hd])|exact qM rfl rfl rfl|(refine qG rfl ?_)|(refine qK (h1) (by decide) ?_)|(refine qH rfl ?_)|(refine qI rfl ?_ ?_<;>intro hc<;>(try simp only [go_sem] at hc))|(refine qJ ?_ ?_<;>intro hc<;>(try simp only [hc])<;>(try simp only [go_sem] at hc)))
theorem boxesE_yes {l : List Lod} {most : Int} (h1 : (l.length : Int) ≤ most) (h : ∀ x ∈ l, x.ok) : boxesE l most = 0 := by
 unfold boxesE
 rw [if_neg (by omega), if_neg]
 simp only [Bool.not_eq_true, List.any_eq_false, Bool.not_eq_true', Bool.not_eq_false]
 exact fun x hx => lodOk_yes (h x hx)
theorem crBoxes (b : Bool) (l : List Lod) (most : Int) (hl : l.length ≤ 1000) (hm : (l.length : Int) ≤ most) (h : ∀ x ∈ l, x.ok) : DCall Try.prog 93 [.c (.sl b 4 (rows eLd l)), dI most] [] (dI 0) [] := by
 have := crBoxesG b l most (by omega)
 rwa [boxesE_yes hm h] at this
structure TabF (l : List (Int × Int)) : Prop where
 len : 1 ≤ l.length ∧ l.length ≤ 10
 first : ∀ u, l[0]? = some u → u.1 = 0
 mem : ∀ s ∈ l, (0 ≤ s.1 ∧ s.1 ≤ 10000) ∧ (0 ≤ s.2 ∧ s.2 ≤ 1000)
 step : ∀ (i : Nat) (u v : Int × Int), l[i]? = some u → l[i + 1]? = some v → u.1 < v.1 ∧ v.2 ≤ u.2
structure TabOk (l : List (Int × Int)) (days : Int) : Prop extends TabF l where
 days : 0 ≤ days ∧ days ≤ 10000
theorem crTable (l : List (Int × Int)) (days : Int) (h : TabOk l days) : DCall Try.prog 94 [.c (.sl false 2 (rows eK l)), dI days] [] (.tup [.agg [.c (.sl false 2 (rows eK l)), dI days], dI 0]) [] := by
 have hlen := h.len
 have h1 := crIn true 1 10 [(l.length : Int)] (by simp) (by simp; omega)
 have h2 := crIn true 0 10000 [days] (by simp) (by simpa using h.days)
 obtain ⟨f, hf⟩ := getE (l := l) (i := 0) (by omega)
 have hf0 := h.first f hf
 have hfe : (f.1 != 0) = false := by rw [hf0]; rfl
 refine DCall.of Try.func94 sf94 hb94 (Nat.le_of_ble_eq_true rfl) (okRes_nil fun _ => rfl) ?_; simp only [s94, idxs, Nat.reduceAdd]
 repeat' (first|(with_reducible first|apply qA|apply qB|apply qC|apply qD|apply qE|apply qF)|(refine qL rfl (WF.of ?_) ?_; first|rfl|skip)|(simp (disch:=omega) only [go_sem, simprocAttr, Blk.men, Blk.keysIn, hf, hfe, rF, rG])|exact qM rfl rfl rfl|(refine qG rfl ?_)|(refine qK (h1) (by decide) ?_)|(refine qH rfl ?_)|(refine qI rfl ?_ ?_<;>intro hc<;>(try simp only [go_sem] at hc))|(refine qJ ?_ ?_<;>intro hc<;>(try simp only [hc])<;>(try simp only [go_sem] at hc)))
 refine DW.loop (ι := { i : Nat // i ≤ l.length }) (fun i => ⟨76, [(23, dI i.1), (22, dI l.length), (21, .c (.sl false 2 (rows eK l))), (4, .box 4 0), (0, .c (.sl false 2 (rows eK l))), (1, dI days)], [(4, .box [.c (.v (.slice none 0 0)), dI 0])]⟩) (fun i => l.length - i.1) ⟨0, Nat.zero_le _⟩ ?_ ?_
 ·refine Ent.to ?_ ?_ <;> simp (disch:=omega) only [qR,qS,qT,qU,get,Nat.reduceEqDiff,↓reduceIte,qV,qW,qX,qY,qZ,and_self,dI,i64_in,and_true,true_and,rA,rB,rC,rD]
 rintro ⟨i, hi⟩
 rcases at_or l i hi with ⟨v, hv, hlt, hd⟩ | ⟨he, hd⟩
 ·have hm := h.mem v (List.mem_of_getElem? hv)
  have h3 := crIn true 0 10000 [v.1] (by simp) (by simpa using hm.1)
  have h4 := crIn true 0 1000 [v.2] (by simp) (by simpa using hm.2)
  rcases i with _ | i
  ·have hd0 : decide ((0 : Int) < ((0 : Nat) : Int)) = false := by decide
   have hd' : decide ((0 : Int) < (l.length : Int)) = true := hd
   repeat' (first|(with_reducible first|apply qA|apply qB|apply qC|apply qD|apply qE|apply qF)|(refine qL rfl (WF.of ?_) ?_; first|rfl|skip)|(simp (disch:=omega) only [go_sem, simprocAttr, Blk.men, Blk.keysIn, hd', hv, hd0, rF, rG])|exact qM rfl rfl rfl|(refine qG rfl ?_)|(refine qK (h3) (by decide) ?_)|(refine qK (h4) (by decide) ?_)|(refine qH rfl ?_)|(refine qI rfl ?_ ?_<;>intro hc<;>(try simp only [go_sem] at hc))|(refine qJ ?_ ?_<;>intro hc<;>(try simp only [hc])<;>(try simp only [go_sem] at hc)))
   refine ⟨⟨1, hlt⟩, ?_, Ent.to ?_ ?_⟩ <;> first | (show _ < _; (try simp only); omega) | (simp (disch:=omega) only [qR,qS,qT,qU,get,Nat.reduceEqDiff,↓reduceIte,qV,qW,qX,qY,qZ,and_self,dI,i64_in,and_true,true_and,rA,rB,rC,rD])
  ·have hd0 : decide ((0 : Int) < ((i + 1 : Nat) : Int)) = true := by rw [decide_eq_true_eq]; omega
   obtain ⟨u, hu⟩ := getE (l := l) (i := i) (by omega)
   have hs := h.step i u v hu hv
   have e1 : ((i + 1 : Nat) : Int) - 1 = (i : Int) := by omega
   have d1 : decide (v.1 ≤ u.1) = false := by rw [decide_eq_false_iff_not]; omega
   have d2 : decide (u.2 < v.2) = false := by rw [decide_eq_false_iff_not]; omega
   repeat' (first|(with_reducible first|apply qA|apply qB|apply qC|apply qD|apply qE|apply qF)|(refine qL rfl (WF.of ?_) ?_; first|rfl|skip)|(simp (disch:=omega) only [go_sem, simprocAttr, Blk.men, Blk.keysIn, hd, hv, hd0, hu, e1, d1, d2, rF, rG])|exact qM rfl rfl rfl|(refine qG rfl ?_)|(refine qK (h3) (by decide) ?_)|(refine qK (h4) (by decide) ?_)|(refine qH rfl ?_)|(refine qI rfl ?_ ?_<;>intro hc<;>(try simp only [go_sem] at hc))|(refine qJ ?_ ?_<;>intro hc<;>(try simp only [hc])<;>(try simp only [go_sem] at hc)))
   refine ⟨⟨i + 1 + 1, hlt⟩, ?_, Ent.to ?_ ?_⟩ <;> first | (show _ < _; (try simp only); omega) | (simp (disch:=omega) only [qR,qS,qT,qU,get,Nat.reduceEqDiff,↓reduceIte,qV,qW,qX,qY,qZ,and_self,dI,i64_in,and_true,true_and,rA,rB,rC,rD])
 ·repeat' (first|(with_reducible first|apply qA|apply qB|apply qC|apply qD|apply qE|apply qF)|(refine qL rfl (WF.of ?_) ?_; first|rfl|skip)|(simp (disch:=omega) only [go_sem, simprocAttr, Blk.men, Blk.keysIn, hd])|exact qM rfl rfl rfl|(refine qG rfl ?_)|(refine qK (h2) (by decide) ?_)|(refine qH rfl ?_)|(refine qI rfl ?_ ?_<;>intro hc<;>(try simp only [go_sem] at hc))|(refine qJ ?_ ?_<;>intro hc<;>(try simp only [hc])<;>(try simp only [go_sem] at hc)))
  refine retS_wk rfl ?_ (by simp only [Blk.nb, rowC_nb, D.nb, D.nbs, C.nb, C.nbs, C.nbss, rows_nb eI_nb, Bool.and_true, Bool.not_false, Bool.and_self, bD, dI, iD, rows_nb eK_nb, rows_nb eLd_nb]); exact .tup (.cons (.refl _) (.cons (.refl _) .nil))
def stepOk (l : List (Int × Int)) (j : Nat) : Prop := ∀ v, l[j]? = some v → ((0 ≤ v.1 ∧ v.1 ≤ 10000) ∧ (0 ≤ v.2 ∧ v.2 ≤ 1000)) ∧ ∀ k u, j = k + 1 → l[k]? = some u → u.1 < v.1 ∧ v.2 ≤ u.2
theorem tabF_of {l : List (Int × Int)} (h1 : 1 ≤ l.length ∧ l.length ≤ 10) (h2 : ∀ u, l[0]? = some u → u.1 = 0) (h3 : ∀ j, j < l.length → stepOk l j) : TabF l := by
 refine ⟨h1, h2, fun s hs => ?_, fun i u v hu hv => ?_⟩
 ·obtain ⟨j, hj⟩ := List.mem_iff_getElem?.1 hs
  exact (h3 j (List.getElem?_eq_some_iff.1 hj).1 s hj).1
 ·exact (h3 (i + 1) (List.getElem?_eq_some_iff.1 hv).1 v hv).2 i u rfl hu
def lastI (days : Int) (l : List (Int × Int)) (k : Int) : Int := l.foldl (fun k s => if s.1 ≤ days then s.2 else k) k
theorem lastI_b (days : Int) : ∀ (l : List (Int × Int)) (k : Int), (∀ s ∈ l, 0 ≤ s.2 ∧ s.2 ≤ 1000) → (0 ≤ k ∧ k ≤ 1000) → 0 ≤ lastI days l k ∧ lastI days l k ≤ 1000
 | [], _, _, hk => hk
 | s :: t, k, h, hk => by
  refine lastI_b days t _ (fun x hx => h x (by simp [hx])) ?_
  have := h s (by simp)
  show 0 ≤ (if s.1 ≤ days then s.2 else k) ∧ (if s.1 ≤ days then s.2 else k) ≤ 1000
  split <;> omega
theorem lastI_take (days : Int) {l : List (Int × Int)} {i : Nat} {v : Int × Int} (hv : l[i]? = some v) : lastI days (l.take (i + 1)) 0 = if v.1 ≤ days then v.2 else lastI days (l.take i) 0 := by
 rw [List.take_add_one, hv]
 simp only [lastI, Option.toList_some, List.foldl_append, List.foldl_cons, List.foldl_nil]
theorem tdiv_b {a b : Int} {A : Int} (ha : 0 ≤ a ∧ a ≤ A) (hb : 0 ≤ b) : 0 ≤ a.tdiv b ∧ a.tdiv b ≤ A := by
 rw [Int.tdiv_eq_ediv_of_nonneg ha.1]
 exact ⟨Int.ediv_nonneg ha.1 hb, Int.le_trans (Int.ediv_le_self b ha.1) ha.2⟩
theorem crLast (b : Bool) (l : List (Int × Int)) (days : Int) (hl : l.length ≤ 1000) : DCall Try.prog 119 [.agg [.c (.sl b 2 (rows eK l)), dI days]] [] (dI (lastI days l 0)) [] := by
 refine DCall.of Try.func119 sf119 hb119 (Nat.le_of_ble_eq_true rfl) (okRes_nil fun _ => rfl) ?_; simp only [s119, idxs, Nat.reduceAdd]
 repeat' (first|(with_reducible first|apply qA|apply qB|apply qC|apply qD|apply qE|apply qF)|(simp (disch:=omega) only [go_sem, simprocAttr, Blk.men, Blk.keysIn])|exact qM rfl rfl rfl|(refine qG rfl ?_)|(refine qH rfl ?_)|(refine qI rfl ?_ ?_<;>intro hc<;>(try simp only [go_sem] at hc))|(refine qJ ?_ ?_<;>intro hc<;>(try simp only [hc])<;>(try simp only [go_sem] at hc)))
 refine DW.loop (ι := { i : Nat // i ≤ l.length }) (fun i => ⟨21, [(8, dI i.1), (7, dI l.length), (6, .c (.sl b 2 (rows eK l))), (2, dI (lastI days (l.take i.1) 0)), (1, .box 1 0)], [(1, .box [.c (.sl b 2 (rows eK l)), dI days])]⟩) (fun i => l.length - i.1) ⟨0, Nat.zero_le _⟩ ?_ ?_
 ·refine Ent.to ?_ ?_ <;> simp (disch:=omega) only [qR,qS,qT,qU,get,Nat.reduceEqDiff,↓reduceIte,qV,qW,qX,qY,qZ,and_self,dI,i64_in,and_true,true_and,rA,rB,rC,rD,lastI,List.take_zero,List.foldl_nil]
 rintro ⟨i, hi⟩
 rcases at_or l i hi with ⟨v, hv, hlt, hd⟩ | ⟨he, hd⟩
 ·have hnx := lastI_take days hv
  cases hc : decide (v.1 ≤ days) with
  | true =>
   rw [if_pos (of_decide_eq_true hc)] at hnx
   repeat' (first|(with_reducible first|apply qA|apply qB|apply qC|apply qD|apply qE|apply qF)|(simp (disch:=omega) only [go_sem, simprocAttr, Blk.men, Blk.keysIn, hd, hv, hc, rF, rG])|exact qM rfl rfl rfl|(refine qG rfl ?_)|(refine qH rfl ?_)|(refine qI rfl ?_ ?_<;>intro hc<;>(try simp only [go_sem] at hc))|(refine qJ ?_ ?_<;>intro hc<;>(try simp only [hc])<;>(try simp only [go_sem] at hc)))
   refine ⟨⟨i + 1, hlt⟩, ?_, Ent.to ?_ ?_⟩ <;> first | (show _ < _; (try simp only); omega) | (simp (disch:=omega) only [qR,qS,qT,qU,get,Nat.reduceEqDiff,↓reduceIte,qV,qW,qX,qY,qZ,and_self,dI,i64_in,and_true,true_and,rA,rB,rC,rD, hnx])
  | false =>
   rw [if_neg (of_decide_eq_false hc)] at hnx
   repeat' (first|(with_reducible first|apply qA|apply qB|apply qC|apply qD|apply qE|apply qF)|(simp (disch:=omega) only [go_sem, simprocAttr, Blk.men, Blk.keysIn, hd, hv, hc, rF, rG])|exact qM rfl rfl rfl|(refine qG rfl ?_)|(refine qH rfl ?_)|(refine qI rfl ?_ ?_<;>intro hc<;>(try simp only [go_sem] at hc))|(refine qJ ?_ ?_<;>intro hc<;>(try simp only [hc])<;>(try simp only [go_sem] at hc)))
   refine ⟨⟨i + 1, hlt⟩, ?_, Ent.to ?_ ?_⟩ <;> first | (show _ < _; (try simp only); omega) | (simp (disch:=omega) only [qR,qS,qT,qU,get,Nat.reduceEqDiff,↓reduceIte,qV,qW,qX,qY,qZ,and_self,dI,i64_in,and_true,true_and,rA,rB,rC,rD, hnx])
 ·repeat' (first|(with_reducible first|apply qA|apply qB|apply qC|apply qD|apply qE|apply qF)|(simp (disch:=omega) only [go_sem, simprocAttr, Blk.men, Blk.keysIn, hd])|exact qM rfl rfl rfl|(refine qG rfl ?_)|(refine qH rfl ?_)|(refine qI rfl ?_ ?_<;>intro hc<;>(try simp only [go_sem] at hc))|(refine qJ ?_ ?_<;>intro hc<;>(try simp only [hc])<;>(try simp only [go_sem] at hc)))
  refine retS_of rfl ?_ rfl; simp only [oneD, St.op, get, Nat.reduceEqDiff, ↓reduceIte, Option.getD_some, bD, dI]
  rw [he, List.take_length]
def bearsI (b : Lod) (k : Int) : Int := (b.sl * k).tdiv 1000
theorem crBears (b : Lod) (h : b.ok) (k : Int) (hk : 0 ≤ k ∧ k ≤ 1000) : DCall Try.prog 118 [.agg ((eLd b).map D.c), dI k] [] (dI (bearsI b k)) [] := by
 have hs := h.strong
 have hm := mulB0 (a := b.sl) (b := k) (A := 20000000) (B := 1000) (by omega) hk
 have hq := tdiv_b (b := 1000) (A := 20000000000) (a := b.sl * k) (by omega) (by decide)
 unfold bearsI
 refine DCall.of Try.func118 sf118 hb118 (Nat.le_of_ble_eq_true rfl) (okRes_nil fun _ => rfl) ?_; simp only [s118, idxs, Nat.reduceAdd]
 repeat' (first|(with_reducible first|apply qA|apply qB|apply qC|apply qD|apply qE|apply qF)|(simp (disch:=omega) only [go_sem, simprocAttr, Blk.men, Blk.keysIn, rF, rG])|exact qM rfl rfl rfl|(refine qG rfl ?_)|(refine qH rfl ?_)|(refine qI rfl ?_ ?_<;>intro hc<;>(try simp only [go_sem] at hc))|(refine qJ ?_ ?_<;>intro hc<;>(try simp only [hc])<;>(try simp only [go_sem] at hc)))
def highI (b : Lod) (l : List (Int × Int)) (days : Int) : Int := if b.wh = 0 then 50 else if 1 + (bearsI b (lastI days l 0)).tdiv b.wh < 50 then 1 + (bearsI b (lastI days l 0)).tdiv b.wh else 50
theorem crHigh (b : Lod) (h : b.ok) (l : List (Int × Int)) (days : Int) (ht : TabOk l days) : DCall Try.prog 91 [.agg ((eLd b).map D.c), .c (.sl false 2 (rows eK l)), dI days] [] (.tup [dI (highI b l days), dI 0]) [] := by
 have h1 := crBoxes true [b] 1 (by simp) (by simp) (by simpa using h)
 have h2 := crTable l days ht
 have h3 := crLast false l days (by have := ht.len; omega)
 have hk := lastI_b days l 0 (fun s hs => (ht.mem s hs).2) (by decide)
 have h4 := crBears b h (lastI days l 0) hk
 have hs := h.strong
 have hw := h.weight
 unfold highI
 have hbb : 0 ≤ bearsI b (lastI days l 0) ∧ bearsI b (lastI days l 0) ≤ 20000000000 := by
  have hm := mulB0 (a := b.sl) (b := lastI days l 0) (A := 20000000) (B := 1000) (by omega) hk
  exact tdiv_b (by omega) (by decide)
 generalize lastI days l 0 = k at *
 generalize bearsI b k = be at *
 by_cases h0 : b.wh = 0
 ·have he : (b.wh == 0) = true := by rw [h0]; rfl
  rw [if_pos h0]
  refine DCall.of Try.func91 sf91 hb91 (Nat.le_of_ble_eq_true rfl) (okRes_nil fun _ => rfl) ?_; simp only [s91, idxs, Nat.reduceAdd]
  repeat' (first|(with_reducible first|apply qA|apply qB|apply qC|apply qD|apply qE|apply qF)|(refine qL rfl (WF.of ?_) ?_; first|rfl|skip)|(simp (disch:=omega) only [go_sem, simprocAttr, Blk.men, Blk.keysIn, rF, rG, he])|exact qM rfl rfl rfl|(refine qG rfl ?_)|(refine qK (h1) (by decide) ?_)|(refine qK (h2) (by decide) ?_)|(refine qH rfl ?_)|(refine qI rfl ?_ ?_<;>intro hc<;>(try simp only [go_sem] at hc))|(refine qJ ?_ ?_<;>intro hc<;>(try simp only [hc])<;>(try simp only [go_sem] at hc)))
 ·have he : (b.wh == 0) = false := by rw [beq_eq_false_iff_ne]; exact h0
  have hz : (b.wh = 0) = False := eq_false h0
  have hq := tdiv_b (b := b.wh) hbb (by omega)
  rw [if_neg h0]
  refine DCall.of Try.func91 sf91 hb91 (Nat.le_of_ble_eq_true rfl) (okRes_nil fun _ => rfl) ?_; simp only [s91, idxs, Nat.reduceAdd]
  repeat' (first|(with_reducible first|apply qA|apply qB|apply qC|apply qD|apply qE|apply qF)|(refine qL rfl (WF.of ?_) ?_; first|rfl|skip)|(simp (disch:=omega) only [go_sem, simprocAttr, Blk.men, Blk.keysIn, rF, rG, he, hz])|exact qM rfl rfl rfl|(refine qG rfl ?_)|(refine qK (h1) (by decide) ?_)|(refine qK (h2) (by decide) ?_)|(refine qK (h3) (by decide) ?_)|(refine qK (h4) (by decide) ?_)|(refine qH rfl ?_)|(refine qI rfl ?_ ?_<;>intro hc<;>(try simp only [go_sem] at hc))|(refine qJ ?_ ?_<;>intro hc<;>(try simp only [hc])<;>(try simp only [go_sem] at hc)))
end Go.Dw.Seat
end
section
set_option linter.unusedSimpArgs false
set_option maxRecDepth 100000
namespace Go.Dw.Seat
open Go Go.Dw Go.Proofs Go.IntWalk
def sumL : List Lod → Int
 | [] => 0
 | b :: t => sumL t + b.wl
def sumH : List Lod → Int
 | [] => 0
 | b :: t => sumH t + b.wh
theorem sum_b : ∀ {l : List Lod}, (∀ b ∈ l, b.ok) → (0 ≤ sumL l ∧ sumL l ≤ 100000 * (l.length : Int)) ∧ 0 ≤ sumH l ∧ sumH l ≤ 100000 * (l.length : Int)
 | [], _ => by simp [sumL, sumH]
 | b :: t, h => by
  have ih := sum_b (l := t) (fun x hx => h x (by simp [hx]))
  have hb := (h b (by simp)).weight
  simp only [sumL, sumH, List.length_cons, Int.natCast_add, Int.natCast_one]
  omega
def failN (k : Int) : List Lod → Option Nat
 | [] => none
 | b :: t => if bearsI b k < sumH t then some 0 else (failN k t).map (· + 1)
theorem bears_mono {b : Lod} (h : b.ok) {k k' : Int} (hk : 0 ≤ k) (hkk : k ≤ k') : bearsI b k ≤ bearsI b k' := by
 have hs := h.strong
 have m1 : 0 ≤ b.sl * k := Int.mul_nonneg hs.1 hk
 have m2 : b.sl * k ≤ b.sl * k' := Int.mul_le_mul_of_nonneg_left hkk hs.1
 unfold bearsI
 rw [Int.tdiv_eq_ediv_of_nonneg m1, Int.tdiv_eq_ediv_of_nonneg (by omega)]
 exact Int.ediv_le_ediv (by decide) m2
theorem bears_b {b : Lod} (h : b.ok) {k : Int} (hk : 0 ≤ k ∧ k ≤ 1000) : 0 ≤ bearsI b k ∧ bearsI b k ≤ 20000000 := by
 have hs := h.strong
 have m1 := mulB0 (a := b.sl) (b := k) (A := 20000000) (B := 1000) (by omega) hk
 unfold bearsI
 rw [Int.tdiv_eq_ediv_of_nonneg (by omega)]
 omega
theorem failN_mono {k k' : Int} (hk : 0 ≤ k) (hkk : k ≤ k') : ∀ {l : List Lod}, (∀ b ∈ l, b.ok) → failN k l = none → failN k' l = none
 | [], _, _ => rfl
 | b :: t, h, hf => by
  simp only [failN] at hf ⊢
  split at hf
  ·cases hf
  ·rename_i h1
   have := bears_mono (h b (by simp)) hk hkk
   rw [if_neg (by omega), failN_mono hk hkk (fun x hx => h x (by simp [hx])) (by simpa using hf)]
   rfl
def AscT : List (Int × Int) → Prop
 | [] => True
 | u :: t => (∀ v ∈ t, u.1 < v.1 ∧ v.2 ≤ u.2) ∧ AscT t
theorem ascT_of : ∀ {l : List (Int × Int)}, (∀ (i : Nat) (u v : Int × Int), l[i]? = some u → l[i + 1]? = some v → u.1 < v.1 ∧ v.2 ≤ u.2) → AscT l
 | [], _ => trivial
 | u :: t, h => by
  have ih := ascT_of (l := t) (fun i a b ha hb => h (i + 1) a b ha hb)
  refine ⟨?_, ih⟩
  rcases t with _ | ⟨w, t⟩
  ·intro v hv; cases hv
  ·have h0 := h 0 u w rfl rfl
   intro v hv
   rcases List.mem_cons.1 hv with rfl | hv
   ·exact h0
   ·have := ih.1 v hv
    omega
theorem TabF.asc {l : List (Int × Int)} (h : TabF l) : AscT l := ascT_of h.step
theorem lastI_cons (day : Int) (s : Int × Int) (t : List (Int × Int)) (k : Int) : lastI day (s :: t) k = lastI day t (if s.1 ≤ day then s.2 else k) := rfl
theorem lastI_past {day : Int} : ∀ {l : List (Int × Int)} {k : Int}, (∀ v ∈ l, day < v.1) → lastI day l k = k
 | [], _, _ => rfl
 | s :: t, k, h => by
  have := h s (by simp)
  rw [lastI_cons, if_neg (by omega)]
  exact lastI_past (fun v hv => h v (by simp [hv]))
theorem lastI_le {day : Int} : ∀ {l : List (Int × Int)} {k : Int}, AscT l → (∀ v ∈ l, v.2 ≤ k) → lastI day l k ≤ k
 | [], _, _, _ => Int.le_refl _
 | s :: t, k, ha, h => by
  have hs := h s (by simp)
  rw [lastI_cons]
  split
  ·have := lastI_le (day := day) (k := s.2) ha.2 (fun v hv => (ha.1 v hv).2)
   omega
  ·exact lastI_le ha.2 (fun v hv => h v (by simp [hv]))
theorem lastI_anti {day days : Int} (hd : day ≤ days) : ∀ {l : List (Int × Int)} {k : Int}, AscT l → (∀ v ∈ l, v.2 ≤ k) → lastI days l k ≤ lastI day l k
 | [], _, _, _ => Int.le_refl _
 | s :: t, k, ha, h => by
  have hs := h s (by simp)
  rw [lastI_cons, lastI_cons]
  by_cases h1 : s.1 ≤ day
  ·rw [if_pos h1, if_pos (by omega)]
   exact lastI_anti hd ha.2 (fun v hv => (ha.1 v hv).2)
  ·rw [if_neg h1]
   have h2 : lastI day t k = k := lastI_past (fun v hv => by have := (ha.1 v hv).1; omega)
   rw [h2]
   split
   ·have := lastI_le (day := days) (k := s.2) ha.2 (fun v hv => (ha.1 v hv).2)
    omega
   ·exact lastI_le ha.2 (fun v hv => h v (by simp [hv]))
def fallT (st : List Lod) (days : Int) : List (Int × Int) → Option (Int × Nat)
 | [] => none
 | s :: t => if days < s.1 then none else match failN s.2 st with
  | some i => some (s.1, i)
  | none => fallT st days t
theorem fall_none {st : List Lod} {days : Int} : ∀ {l : List (Int × Int)}, AscT l → fallT st days l = none → ∀ day k, day ≤ days → failN k st = none → failN (lastI day l k) st = none
 | [], _, _, _, _, _, hk => hk
 | s :: t, ha, hf, day, k, hd, hk => by
  simp only [fallT] at hf
  rw [lastI_cons]
  split at hf
  ·rename_i h1
   rw [if_neg (by omega), lastI_past (fun v hv => by have := (ha.1 v hv).1; omega)]
   exact hk
  ·split at hf
   ·cases hf
   ·rename_i h2
    split
    ·exact fall_none ha.2 hf day s.2 hd h2
    ·exact fall_none ha.2 hf day k hd hk
theorem fall_some {st : List Lod} {days d : Int} {i : Nat} : ∀ {l : List (Int × Int)}, AscT l → fallT st days l = some (d, i) → (d ≤ days ∧ (∃ v ∈ l, v.1 = d)) ∧ (∀ k, failN (lastI d l k) st = some i) ∧ ∀ day k, day < d → failN k st = none → failN (lastI day l k) st = none
 | s :: t, ha, hf => by
  simp only [fallT] at hf
  split at hf
  ·cases hf
  rename_i h1
  split at hf
  ·rename_i j hj
   cases hf
   refine ⟨⟨by omega, s, by simp, rfl⟩, fun k => ?_, fun day k hd hk => ?_⟩
   ·rw [lastI_cons, if_pos (Int.le_refl _), lastI_past (fun v hv => (ha.1 v hv).1)]
    exact hj
   ·rw [lastI_cons, if_neg (by omega), lastI_past (fun v hv => by have := (ha.1 v hv).1; omega)]
    exact hk
  ·rename_i hj
   obtain ⟨⟨h2, v, hv, rfl⟩, h3, h4⟩ := fall_some ha.2 hf
   have hsv := (ha.1 v hv).1
   refine ⟨⟨h2, v, by simp [hv], rfl⟩, fun k => ?_, fun day k hd hk => ?_⟩
   ·rw [lastI_cons]; exact h3 _
   ·rw [lastI_cons]
    split
    ·exact h4 day s.2 hd hj
    ·exact h4 day k hd hk
theorem TabF.head {l : List (Int × Int)} (h : TabF l) : ∃ k t, l = (0, k) :: t ∧ 0 ≤ k ∧ k ≤ 1000 := by
 rcases l with _ | ⟨⟨d, k⟩, t⟩
 ·have := h.len.1; simp at this
 ·have h0 : d = 0 := h.first (d, k) rfl
  subst h0
  exact ⟨k, t, rfl, (h.mem (0, k) (by simp)).2⟩
theorem kept_b {l : List (Int × Int)} (h : TabF l) (day : Int) : 0 ≤ lastI day l 0 ∧ lastI day l 0 ≤ 1000 := lastI_b day l 0 (fun s hs => (h.mem s hs).2) (by decide)
theorem fall_iff {st : List Lod} (hst : ∀ b ∈ st, b.ok) {l : List (Int × Int)} {days : Int} (h : TabOk l days) : fallT st days l = none ↔ failN (lastI days l 0) st = none := by
 obtain ⟨k, t, rfl, hk⟩ := h.head
 have ha := h.asc
 have hd := h.days
 constructor
 ·intro hf
  have h1 := hf
  simp only [fallT] at h1
  rw [if_neg (by omega)] at h1
  split at h1
  ·cases h1
  ·rename_i h2
   rw [lastI_cons, if_pos (by omega)]
   exact fall_none ha.2 h1 days k (Int.le_refl _) h2
 ·intro hl
  cases hf : fallT st days ((0, k) :: t) with
  | none => rfl
  | some p =>
   obtain ⟨d, i⟩ := p
   obtain ⟨⟨h1, v, hv, hvd⟩, h2, _⟩ := fall_some ha hf
   have h3 := h2 0
   have hd0 : 0 ≤ d := by have := (h.mem v hv).1; omega
   have e1 : ∀ day, 0 ≤ day → lastI day ((0, k) :: t) 0 = lastI day t k := fun day h => by rw [lastI_cons, if_pos h]
   rw [e1 d hd0] at h3
   have h5 := (kept_b h.toTabF days).1
   rw [e1 days hd.1] at hl h5
   have h4 := lastI_anti h1 (k := k) ha.2 (fun v hv => (ha.1 v hv).2)
   have := failN_mono h5 h4 hst hl
   rw [h3] at this; cases this
theorem sumH_rep (b : Lod) : ∀ n : Nat, sumH (List.replicate n b) = (n : Int) * b.wh
 | 0 => by simp [sumH]
 | n + 1 => by
  rw [List.replicate_succ, sumH, sumH_rep b n, Int.natCast_add, Int.natCast_one, Int.add_mul, Int.one_mul]
theorem failN_rep {b : Lod} (h : b.ok) {k : Int} (hk : 0 ≤ k ∧ k ≤ 1000) : ∀ n : Nat, failN k (List.replicate (n + 1) b) = none ↔ (n : Int) * b.wh ≤ bearsI b k
 | 0 => by
  have := bears_b h hk
  have e : failN k (List.replicate (0 + 1) b) = none := by
   simp only [List.replicate_succ, List.replicate_zero, failN]
   rw [if_neg (show ¬ bearsI b k < sumH [] by show ¬ _ < (0 : Int); omega)]; rfl
  rw [e]
  simp; omega
 | n + 1 => by
  have ih := failN_rep h hk n
  have hw := h.weight
  rw [List.replicate_succ, failN, sumH_rep]
  have e : ((n + 1 : Nat) : Int) * b.wh = (n : Int) * b.wh + b.wh := by rw [Int.natCast_add, Int.natCast_one, Int.add_mul, Int.one_mul]
  rw [e] at *
  split
  ·rename_i h1
   simp; omega
  ·rename_i h1
   have : failN k (List.replicate (n + 1) b) = none := ih.2 (by omega)
   rw [this]
   simp; omega
theorem high_iff {b : Lod} (h : b.ok) {l : List (Int × Int)} {days : Int} (ht : TabOk l days) (n : Nat) (hn : n < 50) : failN (lastI days l 0) (List.replicate (n + 1) b) = none ↔ ((n : Int) + 1 ≤ highI b l days) := by
 have hk := kept_b ht.toTabF days
 rw [failN_rep h hk]
 have hb := bears_b h hk
 have hw := h.weight
 unfold highI
 generalize bearsI b (lastI days l 0) = B at *
 by_cases h0 : b.wh = 0
 ·rw [if_pos h0, h0, Int.mul_zero]
  constructor <;> intro _ <;> omega
 ·rw [if_neg h0]
  have hp : 0 < b.wh := by omega
  rw [Int.tdiv_eq_ediv_of_nonneg hb.1]
  have key : (n : Int) * b.wh ≤ B ↔ (n : Int) ≤ B / b.wh := (Int.le_ediv_iff_mul_le hp).symm
  rw [key]
  generalize B / b.wh = q
  split <;> constructor <;> intro _ <;> omega
end Go.Dw.Seat
end
section
set_option linter.unusedSimpArgs false
set_option maxRecDepth 100000
namespace Go.Dw.Seat
open Go Go.Dw Go.Proofs Go.IntWalk
def newt (n : Int) : Int := (n + 99) / 100
theorem plNewton (n : Int) (h : 0 ≤ n ∧ n ≤ 5000000) : DCall Try.prog 92 [dI n] [] (dI (newt n)) [] := by
 have ht : Int.tdiv (n + 99) 100 = (n + 99) / 100 := Int.tdiv_eq_ediv_of_nonneg (by omega)
 unfold newt
 refine DCall.of Try.func92 sf92 hb92 (Nat.le_of_ble_eq_true rfl) (okRes_nil fun _ => rfl) ?_; simp only [s92, idxs, Nat.reduceAdd]
 repeat' (first|(with_reducible first|apply qA|apply qB|apply qC|apply qD|apply qE|apply qF)|(simp (disch:=omega) only [go_sem, simprocAttr, qN, qO, qP, qQ, ht])|exact qM rfl rfl rfl|(refine qG rfl ?_)|(refine qH rfl ?_)|(refine qI rfl ?_ ?_<;>intro hc<;>(try simp only [go_sem] at hc))|(refine qJ ?_ ?_<;>intro hc<;>(try simp only [hc])<;>(try simp only [go_sem] at hc)))
def lodF (b : PBx) : Lod := ⟨b.sl, b.sh, newt b.wl, newt b.wh⟩
theorem lodF_ok {b : PBx} (hb : b.ok) : (lodF b).ok := by
 have h1 := hb.w
 have h2 := hb.s
 refine ⟨h2, ?_⟩
 simp only [lodF, newt]
 omega
def layI (p : PBs) (b : PBx) (n : Int) (hg : Int) : Int :=
 if 0 < n * b.wh then min (min (min 30 hg) (max 0 (p.top - p.hi) / b.hi)) (p.load / (n * b.wh)) else min (min 30 hg) (max 0 (p.top - p.hi) / b.hi)
set_option maxHeartbeats 4000000 in
theorem plLayersX (p : PBs) (b : PBx) (l : List PPl) (hl : l.length ≤ 2 ^ 36) (keep : List (Int × Int)) (days : Int) (ht : TabOk keep days) : DCall Try.prog 52 [bsD p, bxD b, lyD false l, .c (.sl false 2 (rows eK keep)), dI days] [] (.tup [dI (if rgtE p b [l] = 0 ∧ l ≠ [] then layI p b l.length (highI (lodF b) keep days) else 0), dI (if rgtE p b [l] ≠ 0 then rgtE p b [l] else if l = [] then 7 else 0)]) [] := by
 have h3 := plRight true p b [l] (by simp) (by simpa using hl)
 rw [one_ls] at h3
 by_cases hr : rgtE p b [l] = 0
 case neg =>
  rw [if_neg (fun h => hr h.1), if_pos hr]
  generalize rgtE p b [l] = e at *
  have hd : (e != 0) = true := by simpa using hr
  by_cases hc : chkE p b = 0
  ·rw [if_pos hc] at h3
   refine DCall.of Try.func52 sf52 hb52 (Nat.le_of_ble_eq_true rfl) (okRes_nil fun _ => rfl) ?_; simp only [s52, idxs, Nat.reduceAdd]
   repeat' (first|(with_reducible first|apply qA|apply qB|apply qC|apply qD|apply qE|apply qF)|(refine qL rfl (WF.of ?_) ?_; first|rfl|skip)|(simp (disch:=omega) only [go_sem, simprocAttr, qN, qO, qP, qQ, hd])|exact qM rfl rfl rfl|(refine qG rfl ?_)|(refine qK (h3) (by decide) ?_)|(refine qH rfl ?_)|(refine qI rfl ?_ ?_<;>intro hc<;>(try simp only [go_sem] at hc))|(refine qJ ?_ ?_<;>intro hc<;>(try simp only [hc])<;>(try simp only [go_sem] at hc)))
  ·rw [if_neg hc] at h3
   refine DCall.of Try.func52 sf52 hb52 (Nat.le_of_ble_eq_true rfl) (okRes_nil fun _ => rfl) ?_; simp only [s52, idxs, Nat.reduceAdd]
   repeat' (first|(with_reducible first|apply qA|apply qB|apply qC|apply qD|apply qE|apply qF)|(refine qL rfl (WF.of ?_) ?_; first|rfl|skip)|(simp (disch:=omega) only [go_sem, simprocAttr, qN, qO, qP, qQ, hd])|exact qM rfl rfl rfl|(refine qG rfl ?_)|(refine qK (h3) (by decide) ?_)|(refine qH rfl ?_)|(refine qI rfl ?_ ?_<;>intro hc<;>(try simp only [go_sem] at hc))|(refine qJ ?_ ?_<;>intro hc<;>(try simp only [hc])<;>(try simp only [go_sem] at hc)))
 obtain ⟨ho, hli⟩ := rgt_op hr
 obtain ⟨⟨hc, hy⟩, hp, hb⟩ := op_ok ho
 have k1 := ly_ok hy l (by simp)
 rw [hr, if_pos hc] at h3
 rw [hr]
 by_cases hn : l = []
 ·rw [if_neg (fun h => h.2 hn), if_neg (by simp), if_pos hn]
  have hd : ((l.length : Int) == 0) = true := by rw [hn]; rfl
  refine DCall.of Try.func52 sf52 hb52 (Nat.le_of_ble_eq_true rfl) (okRes_nil fun _ => rfl) ?_; simp only [s52, idxs, Nat.reduceAdd]
  repeat' (first|(with_reducible first|apply qA|apply qB|apply qC|apply qD|apply qE|apply qF)|(refine qL rfl (WF.of ?_) ?_; first|rfl|skip)|(simp (disch:=omega) only [go_sem, simprocAttr, qN, qO, qP, qQ, hd])|exact qM rfl rfl rfl|(refine qG rfl ?_)|(refine qK (h3) (by decide) ?_)|(refine qH rfl ?_)|(refine qI rfl ?_ ?_<;>intro hc<;>(try simp only [go_sem] at hc))|(refine qJ ?_ ?_<;>intro hc<;>(try simp only [hc])<;>(try simp only [go_sem] at hc)))
 have hnl : 0 < l.length := List.length_pos_iff.2 hn
 rw [if_pos ⟨rfl, hn⟩, if_neg (by simp), if_neg hn]
 have hd : ((l.length : Int) == 0) = false := by rw [beq_eq_false_iff_ne]; omega
 have hw := hb.w
 have hhi := hb.hi
 have hph := hp.hi
 have hpt := hp.top
 have hpl := hp.load
 have n1 := plNewton b.wl (by omega)
 have n2 := plNewton b.wh (by omega)
 have hH := crHigh (lodF b) (lodF_ok hb) keep days ht
 simp only [lodF, eLd, List.map_cons, List.map_nil] at hH
 generalize hhg : highI (lodF b) keep days = hg
 rw [show highI ⟨b.sl, b.sh, newt b.wl, newt b.wh⟩ keep days = hg from hhg] at hH
 have hz : (b.hi = 0) = False := eq_false (by omega)
 have hm0 : 0 ≤ (l.length : Int) * b.wh := Int.mul_nonneg (by omega) (by omega)
 have hm1 : (l.length : Int) * b.wh ≤ 200 * 5000000 := Int.mul_le_mul (by omega) (by omega) (by omega) (by omega)
 have w1 : IntKind.i64.wrap ((l.length : Int) * b.wh) = (l.length : Int) * b.wh := IntWalk.i64_in _ (by omega)
 have t1 : Int.tdiv (max 0 (p.top - p.hi)) b.hi = max 0 (p.top - p.hi) / b.hi := Int.tdiv_eq_ediv_of_nonneg (by omega)
 have q1 : 0 ≤ max 0 (p.top - p.hi) / b.hi := Int.ediv_nonneg (by omega) (by omega)
 have q2 : max 0 (p.top - p.hi) / b.hi ≤ max 0 (p.top - p.hi) := Int.ediv_le_self _ (by omega)
 have w2 : IntKind.i64.wrap (max 0 (p.top - p.hi) / b.hi) = max 0 (p.top - p.hi) / b.hi := IntWalk.i64_in _ (by omega)
 unfold layI
 by_cases h0 : 0 < (l.length : Int) * b.wh
 ·have d0 : decide (0 < (l.length : Int) * b.wh) = true := decide_eq_true h0
  have hz2 : ((l.length : Int) * b.wh = 0) = False := eq_false (by omega)
  have t2 : Int.tdiv p.load ((l.length : Int) * b.wh) = p.load / ((l.length : Int) * b.wh) := Int.tdiv_eq_ediv_of_nonneg (by omega)
  have q3 : 0 ≤ p.load / ((l.length : Int) * b.wh) := Int.ediv_nonneg (by omega) (by omega)
  have q4 : p.load / ((l.length : Int) * b.wh) ≤ p.load := Int.ediv_le_self _ (by omega)
  have w3 : IntKind.i64.wrap (p.load / ((l.length : Int) * b.wh)) = p.load / ((l.length : Int) * b.wh) := IntWalk.i64_in _ (by omega)
  rw [if_pos h0]
  refine DCall.of Try.func52 sf52 hb52 (Nat.le_of_ble_eq_true rfl) (okRes_nil fun _ => rfl) ?_; simp only [s52, idxs, Nat.reduceAdd]
  repeat' (first|(with_reducible first|apply qA|apply qB|apply qC|apply qD|apply qE|apply qF)|(refine qL rfl (WF.of ?_) ?_; first|rfl|skip)|(simp (disch:=omega) only [go_sem, simprocAttr, qN, qO, qP, qQ, hd, d0, hz, hz2, w1, w2, w3, t1, t2, min_if, max_if, rF, rG])|exact qM rfl rfl rfl|(refine qG rfl ?_)|(refine qK (h3) (by decide) ?_)|(refine qK (n1) (by decide) ?_)|(refine qK (n2) (by decide) ?_)|(refine qK (hH) (by decide) ?_)|(refine qH rfl ?_)|(refine qI rfl ?_ ?_<;>intro hc<;>(try simp only [go_sem] at hc))|(refine qJ ?_ ?_<;>intro hc<;>(try simp only [hc])<;>(try simp only [go_sem] at hc)))
  skip
 ·have d0 : decide (0 < (l.length : Int) * b.wh) = false := decide_eq_false h0
  rw [if_neg h0]
  refine DCall.of Try.func52 sf52 hb52 (Nat.le_of_ble_eq_true rfl) (okRes_nil fun _ => rfl) ?_; simp only [s52, idxs, Nat.reduceAdd]
  repeat' (first|(with_reducible first|apply qA|apply qB|apply qC|apply qD|apply qE|apply qF)|(refine qL rfl (WF.of ?_) ?_; first|rfl|skip)|(simp (disch:=omega) only [go_sem, simprocAttr, qN, qO, qP, qQ, hd, d0, hz, w1, w2, t1, min_if, max_if, rF, rG])|exact qM rfl rfl rfl|(refine qG rfl ?_)|(refine qK (h3) (by decide) ?_)|(refine qK (n1) (by decide) ?_)|(refine qK (n2) (by decide) ?_)|(refine qK (hH) (by decide) ?_)|(refine qH rfl ?_)|(refine qI rfl ?_ ?_<;>intro hc<;>(try simp only [go_sem] at hc))|(refine qJ ?_ ?_<;>intro hc<;>(try simp only [hc])<;>(try simp only [go_sem] at hc)))
  skip
end Go.Dw.Seat
end
section
set_option linter.unusedSimpArgs false
set_option maxRecDepth 100000
namespace Go.Dw.Seat
open Go Go.Dw Go.Proofs Go.IntWalk
def cells (xs : List Int) : List D := xs.map fun x => dI x
def tops (m : Nat) : List D := List.replicate m .top
theorem cells_get {xs : List Int} {m i : Nat} (h : i < xs.length) : (cells xs ++ tops m)[i]? = some (dI (xs.getD i 0)) := by
 rw [List.getElem?_append_left (by simpa [cells] using h), cells, List.getElem?_map, List.getElem?_eq_getElem h, List.getD_eq_getElem?_getD, List.getElem?_eq_getElem h]
 rfl
theorem cells_set {xs : List Int} {m i : Nat} (h : i < xs.length) (v : Int) : (cells xs ++ tops m).set i (D.c (.v (.int .i64 v))) = cells (xs.set i v) ++ tops m := by
 rw [List.set_append_left _ _ (by simpa [cells] using h), cells, cells, List.map_set]
theorem cells_spl {xs : List Int} {m i : Nat} (h : i < xs.length) (v : Int) : List.take i (cells xs ++ tops m) ++ [D.c (.v (.int .i64 v))] ++ List.drop (i + 1) (cells xs ++ tops m) = cells (xs.set i v) ++ tops m := by
 rw [← cells_set h, List.set_eq_take_append_cons_drop, if_pos (by rw [List.length_append]; have : (cells xs).length = xs.length := (by simp [cells]); omega), List.append_assoc]; rfl
theorem cells_len (xs : List Int) (m : Nat) : (cells xs ++ tops m).length = xs.length + m := by simp [cells, tops]
theorem cells_men (j : Nat) (xs : List Int) (m : Nat) : D.mens j (cells xs ++ tops m) = false := by
 induction xs with
 | nil =>
  show D.mens j (tops m) = false
  induction m with
  | zero => rfl
  | succ m ih => simpa [tops, List.replicate_succ, D.mens, D.men] using ih
 | cons x xs ih => simpa [cells, D.mens, D.men, dI] using ih
theorem cells_nb (xs : List Int) (m : Nat) : D.nbs (cells xs ++ tops m) = true := by
 induction xs with
 | nil =>
  show D.nbs (tops m) = true
  induction m with
  | zero => rfl
  | succ m ih => simp only [tops, List.replicate_succ, D.nbs, Bool.and_eq_true]; exact ⟨rfl, ih⟩
 | cons x xs ih => simp only [cells, List.map_cons, List.cons_append, D.nbs, Bool.and_eq_true]; exact ⟨rfl, ih⟩
theorem cells_keys (bx : List (Nat × Blk)) (xs : List Int) (m : Nat) : D.keysIns bx (cells xs ++ tops m) = true := by
 induction xs with
 | nil =>
  show D.keysIns bx (tops m) = true
  induction m with
  | zero => rfl
  | succ m ih => simpa [tops, List.replicate_succ, D.keysIns, D.keysIn] using ih
 | cons x xs ih => simpa [cells, D.keysIns, D.keysIn, dI] using ih
theorem bk_pbx (bx : List (Nat × Blk)) (l : Nat) (ds : List D) : Blk.keysIn bx (.pbox l ds) = D.keysIns bx ds := rfl
theorem bm_pbx (k l : Nat) (ds : List D) : Blk.men k (.pbox l ds) = D.mens k ds := rfl
attribute [go_sem] cells_keys bk_pbx bm_pbx cells_men
theorem flatI (xs : List Int) : (rowC (rows eI xs)).flatten = cells xs := by
 induction xs with
 | nil => rfl
 | cons x xs ih => simp only [rows, rowC, List.map_cons, List.flatten_cons] at ih ⊢; rw [ih]; rfl
def swp1 (xs : List Int) (i j : Nat) : List Int := (xs.set i (xs.getD j 0)).set j (xs.getD i 0)
def swpN (lo L : Nat) : Nat → List Int → List Int
 | 0, xs => xs
 | k + 1, xs => swp1 (swpN lo L k xs) (lo + k) (lo + L - 1 - k)
theorem swpN_len (lo L : Nat) (xs : List Int) : ∀ k, (swpN lo L k xs).length = xs.length
 | 0 => rfl
 | k + 1 => by rw [swpN, swp1, List.length_set, List.length_set, swpN_len lo L xs k]
def revF (lo L : Nat) (xs : List Int) : List Int := swpN lo L (L / 2) xs
theorem pb_ok (k l : Nat) (xs : List Int) (m : Nat) : okRes (.tup []) [(k, .pbox l (cells xs ++ tops m))] := by
 refine ⟨fun _ _ => rfl, fun j x hj i _ => ?_⟩
 simp only [get] at hj
 split at hj
 ·cases hj; exact cells_men i xs m
 ·cases hj
theorem pb_nb (k l : Nat) (xs : List Int) (m : Nat) {j : Nat} {x : Blk} (hk : get j [(k, Blk.pbox l (cells xs ++ tops m))] = some x) : j = k ∧ x = .pbox l (cells xs ++ tops m) ∧ x.nb = true := by
 simp only [get] at hk
 split at hk
 ·rename_i e; cases hk; exact ⟨e, rfl, cells_nb xs m⟩
 ·cases hk
theorem plReverse (l lo L cap m : Nat) (xs : List Int) (hx : xs.length ≤ 7) (hl : lo + L = xs.length) (hc : L ≤ cap) : DCall Try.prog 112 [.c (.v (.slice (some ⟨l, lo, none⟩) L cap))] [(9, .pbox l (cells xs ++ tops m))] (.tup []) [(9, .pbox l (cells (revF lo L xs) ++ tops m))] := by
 refine DCall.of Try.func112 sf112 hb112 (Nat.le_of_ble_eq_true rfl) (pb_ok _ _ _ _) ?_
 simp only [s112, o112_0, o112_1, o112_2, o112_3, o112_4, o112_5, o112_6, o112_7, o112_8, o112_9, o112_10, o112_11, o112_12, o112_13, o112_14, o112_15, idxs, Nat.reduceAdd]
 repeat' (first|(with_reducible first|apply qA|apply qB|apply qC|apply qD|apply qE|apply qF)|(refine DW.ord rfl (WF.of (by first|rfl|simp (disch:=omega) only [go_sem, simprocAttr, qN, qO, qP, qQ])) ?_ ?_ ?_; rotate_left)|rfl|(with_reducible refine And.intro ?_ ?_)|(simp (disch:=omega) only [go_sem, simprocAttr, qN, qO, qP, qQ])|exact qM rfl rfl rfl|(refine qG rfl ?_)|(refine qH rfl ?_)|(refine qI rfl ?_ ?_<;>intro hc<;>(try simp only [go_sem] at hc))|(refine qJ ?_ ?_<;>intro hc<;>(try simp only [hc])<;>(try simp only [go_sem] at hc)))
 refine DW.loop (ι := { i : Nat // i ≤ L / 2 }) (fun i => ⟨28, [(3, dI ((L : Int) - 1 - i.1)), (2, dI i.1), (0, .c (.v (.slice (some ⟨l, lo, none⟩) L cap)))], [(9, .pbox l (cells (swpN lo L i.1 xs) ++ tops m))]⟩) (fun i => L / 2 - i.1) ⟨0, Nat.zero_le _⟩ ?_ ?_
 ·refine Ent.to ?_ ?_ <;> simp (disch:=omega) only [qR,qS,qT,qU,get,Nat.reduceEqDiff,↓reduceIte,qV,qW,qX,qY,qZ,and_self,dI,i64_in,and_true,true_and,rA,rB,rC,rD,swpN,Int.sub_zero]
  all_goals first | exact ⟨.refl _, .refl _, .refl _⟩ | exact ⟨.refl _, .refl _⟩ | exact .refl _
 rintro ⟨i, hi⟩
 dsimp only
 by_cases hlt : i < L / 2
 ·have hj : (L : Int) - 1 - (i : Int) = ((L - 1 - i : Nat) : Int) := by omega
  have hd : decide ((i : Int) < ((L - 1 - i : Nat) : Int)) = true := decide_eq_true (by omega)
  have hlen := swpN_len lo L xs i
  have hst : swpN lo L (i + 1) xs = swp1 (swpN lo L i xs) (lo + i) (lo + L - 1 - i) := rfl
  have hjj : lo + L - 1 - i = lo + (L - 1 - i) := by omega
  rw [hjj] at hst
  have h1 := cells_get (xs := swpN lo L i xs) (m := m) (i := lo + i) (by omega)
  have h2 := cells_get (xs := swpN lo L i xs) (m := m) (i := lo + (L - 1 - i)) (by omega)
  have h3 := cells_len (swpN lo L i xs) m
  generalize swpN lo L i xs = ys at *
  have h4 := fun v => cells_spl (xs := ys) (m := m) (i := lo + i) (by omega) v
  have h5 := fun v w => cells_spl (xs := ys.set (lo + i) v) (m := m) (i := lo + (L - 1 - i)) (by rw [List.length_set]; omega) w
  have h6 := fun v => cells_get (xs := ys.set (lo + i) v) (m := m) (i := lo + (L - 1 - i)) (by rw [List.length_set]; omega)
  have h7 := fun v => cells_len (ys.set (lo + i) v) m
  have b1 : (i < L) = True := eq_true (by omega)
  have b2 : (L - 1 - i < L) = True := eq_true (by omega)
  have c1 : (lo + i + 1 ≤ ys.length + m) = True := eq_true (by omega)
  have c2 : (lo + (L - 1 - i) + 1 ≤ ys.length + m) = True := eq_true (by omega)
  rw [hj]
  generalize L - 1 - i = j at *
  repeat' (first|(with_reducible first|apply qA|apply qB|apply qC|apply qD|apply qE|apply qF)|(refine DW.ord rfl (WF.of (by first|rfl|simp (disch:=omega) only [go_sem, simprocAttr, qN, qO, qP, qQ, Nat.mul_one, hd, h1, h2, h3, h4, h5, h6, h7, b1, b2, c1, c2, List.length_set])) ?_ ?_ ?_; rotate_left)|rfl|(with_reducible refine And.intro ?_ ?_)|(simp (disch:=omega) only [go_sem, simprocAttr, qN, qO, qP, qQ, Nat.mul_one, hd, h1, h2, h3, h4, h5, h6, h7, b1, b2, c1, c2, List.length_set])|exact qM rfl rfl rfl|(refine qG rfl ?_)|(refine qH rfl ?_)|(refine qI rfl ?_ ?_<;>intro hc<;>(try simp only [go_sem] at hc))|(refine qJ ?_ ?_<;>intro hc<;>(try simp only [hc])<;>(try simp only [go_sem] at hc)))
  have hst2 : swpN lo L (i + 1) xs = (ys.set (lo + i) (ys.getD (lo + j) 0)).set (lo + j) (ys.getD (lo + i) 0) := hst
  have hj2 : (L : Int) - 1 - ((i + 1 : Nat) : Int) = (j : Int) - 1 := by omega
  refine ⟨⟨i + 1, by omega⟩, (by show _ < _; (try simp only); omega), Ent.to ?_ ?_⟩
  ·dsimp only
   rw [hj2]
   simp (disch:=omega) only [qR,qS,qT,qU,get,Nat.reduceEqDiff,↓reduceIte,qV,qW,qX,qY,qZ,and_self,dI,i64_in,and_true,true_and,rA,rB,rC,rD]
  ·dsimp only
   rw [hst2]
   simp (disch:=omega) only [qR,qS,qT,qU,get,Nat.reduceEqDiff,↓reduceIte,qV,qW,qX,qY,qZ,and_self,dI,i64_in,and_true,true_and,rA,rB,rC,rD]
 ·have hd : decide ((i : Int) < (L : Int) - 1 - (i : Int)) = false := decide_eq_false (by omega)
  obtain rfl : i = L / 2 := by omega
  rw [revF]
  repeat' (first|(with_reducible first|apply qA|apply qB|apply qC|apply qD|apply qE|apply qF)|(refine DW.ord rfl (WF.of (by first|rfl|simp (disch:=omega) only [go_sem, simprocAttr, qN, qO, qP, qQ, hd])) ?_ ?_ ?_; rotate_left)|rfl|(with_reducible refine And.intro ?_ ?_)|(simp (disch:=omega) only [go_sem, simprocAttr, qN, qO, qP, qQ, hd])|exact qM rfl rfl rfl|(refine qG rfl ?_)|(refine qH rfl ?_)|(refine qI rfl ?_ ?_<;>intro hc<;>(try simp only [go_sem] at hc))|(refine qJ ?_ ?_<;>intro hc<;>(try simp only [hc])<;>(try simp only [go_sem] at hc)))
  exact ⟨.inr rfl, _, [], Ent.refl _, rfl, .refl _, rfl, fun j x hj => by
   obtain ⟨rfl, rfl, hn⟩ := pb_nb 9 l _ m hj
   exact ⟨by simp (disch:=omega) only [go_sem,simprocAttr,qN,qO,qP,qQ], hn⟩⟩
end Go.Dw.Seat
end
section
set_option linter.unusedSimpArgs false
set_option maxRecDepth 100000
namespace Go.Dw.Seat
open Go Go.Dw Go.Proofs Go.IntWalk
def dscF (xs : List Int) : Nat → Nat
 | 0 => 0
 | c + 1 => if xs.getD (c + 1) 0 < xs.getD c 0 then dscF xs c else c + 1
def ascF (xs : List Int) (v : Int) : Nat → Nat
 | 0 => 0
 | j + 1 => if xs.getD (j + 1) 0 < v then ascF xs v j else j + 1
def nxtP (xs : List Int) : Option (List Int) := match dscF xs (xs.length - 1) with
 | 0 => none
 | i + 1 => some (revF (i + 1) (xs.length - (i + 1)) (swp1 xs i (ascF xs (xs.getD i 0) (xs.length - 1))))
def goP : Nat → List Int → List (List Int)
 | 0, _ => []
 | f + 1, xs => xs :: match nxtP xs with
  | none => []
  | some ys => goP f ys
def okP (n : Nat) : Nat → List Int → Bool
 | 0, _ => false
 | f + 1, xs => (xs.length == n && xs.all (fun x => decide (0 ≤ x) && decide (x < n))) && (match dscF xs (n - 1) with | 0 => true | i + 1 => decide (i + 1 < n) && decide (i < ascF xs (xs.getD i 0) (n - 1))) && match nxtP xs with
  | none => true
  | some ys => okP n f ys
def upN (n : Nat) : List Int := (List.range n).map fun i : Nat => (i : Int)
theorem upN_ok : ∀ n : Fin 7, okP n.1 721 (upN n.1) = true := by decide +kernel
theorem upN_succ (n : Nat) : upN (n + 1) = upN n ++ [(n : Int)] := by simp [upN, List.range_succ]
theorem upN_len (n : Nat) : (upN n).length = n := by simp [upN]
def enO (l : List Int) : List D := [dIs true l]
theorem plOrders0 (n : Nat) : DCall Try.prog 81 [dI n] [] (.fn (.func 111) [] [.c (.ro false [.v (.int .i64 n)] 0)]) [] := by
 refine DCall.of Try.func81 sf81 hb81 (Nat.le_of_ble_eq_true rfl) (okRes_nil fun _ => rfl) ?_; simp only [s81, idxs, Nat.reduceAdd]
 repeat' (first|(with_reducible first|apply qA|apply qB|apply qC|apply qD|apply qE|apply qF)|(refine DW.ord rfl (WF.of (by first|rfl|simp (disch:=omega) only [go_sem, simprocAttr, qN, qO, qP, qQ])) ?_ ?_ ?_; rotate_left)|rfl|(with_reducible refine And.intro ?_ ?_)|(simp (disch:=omega) only [go_sem, simprocAttr, qN, qO, qP, qQ])|exact qM rfl rfl rfl|(refine qG rfl ?_)|(refine qH rfl ?_)|(refine qI rfl ?_ ?_<;>intro hc<;>(try simp only [go_sem] at hc))|(refine qJ ?_ ?_<;>intro hc<;>(try simp only [hc])<;>(try simp only [go_sem] at hc)))
 (refine retS_ent (Ent.rel 1 rfl) ?_; simp (disch:=omega) only [go_sem,simprocAttr,qN,qO,qP,qQ])
 refine retS_wk rfl ?_ (by simp only [Blk.nb, rowC_nb, D.nb, D.nbs, C.nb, C.nbs, C.nbss, rows_nb eI_nb, Bool.and_true, Bool.not_false, Bool.and_self, bD, dI, iD]); exact .refl _
theorem del_none {k : Nat} : ∀ {l : List (Nat × Blk)}, get k l = none → del k l = l
 | [], _ => rfl
 | p :: l, h => by
  simp only [get] at h
  split at h
  ·cases h
  ·rename_i hne
   simp only [del]
   rw [if_neg (fun e => hne (by first | exact e | exact e.symm)), del_none h]
end Go.Dw.Seat
end
section
set_option linter.unusedSimpArgs false
set_option maxRecDepth 100000
namespace Go.Dw.Seat
open Go Go.Dw Go.Proofs Go.IntWalk
theorem rowI_len (xs : List Int) : (rowC (rows eI xs)).length = xs.length := by simp [rowC, rows]
theorem los_map (cs : List C) : D.los (cs.map D.c) = true := by
 induction cs with
 | nil => rfl
 | cons c cs ih => simp only [List.map_cons, D.los, D.lo, ih, Bool.and_self]
theorem lo_row (es : List (List C)) (n : Nat) : Blk.lo (.row n (rowC es)) = true := by
 simp only [Blk.lo, rowC, List.all_map, List.all_eq_true]
 intro e _
 exact los_map e
theorem loB9 {tm : List (Nat × D)} (xs : List Int) (h : tm.all (fun p => p.2.lo) = true) : loB tm [(9, .row 1 (rowC (rows eI xs)))] = true := by
 simp only [loB, h, List.all_cons, List.all_nil, lo_row, Bool.and_true]; rfl
set_option maxHeartbeats 8000000 in
theorem plOrders1 (n : Nat) (hn : n ≤ 6) : ItB true Try.prog 111 [] [.c (.ro false [.v (.int .i64 n)] 0)] enO (fun _ => True) (goP 721 (upN n)) := by
 intro ly β H stp live _ hW hY b0 hl0
 have hH : ∀ b, HidOk (H b) := fun b => (hW b).toHidOk
 refine DCall.of Try.func111 sf111 hb111 (Nat.le_of_ble_eq_true rfl) (hH _).res ?_
 simp only [s111, idxs, Nat.reduceAdd, List.map_nil, List.map_cons, List.nil_append, List.cons_append]
 have f1 := hid_get (hH b0)
 have f2 := hid_ins (hH b0)
 have f3 := (hH b0).men
 have f4 := (hH b0).lo
 have f5 : ∀ k x, k < 1000 → ins k x (H b0) = H b0 ++ [(k, x)] := fun k x hk => by have := f2 k hk x []; rwa [List.append_nil] at this
 have f6 := fun k (hk : k < 1000) => kill_hid (hH b0) k hk
 repeat' (first|(with_reducible first|apply qA|apply qB|apply qC|apply qD|apply qE|apply qF)|(refine qL rfl (WF.of ?_) ?_; first|rfl|skip)|(refine DW.ord rfl (WF.of (by first|rfl|simp (disch:=omega) only [go_sem, simprocAttr, qN, qO, qP, qQ, f1, f2, f3, f4, f5, ins, rF, rG])) ?_ ?_ ?_; rotate_left)|rfl|(with_reducible refine And.intro ?_ ?_)|(simp (disch:=omega) only [go_sem, simprocAttr, qN, qO, qP, qQ, f1, f2, f3, f4, f5, ins, rF, rG])|exact qM rfl rfl rfl|(refine qG rfl ?_)|(refine qH rfl ?_)|(refine qI rfl ?_ ?_<;>intro hc<;>(try simp only [go_sem] at hc))|(refine qJ ?_ ?_<;>intro hc<;>(try simp only [hc])<;>(try simp only [go_sem] at hc)))
 refine DW.ent (Ent.comm (hH b0) rfl).1 ?_
 simp (disch:=omega) only [go_sem,simprocAttr,qN,qO,qP,qQ,List.cons_append,List.nil_append]
 refine DW.loop (ι := { i : Nat // i ≤ n }) (fun i => ⟨77, [(11, dI i.1), (10, dI n), (3, .own 9), (0, .c (.fn (.yield ly) [] [])), (1, .c (.ro false [.v (.int .i64 n)] 0))], [(9, .row 1 (rowC (rows eI (upN i.1))))] ++ H b0⟩) (fun i => n - i.1) ⟨0, Nat.zero_le _⟩ ?_ ?_
 ·refine Ent.toH (o := [_]) (o' := [_]) (hH b0) rfl ?_ ?_ <;> simp (disch:=omega) only [qR,qS,qT,qU,get,Nat.reduceEqDiff,↓reduceIte,qV,qW,qX,qY,qZ,and_self,dI,i64_in,and_true,true_and,rA,rB,rC,rD,upN,List.range_zero,rG]
  all_goals first | exact ⟨.refl _, .refl _, .refl _⟩ | exact ⟨.refl _, .refl _⟩ | exact .refl _
 rintro ⟨i, hi⟩
 dsimp only
 have hul := upN_len i
 by_cases hlt : i < n
 ·have hd : decide ((i : Int) < (n : Int)) = true := decide_eq_true (by omega)
  have hs := upN_succ i
  generalize upN i = U at *
  repeat' (first|(with_reducible first|apply qA|apply qB|apply qC|apply qD|apply qE|apply qF)|(refine qL rfl (WF.of ?_) ?_; first|rfl|skip)|(refine DW.ord rfl (WF.of (by first|rfl|simp (disch:=omega) only [go_sem, simprocAttr, qN, qO, qP, qQ, f1, f2, f3, f4, f5, f6, ins, hd, hul, rF, rG])) ?_ ?_ ?_; rotate_left)|rfl|(with_reducible refine And.intro ?_ ?_)|(simp (disch:=omega) only [go_sem, simprocAttr, qN, qO, qP, qQ, f1, f2, f3, f4, f5, f6, ins, hd, hul, rF, rG])|exact qM rfl rfl rfl|(refine qG rfl ?_)|(refine qH rfl ?_)|(refine qI rfl ?_ ?_<;>intro hc<;>(try simp only [go_sem] at hc))|(refine qJ ?_ ?_<;>intro hc<;>(try simp only [hc])<;>(try simp only [go_sem] at hc)))
  refine ⟨⟨i + 1, hlt⟩, (by show _ < _; (try simp only); omega), Ent.toH (o := [_, _]) (o' := [_]) (hH b0) rfl ?_ ?_⟩ <;> simp (disch:=omega) only [qR,qS,qT,qU,get,Nat.reduceEqDiff,↓reduceIte,qV,qW,qX,qY,qZ,and_self,dI,i64_in,and_true,true_and,rA,rB,rC,rD,hs,rowC_snocI]
  all_goals first | exact ⟨.refl _, .refl _, .refl _⟩ | exact ⟨.refl _, .refl _⟩ | exact .refl _
 have hd : decide ((i : Int) < (n : Int)) = false := decide_eq_false (by omega)
 have hin : i = n := by omega
 subst hin
 have hok := upN_ok ⟨i, by omega⟩
 dsimp only at hok
 generalize upN i = U at *
 clear hlt
 obtain ⟨Z, hZ⟩ : ∃ Z, Z = runB stp b0 (goP 721 U) := ⟨_, rfl⟩
 rw [← hZ]
 repeat' (first|(with_reducible first|apply qA|apply qB|apply qC|apply qD|apply qE|apply qF)|(refine qL rfl (WF.of ?_) ?_; first|rfl|skip)|(refine DW.ord rfl (WF.of (by first|rfl|simp (disch:=omega) only [go_sem, simprocAttr, qN, qO, qP, qQ, hd])) ?_ ?_ ?_; rotate_left)|rfl|(with_reducible refine And.intro ?_ ?_)|(simp (disch:=omega) only [go_sem, simprocAttr, qN, qO, qP, qQ, hd])|exact qM rfl rfl rfl|(refine qG rfl ?_)|(refine qH rfl ?_)|(refine qI rfl ?_ ?_<;>intro hc<;>(try simp only [go_sem] at hc))|(refine qJ ?_ ?_<;>intro hc<;>(try simp only [hc])<;>(try simp only [go_sem] at hc)))
 refine DW.loop (ι := { y : (Nat × List Int) × β // okP i y.1.1 y.1.2 = true ∧ live (goP y.1.1 y.1.2) y.2 ∧ Z = runB stp y.2 (goP y.1.1 y.1.2) })
  (fun y => ⟨77, [(3, .own 9), (0, .c (.fn (.yield ly) [] [])), (1, .c (.ro false [.v (.int .i64 i)] 0))], [(9, .row 1 (rowC (rows eI y.1.1.2)))] ++ H y.1.2⟩) (fun y => y.1.1.1) ⟨((721, U), b0), hok, hl0, hZ⟩ ?_ ?_
 ·refine Ent.toH (o := [_]) (o' := [_]) (hH b0) rfl ?_ ?_ <;> simp (disch:=omega) only [qR,qS,qT,qU,get,Nat.reduceEqDiff,↓reduceIte,qV,qW,qX,qY,qZ,and_self,dI,i64_in,and_true,true_and,rA,rB,rC,rD]
  all_goals first | exact ⟨.refl _, .refl _, .refl _⟩ | exact ⟨.refl _, .refl _⟩ | exact .refl _
 clear f1 f2 f3 f4 f5 f6
 rintro ⟨⟨⟨f, xs⟩, b1⟩, hok, hlv, hrun⟩
 dsimp only at hok hlv hrun ⊢
 cases f with
 | zero => cases hok
 | succ f =>
  rw [okP, Bool.and_eq_true, Bool.and_eq_true, Bool.and_eq_true, beq_iff_eq] at hok
  obtain ⟨⟨⟨hlen, hall⟩, hst⟩, hnx⟩ := hok
  rw [goP] at hlv hrun
  rw [runB] at hrun
  obtain ⟨hyc, hlv2⟩ := hY b1 xs _ hlv trivial
  have hyc : YCall Try.prog ly [dIs true xs] (H b1) _ _ := hyc
  cases hc : (stp b1 xs).1 with
  | false =>
   rw [hc] at hyc
   rw [hc, if_neg Bool.false_ne_true] at hrun
   repeat' (first|(with_reducible first|apply qA|apply qB|apply qC|apply qD|apply qE|apply qF)|(refine qL rfl (WF.of ?_) ?_; first|rfl|skip)|(refine DW.ord rfl (WF.of (by first|rfl|simp (disch:=omega) only [go_sem, simprocAttr, qN, qO, qP, qQ, rF, rG])) ?_ ?_ ?_; rotate_left)|rfl|(with_reducible refine And.intro ?_ ?_)|(simp (disch:=omega) only [go_sem, simprocAttr, qN, qO, qP, qQ, rF, rG])|exact qM rfl rfl rfl|(refine qG rfl ?_)|(refine qH rfl ?_)|(refine qI rfl ?_ ?_<;>intro hc<;>(try simp only [go_sem] at hc))|(refine qJ ?_ ?_<;>intro hc<;>(try simp only [hc])<;>(try simp only [go_sem] at hc)))
   refine call_y (own := [_]) hyc rfl (by simp (disch:=omega) only [go_sem,simprocAttr,qN,qO,qP,qQ,rF,rG]) (loB9 xs rfl) (hH _) (hH _) (by decide) ?_
   simp (disch:=omega) only [go_sem,simprocAttr,qN,qO,qP,qQ]
   repeat' (first|(with_reducible first|apply qA|apply qB|apply qC|apply qD|apply qE|apply qF)|(refine qL rfl (WF.of ?_) ?_; first|rfl|skip)|(refine DW.ord rfl (WF.of (by first|rfl|simp (disch:=omega) only [go_sem, simprocAttr, qN, qO, qP, qQ])) ?_ ?_ ?_; rotate_left)|rfl|(with_reducible refine And.intro ?_ ?_)|(simp (disch:=omega) only [go_sem, simprocAttr, qN, qO, qP, qQ])|exact qM rfl rfl rfl|(refine qG rfl ?_)|(refine qH rfl ?_)|(refine qI rfl ?_ ?_<;>intro hc<;>(try simp only [go_sem] at hc))|(refine qJ ?_ ?_<;>intro hc<;>(try simp only [hc])<;>(try simp only [go_sem] at hc)))
   rw [hrun]
   exact retS_hid (own := [_]) (.inl rfl) (hH _) (loB9 xs rfl)
  | true =>
   rw [hc] at hyc
   rw [hc, if_pos rfl] at hrun
   have hlv2 := hlv2 hc
   repeat' (first|(with_reducible first|apply qA|apply qB|apply qC|apply qD|apply qE|apply qF)|(refine qL rfl (WF.of ?_) ?_; first|rfl|skip)|(refine DW.ord rfl (WF.of (by first|rfl|simp (disch:=omega) only [go_sem, simprocAttr, qN, qO, qP, qQ, rF, rG])) ?_ ?_ ?_; rotate_left)|rfl|(with_reducible refine And.intro ?_ ?_)|(simp (disch:=omega) only [go_sem, simprocAttr, qN, qO, qP, qQ, rF, rG])|exact qM rfl rfl rfl|(refine qG rfl ?_)|(refine qH rfl ?_)|(refine qI rfl ?_ ?_<;>intro hc<;>(try simp only [go_sem] at hc))|(refine qJ ?_ ?_<;>intro hc<;>(try simp only [hc])<;>(try simp only [go_sem] at hc)))
   refine call_y (own := [_]) hyc rfl (by simp (disch:=omega) only [go_sem,simprocAttr,qN,qO,qP,qQ,rF,rG]) (loB9 xs rfl) (hH _) (hH _) (by decide) ?_
   simp (disch:=omega) only [go_sem,simprocAttr,qN,qO,qP,qQ]
   generalize (stp b1 xs).2 = b2 at *
   have g1 := hid_get (hH b2)
   have g2 := hid_ins (hH b2)
   have g3 := (hH b2).men
   have g4 := (hH b2).lo
   have g5 : ∀ k x, k < 1000 → ins k x (H b2) = H b2 ++ [(k, x)] := fun k x hk => by have := g2 k hk x []; rwa [List.append_nil] at this
   have g6 := (hW b2).app4
   have g7 := (hW b2).app3
   have g8 := fun x => (hW b2).app [(9, x)]
   simp only [List.cons_append, List.nil_append] at g8
   repeat' (first|(with_reducible first|apply qA|apply qB|apply qC|apply qD|apply qE|apply qF)|(refine qL rfl (WF.of ?_) ?_; first|rfl|skip)|(refine DW.ord rfl (WF.of (by first|rfl|simp (disch:=omega) only [go_sem, simprocAttr, qN, qO, qP, qQ, g1, g2, g3, g4, g5, g6, g7, ins])) ?_ ?_ ?_; rotate_left)|rfl|(with_reducible refine And.intro ?_ ?_)|(simp (disch:=omega) only [go_sem, simprocAttr, qN, qO, qP, qQ, g1, g2, g3, g4, g5, g6, g7, ins])|exact qM rfl rfl rfl|(refine qG rfl ?_)|(refine qH rfl ?_)|(refine qI rfl ?_ ?_<;>intro hc<;>(try simp only [go_sem] at hc))|(refine qJ ?_ ?_<;>intro hc<;>(try simp only [hc])<;>(try simp only [go_sem] at hc)))
   obtain ⟨z, hz⟩ : ∃ z : Int, z = if i = 0 then -2 else -1 := ⟨_, rfl⟩
   have he0 : (i : Int) - 2 = ((i - 1 : Nat) : Int) + z := by rw [hz]; split <;> omega
   have hzn : z < 0 := by rw [hz]; split <;> omega
   refine DW.loop (ι := { c : Nat // c ≤ i - 1 ∧ dscF xs (i - 1) = dscF xs c }) (fun c => ⟨77, [(5, dI ((c.1 : Int) + z)), (3, .own 9), (0, .c (.fn (.yield ly) [] [])), (1, .c (.ro false [.v (.int .i64 i)] 0))], [(9, .row 1 (rowC (rows eI xs)))] ++ H b2⟩) (fun c => c.1) ⟨i - 1, Nat.le_refl _, rfl⟩ ?_ ?_
   ·refine Ent.toH (o := [_]) (o' := [_]) (hH b2) rfl ?_ ?_ <;> simp (disch:=omega) only [qR,qS,qT,qU,get,Nat.reduceEqDiff,↓reduceIte,qV,qW,qX,qY,qZ,and_self,dI,i64_in,and_true,true_and,rA,rB,rC,rD,he0]
    all_goals first | exact ⟨.refl _, .refl _, .refl _⟩ | exact ⟨.refl _, .refl _⟩ | exact .refl _
   rintro ⟨c, hc1, hc2⟩
   dsimp only
   cases c with
   | zero =>
    have hd : decide (0 ≤ z) = false := decide_eq_false (by omega)
    have hd2 : decide (z < 0) = true := decide_eq_true hzn
    have hz0 : ((0 : Nat) : Int) + z = z := by omega
    rw [hz0]
    have hnx0 : nxtP xs = none := by rw [nxtP, hlen, hc2]; rfl
    rw [hnx0, runB] at hrun
    repeat' (first|(with_reducible first|apply qA|apply qB|apply qC|apply qD|apply qE|apply qF)|(refine qL rfl (WF.of ?_) ?_; first|rfl|skip)|(refine DW.ord rfl (WF.of (by first|rfl|simp (disch:=omega) only [go_sem, simprocAttr, qN, qO, qP, qQ, g1, g2, g3, g4, g5, g6, g7, g8, ins, hd, hd2])) ?_ ?_ ?_; rotate_left)|rfl|(with_reducible refine And.intro ?_ ?_)|(simp (disch:=omega) only [go_sem, simprocAttr, qN, qO, qP, qQ, g1, g2, g3, g4, g5, g6, g7, g8, ins, hd, hd2])|exact qM rfl rfl rfl|(refine qG rfl ?_)|(refine qH rfl ?_)|(refine qI rfl ?_ ?_<;>intro hc<;>(try simp only [go_sem] at hc))|(refine qJ ?_ ?_<;>intro hc<;>(try simp only [hc])<;>(try simp only [go_sem] at hc)))
    rw [hrun]
    exact retS_hid (own := [_]) (.inl rfl) (hH _) (loB9 xs rfl)
   | succ c =>
    have hcz : ((c + 1 : Nat) : Int) + z = (c : Int) := by rw [hz, if_neg (by omega)]; omega
    rw [hcz]
    have hcm : (c : Int) + z = (c : Int) - 1 := by rw [hz, if_neg (by omega)]; omega
    have hd : decide (0 ≤ (c : Int)) = true := decide_eq_true (by omega)
    have hg0 : xs[c]? = some (xs.getD c 0) := by rw [List.getD_eq_getElem?_getD, List.getElem?_eq_getElem (by omega)]; rfl
    have hg1 : xs[c + 1]? = some (xs.getD (c + 1) 0) := by rw [List.getD_eq_getElem?_getD, List.getElem?_eq_getElem (by omega)]; rfl
    have hb0 : (c < i) = True := eq_true (by omega)
    have hb1 : (c + 1 < i) = True := eq_true (by omega)
    have hw : IntKind.i64.wrap ((c : Int) + 1) = ((c + 1 : Nat) : Int) := by rw [IntWalk.i64_in _ (by omega)]; omega
    rw [dscF] at hc2
    by_cases hgt : xs.getD (c + 1) 0 < xs.getD c 0
    ·have hd3 : decide (xs.getD (c + 1) 0 < xs.getD c 0) = true := decide_eq_true hgt
     rw [if_pos hgt] at hc2
     repeat' (first|(with_reducible first|apply qA|apply qB|apply qC|apply qD|apply qE|apply qF)|(refine qL rfl (WF.of ?_) ?_; first|rfl|skip)|(refine DW.ord rfl (WF.of (by first|rfl|simp (disch:=omega) only [go_sem, simprocAttr, qN, qO, qP, qQ, g1, g2, g3, g4, g5, g6, g7, g8, ins, hd, hg0, hg1, hb0, hb1, hw, hd3, hlen])) ?_ ?_ ?_; rotate_left)|rfl|(with_reducible refine And.intro ?_ ?_)|(simp (disch:=omega) only [go_sem, simprocAttr, qN, qO, qP, qQ, g1, g2, g3, g4, g5, g6, g7, g8, ins, hd, hg0, hg1, hb0, hb1, hw, hd3, hlen])|exact qM rfl rfl rfl|(refine qG rfl ?_)|(refine qH rfl ?_)|(refine qI rfl ?_ ?_<;>intro hc<;>(try simp only [go_sem] at hc))|(refine qJ ?_ ?_<;>intro hc<;>(try simp only [hc])<;>(try simp only [go_sem] at hc)))
     refine ⟨⟨c, by omega, hc2⟩, (by show _ < _; (try simp only); omega), Ent.toH (o := [_]) (o' := [_]) (hH b2) rfl ?_ ?_⟩ <;> simp (disch:=omega) only [qR,qS,qT,qU,get,Nat.reduceEqDiff,↓reduceIte,qV,qW,qX,qY,qZ,and_self,dI,i64_in,and_true,true_and,rA,rB,rC,rD,hcm]
     all_goals first | exact ⟨.refl _, .refl _, .refl _⟩ | exact ⟨.refl _, .refl _⟩ | exact .refl _
    ·have hd3 : decide (xs.getD (c + 1) 0 < xs.getD c 0) = false := decide_eq_false hgt
     have hd4 : decide ((c : Int) < 0) = false := decide_eq_false (by omega)
     rw [if_neg hgt] at hc2
     repeat' (first|(with_reducible first|apply qA|apply qB|apply qC|apply qD|apply qE|apply qF)|(refine qL rfl (WF.of ?_) ?_; first|rfl|skip)|(refine DW.ord rfl (WF.of (by first|rfl|simp (disch:=omega) only [go_sem, simprocAttr, qN, qO, qP, qQ, g1, g2, g3, g4, g5, g6, g7, g8, ins, hd, hg0, hg1, hb0, hb1, hw, hd3, hd4, hlen])) ?_ ?_ ?_; rotate_left)|rfl|(with_reducible refine And.intro ?_ ?_)|(simp (disch:=omega) only [go_sem, simprocAttr, qN, qO, qP, qQ, g1, g2, g3, g4, g5, g6, g7, g8, ins, hd, hg0, hg1, hb0, hb1, hw, hd3, hd4, hlen])|exact qM rfl rfl rfl|(refine qG rfl ?_)|(refine qH rfl ?_)|(refine qI rfl ?_ ?_<;>intro hc<;>(try simp only [go_sem] at hc))|(refine qJ ?_ ?_<;>intro hc<;>(try simp only [hc])<;>(try simp only [go_sem] at hc)))
     rw [hc2] at hst
     dsimp only at hst
     rw [Bool.and_eq_true, decide_eq_true_eq, decide_eq_true_eq] at hst
     have hi1 : (i : Int) - 1 = ((i - 1 : Nat) : Int) := by omega
     refine DW.loop (ι := { j : Nat // j ≤ i - 1 ∧ ascF xs (xs.getD c 0) (i - 1) = ascF xs (xs.getD c 0) j }) (fun j => ⟨77, [(6, dI j.1), (5, dI c), (3, .own 9), (0, .c (.fn (.yield ly) [] [])), (1, .c (.ro false [.v (.int .i64 i)] 0))], [(9, .row 1 (rowC (rows eI xs)))] ++ H b2⟩) (fun j => j.1) ⟨i - 1, Nat.le_refl _, rfl⟩ ?_ ?_
     ·refine Ent.toH (o := [_]) (o' := [_]) (hH b2) rfl ?_ ?_ <;> simp (disch:=omega) only [qR,qS,qT,qU,get,Nat.reduceEqDiff,↓reduceIte,qV,qW,qX,qY,qZ,and_self,dI,i64_in,and_true,true_and,rA,rB,rC,rD,hi1]
      all_goals first | exact ⟨.refl _, .refl _, .refl _⟩ | exact ⟨.refl _, .refl _⟩ | exact .refl _
     rintro ⟨j, hj1, hj2⟩
     dsimp only
     cases j with
     | zero => rw [hj2, ascF] at hst; omega
     | succ j =>
      have hgj : xs[j + 1]? = some (xs.getD (j + 1) 0) := by rw [List.getD_eq_getElem?_getD, List.getElem?_eq_getElem (by omega)]; rfl
      have hbj : (j + 1 < i) = True := eq_true (by omega)
      rw [ascF] at hj2
      by_cases hlt : xs.getD (j + 1) 0 < xs.getD c 0
      ·have hd5 : decide (xs.getD (j + 1) 0 < xs.getD c 0) = true := decide_eq_true hlt
       have hjm : ((j + 1 : Nat) : Int) - 1 = (j : Int) := by omega
       rw [if_pos hlt] at hj2
       repeat' (first|(with_reducible first|apply qA|apply qB|apply qC|apply qD|apply qE|apply qF)|(refine qL rfl (WF.of ?_) ?_; first|rfl|skip)|(refine DW.ord rfl (WF.of (by first|rfl|simp (disch:=omega) only [go_sem, simprocAttr, qN, qO, qP, qQ, g1, g2, g3, g4, g5, g6, g7, g8, ins, hg0, hgj, hb0, hbj, hd5, hlen])) ?_ ?_ ?_; rotate_left)|rfl|(with_reducible refine And.intro ?_ ?_)|(simp (disch:=omega) only [go_sem, simprocAttr, qN, qO, qP, qQ, g1, g2, g3, g4, g5, g6, g7, g8, ins, hg0, hgj, hb0, hbj, hd5, hlen])|exact qM rfl rfl rfl|(refine qG rfl ?_)|(refine qH rfl ?_)|(refine qI rfl ?_ ?_<;>intro hc<;>(try simp only [go_sem] at hc))|(refine qJ ?_ ?_<;>intro hc<;>(try simp only [hc])<;>(try simp only [go_sem] at hc)))
       refine ⟨⟨j, by omega, hj2⟩, (by show _ < _; (try simp only); omega), Ent.toH (o := [_]) (o' := [_]) (hH b2) rfl ?_ ?_⟩ <;> simp (disch:=omega) only [qR,qS,qT,qU,get,Nat.reduceEqDiff,↓reduceIte,qV,qW,qX,qY,qZ,and_self,dI,i64_in,and_true,true_and,rA,rB,rC,rD,Int.add_sub_cancel]
       all_goals first | exact ⟨.refl _, .refl _, .refl _⟩ | exact ⟨.refl _, .refl _⟩ | exact .refl _
      ·have hd5 : decide (xs.getD (j + 1) 0 < xs.getD c 0) = false := decide_eq_false hlt
       rw [if_neg hlt] at hj2
       repeat' (first|(with_reducible first|apply qA|apply qB|apply qC|apply qD|apply qE|apply qF)|(refine qL rfl (WF.of ?_) ?_; first|rfl|skip)|(refine DW.ord rfl (WF.of (by first|rfl|simp (disch:=omega) only [go_sem, simprocAttr, qN, qO, qP, qQ, g1, g2, g3, g4, g5, g6, g7, g8, ins, hg0, hgj, hb0, hbj, hd5, hlen, set_eI])) ?_ ?_ ?_; rotate_left)|rfl|(with_reducible refine And.intro ?_ ?_)|(simp (disch:=omega) only [go_sem, simprocAttr, qN, qO, qP, qQ, g1, g2, g3, g4, g5, g6, g7, g8, ins, hg0, hgj, hb0, hbj, hd5, hlen, set_eI])|exact qM rfl rfl rfl|(refine qG rfl ?_)|(refine qH rfl ?_)|(refine qI rfl ?_ ?_<;>intro hc<;>(try simp only [go_sem] at hc))|(refine qJ ?_ ?_<;>intro hc<;>(try simp only [hc])<;>(try simp only [go_sem] at hc)))
       have hgs : ∀ v, (xs.set c v)[j + 1]? = some (xs.getD (j + 1) 0) := fun v => by rw [List.getElem?_set_ne (by omega)]; exact hgj
       simp (disch:=omega) only [go_sem,simprocAttr,qN,qO,qP,qQ,g1,g2,g3,g4,g5,g6,g7,g8,ins,hgs,hbj,hlen,set_eI,List.length_set]
       obtain ⟨ys, hys⟩ : ∃ ys, ys = swp1 xs c (j + 1) := ⟨_, rfl⟩
       have hyl : ys.length = i := by rw [hys, swp1, List.length_set, List.length_set]; exact hlen
       rw [show (xs.set c (xs.getD (j + 1) 0)).set (j + 1) (xs.getD c 0) = ys from hys.symm]
       refine DW.ent (σ' := ⟨77, [(5, dI c), (3, .own 9), (0, .c (.fn (.yield ly) [] [])), (1, .c (.ro false [.v (.int .i64 i)] 0))], [(9, .row 1 (rowC (rows eI ys)))] ++ H b2⟩) (Ent.toH (o := [_]) (o' := [_]) (hH b2) rfl ?_ ?_) ?_
       ·simp (disch:=omega) only [qR,qS,qT,qU,get,Nat.reduceEqDiff,↓reduceIte,qV,qW,qX,qY,qZ,and_self,dI,i64_in,and_true,true_and,rA,rB,rC,rD]
       ·simp (disch:=omega) only [qR,qS,qT,qU,get,Nat.reduceEqDiff,↓reduceIte,qV,qW,qX,qY,qZ,and_self,dI,i64_in,and_true,true_and,rA,rB,rC,rD]
        all_goals first | exact ⟨.refl _, .refl _⟩ | exact .refl _
       have hci : (c + 1 ≤ i) = True := eq_true (by omega)
       repeat' (first|(with_reducible first|apply qA|apply qB|apply qC|apply qD|apply qE|apply qF)|(refine qL rfl (WF.of ?_) ?_; first|rfl|skip)|(refine DW.ord rfl (WF.of (by first|rfl|simp (disch:=omega) only [go_sem, simprocAttr, qN, qO, qP, qQ, g1, g2, g3, g4, g5, g6, g7, g8, ins, hw, hyl, hci, List.cons_append, List.nil_append])) ?_ ?_ ?_; rotate_left)|rfl|(with_reducible refine And.intro ?_ ?_)|(simp (disch:=omega) only [go_sem, simprocAttr, qN, qO, qP, qQ, g1, g2, g3, g4, g5, g6, g7, g8, ins, hw, hyl, hci, List.cons_append, List.nil_append])|exact qM rfl rfl rfl|(refine qG rfl ?_)|(refine qH rfl ?_)|(refine qI rfl ?_ ?_<;>intro hc<;>(try simp only [go_sem] at hc))|(refine qJ ?_ ?_<;>intro hc<;>(try simp only [hc])<;>(try simp only [go_sem] at hc)))
       refine call_row 9 (n := 1) (es := rowC (rows eI ys)) (es' := rowC (rows eI (revF (c + 1) (i - (c + 1)) ys))) (fs := fun _ => []) (caps := fun _ => []) («as» := fun p => [.c (.v (.slice (some ⟨p.l, (c + 1) * 1, none⟩) (i - (c + 1)) (p.cap - (c + 1))))]) (r := .tup []) ?_ rfl ?_ ?_ ?_ ?_ (fun _ => rfl) (fun _ => rfl) ?_ (fun _ _ => rfl) ?_ ?_ (by decide) ?_
       ·intro p hp
        have h1 := hp.len
        have h2 := hp.cap
        rw [rowI_len, hyl] at h1
        rw [RowAt.blk, RowAt.blk, flatI, flatI, Nat.mul_one]
        exact plReverse p.l (c + 1) (i - (c + 1)) (p.cap - (c + 1)) p.m ys (by omega) (by omega) (by omega)
       ·intro e
        have := congrArg List.length e
        rw [rowI_len, hyl, List.length_nil] at this
        omega
       ·rw [rowI_len, rowI_len, revF, swpN_len]
       ·intro e he
        simp only [rowC, rows, List.map_map, List.mem_map, Function.comp] at he
        obtain ⟨x, _, rfl⟩ := he
        rfl
       ·intro j'
        rw [flatI]
        have := cells_men j' (revF (c + 1) (i - (c + 1)) ys) 0
        rwa [tops, List.replicate_zero, List.append_nil] at this
       ·have e : del 9 ((9, Blk.row 1 (rowC (rows eI ys))) :: H b2) = H b2 := by
         simp only [del, if_true]
         exact del_none (g4 9 (by decide))
        rw [e, List.all_eq_true]
        intro q hq
        have := List.any_eq_false.1 (g3 9 (by decide)) q hq
        simpa using this
       ·intro p hp
        have h1 := hp.len
        have h2 := hp.cap
        rw [rowI_len, hyl] at h1
        have hcond : (c + 1 < p.cap ∧ c + 1 ≤ i ∧ i ≤ p.len) = True := eq_true (by omega)
        simp (disch:=omega) only [go_sem,simprocAttr,qN,qO,qP,qQ,rpT,rpD,hcond,rF,rG]
        skip
       ·intro p hp
        have h1 := hp.len
        have h2 := hp.cap
        rw [rowI_len, hyl] at h1
        have hcond : (c + 1 < p.cap ∧ c + 1 ≤ i ∧ i ≤ p.len) = True := eq_true (by omega)
        simp only [rpT, rpD, hcond, and_self, if_true, List.all_cons, List.all_nil, D.men]
        rfl
       ·have hn1 : nxtP xs = some (revF (c + 1) (i - (c + 1)) ys) := by
         rw [nxtP, hlen, hc2]
         dsimp only
         rw [hj2, hys]
        rw [hn1] at hnx hlv2 hrun
        dsimp only at hnx hlv2 hrun
        have e : del 9 ((9, Blk.row 1 (rowC (rows eI ys))) :: H b2) = H b2 := by
         simp only [del, if_true]
         exact del_none (g4 9 (by decide))
        rw [e]
        simp (disch:=omega) only [go_sem,simprocAttr,qN,qO,qP,qQ]
        repeat' (first|(with_reducible first|apply qA|apply qB|apply qC|apply qD|apply qE|apply qF)|(refine qL rfl (WF.of ?_) ?_; first|rfl|skip)|(refine DW.ord rfl (WF.of (by first|rfl|simp (disch:=omega) only [go_sem, simprocAttr, qN, qO, qP, qQ])) ?_ ?_ ?_; rotate_left)|rfl|(with_reducible refine And.intro ?_ ?_)|(simp (disch:=omega) only [go_sem, simprocAttr, qN, qO, qP, qQ])|exact qM rfl rfl rfl|(refine qG rfl ?_)|(refine qH rfl ?_)|(refine qI rfl ?_ ?_<;>intro hc<;>(try simp only [go_sem] at hc))|(refine qJ ?_ ?_<;>intro hc<;>(try simp only [hc])<;>(try simp only [go_sem] at hc)))
        refine ⟨⟨((f, revF (c + 1) (i - (c + 1)) ys), b2), hnx, hlv2, hrun⟩, (by show _ < _; (try simp only); omega), Ent.toH (o := [_]) (o' := [_]) (hH b2) rfl ?_ ?_⟩ <;> simp (disch:=omega) only [qR,qS,qT,qU,get,Nat.reduceEqDiff,↓reduceIte,qV,qW,qX,qY,qZ,and_self,dI,i64_in,and_true,true_and,rA,rB,rC,rD]
        all_goals first | exact ⟨.refl _, .refl _⟩ | exact .refl _
end Go.Dw.Seat
end
section
set_option linter.unusedSimpArgs false
set_option maxRecDepth 100000
namespace Go.Dw.Seat
open Go Go.Dw Go.Proofs Go.IntWalk
set_option maxHeartbeats 1000000 in
theorem plCloneC (b : Bool) (l : List Int) (hl : l.length ≤ 2 ^ 36) : DCall Try.prog 83 [dIs b l] [] (dIs false l) [] := by
 cases l with
 | nil =>
  refine DCall.nil1 (fun a c => ?_)
  cases a with
  | none =>
   refine DCall.of Try.func83 sf83 hb83 (Nat.le_of_ble_eq_true rfl) (okRes_nil fun _ => rfl) ?_; simp only [s83, idxs, Nat.reduceAdd]
   repeat' (first|(with_reducible first|apply qA|apply qB|apply qC|apply qD|apply qE|apply qF)|(simp (disch:=omega) only [go_sem, simprocAttr, qN, qO, qP, qQ, Option.isNone])|exact qM rfl rfl rfl|(refine qG rfl ?_)|(refine qH rfl ?_)|(refine qI rfl ?_ ?_<;>intro hc<;>(try simp only [go_sem] at hc))|(refine qJ ?_ ?_<;>intro hc<;>(try simp only [hc])<;>(try simp only [go_sem] at hc)))
   refine retS_wk rfl ?_ (by simp only [Blk.nb, rowC_nb, D.nb, D.nbs, C.nb, C.nbs, C.nbss, rows_nb eI_nb, Bool.and_true, Bool.not_false, Bool.and_self, bD, dI, iD]); exact .nil _ _
  | some a =>
   refine DCall.of Try.func83 sf83 hb83 (Nat.le_of_ble_eq_true rfl) (okRes_nil fun _ => rfl) ?_; simp only [s83, idxs, Nat.reduceAdd]
   refine DW.seq (DW.reg ?_)
   simp (disch:=omega) only [go_sem,simprocAttr,qN,qO,qP,qQ]
   refine DW.seq (DW.seq (DW.reg ?_))
   simp (disch:=omega) only [go_sem,simprocAttr,qN,qO,qP,qQ,Option.isNone]
   refine DW.cond_ff rfl (DW.skip ?_)
   simp (disch:=omega) only [go_sem,simprocAttr,qN,qO,qP,qQ]
   refine DW.ent (Ent.to (tm' := [(0, .c (.sl b 1 []))]) (bx' := []) (by simp (disch:=omega) only [qR,qS,qT,qU,get,Nat.reduceEqDiff,↓reduceIte,qV,qW,qX,qY,qZ,and_self,dI,i64_in,and_true,true_and,rA,rB,rC,rD]) trivial) ?_
   repeat' (first|(with_reducible first|apply qA|apply qB|apply qC|apply qD|apply qE|apply qF)|(simp (disch:=omega) only [go_sem, simprocAttr, qN, qO, qP, qQ])|exact qM rfl rfl rfl|(refine qG rfl ?_)|(refine qH rfl ?_)|(refine qI rfl ?_ ?_<;>intro hc<;>(try simp only [go_sem] at hc))|(refine qJ ?_ ?_<;>intro hc<;>(try simp only [hc])<;>(try simp only [go_sem] at hc)))
   (refine retS_ent (Ent.rel 5 rfl) ?_; simp (disch:=omega) only [go_sem,simprocAttr,qN,qO,qP,qQ])
   refine retS_wk rfl ?_ (by simp only [Blk.nb, rowC_nb, D.nb, D.nbs, C.nb, C.nbs, C.nbss, rows_nb eI_nb, Bool.and_true, Bool.not_false, Bool.and_self, bD, dI, iD]); exact .refl _
 | cons x l =>
  simp only [List.length_cons] at hl
  refine DCall.of Try.func83 sf83 hb83 (Nat.le_of_ble_eq_true rfl) (okRes_nil fun _ => rfl) ?_; simp only [s83, idxs, Nat.reduceAdd]
  repeat' (first|(with_reducible first|apply qA|apply qB|apply qC|apply qD|apply qE|apply qF)|(simp (disch:=omega) only [go_sem, simprocAttr, qN, qO, qP, qQ, rows_cons])|exact qM rfl rfl rfl|(refine qG rfl ?_)|(refine qH rfl ?_)|(refine qI rfl ?_ ?_<;>intro hc<;>(try simp only [go_sem] at hc))|(refine qJ ?_ ?_<;>intro hc<;>(try simp only [hc])<;>(try simp only [go_sem] at hc)))
  (refine retS_ent (Ent.rel 5 rfl) ?_; simp (disch:=omega) only [go_sem,simprocAttr,qN,qO,qP,qQ])
  refine retS_wk rfl ?_ (by simp only [Blk.nb, rowC_nb, D.nb, D.nbs, C.nb, C.nbs, C.nbss, rows_nb eI_nb, Bool.and_true, Bool.not_false, Bool.and_self, bD, dI, iD]); exact .refl _
end Go.Dw.Seat
end
section
set_option linter.unusedSimpArgs false
set_option maxRecDepth 100000
namespace Go.Dw.Seat
open Go Go.Dw Go.Proofs Go.IntWalk
theorem lohi_b {x : PIt} (hx : x.ok) {c : Int} (hc : -10000 ≤ c ∧ c ≤ 10000) : (-50000000000 ≤ loW x c ∧ loW x c ≤ 50000000000) ∧ (-50000000000 ≤ hiW x c ∧ hiW x c ≤ 50000000000) ∧ loW x c ≤ hiW x c := by
 have hw := hx.w
 have h1 := mul_abs (a := x.wl) (A := 5000000) (by omega) hc
 have h2 := mul_abs (a := x.wh) (A := 5000000) (by omega) hc
 unfold loW hiW
 omega
theorem sumM_b {c : Int → Int} (hc : ∀ m, 0 ≤ m → m ≤ 4000 → -10000 ≤ c m ∧ c m ≤ 10000) : ∀ {q : List PIt} {a : Int}, 0 ≤ a → a + lgI q ≤ 2000 → (∀ x ∈ q, x.ok) →
  (-(50000000000 * (q.length : Int)) ≤ sumM (fun m x => loW x (c m)) a q ∧ sumM (fun m x => loW x (c m)) a q ≤ 50000000000 * (q.length : Int)) ∧ (-(50000000000 * (q.length : Int)) ≤ sumM (fun m x => hiW x (c m)) a q ∧ sumM (fun m x => hiW x (c m)) a q ≤ 50000000000 * (q.length : Int)) ∧ sumM (fun m x => loW x (c m)) a q ≤ sumM (fun m x => hiW x (c m)) a q
 | [], a, _, _, _ => by simp [sumM]
 | x :: q, a, h0, h1, h2 => by
  have hx := h2 x (by simp)
  have hxl := hx.lg
  have hq := fun y hy => h2 y (List.mem_cons_of_mem x hy)
  have hn := lgI_nn hq
  rw [lgI] at h1
  have ih := sumM_b hc (q := q) (a := a + x.lg) (by omega) (by omega) hq
  have hb := lohi_b hx (hc (2 * a + x.lg) (by omega) (by omega))
  simp only [sumM, List.length_cons, Int.natCast_add, Int.natCast_one]
  omega
theorem cF_b {l : PLy} (hl : l.ok) (m : Int) (h1 : 0 ≤ m) (h2 : m ≤ 4000) : -10000 ≤ cF l m ∧ cF l m ≤ 10000 := by
 have := hl.ax
 have := hl.lg
 unfold cF; omega
theorem cB_b {l : PLy} (hl : l.ok) (m : Int) (h1 : 0 ≤ m) (h2 : m ≤ 4000) : -10000 ≤ cB l m ∧ cB l m ≤ 10000 := by
 have := hl.ax
 have := hl.lg
 unfold cB; omega
theorem lgI_take {q : List PIt} (h : ∀ x ∈ q, x.ok) (i : Nat) : lgI (q.take i) ≤ lgI q := by
 have e : ∀ a b : List PIt, lgI (a ++ b) = lgI a + lgI b := by
  intro a b
  induction a with
  | nil => simp [lgI]
  | cons x a ih => rw [List.cons_append, lgI, ih, lgI]; omega
 have h1 := e (q.take i) (q.drop i)
 rw [List.take_append_drop] at h1
 have h2 := lgI_nn (q := q.drop i) (fun x hx => h x (List.mem_of_mem_drop hx))
 omega
abbrev prtD (r : Prt) : D := .tup [.agg [dI r.fl, dI r.fh], .agg [dI r.bl, dI r.bh]]
set_option maxHeartbeats 4000000 in
theorem plParts (l : PLy) (lab : Bool) (q : List PIt) (h : LorOk l q) : DCall Try.prog 76 [lorD l lab q] [] (prtD (prtF l q)) [] := by
 have hl := h.ly
 have hlen := h.len
 have hits := h.its
 have hlg := h.lg
 have hll := hl.lg
 have hax := hl.ax
 refine DCall.of Try.func76 sf76 hb76 (Nat.le_of_ble_eq_true rfl) (okRes_nil fun _ => rfl) ?_; simp only [s76, o76_0, o76_1, o76_2, o76_3, idxs, Nat.reduceAdd]
 repeat' (first|(with_reducible first|apply qA|apply qB|apply qC|apply qD|apply qE|apply qF)|(refine qL rfl (WF.of ?_) ?_; first|rfl|skip)|(refine DW.ord rfl (WF.of (by first|rfl|simp (disch:=omega) only [go_sem, simprocAttr, qN, qO, qP, qQ])) ?_ ?_ ?_; rotate_left)|rfl|(with_reducible refine And.intro ?_ ?_)|(simp (disch:=omega) only [go_sem, simprocAttr, qN, qO, qP, qQ])|exact qM rfl rfl rfl|(refine qG rfl ?_)|(refine qH rfl ?_)|(refine qI rfl ?_ ?_<;>intro hc<;>(try simp only [go_sem] at hc))|(refine qJ ?_ ?_<;>intro hc<;>(try simp only [hc])<;>(try simp only [go_sem] at hc)))
 refine DW.loop (ι := { i : Nat // i ≤ q.length }) (fun i => ⟨49, [(11, dI i.1), (10, dI q.length), (9, itsD lab q), (4, dI (lgI (q.take i.1))), (3, .box 3 0), (2, .box 2 0), (1, .box 1 0)], [(3, .box [dI (prtF l (q.take i.1)).bl, dI (prtF l (q.take i.1)).bh]), (2, .box [dI (prtF l (q.take i.1)).fl, dI (prtF l (q.take i.1)).fh]), (1, .box [dI l.lg, dI l.fr, dI l.bk, dI l.fm, dI l.bm, itsD lab q])]⟩) (fun i => q.length - i.1) ⟨0, Nat.zero_le _⟩ ?_ ?_
 ·refine Ent.to ?_ ?_ <;> simp (disch:=omega) only [qR,qS,qT,qU,get,Nat.reduceEqDiff,↓reduceIte,qV,qW,qX,qY,qZ,and_self,dI,i64_in,and_true,true_and,rA,rB,rC,rD,List.take_zero,lgI,prtF,sumM]
  all_goals first | exact ⟨.refl _, .refl _, .refl _⟩ | exact ⟨.refl _, .refl _⟩ | exact .refl _
 rintro ⟨i, hi⟩
 dsimp only
 rcases at_or q i hi with ⟨x, hx, hlt, hd⟩ | ⟨he, hd⟩
 ·have hxo := hits x (List.mem_of_getElem? hx)
  have hxl := hxo.lg
  have htk : q.take (i + 1) = q.take i ++ [x] := by rw [List.take_add_one, hx]; rfl
  have htm : ∀ y ∈ q.take i, y.ok := fun y hy => hits y (List.mem_of_mem_take hy)
  have hsn := lgI_snoc (q.take i) x
  have hS1 := lgI_take hits (i + 1)
  rw [htk, hsn] at hS1
  have hS0 := lgI_nn htm
  have hl7 : (q.take i).length ≤ 7 := by rw [List.length_take]; omega
  have bF := sumM_b (cF_b hl) (q := q.take i) (a := 0) (by omega) (by omega) htm
  have bB := sumM_b (cB_b hl) (q := q.take i) (a := 0) (by omega) (by omega) htm
  have e1 := sumM_snoc (fun m x => loW x (cF l m)) (q.take i) 0 x
  have e2 := sumM_snoc (fun m x => hiW x (cF l m)) (q.take i) 0 x
  have e3 := sumM_snoc (fun m x => loW x (cB l m)) (q.take i) 0 x
  have e4 := sumM_snoc (fun m x => hiW x (cB l m)) (q.take i) 0 x
  rw [← htk, Int.zero_add] at e1 e2 e3 e4
  rw [← htk] at hsn
  have hP : prtF l (q.take i) = ⟨sumM (fun m x => loW x (cF l m)) 0 (q.take i), sumM (fun m x => hiW x (cF l m)) 0 (q.take i), sumM (fun m x => loW x (cB l m)) 0 (q.take i), sumM (fun m x => hiW x (cB l m)) 0 (q.take i)⟩ := rfl
  have hP1 : prtF l (q.take (i + 1)) = ⟨sumM (fun m x => loW x (cF l m)) 0 (q.take (i + 1)), sumM (fun m x => hiW x (cF l m)) 0 (q.take (i + 1)), sumM (fun m x => loW x (cB l m)) 0 (q.take (i + 1)), sumM (fun m x => hiW x (cB l m)) 0 (q.take (i + 1))⟩ := rfl
  rw [e1, e2, e3, e4] at hP1
  clear e1 e2 e3 e4
  generalize sumM (fun m x => loW x (cF l m)) 0 (q.take i) = A1 at *
  generalize sumM (fun m x => hiW x (cF l m)) 0 (q.take i) = A2 at *
  generalize sumM (fun m x => loW x (cB l m)) 0 (q.take i) = A3 at *
  generalize sumM (fun m x => hiW x (cB l m)) 0 (q.take i) = A4 at *
  generalize lgI (q.take i) = S at *
  have hm1 : 2 * l.bk - (2 * S + x.lg) = cF l (2 * S + x.lg) := rfl
  have hm2 : 2 * S + x.lg - 2 * l.fr = cB l (2 * S + x.lg) := rfl
  have c1 := cF_b hl (2 * S + x.lg) (by omega) (by omega)
  have c2 := cB_b hl (2 * S + x.lg) (by omega) (by omega)
  have t1 := plTimes x hxo _ c1
  have t2 := plTimes x hxo _ c2
  have b1 := lohi_b hxo c1
  have b2 := lohi_b hxo c2
  rw [hP]
  dsimp only
  have p1 := plPlus A1 A2 (loW x (cF l (2 * S + x.lg))) (hiW x (cF l (2 * S + x.lg))) (by omega) (by omega) (by omega) (by omega)
  have p2 := plPlus A3 A4 (loW x (cB l (2 * S + x.lg))) (hiW x (cB l (2 * S + x.lg))) (by omega) (by omega) (by omega) (by omega)
  repeat' (first|(with_reducible first|apply qA|apply qB|apply qC|apply qD|apply qE|apply qF)|(refine qL rfl (WF.of ?_) ?_; first|rfl|skip)|(refine DW.ord rfl (WF.of (by first|rfl|simp (disch:=omega) only [go_sem, simprocAttr, qN, qO, qP, qQ, hd, hx, hm1, hm2, rF, rG])) ?_ ?_ ?_; rotate_left)|rfl|(with_reducible refine And.intro ?_ ?_)|(simp (disch:=omega) only [go_sem, simprocAttr, qN, qO, qP, qQ, hd, hx, hm1, hm2, rF, rG])|exact qM rfl rfl rfl|(refine qG rfl ?_)|(refine qK (t1) (by decide) ?_)|(refine qK (t2) (by decide) ?_)|(refine qK (p1) (by decide) ?_)|(refine qK (p2) (by decide) ?_)|(refine qH rfl ?_)|(refine qI rfl ?_ ?_<;>intro hc<;>(try simp only [go_sem] at hc))|(refine qJ ?_ ?_<;>intro hc<;>(try simp only [hc])<;>(try simp only [go_sem] at hc)))
  refine ⟨⟨i + 1, hlt⟩, ?_, Ent.to ?_ ?_⟩ <;> first | (show _ < _; (try simp only); omega) | (simp (disch:=omega) only [qR,qS,qT,qU,get,Nat.reduceEqDiff,↓reduceIte,qV,qW,qX,qY,qZ,and_self,dI,i64_in,and_true,true_and,rA,rB,rC,rD, hsn,hP1])
  all_goals first | exact ⟨.refl _, .refl _, .refl _⟩ | exact ⟨.refl _, .refl _⟩ | exact .refl _
 ·have hti : q.take i = q := by rw [he, List.take_length]
  rw [hti]
  generalize prtF l q = R at *
  repeat' (first|(with_reducible first|apply qA|apply qB|apply qC|apply qD|apply qE|apply qF)|(refine qL rfl (WF.of ?_) ?_; first|rfl|skip)|(refine DW.ord rfl (WF.of (by first|rfl|simp (disch:=omega) only [go_sem, simprocAttr, qN, qO, qP, qQ, hd])) ?_ ?_ ?_; rotate_left)|rfl|(with_reducible refine And.intro ?_ ?_)|(simp (disch:=omega) only [go_sem, simprocAttr, qN, qO, qP, qQ, hd])|exact qM rfl rfl rfl|(refine qG rfl ?_)|(refine qH rfl ?_)|(refine qI rfl ?_ ?_<;>intro hc<;>(try simp only [go_sem] at hc))|(refine qJ ?_ ?_<;>intro hc<;>(try simp only [hc])<;>(try simp only [go_sem] at hc)))
theorem prt_b {l : PLy} {q : List PIt} (h : LorOk l q) : ((-350000000000 ≤ (prtF l q).fl ∧ (prtF l q).fl ≤ (prtF l q).fh) ∧ (prtF l q).fh ≤ 350000000000) ∧ (-350000000000 ≤ (prtF l q).bl ∧ (prtF l q).bl ≤ (prtF l q).bh) ∧ (prtF l q).bh ≤ 350000000000 := by
 have hlen := h.len
 have hll := h.ly.lg
 have hlg := h.lg
 have bF := sumM_b (cF_b h.ly) (q := q) (a := 0) (by omega) (by omega) h.its
 have bB := sumM_b (cB_b h.ly) (q := q) (a := 0) (by omega) (by omega) h.its
 unfold prtF
 dsimp only
 omega
def axD (l : PLy) (q : List PIt) : D := if lorE l q = 0 then .tup [.agg [dI ((prtF l q).fl / (2 * (l.bk - l.fr))), dI ((prtF l q).fh / (2 * (l.bk - l.fr)))], .agg [dI ((prtF l q).bl / (2 * (l.bk - l.fr))), dI ((prtF l q).bh / (2 * (l.bk - l.fr)))], dI 0] else .tup [.agg [dI 0, dI 0], .agg [dI 0, dI 0], dI (lorE l q)]
set_option maxHeartbeats 4000000 in
theorem plAxles (l : PLy) (q : List PIt) (hq : q.length ≤ 2 ^ 36) : DCall Try.prog 29 [lyrD l, itsD false q] [] (axD l q) [] := by
 have h1 := plCheckLorry false l q hq
 unfold axD
 by_cases he : lorE l q = 0
 ·have hL := lor_iff.1 he
  have hP := plParts l false q hL
  have hb := prt_b hL
  have hW := plWhole l hL.ly false q
  have hax := hL.ly.ax
  have hll := hL.ly.lg
  rw [if_pos he]
  rw [he] at h1
  generalize prtF l q = R at *
  obtain ⟨fl, fh, bl, bh⟩ := R
  dsimp only at hb ⊢
  have d1 := plDown fl fh (2 * (l.bk - l.fr)) (by omega) (by omega) (by omega)
  have d2 := plDown bl bh (2 * (l.bk - l.fr)) (by omega) (by omega) (by omega)
  refine DCall.of Try.func29 sf29 hb29 (Nat.le_of_ble_eq_true rfl) (okRes_nil fun _ => rfl) ?_; simp only [s29, o29_0, o29_1, o29_2, o29_3, o29_4, o29_5, idxs, Nat.reduceAdd]
  repeat' (first|(with_reducible first|apply qA|apply qB|apply qC|apply qD|apply qE|apply qF)|(refine qL rfl (WF.of ?_) ?_; first|rfl|skip)|(refine DW.ord rfl (WF.of (by first|rfl|simp (disch:=omega) only [go_sem, simprocAttr, qN, qO, qP, qQ])) ?_ ?_ ?_; rotate_left)|rfl|(with_reducible refine And.intro ?_ ?_)|(simp (disch:=omega) only [go_sem, simprocAttr, qN, qO, qP, qQ])|exact qM rfl rfl rfl|(refine qG rfl ?_)|(refine qK (h1) (by decide) ?_)|(refine qK (hP) (by decide) ?_)|(refine qK (hW) (by decide) ?_)|(refine qK (d1) (by decide) ?_)|(refine qK (d2) (by decide) ?_)|(refine qH rfl ?_)|(refine qI rfl ?_ ?_<;>intro hc<;>(try simp only [go_sem] at hc))|(refine qJ ?_ ?_<;>intro hc<;>(try simp only [hc])<;>(try simp only [go_sem] at hc)))
  skip
 ·rw [if_neg he]
  generalize lorE l q = e at *
  have hd : (e != 0) = true := by simpa using he
  refine DCall.of Try.func29 sf29 hb29 (Nat.le_of_ble_eq_true rfl) (okRes_nil fun _ => rfl) ?_; simp only [s29, o29_0, o29_1, o29_2, o29_3, o29_4, o29_5, idxs, Nat.reduceAdd]
  repeat' (first|(with_reducible first|apply qA|apply qB|apply qC|apply qD|apply qE|apply qF)|(refine qL rfl (WF.of ?_) ?_; first|rfl|skip)|(refine DW.ord rfl (WF.of (by first|rfl|simp (disch:=omega) only [go_sem, simprocAttr, qN, qO, qP, qQ, hd])) ?_ ?_ ?_; rotate_left)|rfl|(with_reducible refine And.intro ?_ ?_)|(simp (disch:=omega) only [go_sem, simprocAttr, qN, qO, qP, qQ, hd])|exact qM rfl rfl rfl|(refine qG rfl ?_)|(refine qK (h1) (by decide) ?_)|(refine qH rfl ?_)|(refine qI rfl ?_ ?_<;>intro hc<;>(try simp only [go_sem] at hc))|(refine qJ ?_ ?_<;>intro hc<;>(try simp only [hc])<;>(try simp only [go_sem] at hc)))
  skip
def bearX (l : PLy) (q : List PIt) : Bool := spanOk (prtF l q).fl (prtF l q).fh 0 (l.fm * (2 * (l.bk - l.fr))) && spanOk (prtF l q).bl (prtF l q).bh 0 (l.bm * (2 * (l.bk - l.fr)))
set_option maxHeartbeats 2000000 in
theorem plBears (l : PLy) (lab : Bool) (q : List PIt) (h : LorOk l q) : DCall Try.prog 82 [lorD l lab q] [] (bD (bearX l q)) [] := by
 have hP := plParts l lab q h
 have hW := plWhole l h.ly lab q
 have hax := h.ly.ax
 have hll := h.ly.lg
 have hfm := h.ly.fm
 have hbm := h.ly.bm
 have m1 := mul_abs (a := l.fm) (b := 2 * (l.bk - l.fr)) (A := 40000000) (B := 10000) (by omega) (by omega)
 have m2 := mul_abs (a := l.bm) (b := 2 * (l.bk - l.fr)) (A := 40000000) (B := 10000) (by omega) (by omega)
 have w1 : IntKind.i64.wrap (l.fm * (2 * (l.bk - l.fr))) = l.fm * (2 * (l.bk - l.fr)) := IntWalk.i64_in _ (by omega)
 have w2 : IntKind.i64.wrap (l.bm * (2 * (l.bk - l.fr))) = l.bm * (2 * (l.bk - l.fr)) := IntWalk.i64_in _ (by omega)
 unfold bearX
 generalize prtF l q = R at *
 obtain ⟨fl, fh, bl, bh⟩ := R
 dsimp only
 have s1 := plSpan fl fh 0 (l.fm * (2 * (l.bk - l.fr)))
 have s2 := plSpan bl bh 0 (l.bm * (2 * (l.bk - l.fr)))
 cases e1 : spanOk fl fh 0 (l.fm * (2 * (l.bk - l.fr))) <;> rw [e1] at s1 <;> simp only [Bool.true_and, Bool.false_and]
 ·refine DCall.of Try.func82 sf82 hb82 (Nat.le_of_ble_eq_true rfl) (okRes_nil fun _ => rfl) ?_; simp only [s82, idxs, Nat.reduceAdd]
  repeat' (first|(with_reducible first|apply qA|apply qB|apply qC|apply qD|apply qE|apply qF)|(refine qL rfl (WF.of ?_) ?_; first|rfl|skip)|(simp (disch:=omega) only [go_sem, simprocAttr, qN, qO, qP, qQ, w1, w2])|exact qM rfl rfl rfl|(refine qG rfl ?_)|(refine qK (hP) (by decide) ?_)|(refine qK (hW) (by decide) ?_)|(refine qK (s1) (by decide) ?_)|(refine qK (s2) (by decide) ?_)|(refine qH rfl ?_)|(refine qI rfl ?_ ?_<;>intro hc<;>(try simp only [go_sem] at hc))|(refine qJ ?_ ?_<;>intro hc<;>(try simp only [hc])<;>(try simp only [go_sem] at hc)))
 ·refine DCall.of Try.func82 sf82 hb82 (Nat.le_of_ble_eq_true rfl) (okRes_nil fun _ => rfl) ?_; simp only [s82, idxs, Nat.reduceAdd]
  repeat' (first|(with_reducible first|apply qA|apply qB|apply qC|apply qD|apply qE|apply qF)|(refine qL rfl (WF.of ?_) ?_; first|rfl|skip)|(simp (disch:=omega) only [go_sem, simprocAttr, qN, qO, qP, qQ, w1, w2])|exact qM rfl rfl rfl|(refine qG rfl ?_)|(refine qK (hP) (by decide) ?_)|(refine qK (hW) (by decide) ?_)|(refine qK (s1) (by decide) ?_)|(refine qK (s2) (by decide) ?_)|(refine qH rfl ?_)|(refine qI rfl ?_ ?_<;>intro hc<;>(try simp only [go_sem] at hc))|(refine qJ ?_ ?_<;>intro hc<;>(try simp only [hc])<;>(try simp only [go_sem] at hc)))
end Go.Dw.Seat
end
section
set_option linter.unusedSimpArgs false
set_option maxRecDepth 100000
namespace Go.Dw.Seat
open Go Go.Dw Go.Proofs Go.IntWalk
def pkI (q : List PIt) (e : List Int) : List PIt := e.map fun i => q.getD i.toNat ⟨1, 0, 0⟩
theorem go_perm : ∀ n : Fin 7, (goP 721 (upN n.1)).all (fun e => e.isPerm (upN n.1)) = true := by decide +kernel
theorem lgI_perm {a b : List PIt} (h : a.Perm b) : lgI a = lgI b := by
 induction h with
 | nil => rfl
 | cons x _ ih => rw [lgI, lgI, ih]
 | swap x y l => simp only [lgI]; omega
 | trans _ _ h1 h2 => rw [h1, h2]
theorem pk_up (q : List PIt) : pkI q (upN q.length) = q := by
 apply List.ext_getElem?
 intro i
 simp only [pkI, upN, List.map_map, List.getElem?_map, Function.comp]
 rcases Nat.lt_or_ge i q.length with h | h
 ·rw [List.getElem?_eq_getElem (by simpa using h), List.getElem?_eq_getElem h]
  simp [List.getD_eq_getElem?_getD, List.getElem?_eq_getElem h]
 ·rw [List.getElem?_eq_none (by simpa using h), List.getElem?_eq_none h]
  rfl
theorem pk_ok {l : PLy} {q : List PIt} (h : LorOk l q) {e : List Int} (he : e.isPerm (upN q.length) = true) : LorOk l (pkI q e) := by
 have hp : e.Perm (upN q.length) := List.isPerm_iff.1 he
 have h2 : (pkI q e).Perm q := by
  have := hp.map (fun i => q.getD i.toNat ⟨1, 0, 0⟩)
  have e1 := pk_up q
  unfold pkI at e1
  rw [e1] at this
  exact this
 exact ⟨h.ly, by rw [h2.length_eq]; exact h.len, fun x hx => h.its x (h2.mem_iff.1 hx), by rw [lgI_perm h2]; exact h.lg⟩
theorem pk_mem {n : Nat} {e : List Int} (he : e.isPerm (upN n) = true) : e.length = n ∧ ∀ x ∈ e, 0 ≤ x ∧ x < (n : Int) := by
 have hp : e.Perm (upN n) := List.isPerm_iff.1 he
 refine ⟨by rw [hp.length_eq, upN_len], fun x hx => ?_⟩
 have := hp.mem_iff.1 hx
 simp only [upN, List.mem_map, List.mem_range] at this
 obtain ⟨i, hi, rfl⟩ := this
 omega
theorem rowC_snocIt (l : List PIt) (x : PIt) : rowC (rows eIt l) ++ [[D.c (.v (.int .i64 x.lg)), D.c (.v (.int .i64 x.wl)), D.c (.v (.int .i64 x.wh))]] = rowC (rows eIt (l ++ [x])) := by simp [rowC, rows, eIt]
def ordS (l : PLy) (q : List PIt) (a : Option (List Int)) (e : List Int) : Option Exit × Option (List Int) := if bearX l (pkI q e) then (some .ret, some e) else (none, a)
theorem ord_run (l : PLy) (q : List PIt) : ∀ L : List (List Int), runIt (ordS l q) none L = (match L.find? (fun e => bearX l (pkI q e)) with | some e => (some .ret, some e) | none => (none, none))
 | [] => rfl
 | e :: L => by
  rw [runIt, ordS, List.find?_cons]
  cases bearX l (pkI q e)
  ·simp only [Bool.false_eq_true, if_false]
   exact ord_run l q L
  ·rfl
def oRes : Option (List Int) → D
 | some e => dIs false e
 | none => .c (.v (.slice none 0 0))
def oErr : Option (List Int) → Int
 | some _ => 0
 | none => 9
theorem oRes_men (k : Nat) (F : Option (List Int)) : D.men k (oRes F) = false := by cases F <;> rfl
theorem oRes_nb (F : Option (List Int)) : D.nb (oRes F) = true := by
 cases F
 ·rfl
 ·simp only [oRes, D.nb, C.nb, rows_nb eI_nb]; rfl
theorem oRes_keys (bx : List (Nat × Blk)) (F : Option (List Int)) : D.keysIn bx (oRes F) = true := by cases F <;> rfl
theorem oRes_kill (k : Nat) (F : Option (List Int)) : killD k (oRes F) = oRes F := by cases F <;> rfl
attribute [go_sem] oRes_men oRes_keys oRes_kill
def findO (l : PLy) (q : List PIt) : Option (List Int) := (goP 721 (upN q.length)).find? fun e => bearX l (pkI q e)
def ordD (l : PLy) (q : List PIt) : D := if lorE l q = 0 then .tup [oRes (findO l q), dI (oErr (findO l q))] else .tup [.c (.v (.slice none 0 0)), dI (lorE l q)]
set_option maxHeartbeats 8000000 in
theorem plOrder (l : PLy) (q : List PIt) (hq : q.length ≤ 2 ^ 36) (h6 : lorE l q = 0 → q.length ≤ 6) : DCall Try.prog 33 [lyrD l, itsD false q] [] (ordD l q) [] := by
 have h1 := plCheckLorry false l q hq
 unfold ordD
 by_cases he : lorE l q = 0
 case neg =>
  rw [if_neg he]
  generalize lorE l q = e at *
  have hd : (e != 0) = true := by simpa using he
  refine DCall.of Try.func33 sf33 hb33 (Nat.le_of_ble_eq_true rfl) (okRes_nil fun _ => rfl) ?_; simp only [s33, idxs, Nat.reduceAdd]
  repeat' (first|(with_reducible first|apply qA|apply qB|apply qC|apply qD|apply qE|apply qF)|(refine qL rfl (WF.of ?_) ?_; first|rfl|skip)|(simp (disch:=omega) only [go_sem, simprocAttr, qN, qO, qP, qQ, hd])|exact qM rfl rfl rfl|(refine qG rfl ?_)|(refine qK (h1) (by decide) ?_)|(refine qH rfl ?_)|(refine qI rfl ?_ ?_<;>intro hc<;>(try simp only [go_sem] at hc))|(refine qJ ?_ ?_<;>intro hc<;>(try simp only [hc])<;>(try simp only [go_sem] at hc)))
 rw [if_pos he]
 have hL := lor_iff.1 he
 have h6 := h6 he
 have h2 := plOrders0 q.length
 have hit := plOrders1 q.length h6
 have hperm := List.all_eq_true.1 (go_perm ⟨q.length, by omega⟩)
 have hrun := ord_run l q (goP 721 (upN q.length))
 rw [he] at h1
 unfold findO
 generalize goP 721 (upN q.length) = G at *
 refine DCall.of Try.func33 sf33 hb33 (Nat.le_of_ble_eq_true rfl) (okRes_nil fun k => by simp only [D.men, D.mens, oRes_men]; rfl) ?_
 simp only [s33, idxs, Nat.reduceAdd]
 repeat' (first|(with_reducible first|apply qA|apply qB|apply qC|apply qD|apply qE|apply qF)|(refine qL rfl (WF.of ?_) ?_; first|rfl|skip)|(simp (disch:=omega) only [go_sem, simprocAttr, qN, qO, qP, qQ])|exact qM rfl rfl rfl|(refine qG rfl ?_)|(refine qK (h1) (by decide) ?_)|(refine qK (h2) (by decide) ?_)|(refine qH rfl ?_)|(refine qI rfl ?_ ?_<;>intro hc<;>(try simp only [go_sem] at hc))|(refine qJ ?_ ?_<;>intro hc<;>(try simp only [hc])<;>(try simp only [go_sem] at hc)))
 refine DW.ent (σ' := ⟨43, [(19, .fn (.func 111) [] [.c (.ro false [.v (.int .i64 q.length)] 0)]), (5, .box 5 0), (4, .box 4 0), (3, .box 3 0), (2, .box 2 0)], [(5, .box [dI 0]), (4, .box [oRes none]), (3, .box [itsD false q]), (2, .box [dI l.lg, dI l.fr, dI l.bk, dI l.fm, dI l.bm])]⟩) (Ent.to ?_ ?_) ?_
 ·simp (disch:=omega) only [qR,qS,qT,qU,get,Nat.reduceEqDiff,↓reduceIte,qV,qW,qX,qY,qZ,and_self,dI,i64_in,and_true,true_and,rA,rB,rC,rD]
 ·simp (disch:=omega) only [qR,qS,qT,qU,get,Nat.reduceEqDiff,↓reduceIte,qV,qW,qX,qY,qZ,and_self,dI,i64_in,and_true,true_and,rA,rB,rC,rD,oRes]
  all_goals first | exact ⟨.refl _, .refl _⟩ | exact .refl _
 refine DW.rngBS (fs := []) (caps := [.c (.ro false [.v (.int .i64 q.length)] 0)]) (fun a : Option (List Int) => [(5, .box [dI 0]), (4, .box [oRes a]), (3, .box [itsD false q]), (2, .box [dI l.lg, dI l.fr, dI l.bk, dI l.fm, dI l.bm])]) none (ordS l q) enO (fun _ => True) G hit (fun t _ => ∀ e ∈ t, e.isPerm (upN q.length) = true) hperm (fun a e t h _ _ x hx => h x (List.mem_cons_of_mem _ hx)) rfl (fun _ => ⟨rfl, rfl⟩) rfl (by decide) (fun _ _ => rfl) (fun _ _ _ => rfl) (by simp only [List.map_cons, List.map_nil]; decide) (fun _ => rfl) (fun a => by cases a <;> rfl) (fun a => by show (_ && ((D.nb (oRes a) && _) && _)) = true; rw [oRes_nb]; exact (by simp only [List.all_cons, List.all_nil, Blk.nb, rowC_nb, D.nb, D.nbs, C.nb, C.nbs, C.nbss, rows_nb eI_nb, Bool.and_true, Bool.not_false, Bool.and_self, bD, dI, iD, rows_nb eIt_nb])) (by simp only [List.all_cons, List.all_nil, Blk.nb, rowC_nb, D.nb, D.nbs, C.nb, C.nbs, C.nbss, rows_nb eI_nb, Bool.and_true, Bool.not_false, Bool.and_self, bD, dI, iD, rows_nb eIt_nb]) (fun a e => by unfold ordS; split <;> rfl) ?_ ?_
 ·intro a e t hp _ v
  have hpe := hp e (by simp)
  obtain ⟨hel, hem⟩ := pk_mem hpe
  have hLe := pk_ok hL hpe
  have hb := plBears l true (pkI q e) hLe
  have hcl := plCloneC true e (by omega)
  clear hp hperm hrun hit
  simp (disch:=omega) only [go_sem,simprocAttr,qN,qO,qP,qQ,rF,rG,enO]
  repeat' (first|(with_reducible first|apply qA|apply qB|apply qC|apply qD|apply qE|apply qF)|(refine qL rfl (WF.of ?_) ?_; first|rfl|skip)|(simp (disch:=omega) only [go_sem, simprocAttr, qN, qO, qP, qQ, rF, rG])|exact qM rfl rfl rfl|(refine qG rfl ?_)|(refine qH rfl ?_)|(refine qI rfl ?_ ?_<;>intro hc<;>(try simp only [go_sem] at hc))|(refine qJ ?_ ?_<;>intro hc<;>(try simp only [hc])<;>(try simp only [go_sem] at hc)))
  refine DW.ent (Ent.adoptB 8 5 36 3 rfl rfl rfl ?_) ?_
  ·cases a <;> rfl
  simp only [ins, Nat.reduceLT, Nat.reduceEqDiff, ↓reduceIte, List.set_cons_zero, List.set_cons_succ]
  refine DW.loop (ι := { i : Nat // i ≤ e.length }) (fun i => ⟨43, [(25, dI i.1), (24, dI e.length), (23, dIs true e), (19, .fn (.func 111) [] [.c (.ro false [.v (.int .i64 q.length)] 0)]), (8, .box 8 0), (7, dIs true e), (5, .box 5 0), (4, .box 4 0), (3, .box 3 0), (2, .box 2 0)], [(5, .box [dI 0]), (4, .box [oRes a]), (3, .box [itsD false q]), (2, .box [dI l.lg, dI l.fr, dI l.bk, dI l.fm, dI l.bm]), capB v [(19, .fn (.func 111) [] [.c (.ro false [.v (.int .i64 q.length)] 0)]), (5, .box 5 0), (4, .box 4 0), (3, .box 3 0), (2, .box 2 0)], (8, .box [dI l.lg, dI l.fr, dI l.bk, dI l.fm, dI l.bm, .own 36]), (36, .row 3 (rowC (rows eIt (pkI q (e.take i.1)))))]⟩) (fun i => e.length - i.1) ⟨0, Nat.zero_le _⟩ ?_ ?_
  ·refine Ent.to ?_ ?_ <;> simp (disch:=omega) only [qR,qS,qT,qU,get,Nat.reduceEqDiff,↓reduceIte,qV,qW,qX,qY,qZ,and_self,dI,i64_in,and_true,true_and,rA,rB,rC,rD,capB,List.take_zero,pkI,rG]
   all_goals first | exact ⟨.refl _, .refl _, .refl _⟩ | exact ⟨.refl _, .refl _⟩ | exact .refl _ | skip
  rintro ⟨i, hi⟩
  dsimp only
  rcases at_or e i hi with ⟨x, hx, hlt, hd⟩ | ⟨he, hd⟩
  ·have hxb := hem x (List.mem_of_getElem? hx)
   obtain ⟨n, rfl⟩ : ∃ n : Nat, x = (n : Int) := ⟨x.toNat, by omega⟩
   have hnq : n < q.length := by omega
   obtain ⟨y, hy⟩ : ∃ y, q[n]? = some y := ⟨q[n], List.getElem?_eq_getElem hnq⟩
   have htk : pkI q (e.take (i + 1)) = pkI q (e.take i) ++ [y] := by
    have h1 : e.take (i + 1) = e.take i ++ [(n : Int)] := by rw [List.take_add_one, hx]; rfl
    rw [h1, pkI, List.map_append, pkI]
    simp [List.getD_eq_getElem?_getD, hy]
   have hnq' : (n < q.length) = True := eq_true hnq
   have hpl : (pkI q (e.take i)).length ≤ 10 := by rw [pkI, List.length_map, List.length_take]; omega
   have hsn := rowC_snocIt (pkI q (e.take i)) y
   generalize pkI q (e.take i) = A at *
   repeat' (first|(with_reducible first|apply qA|apply qB|apply qC|apply qD|apply qE|apply qF)|(refine qL rfl (WF.of ?_) ?_; first|rfl|skip)|(simp (disch:=omega) only [go_sem, simprocAttr, qN, qO, qP, qQ, hd, hx, hy, hnq', hsn, capB, rF, rG])|exact qM rfl rfl rfl|(refine qG rfl ?_)|(refine qH rfl ?_)|(refine qI rfl ?_ ?_<;>intro hc<;>(try simp only [go_sem] at hc))|(refine qJ ?_ ?_<;>intro hc<;>(try simp only [hc])<;>(try simp only [go_sem] at hc)))
   refine ⟨⟨i + 1, hlt⟩, ?_, Ent.to ?_ ?_⟩ <;> first | (show _ < _; (try simp only); omega) | (simp (disch:=omega) only [qR,qS,qT,qU,get,Nat.reduceEqDiff,↓reduceIte,qV,qW,qX,qY,qZ,and_self,dI,i64_in,and_true,true_and,rA,rB,rC,rD, htk,capB])
   all_goals first | exact ⟨.refl _, .refl _, .refl _⟩ | exact ⟨.refl _, .refl _⟩ | exact .refl _ | skip
  ·have hti : e.take i = e := by rw [he, List.take_length]
   rw [hti]
   unfold ordS
   generalize pkI q e = A at *
   cases hB : bearX l A <;> rw [hB] at hb
   ·rw [if_neg Bool.false_ne_true]
    repeat' (first|(with_reducible first|apply qA|apply qB|apply qC|apply qD|apply qE|apply qF)|(refine qL rfl (WF.of ?_) ?_; first|rfl|skip)|(simp (disch:=omega) only [go_sem, simprocAttr, qN, qO, qP, qQ, hd, capB, rF, rG])|exact qM rfl rfl rfl|(refine qG rfl ?_)|(refine qK (hb) (by decide) ?_)|(refine qH rfl ?_)|(refine qI rfl ?_ ?_<;>intro hc<;>(try simp only [go_sem] at hc))|(refine qJ ?_ ?_<;>intro hc<;>(try simp only [hc])<;>(try simp only [go_sem] at hc)))
    refine round_end rfl rfl (Ent.to ?_ ?_) <;> simp (disch:=omega) only [qR,qS,qT,qU,get,Nat.reduceEqDiff,↓reduceIte,qV,qW,qX,qY,qZ,and_self,dI,i64_in,and_true,true_and,rA,rB,rC,rD,capB,List.cons_append,List.nil_append]
   ·rw [if_pos rfl]
    repeat' (first|(with_reducible first|apply qA|apply qB|apply qC|apply qD|apply qE|apply qF)|(refine qL rfl (WF.of ?_) ?_; first|rfl|skip)|(simp (disch:=omega) only [go_sem, simprocAttr, qN, qO, qP, qQ, hd, capB, rF, rG])|exact qM rfl rfl rfl|(refine qG rfl ?_)|(refine qK (hb) (by decide) ?_)|(refine qK (hcl) (by decide) ?_)|(refine qH rfl ?_)|(refine qI rfl ?_ ?_<;>intro hc<;>(try simp only [go_sem] at hc))|(refine qJ ?_ ?_<;>intro hc<;>(try simp only [hc])<;>(try simp only [go_sem] at hc)))
    refine round_end rfl rfl (Ent.to ?_ ?_) <;> simp (disch:=omega) only [qR,qS,qT,qU,get,Nat.reduceEqDiff,↓reduceIte,qV,qW,qX,qY,qZ,and_self,dI,i64_in,and_true,true_and,rA,rB,rC,rD,capB,List.cons_append,List.nil_append,oRes]
 ·rw [hrun]
  cases G.find? (fun e => bearX l (pkI q e)) with
  | none =>
   dsimp only
   simp (disch:=omega) only [go_sem,simprocAttr,qN,qO,qP,qQ,Option.getD_none]
   repeat' (first|(with_reducible first|apply qA|apply qB|apply qC|apply qD|apply qE|apply qF)|(refine qL rfl (WF.of ?_) ?_; first|rfl|skip)|(simp (disch:=omega) only [go_sem, simprocAttr, qN, qO, qP, qQ, oRes])|exact qM rfl rfl rfl|(refine qG rfl ?_)|(refine qH rfl ?_)|(refine qI rfl ?_ ?_<;>intro hc<;>(try simp only [go_sem] at hc))|(refine qJ ?_ ?_<;>intro hc<;>(try simp only [hc])<;>(try simp only [go_sem] at hc)))
  | some e =>
   dsimp only
   simp (disch:=omega) only [go_sem,simprocAttr,qN,qO,qP,qQ,Option.getD_some]
   simp only [oRes, oErr]
   refine retS_wk rfl ?_ (by simp only [Blk.nb, rowC_nb, D.nb, D.nbs, C.nb, C.nbs, C.nbss, rows_nb eI_nb, Bool.and_true, Bool.not_false, Bool.and_self, bD, dI, iD, rows_nb eIt_nb]); exact .refl _
end Go.Dw.Seat
end
section
set_option linter.unusedSimpArgs false
set_option maxRecDepth 100000
namespace Go.Dw.Seat
open Go Go.Dw Go.Proofs Go.IntWalk
def ex3 : List PPl := [⟨0, 0, false⟩, ⟨40, 0, false⟩, ⟨0, 30, false⟩]
def ex8 : List PPl := [⟨0, 0, true⟩, ⟨30, 0, true⟩, ⟨60, 0, true⟩, ⟨90, 0, true⟩, ⟨0, 40, true⟩, ⟨30, 40, true⟩, ⟨60, 40, true⟩, ⟨90, 40, true⟩]
def ex3t : List PPl := [⟨80, 0, false⟩, ⟨40, 0, false⟩, ⟨80, 30, false⟩]
def exIt : List PIt := [⟨120, 1000000, 1000000⟩, ⟨120, 800000, 900000⟩]
def exR : List PRs := [⟨[], 0⟩, ⟨[1], 1000⟩, ⟨[], 0⟩]
theorem ex8_at : ∀ i : Fin 8, ex8.take i.1 ++ [⟨30 * ((i.1 % 4 : Nat) : Int), 40 * ((i.1 / 4 : Nat) : Int), true⟩] = ex8.take (i.1 + 1) := by decide +kernel
theorem exc0 : chkE (exBs 0) exBx = 0 := by decide +kernel
theorem exc5 : chkE (exBs 5) exBx = 0 := by decide +kernel
theorem exb0 : bndX (exBs 0) exBx = 8 := by decide +kernel
theorem exb5 : bndX (exBs 5) exBx = 9 := by decide +kernel
theorem exm : mostX (exBs 5) exBx = 9 := by decide +kernel
theorem exl : (layX (exBs 0) exBx).length = 8 := by decide +kernel
theorem ext1 : trnE (exBs 0) exBx ex3 2 = 0 := by decide +kernel
theorem ext2 : ex3.map (trnP (exBs 0) exBx 2) = ex3t := by decide +kernel
theorem exr1 : rgtE (exBs 0) exBx [ex3, ex3t] = 0 := by decide +kernel
theorem exr2 : (ex3t.map (rsF exBx ex3)).map (fun r => (r.on, r.sh)) = exR.map (fun r => (r.on, r.sh)) := by decide +kernel
theorem prs_ext : ∀ {a b : List PRs}, a.map (fun r => (r.on, r.sh)) = b.map (fun r => (r.on, r.sh)) → a = b
 | [], [], _ => rfl
 | [], _ :: _, h => by simp at h
 | _ :: _, [], h => by simp at h
 | ⟨o, s⟩ :: a, ⟨o', s'⟩ :: b, h => by
  simp only [List.map_cons, List.cons.injEq, Prod.mk.injEq] at h
  obtain ⟨⟨rfl, rfl⟩, h⟩ := h
  rw [prs_ext h]
theorem exr3 : ex3t.map (rsF exBx ex3) = exR := prs_ext exr2
theorem exn1 : rgtE (exBs 0) exBx [ex8] = 0 := by decide +kernel
theorem exn2 : bindS (exBs 0) exBx ex8 4 = (0, 0) := by decide +kernel
theorem exy1 : lorE exLy exIt = 0 := by decide +kernel
theorem exy2 : (prtF exLy exIt).fl / 800 = 1740000 ∧ (prtF exLy exIt).fh / 800 = 1820000 ∧ (prtF exLy exIt).bl / 800 = 60000 ∧ (prtF exLy exIt).bh / 800 = 80000 := by decide +kernel
theorem exo : findO exLy exIt = some [0, 1] := by decide +kernel
theorem exTab : TabOk [(0, 1000)] 0 := by
 refine ⟨tabF_of (by decide) (fun u h => ?_) (fun j hj v hv => ?_), by decide⟩
 ·simp at h; subst h; rfl
 ·have hj0 : j = 0 := by simp at hj; omega
  subst hj0
  simp at hv
  subst hv
  exact ⟨⟨by decide, by decide⟩, fun k u h => by omega⟩
theorem exh : layI (exBs 0) exBx 8 (highI (lodF exBx) [(0, 1000)] 0) = 6 := by decide +kernel
end Go.Dw.Seat
end
section
set_option linter.unusedSimpArgs false
set_option maxRecDepth 100000
namespace Go.Dw.Seat
open Go Go.Dw Go.Proofs Go.IntWalk
theorem laFlat : DCall Try.prog 60 [] [] (.c (.sl false 2 (rows eK [(0, 1000)]))) [] := by
 refine DCall.of Try.func60 sf60 hb60 (Nat.le_of_ble_eq_true rfl) (okRes_nil fun _ => rfl) ?_; simp only [s60, idxs, Nat.reduceAdd]
 repeat' (first|(with_reducible first|apply qA|apply qB|apply qC|apply qD|apply qE|apply qF)|(simp (disch:=omega) only [go_sem, simprocAttr, qN, qO, qP, qQ])|exact qM rfl rfl rfl|(refine qG rfl ?_)|(refine qH rfl ?_)|(refine qI rfl ?_ ?_<;>intro hc<;>(try simp only [go_sem] at hc))|(refine qJ ?_ ?_<;>intro hc<;>(try simp only [hc])<;>(try simp only [go_sem] at hc)))
 (refine retS_ent (Ent.rel 2 rfl) ?_; simp (disch:=omega) only [go_sem,simprocAttr,qN,qO,qP,qQ])
 refine retS_wk rfl ?_ (by simp only [Blk.nb, rowC_nb, D.nb, D.nbs, C.nb, C.nbs, C.nbss, rows_nb eI_nb, Bool.and_true, Bool.not_false, Bool.and_self, bD, dI, iD, rows_nb eP_nb, rows_nb eIt_nb, rows_nb eR_nb, rows_nb eK_nb]); exact .refl _
set_option maxHeartbeats 16000000 in
theorem laKnown : DCall Try.prog 14 [] [] (bD true) [] := by
 have a1 := laAt 0 0
 have a2 := laAt 40 0
 have a3 := laAt 0 30
 have a4 := laAt 80 0
 have a5 := laAt 80 30
 have b0 := laBase 0
 have b5 := laBase 5
 have bx := laBox
 have lo := laLorry
 have c1 := plBound (exBs 0) exBx
 rw [exb0, exc0] at c1
 have c2 := plBound (exBs 5) exBx
 rw [exb5, exc5] at c2
 have c3 := plMost (exBs 5) exBx
 rw [exm, exc5] at c3
 have c4 := plLayX (exBs 0) exBx
 rw [layD, if_pos exc0, exc0] at c4
 have hl := exl
 generalize layX (exBs 0) exBx = L at *
 have c5 := plTurnX (exBs 0) exBx ex3 (by decide) 2
 rw [trnD, ext1, if_pos rfl, show ((2 : Int).toNat) = 2 from rfl, ext2] at c5
 have c6 := plRestsX (exBs 0) exBx ex3 ex3t (by decide) (by decide)
 rw [rsX, exr1, if_pos rfl, exr3] at c6
 have c7 := plBind (exBs 0) exBx ex8 (by decide)
 rw [exn1, exn2] at c7
 simp only [if_true] at c7
 have c8 := plLayersX (exBs 0) exBx ex8 (by decide) [(0, 1000)] 0 exTab
 rw [exn1, if_pos ⟨rfl, by decide⟩, if_neg (by simp), if_neg (by decide), show ((ex8.length : Nat) : Int) = 8 from rfl, exh] at c8
 have c9 := plAxles exLy exIt (by decide)
 rw [axD, if_pos exy1, show 2 * (exLy.bk - exLy.fr) = 800 from rfl, exy2.1, exy2.2.1, exy2.2.2.1, exy2.2.2.2] at c9
 have c10 := plOrder exLy exIt (by decide) (fun _ => by decide)
 rw [ordD, if_pos exy1, exo] at c10
 simp only [oRes, oErr] at c10
 have o3 := laOwn true ex3 (by decide)
 have o3t := laOwn false ex3t (by decide)
 have o8 := laOwn true ex8 (by decide)
 have f1 := laFlat
 have s1 := laSpan 1000000 1000000
 have s2 := laSpan 800000 900000
 have s3 := laSpan 1740000 1820000
 have s4 := laSpan 60000 80000
 have i1 := reInts false true [1] [1] (by decide) (by decide)
 have i2 := reInts false true [0, 1] [0, 1] (by decide) (by decide)
 rw [decide_eq_true rfl] at i1 i2
 have sm := reSame false true ex3t ex3t (by decide) (by decide) true (sameY rfl rfl)
 refine DCall.of Try.func14 sf14 hb14 (Nat.le_of_ble_eq_true rfl) (okRes_nil fun _ => rfl) ?_; simp only [s14, idxs, Nat.reduceAdd]
 repeat' (first|(with_reducible first|apply qA|apply qB|apply qC|apply qD|apply qE|apply qF)|(refine qL rfl (WF.of ?_) ?_; first|rfl|skip)|(simp (disch:=omega) only [go_sem, simprocAttr, qN, qO, qP, qQ])|exact qM rfl rfl rfl|(refine qG rfl ?_)|(refine qK (a1) (by decide) ?_)|(refine qK (a2) (by decide) ?_)|(refine qK (a3) (by decide) ?_)|(refine qH rfl ?_)|(refine qI rfl ?_ ?_<;>intro hc<;>(try simp only [go_sem] at hc))|(refine qJ ?_ ?_<;>intro hc<;>(try simp only [hc])<;>(try simp only [go_sem] at hc)))
 refine DW.loop (ι := { i : Nat // i ≤ 8 }) (fun i => ⟨241, [(3, dI i.1), (2, .own 30), (1, .own 29), (0, bD false)], [(30, .row 3 (rowC (rows eP (ex8.take i.1)))), (29, .row 3 (rowC (rows eP ex3)))]⟩) (fun i => 8 - i.1) ⟨0, by decide⟩ ?_ ?_
 ·refine Ent.to ?_ ?_ <;> simp (disch:=omega) only [qR,qS,qT,qU,get,Nat.reduceEqDiff,↓reduceIte,qV,qW,qX,qY,qZ,and_self,dI,i64_in,and_true,true_and,rA,rB,rC,rD,List.take_zero,ex3]
  all_goals first | exact ⟨.refl _, .refl _⟩ | exact .refl _
 rintro ⟨i, hi⟩
 dsimp only
 rcases Nat.lt_or_ge i 8 with hlt | hge
 ·have hd : decide ((i : Int) < 8) = true := decide_eq_true (by omega)
  have t1 : Int.tmod (i : Int) 4 = ((i % 4 : Nat) : Int) := rfl
  have t2 : Int.tdiv (i : Int) 4 = ((i / 4 : Nat) : Int) := rfl
  have hk := ex8_at ⟨i, hlt⟩
  dsimp only at hk
  have hsn := rowC_snocP (ex8.take i) ⟨30 * ((i % 4 : Nat) : Int), 40 * ((i / 4 : Nat) : Int), true⟩
  rw [hk] at hsn
  dsimp only at hsn
  have htl : (ex8.take i).length ≤ 8 := by rw [List.length_take]; exact Nat.le_trans (Nat.min_le_left _ _) hi
  generalize ex8.take i = A at *
  repeat' (first|(with_reducible first|apply qA|apply qB|apply qC|apply qD|apply qE|apply qF)|(refine qL rfl (WF.of ?_) ?_; first|rfl|skip)|(simp (disch:=omega) only [go_sem, simprocAttr, qN, qO, qP, qQ, hd, t1, t2, hsn])|exact qM rfl rfl rfl|(refine qG rfl ?_)|(refine qH rfl ?_)|(refine qI rfl ?_ ?_<;>intro hc<;>(try simp only [go_sem] at hc))|(refine qJ ?_ ?_<;>intro hc<;>(try simp only [hc])<;>(try simp only [go_sem] at hc)))
  refine ⟨⟨i + 1, hlt⟩, ?_, Ent.to ?_ ?_⟩ <;> first | (show _ < _; (try simp only); omega) | (simp (disch:=omega) only [qR,qS,qT,qU,get,Nat.reduceEqDiff,↓reduceIte,qV,qW,qX,qY,qZ,and_self,dI,i64_in,and_true,true_and,rA,rB,rC,rD, hsn])
  all_goals first | exact ⟨.refl _, .refl _⟩ | exact .refl _
 obtain rfl : i = 8 := by omega
 have hti : ex8.take 8 = ex8 := by rfl
 rw [hti]
 repeat' (first|(with_reducible first|apply qA|apply qB|apply qC|apply qD|apply qE|apply qF)|(refine qL rfl (WF.of ?_) ?_; first|rfl|skip)|(simp (disch:=omega) only [go_sem, simprocAttr, qN, qO, qP, qQ])|exact qM rfl rfl rfl|(refine qG rfl ?_)|(refine qK (b0) (by decide) ?_)|(refine qK (b5) (by decide) ?_)|(refine qK (bx) (by decide) ?_)|(refine qK (c1) (by decide) ?_)|(refine qK (c2) (by decide) ?_)|(refine qK (c3) (by decide) ?_)|(refine qK (c4) (by decide) ?_)|(refine qK (o3) (by decide) ?_)|(refine qK (c5) (by decide) ?_)|(refine qK (o3t) (by decide) ?_)|(refine qK (c6) (by decide) ?_)|(refine qK (o8) (by decide) ?_)|(refine qK (c7) (by decide) ?_)|(refine qK (f1) (by decide) ?_)|(refine qK (c8) (by decide) ?_)|(refine qK (lo) (by decide) ?_)|(refine qK (s1) (by decide) ?_)|(refine qK (s2) (by decide) ?_)|(refine qH rfl ?_)|(refine qI rfl ?_ ?_<;>intro hc<;>(try simp only [go_sem] at hc))|(refine qJ ?_ ?_<;>intro hc<;>(try simp only [hc])<;>(try simp only [go_sem] at hc)))
 refine call_rel 111 rfl ?_
 simp (disch:=omega) only [go_sem,simprocAttr,qN,qO,qP,qQ]
 refine opsN.c c9 rfl rfl (by decide) ?_
 simp (disch:=omega) only [go_sem,simprocAttr,qN,qO,qP,qQ]
 repeat' (first|(with_reducible first|apply qA|apply qB|apply qC|apply qD|apply qE|apply qF)|(refine qL rfl (WF.of ?_) ?_; first|rfl|skip)|(simp (disch:=omega) only [go_sem, simprocAttr, qN, qO, qP, qQ])|exact qM rfl rfl rfl|(refine qG rfl ?_)|(refine qK (lo) (by decide) ?_)|(refine qK (s1) (by decide) ?_)|(refine qK (s2) (by decide) ?_)|(refine qH rfl ?_)|(refine qI rfl ?_ ?_<;>intro hc<;>(try simp only [go_sem] at hc))|(refine qJ ?_ ?_<;>intro hc<;>(try simp only [hc])<;>(try simp only [go_sem] at hc)))
 refine call_rel 122 rfl ?_
 simp (disch:=omega) only [go_sem,simprocAttr,qN,qO,qP,qQ]
 refine opsN.c c10 rfl rfl (by decide) ?_
 simp (disch:=omega) only [go_sem,simprocAttr,qN,qO,qP,qQ]
 have d0 : ((0 : Int) != 0) = false := rfl
 have d3 : ((3 : Int) != 3) = false := rfl
 have hl8 : ((L.length : Int) == 8) = true := by rw [hl]; rfl
 repeat' (first|(with_reducible first|apply qA|apply qB|apply qC|apply qD|apply qE|apply qF)|(refine qL rfl (WF.of ?_) ?_; first|rfl|skip)|(simp (disch:=omega) only [go_sem, simprocAttr, qN, qO, qP, qQ, d0, d3, hl8, exR])|exact qM rfl rfl rfl|(refine qG rfl ?_)|(refine qK (a2) (by decide) ?_)|(refine qK (a4) (by decide) ?_)|(refine qK (a5) (by decide) ?_)|(refine qK (sm) (by decide) ?_)|(refine qK (i1) (by decide) ?_)|(refine qK (i2) (by decide) ?_)|(refine qK (s3) (by decide) ?_)|(refine qK (s4) (by decide) ?_)|(refine qH rfl ?_)|(refine qI rfl ?_ ?_<;>intro hc<;>(try simp only [go_sem] at hc))|(refine qJ ?_ ?_<;>intro hc<;>(try simp only [hc])<;>(try simp only [go_sem] at hc)))
end Go.Dw.Seat
end
section
set_option linter.unusedSimpArgs false
set_option maxRecDepth 100000
namespace Go.Dw.Seat
open Go Go.Dw Go.Proofs Go.IntWalk
theorem rgt_one {p : PBs} {b : PBx} {l : List PPl} (h : opE p b [l] = 0) : rgtE p b [l] = if (fltF p b l).2 = 0 then 0 else 9 := by
 unfold rgtE
 rw [if_neg (by simpa using h)]
 by_cases hf : (fltF p b l).2 = 0 <;> simp [hf]
end Go.Dw.Seat
end
section
set_option linter.unusedSimpArgs false
set_option maxRecDepth 100000
namespace Go.Dw.Seat
open Go Go.Dw Go.Proofs Go.IntWalk
theorem six {s : List Nat} (h : s.length = 6 ∧ AllLt 256 s) : ∃ a b c d e f, s = [a, b, c, d, e, f] ∧ (a < 256 ∧ b < 256 ∧ c < 256) ∧ d < 256 ∧ e < 256 ∧ f < 256 := by
 obtain ⟨h1, h2⟩ := h
 match s, h1 with
 | [a, b, c, d, e, f], _ =>
  exact ⟨a, b, c, d, e, f, rfl, ⟨h2 a (by simp), h2 b (by simp), h2 c (by simp)⟩, h2 d (by simp), h2 e (by simp), h2 f (by simp)⟩
theorem byE {s : List Nat} : (eN s).map D.c = s.map dU := by rw [eN, List.map_map]; rfl
structure YOk (p : PBs) (b : PBx) : Prop where
 pk : p.ok
 bk : b.ok
 x : 20 ≤ rmX p ∧ rmX p ≤ 99
 y : 20 ≤ rmY p ∧ rmY p ≤ 99
 lg : p.lg ≤ 89
 wd : p.wd ≤ 89
theorem y_ok {a b c d e f : Nat} (h1 : a < 256 ∧ b < 256 ∧ c < 256) (h2 : d < 256 ∧ e < 256 ∧ f < 256) : YOk (yBs a b c) (yBx d e f) := ⟨yBs_ok h1.1 h1.2.1 h1.2.2, yBx_ok h2.1 h2.2.1 h2.2.2, yRm.1, yRm.2, by simp only [yBs]; omega, by simp only [yBs]; omega⟩
structure ScFacts (p : PBs) (b : PBx) (l : List PPl) : Prop where
 len : l.length ≤ 30
 lies : Lies p b l
 mem : ∀ q ∈ l, (0 ≤ q.x ∧ q.x ≤ 140) ∧ 0 ≤ q.y ∧ q.y ≤ 140
 liesB : liesB p b [] l = true
 op : opE p b [l] = 0
 rgt : rgtE p b [l] = 0
theorem sc_facts {p : PBs} {b : PBx} (h : YOk p b) (l : List Nat) : ScFacts p b (scR p b l) := by
 have h1 := scF_ok p b l (scN l)
 have h2 := sc_mem (p := p) (b := b) (l := l) (scN l)
 have hx := h.x
 have hy := h.y
 have hm : ∀ q ∈ scR p b l, (0 ≤ q.x ∧ q.x ≤ 140) ∧ 0 ≤ q.y ∧ q.y ≤ 140 := fun q hq => by
  have a1 := h2.1 q hq
  have a2 := h2.2.inn q hq
  have a3 := side_pos h.bk q
  omega
 have hl : (scR p b l).length ≤ 30 := by
  have : scN l ≤ 30 := by unfold scN; omega
  have := h1.2
  show (scF p b l (scN l)).length ≤ 30
  omega
 have ho : opE p b [scR p b l] = 0 := op_yes (chk_ok.2 ⟨h.pk, h.bk⟩) (ly_yes fun x hx => by rw [List.mem_singleton.1 hx]; exact ⟨by omega, hm⟩)
 refine ⟨hl, h2.2, hm, h1.1, ho, ?_⟩
 rw [rgt_one ho, if_pos (flt_lies.2 h2.2)]
end Go.Dw.Seat
end
section
set_option linter.unusedSimpArgs false
set_option maxRecDepth 100000
namespace Go.Dw.Seat
open Go Go.Dw Go.Proofs Go.IntWalk
theorem crBackward (l : List (Lod)) : DCall Try.prog 135 [.c (.sl false 4 (rows eLd l))] [] (.fn (.func 137) [] [.c (.ro false [.sl false 4 (rows eLd l)] 0)]) [] := by
 refine DCall.of Try.func135 sf135 hb135 (Nat.le_of_ble_eq_true rfl) (okRes_nil fun _ => rfl) ?_; simp only [s135, idxs, Nat.reduceAdd]
 repeat' (first|(with_reducible first|apply qA|apply qB|apply qC|apply qD|apply qE|apply qF)|(simp (disch:=omega) only [go_sem, simprocAttr, qN, qO, qP, qQ])|exact qM rfl rfl rfl|(refine qG rfl ?_)|(refine qH rfl ?_)|(refine qI rfl ?_ ?_<;>intro hc<;>(try simp only [go_sem] at hc))|(refine qJ ?_ ?_<;>intro hc<;>(try simp only [hc])<;>(try simp only [go_sem] at hc)))
 (refine retS_ent (Ent.rel 1 rfl) ?_; simp (disch:=omega) only [go_sem,simprocAttr,qN,qO,qP,qQ])
 refine retS_wk rfl ?_ (by simp only [Blk.nb, rowC_nb, D.nb, D.nbs, C.nb, C.nbs, C.nbss, rows_nb eI_nb, Bool.and_true, Bool.not_false, Bool.and_self, bD, dI, iD, rows_nb eK_nb, rows_nb eLd_nb]); exact .refl _
def backL {α : Type} (l : List α) : List (α × Nat) := l.zipIdx.reverse
theorem backL_nil {α : Type} : backL ([] : List α) = [] := rfl
theorem backL_take {α : Type} (l : List α) (i : Nat) (v : α) (hv : l[i]? = some v) : backL (l.take (i + 1)) = (v, i) :: backL (l.take i) := by
 rw [List.take_add_one, hv]
 have hlt : i < l.length := by
  rcases Nat.lt_or_ge i l.length with h | h
  ·exact h
  ·rw [List.getElem?_eq_none h] at hv; cases hv
 simp only [backL, Option.toList_some, List.zipIdx_append, List.length_take, Nat.min_eq_left (Nat.le_of_lt hlt), List.zipIdx_singleton, List.reverse_append, List.reverse_cons, List.reverse_nil, List.nil_append, List.cons_append, Nat.zero_add]
def enBack (e : Lod × Nat) : List D := [dI e.2, .agg ((eLd e.1).map D.c)]
theorem crBack (l : List (Lod)) (hl : l.length ≤ 1000) (p : Bool) : ItD Try.prog 137 [] [.c (.ro p [.sl false 4 (rows eLd l)] 0)] enBack (fun e => l[e.2]? = some e.1) (backL l) := by
 intro ly β H stp live hW hY b0 hl0
 have hH : ∀ b, HidOk (H b) := fun b => (hW b).toHidOk
 refine DCall.of Try.func137 sf137 hb137 (Nat.le_of_ble_eq_true rfl) (hH _).res ?_
 simp only [s137, idxs, Nat.reduceAdd, List.map_nil, List.map_cons, List.nil_append, List.cons_append]
 repeat' (first|(with_reducible first|apply qA|apply qB|apply qC|apply qD|apply qE|apply qF)|(simp (disch:=omega) only [go_sem, simprocAttr, qN, qO, qP, qQ])|exact qM rfl rfl rfl|(refine qG rfl ?_)|(refine qH rfl ?_)|(refine qI rfl ?_ ?_<;>intro hc<;>(try simp only [go_sem] at hc))|(refine qJ ?_ ?_<;>intro hc<;>(try simp only [hc])<;>(try simp only [go_sem] at hc)))
 refine DW.loop (ι := { s : Nat × β // s.1 ≤ l.length ∧ live s.2 ∧ runB stp b0 (backL l) = runB stp s.2 (backL (l.take s.1)) })
  (fun s => ⟨19, [(3, dI ((s.1.1 : Int) - 1)), (0, .c (.fn (.yield ly) [] [])), (1, .c (.ro p [.sl false 4 (rows eLd l)] 0))], H s.1.2⟩) (fun s => s.1.1) ⟨(l.length, b0), Nat.le_refl _, hl0, by rw [List.take_length]⟩ ?_ ?_
 ·refine Ent.toT ?_; simp (disch:=omega) only [qR,qS,qT,qU,get,Nat.reduceEqDiff,↓reduceIte,qV,qW,qX,qY,qZ,and_self,dI,i64_in,and_true,true_and,rA,rB,rC,rD]
 rintro ⟨⟨k, b1⟩, hk, hlv, hrun⟩
 dsimp only at hk hlv hrun
 rcases k with _ | k
 ·have hd : decide ((0 : Int) ≤ ((0 : Nat) : Int) - 1) = false := by decide
  rw [List.take_zero, backL_nil] at hrun
  simp only [runB] at hrun
  repeat' (first|(with_reducible first|apply qA|apply qB|apply qC|apply qD|apply qE|apply qF)|(simp (disch:=omega) only [go_sem, simprocAttr, qN, qO, qP, qQ, hd])|exact qM rfl rfl rfl|(refine qG rfl ?_)|(refine qH rfl ?_)|(refine qI rfl ?_ ?_<;>intro hc<;>(try simp only [go_sem] at hc))|(refine qJ ?_ ?_<;>intro hc<;>(try simp only [hc])<;>(try simp only [go_sem] at hc)))
  rw [hrun]
  exact retS_hid (own := []) (.inr rfl) (hH _) rfl
 ·have e1 : ((k + 1 : Nat) : Int) - 1 = (k : Int) := by omega
  have hd : decide ((0 : Int) ≤ (k : Int)) = true := by rw [decide_eq_true_eq]; omega
  obtain ⟨v, hv⟩ := getE (l := l) (i := k) (by omega)
  rw [backL_take l k v hv] at hrun
  obtain ⟨hyc, hlv4⟩ := hY b1 (v, k) hlv hv
  simp only [runB] at hrun
  dsimp only
  rw [e1]
  repeat' (first|(with_reducible first|apply qA|apply qB|apply qC|apply qD|apply qE|apply qF)|(simp (disch:=omega) only [go_sem, simprocAttr, qN, qO, qP, qQ, hd, hv, rF, rG])|exact qM rfl rfl rfl|(refine qG rfl ?_)|(refine qH rfl ?_)|(refine qI rfl ?_ ?_<;>intro hc<;>(try simp only [go_sem] at hc))|(refine qJ ?_ ?_<;>intro hc<;>(try simp only [hc])<;>(try simp only [go_sem] at hc)))
  refine call_y (own := []) hyc rfl rfl rfl (hH _) (hH _) (by decide) ?_
  cases hs : (stp b1 (v, k)).1 with
  | true =>
   rw [hs] at hrun hlv4
   simp (disch:=omega) only [go_sem,simprocAttr,qN,qO,qP,qQ]
   repeat' (first|(with_reducible first|apply qA|apply qB|apply qC|apply qD|apply qE|apply qF)|(simp (disch:=omega) only [go_sem, simprocAttr, qN, qO, qP, qQ])|exact qM rfl rfl rfl|(refine qG rfl ?_)|(refine qH rfl ?_)|(refine qI rfl ?_ ?_<;>intro hc<;>(try simp only [go_sem] at hc))|(refine qJ ?_ ?_<;>intro hc<;>(try simp only [hc])<;>(try simp only [go_sem] at hc)))
   refine ⟨⟨(k, (stp b1 (v, k)).2), by omega, hlv4 rfl, hrun⟩, by (show _ < _; (try simp only); omega), Ent.toT ?_⟩; simp (disch:=omega) only [qR,qS,qT,qU,get,Nat.reduceEqDiff,↓reduceIte,qV,qW,qX,qY,qZ,and_self,dI,i64_in,and_true,true_and,rA,rB,rC,rD]
  | false =>
   rw [hs] at hrun
   simp (disch:=omega) only [go_sem,simprocAttr,qN,qO,qP,qQ]
   repeat' (first|(with_reducible first|apply qA|apply qB|apply qC|apply qD|apply qE|apply qF)|(simp (disch:=omega) only [go_sem, simprocAttr, qN, qO, qP, qQ])|exact qM rfl rfl rfl|(refine qG rfl ?_)|(refine qH rfl ?_)|(refine qI rfl ?_ ?_<;>intro hc<;>(try simp only [go_sem] at hc))|(refine qJ ?_ ?_<;>intro hc<;>(try simp only [hc])<;>(try simp only [go_sem] at hc)))
   rw [hrun]
   exact retS_hid (own := []) (.inl rfl) (hH _) rfl
def w64 (n : Int) : Int := IntKind.i64.wrap n
def fallS : Int → Int → List (Lod × Nat) → List (Nat × Int × Int)
 | _, _, [] => []
 | lo, hi, e :: t => (e.2, lo, hi) :: fallS (w64 (lo + e.1.wl)) (w64 (hi + e.1.wh)) t
def enF (e : Nat × Int × Int) : List D := [dI e.1, .agg [dI e.2.1, dI e.2.2]]
def falS {β : Type} (stp : β → Nat × Int × Int → Bool × β) (y : β × Int × Int) (e : Lod × Nat) : Option Exit × (β × Int × Int) :=
 if (stp y.1 (e.2, y.2.1, y.2.2)).1 = true then (none, ((stp y.1 (e.2, y.2.1, y.2.2)).2, w64 (y.2.1 + e.1.wl), w64 (y.2.2 + e.1.wh))) else (some .ret, ((stp y.1 (e.2, y.2.1, y.2.2)).2, y.2))
theorem falS_run {β : Type} (stp : β → Nat × Int × Int → Bool × β) : ∀ (L : List (Lod × Nat)) (b : β) (lo hi : Int),
  ((runIt (falS stp) (b, lo, hi) L).1 = some .ret ∨ (runIt (falS stp) (b, lo, hi) L).1 = none) ∧ (runIt (falS stp) (b, lo, hi) L).2.1 = runB stp b (fallS lo hi L)
 | [], b, lo, hi => ⟨.inr rfl, rfl⟩
 | e :: L, b, lo, hi => by
  simp only [runIt, falS, fallS, runB]
  by_cases hs : (stp b (e.2, lo, hi)).1 = true
  ·simp only [hs, if_true]
   exact falS_run stp L _ _ _
  ·simp [hs]
attribute [go_sem] enBack enF
theorem crFalling (l : List Lod) : DCall Try.prog 124 [.c (.sl false 4 (rows eLd l))] [] (.fn (.func 134) [] [.c (.ro false [.sl false 4 (rows eLd l)] 0)]) [] := by
 refine DCall.of Try.func124 sf124 hb124 (Nat.le_of_ble_eq_true rfl) (okRes_nil fun _ => rfl) ?_; simp only [s124, idxs, Nat.reduceAdd]
 repeat' (first|(with_reducible first|apply qA|apply qB|apply qC|apply qD|apply qE|apply qF)|(simp (disch:=omega) only [go_sem, simprocAttr, qN, qO, qP, qQ])|exact qM rfl rfl rfl|(refine qG rfl ?_)|(refine qH rfl ?_)|(refine qI rfl ?_ ?_<;>intro hc<;>(try simp only [go_sem] at hc))|(refine qJ ?_ ?_<;>intro hc<;>(try simp only [hc])<;>(try simp only [go_sem] at hc)))
 (refine retS_ent (Ent.rel 1 rfl) ?_; simp (disch:=omega) only [go_sem,simprocAttr,qN,qO,qP,qQ])
 refine retS_wk rfl ?_ (by simp only [Blk.nb, rowC_nb, D.nb, D.nbs, C.nb, C.nbs, C.nbss, rows_nb eI_nb, Bool.and_true, Bool.not_false, Bool.and_self, bD, dI, iD, rows_nb eK_nb, rows_nb eLd_nb]); exact .refl _
set_option maxHeartbeats 1000000 in
theorem crFall1 (l : List Lod) (hl : l.length ≤ 1000) (p : Bool) : ItD Try.prog 134 [] [.c (.ro p [.sl false 4 (rows eLd l)] 0)] enF (fun e => e.1 < l.length) (fallS 0 0 (backL l)) := by
 intro ly β H stp live hW hY b0 hl0
 have hH : ∀ b, HidOk (H b) := fun b => (hW b).toHidOk
 have hb := crBackward l
 have hit := crBack l hl false
 refine DCall.of Try.func134 sf134 hb134 (Nat.le_of_ble_eq_true rfl) (hH _).res ?_
 simp only [s134, idxs, Nat.reduceAdd, List.map_nil, List.map_cons, List.nil_append, List.cons_append]
 have f1 := hid_get (hH b0)
 have f2 := hid_ins (hH b0)
 have f3 := (hH b0).men
 have f4 := (hH b0).lo
 have f5 : ∀ k x, k < 1000 → ins k x (H b0) = H b0 ++ [(k, x)] := fun k x hk => by have := f2 k hk x []; rwa [List.append_nil] at this
 repeat' (first|(with_reducible first|apply qA|apply qB|apply qC|apply qD|apply qE|apply qF)|(simp (disch:=omega) only [go_sem, simprocAttr, qN, qO, qP, qQ, f1, f2, f3, f4, f5, ins])|exact qM rfl rfl rfl|(refine qG rfl ?_)|(refine qK (hb) (by decide) ?_)|(refine qH rfl ?_)|(refine qI rfl ?_ ?_<;>intro hc<;>(try simp only [go_sem] at hc))|(refine qJ ?_ ?_<;>intro hc<;>(try simp only [hc])<;>(try simp only [go_sem] at hc)))
 refine DW.ent (Ent.comm (hH b0) rfl).1 ?_
 refine DW.ent (σ' := ⟨28, [(7, .fn (.func 137) [] [.c (.ro false [.sl false 4 (rows eLd l)] 0)]), (3, .box 3 0), (2, .box 2 0)], [(3, .box [dI 0, dI 0]), (2, .box [.c (.fn (.yield ly) [] [])])] ++ H b0⟩) ?_ ?_
 ·refine Ent.toH (hH b0) rfl ?_ ?_ <;> simp (disch:=omega) only [qR,qS,qT,qU,get,Nat.reduceEqDiff,↓reduceIte,qV,qW,qX,qY,qZ,and_self,dI,i64_in,and_true,true_and,rA,rB,rC,rD]
 refine DW.rngD (fs := []) (caps := [.c (.ro false [.sl false 4 (rows eLd l)] 0)]) rfl (fun _ => ⟨rfl, rfl⟩) (fun y : β × Int × Int => [(3, .box [dI y.2.1, dI y.2.2]), (2, .box [.c (.fn (.yield ly) [] [])])] ++ H y.1) (b0, 0, 0) rfl (falS stp) enBack (fun e => l[e.2]? = some e.1) (backL l) hit (fun y => live y.1) hl0 ?_ (by decide) (fun _ _ => rfl) (fun _ _ _ => rfl) (by simp only [List.map_cons, List.map_nil]; decide) ?_ ?_ ?_ ?_ ?_ ?_ ?_
 ·rintro ⟨b, lo, hi⟩ ⟨s, i⟩ hiv hs h1
  have hlt : i < l.length := (List.getElem?_eq_some_iff.1 hs).1
  simp only [falS] at h1 ⊢
  dsimp only at hiv
  split at h1
  ·rename_i hc
   rw [if_pos hc]
   exact (hY b (i, lo, hi) hiv hlt).2 hc
  ·cases h1
 ·intro y
  show get 999 (H y.1) = none
  exact (hH y.1).lo 999 (by decide)
 ·intro y
  have := (hW y.1).app2 (3, Blk.box [dI y.2.1, dI y.2.2]) (2, .box [.c (.fn (.yield ly) [] [])])
  simp only [List.cons_append, List.nil_append, wfB, List.all_cons, List.all_nil, this, Bool.and_true]
  rfl
 ·intro y j x hj
  rw [get_app] at hj
  cases hg : get j [(3, Blk.box [dI y.2.1, dI y.2.2]), (2, .box [.c (.fn (.yield ly) [] [])])] with
  | none => rw [hg] at hj; exact (hH y.1).nb j x hj
  | some x' =>
   rw [hg] at hj; cases hj
   have := get_mem hg
   simp only [List.mem_cons, Prod.mk.injEq, List.not_mem_nil, or_false] at this
   rcases this with ⟨_, rfl⟩ | ⟨_, rfl⟩ <;> rfl
 ·intro p hp
  simp only [List.mem_cons, List.not_mem_nil, or_false] at hp
  rcases hp with rfl | rfl | rfl
  ·simp only [D.nb, D.nbs, C.nb, C.nbs, rows_nb eLd_nb, Bool.and_self, Bool.not_false]
  ·rfl
  ·rfl
 ·intro y e
  simp only [falS]
  split <;> rfl
 ·rintro ⟨b, lo, hi⟩ hiv ⟨s, i⟩ hs v
  have hlt : i < l.length := (List.getElem?_eq_some_iff.1 hs).1
  dsimp only at hiv hs
  obtain ⟨hyc, hlv⟩ := hY b (i, lo, hi) hiv hlt
  have g1 := hid_get (hH b)
  have g2 := hid_ins (hH b)
  have g3 := (hH b).men
  have g4 := (hH b).lo
  refine DW.ent (Ent.swap ((hH b).lo 999 (by decide))).1 ?_
  have hS : falS stp (b, lo, hi) (s, i) = if (stp b (i, lo, hi)).1 = true then (none, ((stp b (i, lo, hi)).2, w64 (lo + s.wl), w64 (hi + s.wh))) else (some .ret, ((stp b (i, lo, hi)).2, lo, hi)) := rfl
  cases hc : (stp b (i, lo, hi)).1 with
  | true =>
   rw [hc, if_pos rfl] at hS
   rw [hc] at hyc
   rw [hS]
   simp (disch:=omega) only [go_sem,simprocAttr,qN,qO,qP,qQ,rF,rG,g3,g4]
   repeat' (first|(with_reducible first|apply qA|apply qB|apply qC|apply qD|apply qE|apply qF)|(simp (disch:=omega) only [go_sem, simprocAttr, qN, qO, qP, qQ, rF, rG, g3, g4])|exact qM rfl rfl rfl|(refine qG rfl ?_)|(refine qH rfl ?_)|(refine qI rfl ?_ ?_<;>intro hc<;>(try simp only [go_sem] at hc))|(refine qJ ?_ ?_<;>intro hc<;>(try simp only [hc])<;>(try simp only [go_sem] at hc)))
   refine call_y (own := [_, _, _, _]) hyc rfl rfl rfl (hH _) (hH _) (by decide) ?_
   simp (disch:=omega) only [go_sem,simprocAttr,qN,qO,qP,qQ]
   repeat' (first|(with_reducible first|apply qA|apply qB|apply qC|apply qD|apply qE|apply qF)|(simp (disch:=omega) only [go_sem, simprocAttr, qN, qO, qP, qQ])|exact qM rfl rfl rfl|(refine qG rfl ?_)|(refine qH rfl ?_)|(refine qI rfl ?_ ?_<;>intro hc<;>(try simp only [go_sem] at hc))|(refine qJ ?_ ?_<;>intro hc<;>(try simp only [hc])<;>(try simp only [go_sem] at hc)))
   refine round_end rfl rfl (Ent.trans ?_ (Ent.swap (o := [(3, Blk.box [dI (w64 (lo + s.wl)), dI (w64 (hi + s.wh))]), (2, Blk.box [D.c (C.fn (Fn.yield ly) [] [])])]) (c := capB v [(7, D.fn (Fn.func 137) [] [D.c (C.ro false [C.sl false 4 (rows eLd l)] 0)]), (3, D.box 3 0), (2, D.box 2 0)]) ((hH (stp b (i, lo, hi)).2).lo 999 (by decide))).2)
   refine Ent.toH (o := [_, _, _, _]) (o' := [_, _, _]) (hH _) ?_ ?_ ?_
   ·rfl
   ·simp (disch:=omega) only [qR,qS,qT,qU,get,Nat.reduceEqDiff,↓reduceIte,qV,qW,qX,qY,qZ,and_self,dI,i64_in,and_true,true_and,rA,rB,rC,rD,capB]
   ·simp (disch:=omega) only [qR,qS,qT,qU,get,Nat.reduceEqDiff,↓reduceIte,qV,qW,qX,qY,qZ,and_self,dI,i64_in,and_true,true_and,rA,rB,rC,rD,capB,w64]
  | false =>
   rw [hc, if_neg (by decide)] at hS
   rw [hc] at hyc
   rw [hS]
   simp (disch:=omega) only [go_sem,simprocAttr,qN,qO,qP,qQ,rF,rG,g3,g4]
   repeat' (first|(with_reducible first|apply qA|apply qB|apply qC|apply qD|apply qE|apply qF)|(simp (disch:=omega) only [go_sem, simprocAttr, qN, qO, qP, qQ, rF, rG, g3, g4])|exact qM rfl rfl rfl|(refine qG rfl ?_)|(refine qH rfl ?_)|(refine qI rfl ?_ ?_<;>intro hc<;>(try simp only [go_sem] at hc))|(refine qJ ?_ ?_<;>intro hc<;>(try simp only [hc])<;>(try simp only [go_sem] at hc)))
   refine call_y (own := [_, _, _, _]) hyc rfl rfl rfl (hH _) (hH _) (by decide) ?_
   simp (disch:=omega) only [go_sem,simprocAttr,qN,qO,qP,qQ]
   repeat' (first|(with_reducible first|apply qA|apply qB|apply qC|apply qD|apply qE|apply qF)|(simp (disch:=omega) only [go_sem, simprocAttr, qN, qO, qP, qQ])|exact qM rfl rfl rfl|(refine qG rfl ?_)|(refine qH rfl ?_)|(refine qI rfl ?_ ?_<;>intro hc<;>(try simp only [go_sem] at hc))|(refine qJ ?_ ?_<;>intro hc<;>(try simp only [hc])<;>(try simp only [go_sem] at hc)))
   refine round_end rfl rfl (Ent.trans ?_ (Ent.swap (o := [(3, Blk.box [dI lo, dI hi]), (2, Blk.box [D.c (C.fn (Fn.yield ly) [] [])])]) (c := capB v [(7, D.fn (Fn.func 137) [] [D.c (C.ro false [C.sl false 4 (rows eLd l)] 0)]), (3, D.box 3 0), (2, D.box 2 0)]) ((hH (stp b (i, lo, hi)).2).lo 999 (by decide))).2)
   refine Ent.toH (o := [_, _, _, _]) (o' := [_, _, _]) (hH _) ?_ ?_ ?_
   ·rfl
   ·simp (disch:=omega) only [qR,qS,qT,qU,get,Nat.reduceEqDiff,↓reduceIte,qV,qW,qX,qY,qZ,and_self,dI,i64_in,and_true,true_and,rA,rB,rC,rD,capB]
   ·simp (disch:=omega) only [qR,qS,qT,qU,get,Nat.reduceEqDiff,↓reduceIte,qV,qW,qX,qY,qZ,and_self,dI,i64_in,and_true,true_and,rA,rB,rC,rD,capB]
 ·have hrs := falS_run stp (backL l) b0 0 0
  generalize runIt (falS stp) (b0, 0, 0) (backL l) = R at *
  obtain ⟨o, b, lo, hi⟩ := R
  dsimp only at hrs ⊢
  rw [← hrs.2]
  rcases hrs.1 with rfl | rfl
  ·simp (disch:=omega) only [go_sem,simprocAttr,qN,qO,qP,qQ,Option.getD_some]
   exact retS_hid (own := [_, _]) (.inl rfl) (hH _) rfl
  ·simp (disch:=omega) only [go_sem,simprocAttr,qN,qO,qP,qQ,Option.getD_none]
   exact retS_hid (own := [_, _]) (.inr rfl) (hH _) rfl
end Go.Dw.Seat
end
section
set_option linter.unusedSimpArgs false
set_option maxRecDepth 100000
namespace Go.Dw.Seat
open Go Go.Dw Go.Proofs Go.IntWalk
theorem runIt_all {α ε : Type} {step : α → ε → Option Exit × α} (h : ∀ a e, (step a e).1 = none) : ∀ (L : List ε) (a : α), runIt step a L = (none, L.foldl (fun a e => (step a e).2) a)
 | [], a => rfl
 | e :: L, a => by
  have ih := runIt_all h L (step a e).2
  have hn := h a e
  rw [List.foldl_cons, ← ih]
  simp only [runIt]
  rcases he : step a e with ⟨o, a'⟩
  rw [he] at hn
  dsimp only at hn
  subst hn
  rfl
theorem w64_in {n : Int} (h : -9223372036854775808 ≤ n ∧ n < 9223372036854775808) : w64 n = n := i64_in n (by omega)
def loadsF : Nat → List Lod → List (Nat × Int × Int)
 | _, [] => []
 | i, _ :: t => (i, sumL t, sumH t) :: loadsF (i + 1) t
theorem fallS_app : ∀ (a b : List (Lod × Nat)) (lo hi lo' hi' : Int), lo' = a.foldl (fun s e => w64 (s + e.1.wl)) lo → hi' = a.foldl (fun s e => w64 (s + e.1.wh)) hi → fallS lo hi (a ++ b) = fallS lo hi a ++ fallS lo' hi' b
 | [], b, lo, hi, lo', hi', h1, h2 => by simp only [List.foldl_nil] at h1 h2; rw [h1, h2]; rfl
 | e :: a, b, lo, hi, lo', hi', h1, h2 => by
  simp only [List.cons_append, fallS]
  rw [fallS_app a b _ _ lo' hi' h1 h2]
theorem backL_cons (b : Lod) (t : List Lod) : backL (b :: t) = (backL t).map (fun e => (e.1, e.2 + 1)) ++ [(b, 0)] := by
 have : ∀ (l : List Lod) (n : Nat), l.zipIdx (n + 1) = (l.zipIdx n).map (fun e => (e.1, e.2 + 1)) := fun l => by
  induction l with
  | nil => intro n; rfl
  | cons x l ih => intro n; simp only [List.zipIdx_cons, List.map_cons, ih (n + 1)]
 simp only [backL, List.zipIdx_cons, Nat.zero_add, List.reverse_cons]
 rw [show t.zipIdx 1 = t.zipIdx (0 + 1) from rfl, this t 0, List.map_reverse]
theorem fallS_shift : ∀ (L : List (Lod × Nat)) (lo hi : Int), fallS lo hi (L.map (fun e => (e.1, e.2 + 1))) = (fallS lo hi L).map (fun e => (e.1 + 1, e.2))
 | [], _, _ => rfl
 | e :: L, lo, hi => by simp only [List.map_cons, fallS, fallS_shift L]
theorem loadsF_shift : ∀ (l : List Lod) (i : Nat), loadsF (i + 1) l = (loadsF i l).map (fun e => (e.1 + 1, e.2))
 | [], _ => rfl
 | b :: t, i => by simp only [loadsF, List.map_cons, loadsF_shift t (i + 1)]
theorem back_sums : ∀ (l : List Lod), (∀ b ∈ l, b.ok) → l.length ≤ 100000 → (backL l).foldl (fun s e => w64 (s + e.1.wl)) 0 = sumL l ∧ (backL l).foldl (fun s e => w64 (s + e.1.wh)) 0 = sumH l
 | [], _, _ => ⟨rfl, rfl⟩
 | b :: t, h, hl => by
  rw [List.length_cons] at hl
  have ht : ∀ x ∈ t, x.ok := fun x hx => h x (by simp [hx])
  obtain ⟨i1, i2⟩ := back_sums t ht (by omega)
  have hb := (h b (by simp)).weight
  obtain ⟨b1, b2⟩ := sum_b ht
  rw [backL_cons, List.foldl_append, List.foldl_append, List.foldl_map, List.foldl_map, i1, i2]
  simp only [List.foldl_cons, List.foldl_nil, sumL, sumH]
  exact ⟨w64_in (by omega), w64_in (by omega)⟩
theorem fallS_eq : ∀ (l : List Lod), (∀ b ∈ l, b.ok) → l.length ≤ 100000 → fallS 0 0 (backL l) = (loadsF 0 l).reverse
 | [], _, _ => rfl
 | b :: t, h, hl => by
  rw [List.length_cons] at hl
  have ht : ∀ x ∈ t, x.ok := fun x hx => h x (by simp [hx])
  have ih := fallS_eq t ht (by omega)
  obtain ⟨i1, i2⟩ := back_sums t ht (by omega)
  rw [backL_cons, fallS_app _ _ 0 0 (sumL t) (sumH t) (by rw [List.foldl_map, i1]) (by rw [List.foldl_map, i2]), fallS_shift, ih]
  simp only [fallS, loadsF, List.reverse_cons, loadsF_shift t 0, List.map_reverse]
def lowS (l : List Lod) (k : Int) (a : Int × Bool) (e : Nat × Int × Int) : Option Exit × (Int × Bool) := match l[e.1]? with
 | some v => if bearsI v k < e.2.2 then (none, ((e.1 : Int), true)) else (none, a)
 | none => (none, a)
theorem lowS_none (l : List Lod) (k : Int) (a : Int × Bool) (e : Nat × Int × Int) : (lowS l k a e).1 = none := by
 unfold lowS; split <;> (try split) <;> rfl
theorem low_fold (l : List Lod) (k : Int) (a : Int × Bool) : ∀ (t pre : List Lod), l = pre ++ t → (loadsF pre.length t).foldr (fun e a => (lowS l k a e).2) a = match failN k t with
  | some i => (((pre.length + i : Nat) : Int), true)
  | none => a
 | [], _, _ => rfl
 | b :: t, pre, hl => by
  have ih := low_fold l k a t (pre ++ [b]) (by simp [hl])
  simp only [List.length_append, List.length_singleton] at ih
  have hg : l[pre.length]? = some b := by rw [hl, List.getElem?_append_right (Nat.le_refl _), Nat.sub_self]; rfl
  simp only [loadsF, List.foldr_cons, failN, ih]
  unfold lowS
  simp only [hg]
  split
  ·simp
  ·cases hf : failN k t with
   | none => rfl
   | some i => simp only [Option.map_some]; congr 2; omega
def lowR (k : Int) (l : List Lod) : Int × Bool := match failN k l with
 | some i => ((i : Int), true)
 | none => (0, false)
theorem low_run (l : List Lod) (k : Int) (h : ∀ b ∈ l, b.ok) (hl : l.length ≤ 100000) : runIt (lowS l k) (0, false) (fallS 0 0 (backL l)) = (none, lowR k l) := by
 rw [runIt_all (lowS_none l k), fallS_eq l h hl, List.foldl_reverse]
 have := low_fold l k (0, false) l [] rfl
 simp only [List.length_nil, Nat.zero_add] at this
 rw [this]; rfl
set_option maxHeartbeats 1000000 in
theorem crLowest (l : List Lod) (h : ∀ b ∈ l, b.ok) (hl : l.length ≤ 1000) (k : Int) (hk : 0 ≤ k ∧ k ≤ 1000) : DCall Try.prog 95 [.c (.sl false 4 (rows eLd l)), dI k] [] (.tup [dI (lowR k l).1, bD (lowR k l).2]) [] := by
 have h1 := crFalling l
 have hit := crFall1 l hl false
 refine DCall.of Try.func95 sf95 hb95 (Nat.le_of_ble_eq_true rfl) (okRes_nil fun _ => rfl) ?_; simp only [s95, o95_0, o95_1, o95_2, o95_3, idxs, Nat.reduceAdd]
 repeat' (first|(with_reducible first|apply qA|apply qB|apply qC|apply qD|apply qE|apply qF)|(refine qL rfl (WF.of ?_) ?_; first|rfl|skip)|(refine DW.ord rfl (WF.of (by first|rfl|simp (disch:=omega) only [go_sem, simprocAttr, qN, qO, qP, qQ])) ?_ ?_ ?_; rotate_left)|rfl|(with_reducible refine And.intro ?_ ?_)|(simp (disch:=omega) only [go_sem, simprocAttr, qN, qO, qP, qQ])|exact qM rfl rfl rfl|(refine qG rfl ?_)|(refine qK (h1) (by decide) ?_)|(refine qH rfl ?_)|(refine qI rfl ?_ ?_<;>intro hc<;>(try simp only [go_sem] at hc))|(refine qJ ?_ ?_<;>intro hc<;>(try simp only [hc])<;>(try simp only [go_sem] at hc)))
 refine DW.rngBD (fs := []) (caps := [.c (.ro false [.sl false 4 (rows eLd l)] 0)]) (fun y : Int × Bool => [(5, .box [bD y.2]), (4, .box [dI y.1]), (3, .box [dI k]), (2, .box [.c (.sl false 4 (rows eLd l))])]) (0, false) (lowS l k) enF (fun e => e.1 < l.length) (fallS 0 0 (backL l)) hit (fun _ => True) trivial (fun _ _ _ _ _ => trivial) rfl (fun _ => ⟨rfl, rfl⟩) rfl (by decide) (fun _ _ => rfl) (fun _ _ _ => rfl) (by simp only [List.map_cons, List.map_nil]; decide) (fun _ => rfl) (fun _ => rfl) (fun _ => (by simp only [List.all_cons, List.all_nil, Blk.nb, rowC_nb, D.nb, D.nbs, C.nb, C.nbs, C.nbss, rows_nb eI_nb, Bool.and_true, Bool.not_false, Bool.and_self, bD, dI, iD, rows_nb eK_nb, rows_nb eLd_nb])) (by simp only [List.all_cons, List.all_nil, Blk.nb, rowC_nb, D.nb, D.nbs, C.nb, C.nbs, C.nbss, rows_nb eI_nb, Bool.and_true, Bool.not_false, Bool.and_self, bD, dI, iD, rows_nb eK_nb, rows_nb eLd_nb]) (fun a e => by rw [lowS_none]; rfl) ?_ ?_
 ·rintro ⟨bx, fl⟩ _ ⟨i, lo, hi⟩ hi' v
  dsimp only at hi'
  obtain ⟨u, hu⟩ := getE hi'
  have hbe := crBears u (h u (List.mem_of_getElem? hu)) k hk
  have hS : lowS l k (bx, fl) (i, lo, hi) = if bearsI u k < hi then (none, ((i : Int), true)) else (none, (bx, fl)) := by
   simp only [lowS, hu]
  rw [hS]
  by_cases hc : bearsI u k < hi
  ·have hd : decide (bearsI u k < hi) = true := decide_eq_true hc
   rw [if_pos hc]
   simp (disch:=omega) only [go_sem,simprocAttr,qN,qO,qP,qQ,rF,rG]
   repeat' (first|(with_reducible first|apply qA|apply qB|apply qC|apply qD|apply qE|apply qF)|(refine qL rfl (WF.of ?_) ?_; first|rfl|skip)|(refine DW.ord rfl (WF.of (by first|rfl|simp (disch:=omega) only [go_sem, simprocAttr, qN, qO, qP, qQ, hu, hd, rF, rG])) ?_ ?_ ?_; rotate_left)|rfl|(with_reducible refine And.intro ?_ ?_)|(simp (disch:=omega) only [go_sem, simprocAttr, qN, qO, qP, qQ, hu, hd, rF, rG])|exact qM rfl rfl rfl|(refine qG rfl ?_)|(refine qK (hbe) (by decide) ?_)|(refine qH rfl ?_)|(refine qI rfl ?_ ?_<;>intro hc<;>(try simp only [go_sem] at hc))|(refine qJ ?_ ?_<;>intro hc<;>(try simp only [hc])<;>(try simp only [go_sem] at hc)))
   refine round_end rfl rfl (Ent.to ?_ ?_) <;> simp (disch:=omega) only [qR,qS,qT,qU,get,Nat.reduceEqDiff,↓reduceIte,qV,qW,qX,qY,qZ,and_self,dI,i64_in,and_true,true_and,rA,rB,rC,rD,capB,List.cons_append,List.nil_append]
  ·have hd : decide (bearsI u k < hi) = false := decide_eq_false hc
   rw [if_neg hc]
   simp (disch:=omega) only [go_sem,simprocAttr,qN,qO,qP,qQ,rF,rG]
   repeat' (first|(with_reducible first|apply qA|apply qB|apply qC|apply qD|apply qE|apply qF)|(refine qL rfl (WF.of ?_) ?_; first|rfl|skip)|(refine DW.ord rfl (WF.of (by first|rfl|simp (disch:=omega) only [go_sem, simprocAttr, qN, qO, qP, qQ, hu, hd, rF, rG])) ?_ ?_ ?_; rotate_left)|rfl|(with_reducible refine And.intro ?_ ?_)|(simp (disch:=omega) only [go_sem, simprocAttr, qN, qO, qP, qQ, hu, hd, rF, rG])|exact qM rfl rfl rfl|(refine qG rfl ?_)|(refine qK (hbe) (by decide) ?_)|(refine qH rfl ?_)|(refine qI rfl ?_ ?_<;>intro hc<;>(try simp only [go_sem] at hc))|(refine qJ ?_ ?_<;>intro hc<;>(try simp only [hc])<;>(try simp only [go_sem] at hc)))
   refine round_end rfl rfl (Ent.to ?_ ?_) <;> simp (disch:=omega) only [qR,qS,qT,qU,get,Nat.reduceEqDiff,↓reduceIte,qV,qW,qX,qY,qZ,and_self,dI,i64_in,and_true,true_and,rA,rB,rC,rD,capB,List.cons_append,List.nil_append]
 ·rw [low_run l k h (by omega)]
  generalize lowR k l = R
  obtain ⟨x, y⟩ := R
  repeat' (first|(with_reducible first|apply qA|apply qB|apply qC|apply qD|apply qE|apply qF)|(refine qL rfl (WF.of ?_) ?_; first|rfl|skip)|(refine DW.ord rfl (WF.of (by first|rfl|simp (disch:=omega) only [go_sem, simprocAttr, qN, qO, qP, qQ])) ?_ ?_ ?_; rotate_left)|rfl|(with_reducible refine And.intro ?_ ?_)|(simp (disch:=omega) only [go_sem, simprocAttr, qN, qO, qP, qQ])|exact qM rfl rfl rfl|(refine qG rfl ?_)|(refine qH rfl ?_)|(refine qI rfl ?_ ?_<;>intro hc<;>(try simp only [go_sem] at hc))|(refine qJ ?_ ?_<;>intro hc<;>(try simp only [hc])<;>(try simp only [go_sem] at hc)))
end Go.Dw.Seat
end
section
set_option linter.unusedSimpArgs false
set_option maxRecDepth 100000
namespace Go.Dw.Seat
open Go Go.Dw Go.Proofs Go.IntWalk
def fallR (l : List Lod) (days : Int) (t : List (Int × Int)) : Int × Int × Int := match fallT l days t with
 | some (d, i) => (d, (i : Int), 0)
 | none => (0, 0, 7)
set_option maxHeartbeats 1000000 in
theorem crFall (l : List Lod) (h : ∀ b ∈ l, b.ok) (hl : l.length ≤ 50) (t : List (Int × Int)) (days : Int) (ht : TabOk t days) : DCall Try.prog 55 [.c (.sl false 4 (rows eLd l)), .c (.sl false 2 (rows eK t)), dI days] [] (.tup [dI (fallR l days t).1, dI (fallR l days t).2.1, dI (fallR l days t).2.2]) [] := by
 generalize hR : fallR l days t = R
 have h1 := crBoxes false l 50 (by omega) (by omega) h
 have h2 := crTable t days ht
 have hlen := ht.len
 refine DCall.of Try.func55 sf55 hb55 (Nat.le_of_ble_eq_true rfl) (okRes_nil fun _ => rfl) ?_; simp only [s55, idxs, Nat.reduceAdd]
 repeat' (first|(with_reducible first|apply qA|apply qB|apply qC|apply qD|apply qE|apply qF)|(simp (disch:=omega) only [go_sem, simprocAttr, qN, qO, qP, qQ])|exact qM rfl rfl rfl|(refine qG rfl ?_)|(refine qK (h1) (by decide) ?_)|(refine qK (h2) (by decide) ?_)|(refine qH rfl ?_)|(refine qI rfl ?_ ?_<;>intro hc<;>(try simp only [go_sem] at hc))|(refine qJ ?_ ?_<;>intro hc<;>(try simp only [hc])<;>(try simp only [go_sem] at hc)))
 refine DW.loop (ι := { i : Nat // i ≤ t.length ∧ fallR l days (t.drop i) = R }) (fun i => ⟨53, [(32, dI i.1), (31, dI t.length), (30, .c (.sl false 2 (rows eK t))), (10, .box 10 0), (0, .c (.sl false 4 (rows eLd l)))], [(10, .box [.c (.sl false 2 (rows eK t)), dI days])]⟩) (fun i => t.length - i.1) ⟨0, Nat.zero_le _, hR⟩ ?_ ?_
 ·refine Ent.to ?_ ?_ <;> simp (disch:=omega) only [qR,qS,qT,qU,get,Nat.reduceEqDiff,↓reduceIte,qV,qW,qX,qY,qZ,and_self,dI,i64_in,and_true,true_and,rA,rB,rC,rD]
 rintro ⟨i, hi, hr⟩
 rcases at_or t i hi with ⟨v, hv, hlt, hd⟩ | ⟨he, hd⟩
 ·have hm := ht.mem v (List.mem_of_getElem? hv)
  have hlow := crLowest l h (by omega) v.2 hm.2
  have hdrop : t.drop i = v :: t.drop (i + 1) := by
   have e : t[i] = v := by
    have := List.getElem?_eq_getElem hlt
    rw [hv] at this; cases this; rfl
   rw [← e]; exact List.drop_eq_getElem_cons hlt
  rw [hdrop] at hr
  by_cases hc : days < v.1
  ·have hdd : decide (days < v.1) = true := decide_eq_true hc
   have hr' : R = (0, 0, 7) := by rw [← hr, fallR, fallT, if_pos hc]
   repeat' (first|(with_reducible first|apply qA|apply qB|apply qC|apply qD|apply qE|apply qF)|(simp (disch:=omega) only [go_sem, simprocAttr, qN, qO, qP, qQ, hd, hv, hdd, rF, rG])|exact qM rfl rfl rfl|(refine qG rfl ?_)|(refine qH rfl ?_)|(refine qI rfl ?_ ?_<;>intro hc<;>(try simp only [go_sem] at hc))|(refine qJ ?_ ?_<;>intro hc<;>(try simp only [hc])<;>(try simp only [go_sem] at hc)))
   refine retS_of rfl ?_ rfl; simp only [oneD, St.op, get, Nat.reduceEqDiff, ↓reduceIte, Option.getD_some, bD, dI]
   rw [hr']
  ·have hdd : decide (days < v.1) = false := decide_eq_false hc
   cases hf : failN v.2 l with
   | none =>
    have hr' : fallR l days (t.drop (i + 1)) = R := by rw [← hr, fallR, fallR, fallT, if_neg hc, hf]
    simp only [lowR, hf] at hlow
    repeat' (first|(with_reducible first|apply qA|apply qB|apply qC|apply qD|apply qE|apply qF)|(simp (disch:=omega) only [go_sem, simprocAttr, qN, qO, qP, qQ, hd, hv, hdd, rF, rG])|exact qM rfl rfl rfl|(refine qG rfl ?_)|(refine qK (hlow) (by decide) ?_)|(refine qH rfl ?_)|(refine qI rfl ?_ ?_<;>intro hc<;>(try simp only [go_sem] at hc))|(refine qJ ?_ ?_<;>intro hc<;>(try simp only [hc])<;>(try simp only [go_sem] at hc)))
    refine ⟨⟨i + 1, hlt, hr'⟩, ?_, Ent.to ?_ ?_⟩ <;> first | (show _ < _; (try simp only); omega) | (simp (disch:=omega) only [qR,qS,qT,qU,get,Nat.reduceEqDiff,↓reduceIte,qV,qW,qX,qY,qZ,and_self,dI,i64_in,and_true,true_and,rA,rB,rC,rD])
   | some j =>
    have hr' : R = (v.1, (j : Int), 0) := by rw [← hr, fallR, fallT, if_neg hc, hf]
    simp only [lowR, hf] at hlow
    repeat' (first|(with_reducible first|apply qA|apply qB|apply qC|apply qD|apply qE|apply qF)|(simp (disch:=omega) only [go_sem, simprocAttr, qN, qO, qP, qQ, hd, hv, hdd, rF, rG])|exact qM rfl rfl rfl|(refine qG rfl ?_)|(refine qK (hlow) (by decide) ?_)|(refine qH rfl ?_)|(refine qI rfl ?_ ?_<;>intro hc<;>(try simp only [go_sem] at hc))|(refine qJ ?_ ?_<;>intro hc<;>(try simp only [hc])<;>(try simp only [go_sem] at hc)))
    refine retS_of rfl ?_ rfl; simp only [oneD, St.op, get, Nat.reduceEqDiff, ↓reduceIte, Option.getD_some, bD, dI]
    rw [hr']
 ·rw [he, List.drop_length] at hr
  have hr' : R = (0, 0, 7) := by rw [← hr]; rfl
  repeat' (first|(with_reducible first|apply qA|apply qB|apply qC|apply qD|apply qE|apply qF)|(simp (disch:=omega) only [go_sem, simprocAttr, qN, qO, qP, qQ, hd])|exact qM rfl rfl rfl|(refine qG rfl ?_)|(refine qH rfl ?_)|(refine qI rfl ?_ ?_<;>intro hc<;>(try simp only [go_sem] at hc))|(refine qJ ?_ ?_<;>intro hc<;>(try simp only [hc])<;>(try simp only [go_sem] at hc)))
  refine retS_of rfl ?_ rfl; simp only [oneD, St.op, get, Nat.reduceEqDiff, ↓reduceIte, Option.getD_some, bD, dI]
  rw [hr']
end Go.Dw.Seat
end
section
set_option linter.unusedSimpArgs false
set_option maxRecDepth 100000
namespace Go.Dw.Seat
open Go Go.Dw Go.Proofs Go.IntWalk
theorem le_div_iff {k a c : Int} (hc : 0 < c) : k ≤ a / c ↔ k * c ≤ a := Int.le_ediv_iff_mul_le hc
theorem high_b (b : Lod) (hb : b.ok) (l : List (Int × Int)) (hl : ∀ s ∈ l, 0 ≤ s.2 ∧ s.2 ≤ 1000) (days : Int) : 1 ≤ highI b l days ∧ highI b l days ≤ 50 := by
 unfold highI
 split
 ·omega
 ·have h1 := lastI_b days l 0 hl (by decide)
  have h2 := bears_b hb h1
  have hw : 0 ≤ b.wh := by have := hb.2; omega
  have h3 : 0 ≤ Int.tdiv (bearsI b (lastI days l 0)) b.wh := by
   rw [Int.tdiv_eq_ediv_of_nonneg h2.1]
   exact Int.ediv_nonneg h2.1 hw
  split <;> omega
theorem lay_iff {p : PBs} {b : PBx} (hp : p.ok) (hb : b.ok) {n hg : Int} (hn : 1 ≤ n) {k : Int} (hk : 1 ≤ k) : k ≤ layI p b n hg ↔ (k ≤ 30 ∧ k ≤ hg) ∧ p.hi + k * b.hi ≤ p.top ∧ k * n * b.wh ≤ p.load := by
 have hh := hb.hi
 have hw := hb.w
 have hl := hp.load
 have h0 := hp.hi
 have h1 := hp.top
 have e1 : k ≤ max 0 (p.top - p.hi) / b.hi ↔ p.hi + k * b.hi ≤ p.top := by
  rw [le_div_iff (by omega)]
  have : 1 * b.hi ≤ k * b.hi := Int.mul_le_mul_of_nonneg_right hk (by omega)
  omega
 unfold layI
 have hm : 0 ≤ n * b.wh := Int.mul_nonneg (by omega) (by omega)
 by_cases hw0 : 0 < n * b.wh
 ·rw [if_pos hw0]
  have e2 : k ≤ p.load / (n * b.wh) ↔ k * n * b.wh ≤ p.load := by rw [le_div_iff hw0, Int.mul_assoc]
  rw [← e1, ← e2]
  omega
 ·rw [if_neg hw0]
  have e3 : k * n * b.wh = 0 := by rw [Int.mul_assoc, show n * b.wh = 0 by omega, Int.mul_zero]
  rw [e3, ← e1]
  omega
theorem lay_b {p : PBs} {b : PBx} (hp : p.ok) (hb : b.ok) {n hg : Int} (hn : 1 ≤ n) (hg0 : 0 ≤ hg) : 0 ≤ layI p b n hg ∧ layI p b n hg ≤ 30 := by
 have hh := hb.hi
 have hl := hp.load
 have h1 : 0 ≤ max 0 (p.top - p.hi) / b.hi := Int.ediv_nonneg (by omega) (by omega)
 unfold layI
 split
 ·rename_i h
  have h2 : 0 ≤ p.load / (n * b.wh) := Int.ediv_nonneg (by omega) (by omega)
  omega
 ·omega
end Go.Dw.Seat
end
section
set_option linter.unusedSimpArgs false
set_option maxRecDepth 100000
namespace Go.Dw.Seat
open Go Go.Dw Go.Proofs Go.IntWalk
theorem three {s : List Nat} (h : s.length = 3 ∧ AllLt 256 s) : ∃ a b c, s = [a, b, c] ∧ a < 256 ∧ b < 256 ∧ c < 256 := by
 obtain ⟨h1, h2⟩ := h
 match s, h1 with
 | [a, b, c], _ => exact ⟨a, b, c, rfl, h2 a (by simp), h2 b (by simp), h2 c (by simp)⟩
theorem laSteps (b : Bool) (l : List (Int × Int)) (hl : l.length ≤ 2 ^ 36) : DCall Try.prog 53 [.c (.sl b 2 (rows eK l))] [] (.c (.sl false 2 (rows eK l))) [] := by
 refine DCall.of Try.func53 sf53 hb53 (Nat.le_of_ble_eq_true rfl) (okRes_nil fun _ => rfl) ?_; simp only [s53, idxs, Nat.reduceAdd]
 repeat' (first|(with_reducible first|apply qA|apply qB|apply qC|apply qD|apply qE|apply qF)|(simp (disch:=omega) only [go_sem, simprocAttr, qN, qO, qP, qQ])|exact qM rfl rfl rfl|(refine qG rfl ?_)|(refine qH rfl ?_)|(refine qI rfl ?_ ?_<;>intro hc<;>(try simp only [go_sem] at hc))|(refine qJ ?_ ?_<;>intro hc<;>(try simp only [hc])<;>(try simp only [go_sem] at hc)))
 (refine retS_ent (Ent.rel 3 rfl) ?_; simp (disch:=omega) only [go_sem,simprocAttr,qN,qO,qP,qQ])
 refine retS_wk rfl ?_ (by simp only [Blk.nb, rowC_nb, D.nb, D.nbs, C.nb, C.nbs, C.nbss, rows_nb eI_nb, Bool.and_true, Bool.not_false, Bool.and_self, bD, dI, iD, rows_nb eP_nb, rows_nb eR_nb, rows_nb e1_nb, rows_nb eK_nb, rows_nb eLd_nb]); exact .refl _
def tabY (u v : Nat) : List (Int × Int) := [(0, 1000), (1 + (u : Int), 1000 - (v : Int) * 3)]
theorem tabY_ok {u v w : Nat} (hu : u < 256) (hv : v < 256) (hw : w < 256) : TabOk (tabY u v) w := by
 refine ⟨tabF_of (by simp [tabY]) (fun y h => ?_) (fun j hj y hy => ?_), by omega⟩
 ·simp [tabY] at h; subst h; rfl
 ·have hj2 : j < 2 := hj
  match j, hj2 with
  | 0, _ =>
   simp [tabY] at hy
   subst hy
   exact ⟨⟨by decide, by decide⟩, fun k u h => by omega⟩
  | 1, _ =>
   simp [tabY] at hy
   subst hy
   refine ⟨⟨by dsimp only; omega, by dsimp only; omega⟩, fun k z hk hz => ?_⟩
   obtain rfl : k = 0 := by omega
   simp [tabY] at hz
   subst hz
   exact ⟨by dsimp only; omega, by dsimp only; omega⟩
theorem rowC_snocLd (l : List Lod) (x : Lod) : rowC (rows eLd l) ++ [[D.c (.v (.int .i64 x.sl)), D.c (.v (.int .i64 x.sh)), D.c (.v (.int .i64 x.wl)), D.c (.v (.int .i64 x.wh))]] = rowC (rows eLd (l ++ [x])) := by simp [rowC, rows, eLd]
theorem fall_rep {b : Lod} (h : b.ok) {l : List (Int × Int)} {days : Int} (ht : TabOk l days) (n : Nat) (hn : n < 50) : (fallR (List.replicate (n + 1) b) days l).2.2 = if (n : Int) + 1 ≤ highI b l days then 7 else 0 := by
 have h1 := fall_iff (st := List.replicate (n + 1) b) (fun x hx => by rw [List.eq_of_mem_replicate hx]; exact h) ht
 rw [high_iff h ht n hn] at h1
 unfold fallR
 cases hf : fallT (List.replicate (n + 1) b) days l with
 | none => rw [if_pos (h1.1 hf)]
 | some d =>
  rw [if_neg (fun hh => by rw [h1.2 hh] at hf; cases hf)]
set_option maxHeartbeats 16000000 in
theorem laHigh (s : List Nat) (hs : s.length = 6 ∧ AllLt 256 s) (l : List Nat) (hm : l.length ≤ maxLen) (hl : AllLt 256 l) (y : List Nat) (hy3 : y.length = 3 ∧ AllLt 256 y) : DCall Try.prog 12 [.agg ((eN s).map D.c), .c (.sl false 1 (rows e1 l)), .agg ((eN y).map D.c)] [] (bD true) [] := by
 obtain ⟨a, b, c, d, e, f, rfl, h1, h2⟩ := six hs
 obtain ⟨u, v, w, rfl, hu, hv, hw⟩ := three hy3
 have hk := laKnown
 have hbd := laBed a b c d e f h1.1 h1.2.1 h1.2.2 h2.1 h2.2.1 h2.2.2
 have hY := y_ok h1 h2
 rw [byE, byE]
 simp only [List.map_cons, List.map_nil]
 generalize yBs a b c = p at *
 generalize yBx d e f = x at *
 clear h1 h2 hs
 have hp := hY.pk
 have hb := hY.bk
 have hsc := laScat p x hp hb false l hm hl
 have hsf := sc_facts hY l
 generalize scR p x l = L at *
 obtain ⟨hl30, hlies, hmem, _, hop, hrg⟩ := hsf
 have ho := laOwn false L (by omega)
 have hst := laSteps true (tabY u v) (by simp [tabY])
 have ht := tabY_ok hu hv hw
 have hLy := plLayersX p x L (by omega) (tabY u v) w ht
 rw [hrg] at hLy
 have q1 : (1 : Int) + (u : Int) = 1 + (u : Int) := rfl
 by_cases h0 : L = []
 ·subst h0
  rw [if_neg (by simp), if_neg (by simp), if_pos rfl] at hLy
  refine DCall.of Try.func12 sf12 hb12 (Nat.le_of_ble_eq_true rfl) (okRes_nil fun _ => rfl) ?_; simp only [s12, idxs, Nat.reduceAdd]
  repeat' (first|(with_reducible first|apply qA|apply qB|apply qC|apply qD|apply qE|apply qF)|(refine qL rfl (WF.of ?_) ?_; first|rfl|skip)|(simp (disch:=omega) only [go_sem, simprocAttr, qN, qO, qP, qQ, ud5, tabY, List.length_nil, rD])|exact qM rfl rfl rfl|(refine qG rfl ?_)|(refine qK (hbd) (by decide) ?_)|(refine qK (hsc) (by decide) ?_)|(refine qK (ho) (by decide) ?_)|(refine qK (hst) (by decide) ?_)|(refine qK (hLy) (by decide) ?_)|(refine qK (hk) (by decide) ?_)|(refine qH rfl ?_)|(refine qI rfl ?_ ?_<;>intro hc<;>(try simp only [go_sem] at hc))|(refine qJ ?_ ?_<;>intro hc<;>(try simp only [hc])<;>(try simp only [go_sem] at hc)))
 have hln : 0 < L.length := List.length_pos_iff.2 h0
 rw [if_pos ⟨rfl, h0⟩, if_neg (by simp), if_neg h0] at hLy
 have hlo := lodF_ok hb
 have hgb := high_b (lodF x) hlo (tabY u v) (fun s hs => (ht.mem s hs).2) w
 have hnb := lay_b hp hb (n := (L.length : Int)) (hg := highI (lodF x) (tabY u v) w) (by omega) (by omega)
 have hsp := fun (k : Int) (hk1 : 1 ≤ k) => lay_iff hp hb (n := (L.length : Int)) (hg := highI (lodF x) (tabY u v) w) (by omega) hk1
 have hfr := fun n hn => fall_rep hlo ht n hn
 generalize highI (lodF x) (tabY u v) w = hg at *
 generalize layI p x L.length hg = NI at *
 obtain ⟨N, rfl⟩ : ∃ N : Nat, NI = N := ⟨NI.toNat, by omega⟩
 have hxw := hb.w
 have hxh := hb.hi
 have hph := hp.hi
 have n1 : Int.tdiv (x.wl + 99) 100 = newt x.wl := by rw [Int.tdiv_eq_ediv_of_nonneg (by omega)]; rfl
 have n2 : Int.tdiv (x.wh + 99) 100 = newt x.wh := by rw [Int.tdiv_eq_ediv_of_nonneg (by omega)]; rfl
 have n3 : 0 ≤ newt x.wl ∧ newt x.wl ≤ 100000 := by unfold newt; omega
 have n4 : 0 ≤ newt x.wh ∧ newt x.wh ≤ 100000 := by unfold newt; omega
 have hsn := laSpan (newt x.wl) (newt x.wh)
 have d0 : ((L.length : Int) == 0) = false := by rw [beq_eq_false_iff_ne]; omega
 have d1 : decide ((N : Int) < 0) = false := decide_eq_false (by omega)
 have d2 : decide (30 < (N : Int)) = false := decide_eq_false (by omega)
 refine DCall.of Try.func12 sf12 hb12 (Nat.le_of_ble_eq_true rfl) (okRes_nil fun _ => rfl) ?_; simp only [s12, idxs, Nat.reduceAdd]
 repeat' (first|(with_reducible first|apply qA|apply qB|apply qC|apply qD|apply qE|apply qF)|(refine qL rfl (WF.of ?_) ?_; first|rfl|skip)|(simp (disch:=omega) only [go_sem, simprocAttr, qN, qO, qP, qQ, ud5, d0, d1, d2, n1, n2, tabY])|exact qM rfl rfl rfl|(refine qG rfl ?_)|(refine qK (hbd) (by decide) ?_)|(refine qK (hsc) (by decide) ?_)|(refine qK (ho) (by decide) ?_)|(refine qK (hst) (by decide) ?_)|(refine qK (hLy) (by decide) ?_)|(refine qK (hsn) (by decide) ?_)|(refine qH rfl ?_)|(refine qI rfl ?_ ?_<;>intro hc<;>(try simp only [go_sem] at hc))|(refine qJ ?_ ?_<;>intro hc<;>(try simp only [hc])<;>(try simp only [go_sem] at hc)))
 refine DW.loop (ι := { j : Nat // j ≤ 2 }) (fun j => ⟨171, [(14, dI (N + j.1 : Nat)), (13, .box 13 0), (11, dI N), (10, .own 41), (9, lyD false L), (8, .box 8 0), (7, .box 7 0), (5, .box 5 0)], [(41, .row 2 (rowC (rows eK (tabY u v)))), (13, .box [dI (newt x.wl), dI (newt x.wh)]), (8, .box (bxL x)), (7, .box (bsL p)), (5, .box [dU u, dU v, dU w])]⟩) (fun j => 2 - j.1) ⟨0, by decide⟩ ?_ ?_
 ·refine Ent.to ?_ ?_ <;> simp (disch:=omega) only [qR,qS,qT,qU,get,Nat.reduceEqDiff,↓reduceIte,qV,qW,qX,qY,qZ,and_self,dI,i64_in,and_true,true_and,rA,rB,rC,rD,Nat.add_zero]
  all_goals first | exact ⟨.refl _, .refl _⟩ | exact .refl _
 rintro ⟨j, hj⟩
 dsimp only
 obtain ⟨k, hkd⟩ : ∃ k, N + j = k := ⟨_, rfl⟩
 rw [hkd]
 by_cases hj2 : j = 2
 ·have hd : decide ((k : Int) ≤ (N : Int) + 1) = false := decide_eq_false (by omega)
  repeat' (first|(with_reducible first|apply qA|apply qB|apply qC|apply qD|apply qE|apply qF)|(refine qL rfl (WF.of ?_) ?_; first|rfl|skip)|(simp (disch:=omega) only [go_sem, simprocAttr, qN, qO, qP, qQ, hd])|exact qM rfl rfl rfl|(refine qG rfl ?_)|(refine qK (hk) (by decide) ?_)|(refine qH rfl ?_)|(refine qI rfl ?_ ?_<;>intro hc<;>(try simp only [go_sem] at hc))|(refine qJ ?_ ?_<;>intro hc<;>(try simp only [hc])<;>(try simp only [go_sem] at hc)))
 have hd : decide ((k : Int) ≤ (N : Int) + 1) = true := decide_eq_true (by omega)
 have hlo' : lodF x = ⟨x.sl, x.sh, newt x.wl, newt x.wh⟩ := rfl
 repeat' (first|(with_reducible first|apply qA|apply qB|apply qC|apply qD|apply qE|apply qF)|(refine qL rfl (WF.of ?_) ?_; first|rfl|skip)|(simp (disch:=omega) only [go_sem, simprocAttr, qN, qO, qP, qQ, hd])|exact qM rfl rfl rfl|(refine qG rfl ?_)|(refine qH rfl ?_)|(refine qI rfl ?_ ?_<;>intro hc<;>(try simp only [go_sem] at hc))|(refine qJ ?_ ?_<;>intro hc<;>(try simp only [hc])<;>(try simp only [go_sem] at hc)))
 refine DW.loop (ι := { i : Nat // i ≤ k }) (fun i => ⟨171, [(16, dI i.1), (15, .own 95), (14, dI k), (13, .box 13 0), (11, dI N), (10, .own 41), (9, lyD false L), (8, .box 8 0), (7, .box 7 0), (5, .box 5 0)], [(95, .row 4 (rowC (rows eLd (List.replicate i.1 (lodF x))))), (41, .row 2 (rowC (rows eK (tabY u v)))), (13, .box [dI (newt x.wl), dI (newt x.wh)]), (8, .box (bxL x)), (7, .box (bsL p)), (5, .box [dU u, dU v, dU w])]⟩) (fun i => k - i.1) ⟨0, Nat.zero_le _⟩ ?_ ?_
 ·refine Ent.to ?_ ?_ <;> simp (disch:=omega) only [qR,qS,qT,qU,get,Nat.reduceEqDiff,↓reduceIte,qV,qW,qX,qY,qZ,and_self,dI,i64_in,and_true,true_and,rA,rB,rC,rD,List.replicate_zero]
  all_goals first | exact ⟨.refl _, .refl _⟩ | exact .refl _
 rintro ⟨i, hi⟩
 dsimp only
 by_cases hik : i < k
 ·have hdi : decide ((i : Int) < (k : Int)) = true := decide_eq_true (by omega)
  have hrp : List.replicate (i + 1) (lodF x) = List.replicate i (lodF x) ++ [lodF x] := List.replicate_succ'
  have hrl : (List.replicate i (lodF x)).length ≤ 50 := by rw [List.length_replicate]; omega
  generalize List.replicate i (lodF x) = A at *
  have hsc2 := rowC_snocLd A (lodF x)
  rw [← hrp] at hsc2
  generalize hA1 : List.replicate (i + 1) (lodF x) = A1 at *
  dsimp only [lodF] at hsc2
  have hsb := hb.s
  repeat' (first|(with_reducible first|apply qA|apply qB|apply qC|apply qD|apply qE|apply qF)|(refine qL rfl (WF.of ?_) ?_; first|rfl|skip)|(simp (disch:=omega) only [go_sem, simprocAttr, qN, qO, qP, qQ, hdi, hsc2])|exact qM rfl rfl rfl|(refine qG rfl ?_)|(refine qH rfl ?_)|(refine qI rfl ?_ ?_<;>intro hc<;>(try simp only [go_sem] at hc))|(refine qJ ?_ ?_<;>intro hc<;>(try simp only [hc])<;>(try simp only [go_sem] at hc)))
  refine ⟨⟨i + 1, by omega⟩, ?_, Ent.to ?_ ?_⟩ <;> first | (show _ < _; (try simp only); omega) | (simp (disch:=omega) only [qR,qS,qT,qU,get,Nat.reduceEqDiff,↓reduceIte,qV,qW,qX,qY,qZ,and_self,dI,i64_in,and_true,true_and,rA,rB,rC,rD, hsc2,hA1])
  all_goals first | exact ⟨.refl _, .refl _⟩ | exact .refl _
 ·obtain rfl : i = k := by omega
  have hdi : decide ((i : Int) < (i : Int)) = false := decide_eq_false (by omega)
  have hcf := crFall (List.replicate i (lodF x)) (fun q hq => by rw [List.eq_of_mem_replicate hq]; exact hlo) (by rw [List.length_replicate]; omega) (tabY u v) w ht
  have hcf : DCall Try.prog 55 [.c (.sl true 4 (rows eLd (List.replicate i (lodF x)))), .c (.sl false 2 (rows eK (tabY u v))), dI w] [] _ [] := DCall.lbl hcf rfl (.sl (.same (.same .nil)))
  have hFF : (fallR (List.replicate i (lodF x)) w (tabY u v)).2.2 = 0 ∨ (fallR (List.replicate i (lodF x)) w (tabY u v)).2.2 = 7 := by
   unfold fallR
   split <;> simp
  have hF7 : 0 < i → (fallR (List.replicate i (lodF x)) w (tabY u v)).2.2 = if (i : Int) ≤ hg then 7 else 0 := by
   intro h
   obtain ⟨m, rfl⟩ : ∃ m, i = m + 1 := ⟨i - 1, by omega⟩
   exact hfr m (by omega)
  generalize fallR (List.replicate i (lodF x)) w (tabY u v) = F at *
  obtain ⟨F1, F2, F3⟩ := F
  dsimp only at hcf hFF hF7
  have hjj : (N : Int) + ((j : Int) + 1) = (i : Int) + 1 := by omega
  have hlt : j + 1 ≤ 2 := by omega
  by_cases hi0 : i = 0
  ·have z0 : ((i : Int) == 0) = true := by rw [beq_iff_eq]; omega
   have z1 : ((i : Int) == (N : Int)) = true := by rw [beq_iff_eq]; omega
   rcases hFF with rfl | rfl
   ·repeat' (first|(with_reducible first|apply qA|apply qB|apply qC|apply qD|apply qE|apply qF)|(refine qL rfl (WF.of ?_) ?_; first|rfl|skip)|(simp (disch:=omega) only [go_sem, simprocAttr, qN, qO, qP, qQ, hdi, ud5, z0, z1])|exact qM rfl rfl rfl|(refine qG rfl ?_)|(refine qK (hst) (by decide) ?_)|(refine qK (hcf) (by decide) ?_)|(refine qH rfl ?_)|(refine qI rfl ?_ ?_<;>intro hc<;>(try simp only [go_sem] at hc))|(refine qJ ?_ ?_<;>intro hc<;>(try simp only [hc])<;>(try simp only [go_sem] at hc)))
    refine ⟨⟨j + 1, hlt⟩, ?_, Ent.to ?_ ?_⟩ <;> first | (show _ < _; (try simp only); omega) | (simp (disch:=omega) only [qR,qS,qT,qU,get,Nat.reduceEqDiff,↓reduceIte,qV,qW,qX,qY,qZ,and_self,dI,i64_in,and_true,true_and,rA,rB,rC,rD, hjj])
   ·repeat' (first|(with_reducible first|apply qA|apply qB|apply qC|apply qD|apply qE|apply qF)|(refine qL rfl (WF.of ?_) ?_; first|rfl|skip)|(simp (disch:=omega) only [go_sem, simprocAttr, qN, qO, qP, qQ, hdi, ud5, z0, z1])|exact qM rfl rfl rfl|(refine qG rfl ?_)|(refine qK (hst) (by decide) ?_)|(refine qK (hcf) (by decide) ?_)|(refine qH rfl ?_)|(refine qI rfl ?_ ?_<;>intro hc<;>(try simp only [go_sem] at hc))|(refine qJ ?_ ?_<;>intro hc<;>(try simp only [hc])<;>(try simp only [go_sem] at hc)))
    refine ⟨⟨j + 1, hlt⟩, ?_, Ent.to ?_ ?_⟩ <;> first | (show _ < _; (try simp only); omega) | (simp (disch:=omega) only [qR,qS,qT,qU,get,Nat.reduceEqDiff,↓reduceIte,qV,qW,qX,qY,qZ,and_self,dI,i64_in,and_true,true_and,rA,rB,rC,rD, hjj])
  have z0 : ((i : Int) == 0) = false := by rw [beq_eq_false_iff_ne]; omega
  have hF7 := hF7 (by omega)
  have hs1 := hsp (i : Int) (by omega)
  obtain ⟨P1, hP1⟩ : ∃ P1, (i : Int) * x.hi = P1 := ⟨_, rfl⟩
  obtain ⟨P2, hP2⟩ : ∃ P2, (i : Int) * (L.length : Int) = P2 := ⟨_, rfl⟩
  obtain ⟨P3, hP3⟩ : ∃ P3, P2 * x.wh = P3 := ⟨_, rfl⟩
  rw [hP1, hP2, hP3] at hs1
  have b1 : 0 ≤ P1 ∧ P1 ≤ 31 * 100 := by
   rw [← hP1]
   have i31 : (i : Int) ≤ 31 := by omega
   exact ⟨Int.mul_nonneg (by omega) (by omega), Int.mul_le_mul i31 hxh.2 (by omega) (by omega)⟩
  have b2 : 0 ≤ P2 ∧ P2 ≤ 31 * 30 := by
   rw [← hP2]
   have i31 : (i : Int) ≤ 31 := by omega
   have l31 : (L.length : Int) ≤ 30 := by omega
   exact ⟨Int.mul_nonneg (by omega) (by omega), Int.mul_le_mul i31 l31 (by omega) (by omega)⟩
  have b3 : 0 ≤ P3 ∧ P3 ≤ 31 * 30 * 5000000 := by
   rw [← hP3]
   exact ⟨Int.mul_nonneg b2.1 (by omega), Int.mul_le_mul b2.2 hxw.2.2 (by omega) (by omega)⟩
  by_cases c1 : p.hi + P1 ≤ p.top
  ·have e1 : decide (p.hi + P1 ≤ p.top) = true := decide_eq_true c1
   by_cases c2 : P3 ≤ p.load
   ·have e2 : decide (P3 ≤ p.load) = true := decide_eq_true c2
    by_cases c3 : (i : Int) ≤ hg
    ·rw [if_pos c3] at hF7
     subst hF7
     have hs2 : (i : Int) ≤ (N : Int) ↔ (i : Int) ≤ 30 := ⟨fun h => (hs1.1 h).1.1, fun h => hs1.2 ⟨⟨h, c3⟩, c1, c2⟩⟩
     by_cases c4 : i = N
     ·have z1 : ((i : Int) == (N : Int)) = true := by rw [beq_iff_eq]; omega
      repeat' (first|(with_reducible first|apply qA|apply qB|apply qC|apply qD|apply qE|apply qF)|(refine qL rfl (WF.of ?_) ?_; first|rfl|skip)|(simp (disch:=omega) only [go_sem, simprocAttr, qN, qO, qP, qQ, hdi, ud5, z0, z1, hP1, hP2, hP3, e1, e2])|exact qM rfl rfl rfl|(refine qG rfl ?_)|(refine qK (hst) (by decide) ?_)|(refine qK (hcf) (by decide) ?_)|(refine qH rfl ?_)|(refine qI rfl ?_ ?_<;>intro hc<;>(try simp only [go_sem] at hc))|(refine qJ ?_ ?_<;>intro hc<;>(try simp only [hc])<;>(try simp only [go_sem] at hc)))
      refine ⟨⟨j + 1, hlt⟩, ?_, Ent.to ?_ ?_⟩ <;> first | (show _ < _; (try simp only); omega) | (simp (disch:=omega) only [qR,qS,qT,qU,get,Nat.reduceEqDiff,↓reduceIte,qV,qW,qX,qY,qZ,and_self,dI,i64_in,and_true,true_and,rA,rB,rC,rD, hjj])
     ·have z1 : ((i : Int) == (N : Int)) = false := by rw [beq_eq_false_iff_ne]; omega
      have z2 : decide ((N : Int) < 30) = false := decide_eq_false (by omega)
      repeat' (first|(with_reducible first|apply qA|apply qB|apply qC|apply qD|apply qE|apply qF)|(refine qL rfl (WF.of ?_) ?_; first|rfl|skip)|(simp (disch:=omega) only [go_sem, simprocAttr, qN, qO, qP, qQ, hdi, ud5, z0, z1, z2, hP1, hP2, hP3, e1, e2])|exact qM rfl rfl rfl|(refine qG rfl ?_)|(refine qK (hst) (by decide) ?_)|(refine qK (hcf) (by decide) ?_)|(refine qH rfl ?_)|(refine qI rfl ?_ ?_<;>intro hc<;>(try simp only [go_sem] at hc))|(refine qJ ?_ ?_<;>intro hc<;>(try simp only [hc])<;>(try simp only [go_sem] at hc)))
      refine ⟨⟨j + 1, hlt⟩, ?_, Ent.to ?_ ?_⟩ <;> first | (show _ < _; (try simp only); omega) | (simp (disch:=omega) only [qR,qS,qT,qU,get,Nat.reduceEqDiff,↓reduceIte,qV,qW,qX,qY,qZ,and_self,dI,i64_in,and_true,true_and,rA,rB,rC,rD, hjj])
    ·rw [if_neg c3] at hF7
     subst hF7
     have hs2 : ¬ (i : Int) ≤ (N : Int) := fun h => c3 (hs1.1 h).1.2
     have z1 : ((i : Int) == (N : Int)) = false := by rw [beq_eq_false_iff_ne]; omega
     repeat' (first|(with_reducible first|apply qA|apply qB|apply qC|apply qD|apply qE|apply qF)|(refine qL rfl (WF.of ?_) ?_; first|rfl|skip)|(simp (disch:=omega) only [go_sem, simprocAttr, qN, qO, qP, qQ, hdi, ud5, z0, z1, hP1, hP2, hP3, e1, e2])|exact qM rfl rfl rfl|(refine qG rfl ?_)|(refine qK (hst) (by decide) ?_)|(refine qK (hcf) (by decide) ?_)|(refine qH rfl ?_)|(refine qI rfl ?_ ?_<;>intro hc<;>(try simp only [go_sem] at hc))|(refine qJ ?_ ?_<;>intro hc<;>(try simp only [hc])<;>(try simp only [go_sem] at hc)))
     refine ⟨⟨j + 1, hlt⟩, ?_, Ent.to ?_ ?_⟩ <;> first | (show _ < _; (try simp only); omega) | (simp (disch:=omega) only [qR,qS,qT,qU,get,Nat.reduceEqDiff,↓reduceIte,qV,qW,qX,qY,qZ,and_self,dI,i64_in,and_true,true_and,rA,rB,rC,rD, hjj])
   ·have e2 : decide (P3 ≤ p.load) = false := decide_eq_false c2
    have hs2 : ¬ (i : Int) ≤ (N : Int) := fun h => c2 (hs1.1 h).2.2
    have z1 : ((i : Int) == (N : Int)) = false := by rw [beq_eq_false_iff_ne]; omega
    rcases hFF with rfl | rfl
    ·repeat' (first|(with_reducible first|apply qA|apply qB|apply qC|apply qD|apply qE|apply qF)|(refine qL rfl (WF.of ?_) ?_; first|rfl|skip)|(simp (disch:=omega) only [go_sem, simprocAttr, qN, qO, qP, qQ, hdi, ud5, z0, z1, hP1, hP2, hP3, e1, e2])|exact qM rfl rfl rfl|(refine qG rfl ?_)|(refine qK (hst) (by decide) ?_)|(refine qK (hcf) (by decide) ?_)|(refine qH rfl ?_)|(refine qI rfl ?_ ?_<;>intro hc<;>(try simp only [go_sem] at hc))|(refine qJ ?_ ?_<;>intro hc<;>(try simp only [hc])<;>(try simp only [go_sem] at hc)))
     refine ⟨⟨j + 1, hlt⟩, ?_, Ent.to ?_ ?_⟩ <;> first | (show _ < _; (try simp only); omega) | (simp (disch:=omega) only [qR,qS,qT,qU,get,Nat.reduceEqDiff,↓reduceIte,qV,qW,qX,qY,qZ,and_self,dI,i64_in,and_true,true_and,rA,rB,rC,rD, hjj])
    ·repeat' (first|(with_reducible first|apply qA|apply qB|apply qC|apply qD|apply qE|apply qF)|(refine qL rfl (WF.of ?_) ?_; first|rfl|skip)|(simp (disch:=omega) only [go_sem, simprocAttr, qN, qO, qP, qQ, hdi, ud5, z0, z1, hP1, hP2, hP3, e1, e2])|exact qM rfl rfl rfl|(refine qG rfl ?_)|(refine qK (hst) (by decide) ?_)|(refine qK (hcf) (by decide) ?_)|(refine qH rfl ?_)|(refine qI rfl ?_ ?_<;>intro hc<;>(try simp only [go_sem] at hc))|(refine qJ ?_ ?_<;>intro hc<;>(try simp only [hc])<;>(try simp only [go_sem] at hc)))
     refine ⟨⟨j + 1, hlt⟩, ?_, Ent.to ?_ ?_⟩ <;> first | (show _ < _; (try simp only); omega) | (simp (disch:=omega) only [qR,qS,qT,qU,get,Nat.reduceEqDiff,↓reduceIte,qV,qW,qX,qY,qZ,and_self,dI,i64_in,and_true,true_and,rA,rB,rC,rD, hjj])
  ·have e1 : decide (p.hi + P1 ≤ p.top) = false := decide_eq_false c1
   have hs2 : ¬ (i : Int) ≤ (N : Int) := fun h => c1 (hs1.1 h).2.1
   have z1 : ((i : Int) == (N : Int)) = false := by rw [beq_eq_false_iff_ne]; omega
   rcases hFF with rfl | rfl
   ·repeat' (first|(with_reducible first|apply qA|apply qB|apply qC|apply qD|apply qE|apply qF)|(refine qL rfl (WF.of ?_) ?_; first|rfl|skip)|(simp (disch:=omega) only [go_sem, simprocAttr, qN, qO, qP, qQ, hdi, ud5, z0, z1, hP1, e1])|exact qM rfl rfl rfl|(refine qG rfl ?_)|(refine qK (hst) (by decide) ?_)|(refine qK (hcf) (by decide) ?_)|(refine qH rfl ?_)|(refine qI rfl ?_ ?_<;>intro hc<;>(try simp only [go_sem] at hc))|(refine qJ ?_ ?_<;>intro hc<;>(try simp only [hc])<;>(try simp only [go_sem] at hc)))
    refine ⟨⟨j + 1, hlt⟩, ?_, Ent.to ?_ ?_⟩ <;> first | (show _ < _; (try simp only); omega) | (simp (disch:=omega) only [qR,qS,qT,qU,get,Nat.reduceEqDiff,↓reduceIte,qV,qW,qX,qY,qZ,and_self,dI,i64_in,and_true,true_and,rA,rB,rC,rD, hjj])
   ·repeat' (first|(with_reducible first|apply qA|apply qB|apply qC|apply qD|apply qE|apply qF)|(refine qL rfl (WF.of ?_) ?_; first|rfl|skip)|(simp (disch:=omega) only [go_sem, simprocAttr, qN, qO, qP, qQ, hdi, ud5, z0, z1, hP1, e1])|exact qM rfl rfl rfl|(refine qG rfl ?_)|(refine qK (hst) (by decide) ?_)|(refine qK (hcf) (by decide) ?_)|(refine qH rfl ?_)|(refine qI rfl ?_ ?_<;>intro hc<;>(try simp only [go_sem] at hc))|(refine qJ ?_ ?_<;>intro hc<;>(try simp only [hc])<;>(try simp only [go_sem] at hc)))
    refine ⟨⟨j + 1, hlt⟩, ?_, Ent.to ?_ ?_⟩ <;> first | (show _ < _; (try simp only); omega) | (simp (disch:=omega) only [qR,qS,qT,qU,get,Nat.reduceEqDiff,↓reduceIte,qV,qW,qX,qY,qZ,and_self,dI,i64_in,and_true,true_and,rA,rB,rC,rD, hjj])
end Go.Dw.Seat
end
section
set_option linter.unusedSimpArgs false
set_option maxRecDepth 100000
namespace Go.Dw.Seat
open Go Go.Dw Go.Proofs Go.ChangeShapes Go.WideShapes Go.ChangeAt Go.RowKit
theorem tOwn : ownKnob Try.prog.godebug = none := by kernel_rfl
theorem tLaid : laidOutB Try.prog = true := by kernel_rfl
theorem u3 : Try.prog.underlying 3 = some (.int .i64) := by kernel_rfl
theorem u4 : Try.prog.underlying 4 = some .bool := by kernel_rfl
theorem und5 : Try.prog.underlying 5 = some (.int .u8) := by kernel_rfl
theorem u71 : Try.prog.underlying 71 = some (.array 3 5) := by kernel_rfl
theorem u73 : structIs Try.prog 73 [(71, 0), (71, 3)] = true := by kernel_rfl
theorem u74 : Try.prog.underlying 74 = some (.slice 5) := by kernel_rfl
theorem cl5 : Try.prog.cellsOf 5 = 1 := by kernel_rfl
theorem cl71 : Try.prog.cellsOf 71 = 3 := by kernel_rfl
theorem cl73 : Try.prog.cellsOf 73 = 6 := by kernel_rfl
def bV (l : List Nat) : List Value := l.map fun n : Nat => Value.int .u8 (n : Int)
section
variable {H : Type} {enc : TypeId × Value → H} {w : World} {base : Nat} {spare : Nat → Bool} {held : Bool} {fuel : Nat} {cs : List Value} {x : DataW H × List MemPlace}
theorem wf8 {n : Int} (h : (Lit.int .u8 n).wf = true) : ∃ v : Nat, n = v ∧ v < 256 := by
 have e1 : IntKind.min .u8 = 0 := by decide
 have e2 : IntKind.max .u8 = 255 := by decide
 simp only [Lit.wf, e1, e2, Bool.and_eq_true, decide_eq_true_eq] at h
 exact ⟨n.toNat, by omega, by omega⟩
theorem rep_bytes : ∀ l : List Nat, RepVs w A0 (eN l) (bV l)
 | [] => rfl
 | _ :: l => ⟨_, _, rfl, ⟨rfl, rfl⟩, rep_bytes l⟩
theorem rd_U8 (h : DataW.trod enc Try.prog w base spare held fuel 5 cs = some x) : ∃ l : List Nat, (l.length = 1 ∧ AllLt 256 l) ∧ cs = bV l := by
 obtain ⟨n, e, hw⟩ := rd_int und5 h
 obtain ⟨v, rfl, hv⟩ := wf8 hw
 exact ⟨[v], ⟨rfl, fun x hx => by rw [List.mem_singleton] at hx; rw [hx]; exact hv⟩, e⟩
theorem bV_app (a b : List Nat) : bV (a ++ b) = bV a ++ bV b := by simp [bV]
theorem lt_app {b : Nat} {l l' : List Nat} (h : AllLt b l) (h' : AllLt b l') : AllLt b (l ++ l') := fun x hx => by
 rcases List.mem_append.1 hx with h1 | h1
 ·exact h x h1
 ·exact h' x h1
theorem rd_arrB {t e : TypeId} {n k : Nat} (ht : Try.prog.underlying t = some (.array n e)) (he : Try.prog.cellsOf e = k) (hc : Try.prog.cellsOf t = n * k)
  (hrd : ∀ m cs x, DataW.trod enc Try.prog w base spare held m e cs = some x → ∃ l : List Nat, (l.length = k ∧ AllLt 256 l) ∧ cs = bV l) (h : DataW.trod enc Try.prog w base spare held fuel t cs = some x) : ∃ l : List Nat, (l.length = n * k ∧ AllLt 256 l) ∧ cs = bV l := by
 obtain ⟨hl, m, hf⟩ := rd_array ht h
 rw [hc] at hl
 have key : ∀ j, j ≤ n → ∃ l : List Nat, (l.length = j * k ∧ AllLt 256 l) ∧ cs.take (j * k) = bV l := by
  intro j
  induction j with
  | zero => intro _; exact ⟨[], ⟨by simp, fun x hx => by cases hx⟩, by simp [bV]⟩
  | succ j ih =>
   intro hj
   obtain ⟨l, ⟨h1, h2⟩, h3⟩ := ih (by omega)
   obtain ⟨y, hy⟩ := hf j (by omega)
   rw [he] at hy
   obtain ⟨l', ⟨h4, h5⟩, h6⟩ := hrd _ _ _ hy
   refine ⟨l ++ l', ⟨by rw [List.length_append, h1, h4, Nat.succ_mul], lt_app h2 h5⟩, ?_⟩
   rw [Nat.succ_mul, List.take_add, h3, h6, bV_app]
 obtain ⟨l, h1, h2⟩ := key n (Nat.le_refl _)
 rw [List.take_of_length_le (by omega)] at h2
 exact ⟨l, h1, h2⟩
theorem rd_A3 (h : DataW.trod enc Try.prog w base spare held fuel 71 cs = some x) : ∃ l : List Nat, (l.length = 3 ∧ AllLt 256 l) ∧ cs = bV l := rd_arrB (n := 3) (k := 1) u71 cl5 cl71 (fun _ _ _ h => rd_U8 h) h
theorem rd_Yard (h : DataW.trod enc Try.prog w base spare held fuel 73 cs = some x) : ∃ l : List Nat, (l.length = 6 ∧ AllLt 256 l) ∧ cs = bV l := by
 obtain ⟨hl, m, hf⟩ := rd_struct u73 h
 rw [cl73] at hl
 obtain ⟨y0, h0⟩ := hf 0 71 0 rfl
 obtain ⟨y1, h1⟩ := hf 1 71 3 rfl
 rw [cl71] at h0 h1
 obtain ⟨l0, p0, e0⟩ := rd_A3 h0
 obtain ⟨l1, p1, e1⟩ := rd_A3 h1
 refine ⟨l0 ++ l1, ⟨by rw [List.length_append, p0.1, p1.1], lt_app p0.2 p1.2⟩, ?_⟩
 rw [bV_app, ← e0, ← e1]
 have s1 : (cs.drop 3).take 3 = cs.drop 3 := List.take_of_length_le (by rw [List.length_drop]; omega)
 rw [s1, List.drop_zero]
 exact (List.take_append_drop 3 cs).symm
theorem rd_Us (h : DataW.trod enc Try.prog w base spare held fuel 74 cs = some x) : ∃ (l : List Nat) (v : Value), cs = [v] ∧ RepC w A0 (.sl false 1 (rows e1 l)) v ∧ l.length ≤ maxLen ∧ AllLt 256 l := by
 obtain ⟨l, v, e', hr, hm, _⟩ := rd_slice (f := fun v : {v : Nat // v < 256} => e1 v.1) u74 cl5 (by decide) (fun _ => rfl) (fun m cs x h => by
  obtain ⟨n, e, hw⟩ := rd_int und5 h
  obtain ⟨v, rfl, hv⟩ := wf8 hw
  subst e
  exact ⟨⟨v, hv⟩, _, _, rfl, ⟨rfl, rfl⟩, rfl⟩) h
 refine ⟨l.map (·.1), v, e', ?_, by simpa using hm, fun u hu => ?_⟩
 ·have : rows e1 (l.map (·.1)) = rows (fun v : {v : Nat // v < 256} => e1 v.1) l := by simp [rows, Function.comp_def]
  rw [this]; exact hr
 ·obtain ⟨a, _, rfl⟩ := List.mem_map.1 hu
  exact a.2
end
end Go.Dw.Seat
end
section
set_option linter.unusedSimpArgs false
set_option maxRecDepth 100000
namespace Go.Dw.Seat
open Go Go.Dw Go.Proofs Go.ChangeShapes Go.WideShapes Go.ChangeAt Go.RowKit
set_option maxHeartbeats 800000 in
theorem palletHighLifted (os : Os) (started : os.Started) (H : Type) (enc : TypeId × Value → H) :
  ReturnsInHanded {} Try.checked os 12 .any (Ytimgcfmeakekbaa.Rows.palletHighSpec.pre6 enc Try.prog Try.f12 Ytimgcfmeakekbaa.Rows.palletHighRow.domain false) (Ytimgcfmeakekbaa.Rows.palletHighSpec.post enc Try.prog Try.f12 false true false false) := by
 refine returnsInHanded_of_change (C := Try.checked) tOwn started (by kernel_rfl) Try.func12
  (ChangeSpec.witness6 (enc := enc) (C := Try.checked) false ⟨#[], #[.agg #[.int .u8 0, .int .u8 0, .int .u8 0, .int .u8 0, .int .u8 0, .int .u8 0], .slice none 0 0, .agg #[.int .u8 0, .int .u8 0, .int .u8 0]], []⟩ 8 (by kernel_rfl) (by kernel_rfl) (by kernel_rfl) (by kernel_rfl)) ?_
 intro W base args ds gs before hval0 hW _ _
 have hval : ∀ (j : Nat) t v, Try.f12.params[j]? = some t → args[j]? = some v → Value.okWide Try.prog W .any base t v := hval0
 have hW' : DataW.Whole enc Try.prog Try.f12.params.toList [] false W args.toList ds gs before := hW
 obtain ⟨p, q, hA, hV, rfl, hfz, hnd⟩ := hW
 have hA : DataW.TrodAll enc Try.prog W 0 (fun _ => true) true [73, 74, 71] args.toList ds p := hA
 obtain ⟨rfl, rfl⟩ := trodVars_none hV
 obtain ⟨v0, vs0, d0, ds0, p0, q0, hargs, rfl, rfl, h0, r0⟩ := trodAll_cons hA
 obtain ⟨v1, vs1, d1, ds1, p1, q1, rfl, rfl, rfl, h1, r1⟩ := trodAll_cons r0
 obtain ⟨v2, vs2, d2, ds2, p2, q2, rfl, rfl, rfl, h2, r2⟩ := trodAll_cons r1
 obtain ⟨rfl, rfl, rfl⟩ := trodAll_nil r2
 obtain rfl : args = #[v0, v1, v2] := by cases args; simp_all
 obtain ⟨f0, hu0, _⟩ := structIs_spec u73
 obtain ⟨c0, rfl, _⟩ := okWide_struct hu0 (hval 0 73 v0 rfl rfl)
 obtain ⟨a1, l1, k1, rfl⟩ := okWide_slice u74 (hval 1 74 v1 rfl rfl)
 obtain ⟨c2, rfl, _⟩ := okWide_array u71 (hval 2 71 v2 rfl rfl)
 obtain ⟨fu0, h0⟩ := h0
 obtain ⟨fu1, h1⟩ := h1
 obtain ⟨fu2, h2⟩ := h2
 obtain ⟨s0, ho0, e0⟩ := rd_Yard h0
 have hr0 : RepVs W A0 (eN s0) c0.toList := by
  have e : c0.toList = bV s0 := by simpa [Value.cells] using e0
  rw [e]; exact rep_bytes s0
 obtain ⟨s1, sv1, e1, hs1, hl1, ho1⟩ := rd_Us h1
 have e1 : sv1 = Value.slice a1 l1 k1 := by simpa [Value.cells] using e1.symm
 subst e1
 obtain ⟨s2, ho2, e2⟩ := rd_A3 h2
 have hr2 : RepVs W A0 (eN s2) c2.toList := by
  have e : c2.toList = bV s2 := by simpa [Value.cells] using e2
  rw [e]; exact rep_bytes s2
 refine ((laHigh s0 ho0 s1 hl1 ho1 s2 ho2).calls (W := W) (vs := [.agg c0, .slice a1 l1 k1, .agg c2]) (laid0 W) (fun G => ?_)).mono ?_
 ·exact ⟨_, _, rfl, ⟨c0, rfl, RepDs.ofVs hr0⟩, _, _, rfl, hs1, _, _, rfl, ⟨c2, rfl, RepDs.ofVs hr2⟩, rfl⟩
 ·rintro e W' ⟨v, rfl, ⟨G', A', hr⟩, hb⟩
  obtain ⟨rfl, _⟩ := hr
  exact ⟨_, rfl, post_true tLaid (by decide +kernel) hW' hb rfl rfl u4 rfl rfl rfl⟩
theorem palletHighHolds : Ytimgcfmeakekbaa.Rows.palletHighRow.holds Ytimgcfmeakekbaa.Try.pinned (OpenSpec.ofChange Ytimgcfmeakekbaa.Rows.palletHighSpec) :=
 OpenClaim.holds_of_wide 12 Try.f12 rfl rfl rfl rfl rfl rfl rfl ⟨rfl, rfl, rfl, rfl, rfl⟩ rfl rfl rfl rfl rfl (by kernel_rfl) Try.func12 (by kernel_rfl)
  (of_decide_eq_true (by kernel_rfl)) (by unfold Func.isWrapper; first | (rw [if_pos (by decide +kernel)]; kernel_rfl) | (rw [if_neg (by decide +kernel)]; exact ⟨rfl, rfl⟩))
  (fun os started H enc _ => palletHighLifted os started H enc)
end Go.Dw.Seat
namespace Go.Proofs.Ytimgcfmeakekbaa
theorem palletHighSaid : Rows.PalletHighSaid := Go.Dw.Seat.palletHighHolds
end Go.Proofs.Ytimgcfmeakekbaa
end
