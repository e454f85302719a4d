/- The law TrimChooses returns true for every input, and changes nothing that was there before: the full statement TrimChoosesSaid, without conditions. -/
import Derived.Test.YtkhicfkfdmldkaaH02
import Derived.Test.YtkhicfkfdmldkaaRows
import Derived.ProofKit
import Derived.OpenShut
set_option linter.unusedVariables false
set_option linter.unusedSimpArgs false
section
set_option linter.unusedSimpArgs false
set_option maxRecDepth 100000
namespace Go.Dw.Seat
open Go Go.Dw Go.Proofs Go.IntWalk
theorem sameY {R : Bool} {α : Type} {s t : List α} (h : s = t) (hR : R = true) : (R = true ↔ s = t) := by simp [h, hR]
set_option maxHeartbeats 8000000 in
theorem laKnown : DCall Try.prog 15 [] [] (bD true) [] := by
  have p2 := laPaper 200
  have p4 := laPaper 400
  have po := laOrders
  have e2 := ex_open 200 (by decide)
  have e4 := ex_open 400 (by decide)
  have c1 := trPatternsX (exP 200) exO (by decide)
  rw [patsD, if_pos e2, e2, show patsX (exP 200) exO exO.length [] = exA from rfl] at c1
  have c2 := trPlanX (exP 200) exO (by decide)
  rw [planX, if_pos e2, ex_plan] at c2
  dsimp only at c2
  have c3 := trAgainst (exP 200) exO (by decide)
  have a3 : agE (exP 200) exO = 0 := by unfold agE; rw [if_neg (by simpa using e2), ex_plan]; rfl
  have a4 : agD (exP 200) exO = dIs false [1] := by
    rw [agD, a3, if_neg (by decide)]
    have h := ex_ag
    have hne := badsF_ne (p := exP 200) (l := exO) (by decide) ex_plan
    rw [show (2 ^ exO.length) = 8 from rfl] at hne ⊢
    cases hb : badsF (exP 200) exO 8 with
    | nil => exact absurd hb hne
    | cons x t =>
      rw [hb] at h
      dsimp only at h ⊢
      rw [h]
  rw [a3, a4] at c3
  have c4 := trPlanX (exP 400) exO (by decide)
  rw [planX, if_pos e4, ex_plan4] at c4
  dsimp only at c4
  have c5 := trGetX (exP 400) exO (by decide) exQ (by decide)
  rw [ex_get] at c5
  simp only [doesD] at c5
  have c6 := trBound (exP 400) exO (by decide)
  rw [ex_bnd.1, ex_bnd.2] at c6
  have c7 := trKnives true (exP 400) exO (by decide) [2, 1, 0] (by decide)
  rw [knvD, if_pos ex_knv.2, ex_knv.1, ex_knv.2] at c7
  have c8 := trChangeX true true [100, 900, 1700, 2400] [50, 1250, 2450] (by decide) (by decide)
  rw [chgI, if_pos ex_chE, ex_chE, show edI [100, 900, 1700, 2400] [50, 1250, 2450] ([100, 900, 1700, 2400] : List Int).length ([50, 1250, 2450] : List Int).length = 950 from ex_ch] at c8
  have c9 := trSheets 1000 1 10
  rw [ex_sh.1, ex_sh.2] at c9
  have c10 := trChoose true [exP 200, exP 400] (by decide) exO (by decide)
  rw [ex_cho.1, ex_cho.2] at c10
  have s1 := laSetup 2 [0, 0, 2]
  have s2 := laSetup 1 [0, 3, 0]
  have s3 := laSetup 5 [2, 1, 0]
  have i1 := reInts false true [0, 0, 2] [0, 0, 2] (by decide) (by decide)
  have i2 := reInts false true [1] [1] (by decide) (by decide)
  have i3 := reInts false true [10, 8, 4] [10, 8, 4] (by decide) (by decide)
  have i4 := reInts false true [100, 900, 1700, 2400] [100, 900, 1700, 2400] (by decide) (by decide)
  rw [decide_eq_true rfl] at i1 i2 i3 i4
  have i5 := reSame false true exQ exQ (by decide) (by decide) (by decide) (by decide) true (sameY rfl rfl)
  have l1 := laSpan 99 101
  have hl := ex_all
  have h0 := ex_all0
  generalize exA = A at *
  clear e2 e4 a3 a4
  have dl : ((A.length : Int) != 3) = false := by rw [hl]; rfl
  have d0 : decide ((0 : Int) < (A.length : Int)) = true := by rw [hl]; rfl
  refine DCall.of Try.func15 sf15 hb15 (Nat.le_of_ble_eq_true rfl) (okRes_nil fun _ => rfl) ?_; simp only [s15, idxs, Nat.reduceAdd]
  repeat' (first
    | (with_reducible first | refine DW.seq ?_ | refine DW.block ?_ | refine DW.skip ?_ | refine DW.exit ?_ | refine DW.ret ?_ | refine DW.reg ?_)
    | (refine DW.dreg rfl (WF.of ?_) ?_; first | rfl | skip)
    | (simp (disch := omega) only [go_sem, simprocAttr, bm_box, bm_row, bk_box, bk_row])
    | (exact retS_of rfl rfl rfl)
    | (refine DW.cond_tt rfl ?_)
    | (refine call_c (p2) (by decide) ?_)
    | (refine call_c (p4) (by decide) ?_)
    | (refine call_c (po) (by decide) ?_)
    | (refine call_c (c1) (by decide) ?_)
    | (refine call_c (c2) (by decide) ?_)
    | (refine call_c (c3) (by decide) ?_)
    | (refine call_c (c4) (by decide) ?_)
    | (refine DW.cond_ff rfl ?_)
    | (refine DW.cond rfl ?_ ?_ <;> intro hc <;> (try simp only [go_sem] at hc))
    | (refine g_split ?_ ?_ <;> intro hc <;> (try simp only [hc]) <;> (try simp only [go_sem] at hc)))
  refine call_rel 52 rfl ?_
  simp (disch := omega) only [go_sem, simprocAttr, bm_box, bm_row, bk_box, bk_row]
  refine opsN.c s1 rfl rfl (by decide) ?_
  simp (disch := omega) only [go_sem, simprocAttr, bm_box, bm_row, bk_box, bk_row]
  repeat' (first
    | (with_reducible first | refine DW.seq ?_ | refine DW.block ?_ | refine DW.skip ?_ | refine DW.exit ?_ | refine DW.ret ?_ | refine DW.reg ?_)
    | (refine DW.dreg rfl (WF.of ?_) ?_; first | rfl | skip)
    | (simp (disch := omega) only [go_sem, simprocAttr, bm_box, bm_row, bk_box, bk_row, dl, d0, h0])
    | (exact retS_of rfl rfl rfl)
    | (refine DW.cond_tt rfl ?_)
    | (refine call_c (p2) (by decide) ?_)
    | (refine call_c (p4) (by decide) ?_)
    | (refine call_c (po) (by decide) ?_)
    | (refine call_c (c6) (by decide) ?_)
    | (refine call_c (c7) (by decide) ?_)
    | (refine call_c (c8) (by decide) ?_)
    | (refine call_c (c9) (by decide) ?_)
    | (refine call_c (c10) (by decide) ?_)
    | (refine call_c (i1) (by decide) ?_)
    | (refine call_c (i2) (by decide) ?_)
    | (refine call_c (i3) (by decide) ?_)
    | (refine call_c (i4) (by decide) ?_)
    | (refine call_c (i5) (by decide) ?_)
    | (refine call_c (l1) (by decide) ?_)
    | (refine DW.cond_ff rfl ?_)
    | (refine DW.cond rfl ?_ ?_ <;> intro hc <;> (try simp only [go_sem] at hc))
    | (refine g_split ?_ ?_ <;> intro hc <;> (try simp only [hc]) <;> (try simp only [go_sem] at hc)))
  refine call_rel 54 rfl ?_
  simp (disch := omega) only [go_sem, simprocAttr, bm_box, bm_row, bk_box, bk_row]
  refine opsN.c s2 rfl rfl (by decide) ?_
  simp (disch := omega) only [go_sem, simprocAttr, bm_box, bm_row, bk_box, bk_row]
  repeat' (first
    | (with_reducible first | refine DW.seq ?_ | refine DW.block ?_ | refine DW.skip ?_ | refine DW.exit ?_ | refine DW.ret ?_ | refine DW.reg ?_)
    | (refine DW.dreg rfl (WF.of ?_) ?_; first | rfl | skip)
    | (simp (disch := omega) only [go_sem, simprocAttr, bm_box, bm_row, bk_box, bk_row, dl, d0, h0])
    | (exact retS_of rfl rfl rfl)
    | (refine DW.cond_tt rfl ?_)
    | (refine call_c (p2) (by decide) ?_)
    | (refine call_c (p4) (by decide) ?_)
    | (refine call_c (po) (by decide) ?_)
    | (refine call_c (c6) (by decide) ?_)
    | (refine call_c (c7) (by decide) ?_)
    | (refine call_c (c8) (by decide) ?_)
    | (refine call_c (c9) (by decide) ?_)
    | (refine call_c (c10) (by decide) ?_)
    | (refine call_c (i1) (by decide) ?_)
    | (refine call_c (i2) (by decide) ?_)
    | (refine call_c (i3) (by decide) ?_)
    | (refine call_c (i4) (by decide) ?_)
    | (refine call_c (i5) (by decide) ?_)
    | (refine call_c (l1) (by decide) ?_)
    | (refine DW.cond_ff rfl ?_)
    | (refine DW.cond rfl ?_ ?_ <;> intro hc <;> (try simp only [go_sem] at hc))
    | (refine g_split ?_ ?_ <;> intro hc <;> (try simp only [hc]) <;> (try simp only [go_sem] at hc)))
  refine call_rel 56 rfl ?_
  simp (disch := omega) only [go_sem, simprocAttr, bm_box, bm_row, bk_box, bk_row]
  refine opsN.c s3 rfl rfl (by decide) ?_
  simp (disch := omega) only [go_sem, simprocAttr, bm_box, bm_row, bk_box, bk_row]
  repeat' (first
    | (with_reducible first | refine DW.seq ?_ | refine DW.block ?_ | refine DW.skip ?_ | refine DW.exit ?_ | refine DW.ret ?_ | refine DW.reg ?_)
    | (refine DW.dreg rfl (WF.of ?_) ?_; first | rfl | skip)
    | (simp (disch := omega) only [go_sem, simprocAttr, bm_box, bm_row, bk_box, bk_row, dl, d0, h0])
    | (exact retS_of rfl rfl rfl)
    | (refine DW.cond_tt rfl ?_)
    | (refine call_c (p2) (by decide) ?_)
    | (refine call_c (p4) (by decide) ?_)
    | (refine call_c (po) (by decide) ?_)
    | (refine call_c (c6) (by decide) ?_)
    | (refine call_c (c7) (by decide) ?_)
    | (refine call_c (c8) (by decide) ?_)
    | (refine call_c (c9) (by decide) ?_)
    | (refine call_c (c10) (by decide) ?_)
    | (refine call_c (i1) (by decide) ?_)
    | (refine call_c (i2) (by decide) ?_)
    | (refine call_c (i3) (by decide) ?_)
    | (refine call_c (i4) (by decide) ?_)
    | (refine call_c (i5) (by decide) ?_)
    | (refine call_c (l1) (by decide) ?_)
    | (refine DW.cond_ff rfl ?_)
    | (refine DW.cond rfl ?_ ?_ <;> intro hc <;> (try simp only [go_sem] at hc))
    | (refine g_split ?_ ?_ <;> intro hc <;> (try simp only [hc]) <;> (try simp only [go_sem] at hc)))
  refine call_rel 58 rfl ?_
  simp (disch := omega) only [go_sem, simprocAttr, bm_box, bm_row, bk_box, bk_row]
  refine opsN.c c5 rfl rfl (by decide) ?_
  simp (disch := omega) only [go_sem, simprocAttr, bm_box, bm_row, bk_box, bk_row]
  repeat' (first
    | (with_reducible first | refine DW.seq ?_ | refine DW.block ?_ | refine DW.skip ?_ | refine DW.exit ?_ | refine DW.ret ?_ | refine DW.reg ?_)
    | (refine DW.dreg rfl (WF.of ?_) ?_; first | rfl | skip)
    | (simp (disch := omega) only [go_sem, simprocAttr, bm_box, bm_row, bk_box, bk_row, dl, d0, h0])
    | (exact retS_of rfl rfl rfl)
    | (refine DW.cond_tt rfl ?_)
    | (refine call_c (p2) (by decide) ?_)
    | (refine call_c (p4) (by decide) ?_)
    | (refine call_c (po) (by decide) ?_)
    | (refine call_c (c6) (by decide) ?_)
    | (refine call_c (c7) (by decide) ?_)
    | (refine call_c (c8) (by decide) ?_)
    | (refine call_c (c9) (by decide) ?_)
    | (refine call_c (c10) (by decide) ?_)
    | (refine call_c (i1) (by decide) ?_)
    | (refine call_c (i2) (by decide) ?_)
    | (refine call_c (i3) (by decide) ?_)
    | (refine call_c (i4) (by decide) ?_)
    | (refine call_c (i5) (by decide) ?_)
    | (refine call_c (l1) (by decide) ?_)
    | (refine DW.cond_ff rfl ?_)
    | (refine DW.cond rfl ?_ ?_ <;> intro hc <;> (try simp only [go_sem] at hc))
    | (refine g_split ?_ ?_ <;> intro hc <;> (try simp only [hc]) <;> (try simp only [go_sem] at hc)))
  refine call_rel 154 rfl ?_
  simp (disch := omega) only [go_sem, simprocAttr, bm_box, bm_row, bk_box, bk_row]
  refine opsN.c s1 rfl rfl (by decide) ?_
  simp (disch := omega) only [go_sem, simprocAttr, bm_box, bm_row, bk_box, bk_row]
  repeat' (first
    | (with_reducible first | refine DW.seq ?_ | refine DW.block ?_ | refine DW.skip ?_ | refine DW.exit ?_ | refine DW.ret ?_ | refine DW.reg ?_)
    | (refine DW.dreg rfl (WF.of ?_) ?_; first | rfl | skip)
    | (simp (disch := omega) only [go_sem, simprocAttr, bm_box, bm_row, bk_box, bk_row, dl, d0, h0])
    | (exact retS_of rfl rfl rfl)
    | (refine DW.cond_tt rfl ?_)
    | (refine call_c (p2) (by decide) ?_)
    | (refine call_c (p4) (by decide) ?_)
    | (refine call_c (po) (by decide) ?_)
    | (refine call_c (c6) (by decide) ?_)
    | (refine call_c (c7) (by decide) ?_)
    | (refine call_c (c8) (by decide) ?_)
    | (refine call_c (c9) (by decide) ?_)
    | (refine call_c (c10) (by decide) ?_)
    | (refine call_c (i1) (by decide) ?_)
    | (refine call_c (i2) (by decide) ?_)
    | (refine call_c (i3) (by decide) ?_)
    | (refine call_c (i4) (by decide) ?_)
    | (refine call_c (i5) (by decide) ?_)
    | (refine call_c (l1) (by decide) ?_)
    | (refine DW.cond_ff rfl ?_)
    | (refine DW.cond rfl ?_ ?_ <;> intro hc <;> (try simp only [go_sem] at hc))
    | (refine g_split ?_ ?_ <;> intro hc <;> (try simp only [hc]) <;> (try simp only [go_sem] at hc)))
  refine call_rel 156 rfl ?_
  simp (disch := omega) only [go_sem, simprocAttr, bm_box, bm_row, bk_box, bk_row]
  refine opsN.c s2 rfl rfl (by decide) ?_
  simp (disch := omega) only [go_sem, simprocAttr, bm_box, bm_row, bk_box, bk_row]
  repeat' (first
    | (with_reducible first | refine DW.seq ?_ | refine DW.block ?_ | refine DW.skip ?_ | refine DW.exit ?_ | refine DW.ret ?_ | refine DW.reg ?_)
    | (refine DW.dreg rfl (WF.of ?_) ?_; first | rfl | skip)
    | (simp (disch := omega) only [go_sem, simprocAttr, bm_box, bm_row, bk_box, bk_row, dl, d0, h0])
    | (exact retS_of rfl rfl rfl)
    | (refine DW.cond_tt rfl ?_)
    | (refine call_c (p2) (by decide) ?_)
    | (refine call_c (p4) (by decide) ?_)
    | (refine call_c (po) (by decide) ?_)
    | (refine call_c (c6) (by decide) ?_)
    | (refine call_c (c7) (by decide) ?_)
    | (refine call_c (c8) (by decide) ?_)
    | (refine call_c (c9) (by decide) ?_)
    | (refine call_c (c10) (by decide) ?_)
    | (refine call_c (i1) (by decide) ?_)
    | (refine call_c (i2) (by decide) ?_)
    | (refine call_c (i3) (by decide) ?_)
    | (refine call_c (i4) (by decide) ?_)
    | (refine call_c (i5) (by decide) ?_)
    | (refine call_c (l1) (by decide) ?_)
    | (refine DW.cond_ff rfl ?_)
    | (refine DW.cond rfl ?_ ?_ <;> intro hc <;> (try simp only [go_sem] at hc))
    | (refine g_split ?_ ?_ <;> intro hc <;> (try simp only [hc]) <;> (try simp only [go_sem] at hc)))
  refine call_rel 158 rfl ?_
  simp (disch := omega) only [go_sem, simprocAttr, bm_box, bm_row, bk_box, bk_row]
  refine opsN.c s3 rfl rfl (by decide) ?_
  simp (disch := omega) only [go_sem, simprocAttr, bm_box, bm_row, bk_box, bk_row]
  repeat' (first
    | (with_reducible first | refine DW.seq ?_ | refine DW.block ?_ | refine DW.skip ?_ | refine DW.exit ?_ | refine DW.ret ?_ | refine DW.reg ?_)
    | (refine DW.dreg rfl (WF.of ?_) ?_; first | rfl | skip)
    | (simp (disch := omega) only [go_sem, simprocAttr, bm_box, bm_row, bk_box, bk_row, dl, d0, h0])
    | (exact retS_of rfl rfl rfl)
    | (refine DW.cond_tt rfl ?_)
    | (refine call_c (p2) (by decide) ?_)
    | (refine call_c (p4) (by decide) ?_)
    | (refine call_c (po) (by decide) ?_)
    | (refine call_c (c6) (by decide) ?_)
    | (refine call_c (c7) (by decide) ?_)
    | (refine call_c (c8) (by decide) ?_)
    | (refine call_c (c9) (by decide) ?_)
    | (refine call_c (c10) (by decide) ?_)
    | (refine call_c (i1) (by decide) ?_)
    | (refine call_c (i2) (by decide) ?_)
    | (refine call_c (i3) (by decide) ?_)
    | (refine call_c (i4) (by decide) ?_)
    | (refine call_c (i5) (by decide) ?_)
    | (refine call_c (l1) (by decide) ?_)
    | (refine DW.cond_ff rfl ?_)
    | (refine DW.cond rfl ?_ ?_ <;> intro hc <;> (try simp only [go_sem] at hc))
    | (refine g_split ?_ ?_ <;> intro hc <;> (try simp only [hc]) <;> (try simp only [go_sem] at hc)))
end Go.Dw.Seat
end
section
set_option linter.unusedSimpArgs false
set_option maxRecDepth 100000
namespace Go.Dw.Seat
open Go Go.Dw Go.Proofs Go.IntWalk
def sluC (b : Option (List TStp)) : C := match b with
  | none => .v (.slice none 0 0)
  | some x => .sl false 2 (rows eSt x)
theorem sluC_nb (b : Option (List TStp)) : C.nb (sluC b) = true := by
  cases b with
  | none => rfl
  | some x => simp only [sluC, C.nb, rows_nb eSt_nb, Bool.and_self, Bool.not_false]
abbrev sluD (b : Option (List TStp)) : D := .c (sluC b)
abbrev bstD (b : Option (List TStp)) : D := .agg [sluD b, bD b.isSome]
structure NowOk (p : TPap) (l : List TOrd) (T : List (List Int)) (q : List TStp) : Prop where
  asc : (q.map (·.ws) ++ T).Pairwise fun a b => lexW a b = true
  ok : ∀ s ∈ q, WsOk p l s.ws ∧ 1 ≤ s.run ∧ s.run ≤ 30
theorem NowOk.tail {p : TPap} {l : List TOrd} {T : List (List Int)} {q : List TStp} {ws : List Int} (h : NowOk p l (ws :: T) q) : NowOk p l T q :=
  ⟨h.asc.sublist (List.Sublist.append (List.Sublist.refl _) (List.sublist_cons_self _ _)), h.ok⟩
theorem NowOk.snoc {p : TPap} {l : List TOrd} {T : List (List Int)} {q : List TStp} {ws : List Int} (h : NowOk p l (ws :: T) q) (hw : WsOk p l ws) {r : Int} (hr : 1 ≤ r ∧ r ≤ 30) : NowOk p l T (q ++ [⟨ws, r⟩]) := by
  refine ⟨?_, fun s hs => ?_⟩
  · rw [List.map_append, List.append_assoc]
    exact h.asc
  · rcases List.mem_append.1 hs with hs | hs
    · exact h.ok s hs
    · rw [List.mem_singleton] at hs
      subst hs
      exact ⟨hw, hr⟩
theorem now_getR {p : TPap} (hp : p.ok) {l : List TOrd} : ∀ (q : List TStp) (pr : Option TStp) (G : List Int) (W : Int) (i : Nat), ((pr.toList ++ q).map (·.ws)).Pairwise (fun a b => lexW a b = true) → (∀ s ∈ pr.toList ++ q, WsOk p l s.ws ∧ 1 ≤ s.run ∧ s.run ≤ 30) → getR p l pr G W i q = .inl (gotF G q, W + wasteF p l q)
  | [], pr, G, W, i, _, _ => by rw [getR, gotF, wasteF, Int.add_zero]
  | s :: q, pr, G, W, i, ha, ho => by
    obtain ⟨h1, h2⟩ := ho s (by simp)
    have hst : stE p l pr s = 0 := by
      unfold stE
      rw [websE_yes (h1.ws4 hp) h1.pat, if_neg (by decide), if_neg (by rw [wthn_yes (by simpa using h2)]; decide)]
      cases pr with
      | none => rfl
      | some u =>
        have h3 := (ho u (by simp)).1
        have h4 : lexW u.ws s.ws = true := by
          simp only [Option.toList_some, List.map_append, List.map_cons, List.map_nil, List.cons_append, List.nil_append, List.pairwise_cons] at ha
          exact ha.1 s.ws (by simp)
        rw [lexW_cmp (by rw [h3.len, h1.len])] at h4
        dsimp only
        rw [if_neg (by simpa using h4)]
    rw [getR, hst, if_neg (by decide)]
    have ih := now_getR hp (l := l) q (some s) (addG G s.ws s.run) (W + trimI p l s.ws * s.run) (i + 1)
      (by
        refine List.Pairwise.sublist (List.Sublist.map _ ?_) ha
        exact List.sublist_append_right _ _)
      (fun x hx => ho x (by
        simp only [Option.toList_some, List.cons_append, List.nil_append] at hx
        exact List.mem_append_right _ hx))
    rw [ih, gotF, wasteF, Int.add_assoc]
theorem now_does {p : TPap} (hp : p.ok) {l : List TOrd} {T : List (List Int)} {q : List TStp} (h : NowOk p l T q) (hq : q.length ≤ 3) : ((errOf (doesA p l q)).2 == 0) = doesP l q := by
  have h1 := now_getR hp q none (zeros l.length) 0 0 (by
    have := h.asc
    rw [List.pairwise_append] at this
    simpa using this.1) (fun s hs => h.ok s (by simpa using hs))
  rw [doesA_eq (by omega), h1, doesO]
  dsimp only
  have hwd := wrong_does l (gotF (zeros l.length) q) (by rw [gotF_len]; simp [zeros])
  rw [doesP, ← hwd]
  split
  · rename_i h0
    rw [decide_eq_false (by omega)]; rfl
  · rename_i h0
    rw [decide_eq_true (by omega)]; rfl
def BesC (p : TPap) (l : List TOrd) (P : List (List Int)) (k : Nat) : Prop := ∀ (b1 b2 : Bool) (i : Nat) (now : List TStp) (b : Option (List TStp)), i ≤ P.length → now.length + k = 3 → NowOk p l (P.drop i) now → (∀ x, b = some x → ∃ T, NowOk p l T x ∧ x.length ≤ 3) →
  DCall Try.prog 69 [papD p, .c (.sl b1 3 (rows eO l)), dWs b2 P, dSt false now, dI i, bstD b] [] (bstD (bestF p l (longN l) k (P.drop i) now b)) []
def betO (p : TPap) (l : List TOrd) (now : List TStp) (b : Option (List TStp)) : Bool := match b with
  | none => true
  | some x => betB p l now x
theorem candF_eq (p : TPap) (l : List TOrd) (now : List TStp) (b : Option (List TStp)) : candF p l now b = if (doesP l now && betO p l now b) = true then some now else b := by
  cases b <;> rfl
theorem cand_ok {p : TPap} {l : List TOrd} {T : List (List Int)} {now : List TStp} (h : NowOk p l T now) (hn : now.length ≤ 3) {b : Option (List TStp)} (hb : ∀ x, b = some x → ∃ T, NowOk p l T x ∧ x.length ≤ 3) : ∀ x, candF p l now b = some x → ∃ T, NowOk p l T x ∧ x.length ≤ 3 := by
  intro x hx
  have : candF p l now b = some now ∨ candF p l now b = b := by
    unfold candF
    generalize (doesP l now && _) = c
    cases c
    · exact .inr rfl
    · exact .inl rfl
  rcases this with e | e <;> rw [e] at hx
  · cases hx; exact ⟨T, h, hn⟩
  · exact hb x hx
abbrev OkB (p : TPap) (l : List TOrd) (b : Option (List TStp)) : Prop := ∀ x, b = some x → ∃ T, NowOk p l T x ∧ x.length ≤ 3
theorem bestR_ok {p : TPap} {l : List TOrd} {rec : List TStp → Option (List TStp) → Option (List TStp)} {ws : List Int} {now : List TStp} (hrec : ∀ (r : Int) b, 1 ≤ r ∧ r ≤ 30 → OkB p l b → OkB p l (rec (now ++ [⟨ws, r⟩]) b)) : ∀ (c : Nat) (r : Int) (b : Option (List TStp)), 1 ≤ r → r + c ≤ 31 → OkB p l b → OkB p l (bestR rec ws now c r b)
  | 0, _, _, _, _, h => h
  | c + 1, r, b, h1, h2, h => by
    rw [bestR]
    exact bestR_ok hrec c (r + 1) _ (by omega) (by omega) (hrec r b (by omega) h)
theorem bestL_ok {p : TPap} {l : List TOrd} {L : Nat} (hL : L ≤ 30) {rec : List (List Int) → List TStp → Option (List TStp) → Option (List TStp)} {now : List TStp} (hrec : ∀ T ws (r : Int) b, NowOk p l (ws :: T) now → WsOk p l ws → 1 ≤ r ∧ r ≤ 30 → (∀ w ∈ T, WsOk p l w) → OkB p l b → OkB p l (rec T (now ++ [⟨ws, r⟩]) b)) : ∀ (T : List (List Int)) (b : Option (List TStp)), NowOk p l T now → (∀ w ∈ T, WsOk p l w) → OkB p l b → OkB p l (bestL rec L now T b)
  | [], _, _, _, h => h
  | ws :: T, b, h1, h2, h => by
    rw [bestL]
    refine bestL_ok hL hrec T _ h1.tail (fun w hw => h2 w (by simp [hw])) ?_
    exact bestR_ok (fun r b hr hb => hrec T ws r b h1 (h2 ws (by simp)) hr (fun w hw => h2 w (by simp [hw])) hb) L 1 b (by omega) (by omega) h
theorem bestF_ok {p : TPap} {l : List TOrd} {L : Nat} (hL : L ≤ 30) : ∀ (k : Nat) (T : List (List Int)) (now : List TStp) (b : Option (List TStp)), NowOk p l T now → now.length + k ≤ 3 → (∀ w ∈ T, WsOk p l w) → OkB p l b → OkB p l (bestF p l L k T now b)
  | 0, T, now, b, h1, h2, _, h => by rw [bestF]; exact cand_ok h1 (by omega) h
  | k + 1, T, now, b, h1, h2, h3, h => by
    rw [bestF]
    refine bestL_ok hL (fun T' ws r b' g1 g2 g3 g4 g5 => bestF_ok hL k T' (now ++ [⟨ws, r⟩]) b' (g1.snoc g2 g3) (by simp; omega) g4 g5) T _ h1 h3 (cand_ok h1 (by omega) h)
theorem now_run {p : TPap} (hp : p.ok) {l : List TOrd} {T : List (List Int)} {q : List TStp} (h : NowOk p l T q) : ∀ s ∈ q, Ws4 l s.ws ∧ 0 ≤ s.run ∧ s.run ≤ 30 := fun s hs => by
  obtain ⟨h1, h2⟩ := h.ok s hs
  exact ⟨h1.ws4 hp, by omega, h2.2⟩
set_option maxHeartbeats 4000000 in
theorem reBestS (p : TPap) (hp : p.ok) (l : List TOrd) (hl : l.length ≤ 4) (ho : ∀ o ∈ l, o.ok) (P : List (List Int)) (hP : ∀ ws ∈ P, WsOk p l ws) (hPl : P.length ≤ 625) (k : Nat) (ih : ∀ j, k = j + 1 → BesC p l P j) : BesC p l P k := by
  intro b1 b2 i now b hi hk hnow hb
  have hnl : now.length ≤ 3 := by omega
  have hrun := now_run hp hnow
  have h1 := reDoes b1 false p hp l hl ho now (fun s hs => by have := (hrun s hs).1.len; omega)
  have hdz := now_does hp hnow hnl
  have hcok := cand_ok hnow hnl hb
  have hlg := reLongest b1 l hl ho
  have hLb : longN l ≤ 30 := by rw [longN, min2_eq]; omega
  generalize hR : bestF p l (longN l) k (P.drop i) now b = R
  generalize doesA p l now = E at *
  generalize hE : errOf E = Z at *
  obtain ⟨e1, e2⟩ := Z
  dsimp only at hdz h1
  refine DCall.of Try.func69 sf69 hb69 (Nat.le_of_ble_eq_true rfl) (okRes_nil fun _ => rfl) ?_
  simp only [s69, o69_0, o69_1, o69_2, o69_3, o69_4, o69_5, o69_6, o69_7, o69_8, o69_9, o69_10, o69_11, o69_12, o69_13, o69_14, o69_15, o69_16, o69_17, idxs, Nat.reduceAdd]
  refine DW.seq (DW.reg ?_)
  simp (disch := omega) only [go_sem, simprocAttr, bm_box, bm_row, bk_box, bk_row]
  refine DW.cut ⟨77, [(1, .c (.sl b1 3 (rows eO l))), (2, dWs b2 P), (3, dSt false now), (4, dI i), (6, .box 6 0), (11, .box 11 0), (12, .box 12 0)], [(12, .box [.c (.v (.slice none 0 0)), bD false]), (11, .box [sluD (candF p l now b), bD (candF p l now b).isSome]), (6, .box [dI p.wide, dI p.tl, dI p.th, dI p.webs])]⟩ ?_ ?_
  · have hcf := candF_eq p l now b
    cases hd : doesP l now with
    | false =>
      rw [hd] at hdz
      rw [hd, Bool.false_and, if_neg (by decide)] at hcf
      rw [hcf]
      cases b with
      | none =>
        repeat' (first
    | (with_reducible first | refine DW.seq ?_ | refine DW.block ?_ | refine DW.skip ?_ | refine DW.exit ?_ | refine DW.ret ?_ | refine DW.reg ?_)
    | (refine DW.ord rfl (WF.of (by first | rfl | simp (disch := omega) only [go_sem, simprocAttr, bm_box, bm_row, bk_box, bk_row, hdz, sluC, Option.isSome_none])) ?_ ?_ ?_; rotate_left)
    | rfl
    | (with_reducible refine And.intro ?_ ?_)
    | (simp (disch := omega) only [go_sem, simprocAttr, bm_box, bm_row, bk_box, bk_row, hdz, sluC, Option.isSome_none])
    | (exact retS_of rfl rfl rfl)
    | (refine DW.cond_tt rfl ?_)
    | (refine call_c (h1) (by decide) ?_)
    | (refine DW.cond_ff rfl ?_)
    | (refine DW.cond rfl ?_ ?_ <;> intro hc <;> (try simp only [go_sem] at hc))
    | (refine g_split ?_ ?_ <;> intro hc <;> (try simp only [hc]) <;> (try simp only [go_sem] at hc)))
        refine Ent.to ?_ ?_ <;> simp (disch := omega) only [wkT_cons, wkX_cons, wkT_nil, wkX_nil, get, Nat.reduceEqDiff, ↓reduceIte, ex_some, wk_self, wk_top, wk_nil, wkB_self, and_self, dI, i64_in, and_true, true_and, Int.natCast_add, Int.natCast_one, Int.ofNat_zero, Int.natCast_zero]
        all_goals first | exact ⟨.refl _, .refl _, .refl _⟩ | exact ⟨.refl _, .refl _⟩ | exact .refl _
      | some x =>
        repeat' (first
    | (with_reducible first | refine DW.seq ?_ | refine DW.block ?_ | refine DW.skip ?_ | refine DW.exit ?_ | refine DW.ret ?_ | refine DW.reg ?_)
    | (refine DW.ord rfl (WF.of (by first | rfl | simp (disch := omega) only [go_sem, simprocAttr, bm_box, bm_row, bk_box, bk_row, hdz, sluC, Option.isSome_some])) ?_ ?_ ?_; rotate_left)
    | rfl
    | (with_reducible refine And.intro ?_ ?_)
    | (simp (disch := omega) only [go_sem, simprocAttr, bm_box, bm_row, bk_box, bk_row, hdz, sluC, Option.isSome_some])
    | (exact retS_of rfl rfl rfl)
    | (refine DW.cond_tt rfl ?_)
    | (refine call_c (h1) (by decide) ?_)
    | (refine DW.cond_ff rfl ?_)
    | (refine DW.cond rfl ?_ ?_ <;> intro hc <;> (try simp only [go_sem] at hc))
    | (refine g_split ?_ ?_ <;> intro hc <;> (try simp only [hc]) <;> (try simp only [go_sem] at hc)))
        refine Ent.to ?_ ?_ <;> simp (disch := omega) only [wkT_cons, wkX_cons, wkT_nil, wkX_nil, get, Nat.reduceEqDiff, ↓reduceIte, ex_some, wk_self, wk_top, wk_nil, wkB_self, and_self, dI, i64_in, and_true, true_and, Int.natCast_add, Int.natCast_one, Int.ofNat_zero, Int.natCast_zero]
        all_goals first | exact ⟨.refl _, .refl _, .refl _⟩ | exact ⟨.refl _, .refl _⟩ | exact .refl _
    | true =>
      rw [hd] at hdz
      rw [hd, Bool.true_and] at hcf
      cases b with
      | none =>
        rw [if_pos (show betO p l now none = true from rfl)] at hcf
        rw [hcf]
        repeat' (first
    | (with_reducible first | refine DW.seq ?_ | refine DW.block ?_ | refine DW.skip ?_ | refine DW.exit ?_ | refine DW.ret ?_ | refine DW.reg ?_)
    | (refine DW.ord rfl (WF.of (by first | rfl | simp (disch := omega) only [go_sem, simprocAttr, bm_box, bm_row, bk_box, bk_row, hdz, sluC, Option.isSome_none, Option.isSome_some])) ?_ ?_ ?_; rotate_left)
    | rfl
    | (with_reducible refine And.intro ?_ ?_)
    | (simp (disch := omega) only [go_sem, simprocAttr, bm_box, bm_row, bk_box, bk_row, hdz, sluC, Option.isSome_none, Option.isSome_some])
    | (exact retS_of rfl rfl rfl)
    | (refine DW.cond_tt rfl ?_)
    | (refine call_c (h1) (by decide) ?_)
    | (refine DW.cond_ff rfl ?_)
    | (refine DW.cond rfl ?_ ?_ <;> intro hc <;> (try simp only [go_sem] at hc))
    | (refine g_split ?_ ?_ <;> intro hc <;> (try simp only [hc]) <;> (try simp only [go_sem] at hc)))
        refine Ent.to ?_ ?_ <;> simp (disch := omega) only [wkT_cons, wkX_cons, wkT_nil, wkX_nil, get, Nat.reduceEqDiff, ↓reduceIte, ex_some, wk_self, wk_top, wk_nil, wkB_self, and_self, dI, i64_in, and_true, true_and, Int.natCast_add, Int.natCast_one, Int.ofNat_zero, Int.natCast_zero]
        all_goals first | exact ⟨.refl _, .refl _, .refl _⟩ | exact ⟨.refl _, .refl _⟩ | exact .refl _
      | some x =>
        obtain ⟨T, hx1, hx2⟩ := hb x rfl
        have h2 := reBetter b1 false false p hp l hl ho now x (by omega) (by omega) hrun (now_run hp hx1)
        rw [show betO p l now (some x) = betB p l now x from rfl] at hcf
        cases hbt : betB p l now x with
        | true =>
          rw [hbt, if_pos rfl] at hcf
          rw [hbt] at h2
          rw [hcf]
          repeat' (first
    | (with_reducible first | refine DW.seq ?_ | refine DW.block ?_ | refine DW.skip ?_ | refine DW.exit ?_ | refine DW.ret ?_ | refine DW.reg ?_)
    | (refine DW.ord rfl (WF.of (by first | rfl | simp (disch := omega) only [go_sem, simprocAttr, bm_box, bm_row, bk_box, bk_row, hdz, sluC, Option.isSome_some])) ?_ ?_ ?_; rotate_left)
    | rfl
    | (with_reducible refine And.intro ?_ ?_)
    | (simp (disch := omega) only [go_sem, simprocAttr, bm_box, bm_row, bk_box, bk_row, hdz, sluC, Option.isSome_some])
    | (exact retS_of rfl rfl rfl)
    | (refine DW.cond_tt rfl ?_)
    | (refine call_c (h1) (by decide) ?_)
    | (refine call_c (h2) (by decide) ?_)
    | (refine DW.cond_ff rfl ?_)
    | (refine DW.cond rfl ?_ ?_ <;> intro hc <;> (try simp only [go_sem] at hc))
    | (refine g_split ?_ ?_ <;> intro hc <;> (try simp only [hc]) <;> (try simp only [go_sem] at hc)))
          refine Ent.to ?_ ?_ <;> simp (disch := omega) only [wkT_cons, wkX_cons, wkT_nil, wkX_nil, get, Nat.reduceEqDiff, ↓reduceIte, ex_some, wk_self, wk_top, wk_nil, wkB_self, and_self, dI, i64_in, and_true, true_and, Int.natCast_add, Int.natCast_one, Int.ofNat_zero, Int.natCast_zero]
          all_goals first | exact ⟨.refl _, .refl _, .refl _⟩ | exact ⟨.refl _, .refl _⟩ | exact .refl _
        | false =>
          rw [hbt, if_neg (by decide)] at hcf
          rw [hbt] at h2
          rw [hcf]
          repeat' (first
    | (with_reducible first | refine DW.seq ?_ | refine DW.block ?_ | refine DW.skip ?_ | refine DW.exit ?_ | refine DW.ret ?_ | refine DW.reg ?_)
    | (refine DW.ord rfl (WF.of (by first | rfl | simp (disch := omega) only [go_sem, simprocAttr, bm_box, bm_row, bk_box, bk_row, hdz, sluC, Option.isSome_some])) ?_ ?_ ?_; rotate_left)
    | rfl
    | (with_reducible refine And.intro ?_ ?_)
    | (simp (disch := omega) only [go_sem, simprocAttr, bm_box, bm_row, bk_box, bk_row, hdz, sluC, Option.isSome_some])
    | (exact retS_of rfl rfl rfl)
    | (refine DW.cond_tt rfl ?_)
    | (refine call_c (h1) (by decide) ?_)
    | (refine call_c (h2) (by decide) ?_)
    | (refine DW.cond_ff rfl ?_)
    | (refine DW.cond rfl ?_ ?_ <;> intro hc <;> (try simp only [go_sem] at hc))
    | (refine g_split ?_ ?_ <;> intro hc <;> (try simp only [hc]) <;> (try simp only [go_sem] at hc)))
          refine Ent.to ?_ ?_ <;> simp (disch := omega) only [wkT_cons, wkX_cons, wkT_nil, wkX_nil, get, Nat.reduceEqDiff, ↓reduceIte, ex_some, wk_self, wk_top, wk_nil, wkB_self, and_self, dI, i64_in, and_true, true_and, Int.natCast_add, Int.natCast_one, Int.ofNat_zero, Int.natCast_zero]
          all_goals first | exact ⟨.refl _, .refl _, .refl _⟩ | exact ⟨.refl _, .refl _⟩ | exact .refl _
  have hR0 : k = 0 → candF p l now b = R := fun e => by subst e; rw [← hR, bestF]
  have hRS : ∀ j, k = j + 1 → bestL (bestF p l (longN l) j) (longN l) now (P.drop i) (candF p l now b) = R := fun j e => by subst e; rw [← hR, bestF]
  clear hR hdz h1 hE
  generalize candF p l now b = bc at *
  rcases k with _ | k
  · have d3 : ((now.length : Int) == 3) = true := by rw [show now.length = 3 by omega]; rfl
    obtain rfl := hR0 rfl
    repeat' (first
    | (with_reducible first | refine DW.seq ?_ | refine DW.block ?_ | refine DW.skip ?_ | refine DW.exit ?_ | refine DW.ret ?_ | refine DW.reg ?_)
    | (refine DW.ord rfl (WF.of (by first | rfl | simp (disch := omega) only [go_sem, simprocAttr, bm_box, bm_row, bk_box, bk_row, d3])) ?_ ?_ ?_; rotate_left)
    | rfl
    | (with_reducible refine And.intro ?_ ?_)
    | (simp (disch := omega) only [go_sem, simprocAttr, bm_box, bm_row, bk_box, bk_row, d3])
    | (exact retS_of rfl rfl rfl)
    | (refine DW.cond_tt rfl ?_)
    | (refine DW.cond_ff rfl ?_)
    | (refine DW.cond rfl ?_ ?_ <;> intro hc <;> (try simp only [go_sem] at hc))
    | (refine g_split ?_ ?_ <;> intro hc <;> (try simp only [hc]) <;> (try simp only [go_sem] at hc)))
    exact ⟨.inl rfl, _, _, Ent.refl _, rfl, .refl _, by simp only [D.nb, D.nbs, sluC_nb, C.nb, bD, Bool.and_self, Bool.not_false], fun k x hk => by cases hk⟩
  · have d3 : ((now.length : Int) == 3) = false := by rw [beq_eq_false_iff_ne]; omega
    have hRS := hRS k rfl
    have ih := ih k rfl
    clear hR0
    generalize hL : longN l = L at *
    repeat' (first
    | (with_reducible first | refine DW.seq ?_ | refine DW.block ?_ | refine DW.skip ?_ | refine DW.exit ?_ | refine DW.ret ?_ | refine DW.reg ?_)
    | (refine DW.ord rfl (WF.of (by first | rfl | simp (disch := omega) only [go_sem, simprocAttr, bm_box, bm_row, bk_box, bk_row, d3])) ?_ ?_ ?_; rotate_left)
    | rfl
    | (with_reducible refine And.intro ?_ ?_)
    | (simp (disch := omega) only [go_sem, simprocAttr, bm_box, bm_row, bk_box, bk_row, d3])
    | (exact retS_of rfl rfl rfl)
    | (refine DW.cond_tt rfl ?_)
    | (refine DW.cond_ff rfl ?_)
    | (refine DW.cond rfl ?_ ?_ <;> intro hc <;> (try simp only [go_sem] at hc))
    | (refine g_split ?_ ?_ <;> intro hc <;> (try simp only [hc]) <;> (try simp only [go_sem] at hc)))
    refine DW.loop (ι := { y : Nat × Option (List TStp) // y.1 ≤ P.length ∧ NowOk p l (P.drop y.1) now ∧ (∀ x, y.2 = some x → ∃ T, NowOk p l T x ∧ x.length ≤ 3) ∧ bestL (bestF p l L k) L now (P.drop y.1) y.2 = R }) (fun y => ⟨77, [(15, dI y.1.1), (1, .c (.sl b1 3 (rows eO l))), (2, dWs b2 P), (3, dSt false now), (6, .box 6 0), (11, .box 11 0), (12, .box 12 0)], [(12, .box [.c (.v (.slice none 0 0)), bD false]), (11, .box [sluD y.1.2, bD y.1.2.isSome]), (6, .box [dI p.wide, dI p.tl, dI p.th, dI p.webs])]⟩) (fun y => P.length - y.1.1) ⟨(i, bc), hi, hnow, hcok, hRS⟩ ?_ ?_
    · refine Ent.to ?_ ?_ <;> simp (disch := omega) only [wkT_cons, wkX_cons, wkT_nil, wkX_nil, get, Nat.reduceEqDiff, ↓reduceIte, ex_some, wk_self, wk_top, wk_nil, wkB_self, and_self, dI, i64_in, and_true, true_and, Int.natCast_add, Int.natCast_one, Int.ofNat_zero, Int.natCast_zero]
      all_goals first | exact ⟨.refl _, .refl _, .refl _⟩ | exact ⟨.refl _, .refl _⟩ | exact .refl _
    clear hRS hcok hnow hb hi
    rintro ⟨⟨j, bj⟩, hj, hnow, hbj, hRj⟩
    dsimp only at hj hnow hbj hRj ⊢
    rcases at_or P j hj with ⟨ws, hws, hlt, hd⟩ | ⟨he, hd⟩
    case inr =>
      rw [List.drop_eq_nil_of_le (by omega), bestL] at hRj
      subst hRj
      repeat' (first
    | (with_reducible first | refine DW.seq ?_ | refine DW.block ?_ | refine DW.skip ?_ | refine DW.exit ?_ | refine DW.ret ?_ | refine DW.reg ?_)
    | (refine DW.ord rfl (WF.of (by first | rfl | simp (disch := omega) only [go_sem, simprocAttr, bm_box, bm_row, bk_box, bk_row, hd])) ?_ ?_ ?_; rotate_left)
    | rfl
    | (with_reducible refine And.intro ?_ ?_)
    | (simp (disch := omega) only [go_sem, simprocAttr, bm_box, bm_row, bk_box, bk_row, hd])
    | (exact retS_of rfl rfl rfl)
    | (refine DW.cond_tt rfl ?_)
    | (refine DW.cond_ff rfl ?_)
    | (refine DW.cond rfl ?_ ?_ <;> intro hc <;> (try simp only [go_sem] at hc))
    | (refine g_split ?_ ?_ <;> intro hc <;> (try simp only [hc]) <;> (try simp only [go_sem] at hc)))
      exact ⟨.inl rfl, _, _, Ent.refl _, rfl, .refl _, by simp only [D.nb, D.nbs, sluC_nb, C.nb, bD, Bool.and_self, Bool.not_false], fun k x hk => by cases hk⟩
    have hwo := hP ws (List.mem_of_getElem? hws)
    have hdr : P.drop j = ws :: P.drop (j + 1) := by rw [List.drop_eq_getElem_cons hlt, (List.getElem_eq_iff hlt).2 hws]
    rw [hdr] at hnow
    rw [hdr, bestL] at hRj
    repeat' (first
    | (with_reducible first | refine DW.seq ?_ | refine DW.block ?_ | refine DW.skip ?_ | refine DW.exit ?_ | refine DW.ret ?_ | refine DW.reg ?_)
    | (refine DW.ord rfl (WF.of (by first | rfl | simp (disch := omega) only [go_sem, simprocAttr, bm_box, bm_row, bk_box, bk_row, hd])) ?_ ?_ ?_; rotate_left)
    | rfl
    | (with_reducible refine And.intro ?_ ?_)
    | (simp (disch := omega) only [go_sem, simprocAttr, bm_box, bm_row, bk_box, bk_row, hd])
    | (exact retS_of rfl rfl rfl)
    | (refine DW.cond_tt rfl ?_)
    | (refine DW.cond_ff rfl ?_)
    | (refine DW.cond rfl ?_ ?_ <;> intro hc <;> (try simp only [go_sem] at hc))
    | (refine g_split ?_ ?_ <;> intro hc <;> (try simp only [hc]) <;> (try simp only [go_sem] at hc)))
    refine DW.loop (ι := { y : Nat × Option (List TStp) // (1 ≤ y.1 ∧ y.1 ≤ L + 1) ∧ (∀ x, y.2 = some x → ∃ T, NowOk p l T x ∧ x.length ≤ 3) ∧ bestL (bestF p l L k) L now (P.drop (j + 1)) (bestR (bestF p l L k (P.drop (j + 1))) ws now (L + 1 - y.1) (y.1 : Int) y.2) = R }) (fun y => ⟨77, [(16, dI y.1.1), (15, dI j), (1, .c (.sl b1 3 (rows eO l))), (2, dWs b2 P), (3, dSt false now), (6, .box 6 0), (11, .box 11 0), (12, .box 12 0)], [(12, .box [.c (.v (.slice none 0 0)), bD false]), (11, .box [sluD y.1.2, bD y.1.2.isSome]), (6, .box [dI p.wide, dI p.tl, dI p.th, dI p.webs])]⟩) (fun y => L + 1 - y.1.1) ⟨(1, bj), by dsimp only; omega, hbj, hRj⟩ ?_ ?_
    · refine Ent.to ?_ ?_ <;> simp (disch := omega) only [wkT_cons, wkX_cons, wkT_nil, wkX_nil, get, Nat.reduceEqDiff, ↓reduceIte, ex_some, wk_self, wk_top, wk_nil, wkB_self, and_self, dI, i64_in, and_true, true_and, Int.natCast_add, Int.natCast_one, Int.ofNat_zero, Int.natCast_zero]
      all_goals first | exact ⟨.refl _, .refl _, .refl _⟩ | exact ⟨.refl _, .refl _⟩ | exact .refl _
    rintro ⟨⟨r, br⟩, hr, hbr, hRr⟩
    dsimp only at hr hbr hRr ⊢
    by_cases hrL : r ≤ L
    · have hdc : decide ((r : Int) ≤ (L : Int)) = true := decide_eq_true (by omega)
      have hnow2 : NowOk p l (P.drop (j + 1)) (now ++ [⟨ws, (r : Int)⟩]) := hnow.snoc hwo (by omega)
      have hrec := ih b1 b2 (j + 1) (now ++ [⟨ws, (r : Int)⟩]) br hlt (by simp; omega) hnow2 hbr
      have hnl3 : now.length ≤ 2 := by omega
      rw [hL] at hrec
      have ec : L + 1 - r = (L + 1 - (r + 1)) + 1 := by omega
      rw [ec, bestR] at hRr
      have hok2 : ∀ x, bestF p l L k (P.drop (j + 1)) (now ++ [⟨ws, (r : Int)⟩]) br = some x → ∃ T, NowOk p l T x ∧ x.length ≤ 3 := bestF_ok (by omega) k _ _ _ hnow2 (by simp; omega) (fun w hw => hP w (List.mem_of_mem_drop hw)) hbr
      generalize bestF p l L k (P.drop (j + 1)) (now ++ [⟨ws, (r : Int)⟩]) br = B2 at *
      have hsn : rowC (rows eSt now) ++ [[D.c (C.sl false 1 (rows eI ws)), D.c (C.v (.int .i64 r))]] = rowC (rows eSt (now ++ [⟨ws, (r : Int)⟩])) := rowC_snocS now ⟨ws, r⟩
      repeat' (first
    | (with_reducible first | refine DW.seq ?_ | refine DW.block ?_ | refine DW.skip ?_ | refine DW.exit ?_ | refine DW.ret ?_ | refine DW.reg ?_)
    | (refine DW.ord rfl (WF.of (by first | rfl | simp (disch := omega) only [go_sem, simprocAttr, bm_box, bm_row, bk_box, bk_row, hdc, hws, List.map_cons, List.map_nil, hsn])) ?_ ?_ ?_; rotate_left)
    | rfl
    | (with_reducible refine And.intro ?_ ?_)
    | (simp (disch := omega) only [go_sem, simprocAttr, bm_box, bm_row, bk_box, bk_row, hdc, hws, List.map_cons, List.map_nil, hsn])
    | (exact retS_of rfl rfl rfl)
    | (refine DW.cond_tt rfl ?_)
    | (refine call_c (hlg) (by decide) ?_)
    | (refine DW.cond_ff rfl ?_)
    | (refine DW.cond rfl ?_ ?_ <;> intro hc <;> (try simp only [go_sem] at hc))
    | (refine g_split ?_ ?_ <;> intro hc <;> (try simp only [hc]) <;> (try simp only [go_sem] at hc)))
      refine call_rel 61 rfl ?_
      simp (disch := omega) only [go_sem, simprocAttr, bm_box, bm_row, bk_box, bk_row]
      refine opsN.c hrec rfl (by simp (disch := omega) only [go_sem, simprocAttr, bm_box, bm_row, bk_box, bk_row, del]; rfl) (by decide) ?_
      simp (disch := omega) only [go_sem, simprocAttr, bm_box, bm_row, bk_box, bk_row]
      repeat' (first
    | (with_reducible first | refine DW.seq ?_ | refine DW.block ?_ | refine DW.skip ?_ | refine DW.exit ?_ | refine DW.ret ?_ | refine DW.reg ?_)
    | (refine DW.ord rfl (WF.of (by first | rfl | simp (disch := omega) only [go_sem, simprocAttr, bm_box, bm_row, bk_box, bk_row])) ?_ ?_ ?_; rotate_left)
    | rfl
    | (with_reducible refine And.intro ?_ ?_)
    | (simp (disch := omega) only [go_sem, simprocAttr, bm_box, bm_row, bk_box, bk_row])
    | (exact retS_of rfl rfl rfl)
    | (refine DW.cond_tt rfl ?_)
    | (refine DW.cond_ff rfl ?_)
    | (refine DW.cond rfl ?_ ?_ <;> intro hc <;> (try simp only [go_sem] at hc))
    | (refine g_split ?_ ?_ <;> intro hc <;> (try simp only [hc]) <;> (try simp only [go_sem] at hc)))
      refine ⟨⟨(r + 1, B2), by dsimp only; omega, hok2, hRr⟩, ?_, Ent.to ?_ ?_⟩ <;> first | (show _ < _; (try simp only); omega) | (simp (disch := omega) only [wkT_cons, wkX_cons, wkT_nil, wkX_nil, get, Nat.reduceEqDiff, ↓reduceIte, ex_some, wk_self, wk_top, wk_nil, wkB_self, and_self, dI, i64_in, and_true, true_and, Int.natCast_add, Int.natCast_one, Int.ofNat_zero, Int.natCast_zero])
      all_goals first | exact ⟨.refl _, .refl _, .refl _⟩ | exact ⟨.refl _, .refl _⟩ | exact .refl _
    · have hdc : decide ((r : Int) ≤ (L : Int)) = false := decide_eq_false (by omega)
      rw [show L + 1 - r = 0 by omega, bestR] at hRr
      repeat' (first
    | (with_reducible first | refine DW.seq ?_ | refine DW.block ?_ | refine DW.skip ?_ | refine DW.exit ?_ | refine DW.ret ?_ | refine DW.reg ?_)
    | (refine DW.ord rfl (WF.of (by first | rfl | simp (disch := omega) only [go_sem, simprocAttr, bm_box, bm_row, bk_box, bk_row, hdc])) ?_ ?_ ?_; rotate_left)
    | rfl
    | (with_reducible refine And.intro ?_ ?_)
    | (simp (disch := omega) only [go_sem, simprocAttr, bm_box, bm_row, bk_box, bk_row, hdc])
    | (exact retS_of rfl rfl rfl)
    | (refine DW.cond_tt rfl ?_)
    | (refine call_c (hlg) (by decide) ?_)
    | (refine DW.cond_ff rfl ?_)
    | (refine DW.cond rfl ?_ ?_ <;> intro hc <;> (try simp only [go_sem] at hc))
    | (refine g_split ?_ ?_ <;> intro hc <;> (try simp only [hc]) <;> (try simp only [go_sem] at hc)))
      refine ⟨⟨(j + 1, br), hlt, hnow.tail, hbr, hRr⟩, ?_, Ent.to ?_ ?_⟩ <;> first | (show _ < _; (try simp only); omega) | (simp (disch := omega) only [wkT_cons, wkX_cons, wkT_nil, wkX_nil, get, Nat.reduceEqDiff, ↓reduceIte, ex_some, wk_self, wk_top, wk_nil, wkB_self, and_self, dI, i64_in, and_true, true_and, Int.natCast_add, Int.natCast_one, Int.ofNat_zero, Int.natCast_zero])
      all_goals first | exact ⟨.refl _, .refl _, .refl _⟩ | exact ⟨.refl _, .refl _⟩ | exact .refl _
theorem reBest (p : TPap) (hp : p.ok) (l : List TOrd) (hl : l.length ≤ 4) (ho : ∀ o ∈ l, o.ok) (P : List (List Int)) (hP : ∀ ws ∈ P, WsOk p l ws) (hPl : P.length ≤ 625) : ∀ k, BesC p l P k
  | 0 => reBestS p hp l hl ho P hP hPl 0 (fun j h => by cases h)
  | k + 1 => reBestS p hp l hl ho P hP hPl (k + 1) (fun j h => by
    obtain rfl : k = j := by omega
    exact reBest p hp l hl ho P hP hPl k)
theorem reFind (b1 : Bool) (p : TPap) (hp : p.ok) (l : List TOrd) (hl : l.length ≤ 4) (ho : ∀ o ∈ l, o.ok) : DCall Try.prog 34 [papD p, .c (.sl b1 3 (rows eO l))] [] (bstD (findF p l)) [] := by
  have h1 := rePatterns b1 p hp l hl ho
  have hpl := patsX_len4 p hp l hl
  rw [patsX_all p hp l] at hpl
  have hpo := pats_ok p l
  have h2 := reBest p hp l hl ho (pats p l) hpo.ok hpl 3 b1 false 0 [] none (Nat.zero_le _) rfl ⟨hpo.asc, fun s hs => by cases hs⟩ (fun x h => by cases h)
  rw [List.drop_zero] at h2
  have h3 := DCall.weakA (l := [papD p, .c (.sl b1 3 (rows eO l)), dWs false (pats p l), .c (.v (.slice none 0 0)), dI (0 : Nat), bstD none]) h2 (.cons (.inl rfl) (.cons (.inl rfl) (.cons (.inl rfl) (.cons (.inr ⟨_, _, rfl, rfl, .nil _ _⟩) (.cons (.inl rfl) (.cons (.inl rfl) .nil))))))
  rw [findF]
  generalize pats p l = P at *
  generalize bestF p l (longN l) 3 P [] none = R at *
  refine DCall.of Try.func34 sf34 hb34 (Nat.le_of_ble_eq_true rfl) (okRes_nil fun _ => rfl) ?_; simp only [s34, idxs, Nat.reduceAdd]
  repeat' (first
    | (with_reducible first | refine DW.seq ?_ | refine DW.block ?_ | refine DW.skip ?_ | refine DW.exit ?_ | refine DW.ret ?_ | refine DW.reg ?_)
    | (refine DW.dreg rfl (WF.of ?_) ?_; first | rfl | skip)
    | (simp (disch := omega) only [go_sem, simprocAttr, bm_box, bm_row, bk_box, bk_row])
    | (exact retS_of rfl rfl rfl)
    | (refine DW.cond_tt rfl ?_)
    | (refine call_c (h1) (by decide) ?_)
    | (refine call_c (h3) (by decide) ?_)
    | (refine DW.cond_ff rfl ?_)
    | (refine DW.cond rfl ?_ ?_ <;> intro hc <;> (try simp only [go_sem] at hc))
    | (refine g_split ?_ ?_ <;> intro hc <;> (try simp only [hc]) <;> (try simp only [go_sem] at hc)))
  exact ⟨.inl rfl, _, _, Ent.refl _, rfl, .refl _, by simp only [D.nb, D.nbs, sluC_nb, C.nb, bD, Bool.and_self, Bool.not_false], fun k x hk => by cases hk⟩
end Go.Dw.Seat
end
section
set_option linter.unusedSimpArgs false
set_option maxRecDepth 100000
namespace Go.Dw.Seat
open Go Go.Dw Go.Proofs Go.IntWalk
theorem minBy_snoc {α : Type} (c : α → α → Int) : ∀ (l : List α) (m y : α), minBy c m (l ++ [y]) = if c y (minBy c m l) < 0 then y else minBy c m l
  | [], m, y => rfl
  | x :: l, m, y => by rw [List.cons_append, minBy, minBy_snoc c l, minBy]
end Go.Dw.Seat
end
section
set_option linter.unusedSimpArgs false
set_option maxRecDepth 100000
namespace Go.Dw.Seat
open Go Go.Dw Go.Proofs Go.IntWalk
abbrev dPs (b : Bool) (P : List TPap) : D := .c (.sl b 4 (rows eP P))
def bstO (l : List TOrd) (P : List TPap) (i : Nat) : Option TOff := match offF l 0 (P.take i) with
  | [] => none
  | x :: t => some (minBy cmpO x t)
def bO (o : Option TOff) : Int × Int × Int := match o with
  | none => (-1, 0, 0)
  | some u => (u.paper, u.setups, u.waste)
theorem offF_paper {l : List TOrd} : ∀ {P : List TPap} {i : Nat}, ∀ u ∈ offF l i P, (i : Int) ≤ u.paper ∧ u.paper < (i : Int) + P.length
  | [], _, u, hu => by cases hu
  | p :: P, i, u, hu => by
    rw [offF] at hu
    split at hu
    · rcases List.mem_cons.1 hu with rfl | hu
      · simp only [List.length_cons]; omega
      · have := offF_paper (P := P) (i := i + 1) u hu
        simp only [List.length_cons]; omega
    · have := offF_paper (P := P) (i := i + 1) u hu
      simp only [List.length_cons]; omega
theorem bstO_paper {l : List TOrd} {P : List TPap} {i : Nat} (hi : i ≤ P.length) {u : TOff} (h : bstO l P i = some u) : 0 ≤ u.paper ∧ u.paper < (i : Int) := by
  unfold bstO at h
  cases ho : offF l 0 (P.take i) with
  | nil => rw [ho] at h; cases h
  | cons x t =>
    rw [ho] at h
    cases h
    have hm : minBy cmpO x t ∈ offF l 0 (P.take i) := by
      rw [ho]
      rcases minBy_mem cmpO t x with e | e
      · rw [e]; simp
      · simp [e]
    have := offF_paper _ hm
    rw [List.length_take] at this
    omega
theorem bstO_none {l : List TOrd} {P : List TPap} {i : Nat} {v : TPap} (hv : P[i]? = some v) (h : planF v l = none) : bstO l P (i + 1) = bstO l P i := by
  have hil := (List.getElem?_eq_some_iff.1 hv).1
  have htk : P.take (i + 1) = P.take i ++ [v] := by rw [List.take_add_one, hv]; rfl
  unfold bstO
  rw [htk, offF_app, offF, h, offF, List.append_nil]
theorem cmpO_neg {a b : TOff} (h : b.paper < a.paper) : (cmpO a b < 0) ↔ (a.setups < b.setups ∨ (a.setups = b.setups ∧ a.waste < b.waste)) := by
  unfold cmpO
  simp only [orL]
  split
  · omega
  · split
    · omega
    · split <;> omega
theorem bstO_some {l : List TOrd} {P : List TPap} {i : Nat} {v : TPap} (hv : P[i]? = some v) {q : List TStp} {w : Int} (h : planF v l = some (q, w)) : bstO l P (i + 1) = match bstO l P i with
    | none => some ⟨i, q.length, w⟩
    | some u => if (q.length : Int) < u.setups ∨ ((q.length : Int) = u.setups ∧ w < u.waste) then some ⟨i, q.length, w⟩ else some u := by
  have hil := (List.getElem?_eq_some_iff.1 hv).1
  have htk : P.take (i + 1) = P.take i ++ [v] := by rw [List.take_add_one, hv]; rfl
  have hoff : offF l 0 (P.take (i + 1)) = offF l 0 (P.take i) ++ [⟨i, q.length, w⟩] := by
    rw [htk, offF_app, List.length_take, Nat.min_eq_left (by omega), Nat.zero_add, offF, h, offF]
  have hp := fun u (hu : bstO l P i = some u) => bstO_paper (Nat.le_of_lt hil) hu
  unfold bstO at hp ⊢
  rw [hoff]
  cases ho : offF l 0 (P.take i) with
  | nil => rfl
  | cons x t =>
    rw [ho] at hp
    dsimp only at hp ⊢
    have hpp := hp _ rfl
    rw [List.cons_append]
    dsimp only
    rw [minBy_snoc]
    have hc := cmpO_neg (a := ⟨(i : Int), (q.length : Int), w⟩) (b := minBy cmpO x t) hpp.2
    by_cases h1 : cmpO ⟨(i : Int), (q.length : Int), w⟩ (minBy cmpO x t) < 0
    · rw [if_pos h1, if_pos (hc.1 h1)]
    · rw [if_neg h1, if_neg (fun h2 => h1 (hc.2 h2))]
theorem cho_bst {l : List TOrd} {P : List TPap} (h4 : ¬ 4 < P.length) (h0 : ¬ P.length = 0) (hz : papE l P = 0) : choE P l = (if (bstO l P P.length).isSome then 0 else 9) ∧ choI P l = (match bstO l P P.length with | none => 0 | some u => u.paper) := by
  have hE : choE P l = if (offF l 0 P).isEmpty then 9 else 0 := by unfold choE; rw [if_neg h4, if_neg h0, if_neg (by simpa using hz)]
  have hI : choI P l = if choE P l ≠ 0 then 0 else match offF l 0 P with | [] => 0 | x :: t => (minBy cmpO x t).paper := rfl
  rw [hI, hE]
  unfold bstO
  rw [List.take_length]
  cases offF l 0 P <;> simp
set_option maxHeartbeats 8000000 in
theorem laChooses (P : List TPap) (hPm : P.length ≤ maxLen) (l : List TOrd) (hlm : l.length ≤ maxLen) : DCall Try.prog 6 [dPs false P, .c (.sl false 3 (rows eO l))] [] (bD true) [] := by
  have hk := laKnown
  by_cases P10 : (10 : Int) < (P.length : Int)
  · have d1 : decide ((10 : Int) < (P.length : Int)) = true := decide_eq_true P10
    refine DCall.of Try.func6 sf6 hb6 (Nat.le_of_ble_eq_true rfl) (okRes_nil fun _ => rfl) ?_; simp only [s6, idxs, Nat.reduceAdd]
    repeat' (first
    | (with_reducible first | refine DW.seq ?_ | refine DW.block ?_ | refine DW.skip ?_ | refine DW.exit ?_ | refine DW.ret ?_ | refine DW.reg ?_)
    | (refine DW.dreg rfl (WF.of ?_) ?_; first | rfl | skip)
    | (simp (disch := omega) only [go_sem, simprocAttr, bm_box, bm_row, bk_box, bk_row, d1])
    | (exact retS_of rfl rfl rfl)
    | (refine DW.cond_tt rfl ?_)
    | (refine call_c (hk) (by decide) ?_)
    | (refine DW.cond_ff rfl ?_)
    | (refine DW.cond rfl ?_ ?_ <;> intro hc <;> (try simp only [go_sem] at hc))
    | (refine g_split ?_ ?_ <;> intro hc <;> (try simp only [hc]) <;> (try simp only [go_sem] at hc)))
  have d1 : decide ((10 : Int) < (P.length : Int)) = false := decide_eq_false P10
  by_cases l10 : (10 : Int) < (l.length : Int)
  · have d2 : decide ((10 : Int) < (l.length : Int)) = true := decide_eq_true l10
    refine DCall.of Try.func6 sf6 hb6 (Nat.le_of_ble_eq_true rfl) (okRes_nil fun _ => rfl) ?_; simp only [s6, idxs, Nat.reduceAdd]
    repeat' (first
    | (with_reducible first | refine DW.seq ?_ | refine DW.block ?_ | refine DW.skip ?_ | refine DW.exit ?_ | refine DW.ret ?_ | refine DW.reg ?_)
    | (refine DW.dreg rfl (WF.of ?_) ?_; first | rfl | skip)
    | (simp (disch := omega) only [go_sem, simprocAttr, bm_box, bm_row, bk_box, bk_row, d1, d2])
    | (exact retS_of rfl rfl rfl)
    | (refine DW.cond_tt rfl ?_)
    | (refine call_c (hk) (by decide) ?_)
    | (refine DW.cond_ff rfl ?_)
    | (refine DW.cond rfl ?_ ?_ <;> intro hc <;> (try simp only [go_sem] at hc))
    | (refine g_split ?_ ?_ <;> intro hc <;> (try simp only [hc]) <;> (try simp only [go_sem] at hc)))
  have d2 : decide ((10 : Int) < (l.length : Int)) = false := decide_eq_false l10
  have hl : l.length ≤ 2 ^ 36 := by omega
  have hP : P.length ≤ 2 ^ 36 := by omega
  have c1 := laOwn false l hl
  have c2 := trChoose true P hP l hl
  have i1 := reOrders false false l l hl hl true (by simp)
  by_cases h4 : 4 < P.length
  · have hE : choE P l = 5 := if_pos h4
    have hI : choI P l = 0 := by unfold choI; rw [if_pos (by rw [hE]; decide)]
    rw [hE, hI] at c2
    have d3 : decide ((P.length : Int) ≤ 4) = false := decide_eq_false (by omega)
    have d4 : decide ((4 : Int) < (P.length : Int)) = true := decide_eq_true (by omega)
    have dp : decide ((0 : Int) < (P.length : Int)) = true := decide_eq_true (by omega)
    refine DCall.of Try.func6 sf6 hb6 (Nat.le_of_ble_eq_true rfl) (okRes_nil fun _ => rfl) ?_; simp only [s6, idxs, Nat.reduceAdd]
    repeat' (first
    | (with_reducible first | refine DW.seq ?_ | refine DW.block ?_ | refine DW.skip ?_ | refine DW.exit ?_ | refine DW.ret ?_ | refine DW.reg ?_)
    | (refine DW.dreg rfl (WF.of ?_) ?_; first | rfl | skip)
    | (simp (disch := omega) only [go_sem, simprocAttr, bm_box, bm_row, bk_box, bk_row, d1, d2])
    | (exact retS_of rfl rfl rfl)
    | (refine DW.cond_tt rfl ?_)
    | (refine DW.cond_ff rfl ?_)
    | (refine DW.cond rfl ?_ ?_ <;> intro hc <;> (try simp only [go_sem] at hc))
    | (refine g_split ?_ ?_ <;> intro hc <;> (try simp only [hc]) <;> (try simp only [go_sem] at hc)))
    refine DW.loop (ι := Unit) (fun _ => ⟨184, [(5, dI 0), (0, dPs false P), (1, .c (.sl false 3 (rows eO l)))], []⟩) (fun _ => 0) () ?_ ?_
    · refine Ent.to ?_ ?_ <;> simp (disch := omega) only [wkT_cons, wkX_cons, wkT_nil, wkX_nil, get, Nat.reduceEqDiff, ↓reduceIte, ex_some, wk_self, wk_top, wk_nil, wkB_self, and_self, dI, i64_in, and_true, true_and, Int.natCast_add, Int.natCast_one, Int.ofNat_zero, Int.natCast_zero]
      all_goals first | exact ⟨.refl _, .refl _⟩ | exact .refl _
    rintro ⟨⟩
    repeat' (first
    | (with_reducible first | refine DW.seq ?_ | refine DW.block ?_ | refine DW.skip ?_ | refine DW.exit ?_ | refine DW.ret ?_ | refine DW.reg ?_)
    | (refine DW.dreg rfl (WF.of ?_) ?_; first | rfl | skip)
    | (simp (disch := omega) only [go_sem, simprocAttr, bm_box, bm_row, bk_box, bk_row, d3, d4, dp])
    | (exact retS_of rfl rfl rfl)
    | (refine DW.cond_tt rfl ?_)
    | (refine call_c (hk) (by decide) ?_)
    | (refine call_c (c1) (by decide) ?_)
    | (refine call_c (c2) (by decide) ?_)
    | (refine call_c (i1) (by decide) ?_)
    | (refine DW.cond_ff rfl ?_)
    | (refine DW.cond rfl ?_ ?_ <;> intro hc <;> (try simp only [go_sem] at hc))
    | (refine g_split ?_ ?_ <;> intro hc <;> (try simp only [hc]) <;> (try simp only [go_sem] at hc)))
    refine DW.loop (ι := Unit) (fun _ => ⟨184, [(14, dI 0), (13, dI 0), (12, dI 0), (11, dI (-1)), (10, dI 5), (9, dI 5), (8, dI 0), (7, .own 48), (0, dPs false P), (1, .c (.sl false 3 (rows eO l)))], [(48, .row 4 (rowC (rows eP P)))]⟩) (fun _ => 0) () ?_ ?_
    · refine Ent.to ?_ ?_ <;> simp (disch := omega) only [wkT_cons, wkX_cons, wkT_nil, wkX_nil, get, Nat.reduceEqDiff, ↓reduceIte, ex_some, wk_self, wk_top, wk_nil, wkB_self, and_self, dI, i64_in, and_true, true_and, Int.natCast_add, Int.natCast_one, Int.ofNat_zero, Int.natCast_zero]
      all_goals first | exact ⟨.refl _, .refl _⟩ | exact .refl _
    rintro ⟨⟩
    repeat' (first
    | (with_reducible first | refine DW.seq ?_ | refine DW.block ?_ | refine DW.skip ?_ | refine DW.exit ?_ | refine DW.ret ?_ | refine DW.reg ?_)
    | (refine DW.dreg rfl (WF.of ?_) ?_; first | rfl | skip)
    | (simp (disch := omega) only [go_sem, simprocAttr, bm_box, bm_row, bk_box, bk_row, dp])
    | (exact retS_of rfl rfl rfl)
    | (refine DW.cond_tt rfl ?_)
    | (refine DW.cond_ff rfl ?_)
    | (refine DW.cond rfl ?_ ?_ <;> intro hc <;> (try simp only [go_sem] at hc))
    | (refine g_split ?_ ?_ <;> intro hc <;> (try simp only [hc]) <;> (try simp only [go_sem] at hc)))
    refine DW.loop (ι := Unit) (fun _ => ⟨184, [(15, dI 0), (13, dI 0), (12, dI 0), (11, dI (-1)), (10, dI 5), (9, dI 5), (8, dI 0), (7, .own 48), (0, dPs false P), (1, .c (.sl false 3 (rows eO l)))], [(48, .row 4 (rowC (rows eP P)))]⟩) (fun _ => 0) () ?_ ?_
    · refine Ent.to ?_ ?_ <;> simp (disch := omega) only [wkT_cons, wkX_cons, wkT_nil, wkX_nil, get, Nat.reduceEqDiff, ↓reduceIte, ex_some, wk_self, wk_top, wk_nil, wkB_self, and_self, dI, i64_in, and_true, true_and, Int.natCast_add, Int.natCast_one, Int.ofNat_zero, Int.natCast_zero]
      all_goals first | exact ⟨.refl _, .refl _⟩ | exact .refl _
    rintro ⟨⟩
    repeat' (first
    | (with_reducible first | refine DW.seq ?_ | refine DW.block ?_ | refine DW.skip ?_ | refine DW.exit ?_ | refine DW.ret ?_ | refine DW.reg ?_)
    | (refine DW.dreg rfl (WF.of ?_) ?_; first | rfl | skip)
    | (simp (disch := omega) only [go_sem, simprocAttr, bm_box, bm_row, bk_box, bk_row, dp])
    | (exact retS_of rfl rfl rfl)
    | (refine DW.cond_tt rfl ?_)
    | (refine call_c (hk) (by decide) ?_)
    | (refine DW.cond_ff rfl ?_)
    | (refine DW.cond rfl ?_ ?_ <;> intro hc <;> (try simp only [go_sem] at hc))
    | (refine g_split ?_ ?_ <;> intro hc <;> (try simp only [hc]) <;> (try simp only [go_sem] at hc)))
  have d4 : decide ((4 : Int) < (P.length : Int)) = false := decide_eq_false (by omega)
  have d3 : decide ((P.length : Int) ≤ 4) = true := decide_eq_true (by omega)
  by_cases h0 : P.length = 0
  · have hE : choE P l = 7 := by unfold choE; rw [if_neg h4, if_pos h0]
    have hI : choI P l = 0 := by unfold choI; rw [if_pos (by rw [hE]; decide)]
    rw [hE, hI] at c2
    have dp : decide ((0 : Int) < (P.length : Int)) = false := decide_eq_false (by omega)
    have d0 : ((P.length : Int) == 0) = true := by rw [h0]; rfl
    refine DCall.of Try.func6 sf6 hb6 (Nat.le_of_ble_eq_true rfl) (okRes_nil fun _ => rfl) ?_; simp only [s6, idxs, Nat.reduceAdd]
    repeat' (first
    | (with_reducible first | refine DW.seq ?_ | refine DW.block ?_ | refine DW.skip ?_ | refine DW.exit ?_ | refine DW.ret ?_ | refine DW.reg ?_)
    | (refine DW.dreg rfl (WF.of ?_) ?_; first | rfl | skip)
    | (simp (disch := omega) only [go_sem, simprocAttr, bm_box, bm_row, bk_box, bk_row, d1, d2])
    | (exact retS_of rfl rfl rfl)
    | (refine DW.cond_tt rfl ?_)
    | (refine DW.cond_ff rfl ?_)
    | (refine DW.cond rfl ?_ ?_ <;> intro hc <;> (try simp only [go_sem] at hc))
    | (refine g_split ?_ ?_ <;> intro hc <;> (try simp only [hc]) <;> (try simp only [go_sem] at hc)))
    refine DW.loop (ι := Unit) (fun _ => ⟨184, [(5, dI 0), (0, dPs false P), (1, .c (.sl false 3 (rows eO l)))], []⟩) (fun _ => 0) () ?_ ?_
    · refine Ent.to ?_ ?_ <;> simp (disch := omega) only [wkT_cons, wkX_cons, wkT_nil, wkX_nil, get, Nat.reduceEqDiff, ↓reduceIte, ex_some, wk_self, wk_top, wk_nil, wkB_self, and_self, dI, i64_in, and_true, true_and, Int.natCast_add, Int.natCast_one, Int.ofNat_zero, Int.natCast_zero]
      all_goals first | exact ⟨.refl _, .refl _⟩ | exact .refl _
    rintro ⟨⟩
    repeat' (first
    | (with_reducible first | refine DW.seq ?_ | refine DW.block ?_ | refine DW.skip ?_ | refine DW.exit ?_ | refine DW.ret ?_ | refine DW.reg ?_)
    | (refine DW.dreg rfl (WF.of ?_) ?_; first | rfl | skip)
    | (simp (disch := omega) only [go_sem, simprocAttr, bm_box, bm_row, bk_box, bk_row, d3, d4, dp, d0])
    | (exact retS_of rfl rfl rfl)
    | (refine DW.cond_tt rfl ?_)
    | (refine call_c (hk) (by decide) ?_)
    | (refine call_c (c1) (by decide) ?_)
    | (refine call_c (c2) (by decide) ?_)
    | (refine call_c (i1) (by decide) ?_)
    | (refine DW.cond_ff rfl ?_)
    | (refine DW.cond rfl ?_ ?_ <;> intro hc <;> (try simp only [go_sem] at hc))
    | (refine g_split ?_ ?_ <;> intro hc <;> (try simp only [hc]) <;> (try simp only [go_sem] at hc)))
    refine DW.loop (ι := Unit) (fun _ => ⟨184, [(14, dI 0), (13, dI 0), (12, dI 0), (11, dI (-1)), (10, dI 7), (9, dI 7), (8, dI 0), (7, .own 48), (0, dPs false P), (1, .c (.sl false 3 (rows eO l)))], [(48, .row 4 (rowC (rows eP P)))]⟩) (fun _ => 0) () ?_ ?_
    · refine Ent.to ?_ ?_ <;> simp (disch := omega) only [wkT_cons, wkX_cons, wkT_nil, wkX_nil, get, Nat.reduceEqDiff, ↓reduceIte, ex_some, wk_self, wk_top, wk_nil, wkB_self, and_self, dI, i64_in, and_true, true_and, Int.natCast_add, Int.natCast_one, Int.ofNat_zero, Int.natCast_zero]
      all_goals first | exact ⟨.refl _, .refl _⟩ | exact .refl _
    rintro ⟨⟩
    repeat' (first
    | (with_reducible first | refine DW.seq ?_ | refine DW.block ?_ | refine DW.skip ?_ | refine DW.exit ?_ | refine DW.ret ?_ | refine DW.reg ?_)
    | (refine DW.dreg rfl (WF.of ?_) ?_; first | rfl | skip)
    | (simp (disch := omega) only [go_sem, simprocAttr, bm_box, bm_row, bk_box, bk_row, dp])
    | (exact retS_of rfl rfl rfl)
    | (refine DW.cond_tt rfl ?_)
    | (refine DW.cond_ff rfl ?_)
    | (refine DW.cond rfl ?_ ?_ <;> intro hc <;> (try simp only [go_sem] at hc))
    | (refine g_split ?_ ?_ <;> intro hc <;> (try simp only [hc]) <;> (try simp only [go_sem] at hc)))
    refine DW.loop (ι := Unit) (fun _ => ⟨184, [(15, dI 0), (13, dI 0), (12, dI 0), (11, dI (-1)), (10, dI 7), (9, dI 7), (8, dI 0), (7, .own 48), (0, dPs false P), (1, .c (.sl false 3 (rows eO l)))], [(48, .row 4 (rowC (rows eP P)))]⟩) (fun _ => 0) () ?_ ?_
    · refine Ent.to ?_ ?_ <;> simp (disch := omega) only [wkT_cons, wkX_cons, wkT_nil, wkX_nil, get, Nat.reduceEqDiff, ↓reduceIte, ex_some, wk_self, wk_top, wk_nil, wkB_self, and_self, dI, i64_in, and_true, true_and, Int.natCast_add, Int.natCast_one, Int.ofNat_zero, Int.natCast_zero]
      all_goals first | exact ⟨.refl _, .refl _⟩ | exact .refl _
    rintro ⟨⟩
    repeat' (first
    | (with_reducible first | refine DW.seq ?_ | refine DW.block ?_ | refine DW.skip ?_ | refine DW.exit ?_ | refine DW.ret ?_ | refine DW.reg ?_)
    | (refine DW.dreg rfl (WF.of ?_) ?_; first | rfl | skip)
    | (simp (disch := omega) only [go_sem, simprocAttr, bm_box, bm_row, bk_box, bk_row, dp])
    | (exact retS_of rfl rfl rfl)
    | (refine DW.cond_tt rfl ?_)
    | (refine call_c (hk) (by decide) ?_)
    | (refine DW.cond_ff rfl ?_)
    | (refine DW.cond rfl ?_ ?_ <;> intro hc <;> (try simp only [go_sem] at hc))
    | (refine g_split ?_ ?_ <;> intro hc <;> (try simp only [hc]) <;> (try simp only [go_sem] at hc)))
  have d0 : ((P.length : Int) == 0) = false := by rw [beq_eq_false_iff_ne]; omega
  generalize hEe : choE P l = E at c2
  generalize hIe : choI P l = I at c2
  refine DCall.of Try.func6 sf6 hb6 (Nat.le_of_ble_eq_true rfl) (okRes_nil fun _ => rfl) ?_; simp only [s6, idxs, Nat.reduceAdd]
  repeat' (first
    | (with_reducible first | refine DW.seq ?_ | refine DW.block ?_ | refine DW.skip ?_ | refine DW.exit ?_ | refine DW.ret ?_ | refine DW.reg ?_)
    | (refine DW.dreg rfl (WF.of ?_) ?_; first | rfl | skip)
    | (simp (disch := omega) only [go_sem, simprocAttr, bm_box, bm_row, bk_box, bk_row, d1, d2])
    | (exact retS_of rfl rfl rfl)
    | (refine DW.cond_tt rfl ?_)
    | (refine DW.cond_ff rfl ?_)
    | (refine DW.cond rfl ?_ ?_ <;> intro hc <;> (try simp only [go_sem] at hc))
    | (refine g_split ?_ ?_ <;> intro hc <;> (try simp only [hc]) <;> (try simp only [go_sem] at hc)))
  refine DW.loop (ι := { i : Nat // i ≤ P.length }) (fun i => ⟨184, [(5, dI i.1), (0, dPs false P), (1, .c (.sl false 3 (rows eO l)))], []⟩) (fun i => P.length - i.1) ⟨0, Nat.zero_le _⟩ ?_ ?_
  · refine Ent.to ?_ ?_ <;> simp (disch := omega) only [wkT_cons, wkX_cons, wkT_nil, wkX_nil, get, Nat.reduceEqDiff, ↓reduceIte, ex_some, wk_self, wk_top, wk_nil, wkB_self, and_self, dI, i64_in, and_true, true_and, Int.natCast_add, Int.natCast_one, Int.ofNat_zero, Int.natCast_zero]
    all_goals first | exact ⟨.refl _, .refl _⟩ | exact .refl _
  rintro ⟨i, hi⟩
  dsimp only
  rcases at_or P i hi with ⟨v, hv, hlt, hd⟩ | ⟨he, hd⟩
  · have hwd := laWide false v l 50
    cases hW : wideB v l 50 with
    | true =>
      rw [hW] at hwd
      repeat' (first
    | (with_reducible first | refine DW.seq ?_ | refine DW.block ?_ | refine DW.skip ?_ | refine DW.exit ?_ | refine DW.ret ?_ | refine DW.reg ?_)
    | (refine DW.dreg rfl (WF.of ?_) ?_; first | rfl | skip)
    | (simp (disch := omega) only [go_sem, simprocAttr, bm_box, bm_row, bk_box, bk_row, hd, hv, d3, List.map_cons, List.map_nil])
    | (exact retS_of rfl rfl rfl)
    | (refine DW.cond_tt rfl ?_)
    | (refine call_c (hk) (by decide) ?_)
    | (refine call_c (hwd) (by decide) ?_)
    | (refine DW.cond_ff rfl ?_)
    | (refine DW.cond rfl ?_ ?_ <;> intro hc <;> (try simp only [go_sem] at hc))
    | (refine g_split ?_ ?_ <;> intro hc <;> (try simp only [hc]) <;> (try simp only [go_sem] at hc)))
    | false =>
      rw [hW] at hwd
      repeat' (first
    | (with_reducible first | refine DW.seq ?_ | refine DW.block ?_ | refine DW.skip ?_ | refine DW.exit ?_ | refine DW.ret ?_ | refine DW.reg ?_)
    | (refine DW.dreg rfl (WF.of ?_) ?_; first | rfl | skip)
    | (simp (disch := omega) only [go_sem, simprocAttr, bm_box, bm_row, bk_box, bk_row, hd, hv, d3, List.map_cons, List.map_nil])
    | (exact retS_of rfl rfl rfl)
    | (refine DW.cond_tt rfl ?_)
    | (refine call_c (hwd) (by decide) ?_)
    | (refine DW.cond_ff rfl ?_)
    | (refine DW.cond rfl ?_ ?_ <;> intro hc <;> (try simp only [go_sem] at hc))
    | (refine g_split ?_ ?_ <;> intro hc <;> (try simp only [hc]) <;> (try simp only [go_sem] at hc)))
      refine ⟨⟨i + 1, hlt⟩, ?_, Ent.to ?_ ?_⟩ <;> first | (show _ < _; (try simp only); omega) | (simp (disch := omega) only [wkT_cons, wkX_cons, wkT_nil, wkX_nil, get, Nat.reduceEqDiff, ↓reduceIte, ex_some, wk_self, wk_top, wk_nil, wkB_self, and_self, dI, i64_in, and_true, true_and, Int.natCast_add, Int.natCast_one, Int.ofNat_zero, Int.natCast_zero])
      all_goals first | exact ⟨.refl _, .refl _⟩ | exact .refl _
  repeat' (first
    | (with_reducible first | refine DW.seq ?_ | refine DW.block ?_ | refine DW.skip ?_ | refine DW.exit ?_ | refine DW.ret ?_ | refine DW.reg ?_)
    | (refine DW.dreg rfl (WF.of ?_) ?_; first | rfl | skip)
    | (simp (disch := omega) only [go_sem, simprocAttr, bm_box, bm_row, bk_box, bk_row, hd, d3, d4, d0])
    | (exact retS_of rfl rfl rfl)
    | (refine DW.cond_tt rfl ?_)
    | (refine call_c (c1) (by decide) ?_)
    | (refine call_c (c2) (by decide) ?_)
    | (refine call_c (i1) (by decide) ?_)
    | (refine DW.cond_ff rfl ?_)
    | (refine DW.cond rfl ?_ ?_ <;> intro hc <;> (try simp only [go_sem] at hc))
    | (refine g_split ?_ ?_ <;> intro hc <;> (try simp only [hc]) <;> (try simp only [go_sem] at hc)))
  clear hd he hi
  refine DW.loop (ι := { y : Nat × Int // y.1 ≤ P.length ∧ (y.2 = 0 ∧ papE l (P.drop y.1) = papE l P ∨ y.2 ≠ 0 ∧ y.2 = papE l P) }) (fun y => ⟨184, [(14, dI y.1.1), (13, dI 0), (12, dI 0), (11, dI (-1)), (10, dI y.1.2), (9, dI E), (8, dI I), (7, .own 48), (0, dPs false P), (1, .c (.sl false 3 (rows eO l)))], [(48, .row 4 (rowC (rows eP P)))]⟩) (fun y => P.length - y.1.1) ⟨(0, 0), Nat.zero_le _, .inl ⟨rfl, rfl⟩⟩ ?_ ?_
  · refine Ent.to ?_ ?_ <;> simp (disch := omega) only [wkT_cons, wkX_cons, wkT_nil, wkX_nil, get, Nat.reduceEqDiff, ↓reduceIte, ex_some, wk_self, wk_top, wk_nil, wkB_self, and_self, dI, i64_in, and_true, true_and, Int.natCast_add, Int.natCast_one, Int.ofNat_zero, Int.natCast_zero]
    all_goals first | exact ⟨.refl _, .refl _⟩ | exact .refl _
  clear i
  rintro ⟨⟨i, w⟩, hi, hw⟩
  dsimp only at hi hw ⊢
  by_cases hw0 : w = 0
  case neg =>
    have hpw : papE l P = w := by rcases hw with ⟨h, _⟩ | ⟨_, h⟩; exact absurd h hw0; exact h.symm
    have hE : choE P l = w := by unfold choE; rw [if_neg h4, if_neg h0, if_pos (by rw [hpw]; exact hw0), hpw]
    have hI : choI P l = 0 := by unfold choI; rw [if_pos (by rw [hE]; exact hw0)]
    rw [hE] at hEe
    rw [hI] at hIe
    subst hEe hIe
    have hwb : (w == 0) = false := by simpa using hw0
    have hwn : (w != 0) = true := by simpa using hw0
    have dp : decide ((0 : Int) < (P.length : Int)) = true := decide_eq_true (by omega)
    obtain ⟨b, hd⟩ : ∃ b, decide ((i : Int) < (P.length : Int)) = b := ⟨_, rfl⟩
    cases b with
    | true =>
      repeat' (first
    | (with_reducible first | refine DW.seq ?_ | refine DW.block ?_ | refine DW.skip ?_ | refine DW.exit ?_ | refine DW.ret ?_ | refine DW.reg ?_)
    | (refine DW.dreg rfl (WF.of ?_) ?_; first | rfl | skip)
    | (simp (disch := omega) only [go_sem, simprocAttr, bm_box, bm_row, bk_box, bk_row, hd, hwb])
    | (exact retS_of rfl rfl rfl)
    | (refine DW.cond_tt rfl ?_)
    | (refine DW.cond_ff rfl ?_)
    | (refine DW.cond rfl ?_ ?_ <;> intro hc <;> (try simp only [go_sem] at hc))
    | (refine g_split ?_ ?_ <;> intro hc <;> (try simp only [hc]) <;> (try simp only [go_sem] at hc)))
      refine DW.loop (ι := Unit) (fun _ => ⟨184, [(15, dI 0), (13, dI 0), (12, dI 0), (11, dI (-1)), (10, dI w), (9, dI w), (8, dI 0), (7, .own 48), (0, dPs false P), (1, .c (.sl false 3 (rows eO l)))], [(48, .row 4 (rowC (rows eP P)))]⟩) (fun _ => 0) () ?_ ?_
      · refine Ent.to ?_ ?_ <;> simp (disch := omega) only [wkT_cons, wkX_cons, wkT_nil, wkX_nil, get, Nat.reduceEqDiff, ↓reduceIte, ex_some, wk_self, wk_top, wk_nil, wkB_self, and_self, dI, i64_in, and_true, true_and, Int.natCast_add, Int.natCast_one, Int.ofNat_zero, Int.natCast_zero]
        all_goals first | exact ⟨.refl _, .refl _⟩ | exact .refl _
      rintro ⟨⟩
      repeat' (first
    | (with_reducible first | refine DW.seq ?_ | refine DW.block ?_ | refine DW.skip ?_ | refine DW.exit ?_ | refine DW.ret ?_ | refine DW.reg ?_)
    | (refine DW.dreg rfl (WF.of ?_) ?_; first | rfl | skip)
    | (simp (disch := omega) only [go_sem, simprocAttr, bm_box, bm_row, bk_box, bk_row, dp, hwb, hwn])
    | (exact retS_of rfl rfl rfl)
    | (refine DW.cond_tt rfl ?_)
    | (refine call_c (hk) (by decide) ?_)
    | (refine DW.cond_ff rfl ?_)
    | (refine DW.cond rfl ?_ ?_ <;> intro hc <;> (try simp only [go_sem] at hc))
    | (refine g_split ?_ ?_ <;> intro hc <;> (try simp only [hc]) <;> (try simp only [go_sem] at hc)))
    | false =>
      repeat' (first
    | (with_reducible first | refine DW.seq ?_ | refine DW.block ?_ | refine DW.skip ?_ | refine DW.exit ?_ | refine DW.ret ?_ | refine DW.reg ?_)
    | (refine DW.dreg rfl (WF.of ?_) ?_; first | rfl | skip)
    | (simp (disch := omega) only [go_sem, simprocAttr, bm_box, bm_row, bk_box, bk_row, hd, hwb])
    | (exact retS_of rfl rfl rfl)
    | (refine DW.cond_tt rfl ?_)
    | (refine DW.cond_ff rfl ?_)
    | (refine DW.cond rfl ?_ ?_ <;> intro hc <;> (try simp only [go_sem] at hc))
    | (refine g_split ?_ ?_ <;> intro hc <;> (try simp only [hc]) <;> (try simp only [go_sem] at hc)))
      refine DW.loop (ι := Unit) (fun _ => ⟨184, [(15, dI 0), (13, dI 0), (12, dI 0), (11, dI (-1)), (10, dI w), (9, dI w), (8, dI 0), (7, .own 48), (0, dPs false P), (1, .c (.sl false 3 (rows eO l)))], [(48, .row 4 (rowC (rows eP P)))]⟩) (fun _ => 0) () ?_ ?_
      · refine Ent.to ?_ ?_ <;> simp (disch := omega) only [wkT_cons, wkX_cons, wkT_nil, wkX_nil, get, Nat.reduceEqDiff, ↓reduceIte, ex_some, wk_self, wk_top, wk_nil, wkB_self, and_self, dI, i64_in, and_true, true_and, Int.natCast_add, Int.natCast_one, Int.ofNat_zero, Int.natCast_zero]
        all_goals first | exact ⟨.refl _, .refl _⟩ | exact .refl _
      rintro ⟨⟩
      repeat' (first
    | (with_reducible first | refine DW.seq ?_ | refine DW.block ?_ | refine DW.skip ?_ | refine DW.exit ?_ | refine DW.ret ?_ | refine DW.reg ?_)
    | (refine DW.dreg rfl (WF.of ?_) ?_; first | rfl | skip)
    | (simp (disch := omega) only [go_sem, simprocAttr, bm_box, bm_row, bk_box, bk_row, dp, hwb, hwn])
    | (exact retS_of rfl rfl rfl)
    | (refine DW.cond_tt rfl ?_)
    | (refine call_c (hk) (by decide) ?_)
    | (refine DW.cond_ff rfl ?_)
    | (refine DW.cond rfl ?_ ?_ <;> intro hc <;> (try simp only [go_sem] at hc))
    | (refine g_split ?_ ?_ <;> intro hc <;> (try simp only [hc]) <;> (try simp only [go_sem] at hc)))
  subst hw0
  have hpe : papE l (P.drop i) = papE l P := by rcases hw with ⟨_, h⟩ | ⟨h, _⟩; exact h; exact absurd rfl h
  rcases at_or P i hi with ⟨v, hv, hlt, hd⟩ | ⟨he, hd⟩
  · have c4 := reCheck false v l
    have hdr : P.drop i = v :: P.drop (i + 1) := by rw [List.drop_eq_getElem_cons hlt, (List.getElem_eq_iff hlt).2 hv]
    have hpe2 : papE l (v :: P.drop (i + 1)) = papE l P := by rw [← hdr]; exact hpe
    have hpd : papE l (v :: P.drop (i + 1)) = if openE v l ≠ 0 then openE v l else papE l (P.drop (i + 1)) := rfl
    rw [hpd] at hpe2
    by_cases hz : openE v l = 0
    · rw [if_neg (by simpa using hz)] at hpe2
      rw [hz] at c4
      repeat' (first
    | (with_reducible first | refine DW.seq ?_ | refine DW.block ?_ | refine DW.skip ?_ | refine DW.exit ?_ | refine DW.ret ?_ | refine DW.reg ?_)
    | (refine DW.dreg rfl (WF.of ?_) ?_; first | rfl | skip)
    | (simp (disch := omega) only [go_sem, simprocAttr, bm_box, bm_row, bk_box, bk_row, hd, hv, hlt, List.map_cons, List.map_nil])
    | (exact retS_of rfl rfl rfl)
    | (refine DW.cond_tt rfl ?_)
    | (refine call_c (c4) (by decide) ?_)
    | (refine DW.cond_ff rfl ?_)
    | (refine DW.cond rfl ?_ ?_ <;> intro hc <;> (try simp only [go_sem] at hc))
    | (refine g_split ?_ ?_ <;> intro hc <;> (try simp only [hc]) <;> (try simp only [go_sem] at hc)))
      refine ⟨⟨(i + 1, 0), hlt, .inl ⟨rfl, hpe2⟩⟩, ?_, Ent.to ?_ ?_⟩ <;> first | (show _ < _; (try simp only); omega) | (simp (disch := omega) only [wkT_cons, wkX_cons, wkT_nil, wkX_nil, get, Nat.reduceEqDiff, ↓reduceIte, ex_some, wk_self, wk_top, wk_nil, wkB_self, and_self, dI, i64_in, and_true, true_and, Int.natCast_add, Int.natCast_one, Int.ofNat_zero, Int.natCast_zero])
      all_goals first | exact ⟨.refl _, .refl _⟩ | exact .refl _
    · rw [if_pos hz] at hpe2
      generalize openE v l = w at *
      repeat' (first
    | (with_reducible first | refine DW.seq ?_ | refine DW.block ?_ | refine DW.skip ?_ | refine DW.exit ?_ | refine DW.ret ?_ | refine DW.reg ?_)
    | (refine DW.dreg rfl (WF.of ?_) ?_; first | rfl | skip)
    | (simp (disch := omega) only [go_sem, simprocAttr, bm_box, bm_row, bk_box, bk_row, hd, hv, hlt, List.map_cons, List.map_nil])
    | (exact retS_of rfl rfl rfl)
    | (refine DW.cond_tt rfl ?_)
    | (refine call_c (c4) (by decide) ?_)
    | (refine DW.cond_ff rfl ?_)
    | (refine DW.cond rfl ?_ ?_ <;> intro hc <;> (try simp only [go_sem] at hc))
    | (refine g_split ?_ ?_ <;> intro hc <;> (try simp only [hc]) <;> (try simp only [go_sem] at hc)))
      refine ⟨⟨(i + 1, w), hlt, .inr ⟨hz, hpe2⟩⟩, ?_, Ent.to ?_ ?_⟩ <;> first | (show _ < _; (try simp only); omega) | (simp (disch := omega) only [wkT_cons, wkX_cons, wkT_nil, wkX_nil, get, Nat.reduceEqDiff, ↓reduceIte, ex_some, wk_self, wk_top, wk_nil, wkB_self, and_self, dI, i64_in, and_true, true_and, Int.natCast_add, Int.natCast_one, Int.ofNat_zero, Int.natCast_zero])
      all_goals first | exact ⟨.refl _, .refl _⟩ | exact .refl _
  have hpz : papE l P = 0 := by
    rw [List.drop_eq_nil_of_le (by omega)] at hpe
    rw [← hpe]; rfl
  have hop := papE_zero hpz
  obtain ⟨q, hq⟩ : ∃ q, q ∈ P := by
    cases P with
    | nil => simp at h0
    | cons q _ => exact ⟨q, by simp⟩
  obtain ⟨hl4, ho⟩ := (openE_ok (hop q hq)).2
  have hpo : ∀ p ∈ P, p.ok := fun p hp => (openE_ok (hop p hp)).1
  obtain ⟨hE, hI⟩ := cho_bst h4 h0 hpz
  rw [hEe] at hE
  rw [hIe] at hI
  repeat' (first
    | (with_reducible first | refine DW.seq ?_ | refine DW.block ?_ | refine DW.skip ?_ | refine DW.exit ?_ | refine DW.ret ?_ | refine DW.reg ?_)
    | (refine DW.dreg rfl (WF.of ?_) ?_; first | rfl | skip)
    | (simp (disch := omega) only [go_sem, simprocAttr, bm_box, bm_row, bk_box, bk_row, hd])
    | (exact retS_of rfl rfl rfl)
    | (refine DW.cond_tt rfl ?_)
    | (refine DW.cond_ff rfl ?_)
    | (refine DW.cond rfl ?_ ?_ <;> intro hc <;> (try simp only [go_sem] at hc))
    | (refine g_split ?_ ?_ <;> intro hc <;> (try simp only [hc]) <;> (try simp only [go_sem] at hc)))
  clear hd he hpe hw hi
  refine DW.loop (ι := { y : Nat × Int × Int × Int // y.1 ≤ P.length ∧ y.2 = bO (bstO l P y.1) }) (fun y => ⟨184, [(15, dI y.1.1), (13, dI y.1.2.2.2), (12, dI y.1.2.2.1), (11, dI y.1.2.1), (10, dI 0), (9, dI E), (8, dI I), (7, .own 48), (0, dPs false P), (1, .c (.sl false 3 (rows eO l)))], [(48, .row 4 (rowC (rows eP P)))]⟩) (fun y => P.length - y.1.1) ⟨(0, -1, 0, 0), Nat.zero_le _, rfl⟩ ?_ ?_
  · refine Ent.to ?_ ?_ <;> simp (disch := omega) only [wkT_cons, wkX_cons, wkT_nil, wkX_nil, get, Nat.reduceEqDiff, ↓reduceIte, ex_some, wk_self, wk_top, wk_nil, wkB_self, and_self, dI, i64_in, and_true, true_and, Int.natCast_add, Int.natCast_one, Int.ofNat_zero, Int.natCast_zero]
    all_goals first | exact ⟨.refl _, .refl _⟩ | exact .refl _
  clear i
  rintro ⟨⟨i, a, b, c⟩, hi, hB⟩
  dsimp only at hi hB ⊢
  rcases at_or P i hi with ⟨v, hv, hlt, hd⟩ | ⟨he, hd⟩
  · have hp := hpo v (List.mem_of_getElem? hv)
    have c5 := reFind false v hp l hl4 ho
    have hfp := plan_find hp ho
    cases hF : findF v l with
    | none =>
      rw [hF] at hfp c5
      have hpn : planF v l = none := hfp
      have c6 := DCall.weakA (l := [papD v, .c (.sl false 3 (rows eO l)), .c (.v (.slice none 0 0))]) (reGot false false v hp l hl4 ho [] (by simp) (by simp)) (.cons (.inl rfl) (.cons (.inl rfl) (.cons (.inr ⟨_, _, rfl, rfl, .nil _ _⟩) .nil)))
      simp only [bstD, sluD, sluC, Option.isSome_none] at c5
      have hb := bstO_none hv hpn
      repeat' (first
    | (with_reducible first | refine DW.seq ?_ | refine DW.block ?_ | refine DW.skip ?_ | refine DW.exit ?_ | refine DW.ret ?_ | refine DW.reg ?_)
    | (refine DW.dreg rfl (WF.of ?_) ?_; first | rfl | skip)
    | (simp (disch := omega) only [go_sem, simprocAttr, bm_box, bm_row, bk_box, bk_row, hd, hv, List.map_cons, List.map_nil])
    | (exact retS_of rfl rfl rfl)
    | (refine DW.cond_tt rfl ?_)
    | (refine call_c (c5) (by decide) ?_)
    | (refine call_c (c6) (by decide) ?_)
    | (refine DW.cond_ff rfl ?_)
    | (refine DW.cond rfl ?_ ?_ <;> intro hc <;> (try simp only [go_sem] at hc))
    | (refine g_split ?_ ?_ <;> intro hc <;> (try simp only [hc]) <;> (try simp only [go_sem] at hc)))
      refine ⟨⟨(i + 1, a, b, c), hlt, by rw [hb]; exact hB⟩, ?_, Ent.to ?_ ?_⟩ <;> first | (show _ < _; (try simp only); omega) | (simp (disch := omega) only [wkT_cons, wkX_cons, wkT_nil, wkX_nil, get, Nat.reduceEqDiff, ↓reduceIte, ex_some, wk_self, wk_top, wk_nil, wkB_self, and_self, dI, i64_in, and_true, true_and, Int.natCast_add, Int.natCast_one, Int.ofNat_zero, Int.natCast_zero])
      all_goals first | exact ⟨.refl _, .refl _⟩ | exact .refl _
    | some x =>
      rw [hF] at hfp c5
      have hpx : planF v l = some (x, wasteF v l x) := hfp
      have hok := planF_ok hp ho hpx
      have hws := plan_wsb hok.1
      have hxl := plan_len hok.1
      have c6 := reGot false false v hp l hl4 ho x (by omega) (fun s hs => ⟨(hws s hs).1.ws4 hp, by have := hws s hs; omega⟩)
      simp only [bstD, sluD, sluC, Option.isSome_some] at c5
      have hb := bstO_some hv hpx
      generalize wasteF v l x = w at *
      obtain ⟨o, hO⟩ : ∃ o, bstO l P i = o := ⟨_, rfl⟩
      have hB2 := hB
      rw [hO] at hB2
      cases o with
      | none =>
        rw [hO] at hb
        cases hB2
        repeat' (first
    | (with_reducible first | refine DW.seq ?_ | refine DW.block ?_ | refine DW.skip ?_ | refine DW.exit ?_ | refine DW.ret ?_ | refine DW.reg ?_)
    | (refine DW.dreg rfl (WF.of ?_) ?_; first | rfl | skip)
    | (simp (disch := omega) only [go_sem, simprocAttr, bm_box, bm_row, bk_box, bk_row, hd, hv, List.map_cons, List.map_nil])
    | (exact retS_of rfl rfl rfl)
    | (refine DW.cond_tt rfl ?_)
    | (refine call_c (c5) (by decide) ?_)
    | (refine call_c (c6) (by decide) ?_)
    | (refine DW.cond_ff rfl ?_)
    | (refine DW.cond rfl ?_ ?_ <;> intro hc <;> (try simp only [go_sem] at hc))
    | (refine g_split ?_ ?_ <;> intro hc <;> (try simp only [hc]) <;> (try simp only [go_sem] at hc)))
        refine ⟨⟨(i + 1, i, x.length, w), hlt, by rw [hb]; rfl⟩, ?_, Ent.to ?_ ?_⟩ <;> first | (show _ < _; (try simp only); omega) | (simp (disch := omega) only [wkT_cons, wkX_cons, wkT_nil, wkX_nil, get, Nat.reduceEqDiff, ↓reduceIte, ex_some, wk_self, wk_top, wk_nil, wkB_self, and_self, dI, i64_in, and_true, true_and, Int.natCast_add, Int.natCast_one, Int.ofNat_zero, Int.natCast_zero])
        all_goals first | exact ⟨.refl _, .refl _⟩ | exact .refl _
      | some u =>
        have hpu := bstO_paper (Nat.le_of_lt hlt) hO
        rw [hO] at hb
        obtain ⟨u1, u2, u3⟩ := u
        cases hB2
        dsimp only at hpu hb
        have da : decide (u1 < 0) = false := decide_eq_false (by omega)
        by_cases g1 : (x.length : Int) < u2
        · have e1 : decide ((x.length : Int) < u2) = true := decide_eq_true g1
          rw [if_pos (.inl g1)] at hb
          repeat' (first
    | (with_reducible first | refine DW.seq ?_ | refine DW.block ?_ | refine DW.skip ?_ | refine DW.exit ?_ | refine DW.ret ?_ | refine DW.reg ?_)
    | (refine DW.dreg rfl (WF.of ?_) ?_; first | rfl | skip)
    | (simp (disch := omega) only [go_sem, simprocAttr, bm_box, bm_row, bk_box, bk_row, hd, hv, da, e1, List.map_cons, List.map_nil])
    | (exact retS_of rfl rfl rfl)
    | (refine DW.cond_tt rfl ?_)
    | (refine call_c (c5) (by decide) ?_)
    | (refine call_c (c6) (by decide) ?_)
    | (refine DW.cond_ff rfl ?_)
    | (refine DW.cond rfl ?_ ?_ <;> intro hc <;> (try simp only [go_sem] at hc))
    | (refine g_split ?_ ?_ <;> intro hc <;> (try simp only [hc]) <;> (try simp only [go_sem] at hc)))
          refine ⟨⟨(i + 1, i, x.length, w), hlt, by rw [hb]; rfl⟩, ?_, Ent.to ?_ ?_⟩ <;> first | (show _ < _; (try simp only); omega) | (simp (disch := omega) only [wkT_cons, wkX_cons, wkT_nil, wkX_nil, get, Nat.reduceEqDiff, ↓reduceIte, ex_some, wk_self, wk_top, wk_nil, wkB_self, and_self, dI, i64_in, and_true, true_and, Int.natCast_add, Int.natCast_one, Int.ofNat_zero, Int.natCast_zero])
          all_goals first | exact ⟨.refl _, .refl _⟩ | exact .refl _
        have e1 : decide ((x.length : Int) < u2) = false := decide_eq_false g1
        by_cases g2 : (x.length : Int) = u2
        · have e2 : ((x.length : Int) == u2) = true := by simpa using g2
          by_cases g3 : w < u3
          · have e3 : decide (w < u3) = true := decide_eq_true g3
            rw [if_pos (.inr ⟨g2, g3⟩)] at hb
            repeat' (first
    | (with_reducible first | refine DW.seq ?_ | refine DW.block ?_ | refine DW.skip ?_ | refine DW.exit ?_ | refine DW.ret ?_ | refine DW.reg ?_)
    | (refine DW.dreg rfl (WF.of ?_) ?_; first | rfl | skip)
    | (simp (disch := omega) only [go_sem, simprocAttr, bm_box, bm_row, bk_box, bk_row, hd, hv, da, e1, e2, e3, List.map_cons, List.map_nil])
    | (exact retS_of rfl rfl rfl)
    | (refine DW.cond_tt rfl ?_)
    | (refine call_c (c5) (by decide) ?_)
    | (refine call_c (c6) (by decide) ?_)
    | (refine DW.cond_ff rfl ?_)
    | (refine DW.cond rfl ?_ ?_ <;> intro hc <;> (try simp only [go_sem] at hc))
    | (refine g_split ?_ ?_ <;> intro hc <;> (try simp only [hc]) <;> (try simp only [go_sem] at hc)))
            refine ⟨⟨(i + 1, i, x.length, w), hlt, by rw [hb]; rfl⟩, ?_, Ent.to ?_ ?_⟩ <;> first | (show _ < _; (try simp only); omega) | (simp (disch := omega) only [wkT_cons, wkX_cons, wkT_nil, wkX_nil, get, Nat.reduceEqDiff, ↓reduceIte, ex_some, wk_self, wk_top, wk_nil, wkB_self, and_self, dI, i64_in, and_true, true_and, Int.natCast_add, Int.natCast_one, Int.ofNat_zero, Int.natCast_zero])
            all_goals first | exact ⟨.refl _, .refl _⟩ | exact .refl _
          · have e3 : decide (w < u3) = false := decide_eq_false g3
            rw [if_neg (by omega)] at hb
            repeat' (first
    | (with_reducible first | refine DW.seq ?_ | refine DW.block ?_ | refine DW.skip ?_ | refine DW.exit ?_ | refine DW.ret ?_ | refine DW.reg ?_)
    | (refine DW.dreg rfl (WF.of ?_) ?_; first | rfl | skip)
    | (simp (disch := omega) only [go_sem, simprocAttr, bm_box, bm_row, bk_box, bk_row, hd, hv, da, e1, e2, e3, List.map_cons, List.map_nil])
    | (exact retS_of rfl rfl rfl)
    | (refine DW.cond_tt rfl ?_)
    | (refine call_c (c5) (by decide) ?_)
    | (refine call_c (c6) (by decide) ?_)
    | (refine DW.cond_ff rfl ?_)
    | (refine DW.cond rfl ?_ ?_ <;> intro hc <;> (try simp only [go_sem] at hc))
    | (refine g_split ?_ ?_ <;> intro hc <;> (try simp only [hc]) <;> (try simp only [go_sem] at hc)))
            refine ⟨⟨(i + 1, u1, u2, u3), hlt, by rw [hb]; rfl⟩, ?_, Ent.to ?_ ?_⟩ <;> first | (show _ < _; (try simp only); omega) | (simp (disch := omega) only [wkT_cons, wkX_cons, wkT_nil, wkX_nil, get, Nat.reduceEqDiff, ↓reduceIte, ex_some, wk_self, wk_top, wk_nil, wkB_self, and_self, dI, i64_in, and_true, true_and, Int.natCast_add, Int.natCast_one, Int.ofNat_zero, Int.natCast_zero])
            all_goals first | exact ⟨.refl _, .refl _⟩ | exact .refl _
        · have e2 : ((x.length : Int) == u2) = false := by simpa using g2
          rw [if_neg (by omega)] at hb
          repeat' (first
    | (with_reducible first | refine DW.seq ?_ | refine DW.block ?_ | refine DW.skip ?_ | refine DW.exit ?_ | refine DW.ret ?_ | refine DW.reg ?_)
    | (refine DW.dreg rfl (WF.of ?_) ?_; first | rfl | skip)
    | (simp (disch := omega) only [go_sem, simprocAttr, bm_box, bm_row, bk_box, bk_row, hd, hv, da, e1, e2, List.map_cons, List.map_nil])
    | (exact retS_of rfl rfl rfl)
    | (refine DW.cond_tt rfl ?_)
    | (refine call_c (c5) (by decide) ?_)
    | (refine call_c (c6) (by decide) ?_)
    | (refine DW.cond_ff rfl ?_)
    | (refine DW.cond rfl ?_ ?_ <;> intro hc <;> (try simp only [go_sem] at hc))
    | (refine g_split ?_ ?_ <;> intro hc <;> (try simp only [hc]) <;> (try simp only [go_sem] at hc)))
          refine ⟨⟨(i + 1, u1, u2, u3), hlt, by rw [hb]; rfl⟩, ?_, Ent.to ?_ ?_⟩ <;> first | (show _ < _; (try simp only); omega) | (simp (disch := omega) only [wkT_cons, wkX_cons, wkT_nil, wkX_nil, get, Nat.reduceEqDiff, ↓reduceIte, ex_some, wk_self, wk_top, wk_nil, wkB_self, and_self, dI, i64_in, and_true, true_and, Int.natCast_add, Int.natCast_one, Int.ofNat_zero, Int.natCast_zero])
          all_goals first | exact ⟨.refl _, .refl _⟩ | exact .refl _
  · subst he
    obtain ⟨o, hO⟩ : ∃ o, bstO l P P.length = o := ⟨_, rfl⟩
    have hB2 := hB
    rw [hO] at hB2 hE hI
    cases o with
    | none =>
      cases hB2
      rw [if_neg (by decide)] at hE
      dsimp only at hI
      subst hE hI
      repeat' (first
    | (with_reducible first | refine DW.seq ?_ | refine DW.block ?_ | refine DW.skip ?_ | refine DW.exit ?_ | refine DW.ret ?_ | refine DW.reg ?_)
    | (refine DW.dreg rfl (WF.of ?_) ?_; first | rfl | skip)
    | (simp (disch := omega) only [go_sem, simprocAttr, bm_box, bm_row, bk_box, bk_row, hd])
    | (exact retS_of rfl rfl rfl)
    | (refine DW.cond_tt rfl ?_)
    | (refine call_c (hk) (by decide) ?_)
    | (refine DW.cond_ff rfl ?_)
    | (refine DW.cond rfl ?_ ?_ <;> intro hc <;> (try simp only [go_sem] at hc))
    | (refine g_split ?_ ?_ <;> intro hc <;> (try simp only [hc]) <;> (try simp only [go_sem] at hc)))
    | some u =>
      have hpu := bstO_paper (Nat.le_refl _) hO
      cases hB2
      rw [if_pos (by rfl)] at hE
      dsimp only at hI
      subst hE hI
      have da : decide (u.paper < 0) = false := decide_eq_false (by omega)
      repeat' (first
    | (with_reducible first | refine DW.seq ?_ | refine DW.block ?_ | refine DW.skip ?_ | refine DW.exit ?_ | refine DW.ret ?_ | refine DW.reg ?_)
    | (refine DW.dreg rfl (WF.of ?_) ?_; first | rfl | skip)
    | (simp (disch := omega) only [go_sem, simprocAttr, bm_box, bm_row, bk_box, bk_row, hd, da])
    | (exact retS_of rfl rfl rfl)
    | (refine DW.cond_tt rfl ?_)
    | (refine call_c (hk) (by decide) ?_)
    | (refine DW.cond_ff rfl ?_)
    | (refine DW.cond rfl ?_ ?_ <;> intro hc <;> (try simp only [go_sem] at hc))
    | (refine g_split ?_ ?_ <;> intro hc <;> (try simp only [hc]) <;> (try simp only [go_sem] at hc)))
end Go.Dw.Seat
end
section
set_option linter.unusedSimpArgs false
set_option maxRecDepth 100000
namespace Go.Dw.Seat
open Go Go.Dw Go.Proofs Go.ChangeShapes Go.WideShapes Go.ChangeAt Go.RowKit
theorem tOwn : ownKnob Try.prog.godebug = none := by kernel_rfl
theorem tLaid : laidOutB Try.prog = true := by kernel_rfl
theorem u3 : Try.prog.underlying 3 = some (.int .i64) := by kernel_rfl
theorem u4 : Try.prog.underlying 4 = some .bool := by kernel_rfl
theorem u32 : structIs Try.prog 32 [(3, 0), (3, 1)] = true := by kernel_rfl
theorem u34 : structIs Try.prog 34 [(3, 0), (32, 1), (3, 3)] = true := by kernel_rfl
theorem u35 : Try.prog.underlying 35 = some (.slice 85) := by kernel_rfl
theorem u60 : Try.prog.underlying 60 = some (.slice 34) := by kernel_rfl
theorem u85 : structIs Try.prog 85 [(3, 0), (32, 1)] = true := by kernel_rfl
theorem cl3 : Try.prog.cellsOf 3 = 1 := by kernel_rfl
theorem cl32 : Try.prog.cellsOf 32 = 2 := by kernel_rfl
theorem cl34 : Try.prog.cellsOf 34 = 4 := by kernel_rfl
theorem cl85 : Try.prog.cellsOf 85 = 3 := by kernel_rfl
def e1 (n : Nat) : List C := [.v (.int .u8 n)]
section
variable {H : Type} {enc : TypeId × Value → H} {w : World} {base : Nat} {spare : Nat → Bool} {held : Bool} {fuel : Nat} {cs : List Value} {x : DataW H × List MemPlace}
theorem rd_Span (h : DataW.trod enc Try.prog w base spare held fuel 32 cs = some x) : ∃ a b : Int, cs = [.int .i64 a, .int .i64 b] := by
  obtain ⟨hl, m, hf⟩ := rd_struct u32 h
  rw [cl32] at hl
  obtain ⟨y0, h0⟩ := hf 0 3 0 rfl
  obtain ⟨y1, h1⟩ := hf 1 3 1 rfl
  rw [cl3] at h0 h1
  match cs, hl with
  | [a, b], _ =>
    obtain ⟨n0, e0, _⟩ := rd_int u3 h0
    obtain ⟨n1, e1, _⟩ := rd_int u3 h1
    simp at e0 e1
    subst e0; subst e1
    exact ⟨n0, n1, rfl⟩
theorem rd_Pap (h : DataW.trod enc Try.prog w base spare held fuel 34 cs = some x) : ∃ p : TPap, RepVs w A0 (eP p) cs := by
  obtain ⟨hl, m, hf⟩ := rd_struct u34 h
  rw [cl34] at hl
  obtain ⟨y0, h0⟩ := hf 0 3 0 rfl
  obtain ⟨y1, h1⟩ := hf 1 32 1 rfl
  obtain ⟨y2, h2⟩ := hf 2 3 3 rfl
  rw [cl3] at h0 h2
  rw [cl32] at h1
  match cs, hl with
  | [a, b, c, d], _ =>
    obtain ⟨n0, e0, _⟩ := rd_int u3 h0
    obtain ⟨n1, n2, e1⟩ := rd_Span h1
    obtain ⟨n3, e3, _⟩ := rd_int u3 h2
    simp at e0 e1 e3
    obtain ⟨rfl, rfl⟩ := e1
    subst e0; subst e3
    exact ⟨⟨n0, n1, n2, n3⟩, _, _, rfl, ⟨rfl, rfl⟩, _, _, rfl, ⟨rfl, rfl⟩, _, _, rfl, ⟨rfl, rfl⟩, _, _, rfl, ⟨rfl, rfl⟩, rfl⟩
theorem rd_Ord (h : DataW.trod enc Try.prog w base spare held fuel 85 cs = some x) : ∃ o : TOrd, RepVs w A0 (eO o) cs := by
  obtain ⟨hl, m, hf⟩ := rd_struct u85 h
  rw [cl85] at hl
  obtain ⟨y0, h0⟩ := hf 0 3 0 rfl
  obtain ⟨y1, h1⟩ := hf 1 32 1 rfl
  rw [cl3] at h0
  rw [cl32] at h1
  match cs, hl with
  | [a, b, c], _ =>
    obtain ⟨n0, e0, _⟩ := rd_int u3 h0
    obtain ⟨n1, n2, e1⟩ := rd_Span h1
    simp at e0 e1
    obtain ⟨rfl, rfl⟩ := e1
    subst e0
    exact ⟨⟨n0, n1, n2⟩, _, _, rfl, ⟨rfl, rfl⟩, _, _, rfl, ⟨rfl, rfl⟩, _, _, rfl, ⟨rfl, rfl⟩, rfl⟩
theorem rd_Ords (h : DataW.trod enc Try.prog w base spare held fuel 35 cs = some x) : ∃ (l : List TOrd) (v : Value), cs = [v] ∧ RepC w A0 (.sl false 3 (rows eO l)) v ∧ l.length ≤ maxLen := by
  obtain ⟨l, v, e', hr, hm, _⟩ := rd_slice (f := eO) u35 cl85 (by decide) (fun _ => rfl) (fun m cs x h => rd_Ord h) h
  exact ⟨l, v, e', hr, hm⟩
theorem rd_Paps (h : DataW.trod enc Try.prog w base spare held fuel 60 cs = some x) : ∃ (l : List TPap) (v : Value), cs = [v] ∧ RepC w A0 (.sl false 4 (rows eP l)) v ∧ l.length ≤ maxLen := by
  obtain ⟨l, v, e', hr, hm, _⟩ := rd_slice (f := eP) u60 cl34 (by decide) (fun _ => rfl) (fun m cs x h => rd_Pap h) h
  exact ⟨l, v, e', hr, hm⟩
def stpsOk (l : List TStp) : Prop := ∀ s ∈ l, s.ws.length ≤ maxLen
structure TBrk where
  plan : List TStp
  at' : Int
  done : Int
def TBrk.ok (x : TBrk) : Prop := x.plan.length ≤ maxLen ∧ stpsOk x.plan
end
end Go.Dw.Seat
end
section
set_option linter.unusedSimpArgs false
set_option maxRecDepth 100000
namespace Go.Dw.Seat
open Go Go.Dw Go.Proofs Go.ChangeShapes Go.WideShapes Go.ChangeAt Go.RowKit
set_option maxHeartbeats 800000 in
theorem trimChoosesLifted (os : Os) (started : os.Started) (H : Type) (enc : TypeId × Value → H) :
    ReturnsInHanded {} Try.checked os 6 .any (Ytkhicfkfdmldkaa.Rows.trimChoosesSpec.pre6 enc Try.prog Try.f6 Ytkhicfkfdmldkaa.Rows.trimChoosesRow.domain false) (Ytkhicfkfdmldkaa.Rows.trimChoosesSpec.post enc Try.prog Try.f6 false true false false) := by
  refine returnsInHanded_of_change (C := Try.checked) tOwn started (by kernel_rfl) Try.func6
    (ChangeSpec.witness6 (enc := enc) (C := Try.checked) false ⟨#[], #[.slice none 0 0, .slice none 0 0], []⟩ 8 (by kernel_rfl) (by kernel_rfl) (by kernel_rfl) (by kernel_rfl)) ?_
  intro W base args ds gs before hval0 hW _ _
  have hval : ∀ (j : Nat) t v, Try.f6.params[j]? = some t → args[j]? = some v → Value.okWide Try.prog W .any base t v := hval0
  have hW' : DataW.Whole enc Try.prog Try.f6.params.toList [] false W args.toList ds gs before := hW
  obtain ⟨p, q, hA, hV, rfl, hfz, hnd⟩ := hW
  have hA : DataW.TrodAll enc Try.prog W 0 (fun _ => true) true [60, 35] args.toList ds p := hA
  obtain ⟨rfl, rfl⟩ := trodVars_none hV
  obtain ⟨v0, vs0, d0, ds0, p0, q0, hargs, rfl, rfl, h0, r0⟩ := trodAll_cons hA
  obtain ⟨v1, vs1, d1, ds1, p1, q1, rfl, rfl, rfl, h1, r1⟩ := trodAll_cons r0
  obtain ⟨rfl, rfl, rfl⟩ := trodAll_nil r1
  obtain rfl : args = #[v0, v1] := by cases args; simp_all
  obtain ⟨a0, l0, k0, rfl⟩ := okWide_slice u60 (hval 0 60 v0 rfl rfl)
  obtain ⟨a1, l1, k1, rfl⟩ := okWide_slice u35 (hval 1 35 v1 rfl rfl)
  obtain ⟨fu0, h0⟩ := h0
  obtain ⟨fu1, h1⟩ := h1
  obtain ⟨s0, sv0, e0, hs0, hl0⟩ := rd_Paps h0
  have e0 : sv0 = Value.slice a0 l0 k0 := by simpa [Value.cells] using e0.symm
  subst e0
  obtain ⟨s1, sv1, e1, hs1, hl1⟩ := rd_Ords h1
  have e1 : sv1 = Value.slice a1 l1 k1 := by simpa [Value.cells] using e1.symm
  subst e1
  refine ((laChooses s0 hl0 s1 hl1).calls (W := W) (vs := [.slice a0 l0 k0, .slice a1 l1 k1]) (laid0 W) (fun G => ?_)).mono ?_
  · exact ⟨_, _, rfl, hs0, _, _, rfl, hs1, rfl⟩
  · rintro e W' ⟨v, rfl, ⟨G', A', hr⟩, hb⟩
    obtain ⟨rfl, _⟩ := hr
    exact ⟨_, rfl, post_true tLaid (by decide +kernel) hW' hb rfl rfl u4 rfl rfl rfl⟩
theorem trimChoosesHolds : Ytkhicfkfdmldkaa.Rows.trimChoosesRow.holds Ytkhicfkfdmldkaa.Try.pinned (OpenSpec.ofChange Ytkhicfkfdmldkaa.Rows.trimChoosesSpec) :=
  OpenClaim.holds_of_wide 6 Try.f6 rfl rfl rfl rfl rfl rfl rfl ⟨rfl, rfl, rfl, rfl, rfl⟩ rfl rfl rfl rfl rfl (by kernel_rfl) Try.func6 (by kernel_rfl)
    (of_decide_eq_true (by kernel_rfl)) (by unfold Func.isWrapper; first | (rw [if_pos (by decide +kernel)]; kernel_rfl) | (rw [if_neg (by decide +kernel)]; exact ⟨rfl, rfl⟩))
    (fun os started H enc _ => trimChoosesLifted os started H enc)
end Go.Dw.Seat
namespace Go.Proofs.Ytkhicfkfdmldkaa
theorem trimChoosesSaid : Rows.TrimChoosesSaid := Go.Dw.Seat.trimChoosesHolds
end Go.Proofs.Ytkhicfkfdmldkaa
end
