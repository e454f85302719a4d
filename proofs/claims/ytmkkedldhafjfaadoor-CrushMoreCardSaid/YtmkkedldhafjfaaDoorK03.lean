/- The law CrushMore returns true for every input, and changes nothing that was there before: the full statement CrushMoreCardSaid, without conditions. -/
import Derived.Test.YtmkkedldhafjfaaDoorK02
import Derived.Test.YtmkkedldhafjfaaDoorCards
import Derived.SevenTiedAt
set_option linter.unusedVariables false
set_option linter.unusedSimpArgs false
section
set_option linter.unusedSimpArgs false
set_option maxRecDepth 100000
namespace Go.Dw.Seat
open Go Go.Dw Go.Proofs Go.IntWalk
theorem three_of3 {u : List Nat} (h : u.length = 3) : ∃ a b c, u = [a, b, c] := by
  match u, h with
  | [a, b, c], _ => exact ⟨a, b, c, rfl⟩
def mx0 (a : Int) : Int := if 0 < a then a else 0
theorem mx0_b {a A : Int} (h : a ≤ A) (hA : 0 ≤ A) : 0 ≤ mx0 a ∧ mx0 a ≤ A := by unfold mx0; split <;> omega
theorem mx0_mono {a b : Int} (h : a ≤ b) : mx0 a ≤ mx0 b := by unfold mx0; split <;> split <;> omega
theorem mx0_le {a d : Int} (ha : 0 ≤ a) (hd : 0 ≤ d) : mx0 (a - d) ≤ a := by unfold mx0; split <;> omega
theorem better_ok {a b c d s w : Int} (h : Lod.ok ⟨a, b, c, d⟩) (hs : 0 ≤ s) (hw : 0 ≤ w) (hb : b + s ≤ 20000000) : Lod.ok ⟨a + s, b + s, mx0 (c - w), mx0 (d - w)⟩ ∧ LeB ⟨a, b, c, d⟩ ⟨a + s, b + s, mx0 (c - w), mx0 (d - w)⟩ := by
  have h1 := h.strong
  have h2 := h.weight
  simp only at h1 h2
  have m1 := mx0_b (a := c - w) (A := 100000) (by omega) (by decide)
  have m2 := mx0_b (a := d - w) (A := 100000) (by omega) (by decide)
  have m3 := mx0_mono (a := c - w) (b := d - w) (by omega)
  have m4 := mx0_le (a := d) (d := w) (by omega) hw
  exact ⟨⟨by simp only; omega, by simp only; omega⟩, ⟨by simp only; omega, m4⟩⟩
theorem bxOf_b {u : List Nat} (h : AllLt 256 u) : (bxOf u).sh ≤ 1100 := by
  have hb : uA u 0 < 256 := by
    unfold uA
    cases e : u[0]? with
    | none => simp
    | some v => exact h v (List.mem_of_getElem? e)
  have h1 : uA u 1 % 50 < 50 := Nat.mod_lt _ (by decide)
  unfold bxOf
  dsimp only; omega
theorem pileL_b {x : PileB} (h : x.ok) : ∀ i, ∀ b ∈ pileL x i, b.sh ≤ 1100
  | 0, b, hb => by cases hb
  | i + 1, b, hb => by
    simp only [pileL, List.mem_append, List.mem_singleton] at hb
    rcases hb with hb | rfl
    · exact pileL_b h i b hb
    · refine bxOf_b fun v hv => ?_
      cases e : x.boxes[i]? with
      | none => rw [e] at hv; cases hv
      | some u => rw [e] at hv; exact (h.boxes u (List.mem_of_getElem? e)).2 v hv
def rpL (b : Lod) : Nat → List Lod
  | 0 => []
  | i + 1 => rpL b i ++ [b]
theorem rpL_eq (b : Lod) : ∀ n, rpL b n = List.replicate n b
  | 0 => rfl
  | n + 1 => by rw [rpL, rpL_eq b n, List.replicate_succ']
theorem mx0_if (a : Int) : (if 0 < a then a else 0) = mx0 a := rfl
theorem rowC_setLd (l : List Lod) (i : Nat) (a b c d : Int) : List.set (rowC (rows eLd l)) i [.c (.v (.int .i64 a)), .c (.v (.int .i64 b)), .c (.v (.int .i64 c)), .c (.v (.int .i64 d))] = rowC (rows eLd (List.set l i ⟨a, b, c, d⟩)) := by simp [rowC, rows, List.map_set, eLd]
set_option maxHeartbeats 8000000 in
theorem laMore (x : PileB) (h : x.ok) (v : List Nat) (hv : v.length = 3 ∧ AllLt 256 v) (days : Nat) (hdays : days < 256) : DCall Tryd.prog 15 [.agg ((cPileB false x).map D.c), .agg ((eN .u8 v).map D.c), .c (.v (.int .u8 days))] [] (bD true) [] := by
  obtain ⟨v0, v1, v2, rfl⟩ := three_of3 hv.1
  have hv0 := hv.2 v0 (by simp)
  have hv1 := hv.2 v1 (by simp)
  have hv2 := hv.2 v2 (by simp)
  clear hv
  have hk := laKnown
  have hpile := laPile x h 8 (by decide)
  have hlo := pileL_ok h (minN x.boxes 8)
  have hlb := pileL_b h (minN x.boxes 8)
  have hll : (pileL x (minN x.boxes 8)).length ≤ 8 := by rw [pileL_len]; unfold minN; split <;> omega
  obtain ⟨r, hr, hrl⟩ : ∃ r : Nat, ((v2 : Int)).tmod ((days : Int) + 1) = (r : Int) ∧ r ≤ days := ⟨v2 % (days + 1), by rw [Int.tmod_eq_emod_of_nonneg (by omega)]; exact (Int.natCast_emod v2 (days + 1)).symm, by have := Nat.mod_lt v2 (show 0 < days + 1 by omega); omega⟩
  have hz : ((days : Int) + 1 = 0) = False := eq_false (by omega)
  have htb := stL_ok h (n := minN x.steps 6) (by unfold minN; split <;> omega) (days := (days : Int)) (by omega)
  have htb2 := stL_ok h (n := minN x.steps 6) (by unfold minN; split <;> omega) (days := (days : Int) - r) (by omega)
  have htl := htb.len
  simp only [List.map_cons, List.map_nil] at hpile
  generalize pileL x (minN x.boxes 8) = l at *
  generalize stL x (minN x.steps 6) = t at *
  have hsx := laStepsC false t (by omega)
  have hbx := laBoxesC false l (by omega)
  have hbr := laBoxes false l (by omega) 96
  have hmo := crMost l hlo (by omega) t days htb
  have hkk : lastI (days : Int) t 0 ≤ lastI ((days : Int) - r) t 0 := (kept_le htb.toTabF (by omega)).elim id (fun h => by omega)
  have hkb := kept_b htb.toTabF (days : Int)
  rcases Nat.eq_zero_or_pos l.length with hl0 | hl0
  · have hd0 : decide ((0 : Int) < (l.length : Int)) = false := by rw [decide_eq_false_iff_not]; omega
    have hone : Lod.ok ⟨300, 320, 100, 110⟩ := ⟨by decide, by decide⟩
    have hoh : (320 : Int) ≤ 1100 := by decide
    have hhi := crHigh (⟨(300 : Int), (320 : Int), (100 : Int), (110 : Int)⟩ : Lod) hone t days htb
    have hHb := highI_b hone htb
    have hstk := fun n hn => high_stack hone htb n hn
    obtain ⟨hok2, hle2⟩ := better_ok (s := (v0 : Int)) (w := (v1 : Int)) hone (by omega) (by omega) (by omega)
    have hhi2 := crHigh _ hok2 t ((days : Int) - r) htb2
    have hHm := high_mono hone hok2 hle2 (days := (days : Int)) (day := (days : Int) - r) htb (by omega) (by omega)
    have hrep : ∀ m, ∀ b ∈ rpL (⟨(300 : Int), (320 : Int), (100 : Int), (110 : Int)⟩ : Lod) m, b.ok := fun m b hb => by rw [rpL_eq] at hb; rw [(List.mem_replicate.1 hb).2]; exact hone
    have hrl : ∀ m, (rpL (⟨(300 : Int), (320 : Int), (100 : Int), (110 : Int)⟩ : Lod) m).length = m := fun m => by rw [rpL_eq, List.length_replicate]
    have hfa : ∀ m, m ≤ 50 → DCall Tryd.prog 36 [.c (.sl false 4 (rows eLd (rpL (⟨(300 : Int), (320 : Int), (100 : Int), (110 : Int)⟩ : Lod) m))), .c (.sl false 2 (rows eK t)), dI days] [] (.tup [dI (fallR (rpL (⟨(300 : Int), (320 : Int), (100 : Int), (110 : Int)⟩ : Lod) m) days t).1, dI (fallR (rpL (⟨(300 : Int), (320 : Int), (100 : Int), (110 : Int)⟩ : Lod) m) days t).2.1, dI (fallR (rpL (⟨(300 : Int), (320 : Int), (100 : Int), (110 : Int)⟩ : Lod) m) days t).2.2]) [] := fun m hm => crFall _ (hrep m) (by rw [hrl]; exact hm) t days htb
    have hLd := laLoad ⟨300, 320, 100, 110⟩
    simp only [eLd, List.map_cons, List.map_nil] at hhi hhi2 hLd
    generalize highI (⟨(300 : Int), (320 : Int), (100 : Int), (110 : Int)⟩ : Lod) t days = H at *
    generalize hH2 : highI _ t ((days : Int) - r) = H2 at *
    have h1 : decide (H < 1) = false := by rw [decide_eq_false_iff_not]; omega
    have h2 : decide (50 < H) = false := by rw [decide_eq_false_iff_not]; omega
    have h3 : decide (H ≤ H2) = true := by rw [decide_eq_true_eq]; omega
    obtain ⟨n, hn⟩ : ∃ n : Nat, (n : Int) = H := ⟨H.toNat, by omega⟩
    obtain ⟨hs7, hs0⟩ := hstk n hn
    rw [← rpL_eq] at hs7
    have hs0' : n < 50 → (fallR (rpL (⟨(300 : Int), (320 : Int), (100 : Int), (110 : Int)⟩ : Lod) (n + 1)) days t).2.2 = 0 := fun h => by rw [rpL_eq]; exact hs0 h
    clear hstk hs0 hHm
    refine DCall.of Tryd.func15 sf15 hb15 (Nat.le_of_ble_eq_true rfl) (okRes_nil fun _ => rfl) ?_; simp only [s15, idxs, Nat.reduceAdd]
    repeat' (first
    | (with_reducible refine DW.seq ?_)
    | (with_reducible refine DW.block ?_)
    | (with_reducible refine DW.skip ?_)
    | (with_reducible refine DW.exit ?_)
    | (with_reducible refine DW.ret ?_)
    | (with_reducible refine DW.reg ?_)
    | (refine DW.dreg rfl (WF.of (by first | rfl | simp (disch := omega) only [go_sem, Nat.reduceLT, Nat.reduceLeDiff, Nat.reduceAdd, Nat.reduceMul, Nat.reduceEqDiff, ↓reduceIte, reduceCtorEq, Nat.reduceBEq, Nat.reduceBNe, Nat.reducePow, Int.reduceLE, Int.reduceLT, Int.reduceNeg, Int.reduceToNat, Int.reduceEq, Int.reduceAdd, Int.reduceSub, Int.reduceMul, Int.reduceBEq, Int.reduceBNe, bm_box, bm_row, bk_box, bk_row, List.map_cons, List.map_nil, ud5, hd0, h1, h2])) ?_)
    | (simp (disch := omega) only [go_sem, Nat.reduceLT, Nat.reduceLeDiff, Nat.reduceAdd, Nat.reduceMul, Nat.reduceEqDiff, ↓reduceIte, reduceCtorEq, Nat.reduceBEq, Nat.reduceBNe, Nat.reducePow, Int.reduceLE, Int.reduceLT, Int.reduceNeg, Int.reduceToNat, Int.reduceEq, Int.reduceAdd, Int.reduceSub, Int.reduceMul, Int.reduceBEq, Int.reduceBNe, bm_box, bm_row, bk_box, bk_row, List.map_cons, List.map_nil, ud5, hd0, h1, h2])
    | (exact retS_of rfl rfl rfl)
    | (refine DW.cond_tt rfl ?_)
    | (refine call_c (hpile) (by decide) ?_)
    | (refine call_c (hLd) (by decide) ?_)
    | (refine call_c (hsx) (by decide) ?_)
    | (refine call_c (hhi) (by decide) ?_)
    | (refine DW.cond_ff rfl ?_)
    | (refine DW.cond rfl ?_ ?_ <;> intro hc <;> (try simp only [go_sem] at hc))
    | (refine g_split ?_ ?_ <;> intro hc <;> (try simp only [hc]) <;> (try simp only [go_sem] at hc)))
    refine DW.loop (ι := { k : Nat // k ≤ 2 }) (fun k => ⟨249, [(12, dI k.1), (10, dI H), (9, .box 9 0), (8, .c (.sl false 2 (rows eK t))), (7, .c (.sl false 4 (rows eLd l))), (4, .box 4 0), (2, .c (.v (.int .u8 days)))], [(9, .box [dI (300 : Int), dI (320 : Int), dI (100 : Int), dI (110 : Int)]), (4, .box [.c (.v (.int .u8 v0)), .c (.v (.int .u8 v1)), .c (.v (.int .u8 v2))])]⟩) (fun k => 2 - k.1) ⟨0, Nat.zero_le _⟩ ?_ ?_
    · refine Ent.to ?_ ?_ <;> simp (disch := omega) only [wkT_cons, wkX_cons, wkT_nil, wkX_nil, get, Nat.reduceEqDiff, ↓reduceIte, ex_some, wk_self, wk_top, wk_nil, wkB_self, and_self, dI, i64_in, and_true, true_and, Int.natCast_add, Int.natCast_one, Int.ofNat_zero, Int.natCast_zero, eN, List.map_cons, List.map_nil]
      all_goals first | exact .refl _ | exact ⟨.refl _, .refl _⟩
    rintro ⟨k, hk2⟩
    dsimp only
    rcases Nat.lt_or_ge k 2 with hlt | hge
    · have hd : decide ((k : Int) < 2) = true := by rw [decide_eq_true_eq]; omega
      repeat' (first
    | (with_reducible refine DW.seq ?_)
    | (with_reducible refine DW.block ?_)
    | (with_reducible refine DW.skip ?_)
    | (with_reducible refine DW.exit ?_)
    | (with_reducible refine DW.ret ?_)
    | (with_reducible refine DW.reg ?_)
    | (refine DW.dreg rfl (WF.of (by first | rfl | simp (disch := omega) only [go_sem, Nat.reduceLT, Nat.reduceLeDiff, Nat.reduceAdd, Nat.reduceMul, Nat.reduceEqDiff, ↓reduceIte, reduceCtorEq, Nat.reduceBEq, Nat.reduceBNe, Nat.reducePow, Int.reduceLE, Int.reduceLT, Int.reduceNeg, Int.reduceToNat, Int.reduceEq, Int.reduceAdd, Int.reduceSub, Int.reduceMul, Int.reduceBEq, Int.reduceBNe, bm_box, bm_row, bk_box, bk_row, hd])) ?_)
    | (simp (disch := omega) only [go_sem, Nat.reduceLT, Nat.reduceLeDiff, Nat.reduceAdd, Nat.reduceMul, Nat.reduceEqDiff, ↓reduceIte, reduceCtorEq, Nat.reduceBEq, Nat.reduceBNe, Nat.reducePow, Int.reduceLE, Int.reduceLT, Int.reduceNeg, Int.reduceToNat, Int.reduceEq, Int.reduceAdd, Int.reduceSub, Int.reduceMul, Int.reduceBEq, Int.reduceBNe, bm_box, bm_row, bk_box, bk_row, hd])
    | (exact retS_of rfl rfl rfl)
    | (refine DW.cond_tt rfl ?_)
    | (refine DW.cond_ff rfl ?_)
    | (refine DW.cond rfl ?_ ?_ <;> intro hc <;> (try simp only [go_sem] at hc))
    | (refine g_split ?_ ?_ <;> intro hc <;> (try simp only [hc]) <;> (try simp only [go_sem] at hc)))
      refine DW.loop (ι := { j : Nat // j ≤ n + k }) (fun j => ⟨249, [(14, dI j.1), (13, .own 65), (12, dI k), (10, dI H), (9, .box 9 0), (8, .c (.sl false 2 (rows eK t))), (7, .c (.sl false 4 (rows eLd l))), (4, .box 4 0), (2, .c (.v (.int .u8 days)))], [(65, .row 4 (rowC (rows eLd (rpL (⟨(300 : Int), (320 : Int), (100 : Int), (110 : Int)⟩ : Lod) j.1)))), (9, .box [dI (300 : Int), dI (320 : Int), dI (100 : Int), dI (110 : Int)]), (4, .box [.c (.v (.int .u8 v0)), .c (.v (.int .u8 v1)), .c (.v (.int .u8 v2))])]⟩) (fun j => n + k - j.1) ⟨0, Nat.zero_le _⟩ ?_ ?_
      · refine Ent.to ?_ ?_ <;> simp (disch := omega) only [wkT_cons, wkX_cons, wkT_nil, wkX_nil, get, Nat.reduceEqDiff, ↓reduceIte, ex_some, wk_self, wk_top, wk_nil, wkB_self, and_self, dI, i64_in, and_true, true_and, Int.natCast_add, Int.natCast_one, Int.ofNat_zero, Int.natCast_zero, rpL]
        all_goals first | exact ⟨.refl _, .refl _⟩ | exact .refl _
      rintro ⟨j, hj⟩
      dsimp only
      have hjl := hrl j
      rcases Nat.lt_or_ge j (n + k) with hlt2 | hge2
      · have hdj : decide ((j : Int) < H + (k : Int)) = true := by rw [decide_eq_true_eq]; omega
        have hs : rpL (⟨(300 : Int), (320 : Int), (100 : Int), (110 : Int)⟩ : Lod) (j + 1) = rpL (⟨(300 : Int), (320 : Int), (100 : Int), (110 : Int)⟩ : Lod) j ++ [⟨(300 : Int), (320 : Int), (100 : Int), (110 : Int)⟩] := rfl
        generalize rpL (⟨(300 : Int), (320 : Int), (100 : Int), (110 : Int)⟩ : Lod) j = R at *
        repeat' (first
    | (with_reducible refine DW.seq ?_)
    | (with_reducible refine DW.block ?_)
    | (with_reducible refine DW.skip ?_)
    | (with_reducible refine DW.exit ?_)
    | (with_reducible refine DW.ret ?_)
    | (with_reducible refine DW.reg ?_)
    | (refine DW.dreg rfl (WF.of (by first | rfl | simp (disch := omega) only [go_sem, Nat.reduceLT, Nat.reduceLeDiff, Nat.reduceAdd, Nat.reduceMul, Nat.reduceEqDiff, ↓reduceIte, reduceCtorEq, Nat.reduceBEq, Nat.reduceBNe, Nat.reducePow, Int.reduceLE, Int.reduceLT, Int.reduceNeg, Int.reduceToNat, Int.reduceEq, Int.reduceAdd, Int.reduceSub, Int.reduceMul, Int.reduceBEq, Int.reduceBNe, bm_box, bm_row, bk_box, bk_row, hdj, List.map_cons, List.map_nil, rowC_snocLd])) ?_)
    | (simp (disch := omega) only [go_sem, Nat.reduceLT, Nat.reduceLeDiff, Nat.reduceAdd, Nat.reduceMul, Nat.reduceEqDiff, ↓reduceIte, reduceCtorEq, Nat.reduceBEq, Nat.reduceBNe, Nat.reducePow, Int.reduceLE, Int.reduceLT, Int.reduceNeg, Int.reduceToNat, Int.reduceEq, Int.reduceAdd, Int.reduceSub, Int.reduceMul, Int.reduceBEq, Int.reduceBNe, bm_box, bm_row, bk_box, bk_row, hdj, List.map_cons, List.map_nil, rowC_snocLd])
    | (exact retS_of rfl rfl rfl)
    | (refine DW.cond_tt rfl ?_)
    | (refine DW.cond_ff rfl ?_)
    | (refine DW.cond rfl ?_ ?_ <;> intro hc <;> (try simp only [go_sem] at hc))
    | (refine g_split ?_ ?_ <;> intro hc <;> (try simp only [hc]) <;> (try simp only [go_sem] at hc)))
        refine ⟨⟨j + 1, hlt2⟩, ?_, Ent.to ?_ ?_⟩ <;> first | (show _ < _; (try simp only); omega) | (simp (disch := omega) only [wkT_cons, wkX_cons, wkT_nil, wkX_nil, get, Nat.reduceEqDiff, ↓reduceIte, ex_some, wk_self, wk_top, wk_nil, wkB_self, and_self, dI, i64_in, and_true, true_and, Int.natCast_add, Int.natCast_one, Int.ofNat_zero, Int.natCast_zero,  hs])
        all_goals first | exact ⟨.refl _, .refl _⟩ | exact .refl _
      obtain rfl : j = n + k := by omega
      have hdj : decide (((n + k : Nat) : Int) < H + (k : Int)) = false := by rw [decide_eq_false_iff_not]; omega
      (refine DW.ent (Ent.rel 65 rfl) ?_; simp (disch := omega) only [go_sem, Nat.reduceLT, Nat.reduceLeDiff, Nat.reduceAdd, Nat.reduceMul, Nat.reduceEqDiff, ↓reduceIte, reduceCtorEq, Nat.reduceBEq, Nat.reduceBNe, Nat.reducePow, Int.reduceLE, Int.reduceLT, Int.reduceNeg, Int.reduceToNat, Int.reduceEq, Int.reduceAdd, Int.reduceSub, Int.reduceMul, Int.reduceBEq, Int.reduceBNe, bm_box, bm_row, bk_box, bk_row])
      rcases k with _ | _ | k
      · have hf := hfa n (by omega)
        rw [hs7] at hf
        generalize (fallR (rpL (⟨(300 : Int), (320 : Int), (100 : Int), (110 : Int)⟩ : Lod) n) days t).1 = q1 at *
        generalize (fallR (rpL (⟨(300 : Int), (320 : Int), (100 : Int), (110 : Int)⟩ : Lod) n) days t).2.1 = q2 at *
        have hrn := hrl n
        have h5 : decide ((50 : Int) < (n : Int)) = false := by rw [decide_eq_false_iff_not]; omega
        simp only [Nat.add_zero, Int.natCast_zero, Int.add_zero] at hdj ⊢
        repeat' (first
    | (with_reducible refine DW.seq ?_)
    | (with_reducible refine DW.block ?_)
    | (with_reducible refine DW.skip ?_)
    | (with_reducible refine DW.exit ?_)
    | (with_reducible refine DW.ret ?_)
    | (with_reducible refine DW.reg ?_)
    | (refine DW.dreg rfl (WF.of (by first | rfl | simp (disch := omega) only [go_sem, Nat.reduceLT, Nat.reduceLeDiff, Nat.reduceAdd, Nat.reduceMul, Nat.reduceEqDiff, ↓reduceIte, reduceCtorEq, Nat.reduceBEq, Nat.reduceBNe, Nat.reducePow, Int.reduceLE, Int.reduceLT, Int.reduceNeg, Int.reduceToNat, Int.reduceEq, Int.reduceAdd, Int.reduceSub, Int.reduceMul, Int.reduceBEq, Int.reduceBNe, bm_box, bm_row, bk_box, bk_row, hdj, hrn, h5, Int.natCast_zero, Int.add_zero, ud5])) ?_)
    | (simp (disch := omega) only [go_sem, Nat.reduceLT, Nat.reduceLeDiff, Nat.reduceAdd, Nat.reduceMul, Nat.reduceEqDiff, ↓reduceIte, reduceCtorEq, Nat.reduceBEq, Nat.reduceBNe, Nat.reducePow, Int.reduceLE, Int.reduceLT, Int.reduceNeg, Int.reduceToNat, Int.reduceEq, Int.reduceAdd, Int.reduceSub, Int.reduceMul, Int.reduceBEq, Int.reduceBNe, bm_box, bm_row, bk_box, bk_row, hdj, hrn, h5, Int.natCast_zero, Int.add_zero, ud5])
    | (exact retS_of rfl rfl rfl)
    | (refine DW.cond_tt rfl ?_)
    | (refine call_c (hsx) (by decide) ?_)
    | (refine call_c (hf) (by decide) ?_)
    | (refine DW.cond_ff rfl ?_)
    | (refine DW.cond rfl ?_ ?_ <;> intro hc <;> (try simp only [go_sem] at hc))
    | (refine g_split ?_ ?_ <;> intro hc <;> (try simp only [hc]) <;> (try simp only [go_sem] at hc)))
        refine ⟨⟨1, by omega⟩, ?_, Ent.to ?_ ?_⟩ <;> first | (show _ < _; (try simp only); omega) | (simp (disch := omega) only [wkT_cons, wkX_cons, wkT_nil, wkX_nil, get, Nat.reduceEqDiff, ↓reduceIte, ex_some, wk_self, wk_top, wk_nil, wkB_self, and_self, dI, i64_in, and_true, true_and, Int.natCast_add, Int.natCast_one, Int.ofNat_zero, Int.natCast_zero])
        all_goals exact .refl _
      · have hrn := hrl (n + 1)
        by_cases h50 : n < 50
        · have hf := hfa (n + 1) (by omega)
          rw [hs0' h50] at hf
          generalize (fallR (rpL (⟨(300 : Int), (320 : Int), (100 : Int), (110 : Int)⟩ : Lod) (n + 1)) days t).1 = q1 at *
          generalize (fallR (rpL (⟨(300 : Int), (320 : Int), (100 : Int), (110 : Int)⟩ : Lod) (n + 1)) days t).2.1 = q2 at *
          have h5 : decide ((50 : Int) < ((n + 1 : Nat) : Int)) = false := by rw [decide_eq_false_iff_not]; omega
          have h5' : decide ((50 : Int) < (n : Int) + 1) = false := by rw [decide_eq_false_iff_not]; omega
          have hdj' : decide ((n : Int) + 1 < H + 1) = false := by rw [decide_eq_false_iff_not]; omega
          simp only [Nat.zero_add] at hdj ⊢
          repeat' (first
    | (with_reducible refine DW.seq ?_)
    | (with_reducible refine DW.block ?_)
    | (with_reducible refine DW.skip ?_)
    | (with_reducible refine DW.exit ?_)
    | (with_reducible refine DW.ret ?_)
    | (with_reducible refine DW.reg ?_)
    | (refine DW.dreg rfl (WF.of (by first | rfl | simp (disch := omega) only [go_sem, Nat.reduceLT, Nat.reduceLeDiff, Nat.reduceAdd, Nat.reduceMul, Nat.reduceEqDiff, ↓reduceIte, reduceCtorEq, Nat.reduceBEq, Nat.reduceBNe, Nat.reducePow, Int.reduceLE, Int.reduceLT, Int.reduceNeg, Int.reduceToNat, Int.reduceEq, Int.reduceAdd, Int.reduceSub, Int.reduceMul, Int.reduceBEq, Int.reduceBNe, bm_box, bm_row, bk_box, bk_row, hdj, hdj', hrn, h5, h5', ud5, Int.natCast_add, Int.natCast_one])) ?_)
    | (simp (disch := omega) only [go_sem, Nat.reduceLT, Nat.reduceLeDiff, Nat.reduceAdd, Nat.reduceMul, Nat.reduceEqDiff, ↓reduceIte, reduceCtorEq, Nat.reduceBEq, Nat.reduceBNe, Nat.reducePow, Int.reduceLE, Int.reduceLT, Int.reduceNeg, Int.reduceToNat, Int.reduceEq, Int.reduceAdd, Int.reduceSub, Int.reduceMul, Int.reduceBEq, Int.reduceBNe, bm_box, bm_row, bk_box, bk_row, hdj, hdj', hrn, h5, h5', ud5, Int.natCast_add, Int.natCast_one])
    | (exact retS_of rfl rfl rfl)
    | (refine DW.cond_tt rfl ?_)
    | (refine call_c (hsx) (by decide) ?_)
    | (refine call_c (hf) (by decide) ?_)
    | (refine DW.cond_ff rfl ?_)
    | (refine DW.cond rfl ?_ ?_ <;> intro hc <;> (try simp only [go_sem] at hc))
    | (refine g_split ?_ ?_ <;> intro hc <;> (try simp only [hc]) <;> (try simp only [go_sem] at hc)))
          refine ⟨⟨2, by omega⟩, ?_, Ent.to ?_ ?_⟩ <;> first | (show _ < _; (try simp only); omega) | (simp (disch := omega) only [wkT_cons, wkX_cons, wkT_nil, wkX_nil, get, Nat.reduceEqDiff, ↓reduceIte, ex_some, wk_self, wk_top, wk_nil, wkB_self, and_self, dI, i64_in, and_true, true_and, Int.natCast_add, Int.natCast_one, Int.ofNat_zero, Int.natCast_zero])
          all_goals exact .refl _
        · have h5 : decide ((50 : Int) < ((n + 1 : Nat) : Int)) = true := by rw [decide_eq_true_eq]; omega
          have h5' : decide ((50 : Int) < (n : Int) + 1) = true := by rw [decide_eq_true_eq]; omega
          have hdj' : decide ((n : Int) + 1 < H + 1) = false := by rw [decide_eq_false_iff_not]; omega
          simp only [Nat.zero_add] at hdj ⊢
          repeat' (first
    | (with_reducible refine DW.seq ?_)
    | (with_reducible refine DW.block ?_)
    | (with_reducible refine DW.skip ?_)
    | (with_reducible refine DW.exit ?_)
    | (with_reducible refine DW.ret ?_)
    | (with_reducible refine DW.reg ?_)
    | (refine DW.dreg rfl (WF.of (by first | rfl | simp (disch := omega) only [go_sem, Nat.reduceLT, Nat.reduceLeDiff, Nat.reduceAdd, Nat.reduceMul, Nat.reduceEqDiff, ↓reduceIte, reduceCtorEq, Nat.reduceBEq, Nat.reduceBNe, Nat.reducePow, Int.reduceLE, Int.reduceLT, Int.reduceNeg, Int.reduceToNat, Int.reduceEq, Int.reduceAdd, Int.reduceSub, Int.reduceMul, Int.reduceBEq, Int.reduceBNe, bm_box, bm_row, bk_box, bk_row, hdj, hdj', hrn, h5, h5', Int.natCast_add, Int.natCast_one])) ?_)
    | (simp (disch := omega) only [go_sem, Nat.reduceLT, Nat.reduceLeDiff, Nat.reduceAdd, Nat.reduceMul, Nat.reduceEqDiff, ↓reduceIte, reduceCtorEq, Nat.reduceBEq, Nat.reduceBNe, Nat.reducePow, Int.reduceLE, Int.reduceLT, Int.reduceNeg, Int.reduceToNat, Int.reduceEq, Int.reduceAdd, Int.reduceSub, Int.reduceMul, Int.reduceBEq, Int.reduceBNe, bm_box, bm_row, bk_box, bk_row, hdj, hdj', hrn, h5, h5', Int.natCast_add, Int.natCast_one])
    | (exact retS_of rfl rfl rfl)
    | (refine DW.cond_tt rfl ?_)
    | (refine DW.cond_ff rfl ?_)
    | (refine DW.cond rfl ?_ ?_ <;> intro hc <;> (try simp only [go_sem] at hc))
    | (refine g_split ?_ ?_ <;> intro hc <;> (try simp only [hc]) <;> (try simp only [go_sem] at hc)))
          refine ⟨⟨2, by omega⟩, ?_, Ent.to ?_ ?_⟩ <;> first | (show _ < _; (try simp only); omega) | (simp (disch := omega) only [wkT_cons, wkX_cons, wkT_nil, wkX_nil, get, Nat.reduceEqDiff, ↓reduceIte, ex_some, wk_self, wk_top, wk_nil, wkB_self, and_self, dI, i64_in, and_true, true_and, Int.natCast_add, Int.natCast_one, Int.ofNat_zero, Int.natCast_zero])
          all_goals exact .refl _
      · omega
    obtain rfl : k = 2 := by omega
    have hd : decide (((2 : Nat) : Int) < 2) = false := by decide
    clear hfa hrep hrl hs7 hs0' hhi
    repeat' (first
    | (with_reducible refine DW.seq ?_)
    | (with_reducible refine DW.block ?_)
    | (with_reducible refine DW.skip ?_)
    | (with_reducible refine DW.exit ?_)
    | (with_reducible refine DW.ret ?_)
    | (with_reducible refine DW.reg ?_)
    | (refine DW.dreg rfl (WF.of (by first | rfl | simp (disch := omega) only [go_sem, Nat.reduceLT, Nat.reduceLeDiff, Nat.reduceAdd, Nat.reduceMul, Nat.reduceEqDiff, ↓reduceIte, reduceCtorEq, Nat.reduceBEq, Nat.reduceBNe, Nat.reducePow, Int.reduceLE, Int.reduceLT, Int.reduceNeg, Int.reduceToNat, Int.reduceEq, Int.reduceAdd, Int.reduceSub, Int.reduceMul, Int.reduceBEq, Int.reduceBNe, bm_box, bm_row, bk_box, bk_row, hd])) ?_)
    | (simp (disch := omega) only [go_sem, Nat.reduceLT, Nat.reduceLeDiff, Nat.reduceAdd, Nat.reduceMul, Nat.reduceEqDiff, ↓reduceIte, reduceCtorEq, Nat.reduceBEq, Nat.reduceBNe, Nat.reducePow, Int.reduceLE, Int.reduceLT, Int.reduceNeg, Int.reduceToNat, Int.reduceEq, Int.reduceAdd, Int.reduceSub, Int.reduceMul, Int.reduceBEq, Int.reduceBNe, bm_box, bm_row, bk_box, bk_row, hd])
    | (exact retS_of rfl rfl rfl)
    | (refine DW.cond_tt rfl ?_)
    | (refine DW.cond_ff rfl ?_)
    | (refine DW.cond rfl ?_ ?_ <;> intro hc <;> (try simp only [go_sem] at hc))
    | (refine g_split ?_ ?_ <;> intro hc <;> (try simp only [hc]) <;> (try simp only [go_sem] at hc)))
    (refine call_r (hbr) (by decide) (by first | rfl | simp (disch := omega) only [go_sem, Nat.reduceLT, Nat.reduceLeDiff, Nat.reduceAdd, Nat.reduceMul, Nat.reduceEqDiff, ↓reduceIte, reduceCtorEq, Nat.reduceBEq, Nat.reduceBNe, Nat.reducePow, Int.reduceLE, Int.reduceLT, Int.reduceNeg, Int.reduceToNat, Int.reduceEq, Int.reduceAdd, Int.reduceSub, Int.reduceMul, Int.reduceBEq, Int.reduceBNe, bm_box, bm_row, bk_box, bk_row]) (by first | rfl | simp (disch := omega) only [go_sem, Nat.reduceLT, Nat.reduceLeDiff, Nat.reduceAdd, Nat.reduceMul, Nat.reduceEqDiff, ↓reduceIte, reduceCtorEq, Nat.reduceBEq, Nat.reduceBNe, Nat.reducePow, Int.reduceLE, Int.reduceLT, Int.reduceNeg, Int.reduceToNat, Int.reduceEq, Int.reduceAdd, Int.reduceSub, Int.reduceMul, Int.reduceBEq, Int.reduceBNe, bm_box, bm_row, bk_box, bk_row]) ?_; simp (disch := omega) only [go_sem, Nat.reduceLT, Nat.reduceLeDiff, Nat.reduceAdd, Nat.reduceMul, Nat.reduceEqDiff, ↓reduceIte, reduceCtorEq, Nat.reduceBEq, Nat.reduceBNe, Nat.reducePow, Int.reduceLE, Int.reduceLT, Int.reduceNeg, Int.reduceToNat, Int.reduceEq, Int.reduceAdd, Int.reduceSub, Int.reduceMul, Int.reduceBEq, Int.reduceBNe, bm_box, bm_row, bk_box, bk_row])
    have f1 := laSpan ((300 : Int) + (v0 : Int)) ((320 : Int) + (v0 : Int))
    have f2 := laSpan (mx0 ((100 : Int) - (v1 : Int))) (mx0 ((110 : Int) - (v1 : Int)))
    have w1 := hok2.strong
    have w2 := hok2.weight
    have w3 := hone.strong
    have w4 := hone.weight
    simp only at w1 w2 w3 w4
    have hmm := most_mono hlo (by omega) (show LeLs l l from ⟨rfl, fun i b c hb hc => by rw [hb] at hc; cases hc; exact LeB.refl _⟩) hkb.1 hkk
    have hmo2 := crMost l hlo (by omega) t ((days : Int) - r) htb2
    generalize mostI l (lastI (days : Int) t 0) = Ma at *
    generalize mostI l (lastI ((days : Int) - r) t 0) = Mc at *
    have h4 : decide ((Ma.length : Int) ≤ (Mc.length : Int)) = true := by rw [decide_eq_true_eq]; omega
    repeat' (first
    | (with_reducible refine DW.seq ?_)
    | (with_reducible refine DW.block ?_)
    | (with_reducible refine DW.skip ?_)
    | (with_reducible refine DW.exit ?_)
    | (with_reducible refine DW.ret ?_)
    | (with_reducible refine DW.reg ?_)
    | (refine DW.dreg rfl (WF.of (by first | rfl | simp (disch := omega) only [go_sem, Nat.reduceLT, Nat.reduceLeDiff, Nat.reduceAdd, Nat.reduceMul, Nat.reduceEqDiff, ↓reduceIte, reduceCtorEq, Nat.reduceBEq, Nat.reduceBNe, Nat.reducePow, Int.reduceLE, Int.reduceLT, Int.reduceNeg, Int.reduceToNat, Int.reduceEq, Int.reduceAdd, Int.reduceSub, Int.reduceMul, Int.reduceBEq, Int.reduceBNe, bm_box, bm_row, bk_box, bk_row, eN, List.map_cons, List.map_nil, ud5, hr, hz, mx0_if, hd0])) ?_)
    | (simp (disch := omega) only [go_sem, Nat.reduceLT, Nat.reduceLeDiff, Nat.reduceAdd, Nat.reduceMul, Nat.reduceEqDiff, ↓reduceIte, reduceCtorEq, Nat.reduceBEq, Nat.reduceBNe, Nat.reducePow, Int.reduceLE, Int.reduceLT, Int.reduceNeg, Int.reduceToNat, Int.reduceEq, Int.reduceAdd, Int.reduceSub, Int.reduceMul, Int.reduceBEq, Int.reduceBNe, bm_box, bm_row, bk_box, bk_row, eN, List.map_cons, List.map_nil, ud5, hr, hz, mx0_if, hd0])
    | (exact retS_of rfl rfl rfl)
    | (refine DW.cond_tt rfl ?_)
    | (refine call_c (f1) (by decide) ?_)
    | (refine call_c (f2) (by decide) ?_)
    | (refine call_c (hsx) (by decide) ?_)
    | (refine call_c (hhi2) (by decide) ?_)
    | (refine call_c (hbx) (by decide) ?_)
    | (refine call_c (hmo) (by decide) ?_)
    | (refine DW.cond_ff rfl ?_)
    | (refine DW.cond rfl ?_ ?_ <;> intro hc <;> (try simp only [go_sem] at hc))
    | (refine g_split ?_ ?_ <;> intro hc <;> (try simp only [hc]) <;> (try simp only [go_sem] at hc)))
    refine call_e (Ent.rel 96 rfl) hmo2 rfl (by simp (disch := omega) only [go_sem, Nat.reduceLT, Nat.reduceLeDiff, Nat.reduceAdd, Nat.reduceMul, Nat.reduceEqDiff, ↓reduceIte, reduceCtorEq, Nat.reduceBEq, Nat.reduceBNe, Nat.reducePow, Int.reduceLE, Int.reduceLT, Int.reduceNeg, Int.reduceToNat, Int.reduceEq, Int.reduceAdd, Int.reduceSub, Int.reduceMul, Int.reduceBEq, Int.reduceBNe, bm_box, bm_row, bk_box, bk_row, List.map_cons, List.map_nil, List.nil_append, List.append_nil]) (by decide) ?_
    simp (disch := omega) only [go_sem, Nat.reduceLT, Nat.reduceLeDiff, Nat.reduceAdd, Nat.reduceMul, Nat.reduceEqDiff, ↓reduceIte, reduceCtorEq, Nat.reduceBEq, Nat.reduceBNe, Nat.reducePow, Int.reduceLE, Int.reduceLT, Int.reduceNeg, Int.reduceToNat, Int.reduceEq, Int.reduceAdd, Int.reduceSub, Int.reduceMul, Int.reduceBEq, Int.reduceBNe, bm_box, bm_row, bk_box, bk_row]
    repeat' (first
    | (with_reducible refine DW.seq ?_)
    | (with_reducible refine DW.block ?_)
    | (with_reducible refine DW.skip ?_)
    | (with_reducible refine DW.exit ?_)
    | (with_reducible refine DW.ret ?_)
    | (with_reducible refine DW.reg ?_)
    | (refine DW.dreg rfl (WF.of (by first | rfl | simp (disch := omega) only [go_sem, Nat.reduceLT, Nat.reduceLeDiff, Nat.reduceAdd, Nat.reduceMul, Nat.reduceEqDiff, ↓reduceIte, reduceCtorEq, Nat.reduceBEq, Nat.reduceBNe, Nat.reducePow, Int.reduceLE, Int.reduceLT, Int.reduceNeg, Int.reduceToNat, Int.reduceEq, Int.reduceAdd, Int.reduceSub, Int.reduceMul, Int.reduceBEq, Int.reduceBNe, bm_box, bm_row, bk_box, bk_row, h3, h4])) ?_)
    | (simp (disch := omega) only [go_sem, Nat.reduceLT, Nat.reduceLeDiff, Nat.reduceAdd, Nat.reduceMul, Nat.reduceEqDiff, ↓reduceIte, reduceCtorEq, Nat.reduceBEq, Nat.reduceBNe, Nat.reducePow, Int.reduceLE, Int.reduceLT, Int.reduceNeg, Int.reduceToNat, Int.reduceEq, Int.reduceAdd, Int.reduceSub, Int.reduceMul, Int.reduceBEq, Int.reduceBNe, bm_box, bm_row, bk_box, bk_row, h3, h4])
    | (exact retS_of rfl rfl rfl)
    | (refine DW.cond_tt rfl ?_)
    | (refine call_c (hk) (by decide) ?_)
    | (refine DW.cond_ff rfl ?_)
    | (refine DW.cond rfl ?_ ?_ <;> intro hc <;> (try simp only [go_sem] at hc))
    | (refine g_split ?_ ?_ <;> intro hc <;> (try simp only [hc]) <;> (try simp only [go_sem] at hc)))
  · have hd0 : decide ((0 : Int) < (l.length : Int)) = true := by rw [decide_eq_true_eq]; omega
    obtain ⟨one, hl1⟩ := getE (l := l) (i := 0) hl0
    have hone := hlo one (List.mem_of_getElem? hl1)
    have hoh := hlb one (List.mem_of_getElem? hl1)
    obtain ⟨o1, o2, o3, o4⟩ := one
    simp only at hoh
    have hhi := crHigh (⟨o1, o2, o3, o4⟩ : Lod) hone t days htb
    have hHb := highI_b hone htb
    have hstk := fun n hn => high_stack hone htb n hn
    obtain ⟨hok2, hle2⟩ := better_ok (s := (v0 : Int)) (w := (v1 : Int)) hone (by omega) (by omega) (by omega)
    have hhi2 := crHigh _ hok2 t ((days : Int) - r) htb2
    have hHm := high_mono hone hok2 hle2 (days := (days : Int)) (day := (days : Int) - r) htb (by omega) (by omega)
    have hrep : ∀ m, ∀ b ∈ rpL (⟨o1, o2, o3, o4⟩ : Lod) m, b.ok := fun m b hb => by rw [rpL_eq] at hb; rw [(List.mem_replicate.1 hb).2]; exact hone
    have hrl : ∀ m, (rpL (⟨o1, o2, o3, o4⟩ : Lod) m).length = m := fun m => by rw [rpL_eq, List.length_replicate]
    have hfa : ∀ m, m ≤ 50 → DCall Tryd.prog 36 [.c (.sl false 4 (rows eLd (rpL (⟨o1, o2, o3, o4⟩ : Lod) m))), .c (.sl false 2 (rows eK t)), dI days] [] (.tup [dI (fallR (rpL (⟨o1, o2, o3, o4⟩ : Lod) m) days t).1, dI (fallR (rpL (⟨o1, o2, o3, o4⟩ : Lod) m) days t).2.1, dI (fallR (rpL (⟨o1, o2, o3, o4⟩ : Lod) m) days t).2.2]) [] := fun m hm => crFall _ (hrep m) (by rw [hrl]; exact hm) t days htb
    have hLd := laLoad ⟨300, 320, 100, 110⟩
    simp only [eLd, List.map_cons, List.map_nil] at hhi hhi2 hLd
    generalize highI (⟨o1, o2, o3, o4⟩ : Lod) t days = H at *
    generalize hH2 : highI _ t ((days : Int) - r) = H2 at *
    have h1 : decide (H < 1) = false := by rw [decide_eq_false_iff_not]; omega
    have h2 : decide (50 < H) = false := by rw [decide_eq_false_iff_not]; omega
    have h3 : decide (H ≤ H2) = true := by rw [decide_eq_true_eq]; omega
    obtain ⟨n, hn⟩ : ∃ n : Nat, (n : Int) = H := ⟨H.toNat, by omega⟩
    obtain ⟨hs7, hs0⟩ := hstk n hn
    rw [← rpL_eq] at hs7
    have hs0' : n < 50 → (fallR (rpL (⟨o1, o2, o3, o4⟩ : Lod) (n + 1)) days t).2.2 = 0 := fun h => by rw [rpL_eq]; exact hs0 h
    clear hstk hs0 hHm
    refine DCall.of Tryd.func15 sf15 hb15 (Nat.le_of_ble_eq_true rfl) (okRes_nil fun _ => rfl) ?_; simp only [s15, idxs, Nat.reduceAdd]
    repeat' (first
    | (with_reducible refine DW.seq ?_)
    | (with_reducible refine DW.block ?_)
    | (with_reducible refine DW.skip ?_)
    | (with_reducible refine DW.exit ?_)
    | (with_reducible refine DW.ret ?_)
    | (with_reducible refine DW.reg ?_)
    | (refine DW.dreg rfl (WF.of (by first | rfl | simp (disch := omega) only [go_sem, Nat.reduceLT, Nat.reduceLeDiff, Nat.reduceAdd, Nat.reduceMul, Nat.reduceEqDiff, ↓reduceIte, reduceCtorEq, Nat.reduceBEq, Nat.reduceBNe, Nat.reducePow, Int.reduceLE, Int.reduceLT, Int.reduceNeg, Int.reduceToNat, Int.reduceEq, Int.reduceAdd, Int.reduceSub, Int.reduceMul, Int.reduceBEq, Int.reduceBNe, bm_box, bm_row, bk_box, bk_row, List.map_cons, List.map_nil, ud5, hd0, hl1, h1, h2])) ?_)
    | (simp (disch := omega) only [go_sem, Nat.reduceLT, Nat.reduceLeDiff, Nat.reduceAdd, Nat.reduceMul, Nat.reduceEqDiff, ↓reduceIte, reduceCtorEq, Nat.reduceBEq, Nat.reduceBNe, Nat.reducePow, Int.reduceLE, Int.reduceLT, Int.reduceNeg, Int.reduceToNat, Int.reduceEq, Int.reduceAdd, Int.reduceSub, Int.reduceMul, Int.reduceBEq, Int.reduceBNe, bm_box, bm_row, bk_box, bk_row, List.map_cons, List.map_nil, ud5, hd0, hl1, h1, h2])
    | (exact retS_of rfl rfl rfl)
    | (refine DW.cond_tt rfl ?_)
    | (refine call_c (hpile) (by decide) ?_)
    | (refine call_c (hLd) (by decide) ?_)
    | (refine call_c (hsx) (by decide) ?_)
    | (refine call_c (hhi) (by decide) ?_)
    | (refine DW.cond_ff rfl ?_)
    | (refine DW.cond rfl ?_ ?_ <;> intro hc <;> (try simp only [go_sem] at hc))
    | (refine g_split ?_ ?_ <;> intro hc <;> (try simp only [hc]) <;> (try simp only [go_sem] at hc)))
    refine DW.loop (ι := { k : Nat // k ≤ 2 }) (fun k => ⟨249, [(12, dI k.1), (10, dI H), (9, .box 9 0), (8, .c (.sl false 2 (rows eK t))), (7, .c (.sl false 4 (rows eLd l))), (4, .box 4 0), (2, .c (.v (.int .u8 days)))], [(9, .box [dI o1, dI o2, dI o3, dI o4]), (4, .box [.c (.v (.int .u8 v0)), .c (.v (.int .u8 v1)), .c (.v (.int .u8 v2))])]⟩) (fun k => 2 - k.1) ⟨0, Nat.zero_le _⟩ ?_ ?_
    · refine Ent.to ?_ ?_ <;> simp (disch := omega) only [wkT_cons, wkX_cons, wkT_nil, wkX_nil, get, Nat.reduceEqDiff, ↓reduceIte, ex_some, wk_self, wk_top, wk_nil, wkB_self, and_self, dI, i64_in, and_true, true_and, Int.natCast_add, Int.natCast_one, Int.ofNat_zero, Int.natCast_zero, eN, List.map_cons, List.map_nil]
      all_goals first | exact .refl _ | exact ⟨.refl _, .refl _⟩
    rintro ⟨k, hk2⟩
    dsimp only
    rcases Nat.lt_or_ge k 2 with hlt | hge
    · have hd : decide ((k : Int) < 2) = true := by rw [decide_eq_true_eq]; omega
      repeat' (first
    | (with_reducible refine DW.seq ?_)
    | (with_reducible refine DW.block ?_)
    | (with_reducible refine DW.skip ?_)
    | (with_reducible refine DW.exit ?_)
    | (with_reducible refine DW.ret ?_)
    | (with_reducible refine DW.reg ?_)
    | (refine DW.dreg rfl (WF.of (by first | rfl | simp (disch := omega) only [go_sem, Nat.reduceLT, Nat.reduceLeDiff, Nat.reduceAdd, Nat.reduceMul, Nat.reduceEqDiff, ↓reduceIte, reduceCtorEq, Nat.reduceBEq, Nat.reduceBNe, Nat.reducePow, Int.reduceLE, Int.reduceLT, Int.reduceNeg, Int.reduceToNat, Int.reduceEq, Int.reduceAdd, Int.reduceSub, Int.reduceMul, Int.reduceBEq, Int.reduceBNe, bm_box, bm_row, bk_box, bk_row, hd])) ?_)
    | (simp (disch := omega) only [go_sem, Nat.reduceLT, Nat.reduceLeDiff, Nat.reduceAdd, Nat.reduceMul, Nat.reduceEqDiff, ↓reduceIte, reduceCtorEq, Nat.reduceBEq, Nat.reduceBNe, Nat.reducePow, Int.reduceLE, Int.reduceLT, Int.reduceNeg, Int.reduceToNat, Int.reduceEq, Int.reduceAdd, Int.reduceSub, Int.reduceMul, Int.reduceBEq, Int.reduceBNe, bm_box, bm_row, bk_box, bk_row, hd])
    | (exact retS_of rfl rfl rfl)
    | (refine DW.cond_tt rfl ?_)
    | (refine DW.cond_ff rfl ?_)
    | (refine DW.cond rfl ?_ ?_ <;> intro hc <;> (try simp only [go_sem] at hc))
    | (refine g_split ?_ ?_ <;> intro hc <;> (try simp only [hc]) <;> (try simp only [go_sem] at hc)))
      refine DW.loop (ι := { j : Nat // j ≤ n + k }) (fun j => ⟨249, [(14, dI j.1), (13, .own 65), (12, dI k), (10, dI H), (9, .box 9 0), (8, .c (.sl false 2 (rows eK t))), (7, .c (.sl false 4 (rows eLd l))), (4, .box 4 0), (2, .c (.v (.int .u8 days)))], [(65, .row 4 (rowC (rows eLd (rpL (⟨o1, o2, o3, o4⟩ : Lod) j.1)))), (9, .box [dI o1, dI o2, dI o3, dI o4]), (4, .box [.c (.v (.int .u8 v0)), .c (.v (.int .u8 v1)), .c (.v (.int .u8 v2))])]⟩) (fun j => n + k - j.1) ⟨0, Nat.zero_le _⟩ ?_ ?_
      · refine Ent.to ?_ ?_ <;> simp (disch := omega) only [wkT_cons, wkX_cons, wkT_nil, wkX_nil, get, Nat.reduceEqDiff, ↓reduceIte, ex_some, wk_self, wk_top, wk_nil, wkB_self, and_self, dI, i64_in, and_true, true_and, Int.natCast_add, Int.natCast_one, Int.ofNat_zero, Int.natCast_zero, rpL]
        all_goals first | exact ⟨.refl _, .refl _⟩ | exact .refl _
      rintro ⟨j, hj⟩
      dsimp only
      have hjl := hrl j
      rcases Nat.lt_or_ge j (n + k) with hlt2 | hge2
      · have hdj : decide ((j : Int) < H + (k : Int)) = true := by rw [decide_eq_true_eq]; omega
        have hs : rpL (⟨o1, o2, o3, o4⟩ : Lod) (j + 1) = rpL (⟨o1, o2, o3, o4⟩ : Lod) j ++ [⟨o1, o2, o3, o4⟩] := rfl
        generalize rpL (⟨o1, o2, o3, o4⟩ : Lod) j = R at *
        repeat' (first
    | (with_reducible refine DW.seq ?_)
    | (with_reducible refine DW.block ?_)
    | (with_reducible refine DW.skip ?_)
    | (with_reducible refine DW.exit ?_)
    | (with_reducible refine DW.ret ?_)
    | (with_reducible refine DW.reg ?_)
    | (refine DW.dreg rfl (WF.of (by first | rfl | simp (disch := omega) only [go_sem, Nat.reduceLT, Nat.reduceLeDiff, Nat.reduceAdd, Nat.reduceMul, Nat.reduceEqDiff, ↓reduceIte, reduceCtorEq, Nat.reduceBEq, Nat.reduceBNe, Nat.reducePow, Int.reduceLE, Int.reduceLT, Int.reduceNeg, Int.reduceToNat, Int.reduceEq, Int.reduceAdd, Int.reduceSub, Int.reduceMul, Int.reduceBEq, Int.reduceBNe, bm_box, bm_row, bk_box, bk_row, hdj, List.map_cons, List.map_nil, rowC_snocLd])) ?_)
    | (simp (disch := omega) only [go_sem, Nat.reduceLT, Nat.reduceLeDiff, Nat.reduceAdd, Nat.reduceMul, Nat.reduceEqDiff, ↓reduceIte, reduceCtorEq, Nat.reduceBEq, Nat.reduceBNe, Nat.reducePow, Int.reduceLE, Int.reduceLT, Int.reduceNeg, Int.reduceToNat, Int.reduceEq, Int.reduceAdd, Int.reduceSub, Int.reduceMul, Int.reduceBEq, Int.reduceBNe, bm_box, bm_row, bk_box, bk_row, hdj, List.map_cons, List.map_nil, rowC_snocLd])
    | (exact retS_of rfl rfl rfl)
    | (refine DW.cond_tt rfl ?_)
    | (refine DW.cond_ff rfl ?_)
    | (refine DW.cond rfl ?_ ?_ <;> intro hc <;> (try simp only [go_sem] at hc))
    | (refine g_split ?_ ?_ <;> intro hc <;> (try simp only [hc]) <;> (try simp only [go_sem] at hc)))
        refine ⟨⟨j + 1, hlt2⟩, ?_, Ent.to ?_ ?_⟩ <;> first | (show _ < _; (try simp only); omega) | (simp (disch := omega) only [wkT_cons, wkX_cons, wkT_nil, wkX_nil, get, Nat.reduceEqDiff, ↓reduceIte, ex_some, wk_self, wk_top, wk_nil, wkB_self, and_self, dI, i64_in, and_true, true_and, Int.natCast_add, Int.natCast_one, Int.ofNat_zero, Int.natCast_zero,  hs])
        all_goals first | exact ⟨.refl _, .refl _⟩ | exact .refl _
      obtain rfl : j = n + k := by omega
      have hdj : decide (((n + k : Nat) : Int) < H + (k : Int)) = false := by rw [decide_eq_false_iff_not]; omega
      (refine DW.ent (Ent.rel 65 rfl) ?_; simp (disch := omega) only [go_sem, Nat.reduceLT, Nat.reduceLeDiff, Nat.reduceAdd, Nat.reduceMul, Nat.reduceEqDiff, ↓reduceIte, reduceCtorEq, Nat.reduceBEq, Nat.reduceBNe, Nat.reducePow, Int.reduceLE, Int.reduceLT, Int.reduceNeg, Int.reduceToNat, Int.reduceEq, Int.reduceAdd, Int.reduceSub, Int.reduceMul, Int.reduceBEq, Int.reduceBNe, bm_box, bm_row, bk_box, bk_row])
      rcases k with _ | _ | k
      · have hf := hfa n (by omega)
        rw [hs7] at hf
        generalize (fallR (rpL (⟨o1, o2, o3, o4⟩ : Lod) n) days t).1 = q1 at *
        generalize (fallR (rpL (⟨o1, o2, o3, o4⟩ : Lod) n) days t).2.1 = q2 at *
        have hrn := hrl n
        have h5 : decide ((50 : Int) < (n : Int)) = false := by rw [decide_eq_false_iff_not]; omega
        simp only [Nat.add_zero, Int.natCast_zero, Int.add_zero] at hdj ⊢
        repeat' (first
    | (with_reducible refine DW.seq ?_)
    | (with_reducible refine DW.block ?_)
    | (with_reducible refine DW.skip ?_)
    | (with_reducible refine DW.exit ?_)
    | (with_reducible refine DW.ret ?_)
    | (with_reducible refine DW.reg ?_)
    | (refine DW.dreg rfl (WF.of (by first | rfl | simp (disch := omega) only [go_sem, Nat.reduceLT, Nat.reduceLeDiff, Nat.reduceAdd, Nat.reduceMul, Nat.reduceEqDiff, ↓reduceIte, reduceCtorEq, Nat.reduceBEq, Nat.reduceBNe, Nat.reducePow, Int.reduceLE, Int.reduceLT, Int.reduceNeg, Int.reduceToNat, Int.reduceEq, Int.reduceAdd, Int.reduceSub, Int.reduceMul, Int.reduceBEq, Int.reduceBNe, bm_box, bm_row, bk_box, bk_row, hdj, hrn, h5, Int.natCast_zero, Int.add_zero, ud5])) ?_)
    | (simp (disch := omega) only [go_sem, Nat.reduceLT, Nat.reduceLeDiff, Nat.reduceAdd, Nat.reduceMul, Nat.reduceEqDiff, ↓reduceIte, reduceCtorEq, Nat.reduceBEq, Nat.reduceBNe, Nat.reducePow, Int.reduceLE, Int.reduceLT, Int.reduceNeg, Int.reduceToNat, Int.reduceEq, Int.reduceAdd, Int.reduceSub, Int.reduceMul, Int.reduceBEq, Int.reduceBNe, bm_box, bm_row, bk_box, bk_row, hdj, hrn, h5, Int.natCast_zero, Int.add_zero, ud5])
    | (exact retS_of rfl rfl rfl)
    | (refine DW.cond_tt rfl ?_)
    | (refine call_c (hsx) (by decide) ?_)
    | (refine call_c (hf) (by decide) ?_)
    | (refine DW.cond_ff rfl ?_)
    | (refine DW.cond rfl ?_ ?_ <;> intro hc <;> (try simp only [go_sem] at hc))
    | (refine g_split ?_ ?_ <;> intro hc <;> (try simp only [hc]) <;> (try simp only [go_sem] at hc)))
        refine ⟨⟨1, by omega⟩, ?_, Ent.to ?_ ?_⟩ <;> first | (show _ < _; (try simp only); omega) | (simp (disch := omega) only [wkT_cons, wkX_cons, wkT_nil, wkX_nil, get, Nat.reduceEqDiff, ↓reduceIte, ex_some, wk_self, wk_top, wk_nil, wkB_self, and_self, dI, i64_in, and_true, true_and, Int.natCast_add, Int.natCast_one, Int.ofNat_zero, Int.natCast_zero])
        all_goals exact .refl _
      · have hrn := hrl (n + 1)
        by_cases h50 : n < 50
        · have hf := hfa (n + 1) (by omega)
          rw [hs0' h50] at hf
          generalize (fallR (rpL (⟨o1, o2, o3, o4⟩ : Lod) (n + 1)) days t).1 = q1 at *
          generalize (fallR (rpL (⟨o1, o2, o3, o4⟩ : Lod) (n + 1)) days t).2.1 = q2 at *
          have h5 : decide ((50 : Int) < ((n + 1 : Nat) : Int)) = false := by rw [decide_eq_false_iff_not]; omega
          have h5' : decide ((50 : Int) < (n : Int) + 1) = false := by rw [decide_eq_false_iff_not]; omega
          have hdj' : decide ((n : Int) + 1 < H + 1) = false := by rw [decide_eq_false_iff_not]; omega
          simp only [Nat.zero_add] at hdj ⊢
          repeat' (first
    | (with_reducible refine DW.seq ?_)
    | (with_reducible refine DW.block ?_)
    | (with_reducible refine DW.skip ?_)
    | (with_reducible refine DW.exit ?_)
    | (with_reducible refine DW.ret ?_)
    | (with_reducible refine DW.reg ?_)
    | (refine DW.dreg rfl (WF.of (by first | rfl | simp (disch := omega) only [go_sem, Nat.reduceLT, Nat.reduceLeDiff, Nat.reduceAdd, Nat.reduceMul, Nat.reduceEqDiff, ↓reduceIte, reduceCtorEq, Nat.reduceBEq, Nat.reduceBNe, Nat.reducePow, Int.reduceLE, Int.reduceLT, Int.reduceNeg, Int.reduceToNat, Int.reduceEq, Int.reduceAdd, Int.reduceSub, Int.reduceMul, Int.reduceBEq, Int.reduceBNe, bm_box, bm_row, bk_box, bk_row, hdj, hdj', hrn, h5, h5', ud5, Int.natCast_add, Int.natCast_one])) ?_)
    | (simp (disch := omega) only [go_sem, Nat.reduceLT, Nat.reduceLeDiff, Nat.reduceAdd, Nat.reduceMul, Nat.reduceEqDiff, ↓reduceIte, reduceCtorEq, Nat.reduceBEq, Nat.reduceBNe, Nat.reducePow, Int.reduceLE, Int.reduceLT, Int.reduceNeg, Int.reduceToNat, Int.reduceEq, Int.reduceAdd, Int.reduceSub, Int.reduceMul, Int.reduceBEq, Int.reduceBNe, bm_box, bm_row, bk_box, bk_row, hdj, hdj', hrn, h5, h5', ud5, Int.natCast_add, Int.natCast_one])
    | (exact retS_of rfl rfl rfl)
    | (refine DW.cond_tt rfl ?_)
    | (refine call_c (hsx) (by decide) ?_)
    | (refine call_c (hf) (by decide) ?_)
    | (refine DW.cond_ff rfl ?_)
    | (refine DW.cond rfl ?_ ?_ <;> intro hc <;> (try simp only [go_sem] at hc))
    | (refine g_split ?_ ?_ <;> intro hc <;> (try simp only [hc]) <;> (try simp only [go_sem] at hc)))
          refine ⟨⟨2, by omega⟩, ?_, Ent.to ?_ ?_⟩ <;> first | (show _ < _; (try simp only); omega) | (simp (disch := omega) only [wkT_cons, wkX_cons, wkT_nil, wkX_nil, get, Nat.reduceEqDiff, ↓reduceIte, ex_some, wk_self, wk_top, wk_nil, wkB_self, and_self, dI, i64_in, and_true, true_and, Int.natCast_add, Int.natCast_one, Int.ofNat_zero, Int.natCast_zero])
          all_goals exact .refl _
        · have h5 : decide ((50 : Int) < ((n + 1 : Nat) : Int)) = true := by rw [decide_eq_true_eq]; omega
          have h5' : decide ((50 : Int) < (n : Int) + 1) = true := by rw [decide_eq_true_eq]; omega
          have hdj' : decide ((n : Int) + 1 < H + 1) = false := by rw [decide_eq_false_iff_not]; omega
          simp only [Nat.zero_add] at hdj ⊢
          repeat' (first
    | (with_reducible refine DW.seq ?_)
    | (with_reducible refine DW.block ?_)
    | (with_reducible refine DW.skip ?_)
    | (with_reducible refine DW.exit ?_)
    | (with_reducible refine DW.ret ?_)
    | (with_reducible refine DW.reg ?_)
    | (refine DW.dreg rfl (WF.of (by first | rfl | simp (disch := omega) only [go_sem, Nat.reduceLT, Nat.reduceLeDiff, Nat.reduceAdd, Nat.reduceMul, Nat.reduceEqDiff, ↓reduceIte, reduceCtorEq, Nat.reduceBEq, Nat.reduceBNe, Nat.reducePow, Int.reduceLE, Int.reduceLT, Int.reduceNeg, Int.reduceToNat, Int.reduceEq, Int.reduceAdd, Int.reduceSub, Int.reduceMul, Int.reduceBEq, Int.reduceBNe, bm_box, bm_row, bk_box, bk_row, hdj, hdj', hrn, h5, h5', Int.natCast_add, Int.natCast_one])) ?_)
    | (simp (disch := omega) only [go_sem, Nat.reduceLT, Nat.reduceLeDiff, Nat.reduceAdd, Nat.reduceMul, Nat.reduceEqDiff, ↓reduceIte, reduceCtorEq, Nat.reduceBEq, Nat.reduceBNe, Nat.reducePow, Int.reduceLE, Int.reduceLT, Int.reduceNeg, Int.reduceToNat, Int.reduceEq, Int.reduceAdd, Int.reduceSub, Int.reduceMul, Int.reduceBEq, Int.reduceBNe, bm_box, bm_row, bk_box, bk_row, hdj, hdj', hrn, h5, h5', Int.natCast_add, Int.natCast_one])
    | (exact retS_of rfl rfl rfl)
    | (refine DW.cond_tt rfl ?_)
    | (refine DW.cond_ff rfl ?_)
    | (refine DW.cond rfl ?_ ?_ <;> intro hc <;> (try simp only [go_sem] at hc))
    | (refine g_split ?_ ?_ <;> intro hc <;> (try simp only [hc]) <;> (try simp only [go_sem] at hc)))
          refine ⟨⟨2, by omega⟩, ?_, Ent.to ?_ ?_⟩ <;> first | (show _ < _; (try simp only); omega) | (simp (disch := omega) only [wkT_cons, wkX_cons, wkT_nil, wkX_nil, get, Nat.reduceEqDiff, ↓reduceIte, ex_some, wk_self, wk_top, wk_nil, wkB_self, and_self, dI, i64_in, and_true, true_and, Int.natCast_add, Int.natCast_one, Int.ofNat_zero, Int.natCast_zero])
          all_goals exact .refl _
      · omega
    obtain rfl : k = 2 := by omega
    have hd : decide (((2 : Nat) : Int) < 2) = false := by decide
    clear hfa hrep hrl hs7 hs0' hhi
    repeat' (first
    | (with_reducible refine DW.seq ?_)
    | (with_reducible refine DW.block ?_)
    | (with_reducible refine DW.skip ?_)
    | (with_reducible refine DW.exit ?_)
    | (with_reducible refine DW.ret ?_)
    | (with_reducible refine DW.reg ?_)
    | (refine DW.dreg rfl (WF.of (by first | rfl | simp (disch := omega) only [go_sem, Nat.reduceLT, Nat.reduceLeDiff, Nat.reduceAdd, Nat.reduceMul, Nat.reduceEqDiff, ↓reduceIte, reduceCtorEq, Nat.reduceBEq, Nat.reduceBNe, Nat.reducePow, Int.reduceLE, Int.reduceLT, Int.reduceNeg, Int.reduceToNat, Int.reduceEq, Int.reduceAdd, Int.reduceSub, Int.reduceMul, Int.reduceBEq, Int.reduceBNe, bm_box, bm_row, bk_box, bk_row, hd])) ?_)
    | (simp (disch := omega) only [go_sem, Nat.reduceLT, Nat.reduceLeDiff, Nat.reduceAdd, Nat.reduceMul, Nat.reduceEqDiff, ↓reduceIte, reduceCtorEq, Nat.reduceBEq, Nat.reduceBNe, Nat.reducePow, Int.reduceLE, Int.reduceLT, Int.reduceNeg, Int.reduceToNat, Int.reduceEq, Int.reduceAdd, Int.reduceSub, Int.reduceMul, Int.reduceBEq, Int.reduceBNe, bm_box, bm_row, bk_box, bk_row, hd])
    | (exact retS_of rfl rfl rfl)
    | (refine DW.cond_tt rfl ?_)
    | (refine DW.cond_ff rfl ?_)
    | (refine DW.cond rfl ?_ ?_ <;> intro hc <;> (try simp only [go_sem] at hc))
    | (refine g_split ?_ ?_ <;> intro hc <;> (try simp only [hc]) <;> (try simp only [go_sem] at hc)))
    (refine call_r (hbr) (by decide) (by first | rfl | simp (disch := omega) only [go_sem, Nat.reduceLT, Nat.reduceLeDiff, Nat.reduceAdd, Nat.reduceMul, Nat.reduceEqDiff, ↓reduceIte, reduceCtorEq, Nat.reduceBEq, Nat.reduceBNe, Nat.reducePow, Int.reduceLE, Int.reduceLT, Int.reduceNeg, Int.reduceToNat, Int.reduceEq, Int.reduceAdd, Int.reduceSub, Int.reduceMul, Int.reduceBEq, Int.reduceBNe, bm_box, bm_row, bk_box, bk_row]) (by first | rfl | simp (disch := omega) only [go_sem, Nat.reduceLT, Nat.reduceLeDiff, Nat.reduceAdd, Nat.reduceMul, Nat.reduceEqDiff, ↓reduceIte, reduceCtorEq, Nat.reduceBEq, Nat.reduceBNe, Nat.reducePow, Int.reduceLE, Int.reduceLT, Int.reduceNeg, Int.reduceToNat, Int.reduceEq, Int.reduceAdd, Int.reduceSub, Int.reduceMul, Int.reduceBEq, Int.reduceBNe, bm_box, bm_row, bk_box, bk_row]) ?_; simp (disch := omega) only [go_sem, Nat.reduceLT, Nat.reduceLeDiff, Nat.reduceAdd, Nat.reduceMul, Nat.reduceEqDiff, ↓reduceIte, reduceCtorEq, Nat.reduceBEq, Nat.reduceBNe, Nat.reducePow, Int.reduceLE, Int.reduceLT, Int.reduceNeg, Int.reduceToNat, Int.reduceEq, Int.reduceAdd, Int.reduceSub, Int.reduceMul, Int.reduceBEq, Int.reduceBNe, bm_box, bm_row, bk_box, bk_row])
    have f1 := laSpan (o1 + (v0 : Int)) (o2 + (v0 : Int))
    have f2 := laSpan (mx0 (o3 - (v1 : Int))) (mx0 (o4 - (v1 : Int)))
    have w1 := hok2.strong
    have w2 := hok2.weight
    have w3 := hone.strong
    have w4 := hone.weight
    simp only at w1 w2 w3 w4
    have ht : ((v2 : Int)).tmod (l.length : Int) = ((v2 % l.length : Nat) : Int) := tmodN v2 l.length
    have hjl : v2 % l.length < l.length := Nat.mod_lt _ hl0
    have hzl : ((l.length : Int) = 0) = False := eq_false (by omega)
    generalize v2 % l.length = j at *
    have hjt : (j < l.length) = True := eq_true hjl
    obtain ⟨bb, hbj⟩ := getE (l := l) (i := j) hjl
    have hbok := hlo bb (List.mem_of_getElem? hbj)
    have hbb := hlb bb (List.mem_of_getElem? hbj)
    obtain ⟨b1, b2, b3, b4⟩ := bb
    simp only at hbb
    obtain ⟨hok3, hle3⟩ := better_ok (s := (v0 : Int)) (w := (v1 : Int)) hbok (by omega) (by omega) (by omega)
    have f3 := laSpan (b1 + (v0 : Int)) (b2 + (v0 : Int))
    have f4 := laSpan (mx0 (b3 - (v1 : Int))) (mx0 (b4 - (v1 : Int)))
    have u1 := hok3.strong
    have u2 := hok3.weight
    have u3 := hbok.strong
    have u4 := hbok.weight
    simp only at u1 u2 u3 u4
    have hlo2 : ∀ b ∈ List.set l j ⟨b1 + (v0 : Int), b2 + (v0 : Int), mx0 (b3 - (v1 : Int)), mx0 (b4 - (v1 : Int))⟩, b.ok := fun b hb => by
      rcases List.mem_or_eq_of_mem_set hb with hb | rfl
      · exact hlo b hb
      · exact hok3
    have hLe : LeLs l (List.set l j ⟨b1 + (v0 : Int), b2 + (v0 : Int), mx0 (b3 - (v1 : Int)), mx0 (b4 - (v1 : Int))⟩) := ⟨by rw [List.length_set], fun i b c hb hc => by
      by_cases hji : j = i
      · subst hji
        rw [hbj] at hb; cases hb
        rw [List.getElem?_set_self hjl] at hc; cases hc
        exact hle3
      · rw [List.getElem?_set_ne hji, hb] at hc; cases hc; exact LeB.refl _⟩
    have hmm := most_mono hlo (by omega) hLe hkb.1 hkk
    have hmo2 := crMost _ hlo2 (by rw [List.length_set]; omega) t ((days : Int) - r) htb2
    generalize mostI l (lastI (days : Int) t 0) = Ma at *
    generalize mostI _ (lastI ((days : Int) - r) t 0) = Mc at *
    have h4 : decide ((Ma.length : Int) ≤ (Mc.length : Int)) = true := by rw [decide_eq_true_eq]; omega
    have hset : ∀ X, (List.set l j X)[j]? = some X := fun X => List.getElem?_set_self hjl
    repeat' (first
    | (with_reducible refine DW.seq ?_)
    | (with_reducible refine DW.block ?_)
    | (with_reducible refine DW.skip ?_)
    | (with_reducible refine DW.exit ?_)
    | (with_reducible refine DW.ret ?_)
    | (with_reducible refine DW.reg ?_)
    | (refine DW.dreg rfl (WF.of (by first | rfl | simp (disch := omega) only [go_sem, Nat.reduceLT, Nat.reduceLeDiff, Nat.reduceAdd, Nat.reduceMul, Nat.reduceEqDiff, ↓reduceIte, reduceCtorEq, Nat.reduceBEq, Nat.reduceBNe, Nat.reducePow, Int.reduceLE, Int.reduceLT, Int.reduceNeg, Int.reduceToNat, Int.reduceEq, Int.reduceAdd, Int.reduceSub, Int.reduceMul, Int.reduceBEq, Int.reduceBNe, bm_box, bm_row, bk_box, bk_row, eN, List.map_cons, List.map_nil, ud5, hr, hz, mx0_if, hd0, ht, hzl, hjt, hbj, rowC_setLd, List.set_set, List.length_set, hset])) ?_)
    | (simp (disch := omega) only [go_sem, Nat.reduceLT, Nat.reduceLeDiff, Nat.reduceAdd, Nat.reduceMul, Nat.reduceEqDiff, ↓reduceIte, reduceCtorEq, Nat.reduceBEq, Nat.reduceBNe, Nat.reducePow, Int.reduceLE, Int.reduceLT, Int.reduceNeg, Int.reduceToNat, Int.reduceEq, Int.reduceAdd, Int.reduceSub, Int.reduceMul, Int.reduceBEq, Int.reduceBNe, bm_box, bm_row, bk_box, bk_row, eN, List.map_cons, List.map_nil, ud5, hr, hz, mx0_if, hd0, ht, hzl, hjt, hbj, rowC_setLd, List.set_set, List.length_set, hset])
    | (exact retS_of rfl rfl rfl)
    | (refine DW.cond_tt rfl ?_)
    | (refine call_c (f1) (by decide) ?_)
    | (refine call_c (f2) (by decide) ?_)
    | (refine call_c (hsx) (by decide) ?_)
    | (refine call_c (hhi2) (by decide) ?_)
    | (refine call_c (hbx) (by decide) ?_)
    | (refine call_c (hmo) (by decide) ?_)
    | (refine call_c (f3) (by decide) ?_)
    | (refine call_c (f4) (by decide) ?_)
    | (refine DW.cond_ff rfl ?_)
    | (refine DW.cond rfl ?_ ?_ <;> intro hc <;> (try simp only [go_sem] at hc))
    | (refine g_split ?_ ?_ <;> intro hc <;> (try simp only [hc]) <;> (try simp only [go_sem] at hc)))
    refine call_e (Ent.rel 96 rfl) hmo2 rfl (by simp (disch := omega) only [go_sem, Nat.reduceLT, Nat.reduceLeDiff, Nat.reduceAdd, Nat.reduceMul, Nat.reduceEqDiff, ↓reduceIte, reduceCtorEq, Nat.reduceBEq, Nat.reduceBNe, Nat.reducePow, Int.reduceLE, Int.reduceLT, Int.reduceNeg, Int.reduceToNat, Int.reduceEq, Int.reduceAdd, Int.reduceSub, Int.reduceMul, Int.reduceBEq, Int.reduceBNe, bm_box, bm_row, bk_box, bk_row, List.map_cons, List.map_nil, List.nil_append, List.append_nil]) (by decide) ?_
    simp (disch := omega) only [go_sem, Nat.reduceLT, Nat.reduceLeDiff, Nat.reduceAdd, Nat.reduceMul, Nat.reduceEqDiff, ↓reduceIte, reduceCtorEq, Nat.reduceBEq, Nat.reduceBNe, Nat.reducePow, Int.reduceLE, Int.reduceLT, Int.reduceNeg, Int.reduceToNat, Int.reduceEq, Int.reduceAdd, Int.reduceSub, Int.reduceMul, Int.reduceBEq, Int.reduceBNe, bm_box, bm_row, bk_box, bk_row]
    repeat' (first
    | (with_reducible refine DW.seq ?_)
    | (with_reducible refine DW.block ?_)
    | (with_reducible refine DW.skip ?_)
    | (with_reducible refine DW.exit ?_)
    | (with_reducible refine DW.ret ?_)
    | (with_reducible refine DW.reg ?_)
    | (refine DW.dreg rfl (WF.of (by first | rfl | simp (disch := omega) only [go_sem, Nat.reduceLT, Nat.reduceLeDiff, Nat.reduceAdd, Nat.reduceMul, Nat.reduceEqDiff, ↓reduceIte, reduceCtorEq, Nat.reduceBEq, Nat.reduceBNe, Nat.reducePow, Int.reduceLE, Int.reduceLT, Int.reduceNeg, Int.reduceToNat, Int.reduceEq, Int.reduceAdd, Int.reduceSub, Int.reduceMul, Int.reduceBEq, Int.reduceBNe, bm_box, bm_row, bk_box, bk_row, h3, h4])) ?_)
    | (simp (disch := omega) only [go_sem, Nat.reduceLT, Nat.reduceLeDiff, Nat.reduceAdd, Nat.reduceMul, Nat.reduceEqDiff, ↓reduceIte, reduceCtorEq, Nat.reduceBEq, Nat.reduceBNe, Nat.reducePow, Int.reduceLE, Int.reduceLT, Int.reduceNeg, Int.reduceToNat, Int.reduceEq, Int.reduceAdd, Int.reduceSub, Int.reduceMul, Int.reduceBEq, Int.reduceBNe, bm_box, bm_row, bk_box, bk_row, h3, h4])
    | (exact retS_of rfl rfl rfl)
    | (refine DW.cond_tt rfl ?_)
    | (refine call_c (hk) (by decide) ?_)
    | (refine DW.cond_ff rfl ?_)
    | (refine DW.cond rfl ?_ ?_ <;> intro hc <;> (try simp only [go_sem] at hc))
    | (refine g_split ?_ ?_ <;> intro hc <;> (try simp only [hc]) <;> (try simp only [go_sem] at hc)))
end Go.Dw.Seat
end
section
set_option linter.unusedSimpArgs false
set_option maxRecDepth 100000
namespace Go.Dw.Seat
open Go Go.Dw Go.Proofs Go.ChangeShapes Go.WideShapes Go.ChangeAt Go.RowKit
set_option maxHeartbeats 800000 in
theorem crushMoreLifted (os : Os) (started : os.Started) (H : Type) (enc : TypeId × Value → H) :
    ReturnsInHanded {} Tryd.checked os 15 .any (fun w args => (YtmkkedldhafjfaaDoor.Rows.crushMoreSpec.pre enc Tryd.prog Tryd.f15 [] false w args ∧ laidMetH Tryd.prog laid2 w) ∧ sizedMet enc Tryd.prog Tryd.f15 (OpenSpec.ofChange YtmkkedldhafjfaaDoor.Rows.crushMoreSpec) false w args) (YtmkkedldhafjfaaDoor.Rows.crushMoreSpec.post enc Tryd.prog Tryd.f15 false true false false) := by
  refine returnsInHanded_of_change_and (C := Tryd.checked) (X := fun w _ => laidMetH Tryd.prog laid2 w) (fun _ _ _ hh h => h.of_heap hh) tOwn started (by kernel_rfl) Tryd.func15
    (ChangeSpec.witness_shaped (enc := enc) (C := Tryd.checked) (os := os) (X := fun w _ => laidMetH Tryd.prog laid2 w) false (World.doorLaid Tryd.prog 400 os) #[.agg #[.slice none 0 0, .slice none 0 0], .agg #[.int .u8 0, .int .u8 0, .int .u8 0], .int .u8 0] 8 rfl (World.shaped_of_RefB (by kernel_rfl) (by kernel_rfl)) (by kernel_rfl) (by kernel_rfl) (by kernel_rfl) (door_met os _)) ?_
  intro W base args ds gs before hval0 hW _ _ hL _
  have hval : ∀ (j : Nat) t v, Tryd.f15.params[j]? = some t → args[j]? = some v → Value.okWide Tryd.prog W .any base t v := hval0
  have hW' : DataW.Whole enc Tryd.prog Tryd.f15.params.toList [] false W args.toList ds gs before := hW
  obtain ⟨p, q, hA, hV, rfl, hfz, hnd⟩ := hW
  have hA : DataW.TrodAll enc Tryd.prog W 0 (fun _ => true) true [105, 94, 5] args.toList ds p := hA
  obtain ⟨rfl, rfl⟩ := trodVars_none hV
  obtain ⟨v0, vs0, d0, ds0, p0, q0, hargs, rfl, rfl, h0, r0⟩ := trodAll_cons hA
  obtain ⟨v1, vs1, d1, ds1, p1, q1, rfl, rfl, rfl, h1, r1⟩ := trodAll_cons r0
  obtain ⟨v2, vs2, d2, ds2, p2, q2, rfl, rfl, rfl, h2, r2⟩ := trodAll_cons r1
  obtain ⟨rfl, rfl, rfl⟩ := trodAll_nil r2
  obtain rfl : args = #[v0, v1, v2] := by cases args; simp_all
  obtain ⟨f0, hu0, _⟩ := structIs_spec u105
  obtain ⟨c0, rfl, _⟩ := okWide_struct hu0 (hval 0 105 v0 rfl rfl)
  obtain ⟨c1, rfl, _⟩ := okWide_array u94 (hval 1 94 v1 rfl rfl)
  obtain ⟨n2, rfl⟩ := okWide_int und5 (hval 2 5 v2 rfl rfl)
  obtain ⟨fu0, h0⟩ := h0
  obtain ⟨fu1, h1⟩ := h1
  obtain ⟨fu2, h2⟩ := h2
  obtain ⟨s0, ho0, hr0⟩ := rd_PileB h0
  have hr0 : RepVs W A0 (cPileB false s0) c0.toList := by simpa [Value.cells] using hr0
  obtain ⟨s1, ho1, hr1⟩ := rd_A3 h1
  have hr1 : RepVs W A0 (eN .u8 s1) c1.toList := by simpa [Value.cells] using hr1
  obtain ⟨s2, e2, ho2⟩ := rd_U8 h2
  have e2 : n2 = s2 := by simpa [Value.cells] using e2
  subst e2
  refine ((laMore s0 ho0 s1 ho1 s2 ho2).calls (W := W) (vs := [.agg c0, .agg c1, .int .u8 s2]) (laid_of hL) (fun G => ?_)).mono ?_
  · exact ⟨_, _, rfl, ⟨c0, rfl, RepDs.ofVs hr0⟩, _, _, rfl, ⟨c1, rfl, RepDs.ofVs hr1⟩, _, _, rfl, ⟨rfl, rfl⟩, rfl⟩
  · rintro e W' ⟨v, rfl, ⟨G', A', hr⟩, hb⟩
    obtain ⟨rfl, _⟩ := hr
    exact ⟨_, rfl, post_true tLaid (by decide +kernel) hW' hb rfl rfl u4 rfl rfl rfl⟩
theorem crushMoreHolds : YtmkkedldhafjfaaDoor.Rows.crushMoreRow.holds YtmkkedldhafjfaaDoor.Tryd.pinned (OpenSpec.ofChange YtmkkedldhafjfaaDoor.Rows.crushMoreSpec) :=
  OpenClaim.holds_of_wide 15 Tryd.f15 rfl rfl rfl rfl rfl rfl rfl ⟨rfl, rfl, rfl, rfl, rfl⟩ rfl rfl rfl rfl rfl (by kernel_rfl) Tryd.func15 (by kernel_rfl)
    (of_decide_eq_true (by kernel_rfl)) (by unfold Func.isWrapper; first | (rw [if_pos (by decide +kernel)]; kernel_rfl) | (rw [if_neg (by decide +kernel)]; exact ⟨rfl, rfl⟩))
    (fun os started H enc _ => crushMoreLifted os started H enc)
theorem crushMoreCard : Claim7.holds YtmkkedldhafjfaaDoor.Tryd.pinned (.plain (OpenSpec.ofChange YtmkkedldhafjfaaDoor.Rows.crushMoreSpec)) YtmkkedldhafjfaaDoor.Rows.crushMoreCard :=
  Claim7.holds_tied_plain_at .later [] [.data, .data] true YtmkkedldhafjfaaDoor.Rows.crushMoreCard.stood.harness false
    crushMoreHolds (fun _ h => by cases h) (by kernel_rfl) (fun _ h => by cases h) YtmkkedldhafjfaaDoor.crushMore_row_tie rfl ⟨rfl, rfl⟩ (by kernel_rfl) rfl
    (fun f fn hf hfn => by
      obtain rfl : f = 15 := Option.some.inj ((show Tryd.prog.funcNamed YtmkkedldhafjfaaDoor.Rows.crushMoreRow.func = some 15 by kernel_rfl).symm.trans hf) |>.symm
      obtain rfl : fn = Tryd.f15 := (Option.some.inj (Tryd.func15.symm.trans hfn)).symm
      refine ⟨by kernel_rfl, fun j t ht => ?_⟩
      have hm : t ∈ Tryd.f15.params.toList := by simpa using Array.mem_of_getElem? ht
      have hall : (Tryd.f15.params.toList.all fun u => !Tryd.prog.wantsStandIn u) = true := by kernel_rfl
      exact (show Tryd.prog.wantsStandIn t = false by simpa using List.all_eq_true.1 hall t hm))
    (by kernel_rfl)
end Go.Dw.Seat
namespace Go.Proofs.YtmkkedldhafjfaaDoor
theorem crushMoreCardSaid : Rows.CrushMoreCardSaid := Go.Dw.Seat.crushMoreCard
end Go.Proofs.YtmkkedldhafjfaaDoor
end
