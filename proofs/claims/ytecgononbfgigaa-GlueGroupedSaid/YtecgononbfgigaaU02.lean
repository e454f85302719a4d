/- Helpers of a proof. -/
import Derived.Test.YtecgononbfgigaaU01
set_option linter.unusedVariables false
set_option linter.unusedSimpArgs false
section
set_option linter.unusedSimpArgs false
set_option maxRecDepth 100000
namespace Go.Dw.Seat
open Go Go.Dw Go.Proofs Go.IntWalk
def dupAt : List Int → Nat → Option Nat
  | a :: b :: l, k => if b = a then some (k + 1) else dupAt (b :: l) (k + 1)
  | _, _ => none
def keptTo (s : List Int) (m : Nat) : List Int := (((s.tail.zip s).take m).filter fun q => decide (q.1 ≠ q.2)).map (·.1)
def cpt (l : List Int) : List Int := match dupAt l 0 with
  | none => l
  | some k => l.take k ++ keptTo (l.drop k) ((l.drop k).length - 1)
theorem dupAt_some : ∀ {l : List Int} {k i : Nat}, (∀ j a b, j < i → l[j]? = some a → l[j + 1]? = some b → b ≠ a) → ∀ {a : Int}, l[i]? = some a → l[i + 1]? = some a → dupAt l k = some (k + i + 1)
  | [], _, _, _, _, h, _ => by simp at h
  | [_], _, _, _, _, _, h => by simp at h
  | x :: y :: l, k, 0, _, a, h1, h2 => by
    simp at h1 h2; subst h1; subst h2
    simp [dupAt]
  | x :: y :: l, k, i + 1, h, a, h1, h2 => by
    have h0 := h 0 x y (by omega) rfl rfl
    have := dupAt_some (l := y :: l) (k := k + 1) (i := i) (fun j a b hj ha hb => h (j + 1) a b (by omega) ha hb) (by simpa using h1) (by simpa using h2)
    simp only [dupAt, h0, if_false, this]
    congr 1; omega
theorem dupAt_none : ∀ {l : List Int} {k : Nat}, (∀ j a b, l[j]? = some a → l[j + 1]? = some b → b ≠ a) → dupAt l k = none
  | [], _, _ => rfl
  | [_], _, _ => rfl
  | x :: y :: l, k, h => by
    have h0 := h 0 x y rfl rfl
    simp only [dupAt, h0, if_false]
    exact dupAt_none (l := y :: l) (fun j a b ha hb => h (j + 1) a b ha hb)
theorem keptTo_len (s : List Int) (m : Nat) : (keptTo s m).length ≤ m := by
  simp only [keptTo, List.length_map]
  refine Nat.le_trans (List.length_filter_le _ _) ?_
  rw [List.length_take]; omega
theorem keptTo_succ {s : List Int} {m : Nat} {a b : Int} (ha : s[m]? = some a) (hb : s[m + 1]? = some b) : keptTo s (m + 1) = keptTo s m ++ if b = a then [] else [b] := by
  have hz : (s.tail.zip s)[m]? = some (b, a) := by
    rw [List.getElem?_zip_eq_some]
    exact ⟨by rw [List.getElem?_tail]; exact hb, ha⟩
  simp only [keptTo, List.take_add_one, hz, List.filter_append, List.map_append, Option.toList_some]
  congr 1
  by_cases h : b = a <;> simp [h]
structure Cp (l : List Int) (K m : Nat) (cur : List Int) : Prop where
  le : K + m + 1 ≤ l.length
  len : cur.length = l.length
  tk : cur.take (K + (keptTo (l.drop K) m).length) = l.take K ++ keptTo (l.drop K) m
  dr : cur.drop (K + m) = l.drop (K + m)
theorem drop_get {l cur : List Int} {i j : Nat} (h : cur.drop i = l.drop i) (hj : i ≤ j) : cur[j]? = l[j]? := by
  have h1 : (cur.drop i)[j - i]? = (l.drop i)[j - i]? := by rw [h]
  rw [List.getElem?_drop, List.getElem?_drop] at h1
  rwa [show i + (j - i) = j by omega] at h1
theorem Cp.step {l : List Int} {K m : Nat} {cur : List Int} {a b : Int} (h : Cp l K m cur) (hlt : K + m + 1 < l.length) (ha : l[K + m]? = some a) (hb : l[K + m + 1]? = some b) :
    (b = a → Cp l K (m + 1) cur ∧ (keptTo (l.drop K) (m + 1)).length = (keptTo (l.drop K) m).length) ∧
    (b ≠ a → Cp l K (m + 1) (cur.set (K + (keptTo (l.drop K) m).length) b) ∧ (keptTo (l.drop K) (m + 1)).length = (keptTo (l.drop K) m).length + 1) := by
  have hk := keptTo_succ (s := l.drop K) (m := m) (a := a) (b := b) (by rw [List.getElem?_drop]; exact ha) (by rw [List.getElem?_drop]; exact hb)
  have h1 := keptTo_len (l.drop K) m
  have h2 := h.tk
  have h3 := h.len
  have h4 : cur.drop (K + (m + 1)) = l.drop (K + (m + 1)) := by
    have := congrArg (List.drop 1) h.dr
    simpa [List.drop_drop, Nat.add_assoc] using this
  generalize keptTo (l.drop K) m = f at *
  constructor
  · intro hba
    rw [if_pos hba, List.append_nil] at hk
    exact ⟨⟨by omega, h3, by rw [hk]; exact h2, h4⟩, by rw [hk]⟩
  · intro hba
    rw [if_neg hba] at hk
    refine ⟨⟨by omega, by simp [h3], ?_, ?_⟩, by rw [hk]; simp⟩
    · rw [hk]
      simp only [List.length_append, List.length_cons, List.length_nil, ← Nat.add_assoc]
      rw [List.take_add_one, List.take_set_of_le (Nat.le_refl _), h2, List.getElem?_set_self (by omega), List.append_assoc]
      rfl
    · rw [List.drop_set_of_lt (by omega)]
      exact h4
theorem Cp.fin {l : List Int} {K m : Nat} {cur : List Int} (h : Cp l K m cur) (hm : m + 1 = (l.drop K).length) (hd : dupAt l 0 = some K) : cur.take (K + (keptTo (l.drop K) m).length) = cpt l := by
  unfold cpt
  rw [hd, h.tk]
  dsimp only
  rw [← hm, Nat.add_sub_cancel]
theorem c117 (l : List Int) (hl : l.length ≤ 2 ^ 36) : DCall Try.prog 117 [.own 0] [(0, .row 1 (rowC (rows eI l)))] (.own 0) [(0, .row 1 (rowC (rows eI (cpt l))))] := by
  rcases Nat.lt_or_ge l.length 2 with hs | hs
  · have hc : cpt l = l := by
      cases l with
      | nil => rfl
      | cons a l => cases l with
        | nil => rfl
        | cons b l => simp at hs; omega
    have hd : decide ((l.length : Int) < 2) = true := by rw [decide_eq_true_eq]; omega
    refine DCall.of Try.func117 sf117 hb117 (Nat.le_of_ble_eq_true rfl) okRes_row ?_; simp only [s117, Mv, Sg, Ld, Fa, Xt, Ix, Ln, Cl, Oo, Og, idxs, Nat.reduceAdd]
    repeat' (first
    | (with_reducible refine DW.seq ?_)
    | (with_reducible refine DW.block ?_)
    | (with_reducible refine DW.skip ?_)
    | (with_reducible refine DW.exit ?_)
    | (with_reducible refine DW.ret ?_)
    | (with_reducible refine DW.reg ?_)
    | (refine DW.dreg rfl (WF.of (by first | rfl | simp (disch := omega) only [go_sem, Nat.reduceLT, Nat.reduceLeDiff, Nat.reduceAdd, Nat.reduceMul, Nat.reduceEqDiff, ↓reduceIte, reduceCtorEq, Nat.reduceBEq, Nat.reduceBNe, Nat.reducePow, Int.reduceLE, Int.reduceLT, Int.reduceNeg, Int.reduceToNat, Int.reduceEq, Int.reduceAdd, Int.reduceSub, Int.reduceMul, Int.reduceBEq, Int.reduceBNe, Blk.men, Blk.keysIn, hd])) ?_)
    | (simp (disch := omega) only [go_sem, Nat.reduceLT, Nat.reduceLeDiff, Nat.reduceAdd, Nat.reduceMul, Nat.reduceEqDiff, ↓reduceIte, reduceCtorEq, Nat.reduceBEq, Nat.reduceBNe, Nat.reducePow, Int.reduceLE, Int.reduceLT, Int.reduceNeg, Int.reduceToNat, Int.reduceEq, Int.reduceAdd, Int.reduceSub, Int.reduceMul, Int.reduceBEq, Int.reduceBNe, Blk.men, Blk.keysIn, hd])
    | (exact retS_of rfl rfl rfl)
    | (refine DW.cond_tt rfl ?_)
    | (refine DW.cond_ff rfl ?_)
    | (refine DW.cond rfl ?_ ?_ <;> intro hc <;> (try simp only [go_sem] at hc))
    | (refine g_split ?_ ?_ <;> intro hc <;> (try simp only [hc]) <;> (try simp only [go_sem] at hc)))
    rw [hc]
    exact retS_row rfl rfl (rowC_nb (rows_nb eI_nb l))
  have hd : decide ((l.length : Int) < 2) = false := by rw [decide_eq_false_iff_not]; omega
  refine DCall.of Try.func117 sf117 hb117 (Nat.le_of_ble_eq_true rfl) okRes_row ?_; simp only [s117, Mv, Sg, Ld, Fa, Xt, Ix, Ln, Cl, Oo, Og, idxs, Nat.reduceAdd]
  repeat' (first
    | (with_reducible refine DW.seq ?_)
    | (with_reducible refine DW.block ?_)
    | (with_reducible refine DW.skip ?_)
    | (with_reducible refine DW.exit ?_)
    | (with_reducible refine DW.ret ?_)
    | (with_reducible refine DW.reg ?_)
    | (refine DW.dreg rfl (WF.of (by first | rfl | simp (disch := omega) only [go_sem, Nat.reduceLT, Nat.reduceLeDiff, Nat.reduceAdd, Nat.reduceMul, Nat.reduceEqDiff, ↓reduceIte, reduceCtorEq, Nat.reduceBEq, Nat.reduceBNe, Nat.reducePow, Int.reduceLE, Int.reduceLT, Int.reduceNeg, Int.reduceToNat, Int.reduceEq, Int.reduceAdd, Int.reduceSub, Int.reduceMul, Int.reduceBEq, Int.reduceBNe, Blk.men, Blk.keysIn, hd])) ?_)
    | (simp (disch := omega) only [go_sem, Nat.reduceLT, Nat.reduceLeDiff, Nat.reduceAdd, Nat.reduceMul, Nat.reduceEqDiff, ↓reduceIte, reduceCtorEq, Nat.reduceBEq, Nat.reduceBNe, Nat.reducePow, Int.reduceLE, Int.reduceLT, Int.reduceNeg, Int.reduceToNat, Int.reduceEq, Int.reduceAdd, Int.reduceSub, Int.reduceMul, Int.reduceBEq, Int.reduceBNe, Blk.men, Blk.keysIn, hd])
    | (exact retS_of rfl rfl rfl)
    | (refine DW.cond_tt rfl ?_)
    | (refine DW.cond_ff rfl ?_)
    | (refine DW.cond rfl ?_ ?_ <;> intro hc <;> (try simp only [go_sem] at hc))
    | (refine g_split ?_ ?_ <;> intro hc <;> (try simp only [hc]) <;> (try simp only [go_sem] at hc)))
  refine DW.loop (ι := { k : Nat // k + 1 ≤ l.length ∧ ∀ j, j < k → ∀ a b, l[j]? = some a → l[j + 1]? = some b → b ≠ a }) (fun k => ⟨61, [(3, dI ((k.1 : Int) + 1)), (0, .own 0)], [(0, .row 1 (rowC (rows eI l)))]⟩) (fun k => l.length - k.1) ⟨0, by omega, fun j h => by omega⟩ ?_ ?_
  · refine Ent.to ?_ ?_ <;> simp (disch := omega) only [wkT_cons, wkX_cons, wkT_nil, wkX_nil, get, Nat.reduceEqDiff, ↓reduceIte, ex_some, wk_self, wk_top, wk_nil, wkB_self, and_self, dI, i64_in, and_true, true_and, Int.natCast_add, Int.natCast_one, Int.ofNat_zero, Int.natCast_zero, Int.zero_add]
  rintro ⟨k, hk, hno⟩
  obtain ⟨a, ha⟩ : ∃ a, l[k]? = some a := getE (by omega)
  have e1 : ((k : Int) + 1) - 1 = k := by omega
  rcases Nat.lt_or_ge (k + 1) l.length with hlt | hge
  · obtain ⟨b, hb⟩ : ∃ b, l[k + 1]? = some b := getE hlt
    have hd1 : decide ((k : Int) + 1 < (l.length : Int)) = true := by rw [decide_eq_true_eq]; omega
    have hk1 : k < l.length := by omega
    repeat' (first
    | (with_reducible refine DW.seq ?_)
    | (with_reducible refine DW.block ?_)
    | (with_reducible refine DW.skip ?_)
    | (with_reducible refine DW.exit ?_)
    | (with_reducible refine DW.ret ?_)
    | (with_reducible refine DW.reg ?_)
    | (refine DW.dreg rfl (WF.of (by first | rfl | simp (disch := omega) only [go_sem, Nat.reduceLT, Nat.reduceLeDiff, Nat.reduceAdd, Nat.reduceMul, Nat.reduceEqDiff, ↓reduceIte, reduceCtorEq, Nat.reduceBEq, Nat.reduceBNe, Nat.reducePow, Int.reduceLE, Int.reduceLT, Int.reduceNeg, Int.reduceToNat, Int.reduceEq, Int.reduceAdd, Int.reduceSub, Int.reduceMul, Int.reduceBEq, Int.reduceBNe, Blk.men, Blk.keysIn, hd1, hb, ha, e1, hlt, hk1])) ?_)
    | (simp (disch := omega) only [go_sem, Nat.reduceLT, Nat.reduceLeDiff, Nat.reduceAdd, Nat.reduceMul, Nat.reduceEqDiff, ↓reduceIte, reduceCtorEq, Nat.reduceBEq, Nat.reduceBNe, Nat.reducePow, Int.reduceLE, Int.reduceLT, Int.reduceNeg, Int.reduceToNat, Int.reduceEq, Int.reduceAdd, Int.reduceSub, Int.reduceMul, Int.reduceBEq, Int.reduceBNe, Blk.men, Blk.keysIn, hd1, hb, ha, e1, hlt, hk1])
    | (exact retS_of rfl rfl rfl)
    | (refine DW.cond_tt rfl ?_)
    | (refine DW.cond_ff rfl ?_)
    | (refine DW.cond rfl ?_ ?_ <;> intro hc <;> (try simp only [go_sem] at hc))
    | (refine g_split ?_ ?_ <;> intro hc <;> (try simp only [hc]) <;> (try simp only [go_sem] at hc)))
    · have hba : b = a := by simpa using hc
      subst hba
      have hdup : dupAt l 0 = some (k + 1) := by
        have := dupAt_some (k := 0) (fun j a b h1 => hno j h1 a b) ha hb
        simpa using this
      have hsl : (l.drop (k + 1)).length = l.length - (k + 1) := List.length_drop
      refine DW.loop (ι := { s : Nat × List Int // Cp l (k + 1) s.1 s.2 }) (fun s => ⟨61, [(5, dI ((s.1.1 : Int) + 1)), (4, .win 0 1 (k + 1) l.length), (3, dI ((k + 1 + (keptTo (l.drop (k + 1)) s.1.1).length : Nat) : Int)), (0, .own 0)], [(0, .row 1 (rowC (rows eI s.1.2)))]⟩)
        (fun s => l.length - s.1.1) ⟨(0, l), ⟨by omega, rfl, by simp [keptTo], rfl⟩⟩ ?_ ?_
      · have h0 : (keptTo (l.drop (k + 1)) 0).length = 0 := rfl
        refine Ent.to ?_ ?_ <;> simp (disch := omega) only [wkT_cons, wkX_cons, wkT_nil, wkX_nil, get, Nat.reduceEqDiff, ↓reduceIte, ex_some, wk_self, wk_top, wk_nil, wkB_self, and_self, dI, i64_in, and_true, true_and, Int.natCast_add, Int.natCast_one, Int.ofNat_zero, Int.natCast_zero, h0, Int.zero_add, Int.add_zero, Nat.add_zero]
      rintro ⟨⟨m, cur⟩, hC⟩
      have hle : k + 1 + m + 1 ≤ l.length := hC.le
      have hclen : cur.length = l.length := hC.len
      have hkl := keptTo_len (l.drop (k + 1)) m
      rcases Nat.lt_or_ge (k + 1 + m + 1) l.length with hlt2 | hge2
      · obtain ⟨x, hx⟩ : ∃ x, l[k + 1 + m]? = some x := getE (by omega)
        obtain ⟨y, hy⟩ : ∃ y, l[k + 1 + m + 1]? = some y := getE (by omega)
        have hcx : cur[k + 1 + m]? = some x := (drop_get hC.dr (Nat.le_refl _)).trans hx
        have hcy : cur[k + 1 + (m + 1)]? = some y := (drop_get hC.dr (by omega)).trans hy
        obtain ⟨hs1, hs2⟩ := hC.step hlt2 hx hy
        generalize hf : (keptTo (l.drop (k + 1)) m).length = f at *
        have hd2 : decide ((m : Int) + 1 < ((l.length - (k + 1) : Nat) : Int)) = true := by rw [decide_eq_true_eq]; omega
        have em : ((m : Int) + 1) - 1 = m := by omega
        have hl1 : k + 1 + (m + 1) < l.length := by omega
        have hl2 : k + 1 + m < l.length := by omega
        have hl3 : k + 1 + f < l.length := by omega
        obtain ⟨u, hu⟩ : ∃ u, cur[k + 1 + f]? = some u := getE (by omega)
        repeat' (first
    | (with_reducible refine DW.seq ?_)
    | (with_reducible refine DW.block ?_)
    | (with_reducible refine DW.skip ?_)
    | (with_reducible refine DW.exit ?_)
    | (with_reducible refine DW.ret ?_)
    | (with_reducible refine DW.reg ?_)
    | (refine DW.dreg rfl (WF.of (by first | rfl | simp (disch := omega) only [go_sem, Nat.reduceLT, Nat.reduceLeDiff, Nat.reduceAdd, Nat.reduceMul, Nat.reduceEqDiff, ↓reduceIte, reduceCtorEq, Nat.reduceBEq, Nat.reduceBNe, Nat.reducePow, Int.reduceLE, Int.reduceLT, Int.reduceNeg, Int.reduceToNat, Int.reduceEq, Int.reduceAdd, Int.reduceSub, Int.reduceMul, Int.reduceBEq, Int.reduceBNe, Blk.men, Blk.keysIn, hd2, hclen, em, hl1, hl2, hcx, hcy, Nat.le_refl, hl3, hu])) ?_)
    | (simp (disch := omega) only [go_sem, Nat.reduceLT, Nat.reduceLeDiff, Nat.reduceAdd, Nat.reduceMul, Nat.reduceEqDiff, ↓reduceIte, reduceCtorEq, Nat.reduceBEq, Nat.reduceBNe, Nat.reducePow, Int.reduceLE, Int.reduceLT, Int.reduceNeg, Int.reduceToNat, Int.reduceEq, Int.reduceAdd, Int.reduceSub, Int.reduceMul, Int.reduceBEq, Int.reduceBNe, Blk.men, Blk.keysIn, hd2, hclen, em, hl1, hl2, hcx, hcy, Nat.le_refl, hl3, hu])
    | (exact retS_of rfl rfl rfl)
    | (refine DW.cond_tt rfl ?_)
    | (refine DW.cond_ff rfl ?_)
    | (refine DW.cond rfl ?_ ?_ <;> intro hc <;> (try simp only [go_sem] at hc))
    | (refine g_split ?_ ?_ <;> intro hc <;> (try simp only [hc]) <;> (try simp only [go_sem] at hc)))
        · have h2 := hs2 hc
          have ec : (((k + 1 + f : Nat) : Int) + 1) = ((k + 1 + (f + 1) : Nat) : Int) := by omega
          refine ⟨⟨(m + 1, cur.set (k + 1 + f) y), h2.1⟩, ?_, Ent.to ?_ ?_⟩ <;> first | (show _ < _; (try simp only); omega) | (simp (disch := omega) only [wkT_cons, wkX_cons, wkT_nil, wkX_nil, get, Nat.reduceEqDiff, ↓reduceIte, ex_some, wk_self, wk_top, wk_nil, wkB_self, and_self, dI, i64_in, and_true, true_and, Int.natCast_add, Int.natCast_one, Int.ofNat_zero, Int.natCast_zero,  h2.2, ec])
          rw [← Int.add_assoc]; exact .refl _
        · have h1 := hs1 hc
          refine ⟨⟨(m + 1, cur), h1.1⟩, ?_, Ent.to ?_ ?_⟩ <;> first | (show _ < _; (try simp only); omega) | (simp (disch := omega) only [wkT_cons, wkX_cons, wkT_nil, wkX_nil, get, Nat.reduceEqDiff, ↓reduceIte, ex_some, wk_self, wk_top, wk_nil, wkB_self, and_self, dI, i64_in, and_true, true_and, Int.natCast_add, Int.natCast_one, Int.ofNat_zero, Int.natCast_zero,  h1.2])
      · have hml : m + 1 = (l.drop (k + 1)).length := by omega
        have hfin := hC.fin hml hdup
        generalize hf : (keptTo (l.drop (k + 1)) m).length = f at *
        have hd2 : decide ((m : Int) + 1 < ((l.length - (k + 1) : Nat) : Int)) = false := by rw [decide_eq_false_iff_not]; omega
        have hfl : k + 1 + f ≤ l.length := by omega
        have hlenc : (cpt l).length = k + 1 + f := by rw [← hfin, List.length_take]; dsimp only; omega
        dsimp only at hfin
        repeat' (first
    | (with_reducible refine DW.seq ?_)
    | (with_reducible refine DW.block ?_)
    | (with_reducible refine DW.skip ?_)
    | (with_reducible refine DW.exit ?_)
    | (with_reducible refine DW.ret ?_)
    | (with_reducible refine DW.reg ?_)
    | (refine DW.dreg rfl (WF.of (by first | rfl | simp (disch := omega) only [go_sem, Nat.reduceLT, Nat.reduceLeDiff, Nat.reduceAdd, Nat.reduceMul, Nat.reduceEqDiff, ↓reduceIte, reduceCtorEq, Nat.reduceBEq, Nat.reduceBNe, Nat.reducePow, Int.reduceLE, Int.reduceLT, Int.reduceNeg, Int.reduceToNat, Int.reduceEq, Int.reduceAdd, Int.reduceSub, Int.reduceMul, Int.reduceBEq, Int.reduceBNe, Blk.men, Blk.keysIn, hd2, hclen, hfl, Nat.le_refl, hfin, List.length_append, List.length_replicate, List.length_drop, hlenc])) ?_)
    | (simp (disch := omega) only [go_sem, Nat.reduceLT, Nat.reduceLeDiff, Nat.reduceAdd, Nat.reduceMul, Nat.reduceEqDiff, ↓reduceIte, reduceCtorEq, Nat.reduceBEq, Nat.reduceBNe, Nat.reducePow, Int.reduceLE, Int.reduceLT, Int.reduceNeg, Int.reduceToNat, Int.reduceEq, Int.reduceAdd, Int.reduceSub, Int.reduceMul, Int.reduceBEq, Int.reduceBNe, Blk.men, Blk.keysIn, hd2, hclen, hfl, Nat.le_refl, hfin, List.length_append, List.length_replicate, List.length_drop, hlenc])
    | (exact retS_of rfl rfl rfl)
    | (refine DW.cond_tt rfl ?_)
    | (refine DW.cond_ff rfl ?_)
    | (refine DW.cond rfl ?_ ?_ <;> intro hc <;> (try simp only [go_sem] at hc))
    | (refine g_split ?_ ?_ <;> intro hc <;> (try simp only [hc]) <;> (try simp only [go_sem] at hc)))
        refine retS_ent (by exact Ent.trunc 2 0 (k + 1 + f) rfl rfl (by simp [rowC, rows, hlenc])) ?_
        rw [List.append_assoc, ← hlenc, trunc_rows]
        exact retS_row rfl rfl (rowC_nb (rows_nb eI_nb _))
    · have hba : b ≠ a := by simpa using hc
      refine ⟨⟨k + 1, by omega, upto1 (p := fun j => ∀ a b, l[j]? = some a → l[j + 1]? = some b → b ≠ a) hno (fun x y hx hy => by
        rw [ha] at hx; rw [hb] at hy; cases hx; cases hy; exact hba)⟩, ?_, Ent.to ?_ ?_⟩ <;> first | (show _ < _; (try simp only); omega) | (simp (disch := omega) only [wkT_cons, wkX_cons, wkT_nil, wkX_nil, get, Nat.reduceEqDiff, ↓reduceIte, ex_some, wk_self, wk_top, wk_nil, wkB_self, and_self, dI, i64_in, and_true, true_and, Int.natCast_add, Int.natCast_one, Int.ofNat_zero, Int.natCast_zero])
  · have hd1 : decide ((k : Int) + 1 < (l.length : Int)) = false := by rw [decide_eq_false_iff_not]; omega
    repeat' (first
    | (with_reducible refine DW.seq ?_)
    | (with_reducible refine DW.block ?_)
    | (with_reducible refine DW.skip ?_)
    | (with_reducible refine DW.exit ?_)
    | (with_reducible refine DW.ret ?_)
    | (with_reducible refine DW.reg ?_)
    | (refine DW.dreg rfl (WF.of (by first | rfl | simp (disch := omega) only [go_sem, Nat.reduceLT, Nat.reduceLeDiff, Nat.reduceAdd, Nat.reduceMul, Nat.reduceEqDiff, ↓reduceIte, reduceCtorEq, Nat.reduceBEq, Nat.reduceBNe, Nat.reducePow, Int.reduceLE, Int.reduceLT, Int.reduceNeg, Int.reduceToNat, Int.reduceEq, Int.reduceAdd, Int.reduceSub, Int.reduceMul, Int.reduceBEq, Int.reduceBNe, Blk.men, Blk.keysIn, hd1])) ?_)
    | (simp (disch := omega) only [go_sem, Nat.reduceLT, Nat.reduceLeDiff, Nat.reduceAdd, Nat.reduceMul, Nat.reduceEqDiff, ↓reduceIte, reduceCtorEq, Nat.reduceBEq, Nat.reduceBNe, Nat.reducePow, Int.reduceLE, Int.reduceLT, Int.reduceNeg, Int.reduceToNat, Int.reduceEq, Int.reduceAdd, Int.reduceSub, Int.reduceMul, Int.reduceBEq, Int.reduceBNe, Blk.men, Blk.keysIn, hd1])
    | (exact retS_of rfl rfl rfl)
    | (refine DW.cond_tt rfl ?_)
    | (refine DW.cond_ff rfl ?_)
    | (refine DW.cond rfl ?_ ?_ <;> intro hc <;> (try simp only [go_sem] at hc))
    | (refine g_split ?_ ?_ <;> intro hc <;> (try simp only [hc]) <;> (try simp only [go_sem] at hc)))
    have hc : cpt l = l := by
      unfold cpt
      rw [dupAt_none (fun j a b h1 h2 => hno j (by
        rcases Nat.lt_or_ge (j + 1) l.length with h | h
        · omega
        · rw [List.getElem?_eq_none h] at h2; cases h2) a b h1 h2)]
    rw [hc]
    exact retS_row rfl rfl (rowC_nb (rows_nb eI_nb l))
end Go.Dw.Seat
end
section
set_option linter.unusedSimpArgs false
set_option maxRecDepth 100000
namespace Go.Dw.Seat
open Go Go.Dw Go.Proofs Go.IntWalk
def lookOkI (x : Plan) (l : Look) : Bool := wthn 0 1000 [l.box] && wthn 0 ((x.noz.length : Int) - 1) [l.noz] && wthn 0 (x.steps - 1) [l.step]
theorem c114 (p b : Bool) (x : Plan) (l : Look) (hp : x.noz.length ≤ 2 ^ 36) (hst : 1 ≤ x.steps ∧ x.steps ≤ 16) : DCall Try.prog 114 [.agg ((eL l).map D.c), .c (.ro p [.v (.int .i64 x.steps), .sl b 1 (rows eI x.noz)] 0)] [] (bD (!lookOkI x l)) [] := by
  cases h1 : wthn 0 1000 [l.box] with
  | false =>
    have hr : (!lookOkI x l) = true := by simp [lookOkI, h1]
    rw [hr]
    refine DCall.of Try.func114 sf114 hb114 (Nat.le_of_ble_eq_true rfl) (okRes_nil fun _ => rfl) ?_; simp only [s114, Mv, Sg, Ld, Fa, Xt, Ix, Ln, Cl, Oo, Og, idxs, Nat.reduceAdd]
    repeat' (first
    | (with_reducible refine DW.seq ?_)
    | (with_reducible refine DW.block ?_)
    | (with_reducible refine DW.skip ?_)
    | (with_reducible refine DW.exit ?_)
    | (with_reducible refine DW.ret ?_)
    | (with_reducible refine DW.reg ?_)
    | (simp (disch := omega) only [go_sem, Nat.reduceLT, Nat.reduceLeDiff, Nat.reduceAdd, Nat.reduceMul, Nat.reduceEqDiff, ↓reduceIte, reduceCtorEq, Nat.reduceBEq, Nat.reduceBNe, Nat.reducePow, Int.reduceLE, Int.reduceLT, Int.reduceNeg, Int.reduceToNat, Int.reduceEq, Int.reduceAdd, Int.reduceSub, Int.reduceMul, Int.reduceBEq, Int.reduceBNe, Blk.men, Blk.keysIn, h1])
    | (exact retS_of rfl rfl rfl)
    | (refine DW.cond_tt rfl ?_)
    | (refine call_c (c93 true [l.box] (by simp)) (by decide) ?_)
    | (refine DW.cond_ff rfl ?_)
    | (refine DW.cond rfl ?_ ?_ <;> intro hc <;> (try simp only [go_sem] at hc))
    | (refine g_split ?_ ?_ <;> intro hc <;> (try simp only [hc]) <;> (try simp only [go_sem] at hc)))
  | true =>
    cases h2 : wthn 0 ((x.noz.length : Int) - 1) [l.noz] with
    | false =>
      have hr : (!lookOkI x l) = true := by simp [lookOkI, h1, h2]
      rw [hr]
      refine DCall.of Try.func114 sf114 hb114 (Nat.le_of_ble_eq_true rfl) (okRes_nil fun _ => rfl) ?_; simp only [s114, Mv, Sg, Ld, Fa, Xt, Ix, Ln, Cl, Oo, Og, idxs, Nat.reduceAdd]
      repeat' (first
    | (with_reducible refine DW.seq ?_)
    | (with_reducible refine DW.block ?_)
    | (with_reducible refine DW.skip ?_)
    | (with_reducible refine DW.exit ?_)
    | (with_reducible refine DW.ret ?_)
    | (with_reducible refine DW.reg ?_)
    | (simp (disch := omega) only [go_sem, Nat.reduceLT, Nat.reduceLeDiff, Nat.reduceAdd, Nat.reduceMul, Nat.reduceEqDiff, ↓reduceIte, reduceCtorEq, Nat.reduceBEq, Nat.reduceBNe, Nat.reducePow, Int.reduceLE, Int.reduceLT, Int.reduceNeg, Int.reduceToNat, Int.reduceEq, Int.reduceAdd, Int.reduceSub, Int.reduceMul, Int.reduceBEq, Int.reduceBNe, Blk.men, Blk.keysIn, h1, h2])
    | (exact retS_of rfl rfl rfl)
    | (refine DW.cond_tt rfl ?_)
    | (refine call_c (c93 true [l.box] (by simp)) (by decide) ?_)
    | (refine call_c (c115 b x l.noz hp) (by decide) ?_)
    | (refine DW.cond_ff rfl ?_)
    | (refine DW.cond rfl ?_ ?_ <;> intro hc <;> (try simp only [go_sem] at hc))
    | (refine g_split ?_ ?_ <;> intro hc <;> (try simp only [hc]) <;> (try simp only [go_sem] at hc)))
    | true =>
      have hr : (!lookOkI x l) = !wthn 0 (x.steps - 1) [l.step] := by simp [lookOkI, h1, h2]
      rw [hr]
      refine DCall.of Try.func114 sf114 hb114 (Nat.le_of_ble_eq_true rfl) (okRes_nil fun _ => rfl) ?_; simp only [s114, Mv, Sg, Ld, Fa, Xt, Ix, Ln, Cl, Oo, Og, idxs, Nat.reduceAdd]
      repeat' (first
    | (with_reducible refine DW.seq ?_)
    | (with_reducible refine DW.block ?_)
    | (with_reducible refine DW.skip ?_)
    | (with_reducible refine DW.exit ?_)
    | (with_reducible refine DW.ret ?_)
    | (with_reducible refine DW.reg ?_)
    | (simp (disch := omega) only [go_sem, Nat.reduceLT, Nat.reduceLeDiff, Nat.reduceAdd, Nat.reduceMul, Nat.reduceEqDiff, ↓reduceIte, reduceCtorEq, Nat.reduceBEq, Nat.reduceBNe, Nat.reducePow, Int.reduceLE, Int.reduceLT, Int.reduceNeg, Int.reduceToNat, Int.reduceEq, Int.reduceAdd, Int.reduceSub, Int.reduceMul, Int.reduceBEq, Int.reduceBNe, Blk.men, Blk.keysIn, h1, h2])
    | (exact retS_of rfl rfl rfl)
    | (refine DW.cond_tt rfl ?_)
    | (refine call_c (c93 true [l.box] (by simp)) (by decide) ?_)
    | (refine call_c (c115 b x l.noz hp) (by decide) ?_)
    | (refine call_c (c88 true 0 (x.steps - 1) [l.step] (by simp)) (by decide) ?_)
    | (refine DW.cond_ff rfl ?_)
    | (refine DW.cond rfl ?_ ?_ <;> intro hc <;> (try simp only [go_sem] at hc))
    | (refine g_split ?_ ?_ <;> intro hc <;> (try simp only [hc]) <;> (try simp only [go_sem] at hc)))
def fromsOk (froms : List Int) : Bool := srt froms && decide ((cpt froms).length = froms.length)
def lkErr (x : Plan) (froms : List Int) (looks : List Look) : Int :=
  if 5 < froms.length ∨ 40 < looks.length then 5 else if wthn 0 1000 froms = false ∨ fromsOk froms = false then 4 else if looks.any (fun l => !lookOkI x l) then 6 else 0
theorem c94 (b b1 b2 : Bool) (x : Plan) (froms : List Int) (looks : List Look) (hp : x.noz.length ≤ 2 ^ 36) (hst : 1 ≤ x.steps ∧ x.steps ≤ 16) (hf : froms.length ≤ 2 ^ 36) (hl : looks.length ≤ 2 ^ 36) :
    DCall Try.prog 94 [dP b x, dIs b1 froms, dLs b2 looks] [] (dI (lkErr x froms looks)) [] := by
  refine DCall.of Try.func94 sf94 hb94 (Nat.le_of_ble_eq_true rfl) (okRes_nil fun _ => rfl) ?_; simp only [s94, Mv, Sg, Ld, Fa, Xt, Ix, Ln, Cl, Oo, Og, idxs, Nat.reduceAdd]
  refine DW.seq (DW.reg ?_); simp (disch := omega) only [go_sem, Nat.reduceLT, Nat.reduceLeDiff, Nat.reduceAdd, Nat.reduceMul, Nat.reduceEqDiff, ↓reduceIte, reduceCtorEq, Nat.reduceBEq, Nat.reduceBNe, Nat.reducePow, Int.reduceLE, Int.reduceLT, Int.reduceNeg, Int.reduceToNat, Int.reduceEq, Int.reduceAdd, Int.reduceSub, Int.reduceMul, Int.reduceBEq, Int.reduceBNe, Blk.men, Blk.keysIn]
  refine DW.seq (DW.reg ?_); simp (disch := omega) only [go_sem, Nat.reduceLT, Nat.reduceLeDiff, Nat.reduceAdd, Nat.reduceMul, Nat.reduceEqDiff, ↓reduceIte, reduceCtorEq, Nat.reduceBEq, Nat.reduceBNe, Nat.reducePow, Int.reduceLE, Int.reduceLT, Int.reduceNeg, Int.reduceToNat, Int.reduceEq, Int.reduceAdd, Int.reduceSub, Int.reduceMul, Int.reduceBEq, Int.reduceBNe, Blk.men, Blk.keysIn]
  refine DW.cut ⟨38, [(8, bD (fromsOk froms)), (7, .fn (.func 114) [] [.box 3 0]), (1, dIs b1 froms), (2, dLs b2 looks)], [(3, .box [dI x.steps, .c (.sl b 1 (rows eI x.noz))])]⟩ ?_ ?_
  · cases hs : srt froms with
    | false =>
      have hr : fromsOk froms = false := by simp [fromsOk, hs]
      rw [hr]
      repeat' (first
    | (with_reducible refine DW.seq ?_)
    | (with_reducible refine DW.block ?_)
    | (with_reducible refine DW.skip ?_)
    | (with_reducible refine DW.exit ?_)
    | (with_reducible refine DW.ret ?_)
    | (with_reducible refine DW.reg ?_)
    | (simp (disch := omega) only [go_sem, Nat.reduceLT, Nat.reduceLeDiff, Nat.reduceAdd, Nat.reduceMul, Nat.reduceEqDiff, ↓reduceIte, reduceCtorEq, Nat.reduceBEq, Nat.reduceBNe, Nat.reducePow, Int.reduceLE, Int.reduceLT, Int.reduceNeg, Int.reduceToNat, Int.reduceEq, Int.reduceAdd, Int.reduceSub, Int.reduceMul, Int.reduceBEq, Int.reduceBNe, Blk.men, Blk.keysIn, hs])
    | (exact retS_of rfl rfl rfl)
    | (refine DW.cond_tt rfl ?_)
    | (refine call_c (c116 b1 froms hf) (by decide) ?_)
    | (refine DW.cond_ff rfl ?_)
    | (refine DW.cond rfl ?_ ?_ <;> intro hc <;> (try simp only [go_sem] at hc))
    | (refine g_split ?_ ?_ <;> intro hc <;> (try simp only [hc]) <;> (try simp only [go_sem] at hc)))
      refine Ent.to ?_ ?_ <;> simp (disch := omega) only [wkT_cons, wkX_cons, wkT_nil, wkX_nil, get, Nat.reduceEqDiff, ↓reduceIte, ex_some, wk_self, wk_top, wk_nil, wkB_self, and_self, dI, i64_in, and_true, true_and, Int.natCast_add, Int.natCast_one, Int.ofNat_zero, Int.natCast_zero]
    | true =>
      have hr : fromsOk froms = decide ((cpt froms).length = froms.length) := by simp [fromsOk, hs]
      rw [hr]
      have hc117 := ((c117 froms hf).rekey (fun _ => rfl) 14).rename 15
      have hb : (((cpt froms).length : Int) == (froms.length : Int)) = decide ((cpt froms).length = froms.length) := by rw [Bool.eq_iff_iff, beq_iff_eq, decide_eq_true_eq]; omega
      repeat' (first
    | (with_reducible refine DW.seq ?_)
    | (with_reducible refine DW.block ?_)
    | (with_reducible refine DW.skip ?_)
    | (with_reducible refine DW.exit ?_)
    | (with_reducible refine DW.ret ?_)
    | (with_reducible refine DW.reg ?_)
    | (simp (disch := omega) only [go_sem, Nat.reduceLT, Nat.reduceLeDiff, Nat.reduceAdd, Nat.reduceMul, Nat.reduceEqDiff, ↓reduceIte, reduceCtorEq, Nat.reduceBEq, Nat.reduceBNe, Nat.reducePow, Int.reduceLE, Int.reduceLT, Int.reduceNeg, Int.reduceToNat, Int.reduceEq, Int.reduceAdd, Int.reduceSub, Int.reduceMul, Int.reduceBEq, Int.reduceBNe, Blk.men, Blk.keysIn, hs])
    | (exact retS_of rfl rfl rfl)
    | (refine DW.cond_tt rfl ?_)
    | (refine call_c (c116 b1 froms hf) (by decide) ?_)
    | (refine DW.cond_ff rfl ?_)
    | (refine DW.cond rfl ?_ ?_ <;> intro hc <;> (try simp only [go_sem] at hc))
    | (refine g_split ?_ ?_ <;> intro hc <;> (try simp only [hc]) <;> (try simp only [go_sem] at hc)))
      (refine call_r (c106 b1 froms hf 14) (by decide) (by first | rfl | simp (disch := omega) only [go_sem, Nat.reduceLT, Nat.reduceLeDiff, Nat.reduceAdd, Nat.reduceMul, Nat.reduceEqDiff, ↓reduceIte, reduceCtorEq, Nat.reduceBEq, Nat.reduceBNe, Nat.reducePow, Int.reduceLE, Int.reduceLT, Int.reduceNeg, Int.reduceToNat, Int.reduceEq, Int.reduceAdd, Int.reduceSub, Int.reduceMul, Int.reduceBEq, Int.reduceBNe, Blk.men, Blk.keysIn]) (by first | rfl | simp (disch := omega) only [go_sem, Nat.reduceLT, Nat.reduceLeDiff, Nat.reduceAdd, Nat.reduceMul, Nat.reduceEqDiff, ↓reduceIte, reduceCtorEq, Nat.reduceBEq, Nat.reduceBNe, Nat.reducePow, Int.reduceLE, Int.reduceLT, Int.reduceNeg, Int.reduceToNat, Int.reduceEq, Int.reduceAdd, Int.reduceSub, Int.reduceMul, Int.reduceBEq, Int.reduceBNe, Blk.men, Blk.keysIn]) ?_; simp (disch := omega) only [go_sem, Nat.reduceLT, Nat.reduceLeDiff, Nat.reduceAdd, Nat.reduceMul, Nat.reduceEqDiff, ↓reduceIte, reduceCtorEq, Nat.reduceBEq, Nat.reduceBNe, Nat.reducePow, Int.reduceLE, Int.reduceLT, Int.reduceNeg, Int.reduceToNat, Int.reduceEq, Int.reduceAdd, Int.reduceSub, Int.reduceMul, Int.reduceBEq, Int.reduceBNe, Blk.men, Blk.keysIn])
      refine call_m 14 hc117 rfl rfl rfl (by decide) rfl (by rfl) ?_
      simp (disch := omega) only [go_sem, Nat.reduceLT, Nat.reduceLeDiff, Nat.reduceAdd, Nat.reduceMul, Nat.reduceEqDiff, ↓reduceIte, reduceCtorEq, Nat.reduceBEq, Nat.reduceBNe, Nat.reducePow, Int.reduceLE, Int.reduceLT, Int.reduceNeg, Int.reduceToNat, Int.reduceEq, Int.reduceAdd, Int.reduceSub, Int.reduceMul, Int.reduceBEq, Int.reduceBNe, Blk.men, Blk.keysIn, hb]
      refine Ent.to ?_ ?_ <;> simp (disch := omega) only [wkT_cons, wkX_cons, wkT_nil, wkX_nil, get, Nat.reduceEqDiff, ↓reduceIte, ex_some, wk_self, wk_top, wk_nil, wkB_self, and_self, dI, i64_in, and_true, true_and, Int.natCast_add, Int.natCast_one, Int.ofNat_zero, Int.natCast_zero]
  · have d1 : decide (5 < (froms.length : Int)) = decide (5 < froms.length) := by rw [Bool.eq_iff_iff, decide_eq_true_eq, decide_eq_true_eq]; omega
    have d2 : decide (40 < (looks.length : Int)) = decide (40 < looks.length) := by rw [Bool.eq_iff_iff, decide_eq_true_eq, decide_eq_true_eq]; omega
    cases e1 : decide (5 < froms.length) with
    | true =>
      have hr : lkErr x froms looks = 5 := by simp only [decide_eq_true_eq] at e1; simp [lkErr, e1]
      rw [hr]
      repeat' (first
    | (with_reducible refine DW.seq ?_)
    | (with_reducible refine DW.block ?_)
    | (with_reducible refine DW.skip ?_)
    | (with_reducible refine DW.exit ?_)
    | (with_reducible refine DW.ret ?_)
    | (with_reducible refine DW.reg ?_)
    | (simp (disch := omega) only [go_sem, Nat.reduceLT, Nat.reduceLeDiff, Nat.reduceAdd, Nat.reduceMul, Nat.reduceEqDiff, ↓reduceIte, reduceCtorEq, Nat.reduceBEq, Nat.reduceBNe, Nat.reducePow, Int.reduceLE, Int.reduceLT, Int.reduceNeg, Int.reduceToNat, Int.reduceEq, Int.reduceAdd, Int.reduceSub, Int.reduceMul, Int.reduceBEq, Int.reduceBNe, Blk.men, Blk.keysIn, d1, e1])
    | (exact retS_of rfl rfl rfl)
    | (refine DW.cond_tt rfl ?_)
    | (refine DW.cond_ff rfl ?_)
    | (refine DW.cond rfl ?_ ?_ <;> intro hc <;> (try simp only [go_sem] at hc))
    | (refine g_split ?_ ?_ <;> intro hc <;> (try simp only [hc]) <;> (try simp only [go_sem] at hc)))
    | false =>
    cases e2 : decide (40 < looks.length) with
    | true =>
      have hr : lkErr x froms looks = 5 := by simp only [decide_eq_true_eq] at e2; simp [lkErr, e2]
      rw [hr]
      repeat' (first
    | (with_reducible refine DW.seq ?_)
    | (with_reducible refine DW.block ?_)
    | (with_reducible refine DW.skip ?_)
    | (with_reducible refine DW.exit ?_)
    | (with_reducible refine DW.ret ?_)
    | (with_reducible refine DW.reg ?_)
    | (simp (disch := omega) only [go_sem, Nat.reduceLT, Nat.reduceLeDiff, Nat.reduceAdd, Nat.reduceMul, Nat.reduceEqDiff, ↓reduceIte, reduceCtorEq, Nat.reduceBEq, Nat.reduceBNe, Nat.reducePow, Int.reduceLE, Int.reduceLT, Int.reduceNeg, Int.reduceToNat, Int.reduceEq, Int.reduceAdd, Int.reduceSub, Int.reduceMul, Int.reduceBEq, Int.reduceBNe, Blk.men, Blk.keysIn, d1, e1, d2, e2])
    | (exact retS_of rfl rfl rfl)
    | (refine DW.cond_tt rfl ?_)
    | (refine DW.cond_ff rfl ?_)
    | (refine DW.cond rfl ?_ ?_ <;> intro hc <;> (try simp only [go_sem] at hc))
    | (refine g_split ?_ ?_ <;> intro hc <;> (try simp only [hc]) <;> (try simp only [go_sem] at hc)))
    | false =>
    have hn : ¬ (5 < froms.length ∨ 40 < looks.length) := by simp at e1 e2; omega
    cases e3 : wthn 0 1000 froms with
    | false =>
      have hr : lkErr x froms looks = 4 := by simp only [lkErr, hn, if_false, e3, true_or, if_true]
      rw [hr]
      repeat' (first
    | (with_reducible refine DW.seq ?_)
    | (with_reducible refine DW.block ?_)
    | (with_reducible refine DW.skip ?_)
    | (with_reducible refine DW.exit ?_)
    | (with_reducible refine DW.ret ?_)
    | (with_reducible refine DW.reg ?_)
    | (simp (disch := omega) only [go_sem, Nat.reduceLT, Nat.reduceLeDiff, Nat.reduceAdd, Nat.reduceMul, Nat.reduceEqDiff, ↓reduceIte, reduceCtorEq, Nat.reduceBEq, Nat.reduceBNe, Nat.reducePow, Int.reduceLE, Int.reduceLT, Int.reduceNeg, Int.reduceToNat, Int.reduceEq, Int.reduceAdd, Int.reduceSub, Int.reduceMul, Int.reduceBEq, Int.reduceBNe, Blk.men, Blk.keysIn, d1, e1, d2, e2, e3])
    | (exact retS_of rfl rfl rfl)
    | (refine DW.cond_tt rfl ?_)
    | (refine call_c (c93 b1 froms hf) (by decide) ?_)
    | (refine DW.cond_ff rfl ?_)
    | (refine DW.cond rfl ?_ ?_ <;> intro hc <;> (try simp only [go_sem] at hc))
    | (refine g_split ?_ ?_ <;> intro hc <;> (try simp only [hc]) <;> (try simp only [go_sem] at hc)))
    | true =>
    cases e4 : fromsOk froms with
    | false =>
      have hr : lkErr x froms looks = 4 := by simp only [lkErr, hn, if_false, e4, or_true, if_true]
      rw [hr]
      repeat' (first
    | (with_reducible refine DW.seq ?_)
    | (with_reducible refine DW.block ?_)
    | (with_reducible refine DW.skip ?_)
    | (with_reducible refine DW.exit ?_)
    | (with_reducible refine DW.ret ?_)
    | (with_reducible refine DW.reg ?_)
    | (simp (disch := omega) only [go_sem, Nat.reduceLT, Nat.reduceLeDiff, Nat.reduceAdd, Nat.reduceMul, Nat.reduceEqDiff, ↓reduceIte, reduceCtorEq, Nat.reduceBEq, Nat.reduceBNe, Nat.reducePow, Int.reduceLE, Int.reduceLT, Int.reduceNeg, Int.reduceToNat, Int.reduceEq, Int.reduceAdd, Int.reduceSub, Int.reduceMul, Int.reduceBEq, Int.reduceBNe, Blk.men, Blk.keysIn, d1, e1, d2, e2, e3, e4])
    | (exact retS_of rfl rfl rfl)
    | (refine DW.cond_tt rfl ?_)
    | (refine call_c (c93 b1 froms hf) (by decide) ?_)
    | (refine DW.cond_ff rfl ?_)
    | (refine DW.cond rfl ?_ ?_ <;> intro hc <;> (try simp only [go_sem] at hc))
    | (refine g_split ?_ ?_ <;> intro hc <;> (try simp only [hc]) <;> (try simp only [go_sem] at hc)))
    | true =>
    have hn2 : ¬ (wthn 0 1000 froms = false ∨ fromsOk froms = false) := by simp [e3, e4]
    have h98 := c98 b2 looks hl 114 [] [.ro true [.v (.int .i64 x.steps), .sl b 1 (rows eI x.noz)] 0] (fun l => !lookOkI x l) (fun l _ => c114 true b x l hp hst)
    cases e5 : looks.any (fun l => !lookOkI x l) with
    | true =>
      have hr : lkErr x froms looks = 6 := by simp only [lkErr, hn, hn2, if_false, e5, if_true]
      rw [hr]
      repeat' (first
    | (with_reducible refine DW.seq ?_)
    | (with_reducible refine DW.block ?_)
    | (with_reducible refine DW.skip ?_)
    | (with_reducible refine DW.exit ?_)
    | (with_reducible refine DW.ret ?_)
    | (with_reducible refine DW.reg ?_)
    | (simp (disch := omega) only [go_sem, Nat.reduceLT, Nat.reduceLeDiff, Nat.reduceAdd, Nat.reduceMul, Nat.reduceEqDiff, ↓reduceIte, reduceCtorEq, Nat.reduceBEq, Nat.reduceBNe, Nat.reducePow, Int.reduceLE, Int.reduceLT, Int.reduceNeg, Int.reduceToNat, Int.reduceEq, Int.reduceAdd, Int.reduceSub, Int.reduceMul, Int.reduceBEq, Int.reduceBNe, Blk.men, Blk.keysIn, d1, e1, d2, e2, e3, e4, e5])
    | (exact retS_of rfl rfl rfl)
    | (refine DW.cond_tt rfl ?_)
    | (refine call_c (c93 b1 froms hf) (by decide) ?_)
    | (refine call_c (h98) (by decide) ?_)
    | (refine DW.cond_ff rfl ?_)
    | (refine DW.cond rfl ?_ ?_ <;> intro hc <;> (try simp only [go_sem] at hc))
    | (refine g_split ?_ ?_ <;> intro hc <;> (try simp only [hc]) <;> (try simp only [go_sem] at hc)))
    | false =>
      have hr : lkErr x froms looks = 0 := by simp only [lkErr, hn, hn2, if_false, e5, Bool.false_eq_true]
      rw [hr]
      repeat' (first
    | (with_reducible refine DW.seq ?_)
    | (with_reducible refine DW.block ?_)
    | (with_reducible refine DW.skip ?_)
    | (with_reducible refine DW.exit ?_)
    | (with_reducible refine DW.ret ?_)
    | (with_reducible refine DW.reg ?_)
    | (simp (disch := omega) only [go_sem, Nat.reduceLT, Nat.reduceLeDiff, Nat.reduceAdd, Nat.reduceMul, Nat.reduceEqDiff, ↓reduceIte, reduceCtorEq, Nat.reduceBEq, Nat.reduceBNe, Nat.reducePow, Int.reduceLE, Int.reduceLT, Int.reduceNeg, Int.reduceToNat, Int.reduceEq, Int.reduceAdd, Int.reduceSub, Int.reduceMul, Int.reduceBEq, Int.reduceBNe, Blk.men, Blk.keysIn, d1, e1, d2, e2, e3, e4, e5])
    | (exact retS_of rfl rfl rfl)
    | (refine DW.cond_tt rfl ?_)
    | (refine call_c (c93 b1 froms hf) (by decide) ?_)
    | (refine call_c (h98) (by decide) ?_)
    | (refine DW.cond_ff rfl ?_)
    | (refine DW.cond rfl ?_ ?_ <;> intro hc <;> (try simp only [go_sem] at hc))
    | (refine g_split ?_ ?_ <;> intro hc <;> (try simp only [hc]) <;> (try simp only [go_sem] at hc)))
end Go.Dw.Seat
end
section
set_option linter.unusedSimpArgs false
set_option maxRecDepth 100000
namespace Go.Dw.Seat
open Go Go.Dw Go.Proofs Go.IntWalk
def missN (st : Nat) (noz : List Nat) (s : List Cause) (l : Look) : Bool := hasN st noz s l.box l.noz.toNat l.step.toNat != l.glue
def validL (st n : Nat) (l : Look) : Prop := (0 ≤ l.noz ∧ l.noz < n) ∧ (0 ≤ l.step ∧ l.step < st)
def validS (n : Nat) (s : List Cause) : Prop := s.length ≤ 2 ∧ ∀ c ∈ s, 0 ≤ c.noz ∧ c.noz < n
theorem c99 (p b q : Bool) (st : Nat) (noz : List Nat) (s : List Cause) (l : Look) (hst : st ≤ 16) (hn : ∀ v ∈ noz, v < 2 ^ st) (hl : noz.length ≤ 1000) (hs : validS noz.length s) (hv : validL st noz.length l) :
    DCall Try.prog 99 [.agg ((eL l).map D.c), .c (.ro p [.v (.int .i64 st), .sl b 1 (rows eI (nL noz))] 0), .c (.ro q [.sl false 3 (rows eC s)] 0)] [] (bD (missN st noz s l)) [] := by
  obtain ⟨⟨h1, h2⟩, h3, h4⟩ := hv
  obtain ⟨box, z, t, g⟩ := l
  dsimp only at h1 h2 h3 h4
  obtain ⟨z, rfl⟩ := Int.eq_ofNat_of_zero_le h1
  obtain ⟨t, rfl⟩ := Int.eq_ofNat_of_zero_le h3
  simp only [missN, Int.toNat_natCast]
  refine DCall.of Try.func99 sf99 hb99 (Nat.le_of_ble_eq_true rfl) (okRes_nil fun _ => rfl) ?_; simp only [s99, Mv, Sg, Ld, Fa, Xt, Ix, Ln, Cl, Oo, Og, idxs, Nat.reduceAdd]
  repeat' (first
    | (with_reducible refine DW.seq ?_)
    | (with_reducible refine DW.block ?_)
    | (with_reducible refine DW.skip ?_)
    | (with_reducible refine DW.exit ?_)
    | (with_reducible refine DW.ret ?_)
    | (with_reducible refine DW.reg ?_)
    | (refine DW.dreg rfl (WF.of (by first | rfl | simp (disch := omega) only [go_sem, Nat.reduceLT, Nat.reduceLeDiff, Nat.reduceAdd, Nat.reduceMul, Nat.reduceEqDiff, ↓reduceIte, reduceCtorEq, Nat.reduceBEq, Nat.reduceBNe, Nat.reducePow, Int.reduceLE, Int.reduceLT, Int.reduceNeg, Int.reduceToNat, Int.reduceEq, Int.reduceAdd, Int.reduceSub, Int.reduceMul, Int.reduceBEq, Int.reduceBNe, Blk.men, Blk.keysIn])) ?_)
    | (simp (disch := omega) only [go_sem, Nat.reduceLT, Nat.reduceLeDiff, Nat.reduceAdd, Nat.reduceMul, Nat.reduceEqDiff, ↓reduceIte, reduceCtorEq, Nat.reduceBEq, Nat.reduceBNe, Nat.reducePow, Int.reduceLE, Int.reduceLT, Int.reduceNeg, Int.reduceToNat, Int.reduceEq, Int.reduceAdd, Int.reduceSub, Int.reduceMul, Int.reduceBEq, Int.reduceBNe, Blk.men, Blk.keysIn])
    | (exact retS_of rfl rfl rfl)
    | (refine DW.cond_tt rfl ?_)
    | (refine call_c (c75 b false st noz s box z t hst hn hl (by have := hs.1; omega) hs.2 (by omega) (by omega)) (by decide) ?_)
    | (refine DW.cond_ff rfl ?_)
    | (refine DW.cond rfl ?_ ?_ <;> intro hc <;> (try simp only [go_sem] at hc))
    | (refine g_split ?_ ?_ <;> intro hc <;> (try simp only [hc]) <;> (try simp only [go_sem] at hc)))
theorem c97 (p q b b2 : Bool) (st : Nat) (noz : List Nat) (s : List Cause) (ls : List Look) (hst : st ≤ 16) (hn : ∀ v ∈ noz, v < 2 ^ st) (hl : noz.length ≤ 1000) (hs : validS noz.length s) (hls : ls.length ≤ 2 ^ 36) (hv : ∀ l ∈ ls, validL st noz.length l) :
    DCall Try.prog 97 [.c (.sl false 3 (rows eC s)), .c (.ro q [.sl b2 4 (rows eL ls)] 0), .c (.ro p [.v (.int .i64 st), .sl b 1 (rows eI (nL noz))] 0)] [] (bD (ls.any (missN st noz s))) [] := by
  refine DCall.of Try.func97 sf97 hb97 (Nat.le_of_ble_eq_true rfl) (okRes_nil fun _ => rfl) ?_; simp only [s97, Mv, Sg, Ld, Fa, Xt, Ix, Ln, Cl, Oo, Og, idxs, Nat.reduceAdd]
  repeat' (first
    | (with_reducible refine DW.seq ?_)
    | (with_reducible refine DW.block ?_)
    | (with_reducible refine DW.skip ?_)
    | (with_reducible refine DW.exit ?_)
    | (with_reducible refine DW.ret ?_)
    | (with_reducible refine DW.reg ?_)
    | (simp (disch := omega) only [go_sem, Nat.reduceLT, Nat.reduceLeDiff, Nat.reduceAdd, Nat.reduceMul, Nat.reduceEqDiff, ↓reduceIte, reduceCtorEq, Nat.reduceBEq, Nat.reduceBNe, Nat.reducePow, Int.reduceLE, Int.reduceLT, Int.reduceNeg, Int.reduceToNat, Int.reduceEq, Int.reduceAdd, Int.reduceSub, Int.reduceMul, Int.reduceBEq, Int.reduceBNe, Blk.men, Blk.keysIn])
    | (exact retS_of rfl rfl rfl)
    | (refine DW.cond_tt rfl ?_)
    | (refine call_c (c98 b2 ls hls 99 [] [.ro p [.v (.int .i64 st), .sl b 1 (rows eI (nL noz))] 0, .ro true [.sl false 3 (rows eC s)] 0] (missN st noz s) (fun l hm => c99 p b true st noz s l hst hn hl hs (hv l hm))) (by decide) ?_)
    | (refine DW.cond_ff rfl ?_)
    | (refine DW.cond rfl ?_ ?_ <;> intro hc <;> (try simp only [go_sem] at hc))
    | (refine g_split ?_ ?_ <;> intro hc <;> (try simp only [hc]) <;> (try simp only [go_sem] at hc)))
theorem mem_pairsTo {all : List Cause} {s : List Cause} : ∀ {i : Nat}, s ∈ pairsTo all i → ∃ a b, s = [a, b] ∧ a ∈ all ∧ b ∈ all ∧ a.noz < b.noz := by
  intro i h
  simp only [pairsTo, List.mem_flatMap, List.mem_range] at h
  obtain ⟨j, _, h⟩ := h
  split at h
  · rename_i a ha
    simp only [pairsOf, List.mem_map, List.mem_filter, decide_eq_true_eq] at h
    obtain ⟨b, ⟨hb, hlt⟩, rfl⟩ := h
    exact ⟨a, b, rfl, List.mem_of_getElem? ha, List.mem_of_mem_drop hb, hlt⟩
  · cases h
theorem mem_statesOf {all : List Cause} {s : List Cause} (h : s ∈ statesOf all) : s = [] ∨ (∃ a ∈ all, s = [a]) ∨ ∃ a b, s = [a, b] ∧ a ∈ all ∧ b ∈ all ∧ a.noz < b.noz := by
  simp only [statesOf, List.cons_append, List.mem_cons, List.mem_append, List.mem_map] at h
  rcases h with h | ⟨a, ha, rfl⟩ | h
  · exact .inl h
  · exact .inr (.inl ⟨a, ha, rfl⟩)
  · exact .inr (.inr (mem_pairsTo h))
theorem mem_causesN {n : Nat} {froms : List Int} {c : Cause} (h : c ∈ causesN n froms) : (0 ≤ c.noz ∧ c.noz < n) ∧ (1 ≤ c.kind ∧ c.kind ≤ 4) ∧ c.frm ∈ froms := by
  simp only [causesN, causesZ, causesK, List.mem_flatMap, List.mem_range, List.mem_map] at h
  obtain ⟨z, hz, k, hk, f, hf, rfl⟩ := h
  exact ⟨⟨by simp, by simpa using hz⟩, ⟨by simp; omega, by simp; omega⟩, hf⟩
theorem valid_statesOf {n : Nat} {froms : List Int} {s : List Cause} (h : s ∈ statesOf (causesN n froms)) : validS n s := by
  rcases mem_statesOf h with rfl | ⟨a, ha, rfl⟩ | ⟨a, b, rfl, ha, hb, _⟩
  · exact ⟨by simp, by simp⟩
  · exact ⟨by simp, fun c hc => by simp at hc; subst hc; exact (mem_causesN ha).1⟩
  · exact ⟨by simp, fun c hc => by simp at hc; rcases hc with rfl | rfl; exact (mem_causesN ha).1; exact (mem_causesN hb).1⟩
def explX (x : Plan) (froms : List Int) (looks : List Look) : List (List Cause) := (statesOf (causesN x.noz.length froms)).filter fun s => !(looks.any (missN x.steps.toNat (x.noz.map Int.toNat) s))
def exErr (x : Plan) (froms : List Int) (looks : List Look) : Int :=
  if openErr x = 0 then (if lkErr x froms looks = 0 then (if (explX x froms looks).length = 0 then 9 else 0) else lkErr x froms looks) else openErr x
def exOut (x : Plan) (froms : List Int) (looks : List Look) : List (List Cause) := if exErr x froms looks = 0 then explX x froms looks else []
theorem wthn_iff1 {a b n : Int} : wthn a b [n] = true ↔ a ≤ n ∧ n ≤ b := by simp [wthn]
theorem lkErr_zero {x : Plan} {froms : List Int} {looks : List Look} (h : lkErr x froms looks = 0) : (froms.length ≤ 5 ∧ looks.length ≤ 40) ∧ (wthn 0 1000 froms = true ∧ fromsOk froms = true) ∧ ∀ l ∈ looks, lookOkI x l = true := by
  unfold lkErr at h
  split at h
  · cases h
  · rename_i h1
    split at h
    · cases h
    · rename_i h2
      split at h
      · cases h
      · rename_i h3
        simp only [not_or, Bool.not_eq_false] at h2
        exact ⟨by omega, h2, by simpa using h3⟩
theorem valid_look {st : Nat} {noz : List Nat} {l : Look} (h : lookOkI ⟨st, nL noz⟩ l = true) : validL st noz.length l := by
  simp only [lookOkI, Bool.and_eq_true, wthn_iff1, nL_length] at h
  exact ⟨⟨h.1.2.1, by omega⟩, h.2.1, by omega⟩
theorem c65 (b1 b2 : Bool) (x : Plan) (froms : List Int) (looks : List Look) (hp : x.noz.length ≤ 2 ^ 36) (hf : froms.length ≤ 2 ^ 36) (hl : looks.length ≤ 2 ^ 36) :
    DCall Try.prog 65 [dP false x, dIs b1 froms, dLs b2 looks] [] (.tup [dP false (opened x), dSs false (exOut x froms looks), dI (exErr x froms looks)]) [] := by
  by_cases ho : openErr x = 0
  · have hoo : opened x = x := if_pos ho
    have h78 := c78 x hp
    rw [hoo, ho] at h78
    rw [hoo]
    obtain ⟨st, noz, rfl, hst, hn, hv⟩ := openErr_zero ho
    have h94 := c94 false b1 b2 ⟨st, nL noz⟩ froms looks hp ⟨by simp; omega, by simp; omega⟩ hf hl
    by_cases hk : lkErr ⟨st, nL noz⟩ froms looks = 0
    · rw [hk] at h94
      obtain ⟨⟨hf5, hl40⟩, _, hlk⟩ := lkErr_zero hk
      have hcl : (causesN (nL noz).length froms).length ≤ 200000 := by
        rw [causesN_length, nL_length]
        have : noz.length * (4 * froms.length) ≤ 6 * 20 := Nat.mul_le_mul hn.2 (by omega)
        omega
      have h96 := (c96 false b1 st (nL noz) froms (by rw [nL_length]; omega) (by omega) hcl).rename 29
      have hsl : (statesOf (causesN (nL noz).length froms)).length ≤ 2 ^ 36 := by
        simp only [statesOf, List.cons_append, List.length_cons, List.length_append, List.length_map]
        have h1 := pairsTo_len (causesN (nL noz).length froms) (causesN (nL noz).length froms).length
        have h2 : (causesN (nL noz).length froms).length * (causesN (nL noz).length froms).length ≤ 200000 * 200000 := Nat.mul_le_mul hcl hcl
        omega
      have h95 := ((c95 (statesOf (causesN (nL noz).length froms)) hsl 97 [] [.ro true [.sl b2 4 (rows eL looks)] 0, .ro true [.v (.int .i64 st), .sl false 1 (rows eI (nL noz))] 0] (fun s => looks.any (missN st noz s)) (fun s hs =>
        c97 true true false b2 st noz s looks hst.2 hv (by omega) (by have := valid_statesOf hs; rwa [nL_length] at this) (by omega) (fun l hm => valid_look (hlk l hm)))).rekey (fun _ => rfl) 29).rename 31
      have hX : explX ⟨st, nL noz⟩ froms looks = (statesOf (causesN (nL noz).length froms)).filter fun s => !(looks.any (missN st noz s)) := by
        simp only [explX, nL_toNat, Int.toNat_natCast]
      rw [← hX] at h95
      generalize hE : explX ⟨st, nL noz⟩ froms looks = ex at *
      rw [nL_length] at h96 h95
      refine DCall.of Try.func65 sf65 hb65 (Nat.le_of_ble_eq_true rfl) (okRes_nil fun _ => rfl) ?_; simp only [s65, Mv, Sg, Ld, Fa, Xt, Ix, Ln, Cl, Oo, Og, idxs, Nat.reduceAdd]
      repeat' (first
    | (with_reducible refine DW.seq ?_)
    | (with_reducible refine DW.block ?_)
    | (with_reducible refine DW.skip ?_)
    | (with_reducible refine DW.exit ?_)
    | (with_reducible refine DW.ret ?_)
    | (with_reducible refine DW.reg ?_)
    | (simp (disch := omega) only [go_sem, Nat.reduceLT, Nat.reduceLeDiff, Nat.reduceAdd, Nat.reduceMul, Nat.reduceEqDiff, ↓reduceIte, reduceCtorEq, Nat.reduceBEq, Nat.reduceBNe, Nat.reducePow, Int.reduceLE, Int.reduceLT, Int.reduceNeg, Int.reduceToNat, Int.reduceEq, Int.reduceAdd, Int.reduceSub, Int.reduceMul, Int.reduceBEq, Int.reduceBNe, Blk.men, Blk.keysIn])
    | (exact retS_of rfl rfl rfl)
    | (refine DW.cond_tt rfl ?_)
    | (refine call_c (h78) (by decide) ?_)
    | (refine call_c (h94) (by decide) ?_)
    | (refine DW.cond_ff rfl ?_)
    | (refine DW.cond rfl ?_ ?_ <;> intro hc <;> (try simp only [go_sem] at hc))
    | (refine g_split ?_ ?_ <;> intro hc <;> (try simp only [hc]) <;> (try simp only [go_sem] at hc)))
      (refine call_r (h96) (by decide) (by first | rfl | simp (disch := omega) only [go_sem, Nat.reduceLT, Nat.reduceLeDiff, Nat.reduceAdd, Nat.reduceMul, Nat.reduceEqDiff, ↓reduceIte, reduceCtorEq, Nat.reduceBEq, Nat.reduceBNe, Nat.reducePow, Int.reduceLE, Int.reduceLT, Int.reduceNeg, Int.reduceToNat, Int.reduceEq, Int.reduceAdd, Int.reduceSub, Int.reduceMul, Int.reduceBEq, Int.reduceBNe, Blk.men, Blk.keysIn]) (by first | rfl | simp (disch := omega) only [go_sem, Nat.reduceLT, Nat.reduceLeDiff, Nat.reduceAdd, Nat.reduceMul, Nat.reduceEqDiff, ↓reduceIte, reduceCtorEq, Nat.reduceBEq, Nat.reduceBNe, Nat.reducePow, Int.reduceLE, Int.reduceLT, Int.reduceNeg, Int.reduceToNat, Int.reduceEq, Int.reduceAdd, Int.reduceSub, Int.reduceMul, Int.reduceBEq, Int.reduceBNe, Blk.men, Blk.keysIn]) ?_; simp (disch := omega) only [go_sem, Nat.reduceLT, Nat.reduceLeDiff, Nat.reduceAdd, Nat.reduceMul, Nat.reduceEqDiff, ↓reduceIte, reduceCtorEq, Nat.reduceBEq, Nat.reduceBNe, Nat.reducePow, Int.reduceLE, Int.reduceLT, Int.reduceNeg, Int.reduceToNat, Int.reduceEq, Int.reduceAdd, Int.reduceSub, Int.reduceMul, Int.reduceBEq, Int.reduceBNe, Blk.men, Blk.keysIn])
      refine call_m 29 h95 rfl rfl rfl (by decide) rfl (by rfl) ?_
      simp (disch := omega) only [go_sem, Nat.reduceLT, Nat.reduceLeDiff, Nat.reduceAdd, Nat.reduceMul, Nat.reduceEqDiff, ↓reduceIte, reduceCtorEq, Nat.reduceBEq, Nat.reduceBNe, Nat.reducePow, Int.reduceLE, Int.reduceLT, Int.reduceNeg, Int.reduceToNat, Int.reduceEq, Int.reduceAdd, Int.reduceSub, Int.reduceMul, Int.reduceBEq, Int.reduceBNe, Blk.men, Blk.keysIn]
      (refine DW.ent (Ent.rel 31 rfl) ?_; simp (disch := omega) only [go_sem, Nat.reduceLT, Nat.reduceLeDiff, Nat.reduceAdd, Nat.reduceMul, Nat.reduceEqDiff, ↓reduceIte, reduceCtorEq, Nat.reduceBEq, Nat.reduceBNe, Nat.reducePow, Int.reduceLE, Int.reduceLT, Int.reduceNeg, Int.reduceToNat, Int.reduceEq, Int.reduceAdd, Int.reduceSub, Int.reduceMul, Int.reduceBEq, Int.reduceBNe, Blk.men, Blk.keysIn])
      have hee : exErr ⟨st, nL noz⟩ froms looks = if ex.length = 0 then 9 else 0 := by simp only [exErr, ho, hk, hE, if_true]
      have heo : exOut ⟨st, nL noz⟩ froms looks = if ex.length = 0 then [] else ex := by
        simp only [exOut, hee, hE]
        split <;> simp_all
      by_cases h0 : ex.length = 0
      · rw [hee, heo, if_pos h0, if_pos h0]
        have hb : ((ex.length : Int) == 0) = true := by rw [beq_iff_eq]; omega
        repeat' (first
    | (with_reducible refine DW.seq ?_)
    | (with_reducible refine DW.block ?_)
    | (with_reducible refine DW.skip ?_)
    | (with_reducible refine DW.exit ?_)
    | (with_reducible refine DW.ret ?_)
    | (with_reducible refine DW.reg ?_)
    | (simp (disch := omega) only [go_sem, Nat.reduceLT, Nat.reduceLeDiff, Nat.reduceAdd, Nat.reduceMul, Nat.reduceEqDiff, ↓reduceIte, reduceCtorEq, Nat.reduceBEq, Nat.reduceBNe, Nat.reducePow, Int.reduceLE, Int.reduceLT, Int.reduceNeg, Int.reduceToNat, Int.reduceEq, Int.reduceAdd, Int.reduceSub, Int.reduceMul, Int.reduceBEq, Int.reduceBNe, Blk.men, Blk.keysIn, hb])
    | (exact retS_of rfl rfl rfl)
    | (refine DW.cond_tt rfl ?_)
    | (refine DW.cond_ff rfl ?_)
    | (refine DW.cond rfl ?_ ?_ <;> intro hc <;> (try simp only [go_sem] at hc))
    | (refine g_split ?_ ?_ <;> intro hc <;> (try simp only [hc]) <;> (try simp only [go_sem] at hc)))
        refine retS_wk rfl ?_ (by simp only [Blk.nb, rowC_nb, D.nb, D.nbs, C.nb, C.nbs, C.nbss, rows_nb eI_nb, rows_nb eC_nb, rows_nb eL_nb, rows_nb eR_nb, rows_nb eS_nb, rows_nb eG_nb, Bool.and_true, Bool.not_false, Bool.and_self, bD, dI, iD]); exact .tup (.cons (.refl _) (.cons (.nil false 1) (.cons (.refl _) .nil)))
      · rw [hee, heo, if_neg h0, if_neg h0]
        have hb : ((ex.length : Int) == 0) = false := by rw [beq_eq_false_iff_ne]; omega
        repeat' (first
    | (with_reducible refine DW.seq ?_)
    | (with_reducible refine DW.block ?_)
    | (with_reducible refine DW.skip ?_)
    | (with_reducible refine DW.exit ?_)
    | (with_reducible refine DW.ret ?_)
    | (with_reducible refine DW.reg ?_)
    | (simp (disch := omega) only [go_sem, Nat.reduceLT, Nat.reduceLeDiff, Nat.reduceAdd, Nat.reduceMul, Nat.reduceEqDiff, ↓reduceIte, reduceCtorEq, Nat.reduceBEq, Nat.reduceBNe, Nat.reducePow, Int.reduceLE, Int.reduceLT, Int.reduceNeg, Int.reduceToNat, Int.reduceEq, Int.reduceAdd, Int.reduceSub, Int.reduceMul, Int.reduceBEq, Int.reduceBNe, Blk.men, Blk.keysIn, hb])
    | (exact retS_of rfl rfl rfl)
    | (refine DW.cond_tt rfl ?_)
    | (refine DW.cond_ff rfl ?_)
    | (refine DW.cond rfl ?_ ?_ <;> intro hc <;> (try simp only [go_sem] at hc))
    | (refine g_split ?_ ?_ <;> intro hc <;> (try simp only [hc]) <;> (try simp only [go_sem] at hc)))
        refine retS_wk rfl ?_ (by simp only [Blk.nb, rowC_nb, D.nb, D.nbs, C.nb, C.nbs, C.nbss, rows_nb eI_nb, rows_nb eC_nb, rows_nb eL_nb, rows_nb eR_nb, rows_nb eS_nb, rows_nb eG_nb, Bool.and_true, Bool.not_false, Bool.and_self, bD, dI, iD]); exact .refl _
    · have hee : exErr ⟨st, nL noz⟩ froms looks = lkErr ⟨st, nL noz⟩ froms looks := by simp only [exErr, ho, hk, if_true, if_false]
      have heo : exOut ⟨st, nL noz⟩ froms looks = [] := by simp only [exOut, hee, hk, if_false]
      rw [hee, heo]
      generalize lkErr ⟨st, nL noz⟩ froms looks = e at *
      have hb : (e != 0) = true := by simpa using hk
      refine DCall.of Try.func65 sf65 hb65 (Nat.le_of_ble_eq_true rfl) (okRes_nil fun _ => rfl) ?_; simp only [s65, Mv, Sg, Ld, Fa, Xt, Ix, Ln, Cl, Oo, Og, idxs, Nat.reduceAdd]
      repeat' (first
    | (with_reducible refine DW.seq ?_)
    | (with_reducible refine DW.block ?_)
    | (with_reducible refine DW.skip ?_)
    | (with_reducible refine DW.exit ?_)
    | (with_reducible refine DW.ret ?_)
    | (with_reducible refine DW.reg ?_)
    | (simp (disch := omega) only [go_sem, Nat.reduceLT, Nat.reduceLeDiff, Nat.reduceAdd, Nat.reduceMul, Nat.reduceEqDiff, ↓reduceIte, reduceCtorEq, Nat.reduceBEq, Nat.reduceBNe, Nat.reducePow, Int.reduceLE, Int.reduceLT, Int.reduceNeg, Int.reduceToNat, Int.reduceEq, Int.reduceAdd, Int.reduceSub, Int.reduceMul, Int.reduceBEq, Int.reduceBNe, Blk.men, Blk.keysIn, hb])
    | (exact retS_of rfl rfl rfl)
    | (refine DW.cond_tt rfl ?_)
    | (refine call_c (h78) (by decide) ?_)
    | (refine call_c (h94) (by decide) ?_)
    | (refine DW.cond_ff rfl ?_)
    | (refine DW.cond rfl ?_ ?_ <;> intro hc <;> (try simp only [go_sem] at hc))
    | (refine g_split ?_ ?_ <;> intro hc <;> (try simp only [hc]) <;> (try simp only [go_sem] at hc)))
      refine retS_wk rfl ?_ (by simp only [Blk.nb, rowC_nb, D.nb, D.nbs, C.nb, C.nbs, C.nbss, rows_nb eI_nb, rows_nb eC_nb, rows_nb eL_nb, rows_nb eR_nb, rows_nb eS_nb, rows_nb eG_nb, Bool.and_true, Bool.not_false, Bool.and_self, bD, dI, iD]); exact .tup (.cons (.refl _) (.cons (.nil false 1) (.cons (.refl _) .nil)))
  · have hee : exErr x froms looks = openErr x := by simp only [exErr, ho, if_false]
    have heo : exOut x froms looks = [] := by simp only [exOut, hee, ho, if_false]
    have h78 := c78 x hp
    rw [hee, heo]
    generalize openErr x = e at *
    generalize opened x = y at *
    have hb : (e != 0) = true := by simpa using ho
    refine DCall.of Try.func65 sf65 hb65 (Nat.le_of_ble_eq_true rfl) (okRes_nil fun _ => rfl) ?_; simp only [s65, Mv, Sg, Ld, Fa, Xt, Ix, Ln, Cl, Oo, Og, idxs, Nat.reduceAdd]
    repeat' (first
    | (with_reducible refine DW.seq ?_)
    | (with_reducible refine DW.block ?_)
    | (with_reducible refine DW.skip ?_)
    | (with_reducible refine DW.exit ?_)
    | (with_reducible refine DW.ret ?_)
    | (with_reducible refine DW.reg ?_)
    | (simp (disch := omega) only [go_sem, Nat.reduceLT, Nat.reduceLeDiff, Nat.reduceAdd, Nat.reduceMul, Nat.reduceEqDiff, ↓reduceIte, reduceCtorEq, Nat.reduceBEq, Nat.reduceBNe, Nat.reducePow, Int.reduceLE, Int.reduceLT, Int.reduceNeg, Int.reduceToNat, Int.reduceEq, Int.reduceAdd, Int.reduceSub, Int.reduceMul, Int.reduceBEq, Int.reduceBNe, Blk.men, Blk.keysIn, hb])
    | (exact retS_of rfl rfl rfl)
    | (refine DW.cond_tt rfl ?_)
    | (refine call_c (h78) (by decide) ?_)
    | (refine DW.cond_ff rfl ?_)
    | (refine DW.cond rfl ?_ ?_ <;> intro hc <;> (try simp only [go_sem] at hc))
    | (refine g_split ?_ ?_ <;> intro hc <;> (try simp only [hc]) <;> (try simp only [go_sem] at hc)))
    refine retS_wk rfl ?_ (by simp only [Blk.nb, rowC_nb, D.nb, D.nbs, C.nb, C.nbs, C.nbss, rows_nb eI_nb, rows_nb eC_nb, rows_nb eL_nb, rows_nb eR_nb, rows_nb eS_nb, rows_nb eG_nb, Bool.and_true, Bool.not_false, Bool.and_self, bD, dI, iD]); exact .tup (.cons (.refl _) (.cons (.nil false 1) (.cons (.refl _) .nil)))
end Go.Dw.Seat
end
section
set_option linter.unusedSimpArgs false
set_option maxRecDepth 100000
namespace Go.Dw.Seat
open Go Go.Dw Go.Proofs Go.IntWalk
theorem exErr_zero {x : Plan} {froms : List Int} {looks : List Look} (h : exErr x froms looks = 0) : openErr x = 0 ∧ lkErr x froms looks = 0 ∧ exOut x froms looks = explX x froms looks ∧ 0 < (exOut x froms looks).length := by
  have h' := h
  unfold exErr at h'
  split at h'
  · rename_i h1
    split at h'
    · rename_i h2
      split at h'
      · cases h'
      · rename_i h3
        have h4 : exOut x froms looks = explX x froms looks := if_pos h
        exact ⟨h1, h2, h4, by rw [h4]; omega⟩
    · contradiction
  · contradiction
theorem exOut_len {x : Plan} {froms : List Int} {looks : List Look} : (exOut x froms looks).length ≤ 2 ^ 36 := by
  by_cases h : exErr x froms looks = 0
  · obtain ⟨h1, h2, h3, _⟩ := exErr_zero h
    rw [h3]
    obtain ⟨st, noz, rfl, hst, hn, hv⟩ := openErr_zero h1
    obtain ⟨⟨hf5, hl40⟩, _, hlk⟩ := lkErr_zero h2
    have hcl : (causesN (nL noz).length froms).length ≤ 200000 := by
      rw [causesN_length, nL_length]
      have : noz.length * (4 * froms.length) ≤ 6 * 20 := Nat.mul_le_mul hn.2 (by omega)
      omega
    refine Nat.le_trans (List.length_filter_le _ _) ?_
    simp only [statesOf, List.cons_append, List.length_cons, List.length_append, List.length_map]
    have h1 := pairsTo_len (causesN (nL noz).length froms) (causesN (nL noz).length froms).length
    have h2 : (causesN (nL noz).length froms).length * (causesN (nL noz).length froms).length ≤ 200000 * 200000 := Nat.mul_le_mul hcl hcl
    omega
  · have : exOut x froms looks = [] := if_neg h
    rw [this]; simp
theorem exOut_valid {x : Plan} {froms : List Int} {looks : List Look} {s : List Cause} (hs : s ∈ exOut x froms looks) : validS x.noz.length s := by
  unfold exOut at hs
  split at hs
  · exact valid_statesOf (List.mem_filter.1 hs).1
  · cases hs
theorem c18 (b1 b2 : Bool) (x : Plan) (froms : List Int) (looks : List Look) (hp : x.noz.length ≤ 2 ^ 36) (hf : froms.length ≤ 2 ^ 36) (hl : looks.length ≤ 2 ^ 36) :
    DCall Try.prog 18 [dP false x, dIs b1 froms, dLs b2 looks] [] (.tup [dI (exOut x froms looks).length, dCs false ((exOut x froms looks).headD []), dI (exErr x froms looks)]) [] := by
  have h65 := c65 b1 b2 x froms looks hp hf hl
  by_cases h : exErr x froms looks = 0
  · obtain ⟨_, _, _, hlen⟩ := exErr_zero h
    rw [h] at h65 ⊢
    generalize exOut x froms looks = out at *
    generalize opened x = y at *
    cases out with
    | nil => simp at hlen
    | cons s ss =>
      have h0 : (s :: ss)[0]? = some s := rfl
      refine DCall.of Try.func18 sf18 hb18 (Nat.le_of_ble_eq_true rfl) (okRes_nil fun _ => rfl) ?_; simp only [s18, Mv, Sg, Ld, Fa, Xt, Ix, Ln, Cl, Oo, Og, idxs, Nat.reduceAdd]
      repeat' (first
    | (with_reducible refine DW.seq ?_)
    | (with_reducible refine DW.block ?_)
    | (with_reducible refine DW.skip ?_)
    | (with_reducible refine DW.exit ?_)
    | (with_reducible refine DW.ret ?_)
    | (with_reducible refine DW.reg ?_)
    | (refine DW.dreg rfl (WF.of (by first | rfl | simp (disch := omega) only [go_sem, Nat.reduceLT, Nat.reduceLeDiff, Nat.reduceAdd, Nat.reduceMul, Nat.reduceEqDiff, ↓reduceIte, reduceCtorEq, Nat.reduceBEq, Nat.reduceBNe, Nat.reducePow, Int.reduceLE, Int.reduceLT, Int.reduceNeg, Int.reduceToNat, Int.reduceEq, Int.reduceAdd, Int.reduceSub, Int.reduceMul, Int.reduceBEq, Int.reduceBNe, Blk.men, Blk.keysIn, h0])) ?_)
    | (simp (disch := omega) only [go_sem, Nat.reduceLT, Nat.reduceLeDiff, Nat.reduceAdd, Nat.reduceMul, Nat.reduceEqDiff, ↓reduceIte, reduceCtorEq, Nat.reduceBEq, Nat.reduceBNe, Nat.reducePow, Int.reduceLE, Int.reduceLT, Int.reduceNeg, Int.reduceToNat, Int.reduceEq, Int.reduceAdd, Int.reduceSub, Int.reduceMul, Int.reduceBEq, Int.reduceBNe, Blk.men, Blk.keysIn, h0])
    | (exact retS_of rfl rfl rfl)
    | (refine DW.cond_tt rfl ?_)
    | (refine call_c (h65) (by decide) ?_)
    | (refine DW.cond_ff rfl ?_)
    | (refine DW.cond rfl ?_ ?_ <;> intro hc <;> (try simp only [go_sem] at hc))
    | (refine g_split ?_ ?_ <;> intro hc <;> (try simp only [hc]) <;> (try simp only [go_sem] at hc)))
      simp only [List.headD_cons]
      refine retS_wk rfl ?_ (by simp only [Blk.nb, rowC_nb, D.nb, D.nbs, C.nb, C.nbs, C.nbss, rows_nb eI_nb, rows_nb eC_nb, rows_nb eL_nb, rows_nb eR_nb, rows_nb eS_nb, rows_nb eG_nb, Bool.and_true, Bool.not_false, Bool.and_self, bD, dI, iD]); exact .refl _
  · have ho : exOut x froms looks = [] := if_neg h
    rw [ho] at h65 ⊢
    generalize exErr x froms looks = e at *
    generalize opened x = y at *
    have hb : (e != 0) = true := by simpa using h
    refine DCall.of Try.func18 sf18 hb18 (Nat.le_of_ble_eq_true rfl) (okRes_nil fun _ => rfl) ?_; simp only [s18, Mv, Sg, Ld, Fa, Xt, Ix, Ln, Cl, Oo, Og, idxs, Nat.reduceAdd]
    repeat' (first
    | (with_reducible refine DW.seq ?_)
    | (with_reducible refine DW.block ?_)
    | (with_reducible refine DW.skip ?_)
    | (with_reducible refine DW.exit ?_)
    | (with_reducible refine DW.ret ?_)
    | (with_reducible refine DW.reg ?_)
    | (refine DW.dreg rfl (WF.of (by first | rfl | simp (disch := omega) only [go_sem, Nat.reduceLT, Nat.reduceLeDiff, Nat.reduceAdd, Nat.reduceMul, Nat.reduceEqDiff, ↓reduceIte, reduceCtorEq, Nat.reduceBEq, Nat.reduceBNe, Nat.reducePow, Int.reduceLE, Int.reduceLT, Int.reduceNeg, Int.reduceToNat, Int.reduceEq, Int.reduceAdd, Int.reduceSub, Int.reduceMul, Int.reduceBEq, Int.reduceBNe, Blk.men, Blk.keysIn, hb])) ?_)
    | (simp (disch := omega) only [go_sem, Nat.reduceLT, Nat.reduceLeDiff, Nat.reduceAdd, Nat.reduceMul, Nat.reduceEqDiff, ↓reduceIte, reduceCtorEq, Nat.reduceBEq, Nat.reduceBNe, Nat.reducePow, Int.reduceLE, Int.reduceLT, Int.reduceNeg, Int.reduceToNat, Int.reduceEq, Int.reduceAdd, Int.reduceSub, Int.reduceMul, Int.reduceBEq, Int.reduceBNe, Blk.men, Blk.keysIn, hb])
    | (exact retS_of rfl rfl rfl)
    | (refine DW.cond_tt rfl ?_)
    | (refine call_c (h65) (by decide) ?_)
    | (refine DW.cond_ff rfl ?_)
    | (refine DW.cond rfl ?_ ?_ <;> intro hc <;> (try simp only [go_sem] at hc))
    | (refine g_split ?_ ?_ <;> intro hc <;> (try simp only [hc]) <;> (try simp only [go_sem] at hc)))
    refine retS_wk rfl ?_ (by simp only [Blk.nb, rowC_nb, D.nb, D.nbs, C.nb, C.nbs, C.nbss, rows_nb eI_nb, rows_nb eC_nb, rows_nb eL_nb, rows_nb eR_nb, rows_nb eS_nb, rows_nb eG_nb, Bool.and_true, Bool.not_false, Bool.and_self, bD, dI, iD]); exact .tup (.cons (.refl _) (.cons (.nil false 3) (.cons (.refl _) .nil)))
theorem c68 (q : Bool) (c : Cause) (z : Int) : DCall Try.prog 68 [.agg ((eC c).map D.c), .c (.ro q [.v (.int .i64 z)] 0)] [] (bD (c.noz == z)) [] := by
  refine DCall.of Try.func68 sf68 hb68 (Nat.le_of_ble_eq_true rfl) (okRes_nil fun _ => rfl) ?_; simp only [s68, Mv, Sg, Ld, Fa, Xt, Ix, Ln, Cl, Oo, Og, idxs, Nat.reduceAdd]
  repeat' (first
    | (with_reducible refine DW.seq ?_)
    | (with_reducible refine DW.block ?_)
    | (with_reducible refine DW.skip ?_)
    | (with_reducible refine DW.exit ?_)
    | (with_reducible refine DW.ret ?_)
    | (with_reducible refine DW.reg ?_)
    | (simp (disch := omega) only [go_sem, Nat.reduceLT, Nat.reduceLeDiff, Nat.reduceAdd, Nat.reduceMul, Nat.reduceEqDiff, ↓reduceIte, reduceCtorEq, Nat.reduceBEq, Nat.reduceBNe, Nat.reducePow, Int.reduceLE, Int.reduceLT, Int.reduceNeg, Int.reduceToNat, Int.reduceEq, Int.reduceAdd, Int.reduceSub, Int.reduceMul, Int.reduceBEq, Int.reduceBNe, Blk.men, Blk.keysIn])
    | (exact retS_of rfl rfl rfl)
    | (refine DW.cond_tt rfl ?_)
    | (refine DW.cond_ff rfl ?_)
    | (refine DW.cond rfl ?_ ?_ <;> intro hc <;> (try simp only [go_sem] at hc))
    | (refine g_split ?_ ?_ <;> intro hc <;> (try simp only [hc]) <;> (try simp only [go_sem] at hc)))
theorem c66 (q : Bool) (s : List Cause) (z : Int) (hs : s.length ≤ 2 ^ 36) : DCall Try.prog 66 [.c (.sl false 3 (rows eC s)), .c (.ro q [.v (.int .i64 z)] 0)] [] (bD (!s.any fun c => c.noz == z)) [] := by
  refine DCall.of Try.func66 sf66 hb66 (Nat.le_of_ble_eq_true rfl) (okRes_nil fun _ => rfl) ?_; simp only [s66, Mv, Sg, Ld, Fa, Xt, Ix, Ln, Cl, Oo, Og, idxs, Nat.reduceAdd]
  repeat' (first
    | (with_reducible refine DW.seq ?_)
    | (with_reducible refine DW.block ?_)
    | (with_reducible refine DW.skip ?_)
    | (with_reducible refine DW.exit ?_)
    | (with_reducible refine DW.ret ?_)
    | (with_reducible refine DW.reg ?_)
    | (simp (disch := omega) only [go_sem, Nat.reduceLT, Nat.reduceLeDiff, Nat.reduceAdd, Nat.reduceMul, Nat.reduceEqDiff, ↓reduceIte, reduceCtorEq, Nat.reduceBEq, Nat.reduceBNe, Nat.reducePow, Int.reduceLE, Int.reduceLT, Int.reduceNeg, Int.reduceToNat, Int.reduceEq, Int.reduceAdd, Int.reduceSub, Int.reduceMul, Int.reduceBEq, Int.reduceBNe, Blk.men, Blk.keysIn])
    | (exact retS_of rfl rfl rfl)
    | (refine DW.cond_tt rfl ?_)
    | (refine call_c (c67 false s hs 68 [] [.ro q [.v (.int .i64 z)] 0] (fun c => c.noz == z) (fun c _ => c68 q c z)) (by decide) ?_)
    | (refine DW.cond_ff rfl ?_)
    | (refine DW.cond rfl ?_ ?_ <;> intro hc <;> (try simp only [go_sem] at hc))
    | (refine g_split ?_ ?_ <;> intro hc <;> (try simp only [hc]) <;> (try simp only [go_sem] at hc)))
theorem surely_succ (n : Nat) (ss : List (List Cause)) : surelyN (n + 1) ss = surelyN n ss ++ if ss.any (fun s => !s.any fun c => c.noz == (n : Int)) then [] else [n] := by
  simp only [surelyN, List.range_succ, List.filter_append]
  congr 1
  have e : (ss.all fun s => wrongN s n) = !(ss.any fun s => !s.any fun c => c.noz == (n : Int)) := by
    rw [List.not_any_eq_all_not]
    congr 1; funext s
    simp only [wrongN, Bool.not_not]
    congr 1
  cases h : ss.any (fun s => !s.any fun c => c.noz == (n : Int)) <;> simp only [h] at e <;> simp [e]
theorem surely_len (ss : List (List Cause)) (n : Nat) : (surelyN n ss).length ≤ n := by
  simp only [surelyN]
  refine Nat.le_trans (List.length_filter_le _ _) (by simp)
def sureOut (x : Plan) (froms : List Int) (looks : List Look) : List Nat := if exErr x froms looks = 0 then surelyN x.noz.length (exOut x froms looks) else []
theorem c19 (b1 b2 : Bool) (x : Plan) (froms : List Int) (looks : List Look) (hp : x.noz.length ≤ 2 ^ 36) (hf : froms.length ≤ 2 ^ 36) (hl : looks.length ≤ 2 ^ 36) :
    DCall Try.prog 19 [dP false x, dIs b1 froms, dLs b2 looks] [] (.tup [dIs false (nL (sureOut x froms looks)), dI (exErr x froms looks)]) [] := by
  have h65 := c65 b1 b2 x froms looks hp hf hl
  by_cases h : exErr x froms looks = 0
  · have ho : sureOut x froms looks = surelyN x.noz.length (exOut x froms looks) := if_pos h
    obtain ⟨hop, _, _, _⟩ := exErr_zero h
    have hoo : opened x = x := if_pos hop
    have hln := exOut_len (x := x) (froms := froms) (looks := looks)
    have hval := fun s (hs : s ∈ exOut x froms looks) => exOut_valid hs
    rw [h, hoo] at h65
    rw [h, ho]
    generalize exOut x froms looks = out at *
    refine DCall.of Try.func19 sf19 hb19 (Nat.le_of_ble_eq_true rfl) (okRes_nil fun _ => rfl) ?_; simp only [s19, Mv, Sg, Ld, Fa, Xt, Ix, Ln, Cl, Oo, Og, idxs, Nat.reduceAdd]
    repeat' (first
    | (with_reducible refine DW.seq ?_)
    | (with_reducible refine DW.block ?_)
    | (with_reducible refine DW.skip ?_)
    | (with_reducible refine DW.exit ?_)
    | (with_reducible refine DW.ret ?_)
    | (with_reducible refine DW.reg ?_)
    | (simp (disch := omega) only [go_sem, Nat.reduceLT, Nat.reduceLeDiff, Nat.reduceAdd, Nat.reduceMul, Nat.reduceEqDiff, ↓reduceIte, reduceCtorEq, Nat.reduceBEq, Nat.reduceBNe, Nat.reducePow, Int.reduceLE, Int.reduceLT, Int.reduceNeg, Int.reduceToNat, Int.reduceEq, Int.reduceAdd, Int.reduceSub, Int.reduceMul, Int.reduceBEq, Int.reduceBNe, Blk.men, Blk.keysIn])
    | (exact retS_of rfl rfl rfl)
    | (refine DW.cond_tt rfl ?_)
    | (refine call_c (h65) (by decide) ?_)
    | (refine DW.cond_ff rfl ?_)
    | (refine DW.cond rfl ?_ ?_ <;> intro hc <;> (try simp only [go_sem] at hc))
    | (refine g_split ?_ ?_ <;> intro hc <;> (try simp only [hc]) <;> (try simp only [go_sem] at hc)))
    refine DW.ent (Ent.adopt 6 38 1 rfl rfl rfl) ?_
    simp (disch := omega) only [go_sem, Nat.reduceLT, Nat.reduceLeDiff, Nat.reduceAdd, Nat.reduceMul, Nat.reduceEqDiff, ↓reduceIte, reduceCtorEq, Nat.reduceBEq, Nat.reduceBNe, Nat.reducePow, Int.reduceLE, Int.reduceLT, Int.reduceNeg, Int.reduceToNat, Int.reduceEq, Int.reduceAdd, Int.reduceSub, Int.reduceMul, Int.reduceBEq, Int.reduceBNe, Blk.men, Blk.keysIn]
    refine DW.loop (ι := { z : Nat // z ≤ x.noz.length }) (fun i => ⟨41, [(27, dI i.1), (26, dI x.noz.length), (9, dSs false out), (6, .own 38)], [(38, .row 1 (rowC (rows eI (nL (surelyN i.1 out)))))]⟩) (fun i => x.noz.length - i.1) ⟨0, Nat.zero_le _⟩ ?_ ?_
    · refine Ent.to ?_ ?_ <;> simp (disch := omega) only [wkT_cons, wkX_cons, wkT_nil, wkX_nil, get, Nat.reduceEqDiff, ↓reduceIte, ex_some, wk_self, wk_top, wk_nil, wkB_self, and_self, dI, i64_in, and_true, true_and, Int.natCast_add, Int.natCast_one, Int.ofNat_zero, Int.natCast_zero]
      exact .refl _
    rintro ⟨z, hz⟩
    have hsu := surely_succ z out
    have hsl := surely_len out z
    rcases Nat.lt_or_ge z x.noz.length with hlt | hge
    · have hd : decide ((z : Int) < (x.noz.length : Int)) = true := by rw [decide_eq_true_eq]; omega
      generalize ha : surelyN z out = a at *
      have hal : (nL a).length ≤ 2 ^ 36 := by rw [nL_length]; omega
      repeat' (first
    | (with_reducible refine DW.seq ?_)
    | (with_reducible refine DW.block ?_)
    | (with_reducible refine DW.skip ?_)
    | (with_reducible refine DW.exit ?_)
    | (with_reducible refine DW.ret ?_)
    | (with_reducible refine DW.reg ?_)
    | (simp (disch := omega) only [go_sem, Nat.reduceLT, Nat.reduceLeDiff, Nat.reduceAdd, Nat.reduceMul, Nat.reduceEqDiff, ↓reduceIte, reduceCtorEq, Nat.reduceBEq, Nat.reduceBNe, Nat.reducePow, Int.reduceLE, Int.reduceLT, Int.reduceNeg, Int.reduceToNat, Int.reduceEq, Int.reduceAdd, Int.reduceSub, Int.reduceMul, Int.reduceBEq, Int.reduceBNe, Blk.men, Blk.keysIn, hd, ha])
    | (exact retS_of rfl rfl rfl)
    | (refine DW.cond_tt rfl ?_)
    | (refine call_c (c69 false out hln 66 [] [.ro true [.v (.int .i64 z)] 0] (fun s => !s.any fun c => c.noz == (z : Int)) (fun s hs => c66 true s z (by have := (hval s hs).1; omega))) (by decide) ?_)
    | (refine DW.cond_ff rfl ?_)
    | (refine DW.cond rfl ?_ ?_ <;> intro hc <;> (try simp only [go_sem] at hc))
    | (refine g_split ?_ ?_ <;> intro hc <;> (try simp only [hc]) <;> (try simp only [go_sem] at hc)))
      · rw [hc] at hsu
        refine ⟨⟨z + 1, hlt⟩, ?_, Ent.to ?_ ?_⟩ <;> first | (show _ < _; (try simp only); omega) | (simp (disch := omega) only [wkT_cons, wkX_cons, wkT_nil, wkX_nil, get, Nat.reduceEqDiff, ↓reduceIte, ex_some, wk_self, wk_top, wk_nil, wkB_self, and_self, dI, i64_in, and_true, true_and, Int.natCast_add, Int.natCast_one, Int.ofNat_zero, Int.natCast_zero,  hsu, Bool.false_eq_true, if_false, ← nL_snoc])
      · rw [hc] at hsu
        refine ⟨⟨z + 1, hlt⟩, ?_, Ent.to ?_ ?_⟩ <;> first | (show _ < _; (try simp only); omega) | (simp (disch := omega) only [wkT_cons, wkX_cons, wkT_nil, wkX_nil, get, Nat.reduceEqDiff, ↓reduceIte, ex_some, wk_self, wk_top, wk_nil, wkB_self, and_self, dI, i64_in, and_true, true_and, Int.natCast_add, Int.natCast_one, Int.ofNat_zero, Int.natCast_zero,  hsu, if_true, List.append_nil])
    · obtain rfl : z = x.noz.length := by omega
      have hd : decide ((x.noz.length : Int) < (x.noz.length : Int)) = false := by rw [decide_eq_false_iff_not]; omega
      repeat' (first
    | (with_reducible refine DW.seq ?_)
    | (with_reducible refine DW.block ?_)
    | (with_reducible refine DW.skip ?_)
    | (with_reducible refine DW.exit ?_)
    | (with_reducible refine DW.ret ?_)
    | (with_reducible refine DW.reg ?_)
    | (simp (disch := omega) only [go_sem, Nat.reduceLT, Nat.reduceLeDiff, Nat.reduceAdd, Nat.reduceMul, Nat.reduceEqDiff, ↓reduceIte, reduceCtorEq, Nat.reduceBEq, Nat.reduceBNe, Nat.reducePow, Int.reduceLE, Int.reduceLT, Int.reduceNeg, Int.reduceToNat, Int.reduceEq, Int.reduceAdd, Int.reduceSub, Int.reduceMul, Int.reduceBEq, Int.reduceBNe, Blk.men, Blk.keysIn, hd])
    | (exact retS_of rfl rfl rfl)
    | (refine DW.cond_tt rfl ?_)
    | (refine DW.cond_ff rfl ?_)
    | (refine DW.cond rfl ?_ ?_ <;> intro hc <;> (try simp only [go_sem] at hc))
    | (refine g_split ?_ ?_ <;> intro hc <;> (try simp only [hc]) <;> (try simp only [go_sem] at hc)))
      (refine retS_ent (Ent.rel 38 rfl) ?_; simp (disch := omega) only [go_sem, Nat.reduceLT, Nat.reduceLeDiff, Nat.reduceAdd, Nat.reduceMul, Nat.reduceEqDiff, ↓reduceIte, reduceCtorEq, Nat.reduceBEq, Nat.reduceBNe, Nat.reducePow, Int.reduceLE, Int.reduceLT, Int.reduceNeg, Int.reduceToNat, Int.reduceEq, Int.reduceAdd, Int.reduceSub, Int.reduceMul, Int.reduceBEq, Int.reduceBNe, Blk.men, Blk.keysIn])
      refine retS_wk rfl ?_ (by simp only [Blk.nb, rowC_nb, D.nb, D.nbs, C.nb, C.nbs, C.nbss, rows_nb eI_nb, rows_nb eC_nb, rows_nb eL_nb, rows_nb eR_nb, rows_nb eS_nb, rows_nb eG_nb, Bool.and_true, Bool.not_false, Bool.and_self, bD, dI, iD]); exact .refl _
  · have ho : exOut x froms looks = [] := if_neg h
    have ho2 : sureOut x froms looks = [] := if_neg h
    rw [ho] at h65
    rw [ho2]
    generalize exErr x froms looks = e at *
    generalize opened x = y at *
    have hb : (e != 0) = true := by simpa using h
    refine DCall.of Try.func19 sf19 hb19 (Nat.le_of_ble_eq_true rfl) (okRes_nil fun _ => rfl) ?_; simp only [s19, Mv, Sg, Ld, Fa, Xt, Ix, Ln, Cl, Oo, Og, idxs, Nat.reduceAdd]
    repeat' (first
    | (with_reducible refine DW.seq ?_)
    | (with_reducible refine DW.block ?_)
    | (with_reducible refine DW.skip ?_)
    | (with_reducible refine DW.exit ?_)
    | (with_reducible refine DW.ret ?_)
    | (with_reducible refine DW.reg ?_)
    | (simp (disch := omega) only [go_sem, Nat.reduceLT, Nat.reduceLeDiff, Nat.reduceAdd, Nat.reduceMul, Nat.reduceEqDiff, ↓reduceIte, reduceCtorEq, Nat.reduceBEq, Nat.reduceBNe, Nat.reducePow, Int.reduceLE, Int.reduceLT, Int.reduceNeg, Int.reduceToNat, Int.reduceEq, Int.reduceAdd, Int.reduceSub, Int.reduceMul, Int.reduceBEq, Int.reduceBNe, Blk.men, Blk.keysIn, hb])
    | (exact retS_of rfl rfl rfl)
    | (refine DW.cond_tt rfl ?_)
    | (refine call_c (h65) (by decide) ?_)
    | (refine DW.cond_ff rfl ?_)
    | (refine DW.cond rfl ?_ ?_ <;> intro hc <;> (try simp only [go_sem] at hc))
    | (refine g_split ?_ ?_ <;> intro hc <;> (try simp only [hc]) <;> (try simp only [go_sem] at hc)))
    refine retS_wk rfl ?_ (by simp only [Blk.nb, rowC_nb, D.nb, D.nbs, C.nb, C.nbs, C.nbss, rows_nb eI_nb, rows_nb eC_nb, rows_nb eL_nb, rows_nb eR_nb, rows_nb eS_nb, rows_nb eG_nb, Bool.and_true, Bool.not_false, Bool.and_self, bD, dI, iD]); exact .tup (.cons (.nil false 1) (.cons (.refl _) .nil))
end Go.Dw.Seat
end
section
set_option linter.unusedSimpArgs false
set_option maxRecDepth 100000
namespace Go.Dw.Seat
open Go Go.Dw Go.Proofs Go.IntWalk
structure Spot where
  box : Nat
  noz : Nat
  step : Nat
def enSpot (s : Spot) : List D := [.agg [dI s.box, dI s.noz, dI s.step]]
def spotsL (boxes n st : Nat) : List Spot := (List.range boxes).flatMap fun k => (List.range n).flatMap fun z => (List.range st).map fun t => ⟨k, z, t⟩
theorem range_drop {n k : Nat} (h : k < n) : (List.range n).drop k = k :: (List.range n).drop (k + 1) := by
  rw [List.drop_eq_getElem_cons (by simpa using h)]
  simp
theorem range_drop_all (n : Nat) : (List.range n).drop n = [] := by simp
theorem mem_spots {boxes n st : Nat} {s : Spot} : s ∈ spotsL boxes n st ↔ s.box < boxes ∧ s.noz < n ∧ s.step < st := by
  obtain ⟨a, b, c⟩ := s
  simp only [spotsL, List.mem_flatMap, List.mem_map, List.mem_range, Spot.mk.injEq]
  constructor
  · rintro ⟨k, hk, z, hz, t, ht, rfl, rfl, rfl⟩; exact ⟨hk, hz, ht⟩
  · rintro ⟨h1, h2, h3⟩; exact ⟨a, h1, b, h2, c, h3, rfl, rfl, rfl⟩
theorem c103 (p1 p2 b : Bool) (boxes st : Nat) (noz : List Int) (hb : boxes ≤ 100000) (hst : st ≤ 100000) (hl : noz.length ≤ 100000) :
    ItC Try.prog 103 [] [.ro p1 [.v (.int .i64 boxes)] 0, .ro p2 [.v (.int .i64 st), .sl b 1 (rows eI noz)] 0] enSpot (spotsL boxes noz.length st) := by
  intro l β H stp live hH hY b0 hl0
  refine DCall.of Try.func103 sf103 hb103 (Nat.le_of_ble_eq_true rfl) (hH _).res ?_
  simp only [s103, Mv, Sg, Ld, Fa, Xt, Ix, Ln, Cl, Oo, Og, idxs, Nat.reduceAdd, List.map_nil, List.map_cons, List.nil_append, List.cons_append]
  let f1 : Nat → List Spot := fun k => (List.range noz.length).flatMap fun z => (List.range st).map fun t => ⟨k, z, t⟩
  repeat' (first
    | (with_reducible refine DW.seq ?_)
    | (with_reducible refine DW.block ?_)
    | (with_reducible refine DW.skip ?_)
    | (with_reducible refine DW.exit ?_)
    | (with_reducible refine DW.ret ?_)
    | (with_reducible refine DW.reg ?_)
    | (simp (disch := omega) only [go_sem, Nat.reduceLT, Nat.reduceLeDiff, Nat.reduceAdd, Nat.reduceMul, Nat.reduceEqDiff, ↓reduceIte, reduceCtorEq, Nat.reduceBEq, Nat.reduceBNe, Nat.reducePow, Int.reduceLE, Int.reduceLT, Int.reduceNeg, Int.reduceToNat, Int.reduceEq, Int.reduceAdd, Int.reduceSub, Int.reduceMul, Int.reduceBEq, Int.reduceBNe, Blk.men, Blk.keysIn])
    | (exact retS_of rfl rfl rfl)
    | (refine DW.cond_tt rfl ?_)
    | (refine DW.cond_ff rfl ?_)
    | (refine DW.cond rfl ?_ ?_ <;> intro hc <;> (try simp only [go_sem] at hc))
    | (refine g_split ?_ ?_ <;> intro hc <;> (try simp only [hc]) <;> (try simp only [go_sem] at hc)))
  refine DW.loop (ι := { s : Nat × β // s.1 ≤ boxes ∧ live s.2 ∧ runB stp b0 (spotsL boxes noz.length st) = runB stp s.2 (((List.range boxes).drop s.1).flatMap f1) })
    (fun s => ⟨34, [(8, dI s.1.1), (7, dI boxes), (0, .c (.fn (.yield l) [] [])), (1, .c (.ro p1 [.v (.int .i64 boxes)] 0)), (2, .c (.ro p2 [.v (.int .i64 st), .sl b 1 (rows eI noz)] 0))], H s.1.2⟩) (fun s => boxes - s.1.1) ⟨(0, b0), Nat.zero_le _, hl0, rfl⟩ ?_ ?_
  · refine Ent.toT ?_; simp (disch := omega) only [wkT_cons, wkX_cons, wkT_nil, wkX_nil, get, Nat.reduceEqDiff, ↓reduceIte, ex_some, wk_self, wk_top, wk_nil, wkB_self, and_self, dI, i64_in, and_true, true_and, Int.natCast_add, Int.natCast_one, Int.ofNat_zero, Int.natCast_zero]
  rintro ⟨⟨k, b1⟩, hk, hlv, hrun⟩
  dsimp only at hk hlv hrun
  rcases Nat.lt_or_ge k boxes with hlt | hge
  · have hd : decide ((k : Int) < (boxes : Int)) = true := by rw [decide_eq_true_eq]; omega
    rw [range_drop hlt, List.flatMap_cons] at hrun
    generalize hR1 : ((List.range boxes).drop (k + 1)).flatMap f1 = R1 at *
    repeat' (first
    | (with_reducible refine DW.seq ?_)
    | (with_reducible refine DW.block ?_)
    | (with_reducible refine DW.skip ?_)
    | (with_reducible refine DW.exit ?_)
    | (with_reducible refine DW.ret ?_)
    | (with_reducible refine DW.reg ?_)
    | (simp (disch := omega) only [go_sem, Nat.reduceLT, Nat.reduceLeDiff, Nat.reduceAdd, Nat.reduceMul, Nat.reduceEqDiff, ↓reduceIte, reduceCtorEq, Nat.reduceBEq, Nat.reduceBNe, Nat.reducePow, Int.reduceLE, Int.reduceLT, Int.reduceNeg, Int.reduceToNat, Int.reduceEq, Int.reduceAdd, Int.reduceSub, Int.reduceMul, Int.reduceBEq, Int.reduceBNe, Blk.men, Blk.keysIn, hd])
    | (exact retS_of rfl rfl rfl)
    | (refine DW.cond_tt rfl ?_)
    | (refine DW.cond_ff rfl ?_)
    | (refine DW.cond rfl ?_ ?_ <;> intro hc <;> (try simp only [go_sem] at hc))
    | (refine g_split ?_ ?_ <;> intro hc <;> (try simp only [hc]) <;> (try simp only [go_sem] at hc)))
    let f2 : Nat → List Spot := fun z => (List.range st).map fun t => ⟨k, z, t⟩
    refine DW.loop (ι := { s : Nat × β // s.1 ≤ noz.length ∧ live s.2 ∧ runB stp b0 (spotsL boxes noz.length st) = runB stp s.2 (((List.range noz.length).drop s.1).flatMap f2 ++ R1) })
      (fun s => ⟨34, [(15, dI s.1.1), (14, dI noz.length), (8, dI k), (7, dI boxes), (4, dI k), (0, .c (.fn (.yield l) [] [])), (1, .c (.ro p1 [.v (.int .i64 boxes)] 0)), (2, .c (.ro p2 [.v (.int .i64 st), .sl b 1 (rows eI noz)] 0))], H s.1.2⟩) (fun s => noz.length - s.1.1) ⟨(0, b1), Nat.zero_le _, hlv, hrun⟩ ?_ ?_
    · refine Ent.toT ?_; simp (disch := omega) only [wkT_cons, wkX_cons, wkT_nil, wkX_nil, get, Nat.reduceEqDiff, ↓reduceIte, ex_some, wk_self, wk_top, wk_nil, wkB_self, and_self, dI, i64_in, and_true, true_and, Int.natCast_add, Int.natCast_one, Int.ofNat_zero, Int.natCast_zero]
    rintro ⟨⟨z, b2⟩, hz, hlv2, hrun2⟩
    dsimp only at hz hlv2 hrun2
    rcases Nat.lt_or_ge z noz.length with hlt2 | hge2
    · have hd2 : decide ((z : Int) < (noz.length : Int)) = true := by rw [decide_eq_true_eq]; omega
      rw [range_drop hlt2, List.flatMap_cons, List.append_assoc] at hrun2
      generalize hR2 : ((List.range noz.length).drop (z + 1)).flatMap f2 ++ R1 = R2 at *
      repeat' (first
    | (with_reducible refine DW.seq ?_)
    | (with_reducible refine DW.block ?_)
    | (with_reducible refine DW.skip ?_)
    | (with_reducible refine DW.exit ?_)
    | (with_reducible refine DW.ret ?_)
    | (with_reducible refine DW.reg ?_)
    | (simp (disch := omega) only [go_sem, Nat.reduceLT, Nat.reduceLeDiff, Nat.reduceAdd, Nat.reduceMul, Nat.reduceEqDiff, ↓reduceIte, reduceCtorEq, Nat.reduceBEq, Nat.reduceBNe, Nat.reducePow, Int.reduceLE, Int.reduceLT, Int.reduceNeg, Int.reduceToNat, Int.reduceEq, Int.reduceAdd, Int.reduceSub, Int.reduceMul, Int.reduceBEq, Int.reduceBNe, Blk.men, Blk.keysIn, hd2])
    | (exact retS_of rfl rfl rfl)
    | (refine DW.cond_tt rfl ?_)
    | (refine DW.cond_ff rfl ?_)
    | (refine DW.cond rfl ?_ ?_ <;> intro hc <;> (try simp only [go_sem] at hc))
    | (refine g_split ?_ ?_ <;> intro hc <;> (try simp only [hc]) <;> (try simp only [go_sem] at hc)))
      let f3 : Nat → Spot := fun t => ⟨k, z, t⟩
      refine DW.loop (ι := { s : Nat × β // s.1 ≤ st ∧ live s.2 ∧ runB stp b0 (spotsL boxes noz.length st) = runB stp s.2 (((List.range st).drop s.1).map f3 ++ R2) })
        (fun s => ⟨34, [(21, dI s.1.1), (20, dI st), (15, dI z), (14, dI noz.length), (8, dI k), (7, dI boxes), (5, dI z), (4, dI k), (0, .c (.fn (.yield l) [] [])), (1, .c (.ro p1 [.v (.int .i64 boxes)] 0)), (2, .c (.ro p2 [.v (.int .i64 st), .sl b 1 (rows eI noz)] 0))], H s.1.2⟩) (fun s => st - s.1.1) ⟨(0, b2), Nat.zero_le _, hlv2, hrun2⟩ ?_ ?_
      · refine Ent.toT ?_; simp (disch := omega) only [wkT_cons, wkX_cons, wkT_nil, wkX_nil, get, Nat.reduceEqDiff, ↓reduceIte, ex_some, wk_self, wk_top, wk_nil, wkB_self, and_self, dI, i64_in, and_true, true_and, Int.natCast_add, Int.natCast_one, Int.ofNat_zero, Int.natCast_zero]
      rintro ⟨⟨t, b3⟩, ht, hlv3, hrun3⟩
      dsimp only at ht hlv3 hrun3
      rcases Nat.lt_or_ge t st with hlt3 | hge3
      · have hd3 : decide ((t : Int) < (st : Int)) = true := by rw [decide_eq_true_eq]; omega
        rw [range_drop hlt3, List.map_cons, List.cons_append] at hrun3
        obtain ⟨hyc, hlv4⟩ := hY b3 ⟨k, z, t⟩ hlv3 (mem_spots.2 ⟨hlt, hlt2, hlt3⟩)
        simp only [runB] at hrun3
        repeat' (first
    | (with_reducible refine DW.seq ?_)
    | (with_reducible refine DW.block ?_)
    | (with_reducible refine DW.skip ?_)
    | (with_reducible refine DW.exit ?_)
    | (with_reducible refine DW.ret ?_)
    | (with_reducible refine DW.reg ?_)
    | (simp (disch := omega) only [go_sem, Nat.reduceLT, Nat.reduceLeDiff, Nat.reduceAdd, Nat.reduceMul, Nat.reduceEqDiff, ↓reduceIte, reduceCtorEq, Nat.reduceBEq, Nat.reduceBNe, Nat.reducePow, Int.reduceLE, Int.reduceLT, Int.reduceNeg, Int.reduceToNat, Int.reduceEq, Int.reduceAdd, Int.reduceSub, Int.reduceMul, Int.reduceBEq, Int.reduceBNe, Blk.men, Blk.keysIn, hd3])
    | (exact retS_of rfl rfl rfl)
    | (refine DW.cond_tt rfl ?_)
    | (refine DW.cond_ff rfl ?_)
    | (refine DW.cond rfl ?_ ?_ <;> intro hc <;> (try simp only [go_sem] at hc))
    | (refine g_split ?_ ?_ <;> intro hc <;> (try simp only [hc]) <;> (try simp only [go_sem] at hc)))
        refine call_y (own := []) hyc rfl rfl rfl (hH _) (hH _) (by decide) ?_
        cases hs : (stp b3 ⟨k, z, t⟩).1 with
        | true =>
          rw [hs] at hrun3 hlv4
          simp (disch := omega) only [go_sem, Nat.reduceLT, Nat.reduceLeDiff, Nat.reduceAdd, Nat.reduceMul, Nat.reduceEqDiff, ↓reduceIte, reduceCtorEq, Nat.reduceBEq, Nat.reduceBNe, Nat.reducePow, Int.reduceLE, Int.reduceLT, Int.reduceNeg, Int.reduceToNat, Int.reduceEq, Int.reduceAdd, Int.reduceSub, Int.reduceMul, Int.reduceBEq, Int.reduceBNe, Blk.men, Blk.keysIn]
          repeat' (first
    | (with_reducible refine DW.seq ?_)
    | (with_reducible refine DW.block ?_)
    | (with_reducible refine DW.skip ?_)
    | (with_reducible refine DW.exit ?_)
    | (with_reducible refine DW.ret ?_)
    | (with_reducible refine DW.reg ?_)
    | (simp (disch := omega) only [go_sem, Nat.reduceLT, Nat.reduceLeDiff, Nat.reduceAdd, Nat.reduceMul, Nat.reduceEqDiff, ↓reduceIte, reduceCtorEq, Nat.reduceBEq, Nat.reduceBNe, Nat.reducePow, Int.reduceLE, Int.reduceLT, Int.reduceNeg, Int.reduceToNat, Int.reduceEq, Int.reduceAdd, Int.reduceSub, Int.reduceMul, Int.reduceBEq, Int.reduceBNe, Blk.men, Blk.keysIn])
    | (exact retS_of rfl rfl rfl)
    | (refine DW.cond_tt rfl ?_)
    | (refine DW.cond_ff rfl ?_)
    | (refine DW.cond rfl ?_ ?_ <;> intro hc <;> (try simp only [go_sem] at hc))
    | (refine g_split ?_ ?_ <;> intro hc <;> (try simp only [hc]) <;> (try simp only [go_sem] at hc)))
          refine ⟨⟨(t + 1, (stp b3 ⟨k, z, t⟩).2), hlt3, hlv4 rfl, hrun3⟩, by (show _ < _; (try simp only); omega), Ent.toT ?_⟩; simp (disch := omega) only [wkT_cons, wkX_cons, wkT_nil, wkX_nil, get, Nat.reduceEqDiff, ↓reduceIte, ex_some, wk_self, wk_top, wk_nil, wkB_self, and_self, dI, i64_in, and_true, true_and, Int.natCast_add, Int.natCast_one, Int.ofNat_zero, Int.natCast_zero]
        | false =>
          rw [hs] at hrun3
          simp (disch := omega) only [go_sem, Nat.reduceLT, Nat.reduceLeDiff, Nat.reduceAdd, Nat.reduceMul, Nat.reduceEqDiff, ↓reduceIte, reduceCtorEq, Nat.reduceBEq, Nat.reduceBNe, Nat.reducePow, Int.reduceLE, Int.reduceLT, Int.reduceNeg, Int.reduceToNat, Int.reduceEq, Int.reduceAdd, Int.reduceSub, Int.reduceMul, Int.reduceBEq, Int.reduceBNe, Blk.men, Blk.keysIn]
          repeat' (first
    | (with_reducible refine DW.seq ?_)
    | (with_reducible refine DW.block ?_)
    | (with_reducible refine DW.skip ?_)
    | (with_reducible refine DW.exit ?_)
    | (with_reducible refine DW.ret ?_)
    | (with_reducible refine DW.reg ?_)
    | (simp (disch := omega) only [go_sem, Nat.reduceLT, Nat.reduceLeDiff, Nat.reduceAdd, Nat.reduceMul, Nat.reduceEqDiff, ↓reduceIte, reduceCtorEq, Nat.reduceBEq, Nat.reduceBNe, Nat.reducePow, Int.reduceLE, Int.reduceLT, Int.reduceNeg, Int.reduceToNat, Int.reduceEq, Int.reduceAdd, Int.reduceSub, Int.reduceMul, Int.reduceBEq, Int.reduceBNe, Blk.men, Blk.keysIn])
    | (exact retS_of rfl rfl rfl)
    | (refine DW.cond_tt rfl ?_)
    | (refine DW.cond_ff rfl ?_)
    | (refine DW.cond rfl ?_ ?_ <;> intro hc <;> (try simp only [go_sem] at hc))
    | (refine g_split ?_ ?_ <;> intro hc <;> (try simp only [hc]) <;> (try simp only [go_sem] at hc)))
          rw [hrun3]
          exact retS_hid (own := []) (.inl rfl) (hH _) rfl
      · obtain rfl : t = st := by omega
        have hd3 : decide ((t : Int) < (t : Int)) = false := by rw [decide_eq_false_iff_not]; omega
        rw [range_drop_all, List.map_nil, List.nil_append] at hrun3
        repeat' (first
    | (with_reducible refine DW.seq ?_)
    | (with_reducible refine DW.block ?_)
    | (with_reducible refine DW.skip ?_)
    | (with_reducible refine DW.exit ?_)
    | (with_reducible refine DW.ret ?_)
    | (with_reducible refine DW.reg ?_)
    | (simp (disch := omega) only [go_sem, Nat.reduceLT, Nat.reduceLeDiff, Nat.reduceAdd, Nat.reduceMul, Nat.reduceEqDiff, ↓reduceIte, reduceCtorEq, Nat.reduceBEq, Nat.reduceBNe, Nat.reducePow, Int.reduceLE, Int.reduceLT, Int.reduceNeg, Int.reduceToNat, Int.reduceEq, Int.reduceAdd, Int.reduceSub, Int.reduceMul, Int.reduceBEq, Int.reduceBNe, Blk.men, Blk.keysIn, hd3])
    | (exact retS_of rfl rfl rfl)
    | (refine DW.cond_tt rfl ?_)
    | (refine DW.cond_ff rfl ?_)
    | (refine DW.cond rfl ?_ ?_ <;> intro hc <;> (try simp only [go_sem] at hc))
    | (refine g_split ?_ ?_ <;> intro hc <;> (try simp only [hc]) <;> (try simp only [go_sem] at hc)))
        refine ⟨⟨(z + 1, b3), hlt2, hlv3, by rw [hrun3, hR2]⟩, by (show _ < _; (try simp only); omega), Ent.toT ?_⟩; simp (disch := omega) only [wkT_cons, wkX_cons, wkT_nil, wkX_nil, get, Nat.reduceEqDiff, ↓reduceIte, ex_some, wk_self, wk_top, wk_nil, wkB_self, and_self, dI, i64_in, and_true, true_and, Int.natCast_add, Int.natCast_one, Int.ofNat_zero, Int.natCast_zero]
    · obtain rfl : z = noz.length := by omega
      have hd2 : decide ((noz.length : Int) < (noz.length : Int)) = false := by rw [decide_eq_false_iff_not]; omega
      rw [range_drop_all, List.flatMap_nil, List.nil_append] at hrun2
      repeat' (first
    | (with_reducible refine DW.seq ?_)
    | (with_reducible refine DW.block ?_)
    | (with_reducible refine DW.skip ?_)
    | (with_reducible refine DW.exit ?_)
    | (with_reducible refine DW.ret ?_)
    | (with_reducible refine DW.reg ?_)
    | (simp (disch := omega) only [go_sem, Nat.reduceLT, Nat.reduceLeDiff, Nat.reduceAdd, Nat.reduceMul, Nat.reduceEqDiff, ↓reduceIte, reduceCtorEq, Nat.reduceBEq, Nat.reduceBNe, Nat.reducePow, Int.reduceLE, Int.reduceLT, Int.reduceNeg, Int.reduceToNat, Int.reduceEq, Int.reduceAdd, Int.reduceSub, Int.reduceMul, Int.reduceBEq, Int.reduceBNe, Blk.men, Blk.keysIn, hd2])
    | (exact retS_of rfl rfl rfl)
    | (refine DW.cond_tt rfl ?_)
    | (refine DW.cond_ff rfl ?_)
    | (refine DW.cond rfl ?_ ?_ <;> intro hc <;> (try simp only [go_sem] at hc))
    | (refine g_split ?_ ?_ <;> intro hc <;> (try simp only [hc]) <;> (try simp only [go_sem] at hc)))
      refine ⟨⟨(k + 1, b2), hlt, hlv2, by rw [hrun2, hR1]⟩, by (show _ < _; (try simp only); omega), Ent.toT ?_⟩; simp (disch := omega) only [wkT_cons, wkX_cons, wkT_nil, wkX_nil, get, Nat.reduceEqDiff, ↓reduceIte, ex_some, wk_self, wk_top, wk_nil, wkB_self, and_self, dI, i64_in, and_true, true_and, Int.natCast_add, Int.natCast_one, Int.ofNat_zero, Int.natCast_zero]
  · obtain rfl : k = boxes := by omega
    have hd : decide ((k : Int) < (k : Int)) = false := by rw [decide_eq_false_iff_not]; omega
    rw [range_drop_all, List.flatMap_nil] at hrun
    simp only [runB] at hrun
    repeat' (first
    | (with_reducible refine DW.seq ?_)
    | (with_reducible refine DW.block ?_)
    | (with_reducible refine DW.skip ?_)
    | (with_reducible refine DW.exit ?_)
    | (with_reducible refine DW.ret ?_)
    | (with_reducible refine DW.reg ?_)
    | (simp (disch := omega) only [go_sem, Nat.reduceLT, Nat.reduceLeDiff, Nat.reduceAdd, Nat.reduceMul, Nat.reduceEqDiff, ↓reduceIte, reduceCtorEq, Nat.reduceBEq, Nat.reduceBNe, Nat.reducePow, Int.reduceLE, Int.reduceLT, Int.reduceNeg, Int.reduceToNat, Int.reduceEq, Int.reduceAdd, Int.reduceSub, Int.reduceMul, Int.reduceBEq, Int.reduceBNe, Blk.men, Blk.keysIn, hd])
    | (exact retS_of rfl rfl rfl)
    | (refine DW.cond_tt rfl ?_)
    | (refine DW.cond_ff rfl ?_)
    | (refine DW.cond rfl ?_ ?_ <;> intro hc <;> (try simp only [go_sem] at hc))
    | (refine g_split ?_ ?_ <;> intro hc <;> (try simp only [hc]) <;> (try simp only [go_sem] at hc)))
    rw [hrun]
    exact retS_hid (own := []) (.inr rfl) (hH _) rfl
end Go.Dw.Seat
end
section
set_option linter.unusedSimpArgs false
set_option maxRecDepth 100000
namespace Go.Dw.Seat
open Go Go.Dw Go.Proofs Go.IntWalk
attribute [go_sem] enSpot
theorem c74 (st : Int) (noz : List Int) (boxes : Int) : DCall Try.prog 74 [dP false ⟨st, noz⟩, dI boxes] [] (.fn (.func 103) [] [.c (.ro false [.v (.int .i64 boxes)] 0), .c (.ro false [.v (.int .i64 st), .sl false 1 (rows eI noz)] 0)]) [] := by
  refine DCall.of Try.func74 sf74 hb74 (Nat.le_of_ble_eq_true rfl) (okRes_nil fun _ => rfl) ?_; simp only [s74, Mv, Sg, Ld, Fa, Xt, Ix, Ln, Cl, Oo, Og, idxs, Nat.reduceAdd]
  repeat' (first
    | (with_reducible refine DW.seq ?_)
    | (with_reducible refine DW.block ?_)
    | (with_reducible refine DW.skip ?_)
    | (with_reducible refine DW.exit ?_)
    | (with_reducible refine DW.ret ?_)
    | (with_reducible refine DW.reg ?_)
    | (simp (disch := omega) only [go_sem, Nat.reduceLT, Nat.reduceLeDiff, Nat.reduceAdd, Nat.reduceMul, Nat.reduceEqDiff, ↓reduceIte, reduceCtorEq, Nat.reduceBEq, Nat.reduceBNe, Nat.reducePow, Int.reduceLE, Int.reduceLT, Int.reduceNeg, Int.reduceToNat, Int.reduceEq, Int.reduceAdd, Int.reduceSub, Int.reduceMul, Int.reduceBEq, Int.reduceBNe, Blk.men, Blk.keysIn])
    | (exact retS_of rfl rfl rfl)
    | (refine DW.cond_tt rfl ?_)
    | (refine DW.cond_ff rfl ?_)
    | (refine DW.cond rfl ?_ ?_ <;> intro hc <;> (try simp only [go_sem] at hc))
    | (refine g_split ?_ ?_ <;> intro hc <;> (try simp only [hc]) <;> (try simp only [go_sem] at hc)))
  (refine retS_ent (Ent.rel 3 rfl) ?_; simp (disch := omega) only [go_sem, Nat.reduceLT, Nat.reduceLeDiff, Nat.reduceAdd, Nat.reduceMul, Nat.reduceEqDiff, ↓reduceIte, reduceCtorEq, Nat.reduceBEq, Nat.reduceBNe, Nat.reducePow, Int.reduceLE, Int.reduceLT, Int.reduceNeg, Int.reduceToNat, Int.reduceEq, Int.reduceAdd, Int.reduceSub, Int.reduceMul, Int.reduceBEq, Int.reduceBNe, Blk.men, Blk.keysIn])
  (refine retS_ent (Ent.rel 2 rfl) ?_; simp (disch := omega) only [go_sem, Nat.reduceLT, Nat.reduceLeDiff, Nat.reduceAdd, Nat.reduceMul, Nat.reduceEqDiff, ↓reduceIte, reduceCtorEq, Nat.reduceBEq, Nat.reduceBNe, Nat.reducePow, Int.reduceLE, Int.reduceLT, Int.reduceNeg, Int.reduceToNat, Int.reduceEq, Int.reduceAdd, Int.reduceSub, Int.reduceMul, Int.reduceBEq, Int.reduceBNe, Blk.men, Blk.keysIn])
  refine retS_wk rfl ?_ (by simp only [Blk.nb, rowC_nb, D.nb, D.nbs, C.nb, C.nbs, C.nbss, rows_nb eI_nb, rows_nb eC_nb, rows_nb eL_nb, rows_nb eR_nb, rows_nb eS_nb, rows_nb eG_nb, Bool.and_true, Bool.not_false, Bool.and_self, bD, dI, iD]); exact .refl _
def apS (st : Nat) (noz : List Nat) (a b : List Cause) (y : Look × Int) (s : Spot) : Option Exit × (Look × Int) :=
  if hasN st noz a s.box s.noz s.step = hasN st noz b s.box s.noz s.step then (none, y) else (some .ret, (⟨s.box, s.noz, s.step, hasN st noz a s.box s.noz s.step⟩, 0))
def apX (st : Nat) (noz : List Nat) (a b : List Cause) (boxes : Nat) : Option Spot := (spotsL boxes noz.length st).find? fun s => hasN st noz a s.box s.noz s.step != hasN st noz b s.box s.noz s.step
def apErr (x : Plan) (a b : List Cause) (boxes : Int) : Int :=
  if stErr x [a, b] = 0 then (if wthn 1 20 [boxes] then (if (apX x.steps.toNat (x.noz.map Int.toNat) a b boxes.toNat).isSome then 0 else 7) else 2) else stErr x [a, b]
def apAt (x : Plan) (a b : List Cause) (boxes : Int) : Look :=
  if stErr x [a, b] = 0 ∧ wthn 1 20 [boxes] = true then (match apX x.steps.toNat (x.noz.map Int.toNat) a b boxes.toNat with
    | some s => ⟨s.box, s.noz, s.step, hasN x.steps.toNat (x.noz.map Int.toNat) a s.box s.noz s.step⟩
    | none => ⟨0, 0, 0, false⟩) else ⟨0, 0, 0, false⟩
theorem apS_run (st : Nat) (noz : List Nat) (a b : List Cause) (y : Look × Int) : ∀ (l : List Spot), runIt (apS st noz a b) y l = match l.find? fun s => hasN st noz a s.box s.noz s.step != hasN st noz b s.box s.noz s.step with
    | some s => (some .ret, (⟨s.box, s.noz, s.step, hasN st noz a s.box s.noz s.step⟩, 0))
    | none => (none, y)
  | [] => rfl
  | s :: l => by
    simp only [runIt, apS, List.find?_cons]
    by_cases h : hasN st noz a s.box s.noz s.step = hasN st noz b s.box s.noz s.step
    · have h2 : (hasN st noz a s.box s.noz s.step != hasN st noz b s.box s.noz s.step) = false := by rw [h]; simp
      rw [if_pos h, h2]
      exact apS_run st noz a b y l
    · have h2 : (hasN st noz a s.box s.noz s.step != hasN st noz b s.box s.noz s.step) = true := by simpa using h
      rw [if_neg h, h2]
theorem c30 (x : Plan) (a b : List Cause) (boxes : Int) (hx : x.noz.length ≤ 2 ^ 36) (ha : a.length ≤ 2 ^ 36) (hb : b.length ≤ 2 ^ 36) :
    DCall Try.prog 30 [dP false x, dCs false a, dCs false b, dI boxes] [] (.tup [.agg ((eL (apAt x a b boxes)).map D.c), dI (apErr x a b boxes)]) [] := by
  have h77 := c77 true false x [a, b] hx (by simp) (by simp; exact ⟨by omega, by omega⟩)
  by_cases h0 : stErr x [a, b] = 0
  · obtain ⟨hop, hch⟩ := stErr_zero h0
    have hoo : opened x = x := if_pos hop
    rw [h0, hoo] at h77
    cases hw : wthn 1 20 [boxes] with
    | false =>
      have he : apErr x a b boxes = 2 := by simp only [apErr, h0, hw, if_true, Bool.false_eq_true, if_false]
      have hat : apAt x a b boxes = ⟨0, 0, 0, false⟩ := by simp [apAt, hw]
      rw [he, hat]
      refine DCall.of Try.func30 sf30 hb30 (Nat.le_of_ble_eq_true rfl) (okRes_nil fun _ => rfl) ?_; simp only [s30, Mv, Sg, Ld, Fa, Xt, Ix, Ln, Cl, Oo, Og, idxs, Nat.reduceAdd]
      repeat' (first
    | (with_reducible refine DW.seq ?_)
    | (with_reducible refine DW.block ?_)
    | (with_reducible refine DW.skip ?_)
    | (with_reducible refine DW.exit ?_)
    | (with_reducible refine DW.ret ?_)
    | (with_reducible refine DW.reg ?_)
    | (refine DW.ord rfl (WF.of (by first | rfl | simp (disch := omega) only [go_sem, Nat.reduceLT, Nat.reduceLeDiff, Nat.reduceAdd, Nat.reduceMul, Nat.reduceEqDiff, ↓reduceIte, reduceCtorEq, Nat.reduceBEq, Nat.reduceBNe, Nat.reducePow, Int.reduceLE, Int.reduceLT, Int.reduceNeg, Int.reduceToNat, Int.reduceEq, Int.reduceAdd, Int.reduceSub, Int.reduceMul, Int.reduceBEq, Int.reduceBNe, Blk.men, Blk.keysIn, hw])) ?_ ?_ ?_; rotate_left)
    | rfl
    | (with_reducible refine And.intro ?_ ?_)
    | (simp (disch := omega) only [go_sem, Nat.reduceLT, Nat.reduceLeDiff, Nat.reduceAdd, Nat.reduceMul, Nat.reduceEqDiff, ↓reduceIte, reduceCtorEq, Nat.reduceBEq, Nat.reduceBNe, Nat.reducePow, Int.reduceLE, Int.reduceLT, Int.reduceNeg, Int.reduceToNat, Int.reduceEq, Int.reduceAdd, Int.reduceSub, Int.reduceMul, Int.reduceBEq, Int.reduceBNe, Blk.men, Blk.keysIn, hw])
    | (exact retS_of rfl rfl rfl)
    | (refine DW.cond_tt rfl ?_)
    | (refine call_c (h77) (by decide) ?_)
    | (refine call_c (c73 boxes) (by decide) ?_)
    | (refine DW.cond_ff rfl ?_)
    | (refine DW.cond rfl ?_ ?_ <;> intro hc <;> (try simp only [go_sem] at hc))
    | (refine g_split ?_ ?_ <;> intro hc <;> (try simp only [hc]) <;> (try simp only [go_sem] at hc)))
    | true =>
      obtain ⟨st, noz, rfl, hst, hn, hv⟩ := openErr_zero hop
      have hbx := wthn_iff1.1 hw
      obtain ⟨nb, rfl⟩ : ∃ nb : Nat, boxes = nb := ⟨boxes.toNat, by omega⟩
      refine DCall.of Try.func30 sf30 hb30 (Nat.le_of_ble_eq_true rfl) (okRes_nil fun _ => rfl) ?_; simp only [s30, Mv, Sg, Ld, Fa, Xt, Ix, Ln, Cl, Oo, Og, idxs, Nat.reduceAdd]
      repeat' (first
    | (with_reducible refine DW.seq ?_)
    | (with_reducible refine DW.block ?_)
    | (with_reducible refine DW.skip ?_)
    | (with_reducible refine DW.exit ?_)
    | (with_reducible refine DW.ret ?_)
    | (with_reducible refine DW.reg ?_)
    | (refine DW.ord rfl (WF.of (by first | rfl | simp (disch := omega) only [go_sem, Nat.reduceLT, Nat.reduceLeDiff, Nat.reduceAdd, Nat.reduceMul, Nat.reduceEqDiff, ↓reduceIte, reduceCtorEq, Nat.reduceBEq, Nat.reduceBNe, Nat.reducePow, Int.reduceLE, Int.reduceLT, Int.reduceNeg, Int.reduceToNat, Int.reduceEq, Int.reduceAdd, Int.reduceSub, Int.reduceMul, Int.reduceBEq, Int.reduceBNe, Blk.men, Blk.keysIn, hw])) ?_ ?_ ?_; rotate_left)
    | rfl
    | (with_reducible refine And.intro ?_ ?_)
    | (simp (disch := omega) only [go_sem, Nat.reduceLT, Nat.reduceLeDiff, Nat.reduceAdd, Nat.reduceMul, Nat.reduceEqDiff, ↓reduceIte, reduceCtorEq, Nat.reduceBEq, Nat.reduceBNe, Nat.reducePow, Int.reduceLE, Int.reduceLT, Int.reduceNeg, Int.reduceToNat, Int.reduceEq, Int.reduceAdd, Int.reduceSub, Int.reduceMul, Int.reduceBEq, Int.reduceBNe, Blk.men, Blk.keysIn, hw])
    | (exact retS_of rfl rfl rfl)
    | (refine DW.cond_tt rfl ?_)
    | (refine call_c (h77) (by decide) ?_)
    | (refine call_c (c73 (nb : Int)) (by decide) ?_)
    | (refine call_c (c74 st (nL noz) nb) (by decide) ?_)
    | (refine DW.cond_ff rfl ?_)
    | (refine DW.cond rfl ?_ ?_ <;> intro hc <;> (try simp only [go_sem] at hc))
    | (refine g_split ?_ ?_ <;> intro hc <;> (try simp only [hc]) <;> (try simp only [go_sem] at hc)))
      (refine DW.ent (Ent.rel 10 rfl) ?_; simp (disch := omega) only [go_sem, Nat.reduceLT, Nat.reduceLeDiff, Nat.reduceAdd, Nat.reduceMul, Nat.reduceEqDiff, ↓reduceIte, reduceCtorEq, Nat.reduceBEq, Nat.reduceBNe, Nat.reducePow, Int.reduceLE, Int.reduceLT, Int.reduceNeg, Int.reduceToNat, Int.reduceEq, Int.reduceAdd, Int.reduceSub, Int.reduceMul, Int.reduceBEq, Int.reduceBNe, Blk.men, Blk.keysIn])
      (refine DW.ent (Ent.rel 6 rfl) ?_; simp (disch := omega) only [go_sem, Nat.reduceLT, Nat.reduceLeDiff, Nat.reduceAdd, Nat.reduceMul, Nat.reduceEqDiff, ↓reduceIte, reduceCtorEq, Nat.reduceBEq, Nat.reduceBNe, Nat.reducePow, Int.reduceLE, Int.reduceLT, Int.reduceNeg, Int.reduceToNat, Int.reduceEq, Int.reduceAdd, Int.reduceSub, Int.reduceMul, Int.reduceBEq, Int.reduceBNe, Blk.men, Blk.keysIn])
      (refine DW.ent (Ent.rel 5 rfl) ?_; simp (disch := omega) only [go_sem, Nat.reduceLT, Nat.reduceLeDiff, Nat.reduceAdd, Nat.reduceMul, Nat.reduceEqDiff, ↓reduceIte, reduceCtorEq, Nat.reduceBEq, Nat.reduceBNe, Nat.reducePow, Int.reduceLE, Int.reduceLT, Int.reduceNeg, Int.reduceToNat, Int.reduceEq, Int.reduceAdd, Int.reduceSub, Int.reduceMul, Int.reduceBEq, Int.reduceBNe, Blk.men, Blk.keysIn])
      (refine DW.ent (Ent.rel 4 rfl) ?_; simp (disch := omega) only [go_sem, Nat.reduceLT, Nat.reduceLeDiff, Nat.reduceAdd, Nat.reduceMul, Nat.reduceEqDiff, ↓reduceIte, reduceCtorEq, Nat.reduceBEq, Nat.reduceBNe, Nat.reducePow, Int.reduceLE, Int.reduceLT, Int.reduceNeg, Int.reduceToNat, Int.reduceEq, Int.reduceAdd, Int.reduceSub, Int.reduceMul, Int.reduceBEq, Int.reduceBNe, Blk.men, Blk.keysIn])
      have hit := c103 false false false nb st (nL noz) (by omega) (by omega) (by rw [nL_length]; omega)
      rw [nL_length] at hit
      have hca := (checkErr_zero (hch a (by simp)))
      have hcb := (checkErr_zero (hch b (by simp)))
      refine DW.ent (σ' := ⟨54, [(33, .fn (.func 103) [] [.c (.ro false [.v (.int .i64 nb)] 0), .c (.ro false [.v (.int .i64 st), .sl false 1 (rows eI (nL noz))] 0)]), (10, .c (.ro false [.v (.int .i64 st), .sl false 1 (rows eI (nL noz))] 0)),
        (9, .box 9 0), (8, .box 8 0), (6, .c (.ro false [.sl false 3 (rows eC b)] 0)), (5, .c (.ro false [.sl false 3 (rows eC a)] 0))], [(9, .box [dI 0]), (8, .box [dI 0, dI 0, dI 0, bD false])]⟩) (Ent.to ?_ ?_) ?_
      · simp (disch := omega) only [wkT_cons, wkX_cons, wkT_nil, wkX_nil, get, Nat.reduceEqDiff, ↓reduceIte, ex_some, wk_self, wk_top, wk_nil, wkB_self, and_self, dI, i64_in, and_true, true_and, Int.natCast_add, Int.natCast_one, Int.ofNat_zero, Int.natCast_zero]
      · simp (disch := omega) only [wkT_cons, wkX_cons, wkT_nil, wkX_nil, get, Nat.reduceEqDiff, ↓reduceIte, ex_some, wk_self, wk_top, wk_nil, wkB_self, and_self, dI, i64_in, and_true, true_and, Int.natCast_add, Int.natCast_one, Int.ofNat_zero, Int.natCast_zero, bD]
      refine DW.rngB (fun y : Look × Int => [(9, .box [dI y.2]), (8, .box ((eL y.1).map D.c))]) (⟨0, 0, 0, false⟩, 0) (apS st noz a b) enSpot (spotsL nb noz.length st) hit rfl rfl (by decide) (fun _ _ => rfl) (fun _ _ _ => rfl) (by simp only [List.map_cons, List.map_nil]; decide) (fun _ => rfl) (fun _ => rfl) (fun _ => rfl) (by simp only [List.all_cons, List.all_nil, Blk.nb, rowC_nb, D.nb, D.nbs, C.nb, C.nbs, C.nbss, rows_nb eI_nb, rows_nb eC_nb, rows_nb eL_nb, rows_nb eR_nb, rows_nb eS_nb, rows_nb eG_nb, Bool.and_true, Bool.not_false, Bool.and_self, bD, dI, iD]) ?_ ?_ ?_
      · intro y e; simp only [apS]; split <;> rfl
      · intro y e he v
        obtain ⟨k, z, t⟩ := e
        obtain ⟨hk, hz, ht⟩ := mem_spots.1 he
        dsimp only at hk hz ht
        have h75a := c75 false false st noz a k z t hst.2 hv (by omega) (by omega) (fun c hc => by have := (hca.2.1 c hc).1; rwa [nL_length] at this) hz (by omega)
        have h75b := c75 false false st noz b k z t hst.2 hv (by omega) (by omega) (fun c hc => by have := (hcb.2.1 c hc).1; rwa [nL_length] at this) hz (by omega)
        have hS : apS st noz a b y ⟨k, z, t⟩ = if hasN st noz a k z t = hasN st noz b k z t then (none, y) else (some .ret, (⟨k, z, t, hasN st noz a k z t⟩, 0)) := rfl
        rw [hS]
        clear hS
        generalize hasN st noz a k z t = ga at *
        generalize hasN st noz b k z t = gb at *
        cases hq : (ga != gb) with
        | false =>
          have hq' : ga = gb := by simpa using hq
          rw [if_pos hq']
          simp (disch := omega) only [go_sem, Nat.reduceLT, Nat.reduceLeDiff, Nat.reduceAdd, Nat.reduceMul, Nat.reduceEqDiff, ↓reduceIte, reduceCtorEq, Nat.reduceBEq, Nat.reduceBNe, Nat.reducePow, Int.reduceLE, Int.reduceLT, Int.reduceNeg, Int.reduceToNat, Int.reduceEq, Int.reduceAdd, Int.reduceSub, Int.reduceMul, Int.reduceBEq, Int.reduceBNe, Blk.men, Blk.keysIn]
          repeat' (first
    | (with_reducible refine DW.seq ?_)
    | (with_reducible refine DW.block ?_)
    | (with_reducible refine DW.skip ?_)
    | (with_reducible refine DW.exit ?_)
    | (with_reducible refine DW.ret ?_)
    | (with_reducible refine DW.reg ?_)
    | (refine DW.ord rfl (WF.of (by first | rfl | simp (disch := omega) only [go_sem, Nat.reduceLT, Nat.reduceLeDiff, Nat.reduceAdd, Nat.reduceMul, Nat.reduceEqDiff, ↓reduceIte, reduceCtorEq, Nat.reduceBEq, Nat.reduceBNe, Nat.reducePow, Int.reduceLE, Int.reduceLT, Int.reduceNeg, Int.reduceToNat, Int.reduceEq, Int.reduceAdd, Int.reduceSub, Int.reduceMul, Int.reduceBEq, Int.reduceBNe, Blk.men, Blk.keysIn, hq])) ?_ ?_ ?_; rotate_left)
    | rfl
    | (with_reducible refine And.intro ?_ ?_)
    | (simp (disch := omega) only [go_sem, Nat.reduceLT, Nat.reduceLeDiff, Nat.reduceAdd, Nat.reduceMul, Nat.reduceEqDiff, ↓reduceIte, reduceCtorEq, Nat.reduceBEq, Nat.reduceBNe, Nat.reducePow, Int.reduceLE, Int.reduceLT, Int.reduceNeg, Int.reduceToNat, Int.reduceEq, Int.reduceAdd, Int.reduceSub, Int.reduceMul, Int.reduceBEq, Int.reduceBNe, Blk.men, Blk.keysIn, hq])
    | (exact retS_of rfl rfl rfl)
    | (refine DW.cond_tt rfl ?_)
    | (refine call_c (h75a) (by decide) ?_)
    | (refine call_c (h75b) (by decide) ?_)
    | (refine DW.cond_ff rfl ?_)
    | (refine DW.cond rfl ?_ ?_ <;> intro hc <;> (try simp only [go_sem] at hc))
    | (refine g_split ?_ ?_ <;> intro hc <;> (try simp only [hc]) <;> (try simp only [go_sem] at hc)))
          refine round_end rfl rfl (Ent.to ?_ ?_) <;> simp (disch := omega) only [wkT_cons, wkX_cons, wkT_nil, wkX_nil, get, Nat.reduceEqDiff, ↓reduceIte, ex_some, wk_self, wk_top, wk_nil, wkB_self, and_self, dI, i64_in, and_true, true_and, Int.natCast_add, Int.natCast_one, Int.ofNat_zero, Int.natCast_zero, capB, List.cons_append, List.nil_append]
        | true =>
          have hq' : ¬ ga = gb := by simpa using hq
          rw [if_neg hq']
          simp (disch := omega) only [go_sem, Nat.reduceLT, Nat.reduceLeDiff, Nat.reduceAdd, Nat.reduceMul, Nat.reduceEqDiff, ↓reduceIte, reduceCtorEq, Nat.reduceBEq, Nat.reduceBNe, Nat.reducePow, Int.reduceLE, Int.reduceLT, Int.reduceNeg, Int.reduceToNat, Int.reduceEq, Int.reduceAdd, Int.reduceSub, Int.reduceMul, Int.reduceBEq, Int.reduceBNe, Blk.men, Blk.keysIn]
          repeat' (first
    | (with_reducible refine DW.seq ?_)
    | (with_reducible refine DW.block ?_)
    | (with_reducible refine DW.skip ?_)
    | (with_reducible refine DW.exit ?_)
    | (with_reducible refine DW.ret ?_)
    | (with_reducible refine DW.reg ?_)
    | (refine DW.ord rfl (WF.of (by first | rfl | simp (disch := omega) only [go_sem, Nat.reduceLT, Nat.reduceLeDiff, Nat.reduceAdd, Nat.reduceMul, Nat.reduceEqDiff, ↓reduceIte, reduceCtorEq, Nat.reduceBEq, Nat.reduceBNe, Nat.reducePow, Int.reduceLE, Int.reduceLT, Int.reduceNeg, Int.reduceToNat, Int.reduceEq, Int.reduceAdd, Int.reduceSub, Int.reduceMul, Int.reduceBEq, Int.reduceBNe, Blk.men, Blk.keysIn, hq])) ?_ ?_ ?_; rotate_left)
    | rfl
    | (with_reducible refine And.intro ?_ ?_)
    | (simp (disch := omega) only [go_sem, Nat.reduceLT, Nat.reduceLeDiff, Nat.reduceAdd, Nat.reduceMul, Nat.reduceEqDiff, ↓reduceIte, reduceCtorEq, Nat.reduceBEq, Nat.reduceBNe, Nat.reducePow, Int.reduceLE, Int.reduceLT, Int.reduceNeg, Int.reduceToNat, Int.reduceEq, Int.reduceAdd, Int.reduceSub, Int.reduceMul, Int.reduceBEq, Int.reduceBNe, Blk.men, Blk.keysIn, hq])
    | (exact retS_of rfl rfl rfl)
    | (refine DW.cond_tt rfl ?_)
    | (refine call_c (h75a) (by decide) ?_)
    | (refine call_c (h75b) (by decide) ?_)
    | (refine DW.cond_ff rfl ?_)
    | (refine DW.cond rfl ?_ ?_ <;> intro hc <;> (try simp only [go_sem] at hc))
    | (refine g_split ?_ ?_ <;> intro hc <;> (try simp only [hc]) <;> (try simp only [go_sem] at hc)))
          refine round_end rfl rfl (Ent.to ?_ ?_) <;> simp (disch := omega) only [wkT_cons, wkX_cons, wkT_nil, wkX_nil, get, Nat.reduceEqDiff, ↓reduceIte, ex_some, wk_self, wk_top, wk_nil, wkB_self, and_self, dI, i64_in, and_true, true_and, Int.natCast_add, Int.natCast_one, Int.ofNat_zero, Int.natCast_zero, capB, List.cons_append, List.nil_append]
      · rw [apS_run]
        have hX : apX st noz a b nb = (spotsL nb noz.length st).find? fun s => hasN st noz a s.box s.noz s.step != hasN st noz b s.box s.noz s.step := rfl
        rw [← hX]
        have he : apErr ⟨st, nL noz⟩ a b nb = if (apX st noz a b nb).isSome then 0 else 7 := by simp only [apErr, h0, hw, if_true, nL_toNat, Int.toNat_natCast]
        have hat : apAt ⟨st, nL noz⟩ a b nb = match apX st noz a b nb with
          | some s => ⟨s.box, s.noz, s.step, hasN st noz a s.box s.noz s.step⟩
          | none => ⟨0, 0, 0, false⟩ := by simp only [apAt, h0, hw, and_self, if_true, nL_toNat, Int.toNat_natCast]
        rw [he, hat]
        cases apX st noz a b nb with
        | some s =>
          simp only [Option.getD_some, Option.isSome_some, if_true]
          simp (disch := omega) only [go_sem, Nat.reduceLT, Nat.reduceLeDiff, Nat.reduceAdd, Nat.reduceMul, Nat.reduceEqDiff, ↓reduceIte, reduceCtorEq, Nat.reduceBEq, Nat.reduceBNe, Nat.reducePow, Int.reduceLE, Int.reduceLT, Int.reduceNeg, Int.reduceToNat, Int.reduceEq, Int.reduceAdd, Int.reduceSub, Int.reduceMul, Int.reduceBEq, Int.reduceBNe, Blk.men, Blk.keysIn]
          repeat' (first
    | (with_reducible refine DW.seq ?_)
    | (with_reducible refine DW.block ?_)
    | (with_reducible refine DW.skip ?_)
    | (with_reducible refine DW.exit ?_)
    | (with_reducible refine DW.ret ?_)
    | (with_reducible refine DW.reg ?_)
    | (refine DW.ord rfl (WF.of (by first | rfl | simp (disch := omega) only [go_sem, Nat.reduceLT, Nat.reduceLeDiff, Nat.reduceAdd, Nat.reduceMul, Nat.reduceEqDiff, ↓reduceIte, reduceCtorEq, Nat.reduceBEq, Nat.reduceBNe, Nat.reducePow, Int.reduceLE, Int.reduceLT, Int.reduceNeg, Int.reduceToNat, Int.reduceEq, Int.reduceAdd, Int.reduceSub, Int.reduceMul, Int.reduceBEq, Int.reduceBNe, Blk.men, Blk.keysIn])) ?_ ?_ ?_; rotate_left)
    | rfl
    | (with_reducible refine And.intro ?_ ?_)
    | (simp (disch := omega) only [go_sem, Nat.reduceLT, Nat.reduceLeDiff, Nat.reduceAdd, Nat.reduceMul, Nat.reduceEqDiff, ↓reduceIte, reduceCtorEq, Nat.reduceBEq, Nat.reduceBNe, Nat.reducePow, Int.reduceLE, Int.reduceLT, Int.reduceNeg, Int.reduceToNat, Int.reduceEq, Int.reduceAdd, Int.reduceSub, Int.reduceMul, Int.reduceBEq, Int.reduceBNe, Blk.men, Blk.keysIn])
    | (exact retS_of rfl rfl rfl)
    | (refine DW.cond_tt rfl ?_)
    | (refine DW.cond_ff rfl ?_)
    | (refine DW.cond rfl ?_ ?_ <;> intro hc <;> (try simp only [go_sem] at hc))
    | (refine g_split ?_ ?_ <;> intro hc <;> (try simp only [hc]) <;> (try simp only [go_sem] at hc)))
        | none =>
          simp only [Option.getD_none, Option.isSome_none, Bool.false_eq_true, if_false]
          simp (disch := omega) only [go_sem, Nat.reduceLT, Nat.reduceLeDiff, Nat.reduceAdd, Nat.reduceMul, Nat.reduceEqDiff, ↓reduceIte, reduceCtorEq, Nat.reduceBEq, Nat.reduceBNe, Nat.reducePow, Int.reduceLE, Int.reduceLT, Int.reduceNeg, Int.reduceToNat, Int.reduceEq, Int.reduceAdd, Int.reduceSub, Int.reduceMul, Int.reduceBEq, Int.reduceBNe, Blk.men, Blk.keysIn]
          repeat' (first
    | (with_reducible refine DW.seq ?_)
    | (with_reducible refine DW.block ?_)
    | (with_reducible refine DW.skip ?_)
    | (with_reducible refine DW.exit ?_)
    | (with_reducible refine DW.ret ?_)
    | (with_reducible refine DW.reg ?_)
    | (refine DW.ord rfl (WF.of (by first | rfl | simp (disch := omega) only [go_sem, Nat.reduceLT, Nat.reduceLeDiff, Nat.reduceAdd, Nat.reduceMul, Nat.reduceEqDiff, ↓reduceIte, reduceCtorEq, Nat.reduceBEq, Nat.reduceBNe, Nat.reducePow, Int.reduceLE, Int.reduceLT, Int.reduceNeg, Int.reduceToNat, Int.reduceEq, Int.reduceAdd, Int.reduceSub, Int.reduceMul, Int.reduceBEq, Int.reduceBNe, Blk.men, Blk.keysIn])) ?_ ?_ ?_; rotate_left)
    | rfl
    | (with_reducible refine And.intro ?_ ?_)
    | (simp (disch := omega) only [go_sem, Nat.reduceLT, Nat.reduceLeDiff, Nat.reduceAdd, Nat.reduceMul, Nat.reduceEqDiff, ↓reduceIte, reduceCtorEq, Nat.reduceBEq, Nat.reduceBNe, Nat.reducePow, Int.reduceLE, Int.reduceLT, Int.reduceNeg, Int.reduceToNat, Int.reduceEq, Int.reduceAdd, Int.reduceSub, Int.reduceMul, Int.reduceBEq, Int.reduceBNe, Blk.men, Blk.keysIn])
    | (exact retS_of rfl rfl rfl)
    | (refine DW.cond_tt rfl ?_)
    | (refine DW.cond_ff rfl ?_)
    | (refine DW.cond rfl ?_ ?_ <;> intro hc <;> (try simp only [go_sem] at hc))
    | (refine g_split ?_ ?_ <;> intro hc <;> (try simp only [hc]) <;> (try simp only [go_sem] at hc)))
  · have he : apErr x a b boxes = stErr x [a, b] := by simp only [apErr, h0, if_false]
    have hat : apAt x a b boxes = ⟨0, 0, 0, false⟩ := by simp [apAt, h0]
    rw [he, hat]
    generalize stErr x [a, b] = e at *
    generalize opened x = y at *
    have hb : (e != 0) = true := by simpa using h0
    refine DCall.of Try.func30 sf30 hb30 (Nat.le_of_ble_eq_true rfl) (okRes_nil fun _ => rfl) ?_; simp only [s30, Mv, Sg, Ld, Fa, Xt, Ix, Ln, Cl, Oo, Og, idxs, Nat.reduceAdd]
    repeat' (first
    | (with_reducible refine DW.seq ?_)
    | (with_reducible refine DW.block ?_)
    | (with_reducible refine DW.skip ?_)
    | (with_reducible refine DW.exit ?_)
    | (with_reducible refine DW.ret ?_)
    | (with_reducible refine DW.reg ?_)
    | (refine DW.ord rfl (WF.of (by first | rfl | simp (disch := omega) only [go_sem, Nat.reduceLT, Nat.reduceLeDiff, Nat.reduceAdd, Nat.reduceMul, Nat.reduceEqDiff, ↓reduceIte, reduceCtorEq, Nat.reduceBEq, Nat.reduceBNe, Nat.reducePow, Int.reduceLE, Int.reduceLT, Int.reduceNeg, Int.reduceToNat, Int.reduceEq, Int.reduceAdd, Int.reduceSub, Int.reduceMul, Int.reduceBEq, Int.reduceBNe, Blk.men, Blk.keysIn, hb])) ?_ ?_ ?_; rotate_left)
    | rfl
    | (with_reducible refine And.intro ?_ ?_)
    | (simp (disch := omega) only [go_sem, Nat.reduceLT, Nat.reduceLeDiff, Nat.reduceAdd, Nat.reduceMul, Nat.reduceEqDiff, ↓reduceIte, reduceCtorEq, Nat.reduceBEq, Nat.reduceBNe, Nat.reducePow, Int.reduceLE, Int.reduceLT, Int.reduceNeg, Int.reduceToNat, Int.reduceEq, Int.reduceAdd, Int.reduceSub, Int.reduceMul, Int.reduceBEq, Int.reduceBNe, Blk.men, Blk.keysIn, hb])
    | (exact retS_of rfl rfl rfl)
    | (refine DW.cond_tt rfl ?_)
    | (refine call_c (h77) (by decide) ?_)
    | (refine DW.cond_ff rfl ?_)
    | (refine DW.cond rfl ?_ ?_ <;> intro hc <;> (try simp only [go_sem] at hc))
    | (refine g_split ?_ ?_ <;> intro hc <;> (try simp only [hc]) <;> (try simp only [go_sem] at hc)))
end Go.Dw.Seat
end
section
set_option linter.unusedSimpArgs false
namespace Go.Dw.Seat
open Go Go.Dw
theorem hasN_eq {st : Nat} {noz : List Nat} {s : List Cause} {box : Int} {z t : Nat} (hv : ∀ v ∈ noz, v < 2 ^ st) (hb : 0 ≤ box) (hp : s.Pairwise (fun a b => a.noz ≠ b.noz)) (h0 : ∀ c ∈ s, 0 ≤ c.noz) (hz : z < noz.length) (ht : t < st) :
    hasN st noz s box z t = glueN st noz s box z t := by
  unfold hasN
  rw [boxN_eq hv hb hp h0]
  have h1 : (boxR st noz s box).getD z 0 = boxB st noz s box z st := by simp [boxR, List.getD, hz]
  rw [h1]
  have h2 : ((boxB st noz s box z st >>> t) % 2 == 1) = (boxB st noz s box z st).testBit t := by
    rw [Nat.testBit_eq_decide_div_mod_eq, Nat.shiftRight_eq_div_pow, Bool.eq_iff_iff]; simp
  rw [h2, boxB, bitsN_test]; simp [ht]
theorem findSome_flatMap {α β γ : Type} (g : α → List β) (f : β → Option γ) : ∀ l : List α, (l.flatMap g).findSome? f = l.findSome? fun a => (g a).findSome? f
  | [] => rfl
  | a :: l => by
    rw [List.flatMap_cons, List.findSome?_append, List.findSome?_cons, findSome_flatMap g f l]
    cases (g a).findSome? f <;> rfl
theorem firstAt_eq {α : Type} (boxes n st : Nat) (f : Nat → Nat → Nat → Option α) : firstAt boxes n st f = (spotsL boxes n st).findSome? fun s => f s.box s.noz s.step := by
  simp only [firstAt, firstIn, spotsL, findSome_flatMap, List.findSome?_map, Function.comp_def]
theorem find_map {α β : Type} (f : α → Option β) (q : α → Bool) (g : α → β) : ∀ l : List α, (∀ s ∈ l, f s = if q s then some (g s) else none) → l.findSome? f = (l.find? q).map g
  | [], _ => rfl
  | a :: l, h => by
    rw [List.findSome?_cons, List.find?_cons, h a (by simp)]
    cases q a with
    | true => rfl
    | false => exact find_map f q g l (fun s hs => h s (by simp [hs]))
theorem valid_pair {st : Nat} {noz : List Nat} {s : List Cause} (h : checkErr ⟨st, nL noz⟩ s = 0) : s.Pairwise (fun a b => a.noz ≠ b.noz) ∧ ∀ c ∈ s, 0 ≤ c.noz := by
  have hc := checkErr_zero h
  exact ⟨asc_pair hc.1 hc.2.2, fun c hcs => (hc.2.1 c hcs).1.1⟩
theorem apart_eq {st : Nat} {noz : List Nat} {a b : List Cause} (boxes : Nat) (hv : ∀ v ∈ noz, v < 2 ^ st) (ha : checkErr ⟨st, nL noz⟩ a = 0) (hb : checkErr ⟨st, nL noz⟩ b = 0) :
    apartN st noz a b boxes = (apX st noz a b boxes).map fun s => ⟨s.box, s.noz, s.step, hasN st noz a s.box s.noz s.step⟩ := by
  obtain ⟨ha1, ha2⟩ := valid_pair ha
  obtain ⟨hb1, hb2⟩ := valid_pair hb
  rw [apartN, firstAt_eq]
  refine find_map _ _ _ _ (fun s hs => ?_)
  obtain ⟨h1, h2, h3⟩ := mem_spots.1 hs
  have hA := hasN_eq (box := (s.box : Int)) hv (by omega) ha1 ha2 h2 h3
  have hB := hasN_eq (box := (s.box : Int)) hv (by omega) hb1 hb2 h2 h3
  simp only [differ, hA, hB]
  by_cases h : glueN st noz a s.box s.noz s.step = glueN st noz b s.box s.noz s.step
  · rw [if_pos h]; simp [h]
  · rw [if_neg h]; simp [h]
end Go.Dw.Seat
end
section
set_option linter.unusedSimpArgs false
set_option maxRecDepth 100000
namespace Go.Dw.Seat
open Go Go.Dw Go.Proofs Go.IntWalk
def cntS (st : Nat) (noz : List Nat) (l : List (List Cause)) (s : Spot) : Nat := l.countP fun x => hasN st noz x s.box s.noz s.step
def nxS (st : Nat) (noz : List Nat) (l : List (List Cause)) (y : Look × Int) (s : Spot) : Look × Int :=
  if leftN (cntS st noz l s) l.length < y.2 then (⟨s.box, s.noz, s.step, false⟩, leftN (cntS st noz l s) l.length) else y
def nxF (st : Nat) (noz : List Nat) (l : List (List Cause)) (boxes : Nat) : Look × Int := (spotsL boxes noz.length st).foldl (nxS st noz l) (⟨0, 0, 0, false⟩, l.length)
def nxErr (x : Plan) (froms : List Int) (looks : List Look) (boxes : Int) : Int :=
  if exErr x froms looks = 0 then (if wthn 1 20 [boxes] then (if (nxF x.steps.toNat (x.noz.map Int.toNat) (exOut x froms looks) boxes.toNat).2 = (exOut x froms looks).length then 7 else 0) else 2) else exErr x froms looks
def nxAt (x : Plan) (froms : List Int) (looks : List Look) (boxes : Int) : Look :=
  if exErr x froms looks = 0 ∧ wthn 1 20 [boxes] = true then (nxF x.steps.toNat (x.noz.map Int.toNat) (exOut x froms looks) boxes.toNat).1 else ⟨0, 0, 0, false⟩
def nxMost (x : Plan) (froms : List Int) (looks : List Look) (boxes : Int) : Int :=
  if nxErr x froms looks boxes = 0 then (nxF x.steps.toNat (x.noz.map Int.toNat) (exOut x froms looks) boxes.toNat).2 else 0
theorem runIt_fold {α ε : Type} (f : α → ε → α) : ∀ (l : List ε) (y : α), runIt (fun y e => ((none : Option Exit), f y e)) y l = (none, l.foldl f y)
  | [], _ => rfl
  | e :: l, y => runIt_fold f l (f y e)
theorem c26 (b1 b2 : Bool) (x : Plan) (froms : List Int) (looks : List Look) (boxes : Int) (hp : x.noz.length ≤ 2 ^ 36) (hf : froms.length ≤ 2 ^ 36) (hl : looks.length ≤ 2 ^ 36) :
    DCall Try.prog 26 [dP false x, dIs b1 froms, dLs b2 looks, dI boxes] [] (.tup [.agg ((eL (nxAt x froms looks boxes)).map D.c), dI (nxMost x froms looks boxes), dI (nxErr x froms looks boxes)]) [] := by
  have h65 := c65 b1 b2 x froms looks hp hf hl
  by_cases h0 : exErr x froms looks = 0
  · obtain ⟨hop, _, _, hlen⟩ := exErr_zero h0
    have hoo : opened x = x := if_pos hop
    have hln := exOut_len (x := x) (froms := froms) (looks := looks)
    have hval := fun s (hs : s ∈ exOut x froms looks) => exOut_valid hs
    rw [h0, hoo] at h65
    cases hw : wthn 1 20 [boxes] with
    | false =>
      have he : nxErr x froms looks boxes = 2 := by simp only [nxErr, h0, hw, if_true, Bool.false_eq_true, if_false]
      have hat : nxAt x froms looks boxes = ⟨0, 0, 0, false⟩ := by simp [nxAt, hw]
      have hm : nxMost x froms looks boxes = 0 := by simp [nxMost, he]
      rw [he, hat, hm]
      generalize exOut x froms looks = out at *
      refine DCall.of Try.func26 sf26 hb26 (Nat.le_of_ble_eq_true rfl) (okRes_nil fun _ => rfl) ?_; simp only [s26, Mv, Sg, Ld, Fa, Xt, Ix, Ln, Cl, Oo, Og, idxs, Nat.reduceAdd]
      repeat' (first
    | (with_reducible refine DW.seq ?_)
    | (with_reducible refine DW.block ?_)
    | (with_reducible refine DW.skip ?_)
    | (with_reducible refine DW.exit ?_)
    | (with_reducible refine DW.ret ?_)
    | (with_reducible refine DW.reg ?_)
    | (refine DW.ord rfl (WF.of (by first | rfl | simp (disch := omega) only [go_sem, Nat.reduceLT, Nat.reduceLeDiff, Nat.reduceAdd, Nat.reduceMul, Nat.reduceEqDiff, ↓reduceIte, reduceCtorEq, Nat.reduceBEq, Nat.reduceBNe, Nat.reducePow, Int.reduceLE, Int.reduceLT, Int.reduceNeg, Int.reduceToNat, Int.reduceEq, Int.reduceAdd, Int.reduceSub, Int.reduceMul, Int.reduceBEq, Int.reduceBNe, Blk.men, Blk.keysIn, hw])) ?_ ?_ ?_; rotate_left)
    | rfl
    | (with_reducible refine And.intro ?_ ?_)
    | (simp (disch := omega) only [go_sem, Nat.reduceLT, Nat.reduceLeDiff, Nat.reduceAdd, Nat.reduceMul, Nat.reduceEqDiff, ↓reduceIte, reduceCtorEq, Nat.reduceBEq, Nat.reduceBNe, Nat.reducePow, Int.reduceLE, Int.reduceLT, Int.reduceNeg, Int.reduceToNat, Int.reduceEq, Int.reduceAdd, Int.reduceSub, Int.reduceMul, Int.reduceBEq, Int.reduceBNe, Blk.men, Blk.keysIn, hw])
    | (exact retS_of rfl rfl rfl)
    | (refine DW.cond_tt rfl ?_)
    | (refine call_c (h65) (by decide) ?_)
    | (refine call_c (c73 boxes) (by decide) ?_)
    | (refine DW.cond_ff rfl ?_)
    | (refine DW.cond rfl ?_ ?_ <;> intro hc <;> (try simp only [go_sem] at hc))
    | (refine g_split ?_ ?_ <;> intro hc <;> (try simp only [hc]) <;> (try simp only [go_sem] at hc)))
    | true =>
      have he : nxErr x froms looks boxes = if (nxF x.steps.toNat (x.noz.map Int.toNat) (exOut x froms looks) boxes.toNat).2 = (exOut x froms looks).length then 7 else 0 := by simp only [nxErr, h0, hw, if_true]
      have hat : nxAt x froms looks boxes = (nxF x.steps.toNat (x.noz.map Int.toNat) (exOut x froms looks) boxes.toNat).1 := by simp only [nxAt, h0, hw, and_self, if_true]
      have hm : nxMost x froms looks boxes = if (nxF x.steps.toNat (x.noz.map Int.toNat) (exOut x froms looks) boxes.toNat).2 = (exOut x froms looks).length then 0 else (nxF x.steps.toNat (x.noz.map Int.toNat) (exOut x froms looks) boxes.toNat).2 := by
        simp only [nxMost, he]
        split <;> simp_all
      rw [he, hat, hm]
      clear he hat hm
      obtain ⟨st, noz, rfl, hst, hn, hv⟩ := openErr_zero hop
      simp only [nL_toNat, Int.toNat_natCast]
      simp only [nL_length] at hval
      generalize exOut ⟨st, nL noz⟩ froms looks = out at *
      have hbx := wthn_iff1.1 hw
      obtain ⟨nb, rfl⟩ : ∃ nb : Nat, boxes = nb := ⟨boxes.toNat, by omega⟩
      simp only [Int.toNat_natCast]
      refine DCall.of Try.func26 sf26 hb26 (Nat.le_of_ble_eq_true rfl) (okRes_nil fun _ => rfl) ?_; simp only [s26, Mv, Sg, Ld, Fa, Xt, Ix, Ln, Cl, Oo, Og, idxs, Nat.reduceAdd]
      repeat' (first
    | (with_reducible refine DW.seq ?_)
    | (with_reducible refine DW.block ?_)
    | (with_reducible refine DW.skip ?_)
    | (with_reducible refine DW.exit ?_)
    | (with_reducible refine DW.ret ?_)
    | (with_reducible refine DW.reg ?_)
    | (refine DW.ord rfl (WF.of (by first | rfl | simp (disch := omega) only [go_sem, Nat.reduceLT, Nat.reduceLeDiff, Nat.reduceAdd, Nat.reduceMul, Nat.reduceEqDiff, ↓reduceIte, reduceCtorEq, Nat.reduceBEq, Nat.reduceBNe, Nat.reducePow, Int.reduceLE, Int.reduceLT, Int.reduceNeg, Int.reduceToNat, Int.reduceEq, Int.reduceAdd, Int.reduceSub, Int.reduceMul, Int.reduceBEq, Int.reduceBNe, Blk.men, Blk.keysIn, hw])) ?_ ?_ ?_; rotate_left)
    | rfl
    | (with_reducible refine And.intro ?_ ?_)
    | (simp (disch := omega) only [go_sem, Nat.reduceLT, Nat.reduceLeDiff, Nat.reduceAdd, Nat.reduceMul, Nat.reduceEqDiff, ↓reduceIte, reduceCtorEq, Nat.reduceBEq, Nat.reduceBNe, Nat.reducePow, Int.reduceLE, Int.reduceLT, Int.reduceNeg, Int.reduceToNat, Int.reduceEq, Int.reduceAdd, Int.reduceSub, Int.reduceMul, Int.reduceBEq, Int.reduceBNe, Blk.men, Blk.keysIn, hw])
    | (exact retS_of rfl rfl rfl)
    | (refine DW.cond_tt rfl ?_)
    | (refine call_c (h65) (by decide) ?_)
    | (refine call_c (c73 (nb : Int)) (by decide) ?_)
    | (refine call_c (c74 st (nL noz) nb) (by decide) ?_)
    | (refine DW.cond_ff rfl ?_)
    | (refine DW.cond rfl ?_ ?_ <;> intro hc <;> (try simp only [go_sem] at hc))
    | (refine g_split ?_ ?_ <;> intro hc <;> (try simp only [hc]) <;> (try simp only [go_sem] at hc)))
      (refine DW.ent (Ent.rel 11 rfl) ?_; simp (disch := omega) only [go_sem, Nat.reduceLT, Nat.reduceLeDiff, Nat.reduceAdd, Nat.reduceMul, Nat.reduceEqDiff, ↓reduceIte, reduceCtorEq, Nat.reduceBEq, Nat.reduceBNe, Nat.reducePow, Int.reduceLE, Int.reduceLT, Int.reduceNeg, Int.reduceToNat, Int.reduceEq, Int.reduceAdd, Int.reduceSub, Int.reduceMul, Int.reduceBEq, Int.reduceBNe, Blk.men, Blk.keysIn])
      (refine DW.ent (Ent.rel 12 rfl) ?_; simp (disch := omega) only [go_sem, Nat.reduceLT, Nat.reduceLeDiff, Nat.reduceAdd, Nat.reduceMul, Nat.reduceEqDiff, ↓reduceIte, reduceCtorEq, Nat.reduceBEq, Nat.reduceBNe, Nat.reducePow, Int.reduceLE, Int.reduceLT, Int.reduceNeg, Int.reduceToNat, Int.reduceEq, Int.reduceAdd, Int.reduceSub, Int.reduceMul, Int.reduceBEq, Int.reduceBNe, Blk.men, Blk.keysIn])
      (refine DW.ent (Ent.rel 4 rfl) ?_; simp (disch := omega) only [go_sem, Nat.reduceLT, Nat.reduceLeDiff, Nat.reduceAdd, Nat.reduceMul, Nat.reduceEqDiff, ↓reduceIte, reduceCtorEq, Nat.reduceBEq, Nat.reduceBNe, Nat.reducePow, Int.reduceLE, Int.reduceLT, Int.reduceNeg, Int.reduceToNat, Int.reduceEq, Int.reduceAdd, Int.reduceSub, Int.reduceMul, Int.reduceBEq, Int.reduceBNe, Blk.men, Blk.keysIn])
      have hit := c103 false false false nb st (nL noz) (by omega) (by omega) (by rw [nL_length]; omega)
      rw [nL_length] at hit
      refine DW.ent (σ' := ⟨78, [(39, .fn (.func 103) [] [.c (.ro false [.v (.int .i64 nb)] 0), .c (.ro false [.v (.int .i64 st), .sl false 1 (rows eI (nL noz))] 0)]), (12, .c (.ro false [.sl false 1 (rows (eSb false) out)] 0)), (11, .c (.ro false [.v (.int .i64 st), .sl false 1 (rows eI (nL noz))] 0)),
        (9, .box 9 0), (8, .box 8 0)], [(9, .box [dI out.length]), (8, .box [dI 0, dI 0, dI 0, bD false])]⟩) (Ent.to ?_ ?_) ?_
      · simp (disch := omega) only [wkT_cons, wkX_cons, wkT_nil, wkX_nil, get, Nat.reduceEqDiff, ↓reduceIte, ex_some, wk_self, wk_top, wk_nil, wkB_self, and_self, dI, i64_in, and_true, true_and, Int.natCast_add, Int.natCast_one, Int.ofNat_zero, Int.natCast_zero]
      · simp (disch := omega) only [wkT_cons, wkX_cons, wkT_nil, wkX_nil, get, Nat.reduceEqDiff, ↓reduceIte, ex_some, wk_self, wk_top, wk_nil, wkB_self, and_self, dI, i64_in, and_true, true_and, Int.natCast_add, Int.natCast_one, Int.ofNat_zero, Int.natCast_zero, bD]
      refine DW.rngB (fun y : Look × Int => [(9, .box [dI y.2]), (8, .box ((eL y.1).map D.c))]) (⟨0, 0, 0, false⟩, out.length) (fun y e => (none, nxS st noz out y e)) enSpot (spotsL nb noz.length st) hit rfl rfl (by decide) (fun _ _ => rfl) (fun _ _ _ => rfl) (by simp only [List.map_cons, List.map_nil]; decide) (fun _ => rfl) (fun _ => rfl) (fun _ => rfl) (by simp only [List.all_cons, List.all_nil, Blk.nb, rowC_nb, D.nb, D.nbs, C.nb, C.nbs, C.nbss, rows_nb eI_nb, rows_nb eC_nb, rows_nb eL_nb, rows_nb eR_nb, rows_nb eS_nb, rows_nb eG_nb, Bool.and_true, Bool.not_false, Bool.and_self, bD, dI, iD]) (fun _ _ => rfl) ?_ ?_
      · rintro ⟨at0, most⟩ e he v
        obtain ⟨k, z, t⟩ := e
        obtain ⟨hk, hz, ht⟩ := mem_spots.1 he
        dsimp only at hk hz ht
        simp (disch := omega) only [go_sem, Nat.reduceLT, Nat.reduceLeDiff, Nat.reduceAdd, Nat.reduceMul, Nat.reduceEqDiff, ↓reduceIte, reduceCtorEq, Nat.reduceBEq, Nat.reduceBNe, Nat.reducePow, Int.reduceLE, Int.reduceLT, Int.reduceNeg, Int.reduceToNat, Int.reduceEq, Int.reduceAdd, Int.reduceSub, Int.reduceMul, Int.reduceBEq, Int.reduceBNe, Blk.men, Blk.keysIn]
        repeat' (first
    | (with_reducible refine DW.seq ?_)
    | (with_reducible refine DW.block ?_)
    | (with_reducible refine DW.skip ?_)
    | (with_reducible refine DW.exit ?_)
    | (with_reducible refine DW.ret ?_)
    | (with_reducible refine DW.reg ?_)
    | (refine DW.ord rfl (WF.of (by first | rfl | simp (disch := omega) only [go_sem, Nat.reduceLT, Nat.reduceLeDiff, Nat.reduceAdd, Nat.reduceMul, Nat.reduceEqDiff, ↓reduceIte, reduceCtorEq, Nat.reduceBEq, Nat.reduceBNe, Nat.reducePow, Int.reduceLE, Int.reduceLT, Int.reduceNeg, Int.reduceToNat, Int.reduceEq, Int.reduceAdd, Int.reduceSub, Int.reduceMul, Int.reduceBEq, Int.reduceBNe, Blk.men, Blk.keysIn])) ?_ ?_ ?_; rotate_left)
    | rfl
    | (with_reducible refine And.intro ?_ ?_)
    | (simp (disch := omega) only [go_sem, Nat.reduceLT, Nat.reduceLeDiff, Nat.reduceAdd, Nat.reduceMul, Nat.reduceEqDiff, ↓reduceIte, reduceCtorEq, Nat.reduceBEq, Nat.reduceBNe, Nat.reducePow, Int.reduceLE, Int.reduceLT, Int.reduceNeg, Int.reduceToNat, Int.reduceEq, Int.reduceAdd, Int.reduceSub, Int.reduceMul, Int.reduceBEq, Int.reduceBNe, Blk.men, Blk.keysIn])
    | (exact retS_of rfl rfl rfl)
    | (refine DW.cond_tt rfl ?_)
    | (refine DW.cond_ff rfl ?_)
    | (refine DW.cond rfl ?_ ?_ <;> intro hc <;> (try simp only [go_sem] at hc))
    | (refine g_split ?_ ?_ <;> intro hc <;> (try simp only [hc]) <;> (try simp only [go_sem] at hc)))
        refine DW.loop (ι := { i : Nat // i ≤ out.length }) (fun i => ⟨78, [(43, dI i.1), (42, dI out.length), (41, dSs false out), (14, dI ((out.take i.1).countP fun s => hasN st noz s k z t)), (13, .box 13 0), (12, .c (.ro false [.sl false 1 (rows (eSb false) out)] 0)), (11, .c (.ro false [.v (.int .i64 st), .sl false 1 (rows eI (nL noz))] 0)), (9, .box 9 0), (8, .box 8 0)],
          [(13, .box [dI k, dI z, dI t]), (9, .box [dI most]), (8, .box [dI at0.box, dI at0.noz, dI at0.step, .c (.v (.bool at0.glue))]), (999, .lp none v [(39, .fn (.func 103) [] [.c (.ro false [.v (.int .i64 nb)] 0), .c (.ro false [.v (.int .i64 st), .sl false 1 (rows eI (nL noz))] 0)]), (12, .c (.ro false [.sl false 1 (rows (eSb false) out)] 0)), (11, .c (.ro false [.v (.int .i64 st), .sl false 1 (rows eI (nL noz))] 0)), (9, .box 9 0), (8, .box 8 0)])]⟩) (fun i => out.length - i.1) ⟨0, Nat.zero_le _⟩ ?_ ?_
        · refine Ent.to ?_ ?_ <;> simp (disch := omega) only [wkT_cons, wkX_cons, wkT_nil, wkX_nil, get, Nat.reduceEqDiff, ↓reduceIte, ex_some, wk_self, wk_top, wk_nil, wkB_self, and_self, dI, i64_in, and_true, true_and, Int.natCast_add, Int.natCast_one, Int.ofNat_zero, Int.natCast_zero, List.take_zero, List.countP_nil]
        rintro ⟨i, hi⟩
        rcases at_or out i hi with ⟨s, hs0, hlt, hd⟩ | ⟨hend, hd⟩
        · have hvs := hval s (List.mem_of_getElem? hs0)
          have h75 := c75 false false st noz s k z t hst.2 hv (by omega) (by have := hvs.1; omega) hvs.2 hz (by omega)
          have hcs : (out.take (i + 1)).countP (fun s => hasN st noz s k z t) = (out.take i).countP (fun s => hasN st noz s k z t) + if hasN st noz s k z t then 1 else 0 := by
            rw [List.take_add_one, hs0, List.countP_append]
            simp [List.countP_cons]
          have hcl : (out.take i).countP (fun s => hasN st noz s k z t) ≤ i := by
            refine Nat.le_trans List.countP_le_length ?_
            rw [List.length_take]; omega
          generalize hasN st noz s k z t = g at *
          generalize hcn : (out.take i).countP (fun s => hasN st noz s k z t) = cn at *
          repeat' (first
    | (with_reducible refine DW.seq ?_)
    | (with_reducible refine DW.block ?_)
    | (with_reducible refine DW.skip ?_)
    | (with_reducible refine DW.exit ?_)
    | (with_reducible refine DW.ret ?_)
    | (with_reducible refine DW.reg ?_)
    | (refine DW.ord rfl (WF.of (by first | rfl | simp (disch := omega) only [go_sem, Nat.reduceLT, Nat.reduceLeDiff, Nat.reduceAdd, Nat.reduceMul, Nat.reduceEqDiff, ↓reduceIte, reduceCtorEq, Nat.reduceBEq, Nat.reduceBNe, Nat.reducePow, Int.reduceLE, Int.reduceLT, Int.reduceNeg, Int.reduceToNat, Int.reduceEq, Int.reduceAdd, Int.reduceSub, Int.reduceMul, Int.reduceBEq, Int.reduceBNe, Blk.men, Blk.keysIn, hd, hs0, hcn])) ?_ ?_ ?_; rotate_left)
    | rfl
    | (with_reducible refine And.intro ?_ ?_)
    | (simp (disch := omega) only [go_sem, Nat.reduceLT, Nat.reduceLeDiff, Nat.reduceAdd, Nat.reduceMul, Nat.reduceEqDiff, ↓reduceIte, reduceCtorEq, Nat.reduceBEq, Nat.reduceBNe, Nat.reducePow, Int.reduceLE, Int.reduceLT, Int.reduceNeg, Int.reduceToNat, Int.reduceEq, Int.reduceAdd, Int.reduceSub, Int.reduceMul, Int.reduceBEq, Int.reduceBNe, Blk.men, Blk.keysIn, hd, hs0, hcn])
    | (exact retS_of rfl rfl rfl)
    | (refine DW.cond_tt rfl ?_)
    | (refine call_c (h75) (by decide) ?_)
    | (refine DW.cond_ff rfl ?_)
    | (refine DW.cond rfl ?_ ?_ <;> intro hc <;> (try simp only [go_sem] at hc))
    | (refine g_split ?_ ?_ <;> intro hc <;> (try simp only [hc]) <;> (try simp only [go_sem] at hc)))
          · rw [hc, if_pos rfl] at hcs
            refine ⟨⟨i + 1, hlt⟩, ?_, Ent.to ?_ ?_⟩ <;> first | (show _ < _; (try simp only); omega) | (simp (disch := omega) only [wkT_cons, wkX_cons, wkT_nil, wkX_nil, get, Nat.reduceEqDiff, ↓reduceIte, ex_some, wk_self, wk_top, wk_nil, wkB_self, and_self, dI, i64_in, and_true, true_and, Int.natCast_add, Int.natCast_one, Int.ofNat_zero, Int.natCast_zero,  hcs])
          · rw [hc, if_neg (by decide)] at hcs
            refine ⟨⟨i + 1, hlt⟩, ?_, Ent.to ?_ ?_⟩ <;> first | (show _ < _; (try simp only); omega) | (simp (disch := omega) only [wkT_cons, wkX_cons, wkT_nil, wkX_nil, get, Nat.reduceEqDiff, ↓reduceIte, ex_some, wk_self, wk_top, wk_nil, wkB_self, and_self, dI, i64_in, and_true, true_and, Int.natCast_add, Int.natCast_one, Int.ofNat_zero, Int.natCast_zero,  hcs, Nat.add_zero])
        · subst hend
          rw [List.take_length]
          have hcl : out.countP (fun s => hasN st noz s k z t) ≤ out.length := List.countP_le_length
          have hN : nxS st noz out (at0, most) ⟨k, z, t⟩ = if leftN (out.countP fun s => hasN st noz s k z t) out.length < most then (⟨k, z, t, false⟩, leftN (out.countP fun s => hasN st noz s k z t) out.length) else (at0, most) := rfl
          rw [hN]
          clear hN
          generalize out.countP (fun s => hasN st noz s k z t) = cn at *
          repeat' (first
    | (with_reducible refine DW.seq ?_)
    | (with_reducible refine DW.block ?_)
    | (with_reducible refine DW.skip ?_)
    | (with_reducible refine DW.exit ?_)
    | (with_reducible refine DW.ret ?_)
    | (with_reducible refine DW.reg ?_)
    | (refine DW.ord rfl (WF.of (by first | rfl | simp (disch := omega) only [go_sem, Nat.reduceLT, Nat.reduceLeDiff, Nat.reduceAdd, Nat.reduceMul, Nat.reduceEqDiff, ↓reduceIte, reduceCtorEq, Nat.reduceBEq, Nat.reduceBNe, Nat.reducePow, Int.reduceLE, Int.reduceLT, Int.reduceNeg, Int.reduceToNat, Int.reduceEq, Int.reduceAdd, Int.reduceSub, Int.reduceMul, Int.reduceBEq, Int.reduceBNe, Blk.men, Blk.keysIn, hd])) ?_ ?_ ?_; rotate_left)
    | rfl
    | (with_reducible refine And.intro ?_ ?_)
    | (simp (disch := omega) only [go_sem, Nat.reduceLT, Nat.reduceLeDiff, Nat.reduceAdd, Nat.reduceMul, Nat.reduceEqDiff, ↓reduceIte, reduceCtorEq, Nat.reduceBEq, Nat.reduceBNe, Nat.reducePow, Int.reduceLE, Int.reduceLT, Int.reduceNeg, Int.reduceToNat, Int.reduceEq, Int.reduceAdd, Int.reduceSub, Int.reduceMul, Int.reduceBEq, Int.reduceBNe, Blk.men, Blk.keysIn, hd])
    | (exact retS_of rfl rfl rfl)
    | (refine DW.cond_tt rfl ?_)
    | (refine DW.cond_ff rfl ?_)
    | (refine DW.cond rfl ?_ ?_ <;> intro hc <;> (try simp only [go_sem] at hc))
    | (refine g_split ?_ ?_ <;> intro hc <;> (try simp only [hc]) <;> (try simp only [go_sem] at hc)))
          · have hc' : leftN cn out.length < most := hc
            rw [if_pos hc']
            refine round_end rfl rfl (Ent.to ?_ ?_) <;> simp (disch := omega) only [wkT_cons, wkX_cons, wkT_nil, wkX_nil, get, Nat.reduceEqDiff, ↓reduceIte, ex_some, wk_self, wk_top, wk_nil, wkB_self, and_self, dI, i64_in, and_true, true_and, Int.natCast_add, Int.natCast_one, Int.ofNat_zero, Int.natCast_zero, capB, List.cons_append, List.nil_append, leftN]
          · have hc' : ¬ leftN cn out.length < most := Int.not_lt.2 hc
            rw [if_neg hc']
            refine round_end rfl rfl (Ent.to ?_ ?_) <;> simp (disch := omega) only [wkT_cons, wkX_cons, wkT_nil, wkX_nil, get, Nat.reduceEqDiff, ↓reduceIte, ex_some, wk_self, wk_top, wk_nil, wkB_self, and_self, dI, i64_in, and_true, true_and, Int.natCast_add, Int.natCast_one, Int.ofNat_zero, Int.natCast_zero, capB, List.cons_append, List.nil_append]
      · rw [runIt_fold]
        show blockQ _ _ _ _
        have hF : (spotsL nb noz.length st).foldl (nxS st noz out) (⟨0, 0, 0, false⟩, out.length) = nxF st noz out nb := rfl
        rw [hF]
        simp only [Option.getD_none]
        by_cases hr : (nxF st noz out nb).2 = out.length
        · rw [if_pos hr, if_pos hr]
          have hb : (((out.length : Nat) : Int) == (out.length : Int)) = true := by simp
          simp (disch := omega) only [go_sem, Nat.reduceLT, Nat.reduceLeDiff, Nat.reduceAdd, Nat.reduceMul, Nat.reduceEqDiff, ↓reduceIte, reduceCtorEq, Nat.reduceBEq, Nat.reduceBNe, Nat.reducePow, Int.reduceLE, Int.reduceLT, Int.reduceNeg, Int.reduceToNat, Int.reduceEq, Int.reduceAdd, Int.reduceSub, Int.reduceMul, Int.reduceBEq, Int.reduceBNe, Blk.men, Blk.keysIn, hr]
          repeat' (first
    | (with_reducible refine DW.seq ?_)
    | (with_reducible refine DW.block ?_)
    | (with_reducible refine DW.skip ?_)
    | (with_reducible refine DW.exit ?_)
    | (with_reducible refine DW.ret ?_)
    | (with_reducible refine DW.reg ?_)
    | (refine DW.ord rfl (WF.of (by first | rfl | simp (disch := omega) only [go_sem, Nat.reduceLT, Nat.reduceLeDiff, Nat.reduceAdd, Nat.reduceMul, Nat.reduceEqDiff, ↓reduceIte, reduceCtorEq, Nat.reduceBEq, Nat.reduceBNe, Nat.reducePow, Int.reduceLE, Int.reduceLT, Int.reduceNeg, Int.reduceToNat, Int.reduceEq, Int.reduceAdd, Int.reduceSub, Int.reduceMul, Int.reduceBEq, Int.reduceBNe, Blk.men, Blk.keysIn, hr, hb])) ?_ ?_ ?_; rotate_left)
    | rfl
    | (with_reducible refine And.intro ?_ ?_)
    | (simp (disch := omega) only [go_sem, Nat.reduceLT, Nat.reduceLeDiff, Nat.reduceAdd, Nat.reduceMul, Nat.reduceEqDiff, ↓reduceIte, reduceCtorEq, Nat.reduceBEq, Nat.reduceBNe, Nat.reducePow, Int.reduceLE, Int.reduceLT, Int.reduceNeg, Int.reduceToNat, Int.reduceEq, Int.reduceAdd, Int.reduceSub, Int.reduceMul, Int.reduceBEq, Int.reduceBNe, Blk.men, Blk.keysIn, hr, hb])
    | (exact retS_of rfl rfl rfl)
    | (refine DW.cond_tt rfl ?_)
    | (refine DW.cond_ff rfl ?_)
    | (refine DW.cond rfl ?_ ?_ <;> intro hc <;> (try simp only [go_sem] at hc))
    | (refine g_split ?_ ?_ <;> intro hc <;> (try simp only [hc]) <;> (try simp only [go_sem] at hc)))
        · rw [if_neg hr, if_neg hr]
          simp (disch := omega) only [go_sem, Nat.reduceLT, Nat.reduceLeDiff, Nat.reduceAdd, Nat.reduceMul, Nat.reduceEqDiff, ↓reduceIte, reduceCtorEq, Nat.reduceBEq, Nat.reduceBNe, Nat.reducePow, Int.reduceLE, Int.reduceLT, Int.reduceNeg, Int.reduceToNat, Int.reduceEq, Int.reduceAdd, Int.reduceSub, Int.reduceMul, Int.reduceBEq, Int.reduceBNe, Blk.men, Blk.keysIn]
          have hb : ((nxF st noz out nb).2 == (out.length : Int)) = false := by simpa using hr
          repeat' (first
    | (with_reducible refine DW.seq ?_)
    | (with_reducible refine DW.block ?_)
    | (with_reducible refine DW.skip ?_)
    | (with_reducible refine DW.exit ?_)
    | (with_reducible refine DW.ret ?_)
    | (with_reducible refine DW.reg ?_)
    | (refine DW.ord rfl (WF.of (by first | rfl | simp (disch := omega) only [go_sem, Nat.reduceLT, Nat.reduceLeDiff, Nat.reduceAdd, Nat.reduceMul, Nat.reduceEqDiff, ↓reduceIte, reduceCtorEq, Nat.reduceBEq, Nat.reduceBNe, Nat.reducePow, Int.reduceLE, Int.reduceLT, Int.reduceNeg, Int.reduceToNat, Int.reduceEq, Int.reduceAdd, Int.reduceSub, Int.reduceMul, Int.reduceBEq, Int.reduceBNe, Blk.men, Blk.keysIn, hb])) ?_ ?_ ?_; rotate_left)
    | rfl
    | (with_reducible refine And.intro ?_ ?_)
    | (simp (disch := omega) only [go_sem, Nat.reduceLT, Nat.reduceLeDiff, Nat.reduceAdd, Nat.reduceMul, Nat.reduceEqDiff, ↓reduceIte, reduceCtorEq, Nat.reduceBEq, Nat.reduceBNe, Nat.reducePow, Int.reduceLE, Int.reduceLT, Int.reduceNeg, Int.reduceToNat, Int.reduceEq, Int.reduceAdd, Int.reduceSub, Int.reduceMul, Int.reduceBEq, Int.reduceBNe, Blk.men, Blk.keysIn, hb])
    | (exact retS_of rfl rfl rfl)
    | (refine DW.cond_tt rfl ?_)
    | (refine DW.cond_ff rfl ?_)
    | (refine DW.cond rfl ?_ ?_ <;> intro hc <;> (try simp only [go_sem] at hc))
    | (refine g_split ?_ ?_ <;> intro hc <;> (try simp only [hc]) <;> (try simp only [go_sem] at hc)))
  · have he : nxErr x froms looks boxes = exErr x froms looks := by simp only [nxErr, h0, if_false]
    have hat : nxAt x froms looks boxes = ⟨0, 0, 0, false⟩ := by simp [nxAt, h0]
    have hm : nxMost x froms looks boxes = 0 := by simp [nxMost, he, h0]
    rw [he, hat, hm]
    generalize exErr x froms looks = e at *
    generalize exOut x froms looks = out at *
    generalize opened x = y at *
    have hb : (e != 0) = true := by simpa using h0
    refine DCall.of Try.func26 sf26 hb26 (Nat.le_of_ble_eq_true rfl) (okRes_nil fun _ => rfl) ?_; simp only [s26, Mv, Sg, Ld, Fa, Xt, Ix, Ln, Cl, Oo, Og, idxs, Nat.reduceAdd]
    repeat' (first
    | (with_reducible refine DW.seq ?_)
    | (with_reducible refine DW.block ?_)
    | (with_reducible refine DW.skip ?_)
    | (with_reducible refine DW.exit ?_)
    | (with_reducible refine DW.ret ?_)
    | (with_reducible refine DW.reg ?_)
    | (refine DW.ord rfl (WF.of (by first | rfl | simp (disch := omega) only [go_sem, Nat.reduceLT, Nat.reduceLeDiff, Nat.reduceAdd, Nat.reduceMul, Nat.reduceEqDiff, ↓reduceIte, reduceCtorEq, Nat.reduceBEq, Nat.reduceBNe, Nat.reducePow, Int.reduceLE, Int.reduceLT, Int.reduceNeg, Int.reduceToNat, Int.reduceEq, Int.reduceAdd, Int.reduceSub, Int.reduceMul, Int.reduceBEq, Int.reduceBNe, Blk.men, Blk.keysIn, hb])) ?_ ?_ ?_; rotate_left)
    | rfl
    | (with_reducible refine And.intro ?_ ?_)
    | (simp (disch := omega) only [go_sem, Nat.reduceLT, Nat.reduceLeDiff, Nat.reduceAdd, Nat.reduceMul, Nat.reduceEqDiff, ↓reduceIte, reduceCtorEq, Nat.reduceBEq, Nat.reduceBNe, Nat.reducePow, Int.reduceLE, Int.reduceLT, Int.reduceNeg, Int.reduceToNat, Int.reduceEq, Int.reduceAdd, Int.reduceSub, Int.reduceMul, Int.reduceBEq, Int.reduceBNe, Blk.men, Blk.keysIn, hb])
    | (exact retS_of rfl rfl rfl)
    | (refine DW.cond_tt rfl ?_)
    | (refine call_c (h65) (by decide) ?_)
    | (refine DW.cond_ff rfl ?_)
    | (refine DW.cond rfl ?_ ?_ <;> intro hc <;> (try simp only [go_sem] at hc))
    | (refine g_split ?_ ?_ <;> intro hc <;> (try simp only [hc]) <;> (try simp only [go_sem] at hc)))
end Go.Dw.Seat
end
section
set_option linter.unusedSimpArgs false
set_option maxRecDepth 100000
namespace Go.Dw.Seat
open Go Go.Dw Go.Proofs Go.IntWalk
def sigN (st : Nat) (noz : List Nat) (s : List Cause) (boxes : Nat) : List Nat := (List.range boxes).flatMap fun k => boxN st noz s (k : Nat)
theorem nL_append (a b : List Nat) : nL (a ++ b) = nL a ++ nL b := by simp [nL]
theorem sigN_length (st : Nat) (noz : List Nat) (s : List Cause) (k : Nat) : (sigN st noz s k).length = k * noz.length := by
  induction k with
  | zero => simp [sigN]
  | succ k ih =>
    unfold sigN at ih ⊢
    rw [flat_range, List.length_append, ih, boxN_length, Nat.succ_mul]
theorem c79 (b b2 b3 b4 : Bool) (st : Nat) (noz : List Nat) (s : List Cause) (boxes : Nat) (k : Nat) (hst : st ≤ 16) (hn : ∀ v ∈ noz, v < 2 ^ st) (hl : noz.length ≤ 1000) (hsl : s.length ≤ 2 ^ 36) (hs : ∀ c ∈ s, 0 ≤ c.noz ∧ c.noz < noz.length) (hb : boxes ≤ 1000) :
    DCall Try.prog 79 [dCs b s, .c (.ro b2 [.v (.int .i64 boxes)] 0), .c (.ro b3 [.v (.int .i64 st), .sl b4 1 (rows eI (nL noz))] 0)] [] (.own k) [(k, .row 1 (rowC (rows eI (nL (sigN st noz s boxes)))))] := by
  have hnb : ∀ l : List Int, Blk.nb (.row 1 (rowC (rows eI l))) = true := fun l => rowC_nb (rows_nb eI_nb l)
  refine DCall.rename (k0 := 15) ?_ k
  refine DCall.of Try.func79 sf79 hb79 (Nat.le_of_ble_eq_true rfl) okRes_row ?_; simp only [s79, Mv, Sg, Ld, Fa, Xt, Ix, Ln, Cl, Oo, Og, idxs, Nat.reduceAdd]
  repeat' (first
    | (with_reducible refine DW.seq ?_)
    | (with_reducible refine DW.block ?_)
    | (with_reducible refine DW.skip ?_)
    | (with_reducible refine DW.exit ?_)
    | (with_reducible refine DW.ret ?_)
    | (with_reducible refine DW.reg ?_)
    | (simp (disch := omega) only [go_sem, Nat.reduceLT, Nat.reduceLeDiff, Nat.reduceAdd, Nat.reduceMul, Nat.reduceEqDiff, ↓reduceIte, reduceCtorEq, Nat.reduceBEq, Nat.reduceBNe, Nat.reducePow, Int.reduceLE, Int.reduceLT, Int.reduceNeg, Int.reduceToNat, Int.reduceEq, Int.reduceAdd, Int.reduceSub, Int.reduceMul, Int.reduceBEq, Int.reduceBNe, Blk.men, Blk.keysIn])
    | (exact retS_of rfl rfl rfl)
    | (refine DW.cond_tt rfl ?_)
    | (refine DW.cond_ff rfl ?_)
    | (refine DW.cond rfl ?_ ?_ <;> intro hc <;> (try simp only [go_sem] at hc))
    | (refine g_split ?_ ?_ <;> intro hc <;> (try simp only [hc]) <;> (try simp only [go_sem] at hc)))
  refine DW.ent (Ent.adopt 4 15 1 rfl rfl rfl) ?_
  simp (disch := omega) only [go_sem, Nat.reduceLT, Nat.reduceLeDiff, Nat.reduceAdd, Nat.reduceMul, Nat.reduceEqDiff, ↓reduceIte, reduceCtorEq, Nat.reduceBEq, Nat.reduceBNe, Nat.reducePow, Int.reduceLE, Int.reduceLT, Int.reduceNeg, Int.reduceToNat, Int.reduceEq, Int.reduceAdd, Int.reduceSub, Int.reduceMul, Int.reduceBEq, Int.reduceBNe, Blk.men, Blk.keysIn]
  refine DW.loop (ι := { i : Nat // i ≤ boxes }) (fun i => ⟨18, [(7, dI i.1), (6, dI boxes), (4, .own 15), (2, .c (.ro b3 [.v (.int .i64 st), .sl b4 1 (rows eI (nL noz))] 0)), (0, dCs b s)],
    [(15, .row 1 (rowC (rows eI (nL (sigN st noz s i.1)))))]⟩) (fun i => boxes - i.1) ⟨0, Nat.zero_le _⟩ ?_ ?_
  · refine Ent.to ?_ ?_ <;> simp (disch := omega) only [wkT_cons, wkX_cons, wkT_nil, wkX_nil, get, Nat.reduceEqDiff, ↓reduceIte, ex_some, wk_self, wk_top, wk_nil, wkB_self, and_self, dI, i64_in, and_true, true_and, Int.natCast_add, Int.natCast_one, Int.ofNat_zero, Int.natCast_zero]
    exact .refl _
  rintro ⟨i, hi⟩
  rcases Nat.lt_or_ge i boxes with h | h
  · have hlen := sigN_length st noz s i
    have hstep : sigN st noz s (i + 1) = sigN st noz s i ++ boxN st noz s (i : Nat) := flat_range
    have hbl := boxN_length st (i : Nat) s noz
    have hle : i * noz.length ≤ 1000 * 1000 := Nat.mul_le_mul (by omega) hl
    have hc80 := c80 b4 b st noz s (i : Nat) 14 hst hn (by omega) hsl hs
    generalize sigN st noz s i = a at *
    generalize boxN st noz s (i : Nat) = bb at *
    repeat' (first
    | (with_reducible refine DW.seq ?_)
    | (with_reducible refine DW.block ?_)
    | (with_reducible refine DW.skip ?_)
    | (with_reducible refine DW.exit ?_)
    | (with_reducible refine DW.ret ?_)
    | (with_reducible refine DW.reg ?_)
    | (simp (disch := omega) only [go_sem, Nat.reduceLT, Nat.reduceLeDiff, Nat.reduceAdd, Nat.reduceMul, Nat.reduceEqDiff, ↓reduceIte, reduceCtorEq, Nat.reduceBEq, Nat.reduceBNe, Nat.reducePow, Int.reduceLE, Int.reduceLT, Int.reduceNeg, Int.reduceToNat, Int.reduceEq, Int.reduceAdd, Int.reduceSub, Int.reduceMul, Int.reduceBEq, Int.reduceBNe, Blk.men, Blk.keysIn, dlt h])
    | (exact retS_of rfl rfl rfl)
    | (refine DW.cond_tt rfl ?_)
    | (refine DW.cond_ff rfl ?_)
    | (refine DW.cond rfl ?_ ?_ <;> intro hc <;> (try simp only [go_sem] at hc))
    | (refine g_split ?_ ?_ <;> intro hc <;> (try simp only [hc]) <;> (try simp only [go_sem] at hc)))
    (refine call_r (hc80) (by decide) (by first | rfl | simp (disch := omega) only [go_sem, Nat.reduceLT, Nat.reduceLeDiff, Nat.reduceAdd, Nat.reduceMul, Nat.reduceEqDiff, ↓reduceIte, reduceCtorEq, Nat.reduceBEq, Nat.reduceBNe, Nat.reducePow, Int.reduceLE, Int.reduceLT, Int.reduceNeg, Int.reduceToNat, Int.reduceEq, Int.reduceAdd, Int.reduceSub, Int.reduceMul, Int.reduceBEq, Int.reduceBNe, Blk.men, Blk.keysIn]) (by first | rfl | simp (disch := omega) only [go_sem, Nat.reduceLT, Nat.reduceLeDiff, Nat.reduceAdd, Nat.reduceMul, Nat.reduceEqDiff, ↓reduceIte, reduceCtorEq, Nat.reduceBEq, Nat.reduceBNe, Nat.reducePow, Int.reduceLE, Int.reduceLT, Int.reduceNeg, Int.reduceToNat, Int.reduceEq, Int.reduceAdd, Int.reduceSub, Int.reduceMul, Int.reduceBEq, Int.reduceBNe, Blk.men, Blk.keysIn]) ?_; simp (disch := omega) only [go_sem, Nat.reduceLT, Nat.reduceLeDiff, Nat.reduceAdd, Nat.reduceMul, Nat.reduceEqDiff, ↓reduceIte, reduceCtorEq, Nat.reduceBEq, Nat.reduceBNe, Nat.reducePow, Int.reduceLE, Int.reduceLT, Int.reduceNeg, Int.reduceToNat, Int.reduceEq, Int.reduceAdd, Int.reduceSub, Int.reduceMul, Int.reduceBEq, Int.reduceBNe, Blk.men, Blk.keysIn])
    have hal : (nL a).length + (nL bb).length ≤ 17592186044416 := by rw [nL_length, nL_length]; omega
    repeat' (first
    | (with_reducible refine DW.seq ?_)
    | (with_reducible refine DW.block ?_)
    | (with_reducible refine DW.skip ?_)
    | (with_reducible refine DW.exit ?_)
    | (with_reducible refine DW.ret ?_)
    | (with_reducible refine DW.reg ?_)
    | (simp (disch := omega) only [go_sem, Nat.reduceLT, Nat.reduceLeDiff, Nat.reduceAdd, Nat.reduceMul, Nat.reduceEqDiff, ↓reduceIte, reduceCtorEq, Nat.reduceBEq, Nat.reduceBNe, Nat.reducePow, Int.reduceLE, Int.reduceLT, Int.reduceNeg, Int.reduceToNat, Int.reduceEq, Int.reduceAdd, Int.reduceSub, Int.reduceMul, Int.reduceBEq, Int.reduceBNe, Blk.men, Blk.keysIn, hal])
    | (exact retS_of rfl rfl rfl)
    | (refine DW.cond_tt rfl ?_)
    | (refine DW.cond_ff rfl ?_)
    | (refine DW.cond rfl ?_ ?_ <;> intro hc <;> (try simp only [go_sem] at hc))
    | (refine g_split ?_ ?_ <;> intro hc <;> (try simp only [hc]) <;> (try simp only [go_sem] at hc)))
    refine ⟨⟨i + 1, h⟩, ?_, Ent.to ?_ ?_⟩ <;> first | (show _ < _; (try simp only); omega) | (simp (disch := omega) only [wkT_cons, wkX_cons, wkT_nil, wkX_nil, get, Nat.reduceEqDiff, ↓reduceIte, ex_some, wk_self, wk_top, wk_nil, wkB_self, and_self, dI, i64_in, and_true, true_and, Int.natCast_add, Int.natCast_one, Int.ofNat_zero, Int.natCast_zero,  hstep, nL_append, rows_append, rowC_append])
  · obtain rfl : i = boxes := by omega
    repeat' (first
    | (with_reducible refine DW.seq ?_)
    | (with_reducible refine DW.block ?_)
    | (with_reducible refine DW.skip ?_)
    | (with_reducible refine DW.exit ?_)
    | (with_reducible refine DW.ret ?_)
    | (with_reducible refine DW.reg ?_)
    | (simp (disch := omega) only [go_sem, Nat.reduceLT, Nat.reduceLeDiff, Nat.reduceAdd, Nat.reduceMul, Nat.reduceEqDiff, ↓reduceIte, reduceCtorEq, Nat.reduceBEq, Nat.reduceBNe, Nat.reducePow, Int.reduceLE, Int.reduceLT, Int.reduceNeg, Int.reduceToNat, Int.reduceEq, Int.reduceAdd, Int.reduceSub, Int.reduceMul, Int.reduceBEq, Int.reduceBNe, Blk.men, Blk.keysIn, dge h])
    | (exact retS_of rfl rfl rfl)
    | (refine DW.cond_tt rfl ?_)
    | (refine DW.cond_ff rfl ?_)
    | (refine DW.cond rfl ?_ ?_ <;> intro hc <;> (try simp only [go_sem] at hc))
    | (refine g_split ?_ ?_ <;> intro hc <;> (try simp only [hc]) <;> (try simp only [go_sem] at hc)))
    refine retS_row ?_ ?_ (hnb _) <;> rfl
end Go.Dw.Seat
end
section
set_option linter.unusedSimpArgs false
set_option maxRecDepth 100000
namespace Go.Dw.Seat
open Go Go.Dw Go.Proofs Go.IntWalk
def eGb (b : Bool) (s : List Int) : List C := [.sl b 1 (rows eI s)]
attribute [go_sem] eGb
theorem c81b (b b' : Bool) (l : List (List Int)) (hl : l.length ≤ 2 ^ 36) (g : FuncId) (fs caps : List C) (p : List Int → Bool) (hp : ∀ x ∈ l, DCall Try.prog g (fs.map D.c ++ [.c (.sl b' 1 (rows eI x))] ++ caps.map D.c) [] (bD (p x)) []) : DCall Try.prog 81 [.c (.sl b 1 (rows (eGb b') l)), .c (.fn (.func g) fs caps)] [] (dI (idxI p l)) [] := by
  refine DCall.of Try.func81 sf81 hb81 (Nat.le_of_ble_eq_true rfl) (okRes_nil fun _ => rfl) ?_; simp only [s81, Mv, Sg, Ld, Fa, Xt, Ix, Ln, Cl, Oo, Og, idxs, Nat.reduceAdd]
  repeat' (first
    | (with_reducible refine DW.seq ?_)
    | (with_reducible refine DW.block ?_)
    | (with_reducible refine DW.skip ?_)
    | (with_reducible refine DW.exit ?_)
    | (with_reducible refine DW.ret ?_)
    | (with_reducible refine DW.reg ?_)
    | (simp (disch := omega) only [go_sem, Nat.reduceLT, Nat.reduceLeDiff, Nat.reduceAdd, Nat.reduceMul, Nat.reduceEqDiff, ↓reduceIte, reduceCtorEq, Nat.reduceBEq, Nat.reduceBNe, Nat.reducePow, Int.reduceLE, Int.reduceLT, Int.reduceNeg, Int.reduceToNat, Int.reduceEq, Int.reduceAdd, Int.reduceSub, Int.reduceMul, Int.reduceBEq, Int.reduceBNe, Blk.men, Blk.keysIn])
    | (exact retS_of rfl rfl rfl)
    | (refine DW.cond_tt rfl ?_)
    | (refine DW.cond_ff rfl ?_)
    | (refine DW.cond rfl ?_ ?_ <;> intro hc <;> (try simp only [go_sem] at hc))
    | (refine g_split ?_ ?_ <;> intro hc <;> (try simp only [hc]) <;> (try simp only [go_sem] at hc)))
  refine DW.loop (ι := { i : Nat // i ≤ l.length ∧ ∀ j u, j < i → l[j]? = some u → p u = false }) (fun i => ⟨19, [(8, dI i.1), (7, dI l.length), (1, .c (.fn (.func g) fs caps)), (0, .c (.sl b 1 (rows (eGb b') l)))], []⟩) (fun i => l.length - i.1) ⟨0, Nat.zero_le _, fun j u h => by omega⟩ ?_ ?_
  · refine Ent.to ?_ ?_ <;> simp (disch := omega) only [wkT_cons, wkX_cons, wkT_nil, wkX_nil, get, Nat.reduceEqDiff, ↓reduceIte, ex_some, wk_self, wk_top, wk_nil, wkB_self, and_self, dI, i64_in, and_true, true_and, Int.natCast_add, Int.natCast_one, Int.ofNat_zero, Int.natCast_zero]
  rintro ⟨i, hi, hij⟩
  rcases at_or l i hi with ⟨v, hv, hlt, hd⟩ | ⟨he, hd⟩
  · have hcall := hp v (List.mem_of_getElem? hv)
    repeat' (first
    | (with_reducible refine DW.seq ?_)
    | (with_reducible refine DW.block ?_)
    | (with_reducible refine DW.skip ?_)
    | (with_reducible refine DW.exit ?_)
    | (with_reducible refine DW.ret ?_)
    | (with_reducible refine DW.reg ?_)
    | (simp (disch := omega) only [go_sem, Nat.reduceLT, Nat.reduceLeDiff, Nat.reduceAdd, Nat.reduceMul, Nat.reduceEqDiff, ↓reduceIte, reduceCtorEq, Nat.reduceBEq, Nat.reduceBNe, Nat.reducePow, Int.reduceLE, Int.reduceLT, Int.reduceNeg, Int.reduceToNat, Int.reduceEq, Int.reduceAdd, Int.reduceSub, Int.reduceMul, Int.reduceBEq, Int.reduceBNe, Blk.men, Blk.keysIn, hd, hv, closeDs_fn, List.map_cons, List.map_nil])
    | (exact retS_of rfl rfl rfl)
    | (refine DW.cond_tt rfl ?_)
    | (refine DW.cond_ff rfl ?_)
    | (refine DW.cond rfl ?_ ?_ <;> intro hc <;> (try simp only [go_sem] at hc))
    | (refine g_split ?_ ?_ <;> intro hc <;> (try simp only [hc]) <;> (try simp only [go_sem] at hc)))
    refine call_c hcall (by decide) ?_
    simp (disch := omega) only [go_sem, Nat.reduceLT, Nat.reduceLeDiff, Nat.reduceAdd, Nat.reduceMul, Nat.reduceEqDiff, ↓reduceIte, reduceCtorEq, Nat.reduceBEq, Nat.reduceBNe, Nat.reducePow, Int.reduceLE, Int.reduceLT, Int.reduceNeg, Int.reduceToNat, Int.reduceEq, Int.reduceAdd, Int.reduceSub, Int.reduceMul, Int.reduceBEq, Int.reduceBNe, Blk.men, Blk.keysIn]
    refine DW.cond rfl ?_ ?_ <;> intro hc
    · repeat' (first
    | (with_reducible refine DW.seq ?_)
    | (with_reducible refine DW.block ?_)
    | (with_reducible refine DW.skip ?_)
    | (with_reducible refine DW.exit ?_)
    | (with_reducible refine DW.ret ?_)
    | (with_reducible refine DW.reg ?_)
    | (simp (disch := omega) only [go_sem, Nat.reduceLT, Nat.reduceLeDiff, Nat.reduceAdd, Nat.reduceMul, Nat.reduceEqDiff, ↓reduceIte, reduceCtorEq, Nat.reduceBEq, Nat.reduceBNe, Nat.reducePow, Int.reduceLE, Int.reduceLT, Int.reduceNeg, Int.reduceToNat, Int.reduceEq, Int.reduceAdd, Int.reduceSub, Int.reduceMul, Int.reduceBEq, Int.reduceBNe, Blk.men, Blk.keysIn])
    | (exact retS_of rfl rfl rfl)
    | (refine DW.cond_tt rfl ?_)
    | (refine DW.cond_ff rfl ?_)
    | (refine DW.cond rfl ?_ ?_ <;> intro hc <;> (try simp only [go_sem] at hc))
    | (refine g_split ?_ ?_ <;> intro hc <;> (try simp only [hc]) <;> (try simp only [go_sem] at hc)))
      refine retS_of rfl ?_ rfl; simp only [oneD, St.op, get, Nat.reduceEqDiff, ↓reduceIte, Option.getD_some, bD, dI]
      simp only [idxI, idxOf_some hij hv hc]
    · repeat' (first
    | (with_reducible refine DW.seq ?_)
    | (with_reducible refine DW.block ?_)
    | (with_reducible refine DW.skip ?_)
    | (with_reducible refine DW.exit ?_)
    | (with_reducible refine DW.ret ?_)
    | (with_reducible refine DW.reg ?_)
    | (simp (disch := omega) only [go_sem, Nat.reduceLT, Nat.reduceLeDiff, Nat.reduceAdd, Nat.reduceMul, Nat.reduceEqDiff, ↓reduceIte, reduceCtorEq, Nat.reduceBEq, Nat.reduceBNe, Nat.reducePow, Int.reduceLE, Int.reduceLT, Int.reduceNeg, Int.reduceToNat, Int.reduceEq, Int.reduceAdd, Int.reduceSub, Int.reduceMul, Int.reduceBEq, Int.reduceBNe, Blk.men, Blk.keysIn])
    | (exact retS_of rfl rfl rfl)
    | (refine DW.cond_tt rfl ?_)
    | (refine DW.cond_ff rfl ?_)
    | (refine DW.cond rfl ?_ ?_ <;> intro hc <;> (try simp only [go_sem] at hc))
    | (refine g_split ?_ ?_ <;> intro hc <;> (try simp only [hc]) <;> (try simp only [go_sem] at hc)))
      refine ⟨⟨i + 1, by omega, fun j u hj hu => by
        rcases Nat.lt_or_ge j i with h | h
        · exact hij j u h hu
        · have : j = i := by omega
          subst this
          rw [hv] at hu; cases hu; exact hc⟩, ?_, Ent.to ?_ ?_⟩ <;> first | (show _ < _; (try simp only); omega) | (simp (disch := omega) only [wkT_cons, wkX_cons, wkT_nil, wkX_nil, get, Nat.reduceEqDiff, ↓reduceIte, ex_some, wk_self, wk_top, wk_nil, wkB_self, and_self, dI, i64_in, and_true, true_and, Int.natCast_add, Int.natCast_one, Int.ofNat_zero, Int.natCast_zero])
  · repeat' (first
    | (with_reducible refine DW.seq ?_)
    | (with_reducible refine DW.block ?_)
    | (with_reducible refine DW.skip ?_)
    | (with_reducible refine DW.exit ?_)
    | (with_reducible refine DW.ret ?_)
    | (with_reducible refine DW.reg ?_)
    | (simp (disch := omega) only [go_sem, Nat.reduceLT, Nat.reduceLeDiff, Nat.reduceAdd, Nat.reduceMul, Nat.reduceEqDiff, ↓reduceIte, reduceCtorEq, Nat.reduceBEq, Nat.reduceBNe, Nat.reducePow, Int.reduceLE, Int.reduceLT, Int.reduceNeg, Int.reduceToNat, Int.reduceEq, Int.reduceAdd, Int.reduceSub, Int.reduceMul, Int.reduceBEq, Int.reduceBNe, Blk.men, Blk.keysIn, hd])
    | (exact retS_of rfl rfl rfl)
    | (refine DW.cond_tt rfl ?_)
    | (refine DW.cond_ff rfl ?_)
    | (refine DW.cond rfl ?_ ?_ <;> intro hc <;> (try simp only [go_sem] at hc))
    | (refine g_split ?_ ?_ <;> intro hc <;> (try simp only [hc]) <;> (try simp only [go_sem] at hc)))
    refine retS_of rfl ?_ rfl; simp only [oneD, St.op, get, Nat.reduceEqDiff, ↓reduceIte, Option.getD_some, bD, dI]
    simp only [idxI, idxOf_none (he ▸ hij)]
theorem nL_inj {a b : List Nat} : (nL a = nL b) ↔ a = b := by
  constructor
  · intro h
    have := congrArg (List.map Int.toNat) h
    simpa [nL, List.map_map, Function.comp_def] using this
  · rintro rfl; rfl
theorem c82 (bg b1 b2 b3 b4 b5 b6 b7 b8 b9 : Bool) (st : Nat) (noz : List Nat) (g : List Int) (l : List (List Cause)) (n : Nat) (a s : List Cause) (boxes : Nat) (hg : g[0]? = some (n : Int)) (hn0 : l[n]? = some a) (hst : st ≤ 16) (hn : ∀ v ∈ noz, v < 2 ^ st) (hl : noz.length ≤ 1000)
    (hal : a.length ≤ 2 ^ 36) (ha : ∀ c ∈ a, 0 ≤ c.noz ∧ c.noz < noz.length) (hsl : s.length ≤ 2 ^ 36) (hs : ∀ c ∈ s, 0 ≤ c.noz ∧ c.noz < noz.length) (hb : boxes ≤ 1000) :
    DCall Try.prog 82 [.c (.sl bg 1 (rows eI g)), .c (.ro b1 [.fn (.func 79) [] [.ro b2 [.v (.int .i64 boxes)] 0, .ro b3 [.v (.int .i64 st), .sl b4 1 (rows eI (nL noz))] 0]] 0), .c (.ro b5 [.sl b6 1 (rows (eSb b7) l)] 0), .c (.ro b8 [.sl b9 3 (rows eC s)] 0)] []
      (bD (decide (sigN st noz a boxes = sigN st noz s boxes))) [] := by
  have h1 := c79 b7 b2 b3 b4 st noz a boxes 13 hst hn hl hal ha hb
  have h2 := c79 b9 b2 b3 b4 st noz s boxes 16 hst hn hl hsl hs hb
  have l1 := sigN_length st noz a boxes
  have l2 := sigN_length st noz s boxes
  have hle : boxes * noz.length ≤ 1000 * 1000 := Nat.mul_le_mul hb hl
  have hnl : (n < l.length) = True := eq_true (List.getElem?_eq_some_iff.1 hn0).1
  have h0l : (0 < g.length) = True := eq_true (List.getElem?_eq_some_iff.1 hg).1
  have h3 : decide (sigN st noz a boxes = sigN st noz s boxes) = decide (nL (sigN st noz a boxes) = nL (sigN st noz s boxes)) := by simp only [nL_inj]
  rw [h3]
  clear h3
  generalize sigN st noz a boxes = x at *
  generalize sigN st noz s boxes = y at *
  have hxl : (nL x).length ≤ 2 ^ 36 := by rw [nL_length]; omega
  have hyl : (nL y).length ≤ 2 ^ 36 := by rw [nL_length]; omega
  refine DCall.of Try.func82 sf82 hb82 (Nat.le_of_ble_eq_true rfl) (okRes_nil fun _ => rfl) ?_; simp only [s82, Mv, Sg, Ld, Fa, Xt, Ix, Ln, Cl, Oo, Og, idxs, Nat.reduceAdd]
  repeat' (first
    | (with_reducible refine DW.seq ?_)
    | (with_reducible refine DW.block ?_)
    | (with_reducible refine DW.skip ?_)
    | (with_reducible refine DW.exit ?_)
    | (with_reducible refine DW.ret ?_)
    | (with_reducible refine DW.reg ?_)
    | (refine DW.dreg rfl (WF.of (by first | rfl | simp (disch := omega) only [go_sem, Nat.reduceLT, Nat.reduceLeDiff, Nat.reduceAdd, Nat.reduceMul, Nat.reduceEqDiff, ↓reduceIte, reduceCtorEq, Nat.reduceBEq, Nat.reduceBNe, Nat.reducePow, Int.reduceLE, Int.reduceLT, Int.reduceNeg, Int.reduceToNat, Int.reduceEq, Int.reduceAdd, Int.reduceSub, Int.reduceMul, Int.reduceBEq, Int.reduceBNe, Blk.men, Blk.keysIn, hg, hn0, hnl, h0l])) ?_)
    | (simp (disch := omega) only [go_sem, Nat.reduceLT, Nat.reduceLeDiff, Nat.reduceAdd, Nat.reduceMul, Nat.reduceEqDiff, ↓reduceIte, reduceCtorEq, Nat.reduceBEq, Nat.reduceBNe, Nat.reducePow, Int.reduceLE, Int.reduceLT, Int.reduceNeg, Int.reduceToNat, Int.reduceEq, Int.reduceAdd, Int.reduceSub, Int.reduceMul, Int.reduceBEq, Int.reduceBNe, Blk.men, Blk.keysIn, hg, hn0, hnl, h0l])
    | (exact retS_of rfl rfl rfl)
    | (refine DW.cond_tt rfl ?_)
    | (refine DW.cond_ff rfl ?_)
    | (refine DW.cond rfl ?_ ?_ <;> intro hc <;> (try simp only [go_sem] at hc))
    | (refine g_split ?_ ?_ <;> intro hc <;> (try simp only [hc]) <;> (try simp only [go_sem] at hc)))
  (refine call_r (h1) (by decide) (by first | rfl | simp (disch := omega) only [go_sem, Nat.reduceLT, Nat.reduceLeDiff, Nat.reduceAdd, Nat.reduceMul, Nat.reduceEqDiff, ↓reduceIte, reduceCtorEq, Nat.reduceBEq, Nat.reduceBNe, Nat.reducePow, Int.reduceLE, Int.reduceLT, Int.reduceNeg, Int.reduceToNat, Int.reduceEq, Int.reduceAdd, Int.reduceSub, Int.reduceMul, Int.reduceBEq, Int.reduceBNe, Blk.men, Blk.keysIn]) (by first | rfl | simp (disch := omega) only [go_sem, Nat.reduceLT, Nat.reduceLeDiff, Nat.reduceAdd, Nat.reduceMul, Nat.reduceEqDiff, ↓reduceIte, reduceCtorEq, Nat.reduceBEq, Nat.reduceBNe, Nat.reducePow, Int.reduceLE, Int.reduceLT, Int.reduceNeg, Int.reduceToNat, Int.reduceEq, Int.reduceAdd, Int.reduceSub, Int.reduceMul, Int.reduceBEq, Int.reduceBNe, Blk.men, Blk.keysIn]) ?_; simp (disch := omega) only [go_sem, Nat.reduceLT, Nat.reduceLeDiff, Nat.reduceAdd, Nat.reduceMul, Nat.reduceEqDiff, ↓reduceIte, reduceCtorEq, Nat.reduceBEq, Nat.reduceBNe, Nat.reducePow, Int.reduceLE, Int.reduceLT, Int.reduceNeg, Int.reduceToNat, Int.reduceEq, Int.reduceAdd, Int.reduceSub, Int.reduceMul, Int.reduceBEq, Int.reduceBNe, Blk.men, Blk.keysIn])
  (refine call_r (h2) (by decide) (by first | rfl | simp (disch := omega) only [go_sem, Nat.reduceLT, Nat.reduceLeDiff, Nat.reduceAdd, Nat.reduceMul, Nat.reduceEqDiff, ↓reduceIte, reduceCtorEq, Nat.reduceBEq, Nat.reduceBNe, Nat.reducePow, Int.reduceLE, Int.reduceLT, Int.reduceNeg, Int.reduceToNat, Int.reduceEq, Int.reduceAdd, Int.reduceSub, Int.reduceMul, Int.reduceBEq, Int.reduceBNe, Blk.men, Blk.keysIn]) (by first | rfl | simp (disch := omega) only [go_sem, Nat.reduceLT, Nat.reduceLeDiff, Nat.reduceAdd, Nat.reduceMul, Nat.reduceEqDiff, ↓reduceIte, reduceCtorEq, Nat.reduceBEq, Nat.reduceBNe, Nat.reducePow, Int.reduceLE, Int.reduceLT, Int.reduceNeg, Int.reduceToNat, Int.reduceEq, Int.reduceAdd, Int.reduceSub, Int.reduceMul, Int.reduceBEq, Int.reduceBNe, Blk.men, Blk.keysIn]) ?_; simp (disch := omega) only [go_sem, Nat.reduceLT, Nat.reduceLeDiff, Nat.reduceAdd, Nat.reduceMul, Nat.reduceEqDiff, ↓reduceIte, reduceCtorEq, Nat.reduceBEq, Nat.reduceBNe, Nat.reducePow, Int.reduceLE, Int.reduceLT, Int.reduceNeg, Int.reduceToNat, Int.reduceEq, Int.reduceAdd, Int.reduceSub, Int.reduceMul, Int.reduceBEq, Int.reduceBNe, Blk.men, Blk.keysIn])
  (refine call_c (c83 true true (nL x) (nL y) hxl hyl) (by decide) ?_; simp (disch := omega) only [go_sem, Nat.reduceLT, Nat.reduceLeDiff, Nat.reduceAdd, Nat.reduceMul, Nat.reduceEqDiff, ↓reduceIte, reduceCtorEq, Nat.reduceBEq, Nat.reduceBNe, Nat.reducePow, Int.reduceLE, Int.reduceLT, Int.reduceNeg, Int.reduceToNat, Int.reduceEq, Int.reduceAdd, Int.reduceSub, Int.reduceMul, Int.reduceBEq, Int.reduceBNe, Blk.men, Blk.keysIn])
  repeat' (first
    | (with_reducible refine DW.seq ?_)
    | (with_reducible refine DW.block ?_)
    | (with_reducible refine DW.skip ?_)
    | (with_reducible refine DW.exit ?_)
    | (with_reducible refine DW.ret ?_)
    | (with_reducible refine DW.reg ?_)
    | (refine DW.dreg rfl (WF.of (by first | rfl | simp (disch := omega) only [go_sem, Nat.reduceLT, Nat.reduceLeDiff, Nat.reduceAdd, Nat.reduceMul, Nat.reduceEqDiff, ↓reduceIte, reduceCtorEq, Nat.reduceBEq, Nat.reduceBNe, Nat.reducePow, Int.reduceLE, Int.reduceLT, Int.reduceNeg, Int.reduceToNat, Int.reduceEq, Int.reduceAdd, Int.reduceSub, Int.reduceMul, Int.reduceBEq, Int.reduceBNe, Blk.men, Blk.keysIn])) ?_)
    | (simp (disch := omega) only [go_sem, Nat.reduceLT, Nat.reduceLeDiff, Nat.reduceAdd, Nat.reduceMul, Nat.reduceEqDiff, ↓reduceIte, reduceCtorEq, Nat.reduceBEq, Nat.reduceBNe, Nat.reducePow, Int.reduceLE, Int.reduceLT, Int.reduceNeg, Int.reduceToNat, Int.reduceEq, Int.reduceAdd, Int.reduceSub, Int.reduceMul, Int.reduceBEq, Int.reduceBNe, Blk.men, Blk.keysIn])
    | (exact retS_of rfl rfl rfl)
    | (refine DW.cond_tt rfl ?_)
    | (refine DW.cond_ff rfl ?_)
    | (refine DW.cond rfl ?_ ?_ <;> intro hc <;> (try simp only [go_sem] at hc))
    | (refine g_split ?_ ?_ <;> intro hc <;> (try simp only [hc]) <;> (try simp only [go_sem] at hc)))
end Go.Dw.Seat
end
section
set_option linter.unusedSimpArgs false
set_option maxRecDepth 100000
namespace Go.Dw.Seat
open Go Go.Dw Go.Proofs Go.IntWalk
def alStep (q : Int → Int → Bool) (gs : List (List Int)) (i : Int) : List (List Int) := match idxOf (fun g => q (g.headD 0) i) gs with
  | some k => gs.set k ((gs[k]?.getD []) ++ [i])
  | none => gs ++ [[i]]
def alF (q : Int → Int → Bool) (n : Nat) : List (List Int) := (List.range n).foldl (fun gs (i : Nat) => alStep q gs i) []
theorem alF_succ (q : Int → Int → Bool) (n : Nat) : alF q (n + 1) = alStep q (alF q n) n := by simp [alF, List.range_succ]
def alInv (n : Nat) (gs : List (List Int)) : Prop := gs.length ≤ n ∧ ∀ g ∈ gs, g.length ≤ n ∧ ∃ h : Nat, g[0]? = some (h : Int) ∧ h < n
theorem alInv_step {q : Int → Int → Bool} {n : Nat} {gs : List (List Int)} (h : alInv n gs) : alInv (n + 1) (alStep q gs n) := by
  unfold alStep
  split
  · rename_i k _
    refine ⟨by rw [List.length_set]; exact Nat.le_succ_of_le h.1, fun g hg => ?_⟩
    rcases List.mem_or_eq_of_mem_set hg with h1 | h1
    · obtain ⟨h2, x, h3, h4⟩ := h.2 g h1
      exact ⟨by omega, x, h3, by omega⟩
    · subst h1
      cases hk : gs[k]? with
      | none => exact ⟨by simp, n, by simp, by omega⟩
      | some u =>
        obtain ⟨h2, x, h3, h4⟩ := h.2 u (List.mem_of_getElem? hk)
        refine ⟨by simp; omega, x, ?_, by omega⟩
        simp only [Option.getD_some]
        rw [List.getElem?_append_left (List.getElem?_eq_some_iff.1 h3).1]; exact h3
  · refine ⟨by simp; exact h.1, fun g hg => ?_⟩
    rcases List.mem_append.1 hg with h1 | h1
    · obtain ⟨h2, x, h3, h4⟩ := h.2 g h1
      exact ⟨by omega, x, h3, by omega⟩
    · simp only [List.mem_singleton] at h1
      subst h1
      exact ⟨by simp, n, by simp, by omega⟩
theorem alF_inv (q : Int → Int → Bool) : ∀ n, alInv n (alF q n)
  | 0 => ⟨Nat.le_refl _, fun g hg => by simp [alF] at hg⟩
  | n + 1 => by rw [alF_succ]; exact alInv_step (alF_inv q n)
def alQ (st : Nat) (noz : List Nat) (ss : List (List Cause)) (boxes : Nat) (x y : Int) : Bool := decide (sigN st noz (ss.getD x.toNat []) boxes = sigN st noz (ss.getD y.toNat []) boxes)
def alErr (x : Plan) (ss : List (List Cause)) (boxes : Int) : Int :=
  if openErr x = 0 then (if 30 < (ss.length : Int) then 5 else if stErr x ss = 0 then (if wthn 1 20 [boxes] then 0 else 2) else stErr x ss) else openErr x
def alOut (x : Plan) (ss : List (List Cause)) (boxes : Int) : List (List Int) :=
  if alErr x ss boxes = 0 then alF (alQ x.steps.toNat (x.noz.map Int.toNat) ss boxes.toNat) ss.length else []
theorem idxOf_lt {α : Type} {p : α → Bool} : ∀ {l : List α} {k : Nat}, idxOf p l = some k → k < l.length
  | [], k, h => by simp [idxOf] at h
  | a :: l, k, h => by
    simp only [idxOf] at h
    split at h
    · cases h; simp
    · simp only [Option.map_eq_some_iff] at h
      obtain ⟨j, hj, rfl⟩ := h
      have := idxOf_lt hj
      simp; omega
theorem c35 (b b' : Bool) (x : Plan) (ss : List (List Cause)) (boxes : Int) (hx : x.noz.length ≤ 2 ^ 36) (hl : ss.length ≤ 2 ^ 36) (hs : ∀ s ∈ ss, s.length ≤ 2 ^ 36) :
    DCall Try.prog 35 [dP false x, .c (.sl b 1 (rows (eSb b') ss)), dI boxes] [] (.tup [.c (.sl false 1 (rows eG (alOut x ss boxes))), dI (alErr x ss boxes)]) [] := by
  have h78 := c78 x hx
  by_cases h0 : openErr x = 0
  · have ho : opened x = x := if_pos h0
    rw [h0, ho] at h78
    by_cases h30 : 30 < (ss.length : Int)
    · have he : alErr x ss boxes = 5 := by simp only [alErr, h0, h30, if_true]
      have hout : alOut x ss boxes = [] := by simp [alOut, he]
      rw [he, hout]
      have hd : decide ((30 : Int) < (ss.length : Int)) = true := decide_eq_true h30
      refine DCall.of Try.func35 sf35 hb35 (Nat.le_of_ble_eq_true rfl) (okRes_nil fun _ => rfl) ?_; simp only [s35, Mv, Sg, Ld, Fa, Xt, Ix, Ln, Cl, Oo, Og, idxs, Nat.reduceAdd]
      repeat' (first
    | (with_reducible refine DW.seq ?_)
    | (with_reducible refine DW.block ?_)
    | (with_reducible refine DW.skip ?_)
    | (with_reducible refine DW.exit ?_)
    | (with_reducible refine DW.ret ?_)
    | (with_reducible refine DW.reg ?_)
    | (simp (disch := omega) only [go_sem, Nat.reduceLT, Nat.reduceLeDiff, Nat.reduceAdd, Nat.reduceMul, Nat.reduceEqDiff, ↓reduceIte, reduceCtorEq, Nat.reduceBEq, Nat.reduceBNe, Nat.reducePow, Int.reduceLE, Int.reduceLT, Int.reduceNeg, Int.reduceToNat, Int.reduceEq, Int.reduceAdd, Int.reduceSub, Int.reduceMul, Int.reduceBEq, Int.reduceBNe, bm_box, bm_row, bk_box, bk_row, hd])
    | (exact retS_of rfl rfl rfl)
    | (refine DW.cond_tt rfl ?_)
    | (refine call_c (h78) (by decide) ?_)
    | (refine DW.cond_ff rfl ?_)
    | (refine DW.cond rfl ?_ ?_ <;> intro hc <;> (try simp only [go_sem] at hc))
    | (refine g_split ?_ ?_ <;> intro hc <;> (try simp only [hc]) <;> (try simp only [go_sem] at hc)))
      refine retS_wk rfl ?_ (by simp only [Blk.nb, rowC_nb, D.nb, D.nbs, C.nb, C.nbs, C.nbss, rows_nb eI_nb, rows_nb eC_nb, rows_nb eL_nb, rows_nb eR_nb, rows_nb eS_nb, rows_nb eG_nb, Bool.and_true, Bool.not_false, Bool.and_self, bD, dI, iD]); exact .tup (.cons (.nil _ _) (.cons (.refl _) .nil))
    · have hd : decide ((30 : Int) < (ss.length : Int)) = false := decide_eq_false h30
      have h77 := c77 b b' x ss hx hl hs
      rw [ho] at h77
      by_cases hst : stErr x ss = 0
      · rw [hst] at h77
        obtain ⟨_, hch⟩ := stErr_zero hst
        cases hw : wthn 1 20 [boxes] with
        | false =>
          have he : alErr x ss boxes = 2 := by simp only [alErr, h0, h30, hst, hw, if_true, if_false, Bool.false_eq_true]
          have hout : alOut x ss boxes = [] := by simp [alOut, he]
          rw [he, hout]
          refine DCall.of Try.func35 sf35 hb35 (Nat.le_of_ble_eq_true rfl) (okRes_nil fun _ => rfl) ?_; simp only [s35, Mv, Sg, Ld, Fa, Xt, Ix, Ln, Cl, Oo, Og, idxs, Nat.reduceAdd]
          repeat' (first
    | (with_reducible refine DW.seq ?_)
    | (with_reducible refine DW.block ?_)
    | (with_reducible refine DW.skip ?_)
    | (with_reducible refine DW.exit ?_)
    | (with_reducible refine DW.ret ?_)
    | (with_reducible refine DW.reg ?_)
    | (simp (disch := omega) only [go_sem, Nat.reduceLT, Nat.reduceLeDiff, Nat.reduceAdd, Nat.reduceMul, Nat.reduceEqDiff, ↓reduceIte, reduceCtorEq, Nat.reduceBEq, Nat.reduceBNe, Nat.reducePow, Int.reduceLE, Int.reduceLT, Int.reduceNeg, Int.reduceToNat, Int.reduceEq, Int.reduceAdd, Int.reduceSub, Int.reduceMul, Int.reduceBEq, Int.reduceBNe, bm_box, bm_row, bk_box, bk_row, hd, hw])
    | (exact retS_of rfl rfl rfl)
    | (refine DW.cond_tt rfl ?_)
    | (refine call_c (h78) (by decide) ?_)
    | (refine call_c (h77) (by decide) ?_)
    | (refine call_c (c73 boxes) (by decide) ?_)
    | (refine DW.cond_ff rfl ?_)
    | (refine DW.cond rfl ?_ ?_ <;> intro hc <;> (try simp only [go_sem] at hc))
    | (refine g_split ?_ ?_ <;> intro hc <;> (try simp only [hc]) <;> (try simp only [go_sem] at hc)))
          refine retS_wk rfl ?_ (by simp only [Blk.nb, rowC_nb, D.nb, D.nbs, C.nb, C.nbs, C.nbss, rows_nb eI_nb, rows_nb eC_nb, rows_nb eL_nb, rows_nb eR_nb, rows_nb eS_nb, rows_nb eG_nb, Bool.and_true, Bool.not_false, Bool.and_self, bD, dI, iD]); exact .tup (.cons (.nil _ _) (.cons (.refl _) .nil))
        | true =>
          have he : alErr x ss boxes = 0 := by simp only [alErr, h0, h30, hst, hw, if_true, if_false]
          have hout : alOut x ss boxes = alF (alQ x.steps.toNat (x.noz.map Int.toNat) ss boxes.toNat) ss.length := by simp only [alOut, he, if_true]
          rw [he, hout]
          obtain ⟨st, noz, rfl, hst1, hn, hv⟩ := openErr_zero h0
          have hbx := wthn_iff1.1 hw
          obtain ⟨nb, rfl⟩ : ∃ nb : Nat, boxes = nb := ⟨boxes.toNat, by omega⟩
          simp only [nL_toNat, Int.toNat_natCast]
          refine DCall.of Try.func35 sf35 hb35 (Nat.le_of_ble_eq_true rfl) (okRes_nil fun _ => rfl) ?_; simp only [s35, Mv, Sg, Ld, Fa, Xt, Ix, Ln, Cl, Oo, Og, idxs, Nat.reduceAdd]
          repeat' (first
    | (with_reducible refine DW.seq ?_)
    | (with_reducible refine DW.block ?_)
    | (with_reducible refine DW.skip ?_)
    | (with_reducible refine DW.exit ?_)
    | (with_reducible refine DW.ret ?_)
    | (with_reducible refine DW.reg ?_)
    | (simp (disch := omega) only [go_sem, Nat.reduceLT, Nat.reduceLeDiff, Nat.reduceAdd, Nat.reduceMul, Nat.reduceEqDiff, ↓reduceIte, reduceCtorEq, Nat.reduceBEq, Nat.reduceBNe, Nat.reducePow, Int.reduceLE, Int.reduceLT, Int.reduceNeg, Int.reduceToNat, Int.reduceEq, Int.reduceAdd, Int.reduceSub, Int.reduceMul, Int.reduceBEq, Int.reduceBNe, bm_box, bm_row, bk_box, bk_row, hd, hw])
    | (exact retS_of rfl rfl rfl)
    | (refine DW.cond_tt rfl ?_)
    | (refine call_c (h78) (by decide) ?_)
    | (refine call_c (h77) (by decide) ?_)
    | (refine call_c (c73 (nb : Int)) (by decide) ?_)
    | (refine DW.cond_ff rfl ?_)
    | (refine DW.cond rfl ?_ ?_ <;> intro hc <;> (try simp only [go_sem] at hc))
    | (refine g_split ?_ ?_ <;> intro hc <;> (try simp only [hc]) <;> (try simp only [go_sem] at hc)))
          (refine DW.ent (Ent.rel 8 rfl) ?_; simp (disch := omega) only [go_sem, Nat.reduceLT, Nat.reduceLeDiff, Nat.reduceAdd, Nat.reduceMul, Nat.reduceEqDiff, ↓reduceIte, reduceCtorEq, Nat.reduceBEq, Nat.reduceBNe, Nat.reducePow, Int.reduceLE, Int.reduceLT, Int.reduceNeg, Int.reduceToNat, Int.reduceEq, Int.reduceAdd, Int.reduceSub, Int.reduceMul, Int.reduceBEq, Int.reduceBNe, bm_box, bm_row, bk_box, bk_row])
          (refine DW.ent (Ent.rel 5 rfl) ?_; simp (disch := omega) only [go_sem, Nat.reduceLT, Nat.reduceLeDiff, Nat.reduceAdd, Nat.reduceMul, Nat.reduceEqDiff, ↓reduceIte, reduceCtorEq, Nat.reduceBEq, Nat.reduceBNe, Nat.reducePow, Int.reduceLE, Int.reduceLT, Int.reduceNeg, Int.reduceToNat, Int.reduceEq, Int.reduceAdd, Int.reduceSub, Int.reduceMul, Int.reduceBEq, Int.reduceBNe, bm_box, bm_row, bk_box, bk_row])
          refine DW.ent (Ent.adopt 6 58 1 rfl rfl rfl) ?_
          simp (disch := omega) only [go_sem, Nat.reduceLT, Nat.reduceLeDiff, Nat.reduceAdd, Nat.reduceMul, Nat.reduceEqDiff, ↓reduceIte, reduceCtorEq, Nat.reduceBEq, Nat.reduceBNe, Nat.reducePow, Int.reduceLE, Int.reduceLT, Int.reduceNeg, Int.reduceToNat, Int.reduceEq, Int.reduceAdd, Int.reduceSub, Int.reduceMul, Int.reduceBEq, Int.reduceBNe, bm_box, bm_row, bk_box, bk_row]
          refine DW.loop (ι := { i : Nat // i ≤ ss.length }) (fun i => ⟨71, [(44, dI i.1), (43, dI ss.length), (42, .c (.sl b 1 (rows (eSb b') ss))), (9, .box 9 0), (6, .own 58), (4, .box 4 0)],
            nest 1 eI (alF (alQ st noz ss nb) i.1) [(58, .row 1 (owns (alF (alQ st noz ss nb) i.1).length)), (9, .box [.c (.fn (.func 79) [] [.ro false [.v (.int .i64 nb)] 0, .ro false [.v (.int .i64 st), .sl false 1 (rows eI (nL noz))] 0])]), (4, .box [.c (.sl b 1 (rows (eSb b') ss))])]⟩) (fun i => ss.length - i.1) ⟨0, Nat.zero_le _⟩ ?_ ?_
          · have h00 : alF (alQ st noz ss nb) 0 = [] := rfl
            simp only [h00, nest_nil, List.length_nil]
            refine Ent.to ?_ ?_ <;> simp (disch := omega) only [wkT_cons, wkX_cons, wkT_nil, wkX_nil, get, Nat.reduceEqDiff, ↓reduceIte, ex_some, wk_self, wk_top, wk_nil, wkB_self, and_self, dI, i64_in, and_true, true_and, Int.natCast_add, Int.natCast_one, Int.ofNat_zero, Int.natCast_zero]
            exact ⟨.refl _, .box (.cons (.fnc (.func 79) [] [.ro false [.v (.int .i64 nb)] 0, .ro false [.v (.int .i64 st), .sl false 1 (rows eI (nL noz))] 0]) .nil)⟩
          rintro ⟨i, hi⟩
          dsimp only
          rcases at_or ss i hi with ⟨s, hs0, hlt, hdd⟩ | ⟨hend, hdd⟩
          · have hinv := alF_inv (alQ st noz ss nb) i
            have hsucc := alF_succ (alQ st noz ss nb) i
            generalize alF (alQ st noz ss nb) i = gs at *
            have hgl : gs.length ≤ 2 ^ 36 := Nat.le_trans hinv.1 (by omega)
            have hsv := hs s (List.mem_of_getElem? hs0)
            have hcs := checkErr_zero (hch s (List.mem_of_getElem? hs0))
            have hp : ∀ g ∈ gs, DCall Try.prog 82 (([] : List C).map D.c ++ [.c (.sl true 1 (rows eI g))] ++ [C.ro true [.fn (.func 79) [] [.ro false [.v (.int .i64 nb)] 0, .ro false [.v (.int .i64 st), .sl false 1 (rows eI (nL noz))] 0]] 0, .ro true [.sl b 1 (rows (eSb b') ss)] 0, .ro true [.sl b' 3 (rows eC s)] 0].map D.c) []
                (bD (alQ st noz ss nb (g.headD 0) i)) [] := fun g hg => by
              obtain ⟨_, h, hh, hhi⟩ := hinv.2 g hg
              obtain ⟨a, ha⟩ := getE (l := ss) (i := h) (by omega)
              have hca := checkErr_zero (hch a (List.mem_of_getElem? ha))
              have hq : alQ st noz ss nb (g.headD 0) i = decide (sigN st noz a nb = sigN st noz s nb) := by
                have : g.headD 0 = (h : Int) := by cases g <;> simp_all
                simp only [alQ, this, Int.toNat_natCast, List.getD, ha, hs0, Option.getD_some]
              rw [hq]
              exact c82 true true false false false true b b' true b' st noz g ss h a s nb hh ha (by omega) hv (by omega) (hs a (List.mem_of_getElem? ha)) (fun c hc => by have := (hca.2.1 c hc).1; rwa [nL_length] at this) hsv (fun c hc => by have := (hcs.2.1 c hc).1; rwa [nL_length] at this) (by omega)
            have hcall := c81b true true gs hgl 82 [] _ (fun g => alQ st noz ss nb (g.headD 0) i) hp
            repeat' (first
    | (with_reducible refine DW.seq ?_)
    | (with_reducible refine DW.block ?_)
    | (with_reducible refine DW.skip ?_)
    | (with_reducible refine DW.exit ?_)
    | (with_reducible refine DW.ret ?_)
    | (with_reducible refine DW.reg ?_)
    | (simp (disch := omega) only [go_sem, Nat.reduceLT, Nat.reduceLeDiff, Nat.reduceAdd, Nat.reduceMul, Nat.reduceEqDiff, ↓reduceIte, reduceCtorEq, Nat.reduceBEq, Nat.reduceBNe, Nat.reducePow, Int.reduceLE, Int.reduceLT, Int.reduceNeg, Int.reduceToNat, Int.reduceEq, Int.reduceAdd, Int.reduceSub, Int.reduceMul, Int.reduceBEq, Int.reduceBNe, bm_box, bm_row, bk_box, bk_row, hdd, hs0])
    | (exact retS_of rfl rfl rfl)
    | (refine DW.cond_tt rfl ?_)
    | (refine DW.cond_ff rfl ?_)
    | (refine DW.cond rfl ?_ ?_ <;> intro hc <;> (try simp only [go_sem] at hc))
    | (refine g_split ?_ ?_ <;> intro hc <;> (try simp only [hc]) <;> (try simp only [go_sem] at hc)))
            refine call_n hcall rfl ?_ (by decide) ?_
            · simp (disch := omega) only [go_sem, Nat.reduceLT, Nat.reduceLeDiff, Nat.reduceAdd, Nat.reduceMul, Nat.reduceEqDiff, ↓reduceIte, reduceCtorEq, Nat.reduceBEq, Nat.reduceBNe, Nat.reducePow, Int.reduceLE, Int.reduceLT, Int.reduceNeg, Int.reduceToNat, Int.reduceEq, Int.reduceAdd, Int.reduceSub, Int.reduceMul, Int.reduceBEq, Int.reduceBNe, bm_box, bm_row, bk_box, bk_row]
              rfl
            cases hidx : idxOf (fun g => alQ st noz ss nb (g.headD 0) i) gs with
            | none =>
              have hI : idxI (fun g => alQ st noz ss nb (g.headD 0) i) gs = -1 := by simp only [idxI, hidx]
              have hst : alStep (alQ st noz ss nb) gs i = gs ++ [[(i : Int)]] := by simp only [alStep, hidx]
              rw [hI]
              have hg44 : gs.length + 1 ≤ 17592186044416 := by omega
              simp (disch := omega) only [go_sem, Nat.reduceLT, Nat.reduceLeDiff, Nat.reduceAdd, Nat.reduceMul, Nat.reduceEqDiff, ↓reduceIte, reduceCtorEq, Nat.reduceBEq, Nat.reduceBNe, Nat.reducePow, Int.reduceLE, Int.reduceLT, Int.reduceNeg, Int.reduceToNat, Int.reduceEq, Int.reduceAdd, Int.reduceSub, Int.reduceMul, Int.reduceBEq, Int.reduceBNe, bm_box, bm_row, bk_box, bk_row]
              repeat' (first
    | (with_reducible refine DW.seq ?_)
    | (with_reducible refine DW.block ?_)
    | (with_reducible refine DW.skip ?_)
    | (with_reducible refine DW.exit ?_)
    | (with_reducible refine DW.ret ?_)
    | (with_reducible refine DW.reg ?_)
    | (simp (disch := omega) only [go_sem, Nat.reduceLT, Nat.reduceLeDiff, Nat.reduceAdd, Nat.reduceMul, Nat.reduceEqDiff, ↓reduceIte, reduceCtorEq, Nat.reduceBEq, Nat.reduceBNe, Nat.reducePow, Int.reduceLE, Int.reduceLT, Int.reduceNeg, Int.reduceToNat, Int.reduceEq, Int.reduceAdd, Int.reduceSub, Int.reduceMul, Int.reduceBEq, Int.reduceBNe, bm_box, bm_row, bk_box, bk_row, hg44])
    | (exact retS_of rfl rfl rfl)
    | (refine DW.cond_tt rfl ?_)
    | (refine DW.cond_ff rfl ?_)
    | (refine DW.cond rfl ?_ ?_ <;> intro hc <;> (try simp only [go_sem] at hc))
    | (refine g_split ?_ ?_ <;> intro hc <;> (try simp only [hc]) <;> (try simp only [go_sem] at hc)))
              refine ⟨⟨i + 1, hlt⟩, by (show _ < _; (try simp only); omega), ?_⟩
              dsimp only
              rw [hsucc, hst, show (gs ++ [[(i : Int)]]).length = gs.length + 1 from by simp]
              refine Ent.trans (Ent.toN (tm' := [(44, dI ((i : Int) + 1)), (43, dI ss.length), (42, .c (.sl b 1 (rows (eSb b') ss))), (9, .box 9 0), (6, .own 58), (4, .box 4 0)]) (bx' := [(56, .row 1 [[dI i]]), (58, .row 1 (owns gs.length ++ [[.own 56]])), (9, .box [.c (.fn (.func 79) [] [.ro false [.v (.int .i64 nb)] 0, .ro false [.v (.int .i64 st), .sl false 1 (rows eI (nL noz))] 0])]), (4, .box [.c (.sl b 1 (rows (eSb b') ss))])]) ?_ rfl ?_) (Ent.grow (g := [(i : Int)]) 56 58 (by decide) (by decide) (by decide) rfl rfl rfl rfl)
              · simp (disch := omega) only [wkT_cons, wkX_cons, wkT_nil, wkX_nil, get, Nat.reduceEqDiff, ↓reduceIte, ex_some, wk_self, wk_top, wk_nil, wkB_self, and_self, dI, i64_in, and_true, true_and, Int.natCast_add, Int.natCast_one, Int.ofNat_zero, Int.natCast_zero]
              · simp (disch := omega) only [wkT_cons, wkX_cons, wkT_nil, wkX_nil, get, Nat.reduceEqDiff, ↓reduceIte, ex_some, wk_self, wk_top, wk_nil, wkB_self, and_self, dI, i64_in, and_true, true_and, Int.natCast_add, Int.natCast_one, Int.ofNat_zero, Int.natCast_zero]
            | some k =>
              have hI : idxI (fun g => alQ st noz ss nb (g.headD 0) i) gs = (k : Int) := by simp only [idxI, hidx]
              have hk := idxOf_lt hidx
              obtain ⟨g, hg⟩ := getE (l := gs) (i := k) hk
              have hst : alStep (alQ st noz ss nb) gs i = gs.set k (g ++ [(i : Int)]) := by simp only [alStep, hidx, hg, Option.getD_some]
              rw [hI]
              have hglen := (hinv.2 g (List.mem_of_getElem? hg)).1
              have hg44 : g.length + 1 ≤ 17592186044416 := by omega
              have hkk : (k < gs.length) = True := eq_true hk
              simp (disch := omega) only [go_sem, Nat.reduceLT, Nat.reduceLeDiff, Nat.reduceAdd, Nat.reduceMul, Nat.reduceEqDiff, ↓reduceIte, reduceCtorEq, Nat.reduceBEq, Nat.reduceBNe, Nat.reducePow, Int.reduceLE, Int.reduceLT, Int.reduceNeg, Int.reduceToNat, Int.reduceEq, Int.reduceAdd, Int.reduceSub, Int.reduceMul, Int.reduceBEq, Int.reduceBNe, bm_box, bm_row, bk_box, bk_row]
              repeat' (first
    | (with_reducible refine DW.seq ?_)
    | (with_reducible refine DW.block ?_)
    | (with_reducible refine DW.skip ?_)
    | (with_reducible refine DW.exit ?_)
    | (with_reducible refine DW.ret ?_)
    | (with_reducible refine DW.reg ?_)
    | (simp (disch := omega) only [go_sem, Nat.reduceLT, Nat.reduceLeDiff, Nat.reduceAdd, Nat.reduceMul, Nat.reduceEqDiff, ↓reduceIte, reduceCtorEq, Nat.reduceBEq, Nat.reduceBNe, Nat.reducePow, Int.reduceLE, Int.reduceLT, Int.reduceNeg, Int.reduceToNat, Int.reduceEq, Int.reduceAdd, Int.reduceSub, Int.reduceMul, Int.reduceBEq, Int.reduceBNe, bm_box, bm_row, bk_box, bk_row, hg, hg44, hkk])
    | (exact retS_of rfl rfl rfl)
    | (refine DW.cond_tt rfl ?_)
    | (refine DW.cond_ff rfl ?_)
    | (refine DW.cond rfl ?_ ?_ <;> intro hc <;> (try simp only [go_sem] at hc))
    | (refine g_split ?_ ?_ <;> intro hc <;> (try simp only [hc]) <;> (try simp only [go_sem] at hc)))
              refine ⟨⟨i + 1, hlt⟩, by (show _ < _; (try simp only); omega), ?_⟩
              dsimp only
              rw [hsucc, hst, List.length_set]
              refine Ent.toN (tm' := [(44, dI ((i : Int) + 1)), (43, dI ss.length), (42, .c (.sl b 1 (rows (eSb b') ss))), (9, .box 9 0), (6, .own 58), (4, .box 4 0)]) (bx' := [(58, .row 1 (owns gs.length)), (9, .box [.c (.fn (.func 79) [] [.ro false [.v (.int .i64 nb)] 0, .ro false [.v (.int .i64 st), .sl false 1 (rows eI (nL noz))] 0])]), (4, .box [.c (.sl b 1 (rows (eSb b') ss))])]) ?_ rfl ?_
              · simp (disch := omega) only [wkT_cons, wkX_cons, wkT_nil, wkX_nil, get, Nat.reduceEqDiff, ↓reduceIte, ex_some, wk_self, wk_top, wk_nil, wkB_self, and_self, dI, i64_in, and_true, true_and, Int.natCast_add, Int.natCast_one, Int.ofNat_zero, Int.natCast_zero]
              · simp (disch := omega) only [wkT_cons, wkX_cons, wkT_nil, wkX_nil, get, Nat.reduceEqDiff, ↓reduceIte, ex_some, wk_self, wk_top, wk_nil, wkB_self, and_self, dI, i64_in, and_true, true_and, Int.natCast_add, Int.natCast_one, Int.ofNat_zero, Int.natCast_zero]
          · repeat' (first
    | (with_reducible refine DW.seq ?_)
    | (with_reducible refine DW.block ?_)
    | (with_reducible refine DW.skip ?_)
    | (with_reducible refine DW.exit ?_)
    | (with_reducible refine DW.ret ?_)
    | (with_reducible refine DW.reg ?_)
    | (simp (disch := omega) only [go_sem, Nat.reduceLT, Nat.reduceLeDiff, Nat.reduceAdd, Nat.reduceMul, Nat.reduceEqDiff, ↓reduceIte, reduceCtorEq, Nat.reduceBEq, Nat.reduceBNe, Nat.reducePow, Int.reduceLE, Int.reduceLT, Int.reduceNeg, Int.reduceToNat, Int.reduceEq, Int.reduceAdd, Int.reduceSub, Int.reduceMul, Int.reduceBEq, Int.reduceBNe, bm_box, bm_row, bk_box, bk_row, hdd])
    | (exact retS_of rfl rfl rfl)
    | (refine DW.cond_tt rfl ?_)
    | (refine DW.cond_ff rfl ?_)
    | (refine DW.cond rfl ?_ ?_ <;> intro hc <;> (try simp only [go_sem] at hc))
    | (refine g_split ?_ ?_ <;> intro hc <;> (try simp only [hc]) <;> (try simp only [go_sem] at hc)))
            subst hend
            refine retS_ent (Ent.trans (Ent.toN (tm' := [(6, .own 58), (7, dI 0)]) (bx' := [(58, .row 1 (owns (alF (alQ st noz ss nb) ss.length).length))]) ?_ rfl ?_) (Ent.relAll (by decide) rfl)) ?_
            · simp (disch := omega) only [wkT_cons, wkX_cons, wkT_nil, wkX_nil, get, Nat.reduceEqDiff, ↓reduceIte, ex_some, wk_self, wk_top, wk_nil, wkB_self, and_self, dI, i64_in, and_true, true_and, Int.natCast_add, Int.natCast_one, Int.ofNat_zero, Int.natCast_zero]
            · simp (disch := omega) only [wkT_cons, wkX_cons, wkT_nil, wkX_nil, get, Nat.reduceEqDiff, ↓reduceIte, ex_some, wk_self, wk_top, wk_nil, wkB_self, and_self, dI, i64_in, and_true, true_and, Int.natCast_add, Int.natCast_one, Int.ofNat_zero, Int.natCast_zero]
            (refine retS_ent (Ent.rel 58 rfl) ?_; simp (disch := omega) only [go_sem, Nat.reduceLT, Nat.reduceLeDiff, Nat.reduceAdd, Nat.reduceMul, Nat.reduceEqDiff, ↓reduceIte, reduceCtorEq, Nat.reduceBEq, Nat.reduceBNe, Nat.reducePow, Int.reduceLE, Int.reduceLT, Int.reduceNeg, Int.reduceToNat, Int.reduceEq, Int.reduceAdd, Int.reduceSub, Int.reduceMul, Int.reduceBEq, Int.reduceBNe, bm_box, bm_row, bk_box, bk_row])
            refine retS_wk rfl ?_ (by simp only [Blk.nb, rowC_nb, D.nb, D.nbs, C.nb, C.nbs, C.nbss, rows_nb eI_nb, rows_nb eC_nb, rows_nb eL_nb, rows_nb eR_nb, rows_nb eS_nb, rows_nb eG_nb, Bool.and_true, Bool.not_false, Bool.and_self, bD, dI, iD]); exact .refl _
      · have he : alErr x ss boxes = stErr x ss := by simp only [alErr, h0, h30, hst, if_true, if_false]
        have hout : alOut x ss boxes = [] := by simp [alOut, he, hst]
        rw [he, hout]
        generalize stErr x ss = e at *
        have hb : (e == 0) = false := by simpa using hst
        have hb2 : (e != 0) = true := by simpa using hst
        refine DCall.of Try.func35 sf35 hb35 (Nat.le_of_ble_eq_true rfl) (okRes_nil fun _ => rfl) ?_; simp only [s35, Mv, Sg, Ld, Fa, Xt, Ix, Ln, Cl, Oo, Og, idxs, Nat.reduceAdd]
        repeat' (first
    | (with_reducible refine DW.seq ?_)
    | (with_reducible refine DW.block ?_)
    | (with_reducible refine DW.skip ?_)
    | (with_reducible refine DW.exit ?_)
    | (with_reducible refine DW.ret ?_)
    | (with_reducible refine DW.reg ?_)
    | (simp (disch := omega) only [go_sem, Nat.reduceLT, Nat.reduceLeDiff, Nat.reduceAdd, Nat.reduceMul, Nat.reduceEqDiff, ↓reduceIte, reduceCtorEq, Nat.reduceBEq, Nat.reduceBNe, Nat.reducePow, Int.reduceLE, Int.reduceLT, Int.reduceNeg, Int.reduceToNat, Int.reduceEq, Int.reduceAdd, Int.reduceSub, Int.reduceMul, Int.reduceBEq, Int.reduceBNe, bm_box, bm_row, bk_box, bk_row, hd, hb, hb2])
    | (exact retS_of rfl rfl rfl)
    | (refine DW.cond_tt rfl ?_)
    | (refine call_c (h78) (by decide) ?_)
    | (refine call_c (h77) (by decide) ?_)
    | (refine DW.cond_ff rfl ?_)
    | (refine DW.cond rfl ?_ ?_ <;> intro hc <;> (try simp only [go_sem] at hc))
    | (refine g_split ?_ ?_ <;> intro hc <;> (try simp only [hc]) <;> (try simp only [go_sem] at hc)))
        refine retS_wk rfl ?_ (by simp only [Blk.nb, rowC_nb, D.nb, D.nbs, C.nb, C.nbs, C.nbss, rows_nb eI_nb, rows_nb eC_nb, rows_nb eL_nb, rows_nb eR_nb, rows_nb eS_nb, rows_nb eG_nb, Bool.and_true, Bool.not_false, Bool.and_self, bD, dI, iD]); exact .tup (.cons (.nil _ _) (.cons (.refl _) .nil))
  · have he : alErr x ss boxes = openErr x := by simp only [alErr, h0, if_false]
    have hout : alOut x ss boxes = [] := by simp [alOut, he, h0]
    rw [he, hout]
    generalize openErr x = e at *
    generalize opened x = y at *
    have hb : (e == 0) = false := by simpa using h0
    have hb2 : (e != 0) = true := by simpa using h0
    refine DCall.of Try.func35 sf35 hb35 (Nat.le_of_ble_eq_true rfl) (okRes_nil fun _ => rfl) ?_; simp only [s35, Mv, Sg, Ld, Fa, Xt, Ix, Ln, Cl, Oo, Og, idxs, Nat.reduceAdd]
    repeat' (first
    | (with_reducible refine DW.seq ?_)
    | (with_reducible refine DW.block ?_)
    | (with_reducible refine DW.skip ?_)
    | (with_reducible refine DW.exit ?_)
    | (with_reducible refine DW.ret ?_)
    | (with_reducible refine DW.reg ?_)
    | (simp (disch := omega) only [go_sem, Nat.reduceLT, Nat.reduceLeDiff, Nat.reduceAdd, Nat.reduceMul, Nat.reduceEqDiff, ↓reduceIte, reduceCtorEq, Nat.reduceBEq, Nat.reduceBNe, Nat.reducePow, Int.reduceLE, Int.reduceLT, Int.reduceNeg, Int.reduceToNat, Int.reduceEq, Int.reduceAdd, Int.reduceSub, Int.reduceMul, Int.reduceBEq, Int.reduceBNe, bm_box, bm_row, bk_box, bk_row, hb, hb2])
    | (exact retS_of rfl rfl rfl)
    | (refine DW.cond_tt rfl ?_)
    | (refine call_c (h78) (by decide) ?_)
    | (refine DW.cond_ff rfl ?_)
    | (refine DW.cond rfl ?_ ?_ <;> intro hc <;> (try simp only [go_sem] at hc))
    | (refine g_split ?_ ?_ <;> intro hc <;> (try simp only [hc]) <;> (try simp only [go_sem] at hc)))
    refine retS_wk rfl ?_ (by simp only [Blk.nb, rowC_nb, D.nb, D.nbs, C.nb, C.nbs, C.nbss, rows_nb eI_nb, rows_nb eC_nb, rows_nb eL_nb, rows_nb eR_nb, rows_nb eS_nb, rows_nb eG_nb, Bool.and_true, Bool.not_false, Bool.and_self, bD, dI, iD]); exact .tup (.cons (.nil _ _) (.cons (.refl _) .nil))
end Go.Dw.Seat
end
section
set_option linter.unusedSimpArgs false
namespace Go.Dw.Seat
open Go Go.Dw
theorem boxN_iff {st : Nat} {noz : List Nat} {a b : List Cause} (k : Nat) (hv : ∀ v ∈ noz, v < 2 ^ st) (ha : checkErr ⟨st, nL noz⟩ a = 0) (hb : checkErr ⟨st, nL noz⟩ b = 0) :
    boxN st noz a (k : Nat) = boxN st noz b (k : Nat) ↔ ∀ z, z < noz.length → ∀ t, t < st → glueN st noz a (k : Nat) z (t : Nat) = glueN st noz b (k : Nat) z (t : Nat) := by
  rw [boxN_eq hv (by omega) (valid_pair ha).1 (valid_pair ha).2, boxN_eq hv (by omega) (valid_pair hb).1 (valid_pair hb).2]
  constructor
  · intro h z hz t ht
    have h1 := congrArg (fun l => l.getD z 0) h
    have h2 : boxB st noz a (k : Nat) z st = boxB st noz b (k : Nat) z st := by simpa [boxR, List.getD, hz] using h1
    have h3 := congrArg (fun n => n.testBit t) h2
    simpa [boxB, bitsN_test, ht] using h3
  · intro h
    refine List.map_congr_left (fun z hz => ?_)
    rw [List.mem_range] at hz
    apply Nat.eq_of_testBit_eq
    intro i
    rw [boxB, boxB, bitsN_test, bitsN_test]
    by_cases hi : i < st
    · rw [h z hz i hi]
    · simp [hi]
theorem flat_iff {α : Type} {f g : Nat → List α} (h : ∀ k, (f k).length = (g k).length) : ∀ n, (List.range n).flatMap f = (List.range n).flatMap g ↔ ∀ k, k < n → f k = g k
  | 0 => ⟨fun _ k hk => absurd hk (Nat.not_lt_zero k), fun _ => rfl⟩
  | n + 1 => by
    rw [flat_range, flat_range]
    constructor
    · intro e k hk
      obtain ⟨h1, h2⟩ := List.append_inj' e (h n)
      rcases Nat.lt_or_ge k n with hlt | hge
      · exact (flat_iff h n).1 h1 k hlt
      · have : k = n := by omega
        rw [this]; exact h2
    · intro e
      rw [(flat_iff h n).2 (fun k hk => e k (by omega)), e n (by omega)]
theorem sig_eq {st : Nat} {noz : List Nat} {a b : List Cause} {boxes : Nat} (hv : ∀ v ∈ noz, v < 2 ^ st) (ha : checkErr ⟨st, nL noz⟩ a = 0) (hb : checkErr ⟨st, nL noz⟩ b = 0) :
    decide (sigN st noz a boxes = sigN st noz b boxes) = !(apartN st noz a b boxes).isSome := by
  rw [Bool.eq_iff_iff, decide_eq_true_eq, sigN, sigN, flat_iff (fun k => by rw [boxN_length, boxN_length])]
  simp only [boxN_iff _ hv ha hb]
  have h1 : (!(apartN st noz a b boxes).isSome) = true ↔ apartN st noz a b boxes = none := by simp
  rw [h1, apartN, firstAt_eq, List.findSome?_eq_none_iff]
  constructor
  · intro h s hm
    obtain ⟨h1, h2, h3⟩ := mem_spots.1 hm
    simp only [differ]
    rw [if_pos (h _ h1 _ h2 _ h3)]
  · intro h k hk z hz t ht
    have := h ⟨k, z, t⟩ (mem_spots.2 ⟨hk, hz, ht⟩)
    simp only [differ] at this
    split at this
    · assumption
    · cases this
end Go.Dw.Seat
end
section
set_option linter.unusedSimpArgs false
set_option maxRecDepth 100000
namespace Go.Dw.Seat
open Go Go.Dw Go.Proofs Go.IntWalk
theorem c84 (r : Room) : DCall Try.prog 84 [.agg ((eR r).map D.c)] [] (bD (!roomOk r)) [] := by
  refine DCall.of Try.func84 sf84 hb84 (Nat.le_of_ble_eq_true rfl) (okRes_nil fun _ => rfl) ?_; simp only [s84, Mv, Sg, Ld, Fa, Xt, Ix, Ln, Cl, Oo, Og, idxs, Nat.reduceAdd]
  repeat' (first
    | (with_reducible refine DW.seq ?_)
    | (with_reducible refine DW.block ?_)
    | (with_reducible refine DW.skip ?_)
    | (with_reducible refine DW.exit ?_)
    | (with_reducible refine DW.ret ?_)
    | (with_reducible refine DW.reg ?_)
    | (simp (disch := omega) only [go_sem, Nat.reduceLT, Nat.reduceLeDiff, Nat.reduceAdd, Nat.reduceMul, Nat.reduceEqDiff, ↓reduceIte, reduceCtorEq, Nat.reduceBEq, Nat.reduceBNe, Nat.reducePow, Int.reduceLE, Int.reduceLT, Int.reduceNeg, Int.reduceToNat, Int.reduceEq, Int.reduceAdd, Int.reduceSub, Int.reduceMul, Int.reduceBEq, Int.reduceBNe, Blk.men, Blk.keysIn, List.map_cons, List.map_nil])
    | (exact retS_of rfl rfl rfl)
    | (refine DW.cond_tt rfl ?_)
    | (refine call_c (c85 r) (by decide) ?_)
    | (refine DW.cond_ff rfl ?_)
    | (refine DW.cond rfl ?_ ?_ <;> intro hc <;> (try simp only [go_sem] at hc))
    | (refine g_split ?_ ?_ <;> intro hc <;> (try simp only [hc]) <;> (try simp only [go_sem] at hc)))
def opErr (r : Rule) (rooms : List Room) (mins : List Int) : Int :=
  if ruleOk r = false then 2 else if 50 < (rooms.length : Int) then 5 else if (mins.length : Int) ≠ rooms.length then 4 else if (rooms.any fun m => !roomOk m) = true then 3 else if wthn 0 2400 mins = false then 3 else 0
def opF (f : Room → Int) (rooms : List Room) (mins : List Int) (n : Nat) : List Nat := (List.range n).filter fun i => decide (mins.getD i 0 < f (rooms.getD i ⟨0, 0, 0, 0⟩))
theorem opF_succ {f : Room → Int} {rooms : List Room} {mins : List Int} {n : Nat} {m : Room} {v : Int} (hm : rooms[n]? = some m) (hv : mins[n]? = some v) :
    opF f rooms mins (n + 1) = opF f rooms mins n ++ (if decide (v < f m) then [n] else []) := by
  unfold opF
  rw [filter_range]
  simp only [List.getD, hm, hv, Option.getD_some]
theorem opF_len (f : Room → Int) (rooms : List Room) (mins : List Int) (n : Nat) : (opF f rooms mins n).length ≤ n := by
  refine Nat.le_trans (List.length_filter_le _ _) (by simp)
def opOut (f : Room → Int) (r : Rule) (rooms : List Room) (mins : List Int) : List Nat := if opErr r rooms mins = 0 then opF f rooms mins rooms.length else []
theorem c39 (b b2 : Bool) (r : Rule) (rooms : List Room) (mins : List Int) (hl : rooms.length ≤ 2 ^ 36) (hm : mins.length ≤ 2 ^ 36) :
    DCall Try.prog 39 [dR r, .c (.sl b 4 (rows eR rooms)), dIs b2 mins] [] (.tup [dIs false (nL (opOut (pressLo r) r rooms mins)), dIs false (nL (opOut (pressHi r) r rooms mins)), dI (opErr r rooms mins)]) [] := by
  have hfn := c87 b rooms hl 84 [] [] (fun m => !roomOk m) (fun m _ => c84 m)
  have h88 := c88 b2 0 2400 mins hm
  have fin : ∀ {e : Int}, opErr r rooms mins = e → e ≠ 0 → (∀ f, opOut f r rooms mins = []) := fun h1 h2 f => by
    simp only [opOut]; rw [if_neg (by rw [h1]; exact h2)]
  cases hr : ruleOk r with
  | false =>
    have he : opErr r rooms mins = 2 := by simp only [opErr, hr, if_true]
    rw [he, fin he (by decide), fin he (by decide)]
    refine DCall.of Try.func39 sf39 hb39 (Nat.le_of_ble_eq_true rfl) (okRes_nil fun _ => rfl) ?_; simp only [s39, Mv, Sg, Ld, Fa, Xt, Ix, Ln, Cl, Oo, Og, idxs, Nat.reduceAdd]
    repeat' (first
    | (with_reducible refine DW.seq ?_)
    | (with_reducible refine DW.block ?_)
    | (with_reducible refine DW.skip ?_)
    | (with_reducible refine DW.exit ?_)
    | (with_reducible refine DW.ret ?_)
    | (with_reducible refine DW.reg ?_)
    | (refine DW.dreg rfl (WF.of (by first | rfl | simp (disch := omega) only [go_sem, Nat.reduceLT, Nat.reduceLeDiff, Nat.reduceAdd, Nat.reduceMul, Nat.reduceEqDiff, ↓reduceIte, reduceCtorEq, Nat.reduceBEq, Nat.reduceBNe, Nat.reducePow, Int.reduceLE, Int.reduceLT, Int.reduceNeg, Int.reduceToNat, Int.reduceEq, Int.reduceAdd, Int.reduceSub, Int.reduceMul, Int.reduceBEq, Int.reduceBNe, Blk.men, Blk.keysIn, hr])) ?_)
    | (simp (disch := omega) only [go_sem, Nat.reduceLT, Nat.reduceLeDiff, Nat.reduceAdd, Nat.reduceMul, Nat.reduceEqDiff, ↓reduceIte, reduceCtorEq, Nat.reduceBEq, Nat.reduceBNe, Nat.reducePow, Int.reduceLE, Int.reduceLT, Int.reduceNeg, Int.reduceToNat, Int.reduceEq, Int.reduceAdd, Int.reduceSub, Int.reduceMul, Int.reduceBEq, Int.reduceBNe, Blk.men, Blk.keysIn, hr])
    | (exact retS_of rfl rfl rfl)
    | (refine DW.cond_tt rfl ?_)
    | (refine call_c (c86 r) (by decide) ?_)
    | (refine DW.cond_ff rfl ?_)
    | (refine DW.cond rfl ?_ ?_ <;> intro hc <;> (try simp only [go_sem] at hc))
    | (refine g_split ?_ ?_ <;> intro hc <;> (try simp only [hc]) <;> (try simp only [go_sem] at hc)))
    refine retS_wk rfl ?_ (by simp only [Blk.nb, rowC_nb, D.nb, D.nbs, C.nb, C.nbs, C.nbss, rows_nb eI_nb, rows_nb eC_nb, rows_nb eL_nb, rows_nb eR_nb, rows_nb eS_nb, rows_nb eG_nb, Bool.and_true, Bool.not_false, Bool.and_self, bD, dI, iD]); exact .tup (.cons (.nil _ _) (.cons (.nil _ _) (.cons (.refl _) .nil)))
  | true =>
  by_cases h50 : 50 < (rooms.length : Int)
  · have he : opErr r rooms mins = 5 := by simp only [opErr, hr, h50, if_true, if_false, Bool.true_eq_false]
    have hd : decide ((50 : Int) < (rooms.length : Int)) = true := decide_eq_true h50
    rw [he, fin he (by decide), fin he (by decide)]
    refine DCall.of Try.func39 sf39 hb39 (Nat.le_of_ble_eq_true rfl) (okRes_nil fun _ => rfl) ?_; simp only [s39, Mv, Sg, Ld, Fa, Xt, Ix, Ln, Cl, Oo, Og, idxs, Nat.reduceAdd]
    repeat' (first
    | (with_reducible refine DW.seq ?_)
    | (with_reducible refine DW.block ?_)
    | (with_reducible refine DW.skip ?_)
    | (with_reducible refine DW.exit ?_)
    | (with_reducible refine DW.ret ?_)
    | (with_reducible refine DW.reg ?_)
    | (refine DW.dreg rfl (WF.of (by first | rfl | simp (disch := omega) only [go_sem, Nat.reduceLT, Nat.reduceLeDiff, Nat.reduceAdd, Nat.reduceMul, Nat.reduceEqDiff, ↓reduceIte, reduceCtorEq, Nat.reduceBEq, Nat.reduceBNe, Nat.reducePow, Int.reduceLE, Int.reduceLT, Int.reduceNeg, Int.reduceToNat, Int.reduceEq, Int.reduceAdd, Int.reduceSub, Int.reduceMul, Int.reduceBEq, Int.reduceBNe, Blk.men, Blk.keysIn, hr, hd])) ?_)
    | (simp (disch := omega) only [go_sem, Nat.reduceLT, Nat.reduceLeDiff, Nat.reduceAdd, Nat.reduceMul, Nat.reduceEqDiff, ↓reduceIte, reduceCtorEq, Nat.reduceBEq, Nat.reduceBNe, Nat.reducePow, Int.reduceLE, Int.reduceLT, Int.reduceNeg, Int.reduceToNat, Int.reduceEq, Int.reduceAdd, Int.reduceSub, Int.reduceMul, Int.reduceBEq, Int.reduceBNe, Blk.men, Blk.keysIn, hr, hd])
    | (exact retS_of rfl rfl rfl)
    | (refine DW.cond_tt rfl ?_)
    | (refine call_c (c86 r) (by decide) ?_)
    | (refine DW.cond_ff rfl ?_)
    | (refine DW.cond rfl ?_ ?_ <;> intro hc <;> (try simp only [go_sem] at hc))
    | (refine g_split ?_ ?_ <;> intro hc <;> (try simp only [hc]) <;> (try simp only [go_sem] at hc)))
    refine retS_wk rfl ?_ (by simp only [Blk.nb, rowC_nb, D.nb, D.nbs, C.nb, C.nbs, C.nbss, rows_nb eI_nb, rows_nb eC_nb, rows_nb eL_nb, rows_nb eR_nb, rows_nb eS_nb, rows_nb eG_nb, Bool.and_true, Bool.not_false, Bool.and_self, bD, dI, iD]); exact .tup (.cons (.nil _ _) (.cons (.nil _ _) (.cons (.refl _) .nil)))
  have hd : decide ((50 : Int) < (rooms.length : Int)) = false := decide_eq_false h50
  by_cases hne : (mins.length : Int) = rooms.length
  case neg =>
    have he : opErr r rooms mins = 4 := by simp only [opErr, hr, h50, hne, if_true, if_false, Bool.true_eq_false, ne_eq, not_false_eq_true]
    have hd2 : ((mins.length : Int) != (rooms.length : Int)) = true := by simpa using hne
    rw [he, fin he (by decide), fin he (by decide)]
    refine DCall.of Try.func39 sf39 hb39 (Nat.le_of_ble_eq_true rfl) (okRes_nil fun _ => rfl) ?_; simp only [s39, Mv, Sg, Ld, Fa, Xt, Ix, Ln, Cl, Oo, Og, idxs, Nat.reduceAdd]
    repeat' (first
    | (with_reducible refine DW.seq ?_)
    | (with_reducible refine DW.block ?_)
    | (with_reducible refine DW.skip ?_)
    | (with_reducible refine DW.exit ?_)
    | (with_reducible refine DW.ret ?_)
    | (with_reducible refine DW.reg ?_)
    | (refine DW.dreg rfl (WF.of (by first | rfl | simp (disch := omega) only [go_sem, Nat.reduceLT, Nat.reduceLeDiff, Nat.reduceAdd, Nat.reduceMul, Nat.reduceEqDiff, ↓reduceIte, reduceCtorEq, Nat.reduceBEq, Nat.reduceBNe, Nat.reducePow, Int.reduceLE, Int.reduceLT, Int.reduceNeg, Int.reduceToNat, Int.reduceEq, Int.reduceAdd, Int.reduceSub, Int.reduceMul, Int.reduceBEq, Int.reduceBNe, Blk.men, Blk.keysIn, hr, hd, hd2])) ?_)
    | (simp (disch := omega) only [go_sem, Nat.reduceLT, Nat.reduceLeDiff, Nat.reduceAdd, Nat.reduceMul, Nat.reduceEqDiff, ↓reduceIte, reduceCtorEq, Nat.reduceBEq, Nat.reduceBNe, Nat.reducePow, Int.reduceLE, Int.reduceLT, Int.reduceNeg, Int.reduceToNat, Int.reduceEq, Int.reduceAdd, Int.reduceSub, Int.reduceMul, Int.reduceBEq, Int.reduceBNe, Blk.men, Blk.keysIn, hr, hd, hd2])
    | (exact retS_of rfl rfl rfl)
    | (refine DW.cond_tt rfl ?_)
    | (refine call_c (c86 r) (by decide) ?_)
    | (refine DW.cond_ff rfl ?_)
    | (refine DW.cond rfl ?_ ?_ <;> intro hc <;> (try simp only [go_sem] at hc))
    | (refine g_split ?_ ?_ <;> intro hc <;> (try simp only [hc]) <;> (try simp only [go_sem] at hc)))
    refine retS_wk rfl ?_ (by simp only [Blk.nb, rowC_nb, D.nb, D.nbs, C.nb, C.nbs, C.nbss, rows_nb eI_nb, rows_nb eC_nb, rows_nb eL_nb, rows_nb eR_nb, rows_nb eS_nb, rows_nb eG_nb, Bool.and_true, Bool.not_false, Bool.and_self, bD, dI, iD]); exact .tup (.cons (.nil _ _) (.cons (.nil _ _) (.cons (.refl _) .nil)))
  have hd2 : ((mins.length : Int) != (rooms.length : Int)) = false := by simpa using hne
  cases ha : rooms.any fun m => !roomOk m with
  | true =>
    have he : opErr r rooms mins = 3 := by simp only [opErr, hr, h50, hne, ha, if_true, if_false, Bool.true_eq_false, ne_eq, not_true_eq_false]
    rw [ha] at hfn
    rw [he, fin he (by decide), fin he (by decide)]
    refine DCall.of Try.func39 sf39 hb39 (Nat.le_of_ble_eq_true rfl) (okRes_nil fun _ => rfl) ?_; simp only [s39, Mv, Sg, Ld, Fa, Xt, Ix, Ln, Cl, Oo, Og, idxs, Nat.reduceAdd]
    repeat' (first
    | (with_reducible refine DW.seq ?_)
    | (with_reducible refine DW.block ?_)
    | (with_reducible refine DW.skip ?_)
    | (with_reducible refine DW.exit ?_)
    | (with_reducible refine DW.ret ?_)
    | (with_reducible refine DW.reg ?_)
    | (refine DW.dreg rfl (WF.of (by first | rfl | simp (disch := omega) only [go_sem, Nat.reduceLT, Nat.reduceLeDiff, Nat.reduceAdd, Nat.reduceMul, Nat.reduceEqDiff, ↓reduceIte, reduceCtorEq, Nat.reduceBEq, Nat.reduceBNe, Nat.reducePow, Int.reduceLE, Int.reduceLT, Int.reduceNeg, Int.reduceToNat, Int.reduceEq, Int.reduceAdd, Int.reduceSub, Int.reduceMul, Int.reduceBEq, Int.reduceBNe, Blk.men, Blk.keysIn, hr, hd, hd2])) ?_)
    | (simp (disch := omega) only [go_sem, Nat.reduceLT, Nat.reduceLeDiff, Nat.reduceAdd, Nat.reduceMul, Nat.reduceEqDiff, ↓reduceIte, reduceCtorEq, Nat.reduceBEq, Nat.reduceBNe, Nat.reducePow, Int.reduceLE, Int.reduceLT, Int.reduceNeg, Int.reduceToNat, Int.reduceEq, Int.reduceAdd, Int.reduceSub, Int.reduceMul, Int.reduceBEq, Int.reduceBNe, Blk.men, Blk.keysIn, hr, hd, hd2])
    | (exact retS_of rfl rfl rfl)
    | (refine DW.cond_tt rfl ?_)
    | (refine call_c (c86 r) (by decide) ?_)
    | (refine call_c (hfn) (by decide) ?_)
    | (refine DW.cond_ff rfl ?_)
    | (refine DW.cond rfl ?_ ?_ <;> intro hc <;> (try simp only [go_sem] at hc))
    | (refine g_split ?_ ?_ <;> intro hc <;> (try simp only [hc]) <;> (try simp only [go_sem] at hc)))
    refine retS_wk rfl ?_ (by simp only [Blk.nb, rowC_nb, D.nb, D.nbs, C.nb, C.nbs, C.nbss, rows_nb eI_nb, rows_nb eC_nb, rows_nb eL_nb, rows_nb eR_nb, rows_nb eS_nb, rows_nb eG_nb, Bool.and_true, Bool.not_false, Bool.and_self, bD, dI, iD]); exact .tup (.cons (.nil _ _) (.cons (.nil _ _) (.cons (.refl _) .nil)))
  | false =>
  rw [ha] at hfn
  cases hw : wthn 0 2400 mins with
  | false =>
    have he : opErr r rooms mins = 3 := by simp only [opErr, hr, h50, hne, ha, hw, if_true, if_false, Bool.true_eq_false, Bool.false_eq_true, ne_eq, not_true_eq_false]
    rw [hw] at h88
    rw [he, fin he (by decide), fin he (by decide)]
    refine DCall.of Try.func39 sf39 hb39 (Nat.le_of_ble_eq_true rfl) (okRes_nil fun _ => rfl) ?_; simp only [s39, Mv, Sg, Ld, Fa, Xt, Ix, Ln, Cl, Oo, Og, idxs, Nat.reduceAdd]
    repeat' (first
    | (with_reducible refine DW.seq ?_)
    | (with_reducible refine DW.block ?_)
    | (with_reducible refine DW.skip ?_)
    | (with_reducible refine DW.exit ?_)
    | (with_reducible refine DW.ret ?_)
    | (with_reducible refine DW.reg ?_)
    | (refine DW.dreg rfl (WF.of (by first | rfl | simp (disch := omega) only [go_sem, Nat.reduceLT, Nat.reduceLeDiff, Nat.reduceAdd, Nat.reduceMul, Nat.reduceEqDiff, ↓reduceIte, reduceCtorEq, Nat.reduceBEq, Nat.reduceBNe, Nat.reducePow, Int.reduceLE, Int.reduceLT, Int.reduceNeg, Int.reduceToNat, Int.reduceEq, Int.reduceAdd, Int.reduceSub, Int.reduceMul, Int.reduceBEq, Int.reduceBNe, Blk.men, Blk.keysIn, hr, hd, hd2])) ?_)
    | (simp (disch := omega) only [go_sem, Nat.reduceLT, Nat.reduceLeDiff, Nat.reduceAdd, Nat.reduceMul, Nat.reduceEqDiff, ↓reduceIte, reduceCtorEq, Nat.reduceBEq, Nat.reduceBNe, Nat.reducePow, Int.reduceLE, Int.reduceLT, Int.reduceNeg, Int.reduceToNat, Int.reduceEq, Int.reduceAdd, Int.reduceSub, Int.reduceMul, Int.reduceBEq, Int.reduceBNe, Blk.men, Blk.keysIn, hr, hd, hd2])
    | (exact retS_of rfl rfl rfl)
    | (refine DW.cond_tt rfl ?_)
    | (refine call_c (c86 r) (by decide) ?_)
    | (refine call_c (hfn) (by decide) ?_)
    | (refine call_c (h88) (by decide) ?_)
    | (refine DW.cond_ff rfl ?_)
    | (refine DW.cond rfl ?_ ?_ <;> intro hc <;> (try simp only [go_sem] at hc))
    | (refine g_split ?_ ?_ <;> intro hc <;> (try simp only [hc]) <;> (try simp only [go_sem] at hc)))
    refine retS_wk rfl ?_ (by simp only [Blk.nb, rowC_nb, D.nb, D.nbs, C.nb, C.nbs, C.nbss, rows_nb eI_nb, rows_nb eC_nb, rows_nb eL_nb, rows_nb eR_nb, rows_nb eS_nb, rows_nb eG_nb, Bool.and_true, Bool.not_false, Bool.and_self, bD, dI, iD]); exact .tup (.cons (.nil _ _) (.cons (.nil _ _) (.cons (.refl _) .nil)))
  | true =>
    have he : opErr r rooms mins = 0 := by simp only [opErr, hr, h50, hne, ha, hw, if_true, if_false, Bool.true_eq_false, Bool.false_eq_true, ne_eq, not_true_eq_false]
    have ho : ∀ f, opOut f r rooms mins = opF f rooms mins rooms.length := fun f => by simp only [opOut, he, if_true]
    rw [hw] at h88
    rw [he, ho, ho]
    refine DCall.of Try.func39 sf39 hb39 (Nat.le_of_ble_eq_true rfl) (okRes_nil fun _ => rfl) ?_; simp only [s39, Mv, Sg, Ld, Fa, Xt, Ix, Ln, Cl, Oo, Og, idxs, Nat.reduceAdd]
    repeat' (first
    | (with_reducible refine DW.seq ?_)
    | (with_reducible refine DW.block ?_)
    | (with_reducible refine DW.skip ?_)
    | (with_reducible refine DW.exit ?_)
    | (with_reducible refine DW.ret ?_)
    | (with_reducible refine DW.reg ?_)
    | (refine DW.dreg rfl (WF.of (by first | rfl | simp (disch := omega) only [go_sem, Nat.reduceLT, Nat.reduceLeDiff, Nat.reduceAdd, Nat.reduceMul, Nat.reduceEqDiff, ↓reduceIte, reduceCtorEq, Nat.reduceBEq, Nat.reduceBNe, Nat.reducePow, Int.reduceLE, Int.reduceLT, Int.reduceNeg, Int.reduceToNat, Int.reduceEq, Int.reduceAdd, Int.reduceSub, Int.reduceMul, Int.reduceBEq, Int.reduceBNe, Blk.men, Blk.keysIn, hr, hd, hd2])) ?_)
    | (simp (disch := omega) only [go_sem, Nat.reduceLT, Nat.reduceLeDiff, Nat.reduceAdd, Nat.reduceMul, Nat.reduceEqDiff, ↓reduceIte, reduceCtorEq, Nat.reduceBEq, Nat.reduceBNe, Nat.reducePow, Int.reduceLE, Int.reduceLT, Int.reduceNeg, Int.reduceToNat, Int.reduceEq, Int.reduceAdd, Int.reduceSub, Int.reduceMul, Int.reduceBEq, Int.reduceBNe, Blk.men, Blk.keysIn, hr, hd, hd2])
    | (exact retS_of rfl rfl rfl)
    | (refine DW.cond_tt rfl ?_)
    | (refine call_c (c86 r) (by decide) ?_)
    | (refine call_c (hfn) (by decide) ?_)
    | (refine call_c (h88) (by decide) ?_)
    | (refine DW.cond_ff rfl ?_)
    | (refine DW.cond rfl ?_ ?_ <;> intro hc <;> (try simp only [go_sem] at hc))
    | (refine g_split ?_ ?_ <;> intro hc <;> (try simp only [hc]) <;> (try simp only [go_sem] at hc)))
    refine DW.ent (Ent.adopt 6 55 1 rfl rfl rfl) ?_
    simp (disch := omega) only [go_sem, Nat.reduceLT, Nat.reduceLeDiff, Nat.reduceAdd, Nat.reduceMul, Nat.reduceEqDiff, ↓reduceIte, reduceCtorEq, Nat.reduceBEq, Nat.reduceBNe, Nat.reducePow, Int.reduceLE, Int.reduceLT, Int.reduceNeg, Int.reduceToNat, Int.reduceEq, Int.reduceAdd, Int.reduceSub, Int.reduceMul, Int.reduceBEq, Int.reduceBNe, Blk.men, Blk.keysIn]
    refine DW.ent (Ent.adopt 7 66 1 rfl rfl rfl) ?_
    simp (disch := omega) only [go_sem, Nat.reduceLT, Nat.reduceLeDiff, Nat.reduceAdd, Nat.reduceMul, Nat.reduceEqDiff, ↓reduceIte, reduceCtorEq, Nat.reduceBEq, Nat.reduceBNe, Nat.reducePow, Int.reduceLE, Int.reduceLT, Int.reduceNeg, Int.reduceToNat, Int.reduceEq, Int.reduceAdd, Int.reduceSub, Int.reduceMul, Int.reduceBEq, Int.reduceBNe, Blk.men, Blk.keysIn]
    refine DW.loop (ι := { i : Nat // i ≤ rooms.length }) (fun i => ⟨70, [(36, dI i.1), (35, dI rooms.length), (34, .c (.sl b 4 (rows eR rooms))), (7, .own 66), (6, .own 55), (3, .box 3 0), (2, dIs b2 mins)],
      [(66, .row 1 (rowC (rows eI (nL (opF (pressHi r) rooms mins i.1))))), (55, .row 1 (rowC (rows eI (nL (opF (pressLo r) rooms mins i.1))))), (3, .box [dI r.mins, dI r.deg, dI r.damp])]⟩) (fun i => rooms.length - i.1) ⟨0, Nat.zero_le _⟩ ?_ ?_
    · refine Ent.to ?_ ?_ <;> simp (disch := omega) only [wkT_cons, wkX_cons, wkT_nil, wkX_nil, get, Nat.reduceEqDiff, ↓reduceIte, ex_some, wk_self, wk_top, wk_nil, wkB_self, and_self, dI, i64_in, and_true, true_and, Int.natCast_add, Int.natCast_one, Int.ofNat_zero, Int.natCast_zero]
      exact ⟨.refl _, .refl _⟩
    rintro ⟨i, hi⟩
    dsimp only
    rcases at_or rooms i hi with ⟨m, hm0, hlt, hdd⟩ | ⟨hend, hdd⟩
    · obtain ⟨v, hv⟩ := getE (l := mins) (i := i) (by omega)
      have hok : roomOk m = true := by
        have := List.any_eq_false.1 ha m (List.mem_of_getElem? hm0)
        simpa using this
      have h89 := c89 r m hr hok
      have hl1 := opF_succ (f := pressLo r) hm0 hv
      have hl2 := opF_succ (f := pressHi r) hm0 hv
      have hn1 := opF_len (pressLo r) rooms mins i
      have hn2 := opF_len (pressHi r) rooms mins i
      generalize opF (pressLo r) rooms mins i = a at *
      generalize opF (pressHi r) rooms mins i = c at *
      generalize pressLo r m = lo at *
      generalize pressHi r m = hi' at *
      have hal : (nL a).length + 1 ≤ 17592186044416 := by rw [nL_length]; omega
      have hcl : (nL c).length + 1 ≤ 17592186044416 := by rw [nL_length]; omega
      have hil : (i < mins.length) = True := eq_true (by omega)
      cases h1 : decide (v < lo) with
      | false =>
        simp only [h1, Bool.false_eq_true, if_false, List.append_nil] at hl1
        cases h2 : decide (v < hi') with
        | false =>
          simp only [h2, Bool.false_eq_true, if_false, List.append_nil] at hl2
          repeat' (first
    | (with_reducible refine DW.seq ?_)
    | (with_reducible refine DW.block ?_)
    | (with_reducible refine DW.skip ?_)
    | (with_reducible refine DW.exit ?_)
    | (with_reducible refine DW.ret ?_)
    | (with_reducible refine DW.reg ?_)
    | (refine DW.dreg rfl (WF.of (by first | rfl | simp (disch := omega) only [go_sem, Nat.reduceLT, Nat.reduceLeDiff, Nat.reduceAdd, Nat.reduceMul, Nat.reduceEqDiff, ↓reduceIte, reduceCtorEq, Nat.reduceBEq, Nat.reduceBNe, Nat.reducePow, Int.reduceLE, Int.reduceLT, Int.reduceNeg, Int.reduceToNat, Int.reduceEq, Int.reduceAdd, Int.reduceSub, Int.reduceMul, Int.reduceBEq, Int.reduceBNe, Blk.men, Blk.keysIn, hdd, hm0, hv, hil, h1, h2])) ?_)
    | (simp (disch := omega) only [go_sem, Nat.reduceLT, Nat.reduceLeDiff, Nat.reduceAdd, Nat.reduceMul, Nat.reduceEqDiff, ↓reduceIte, reduceCtorEq, Nat.reduceBEq, Nat.reduceBNe, Nat.reducePow, Int.reduceLE, Int.reduceLT, Int.reduceNeg, Int.reduceToNat, Int.reduceEq, Int.reduceAdd, Int.reduceSub, Int.reduceMul, Int.reduceBEq, Int.reduceBNe, Blk.men, Blk.keysIn, hdd, hm0, hv, hil, h1, h2])
    | (exact retS_of rfl rfl rfl)
    | (refine DW.cond_tt rfl ?_)
    | (refine call_c (h89) (by decide) ?_)
    | (refine call_c (c90 _ _) (by decide) ?_)
    | (refine DW.cond_ff rfl ?_)
    | (refine DW.cond rfl ?_ ?_ <;> intro hc <;> (try simp only [go_sem] at hc))
    | (refine g_split ?_ ?_ <;> intro hc <;> (try simp only [hc]) <;> (try simp only [go_sem] at hc)))
          refine ⟨⟨i + 1, hlt⟩, ?_, Ent.to ?_ ?_⟩ <;> first | (show _ < _; (try simp only); omega) | (simp (disch := omega) only [wkT_cons, wkX_cons, wkT_nil, wkX_nil, get, Nat.reduceEqDiff, ↓reduceIte, ex_some, wk_self, wk_top, wk_nil, wkB_self, and_self, dI, i64_in, and_true, true_and, Int.natCast_add, Int.natCast_one, Int.ofNat_zero, Int.natCast_zero,  hl1, hl2])
        | true =>
          simp only [h2, if_true] at hl2
          repeat' (first
    | (with_reducible refine DW.seq ?_)
    | (with_reducible refine DW.block ?_)
    | (with_reducible refine DW.skip ?_)
    | (with_reducible refine DW.exit ?_)
    | (with_reducible refine DW.ret ?_)
    | (with_reducible refine DW.reg ?_)
    | (refine DW.dreg rfl (WF.of (by first | rfl | simp (disch := omega) only [go_sem, Nat.reduceLT, Nat.reduceLeDiff, Nat.reduceAdd, Nat.reduceMul, Nat.reduceEqDiff, ↓reduceIte, reduceCtorEq, Nat.reduceBEq, Nat.reduceBNe, Nat.reducePow, Int.reduceLE, Int.reduceLT, Int.reduceNeg, Int.reduceToNat, Int.reduceEq, Int.reduceAdd, Int.reduceSub, Int.reduceMul, Int.reduceBEq, Int.reduceBNe, Blk.men, Blk.keysIn, hdd, hm0, hv, hil, h1, h2])) ?_)
    | (simp (disch := omega) only [go_sem, Nat.reduceLT, Nat.reduceLeDiff, Nat.reduceAdd, Nat.reduceMul, Nat.reduceEqDiff, ↓reduceIte, reduceCtorEq, Nat.reduceBEq, Nat.reduceBNe, Nat.reducePow, Int.reduceLE, Int.reduceLT, Int.reduceNeg, Int.reduceToNat, Int.reduceEq, Int.reduceAdd, Int.reduceSub, Int.reduceMul, Int.reduceBEq, Int.reduceBNe, Blk.men, Blk.keysIn, hdd, hm0, hv, hil, h1, h2])
    | (exact retS_of rfl rfl rfl)
    | (refine DW.cond_tt rfl ?_)
    | (refine call_c (h89) (by decide) ?_)
    | (refine call_c (c90 _ _) (by decide) ?_)
    | (refine DW.cond_ff rfl ?_)
    | (refine DW.cond rfl ?_ ?_ <;> intro hc <;> (try simp only [go_sem] at hc))
    | (refine g_split ?_ ?_ <;> intro hc <;> (try simp only [hc]) <;> (try simp only [go_sem] at hc)))
          refine ⟨⟨i + 1, hlt⟩, ?_, Ent.to ?_ ?_⟩ <;> first | (show _ < _; (try simp only); omega) | (simp (disch := omega) only [wkT_cons, wkX_cons, wkT_nil, wkX_nil, get, Nat.reduceEqDiff, ↓reduceIte, ex_some, wk_self, wk_top, wk_nil, wkB_self, and_self, dI, i64_in, and_true, true_and, Int.natCast_add, Int.natCast_one, Int.ofNat_zero, Int.natCast_zero,  hl1, hl2, ← nL_snoc])
      | true =>
        simp only [h1, if_true] at hl1
        cases h2 : decide (v < hi') with
        | false =>
          simp only [h2, Bool.false_eq_true, if_false, List.append_nil] at hl2
          repeat' (first
    | (with_reducible refine DW.seq ?_)
    | (with_reducible refine DW.block ?_)
    | (with_reducible refine DW.skip ?_)
    | (with_reducible refine DW.exit ?_)
    | (with_reducible refine DW.ret ?_)
    | (with_reducible refine DW.reg ?_)
    | (refine DW.dreg rfl (WF.of (by first | rfl | simp (disch := omega) only [go_sem, Nat.reduceLT, Nat.reduceLeDiff, Nat.reduceAdd, Nat.reduceMul, Nat.reduceEqDiff, ↓reduceIte, reduceCtorEq, Nat.reduceBEq, Nat.reduceBNe, Nat.reducePow, Int.reduceLE, Int.reduceLT, Int.reduceNeg, Int.reduceToNat, Int.reduceEq, Int.reduceAdd, Int.reduceSub, Int.reduceMul, Int.reduceBEq, Int.reduceBNe, Blk.men, Blk.keysIn, hdd, hm0, hv, hil, h1, h2])) ?_)
    | (simp (disch := omega) only [go_sem, Nat.reduceLT, Nat.reduceLeDiff, Nat.reduceAdd, Nat.reduceMul, Nat.reduceEqDiff, ↓reduceIte, reduceCtorEq, Nat.reduceBEq, Nat.reduceBNe, Nat.reducePow, Int.reduceLE, Int.reduceLT, Int.reduceNeg, Int.reduceToNat, Int.reduceEq, Int.reduceAdd, Int.reduceSub, Int.reduceMul, Int.reduceBEq, Int.reduceBNe, Blk.men, Blk.keysIn, hdd, hm0, hv, hil, h1, h2])
    | (exact retS_of rfl rfl rfl)
    | (refine DW.cond_tt rfl ?_)
    | (refine call_c (h89) (by decide) ?_)
    | (refine call_c (c90 _ _) (by decide) ?_)
    | (refine DW.cond_ff rfl ?_)
    | (refine DW.cond rfl ?_ ?_ <;> intro hc <;> (try simp only [go_sem] at hc))
    | (refine g_split ?_ ?_ <;> intro hc <;> (try simp only [hc]) <;> (try simp only [go_sem] at hc)))
          refine ⟨⟨i + 1, hlt⟩, ?_, Ent.to ?_ ?_⟩ <;> first | (show _ < _; (try simp only); omega) | (simp (disch := omega) only [wkT_cons, wkX_cons, wkT_nil, wkX_nil, get, Nat.reduceEqDiff, ↓reduceIte, ex_some, wk_self, wk_top, wk_nil, wkB_self, and_self, dI, i64_in, and_true, true_and, Int.natCast_add, Int.natCast_one, Int.ofNat_zero, Int.natCast_zero,  hl1, hl2, ← nL_snoc])
        | true =>
          simp only [h2, if_true] at hl2
          repeat' (first
    | (with_reducible refine DW.seq ?_)
    | (with_reducible refine DW.block ?_)
    | (with_reducible refine DW.skip ?_)
    | (with_reducible refine DW.exit ?_)
    | (with_reducible refine DW.ret ?_)
    | (with_reducible refine DW.reg ?_)
    | (refine DW.dreg rfl (WF.of (by first | rfl | simp (disch := omega) only [go_sem, Nat.reduceLT, Nat.reduceLeDiff, Nat.reduceAdd, Nat.reduceMul, Nat.reduceEqDiff, ↓reduceIte, reduceCtorEq, Nat.reduceBEq, Nat.reduceBNe, Nat.reducePow, Int.reduceLE, Int.reduceLT, Int.reduceNeg, Int.reduceToNat, Int.reduceEq, Int.reduceAdd, Int.reduceSub, Int.reduceMul, Int.reduceBEq, Int.reduceBNe, Blk.men, Blk.keysIn, hdd, hm0, hv, hil, h1, h2])) ?_)
    | (simp (disch := omega) only [go_sem, Nat.reduceLT, Nat.reduceLeDiff, Nat.reduceAdd, Nat.reduceMul, Nat.reduceEqDiff, ↓reduceIte, reduceCtorEq, Nat.reduceBEq, Nat.reduceBNe, Nat.reducePow, Int.reduceLE, Int.reduceLT, Int.reduceNeg, Int.reduceToNat, Int.reduceEq, Int.reduceAdd, Int.reduceSub, Int.reduceMul, Int.reduceBEq, Int.reduceBNe, Blk.men, Blk.keysIn, hdd, hm0, hv, hil, h1, h2])
    | (exact retS_of rfl rfl rfl)
    | (refine DW.cond_tt rfl ?_)
    | (refine call_c (h89) (by decide) ?_)
    | (refine call_c (c90 _ _) (by decide) ?_)
    | (refine DW.cond_ff rfl ?_)
    | (refine DW.cond rfl ?_ ?_ <;> intro hc <;> (try simp only [go_sem] at hc))
    | (refine g_split ?_ ?_ <;> intro hc <;> (try simp only [hc]) <;> (try simp only [go_sem] at hc)))
          refine ⟨⟨i + 1, hlt⟩, ?_, Ent.to ?_ ?_⟩ <;> first | (show _ < _; (try simp only); omega) | (simp (disch := omega) only [wkT_cons, wkX_cons, wkT_nil, wkX_nil, get, Nat.reduceEqDiff, ↓reduceIte, ex_some, wk_self, wk_top, wk_nil, wkB_self, and_self, dI, i64_in, and_true, true_and, Int.natCast_add, Int.natCast_one, Int.ofNat_zero, Int.natCast_zero,  hl1, hl2, ← nL_snoc])
    · repeat' (first
    | (with_reducible refine DW.seq ?_)
    | (with_reducible refine DW.block ?_)
    | (with_reducible refine DW.skip ?_)
    | (with_reducible refine DW.exit ?_)
    | (with_reducible refine DW.ret ?_)
    | (with_reducible refine DW.reg ?_)
    | (refine DW.dreg rfl (WF.of (by first | rfl | simp (disch := omega) only [go_sem, Nat.reduceLT, Nat.reduceLeDiff, Nat.reduceAdd, Nat.reduceMul, Nat.reduceEqDiff, ↓reduceIte, reduceCtorEq, Nat.reduceBEq, Nat.reduceBNe, Nat.reducePow, Int.reduceLE, Int.reduceLT, Int.reduceNeg, Int.reduceToNat, Int.reduceEq, Int.reduceAdd, Int.reduceSub, Int.reduceMul, Int.reduceBEq, Int.reduceBNe, Blk.men, Blk.keysIn, hdd])) ?_)
    | (simp (disch := omega) only [go_sem, Nat.reduceLT, Nat.reduceLeDiff, Nat.reduceAdd, Nat.reduceMul, Nat.reduceEqDiff, ↓reduceIte, reduceCtorEq, Nat.reduceBEq, Nat.reduceBNe, Nat.reducePow, Int.reduceLE, Int.reduceLT, Int.reduceNeg, Int.reduceToNat, Int.reduceEq, Int.reduceAdd, Int.reduceSub, Int.reduceMul, Int.reduceBEq, Int.reduceBNe, Blk.men, Blk.keysIn, hdd])
    | (exact retS_of rfl rfl rfl)
    | (refine DW.cond_tt rfl ?_)
    | (refine DW.cond_ff rfl ?_)
    | (refine DW.cond rfl ?_ ?_ <;> intro hc <;> (try simp only [go_sem] at hc))
    | (refine g_split ?_ ?_ <;> intro hc <;> (try simp only [hc]) <;> (try simp only [go_sem] at hc)))
      subst hend
      (refine retS_ent (Ent.rel 66 rfl) ?_; simp (disch := omega) only [go_sem, Nat.reduceLT, Nat.reduceLeDiff, Nat.reduceAdd, Nat.reduceMul, Nat.reduceEqDiff, ↓reduceIte, reduceCtorEq, Nat.reduceBEq, Nat.reduceBNe, Nat.reducePow, Int.reduceLE, Int.reduceLT, Int.reduceNeg, Int.reduceToNat, Int.reduceEq, Int.reduceAdd, Int.reduceSub, Int.reduceMul, Int.reduceBEq, Int.reduceBNe, Blk.men, Blk.keysIn])
      (refine retS_ent (Ent.rel 55 rfl) ?_; simp (disch := omega) only [go_sem, Nat.reduceLT, Nat.reduceLeDiff, Nat.reduceAdd, Nat.reduceMul, Nat.reduceEqDiff, ↓reduceIte, reduceCtorEq, Nat.reduceBEq, Nat.reduceBNe, Nat.reducePow, Int.reduceLE, Int.reduceLT, Int.reduceNeg, Int.reduceToNat, Int.reduceEq, Int.reduceAdd, Int.reduceSub, Int.reduceMul, Int.reduceBEq, Int.reduceBNe, Blk.men, Blk.keysIn])
      refine retS_wk rfl ?_ (by simp only [Blk.nb, rowC_nb, D.nb, D.nbs, C.nb, C.nbs, C.nbss, rows_nb eI_nb, rows_nb eC_nb, rows_nb eL_nb, rows_nb eR_nb, rows_nb eS_nb, rows_nb eG_nb, Bool.and_true, Bool.not_false, Bool.and_self, bD, dI, iD]); exact .refl _
end Go.Dw.Seat
end
section
set_option linter.unusedSimpArgs false
set_option maxRecDepth 100000
namespace Go.Dw.Seat
open Go Go.Dw Go.Proofs Go.IntWalk
def prJ (cs : List Cause) (a : Cause) (j : Nat) : List (List Cause) := ((cs.take j).filter fun c => decide (a.noz < c.noz)).map fun c => [a, c]
def prI (cs : List Cause) (i : Nat) : List (List Cause) := (cs.take i).flatMap fun a => prJ cs a cs.length
theorem prI_succ {cs : List Cause} {a : Cause} {i : Nat} (h : cs[i]? = some a) : prI cs (i + 1) = prI cs i ++ prJ cs a cs.length := by
  simp only [prI, List.take_add_one, h, List.flatMap_append, Option.toList_some, List.flatMap_cons, List.flatMap_nil, List.append_nil]
end Go.Dw.Seat
end
section
set_option linter.unusedSimpArgs false
namespace Go.Dw.Seat
open Go Go.Dw
theorem causes_asc (froms : List Int) (n : Nat) : (causesN n froms).Pairwise (fun a b => a.noz ≤ b.noz) := by
  have hz : ∀ z c, c ∈ causesZ froms z → c.noz = (z : Nat) := by
    intro z c hc
    simp only [causesZ, causesK, List.mem_flatMap, List.mem_map] at hc
    obtain ⟨k, _, f, _, rfl⟩ := hc
    rfl
  rw [causesN, List.pairwise_flatMap]
  constructor
  · intro z _
    rw [List.pairwise_iff_forall_sublist]
    intro a b hab
    have ha := hab.subset (show a ∈ [a, b] by simp)
    have hb := hab.subset (show b ∈ [a, b] by simp)
    rw [hz z a ha, hz z b hb]; exact Int.le_refl _
  · refine List.Pairwise.imp ?_ List.pairwise_lt_range
    intro z z' hlt a ha b hb
    rw [hz z a ha, hz z' b hb]; omega
theorem prJ_pairs {cs : List Cause} (hp : cs.Pairwise (fun a b => a.noz ≤ b.noz)) {i : Nat} {a : Cause} (h : cs[i]? = some a) : prJ cs a cs.length = pairsOf a (cs.drop (i + 1)) := by
  obtain ⟨hi, ha⟩ := List.getElem?_eq_some_iff.1 h
  have hn : (cs.take (i + 1)).filter (fun c => decide (a.noz < c.noz)) = [] := by
    rw [List.filter_eq_nil_iff]
    intro c hc
    obtain ⟨j, hj, rfl⟩ := List.mem_take_iff_getElem.1 hc
    rw [List.pairwise_iff_getElem] at hp
    simp only [decide_eq_true_eq, Int.not_lt]
    rcases Nat.lt_or_ge j i with h1 | h1
    · have := hp j i (by omega) hi h1
      rwa [ha] at this
    · have : j = i := by omega
      subst this; rw [ha]; exact Int.le_refl _
  have hs : cs.filter (fun c => decide (a.noz < c.noz)) = (cs.drop (i + 1)).filter (fun c => decide (a.noz < c.noz)) := by
    conv => lhs; rw [← List.take_append_drop (i + 1) cs]
    rw [List.filter_append, hn, List.nil_append]
  simp only [prJ, pairsOf, List.take_length, hs]
theorem prI_pairs {cs : List Cause} (hp : cs.Pairwise (fun a b => a.noz ≤ b.noz)) : ∀ i, i ≤ cs.length → prI cs i = pairsTo cs i
  | 0, _ => by simp [prI, pairsTo]
  | i + 1, hi => by
    obtain ⟨a, ha⟩ := getE (l := cs) (i := i) (by omega)
    rw [prI_succ ha, pairsTo_succ ha, prI_pairs hp i (by omega), prJ_pairs hp ha]
theorem states_pair {n : Nat} {froms : List Int} {s : List Cause} (h : s ∈ statesOf (causesN n froms)) : s.Pairwise (fun a b => a.noz ≠ b.noz) := by
  rcases mem_statesOf h with rfl | ⟨a, ha, rfl⟩ | ⟨a, b, rfl, ha, hb, hlt⟩
  · exact .nil
  · exact List.pairwise_singleton _ _
  · simp; omega
end Go.Dw.Seat
end
