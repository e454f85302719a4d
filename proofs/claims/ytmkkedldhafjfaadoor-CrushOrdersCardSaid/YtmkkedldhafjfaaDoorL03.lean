/- The law CrushOrders returns true for every input, and changes nothing that was there before: the full statement CrushOrdersCardSaid, without conditions. -/
import Derived.Test.YtmkkedldhafjfaaDoorL02
import Derived.Test.YtmkkedldhafjfaaDoorTie
import Derived.ProofKit
import Derived.LaidMore
import Derived.OpenShut
import Derived.Stop.Joined
import Derived.Test.YtmkkedldhafjfaaDoorCards
import Derived.SevenTiedAt
set_option linter.unusedVariables false
set_option linter.unusedSimpArgs false
section
set_option linter.unusedSimpArgs false
set_option maxRecDepth 100000
namespace Go.Dw.Seat
open Go Go.Dw Go.Proofs Go.IntWalk
abbrev falsR (n : Nat) : Blk := .row 1 (rowC (List.replicate n [C.v (.bool false)]))
theorem fals_flat (n : Nat) : (rowC (List.replicate n [C.v (.bool false)])).flatten = List.replicate n (bD false) := by
  induction n with
  | zero => rfl
  | succ n ih => rw [List.replicate_succ, List.replicate_succ, ← rowC_cons, List.flatten_cons, ih]; rfl
theorem fals_us (n m : Nat) : (rowC (List.replicate n [C.v (.bool false)])).flatten ++ List.replicate m D.top = usC n [] m := by
  rw [fals_flat, usC]
  congr 1
  apply List.ext_getElem?
  intro i
  rw [List.getElem?_map]
  rcases Nat.lt_or_ge i n with h | h
  · rw [List.getElem?_range h, List.getElem?_replicate, if_pos h]; rfl
  · rw [List.getElem?_eq_none (by simpa using h), List.getElem?_eq_none (by simpa using h)]; rfl
theorem reOrderT (l : List Lod) (h : ∀ x ∈ l, x.ok) (hl : l.length ≤ 10) (hne : l ≠ []) (b1 b2 : Bool) (t : List (Int × Int)) (days : Int) (ht : TabOk t days) (j : Nat) :
    DCall Tryd.prog 48 [.c (.sl b1 4 (rows eLd l)), .c (.sl b2 2 (rows eK t)), dI days, .c (.v (.slice none 0 0)), .own j] [(j, falsR l.length)] (orD l (lastI days t 0) l.length []) [] := by
  refine DCall.lend (pre := [.c (.sl b1 4 (rows eLd l)), .c (.sl b2 2 (rows eK t)), dI days, .c (.v (.slice none 0 0))]) 4 ?_ (orD_men _ _ _ _) (fun _ => rfl) (fun j => ?_) (fun lu cap m => ?_)
  · cases l with
    | nil => exact absurd rfl hne
    | cons a l => intro e; cases e
  · rw [fals_flat]
    generalize l.length = n
    induction n with
    | zero => rfl
    | succ n ih => rw [List.replicate_succ]; exact ih
  · rw [fals_us, rowC_length, List.length_replicate]
    refine ⟨_, (reOrderC l h hl b1 b2 t days ht l.length [] List.nodup_nil (fun _ h => by cases h) (by simp) lu cap m).weakA ?_⟩
    refine .cons (.inl rfl) (.cons (.inl rfl) (.cons (.inl rfl) (.cons (.inr ⟨_, _, rfl, rfl, .nil false 1⟩) (.cons (.inl rfl) .nil))))
theorem mostQ (l : List Lod) (k : Int) (best : List Int) (s : Nat) (L : List Int) (hL : L = nL (bitsL s)) : bestS l k best s = if decide ((L.length : Int) < best.length) || (((L.length : Int) == best.length) && !lessB L best) then best else if stI l k s then L else best := by
  rw [bestS, ← hL]
  clear hL
  by_cases c1 : (L.length : Int) < best.length
  · rw [decide_eq_true c1, Bool.true_or, if_pos rfl, decide_eq_false (by omega), Bool.false_or]
    have : ((L.length : Int) == best.length) = false := by rw [beq_eq_false_iff_ne]; omega
    rw [this, Bool.false_and]
    split <;> simp
  · rw [decide_eq_false c1, Bool.false_or]
    by_cases c2 : (L.length : Int) = best.length
    · have e : L.length = best.length := by omega
      rw [cmpL_lex e, lessB, if_pos e, decide_eq_false (by omega), Bool.false_or, c2, beq_self_eq_true, Bool.true_and, Bool.true_and]
      cases lexB L best <;> simp
    · have : ((L.length : Int) == best.length) = false := by rw [beq_eq_false_iff_ne]; exact c2
      rw [this, Bool.false_and, Bool.false_and, decide_eq_true (by omega), Bool.true_or]
      simp
theorem pick_bN (l : List Lod) (s i : Nat) {v : Lod} (hv : l[i]? = some v) (hb : s.testBit i = true) : pickL l (bN s (i + 1)) = pickL l (bN s i) ++ [v] := by
  rw [bN, if_pos hb]
  simp only [pickL, List.map_append, List.map_cons, List.map_nil, pk, hv, Option.getD_some]
def mostP (l : List Lod) (k : Int) (s : Nat) : List Int := (List.range s).foldl (bestS l k) []
set_option maxHeartbeats 8000000 in
theorem reMost (b1 b2 : Bool) (l : List Lod) (h : ∀ x ∈ l, x.ok) (hl : l.length ≤ 10) (t : List (Int × Int)) (days : Int) (ht : TabOk t days) :
    DCall Tryd.prog 47 [.c (.sl b1 4 (rows eLd l)), .c (.sl b2 2 (rows eK t)), dI days] [] (dIs false (mostI l (lastI days t 0))) [] := by
  have hsh := shl_i hl
  have hpw := pow_le10 hl
  have hwn : IntKind.u64.wrap (l.length : Int) = (l.length : Int) := IntWalk.u64_in _ (by omega)
  have ho := fun (m : List Lod) (hm : ∀ x ∈ m, x.ok) (hml : m.length ≤ 10) (hne : m ≠ []) => reOrderT m hm hml hne true b2 t days ht 72
  generalize lastI days t 0 = k at *
  refine DCall.of Tryd.func47 sf47 hb47 (Nat.le_of_ble_eq_true rfl) (okRes_nil fun _ => rfl) ?_; simp only [s47, Mv, Sg, Ld, Fa, Xt, Ix, Ln, Cl, Oo, Og, o47_0, o47_1, o47_2, o47_3, o47_4, o47_5, o47_6, o47_7, o47_8, o47_9, o47_10, o47_11, o47_12, idxs, Nat.reduceAdd]
  repeat' (first
    | (with_reducible first | refine DW.seq ?_ | refine DW.block ?_ | refine DW.skip ?_ | refine DW.exit ?_ | refine DW.ret ?_ | refine DW.reg ?_)
    | (refine DW.ord rfl (WF.of (by first | rfl | simp (disch := omega) only [go_sem, Nat.reduceLT, Nat.reduceLeDiff, Nat.reduceAdd, Nat.reduceMul, Nat.reduceEqDiff, ↓reduceIte, reduceCtorEq, Nat.reduceBEq, Nat.reduceBNe, Nat.reducePow, Int.reduceLE, Int.reduceLT, Int.reduceNeg, Int.reduceToNat, Int.reduceEq, Int.reduceAdd, Int.reduceSub, Int.reduceMul, Int.reduceBEq, Int.reduceBNe, bm_box, bm_row, bk_box, bk_row])) ?_ ?_ ?_; rotate_left)
    | rfl
    | (with_reducible refine And.intro ?_ ?_)
    | (simp (disch := omega) only [go_sem, Nat.reduceLT, Nat.reduceLeDiff, Nat.reduceAdd, Nat.reduceMul, Nat.reduceEqDiff, ↓reduceIte, reduceCtorEq, Nat.reduceBEq, Nat.reduceBNe, Nat.reducePow, Int.reduceLE, Int.reduceLT, Int.reduceNeg, Int.reduceToNat, Int.reduceEq, Int.reduceAdd, Int.reduceSub, Int.reduceMul, Int.reduceBEq, Int.reduceBNe, bm_box, bm_row, bk_box, bk_row])
    | (exact retS_of rfl rfl rfl)
    | (refine DW.cond_tt rfl ?_)
    | (refine DW.cond_ff rfl ?_)
    | (refine DW.cond rfl ?_ ?_ <;> intro hc <;> (try simp only [go_sem] at hc))
    | (refine g_split ?_ ?_ <;> intro hc <;> (try simp only [hc]) <;> (try simp only [go_sem] at hc)))
  (refine DW.ent (Ent.rel 14 rfl) ?_; simp (disch := omega) only [go_sem, Nat.reduceLT, Nat.reduceLeDiff, Nat.reduceAdd, Nat.reduceMul, Nat.reduceEqDiff, ↓reduceIte, reduceCtorEq, Nat.reduceBEq, Nat.reduceBNe, Nat.reducePow, Int.reduceLE, Int.reduceLT, Int.reduceNeg, Int.reduceToNat, Int.reduceEq, Int.reduceAdd, Int.reduceSub, Int.reduceMul, Int.reduceBEq, Int.reduceBNe, bm_box, bm_row, bk_box, bk_row])
  refine DW.loop (ι := { s : Nat // s ≤ 2 ^ l.length }) (fun s => ⟨79, [(8, dI s.1), (7, dIs false (mostP l k s.1)), (2, dI days), (1, .c (.sl b2 2 (rows eK t))), (0, .c (.sl b1 4 (rows eLd l)))], []⟩) (fun s => 2 ^ l.length - s.1) ⟨0, Nat.zero_le _⟩ ?_ ?_
  · refine Ent.to ?_ ?_ <;> simp (disch := omega) only [wkT_cons, wkX_cons, wkT_nil, wkX_nil, get, Nat.reduceEqDiff, ↓reduceIte, ex_some, wk_self, wk_top, wk_nil, wkB_self, and_self, dI, i64_in, and_true, true_and, Int.natCast_add, Int.natCast_one, Int.ofNat_zero, Int.natCast_zero, show mostP l k 0 = [] from rfl]
    all_goals first | exact ⟨.refl _, .refl _⟩ | exact .refl _
  rintro ⟨s, hs⟩
  dsimp only
  have hbl : (mostP l k s).length ≤ 10 := most_len l k (List.range s) [] (by simp)
  rcases Nat.lt_or_ge s (2 ^ l.length) with hlt | hge
  · have hd : decide ((s : Int) < ((2 ^ l.length : Nat) : Int)) = true := by rw [decide_eq_true_eq]; omega
    have hnx : mostP l k (s + 1) = bestS l k (mostP l k s) s := by unfold mostP; rw [List.range_succ, List.foldl_append]; rfl
    rw [mostQ l k _ s (nL (bN s l.length)) (by rw [bN_all hl hlt])] at hnx
    generalize mostP l k s = best at *
    repeat' (first
    | (with_reducible first | refine DW.seq ?_ | refine DW.block ?_ | refine DW.skip ?_ | refine DW.exit ?_ | refine DW.ret ?_ | refine DW.reg ?_)
    | (refine DW.ord rfl (WF.of (by first | rfl | simp (disch := omega) only [go_sem, Nat.reduceLT, Nat.reduceLeDiff, Nat.reduceAdd, Nat.reduceMul, Nat.reduceEqDiff, ↓reduceIte, reduceCtorEq, Nat.reduceBEq, Nat.reduceBNe, Nat.reducePow, Int.reduceLE, Int.reduceLT, Int.reduceNeg, Int.reduceToNat, Int.reduceEq, Int.reduceAdd, Int.reduceSub, Int.reduceMul, Int.reduceBEq, Int.reduceBNe, bm_box, bm_row, bk_box, bk_row, ud3, hwn, hsh, hd])) ?_ ?_ ?_; rotate_left)
    | rfl
    | (with_reducible refine And.intro ?_ ?_)
    | (simp (disch := omega) only [go_sem, Nat.reduceLT, Nat.reduceLeDiff, Nat.reduceAdd, Nat.reduceMul, Nat.reduceEqDiff, ↓reduceIte, reduceCtorEq, Nat.reduceBEq, Nat.reduceBNe, Nat.reducePow, Int.reduceLE, Int.reduceLT, Int.reduceNeg, Int.reduceToNat, Int.reduceEq, Int.reduceAdd, Int.reduceSub, Int.reduceMul, Int.reduceBEq, Int.reduceBNe, bm_box, bm_row, bk_box, bk_row, ud3, hwn, hsh, hd])
    | (exact retS_of rfl rfl rfl)
    | (refine DW.cond_tt rfl ?_)
    | (refine DW.cond_ff rfl ?_)
    | (refine DW.cond rfl ?_ ?_ <;> intro hc <;> (try simp only [go_sem] at hc))
    | (refine g_split ?_ ?_ <;> intro hc <;> (try simp only [hc]) <;> (try simp only [go_sem] at hc)))
    refine DW.loop (ι := { i : Nat // i ≤ l.length }) (fun i => ⟨79, [(11, dI i.1), (10, .own 24), (9, .own 23), (8, dI s), (7, dIs false best), (2, dI days), (1, .c (.sl b2 2 (rows eK t))), (0, .c (.sl b1 4 (rows eLd l)))], [(24, .row 4 (rowC (rows eLd (pickL l (bN s i.1))))), (23, .row 1 (rowC (rows eI (nL (bN s i.1)))))]⟩) (fun i => l.length - i.1) ⟨0, Nat.zero_le _⟩ ?_ ?_
    · refine Ent.to ?_ ?_ <;> simp (disch := omega) only [wkT_cons, wkX_cons, wkT_nil, wkX_nil, get, Nat.reduceEqDiff, ↓reduceIte, ex_some, wk_self, wk_top, wk_nil, wkB_self, and_self, dI, i64_in, and_true, true_and, Int.natCast_add, Int.natCast_one, Int.ofNat_zero, Int.natCast_zero, bN, nL, pickL]
      all_goals first | exact ⟨.refl _, .refl _⟩ | exact .refl _
    rintro ⟨i, hi⟩
    dsimp only
    rcases at_or l i hi with ⟨v, hv, hlt2, hd2⟩ | ⟨he2, hd2⟩
    · have hbit := bit_i (s := s) (i := i) (by omega) (by omega)
      have hwi : IntKind.u64.wrap (i : Int) = (i : Int) := IntWalk.u64_in _ (by omega)
      have ho1 := bN_len s i
      have ho3 : (nL (bN s i)).length ≤ 10 := by rw [nL_length]; omega
      have ho4 : (pickL l (bN s i)).length ≤ 10 := by rw [pickL, List.length_map]; omega
      cases hb : s.testBit i with
      | true =>
        have ho2 : bN s (i + 1) = bN s i ++ [i] := by rw [bN, hb, if_pos rfl]
        have hpk := pick_bN l s i hv hb
        rw [ho2] at hpk
        rw [hb] at hbit
        generalize hR : pickL l (bN s i) = R at *
        generalize bN s i = o at *
        repeat' (first
    | (with_reducible first | refine DW.seq ?_ | refine DW.block ?_ | refine DW.skip ?_ | refine DW.exit ?_ | refine DW.ret ?_ | refine DW.reg ?_)
    | (refine DW.ord rfl (WF.of (by first | rfl | simp (disch := omega) only [go_sem, Nat.reduceLT, Nat.reduceLeDiff, Nat.reduceAdd, Nat.reduceMul, Nat.reduceEqDiff, ↓reduceIte, reduceCtorEq, Nat.reduceBEq, Nat.reduceBNe, Nat.reducePow, Int.reduceLE, Int.reduceLT, Int.reduceNeg, Int.reduceToNat, Int.reduceEq, Int.reduceAdd, Int.reduceSub, Int.reduceMul, Int.reduceBEq, Int.reduceBNe, bm_box, bm_row, bk_box, bk_row, ud3, hd2, hwi, hbit, hv, snoc_nL, rowC_snocL, List.map_cons, List.map_nil])) ?_ ?_ ?_; rotate_left)
    | rfl
    | (with_reducible refine And.intro ?_ ?_)
    | (simp (disch := omega) only [go_sem, Nat.reduceLT, Nat.reduceLeDiff, Nat.reduceAdd, Nat.reduceMul, Nat.reduceEqDiff, ↓reduceIte, reduceCtorEq, Nat.reduceBEq, Nat.reduceBNe, Nat.reducePow, Int.reduceLE, Int.reduceLT, Int.reduceNeg, Int.reduceToNat, Int.reduceEq, Int.reduceAdd, Int.reduceSub, Int.reduceMul, Int.reduceBEq, Int.reduceBNe, bm_box, bm_row, bk_box, bk_row, ud3, hd2, hwi, hbit, hv, snoc_nL, rowC_snocL, List.map_cons, List.map_nil])
    | (exact retS_of rfl rfl rfl)
    | (refine DW.cond_tt rfl ?_)
    | (refine DW.cond_ff rfl ?_)
    | (refine DW.cond rfl ?_ ?_ <;> intro hc <;> (try simp only [go_sem] at hc))
    | (refine g_split ?_ ?_ <;> intro hc <;> (try simp only [hc]) <;> (try simp only [go_sem] at hc)))
        refine ⟨⟨i + 1, hlt2⟩, ?_, Ent.to ?_ ?_⟩ <;> first | (show _ < _; (try simp only); omega) | (simp (disch := omega) only [wkT_cons, wkX_cons, wkT_nil, wkX_nil, get, Nat.reduceEqDiff, ↓reduceIte, ex_some, wk_self, wk_top, wk_nil, wkB_self, and_self, dI, i64_in, and_true, true_and, Int.natCast_add, Int.natCast_one, Int.ofNat_zero, Int.natCast_zero,  ho2, hpk])
        all_goals exact .refl _
      | false =>
        have ho2 : bN s (i + 1) = bN s i := by rw [bN, hb, if_neg (by decide)]
        rw [hb] at hbit
        repeat' (first
    | (with_reducible first | refine DW.seq ?_ | refine DW.block ?_ | refine DW.skip ?_ | refine DW.exit ?_ | refine DW.ret ?_ | refine DW.reg ?_)
    | (refine DW.ord rfl (WF.of (by first | rfl | simp (disch := omega) only [go_sem, Nat.reduceLT, Nat.reduceLeDiff, Nat.reduceAdd, Nat.reduceMul, Nat.reduceEqDiff, ↓reduceIte, reduceCtorEq, Nat.reduceBEq, Nat.reduceBNe, Nat.reducePow, Int.reduceLE, Int.reduceLT, Int.reduceNeg, Int.reduceToNat, Int.reduceEq, Int.reduceAdd, Int.reduceSub, Int.reduceMul, Int.reduceBEq, Int.reduceBNe, bm_box, bm_row, bk_box, bk_row, ud3, hd2, hwi, hbit])) ?_ ?_ ?_; rotate_left)
    | rfl
    | (with_reducible refine And.intro ?_ ?_)
    | (simp (disch := omega) only [go_sem, Nat.reduceLT, Nat.reduceLeDiff, Nat.reduceAdd, Nat.reduceMul, Nat.reduceEqDiff, ↓reduceIte, reduceCtorEq, Nat.reduceBEq, Nat.reduceBNe, Nat.reducePow, Int.reduceLE, Int.reduceLT, Int.reduceNeg, Int.reduceToNat, Int.reduceEq, Int.reduceAdd, Int.reduceSub, Int.reduceMul, Int.reduceBEq, Int.reduceBNe, bm_box, bm_row, bk_box, bk_row, ud3, hd2, hwi, hbit])
    | (exact retS_of rfl rfl rfl)
    | (refine DW.cond_tt rfl ?_)
    | (refine DW.cond_ff rfl ?_)
    | (refine DW.cond rfl ?_ ?_ <;> intro hc <;> (try simp only [go_sem] at hc))
    | (refine g_split ?_ ?_ <;> intro hc <;> (try simp only [hc]) <;> (try simp only [go_sem] at hc)))
        refine ⟨⟨i + 1, hlt2⟩, ?_, Ent.to ?_ ?_⟩ <;> first | (show _ < _; (try simp only); omega) | (simp (disch := omega) only [wkT_cons, wkX_cons, wkT_nil, wkX_nil, get, Nat.reduceEqDiff, ↓reduceIte, ex_some, wk_self, wk_top, wk_nil, wkB_self, and_self, dI, i64_in, and_true, true_and, Int.natCast_add, Int.natCast_one, Int.ofNat_zero, Int.natCast_zero,  ho2])
    · subst he2
      have hB := bN_all hl hlt
      have hBl := bN_len s l.length
      have hse := some_eq (l := l) (k := k) (s := s) (by omega)
      rw [← hB] at hse
      rw [← hse, nL_length] at hnx
      have hle := reLess true false (nL (bN s l.length)) best (by rw [nL_length]; omega) (by omega)
      have hok : ∀ x ∈ pickL l (bN s l.length), x.ok := fun x hx => by
        obtain ⟨e, _, rfl⟩ := List.mem_map.1 hx
        exact pk_ok h e
      have hpl : (pickL l (bN s l.length)).length = (bN s l.length).length := by rw [pickL, List.length_map]
      have ho1 := ho (pickL l (bN s l.length)) hok (by omega)
      have hon := or_none (l := pickL l (bN s l.length)) (k := k) (by omega)
      have hos := or_some' (l := pickL l (bN s l.length)) (k := k) (by omega)
      generalize pickL l (bN s l.length) = S at *
      generalize bN s l.length = B at *
      cases c1 : decide ((B.length : Int) < best.length) with
      | true =>
        rw [c1, Bool.true_or, if_pos rfl] at hnx
        repeat' (first
    | (with_reducible first | refine DW.seq ?_ | refine DW.block ?_ | refine DW.skip ?_ | refine DW.exit ?_ | refine DW.ret ?_ | refine DW.reg ?_)
    | (refine DW.ord rfl (WF.of (by first | rfl | simp (disch := omega) only [go_sem, Nat.reduceLT, Nat.reduceLeDiff, Nat.reduceAdd, Nat.reduceMul, Nat.reduceEqDiff, ↓reduceIte, reduceCtorEq, Nat.reduceBEq, Nat.reduceBNe, Nat.reducePow, Int.reduceLE, Int.reduceLT, Int.reduceNeg, Int.reduceToNat, Int.reduceEq, Int.reduceAdd, Int.reduceSub, Int.reduceMul, Int.reduceBEq, Int.reduceBNe, bm_box, bm_row, bk_box, bk_row, hd2, c1])) ?_ ?_ ?_; rotate_left)
    | rfl
    | (with_reducible refine And.intro ?_ ?_)
    | (simp (disch := omega) only [go_sem, Nat.reduceLT, Nat.reduceLeDiff, Nat.reduceAdd, Nat.reduceMul, Nat.reduceEqDiff, ↓reduceIte, reduceCtorEq, Nat.reduceBEq, Nat.reduceBNe, Nat.reducePow, Int.reduceLE, Int.reduceLT, Int.reduceNeg, Int.reduceToNat, Int.reduceEq, Int.reduceAdd, Int.reduceSub, Int.reduceMul, Int.reduceBEq, Int.reduceBNe, bm_box, bm_row, bk_box, bk_row, hd2, c1])
    | (exact retS_of rfl rfl rfl)
    | (refine DW.cond_tt rfl ?_)
    | (refine DW.cond_ff rfl ?_)
    | (refine DW.cond rfl ?_ ?_ <;> intro hc <;> (try simp only [go_sem] at hc))
    | (refine g_split ?_ ?_ <;> intro hc <;> (try simp only [hc]) <;> (try simp only [go_sem] at hc)))
        refine ⟨⟨s + 1, hlt⟩, by (show _ < _; (try simp only); omega), (Ent.rel 23 rfl).trans ?_⟩; simp (disch := omega) only [go_sem, Nat.reduceLT, Nat.reduceLeDiff, Nat.reduceAdd, Nat.reduceMul, Nat.reduceEqDiff, ↓reduceIte, reduceCtorEq, Nat.reduceBEq, Nat.reduceBNe, Nat.reducePow, Int.reduceLE, Int.reduceLT, Int.reduceNeg, Int.reduceToNat, Int.reduceEq, Int.reduceAdd, Int.reduceSub, Int.reduceMul, Int.reduceBEq, Int.reduceBNe, bm_box, bm_row, bk_box, bk_row,  hnx]; refine Ent.to ?_ ?_ <;> (simp (disch := omega) only [wkT_cons, wkX_cons, wkT_nil, wkX_nil, get, Nat.reduceEqDiff, ↓reduceIte, ex_some, wk_self, wk_top, wk_nil, wkB_self, and_self, dI, i64_in, and_true, true_and, Int.natCast_add, Int.natCast_one, Int.ofNat_zero, Int.natCast_zero,  hnx])
      | false =>
        rw [c1, Bool.false_or] at hnx
        have go : ∀ (hgo : (((B.length : Int) == best.length) && !lessB (nL B) best) = false), (if stI S k (fullS S) then nL B else best) = mostP l k (s + 1) := fun hgo => by
          rw [hgo, if_neg (by decide)] at hnx; exact hnx.symm
        cases c2 : ((B.length : Int) == best.length) with
        | true =>
          cases c3 : lessB (nL B) best with
          | false =>
            rw [c2, c3, Bool.not_false, Bool.true_and, if_pos rfl] at hnx
            rw [c3] at hle
            repeat' (first
    | (with_reducible first | refine DW.seq ?_ | refine DW.block ?_ | refine DW.skip ?_ | refine DW.exit ?_ | refine DW.ret ?_ | refine DW.reg ?_)
    | (refine DW.ord rfl (WF.of (by first | rfl | simp (disch := omega) only [go_sem, Nat.reduceLT, Nat.reduceLeDiff, Nat.reduceAdd, Nat.reduceMul, Nat.reduceEqDiff, ↓reduceIte, reduceCtorEq, Nat.reduceBEq, Nat.reduceBNe, Nat.reducePow, Int.reduceLE, Int.reduceLT, Int.reduceNeg, Int.reduceToNat, Int.reduceEq, Int.reduceAdd, Int.reduceSub, Int.reduceMul, Int.reduceBEq, Int.reduceBNe, bm_box, bm_row, bk_box, bk_row, hd2, c1, c2])) ?_ ?_ ?_; rotate_left)
    | rfl
    | (with_reducible refine And.intro ?_ ?_)
    | (simp (disch := omega) only [go_sem, Nat.reduceLT, Nat.reduceLeDiff, Nat.reduceAdd, Nat.reduceMul, Nat.reduceEqDiff, ↓reduceIte, reduceCtorEq, Nat.reduceBEq, Nat.reduceBNe, Nat.reducePow, Int.reduceLE, Int.reduceLT, Int.reduceNeg, Int.reduceToNat, Int.reduceEq, Int.reduceAdd, Int.reduceSub, Int.reduceMul, Int.reduceBEq, Int.reduceBNe, bm_box, bm_row, bk_box, bk_row, hd2, c1, c2])
    | (exact retS_of rfl rfl rfl)
    | (refine DW.cond_tt rfl ?_)
    | (refine call_c (hle) (by decide) ?_)
    | (refine DW.cond_ff rfl ?_)
    | (refine DW.cond rfl ?_ ?_ <;> intro hc <;> (try simp only [go_sem] at hc))
    | (refine g_split ?_ ?_ <;> intro hc <;> (try simp only [hc]) <;> (try simp only [go_sem] at hc)))
            refine ⟨⟨s + 1, hlt⟩, by (show _ < _; (try simp only); omega), (Ent.rel 23 rfl).trans ?_⟩; simp (disch := omega) only [go_sem, Nat.reduceLT, Nat.reduceLeDiff, Nat.reduceAdd, Nat.reduceMul, Nat.reduceEqDiff, ↓reduceIte, reduceCtorEq, Nat.reduceBEq, Nat.reduceBNe, Nat.reducePow, Int.reduceLE, Int.reduceLT, Int.reduceNeg, Int.reduceToNat, Int.reduceEq, Int.reduceAdd, Int.reduceSub, Int.reduceMul, Int.reduceBEq, Int.reduceBNe, bm_box, bm_row, bk_box, bk_row,  hnx]; refine Ent.to ?_ ?_ <;> (simp (disch := omega) only [wkT_cons, wkX_cons, wkT_nil, wkX_nil, get, Nat.reduceEqDiff, ↓reduceIte, ex_some, wk_self, wk_top, wk_nil, wkB_self, and_self, dI, i64_in, and_true, true_and, Int.natCast_add, Int.natCast_one, Int.ofNat_zero, Int.natCast_zero,  hnx])
          | true =>
            rw [c3] at hle
            have hne : S ≠ [] := by
              rintro rfl
              obtain rfl : B = [] := List.eq_nil_of_length_eq_zero (by simpa using hpl.symm)
              cases best with
              | nil => cases c3
              | cons _ _ => simp at c2; omega
            have ho2 := ho1 hne
            have hg := (go (by rw [c2, c3]; rfl)).symm
            cases hst : stI S k (fullS S) with
            | true =>
              obtain ⟨o, ho3, _⟩ := hos hst
              rw [hst, if_pos rfl] at hg
              rw [orD, ho3] at ho2; dsimp only at ho2; rw [hpl] at ho2
              repeat' (first
    | (with_reducible first | refine DW.seq ?_ | refine DW.block ?_ | refine DW.skip ?_ | refine DW.exit ?_ | refine DW.ret ?_ | refine DW.reg ?_)
    | (refine DW.ord rfl (WF.of (by first | rfl | simp (disch := omega) only [go_sem, Nat.reduceLT, Nat.reduceLeDiff, Nat.reduceAdd, Nat.reduceMul, Nat.reduceEqDiff, ↓reduceIte, reduceCtorEq, Nat.reduceBEq, Nat.reduceBNe, Nat.reducePow, Int.reduceLE, Int.reduceLT, Int.reduceNeg, Int.reduceToNat, Int.reduceEq, Int.reduceAdd, Int.reduceSub, Int.reduceMul, Int.reduceBEq, Int.reduceBNe, bm_box, bm_row, bk_box, bk_row, hd2, c1, c2])) ?_ ?_ ?_; rotate_left)
    | rfl
    | (with_reducible refine And.intro ?_ ?_)
    | (simp (disch := omega) only [go_sem, Nat.reduceLT, Nat.reduceLeDiff, Nat.reduceAdd, Nat.reduceMul, Nat.reduceEqDiff, ↓reduceIte, reduceCtorEq, Nat.reduceBEq, Nat.reduceBNe, Nat.reducePow, Int.reduceLE, Int.reduceLT, Int.reduceNeg, Int.reduceToNat, Int.reduceEq, Int.reduceAdd, Int.reduceSub, Int.reduceMul, Int.reduceBEq, Int.reduceBNe, bm_box, bm_row, bk_box, bk_row, hd2, c1, c2])
    | (exact retS_of rfl rfl rfl)
    | (refine DW.cond_tt rfl ?_)
    | (refine call_c (hle) (by decide) ?_)
    | (refine DW.cond_ff rfl ?_)
    | (refine DW.cond rfl ?_ ?_ <;> intro hc <;> (try simp only [go_sem] at hc))
    | (refine g_split ?_ ?_ <;> intro hc <;> (try simp only [hc]) <;> (try simp only [go_sem] at hc)))
              refine call_l 72 ho2 (by simp (disch := omega) only [go_sem, Nat.reduceLT, Nat.reduceLeDiff, Nat.reduceAdd, Nat.reduceMul, Nat.reduceEqDiff, ↓reduceIte, reduceCtorEq, Nat.reduceBEq, Nat.reduceBNe, Nat.reducePow, Int.reduceLE, Int.reduceLT, Int.reduceNeg, Int.reduceToNat, Int.reduceEq, Int.reduceAdd, Int.reduceSub, Int.reduceMul, Int.reduceBEq, Int.reduceBNe, bm_box, bm_row, bk_box, bk_row, hpl]) rfl (by simp (disch := omega) only [go_sem, Nat.reduceLT, Nat.reduceLeDiff, Nat.reduceAdd, Nat.reduceMul, Nat.reduceEqDiff, ↓reduceIte, reduceCtorEq, Nat.reduceBEq, Nat.reduceBNe, Nat.reducePow, Int.reduceLE, Int.reduceLT, Int.reduceNeg, Int.reduceToNat, Int.reduceEq, Int.reduceAdd, Int.reduceSub, Int.reduceMul, Int.reduceBEq, Int.reduceBNe, bm_box, bm_row, bk_box, bk_row, Option.some.injEq]) (by decide) ?_
              simp (disch := omega) only [go_sem, Nat.reduceLT, Nat.reduceLeDiff, Nat.reduceAdd, Nat.reduceMul, Nat.reduceEqDiff, ↓reduceIte, reduceCtorEq, Nat.reduceBEq, Nat.reduceBNe, Nat.reducePow, Int.reduceLE, Int.reduceLT, Int.reduceNeg, Int.reduceToNat, Int.reduceEq, Int.reduceAdd, Int.reduceSub, Int.reduceMul, Int.reduceBEq, Int.reduceBNe, bm_box, bm_row, bk_box, bk_row, del]
              repeat' (first
    | (with_reducible first | refine DW.seq ?_ | refine DW.block ?_ | refine DW.skip ?_ | refine DW.exit ?_ | refine DW.ret ?_ | refine DW.reg ?_)
    | (refine DW.ord rfl (WF.of (by first | rfl | simp (disch := omega) only [go_sem, Nat.reduceLT, Nat.reduceLeDiff, Nat.reduceAdd, Nat.reduceMul, Nat.reduceEqDiff, ↓reduceIte, reduceCtorEq, Nat.reduceBEq, Nat.reduceBNe, Nat.reducePow, Int.reduceLE, Int.reduceLT, Int.reduceNeg, Int.reduceToNat, Int.reduceEq, Int.reduceAdd, Int.reduceSub, Int.reduceMul, Int.reduceBEq, Int.reduceBNe, bm_box, bm_row, bk_box, bk_row, hd2, c1, c2])) ?_ ?_ ?_; rotate_left)
    | rfl
    | (with_reducible refine And.intro ?_ ?_)
    | (simp (disch := omega) only [go_sem, Nat.reduceLT, Nat.reduceLeDiff, Nat.reduceAdd, Nat.reduceMul, Nat.reduceEqDiff, ↓reduceIte, reduceCtorEq, Nat.reduceBEq, Nat.reduceBNe, Nat.reducePow, Int.reduceLE, Int.reduceLT, Int.reduceNeg, Int.reduceToNat, Int.reduceEq, Int.reduceAdd, Int.reduceSub, Int.reduceMul, Int.reduceBEq, Int.reduceBNe, bm_box, bm_row, bk_box, bk_row, hd2, c1, c2])
    | (exact retS_of rfl rfl rfl)
    | (refine DW.cond_tt rfl ?_)
    | (refine DW.cond_ff rfl ?_)
    | (refine DW.cond rfl ?_ ?_ <;> intro hc <;> (try simp only [go_sem] at hc))
    | (refine g_split ?_ ?_ <;> intro hc <;> (try simp only [hc]) <;> (try simp only [go_sem] at hc)))
              refine ⟨⟨s + 1, hlt⟩, by (show _ < _; (try simp only); omega), (Ent.rel 23 rfl).trans ?_⟩; simp (disch := omega) only [go_sem, Nat.reduceLT, Nat.reduceLeDiff, Nat.reduceAdd, Nat.reduceMul, Nat.reduceEqDiff, ↓reduceIte, reduceCtorEq, Nat.reduceBEq, Nat.reduceBNe, Nat.reducePow, Int.reduceLE, Int.reduceLT, Int.reduceNeg, Int.reduceToNat, Int.reduceEq, Int.reduceAdd, Int.reduceSub, Int.reduceMul, Int.reduceBEq, Int.reduceBNe, bm_box, bm_row, bk_box, bk_row,  hg]; refine Ent.to ?_ ?_ <;> (simp (disch := omega) only [wkT_cons, wkX_cons, wkT_nil, wkX_nil, get, Nat.reduceEqDiff, ↓reduceIte, ex_some, wk_self, wk_top, wk_nil, wkB_self, and_self, dI, i64_in, and_true, true_and, Int.natCast_add, Int.natCast_one, Int.ofNat_zero, Int.natCast_zero,  hg])
            | false =>
              have ho3 := hon hst
              rw [hst, if_neg (by decide)] at hg
              rw [orD, ho3] at ho2; dsimp only at ho2; rw [hpl] at ho2
              by_cases hS0 : B.length = 0
              · exact absurd (List.eq_nil_of_length_eq_zero (by omega)) hne
              rw [if_neg hS0] at ho2
              repeat' (first
    | (with_reducible first | refine DW.seq ?_ | refine DW.block ?_ | refine DW.skip ?_ | refine DW.exit ?_ | refine DW.ret ?_ | refine DW.reg ?_)
    | (refine DW.ord rfl (WF.of (by first | rfl | simp (disch := omega) only [go_sem, Nat.reduceLT, Nat.reduceLeDiff, Nat.reduceAdd, Nat.reduceMul, Nat.reduceEqDiff, ↓reduceIte, reduceCtorEq, Nat.reduceBEq, Nat.reduceBNe, Nat.reducePow, Int.reduceLE, Int.reduceLT, Int.reduceNeg, Int.reduceToNat, Int.reduceEq, Int.reduceAdd, Int.reduceSub, Int.reduceMul, Int.reduceBEq, Int.reduceBNe, bm_box, bm_row, bk_box, bk_row, hd2, c1, c2])) ?_ ?_ ?_; rotate_left)
    | rfl
    | (with_reducible refine And.intro ?_ ?_)
    | (simp (disch := omega) only [go_sem, Nat.reduceLT, Nat.reduceLeDiff, Nat.reduceAdd, Nat.reduceMul, Nat.reduceEqDiff, ↓reduceIte, reduceCtorEq, Nat.reduceBEq, Nat.reduceBNe, Nat.reducePow, Int.reduceLE, Int.reduceLT, Int.reduceNeg, Int.reduceToNat, Int.reduceEq, Int.reduceAdd, Int.reduceSub, Int.reduceMul, Int.reduceBEq, Int.reduceBNe, bm_box, bm_row, bk_box, bk_row, hd2, c1, c2])
    | (exact retS_of rfl rfl rfl)
    | (refine DW.cond_tt rfl ?_)
    | (refine call_c (hle) (by decide) ?_)
    | (refine DW.cond_ff rfl ?_)
    | (refine DW.cond rfl ?_ ?_ <;> intro hc <;> (try simp only [go_sem] at hc))
    | (refine g_split ?_ ?_ <;> intro hc <;> (try simp only [hc]) <;> (try simp only [go_sem] at hc)))
              refine call_l 72 ho2 (by simp (disch := omega) only [go_sem, Nat.reduceLT, Nat.reduceLeDiff, Nat.reduceAdd, Nat.reduceMul, Nat.reduceEqDiff, ↓reduceIte, reduceCtorEq, Nat.reduceBEq, Nat.reduceBNe, Nat.reducePow, Int.reduceLE, Int.reduceLT, Int.reduceNeg, Int.reduceToNat, Int.reduceEq, Int.reduceAdd, Int.reduceSub, Int.reduceMul, Int.reduceBEq, Int.reduceBNe, bm_box, bm_row, bk_box, bk_row, hpl]) rfl (by simp (disch := omega) only [go_sem, Nat.reduceLT, Nat.reduceLeDiff, Nat.reduceAdd, Nat.reduceMul, Nat.reduceEqDiff, ↓reduceIte, reduceCtorEq, Nat.reduceBEq, Nat.reduceBNe, Nat.reducePow, Int.reduceLE, Int.reduceLT, Int.reduceNeg, Int.reduceToNat, Int.reduceEq, Int.reduceAdd, Int.reduceSub, Int.reduceMul, Int.reduceBEq, Int.reduceBNe, bm_box, bm_row, bk_box, bk_row, Option.some.injEq]) (by decide) ?_
              simp (disch := omega) only [go_sem, Nat.reduceLT, Nat.reduceLeDiff, Nat.reduceAdd, Nat.reduceMul, Nat.reduceEqDiff, ↓reduceIte, reduceCtorEq, Nat.reduceBEq, Nat.reduceBNe, Nat.reducePow, Int.reduceLE, Int.reduceLT, Int.reduceNeg, Int.reduceToNat, Int.reduceEq, Int.reduceAdd, Int.reduceSub, Int.reduceMul, Int.reduceBEq, Int.reduceBNe, bm_box, bm_row, bk_box, bk_row, del]
              repeat' (first
    | (with_reducible first | refine DW.seq ?_ | refine DW.block ?_ | refine DW.skip ?_ | refine DW.exit ?_ | refine DW.ret ?_ | refine DW.reg ?_)
    | (refine DW.ord rfl (WF.of (by first | rfl | simp (disch := omega) only [go_sem, Nat.reduceLT, Nat.reduceLeDiff, Nat.reduceAdd, Nat.reduceMul, Nat.reduceEqDiff, ↓reduceIte, reduceCtorEq, Nat.reduceBEq, Nat.reduceBNe, Nat.reducePow, Int.reduceLE, Int.reduceLT, Int.reduceNeg, Int.reduceToNat, Int.reduceEq, Int.reduceAdd, Int.reduceSub, Int.reduceMul, Int.reduceBEq, Int.reduceBNe, bm_box, bm_row, bk_box, bk_row, hd2, c1, c2])) ?_ ?_ ?_; rotate_left)
    | rfl
    | (with_reducible refine And.intro ?_ ?_)
    | (simp (disch := omega) only [go_sem, Nat.reduceLT, Nat.reduceLeDiff, Nat.reduceAdd, Nat.reduceMul, Nat.reduceEqDiff, ↓reduceIte, reduceCtorEq, Nat.reduceBEq, Nat.reduceBNe, Nat.reducePow, Int.reduceLE, Int.reduceLT, Int.reduceNeg, Int.reduceToNat, Int.reduceEq, Int.reduceAdd, Int.reduceSub, Int.reduceMul, Int.reduceBEq, Int.reduceBNe, bm_box, bm_row, bk_box, bk_row, hd2, c1, c2])
    | (exact retS_of rfl rfl rfl)
    | (refine DW.cond_tt rfl ?_)
    | (refine DW.cond_ff rfl ?_)
    | (refine DW.cond rfl ?_ ?_ <;> intro hc <;> (try simp only [go_sem] at hc))
    | (refine g_split ?_ ?_ <;> intro hc <;> (try simp only [hc]) <;> (try simp only [go_sem] at hc)))
              refine ⟨⟨s + 1, hlt⟩, by (show _ < _; (try simp only); omega), (Ent.rel 23 rfl).trans ?_⟩; simp (disch := omega) only [go_sem, Nat.reduceLT, Nat.reduceLeDiff, Nat.reduceAdd, Nat.reduceMul, Nat.reduceEqDiff, ↓reduceIte, reduceCtorEq, Nat.reduceBEq, Nat.reduceBNe, Nat.reducePow, Int.reduceLE, Int.reduceLT, Int.reduceNeg, Int.reduceToNat, Int.reduceEq, Int.reduceAdd, Int.reduceSub, Int.reduceMul, Int.reduceBEq, Int.reduceBNe, bm_box, bm_row, bk_box, bk_row,  hg]; refine Ent.to ?_ ?_ <;> (simp (disch := omega) only [wkT_cons, wkX_cons, wkT_nil, wkX_nil, get, Nat.reduceEqDiff, ↓reduceIte, ex_some, wk_self, wk_top, wk_nil, wkB_self, and_self, dI, i64_in, and_true, true_and, Int.natCast_add, Int.natCast_one, Int.ofNat_zero, Int.natCast_zero,  hg])
        | false =>
          have hne : S ≠ [] := by
            rintro rfl
            obtain rfl : B = [] := List.eq_nil_of_length_eq_zero (by simpa using hpl.symm)
            cases best with
            | nil => cases c2
            | cons _ _ => simp at c1
          have ho2 := ho1 hne
          have hg := (go (by rw [c2]; rfl)).symm
          cases hst : stI S k (fullS S) with
          | true =>
            obtain ⟨o, ho3, _⟩ := hos hst
            rw [hst, if_pos rfl] at hg
            rw [orD, ho3] at ho2; dsimp only at ho2; rw [hpl] at ho2
            repeat' (first
    | (with_reducible first | refine DW.seq ?_ | refine DW.block ?_ | refine DW.skip ?_ | refine DW.exit ?_ | refine DW.ret ?_ | refine DW.reg ?_)
    | (refine DW.ord rfl (WF.of (by first | rfl | simp (disch := omega) only [go_sem, Nat.reduceLT, Nat.reduceLeDiff, Nat.reduceAdd, Nat.reduceMul, Nat.reduceEqDiff, ↓reduceIte, reduceCtorEq, Nat.reduceBEq, Nat.reduceBNe, Nat.reducePow, Int.reduceLE, Int.reduceLT, Int.reduceNeg, Int.reduceToNat, Int.reduceEq, Int.reduceAdd, Int.reduceSub, Int.reduceMul, Int.reduceBEq, Int.reduceBNe, bm_box, bm_row, bk_box, bk_row, hd2, c1, c2])) ?_ ?_ ?_; rotate_left)
    | rfl
    | (with_reducible refine And.intro ?_ ?_)
    | (simp (disch := omega) only [go_sem, Nat.reduceLT, Nat.reduceLeDiff, Nat.reduceAdd, Nat.reduceMul, Nat.reduceEqDiff, ↓reduceIte, reduceCtorEq, Nat.reduceBEq, Nat.reduceBNe, Nat.reducePow, Int.reduceLE, Int.reduceLT, Int.reduceNeg, Int.reduceToNat, Int.reduceEq, Int.reduceAdd, Int.reduceSub, Int.reduceMul, Int.reduceBEq, Int.reduceBNe, bm_box, bm_row, bk_box, bk_row, hd2, c1, c2])
    | (exact retS_of rfl rfl rfl)
    | (refine DW.cond_tt rfl ?_)
    | (refine DW.cond_ff rfl ?_)
    | (refine DW.cond rfl ?_ ?_ <;> intro hc <;> (try simp only [go_sem] at hc))
    | (refine g_split ?_ ?_ <;> intro hc <;> (try simp only [hc]) <;> (try simp only [go_sem] at hc)))
            refine call_l 72 ho2 (by simp (disch := omega) only [go_sem, Nat.reduceLT, Nat.reduceLeDiff, Nat.reduceAdd, Nat.reduceMul, Nat.reduceEqDiff, ↓reduceIte, reduceCtorEq, Nat.reduceBEq, Nat.reduceBNe, Nat.reducePow, Int.reduceLE, Int.reduceLT, Int.reduceNeg, Int.reduceToNat, Int.reduceEq, Int.reduceAdd, Int.reduceSub, Int.reduceMul, Int.reduceBEq, Int.reduceBNe, bm_box, bm_row, bk_box, bk_row, hpl]) rfl (by simp (disch := omega) only [go_sem, Nat.reduceLT, Nat.reduceLeDiff, Nat.reduceAdd, Nat.reduceMul, Nat.reduceEqDiff, ↓reduceIte, reduceCtorEq, Nat.reduceBEq, Nat.reduceBNe, Nat.reducePow, Int.reduceLE, Int.reduceLT, Int.reduceNeg, Int.reduceToNat, Int.reduceEq, Int.reduceAdd, Int.reduceSub, Int.reduceMul, Int.reduceBEq, Int.reduceBNe, bm_box, bm_row, bk_box, bk_row, Option.some.injEq]) (by decide) ?_
            simp (disch := omega) only [go_sem, Nat.reduceLT, Nat.reduceLeDiff, Nat.reduceAdd, Nat.reduceMul, Nat.reduceEqDiff, ↓reduceIte, reduceCtorEq, Nat.reduceBEq, Nat.reduceBNe, Nat.reducePow, Int.reduceLE, Int.reduceLT, Int.reduceNeg, Int.reduceToNat, Int.reduceEq, Int.reduceAdd, Int.reduceSub, Int.reduceMul, Int.reduceBEq, Int.reduceBNe, bm_box, bm_row, bk_box, bk_row, del]
            repeat' (first
    | (with_reducible first | refine DW.seq ?_ | refine DW.block ?_ | refine DW.skip ?_ | refine DW.exit ?_ | refine DW.ret ?_ | refine DW.reg ?_)
    | (refine DW.ord rfl (WF.of (by first | rfl | simp (disch := omega) only [go_sem, Nat.reduceLT, Nat.reduceLeDiff, Nat.reduceAdd, Nat.reduceMul, Nat.reduceEqDiff, ↓reduceIte, reduceCtorEq, Nat.reduceBEq, Nat.reduceBNe, Nat.reducePow, Int.reduceLE, Int.reduceLT, Int.reduceNeg, Int.reduceToNat, Int.reduceEq, Int.reduceAdd, Int.reduceSub, Int.reduceMul, Int.reduceBEq, Int.reduceBNe, bm_box, bm_row, bk_box, bk_row, hd2, c1, c2])) ?_ ?_ ?_; rotate_left)
    | rfl
    | (with_reducible refine And.intro ?_ ?_)
    | (simp (disch := omega) only [go_sem, Nat.reduceLT, Nat.reduceLeDiff, Nat.reduceAdd, Nat.reduceMul, Nat.reduceEqDiff, ↓reduceIte, reduceCtorEq, Nat.reduceBEq, Nat.reduceBNe, Nat.reducePow, Int.reduceLE, Int.reduceLT, Int.reduceNeg, Int.reduceToNat, Int.reduceEq, Int.reduceAdd, Int.reduceSub, Int.reduceMul, Int.reduceBEq, Int.reduceBNe, bm_box, bm_row, bk_box, bk_row, hd2, c1, c2])
    | (exact retS_of rfl rfl rfl)
    | (refine DW.cond_tt rfl ?_)
    | (refine DW.cond_ff rfl ?_)
    | (refine DW.cond rfl ?_ ?_ <;> intro hc <;> (try simp only [go_sem] at hc))
    | (refine g_split ?_ ?_ <;> intro hc <;> (try simp only [hc]) <;> (try simp only [go_sem] at hc)))
            refine ⟨⟨s + 1, hlt⟩, by (show _ < _; (try simp only); omega), (Ent.rel 23 rfl).trans ?_⟩; simp (disch := omega) only [go_sem, Nat.reduceLT, Nat.reduceLeDiff, Nat.reduceAdd, Nat.reduceMul, Nat.reduceEqDiff, ↓reduceIte, reduceCtorEq, Nat.reduceBEq, Nat.reduceBNe, Nat.reducePow, Int.reduceLE, Int.reduceLT, Int.reduceNeg, Int.reduceToNat, Int.reduceEq, Int.reduceAdd, Int.reduceSub, Int.reduceMul, Int.reduceBEq, Int.reduceBNe, bm_box, bm_row, bk_box, bk_row,  hg]; refine Ent.to ?_ ?_ <;> (simp (disch := omega) only [wkT_cons, wkX_cons, wkT_nil, wkX_nil, get, Nat.reduceEqDiff, ↓reduceIte, ex_some, wk_self, wk_top, wk_nil, wkB_self, and_self, dI, i64_in, and_true, true_and, Int.natCast_add, Int.natCast_one, Int.ofNat_zero, Int.natCast_zero,  hg])
          | false =>
            have ho3 := hon hst
            rw [hst, if_neg (by decide)] at hg
            rw [orD, ho3] at ho2; dsimp only at ho2; rw [hpl] at ho2
            by_cases hS0 : B.length = 0
            · exact absurd (List.eq_nil_of_length_eq_zero (by omega)) hne
            rw [if_neg hS0] at ho2
            repeat' (first
    | (with_reducible first | refine DW.seq ?_ | refine DW.block ?_ | refine DW.skip ?_ | refine DW.exit ?_ | refine DW.ret ?_ | refine DW.reg ?_)
    | (refine DW.ord rfl (WF.of (by first | rfl | simp (disch := omega) only [go_sem, Nat.reduceLT, Nat.reduceLeDiff, Nat.reduceAdd, Nat.reduceMul, Nat.reduceEqDiff, ↓reduceIte, reduceCtorEq, Nat.reduceBEq, Nat.reduceBNe, Nat.reducePow, Int.reduceLE, Int.reduceLT, Int.reduceNeg, Int.reduceToNat, Int.reduceEq, Int.reduceAdd, Int.reduceSub, Int.reduceMul, Int.reduceBEq, Int.reduceBNe, bm_box, bm_row, bk_box, bk_row, hd2, c1, c2])) ?_ ?_ ?_; rotate_left)
    | rfl
    | (with_reducible refine And.intro ?_ ?_)
    | (simp (disch := omega) only [go_sem, Nat.reduceLT, Nat.reduceLeDiff, Nat.reduceAdd, Nat.reduceMul, Nat.reduceEqDiff, ↓reduceIte, reduceCtorEq, Nat.reduceBEq, Nat.reduceBNe, Nat.reducePow, Int.reduceLE, Int.reduceLT, Int.reduceNeg, Int.reduceToNat, Int.reduceEq, Int.reduceAdd, Int.reduceSub, Int.reduceMul, Int.reduceBEq, Int.reduceBNe, bm_box, bm_row, bk_box, bk_row, hd2, c1, c2])
    | (exact retS_of rfl rfl rfl)
    | (refine DW.cond_tt rfl ?_)
    | (refine DW.cond_ff rfl ?_)
    | (refine DW.cond rfl ?_ ?_ <;> intro hc <;> (try simp only [go_sem] at hc))
    | (refine g_split ?_ ?_ <;> intro hc <;> (try simp only [hc]) <;> (try simp only [go_sem] at hc)))
            refine call_l 72 ho2 (by simp (disch := omega) only [go_sem, Nat.reduceLT, Nat.reduceLeDiff, Nat.reduceAdd, Nat.reduceMul, Nat.reduceEqDiff, ↓reduceIte, reduceCtorEq, Nat.reduceBEq, Nat.reduceBNe, Nat.reducePow, Int.reduceLE, Int.reduceLT, Int.reduceNeg, Int.reduceToNat, Int.reduceEq, Int.reduceAdd, Int.reduceSub, Int.reduceMul, Int.reduceBEq, Int.reduceBNe, bm_box, bm_row, bk_box, bk_row, hpl]) rfl (by simp (disch := omega) only [go_sem, Nat.reduceLT, Nat.reduceLeDiff, Nat.reduceAdd, Nat.reduceMul, Nat.reduceEqDiff, ↓reduceIte, reduceCtorEq, Nat.reduceBEq, Nat.reduceBNe, Nat.reducePow, Int.reduceLE, Int.reduceLT, Int.reduceNeg, Int.reduceToNat, Int.reduceEq, Int.reduceAdd, Int.reduceSub, Int.reduceMul, Int.reduceBEq, Int.reduceBNe, bm_box, bm_row, bk_box, bk_row, Option.some.injEq]) (by decide) ?_
            simp (disch := omega) only [go_sem, Nat.reduceLT, Nat.reduceLeDiff, Nat.reduceAdd, Nat.reduceMul, Nat.reduceEqDiff, ↓reduceIte, reduceCtorEq, Nat.reduceBEq, Nat.reduceBNe, Nat.reducePow, Int.reduceLE, Int.reduceLT, Int.reduceNeg, Int.reduceToNat, Int.reduceEq, Int.reduceAdd, Int.reduceSub, Int.reduceMul, Int.reduceBEq, Int.reduceBNe, bm_box, bm_row, bk_box, bk_row, del]
            repeat' (first
    | (with_reducible first | refine DW.seq ?_ | refine DW.block ?_ | refine DW.skip ?_ | refine DW.exit ?_ | refine DW.ret ?_ | refine DW.reg ?_)
    | (refine DW.ord rfl (WF.of (by first | rfl | simp (disch := omega) only [go_sem, Nat.reduceLT, Nat.reduceLeDiff, Nat.reduceAdd, Nat.reduceMul, Nat.reduceEqDiff, ↓reduceIte, reduceCtorEq, Nat.reduceBEq, Nat.reduceBNe, Nat.reducePow, Int.reduceLE, Int.reduceLT, Int.reduceNeg, Int.reduceToNat, Int.reduceEq, Int.reduceAdd, Int.reduceSub, Int.reduceMul, Int.reduceBEq, Int.reduceBNe, bm_box, bm_row, bk_box, bk_row, hd2, c1, c2])) ?_ ?_ ?_; rotate_left)
    | rfl
    | (with_reducible refine And.intro ?_ ?_)
    | (simp (disch := omega) only [go_sem, Nat.reduceLT, Nat.reduceLeDiff, Nat.reduceAdd, Nat.reduceMul, Nat.reduceEqDiff, ↓reduceIte, reduceCtorEq, Nat.reduceBEq, Nat.reduceBNe, Nat.reducePow, Int.reduceLE, Int.reduceLT, Int.reduceNeg, Int.reduceToNat, Int.reduceEq, Int.reduceAdd, Int.reduceSub, Int.reduceMul, Int.reduceBEq, Int.reduceBNe, bm_box, bm_row, bk_box, bk_row, hd2, c1, c2])
    | (exact retS_of rfl rfl rfl)
    | (refine DW.cond_tt rfl ?_)
    | (refine DW.cond_ff rfl ?_)
    | (refine DW.cond rfl ?_ ?_ <;> intro hc <;> (try simp only [go_sem] at hc))
    | (refine g_split ?_ ?_ <;> intro hc <;> (try simp only [hc]) <;> (try simp only [go_sem] at hc)))
            refine ⟨⟨s + 1, hlt⟩, by (show _ < _; (try simp only); omega), (Ent.rel 23 rfl).trans ?_⟩; simp (disch := omega) only [go_sem, Nat.reduceLT, Nat.reduceLeDiff, Nat.reduceAdd, Nat.reduceMul, Nat.reduceEqDiff, ↓reduceIte, reduceCtorEq, Nat.reduceBEq, Nat.reduceBNe, Nat.reducePow, Int.reduceLE, Int.reduceLT, Int.reduceNeg, Int.reduceToNat, Int.reduceEq, Int.reduceAdd, Int.reduceSub, Int.reduceMul, Int.reduceBEq, Int.reduceBNe, bm_box, bm_row, bk_box, bk_row,  hg]; refine Ent.to ?_ ?_ <;> (simp (disch := omega) only [wkT_cons, wkX_cons, wkT_nil, wkX_nil, get, Nat.reduceEqDiff, ↓reduceIte, ex_some, wk_self, wk_top, wk_nil, wkB_self, and_self, dI, i64_in, and_true, true_and, Int.natCast_add, Int.natCast_one, Int.ofNat_zero, Int.natCast_zero,  hg])
  · obtain rfl : s = 2 ^ l.length := by omega
    have hd : decide (((2 ^ l.length : Nat) : Int) < ((2 ^ l.length : Nat) : Int)) = false := by rw [decide_eq_false_iff_not]; omega
    have ee : mostP l k (2 ^ l.length) = mostI l k := rfl
    rw [ee]
    generalize mostI l k = best at *
    repeat' (first
    | (with_reducible first | refine DW.seq ?_ | refine DW.block ?_ | refine DW.skip ?_ | refine DW.exit ?_ | refine DW.ret ?_ | refine DW.reg ?_)
    | (refine DW.ord rfl (WF.of (by first | rfl | simp (disch := omega) only [go_sem, Nat.reduceLT, Nat.reduceLeDiff, Nat.reduceAdd, Nat.reduceMul, Nat.reduceEqDiff, ↓reduceIte, reduceCtorEq, Nat.reduceBEq, Nat.reduceBNe, Nat.reducePow, Int.reduceLE, Int.reduceLT, Int.reduceNeg, Int.reduceToNat, Int.reduceEq, Int.reduceAdd, Int.reduceSub, Int.reduceMul, Int.reduceBEq, Int.reduceBNe, bm_box, bm_row, bk_box, bk_row, ud3, hwn, hsh, hd])) ?_ ?_ ?_; rotate_left)
    | rfl
    | (with_reducible refine And.intro ?_ ?_)
    | (simp (disch := omega) only [go_sem, Nat.reduceLT, Nat.reduceLeDiff, Nat.reduceAdd, Nat.reduceMul, Nat.reduceEqDiff, ↓reduceIte, reduceCtorEq, Nat.reduceBEq, Nat.reduceBNe, Nat.reducePow, Int.reduceLE, Int.reduceLT, Int.reduceNeg, Int.reduceToNat, Int.reduceEq, Int.reduceAdd, Int.reduceSub, Int.reduceMul, Int.reduceBEq, Int.reduceBNe, bm_box, bm_row, bk_box, bk_row, ud3, hwn, hsh, hd])
    | (exact retS_of rfl rfl rfl)
    | (refine DW.cond_tt rfl ?_)
    | (refine DW.cond_ff rfl ?_)
    | (refine DW.cond rfl ?_ ?_ <;> intro hc <;> (try simp only [go_sem] at hc))
    | (refine g_split ?_ ?_ <;> intro hc <;> (try simp only [hc]) <;> (try simp only [go_sem] at hc)))
    refine retS_wk rfl ?_ (by simp only [Blk.nb, rowC_nb, D.nb, D.nbs, C.nb, C.nbs, C.nbss, rows_nb eI_nb, Bool.and_true, Bool.not_false, Bool.and_self, bD, dI, iD, rows_nb eK_nb, rows_nb eLd_nb]); exact .refl _
end Go.Dw.Seat
end
section
set_option linter.unusedSimpArgs false
set_option maxRecDepth 100000
namespace Go.Dw.Seat
open Go Go.Dw Go.Proofs Go.ChangeShapes Go.WideShapes Go.ChangeAt Go.RowKit Go.IntWalk
theorem tOwn : ownKnob Tryd.prog.godebug = none := by kernel_rfl
theorem tLaid : laidOutB Tryd.prog = true := by kernel_rfl
theorem u3 : Tryd.prog.underlying 3 = some (.int .i64) := by kernel_rfl
theorem u4 : Tryd.prog.underlying 4 = some .bool := by kernel_rfl
abbrev laid2 : List (String × DataW Unit) := [("math/bits.deBruijn32tab", YtmkkedldhafjfaaDoor.Rows.laid_math_bits_deBruijn32tab), ("math/bits.deBruijn64tab", YtmkkedldhafjfaaDoor.Rows.laid_math_bits_deBruijn64tab)]
theorem gTab64 : Tryd.prog.globalNamed "math/bits.deBruijn64tab" = some 1 := by kernel_rfl
theorem tTab64 : (Tryd.prog.globals[1]?).map (·.type) = some 187 := by kernel_rfl
theorem uTab64 : Tryd.prog.underlying 187 = some (.array 64 5) := by kernel_rfl
theorem cells5 : Tryd.prog.cellsOf 5 = 1 := by kernel_rfl
theorem und5 : Tryd.prog.underlying 5 = some (.int .u8) := by kernel_rfl
theorem door_met (os : Os) (args : Array Value) : laidMetH Tryd.prog laid2 ((World.doorLaid Tryd.prog 400 os).forCall (fun _ _ => 0) ⟨#[], args, []⟩).memory :=
  laidMetH_of_parts3 (fuel := 8) (laidMet_of_run' 8 (by kernel_rfl) (by kernel_rfl)) (by kernel_rfl) (by kernel_rfl)
theorem tabD : (YtmkkedldhafjfaaDoor.Rows.laid_math_bits_deBruijn64tab : DataW Unit) = .agg (tabI.map fun n => .lit (.int .u8 n)) := rfl
theorem laid_of {W : World} (h : laidMetH Tryd.prog laid2 W) : LaidA (fun _ => False) W := by
  rw [MakeChecks.laidMetH_plain _ _ _ (by kernel_rfl)] at h
  obtain ⟨ps, ⟨g0, t0, cs0, f0, p0, q0, hg0, ht0, hv0, hd0, ⟨g1, t1, cs1, f1, p1, q1, hg1, ht1, hv1, hd1, _, _⟩, _⟩, _, _⟩ := h
  obtain rfl := Option.some.inj (gTab64.symm.trans hg1)
  obtain rfl := Option.some.inj (tTab64.symm.trans ht1)
  obtain ⟨xs, m, rfl, hx, hlen, hn, hel⟩ := DataW.trod_array uTab64 hd1
  rw [tabD] at hx
  simp only [Prod.mk.injEq, DataW.agg.injEq] at hx
  have key : ∀ j v, tab64[j]? = some v → W.cell? ⟨1, j, none⟩ = some v ∧ v.oneCell' = true := by
    intro j v hj
    rw [tab_get, Option.map_eq_some_iff] at hj
    obtain ⟨n, hn', rfl⟩ := hj
    have hj64 : j < 64 := (List.getElem?_eq_some_iff.1 hn').1
    have h1 := hel j hj64
    rw [cells5, Nat.mul_one] at h1
    obtain ⟨y, hy⟩ : ∃ y, xs[j]? = some y := ⟨xs[j]'(by omega), by simp [hn, hj64]⟩
    rw [hy] at h1
    obtain ⟨k, e1, e2, _⟩ := DataW.trod_int und5 h1
    have e3 : (xs.map (·.1))[j]? = some y.1 := by rw [List.getElem?_map, hy]; rfl
    rw [← hx.1, List.getElem?_map, hn'] at e3
    simp only [Option.map_some, Option.some.injEq] at e3
    have hk : k = n := by rw [e2] at e3; simpa using e3.symm
    subst hk
    have e4 : cs1.toList[j]? = some (.int .u8 k) := take_one e1
    refine ⟨?_, rfl⟩
    rw [World.var?_cell hg1 hv1 j]
    simpa using e4
  intro p hp
  have hp' : p = (1, tab64) := by simpa [Lays.l] using hp
  subst hp'
  refine ⟨?_, fun h => h, key⟩
  have h0 := (key 0 _ rfl).1
  rcases Nat.lt_or_ge 1 W.heap.size with h | h
  · exact h
  · have : W.heap[1]? = none := by simpa using h
    simp [World.cell?, this] at h0
end Go.Dw.Seat
end
section
set_option linter.unusedSimpArgs false
set_option maxRecDepth 100000
namespace Go.Dw.Seat
open Go Go.Dw Go.Proofs Go.ChangeShapes Go.WideShapes Go.ChangeAt Go.RowKit
theorem u45 : structIs Tryd.prog 45 [(3, 0), (3, 1)] = true := by kernel_rfl
theorem u53 : Tryd.prog.underlying 53 = some (.slice 70) := by kernel_rfl
theorem u54 : Tryd.prog.underlying 54 = some (.slice 142) := by kernel_rfl
theorem u70 : structIs Tryd.prog 70 [(45, 0), (45, 2)] = true := by kernel_rfl
theorem u142 : structIs Tryd.prog 142 [(3, 0), (3, 1)] = true := by kernel_rfl
theorem cl3 : Tryd.prog.cellsOf 3 = 1 := by kernel_rfl
theorem cl45 : Tryd.prog.cellsOf 45 = 2 := by kernel_rfl
theorem cl70 : Tryd.prog.cellsOf 70 = 4 := by kernel_rfl
theorem cl142 : Tryd.prog.cellsOf 142 = 2 := by kernel_rfl
def e1 (k : IntKind) (n : Nat) : List C := [.v (.int k n)]
def AllLt (b : Nat) (l : List Nat) : Prop := ∀ x ∈ l, x < b
section
variable {H : Type} {enc : TypeId × Value → H} {w : World} {base : Nat} {spare : Nat → Bool} {held : Bool} {fuel : Nat} {cs : List Value} {x : DataW H × List MemPlace}
theorem rd_two {t : TypeId} (ht : structIs Tryd.prog t [(3, 0), (3, 1)] = true) (hc : Tryd.prog.cellsOf t = 2) (h : DataW.trod enc Tryd.prog w base spare held fuel t cs = some x) : ∃ a b : Int, cs = [.int .i64 a, .int .i64 b] := by
  obtain ⟨hl, m, hf⟩ := rd_struct ht h
  rw [hc] at hl
  obtain ⟨y0, h0⟩ := hf 0 3 0 rfl
  obtain ⟨y1, h1⟩ := hf 1 3 1 rfl
  rw [cl3] at h0 h1
  match cs, hl with
  | [a, b], _ =>
    obtain ⟨n0, e0, _⟩ := rd_int u3 h0
    obtain ⟨n1, e1, _⟩ := rd_int u3 h1
    simp at e0 e1
    subst e0; subst e1
    exact ⟨n0, n1, rfl⟩
theorem rd_Lod (h : DataW.trod enc Tryd.prog w base spare held fuel 70 cs = some x) : ∃ b : Lod, RepVs w A0 (eLd b) cs := by
  obtain ⟨hl, m, hf⟩ := rd_struct u70 h
  rw [cl70] at hl
  obtain ⟨y0, h0⟩ := hf 0 45 0 rfl
  obtain ⟨y1, h1⟩ := hf 1 45 2 rfl
  rw [cl45] at h0 h1
  match cs, hl with
  | [a, b, c, d], _ =>
    obtain ⟨n0, n1, e0⟩ := rd_two u45 cl45 h0
    obtain ⟨n2, n3, e1⟩ := rd_two u45 cl45 h1
    simp at e0 e1
    obtain ⟨rfl, rfl⟩ := e0
    obtain ⟨rfl, rfl⟩ := e1
    exact ⟨⟨n0, n1, n2, n3⟩, _, _, rfl, ⟨rfl, rfl⟩, _, _, rfl, ⟨rfl, rfl⟩, _, _, rfl, ⟨rfl, rfl⟩, _, _, rfl, ⟨rfl, rfl⟩, rfl⟩
theorem rd_Lods (h : DataW.trod enc Tryd.prog w base spare held fuel 53 cs = some x) : ∃ (l : List Lod) (v : Value), cs = [v] ∧ RepC w A0 (.sl false 4 (rows eLd l)) v ∧ l.length ≤ maxLen := by
  obtain ⟨l, v, e, hr, hm, _⟩ := rd_slice (f := eLd) u53 cl70 (by decide) (fun _ => rfl) (fun m cs x h => rd_Lod h) h
  exact ⟨l, v, e, hr, hm⟩
theorem rd_Tab (h : DataW.trod enc Tryd.prog w base spare held fuel 54 cs = some x) : ∃ (l : List (Int × Int)) (v : Value), cs = [v] ∧ RepC w A0 (.sl false 2 (rows eK l)) v ∧ l.length ≤ maxLen := by
  obtain ⟨l, v, e, hr, hm, _⟩ := rd_slice (f := eK) u54 cl142 (by decide) (fun _ => rfl) (fun m cs x h => by
    obtain ⟨a, b, e⟩ := rd_two u142 cl142 h
    subst e
    exact ⟨(a, b), _, _, rfl, ⟨rfl, rfl⟩, _, _, rfl, ⟨rfl, rfl⟩, rfl⟩) h
  exact ⟨l, v, e, hr, hm⟩
structure LotB where
  rule : List Nat
  off : Nat
  tests : List (List Nat)
structure LotB.ok (x : LotB) : Prop where
  rule : x.rule.length = 4 ∧ AllLt 256 x.rule
  off : x.off < 256
  tests : ∀ u ∈ x.tests, u.length = 2 ∧ AllLt 256 u
  len : x.tests.length ≤ maxLen
structure PileB where
  boxes : List (List Nat)
  steps : List (List Nat)
structure PileB.ok (x : PileB) : Prop where
  boxes : ∀ u ∈ x.boxes, u.length = 4 ∧ AllLt 256 u
  steps : ∀ u ∈ x.steps, u.length = 2 ∧ AllLt 256 u
  blen : x.boxes.length ≤ maxLen
  slen : x.steps.length ≤ maxLen
end
end Go.Dw.Seat
end
section
set_option linter.unusedSimpArgs false
set_option maxRecDepth 100000
namespace Go.Dw.Seat
open Go Go.Dw Go.Proofs Go.IntWalk
abbrev memI (K lm : Nat) (m : Memo) : Nat × Blk := (K, .pmap lm (mK .i64 m) (mD m))
attribute [go_sem] memI
end Go.Dw.Seat
end
section
set_option linter.unusedSimpArgs false
set_option maxRecDepth 100000
namespace Go.Dw.Seat
open Go Go.Dw Go.Proofs Go.IntWalk
theorem crOrderN (l : List Lod) (h : ∀ b ∈ l, b.ok) (hl : l.length ≤ 10) (t : List (Int × Int)) (days : Int) (ht : TabOk t days) (hst : stI l (lastI days t 0) (2 ^ l.length - 1) = false) :
    DCall Tryd.prog 45 [.c (.sl false 4 (rows eLd l)), .c (.sl false 2 (rows eK t)), dI days] [] (.tup [.c (.v (.slice none 0 0)), dI 9]) [] := by
  have h1 := crPiler l h hl t days ht
  have hk := lastI_b days t 0 (fun s hs => (ht.mem s hs).2) (by decide)
  have hsh := shl_u hl
  have hpw := pow_le10 hl
  have hp1 := Nat.one_le_two_pow (n := l.length)
  generalize lastI days t 0 = k at *
  have hw : IntKind.u64.wrap (((2 ^ l.length : Nat) : Int) - 1) = ((2 ^ l.length - 1 : Nat) : Int) := by rw [IntWalk.u64_in _ (by omega)]; omega
  refine DCall.of Tryd.func45 sf45 hb45 (Nat.le_of_ble_eq_true rfl) (okRes_nil fun _ => rfl) ?_; simp only [s45, Mv, Sg, Ld, Fa, Xt, Ix, Ln, Cl, Oo, Og, o45_0, o45_1, o45_2, o45_3, o45_4, o45_5, o45_6, o45_7, o45_8, o45_9, idxs, Nat.reduceAdd]
  repeat' (first
    | (with_reducible first | refine DW.seq ?_ | refine DW.block ?_ | refine DW.skip ?_ | refine DW.exit ?_ | refine DW.ret ?_ | refine DW.reg ?_)
    | (refine DW.ord rfl (WF.of (by first | rfl | simp (disch := omega) only [go_sem, Nat.reduceLT, Nat.reduceLeDiff, Nat.reduceAdd, Nat.reduceMul, Nat.reduceEqDiff, ↓reduceIte, reduceCtorEq, Nat.reduceBEq, Nat.reduceBNe, Nat.reducePow, Int.reduceLE, Int.reduceLT, Int.reduceNeg, Int.reduceToNat, Int.reduceEq, Int.reduceAdd, Int.reduceSub, Int.reduceMul, Int.reduceBEq, Int.reduceBNe, bm_box, bm_row, bk_box, bk_row, hsh, hw])) ?_ ?_ ?_; rotate_left)
    | rfl
    | (with_reducible refine And.intro ?_ ?_)
    | (simp (disch := omega) only [go_sem, Nat.reduceLT, Nat.reduceLeDiff, Nat.reduceAdd, Nat.reduceMul, Nat.reduceEqDiff, ↓reduceIte, reduceCtorEq, Nat.reduceBEq, Nat.reduceBNe, Nat.reducePow, Int.reduceLE, Int.reduceLT, Int.reduceNeg, Int.reduceToNat, Int.reduceEq, Int.reduceAdd, Int.reduceSub, Int.reduceMul, Int.reduceBEq, Int.reduceBNe, bm_box, bm_row, bk_box, bk_row, hsh, hw])
    | (exact retS_of rfl rfl rfl)
    | (refine DW.cond_tt rfl ?_)
    | (refine DW.cond_ff rfl ?_)
    | (refine DW.cond rfl ?_ ?_ <;> intro hc <;> (try simp only [go_sem] at hc))
    | (refine g_split ?_ ?_ <;> intro hc <;> (try simp only [hc]) <;> (try simp only [go_sem] at hc)))
  refine call_b h1 ⟨⟨trivial, rfl, rfl, rfl⟩, rfl, rfl, rfl⟩ (by decide) ?_
  simp only [St.addBs, St.putB, St.putO, St.put]
  simp (disch := omega) only [go_sem, Nat.reduceLT, Nat.reduceLeDiff, Nat.reduceAdd, Nat.reduceMul, Nat.reduceEqDiff, ↓reduceIte, reduceCtorEq, Nat.reduceBEq, Nat.reduceBNe, Nat.reducePow, Int.reduceLE, Int.reduceLT, Int.reduceNeg, Int.reduceToNat, Int.reduceEq, Int.reduceAdd, Int.reduceSub, Int.reduceMul, Int.reduceBEq, Int.reduceBNe, bm_box, bm_row, bk_box, bk_row]
  refine DW.pin 28 rfl rfl fun lm => ?_
  simp (disch := omega) only [go_sem, Nat.reduceLT, Nat.reduceLeDiff, Nat.reduceAdd, Nat.reduceMul, Nat.reduceEqDiff, ↓reduceIte, reduceCtorEq, Nat.reduceBEq, Nat.reduceBNe, Nat.reducePow, Int.reduceLE, Int.reduceLT, Int.reduceNeg, Int.reduceToNat, Int.reduceEq, Int.reduceAdd, Int.reduceSub, Int.reduceMul, Int.reduceBEq, Int.reduceBNe, bm_box, bm_row, bk_box, bk_row, pinT, pinX, pinD, pinDs, pinB, pinO]
  refine DW.ent (Ent.rel 30 rfl) ?_
  simp (disch := omega) only [go_sem, Nat.reduceLT, Nat.reduceLeDiff, Nat.reduceAdd, Nat.reduceMul, Nat.reduceEqDiff, ↓reduceIte, reduceCtorEq, Nat.reduceBEq, Nat.reduceBNe, Nat.reducePow, Int.reduceLE, Int.reduceLT, Int.reduceNeg, Int.reduceToNat, Int.reduceEq, Int.reduceAdd, Int.reduceSub, Int.reduceMul, Int.reduceBEq, Int.reduceBNe, bm_box, bm_row, bk_box, bk_row]
  obtain ⟨m0, hm0, hst0⟩ := crStandsI l h k hk lm (2 ^ l.length - 1) (by omega) (inB_of hl (by omega)) [] (fun _ _ h => by cases h)
  rw [hst] at hst0
  have hnil : memB lm [] = (28, Blk.pmap lm [] []) := rfl
  repeat' (first
    | (with_reducible first | refine DW.seq ?_ | refine DW.block ?_ | refine DW.skip ?_ | refine DW.exit ?_ | refine DW.ret ?_ | refine DW.reg ?_)
    | (refine DW.ord rfl (WF.of (by first | rfl | simp (disch := omega) only [go_sem, Nat.reduceLT, Nat.reduceLeDiff, Nat.reduceAdd, Nat.reduceMul, Nat.reduceEqDiff, ↓reduceIte, reduceCtorEq, Nat.reduceBEq, Nat.reduceBNe, Nat.reducePow, Int.reduceLE, Int.reduceLT, Int.reduceNeg, Int.reduceToNat, Int.reduceEq, Int.reduceAdd, Int.reduceSub, Int.reduceMul, Int.reduceBEq, Int.reduceBNe, bm_box, bm_row, bk_box, bk_row, hsh, hw])) ?_ ?_ ?_; rotate_left)
    | rfl
    | (with_reducible refine And.intro ?_ ?_)
    | (simp (disch := omega) only [go_sem, Nat.reduceLT, Nat.reduceLeDiff, Nat.reduceAdd, Nat.reduceMul, Nat.reduceEqDiff, ↓reduceIte, reduceCtorEq, Nat.reduceBEq, Nat.reduceBNe, Nat.reducePow, Int.reduceLE, Int.reduceLT, Int.reduceNeg, Int.reduceToNat, Int.reduceEq, Int.reduceAdd, Int.reduceSub, Int.reduceMul, Int.reduceBEq, Int.reduceBNe, bm_box, bm_row, bk_box, bk_row, hsh, hw])
    | (exact retS_of rfl rfl rfl)
    | (refine DW.cond_tt rfl ?_)
    | (refine DW.cond_ff rfl ?_)
    | (refine DW.cond rfl ?_ ?_ <;> intro hc <;> (try simp only [go_sem] at hc))
    | (refine g_split ?_ ?_ <;> intro hc <;> (try simp only [hc]) <;> (try simp only [go_sem] at hc)))
  refine call_h (h := [memB lm []]) (h' := [memB lm m0]) hst0 (Ent.refl _) rfl rfl rfl rfl (by decide) ?_
  simp (disch := omega) only [go_sem, Nat.reduceLT, Nat.reduceLeDiff, Nat.reduceAdd, Nat.reduceMul, Nat.reduceEqDiff, ↓reduceIte, reduceCtorEq, Nat.reduceBEq, Nat.reduceBNe, Nat.reducePow, Int.reduceLE, Int.reduceLT, Int.reduceNeg, Int.reduceToNat, Int.reduceEq, Int.reduceAdd, Int.reduceSub, Int.reduceMul, Int.reduceBEq, Int.reduceBNe, bm_box, bm_row, bk_box, bk_row]
  repeat' (first
    | (with_reducible first | refine DW.seq ?_ | refine DW.block ?_ | refine DW.skip ?_ | refine DW.exit ?_ | refine DW.ret ?_ | refine DW.reg ?_)
    | (refine DW.ord rfl (WF.of (by first | rfl | simp (disch := omega) only [go_sem, Nat.reduceLT, Nat.reduceLeDiff, Nat.reduceAdd, Nat.reduceMul, Nat.reduceEqDiff, ↓reduceIte, reduceCtorEq, Nat.reduceBEq, Nat.reduceBNe, Nat.reducePow, Int.reduceLE, Int.reduceLT, Int.reduceNeg, Int.reduceToNat, Int.reduceEq, Int.reduceAdd, Int.reduceSub, Int.reduceMul, Int.reduceBEq, Int.reduceBNe, bm_box, bm_row, bk_box, bk_row])) ?_ ?_ ?_; rotate_left)
    | rfl
    | (with_reducible refine And.intro ?_ ?_)
    | (simp (disch := omega) only [go_sem, Nat.reduceLT, Nat.reduceLeDiff, Nat.reduceAdd, Nat.reduceMul, Nat.reduceEqDiff, ↓reduceIte, reduceCtorEq, Nat.reduceBEq, Nat.reduceBNe, Nat.reducePow, Int.reduceLE, Int.reduceLT, Int.reduceNeg, Int.reduceToNat, Int.reduceEq, Int.reduceAdd, Int.reduceSub, Int.reduceMul, Int.reduceBEq, Int.reduceBNe, bm_box, bm_row, bk_box, bk_row])
    | (exact retS_of rfl rfl rfl)
    | (refine DW.cond_tt rfl ?_)
    | (refine DW.cond_ff rfl ?_)
    | (refine DW.cond rfl ?_ ?_ <;> intro hc <;> (try simp only [go_sem] at hc))
    | (refine g_split ?_ ?_ <;> intro hc <;> (try simp only [hc]) <;> (try simp only [go_sem] at hc)))
end Go.Dw.Seat
end
section
set_option linter.unusedSimpArgs false
set_option maxRecDepth 100000
namespace Go.Dw.Seat
open Go Go.Dw Go.Proofs Go.IntWalk
theorem crOrdE (b1 b2 : Bool) (l : List Lod) (t : List (Int × Int)) (days e : Int) (he : e ≠ 0) (h : DCall Tryd.prog 87 [.c (.sl b1 4 (rows eLd l)), .c (.sl b2 2 (rows eK t)), dI days] [] (.tup [.c (.v (.pointer none)), dI e]) []) :
    DCall Tryd.prog 45 [.c (.sl b1 4 (rows eLd l)), .c (.sl b2 2 (rows eK t)), dI days] [] (.tup [.c (.v (.slice none 0 0)), dI e]) [] := by
  have hd : (e != 0) = true := by simpa using he
  refine DCall.of Tryd.func45 sf45 hb45 (Nat.le_of_ble_eq_true rfl) (okRes_nil fun _ => rfl) ?_; simp only [s45, Mv, Sg, Ld, Fa, Xt, Ix, Ln, Cl, Oo, Og, o45_0, o45_1, o45_2, o45_3, o45_4, o45_5, o45_6, o45_7, o45_8, o45_9, idxs, Nat.reduceAdd]
  repeat' (first
    | (with_reducible first | refine DW.seq ?_ | refine DW.block ?_ | refine DW.skip ?_ | refine DW.exit ?_ | refine DW.ret ?_ | refine DW.reg ?_)
    | (refine DW.ord rfl (WF.of (by first | rfl | simp (disch := omega) only [go_sem, Nat.reduceLT, Nat.reduceLeDiff, Nat.reduceAdd, Nat.reduceMul, Nat.reduceEqDiff, ↓reduceIte, reduceCtorEq, Nat.reduceBEq, Nat.reduceBNe, Nat.reducePow, Int.reduceLE, Int.reduceLT, Int.reduceNeg, Int.reduceToNat, Int.reduceEq, Int.reduceAdd, Int.reduceSub, Int.reduceMul, Int.reduceBEq, Int.reduceBNe, bm_box, bm_row, bk_box, bk_row, hd])) ?_ ?_ ?_; rotate_left)
    | rfl
    | (with_reducible refine And.intro ?_ ?_)
    | (simp (disch := omega) only [go_sem, Nat.reduceLT, Nat.reduceLeDiff, Nat.reduceAdd, Nat.reduceMul, Nat.reduceEqDiff, ↓reduceIte, reduceCtorEq, Nat.reduceBEq, Nat.reduceBNe, Nat.reducePow, Int.reduceLE, Int.reduceLT, Int.reduceNeg, Int.reduceToNat, Int.reduceEq, Int.reduceAdd, Int.reduceSub, Int.reduceMul, Int.reduceBEq, Int.reduceBNe, bm_box, bm_row, bk_box, bk_row, hd])
    | (exact retS_of rfl rfl rfl)
    | (refine DW.cond_tt rfl ?_)
    | (refine call_c (h) (by decide) ?_)
    | (refine DW.cond_ff rfl ?_)
    | (refine DW.cond rfl ?_ ?_ <;> intro hc <;> (try simp only [go_sem] at hc))
    | (refine g_split ?_ ?_ <;> intro hc <;> (try simp only [hc]) <;> (try simp only [go_sem] at hc)))
theorem crMosE (b1 b2 : Bool) (l : List Lod) (t : List (Int × Int)) (days e : Int) (he : e ≠ 0) (h : DCall Tryd.prog 87 [.c (.sl b1 4 (rows eLd l)), .c (.sl b2 2 (rows eK t)), dI days] [] (.tup [.c (.v (.pointer none)), dI e]) []) :
    DCall Tryd.prog 46 [.c (.sl b1 4 (rows eLd l)), .c (.sl b2 2 (rows eK t)), dI days] [] (.tup [.c (.v (.slice none 0 0)), dI e]) [] := by
  have hd : (e != 0) = true := by simpa using he
  refine DCall.of Tryd.func46 sf46 hb46 (Nat.le_of_ble_eq_true rfl) (okRes_nil fun _ => rfl) ?_; simp only [s46, Mv, Sg, Ld, Fa, Xt, Ix, Ln, Cl, Oo, Og, idxs, Nat.reduceAdd]
  repeat' (first
    | (with_reducible first | refine DW.seq ?_ | refine DW.block ?_ | refine DW.skip ?_ | refine DW.exit ?_ | refine DW.ret ?_ | refine DW.reg ?_)
    | (simp (disch := omega) only [go_sem, Nat.reduceLT, Nat.reduceLeDiff, Nat.reduceAdd, Nat.reduceMul, Nat.reduceEqDiff, ↓reduceIte, reduceCtorEq, Nat.reduceBEq, Nat.reduceBNe, Nat.reducePow, Int.reduceLE, Int.reduceLT, Int.reduceNeg, Int.reduceToNat, Int.reduceEq, Int.reduceAdd, Int.reduceSub, Int.reduceMul, Int.reduceBEq, Int.reduceBNe, bm_box, bm_row, bk_box, bk_row, hd])
    | (exact retS_of rfl rfl rfl)
    | (refine DW.cond_tt rfl ?_)
    | (refine call_c (h) (by decide) ?_)
    | (refine DW.cond_ff rfl ?_)
    | (refine DW.cond rfl ?_ ?_ <;> intro hc <;> (try simp only [go_sem] at hc))
    | (refine g_split ?_ ?_ <;> intro hc <;> (try simp only [hc]) <;> (try simp only [go_sem] at hc)))
theorem reOrderNil (b1 b2 : Bool) (t : List (Int × Int)) (days : Int) (ht : TabOk t days) : DCall Tryd.prog 48 [.c (.sl b1 4 (rows eLd [])), .c (.sl b2 2 (rows eK t)), dI days, .c (.v (.slice none 0 0)), .c (.sl true 1 [])] [] (.tup [dIs false [], bD true]) [] := by
  have hst := reStands true b2 [] (fun _ h => by cases h) (by simp) t days ht
  rw [show (failN (lastI days t 0) []).isNone = true from rfl] at hst
  refine DCall.of Tryd.func48 sf48 hb48 (Nat.le_of_ble_eq_true rfl) (okRes_nil fun _ => rfl) ?_; simp only [s48, Mv, Sg, Ld, Fa, Xt, Ix, Ln, Cl, Oo, Og, idxs, Nat.reduceAdd]
  repeat' (first
    | (with_reducible first | refine DW.seq ?_ | refine DW.block ?_ | refine DW.skip ?_ | refine DW.exit ?_ | refine DW.ret ?_ | refine DW.reg ?_)
    | (simp (disch := omega) only [go_sem, Nat.reduceLT, Nat.reduceLeDiff, Nat.reduceAdd, Nat.reduceMul, Nat.reduceEqDiff, ↓reduceIte, reduceCtorEq, Nat.reduceBEq, Nat.reduceBNe, Nat.reducePow, Int.reduceLE, Int.reduceLT, Int.reduceNeg, Int.reduceToNat, Int.reduceEq, Int.reduceAdd, Int.reduceSub, Int.reduceMul, Int.reduceBEq, Int.reduceBNe, bm_box, bm_row, bk_box, bk_row, rows, List.map_nil])
    | (exact retS_of rfl rfl rfl)
    | (refine DW.cond_tt rfl ?_)
    | (refine DW.cond_ff rfl ?_)
    | (refine DW.cond rfl ?_ ?_ <;> intro hc <;> (try simp only [go_sem] at hc))
    | (refine g_split ?_ ?_ <;> intro hc <;> (try simp only [hc]) <;> (try simp only [go_sem] at hc)))
  refine DW.loop (ι := Unit) (fun _ => ⟨76, [(13, dI 0), (12, .own 22), (3, .c (.v (.slice none 0 0))), (2, dI days), (1, .c (.sl b2 2 (rows eK t))), (0, .c (.sl b1 4 []))], [(22, .row 4 (rowC []))]⟩) (fun _ => 0) () ?_ ?_
  · refine Ent.to ?_ ?_ <;> simp (disch := omega) only [wkT_cons, wkX_cons, wkT_nil, wkX_nil, get, Nat.reduceEqDiff, ↓reduceIte, ex_some, wk_self, wk_top, wk_nil, wkB_self, and_self, dI, i64_in, and_true, true_and, Int.natCast_add, Int.natCast_one, Int.ofNat_zero, Int.natCast_zero]
    all_goals first | exact ⟨.refl _, .refl _⟩ | exact .refl _
  rintro ⟨⟩
  repeat' (first
    | (with_reducible first | refine DW.seq ?_ | refine DW.block ?_ | refine DW.skip ?_ | refine DW.exit ?_ | refine DW.ret ?_ | refine DW.reg ?_)
    | (simp (disch := omega) only [go_sem, Nat.reduceLT, Nat.reduceLeDiff, Nat.reduceAdd, Nat.reduceMul, Nat.reduceEqDiff, ↓reduceIte, reduceCtorEq, Nat.reduceBEq, Nat.reduceBNe, Nat.reducePow, Int.reduceLE, Int.reduceLT, Int.reduceNeg, Int.reduceToNat, Int.reduceEq, Int.reduceAdd, Int.reduceSub, Int.reduceMul, Int.reduceBEq, Int.reduceBNe, bm_box, bm_row, bk_box, bk_row, rows, List.map_nil, rowC_nil])
    | (exact retS_of rfl rfl rfl)
    | (refine DW.cond_tt rfl ?_)
    | (refine call_c (hst) (by decide) ?_)
    | (refine DW.cond_ff rfl ?_)
    | (refine DW.cond rfl ?_ ?_ <;> intro hc <;> (try simp only [go_sem] at hc))
    | (refine g_split ?_ ?_ <;> intro hc <;> (try simp only [hc]) <;> (try simp only [go_sem] at hc)))
  refine retS_wk rfl ?_ (by simp only [List.all_cons, List.all_nil, Blk.nb, rowC_nb, D.nb, D.nbs, C.nb, C.nbs, C.nbss, rows_nb eI_nb, Bool.and_true, Bool.not_false, Bool.and_self, bD, dI, iD, rows_nb eK_nb, rows_nb eLd_nb])
  exact .tup (.cons (.nil _ _) (.cons (.refl _) .nil))
theorem reStackM (b : Bool) (l : List Lod) : DCall Tryd.prog 39 [.c (.sl b 4 (rows eLd l)), dI 10] [] (dI (boxesE l 10)) [] := by
  by_cases hl : l.length ≤ 2 ^ 36
  · exact reStack b l 10 hl
  · have hm : (10 : Int) < (l.length : Int) := by omega
    have hd : decide ((10 : Int) < (l.length : Int)) = true := decide_eq_true hm
    unfold boxesE
    rw [if_pos hm]
    refine DCall.of Tryd.func39 sf39 hb39 (Nat.le_of_ble_eq_true rfl) (okRes_nil fun _ => rfl) ?_; simp only [s39, Mv, Sg, Ld, Fa, Xt, Ix, Ln, Cl, Oo, Og, idxs, Nat.reduceAdd]
    repeat' (first
    | (with_reducible first | refine DW.seq ?_ | refine DW.block ?_ | refine DW.skip ?_ | refine DW.exit ?_ | refine DW.ret ?_ | refine DW.reg ?_)
    | (simp (disch := omega) only [go_sem, Nat.reduceLT, Nat.reduceLeDiff, Nat.reduceAdd, Nat.reduceMul, Nat.reduceEqDiff, ↓reduceIte, reduceCtorEq, Nat.reduceBEq, Nat.reduceBNe, Nat.reducePow, Int.reduceLE, Int.reduceLT, Int.reduceNeg, Int.reduceToNat, Int.reduceEq, Int.reduceAdd, Int.reduceSub, Int.reduceMul, Int.reduceBEq, Int.reduceBNe, bm_box, bm_row, bk_box, bk_row, hd])
    | (exact retS_of rfl rfl rfl)
    | (refine DW.cond_tt rfl ?_)
    | (refine DW.cond_ff rfl ?_)
    | (refine DW.cond rfl ?_ ?_ <;> intro hc <;> (try simp only [go_sem] at hc))
    | (refine g_split ?_ ?_ <;> intro hc <;> (try simp only [hc]) <;> (try simp only [go_sem] at hc)))
theorem reThroughM (b : Bool) (l : List (Int × Int)) (days : Int) : DCall Tryd.prog 41 [.c (.sl b 2 (rows eK l)), dI days] [] (dI (thrE l days)) [] := by
  by_cases hl : l.length ≤ 2 ^ 36
  · exact reThrough b l days hl
  · have i1 := reIn (l.length : Int) 1 10
    have e1 : inI (l.length : Int) 1 10 = false := by
      simp only [inI, Bool.and_eq_false_iff, decide_eq_false_iff_not]; omega
    rw [e1] at i1
    have h1 : DCall Tryd.prog 81 [.c (.sl b 2 (rows eK l))] [] (bD false) [] := by
      refine DCall.of Tryd.func81 sf81 hb81 (Nat.le_of_ble_eq_true rfl) (okRes_nil fun _ => rfl) ?_; simp only [s81, Mv, Sg, Ld, Fa, Xt, Ix, Ln, Cl, Oo, Og, idxs, Nat.reduceAdd]
      repeat' (first
    | (with_reducible first | refine DW.seq ?_ | refine DW.block ?_ | refine DW.skip ?_ | refine DW.exit ?_ | refine DW.ret ?_ | refine DW.reg ?_)
    | (refine DW.dreg rfl (WF.of ?_) ?_; first | rfl | skip)
    | (simp (disch := omega) only [go_sem, Nat.reduceLT, Nat.reduceLeDiff, Nat.reduceAdd, Nat.reduceMul, Nat.reduceEqDiff, ↓reduceIte, reduceCtorEq, Nat.reduceBEq, Nat.reduceBNe, Nat.reducePow, Int.reduceLE, Int.reduceLT, Int.reduceNeg, Int.reduceToNat, Int.reduceEq, Int.reduceAdd, Int.reduceSub, Int.reduceMul, Int.reduceBEq, Int.reduceBNe, bm_box, bm_row, bk_box, bk_row])
    | (exact retS_of rfl rfl rfl)
    | (refine DW.cond_tt rfl ?_)
    | (refine call_c (i1) (by decide) ?_)
    | (refine DW.cond_ff rfl ?_)
    | (refine DW.cond rfl ?_ ?_ <;> intro hc <;> (try simp only [go_sem] at hc))
    | (refine g_split ?_ ?_ <;> intro hc <;> (try simp only [hc]) <;> (try simp only [go_sem] at hc)))
    have hn : ¬ TabF l := fun h => by have := h.len; omega
    unfold thrE
    rw [if_neg hn]
    refine DCall.of Tryd.func41 sf41 hb41 (Nat.le_of_ble_eq_true rfl) (okRes_nil fun _ => rfl) ?_; simp only [s41, Mv, Sg, Ld, Fa, Xt, Ix, Ln, Cl, Oo, Og, idxs, Nat.reduceAdd]
    repeat' (first
    | (with_reducible first | refine DW.seq ?_ | refine DW.block ?_ | refine DW.skip ?_ | refine DW.exit ?_ | refine DW.ret ?_ | refine DW.reg ?_)
    | (simp (disch := omega) only [go_sem, Nat.reduceLT, Nat.reduceLeDiff, Nat.reduceAdd, Nat.reduceMul, Nat.reduceEqDiff, ↓reduceIte, reduceCtorEq, Nat.reduceBEq, Nat.reduceBNe, Nat.reducePow, Int.reduceLE, Int.reduceLT, Int.reduceNeg, Int.reduceToNat, Int.reduceEq, Int.reduceAdd, Int.reduceSub, Int.reduceMul, Int.reduceBEq, Int.reduceBNe, bm_box, bm_row, bk_box, bk_row])
    | (exact retS_of rfl rfl rfl)
    | (refine DW.cond_tt rfl ?_)
    | (refine call_c (h1) (by decide) ?_)
    | (refine DW.cond_ff rfl ?_)
    | (refine DW.cond rfl ?_ ?_ <;> intro hc <;> (try simp only [go_sem] at hc))
    | (refine g_split ?_ ?_ <;> intro hc <;> (try simp only [hc]) <;> (try simp only [go_sem] at hc)))
set_option maxHeartbeats 4000000 in
theorem laOrders (l : List Lod) (hml : l.length ≤ maxLen) (t : List (Int × Int)) (hmt : t.length ≤ maxLen) (days : Int) : DCall Tryd.prog 8 [.c (.sl false 4 (rows eLd l)), .c (.sl false 2 (rows eK t)), dI days] [] (bD true) [] := by
  have hk := laKnown
  have hsk := reStackM false l
  have hth := reThroughM false t days
  obtain ⟨w, hw⟩ : ∃ w, w = if boxesE l 10 = 0 then thrE t days else boxesE l 10 := ⟨_, rfl⟩
  by_cases h20 : (20 : Int) < (l.length : Int)
  · have d20 : decide ((20 : Int) < (l.length : Int)) = true := decide_eq_true h20
    by_cases hE : boxesE l 10 = 0
    · rw [hE] at hsk
      refine DCall.of Tryd.func8 sf8 hb8 (Nat.le_of_ble_eq_true rfl) (okRes_nil fun _ => rfl) ?_; simp only [s8, Mv, Sg, Ld, Fa, Xt, Ix, Ln, Cl, Oo, Og, idxs, Nat.reduceAdd]
      repeat' (first
    | (with_reducible first | refine DW.seq ?_ | refine DW.block ?_ | refine DW.skip ?_ | refine DW.exit ?_ | refine DW.ret ?_ | refine DW.reg ?_)
    | (simp (disch := omega) only [go_sem, Nat.reduceLT, Nat.reduceLeDiff, Nat.reduceAdd, Nat.reduceMul, Nat.reduceEqDiff, ↓reduceIte, reduceCtorEq, Nat.reduceBEq, Nat.reduceBNe, Nat.reducePow, Int.reduceLE, Int.reduceLT, Int.reduceNeg, Int.reduceToNat, Int.reduceEq, Int.reduceAdd, Int.reduceSub, Int.reduceMul, Int.reduceBEq, Int.reduceBNe, bm_box, bm_row, bk_box, bk_row, d20])
    | (exact retS_of rfl rfl rfl)
    | (refine DW.cond_tt rfl ?_)
    | (refine call_c (hk) (by decide) ?_)
    | (refine call_c (hsk) (by decide) ?_)
    | (refine call_c (hth) (by decide) ?_)
    | (refine DW.cond_ff rfl ?_)
    | (refine DW.cond rfl ?_ ?_ <;> intro hc <;> (try simp only [go_sem] at hc))
    | (refine g_split ?_ ?_ <;> intro hc <;> (try simp only [hc]) <;> (try simp only [go_sem] at hc)))
    · generalize boxesE l 10 = E at *
      have hEb : (E == 0) = false := by simpa using hE
      refine DCall.of Tryd.func8 sf8 hb8 (Nat.le_of_ble_eq_true rfl) (okRes_nil fun _ => rfl) ?_; simp only [s8, Mv, Sg, Ld, Fa, Xt, Ix, Ln, Cl, Oo, Og, idxs, Nat.reduceAdd]
      repeat' (first
    | (with_reducible first | refine DW.seq ?_ | refine DW.block ?_ | refine DW.skip ?_ | refine DW.exit ?_ | refine DW.ret ?_ | refine DW.reg ?_)
    | (simp (disch := omega) only [go_sem, Nat.reduceLT, Nat.reduceLeDiff, Nat.reduceAdd, Nat.reduceMul, Nat.reduceEqDiff, ↓reduceIte, reduceCtorEq, Nat.reduceBEq, Nat.reduceBNe, Nat.reducePow, Int.reduceLE, Int.reduceLT, Int.reduceNeg, Int.reduceToNat, Int.reduceEq, Int.reduceAdd, Int.reduceSub, Int.reduceMul, Int.reduceBEq, Int.reduceBNe, bm_box, bm_row, bk_box, bk_row, d20, hEb])
    | (exact retS_of rfl rfl rfl)
    | (refine DW.cond_tt rfl ?_)
    | (refine call_c (hk) (by decide) ?_)
    | (refine call_c (hsk) (by decide) ?_)
    | (refine DW.cond_ff rfl ?_)
    | (refine DW.cond rfl ?_ ?_ <;> intro hc <;> (try simp only [go_sem] at hc))
    | (refine g_split ?_ ?_ <;> intro hc <;> (try simp only [hc]) <;> (try simp only [go_sem] at hc)))
  have d20 : decide ((20 : Int) < (l.length : Int)) = false := decide_eq_false h20
  by_cases h15 : (15 : Int) < (t.length : Int)
  · have d15 : decide ((15 : Int) < (t.length : Int)) = true := decide_eq_true h15
    by_cases hE : boxesE l 10 = 0
    · rw [hE] at hsk
      refine DCall.of Tryd.func8 sf8 hb8 (Nat.le_of_ble_eq_true rfl) (okRes_nil fun _ => rfl) ?_; simp only [s8, Mv, Sg, Ld, Fa, Xt, Ix, Ln, Cl, Oo, Og, idxs, Nat.reduceAdd]
      repeat' (first
    | (with_reducible first | refine DW.seq ?_ | refine DW.block ?_ | refine DW.skip ?_ | refine DW.exit ?_ | refine DW.ret ?_ | refine DW.reg ?_)
    | (simp (disch := omega) only [go_sem, Nat.reduceLT, Nat.reduceLeDiff, Nat.reduceAdd, Nat.reduceMul, Nat.reduceEqDiff, ↓reduceIte, reduceCtorEq, Nat.reduceBEq, Nat.reduceBNe, Nat.reducePow, Int.reduceLE, Int.reduceLT, Int.reduceNeg, Int.reduceToNat, Int.reduceEq, Int.reduceAdd, Int.reduceSub, Int.reduceMul, Int.reduceBEq, Int.reduceBNe, bm_box, bm_row, bk_box, bk_row, d20, d15])
    | (exact retS_of rfl rfl rfl)
    | (refine DW.cond_tt rfl ?_)
    | (refine call_c (hk) (by decide) ?_)
    | (refine call_c (hsk) (by decide) ?_)
    | (refine call_c (hth) (by decide) ?_)
    | (refine DW.cond_ff rfl ?_)
    | (refine DW.cond rfl ?_ ?_ <;> intro hc <;> (try simp only [go_sem] at hc))
    | (refine g_split ?_ ?_ <;> intro hc <;> (try simp only [hc]) <;> (try simp only [go_sem] at hc)))
    · generalize boxesE l 10 = E at *
      have hEb : (E == 0) = false := by simpa using hE
      refine DCall.of Tryd.func8 sf8 hb8 (Nat.le_of_ble_eq_true rfl) (okRes_nil fun _ => rfl) ?_; simp only [s8, Mv, Sg, Ld, Fa, Xt, Ix, Ln, Cl, Oo, Og, idxs, Nat.reduceAdd]
      repeat' (first
    | (with_reducible first | refine DW.seq ?_ | refine DW.block ?_ | refine DW.skip ?_ | refine DW.exit ?_ | refine DW.ret ?_ | refine DW.reg ?_)
    | (simp (disch := omega) only [go_sem, Nat.reduceLT, Nat.reduceLeDiff, Nat.reduceAdd, Nat.reduceMul, Nat.reduceEqDiff, ↓reduceIte, reduceCtorEq, Nat.reduceBEq, Nat.reduceBNe, Nat.reducePow, Int.reduceLE, Int.reduceLT, Int.reduceNeg, Int.reduceToNat, Int.reduceEq, Int.reduceAdd, Int.reduceSub, Int.reduceMul, Int.reduceBEq, Int.reduceBNe, bm_box, bm_row, bk_box, bk_row, d20, d15, hEb])
    | (exact retS_of rfl rfl rfl)
    | (refine DW.cond_tt rfl ?_)
    | (refine call_c (hk) (by decide) ?_)
    | (refine call_c (hsk) (by decide) ?_)
    | (refine DW.cond_ff rfl ?_)
    | (refine DW.cond rfl ?_ ?_ <;> intro hc <;> (try simp only [go_sem] at hc))
    | (refine g_split ?_ ?_ <;> intro hc <;> (try simp only [hc]) <;> (try simp only [go_sem] at hc)))
  have d15 : decide ((15 : Int) < (t.length : Int)) = false := decide_eq_false h15
  have hl : l.length ≤ 2 ^ 36 := by omega
  have htl : t.length ≤ 2 ^ 36 := by omega
  have hbx := laBoxesC false l hl
  have hst := laStepsC false t htl
  have hsx := reStacks false false l hl
  have htb := reTables false false t htl
  by_cases hE : boxesE l 10 = 0
  case neg =>
    have hpi := crPilerE1 false false l hl t days hE
    have ho := crOrdE false false l t days _ hE hpi
    have hm := crMosE false false l t days _ hE hpi
    generalize boxesE l 10 = E at *
    have hEb : (E == 0) = false := by simpa using hE
    have hEn : (E != 0) = true := by simpa using hE
    refine DCall.of Tryd.func8 sf8 hb8 (Nat.le_of_ble_eq_true rfl) (okRes_nil fun _ => rfl) ?_; simp only [s8, Mv, Sg, Ld, Fa, Xt, Ix, Ln, Cl, Oo, Og, idxs, Nat.reduceAdd]
    repeat' (first
    | (with_reducible first | refine DW.seq ?_ | refine DW.block ?_ | refine DW.skip ?_ | refine DW.exit ?_ | refine DW.ret ?_ | refine DW.reg ?_)
    | (simp (disch := omega) only [go_sem, Nat.reduceLT, Nat.reduceLeDiff, Nat.reduceAdd, Nat.reduceMul, Nat.reduceEqDiff, ↓reduceIte, reduceCtorEq, Nat.reduceBEq, Nat.reduceBNe, Nat.reducePow, Int.reduceLE, Int.reduceLT, Int.reduceNeg, Int.reduceToNat, Int.reduceEq, Int.reduceAdd, Int.reduceSub, Int.reduceMul, Int.reduceBEq, Int.reduceBNe, bm_box, bm_row, bk_box, bk_row, d20, d15, hEb, hEn])
    | (exact retS_of rfl rfl rfl)
    | (refine DW.cond_tt rfl ?_)
    | (refine call_c (hk) (by decide) ?_)
    | (refine call_c (hsk) (by decide) ?_)
    | (refine call_c (hbx) (by decide) ?_)
    | (refine call_c (hst) (by decide) ?_)
    | (refine call_c (ho) (by decide) ?_)
    | (refine call_c (hm) (by decide) ?_)
    | (refine call_c (hsx) (by decide) ?_)
    | (refine call_c (htb) (by decide) ?_)
    | (refine DW.cond_ff rfl ?_)
    | (refine DW.cond rfl ?_ ?_ <;> intro hc <;> (try simp only [go_sem] at hc))
    | (refine g_split ?_ ?_ <;> intro hc <;> (try simp only [hc]) <;> (try simp only [go_sem] at hc)))
  obtain ⟨hlen, hok⟩ := boxesE_ok hE
  rw [hE] at hsk
  by_cases hT : thrE t days = 0
  case neg =>
    have hpi := crPilerE2 false false l hok (by omega) t days _ hT (crTableE false t days htl hT)
    have ho := crOrdE false false l t days _ hT hpi
    have hm := crMosE false false l t days _ hT hpi
    generalize thrE t days = E at *
    have hEb : (E == 0) = false := by simpa using hT
    have hEn : (E != 0) = true := by simpa using hT
    refine DCall.of Tryd.func8 sf8 hb8 (Nat.le_of_ble_eq_true rfl) (okRes_nil fun _ => rfl) ?_; simp only [s8, Mv, Sg, Ld, Fa, Xt, Ix, Ln, Cl, Oo, Og, idxs, Nat.reduceAdd]
    repeat' (first
    | (with_reducible first | refine DW.seq ?_ | refine DW.block ?_ | refine DW.skip ?_ | refine DW.exit ?_ | refine DW.ret ?_ | refine DW.reg ?_)
    | (simp (disch := omega) only [go_sem, Nat.reduceLT, Nat.reduceLeDiff, Nat.reduceAdd, Nat.reduceMul, Nat.reduceEqDiff, ↓reduceIte, reduceCtorEq, Nat.reduceBEq, Nat.reduceBNe, Nat.reducePow, Int.reduceLE, Int.reduceLT, Int.reduceNeg, Int.reduceToNat, Int.reduceEq, Int.reduceAdd, Int.reduceSub, Int.reduceMul, Int.reduceBEq, Int.reduceBNe, bm_box, bm_row, bk_box, bk_row, d20, d15, hEb, hEn])
    | (exact retS_of rfl rfl rfl)
    | (refine DW.cond_tt rfl ?_)
    | (refine call_c (hk) (by decide) ?_)
    | (refine call_c (hsk) (by decide) ?_)
    | (refine call_c (hth) (by decide) ?_)
    | (refine call_c (hbx) (by decide) ?_)
    | (refine call_c (hst) (by decide) ?_)
    | (refine call_c (ho) (by decide) ?_)
    | (refine call_c (hm) (by decide) ?_)
    | (refine call_c (hsx) (by decide) ?_)
    | (refine call_c (htb) (by decide) ?_)
    | (refine DW.cond_ff rfl ?_)
    | (refine DW.cond rfl ?_ ?_ <;> intro hc <;> (try simp only [go_sem] at hc))
    | (refine g_split ?_ ?_ <;> intro hc <;> (try simp only [hc]) <;> (try simp only [go_sem] at hc)))
  have hto := thrE_ok hT
  rw [hT] at hth
  by_cases h5 : (5 : Int) < (l.length : Int)
  · have d5 : decide ((5 : Int) < (l.length : Int)) = true := decide_eq_true h5
    refine DCall.of Tryd.func8 sf8 hb8 (Nat.le_of_ble_eq_true rfl) (okRes_nil fun _ => rfl) ?_; simp only [s8, Mv, Sg, Ld, Fa, Xt, Ix, Ln, Cl, Oo, Og, idxs, Nat.reduceAdd]
    repeat' (first
    | (with_reducible first | refine DW.seq ?_ | refine DW.block ?_ | refine DW.skip ?_ | refine DW.exit ?_ | refine DW.ret ?_ | refine DW.reg ?_)
    | (simp (disch := omega) only [go_sem, Nat.reduceLT, Nat.reduceLeDiff, Nat.reduceAdd, Nat.reduceMul, Nat.reduceEqDiff, ↓reduceIte, reduceCtorEq, Nat.reduceBEq, Nat.reduceBNe, Nat.reducePow, Int.reduceLE, Int.reduceLT, Int.reduceNeg, Int.reduceToNat, Int.reduceEq, Int.reduceAdd, Int.reduceSub, Int.reduceMul, Int.reduceBEq, Int.reduceBNe, bm_box, bm_row, bk_box, bk_row, d20, d15, d5])
    | (exact retS_of rfl rfl rfl)
    | (refine DW.cond_tt rfl ?_)
    | (refine call_c (hk) (by decide) ?_)
    | (refine call_c (hsk) (by decide) ?_)
    | (refine call_c (hth) (by decide) ?_)
    | (refine DW.cond_ff rfl ?_)
    | (refine DW.cond rfl ?_ ?_ <;> intro hc <;> (try simp only [go_sem] at hc))
    | (refine g_split ?_ ?_ <;> intro hc <;> (try simp only [hc]) <;> (try simp only [go_sem] at hc)))
  have d5 : decide ((5 : Int) < (l.length : Int)) = false := decide_eq_false h5
  have hm := crMost l hok (by omega) t days hto
  have hrm := reMost false false l hok (by omega) t days hto
  have hml2 : (mostI l (lastI days t 0)).length ≤ 10 := most_len l _ (List.range (2 ^ l.length)) [] (by simp)
  have hs1 := refSame false false (mostI l (lastI days t 0)) (mostI l (lastI days t 0)) (by omega) (by omega)
  rw [decide_eq_true rfl] at hs1
  by_cases hne : l = []
  · subst hne
    have ho := crOrder [] hok (by simp) t days hto rfl
    rw [show ordI [] (lastI days t 0) (2 ^ ([] : List Lod).length - 1) (2 ^ ([] : List Lod).length - 1) = [] from rfl] at ho
    have hro := reOrderNil false false t days hto
    have hs2 := refSame false false [] [] (by decide) (by decide)
    rw [decide_eq_true rfl] at hs2
    generalize mostI [] (lastI days t 0) = M at *
    refine DCall.of Tryd.func8 sf8 hb8 (Nat.le_of_ble_eq_true rfl) (okRes_nil fun _ => rfl) ?_; simp only [s8, Mv, Sg, Ld, Fa, Xt, Ix, Ln, Cl, Oo, Og, idxs, Nat.reduceAdd]
    repeat' (first
    | (with_reducible first | refine DW.seq ?_ | refine DW.block ?_ | refine DW.skip ?_ | refine DW.exit ?_ | refine DW.ret ?_ | refine DW.reg ?_)
    | (simp (disch := omega) only [go_sem, Nat.reduceLT, Nat.reduceLeDiff, Nat.reduceAdd, Nat.reduceMul, Nat.reduceEqDiff, ↓reduceIte, reduceCtorEq, Nat.reduceBEq, Nat.reduceBNe, Nat.reducePow, Int.reduceLE, Int.reduceLT, Int.reduceNeg, Int.reduceToNat, Int.reduceEq, Int.reduceAdd, Int.reduceSub, Int.reduceMul, Int.reduceBEq, Int.reduceBNe, bm_box, bm_row, bk_box, bk_row, d20, d15, d5, rows, List.map_nil, rowC_nil])
    | (exact retS_of rfl rfl rfl)
    | (refine DW.cond_tt rfl ?_)
    | (refine call_c (hk) (by decide) ?_)
    | (refine call_c (hsk) (by decide) ?_)
    | (refine call_c (hth) (by decide) ?_)
    | (refine call_c (hbx) (by decide) ?_)
    | (refine call_c (hst) (by decide) ?_)
    | (refine call_c (ho) (by decide) ?_)
    | (refine call_c (hm) (by decide) ?_)
    | (refine call_c (hsx) (by decide) ?_)
    | (refine call_c (htb) (by decide) ?_)
    | (refine call_c (hrm) (by decide) ?_)
    | (refine call_c (hs1) (by decide) ?_)
    | (refine call_c (hro) (by decide) ?_)
    | (refine call_c (hs2) (by decide) ?_)
    | (refine DW.cond_ff rfl ?_)
    | (refine DW.cond rfl ?_ ?_ <;> intro hc <;> (try simp only [go_sem] at hc))
    | (refine g_split ?_ ?_ <;> intro hc <;> (try simp only [hc]) <;> (try simp only [go_sem] at hc)))
  have hro := reOrderT l hok (by omega) hne false false t days hto 107
  have hl0 : ¬ l.length = 0 := fun e => hne (List.eq_nil_of_length_eq_zero e)
  have hno := fun h => crOrderN l hok (by omega) t days hto h
  have hyo := fun h => crOrder l hok (by omega) t days hto h
  have hon := or_none (l := l) (k := lastI days t 0) (by omega)
  have hos := or_some' (l := l) (k := lastI days t 0) (by omega)
  have hfull : (2 ^ l.length - 1) = fullS l := rfl
  rw [hfull] at hno hyo
  generalize mostI l (lastI days t 0) = M at *
  generalize lastI days t 0 = k at *
  cases hst1 : stI l k (fullS l) with
  | false =>
    have ho := hno hst1
    have ho3 := hon hst1
    rw [orD, ho3] at hro; dsimp only at hro; rw [if_neg hl0] at hro
    refine DCall.of Tryd.func8 sf8 hb8 (Nat.le_of_ble_eq_true rfl) (okRes_nil fun _ => rfl) ?_; simp only [s8, Mv, Sg, Ld, Fa, Xt, Ix, Ln, Cl, Oo, Og, idxs, Nat.reduceAdd]
    repeat' (first
    | (with_reducible first | refine DW.seq ?_ | refine DW.block ?_ | refine DW.skip ?_ | refine DW.exit ?_ | refine DW.ret ?_ | refine DW.reg ?_)
    | (simp (disch := omega) only [go_sem, Nat.reduceLT, Nat.reduceLeDiff, Nat.reduceAdd, Nat.reduceMul, Nat.reduceEqDiff, ↓reduceIte, reduceCtorEq, Nat.reduceBEq, Nat.reduceBNe, Nat.reducePow, Int.reduceLE, Int.reduceLT, Int.reduceNeg, Int.reduceToNat, Int.reduceEq, Int.reduceAdd, Int.reduceSub, Int.reduceMul, Int.reduceBEq, Int.reduceBNe, bm_box, bm_row, bk_box, bk_row, d20, d15, d5])
    | (exact retS_of rfl rfl rfl)
    | (refine DW.cond_tt rfl ?_)
    | (refine call_c (hk) (by decide) ?_)
    | (refine call_c (hsk) (by decide) ?_)
    | (refine call_c (hth) (by decide) ?_)
    | (refine call_c (hbx) (by decide) ?_)
    | (refine call_c (hst) (by decide) ?_)
    | (refine call_c (ho) (by decide) ?_)
    | (refine call_c (hm) (by decide) ?_)
    | (refine call_c (hsx) (by decide) ?_)
    | (refine call_c (htb) (by decide) ?_)
    | (refine call_c (hrm) (by decide) ?_)
    | (refine call_c (hs1) (by decide) ?_)
    | (refine DW.cond_ff rfl ?_)
    | (refine DW.cond rfl ?_ ?_ <;> intro hc <;> (try simp only [go_sem] at hc))
    | (refine g_split ?_ ?_ <;> intro hc <;> (try simp only [hc]) <;> (try simp only [go_sem] at hc)))
    refine call_l 107 hro (by simp (disch := omega) only [go_sem, Nat.reduceLT, Nat.reduceLeDiff, Nat.reduceAdd, Nat.reduceMul, Nat.reduceEqDiff, ↓reduceIte, reduceCtorEq, Nat.reduceBEq, Nat.reduceBNe, Nat.reducePow, Int.reduceLE, Int.reduceLT, Int.reduceNeg, Int.reduceToNat, Int.reduceEq, Int.reduceAdd, Int.reduceSub, Int.reduceMul, Int.reduceBEq, Int.reduceBNe, bm_box, bm_row, bk_box, bk_row]) rfl (by simp (disch := omega) only [go_sem, Nat.reduceLT, Nat.reduceLeDiff, Nat.reduceAdd, Nat.reduceMul, Nat.reduceEqDiff, ↓reduceIte, reduceCtorEq, Nat.reduceBEq, Nat.reduceBNe, Nat.reducePow, Int.reduceLE, Int.reduceLT, Int.reduceNeg, Int.reduceToNat, Int.reduceEq, Int.reduceAdd, Int.reduceSub, Int.reduceMul, Int.reduceBEq, Int.reduceBNe, bm_box, bm_row, bk_box, bk_row, Option.some.injEq]) (by decide) ?_
    simp (disch := omega) only [go_sem, Nat.reduceLT, Nat.reduceLeDiff, Nat.reduceAdd, Nat.reduceMul, Nat.reduceEqDiff, ↓reduceIte, reduceCtorEq, Nat.reduceBEq, Nat.reduceBNe, Nat.reducePow, Int.reduceLE, Int.reduceLT, Int.reduceNeg, Int.reduceToNat, Int.reduceEq, Int.reduceAdd, Int.reduceSub, Int.reduceMul, Int.reduceBEq, Int.reduceBNe, bm_box, bm_row, bk_box, bk_row, del]
    repeat' (first
    | (with_reducible first | refine DW.seq ?_ | refine DW.block ?_ | refine DW.skip ?_ | refine DW.exit ?_ | refine DW.ret ?_ | refine DW.reg ?_)
    | (simp (disch := omega) only [go_sem, Nat.reduceLT, Nat.reduceLeDiff, Nat.reduceAdd, Nat.reduceMul, Nat.reduceEqDiff, ↓reduceIte, reduceCtorEq, Nat.reduceBEq, Nat.reduceBNe, Nat.reducePow, Int.reduceLE, Int.reduceLT, Int.reduceNeg, Int.reduceToNat, Int.reduceEq, Int.reduceAdd, Int.reduceSub, Int.reduceMul, Int.reduceBEq, Int.reduceBNe, bm_box, bm_row, bk_box, bk_row])
    | (exact retS_of rfl rfl rfl)
    | (refine DW.cond_tt rfl ?_)
    | (refine call_c (hk) (by decide) ?_)
    | (refine DW.cond_ff rfl ?_)
    | (refine DW.cond rfl ?_ ?_ <;> intro hc <;> (try simp only [go_sem] at hc))
    | (refine g_split ?_ ?_ <;> intro hc <;> (try simp only [hc]) <;> (try simp only [go_sem] at hc)))
  | true =>
    have ho := hyo hst1
    obtain ⟨o, ho3, ho4⟩ := hos hst1
    rw [orD, ho3] at hro; dsimp only at hro
    rw [← ho4] at ho
    have hs2 := refSame false false (nL o) (nL o)
    refine DCall.of Tryd.func8 sf8 hb8 (Nat.le_of_ble_eq_true rfl) (okRes_nil fun _ => rfl) ?_; simp only [s8, Mv, Sg, Ld, Fa, Xt, Ix, Ln, Cl, Oo, Og, idxs, Nat.reduceAdd]
    repeat' (first
    | (with_reducible first | refine DW.seq ?_ | refine DW.block ?_ | refine DW.skip ?_ | refine DW.exit ?_ | refine DW.ret ?_ | refine DW.reg ?_)
    | (simp (disch := omega) only [go_sem, Nat.reduceLT, Nat.reduceLeDiff, Nat.reduceAdd, Nat.reduceMul, Nat.reduceEqDiff, ↓reduceIte, reduceCtorEq, Nat.reduceBEq, Nat.reduceBNe, Nat.reducePow, Int.reduceLE, Int.reduceLT, Int.reduceNeg, Int.reduceToNat, Int.reduceEq, Int.reduceAdd, Int.reduceSub, Int.reduceMul, Int.reduceBEq, Int.reduceBNe, bm_box, bm_row, bk_box, bk_row, d20, d15, d5])
    | (exact retS_of rfl rfl rfl)
    | (refine DW.cond_tt rfl ?_)
    | (refine call_c (hk) (by decide) ?_)
    | (refine call_c (hsk) (by decide) ?_)
    | (refine call_c (hth) (by decide) ?_)
    | (refine call_c (hbx) (by decide) ?_)
    | (refine call_c (hst) (by decide) ?_)
    | (refine call_c (ho) (by decide) ?_)
    | (refine call_c (hm) (by decide) ?_)
    | (refine call_c (hsx) (by decide) ?_)
    | (refine call_c (htb) (by decide) ?_)
    | (refine call_c (hrm) (by decide) ?_)
    | (refine call_c (hs1) (by decide) ?_)
    | (refine DW.cond_ff rfl ?_)
    | (refine DW.cond rfl ?_ ?_ <;> intro hc <;> (try simp only [go_sem] at hc))
    | (refine g_split ?_ ?_ <;> intro hc <;> (try simp only [hc]) <;> (try simp only [go_sem] at hc)))
    refine call_l 107 hro (by simp (disch := omega) only [go_sem, Nat.reduceLT, Nat.reduceLeDiff, Nat.reduceAdd, Nat.reduceMul, Nat.reduceEqDiff, ↓reduceIte, reduceCtorEq, Nat.reduceBEq, Nat.reduceBNe, Nat.reducePow, Int.reduceLE, Int.reduceLT, Int.reduceNeg, Int.reduceToNat, Int.reduceEq, Int.reduceAdd, Int.reduceSub, Int.reduceMul, Int.reduceBEq, Int.reduceBNe, bm_box, bm_row, bk_box, bk_row]) rfl (by simp (disch := omega) only [go_sem, Nat.reduceLT, Nat.reduceLeDiff, Nat.reduceAdd, Nat.reduceMul, Nat.reduceEqDiff, ↓reduceIte, reduceCtorEq, Nat.reduceBEq, Nat.reduceBNe, Nat.reducePow, Int.reduceLE, Int.reduceLT, Int.reduceNeg, Int.reduceToNat, Int.reduceEq, Int.reduceAdd, Int.reduceSub, Int.reduceMul, Int.reduceBEq, Int.reduceBNe, bm_box, bm_row, bk_box, bk_row, Option.some.injEq]) (by decide) ?_
    simp (disch := omega) only [go_sem, Nat.reduceLT, Nat.reduceLeDiff, Nat.reduceAdd, Nat.reduceMul, Nat.reduceEqDiff, ↓reduceIte, reduceCtorEq, Nat.reduceBEq, Nat.reduceBNe, Nat.reducePow, Int.reduceLE, Int.reduceLT, Int.reduceNeg, Int.reduceToNat, Int.reduceEq, Int.reduceAdd, Int.reduceSub, Int.reduceMul, Int.reduceBEq, Int.reduceBNe, bm_box, bm_row, bk_box, bk_row, del]
    have hol : (nL o).length ≤ 2 ^ 36 := by
      have h1 := orR_spec l k l.length [] List.nodup_nil (fun _ h => by cases h)
      rw [ho3] at h1
      have h2 := h1.1.len
      rw [nL_length, h2, List.length_nil]; omega
    have hs2 := hs2 hol hol
    rw [decide_eq_true rfl] at hs2
    repeat' (first
    | (with_reducible first | refine DW.seq ?_ | refine DW.block ?_ | refine DW.skip ?_ | refine DW.exit ?_ | refine DW.ret ?_ | refine DW.reg ?_)
    | (simp (disch := omega) only [go_sem, Nat.reduceLT, Nat.reduceLeDiff, Nat.reduceAdd, Nat.reduceMul, Nat.reduceEqDiff, ↓reduceIte, reduceCtorEq, Nat.reduceBEq, Nat.reduceBNe, Nat.reducePow, Int.reduceLE, Int.reduceLT, Int.reduceNeg, Int.reduceToNat, Int.reduceEq, Int.reduceAdd, Int.reduceSub, Int.reduceMul, Int.reduceBEq, Int.reduceBNe, bm_box, bm_row, bk_box, bk_row])
    | (exact retS_of rfl rfl rfl)
    | (refine DW.cond_tt rfl ?_)
    | (refine call_c (hk) (by decide) ?_)
    | (refine call_c (hs2) (by decide) ?_)
    | (refine DW.cond_ff rfl ?_)
    | (refine DW.cond rfl ?_ ?_ <;> intro hc <;> (try simp only [go_sem] at hc))
    | (refine g_split ?_ ?_ <;> intro hc <;> (try simp only [hc]) <;> (try simp only [go_sem] at hc)))
end Go.Dw.Seat
end
section
set_option linter.unusedSimpArgs false
set_option maxRecDepth 100000
namespace Go.Dw.Seat
open Go Go.Dw Go.Proofs Go.ChangeShapes Go.WideShapes Go.ChangeAt Go.RowKit
set_option maxHeartbeats 800000 in
theorem crushOrdersLifted (os : Os) (started : os.Started) (H : Type) (enc : TypeId × Value → H) :
    ReturnsInHanded {} Tryd.checked os 8 .any (fun w args => (YtmkkedldhafjfaaDoor.Rows.crushOrdersSpec.pre enc Tryd.prog Tryd.f8 [] false w args ∧ laidMetH Tryd.prog laid2 w) ∧ sizedMet enc Tryd.prog Tryd.f8 (OpenSpec.ofChange YtmkkedldhafjfaaDoor.Rows.crushOrdersSpec) false w args) (YtmkkedldhafjfaaDoor.Rows.crushOrdersSpec.post enc Tryd.prog Tryd.f8 false true false false) := by
  refine returnsInHanded_of_change_and (C := Tryd.checked) (X := fun w _ => laidMetH Tryd.prog laid2 w) (fun _ _ _ hh h => h.of_heap hh) tOwn started (by kernel_rfl) Tryd.func8
    (ChangeSpec.witness_shaped (enc := enc) (C := Tryd.checked) (os := os) (X := fun w _ => laidMetH Tryd.prog laid2 w) false (World.doorLaid Tryd.prog 400 os) #[.slice none 0 0, .slice none 0 0, .int .i64 0] 8 rfl (World.shaped_of_RefB (by kernel_rfl) (by kernel_rfl)) (by kernel_rfl) (by kernel_rfl) (by kernel_rfl) (door_met os _)) ?_
  intro W base args ds gs before hval0 hW _ _ hL _
  have hval : ∀ (j : Nat) t v, Tryd.f8.params[j]? = some t → args[j]? = some v → Value.okWide Tryd.prog W .any base t v := hval0
  have hW' : DataW.Whole enc Tryd.prog Tryd.f8.params.toList [] false W args.toList ds gs before := hW
  obtain ⟨p, q, hA, hV, rfl, hfz, hnd⟩ := hW
  have hA : DataW.TrodAll enc Tryd.prog W 0 (fun _ => true) true [53, 54, 3] args.toList ds p := hA
  obtain ⟨rfl, rfl⟩ := trodVars_none hV
  obtain ⟨v0, vs0, d0, ds0, p0, q0, hargs, rfl, rfl, h0, r0⟩ := trodAll_cons hA
  obtain ⟨v1, vs1, d1, ds1, p1, q1, rfl, rfl, rfl, h1, r1⟩ := trodAll_cons r0
  obtain ⟨v2, vs2, d2, ds2, p2, q2, rfl, rfl, rfl, h2, r2⟩ := trodAll_cons r1
  obtain ⟨rfl, rfl, rfl⟩ := trodAll_nil r2
  obtain rfl : args = #[v0, v1, v2] := by cases args; simp_all
  obtain ⟨a0, l0, k0, rfl⟩ := okWide_slice u53 (hval 0 53 v0 rfl rfl)
  obtain ⟨a1, l1, k1, rfl⟩ := okWide_slice u54 (hval 1 54 v1 rfl rfl)
  obtain ⟨s2, rfl⟩ := okWide_int u3 (hval 2 3 v2 rfl rfl)
  obtain ⟨fu0, h0⟩ := h0
  obtain ⟨fu1, h1⟩ := h1
  obtain ⟨s0, sv0, e0, hs0, hl0⟩ := rd_Lods h0
  have e0 : sv0 = Value.slice a0 l0 k0 := by simpa [Value.cells] using e0.symm
  subst e0
  obtain ⟨s1, sv1, e1, hs1, hl1⟩ := rd_Tab h1
  have e1 : sv1 = Value.slice a1 l1 k1 := by simpa [Value.cells] using e1.symm
  subst e1
  refine ((laOrders s0 hl0 s1 hl1 s2 ).calls (W := W) (vs := [.slice a0 l0 k0, .slice a1 l1 k1, .int .i64 s2]) (laid_of hL) (fun G => ?_)).mono ?_
  · exact ⟨_, _, rfl, hs0, _, _, rfl, hs1, _, _, rfl, ⟨rfl, rfl⟩, rfl⟩
  · rintro e W' ⟨v, rfl, ⟨G', A', hr⟩, hb⟩
    obtain ⟨rfl, _⟩ := hr
    exact ⟨_, rfl, post_true tLaid (by decide +kernel) hW' hb rfl rfl u4 rfl rfl rfl⟩
theorem crushOrdersHolds : YtmkkedldhafjfaaDoor.Rows.crushOrdersRow.holds YtmkkedldhafjfaaDoor.Tryd.pinned (OpenSpec.ofChange YtmkkedldhafjfaaDoor.Rows.crushOrdersSpec) :=
  OpenClaim.holds_of_wide 8 Tryd.f8 rfl rfl rfl rfl rfl rfl rfl ⟨rfl, rfl, rfl, rfl, rfl⟩ rfl rfl rfl rfl rfl (by kernel_rfl) Tryd.func8 (by kernel_rfl)
    (of_decide_eq_true (by kernel_rfl)) (by unfold Func.isWrapper; first | (rw [if_pos (by decide +kernel)]; kernel_rfl) | (rw [if_neg (by decide +kernel)]; exact ⟨rfl, rfl⟩))
    (fun os started H enc _ => crushOrdersLifted os started H enc)
theorem crushOrdersCard : Claim7.holds YtmkkedldhafjfaaDoor.Tryd.pinned (.plain (OpenSpec.ofChange YtmkkedldhafjfaaDoor.Rows.crushOrdersSpec)) YtmkkedldhafjfaaDoor.Rows.crushOrdersCard :=
  Claim7.holds_tied_plain_at .later [] [.data, .data] true YtmkkedldhafjfaaDoor.Rows.crushOrdersCard.stood.harness false
    crushOrdersHolds (fun _ h => by cases h) (by kernel_rfl) (fun _ h => by cases h) YtmkkedldhafjfaaDoor.crushOrders_row_tie rfl ⟨rfl, rfl⟩ (by kernel_rfl) rfl
    (fun f fn hf hfn => by
      obtain rfl : f = 8 := Option.some.inj ((show Tryd.prog.funcNamed YtmkkedldhafjfaaDoor.Rows.crushOrdersRow.func = some 8 by kernel_rfl).symm.trans hf) |>.symm
      obtain rfl : fn = Tryd.f8 := (Option.some.inj (Tryd.func8.symm.trans hfn)).symm
      refine ⟨by kernel_rfl, fun j t ht => ?_⟩
      have hm : t ∈ Tryd.f8.params.toList := by simpa using Array.mem_of_getElem? ht
      have hall : (Tryd.f8.params.toList.all fun u => !Tryd.prog.wantsStandIn u) = true := by kernel_rfl
      exact (show Tryd.prog.wantsStandIn t = false by simpa using List.all_eq_true.1 hall t hm))
    (by kernel_rfl)
end Go.Dw.Seat
namespace Go.Proofs.YtmkkedldhafjfaaDoor
theorem crushOrdersCardSaid : Rows.CrushOrdersCardSaid := Go.Dw.Seat.crushOrdersCard
end Go.Proofs.YtmkkedldhafjfaaDoor
end
