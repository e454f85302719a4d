/- Helpers of a proof. -/
import Derived.Test.YtmkkedldhafjfaaDoorL01
set_option linter.unusedVariables false
set_option linter.unusedSimpArgs false
section
set_option linter.unusedSimpArgs false
set_option maxRecDepth 100000
namespace Go.Dw.Seat
open Go Go.Dw Go.Proofs Go.IntWalk
def fallR (l : List Lod) (days : Int) (t : List (Int × Int)) : Int × Int × Int := match fallT l days t with
  | some (d, i) => (d, (i : Int), 0)
  | none => (0, 0, 7)
set_option maxHeartbeats 1000000 in
theorem crFall (l : List Lod) (h : ∀ b ∈ l, b.ok) (hl : l.length ≤ 50) (t : List (Int × Int)) (days : Int) (ht : TabOk t days) : DCall Tryd.prog 36 [.c (.sl false 4 (rows eLd l)), .c (.sl false 2 (rows eK t)), dI days] [] (.tup [dI (fallR l days t).1, dI (fallR l days t).2.1, dI (fallR l days t).2.2]) [] := by
  generalize hR : fallR l days t = R
  have h1 := crBoxes false l 50 (by omega) (by omega) h
  have h2 := crTable t days ht
  have hlen := ht.len
  refine DCall.of Tryd.func36 sf36 hb36 (Nat.le_of_ble_eq_true rfl) (okRes_nil fun _ => rfl) ?_; simp only [s36, Mv, Sg, Ld, Fa, Xt, Ix, Ln, Cl, Oo, Og, idxs, Nat.reduceAdd]
  repeat' (first
    | (with_reducible first | refine DW.seq ?_ | refine DW.block ?_ | refine DW.skip ?_ | refine DW.exit ?_ | refine DW.ret ?_ | refine DW.reg ?_)
    | (simp (disch := omega) only [go_sem, Nat.reduceLT, Nat.reduceLeDiff, Nat.reduceAdd, Nat.reduceMul, Nat.reduceEqDiff, ↓reduceIte, reduceCtorEq, Nat.reduceBEq, Nat.reduceBNe, Nat.reducePow, Int.reduceLE, Int.reduceLT, Int.reduceNeg, Int.reduceToNat, Int.reduceEq, Int.reduceAdd, Int.reduceSub, Int.reduceMul, Int.reduceBEq, Int.reduceBNe, bm_box, bm_row, bk_box, bk_row])
    | (exact retS_of rfl rfl rfl)
    | (refine DW.cond_tt rfl ?_)
    | (refine call_c (h1) (by decide) ?_)
    | (refine call_c (h2) (by decide) ?_)
    | (refine DW.cond_ff rfl ?_)
    | (refine DW.cond rfl ?_ ?_ <;> intro hc <;> (try simp only [go_sem] at hc))
    | (refine g_split ?_ ?_ <;> intro hc <;> (try simp only [hc]) <;> (try simp only [go_sem] at hc)))
  refine DW.loop (ι := { i : Nat // i ≤ t.length ∧ fallR l days (t.drop i) = R }) (fun i => ⟨53, [(32, dI i.1), (31, dI t.length), (30, .c (.sl false 2 (rows eK t))), (10, .box 10 0), (0, .c (.sl false 4 (rows eLd l)))], [(10, .box [.c (.sl false 2 (rows eK t)), dI days])]⟩) (fun i => t.length - i.1) ⟨0, Nat.zero_le _, hR⟩ ?_ ?_
  · refine Ent.to ?_ ?_ <;> simp (disch := omega) only [wkT_cons, wkX_cons, wkT_nil, wkX_nil, get, Nat.reduceEqDiff, ↓reduceIte, ex_some, wk_self, wk_top, wk_nil, wkB_self, and_self, dI, i64_in, and_true, true_and, Int.natCast_add, Int.natCast_one, Int.ofNat_zero, Int.natCast_zero]
  rintro ⟨i, hi, hr⟩
  rcases at_or t i hi with ⟨v, hv, hlt, hd⟩ | ⟨he, hd⟩
  · have hm := ht.mem v (List.mem_of_getElem? hv)
    have hlow := crLowest l h (by omega) v.2 hm.2
    have hdrop : t.drop i = v :: t.drop (i + 1) := by
      have e : t[i] = v := by
        have := List.getElem?_eq_getElem hlt
        rw [hv] at this; cases this; rfl
      rw [← e]; exact List.drop_eq_getElem_cons hlt
    rw [hdrop] at hr
    by_cases hc : days < v.1
    · have hdd : decide (days < v.1) = true := decide_eq_true hc
      have hr' : R = (0, 0, 7) := by rw [← hr, fallR, fallT, if_pos hc]
      repeat' (first
    | (with_reducible first | refine DW.seq ?_ | refine DW.block ?_ | refine DW.skip ?_ | refine DW.exit ?_ | refine DW.ret ?_ | refine DW.reg ?_)
    | (simp (disch := omega) only [go_sem, Nat.reduceLT, Nat.reduceLeDiff, Nat.reduceAdd, Nat.reduceMul, Nat.reduceEqDiff, ↓reduceIte, reduceCtorEq, Nat.reduceBEq, Nat.reduceBNe, Nat.reducePow, Int.reduceLE, Int.reduceLT, Int.reduceNeg, Int.reduceToNat, Int.reduceEq, Int.reduceAdd, Int.reduceSub, Int.reduceMul, Int.reduceBEq, Int.reduceBNe, bm_box, bm_row, bk_box, bk_row, hd, hv, hdd, List.map_cons, List.map_nil])
    | (exact retS_of rfl rfl rfl)
    | (refine DW.cond_tt rfl ?_)
    | (refine DW.cond_ff rfl ?_)
    | (refine DW.cond rfl ?_ ?_ <;> intro hc <;> (try simp only [go_sem] at hc))
    | (refine g_split ?_ ?_ <;> intro hc <;> (try simp only [hc]) <;> (try simp only [go_sem] at hc)))
      refine retS_of rfl ?_ rfl; simp only [oneD, St.op, get, Nat.reduceEqDiff, ↓reduceIte, Option.getD_some, bD, dI]
      rw [hr']
    · have hdd : decide (days < v.1) = false := decide_eq_false hc
      cases hf : failN v.2 l with
      | none =>
        have hr' : fallR l days (t.drop (i + 1)) = R := by rw [← hr, fallR, fallR, fallT, if_neg hc, hf]
        simp only [lowR, hf] at hlow
        repeat' (first
    | (with_reducible first | refine DW.seq ?_ | refine DW.block ?_ | refine DW.skip ?_ | refine DW.exit ?_ | refine DW.ret ?_ | refine DW.reg ?_)
    | (simp (disch := omega) only [go_sem, Nat.reduceLT, Nat.reduceLeDiff, Nat.reduceAdd, Nat.reduceMul, Nat.reduceEqDiff, ↓reduceIte, reduceCtorEq, Nat.reduceBEq, Nat.reduceBNe, Nat.reducePow, Int.reduceLE, Int.reduceLT, Int.reduceNeg, Int.reduceToNat, Int.reduceEq, Int.reduceAdd, Int.reduceSub, Int.reduceMul, Int.reduceBEq, Int.reduceBNe, bm_box, bm_row, bk_box, bk_row, hd, hv, hdd, List.map_cons, List.map_nil])
    | (exact retS_of rfl rfl rfl)
    | (refine DW.cond_tt rfl ?_)
    | (refine call_c (hlow) (by decide) ?_)
    | (refine DW.cond_ff rfl ?_)
    | (refine DW.cond rfl ?_ ?_ <;> intro hc <;> (try simp only [go_sem] at hc))
    | (refine g_split ?_ ?_ <;> intro hc <;> (try simp only [hc]) <;> (try simp only [go_sem] at hc)))
        refine ⟨⟨i + 1, hlt, hr'⟩, ?_, Ent.to ?_ ?_⟩ <;> first | (show _ < _; (try simp only); omega) | (simp (disch := omega) only [wkT_cons, wkX_cons, wkT_nil, wkX_nil, get, Nat.reduceEqDiff, ↓reduceIte, ex_some, wk_self, wk_top, wk_nil, wkB_self, and_self, dI, i64_in, and_true, true_and, Int.natCast_add, Int.natCast_one, Int.ofNat_zero, Int.natCast_zero])
      | some j =>
        have hr' : R = (v.1, (j : Int), 0) := by rw [← hr, fallR, fallT, if_neg hc, hf]
        simp only [lowR, hf] at hlow
        repeat' (first
    | (with_reducible first | refine DW.seq ?_ | refine DW.block ?_ | refine DW.skip ?_ | refine DW.exit ?_ | refine DW.ret ?_ | refine DW.reg ?_)
    | (simp (disch := omega) only [go_sem, Nat.reduceLT, Nat.reduceLeDiff, Nat.reduceAdd, Nat.reduceMul, Nat.reduceEqDiff, ↓reduceIte, reduceCtorEq, Nat.reduceBEq, Nat.reduceBNe, Nat.reducePow, Int.reduceLE, Int.reduceLT, Int.reduceNeg, Int.reduceToNat, Int.reduceEq, Int.reduceAdd, Int.reduceSub, Int.reduceMul, Int.reduceBEq, Int.reduceBNe, bm_box, bm_row, bk_box, bk_row, hd, hv, hdd, List.map_cons, List.map_nil])
    | (exact retS_of rfl rfl rfl)
    | (refine DW.cond_tt rfl ?_)
    | (refine call_c (hlow) (by decide) ?_)
    | (refine DW.cond_ff rfl ?_)
    | (refine DW.cond rfl ?_ ?_ <;> intro hc <;> (try simp only [go_sem] at hc))
    | (refine g_split ?_ ?_ <;> intro hc <;> (try simp only [hc]) <;> (try simp only [go_sem] at hc)))
        refine retS_of rfl ?_ rfl; simp only [oneD, St.op, get, Nat.reduceEqDiff, ↓reduceIte, Option.getD_some, bD, dI]
        rw [hr']
  · rw [he, List.drop_length] at hr
    have hr' : R = (0, 0, 7) := by rw [← hr]; rfl
    repeat' (first
    | (with_reducible first | refine DW.seq ?_ | refine DW.block ?_ | refine DW.skip ?_ | refine DW.exit ?_ | refine DW.ret ?_ | refine DW.reg ?_)
    | (simp (disch := omega) only [go_sem, Nat.reduceLT, Nat.reduceLeDiff, Nat.reduceAdd, Nat.reduceMul, Nat.reduceEqDiff, ↓reduceIte, reduceCtorEq, Nat.reduceBEq, Nat.reduceBNe, Nat.reducePow, Int.reduceLE, Int.reduceLT, Int.reduceNeg, Int.reduceToNat, Int.reduceEq, Int.reduceAdd, Int.reduceSub, Int.reduceMul, Int.reduceBEq, Int.reduceBNe, bm_box, bm_row, bk_box, bk_row, hd])
    | (exact retS_of rfl rfl rfl)
    | (refine DW.cond_tt rfl ?_)
    | (refine DW.cond_ff rfl ?_)
    | (refine DW.cond rfl ?_ ?_ <;> intro hc <;> (try simp only [go_sem] at hc))
    | (refine g_split ?_ ?_ <;> intro hc <;> (try simp only [hc]) <;> (try simp only [go_sem] at hc)))
    refine retS_of rfl ?_ rfl; simp only [oneD, St.op, get, Nat.reduceEqDiff, ↓reduceIte, Option.getD_some, bD, dI]
    rw [hr']
def loadsL : List Lod → List (Int × Int)
  | [] => []
  | _ :: t => (sumL t, sumH t) :: loadsL t
theorem replK (n : Nat) : List.replicate n [C.v (.int .i64 0), C.v (.int .i64 0)] = rows eK (List.replicate n (0, 0)) := by simp [rows, eK]
theorem rows_setK (l : List (Int × Int)) (i : Nat) (x y : Int) : List.set (rows eK l) i [.v (.int .i64 x), .v (.int .i64 y)] = rows eK (List.set l i (x, y)) := by simp [rows, List.map_set, eK]
theorem rowC_setK (l : List (Int × Int)) (i : Nat) (x y : Int) : List.set (rowC (rows eK l)) i [.c (.v (.int .i64 x)), .c (.v (.int .i64 y))] = rowC (rows eK (List.set l i (x, y))) := by simp [rowC, rows, List.map_set, eK]
def ldS (a : List (Int × Int)) (e : Nat × Int × Int) : Option Exit × List (Int × Int) := (none, List.set a e.1 e.2)
theorem loads_set : ∀ (t : List Lod) (pre : List (Int × Int)) (post : List (Int × Int)), post.length = t.length → (loadsF pre.length t).foldr (fun e a => List.set a e.1 e.2) (pre ++ post) = pre ++ loadsL t
  | [], pre, post, h => by simp at h; subst h; simp [loadsF, loadsL]
  | b :: t, pre, [], h => by simp at h
  | b :: t, pre, p :: post, h => by
    have ih := loads_set t (pre ++ [p]) post (by simpa using h)
    simp only [List.length_append, List.length_singleton, List.append_assoc, List.singleton_append] at ih
    simp only [loadsF, List.foldr_cons, ih, loadsL]
    rw [List.set_append_right _ _ (Nat.le_refl _), Nat.sub_self]; rfl
theorem loads_run (l : List Lod) (h : ∀ b ∈ l, b.ok) (hl : l.length ≤ 100000) : runIt ldS (List.replicate l.length (0, 0)) (fallS 0 0 (backL l)) = (none, loadsL l) := by
  rw [runIt_all (fun _ _ => rfl), fallS_eq l h hl, List.foldl_reverse]
  have := loads_set l [] (List.replicate l.length (0, 0)) (by simp)
  simp only [List.length_nil, List.nil_append] at this
  exact congrArg (Prod.mk none) this
set_option maxHeartbeats 1000000 in
theorem crLoads (l : List Lod) (h : ∀ b ∈ l, b.ok) (hl : l.length ≤ 50) : DCall Tryd.prog 35 [.c (.sl false 4 (rows eLd l))] [] (.tup [.c (.sl false 2 (rows eK (loadsL l))), dI 0]) [] := by
  have h1 := crBoxes false l 50 (by omega) (by omega) h
  have h2 := crFalling l
  have hit := crFall1 l (by omega) false
  refine DCall.of Tryd.func35 sf35 hb35 (Nat.le_of_ble_eq_true rfl) (okRes_nil fun _ => rfl) ?_; simp only [s35, Mv, Sg, Ld, Fa, Xt, Ix, Ln, Cl, Oo, Og, idxs, Nat.reduceAdd]
  repeat' (first
    | (with_reducible first | refine DW.seq ?_ | refine DW.block ?_ | refine DW.skip ?_ | refine DW.exit ?_ | refine DW.ret ?_ | refine DW.reg ?_)
    | (simp (disch := omega) only [go_sem, Nat.reduceLT, Nat.reduceLeDiff, Nat.reduceAdd, Nat.reduceMul, Nat.reduceEqDiff, ↓reduceIte, reduceCtorEq, Nat.reduceBEq, Nat.reduceBNe, Nat.reducePow, Int.reduceLE, Int.reduceLT, Int.reduceNeg, Int.reduceToNat, Int.reduceEq, Int.reduceAdd, Int.reduceSub, Int.reduceMul, Int.reduceBEq, Int.reduceBNe, bm_box, bm_row, bk_box, bk_row, replK])
    | (exact retS_of rfl rfl rfl)
    | (refine DW.cond_tt rfl ?_)
    | (refine call_c (h1) (by decide) ?_)
    | (refine call_c (h2) (by decide) ?_)
    | (refine DW.cond_ff rfl ?_)
    | (refine DW.cond rfl ?_ ?_ <;> intro hc <;> (try simp only [go_sem] at hc))
    | (refine g_split ?_ ?_ <;> intro hc <;> (try simp only [hc]) <;> (try simp only [go_sem] at hc)))
  refine DW.rngBD (fs := []) (caps := [.c (.ro false [.sl false 4 (rows eLd l)] 0)]) (fun y : List (Int × Int) => [(15, .row 2 (rowC (rows eK y))), (5, .box [.own 15])]) (List.replicate l.length (0, 0)) ldS enF (fun e => e.1 < l.length) (fallS 0 0 (backL l)) hit (fun y => y.length = l.length) (by simp) (fun a e ha _ _ => by simpa [ldS] using ha) rfl (fun _ => ⟨rfl, rfl⟩) rfl (by decide) (fun _ _ => rfl) (fun _ _ _ => rfl) (by simp only [List.map_cons, List.map_nil]; decide) (fun _ => rfl) (fun _ => wf_row rfl rfl) (fun _ => nb_row eK_nb _ rfl) (by simp only [List.all_cons, List.all_nil, Blk.nb, rowC_nb, D.nb, D.nbs, C.nb, C.nbs, C.nbss, rows_nb eI_nb, Bool.and_true, Bool.not_false, Bool.and_self, bD, dI, iD, rows_nb eK_nb, rows_nb eLd_nb]) (fun a e => rfl) ?_ ?_
  · rintro y hy ⟨i, lo, hi⟩ hi' v
    dsimp only at hi'
    have hiy : ((i : Nat) < y.length) = True := eq_true (by omega)
    obtain ⟨u, hu⟩ := getE (l := y) (i := i) (by omega)
    simp (disch := omega) only [go_sem, Nat.reduceLT, Nat.reduceLeDiff, Nat.reduceAdd, Nat.reduceMul, Nat.reduceEqDiff, ↓reduceIte, reduceCtorEq, Nat.reduceBEq, Nat.reduceBNe, Nat.reducePow, Int.reduceLE, Int.reduceLT, Int.reduceNeg, Int.reduceToNat, Int.reduceEq, Int.reduceAdd, Int.reduceSub, Int.reduceMul, Int.reduceBEq, Int.reduceBNe, bm_box, bm_row, bk_box, bk_row, List.map_cons, List.map_nil, ldS]
    repeat' (first
    | (with_reducible first | refine DW.seq ?_ | refine DW.block ?_ | refine DW.skip ?_ | refine DW.exit ?_ | refine DW.ret ?_ | refine DW.reg ?_)
    | (simp (disch := omega) only [go_sem, Nat.reduceLT, Nat.reduceLeDiff, Nat.reduceAdd, Nat.reduceMul, Nat.reduceEqDiff, ↓reduceIte, reduceCtorEq, Nat.reduceBEq, Nat.reduceBNe, Nat.reducePow, Int.reduceLE, Int.reduceLT, Int.reduceNeg, Int.reduceToNat, Int.reduceEq, Int.reduceAdd, Int.reduceSub, Int.reduceMul, Int.reduceBEq, Int.reduceBNe, bm_box, bm_row, bk_box, bk_row, hu, hiy, rows_setK, List.map_cons, List.map_nil])
    | (exact retS_of rfl rfl rfl)
    | (refine DW.cond_tt rfl ?_)
    | (refine DW.cond_ff rfl ?_)
    | (refine DW.cond rfl ?_ ?_ <;> intro hc <;> (try simp only [go_sem] at hc))
    | (refine g_split ?_ ?_ <;> intro hc <;> (try simp only [hc]) <;> (try simp only [go_sem] at hc)))
    refine round_end rfl rfl (Ent.to ?_ ?_) <;> simp (disch := omega) only [wkT_cons, wkX_cons, wkT_nil, wkX_nil, get, Nat.reduceEqDiff, ↓reduceIte, ex_some, wk_self, wk_top, wk_nil, wkB_self, and_self, dI, i64_in, and_true, true_and, Int.natCast_add, Int.natCast_one, Int.ofNat_zero, Int.natCast_zero, capB, List.cons_append, List.nil_append, rowC_setK]
  · rw [loads_run l h (by omega)]
    repeat' (first
    | (with_reducible first | refine DW.seq ?_ | refine DW.block ?_ | refine DW.skip ?_ | refine DW.exit ?_ | refine DW.ret ?_ | refine DW.reg ?_)
    | (simp (disch := omega) only [go_sem, Nat.reduceLT, Nat.reduceLeDiff, Nat.reduceAdd, Nat.reduceMul, Nat.reduceEqDiff, ↓reduceIte, reduceCtorEq, Nat.reduceBEq, Nat.reduceBNe, Nat.reducePow, Int.reduceLE, Int.reduceLT, Int.reduceNeg, Int.reduceToNat, Int.reduceEq, Int.reduceAdd, Int.reduceSub, Int.reduceMul, Int.reduceBEq, Int.reduceBNe, bm_box, bm_row, bk_box, bk_row])
    | (exact retS_of rfl rfl rfl)
    | (refine DW.cond_tt rfl ?_)
    | (refine DW.cond_ff rfl ?_)
    | (refine DW.cond rfl ?_ ?_ <;> intro hc <;> (try simp only [go_sem] at hc))
    | (refine g_split ?_ ?_ <;> intro hc <;> (try simp only [hc]) <;> (try simp only [go_sem] at hc)))
    (refine retS_ent (Ent.rel 15 rfl) ?_; simp (disch := omega) only [go_sem, Nat.reduceLT, Nat.reduceLeDiff, Nat.reduceAdd, Nat.reduceMul, Nat.reduceEqDiff, ↓reduceIte, reduceCtorEq, Nat.reduceBEq, Nat.reduceBNe, Nat.reducePow, Int.reduceLE, Int.reduceLT, Int.reduceNeg, Int.reduceToNat, Int.reduceEq, Int.reduceAdd, Int.reduceSub, Int.reduceMul, Int.reduceBEq, Int.reduceBNe, bm_box, bm_row, bk_box, bk_row])
    refine retS_wk rfl ?_ (by simp only [Blk.nb, rowC_nb, D.nb, D.nbs, C.nb, C.nbs, C.nbss, rows_nb eI_nb, Bool.and_true, Bool.not_false, Bool.and_self, bD, dI, iD, rows_nb eK_nb, rows_nb eLd_nb]); exact .refl _
end Go.Dw.Seat
end
section
set_option linter.unusedSimpArgs false
set_option maxRecDepth 100000
namespace Go.Dw.Seat
open Go Go.Dw Go.Proofs Go.IntWalk
structure LeB (b c : Lod) : Prop where
  s : b.sl ≤ c.sl
  w : c.wh ≤ b.wh
theorem LeB.refl (b : Lod) : LeB b b := ⟨Int.le_refl _, Int.le_refl _⟩
end Go.Dw.Seat
end
section
set_option linter.unusedSimpArgs false
set_option maxRecDepth 100000
namespace Go.Dw.Seat
open Go Go.Dw Go.Proofs Go.IntWalk
def ordI (l : List Lod) (k : Int) : Nat → Nat → List Int
  | 0, _ => []
  | f + 1, s => if s = 0 then [] else match (bitsL s).find? (fun e => unI l k s e) with
    | some e => (e : Int) :: ordI l k f (remB s e)
    | none => []
structure OrS where
  acc : List Int
  left : Nat
  m : Memo
def ordS (l : List Lod) (k : Int) (s : Nat) (y : OrS) (e : Nat) : Option Exit × OrS :=
  if (unF l k (stF l k s) s e y.m).1 then (some (.exit 2), ⟨y.acc ++ [(e : Int)], remB s e, (unF l k (stF l k s) s e y.m).2⟩) else (none, ⟨y.acc, y.left, (unF l k (stF l k s) s e y.m).2⟩)
theorem un_ok' {l : List Lod} {k : Int} {s : Nat} (hs : s < 1024) {e : Nat} (he : e ∈ bitsL s) {m : Memo} (hm : MemoOk l k m) : (unF l k (stF l k s) s e m).1 = unI l k s e ∧ MemoOk l k (unF l k (stF l k s) s e m).2 :=
  un_ok hs (rec := stF l k s) (fun t m ht hm => stF_ok l k s t m (by omega) (by omega) hm) he hm
theorem ord_run {l : List Lod} {k : Int} {s : Nat} (hs : s < 1024) {e : Nat} (acc : List Int) : ∀ (L : List Nat) (m : Memo), (∀ x ∈ L, x ∈ bitsL s) → MemoOk l k m → L.find? (fun e => unI l k s e) = some e → ∃ m', MemoOk l k m' ∧ runIt (ordS l k s) ⟨acc, s, m⟩ L = (some (.exit 2), ⟨acc ++ [(e : Int)], remB s e, m'⟩)
  | x :: L, m, hL, hm, hf => by
    obtain ⟨h1, h2⟩ := un_ok' hs (hL x (by simp)) hm
    rw [List.find?_cons] at hf
    simp only [runIt, ordS]
    rw [h1]
    cases hu : unI l k s x with
    | true =>
      rw [hu] at hf
      cases hf
      exact ⟨_, h2, rfl⟩
    | false =>
      rw [hu] at hf
      simp only [Bool.false_eq_true, if_false]
      exact ord_run hs acc L _ (fun y hy => hL y (by simp [hy])) h2 hf
theorem remB_len0 : ∀ s : Fin 1024, ∀ b : Fin 10, b.1 ∈ bitsL s.1 → (bitsL (remB s.1 b.1)).length + 1 = (bitsL s.1).length := by decide +kernel
theorem remB_len {s b : Nat} (hs : s < 1024) (hb : b ∈ bitsL s) : (bitsL (remB s b)).length + 1 = (bitsL s).length := remB_len0 ⟨s, hs⟩ ⟨b, bits_lt hb⟩ hb
theorem stI_find {l : List Lod} {k : Int} {s : Nat} (hs : s < 1024) (h0 : s ≠ 0) (h : stI l k s = true) : ∃ e, (bitsL s).find? (fun e => unI l k s e) = some e ∧ e ∈ bitsL s ∧ stI l k (remB s e) = true := by
  rw [stI_eq l k hs, decide_eq_false h0, Bool.false_or, List.any_eq_true] at h
  obtain ⟨x, hx, hu⟩ := h
  cases hf : (bitsL s).find? (fun e => unI l k s e) with
  | none =>
    have := List.find?_eq_none.1 hf x hx
    exact absurd hu (by simpa [unI] using this)
  | some e =>
    have h1 := List.find?_some hf
    have h2 := List.mem_of_find?_eq_some hf
    simp only [unI, Bool.and_eq_true] at h1
    exact ⟨e, rfl, h2, h1.2⟩
theorem ordI_fuel (l : List Lod) (k : Int) : ∀ {s : Nat}, s < 1024 → ∀ (f g : Nat), s ≤ f → s ≤ g → ordI l k f s = ordI l k g s
  | s, hs, 0, g, h1, _ => by
    obtain rfl : s = 0 := by omega
    cases g <;> simp [ordI]
  | s, hs, f + 1, 0, _, h1 => by
    obtain rfl : s = 0 := by omega
    simp [ordI]
  | s, hs, f + 1, g + 1, h1, h2 => by
    simp only [ordI]
    split
    · rfl
    · cases hf : (bitsL s).find? (fun e => unI l k s e) with
      | none => rfl
      | some e =>
        have he := List.mem_of_find?_eq_some hf
        have hlt := remB_mem hs he
        simp only
        rw [ordI_fuel l k (s := remB s e) (by omega) f g (by omega) (by omega)]
set_option maxHeartbeats 4000000 in
theorem crOrder (l : List Lod) (h : ∀ b ∈ l, b.ok) (hl : l.length ≤ 10) (t : List (Int × Int)) (days : Int) (ht : TabOk t days) (hst : stI l (lastI days t 0) (2 ^ l.length - 1) = true) :
    DCall Tryd.prog 45 [.c (.sl false 4 (rows eLd l)), .c (.sl false 2 (rows eK t)), dI days] [] (.tup [dIs false (ordI l (lastI days t 0) (2 ^ l.length - 1) (2 ^ l.length - 1)), dI 0]) [] := by
  have h1 := crPiler l h hl t days ht
  have hk := lastI_b days t 0 (fun s hs => (ht.mem s hs).2) (by decide)
  have hsh := shl_u hl
  have hpw := pow_le10 hl
  have hp1 := Nat.one_le_two_pow (n := l.length)
  generalize lastI days t 0 = k at *
  generalize hR : ordI l k (2 ^ l.length - 1) (2 ^ l.length - 1) = R
  have hw : IntKind.u64.wrap (((2 ^ l.length : Nat) : Int) - 1) = ((2 ^ l.length - 1 : Nat) : Int) := by rw [IntWalk.u64_in _ (by omega)]; omega
  refine DCall.of Tryd.func45 sf45 hb45 (Nat.le_of_ble_eq_true rfl) (okRes_nil fun _ => rfl) ?_; simp only [s45, Mv, Sg, Ld, Fa, Xt, Ix, Ln, Cl, Oo, Og, o45_0, o45_1, o45_2, o45_3, o45_4, o45_5, o45_6, o45_7, o45_8, o45_9, idxs, Nat.reduceAdd]
  repeat' (first
    | (with_reducible first | refine DW.seq ?_ | refine DW.block ?_ | refine DW.skip ?_ | refine DW.exit ?_ | refine DW.ret ?_ | refine DW.reg ?_)
    | (refine DW.ord rfl (WF.of (by first | rfl | simp (disch := omega) only [go_sem, Nat.reduceLT, Nat.reduceLeDiff, Nat.reduceAdd, Nat.reduceMul, Nat.reduceEqDiff, ↓reduceIte, reduceCtorEq, Nat.reduceBEq, Nat.reduceBNe, Nat.reducePow, Int.reduceLE, Int.reduceLT, Int.reduceNeg, Int.reduceToNat, Int.reduceEq, Int.reduceAdd, Int.reduceSub, Int.reduceMul, Int.reduceBEq, Int.reduceBNe, bm_box, bm_row, bk_box, bk_row, hsh, hw])) ?_ ?_ ?_; rotate_left)
    | rfl
    | (with_reducible refine And.intro ?_ ?_)
    | (simp (disch := omega) only [go_sem, Nat.reduceLT, Nat.reduceLeDiff, Nat.reduceAdd, Nat.reduceMul, Nat.reduceEqDiff, ↓reduceIte, reduceCtorEq, Nat.reduceBEq, Nat.reduceBNe, Nat.reducePow, Int.reduceLE, Int.reduceLT, Int.reduceNeg, Int.reduceToNat, Int.reduceEq, Int.reduceAdd, Int.reduceSub, Int.reduceMul, Int.reduceBEq, Int.reduceBNe, bm_box, bm_row, bk_box, bk_row, hsh, hw])
    | (exact retS_of rfl rfl rfl)
    | (refine DW.cond_tt rfl ?_)
    | (refine DW.cond_ff rfl ?_)
    | (refine DW.cond rfl ?_ ?_ <;> intro hc <;> (try simp only [go_sem] at hc))
    | (refine g_split ?_ ?_ <;> intro hc <;> (try simp only [hc]) <;> (try simp only [go_sem] at hc)))
  refine call_b h1 ⟨⟨trivial, rfl, rfl, rfl⟩, rfl, rfl, rfl⟩ (by decide) ?_
  simp only [St.addBs, St.putB, St.putO, St.put]
  simp (disch := omega) only [go_sem, Nat.reduceLT, Nat.reduceLeDiff, Nat.reduceAdd, Nat.reduceMul, Nat.reduceEqDiff, ↓reduceIte, reduceCtorEq, Nat.reduceBEq, Nat.reduceBNe, Nat.reducePow, Int.reduceLE, Int.reduceLT, Int.reduceNeg, Int.reduceToNat, Int.reduceEq, Int.reduceAdd, Int.reduceSub, Int.reduceMul, Int.reduceBEq, Int.reduceBNe, bm_box, bm_row, bk_box, bk_row]
  refine DW.pin 28 rfl rfl fun lm => ?_
  simp (disch := omega) only [go_sem, Nat.reduceLT, Nat.reduceLeDiff, Nat.reduceAdd, Nat.reduceMul, Nat.reduceEqDiff, ↓reduceIte, reduceCtorEq, Nat.reduceBEq, Nat.reduceBNe, Nat.reducePow, Int.reduceLE, Int.reduceLT, Int.reduceNeg, Int.reduceToNat, Int.reduceEq, Int.reduceAdd, Int.reduceSub, Int.reduceMul, Int.reduceBEq, Int.reduceBNe, bm_box, bm_row, bk_box, bk_row, pinT, pinX, pinD, pinDs, pinB, pinO]
  refine DW.ent (Ent.rel 30 rfl) ?_
  simp (disch := omega) only [go_sem, Nat.reduceLT, Nat.reduceLeDiff, Nat.reduceAdd, Nat.reduceMul, Nat.reduceEqDiff, ↓reduceIte, reduceCtorEq, Nat.reduceBEq, Nat.reduceBNe, Nat.reducePow, Int.reduceLE, Int.reduceLT, Int.reduceNeg, Int.reduceToNat, Int.reduceEq, Int.reduceAdd, Int.reduceSub, Int.reduceMul, Int.reduceBEq, Int.reduceBNe, bm_box, bm_row, bk_box, bk_row]
  obtain ⟨m0, hm0, hst0⟩ := crStandsI l h k hk lm (2 ^ l.length - 1) (by omega) (inB_of hl (by omega)) [] (fun _ _ h => by cases h)
  rw [hst] at hst0
  have hnil : memB lm [] = (28, Blk.pmap lm [] []) := rfl
  repeat' (first
    | (with_reducible first | refine DW.seq ?_ | refine DW.block ?_ | refine DW.skip ?_ | refine DW.exit ?_ | refine DW.ret ?_ | refine DW.reg ?_)
    | (refine DW.ord rfl (WF.of (by first | rfl | simp (disch := omega) only [go_sem, Nat.reduceLT, Nat.reduceLeDiff, Nat.reduceAdd, Nat.reduceMul, Nat.reduceEqDiff, ↓reduceIte, reduceCtorEq, Nat.reduceBEq, Nat.reduceBNe, Nat.reducePow, Int.reduceLE, Int.reduceLT, Int.reduceNeg, Int.reduceToNat, Int.reduceEq, Int.reduceAdd, Int.reduceSub, Int.reduceMul, Int.reduceBEq, Int.reduceBNe, bm_box, bm_row, bk_box, bk_row, hsh, hw])) ?_ ?_ ?_; rotate_left)
    | rfl
    | (with_reducible refine And.intro ?_ ?_)
    | (simp (disch := omega) only [go_sem, Nat.reduceLT, Nat.reduceLeDiff, Nat.reduceAdd, Nat.reduceMul, Nat.reduceEqDiff, ↓reduceIte, reduceCtorEq, Nat.reduceBEq, Nat.reduceBNe, Nat.reducePow, Int.reduceLE, Int.reduceLT, Int.reduceNeg, Int.reduceToNat, Int.reduceEq, Int.reduceAdd, Int.reduceSub, Int.reduceMul, Int.reduceBEq, Int.reduceBNe, bm_box, bm_row, bk_box, bk_row, hsh, hw])
    | (exact retS_of rfl rfl rfl)
    | (refine DW.cond_tt rfl ?_)
    | (refine DW.cond_ff rfl ?_)
    | (refine DW.cond rfl ?_ ?_ <;> intro hc <;> (try simp only [go_sem] at hc))
    | (refine g_split ?_ ?_ <;> intro hc <;> (try simp only [hc]) <;> (try simp only [go_sem] at hc)))
  refine call_h (h := [memB lm []]) (h' := [memB lm m0]) hst0 (Ent.refl _) rfl rfl rfl rfl (by decide) ?_
  simp (disch := omega) only [go_sem, Nat.reduceLT, Nat.reduceLeDiff, Nat.reduceAdd, Nat.reduceMul, Nat.reduceEqDiff, ↓reduceIte, reduceCtorEq, Nat.reduceBEq, Nat.reduceBNe, Nat.reducePow, Int.reduceLE, Int.reduceLT, Int.reduceNeg, Int.reduceToNat, Int.reduceEq, Int.reduceAdd, Int.reduceSub, Int.reduceMul, Int.reduceBEq, Int.reduceBNe, bm_box, bm_row, bk_box, bk_row]
  repeat' (first
    | (with_reducible first | refine DW.seq ?_ | refine DW.block ?_ | refine DW.skip ?_ | refine DW.exit ?_ | refine DW.ret ?_ | refine DW.reg ?_)
    | (refine DW.ord rfl (WF.of (by first | rfl | simp (disch := omega) only [go_sem, Nat.reduceLT, Nat.reduceLeDiff, Nat.reduceAdd, Nat.reduceMul, Nat.reduceEqDiff, ↓reduceIte, reduceCtorEq, Nat.reduceBEq, Nat.reduceBNe, Nat.reducePow, Int.reduceLE, Int.reduceLT, Int.reduceNeg, Int.reduceToNat, Int.reduceEq, Int.reduceAdd, Int.reduceSub, Int.reduceMul, Int.reduceBEq, Int.reduceBNe, bm_box, bm_row, bk_box, bk_row])) ?_ ?_ ?_; rotate_left)
    | rfl
    | (with_reducible refine And.intro ?_ ?_)
    | (simp (disch := omega) only [go_sem, Nat.reduceLT, Nat.reduceLeDiff, Nat.reduceAdd, Nat.reduceMul, Nat.reduceEqDiff, ↓reduceIte, reduceCtorEq, Nat.reduceBEq, Nat.reduceBNe, Nat.reducePow, Int.reduceLE, Int.reduceLT, Int.reduceNeg, Int.reduceToNat, Int.reduceEq, Int.reduceAdd, Int.reduceSub, Int.reduceMul, Int.reduceBEq, Int.reduceBNe, bm_box, bm_row, bk_box, bk_row])
    | (exact retS_of rfl rfl rfl)
    | (refine DW.cond_tt rfl ?_)
    | (refine DW.cond_ff rfl ?_)
    | (refine DW.cond rfl ?_ ?_ <;> intro hc <;> (try simp only [go_sem] at hc))
    | (refine g_split ?_ ?_ <;> intro hc <;> (try simp only [hc]) <;> (try simp only [go_sem] at hc)))
  refine DW.ent (Ent.adoptB 6 0 41 1 rfl rfl rfl (by simp (disch := omega) only [go_sem, Nat.reduceLT, Nat.reduceLeDiff, Nat.reduceAdd, Nat.reduceMul, Nat.reduceEqDiff, ↓reduceIte, reduceCtorEq, Nat.reduceBEq, Nat.reduceBNe, Nat.reducePow, Int.reduceLE, Int.reduceLT, Int.reduceNeg, Int.reduceToNat, Int.reduceEq, Int.reduceAdd, Int.reduceSub, Int.reduceMul, Int.reduceBEq, Int.reduceBNe, bm_box, bm_row, bk_box, bk_row])) ?_
  simp (disch := omega) only [go_sem, Nat.reduceLT, Nat.reduceLeDiff, Nat.reduceAdd, Nat.reduceMul, Nat.reduceEqDiff, ↓reduceIte, reduceCtorEq, Nat.reduceBEq, Nat.reduceBNe, Nat.reducePow, Int.reduceLE, Int.reduceLT, Int.reduceNeg, Int.reduceToNat, Int.reduceEq, Int.reduceAdd, Int.reduceSub, Int.reduceMul, Int.reduceBEq, Int.reduceBNe, bm_box, bm_row, bk_box, bk_row]
  have hbl := bits_len (2 ^ l.length - 1)
  refine DW.loop (ι := { y : OrS // y.left < 2 ^ l.length ∧ MemoOk l k y.m ∧ stI l k y.left = true ∧ y.acc.length + (bitsL y.left).length ≤ 10 ∧ ∀ f, y.left ≤ f → y.acc ++ ordI l k f y.left = R })
    (fun y => ⟨47, [(9, .box 9 0), (8, .box 8 0), (6, .box 6 0)], [(41, .row 1 (rowC (rows eI y.1.acc))), memB lm y.1.m, (9, .box [dU y.1.left]), (8, .box [pilD l k lm]), (6, .box [.own 41])]⟩) (fun y => y.1.left) ⟨⟨[], 2 ^ l.length - 1, m0⟩, by dsimp only; omega, hm0, hst, by simpa using hbl, fun f hf => by rw [List.nil_append, ← hR]; exact ordI_fuel l k (show 2 ^ l.length - 1 < 1024 by omega) f _ hf (Nat.le_refl _)⟩ ?_ ?_
  · refine Ent.to ?_ ?_ <;> simp (disch := omega) only [wkT_cons, wkX_cons, wkT_nil, wkX_nil, get, Nat.reduceEqDiff, ↓reduceIte, ex_some, wk_self, wk_top, wk_nil, wkB_self, and_self, dI, i64_in, and_true, true_and, Int.natCast_add, Int.natCast_one, Int.ofNat_zero, Int.natCast_zero]
    exact ⟨.refl _, .refl _⟩
  rintro ⟨⟨acc, s, m⟩, i1, i2, i3, i4, i5⟩
  dsimp only at i1 i2 i3 i4 i5 ⊢
  by_cases h0 : s = 0
  · have hd : ((s : Int) != 0) = false := by rw [h0]; rfl
    have hacc : acc = R := by
      have := i5 s (Nat.le_refl _)
      subst h0
      simpa [ordI] using this
    subst hacc
    repeat' (first
    | (with_reducible first | refine DW.seq ?_ | refine DW.block ?_ | refine DW.skip ?_ | refine DW.exit ?_ | refine DW.ret ?_ | refine DW.reg ?_)
    | (refine DW.ord rfl (WF.of (by first | rfl | simp (disch := omega) only [go_sem, Nat.reduceLT, Nat.reduceLeDiff, Nat.reduceAdd, Nat.reduceMul, Nat.reduceEqDiff, ↓reduceIte, reduceCtorEq, Nat.reduceBEq, Nat.reduceBNe, Nat.reducePow, Int.reduceLE, Int.reduceLT, Int.reduceNeg, Int.reduceToNat, Int.reduceEq, Int.reduceAdd, Int.reduceSub, Int.reduceMul, Int.reduceBEq, Int.reduceBNe, bm_box, bm_row, bk_box, bk_row, hd])) ?_ ?_ ?_; rotate_left)
    | rfl
    | (with_reducible refine And.intro ?_ ?_)
    | (simp (disch := omega) only [go_sem, Nat.reduceLT, Nat.reduceLeDiff, Nat.reduceAdd, Nat.reduceMul, Nat.reduceEqDiff, ↓reduceIte, reduceCtorEq, Nat.reduceBEq, Nat.reduceBNe, Nat.reducePow, Int.reduceLE, Int.reduceLT, Int.reduceNeg, Int.reduceToNat, Int.reduceEq, Int.reduceAdd, Int.reduceSub, Int.reduceMul, Int.reduceBEq, Int.reduceBNe, bm_box, bm_row, bk_box, bk_row, hd])
    | (exact retS_of rfl rfl rfl)
    | (refine DW.cond_tt rfl ?_)
    | (refine DW.cond_ff rfl ?_)
    | (refine DW.cond rfl ?_ ?_ <;> intro hc <;> (try simp only [go_sem] at hc))
    | (refine g_split ?_ ?_ <;> intro hc <;> (try simp only [hc]) <;> (try simp only [go_sem] at hc)))
    (refine retS_ent (Ent.rel 41 rfl) ?_; simp (disch := omega) only [go_sem, Nat.reduceLT, Nat.reduceLeDiff, Nat.reduceAdd, Nat.reduceMul, Nat.reduceEqDiff, ↓reduceIte, reduceCtorEq, Nat.reduceBEq, Nat.reduceBNe, Nat.reducePow, Int.reduceLE, Int.reduceLT, Int.reduceNeg, Int.reduceToNat, Int.reduceEq, Int.reduceAdd, Int.reduceSub, Int.reduceMul, Int.reduceBEq, Int.reduceBNe, bm_box, bm_row, bk_box, bk_row])
    refine retS_wk rfl ?_ (by simp only [Blk.nb, rowC_nb, D.nb, D.nbs, C.nb, C.nbs, C.nbss, rows_nb eI_nb, Bool.and_true, Bool.not_false, Bool.and_self, bD, dI, iD, rows_nb eK_nb, rows_nb eLd_nb]); exact .refl _
  · have hd : ((s : Int) != 0) = true := by rw [bne_iff_ne]; omega
    have hs : s < 1024 := by omega
    have hit := crAll s hs
    have hbs := inB_of hl i1
    obtain ⟨e, hfd, he, hse⟩ := stI_find hs h0 i3
    obtain ⟨m1, hm1, hrun⟩ := ord_run hs acc (bitsL s) m (fun _ h => h) i2 hfd
    have hlt := remB_mem hs he
    have hlen := remB_len hs he
    repeat' (first
    | (with_reducible first | refine DW.seq ?_ | refine DW.block ?_ | refine DW.skip ?_ | refine DW.exit ?_ | refine DW.ret ?_ | refine DW.reg ?_)
    | (refine DW.ord rfl (WF.of (by first | rfl | simp (disch := omega) only [go_sem, Nat.reduceLT, Nat.reduceLeDiff, Nat.reduceAdd, Nat.reduceMul, Nat.reduceEqDiff, ↓reduceIte, reduceCtorEq, Nat.reduceBEq, Nat.reduceBNe, Nat.reducePow, Int.reduceLE, Int.reduceLT, Int.reduceNeg, Int.reduceToNat, Int.reduceEq, Int.reduceAdd, Int.reduceSub, Int.reduceMul, Int.reduceBEq, Int.reduceBNe, bm_box, bm_row, bk_box, bk_row, hd])) ?_ ?_ ?_; rotate_left)
    | rfl
    | (with_reducible refine And.intro ?_ ?_)
    | (simp (disch := omega) only [go_sem, Nat.reduceLT, Nat.reduceLeDiff, Nat.reduceAdd, Nat.reduceMul, Nat.reduceEqDiff, ↓reduceIte, reduceCtorEq, Nat.reduceBEq, Nat.reduceBNe, Nat.reducePow, Int.reduceLE, Int.reduceLT, Int.reduceNeg, Int.reduceToNat, Int.reduceEq, Int.reduceAdd, Int.reduceSub, Int.reduceMul, Int.reduceBEq, Int.reduceBNe, bm_box, bm_row, bk_box, bk_row, hd])
    | (exact retS_of rfl rfl rfl)
    | (refine DW.cond_tt rfl ?_)
    | (refine DW.cond_ff rfl ?_)
    | (refine DW.cond rfl ?_ ?_ <;> intro hc <;> (try simp only [go_sem] at hc))
    | (refine g_split ?_ ?_ <;> intro hc <;> (try simp only [hc]) <;> (try simp only [go_sem] at hc)))
    refine DW.rngBD (fs := [dU s]) (caps := []) (fun y : OrS => [(41, .row 1 (rowC (rows eI y.acc))), memB lm y.m, (9, .box [dU y.left]), (8, .box [pilD l k lm]), (6, .box [.own 41])]) ⟨acc, s, m⟩ (ordS l k s) enB (fun e => e ∈ bitsL s) (bitsL s) hit (fun y => y.left = s ∧ MemoOk l k y.m ∧ y.acc.length ≤ 10) ⟨rfl, i2, by dsimp only; omega⟩ ?_ rfl (fun _ => ⟨rfl, rfl⟩) rfl (by decide) (fun _ _ => rfl) (fun _ _ _ => rfl) (by simp only [List.map_cons, List.map_nil]; decide) (fun _ => rfl) (fun y => wf_row rfl (by show (D.keysIns _ (mD y.m) && _) = true; rw [mD_keys]; rfl)) (fun y => nb_row eI_nb _ (by show (D.nbs (mD y.m) && _) = true; rw [mD_nb, Bool.true_and]; exact (by simp only [List.all_cons, List.all_nil, Blk.nb, rowC_nb, D.nb, D.nbs, C.nb, C.nbs, C.nbss, rows_nb eI_nb, Bool.and_true, Bool.not_false, Bool.and_self, bD, dI, iD, rows_nb eK_nb, rows_nb eLd_nb]))) (by simp only [List.all_cons, List.all_nil, Blk.nb, rowC_nb, D.nb, D.nbs, C.nb, C.nbs, C.nbss, rows_nb eI_nb, Bool.and_true, Bool.not_false, Bool.and_self, bD, dI, iD, rows_nb eK_nb, rows_nb eLd_nb]) ?_ ?_ ?_
    · rintro y x ⟨a1, a2, a3⟩ hx hn
      obtain ⟨u1, u2⟩ := un_ok' hs hx a2
      simp only [ordS] at hn ⊢
      split
      · rename_i hc; rw [if_pos hc] at hn; cases hn
      · exact ⟨a1, u2, a3⟩
    · intro y x
      unfold ordS
      split <;> rfl
    · rintro ⟨acc', s', m'⟩ ⟨a1, a2, a3⟩ x hx v
      dsimp only at a1 a2 a3
      subst a1
      have hx10 := bits_lt hx
      have hand := andNot_u hs hx10
      have hun := crUnder l h k hk lm s' (crStands l h k hk lm s') s' x m' (by omega) hs hbs hx
      have hS : ordS l k s' ⟨acc', s', m'⟩ x = if (unF l k (stF l k s') s' x m').1 then (some (.exit 2), ⟨acc' ++ [(x : Int)], remB s' x, (unF l k (stF l k s') s' x m').2⟩) else (none, ⟨acc', s', (unF l k (stF l k s') s' x m').2⟩) := rfl
      rw [hS]
      generalize unF l k (stF l k s') s' x m' = U at *
      obtain ⟨u, m2⟩ := U
      dsimp only at hun ⊢
      simp (disch := omega) only [go_sem, Nat.reduceLT, Nat.reduceLeDiff, Nat.reduceAdd, Nat.reduceMul, Nat.reduceEqDiff, ↓reduceIte, reduceCtorEq, Nat.reduceBEq, Nat.reduceBNe, Nat.reducePow, Int.reduceLE, Int.reduceLT, Int.reduceNeg, Int.reduceToNat, Int.reduceEq, Int.reduceAdd, Int.reduceSub, Int.reduceMul, Int.reduceBEq, Int.reduceBNe, bm_box, bm_row, bk_box, bk_row, List.map_cons, List.map_nil]
      repeat' (first
    | (with_reducible first | refine DW.seq ?_ | refine DW.block ?_ | refine DW.skip ?_ | refine DW.exit ?_ | refine DW.ret ?_ | refine DW.reg ?_)
    | (refine DW.ord rfl (WF.of (by first | rfl | simp (disch := omega) only [go_sem, Nat.reduceLT, Nat.reduceLeDiff, Nat.reduceAdd, Nat.reduceMul, Nat.reduceEqDiff, ↓reduceIte, reduceCtorEq, Nat.reduceBEq, Nat.reduceBNe, Nat.reducePow, Int.reduceLE, Int.reduceLT, Int.reduceNeg, Int.reduceToNat, Int.reduceEq, Int.reduceAdd, Int.reduceSub, Int.reduceMul, Int.reduceBEq, Int.reduceBNe, bm_box, bm_row, bk_box, bk_row, List.map_cons, List.map_nil])) ?_ ?_ ?_; rotate_left)
    | rfl
    | (with_reducible refine And.intro ?_ ?_)
    | (simp (disch := omega) only [go_sem, Nat.reduceLT, Nat.reduceLeDiff, Nat.reduceAdd, Nat.reduceMul, Nat.reduceEqDiff, ↓reduceIte, reduceCtorEq, Nat.reduceBEq, Nat.reduceBNe, Nat.reducePow, Int.reduceLE, Int.reduceLT, Int.reduceNeg, Int.reduceToNat, Int.reduceEq, Int.reduceAdd, Int.reduceSub, Int.reduceMul, Int.reduceBEq, Int.reduceBNe, bm_box, bm_row, bk_box, bk_row, List.map_cons, List.map_nil])
    | (exact retS_of rfl rfl rfl)
    | (refine DW.cond_tt rfl ?_)
    | (refine DW.cond_ff rfl ?_)
    | (refine DW.cond rfl ?_ ?_ <;> intro hc <;> (try simp only [go_sem] at hc))
    | (refine g_split ?_ ?_ <;> intro hc <;> (try simp only [hc]) <;> (try simp only [go_sem] at hc)))
      refine call_hk 28 hun rfl rfl rfl (by simp (disch := omega) only [go_sem, Nat.reduceLT, Nat.reduceLeDiff, Nat.reduceAdd, Nat.reduceMul, Nat.reduceEqDiff, ↓reduceIte, reduceCtorEq, Nat.reduceBEq, Nat.reduceBNe, Nat.reducePow, Int.reduceLE, Int.reduceLT, Int.reduceNeg, Int.reduceToNat, Int.reduceEq, Int.reduceAdd, Int.reduceSub, Int.reduceMul, Int.reduceBEq, Int.reduceBNe, bm_box, bm_row, bk_box, bk_row, del]) (by decide) ?_
      simp (disch := omega) only [go_sem, Nat.reduceLT, Nat.reduceLeDiff, Nat.reduceAdd, Nat.reduceMul, Nat.reduceEqDiff, ↓reduceIte, reduceCtorEq, Nat.reduceBEq, Nat.reduceBNe, Nat.reducePow, Int.reduceLE, Int.reduceLT, Int.reduceNeg, Int.reduceToNat, Int.reduceEq, Int.reduceAdd, Int.reduceSub, Int.reduceMul, Int.reduceBEq, Int.reduceBNe, bm_box, bm_row, bk_box, bk_row, List.map_cons, List.map_nil, del]
      refine DW.ent (Ent.swap2 (show (28 : Nat) ≠ 41 by decide)) ?_
      cases u with
      | true =>
        rw [if_pos rfl]
        repeat' (first
    | (with_reducible first | refine DW.seq ?_ | refine DW.block ?_ | refine DW.skip ?_ | refine DW.exit ?_ | refine DW.ret ?_ | refine DW.reg ?_)
    | (refine DW.ord rfl (WF.of (by first | rfl | simp (disch := omega) only [go_sem, Nat.reduceLT, Nat.reduceLeDiff, Nat.reduceAdd, Nat.reduceMul, Nat.reduceEqDiff, ↓reduceIte, reduceCtorEq, Nat.reduceBEq, Nat.reduceBNe, Nat.reducePow, Int.reduceLE, Int.reduceLT, Int.reduceNeg, Int.reduceToNat, Int.reduceEq, Int.reduceAdd, Int.reduceSub, Int.reduceMul, Int.reduceBEq, Int.reduceBNe, bm_box, bm_row, bk_box, bk_row, List.map_cons, List.map_nil, hand])) ?_ ?_ ?_; rotate_left)
    | rfl
    | (with_reducible refine And.intro ?_ ?_)
    | (simp (disch := omega) only [go_sem, Nat.reduceLT, Nat.reduceLeDiff, Nat.reduceAdd, Nat.reduceMul, Nat.reduceEqDiff, ↓reduceIte, reduceCtorEq, Nat.reduceBEq, Nat.reduceBNe, Nat.reducePow, Int.reduceLE, Int.reduceLT, Int.reduceNeg, Int.reduceToNat, Int.reduceEq, Int.reduceAdd, Int.reduceSub, Int.reduceMul, Int.reduceBEq, Int.reduceBNe, bm_box, bm_row, bk_box, bk_row, List.map_cons, List.map_nil, hand])
    | (exact retS_of rfl rfl rfl)
    | (refine DW.cond_tt rfl ?_)
    | (refine DW.cond_ff rfl ?_)
    | (refine DW.cond rfl ?_ ?_ <;> intro hc <;> (try simp only [go_sem] at hc))
    | (refine g_split ?_ ?_ <;> intro hc <;> (try simp only [hc]) <;> (try simp only [go_sem] at hc)))
        refine round_end rfl rfl (Ent.to ?_ ?_) <;> simp (disch := omega) only [wkT_cons, wkX_cons, wkT_nil, wkX_nil, get, Nat.reduceEqDiff, ↓reduceIte, ex_some, wk_self, wk_top, wk_nil, wkB_self, and_self, dI, i64_in, and_true, true_and, Int.natCast_add, Int.natCast_one, Int.ofNat_zero, Int.natCast_zero, capB, List.cons_append, List.nil_append]
      | false =>
        rw [if_neg (by decide)]
        repeat' (first
    | (with_reducible first | refine DW.seq ?_ | refine DW.block ?_ | refine DW.skip ?_ | refine DW.exit ?_ | refine DW.ret ?_ | refine DW.reg ?_)
    | (refine DW.ord rfl (WF.of (by first | rfl | simp (disch := omega) only [go_sem, Nat.reduceLT, Nat.reduceLeDiff, Nat.reduceAdd, Nat.reduceMul, Nat.reduceEqDiff, ↓reduceIte, reduceCtorEq, Nat.reduceBEq, Nat.reduceBNe, Nat.reducePow, Int.reduceLE, Int.reduceLT, Int.reduceNeg, Int.reduceToNat, Int.reduceEq, Int.reduceAdd, Int.reduceSub, Int.reduceMul, Int.reduceBEq, Int.reduceBNe, bm_box, bm_row, bk_box, bk_row, List.map_cons, List.map_nil])) ?_ ?_ ?_; rotate_left)
    | rfl
    | (with_reducible refine And.intro ?_ ?_)
    | (simp (disch := omega) only [go_sem, Nat.reduceLT, Nat.reduceLeDiff, Nat.reduceAdd, Nat.reduceMul, Nat.reduceEqDiff, ↓reduceIte, reduceCtorEq, Nat.reduceBEq, Nat.reduceBNe, Nat.reducePow, Int.reduceLE, Int.reduceLT, Int.reduceNeg, Int.reduceToNat, Int.reduceEq, Int.reduceAdd, Int.reduceSub, Int.reduceMul, Int.reduceBEq, Int.reduceBNe, bm_box, bm_row, bk_box, bk_row, List.map_cons, List.map_nil])
    | (exact retS_of rfl rfl rfl)
    | (refine DW.cond_tt rfl ?_)
    | (refine DW.cond_ff rfl ?_)
    | (refine DW.cond rfl ?_ ?_ <;> intro hc <;> (try simp only [go_sem] at hc))
    | (refine g_split ?_ ?_ <;> intro hc <;> (try simp only [hc]) <;> (try simp only [go_sem] at hc)))
        refine round_end rfl rfl (Ent.to ?_ ?_) <;> simp (disch := omega) only [wkT_cons, wkX_cons, wkT_nil, wkX_nil, get, Nat.reduceEqDiff, ↓reduceIte, ex_some, wk_self, wk_top, wk_nil, wkB_self, and_self, dI, i64_in, and_true, true_and, Int.natCast_add, Int.natCast_one, Int.ofNat_zero, Int.natCast_zero, capB, List.cons_append, List.nil_append]
    · rw [hrun]
      simp (disch := omega) only [go_sem, Nat.reduceLT, Nat.reduceLeDiff, Nat.reduceAdd, Nat.reduceMul, Nat.reduceEqDiff, ↓reduceIte, reduceCtorEq, Nat.reduceBEq, Nat.reduceBNe, Nat.reducePow, Int.reduceLE, Int.reduceLT, Int.reduceNeg, Int.reduceToNat, Int.reduceEq, Int.reduceAdd, Int.reduceSub, Int.reduceMul, Int.reduceBEq, Int.reduceBNe, bm_box, bm_row, bk_box, bk_row, Option.getD_some]
      have hfin : ∀ f, remB s e ≤ f → (acc ++ [(e : Int)]) ++ ordI l k f (remB s e) = R := fun f hf => by
        have h5 := i5 (s + 1) (by omega)
        rw [ordI, if_neg h0, hfd] at h5
        rw [ordI_fuel l k (s := remB s e) (by omega) f s hf (by omega), List.append_assoc]
        exact h5
      refine ⟨⟨⟨acc ++ [(e : Int)], remB s e, m1⟩, by dsimp only; omega, hm1, hse, by simp only [List.length_append, List.length_cons, List.length_nil]; omega, hfin⟩, ?_, Ent.to ?_ ?_⟩ <;> first | (show _ < _; (try simp only); omega) | (simp (disch := omega) only [wkT_cons, wkX_cons, wkT_nil, wkX_nil, get, Nat.reduceEqDiff, ↓reduceIte, ex_some, wk_self, wk_top, wk_nil, wkB_self, and_self, dI, i64_in, and_true, true_and, Int.natCast_add, Int.natCast_one, Int.ofNat_zero, Int.natCast_zero])
end Go.Dw.Seat
end
section
set_option linter.unusedSimpArgs false
set_option maxRecDepth 100000
namespace Go.Dw.Seat
open Go Go.Dw Go.Proofs Go.IntWalk
def untilF (r : CR) (st x : Int) : Nat → CLot → Int → Int
  | 0, l, more => if stateI r l = st then more else -1
  | k + 1, l, more => if stateI r l = st then more else untilF r st x k (l.after r x) (more + 1)
theorem crUntil (r : CR) (l : CLot) (st x : Int) (h : l.ok) (ht : 1 ≤ r.tests ∧ r.tests ≤ 20) (hm : 0 ≤ r.mean ∧ r.mean ≤ 100000) (hx : 0 ≤ x ∧ x ≤ 100000) (k : Nat) (hk : l.made + (k : Int) = r.tests) :
    DCall Tryd.prog 62 [dLot r l, dI st, dI x] [] (dI (untilF r st x k l 0)) [] := by
  generalize hR : untilF r st x k l 0 = R
  have h0 := h.made
  refine DCall.of Tryd.func62 sf62 hb62 (Nat.le_of_ble_eq_true rfl) (okRes_nil fun _ => rfl) ?_; simp only [s62, Mv, Sg, Ld, Fa, Xt, Ix, Ln, Cl, Oo, Og, idxs, Nat.reduceAdd]
  repeat' (first
    | (with_reducible first | refine DW.seq ?_ | refine DW.block ?_ | refine DW.skip ?_ | refine DW.exit ?_ | refine DW.ret ?_ | refine DW.reg ?_)
    | (simp (disch := omega) only [go_sem, Nat.reduceLT, Nat.reduceLeDiff, Nat.reduceAdd, Nat.reduceMul, Nat.reduceEqDiff, ↓reduceIte, reduceCtorEq, Nat.reduceBEq, Nat.reduceBNe, Nat.reducePow, Int.reduceLE, Int.reduceLT, Int.reduceNeg, Int.reduceToNat, Int.reduceEq, Int.reduceAdd, Int.reduceSub, Int.reduceMul, Int.reduceBEq, Int.reduceBNe, Blk.men, Blk.keysIn])
    | (exact retS_of rfl rfl rfl)
    | (refine DW.cond_tt rfl ?_)
    | (refine DW.cond_ff rfl ?_)
    | (refine DW.cond rfl ?_ ?_ <;> intro hc <;> (try simp only [go_sem] at hc))
    | (refine g_split ?_ ?_ <;> intro hc <;> (try simp only [hc]) <;> (try simp only [go_sem] at hc)))
  refine DW.loop (ι := { y : Nat × CLot × Int // y.2.1.ok ∧ y.2.1.made + (y.1 : Int) = r.tests ∧ untilF r st x y.1 y.2.1 y.2.2 = R ∧ 0 ≤ y.2.2 ∧ y.2.2 + (y.1 : Int) ≤ 100 })
    (fun y => ⟨24, [(7, dI y.1.2.2), (3, .box 3 0), (2, dI x), (1, dI st)], [(3, .box [dI r.tests, dI r.mean, dI r.low, dI r.bad, dI y.1.2.1.off, dI y.1.2.1.made, dI y.1.2.1.ws, dI y.1.2.1.wb, dI y.1.2.1.bs, dI y.1.2.1.bb])]⟩) (fun y => y.1.1) ⟨(k, l, 0), h, hk, hR, Int.le_refl _, by dsimp only; omega⟩ ?_ ?_
  · refine Ent.to ?_ ?_ <;> simp (disch := omega) only [wkT_cons, wkX_cons, wkT_nil, wkX_nil, get, Nat.reduceEqDiff, ↓reduceIte, ex_some, wk_self, wk_top, wk_nil, wkB_self, and_self, dI, i64_in, and_true, true_and, Int.natCast_add, Int.natCast_one, Int.ofNat_zero, Int.natCast_zero]
  rintro ⟨⟨j, l', more⟩, i1, i2, i3, i4, i5⟩
  dsimp only at i1 i2 i3 i4 i5 ⊢
  have hmd := i1.made
  have hst := crState r l' i1 ht hm (by omega)
  by_cases hs : stateI r l' = st
  · have he : (stateI r l' == st) = true := by rw [hs]; simp
    have hr : R = more := by
      rw [← i3]
      cases j with
      | zero => rw [untilF, if_pos hs]
      | succ j => rw [untilF, if_pos hs]
    repeat' (first
    | (with_reducible first | refine DW.seq ?_ | refine DW.block ?_ | refine DW.skip ?_ | refine DW.exit ?_ | refine DW.ret ?_ | refine DW.reg ?_)
    | (simp (disch := omega) only [go_sem, Nat.reduceLT, Nat.reduceLeDiff, Nat.reduceAdd, Nat.reduceMul, Nat.reduceEqDiff, ↓reduceIte, reduceCtorEq, Nat.reduceBEq, Nat.reduceBNe, Nat.reducePow, Int.reduceLE, Int.reduceLT, Int.reduceNeg, Int.reduceToNat, Int.reduceEq, Int.reduceAdd, Int.reduceSub, Int.reduceMul, Int.reduceBEq, Int.reduceBNe, Blk.men, Blk.keysIn, he])
    | (exact retS_of rfl rfl rfl)
    | (refine DW.cond_tt rfl ?_)
    | (refine call_c (hst) (by decide) ?_)
    | (refine DW.cond_ff rfl ?_)
    | (refine DW.cond rfl ?_ ?_ <;> intro hc <;> (try simp only [go_sem] at hc))
    | (refine g_split ?_ ?_ <;> intro hc <;> (try simp only [hc]) <;> (try simp only [go_sem] at hc)))
    refine retS_of rfl ?_ rfl; simp only [oneD, St.op, get, Nat.reduceEqDiff, ↓reduceIte, Option.getD_some, bD, dI]
    rw [hr]
  · have he : (stateI r l' == st) = false := by rw [beq_eq_false_iff_ne]; exact hs
    rcases j with _ | j
    · have hme : (l'.made == r.tests) = true := by rw [beq_iff_eq]; omega
      have hr : R = -1 := by rw [← i3, untilF, if_neg hs]
      repeat' (first
    | (with_reducible first | refine DW.seq ?_ | refine DW.block ?_ | refine DW.skip ?_ | refine DW.exit ?_ | refine DW.ret ?_ | refine DW.reg ?_)
    | (simp (disch := omega) only [go_sem, Nat.reduceLT, Nat.reduceLeDiff, Nat.reduceAdd, Nat.reduceMul, Nat.reduceEqDiff, ↓reduceIte, reduceCtorEq, Nat.reduceBEq, Nat.reduceBNe, Nat.reducePow, Int.reduceLE, Int.reduceLT, Int.reduceNeg, Int.reduceToNat, Int.reduceEq, Int.reduceAdd, Int.reduceSub, Int.reduceMul, Int.reduceBEq, Int.reduceBNe, Blk.men, Blk.keysIn, he, hme])
    | (exact retS_of rfl rfl rfl)
    | (refine DW.cond_tt rfl ?_)
    | (refine call_c (hst) (by decide) ?_)
    | (refine DW.cond_ff rfl ?_)
    | (refine DW.cond rfl ?_ ?_ <;> intro hc <;> (try simp only [go_sem] at hc))
    | (refine g_split ?_ ?_ <;> intro hc <;> (try simp only [hc]) <;> (try simp only [go_sem] at hc)))
      refine retS_of rfl ?_ rfl; simp only [oneD, St.op, get, Nat.reduceEqDiff, ↓reduceIte, Option.getD_some, bD, dI]
      rw [hr]
    · have hme : (l'.made == r.tests) = false := by rw [beq_eq_false_iff_ne]; omega
      have hn : untilF r st x j (l'.after r x) (more + 1) = R := by rw [← i3, untilF, if_neg hs]
      have haf := crAfter r l' x i1 hx
      have hok := CLot.ok_after (r := r) i1 (by omega) hx
      have hma : (l'.after r x).made = l'.made + 1 := rfl
      generalize hla : l'.after r x = l2 at *
      repeat' (first
    | (with_reducible first | refine DW.seq ?_ | refine DW.block ?_ | refine DW.skip ?_ | refine DW.exit ?_ | refine DW.ret ?_ | refine DW.reg ?_)
    | (simp (disch := omega) only [go_sem, Nat.reduceLT, Nat.reduceLeDiff, Nat.reduceAdd, Nat.reduceMul, Nat.reduceEqDiff, ↓reduceIte, reduceCtorEq, Nat.reduceBEq, Nat.reduceBNe, Nat.reducePow, Int.reduceLE, Int.reduceLT, Int.reduceNeg, Int.reduceToNat, Int.reduceEq, Int.reduceAdd, Int.reduceSub, Int.reduceMul, Int.reduceBEq, Int.reduceBNe, Blk.men, Blk.keysIn, he, hme])
    | (exact retS_of rfl rfl rfl)
    | (refine DW.cond_tt rfl ?_)
    | (refine call_c (hst) (by decide) ?_)
    | (refine call_c (haf) (by decide) ?_)
    | (refine DW.cond_ff rfl ?_)
    | (refine DW.cond rfl ?_ ?_ <;> intro hc <;> (try simp only [go_sem] at hc))
    | (refine g_split ?_ ?_ <;> intro hc <;> (try simp only [hc]) <;> (try simp only [go_sem] at hc)))
      refine ⟨⟨(j, l2, more + 1), hok, by dsimp only; omega, hn, by dsimp only; omega, by dsimp only; omega⟩, ?_, Ent.to ?_ ?_⟩ <;> first | (show _ < _; (try simp only); omega) | (simp (disch := omega) only [wkT_cons, wkX_cons, wkT_nil, wkX_nil, get, Nat.reduceEqDiff, ↓reduceIte, ex_some, wk_self, wk_top, wk_nil, wkB_self, and_self, dI, i64_in, and_true, true_and, Int.natCast_add, Int.natCast_one, Int.ofNat_zero, Int.natCast_zero])
theorem crNeed (b : Bool) (r : CR) (rs : List Int) (off : Int) (h : CRok r rs off) (k : Nat) (hk : (rs.length : Int) + (k : Int) = r.tests) :
    DCall Tryd.prog 20 [dCR r, dIs b rs, dI off] [] (.tup [dI (untilF r 1 100000 k (lotOf r off rs) 0), dI (untilF r 2 0 k (lotOf r off rs) 0), dI 0]) [] := by
  have hlen := h.len
  have ht := h.tests
  have hm := (lotOf_made r off rs).1
  have hok := lotOf_ok (r := r) h.off rs (by omega) h.rs
  have h1 := crRule b r rs off h
  have h2 := crNew b r rs off h
  have h3 := crUntil r (lotOf r off rs) 1 100000 hok h.tests h.mean (by decide) k (by omega)
  have h4 := crUntil r (lotOf r off rs) 2 0 hok h.tests h.mean (by decide) k (by omega)
  refine DCall.of Tryd.func20 sf20 hb20 (Nat.le_of_ble_eq_true rfl) (okRes_nil fun _ => rfl) ?_; simp only [s20, Mv, Sg, Ld, Fa, Xt, Ix, Ln, Cl, Oo, Og, idxs, Nat.reduceAdd]
  repeat' (first
    | (with_reducible first | refine DW.seq ?_ | refine DW.block ?_ | refine DW.skip ?_ | refine DW.exit ?_ | refine DW.ret ?_ | refine DW.reg ?_)
    | (refine DW.dreg rfl (WF.of ?_) ?_; first | rfl | skip)
    | (simp (disch := omega) only [go_sem, Nat.reduceLT, Nat.reduceLeDiff, Nat.reduceAdd, Nat.reduceMul, Nat.reduceEqDiff, ↓reduceIte, reduceCtorEq, Nat.reduceBEq, Nat.reduceBNe, Nat.reducePow, Int.reduceLE, Int.reduceLT, Int.reduceNeg, Int.reduceToNat, Int.reduceEq, Int.reduceAdd, Int.reduceSub, Int.reduceMul, Int.reduceBEq, Int.reduceBNe, Blk.men, Blk.keysIn])
    | (exact retS_of rfl rfl rfl)
    | (refine DW.cond_tt rfl ?_)
    | (refine call_c (h1) (by decide) ?_)
    | (refine call_c (h2) (by decide) ?_)
    | (refine call_c (h3) (by decide) ?_)
    | (refine call_c (h4) (by decide) ?_)
    | (refine DW.cond_ff rfl ?_)
    | (refine DW.cond rfl ?_ ?_ <;> intro hc <;> (try simp only [go_sem] at hc))
    | (refine g_split ?_ ?_ <;> intro hc <;> (try simp only [hc]) <;> (try simp only [go_sem] at hc)))
end Go.Dw.Seat
end
section
set_option linter.unusedSimpArgs false
set_option maxRecDepth 100000
namespace Go.Dw.Seat
open Go Go.Dw Go.Proofs Go.IntWalk
theorem laSpan (a b : Int) : DCall Tryd.prog 31 [dI a, dI b] [] (.agg [dI a, dI b]) [] := by
  refine DCall.of Tryd.func31 sf31 hb31 (Nat.le_of_ble_eq_true rfl) (okRes_nil fun _ => rfl) ?_; simp only [s31, Mv, Sg, Ld, Fa, Xt, Ix, Ln, Cl, Oo, Og, idxs, Nat.reduceAdd]
  repeat' (first
    | (with_reducible first | refine DW.seq ?_ | refine DW.block ?_ | refine DW.skip ?_ | refine DW.exit ?_ | refine DW.ret ?_ | refine DW.reg ?_)
    | (simp (disch := omega) only [go_sem, Nat.reduceLT, Nat.reduceLeDiff, Nat.reduceAdd, Nat.reduceMul, Nat.reduceEqDiff, ↓reduceIte, reduceCtorEq, Nat.reduceBEq, Nat.reduceBNe, Nat.reducePow, Int.reduceLE, Int.reduceLT, Int.reduceNeg, Int.reduceToNat, Int.reduceEq, Int.reduceAdd, Int.reduceSub, Int.reduceMul, Int.reduceBEq, Int.reduceBNe, bm_box, bm_row, bk_box, bk_row])
    | (exact retS_of rfl rfl rfl)
    | (refine DW.cond_tt rfl ?_)
    | (refine DW.cond_ff rfl ?_)
    | (refine DW.cond rfl ?_ ?_ <;> intro hc <;> (try simp only [go_sem] at hc))
    | (refine g_split ?_ ?_ <;> intro hc <;> (try simp only [hc]) <;> (try simp only [go_sem] at hc)))
theorem laLoad (b : Lod) : DCall Tryd.prog 57 [dI b.sl, dI b.sh, dI b.wl, dI b.wh] [] (.agg ((eLd b).map D.c)) [] := by
  have h1 := laSpan b.sl b.sh
  have h2 := laSpan b.wl b.wh
  refine DCall.of Tryd.func57 sf57 hb57 (Nat.le_of_ble_eq_true rfl) (okRes_nil fun _ => rfl) ?_; simp only [s57, Mv, Sg, Ld, Fa, Xt, Ix, Ln, Cl, Oo, Og, idxs, Nat.reduceAdd]
  repeat' (first
    | (with_reducible first | refine DW.seq ?_ | refine DW.block ?_ | refine DW.skip ?_ | refine DW.exit ?_ | refine DW.ret ?_ | refine DW.reg ?_)
    | (simp (disch := omega) only [go_sem, Nat.reduceLT, Nat.reduceLeDiff, Nat.reduceAdd, Nat.reduceMul, Nat.reduceEqDiff, ↓reduceIte, reduceCtorEq, Nat.reduceBEq, Nat.reduceBNe, Nat.reducePow, Int.reduceLE, Int.reduceLT, Int.reduceNeg, Int.reduceToNat, Int.reduceEq, Int.reduceAdd, Int.reduceSub, Int.reduceMul, Int.reduceBEq, Int.reduceBNe, bm_box, bm_row, bk_box, bk_row])
    | (exact retS_of rfl rfl rfl)
    | (refine DW.cond_tt rfl ?_)
    | (refine call_c (h1) (by decide) ?_)
    | (refine call_c (h2) (by decide) ?_)
    | (refine DW.cond_ff rfl ?_)
    | (refine DW.cond rfl ?_ ?_ <;> intro hc <;> (try simp only [go_sem] at hc))
    | (refine g_split ?_ ?_ <;> intro hc <;> (try simp only [hc]) <;> (try simp only [go_sem] at hc)))
def tabEx : List (Int × Int) := [(0, 1000), (10, 800), (30, 600)]
theorem laTable : DCall Tryd.prog 58 [] [] (.c (.sl false 2 (rows eK tabEx))) [] := by
  refine DCall.of Tryd.func58 sf58 hb58 (Nat.le_of_ble_eq_true rfl) (okRes_nil fun _ => rfl) ?_; simp only [s58, Mv, Sg, Ld, Fa, Xt, Ix, Ln, Cl, Oo, Og, idxs, Nat.reduceAdd]
  repeat' (first
    | (with_reducible first | refine DW.seq ?_ | refine DW.block ?_ | refine DW.skip ?_ | refine DW.exit ?_ | refine DW.ret ?_ | refine DW.reg ?_)
    | (simp (disch := omega) only [go_sem, Nat.reduceLT, Nat.reduceLeDiff, Nat.reduceAdd, Nat.reduceMul, Nat.reduceEqDiff, ↓reduceIte, reduceCtorEq, Nat.reduceBEq, Nat.reduceBNe, Nat.reducePow, Int.reduceLE, Int.reduceLT, Int.reduceNeg, Int.reduceToNat, Int.reduceEq, Int.reduceAdd, Int.reduceSub, Int.reduceMul, Int.reduceBEq, Int.reduceBNe, bm_box, bm_row, bk_box, bk_row])
    | (exact retS_of rfl rfl rfl)
    | (refine DW.cond_tt rfl ?_)
    | (refine DW.cond_ff rfl ?_)
    | (refine DW.cond rfl ?_ ?_ <;> intro hc <;> (try simp only [go_sem] at hc))
    | (refine g_split ?_ ?_ <;> intro hc <;> (try simp only [hc]) <;> (try simp only [go_sem] at hc)))
  (refine retS_ent (Ent.rel 4 rfl) ?_; simp (disch := omega) only [go_sem, Nat.reduceLT, Nat.reduceLeDiff, Nat.reduceAdd, Nat.reduceMul, Nat.reduceEqDiff, ↓reduceIte, reduceCtorEq, Nat.reduceBEq, Nat.reduceBNe, Nat.reducePow, Int.reduceLE, Int.reduceLT, Int.reduceNeg, Int.reduceToNat, Int.reduceEq, Int.reduceAdd, Int.reduceSub, Int.reduceMul, Int.reduceBEq, Int.reduceBNe, bm_box, bm_row, bk_box, bk_row])
  refine retS_wk rfl ?_ (by simp only [Blk.nb, rowC_nb, D.nb, D.nbs, C.nb, C.nbs, C.nbss, rows_nb eI_nb, Bool.and_true, Bool.not_false, Bool.and_self, bD, dI, iD, rows_nb eK_nb, rows_nb eLd_nb]); exact .refl _
theorem laBoxesC (b : Bool) (l : List Lod) (hl : l.length ≤ 2 ^ 36) : DCall Tryd.prog 33 [.c (.sl b 4 (rows eLd l))] [] (.c (.sl false 4 (rows eLd l))) [] := by
  refine DCall.of Tryd.func33 sf33 hb33 (Nat.le_of_ble_eq_true rfl) (okRes_nil fun _ => rfl) ?_; simp only [s33, Mv, Sg, Ld, Fa, Xt, Ix, Ln, Cl, Oo, Og, idxs, Nat.reduceAdd]
  repeat' (first
    | (with_reducible first | refine DW.seq ?_ | refine DW.block ?_ | refine DW.skip ?_ | refine DW.exit ?_ | refine DW.ret ?_ | refine DW.reg ?_)
    | (simp (disch := omega) only [go_sem, Nat.reduceLT, Nat.reduceLeDiff, Nat.reduceAdd, Nat.reduceMul, Nat.reduceEqDiff, ↓reduceIte, reduceCtorEq, Nat.reduceBEq, Nat.reduceBNe, Nat.reducePow, Int.reduceLE, Int.reduceLT, Int.reduceNeg, Int.reduceToNat, Int.reduceEq, Int.reduceAdd, Int.reduceSub, Int.reduceMul, Int.reduceBEq, Int.reduceBNe, bm_box, bm_row, bk_box, bk_row])
    | (exact retS_of rfl rfl rfl)
    | (refine DW.cond_tt rfl ?_)
    | (refine DW.cond_ff rfl ?_)
    | (refine DW.cond rfl ?_ ?_ <;> intro hc <;> (try simp only [go_sem] at hc))
    | (refine g_split ?_ ?_ <;> intro hc <;> (try simp only [hc]) <;> (try simp only [go_sem] at hc)))
  (refine retS_ent (Ent.rel 3 rfl) ?_; simp (disch := omega) only [go_sem, Nat.reduceLT, Nat.reduceLeDiff, Nat.reduceAdd, Nat.reduceMul, Nat.reduceEqDiff, ↓reduceIte, reduceCtorEq, Nat.reduceBEq, Nat.reduceBNe, Nat.reducePow, Int.reduceLE, Int.reduceLT, Int.reduceNeg, Int.reduceToNat, Int.reduceEq, Int.reduceAdd, Int.reduceSub, Int.reduceMul, Int.reduceBEq, Int.reduceBNe, bm_box, bm_row, bk_box, bk_row])
  refine retS_wk rfl ?_ (by simp only [Blk.nb, rowC_nb, D.nb, D.nbs, C.nb, C.nbs, C.nbss, rows_nb eI_nb, Bool.and_true, Bool.not_false, Bool.and_self, bD, dI, iD, rows_nb eK_nb, rows_nb eLd_nb]); exact .refl _
theorem laStepsC (b : Bool) (l : List (Int × Int)) (hl : l.length ≤ 2 ^ 36) : DCall Tryd.prog 34 [.c (.sl b 2 (rows eK l))] [] (.c (.sl false 2 (rows eK l))) [] := by
  refine DCall.of Tryd.func34 sf34 hb34 (Nat.le_of_ble_eq_true rfl) (okRes_nil fun _ => rfl) ?_; simp only [s34, Mv, Sg, Ld, Fa, Xt, Ix, Ln, Cl, Oo, Og, idxs, Nat.reduceAdd]
  repeat' (first
    | (with_reducible first | refine DW.seq ?_ | refine DW.block ?_ | refine DW.skip ?_ | refine DW.exit ?_ | refine DW.ret ?_ | refine DW.reg ?_)
    | (simp (disch := omega) only [go_sem, Nat.reduceLT, Nat.reduceLeDiff, Nat.reduceAdd, Nat.reduceMul, Nat.reduceEqDiff, ↓reduceIte, reduceCtorEq, Nat.reduceBEq, Nat.reduceBNe, Nat.reducePow, Int.reduceLE, Int.reduceLT, Int.reduceNeg, Int.reduceToNat, Int.reduceEq, Int.reduceAdd, Int.reduceSub, Int.reduceMul, Int.reduceBEq, Int.reduceBNe, bm_box, bm_row, bk_box, bk_row])
    | (exact retS_of rfl rfl rfl)
    | (refine DW.cond_tt rfl ?_)
    | (refine DW.cond_ff rfl ?_)
    | (refine DW.cond rfl ?_ ?_ <;> intro hc <;> (try simp only [go_sem] at hc))
    | (refine g_split ?_ ?_ <;> intro hc <;> (try simp only [hc]) <;> (try simp only [go_sem] at hc)))
  (refine retS_ent (Ent.rel 3 rfl) ?_; simp (disch := omega) only [go_sem, Nat.reduceLT, Nat.reduceLeDiff, Nat.reduceAdd, Nat.reduceMul, Nat.reduceEqDiff, ↓reduceIte, reduceCtorEq, Nat.reduceBEq, Nat.reduceBNe, Nat.reducePow, Int.reduceLE, Int.reduceLT, Int.reduceNeg, Int.reduceToNat, Int.reduceEq, Int.reduceAdd, Int.reduceSub, Int.reduceMul, Int.reduceBEq, Int.reduceBNe, bm_box, bm_row, bk_box, bk_row])
  refine retS_wk rfl ?_ (by simp only [Blk.nb, rowC_nb, D.nb, D.nbs, C.nb, C.nbs, C.nbss, rows_nb eI_nb, Bool.and_true, Bool.not_false, Bool.and_self, bD, dI, iD, rows_nb eK_nb, rows_nb eLd_nb]); exact .refl _
theorem refSame (b1 b2 : Bool) (s t : List Int) (hs : s.length ≤ 2 ^ 36) (ht : t.length ≤ 2 ^ 36) : DCall Tryd.prog 22 [dIs b1 s, dIs b2 t] [] (bD (decide (s = t))) [] := by
  by_cases hl : s.length = t.length
  · have e : ((s.length : Int) != t.length) = false := by rw [hl]; simp
    refine DCall.of Tryd.func22 sf22 hb22 (Nat.le_of_ble_eq_true rfl) (okRes_nil fun _ => rfl) ?_; simp only [s22, Mv, Sg, Ld, Fa, Xt, Ix, Ln, Cl, Oo, Og, idxs, Nat.reduceAdd]
    repeat' (first
    | (with_reducible first | refine DW.seq ?_ | refine DW.block ?_ | refine DW.skip ?_ | refine DW.exit ?_ | refine DW.ret ?_ | refine DW.reg ?_)
    | (refine DW.dreg rfl (WF.of ?_) ?_; first | rfl | skip)
    | (simp (disch := omega) only [go_sem, Nat.reduceLT, Nat.reduceLeDiff, Nat.reduceAdd, Nat.reduceMul, Nat.reduceEqDiff, ↓reduceIte, reduceCtorEq, Nat.reduceBEq, Nat.reduceBNe, Nat.reducePow, Int.reduceLE, Int.reduceLT, Int.reduceNeg, Int.reduceToNat, Int.reduceEq, Int.reduceAdd, Int.reduceSub, Int.reduceMul, Int.reduceBEq, Int.reduceBNe, bm_box, bm_row, bk_box, bk_row, e])
    | (exact retS_of rfl rfl rfl)
    | (refine DW.cond_tt rfl ?_)
    | (refine DW.cond_ff rfl ?_)
    | (refine DW.cond rfl ?_ ?_ <;> intro hc <;> (try simp only [go_sem] at hc))
    | (refine g_split ?_ ?_ <;> intro hc <;> (try simp only [hc]) <;> (try simp only [go_sem] at hc)))
    refine DW.loop (ι := { i : Nat // i ≤ s.length ∧ ∀ j, j < i → s[j]? = t[j]? }) (fun i => ⟨26, [(5, dI i.1), (1, dIs b2 t), (0, dIs b1 s)], []⟩) (fun i => s.length - i.1) ⟨0, Nat.zero_le _, fun j h => by omega⟩ ?_ ?_
    · refine Ent.to ?_ ?_ <;> simp (disch := omega) only [wkT_cons, wkX_cons, wkT_nil, wkX_nil, get, Nat.reduceEqDiff, ↓reduceIte, ex_some, wk_self, wk_top, wk_nil, wkB_self, and_self, dI, i64_in, and_true, true_and, Int.natCast_add, Int.natCast_one, Int.ofNat_zero, Int.natCast_zero]
    rintro ⟨i, hi, hij⟩
    rcases at_or s i hi with ⟨v, hv, hlt, hd⟩ | ⟨he, hd⟩
    · obtain ⟨u, hu⟩ := getE (l := t) (i := i) (by omega)
      by_cases hvu : v = u
      · have d1 : (v != u) = false := by rw [hvu]; simp
        repeat' (first
    | (with_reducible first | refine DW.seq ?_ | refine DW.block ?_ | refine DW.skip ?_ | refine DW.exit ?_ | refine DW.ret ?_ | refine DW.reg ?_)
    | (refine DW.dreg rfl (WF.of ?_) ?_; first | rfl | skip)
    | (simp (disch := omega) only [go_sem, Nat.reduceLT, Nat.reduceLeDiff, Nat.reduceAdd, Nat.reduceMul, Nat.reduceEqDiff, ↓reduceIte, reduceCtorEq, Nat.reduceBEq, Nat.reduceBNe, Nat.reducePow, Int.reduceLE, Int.reduceLT, Int.reduceNeg, Int.reduceToNat, Int.reduceEq, Int.reduceAdd, Int.reduceSub, Int.reduceMul, Int.reduceBEq, Int.reduceBNe, bm_box, bm_row, bk_box, bk_row, hd, hv, hu, d1])
    | (exact retS_of rfl rfl rfl)
    | (refine DW.cond_tt rfl ?_)
    | (refine DW.cond_ff rfl ?_)
    | (refine DW.cond rfl ?_ ?_ <;> intro hc <;> (try simp only [go_sem] at hc))
    | (refine g_split ?_ ?_ <;> intro hc <;> (try simp only [hc]) <;> (try simp only [go_sem] at hc)))
        refine ⟨⟨i + 1, by omega, fun j hj => by
          rcases Nat.lt_or_ge j i with h | h
          · exact hij j h
          · obtain rfl : j = i := by omega
            rw [hv, hu, hvu]⟩, ?_, Ent.to ?_ ?_⟩ <;> first | (show _ < _; (try simp only); omega) | (simp (disch := omega) only [wkT_cons, wkX_cons, wkT_nil, wkX_nil, get, Nat.reduceEqDiff, ↓reduceIte, ex_some, wk_self, wk_top, wk_nil, wkB_self, and_self, dI, i64_in, and_true, true_and, Int.natCast_add, Int.natCast_one, Int.ofNat_zero, Int.natCast_zero])
      · have d1 : (v != u) = true := by simpa using hvu
        have hne : decide (s = t) = false := by
          rw [decide_eq_false_iff_not]
          rintro rfl
          rw [hv] at hu; cases hu; exact hvu rfl
        repeat' (first
    | (with_reducible first | refine DW.seq ?_ | refine DW.block ?_ | refine DW.skip ?_ | refine DW.exit ?_ | refine DW.ret ?_ | refine DW.reg ?_)
    | (refine DW.dreg rfl (WF.of ?_) ?_; first | rfl | skip)
    | (simp (disch := omega) only [go_sem, Nat.reduceLT, Nat.reduceLeDiff, Nat.reduceAdd, Nat.reduceMul, Nat.reduceEqDiff, ↓reduceIte, reduceCtorEq, Nat.reduceBEq, Nat.reduceBNe, Nat.reducePow, Int.reduceLE, Int.reduceLT, Int.reduceNeg, Int.reduceToNat, Int.reduceEq, Int.reduceAdd, Int.reduceSub, Int.reduceMul, Int.reduceBEq, Int.reduceBNe, bm_box, bm_row, bk_box, bk_row, hd, hv, hu, d1])
    | (exact retS_of rfl rfl rfl)
    | (refine DW.cond_tt rfl ?_)
    | (refine DW.cond_ff rfl ?_)
    | (refine DW.cond rfl ?_ ?_ <;> intro hc <;> (try simp only [go_sem] at hc))
    | (refine g_split ?_ ?_ <;> intro hc <;> (try simp only [hc]) <;> (try simp only [go_sem] at hc)))
        refine retS_of rfl ?_ rfl; simp only [oneD, St.op, get, Nat.reduceEqDiff, ↓reduceIte, Option.getD_some, bD, dI]
        rw [hne]
    · have hst : decide (s = t) = true := by
        rw [decide_eq_true_eq]
        apply List.ext_getElem?
        intro j
        rcases Nat.lt_or_ge j i with h | h
        · exact hij j h
        · rw [List.getElem?_eq_none (by omega), List.getElem?_eq_none (by omega)]
      repeat' (first
    | (with_reducible first | refine DW.seq ?_ | refine DW.block ?_ | refine DW.skip ?_ | refine DW.exit ?_ | refine DW.ret ?_ | refine DW.reg ?_)
    | (refine DW.dreg rfl (WF.of ?_) ?_; first | rfl | skip)
    | (simp (disch := omega) only [go_sem, Nat.reduceLT, Nat.reduceLeDiff, Nat.reduceAdd, Nat.reduceMul, Nat.reduceEqDiff, ↓reduceIte, reduceCtorEq, Nat.reduceBEq, Nat.reduceBNe, Nat.reducePow, Int.reduceLE, Int.reduceLT, Int.reduceNeg, Int.reduceToNat, Int.reduceEq, Int.reduceAdd, Int.reduceSub, Int.reduceMul, Int.reduceBEq, Int.reduceBNe, bm_box, bm_row, bk_box, bk_row, hd])
    | (exact retS_of rfl rfl rfl)
    | (refine DW.cond_tt rfl ?_)
    | (refine DW.cond_ff rfl ?_)
    | (refine DW.cond rfl ?_ ?_ <;> intro hc <;> (try simp only [go_sem] at hc))
    | (refine g_split ?_ ?_ <;> intro hc <;> (try simp only [hc]) <;> (try simp only [go_sem] at hc)))
      refine retS_of rfl ?_ rfl; simp only [oneD, St.op, get, Nat.reduceEqDiff, ↓reduceIte, Option.getD_some, bD, dI]
      rw [hst]
  · have e : ((s.length : Int) != t.length) = true := by rw [bne_iff_ne]; omega
    have hne : decide (s = t) = false := by
      rw [decide_eq_false_iff_not]
      rintro rfl
      exact hl rfl
    rw [hne]
    refine DCall.of Tryd.func22 sf22 hb22 (Nat.le_of_ble_eq_true rfl) (okRes_nil fun _ => rfl) ?_; simp only [s22, Mv, Sg, Ld, Fa, Xt, Ix, Ln, Cl, Oo, Og, idxs, Nat.reduceAdd]
    repeat' (first
    | (with_reducible first | refine DW.seq ?_ | refine DW.block ?_ | refine DW.skip ?_ | refine DW.exit ?_ | refine DW.ret ?_ | refine DW.reg ?_)
    | (refine DW.dreg rfl (WF.of ?_) ?_; first | rfl | skip)
    | (simp (disch := omega) only [go_sem, Nat.reduceLT, Nat.reduceLeDiff, Nat.reduceAdd, Nat.reduceMul, Nat.reduceEqDiff, ↓reduceIte, reduceCtorEq, Nat.reduceBEq, Nat.reduceBNe, Nat.reducePow, Int.reduceLE, Int.reduceLT, Int.reduceNeg, Int.reduceToNat, Int.reduceEq, Int.reduceAdd, Int.reduceSub, Int.reduceMul, Int.reduceBEq, Int.reduceBNe, bm_box, bm_row, bk_box, bk_row, e])
    | (exact retS_of rfl rfl rfl)
    | (refine DW.cond_tt rfl ?_)
    | (refine DW.cond_ff rfl ?_)
    | (refine DW.cond rfl ?_ ?_ <;> intro hc <;> (try simp only [go_sem] at hc))
    | (refine g_split ?_ ?_ <;> intro hc <;> (try simp only [hc]) <;> (try simp only [go_sem] at hc)))
end Go.Dw.Seat
end
section
set_option linter.unusedSimpArgs false
set_option maxRecDepth 100000
namespace Go.Dw.Seat
open Go Go.Dw Go.Proofs Go.IntWalk
def bxEx : Lod := ⟨300, 320, 100, 110⟩
def orEx : List Lod := [⟨100, 100, 50, 50⟩, ⟨200, 200, 100, 100⟩, ⟨40, 40, 60, 60⟩]
def moEx : List Lod := [⟨100, 100, 50, 50⟩, ⟨40, 40, 60, 60⟩, ⟨50, 50, 60, 60⟩]
def ruEx : CR := ⟨5, 100, 80, 1⟩
theorem okB {l : List Lod} (h : (l.all fun b => decide (0 ≤ b.sl ∧ b.sl ≤ b.sh ∧ b.sh ≤ 20000000) && decide (0 ≤ b.wl ∧ b.wl ≤ b.wh ∧ b.wh ≤ 100000)) = true) : ∀ b ∈ l, b.ok := fun b hb => by
  have := List.all_eq_true.1 h b hb
  simp only [Bool.and_eq_true, decide_eq_true_eq] at this
  exact ⟨this.1, this.2⟩
theorem tabEx_ok : TabF tabEx := ⟨by decide, fun u hu => by cases hu; rfl, by decide, fun i u v hu hv => by
  rcases i with _ | _ | _ | i
  · cases hu; cases hv; decide
  · cases hu; cases hv; decide
  · cases hv
  · cases hv⟩
theorem tab1_ok : TabF [((0 : Int), (1000 : Int))] := ⟨by decide, fun u hu => by cases hu; rfl, by decide, fun i u v hu hv => by
  rcases i with _ | i
  · cases hv
  · cases hv⟩
theorem exRule (rs : List Int) (h : (rs.all fun x => decide (0 ≤ x ∧ x ≤ 100000)) = true) (hl : rs.length ≤ 5) : CRok ruEx rs 5 := ⟨by decide, by decide, by decide, by decide, by decide, by show (rs.length : Int) ≤ 5; omega, fun x hx => by simpa using List.all_eq_true.1 h x hx⟩
theorem exDec1 (b : Bool) : DCall Tryd.prog 19 [dCR ruEx, dIs b [120, 110, 90], dI 5] [] (.tup [dI 3, dI 0]) [] := by
  have := crDecide b ruEx [120, 110, 90] 5 (exRule _ (by decide) (by decide))
  rwa [show stateI ruEx (lotOf ruEx 5 [120, 110, 90]) = 3 by decide] at this
theorem exDec2 (b : Bool) : DCall Tryd.prog 19 [dCR ruEx, dIs b [120, 110, 70, 60], dI 5] [] (.tup [dI 2, dI 0]) [] := by
  have := crDecide b ruEx [120, 110, 70, 60] 5 (exRule _ (by decide) (by decide))
  rwa [show stateI ruEx (lotOf ruEx 5 [120, 110, 70, 60]) = 2 by decide] at this
theorem exNeed (b : Bool) : DCall Tryd.prog 20 [dCR ruEx, dIs b [120, 110, 90], dI 5] [] (.tup [dI 1, dI 2, dI 0]) [] := by
  have := crNeed b ruEx [120, 110, 90] 5 (exRule _ (by decide) (by decide)) 2 (by decide)
  rwa [show untilF ruEx 1 100000 2 (lotOf ruEx 5 [120, 110, 90]) 0 = 1 by decide, show untilF ruEx 2 0 2 (lotOf ruEx 5 [120, 110, 90]) 0 = 2 by decide] at this
theorem exOdd (b : Bool) : DCall Tryd.prog 27 [dIs b [100, 130, 104, 98], dI 5, dI 10] [] (.tup [dIs false [1], dI 0]) [] := by
  have := crOdd b [100, 130, 104, 98] 5 10 (by decide) (by decide) (by decide) (by decide)
  rwa [show oddI 5 10 [100, 130, 104, 98] = [1] by decide] at this
theorem exStr : DCall Tryd.prog 29 [dCBox ⟨5000, 6000, 4000, 4200, 1600, 587⟩] [] (.tup [.agg [dI 74226, dI 91290], dI 0]) [] :=
  crStrength ⟨5000, 6000, 4000, 4200, 1600, 587⟩ ⟨by decide, by decide, by decide, by decide⟩ 2529 2592 ⟨by decide, by decide, by decide⟩ ⟨by decide, by decide, by decide⟩
theorem exLoads : DCall Tryd.prog 35 [.c (.sl false 4 (rows eLd [bxEx, bxEx, bxEx]))] [] (.tup [.c (.sl false 2 (rows eK [(200, 220), (100, 110), (0, 0)])), dI 0]) [] :=
  crLoads [bxEx, bxEx, bxEx] (okB (by decide)) (by decide)
theorem exFall1 (b1 b2 : Bool) : DCall Tryd.prog 36 [.c (.sl b1 4 (rows eLd [bxEx, bxEx, bxEx])), .c (.sl b2 2 (rows eK tabEx)), dI 40] [] (.tup [dI 30, dI 0, dI 0]) [] := by
  have := crFall [bxEx, bxEx, bxEx] (okB (by decide)) (by decide) tabEx 40 ⟨tabEx_ok, by decide⟩
  rw [show fallR [bxEx, bxEx, bxEx] 40 tabEx = (30, 0, 0) by decide] at this
  exact this.lbl rfl (.sl (.sl (.same .nil)))
theorem exFall2 (b1 b2 : Bool) : DCall Tryd.prog 36 [.c (.sl b1 4 (rows eLd [bxEx, bxEx, bxEx])), .c (.sl b2 2 (rows eK tabEx)), dI 29] [] (.tup [dI 0, dI 0, dI 7]) [] := by
  have := crFall [bxEx, bxEx, bxEx] (okB (by decide)) (by decide) tabEx 29 ⟨tabEx_ok, by decide⟩
  rw [show fallR [bxEx, bxEx, bxEx] 29 tabEx = (0, 0, 7) by decide] at this
  exact this.lbl rfl (.sl (.sl (.same .nil)))
theorem exHigh (b : Bool) : DCall Tryd.prog 43 [.agg ((eLd bxEx).map D.c), .c (.sl b 2 (rows eK tabEx)), dI 10] [] (.tup [dI 3, dI 0]) [] := by
  have := crHigh bxEx (okB (l := [bxEx]) (by decide) _ (by simp)) tabEx 10 ⟨tabEx_ok, by decide⟩
  rw [show highI bxEx tabEx 10 = 3 by decide] at this
  exact this.lbl rfl (.same (.sl (.same .nil)))
theorem exOrder : DCall Tryd.prog 45 [.c (.sl false 4 (rows eLd orEx)), .c (.sl false 2 (rows eK [(0, 1000)])), dI 0] [] (.tup [dIs false [1, 0, 2], dI 0]) [] := by
  have := crOrder orEx (okB (by decide)) (by decide) [(0, 1000)] 0 ⟨tab1_ok, by decide⟩ (by decide +kernel)
  rwa [show ordI orEx (lastI 0 [(0, 1000)] 0) (2 ^ orEx.length - 1) (2 ^ orEx.length - 1) = [1, 0, 2] by decide +kernel] at this
theorem exMost : DCall Tryd.prog 46 [.c (.sl false 4 (rows eLd moEx)), .c (.sl false 2 (rows eK [(0, 1000)])), dI 0] [] (.tup [dIs false [0, 1], dI 0]) [] := by
  have := crMost moEx (okB (by decide)) (by decide) [(0, 1000)] 0 ⟨tab1_ok, by decide⟩
  rwa [show mostI moEx (lastI 0 [(0, 1000)] 0) = [0, 1] by decide +kernel] at this
set_option maxHeartbeats 4000000 in
theorem laKnown : DCall Tryd.prog 16 [] [] (bD true) [] := by
  have hb := laLoad bxEx
  have h1 := exDec1 true
  have h2 := exDec2 true
  have h3 := exNeed true
  have h4 := exOdd true
  have h5 := exStr
  have h6 := laSpan 5000 6000
  have h7 := laSpan 4000 4200
  refine DCall.of Tryd.func16 sf16 hb16 (Nat.le_of_ble_eq_true rfl) (okRes_nil fun _ => rfl) ?_; simp only [s16, Mv, Sg, Ld, Fa, Xt, Ix, Ln, Cl, Oo, Og, idxs, Nat.reduceAdd]
  repeat' (first
    | (with_reducible first | refine DW.seq ?_ | refine DW.block ?_ | refine DW.skip ?_ | refine DW.exit ?_ | refine DW.ret ?_ | refine DW.reg ?_)
    | (refine DW.dreg rfl (WF.of ?_) ?_; first | rfl | skip)
    | (simp (disch := omega) only [go_sem, Nat.reduceLT, Nat.reduceLeDiff, Nat.reduceAdd, Nat.reduceMul, Nat.reduceEqDiff, ↓reduceIte, reduceCtorEq, Nat.reduceBEq, Nat.reduceBNe, Nat.reducePow, Int.reduceLE, Int.reduceLT, Int.reduceNeg, Int.reduceToNat, Int.reduceEq, Int.reduceAdd, Int.reduceSub, Int.reduceMul, Int.reduceBEq, Int.reduceBNe, bm_box, bm_row, bk_box, bk_row])
    | (exact retS_of rfl rfl rfl)
    | (refine DW.cond_tt rfl ?_)
    | (refine call_c (hb) (by decide) ?_)
    | (refine call_c (h1) (by decide) ?_)
    | (refine call_c (h2) (by decide) ?_)
    | (refine call_c (h3) (by decide) ?_)
    | (refine call_c (h4) (by decide) ?_)
    | (refine call_c (h5) (by decide) ?_)
    | (refine call_c (h6) (by decide) ?_)
    | (refine call_c (h7) (by decide) ?_)
    | (refine DW.cond_ff rfl ?_)
    | (refine DW.cond rfl ?_ ?_ <;> intro hc <;> (try simp only [go_sem] at hc))
    | (refine g_split ?_ ?_ <;> intro hc <;> (try simp only [hc]) <;> (try simp only [go_sem] at hc)))
  refine call_e (Ent.rel 65 rfl) exLoads rfl rfl (by decide) ?_
  simp (disch := omega) only [go_sem, Nat.reduceLT, Nat.reduceLeDiff, Nat.reduceAdd, Nat.reduceMul, Nat.reduceEqDiff, ↓reduceIte, reduceCtorEq, Nat.reduceBEq, Nat.reduceBNe, Nat.reducePow, Int.reduceLE, Int.reduceLT, Int.reduceNeg, Int.reduceToNat, Int.reduceEq, Int.reduceAdd, Int.reduceSub, Int.reduceMul, Int.reduceBEq, Int.reduceBNe, bm_box, bm_row, bk_box, bk_row]
  have f1 := exFall1 true false
  have f2 := exFall2 true false
  have f3 := exHigh false
  have tb := laTable
  have o1 := laLoad ⟨100, 100, 50, 50⟩
  have o2 := laLoad ⟨200, 200, 100, 100⟩
  have o3 := laLoad ⟨40, 40, 60, 60⟩
  have o4 := laLoad ⟨50, 50, 60, 60⟩
  have t1 : ((tabEx.length : Nat) : Int) = 3 := rfl
  have t2 : tabEx.take 1 = [(0, 1000)] := rfl
  repeat' (first
    | (with_reducible first | refine DW.seq ?_ | refine DW.block ?_ | refine DW.skip ?_ | refine DW.exit ?_ | refine DW.ret ?_ | refine DW.reg ?_)
    | (refine DW.dreg rfl (WF.of ?_) ?_; first | rfl | skip)
    | (simp (disch := omega) only [go_sem, Nat.reduceLT, Nat.reduceLeDiff, Nat.reduceAdd, Nat.reduceMul, Nat.reduceEqDiff, ↓reduceIte, reduceCtorEq, Nat.reduceBEq, Nat.reduceBNe, Nat.reducePow, Int.reduceLE, Int.reduceLT, Int.reduceNeg, Int.reduceToNat, Int.reduceEq, Int.reduceAdd, Int.reduceSub, Int.reduceMul, Int.reduceBEq, Int.reduceBNe, bm_box, bm_row, bk_box, bk_row, t1, t2])
    | (exact retS_of rfl rfl rfl)
    | (refine DW.cond_tt rfl ?_)
    | (refine call_c (f1) (by decide) ?_)
    | (refine call_c (f2) (by decide) ?_)
    | (refine call_c (f3) (by decide) ?_)
    | (refine call_c (tb) (by decide) ?_)
    | (refine call_c (o1) (by decide) ?_)
    | (refine call_c (o2) (by decide) ?_)
    | (refine call_c (o3) (by decide) ?_)
    | (refine call_c (o4) (by decide) ?_)
    | (refine DW.cond_ff rfl ?_)
    | (refine DW.cond rfl ?_ ?_ <;> intro hc <;> (try simp only [go_sem] at hc))
    | (refine g_split ?_ ?_ <;> intro hc <;> (try simp only [hc]) <;> (try simp only [go_sem] at hc)))
  refine call_e (Ent.rel 99 rfl) exOrder rfl rfl (by decide) ?_
  simp (disch := omega) only [go_sem, Nat.reduceLT, Nat.reduceLeDiff, Nat.reduceAdd, Nat.reduceMul, Nat.reduceEqDiff, ↓reduceIte, reduceCtorEq, Nat.reduceBEq, Nat.reduceBNe, Nat.reducePow, Int.reduceLE, Int.reduceLT, Int.reduceNeg, Int.reduceToNat, Int.reduceEq, Int.reduceAdd, Int.reduceSub, Int.reduceMul, Int.reduceBEq, Int.reduceBNe, bm_box, bm_row, bk_box, bk_row]
  repeat' (first
    | (with_reducible first | refine DW.seq ?_ | refine DW.block ?_ | refine DW.skip ?_ | refine DW.exit ?_ | refine DW.ret ?_ | refine DW.reg ?_)
    | (refine DW.dreg rfl (WF.of ?_) ?_; first | rfl | skip)
    | (simp (disch := omega) only [go_sem, Nat.reduceLT, Nat.reduceLeDiff, Nat.reduceAdd, Nat.reduceMul, Nat.reduceEqDiff, ↓reduceIte, reduceCtorEq, Nat.reduceBEq, Nat.reduceBNe, Nat.reducePow, Int.reduceLE, Int.reduceLT, Int.reduceNeg, Int.reduceToNat, Int.reduceEq, Int.reduceAdd, Int.reduceSub, Int.reduceMul, Int.reduceBEq, Int.reduceBNe, bm_box, bm_row, bk_box, bk_row, t1, t2])
    | (exact retS_of rfl rfl rfl)
    | (refine DW.cond_tt rfl ?_)
    | (refine call_c (tb) (by decide) ?_)
    | (refine call_c (o1) (by decide) ?_)
    | (refine call_c (o2) (by decide) ?_)
    | (refine call_c (o3) (by decide) ?_)
    | (refine call_c (o4) (by decide) ?_)
    | (refine DW.cond_ff rfl ?_)
    | (refine DW.cond rfl ?_ ?_ <;> intro hc <;> (try simp only [go_sem] at hc))
    | (refine g_split ?_ ?_ <;> intro hc <;> (try simp only [hc]) <;> (try simp only [go_sem] at hc)))
  refine call_e (Ent.rel 109 rfl) exMost rfl rfl (by decide) ?_
  simp (disch := omega) only [go_sem, Nat.reduceLT, Nat.reduceLeDiff, Nat.reduceAdd, Nat.reduceMul, Nat.reduceEqDiff, ↓reduceIte, reduceCtorEq, Nat.reduceBEq, Nat.reduceBNe, Nat.reducePow, Int.reduceLE, Int.reduceLT, Int.reduceNeg, Int.reduceToNat, Int.reduceEq, Int.reduceAdd, Int.reduceSub, Int.reduceMul, Int.reduceBEq, Int.reduceBNe, bm_box, bm_row, bk_box, bk_row]
  have s1 : DCall Tryd.prog 22 [dIs false [1], dIs true [1]] [] (bD true) [] := refSame false true [1] [1] (by decide) (by decide)
  have s2 : DCall Tryd.prog 22 [dIs false [1, 0, 2], dIs true [1, 0, 2]] [] (bD true) [] := refSame false true [1, 0, 2] [1, 0, 2] (by decide) (by decide)
  have s3 : DCall Tryd.prog 22 [dIs false [0, 1], dIs true [0, 1]] [] (bD true) [] := refSame false true [0, 1] [0, 1] (by decide) (by decide)
  have p1 := laSpan 74226 91290
  have p2 := laSpan 200 220
  have p3 := laSpan 0 0
  repeat' (first
    | (with_reducible first | refine DW.seq ?_ | refine DW.block ?_ | refine DW.skip ?_ | refine DW.exit ?_ | refine DW.ret ?_ | refine DW.reg ?_)
    | (refine DW.dreg rfl (WF.of ?_) ?_; first | rfl | skip)
    | (simp (disch := omega) only [go_sem, Nat.reduceLT, Nat.reduceLeDiff, Nat.reduceAdd, Nat.reduceMul, Nat.reduceEqDiff, ↓reduceIte, reduceCtorEq, Nat.reduceBEq, Nat.reduceBNe, Nat.reducePow, Int.reduceLE, Int.reduceLT, Int.reduceNeg, Int.reduceToNat, Int.reduceEq, Int.reduceAdd, Int.reduceSub, Int.reduceMul, Int.reduceBEq, Int.reduceBNe, bm_box, bm_row, bk_box, bk_row, rows, List.map_cons, List.map_nil])
    | (exact retS_of rfl rfl rfl)
    | (refine DW.cond_tt rfl ?_)
    | (refine call_c (s1) (by decide) ?_)
    | (refine call_c (s2) (by decide) ?_)
    | (refine call_c (s3) (by decide) ?_)
    | (refine call_c (p1) (by decide) ?_)
    | (refine call_c (p2) (by decide) ?_)
    | (refine call_c (p3) (by decide) ?_)
    | (refine DW.cond_ff rfl ?_)
    | (refine DW.cond rfl ?_ ?_ <;> intro hc <;> (try simp only [go_sem] at hc))
    | (refine g_split ?_ ?_ <;> intro hc <;> (try simp only [hc]) <;> (try simp only [go_sem] at hc)))
end Go.Dw.Seat
end
section
set_option linter.unusedSimpArgs false
set_option maxRecDepth 100000
namespace Go.Dw.Seat
open Go Go.Dw Go.Proofs Go.IntWalk
def inI (n lo hi : Int) : Bool := decide (lo ≤ n) && decide (n ≤ hi)
theorem wthn_inI (lo hi n : Int) : wthn lo hi [n] = inI n lo hi := by
  rw [Bool.eq_iff_iff]
  simp only [wthn, inI, List.any_cons, List.any_nil, Bool.or_false, Bool.not_eq_true', Bool.or_eq_false_iff, decide_eq_false_iff_not, Bool.and_eq_true, decide_eq_true_eq]
  omega
theorem reIn (n lo hi : Int) : DCall Tryd.prog 25 [dI n, dI lo, dI hi] [] (bD (inI n lo hi)) [] := by
  unfold inI
  cases h1 : decide (lo ≤ n) <;> simp only [Bool.true_and, Bool.false_and]
  · refine DCall.of Tryd.func25 sf25 hb25 (Nat.le_of_ble_eq_true rfl) (okRes_nil fun _ => rfl) ?_; simp only [s25, Mv, Sg, Ld, Fa, Xt, Ix, Ln, Cl, Oo, Og, idxs, Nat.reduceAdd]
    repeat' (first
    | (with_reducible first | refine DW.seq ?_ | refine DW.block ?_ | refine DW.skip ?_ | refine DW.exit ?_ | refine DW.ret ?_ | refine DW.reg ?_)
    | (simp (disch := omega) only [go_sem, Nat.reduceLT, Nat.reduceLeDiff, Nat.reduceAdd, Nat.reduceMul, Nat.reduceEqDiff, ↓reduceIte, reduceCtorEq, Nat.reduceBEq, Nat.reduceBNe, Nat.reducePow, Int.reduceLE, Int.reduceLT, Int.reduceNeg, Int.reduceToNat, Int.reduceEq, Int.reduceAdd, Int.reduceSub, Int.reduceMul, Int.reduceBEq, Int.reduceBNe, Blk.men, Blk.keysIn, h1])
    | (exact retS_of rfl rfl rfl)
    | (refine DW.cond_tt rfl ?_)
    | (refine DW.cond_ff rfl ?_)
    | (refine DW.cond rfl ?_ ?_ <;> intro hc <;> (try simp only [go_sem] at hc))
    | (refine g_split ?_ ?_ <;> intro hc <;> (try simp only [hc]) <;> (try simp only [go_sem] at hc)))
  · refine DCall.of Tryd.func25 sf25 hb25 (Nat.le_of_ble_eq_true rfl) (okRes_nil fun _ => rfl) ?_; simp only [s25, Mv, Sg, Ld, Fa, Xt, Ix, Ln, Cl, Oo, Og, idxs, Nat.reduceAdd]
    repeat' (first
    | (with_reducible first | refine DW.seq ?_ | refine DW.block ?_ | refine DW.skip ?_ | refine DW.exit ?_ | refine DW.ret ?_ | refine DW.reg ?_)
    | (simp (disch := omega) only [go_sem, Nat.reduceLT, Nat.reduceLeDiff, Nat.reduceAdd, Nat.reduceMul, Nat.reduceEqDiff, ↓reduceIte, reduceCtorEq, Nat.reduceBEq, Nat.reduceBNe, Nat.reducePow, Int.reduceLE, Int.reduceLT, Int.reduceNeg, Int.reduceToNat, Int.reduceEq, Int.reduceAdd, Int.reduceSub, Int.reduceMul, Int.reduceBEq, Int.reduceBNe, Blk.men, Blk.keysIn, h1])
    | (exact retS_of rfl rfl rfl)
    | (refine DW.cond_tt rfl ?_)
    | (refine DW.cond_ff rfl ?_)
    | (refine DW.cond rfl ?_ ?_ <;> intro hc <;> (try simp only [go_sem] at hc))
    | (refine g_split ?_ ?_ <;> intro hc <;> (try simp only [hc]) <;> (try simp only [go_sem] at hc)))
def spanR (lo hi least most : Int) : Bool := inI lo least hi && decide (hi ≤ most)
theorem spanR_eq (lo hi least most : Int) : spanR lo hi least most = spanOk lo hi least most := by
  rw [Bool.eq_iff_iff]
  simp only [spanR, spanOk, inI, wthn, List.any_cons, List.any_nil, Bool.or_false, Bool.not_eq_true', Bool.or_eq_false_iff, decide_eq_false_iff_not, Bool.and_eq_true, decide_eq_true_eq]
  omega
theorem reSpan (lo hi least most : Int) : DCall Tryd.prog 75 [.agg [dI lo, dI hi], dI least, dI most] [] (bD (spanOk lo hi least most)) [] := by
  rw [← spanR_eq]
  have h1 := reIn lo least hi
  unfold spanR
  cases h : inI lo least hi <;> rw [h] at h1 <;> simp only [Bool.true_and, Bool.false_and]
  · refine DCall.of Tryd.func75 sf75 hb75 (Nat.le_of_ble_eq_true rfl) (okRes_nil fun _ => rfl) ?_; simp only [s75, Mv, Sg, Ld, Fa, Xt, Ix, Ln, Cl, Oo, Og, idxs, Nat.reduceAdd]
    repeat' (first
    | (with_reducible first | refine DW.seq ?_ | refine DW.block ?_ | refine DW.skip ?_ | refine DW.exit ?_ | refine DW.ret ?_ | refine DW.reg ?_)
    | (simp (disch := omega) only [go_sem, Nat.reduceLT, Nat.reduceLeDiff, Nat.reduceAdd, Nat.reduceMul, Nat.reduceEqDiff, ↓reduceIte, reduceCtorEq, Nat.reduceBEq, Nat.reduceBNe, Nat.reducePow, Int.reduceLE, Int.reduceLT, Int.reduceNeg, Int.reduceToNat, Int.reduceEq, Int.reduceAdd, Int.reduceSub, Int.reduceMul, Int.reduceBEq, Int.reduceBNe, Blk.men, Blk.keysIn])
    | (exact retS_of rfl rfl rfl)
    | (refine DW.cond_tt rfl ?_)
    | (refine call_c (h1) (by decide) ?_)
    | (refine DW.cond_ff rfl ?_)
    | (refine DW.cond rfl ?_ ?_ <;> intro hc <;> (try simp only [go_sem] at hc))
    | (refine g_split ?_ ?_ <;> intro hc <;> (try simp only [hc]) <;> (try simp only [go_sem] at hc)))
  · refine DCall.of Tryd.func75 sf75 hb75 (Nat.le_of_ble_eq_true rfl) (okRes_nil fun _ => rfl) ?_; simp only [s75, Mv, Sg, Ld, Fa, Xt, Ix, Ln, Cl, Oo, Og, idxs, Nat.reduceAdd]
    repeat' (first
    | (with_reducible first | refine DW.seq ?_ | refine DW.block ?_ | refine DW.skip ?_ | refine DW.exit ?_ | refine DW.ret ?_ | refine DW.reg ?_)
    | (simp (disch := omega) only [go_sem, Nat.reduceLT, Nat.reduceLeDiff, Nat.reduceAdd, Nat.reduceMul, Nat.reduceEqDiff, ↓reduceIte, reduceCtorEq, Nat.reduceBEq, Nat.reduceBNe, Nat.reducePow, Int.reduceLE, Int.reduceLT, Int.reduceNeg, Int.reduceToNat, Int.reduceEq, Int.reduceAdd, Int.reduceSub, Int.reduceMul, Int.reduceBEq, Int.reduceBNe, Blk.men, Blk.keysIn])
    | (exact retS_of rfl rfl rfl)
    | (refine DW.cond_tt rfl ?_)
    | (refine call_c (h1) (by decide) ?_)
    | (refine DW.cond_ff rfl ?_)
    | (refine DW.cond rfl ?_ ?_ <;> intro hc <;> (try simp only [go_sem] at hc))
    | (refine g_split ?_ ?_ <;> intro hc <;> (try simp only [hc]) <;> (try simp only [go_sem] at hc)))
end Go.Dw.Seat
end
section
set_option linter.unusedSimpArgs false
set_option maxRecDepth 100000
namespace Go.Dw.Seat
open Go Go.Dw Go.Proofs Go.IntWalk
def lexB : List Int → List Int → Bool
  | a :: s, b :: t => if a = b then lexB s t else decide (a < b)
  | _, _ => false
def lessB (s t : List Int) : Bool := if s.length = t.length then lexB s t else decide (s.length < t.length)
theorem reLess (b1 b2 : Bool) (s t : List Int) (hs : s.length ≤ 2 ^ 36) (ht : t.length ≤ 2 ^ 36) : DCall Tryd.prog 71 [dIs b1 s, dIs b2 t] [] (bD (lessB s t)) [] := by
  unfold lessB
  by_cases hl : s.length = t.length
  · have e : ((s.length : Int) != t.length) = false := by rw [hl]; simp
    rw [if_pos hl]
    generalize hR : lexB s t = R
    refine DCall.of Tryd.func71 sf71 hb71 (Nat.le_of_ble_eq_true rfl) (okRes_nil fun _ => rfl) ?_; simp only [s71, Mv, Sg, Ld, Fa, Xt, Ix, Ln, Cl, Oo, Og, idxs, Nat.reduceAdd]
    repeat' (first
    | (with_reducible first | refine DW.seq ?_ | refine DW.block ?_ | refine DW.skip ?_ | refine DW.exit ?_ | refine DW.ret ?_ | refine DW.reg ?_)
    | (refine DW.dreg rfl (WF.of ?_) ?_; first | rfl | skip)
    | (simp (disch := omega) only [go_sem, Nat.reduceLT, Nat.reduceLeDiff, Nat.reduceAdd, Nat.reduceMul, Nat.reduceEqDiff, ↓reduceIte, reduceCtorEq, Nat.reduceBEq, Nat.reduceBNe, Nat.reducePow, Int.reduceLE, Int.reduceLT, Int.reduceNeg, Int.reduceToNat, Int.reduceEq, Int.reduceAdd, Int.reduceSub, Int.reduceMul, Int.reduceBEq, Int.reduceBNe, Blk.men, Blk.keysIn, e])
    | (exact retS_of rfl rfl rfl)
    | (refine DW.cond_tt rfl ?_)
    | (refine DW.cond_ff rfl ?_)
    | (refine DW.cond rfl ?_ ?_ <;> intro hc <;> (try simp only [go_sem] at hc))
    | (refine g_split ?_ ?_ <;> intro hc <;> (try simp only [hc]) <;> (try simp only [go_sem] at hc)))
    refine DW.loop (ι := { i : Nat // i ≤ s.length ∧ lexB (s.drop i) (t.drop i) = R }) (fun i => ⟨40, [(5, dI i.1), (1, dIs b2 t), (0, dIs b1 s)], []⟩) (fun i => s.length - i.1) ⟨0, Nat.zero_le _, hR⟩ ?_ ?_
    · refine Ent.to ?_ ?_ <;> simp (disch := omega) only [wkT_cons, wkX_cons, wkT_nil, wkX_nil, get, Nat.reduceEqDiff, ↓reduceIte, ex_some, wk_self, wk_top, wk_nil, wkB_self, and_self, dI, i64_in, and_true, true_and, Int.natCast_add, Int.natCast_one, Int.ofNat_zero, Int.natCast_zero]
    rintro ⟨i, hi, hr⟩
    rcases at_or s i hi with ⟨v, hv, hlt, hd⟩ | ⟨he, hd⟩
    · obtain ⟨u, hu⟩ := getE (l := t) (i := i) (by omega)
      rw [drop_cons hv, drop_cons hu, lexB] at hr
      by_cases hvu : v = u
      · have d1 : (v != u) = false := by rw [hvu]; simp
        rw [if_pos hvu] at hr
        repeat' (first
    | (with_reducible first | refine DW.seq ?_ | refine DW.block ?_ | refine DW.skip ?_ | refine DW.exit ?_ | refine DW.ret ?_ | refine DW.reg ?_)
    | (refine DW.dreg rfl (WF.of ?_) ?_; first | rfl | skip)
    | (simp (disch := omega) only [go_sem, Nat.reduceLT, Nat.reduceLeDiff, Nat.reduceAdd, Nat.reduceMul, Nat.reduceEqDiff, ↓reduceIte, reduceCtorEq, Nat.reduceBEq, Nat.reduceBNe, Nat.reducePow, Int.reduceLE, Int.reduceLT, Int.reduceNeg, Int.reduceToNat, Int.reduceEq, Int.reduceAdd, Int.reduceSub, Int.reduceMul, Int.reduceBEq, Int.reduceBNe, Blk.men, Blk.keysIn, hd, hv, hu, d1])
    | (exact retS_of rfl rfl rfl)
    | (refine DW.cond_tt rfl ?_)
    | (refine DW.cond_ff rfl ?_)
    | (refine DW.cond rfl ?_ ?_ <;> intro hc <;> (try simp only [go_sem] at hc))
    | (refine g_split ?_ ?_ <;> intro hc <;> (try simp only [hc]) <;> (try simp only [go_sem] at hc)))
        refine ⟨⟨i + 1, hlt, hr⟩, ?_, Ent.to ?_ ?_⟩ <;> first | (show _ < _; (try simp only); omega) | (simp (disch := omega) only [wkT_cons, wkX_cons, wkT_nil, wkX_nil, get, Nat.reduceEqDiff, ↓reduceIte, ex_some, wk_self, wk_top, wk_nil, wkB_self, and_self, dI, i64_in, and_true, true_and, Int.natCast_add, Int.natCast_one, Int.ofNat_zero, Int.natCast_zero])
      · have d1 : (v != u) = true := by simpa using hvu
        rw [if_neg hvu] at hr
        repeat' (first
    | (with_reducible first | refine DW.seq ?_ | refine DW.block ?_ | refine DW.skip ?_ | refine DW.exit ?_ | refine DW.ret ?_ | refine DW.reg ?_)
    | (refine DW.dreg rfl (WF.of ?_) ?_; first | rfl | skip)
    | (simp (disch := omega) only [go_sem, Nat.reduceLT, Nat.reduceLeDiff, Nat.reduceAdd, Nat.reduceMul, Nat.reduceEqDiff, ↓reduceIte, reduceCtorEq, Nat.reduceBEq, Nat.reduceBNe, Nat.reducePow, Int.reduceLE, Int.reduceLT, Int.reduceNeg, Int.reduceToNat, Int.reduceEq, Int.reduceAdd, Int.reduceSub, Int.reduceMul, Int.reduceBEq, Int.reduceBNe, Blk.men, Blk.keysIn, hd, hv, hu, d1])
    | (exact retS_of rfl rfl rfl)
    | (refine DW.cond_tt rfl ?_)
    | (refine DW.cond_ff rfl ?_)
    | (refine DW.cond rfl ?_ ?_ <;> intro hc <;> (try simp only [go_sem] at hc))
    | (refine g_split ?_ ?_ <;> intro hc <;> (try simp only [hc]) <;> (try simp only [go_sem] at hc)))
        refine retS_of rfl ?_ rfl; simp only [oneD, St.op, get, Nat.reduceEqDiff, ↓reduceIte, Option.getD_some, bD, dI]
        rw [← hr]
    · rw [List.drop_of_length_le (by omega : s.length ≤ i)] at hr
      repeat' (first
    | (with_reducible first | refine DW.seq ?_ | refine DW.block ?_ | refine DW.skip ?_ | refine DW.exit ?_ | refine DW.ret ?_ | refine DW.reg ?_)
    | (refine DW.dreg rfl (WF.of ?_) ?_; first | rfl | skip)
    | (simp (disch := omega) only [go_sem, Nat.reduceLT, Nat.reduceLeDiff, Nat.reduceAdd, Nat.reduceMul, Nat.reduceEqDiff, ↓reduceIte, reduceCtorEq, Nat.reduceBEq, Nat.reduceBNe, Nat.reducePow, Int.reduceLE, Int.reduceLT, Int.reduceNeg, Int.reduceToNat, Int.reduceEq, Int.reduceAdd, Int.reduceSub, Int.reduceMul, Int.reduceBEq, Int.reduceBNe, Blk.men, Blk.keysIn, hd])
    | (exact retS_of rfl rfl rfl)
    | (refine DW.cond_tt rfl ?_)
    | (refine DW.cond_ff rfl ?_)
    | (refine DW.cond rfl ?_ ?_ <;> intro hc <;> (try simp only [go_sem] at hc))
    | (refine g_split ?_ ?_ <;> intro hc <;> (try simp only [hc]) <;> (try simp only [go_sem] at hc)))
      refine retS_of rfl ?_ rfl; simp only [oneD, St.op, get, Nat.reduceEqDiff, ↓reduceIte, Option.getD_some, bD, dI]
      rw [← hr]; rfl
  · have e : ((s.length : Int) != t.length) = true := by rw [bne_iff_ne]; omega
    rw [if_neg hl]
    have e2 : decide ((s.length : Int) < (t.length : Int)) = decide (s.length < t.length) := by rw [decide_eq_decide]; omega
    refine DCall.of Tryd.func71 sf71 hb71 (Nat.le_of_ble_eq_true rfl) (okRes_nil fun _ => rfl) ?_; simp only [s71, Mv, Sg, Ld, Fa, Xt, Ix, Ln, Cl, Oo, Og, idxs, Nat.reduceAdd]
    repeat' (first
    | (with_reducible first | refine DW.seq ?_ | refine DW.block ?_ | refine DW.skip ?_ | refine DW.exit ?_ | refine DW.ret ?_ | refine DW.reg ?_)
    | (refine DW.dreg rfl (WF.of ?_) ?_; first | rfl | skip)
    | (simp (disch := omega) only [go_sem, Nat.reduceLT, Nat.reduceLeDiff, Nat.reduceAdd, Nat.reduceMul, Nat.reduceEqDiff, ↓reduceIte, reduceCtorEq, Nat.reduceBEq, Nat.reduceBNe, Nat.reducePow, Int.reduceLE, Int.reduceLT, Int.reduceNeg, Int.reduceToNat, Int.reduceEq, Int.reduceAdd, Int.reduceSub, Int.reduceMul, Int.reduceBEq, Int.reduceBNe, Blk.men, Blk.keysIn, e])
    | (exact retS_of rfl rfl rfl)
    | (refine DW.cond_tt rfl ?_)
    | (refine DW.cond_ff rfl ?_)
    | (refine DW.cond rfl ?_ ?_ <;> intro hc <;> (try simp only [go_sem] at hc))
    | (refine g_split ?_ ?_ <;> intro hc <;> (try simp only [hc]) <;> (try simp only [go_sem] at hc)))
    refine retS_of rfl ?_ rfl; simp only [oneD, St.op, get, Nat.reduceEqDiff, ↓reduceIte, Option.getD_some, bD, dI]
    rw [e2]
theorem bit_i0 : ∀ s : Fin 1024, ∀ i : Fin 10, (andI IntKind.i64 ((s.1 >>> i.1 : Nat) : Int) 1 == 1) = s.1.testBit i.1 := by decide +kernel
theorem bit_i {s i : Nat} (hs : s < 1024) (hi : i < 10) : (andI IntKind.i64 ((s >>> i : Nat) : Int) 1 == 1) = s.testBit i := bit_i0 ⟨s, hs⟩ ⟨i, hi⟩
theorem shl_i0 : ∀ n : Fin 11, shlI IntKind.i64 1 n.1 = ((2 ^ n.1 : Nat) : Int) := by decide +kernel
theorem shl_i {n : Nat} (h : n ≤ 10) : shlI IntKind.i64 1 n = ((2 ^ n : Nat) : Int) := shl_i0 ⟨n, by omega⟩
end Go.Dw.Seat
end
section
set_option linter.unusedSimpArgs false
set_option maxRecDepth 100000
namespace Go.Dw.Seat
open Go Go.Dw Go.Proofs Go.IntWalk
theorem lexB_irr : ∀ s : List Int, lexB s s = false
  | [] => rfl
  | a :: s => by simp only [lexB, if_true]; exact lexB_irr s
theorem lexB_tri : ∀ {s t : List Int}, s.length = t.length → lexB s t = false → lexB t s = false → s = t
  | [], [], _, _, _ => rfl
  | a :: s, b :: t, h, h1, h2 => by
    simp only [lexB] at h1 h2
    by_cases hab : a = b
    · subst hab
      rw [if_pos rfl] at h1 h2
      rw [lexB_tri (by simpa using h) h1 h2]
    · rw [if_neg hab] at h1
      rw [if_neg (fun e => hab e.symm)] at h2
      simp only [decide_eq_false_iff_not] at h1 h2
      omega
theorem cmpL_lex' : ∀ {s t : List Int}, s.length = t.length → (cmpL s t < 0 ↔ lexB s t = true)
  | [], [], _ => by simp [cmpL, lexB]
  | a :: s, b :: t, h => by
    have ih := cmpL_lex' (s := s) (t := t) (by simpa using h)
    have e : cmpL (a :: s) (b :: t) = if cmpI a b = 0 then cmpL s t else cmpI a b := rfl
    have e2 : lexB (a :: s) (b :: t) = if a = b then lexB s t else decide (a < b) := rfl
    rw [e, e2]
    unfold cmpI
    by_cases h1 : a < b
    · rw [if_pos h1, if_neg (by decide), if_neg (by omega), decide_eq_true h1]; simp
    · rw [if_neg h1]
      by_cases h2 : b < a
      · rw [if_pos h2, if_neg (by decide), if_neg (by omega), decide_eq_false h1]; simp
      · rw [if_neg h2, if_pos rfl, if_pos (by omega)]; exact ih
theorem cmpL_lex {s t : List Int} (h : s.length = t.length) : decide (cmpL s t < 0) = lexB s t := by
  rw [Bool.eq_iff_iff, decide_eq_true_eq]; exact cmpL_lex' h
def maskP (p : Nat → Bool) : Nat → Nat
  | 0 => 0
  | n + 1 => maskP p n ||| (if p n then 2 ^ n else 0)
theorem maskP_lt (p : Nat → Bool) : ∀ n, maskP p n < 2 ^ n
  | 0 => Nat.one_pos
  | n + 1 => by
    have h := maskP_lt p n
    have h2 : 2 ^ n < 2 ^ (n + 1) := Nat.pow_lt_pow_right (by decide) (by omega)
    simp only [maskP]
    refine Nat.or_lt_two_pow (by omega) ?_
    split
    · exact h2
    · exact Nat.two_pow_pos _
theorem maskP_bit (p : Nat → Bool) (j : Nat) : ∀ n, (maskP p n).testBit j = (decide (j < n) && p j)
  | 0 => by simp [maskP]
  | n + 1 => by
    simp only [maskP, Nat.testBit_or, maskP_bit p j n]
    by_cases h : j = n
    · subst h
      cases hp : p j <;> simp [hp]
    · have : (if p n then 2 ^ n else 0).testBit j = false := by
        split
        · rw [Nat.testBit_two_pow]; exact decide_eq_false (by omega)
        · simp
      rw [this, Bool.or_false]
      congr 1
      rw [decide_eq_decide]; omega
end Go.Dw.Seat
end
section
set_option linter.unusedSimpArgs false
set_option maxRecDepth 100000
namespace Go.Dw.Seat
open Go Go.Dw Go.Proofs Go.IntWalk
def pk (l : List Lod) (e : Nat) : Lod := (l[e]?).getD ⟨0, 0, 0, 0⟩
def pickL (l : List Lod) (o : List Nat) : List Lod := o.map (pk l)
theorem pk_wh (l : List Lod) (e : Nat) : (pk l e).wh = whAt l e := by
  unfold pk whAt
  cases l[e]? <;> rfl
theorem pk_bears (l : List Lod) (k : Int) (e : Nat) : bearsI (pk l e) k = bearsAt l k e := by
  unfold pk bearsAt
  cases l[e]? with
  | some b => rfl
  | none => simp [bearsI]
theorem pk_ok {l : List Lod} (h : ∀ b ∈ l, b.ok) (e : Nat) : (pk l e).ok := by
  unfold pk
  cases e1 : l[e]? with
  | some b => exact h b (List.mem_of_getElem? e1)
  | none => exact ⟨by decide, by decide⟩
theorem failN_cons {k : Int} {b : Lod} {t : List Lod} : failN k (b :: t) = none ↔ sumH t ≤ bearsI b k ∧ failN k t = none := by
  simp only [failN]
  split
  · simp; omega
  · rename_i h
    simp only [Option.map_eq_none_iff]
    exact ⟨fun h2 => ⟨by omega, h2⟩, fun h2 => h2.2⟩
theorem full_bit0 : ∀ x : Fin 10, (1023 : Nat).testBit x.1 = true := by decide
theorem rem_mem {s e x : Nat} (he : e < 10) : x ∈ bitsL (remB s e) ↔ x ∈ bitsL s ∧ x ≠ e := by
  simp only [bitsL, List.mem_filter, List.mem_range, remB, Nat.testBit_and, Nat.testBit_xor, Nat.testBit_two_pow, Bool.and_eq_true]
  constructor
  · rintro ⟨h1, h2, h3⟩
    rw [full_bit0 ⟨x, h1⟩] at h3
    refine ⟨⟨h1, h2⟩, fun e2 => ?_⟩
    rw [e2] at h3; simp at h3
  · rintro ⟨⟨h1, h2⟩, h3⟩
    refine ⟨h1, h2, ?_⟩
    rw [full_bit0 ⟨x, h1⟩, decide_eq_false (fun h => h3 h.symm)]; rfl
theorem bits_nodup (s : Nat) : (bitsL s).Nodup := List.Nodup.sublist List.filter_sublist List.nodup_range
theorem bits_rem_eq {s e : Nat} (he : e < 10) : bitsL (remB s e) = (bitsL s).filter (fun x => decide (x ≠ e)) := by
  unfold bitsL
  rw [List.filter_filter]
  refine List.filter_congr fun x hx => ?_
  have hx := List.mem_range.1 hx
  have h := rem_mem (s := s) (e := e) (x := x) he
  simp only [bitsL, List.mem_filter, List.mem_range, hx, true_and] at h
  cases h1 : (remB s e).testBit x <;> cases h2 : s.testBit x <;> by_cases h3 : x = e <;> simp_all
theorem fold_shift (f : Nat → Int) : ∀ (L : List Nat) (a c : Int), L.foldl (fun a e => a + f e) (a + c) = c + L.foldl (fun a e => a + f e) a
  | [], a, c => by simp only [List.foldl_nil]; omega
  | x :: L, a, c => by
    simp only [List.foldl_cons]
    rw [show a + c + f x = (a + f x) + c by omega]
    exact fold_shift f L (a + f x) c
theorem fold_erase (f : Nat → Int) : ∀ (L : List Nat) (a : Int) (e : Nat), L.Nodup → e ∈ L → L.foldl (fun a e => a + f e) a = f e + (L.filter (fun x => decide (x ≠ e))).foldl (fun a e => a + f e) a
  | x :: L, a, e, hn, he => by
    obtain ⟨h1, h2⟩ := List.nodup_cons.1 hn
    by_cases hx : x = e
    · subst hx
      have : L.filter (fun y => decide (y ≠ x)) = L := List.filter_eq_self.2 fun y hy => by
        simp only [ne_eq, decide_not, Bool.not_eq_true', decide_eq_false_iff_not]
        exact fun e2 => h1 (e2 ▸ hy)
      rw [List.filter_cons_of_neg (by simp), this, List.foldl_cons]
      exact fold_shift f L a (f x)
    · have he2 : e ∈ L := by
        rcases List.mem_cons.1 he with h | h
        · exact absurd h.symm hx
        · exact h
      rw [List.filter_cons_of_pos (by simpa using hx), List.foldl_cons, List.foldl_cons]
      exact fold_erase f L (a + f x) e h2 he2
theorem wt_rem (l : List Lod) {s e : Nat} (he : e ∈ bitsL s) : wtI l s = whAt l e + wtI l (remB s e) := by
  unfold wtI
  rw [bits_rem_eq (bits_lt he)]
  exact fold_erase (whAt l) (bitsL s) 0 e (bits_nodup s) he
def stO (l : List Lod) (k : Int) : Nat → List Nat → Prop
  | s, [] => s = 0
  | s, e :: t => e ∈ bitsL s ∧ wtI l (remB s e) ≤ bearsAt l k e ∧ stO l k (remB s e) t
structure OrdOk (l : List Lod) (k : Int) (s : Nat) (o : List Nat) : Prop where
  sum : sumH (pickL l o) = wtI l s
  fail : failN k (pickL l o) = none
  nodup : o.Nodup
  mem : ∀ e, e ∈ o ↔ e ∈ bitsL s
  len : o.length = (bitsL s).length
theorem stO_ok {l : List Lod} {k : Int} : ∀ {o : List Nat} {s : Nat}, s < 1024 → stO l k s o → OrdOk l k s o
  | [], s, hs, h => by
    obtain rfl : s = 0 := h
    exact ⟨rfl, rfl, List.nodup_nil, fun e => by rw [bits_zero], by rw [bits_zero]⟩
  | e :: t, s, hs, ⟨h1, h2, h3⟩ => by
    have hlt := remB_mem hs h1
    have ih := stO_ok (by omega) h3
    have hm := fun x => rem_mem (s := s) (e := e) (x := x) (bits_lt h1)
    refine ⟨?_, ?_, ?_, fun x => ?_, ?_⟩
    · show sumH (pickL l t) + (pk l e).wh = _
      rw [ih.sum, pk_wh, wt_rem l h1]; omega
    · refine failN_cons.2 ⟨?_, ih.fail⟩
      rw [pk_bears]
      show sumH (pickL l t) ≤ _
      rw [ih.sum]; exact h2
    · exact List.nodup_cons.2 ⟨fun h => ((hm e).1 ((ih.mem e).1 h)).2 rfl, ih.nodup⟩
    · rw [List.mem_cons, ih.mem, hm]
      constructor
      · rintro (rfl | h)
        · exact h1
        · exact h.1
      · intro h
        by_cases e2 : x = e
        · exact .inl e2
        · exact .inr ⟨h, e2⟩
    · rw [List.length_cons, ih.len, remB_len hs h1]
theorem zero_of {s : Nat} (hs : s < 1024) (h : ∀ x, ¬ x ∈ bitsL s) : s = 0 := by
  rcases Nat.eq_zero_or_pos s with h0 | h0
  · exact h0
  · exact absurd (by rw [(bits_step hs (by omega)).1]; simp) (h (tz s))
theorem stO_of {l : List Lod} {k : Int} : ∀ {o : List Nat} {s : Nat}, s < 1024 → o.Nodup → (∀ e, e ∈ o ↔ e ∈ bitsL s) → failN k (pickL l o) = none → stO l k s o
  | [], s, hs, _, hm, _ => zero_of hs (fun x hx => by have := (hm x).2 hx; cases this)
  | e :: t, s, hs, hn, hm, hf => by
    have h1 : e ∈ bitsL s := (hm e).1 (by simp)
    have hlt := remB_mem hs h1
    obtain ⟨n1, n2⟩ := List.nodup_cons.1 hn
    obtain ⟨f1, f2⟩ := failN_cons.1 hf
    have hm2 : ∀ x, x ∈ t ↔ x ∈ bitsL (remB s e) := fun x => by
      rw [rem_mem (bits_lt h1), ← hm, List.mem_cons]
      constructor
      · intro h; exact ⟨.inr h, fun e2 => n1 (e2 ▸ h)⟩
      · rintro ⟨h | h, h2⟩
        · exact absurd h h2
        · exact h
    have ih := stO_of (by omega) n2 hm2 f2
    have hk := stO_ok (by omega) ih
    refine ⟨h1, ?_, ih⟩
    rw [pk_bears] at f1
    rw [← hk.sum]; exact f1
theorem stI_iff (l : List Lod) (k : Int) : ∀ n s, s ≤ n → s < 1024 → (stI l k s = true ↔ ∃ o, stO l k s o)
  | 0, s, hn, hs => by
    obtain rfl : s = 0 := by omega
    exact ⟨fun _ => ⟨[], rfl⟩, fun _ => rfl⟩
  | n + 1, s, hn, hs => by
    rw [stI_eq l k hs]
    simp only [Bool.or_eq_true, decide_eq_true_eq, List.any_eq_true, Bool.and_eq_true]
    constructor
    · rintro (h0 | ⟨e, he, h1, h2⟩)
      · exact ⟨[], h0⟩
      · have hlt := remB_mem hs he
        obtain ⟨o, ho⟩ := (stI_iff l k n (remB s e) (by omega) (by omega)).1 h2
        exact ⟨e :: o, he, h1, ho⟩
    · rintro ⟨o, ho⟩
      match o, ho with
      | [], h => exact .inl h
      | e :: t, ⟨h1, h2, h3⟩ =>
        have hlt := remB_mem hs h1
        exact .inr ⟨e, h1, h2, (stI_iff l k n (remB s e) (by omega) (by omega)).2 ⟨t, h3⟩⟩
theorem stI_of {l : List Lod} {k : Int} {s : Nat} (hs : s < 1024) {o : List Nat} (h : stO l k s o) : stI l k s = true := (stI_iff l k s s (Nat.le_refl _) hs).2 ⟨o, h⟩
theorem find_first {p : Nat → Bool} : ∀ {L : List Nat} {e x : Nat}, L.Pairwise (· < ·) → L.find? p = some e → x ∈ L → p x = true → e ≤ x
  | a :: L, e, x, hp, hf, hx, hpx => by
    obtain ⟨h1, h2⟩ := List.pairwise_cons.1 hp
    rw [List.find?_cons] at hf
    split at hf
    · cases hf
      rcases List.mem_cons.1 hx with rfl | hx
      · exact Nat.le_refl _
      · exact Nat.le_of_lt (h1 x hx)
    · rename_i hn
      rcases List.mem_cons.1 hx with rfl | hx
      · rw [hpx] at hn; cases hn
      · exact find_first h2 hf hx hpx
theorem bits_asc (s : Nat) : (bitsL s).Pairwise (· < ·) := List.Pairwise.filter _ List.pairwise_lt_range
theorem ord_spec (l : List Lod) (k : Int) : ∀ n s f, s ≤ n → s < 1024 → s ≤ f → stI l k s = true → ∃ o, ordI l k f s = nL o ∧ stO l k s o ∧ ∀ o', stO l k s o' → lexB (nL o') (nL o) = false
  | n, s, f, hn, hs, hf, hst => by
    by_cases h0 : s = 0
    · subst h0
      refine ⟨[], ?_, rfl, fun o' h => ?_⟩
      · cases f <;> simp [ordI, nL]
      · match o', h with
        | [], _ => rfl
        | e :: t, ⟨h1, _⟩ => rw [bits_zero] at h1; cases h1
    · obtain ⟨e, h1, h2, h3⟩ := stI_find hs h0 hst
      have hlt := remB_mem hs h2
      match n, f with
      | 0, _ => omega
      | _, 0 => omega
      | n + 1, f + 1 =>
        obtain ⟨o, ho1, ho2, ho3⟩ := ord_spec l k n (remB s e) f (by omega) (by omega) (by omega) h3
        have hun := List.find?_some h1
        simp only [unI, Bool.and_eq_true, decide_eq_true_eq] at hun
        refine ⟨e :: o, ?_, ⟨h2, hun.1, ho2⟩, fun o' h => ?_⟩
        · simp only [ordI, if_neg h0, h1, ho1]; rfl
        · match o', h with
          | [], h => exact absurd h h0
          | x :: t, ⟨x1, x2, x3⟩ =>
            have hltx := remB_mem hs x1
            have hux : unI l k s x = true := by
              simp only [unI, Bool.and_eq_true, decide_eq_true_eq]
              exact ⟨x2, stI_of (by omega) x3⟩
            have hle := find_first (bits_asc s) h1 x1 hux
            show lexB ((x : Int) :: nL t) ((e : Int) :: nL o) = false
            simp only [lexB]
            by_cases he : (x : Int) = (e : Int)
            · rw [if_pos he]
              obtain rfl : x = e := by omega
              exact ho3 t x3
            · rw [if_neg he]; exact decide_eq_false (by omega)
theorem full0 : ∀ n : Fin 11, ∀ s : Fin 1024, s.1 < 2 ^ n.1 → (bitsL s.1).length ≤ n.1 ∧ ((bitsL s.1).length = n.1 → s.1 = 2 ^ n.1 - 1) := by decide +kernel
theorem full1 : ∀ n : Fin 11, (bitsL (2 ^ n.1 - 1)).length = n.1 := by decide +kernel
theorem full2 : ∀ n : Fin 11, bitsL (2 ^ n.1 - 1) = List.range n.1 := by decide +kernel
theorem bits_full {n s : Nat} (hn : n ≤ 10) (hs : s < 2 ^ n) (h : (bitsL s).length = n) : s = 2 ^ n - 1 := (full0 ⟨n, by omega⟩ ⟨s, by have := pow_le10 hn; omega⟩ hs).2 h
theorem full_len {n : Nat} (hn : n ≤ 10) : (bitsL (2 ^ n - 1)).length = n := full1 ⟨n, by omega⟩
theorem full_bits {n : Nat} (hn : n ≤ 10) : bitsL (2 ^ n - 1) = List.range n := full2 ⟨n, by omega⟩
theorem mask_bits {n : Nat} (hn : n ≤ 10) {o : List Nat} (h : ∀ e ∈ o, e < n) : ∃ s, s < 2 ^ n ∧ ∀ e, e ∈ o ↔ e ∈ bitsL s := by
  refine ⟨maskP (fun j => decide (j ∈ o)) n, maskP_lt _ _, fun e => ?_⟩
  simp only [bitsL, List.mem_filter, List.mem_range, maskP_bit, Bool.and_eq_true, decide_eq_true_eq]
  constructor
  · intro he; have := h e he; exact ⟨by omega, this, he⟩
  · exact fun h => h.2.2
theorem order_set {l : List Lod} {k : Int} (hl : l.length ≤ 10) {o : List Nat} (h1 : ∀ e ∈ o, e < l.length) (h2 : o.Nodup) (h3 : failN k (pickL l o) = none) : ∃ s, s < 2 ^ l.length ∧ stO l k s o ∧ (bitsL s).length = o.length := by
  obtain ⟨s, hs, hm⟩ := mask_bits hl h1
  have hp := pow_le10 hl
  have := stO_of (by omega) h2 hm h3
  exact ⟨s, hs, this, (stO_ok (by omega) this).len.symm⟩
theorem order_full {l : List Lod} {k : Int} (hl : l.length ≤ 10) {o : List Nat} (h1 : ∀ e ∈ o, e < l.length) (h2 : o.Nodup) (h3 : failN k (pickL l o) = none) (h4 : o.length = l.length) : stO l k (2 ^ l.length - 1) o := by
  obtain ⟨s, hs, ho, hlen⟩ := order_set hl h1 h2 h3
  rw [← bits_full hl hs (by omega)]; exact ho
def posN : List Nat → Nat → Nat
  | [], _ => 0
  | a :: m, e => if a = e then 0 else posN m e + 1
theorem posN_get : ∀ {m : List Nat} {e : Nat}, e ∈ m → m[posN m e]? = some e
  | a :: m, e, h => by
    rw [posN]
    split
    · rename_i h1; rw [h1]; rfl
    · rename_i h1
      rcases List.mem_cons.1 h with h | h
      · exact absurd h.symm h1
      · exact posN_get h
theorem posN_at : ∀ {m : List Nat} {i e : Nat}, m.Nodup → m[i]? = some e → posN m e = i
  | a :: m, 0, e, _, h => by cases h; rw [posN, if_pos rfl]
  | a :: m, i + 1, e, hn, h => by
    obtain ⟨h1, h2⟩ := List.nodup_cons.1 hn
    have hm : e ∈ m := List.mem_of_getElem? h
    rw [posN, if_neg (fun e2 : a = e => h1 (by rw [e2]; exact hm)), posN_at h2 (by simpa using h)]
theorem nodup_map_on {f : Nat → Nat} : ∀ {o : List Nat}, o.Nodup → (∀ x ∈ o, ∀ y ∈ o, f x = f y → x = y) → (o.map f).Nodup
  | [], _, _ => List.nodup_nil
  | a :: o, hn, h => by
    obtain ⟨h1, h2⟩ := List.nodup_cons.1 hn
    rw [List.map_cons, List.nodup_cons]
    refine ⟨fun hm => ?_, nodup_map_on h2 (fun x hx y hy => h x (by simp [hx]) y (by simp [hy]))⟩
    obtain ⟨x, hx, he⟩ := List.mem_map.1 hm
    exact h1 (h x (by simp [hx]) a (by simp) he ▸ hx)
theorem some_stand {l : List Lod} {k : Int} {s : Nat} (hs : s < 1024) (h : stI l k s = true) : stI (pickL l (bitsL s)) k (2 ^ (bitsL s).length - 1) = true := by
  obtain ⟨o, ho⟩ := (stI_iff l k s s (Nat.le_refl _) hs).1 h
  have hk := stO_ok hs ho
  have hlen := bits_len s
  have hp := pow_le10 hlen
  have hp1 : 0 < 2 ^ (bitsL s).length := Nat.two_pow_pos _
  have hnd := bits_nodup s
  have hmem : ∀ e ∈ o, e ∈ bitsL s := fun e he => (hk.mem e).1 he
  have hpk : ∀ e ∈ o, pk (pickL l (bitsL s)) (posN (bitsL s) e) = pk l e := fun e he => by
    unfold pk pickL
    rw [List.getElem?_map, posN_get (hmem e he)]; rfl
  have heq : pickL (pickL l (bitsL s)) (o.map (posN (bitsL s))) = pickL l o := by
    show (o.map (posN (bitsL s))).map (pk (pickL l (bitsL s))) = o.map (pk l)
    rw [List.map_map]
    exact List.map_congr_left hpk
  refine stI_of (o := o.map (posN (bitsL s))) (by omega) (stO_of (by omega) (nodup_map_on hk.nodup (fun x hx y hy e => ?_)) (fun e => ?_) (by rw [heq]; exact hk.fail))
  · have h1 := posN_get (hmem x hx)
    have h2 := posN_get (hmem y hy)
    rw [e, h2] at h1; cases h1; rfl
  · rw [full_bits hlen, List.mem_range, List.mem_map]
    constructor
    · rintro ⟨x, hx, rfl⟩
      exact (List.getElem?_eq_some_iff.1 (posN_get (hmem x hx))).1
    · intro he
      obtain ⟨x, hx⟩ := getE he
      exact ⟨x, (hk.mem x).2 (List.mem_of_getElem? hx), posN_at hnd hx⟩
end Go.Dw.Seat
end
section
set_option linter.unusedSimpArgs false
set_option maxRecDepth 100000
namespace Go.Dw.Seat
open Go Go.Dw Go.Proofs Go.IntWalk
theorem all_at6 {α : Type} {p : α → Bool} {l : List α} (h : ∀ j, j < l.length → ∀ u, l[j]? = some u → p u = true) : l.all p = true := List.all_eq_true.2 fun v hv => by
  obtain ⟨j, hj⟩ := List.mem_iff_getElem?.1 hv
  exact h j (List.getElem?_eq_some_iff.1 hj).1 v hj
theorem all_no6 {α : Type} {p : α → Bool} {l : List α} {j : Nat} {u : α} (hj : l[j]? = some u) (h : p u = false) : l.all p = false := by
  cases e : l.all p with
  | false => rfl
  | true =>
    have := List.all_eq_true.1 e u (List.mem_of_getElem? hj)
    rw [h] at this; cases this
theorem reBoxes (b : Bool) (l : List Lod) (hl : l.length ≤ 2 ^ 36) : DCall Tryd.prog 80 [.c (.sl b 4 (rows eLd l))] [] (bD (l.all lodOk)) [] := by
  refine DCall.of Tryd.func80 sf80 hb80 (Nat.le_of_ble_eq_true rfl) (okRes_nil fun _ => rfl) ?_; simp only [s80, Mv, Sg, Ld, Fa, Xt, Ix, Ln, Cl, Oo, Og, idxs, Nat.reduceAdd]
  repeat' (first
    | (with_reducible first | refine DW.seq ?_ | refine DW.block ?_ | refine DW.skip ?_ | refine DW.exit ?_ | refine DW.ret ?_ | refine DW.reg ?_)
    | (simp (disch := omega) only [go_sem, Nat.reduceLT, Nat.reduceLeDiff, Nat.reduceAdd, Nat.reduceMul, Nat.reduceEqDiff, ↓reduceIte, reduceCtorEq, Nat.reduceBEq, Nat.reduceBNe, Nat.reducePow, Int.reduceLE, Int.reduceLT, Int.reduceNeg, Int.reduceToNat, Int.reduceEq, Int.reduceAdd, Int.reduceSub, Int.reduceMul, Int.reduceBEq, Int.reduceBNe, bm_box, bm_row, bk_box, bk_row])
    | (exact retS_of rfl rfl rfl)
    | (refine DW.cond_tt rfl ?_)
    | (refine DW.cond_ff rfl ?_)
    | (refine DW.cond rfl ?_ ?_ <;> intro hc <;> (try simp only [go_sem] at hc))
    | (refine g_split ?_ ?_ <;> intro hc <;> (try simp only [hc]) <;> (try simp only [go_sem] at hc)))
  refine DW.loop (ι := { i : Nat // i ≤ l.length ∧ ∀ j, j < i → ∀ u, l[j]? = some u → lodOk u = true }) (fun i => ⟨26, [(3, dI i.1), (0, .c (.sl b 4 (rows eLd l)))], []⟩) (fun i => l.length - i.1) ⟨0, Nat.zero_le _, fun j h => by omega⟩ ?_ ?_
  · refine Ent.to ?_ ?_ <;> simp (disch := omega) only [wkT_cons, wkX_cons, wkT_nil, wkX_nil, get, Nat.reduceEqDiff, ↓reduceIte, ex_some, wk_self, wk_top, wk_nil, wkB_self, and_self, dI, i64_in, and_true, true_and, Int.natCast_add, Int.natCast_one, Int.ofNat_zero, Int.natCast_zero]
  rintro ⟨i, hi, hij⟩
  rcases at_or l i hi with ⟨v, hv, hlt, hd⟩ | ⟨he, hd⟩
  · have h1 := reSpan v.sl v.sh 0 20000000
    have h2 := reSpan v.wl v.wh 0 100000
    have hlo : lodOk v = (spanOk v.sl v.sh 0 20000000 && spanOk v.wl v.wh 0 100000) := rfl
    cases c1 : spanOk v.sl v.sh 0 20000000 with
    | false =>
      rw [c1] at h1 hlo
      have hr := all_no6 (p := lodOk) hv (by rw [hlo]; rfl)
      repeat' (first
    | (with_reducible first | refine DW.seq ?_ | refine DW.block ?_ | refine DW.skip ?_ | refine DW.exit ?_ | refine DW.ret ?_ | refine DW.reg ?_)
    | (simp (disch := omega) only [go_sem, Nat.reduceLT, Nat.reduceLeDiff, Nat.reduceAdd, Nat.reduceMul, Nat.reduceEqDiff, ↓reduceIte, reduceCtorEq, Nat.reduceBEq, Nat.reduceBNe, Nat.reducePow, Int.reduceLE, Int.reduceLT, Int.reduceNeg, Int.reduceToNat, Int.reduceEq, Int.reduceAdd, Int.reduceSub, Int.reduceMul, Int.reduceBEq, Int.reduceBNe, bm_box, bm_row, bk_box, bk_row, hd, hv, List.map_cons, List.map_nil])
    | (exact retS_of rfl rfl rfl)
    | (refine DW.cond_tt rfl ?_)
    | (refine call_c (h1) (by decide) ?_)
    | (refine DW.cond_ff rfl ?_)
    | (refine DW.cond rfl ?_ ?_ <;> intro hc <;> (try simp only [go_sem] at hc))
    | (refine g_split ?_ ?_ <;> intro hc <;> (try simp only [hc]) <;> (try simp only [go_sem] at hc)))
      refine retS_of rfl ?_ rfl; simp only [oneD, St.op, get, Nat.reduceEqDiff, ↓reduceIte, Option.getD_some, bD, dI]
      rw [hr]
    | true =>
      rw [c1] at h1 hlo
      cases c2 : spanOk v.wl v.wh 0 100000 with
      | false =>
        rw [c2] at h2 hlo
        have hr := all_no6 (p := lodOk) hv (by rw [hlo]; rfl)
        repeat' (first
    | (with_reducible first | refine DW.seq ?_ | refine DW.block ?_ | refine DW.skip ?_ | refine DW.exit ?_ | refine DW.ret ?_ | refine DW.reg ?_)
    | (simp (disch := omega) only [go_sem, Nat.reduceLT, Nat.reduceLeDiff, Nat.reduceAdd, Nat.reduceMul, Nat.reduceEqDiff, ↓reduceIte, reduceCtorEq, Nat.reduceBEq, Nat.reduceBNe, Nat.reducePow, Int.reduceLE, Int.reduceLT, Int.reduceNeg, Int.reduceToNat, Int.reduceEq, Int.reduceAdd, Int.reduceSub, Int.reduceMul, Int.reduceBEq, Int.reduceBNe, bm_box, bm_row, bk_box, bk_row, hd, hv, List.map_cons, List.map_nil])
    | (exact retS_of rfl rfl rfl)
    | (refine DW.cond_tt rfl ?_)
    | (refine call_c (h1) (by decide) ?_)
    | (refine call_c (h2) (by decide) ?_)
    | (refine DW.cond_ff rfl ?_)
    | (refine DW.cond rfl ?_ ?_ <;> intro hc <;> (try simp only [go_sem] at hc))
    | (refine g_split ?_ ?_ <;> intro hc <;> (try simp only [hc]) <;> (try simp only [go_sem] at hc)))
        refine retS_of rfl ?_ rfl; simp only [oneD, St.op, get, Nat.reduceEqDiff, ↓reduceIte, Option.getD_some, bD, dI]
        rw [hr]
      | true =>
        rw [c2] at h2 hlo
        repeat' (first
    | (with_reducible first | refine DW.seq ?_ | refine DW.block ?_ | refine DW.skip ?_ | refine DW.exit ?_ | refine DW.ret ?_ | refine DW.reg ?_)
    | (simp (disch := omega) only [go_sem, Nat.reduceLT, Nat.reduceLeDiff, Nat.reduceAdd, Nat.reduceMul, Nat.reduceEqDiff, ↓reduceIte, reduceCtorEq, Nat.reduceBEq, Nat.reduceBNe, Nat.reducePow, Int.reduceLE, Int.reduceLT, Int.reduceNeg, Int.reduceToNat, Int.reduceEq, Int.reduceAdd, Int.reduceSub, Int.reduceMul, Int.reduceBEq, Int.reduceBNe, bm_box, bm_row, bk_box, bk_row, hd, hv, List.map_cons, List.map_nil])
    | (exact retS_of rfl rfl rfl)
    | (refine DW.cond_tt rfl ?_)
    | (refine call_c (h1) (by decide) ?_)
    | (refine call_c (h2) (by decide) ?_)
    | (refine DW.cond_ff rfl ?_)
    | (refine DW.cond rfl ?_ ?_ <;> intro hc <;> (try simp only [go_sem] at hc))
    | (refine g_split ?_ ?_ <;> intro hc <;> (try simp only [hc]) <;> (try simp only [go_sem] at hc)))
        refine ⟨⟨i + 1, hlt, fun j hj u hu => by
          rcases Nat.lt_or_ge j i with h | h
          · exact hij j h u hu
          · obtain rfl : j = i := by omega
            rw [hv] at hu; cases hu; exact hlo⟩, ?_, Ent.to ?_ ?_⟩ <;> first | (show _ < _; (try simp only); omega) | (simp (disch := omega) only [wkT_cons, wkX_cons, wkT_nil, wkX_nil, get, Nat.reduceEqDiff, ↓reduceIte, ex_some, wk_self, wk_top, wk_nil, wkB_self, and_self, dI, i64_in, and_true, true_and, Int.natCast_add, Int.natCast_one, Int.ofNat_zero, Int.natCast_zero])
  · have hr := all_at6 (p := lodOk) (he ▸ hij)
    repeat' (first
    | (with_reducible first | refine DW.seq ?_ | refine DW.block ?_ | refine DW.skip ?_ | refine DW.exit ?_ | refine DW.ret ?_ | refine DW.reg ?_)
    | (simp (disch := omega) only [go_sem, Nat.reduceLT, Nat.reduceLeDiff, Nat.reduceAdd, Nat.reduceMul, Nat.reduceEqDiff, ↓reduceIte, reduceCtorEq, Nat.reduceBEq, Nat.reduceBNe, Nat.reducePow, Int.reduceLE, Int.reduceLT, Int.reduceNeg, Int.reduceToNat, Int.reduceEq, Int.reduceAdd, Int.reduceSub, Int.reduceMul, Int.reduceBEq, Int.reduceBNe, bm_box, bm_row, bk_box, bk_row, hd])
    | (exact retS_of rfl rfl rfl)
    | (refine DW.cond_tt rfl ?_)
    | (refine DW.cond_ff rfl ?_)
    | (refine DW.cond rfl ?_ ?_ <;> intro hc <;> (try simp only [go_sem] at hc))
    | (refine g_split ?_ ?_ <;> intro hc <;> (try simp only [hc]) <;> (try simp only [go_sem] at hc)))
    refine retS_of rfl ?_ rfl; simp only [oneD, St.op, get, Nat.reduceEqDiff, ↓reduceIte, Option.getD_some, bD, dI]
    rw [hr]
theorem any_all (l : List Lod) : (l.any fun b => !lodOk b) = !(l.all lodOk) := by
  induction l with
  | nil => rfl
  | cons b l ih => rw [List.any_cons, List.all_cons, ih, Bool.not_and]
theorem reStack (b : Bool) (l : List Lod) (most : Int) (hl : l.length ≤ 2 ^ 36) : DCall Tryd.prog 39 [.c (.sl b 4 (rows eLd l)), dI most] [] (dI (boxesE l most)) [] := by
  have h1 := reBoxes b l hl
  unfold boxesE
  rw [any_all]
  by_cases hm : most < (l.length : Int)
  · have hd : decide (most < (l.length : Int)) = true := decide_eq_true hm
    rw [if_pos hm]
    refine DCall.of Tryd.func39 sf39 hb39 (Nat.le_of_ble_eq_true rfl) (okRes_nil fun _ => rfl) ?_; simp only [s39, Mv, Sg, Ld, Fa, Xt, Ix, Ln, Cl, Oo, Og, idxs, Nat.reduceAdd]
    repeat' (first
    | (with_reducible first | refine DW.seq ?_ | refine DW.block ?_ | refine DW.skip ?_ | refine DW.exit ?_ | refine DW.ret ?_ | refine DW.reg ?_)
    | (simp (disch := omega) only [go_sem, Nat.reduceLT, Nat.reduceLeDiff, Nat.reduceAdd, Nat.reduceMul, Nat.reduceEqDiff, ↓reduceIte, reduceCtorEq, Nat.reduceBEq, Nat.reduceBNe, Nat.reducePow, Int.reduceLE, Int.reduceLT, Int.reduceNeg, Int.reduceToNat, Int.reduceEq, Int.reduceAdd, Int.reduceSub, Int.reduceMul, Int.reduceBEq, Int.reduceBNe, bm_box, bm_row, bk_box, bk_row, hd])
    | (exact retS_of rfl rfl rfl)
    | (refine DW.cond_tt rfl ?_)
    | (refine DW.cond_ff rfl ?_)
    | (refine DW.cond rfl ?_ ?_ <;> intro hc <;> (try simp only [go_sem] at hc))
    | (refine g_split ?_ ?_ <;> intro hc <;> (try simp only [hc]) <;> (try simp only [go_sem] at hc)))
  have hd : decide (most < (l.length : Int)) = false := decide_eq_false hm
  rw [if_neg hm]
  cases e : l.all lodOk <;> rw [e] at h1
  · rw [if_pos (by decide)]
    refine DCall.of Tryd.func39 sf39 hb39 (Nat.le_of_ble_eq_true rfl) (okRes_nil fun _ => rfl) ?_; simp only [s39, Mv, Sg, Ld, Fa, Xt, Ix, Ln, Cl, Oo, Og, idxs, Nat.reduceAdd]
    repeat' (first
    | (with_reducible first | refine DW.seq ?_ | refine DW.block ?_ | refine DW.skip ?_ | refine DW.exit ?_ | refine DW.ret ?_ | refine DW.reg ?_)
    | (simp (disch := omega) only [go_sem, Nat.reduceLT, Nat.reduceLeDiff, Nat.reduceAdd, Nat.reduceMul, Nat.reduceEqDiff, ↓reduceIte, reduceCtorEq, Nat.reduceBEq, Nat.reduceBNe, Nat.reducePow, Int.reduceLE, Int.reduceLT, Int.reduceNeg, Int.reduceToNat, Int.reduceEq, Int.reduceAdd, Int.reduceSub, Int.reduceMul, Int.reduceBEq, Int.reduceBNe, bm_box, bm_row, bk_box, bk_row, hd])
    | (exact retS_of rfl rfl rfl)
    | (refine DW.cond_tt rfl ?_)
    | (refine call_c (h1) (by decide) ?_)
    | (refine DW.cond_ff rfl ?_)
    | (refine DW.cond rfl ?_ ?_ <;> intro hc <;> (try simp only [go_sem] at hc))
    | (refine g_split ?_ ?_ <;> intro hc <;> (try simp only [hc]) <;> (try simp only [go_sem] at hc)))
  · rw [if_neg (by decide)]
    refine DCall.of Tryd.func39 sf39 hb39 (Nat.le_of_ble_eq_true rfl) (okRes_nil fun _ => rfl) ?_; simp only [s39, Mv, Sg, Ld, Fa, Xt, Ix, Ln, Cl, Oo, Og, idxs, Nat.reduceAdd]
    repeat' (first
    | (with_reducible first | refine DW.seq ?_ | refine DW.block ?_ | refine DW.skip ?_ | refine DW.exit ?_ | refine DW.ret ?_ | refine DW.reg ?_)
    | (simp (disch := omega) only [go_sem, Nat.reduceLT, Nat.reduceLeDiff, Nat.reduceAdd, Nat.reduceMul, Nat.reduceEqDiff, ↓reduceIte, reduceCtorEq, Nat.reduceBEq, Nat.reduceBNe, Nat.reducePow, Int.reduceLE, Int.reduceLT, Int.reduceNeg, Int.reduceToNat, Int.reduceEq, Int.reduceAdd, Int.reduceSub, Int.reduceMul, Int.reduceBEq, Int.reduceBNe, bm_box, bm_row, bk_box, bk_row, hd])
    | (exact retS_of rfl rfl rfl)
    | (refine DW.cond_tt rfl ?_)
    | (refine call_c (h1) (by decide) ?_)
    | (refine DW.cond_ff rfl ?_)
    | (refine DW.cond rfl ?_ ?_ <;> intro hc <;> (try simp only [go_sem] at hc))
    | (refine g_split ?_ ?_ <;> intro hc <;> (try simp only [hc]) <;> (try simp only [go_sem] at hc)))
theorem reTableT (b : Bool) (l : List (Int × Int)) (h : TabF l) : DCall Tryd.prog 81 [.c (.sl b 2 (rows eK l))] [] (bD true) [] := by
  have hlen := h.len
  have i1 := reIn (l.length : Int) 1 10
  have e1 : inI (l.length : Int) 1 10 = true := by simp [inI]; omega
  rw [e1] at i1
  obtain ⟨f, hf⟩ := getE (l := l) (i := 0) (by omega)
  have hfe : (f.1 != 0) = false := by rw [h.first f hf]; rfl
  refine DCall.of Tryd.func81 sf81 hb81 (Nat.le_of_ble_eq_true rfl) (okRes_nil fun _ => rfl) ?_; simp only [s81, Mv, Sg, Ld, Fa, Xt, Ix, Ln, Cl, Oo, Og, idxs, Nat.reduceAdd]
  repeat' (first
    | (with_reducible first | refine DW.seq ?_ | refine DW.block ?_ | refine DW.skip ?_ | refine DW.exit ?_ | refine DW.ret ?_ | refine DW.reg ?_)
    | (refine DW.dreg rfl (WF.of ?_) ?_; first | rfl | skip)
    | (simp (disch := omega) only [go_sem, Nat.reduceLT, Nat.reduceLeDiff, Nat.reduceAdd, Nat.reduceMul, Nat.reduceEqDiff, ↓reduceIte, reduceCtorEq, Nat.reduceBEq, Nat.reduceBNe, Nat.reducePow, Int.reduceLE, Int.reduceLT, Int.reduceNeg, Int.reduceToNat, Int.reduceEq, Int.reduceAdd, Int.reduceSub, Int.reduceMul, Int.reduceBEq, Int.reduceBNe, bm_box, bm_row, bk_box, bk_row, hf, hfe, List.map_cons, List.map_nil])
    | (exact retS_of rfl rfl rfl)
    | (refine DW.cond_tt rfl ?_)
    | (refine call_c (i1) (by decide) ?_)
    | (refine DW.cond_ff rfl ?_)
    | (refine DW.cond rfl ?_ ?_ <;> intro hc <;> (try simp only [go_sem] at hc))
    | (refine g_split ?_ ?_ <;> intro hc <;> (try simp only [hc]) <;> (try simp only [go_sem] at hc)))
  refine DW.loop (ι := { i : Nat // i ≤ l.length }) (fun i => ⟨69, [(3, dI i.1), (0, .c (.sl b 2 (rows eK l)))], []⟩) (fun i => l.length - i.1) ⟨0, Nat.zero_le _⟩ ?_ ?_
  · refine Ent.to ?_ ?_ <;> simp (disch := omega) only [wkT_cons, wkX_cons, wkT_nil, wkX_nil, get, Nat.reduceEqDiff, ↓reduceIte, ex_some, wk_self, wk_top, wk_nil, wkB_self, and_self, dI, i64_in, and_true, true_and, Int.natCast_add, Int.natCast_one, Int.ofNat_zero, Int.natCast_zero]
  rintro ⟨i, hi⟩
  rcases at_or l i hi with ⟨v, hv, hlt, hd⟩ | ⟨he, hd⟩
  · have hm := h.mem v (List.mem_of_getElem? hv)
    have i2 := reIn v.1 0 10000
    have i3 := reIn v.2 0 1000
    have e2 : inI v.1 0 10000 = true := by simp [inI]; omega
    have e3 : inI v.2 0 1000 = true := by simp [inI]; omega
    rw [e2] at i2
    rw [e3] at i3
    rcases i with _ | i
    · have hd' : decide ((0 : Int) < (l.length : Int)) = true := hd
      repeat' (first
    | (with_reducible first | refine DW.seq ?_ | refine DW.block ?_ | refine DW.skip ?_ | refine DW.exit ?_ | refine DW.ret ?_ | refine DW.reg ?_)
    | (refine DW.dreg rfl (WF.of ?_) ?_; first | rfl | skip)
    | (simp (disch := omega) only [go_sem, Nat.reduceLT, Nat.reduceLeDiff, Nat.reduceAdd, Nat.reduceMul, Nat.reduceEqDiff, ↓reduceIte, reduceCtorEq, Nat.reduceBEq, Nat.reduceBNe, Nat.reducePow, Int.reduceLE, Int.reduceLT, Int.reduceNeg, Int.reduceToNat, Int.reduceEq, Int.reduceAdd, Int.reduceSub, Int.reduceMul, Int.reduceBEq, Int.reduceBNe, bm_box, bm_row, bk_box, bk_row, hd', hv, List.map_cons, List.map_nil])
    | (exact retS_of rfl rfl rfl)
    | (refine DW.cond_tt rfl ?_)
    | (refine call_c (i2) (by decide) ?_)
    | (refine call_c (i3) (by decide) ?_)
    | (refine DW.cond_ff rfl ?_)
    | (refine DW.cond rfl ?_ ?_ <;> intro hc <;> (try simp only [go_sem] at hc))
    | (refine g_split ?_ ?_ <;> intro hc <;> (try simp only [hc]) <;> (try simp only [go_sem] at hc)))
      refine ⟨⟨1, hlt⟩, ?_, Ent.to ?_ ?_⟩ <;> first | (show _ < _; (try simp only); omega) | (simp (disch := omega) only [wkT_cons, wkX_cons, wkT_nil, wkX_nil, get, Nat.reduceEqDiff, ↓reduceIte, ex_some, wk_self, wk_top, wk_nil, wkB_self, and_self, dI, i64_in, and_true, true_and, Int.natCast_add, Int.natCast_one, Int.ofNat_zero, Int.natCast_zero])
    · have hd0 : decide ((0 : Int) < ((i + 1 : Nat) : Int)) = true := by rw [decide_eq_true_eq]; omega
      obtain ⟨u, hu⟩ := getE (l := l) (i := i) (by omega)
      have hs := h.step i u v hu hv
      have e1 : ((i + 1 : Nat) : Int) - 1 = (i : Int) := by omega
      have d1 : decide (v.1 ≤ u.1) = false := by rw [decide_eq_false_iff_not]; omega
      have d2 : decide (u.2 < v.2) = false := by rw [decide_eq_false_iff_not]; omega
      repeat' (first
    | (with_reducible first | refine DW.seq ?_ | refine DW.block ?_ | refine DW.skip ?_ | refine DW.exit ?_ | refine DW.ret ?_ | refine DW.reg ?_)
    | (refine DW.dreg rfl (WF.of ?_) ?_; first | rfl | skip)
    | (simp (disch := omega) only [go_sem, Nat.reduceLT, Nat.reduceLeDiff, Nat.reduceAdd, Nat.reduceMul, Nat.reduceEqDiff, ↓reduceIte, reduceCtorEq, Nat.reduceBEq, Nat.reduceBNe, Nat.reducePow, Int.reduceLE, Int.reduceLT, Int.reduceNeg, Int.reduceToNat, Int.reduceEq, Int.reduceAdd, Int.reduceSub, Int.reduceMul, Int.reduceBEq, Int.reduceBNe, bm_box, bm_row, bk_box, bk_row, hd, hv, hd0, hu, e1, d1, d2, List.map_cons, List.map_nil])
    | (exact retS_of rfl rfl rfl)
    | (refine DW.cond_tt rfl ?_)
    | (refine call_c (i2) (by decide) ?_)
    | (refine call_c (i3) (by decide) ?_)
    | (refine DW.cond_ff rfl ?_)
    | (refine DW.cond rfl ?_ ?_ <;> intro hc <;> (try simp only [go_sem] at hc))
    | (refine g_split ?_ ?_ <;> intro hc <;> (try simp only [hc]) <;> (try simp only [go_sem] at hc)))
      refine ⟨⟨i + 1 + 1, hlt⟩, ?_, Ent.to ?_ ?_⟩ <;> first | (show _ < _; (try simp only); omega) | (simp (disch := omega) only [wkT_cons, wkX_cons, wkT_nil, wkX_nil, get, Nat.reduceEqDiff, ↓reduceIte, ex_some, wk_self, wk_top, wk_nil, wkB_self, and_self, dI, i64_in, and_true, true_and, Int.natCast_add, Int.natCast_one, Int.ofNat_zero, Int.natCast_zero])
  · repeat' (first
    | (with_reducible first | refine DW.seq ?_ | refine DW.block ?_ | refine DW.skip ?_ | refine DW.exit ?_ | refine DW.ret ?_ | refine DW.reg ?_)
    | (refine DW.dreg rfl (WF.of ?_) ?_; first | rfl | skip)
    | (simp (disch := omega) only [go_sem, Nat.reduceLT, Nat.reduceLeDiff, Nat.reduceAdd, Nat.reduceMul, Nat.reduceEqDiff, ↓reduceIte, reduceCtorEq, Nat.reduceBEq, Nat.reduceBNe, Nat.reducePow, Int.reduceLE, Int.reduceLT, Int.reduceNeg, Int.reduceToNat, Int.reduceEq, Int.reduceAdd, Int.reduceSub, Int.reduceMul, Int.reduceBEq, Int.reduceBNe, bm_box, bm_row, bk_box, bk_row, hd])
    | (exact retS_of rfl rfl rfl)
    | (refine DW.cond_tt rfl ?_)
    | (refine DW.cond_ff rfl ?_)
    | (refine DW.cond rfl ?_ ?_ <;> intro hc <;> (try simp only [go_sem] at hc))
    | (refine g_split ?_ ?_ <;> intro hc <;> (try simp only [hc]) <;> (try simp only [go_sem] at hc)))
set_option maxHeartbeats 2000000 in
theorem reTableF (b : Bool) (l : List (Int × Int)) (hl : l.length ≤ 2 ^ 36) (h : ¬ TabF l) : DCall Tryd.prog 81 [.c (.sl b 2 (rows eK l))] [] (bD false) [] := by
  have i1 := reIn (l.length : Int) 1 10
  cases e1 : inI (l.length : Int) 1 10 <;> rw [e1] at i1
  · refine DCall.of Tryd.func81 sf81 hb81 (Nat.le_of_ble_eq_true rfl) (okRes_nil fun _ => rfl) ?_; simp only [s81, Mv, Sg, Ld, Fa, Xt, Ix, Ln, Cl, Oo, Og, idxs, Nat.reduceAdd]
    repeat' (first
    | (with_reducible first | refine DW.seq ?_ | refine DW.block ?_ | refine DW.skip ?_ | refine DW.exit ?_ | refine DW.ret ?_ | refine DW.reg ?_)
    | (refine DW.dreg rfl (WF.of ?_) ?_; first | rfl | skip)
    | (simp (disch := omega) only [go_sem, Nat.reduceLT, Nat.reduceLeDiff, Nat.reduceAdd, Nat.reduceMul, Nat.reduceEqDiff, ↓reduceIte, reduceCtorEq, Nat.reduceBEq, Nat.reduceBNe, Nat.reducePow, Int.reduceLE, Int.reduceLT, Int.reduceNeg, Int.reduceToNat, Int.reduceEq, Int.reduceAdd, Int.reduceSub, Int.reduceMul, Int.reduceBEq, Int.reduceBNe, bm_box, bm_row, bk_box, bk_row])
    | (exact retS_of rfl rfl rfl)
    | (refine DW.cond_tt rfl ?_)
    | (refine call_c (i1) (by decide) ?_)
    | (refine DW.cond_ff rfl ?_)
    | (refine DW.cond rfl ?_ ?_ <;> intro hc <;> (try simp only [go_sem] at hc))
    | (refine g_split ?_ ?_ <;> intro hc <;> (try simp only [hc]) <;> (try simp only [go_sem] at hc)))
  have hlen : 1 ≤ l.length ∧ l.length ≤ 10 := by simp [inI] at e1; omega
  obtain ⟨f, hf⟩ := getE (l := l) (i := 0) (by omega)
  by_cases hf0 : f.1 = 0
  case neg =>
    have hfe : (f.1 != 0) = true := by simpa using hf0
    refine DCall.of Tryd.func81 sf81 hb81 (Nat.le_of_ble_eq_true rfl) (okRes_nil fun _ => rfl) ?_; simp only [s81, Mv, Sg, Ld, Fa, Xt, Ix, Ln, Cl, Oo, Og, idxs, Nat.reduceAdd]
    repeat' (first
    | (with_reducible first | refine DW.seq ?_ | refine DW.block ?_ | refine DW.skip ?_ | refine DW.exit ?_ | refine DW.ret ?_ | refine DW.reg ?_)
    | (refine DW.dreg rfl (WF.of ?_) ?_; first | rfl | skip)
    | (simp (disch := omega) only [go_sem, Nat.reduceLT, Nat.reduceLeDiff, Nat.reduceAdd, Nat.reduceMul, Nat.reduceEqDiff, ↓reduceIte, reduceCtorEq, Nat.reduceBEq, Nat.reduceBNe, Nat.reducePow, Int.reduceLE, Int.reduceLT, Int.reduceNeg, Int.reduceToNat, Int.reduceEq, Int.reduceAdd, Int.reduceSub, Int.reduceMul, Int.reduceBEq, Int.reduceBNe, bm_box, bm_row, bk_box, bk_row, hf, hfe, List.map_cons, List.map_nil])
    | (exact retS_of rfl rfl rfl)
    | (refine DW.cond_tt rfl ?_)
    | (refine call_c (i1) (by decide) ?_)
    | (refine DW.cond_ff rfl ?_)
    | (refine DW.cond rfl ?_ ?_ <;> intro hc <;> (try simp only [go_sem] at hc))
    | (refine g_split ?_ ?_ <;> intro hc <;> (try simp only [hc]) <;> (try simp only [go_sem] at hc)))
  have hfirst : ∀ u, l[0]? = some u → u.1 = 0 := fun u hu => by rw [hf] at hu; cases hu; exact hf0
  have hfe : (f.1 != 0) = false := by rw [hf0]; rfl
  refine DCall.of Tryd.func81 sf81 hb81 (Nat.le_of_ble_eq_true rfl) (okRes_nil fun _ => rfl) ?_; simp only [s81, Mv, Sg, Ld, Fa, Xt, Ix, Ln, Cl, Oo, Og, idxs, Nat.reduceAdd]
  repeat' (first
    | (with_reducible first | refine DW.seq ?_ | refine DW.block ?_ | refine DW.skip ?_ | refine DW.exit ?_ | refine DW.ret ?_ | refine DW.reg ?_)
    | (refine DW.dreg rfl (WF.of ?_) ?_; first | rfl | skip)
    | (simp (disch := omega) only [go_sem, Nat.reduceLT, Nat.reduceLeDiff, Nat.reduceAdd, Nat.reduceMul, Nat.reduceEqDiff, ↓reduceIte, reduceCtorEq, Nat.reduceBEq, Nat.reduceBNe, Nat.reducePow, Int.reduceLE, Int.reduceLT, Int.reduceNeg, Int.reduceToNat, Int.reduceEq, Int.reduceAdd, Int.reduceSub, Int.reduceMul, Int.reduceBEq, Int.reduceBNe, bm_box, bm_row, bk_box, bk_row, hf, hfe, List.map_cons, List.map_nil])
    | (exact retS_of rfl rfl rfl)
    | (refine DW.cond_tt rfl ?_)
    | (refine call_c (i1) (by decide) ?_)
    | (refine DW.cond_ff rfl ?_)
    | (refine DW.cond rfl ?_ ?_ <;> intro hc <;> (try simp only [go_sem] at hc))
    | (refine g_split ?_ ?_ <;> intro hc <;> (try simp only [hc]) <;> (try simp only [go_sem] at hc)))
  refine DW.loop (ι := { i : Nat // i ≤ l.length ∧ ∀ j, j < i → stepOk l j }) (fun i => ⟨69, [(3, dI i.1), (0, .c (.sl b 2 (rows eK l)))], []⟩) (fun i => l.length - i.1) ⟨0, Nat.zero_le _, fun j h => by omega⟩ ?_ ?_
  · refine Ent.to ?_ ?_ <;> simp (disch := omega) only [wkT_cons, wkX_cons, wkT_nil, wkX_nil, get, Nat.reduceEqDiff, ↓reduceIte, ex_some, wk_self, wk_top, wk_nil, wkB_self, and_self, dI, i64_in, and_true, true_and, Int.natCast_add, Int.natCast_one, Int.ofNat_zero, Int.natCast_zero]
  rintro ⟨i, hi, hij⟩
  rcases at_or l i hi with ⟨v, hv, hlt, hd⟩ | ⟨he, hd⟩
  · have i2 := reIn v.1 0 10000
    have i3 := reIn v.2 0 1000
    have hd' : i = 0 → decide ((0 : Int) < (l.length : Int)) = true := fun h => by subst h; exact hd
    cases e3 : inI v.1 0 10000 <;> rw [e3] at i2
    · rcases i with _ | i
      · repeat' (first
    | (with_reducible first | refine DW.seq ?_ | refine DW.block ?_ | refine DW.skip ?_ | refine DW.exit ?_ | refine DW.ret ?_ | refine DW.reg ?_)
    | (refine DW.dreg rfl (WF.of ?_) ?_; first | rfl | skip)
    | (simp (disch := omega) only [go_sem, Nat.reduceLT, Nat.reduceLeDiff, Nat.reduceAdd, Nat.reduceMul, Nat.reduceEqDiff, ↓reduceIte, reduceCtorEq, Nat.reduceBEq, Nat.reduceBNe, Nat.reducePow, Int.reduceLE, Int.reduceLT, Int.reduceNeg, Int.reduceToNat, Int.reduceEq, Int.reduceAdd, Int.reduceSub, Int.reduceMul, Int.reduceBEq, Int.reduceBNe, bm_box, bm_row, bk_box, bk_row, hd' rfl, hv, List.map_cons, List.map_nil])
    | (exact retS_of rfl rfl rfl)
    | (refine DW.cond_tt rfl ?_)
    | (refine call_c (i2) (by decide) ?_)
    | (refine DW.cond_ff rfl ?_)
    | (refine DW.cond rfl ?_ ?_ <;> intro hc <;> (try simp only [go_sem] at hc))
    | (refine g_split ?_ ?_ <;> intro hc <;> (try simp only [hc]) <;> (try simp only [go_sem] at hc)))
      · repeat' (first
    | (with_reducible first | refine DW.seq ?_ | refine DW.block ?_ | refine DW.skip ?_ | refine DW.exit ?_ | refine DW.ret ?_ | refine DW.reg ?_)
    | (refine DW.dreg rfl (WF.of ?_) ?_; first | rfl | skip)
    | (simp (disch := omega) only [go_sem, Nat.reduceLT, Nat.reduceLeDiff, Nat.reduceAdd, Nat.reduceMul, Nat.reduceEqDiff, ↓reduceIte, reduceCtorEq, Nat.reduceBEq, Nat.reduceBNe, Nat.reducePow, Int.reduceLE, Int.reduceLT, Int.reduceNeg, Int.reduceToNat, Int.reduceEq, Int.reduceAdd, Int.reduceSub, Int.reduceMul, Int.reduceBEq, Int.reduceBNe, bm_box, bm_row, bk_box, bk_row, hd, hv, List.map_cons, List.map_nil])
    | (exact retS_of rfl rfl rfl)
    | (refine DW.cond_tt rfl ?_)
    | (refine call_c (i2) (by decide) ?_)
    | (refine DW.cond_ff rfl ?_)
    | (refine DW.cond rfl ?_ ?_ <;> intro hc <;> (try simp only [go_sem] at hc))
    | (refine g_split ?_ ?_ <;> intro hc <;> (try simp only [hc]) <;> (try simp only [go_sem] at hc)))
    cases e4 : inI v.2 0 1000 <;> rw [e4] at i3
    · rcases i with _ | i
      · repeat' (first
    | (with_reducible first | refine DW.seq ?_ | refine DW.block ?_ | refine DW.skip ?_ | refine DW.exit ?_ | refine DW.ret ?_ | refine DW.reg ?_)
    | (refine DW.dreg rfl (WF.of ?_) ?_; first | rfl | skip)
    | (simp (disch := omega) only [go_sem, Nat.reduceLT, Nat.reduceLeDiff, Nat.reduceAdd, Nat.reduceMul, Nat.reduceEqDiff, ↓reduceIte, reduceCtorEq, Nat.reduceBEq, Nat.reduceBNe, Nat.reducePow, Int.reduceLE, Int.reduceLT, Int.reduceNeg, Int.reduceToNat, Int.reduceEq, Int.reduceAdd, Int.reduceSub, Int.reduceMul, Int.reduceBEq, Int.reduceBNe, bm_box, bm_row, bk_box, bk_row, hd' rfl, hv, List.map_cons, List.map_nil])
    | (exact retS_of rfl rfl rfl)
    | (refine DW.cond_tt rfl ?_)
    | (refine call_c (i2) (by decide) ?_)
    | (refine call_c (i3) (by decide) ?_)
    | (refine DW.cond_ff rfl ?_)
    | (refine DW.cond rfl ?_ ?_ <;> intro hc <;> (try simp only [go_sem] at hc))
    | (refine g_split ?_ ?_ <;> intro hc <;> (try simp only [hc]) <;> (try simp only [go_sem] at hc)))
      · repeat' (first
    | (with_reducible first | refine DW.seq ?_ | refine DW.block ?_ | refine DW.skip ?_ | refine DW.exit ?_ | refine DW.ret ?_ | refine DW.reg ?_)
    | (refine DW.dreg rfl (WF.of ?_) ?_; first | rfl | skip)
    | (simp (disch := omega) only [go_sem, Nat.reduceLT, Nat.reduceLeDiff, Nat.reduceAdd, Nat.reduceMul, Nat.reduceEqDiff, ↓reduceIte, reduceCtorEq, Nat.reduceBEq, Nat.reduceBNe, Nat.reducePow, Int.reduceLE, Int.reduceLT, Int.reduceNeg, Int.reduceToNat, Int.reduceEq, Int.reduceAdd, Int.reduceSub, Int.reduceMul, Int.reduceBEq, Int.reduceBNe, bm_box, bm_row, bk_box, bk_row, hd, hv, List.map_cons, List.map_nil])
    | (exact retS_of rfl rfl rfl)
    | (refine DW.cond_tt rfl ?_)
    | (refine call_c (i2) (by decide) ?_)
    | (refine call_c (i3) (by decide) ?_)
    | (refine DW.cond_ff rfl ?_)
    | (refine DW.cond rfl ?_ ?_ <;> intro hc <;> (try simp only [go_sem] at hc))
    | (refine g_split ?_ ?_ <;> intro hc <;> (try simp only [hc]) <;> (try simp only [go_sem] at hc)))
    have hnx : (∀ k u, i = k + 1 → l[k]? = some u → u.1 < v.1 ∧ v.2 ≤ u.2) → ∀ j, j < i + 1 → stepOk l j := fun hs j hj => by
      rcases Nat.lt_or_ge j i with h | h
      · exact hij j h
      · obtain rfl : j = i := by omega
        intro w hw
        rw [hv] at hw; cases hw
        exact ⟨⟨by simpa [inI] using e3, by simpa [inI] using e4⟩, hs⟩
    rcases i with _ | i
    · repeat' (first
    | (with_reducible first | refine DW.seq ?_ | refine DW.block ?_ | refine DW.skip ?_ | refine DW.exit ?_ | refine DW.ret ?_ | refine DW.reg ?_)
    | (refine DW.dreg rfl (WF.of ?_) ?_; first | rfl | skip)
    | (simp (disch := omega) only [go_sem, Nat.reduceLT, Nat.reduceLeDiff, Nat.reduceAdd, Nat.reduceMul, Nat.reduceEqDiff, ↓reduceIte, reduceCtorEq, Nat.reduceBEq, Nat.reduceBNe, Nat.reducePow, Int.reduceLE, Int.reduceLT, Int.reduceNeg, Int.reduceToNat, Int.reduceEq, Int.reduceAdd, Int.reduceSub, Int.reduceMul, Int.reduceBEq, Int.reduceBNe, bm_box, bm_row, bk_box, bk_row, hd' rfl, hv, List.map_cons, List.map_nil])
    | (exact retS_of rfl rfl rfl)
    | (refine DW.cond_tt rfl ?_)
    | (refine call_c (i2) (by decide) ?_)
    | (refine call_c (i3) (by decide) ?_)
    | (refine DW.cond_ff rfl ?_)
    | (refine DW.cond rfl ?_ ?_ <;> intro hc <;> (try simp only [go_sem] at hc))
    | (refine g_split ?_ ?_ <;> intro hc <;> (try simp only [hc]) <;> (try simp only [go_sem] at hc)))
      refine ⟨⟨1, hlt, hnx (fun k u h => by omega)⟩, ?_, Ent.to ?_ ?_⟩ <;> first | (show _ < _; (try simp only); omega) | (simp (disch := omega) only [wkT_cons, wkX_cons, wkT_nil, wkX_nil, get, Nat.reduceEqDiff, ↓reduceIte, ex_some, wk_self, wk_top, wk_nil, wkB_self, and_self, dI, i64_in, and_true, true_and, Int.natCast_add, Int.natCast_one, Int.ofNat_zero, Int.natCast_zero])
    · have hd0 : decide ((0 : Int) < ((i + 1 : Nat) : Int)) = true := by rw [decide_eq_true_eq]; omega
      obtain ⟨u, hu⟩ := getE (l := l) (i := i) (by omega)
      have e1 : ((i + 1 : Nat) : Int) - 1 = (i : Int) := by omega
      by_cases hs1 : v.1 ≤ u.1
      · have d1 : decide (v.1 ≤ u.1) = true := decide_eq_true hs1
        repeat' (first
    | (with_reducible first | refine DW.seq ?_ | refine DW.block ?_ | refine DW.skip ?_ | refine DW.exit ?_ | refine DW.ret ?_ | refine DW.reg ?_)
    | (refine DW.dreg rfl (WF.of ?_) ?_; first | rfl | skip)
    | (simp (disch := omega) only [go_sem, Nat.reduceLT, Nat.reduceLeDiff, Nat.reduceAdd, Nat.reduceMul, Nat.reduceEqDiff, ↓reduceIte, reduceCtorEq, Nat.reduceBEq, Nat.reduceBNe, Nat.reducePow, Int.reduceLE, Int.reduceLT, Int.reduceNeg, Int.reduceToNat, Int.reduceEq, Int.reduceAdd, Int.reduceSub, Int.reduceMul, Int.reduceBEq, Int.reduceBNe, bm_box, bm_row, bk_box, bk_row, hd, hv, hd0, hu, e1, d1, List.map_cons, List.map_nil])
    | (exact retS_of rfl rfl rfl)
    | (refine DW.cond_tt rfl ?_)
    | (refine call_c (i2) (by decide) ?_)
    | (refine call_c (i3) (by decide) ?_)
    | (refine DW.cond_ff rfl ?_)
    | (refine DW.cond rfl ?_ ?_ <;> intro hc <;> (try simp only [go_sem] at hc))
    | (refine g_split ?_ ?_ <;> intro hc <;> (try simp only [hc]) <;> (try simp only [go_sem] at hc)))
      by_cases hs2 : u.2 < v.2
      · have d1 : decide (v.1 ≤ u.1) = false := decide_eq_false hs1
        have d2 : decide (u.2 < v.2) = true := decide_eq_true hs2
        repeat' (first
    | (with_reducible first | refine DW.seq ?_ | refine DW.block ?_ | refine DW.skip ?_ | refine DW.exit ?_ | refine DW.ret ?_ | refine DW.reg ?_)
    | (refine DW.dreg rfl (WF.of ?_) ?_; first | rfl | skip)
    | (simp (disch := omega) only [go_sem, Nat.reduceLT, Nat.reduceLeDiff, Nat.reduceAdd, Nat.reduceMul, Nat.reduceEqDiff, ↓reduceIte, reduceCtorEq, Nat.reduceBEq, Nat.reduceBNe, Nat.reducePow, Int.reduceLE, Int.reduceLT, Int.reduceNeg, Int.reduceToNat, Int.reduceEq, Int.reduceAdd, Int.reduceSub, Int.reduceMul, Int.reduceBEq, Int.reduceBNe, bm_box, bm_row, bk_box, bk_row, hd, hv, hd0, hu, e1, d1, d2, List.map_cons, List.map_nil])
    | (exact retS_of rfl rfl rfl)
    | (refine DW.cond_tt rfl ?_)
    | (refine call_c (i2) (by decide) ?_)
    | (refine call_c (i3) (by decide) ?_)
    | (refine DW.cond_ff rfl ?_)
    | (refine DW.cond rfl ?_ ?_ <;> intro hc <;> (try simp only [go_sem] at hc))
    | (refine g_split ?_ ?_ <;> intro hc <;> (try simp only [hc]) <;> (try simp only [go_sem] at hc)))
      have d1 : decide (v.1 ≤ u.1) = false := decide_eq_false hs1
      have d2 : decide (u.2 < v.2) = false := decide_eq_false hs2
      repeat' (first
    | (with_reducible first | refine DW.seq ?_ | refine DW.block ?_ | refine DW.skip ?_ | refine DW.exit ?_ | refine DW.ret ?_ | refine DW.reg ?_)
    | (refine DW.dreg rfl (WF.of ?_) ?_; first | rfl | skip)
    | (simp (disch := omega) only [go_sem, Nat.reduceLT, Nat.reduceLeDiff, Nat.reduceAdd, Nat.reduceMul, Nat.reduceEqDiff, ↓reduceIte, reduceCtorEq, Nat.reduceBEq, Nat.reduceBNe, Nat.reducePow, Int.reduceLE, Int.reduceLT, Int.reduceNeg, Int.reduceToNat, Int.reduceEq, Int.reduceAdd, Int.reduceSub, Int.reduceMul, Int.reduceBEq, Int.reduceBNe, bm_box, bm_row, bk_box, bk_row, hd, hv, hd0, hu, e1, d1, d2, List.map_cons, List.map_nil])
    | (exact retS_of rfl rfl rfl)
    | (refine DW.cond_tt rfl ?_)
    | (refine call_c (i2) (by decide) ?_)
    | (refine call_c (i3) (by decide) ?_)
    | (refine DW.cond_ff rfl ?_)
    | (refine DW.cond rfl ?_ ?_ <;> intro hc <;> (try simp only [go_sem] at hc))
    | (refine g_split ?_ ?_ <;> intro hc <;> (try simp only [hc]) <;> (try simp only [go_sem] at hc)))
      refine ⟨⟨i + 1 + 1, hlt, hnx (fun k u' h hk => by
        obtain rfl : k = i := by omega
        rw [hu] at hk; cases hk; omega)⟩, ?_, Ent.to ?_ ?_⟩ <;> first | (show _ < _; (try simp only); omega) | (simp (disch := omega) only [wkT_cons, wkX_cons, wkT_nil, wkX_nil, get, Nat.reduceEqDiff, ↓reduceIte, ex_some, wk_self, wk_top, wk_nil, wkB_self, and_self, dI, i64_in, and_true, true_and, Int.natCast_add, Int.natCast_one, Int.ofNat_zero, Int.natCast_zero])
  · exact absurd (tabF_of hlen hfirst (he ▸ hij)) h
open Classical in
noncomputable def thrE (l : List (Int × Int)) (days : Int) : Int := if TabF l then (if inI days 0 10000 = true then 0 else 3) else 4
theorem thrE_ok {l : List (Int × Int)} {days : Int} (h : thrE l days = 0) : TabOk l days := by
  unfold thrE at h
  split at h
  · rename_i h1
    split at h
    · rename_i h2
      exact ⟨h1, by simpa [inI] using h2⟩
    · cases h
  · cases h
theorem reThrough (b : Bool) (l : List (Int × Int)) (days : Int) (hl : l.length ≤ 2 ^ 36) : DCall Tryd.prog 41 [.c (.sl b 2 (rows eK l)), dI days] [] (dI (thrE l days)) [] := by
  have h2 := reIn days 0 10000
  unfold thrE
  by_cases h : TabF l
  · have h1 := reTableT b l h
    rw [if_pos h]
    cases e : inI days 0 10000 <;> rw [e] at h2
    · rw [if_neg (by decide)]
      refine DCall.of Tryd.func41 sf41 hb41 (Nat.le_of_ble_eq_true rfl) (okRes_nil fun _ => rfl) ?_; simp only [s41, Mv, Sg, Ld, Fa, Xt, Ix, Ln, Cl, Oo, Og, idxs, Nat.reduceAdd]
      repeat' (first
    | (with_reducible first | refine DW.seq ?_ | refine DW.block ?_ | refine DW.skip ?_ | refine DW.exit ?_ | refine DW.ret ?_ | refine DW.reg ?_)
    | (simp (disch := omega) only [go_sem, Nat.reduceLT, Nat.reduceLeDiff, Nat.reduceAdd, Nat.reduceMul, Nat.reduceEqDiff, ↓reduceIte, reduceCtorEq, Nat.reduceBEq, Nat.reduceBNe, Nat.reducePow, Int.reduceLE, Int.reduceLT, Int.reduceNeg, Int.reduceToNat, Int.reduceEq, Int.reduceAdd, Int.reduceSub, Int.reduceMul, Int.reduceBEq, Int.reduceBNe, bm_box, bm_row, bk_box, bk_row])
    | (exact retS_of rfl rfl rfl)
    | (refine DW.cond_tt rfl ?_)
    | (refine call_c (h1) (by decide) ?_)
    | (refine call_c (h2) (by decide) ?_)
    | (refine DW.cond_ff rfl ?_)
    | (refine DW.cond rfl ?_ ?_ <;> intro hc <;> (try simp only [go_sem] at hc))
    | (refine g_split ?_ ?_ <;> intro hc <;> (try simp only [hc]) <;> (try simp only [go_sem] at hc)))
    · rw [if_pos rfl]
      refine DCall.of Tryd.func41 sf41 hb41 (Nat.le_of_ble_eq_true rfl) (okRes_nil fun _ => rfl) ?_; simp only [s41, Mv, Sg, Ld, Fa, Xt, Ix, Ln, Cl, Oo, Og, idxs, Nat.reduceAdd]
      repeat' (first
    | (with_reducible first | refine DW.seq ?_ | refine DW.block ?_ | refine DW.skip ?_ | refine DW.exit ?_ | refine DW.ret ?_ | refine DW.reg ?_)
    | (simp (disch := omega) only [go_sem, Nat.reduceLT, Nat.reduceLeDiff, Nat.reduceAdd, Nat.reduceMul, Nat.reduceEqDiff, ↓reduceIte, reduceCtorEq, Nat.reduceBEq, Nat.reduceBNe, Nat.reducePow, Int.reduceLE, Int.reduceLT, Int.reduceNeg, Int.reduceToNat, Int.reduceEq, Int.reduceAdd, Int.reduceSub, Int.reduceMul, Int.reduceBEq, Int.reduceBNe, bm_box, bm_row, bk_box, bk_row])
    | (exact retS_of rfl rfl rfl)
    | (refine DW.cond_tt rfl ?_)
    | (refine call_c (h1) (by decide) ?_)
    | (refine call_c (h2) (by decide) ?_)
    | (refine DW.cond_ff rfl ?_)
    | (refine DW.cond rfl ?_ ?_ <;> intro hc <;> (try simp only [go_sem] at hc))
    | (refine g_split ?_ ?_ <;> intro hc <;> (try simp only [hc]) <;> (try simp only [go_sem] at hc)))
  · have h1 := reTableF b l hl h
    rw [if_neg h]
    refine DCall.of Tryd.func41 sf41 hb41 (Nat.le_of_ble_eq_true rfl) (okRes_nil fun _ => rfl) ?_; simp only [s41, Mv, Sg, Ld, Fa, Xt, Ix, Ln, Cl, Oo, Og, idxs, Nat.reduceAdd]
    repeat' (first
    | (with_reducible first | refine DW.seq ?_ | refine DW.block ?_ | refine DW.skip ?_ | refine DW.exit ?_ | refine DW.ret ?_ | refine DW.reg ?_)
    | (simp (disch := omega) only [go_sem, Nat.reduceLT, Nat.reduceLeDiff, Nat.reduceAdd, Nat.reduceMul, Nat.reduceEqDiff, ↓reduceIte, reduceCtorEq, Nat.reduceBEq, Nat.reduceBNe, Nat.reducePow, Int.reduceLE, Int.reduceLT, Int.reduceNeg, Int.reduceToNat, Int.reduceEq, Int.reduceAdd, Int.reduceSub, Int.reduceMul, Int.reduceBEq, Int.reduceBNe, bm_box, bm_row, bk_box, bk_row])
    | (exact retS_of rfl rfl rfl)
    | (refine DW.cond_tt rfl ?_)
    | (refine call_c (h1) (by decide) ?_)
    | (refine DW.cond_ff rfl ?_)
    | (refine DW.cond rfl ?_ ?_ <;> intro hc <;> (try simp only [go_sem] at hc))
    | (refine g_split ?_ ?_ <;> intro hc <;> (try simp only [hc]) <;> (try simp only [go_sem] at hc)))
theorem crTableE (b : Bool) (l : List (Int × Int)) (days : Int) (hl : l.length ≤ 2 ^ 36) (h : thrE l days ≠ 0) : DCall Tryd.prog 78 [.c (.sl b 2 (rows eK l)), dI days] [] (.tup [.agg [.c (.v (.slice none 0 0)), dI 0], dI (thrE l days)]) [] := by
  by_cases ht : TabF l
  · have e : thrE l days = 3 := by
      unfold thrE at h ⊢
      rw [if_pos ht] at h ⊢
      split at h
      · exact absurd rfl h
      · rename_i h2; rw [if_neg h2]
    have h2 : wthn 0 10000 [days] = false := by
      rw [wthn_inI]
      cases hi : inI days 0 10000 with
      | false => rfl
      | true =>
        unfold thrE at h
        rw [if_pos ht, if_pos hi] at h
        exact absurd rfl h
    rw [e]
    exact crTableDays b l days ht h2
  · have e : thrE l days = 4 := by unfold thrE; rw [if_neg ht]
    rw [e]
    exact crTableBad b l days hl ht
theorem reKept (b : Bool) (l : List (Int × Int)) (day : Int) (hl : l.length ≤ 1000) : DCall Tryd.prog 82 [.c (.sl b 2 (rows eK l)), dI day] [] (dI (lastI day l 0)) [] := by
  refine DCall.of Tryd.func82 sf82 hb82 (Nat.le_of_ble_eq_true rfl) (okRes_nil fun _ => rfl) ?_; simp only [s82, Mv, Sg, Ld, Fa, Xt, Ix, Ln, Cl, Oo, Og, idxs, Nat.reduceAdd]
  repeat' (first
    | (with_reducible first | refine DW.seq ?_ | refine DW.block ?_ | refine DW.skip ?_ | refine DW.exit ?_ | refine DW.ret ?_ | refine DW.reg ?_)
    | (simp (disch := omega) only [go_sem, Nat.reduceLT, Nat.reduceLeDiff, Nat.reduceAdd, Nat.reduceMul, Nat.reduceEqDiff, ↓reduceIte, reduceCtorEq, Nat.reduceBEq, Nat.reduceBNe, Nat.reducePow, Int.reduceLE, Int.reduceLT, Int.reduceNeg, Int.reduceToNat, Int.reduceEq, Int.reduceAdd, Int.reduceSub, Int.reduceMul, Int.reduceBEq, Int.reduceBNe, bm_box, bm_row, bk_box, bk_row])
    | (exact retS_of rfl rfl rfl)
    | (refine DW.cond_tt rfl ?_)
    | (refine DW.cond_ff rfl ?_)
    | (refine DW.cond rfl ?_ ?_ <;> intro hc <;> (try simp only [go_sem] at hc))
    | (refine g_split ?_ ?_ <;> intro hc <;> (try simp only [hc]) <;> (try simp only [go_sem] at hc)))
  refine DW.loop (ι := { i : Nat // i ≤ l.length }) (fun i => ⟨26, [(6, dI i.1), (5, dI (lastI day (l.take i.1) 0)), (1, dI day), (0, .c (.sl b 2 (rows eK l)))], []⟩) (fun i => l.length - i.1) ⟨0, Nat.zero_le _⟩ ?_ ?_
  · refine Ent.to ?_ ?_ <;> simp (disch := omega) only [wkT_cons, wkX_cons, wkT_nil, wkX_nil, get, Nat.reduceEqDiff, ↓reduceIte, ex_some, wk_self, wk_top, wk_nil, wkB_self, and_self, dI, i64_in, and_true, true_and, Int.natCast_add, Int.natCast_one, Int.ofNat_zero, Int.natCast_zero, lastI, List.take_zero, List.foldl_nil]
  rintro ⟨i, hi⟩
  rcases at_or l i hi with ⟨v, hv, hlt, hd⟩ | ⟨he, hd⟩
  · have hnx := lastI_take day hv
    cases hc : decide (v.1 ≤ day) with
    | true =>
      rw [if_pos (of_decide_eq_true hc)] at hnx
      repeat' (first
    | (with_reducible first | refine DW.seq ?_ | refine DW.block ?_ | refine DW.skip ?_ | refine DW.exit ?_ | refine DW.ret ?_ | refine DW.reg ?_)
    | (simp (disch := omega) only [go_sem, Nat.reduceLT, Nat.reduceLeDiff, Nat.reduceAdd, Nat.reduceMul, Nat.reduceEqDiff, ↓reduceIte, reduceCtorEq, Nat.reduceBEq, Nat.reduceBNe, Nat.reducePow, Int.reduceLE, Int.reduceLT, Int.reduceNeg, Int.reduceToNat, Int.reduceEq, Int.reduceAdd, Int.reduceSub, Int.reduceMul, Int.reduceBEq, Int.reduceBNe, bm_box, bm_row, bk_box, bk_row, hd, hv, hc, List.map_cons, List.map_nil])
    | (exact retS_of rfl rfl rfl)
    | (refine DW.cond_tt rfl ?_)
    | (refine DW.cond_ff rfl ?_)
    | (refine DW.cond rfl ?_ ?_ <;> intro hc <;> (try simp only [go_sem] at hc))
    | (refine g_split ?_ ?_ <;> intro hc <;> (try simp only [hc]) <;> (try simp only [go_sem] at hc)))
      refine ⟨⟨i + 1, hlt⟩, ?_, Ent.to ?_ ?_⟩ <;> first | (show _ < _; (try simp only); omega) | (simp (disch := omega) only [wkT_cons, wkX_cons, wkT_nil, wkX_nil, get, Nat.reduceEqDiff, ↓reduceIte, ex_some, wk_self, wk_top, wk_nil, wkB_self, and_self, dI, i64_in, and_true, true_and, Int.natCast_add, Int.natCast_one, Int.ofNat_zero, Int.natCast_zero,  hnx])
    | false =>
      rw [if_neg (of_decide_eq_false hc)] at hnx
      repeat' (first
    | (with_reducible first | refine DW.seq ?_ | refine DW.block ?_ | refine DW.skip ?_ | refine DW.exit ?_ | refine DW.ret ?_ | refine DW.reg ?_)
    | (simp (disch := omega) only [go_sem, Nat.reduceLT, Nat.reduceLeDiff, Nat.reduceAdd, Nat.reduceMul, Nat.reduceEqDiff, ↓reduceIte, reduceCtorEq, Nat.reduceBEq, Nat.reduceBNe, Nat.reducePow, Int.reduceLE, Int.reduceLT, Int.reduceNeg, Int.reduceToNat, Int.reduceEq, Int.reduceAdd, Int.reduceSub, Int.reduceMul, Int.reduceBEq, Int.reduceBNe, bm_box, bm_row, bk_box, bk_row, hd, hv, hc, List.map_cons, List.map_nil])
    | (exact retS_of rfl rfl rfl)
    | (refine DW.cond_tt rfl ?_)
    | (refine DW.cond_ff rfl ?_)
    | (refine DW.cond rfl ?_ ?_ <;> intro hc <;> (try simp only [go_sem] at hc))
    | (refine g_split ?_ ?_ <;> intro hc <;> (try simp only [hc]) <;> (try simp only [go_sem] at hc)))
      refine ⟨⟨i + 1, hlt⟩, ?_, Ent.to ?_ ?_⟩ <;> first | (show _ < _; (try simp only); omega) | (simp (disch := omega) only [wkT_cons, wkX_cons, wkT_nil, wkX_nil, get, Nat.reduceEqDiff, ↓reduceIte, ex_some, wk_self, wk_top, wk_nil, wkB_self, and_self, dI, i64_in, and_true, true_and, Int.natCast_add, Int.natCast_one, Int.ofNat_zero, Int.natCast_zero,  hnx])
  · repeat' (first
    | (with_reducible first | refine DW.seq ?_ | refine DW.block ?_ | refine DW.skip ?_ | refine DW.exit ?_ | refine DW.ret ?_ | refine DW.reg ?_)
    | (simp (disch := omega) only [go_sem, Nat.reduceLT, Nat.reduceLeDiff, Nat.reduceAdd, Nat.reduceMul, Nat.reduceEqDiff, ↓reduceIte, reduceCtorEq, Nat.reduceBEq, Nat.reduceBNe, Nat.reducePow, Int.reduceLE, Int.reduceLT, Int.reduceNeg, Int.reduceToNat, Int.reduceEq, Int.reduceAdd, Int.reduceSub, Int.reduceMul, Int.reduceBEq, Int.reduceBNe, bm_box, bm_row, bk_box, bk_row, hd])
    | (exact retS_of rfl rfl rfl)
    | (refine DW.cond_tt rfl ?_)
    | (refine DW.cond_ff rfl ?_)
    | (refine DW.cond rfl ?_ ?_ <;> intro hc <;> (try simp only [go_sem] at hc))
    | (refine g_split ?_ ?_ <;> intro hc <;> (try simp only [hc]) <;> (try simp only [go_sem] at hc)))
    refine retS_of rfl ?_ rfl; simp only [oneD, St.op, get, Nat.reduceEqDiff, ↓reduceIte, Option.getD_some, bD, dI]
    rw [he, List.take_length]
set_option maxHeartbeats 1000000 in
theorem reLoad (b : Bool) (l : List Lod) (h : ∀ x ∈ l, x.ok) (hl : l.length ≤ 1000) (k : Nat) (hk : k < l.length) : DCall Tryd.prog 40 [.c (.sl b 4 (rows eLd l)), dI k] [] (.agg [dI (sumL (l.drop (k + 1))), dI (sumH (l.drop (k + 1)))]) [] := by
  have hB := sum_b (l := l.drop (k + 1)) (fun x hx => h x (List.mem_of_mem_drop hx))
  rw [List.length_drop] at hB
  generalize hSL : sumL (l.drop (k + 1)) = SL at *
  generalize hSH : sumH (l.drop (k + 1)) = SH at *
  refine DCall.of Tryd.func40 sf40 hb40 (Nat.le_of_ble_eq_true rfl) (okRes_nil fun _ => rfl) ?_; simp only [s40, Mv, Sg, Ld, Fa, Xt, Ix, Ln, Cl, Oo, Og, idxs, Nat.reduceAdd]
  repeat' (first
    | (with_reducible first | refine DW.seq ?_ | refine DW.block ?_ | refine DW.skip ?_ | refine DW.exit ?_ | refine DW.ret ?_ | refine DW.reg ?_)
    | (refine DW.dreg rfl (WF.of ?_) ?_; first | rfl | skip)
    | (simp (disch := omega) only [go_sem, Nat.reduceLT, Nat.reduceLeDiff, Nat.reduceAdd, Nat.reduceMul, Nat.reduceEqDiff, ↓reduceIte, reduceCtorEq, Nat.reduceBEq, Nat.reduceBNe, Nat.reducePow, Int.reduceLE, Int.reduceLT, Int.reduceNeg, Int.reduceToNat, Int.reduceEq, Int.reduceAdd, Int.reduceSub, Int.reduceMul, Int.reduceBEq, Int.reduceBNe, bm_box, bm_row, bk_box, bk_row])
    | (exact retS_of rfl rfl rfl)
    | (refine DW.cond_tt rfl ?_)
    | (refine DW.cond_ff rfl ?_)
    | (refine DW.cond rfl ?_ ?_ <;> intro hc <;> (try simp only [go_sem] at hc))
    | (refine g_split ?_ ?_ <;> intro hc <;> (try simp only [hc]) <;> (try simp only [go_sem] at hc)))
  refine DW.loop (ι := { y : Nat × Int × Int // (k + 1 ≤ y.1 ∧ y.1 ≤ l.length) ∧ (y.2.1 + sumL (l.drop y.1) = SL ∧ y.2.2 + sumH (l.drop y.1) = SH) ∧ 0 ≤ y.2.1 ∧ 0 ≤ y.2.2 }) (fun y => ⟨36, [(6, dI y.1.1), (5, .box 5 0), (4, .box 4 0), (0, .c (.sl b 4 (rows eLd l)))], [(5, .box [dI y.1.2.1, dI y.1.2.2]), (4, .box [dI 0, dI 0])]⟩) (fun y => l.length - y.1.1) ⟨(k + 1, 0, 0), ⟨Nat.le_refl _, hk⟩, ⟨by rw [← hSL]; simp, by rw [← hSH]; simp⟩, Int.le_refl _, Int.le_refl _⟩ ?_ ?_
  · refine Ent.to ?_ ?_ <;> simp (disch := omega) only [wkT_cons, wkX_cons, wkT_nil, wkX_nil, get, Nat.reduceEqDiff, ↓reduceIte, ex_some, wk_self, wk_top, wk_nil, wkB_self, and_self, dI, i64_in, and_true, true_and, Int.natCast_add, Int.natCast_one, Int.ofNat_zero, Int.natCast_zero]
  rintro ⟨⟨i, lo, hi⟩, i1, i2, i3, i4⟩
  dsimp only at i1 i2 i3 i4 ⊢
  rcases at_or l i i1.2 with ⟨v, hv, hlt, hd⟩ | ⟨he, hd⟩
  · have hvw := (h v (List.mem_of_getElem? hv)).weight
    have hdr := drop_cons hv
    rw [hdr] at i2
    simp only [sumL, sumH] at i2
    have hB2 := sum_b (l := l.drop (i + 1)) (fun x hx => h x (List.mem_of_mem_drop hx))
    repeat' (first
    | (with_reducible first | refine DW.seq ?_ | refine DW.block ?_ | refine DW.skip ?_ | refine DW.exit ?_ | refine DW.ret ?_ | refine DW.reg ?_)
    | (refine DW.dreg rfl (WF.of ?_) ?_; first | rfl | skip)
    | (simp (disch := omega) only [go_sem, Nat.reduceLT, Nat.reduceLeDiff, Nat.reduceAdd, Nat.reduceMul, Nat.reduceEqDiff, ↓reduceIte, reduceCtorEq, Nat.reduceBEq, Nat.reduceBNe, Nat.reducePow, Int.reduceLE, Int.reduceLT, Int.reduceNeg, Int.reduceToNat, Int.reduceEq, Int.reduceAdd, Int.reduceSub, Int.reduceMul, Int.reduceBEq, Int.reduceBNe, bm_box, bm_row, bk_box, bk_row, hd, hv, List.map_cons, List.map_nil])
    | (exact retS_of rfl rfl rfl)
    | (refine DW.cond_tt rfl ?_)
    | (refine DW.cond_ff rfl ?_)
    | (refine DW.cond rfl ?_ ?_ <;> intro hc <;> (try simp only [go_sem] at hc))
    | (refine g_split ?_ ?_ <;> intro hc <;> (try simp only [hc]) <;> (try simp only [go_sem] at hc)))
    refine ⟨⟨(i + 1, lo + v.wl, hi + v.wh), ⟨by omega, hlt⟩, ⟨by dsimp only; omega, by dsimp only; omega⟩, by dsimp only; omega, by dsimp only; omega⟩, ?_, Ent.to ?_ ?_⟩ <;> first | (show _ < _; (try simp only); omega) | (simp (disch := omega) only [wkT_cons, wkX_cons, wkT_nil, wkX_nil, get, Nat.reduceEqDiff, ↓reduceIte, ex_some, wk_self, wk_top, wk_nil, wkB_self, and_self, dI, i64_in, and_true, true_and, Int.natCast_add, Int.natCast_one, Int.ofNat_zero, Int.natCast_zero])
  · rw [List.drop_of_length_le (by omega : l.length ≤ i)] at i2
    simp only [sumL, sumH, Int.add_zero] at i2
    obtain ⟨rfl, rfl⟩ := i2
    repeat' (first
    | (with_reducible first | refine DW.seq ?_ | refine DW.block ?_ | refine DW.skip ?_ | refine DW.exit ?_ | refine DW.ret ?_ | refine DW.reg ?_)
    | (refine DW.dreg rfl (WF.of ?_) ?_; first | rfl | skip)
    | (simp (disch := omega) only [go_sem, Nat.reduceLT, Nat.reduceLeDiff, Nat.reduceAdd, Nat.reduceMul, Nat.reduceEqDiff, ↓reduceIte, reduceCtorEq, Nat.reduceBEq, Nat.reduceBNe, Nat.reducePow, Int.reduceLE, Int.reduceLT, Int.reduceNeg, Int.reduceToNat, Int.reduceEq, Int.reduceAdd, Int.reduceSub, Int.reduceMul, Int.reduceBEq, Int.reduceBNe, bm_box, bm_row, bk_box, bk_row, hd])
    | (exact retS_of rfl rfl rfl)
    | (refine DW.cond_tt rfl ?_)
    | (refine DW.cond_ff rfl ?_)
    | (refine DW.cond rfl ?_ ?_ <;> intro hc <;> (try simp only [go_sem] at hc))
    | (refine g_split ?_ ?_ <;> intro hc <;> (try simp only [hc]) <;> (try simp only [go_sem] at hc)))
def failI (l : List Lod) (k : Int) : Int := match failN k l with
  | some i => (i : Int)
  | none => -1
set_option maxHeartbeats 1000000 in
theorem reFails (b1 b2 : Bool) (l : List Lod) (h : ∀ x ∈ l, x.ok) (hl : l.length ≤ 1000) (t : List (Int × Int)) (ht : TabF t) (day : Int) : DCall Tryd.prog 83 [.c (.sl b1 4 (rows eLd l)), .c (.sl b2 2 (rows eK t)), dI day] [] (dI (failI l (lastI day t 0))) [] := by
  have hk := kept_b ht day
  have h2 := reKept b2 t day (by have := ht.len; omega)
  generalize lastI day t 0 = k at *
  refine DCall.of Tryd.func83 sf83 hb83 (Nat.le_of_ble_eq_true rfl) (okRes_nil fun _ => rfl) ?_; simp only [s83, Mv, Sg, Ld, Fa, Xt, Ix, Ln, Cl, Oo, Og, idxs, Nat.reduceAdd]
  repeat' (first
    | (with_reducible first | refine DW.seq ?_ | refine DW.block ?_ | refine DW.skip ?_ | refine DW.exit ?_ | refine DW.ret ?_ | refine DW.reg ?_)
    | (refine DW.dreg rfl (WF.of ?_) ?_; first | rfl | skip)
    | (simp (disch := omega) only [go_sem, Nat.reduceLT, Nat.reduceLeDiff, Nat.reduceAdd, Nat.reduceMul, Nat.reduceEqDiff, ↓reduceIte, reduceCtorEq, Nat.reduceBEq, Nat.reduceBNe, Nat.reducePow, Int.reduceLE, Int.reduceLT, Int.reduceNeg, Int.reduceToNat, Int.reduceEq, Int.reduceAdd, Int.reduceSub, Int.reduceMul, Int.reduceBEq, Int.reduceBNe, bm_box, bm_row, bk_box, bk_row])
    | (exact retS_of rfl rfl rfl)
    | (refine DW.cond_tt rfl ?_)
    | (refine DW.cond_ff rfl ?_)
    | (refine DW.cond rfl ?_ ?_ <;> intro hc <;> (try simp only [go_sem] at hc))
    | (refine g_split ?_ ?_ <;> intro hc <;> (try simp only [hc]) <;> (try simp only [go_sem] at hc)))
  refine DW.loop (ι := { i : Nat // i ≤ l.length ∧ ∀ j, j < i → ∀ c, l[j]? = some c → ¬ bearsI c k < sumH (l.drop (j + 1)) }) (fun i => ⟨31, [(7, dI i.1), (2, dI day), (1, .c (.sl b2 2 (rows eK t))), (0, .c (.sl b1 4 (rows eLd l)))], []⟩) (fun i => l.length - i.1) ⟨0, Nat.zero_le _, fun j h => by omega⟩ ?_ ?_
  · refine Ent.to ?_ ?_ <;> simp (disch := omega) only [wkT_cons, wkX_cons, wkT_nil, wkX_nil, get, Nat.reduceEqDiff, ↓reduceIte, ex_some, wk_self, wk_top, wk_nil, wkB_self, and_self, dI, i64_in, and_true, true_and, Int.natCast_add, Int.natCast_one, Int.ofNat_zero, Int.natCast_zero]
  rintro ⟨i, hi, hij⟩
  rcases at_or l i hi with ⟨v, hv, hlt, hd⟩ | ⟨he, hd⟩
  · have hvo := h v (List.mem_of_getElem? hv)
    have hvs := hvo.strong
    have h1 := reLoad b1 l h hl i hlt
    have hbb := bears_b hvo hk
    have hm := mulB0 (a := v.sl) (b := k) (A := 20000000) (B := 1000) (by omega) hk
    have hbe : (v.sl * k).tdiv 1000 = bearsI v k := rfl
    by_cases hc : bearsI v k < sumH (l.drop (i + 1))
    · have hr : failI l k = (i : Int) := by rw [failI, failN_get hv hij hc]
      have hdc : decide (bearsI v k < sumH (l.drop (i + 1))) = true := decide_eq_true hc
      generalize bearsI v k = B at *
      repeat' (first
    | (with_reducible first | refine DW.seq ?_ | refine DW.block ?_ | refine DW.skip ?_ | refine DW.exit ?_ | refine DW.ret ?_ | refine DW.reg ?_)
    | (refine DW.dreg rfl (WF.of ?_) ?_; first | rfl | skip)
    | (simp (disch := omega) only [go_sem, Nat.reduceLT, Nat.reduceLeDiff, Nat.reduceAdd, Nat.reduceMul, Nat.reduceEqDiff, ↓reduceIte, reduceCtorEq, Nat.reduceBEq, Nat.reduceBNe, Nat.reducePow, Int.reduceLE, Int.reduceLT, Int.reduceNeg, Int.reduceToNat, Int.reduceEq, Int.reduceAdd, Int.reduceSub, Int.reduceMul, Int.reduceBEq, Int.reduceBNe, bm_box, bm_row, bk_box, bk_row, hd, hv, hbe, hdc, List.map_cons, List.map_nil])
    | (exact retS_of rfl rfl rfl)
    | (refine DW.cond_tt rfl ?_)
    | (refine call_c (h1) (by decide) ?_)
    | (refine call_c (h2) (by decide) ?_)
    | (refine DW.cond_ff rfl ?_)
    | (refine DW.cond rfl ?_ ?_ <;> intro hc <;> (try simp only [go_sem] at hc))
    | (refine g_split ?_ ?_ <;> intro hc <;> (try simp only [hc]) <;> (try simp only [go_sem] at hc)))
      refine retS_of rfl ?_ rfl; simp only [oneD, St.op, get, Nat.reduceEqDiff, ↓reduceIte, Option.getD_some, bD, dI]
      rw [hr]
    · have hdc : decide (bearsI v k < sumH (l.drop (i + 1))) = false := decide_eq_false hc
      have hnx : ∀ j, j < i + 1 → ∀ c, l[j]? = some c → ¬ bearsI c k < sumH (l.drop (j + 1)) := fun j hj c hcj => by
        rcases Nat.lt_or_ge j i with h | h
        · exact hij j h c hcj
        · obtain rfl : j = i := by omega
          rw [hv] at hcj; cases hcj; exact hc
      generalize bearsI v k = B at *
      repeat' (first
    | (with_reducible first | refine DW.seq ?_ | refine DW.block ?_ | refine DW.skip ?_ | refine DW.exit ?_ | refine DW.ret ?_ | refine DW.reg ?_)
    | (refine DW.dreg rfl (WF.of ?_) ?_; first | rfl | skip)
    | (simp (disch := omega) only [go_sem, Nat.reduceLT, Nat.reduceLeDiff, Nat.reduceAdd, Nat.reduceMul, Nat.reduceEqDiff, ↓reduceIte, reduceCtorEq, Nat.reduceBEq, Nat.reduceBNe, Nat.reducePow, Int.reduceLE, Int.reduceLT, Int.reduceNeg, Int.reduceToNat, Int.reduceEq, Int.reduceAdd, Int.reduceSub, Int.reduceMul, Int.reduceBEq, Int.reduceBNe, bm_box, bm_row, bk_box, bk_row, hd, hv, hbe, hdc, List.map_cons, List.map_nil])
    | (exact retS_of rfl rfl rfl)
    | (refine DW.cond_tt rfl ?_)
    | (refine call_c (h1) (by decide) ?_)
    | (refine call_c (h2) (by decide) ?_)
    | (refine DW.cond_ff rfl ?_)
    | (refine DW.cond rfl ?_ ?_ <;> intro hc <;> (try simp only [go_sem] at hc))
    | (refine g_split ?_ ?_ <;> intro hc <;> (try simp only [hc]) <;> (try simp only [go_sem] at hc)))
      refine ⟨⟨i + 1, hlt, hnx⟩, ?_, Ent.to ?_ ?_⟩ <;> first | (show _ < _; (try simp only); omega) | (simp (disch := omega) only [wkT_cons, wkX_cons, wkT_nil, wkX_nil, get, Nat.reduceEqDiff, ↓reduceIte, ex_some, wk_self, wk_top, wk_nil, wkB_self, and_self, dI, i64_in, and_true, true_and, Int.natCast_add, Int.natCast_one, Int.ofNat_zero, Int.natCast_zero])
  · have hr : failI l k = -1 := by
      rw [failI, failN_none (fun j c hc => hij j (by have := (List.getElem?_eq_some_iff.1 hc).1; omega) c hc)]
    repeat' (first
    | (with_reducible first | refine DW.seq ?_ | refine DW.block ?_ | refine DW.skip ?_ | refine DW.exit ?_ | refine DW.ret ?_ | refine DW.reg ?_)
    | (refine DW.dreg rfl (WF.of ?_) ?_; first | rfl | skip)
    | (simp (disch := omega) only [go_sem, Nat.reduceLT, Nat.reduceLeDiff, Nat.reduceAdd, Nat.reduceMul, Nat.reduceEqDiff, ↓reduceIte, reduceCtorEq, Nat.reduceBEq, Nat.reduceBNe, Nat.reducePow, Int.reduceLE, Int.reduceLT, Int.reduceNeg, Int.reduceToNat, Int.reduceEq, Int.reduceAdd, Int.reduceSub, Int.reduceMul, Int.reduceBEq, Int.reduceBNe, bm_box, bm_row, bk_box, bk_row, hd])
    | (exact retS_of rfl rfl rfl)
    | (refine DW.cond_tt rfl ?_)
    | (refine DW.cond_ff rfl ?_)
    | (refine DW.cond rfl ?_ ?_ <;> intro hc <;> (try simp only [go_sem] at hc))
    | (refine g_split ?_ ?_ <;> intro hc <;> (try simp only [hc]) <;> (try simp only [go_sem] at hc)))
    refine retS_of rfl ?_ rfl; simp only [oneD, St.op, get, Nat.reduceEqDiff, ↓reduceIte, Option.getD_some, bD, dI]
    rw [hr]
end Go.Dw.Seat
end
section
set_option linter.unusedSimpArgs false
set_option maxRecDepth 100000
namespace Go.Dw.Seat
open Go Go.Dw Go.Proofs Go.IntWalk
theorem fall_days {st : List Lod} {l : List (Int × Int)} {days : Int} (h : TabOk l days) : (fallT st days l = none → ∀ day, 0 ≤ day → day ≤ days → failN (lastI day l 0) st = none) ∧ ∀ d i, fallT st days l = some (d, i) → (0 ≤ d ∧ d ≤ days) ∧ failN (lastI d l 0) st = some i ∧ ∀ day, 0 ≤ day → day < d → failN (lastI day l 0) st = none := by
  obtain ⟨k, t, rfl, hk⟩ := h.head
  have ha := h.asc
  have hd := h.days
  have e1 : ∀ day, 0 ≤ day → lastI day ((0, k) :: t) 0 = lastI day t k := fun day h => by rw [lastI_cons, if_pos h]
  constructor
  · intro hf day h0 h1
    have h2 := hf
    simp only [fallT] at h2
    rw [if_neg (by omega)] at h2
    split at h2
    · cases h2
    · rename_i h3
      rw [e1 day h0]
      exact fall_none ha.2 h2 day k h1 h3
  · intro d i hf
    obtain ⟨⟨h1, v, hv, hvd⟩, h2, h3⟩ := fall_some ha hf
    have hd0 : 0 ≤ d := by have := (h.mem v hv).1; omega
    refine ⟨⟨hd0, h1⟩, h2 0, fun day h0 hlt => ?_⟩
    have h4 := hf
    simp only [fallT] at h4
    rw [if_neg (by omega)] at h4
    split at h4
    · rename_i j hj
      cases h4
      omega
    · rename_i hj
      rw [e1 day h0]
      exact (fall_some ha.2 h4).2.2 day k hlt hj
def fallQ (l : List Lod) (days : Int) (t : List (Int × Int)) : Int × Int × Bool := match fallT l days t with
  | some (d, i) => (d, (i : Int), true)
  | none => (0, 0, false)
set_option maxHeartbeats 1000000 in
theorem reFall (b1 b2 : Bool) (l : List Lod) (h : ∀ x ∈ l, x.ok) (hl : l.length ≤ 1000) (t : List (Int × Int)) (days : Int) (ht : TabOk t days) : DCall Tryd.prog 42 [.c (.sl b1 4 (rows eLd l)), .c (.sl b2 2 (rows eK t)), dI days] [] (.tup [dI (fallQ l days t).1, dI (fallQ l days t).2.1, bD (fallQ l days t).2.2]) [] := by
  have hds := ht.days
  obtain ⟨f1, f2⟩ := fall_days (st := l) ht
  obtain ⟨D, hD⟩ : ∃ D : Nat, days = D := ⟨days.toNat, by omega⟩
  refine DCall.of Tryd.func42 sf42 hb42 (Nat.le_of_ble_eq_true rfl) (okRes_nil fun _ => rfl) ?_; simp only [s42, Mv, Sg, Ld, Fa, Xt, Ix, Ln, Cl, Oo, Og, idxs, Nat.reduceAdd]
  repeat' (first
    | (with_reducible first | refine DW.seq ?_ | refine DW.block ?_ | refine DW.skip ?_ | refine DW.exit ?_ | refine DW.ret ?_ | refine DW.reg ?_)
    | (simp (disch := omega) only [go_sem, Nat.reduceLT, Nat.reduceLeDiff, Nat.reduceAdd, Nat.reduceMul, Nat.reduceEqDiff, ↓reduceIte, reduceCtorEq, Nat.reduceBEq, Nat.reduceBNe, Nat.reducePow, Int.reduceLE, Int.reduceLT, Int.reduceNeg, Int.reduceToNat, Int.reduceEq, Int.reduceAdd, Int.reduceSub, Int.reduceMul, Int.reduceBEq, Int.reduceBNe, bm_box, bm_row, bk_box, bk_row])
    | (exact retS_of rfl rfl rfl)
    | (refine DW.cond_tt rfl ?_)
    | (refine DW.cond_ff rfl ?_)
    | (refine DW.cond rfl ?_ ?_ <;> intro hc <;> (try simp only [go_sem] at hc))
    | (refine g_split ?_ ?_ <;> intro hc <;> (try simp only [hc]) <;> (try simp only [go_sem] at hc)))
  refine DW.loop (ι := { y : Nat × Int // y.1 ≤ D + 1 ∧ (y.2 ≠ -1 → failN y.2 l = none) ∧ ∀ day : Nat, day < y.1 → failN (lastI day t 0) l = none }) (fun y => ⟨33, [(10, dI y.1.1), (9, dI y.1.2), (2, dI days), (1, .c (.sl b2 2 (rows eK t))), (0, .c (.sl b1 4 (rows eLd l)))], []⟩) (fun y => D + 1 - y.1.1) ⟨(0, -1), Nat.zero_le _, fun h => absurd rfl h, fun day h => by dsimp only at h; omega⟩ ?_ ?_
  · refine Ent.to ?_ ?_ <;> simp (disch := omega) only [wkT_cons, wkX_cons, wkT_nil, wkX_nil, get, Nat.reduceEqDiff, ↓reduceIte, ex_some, wk_self, wk_top, wk_nil, wkB_self, and_self, dI, i64_in, and_true, true_and, Int.natCast_add, Int.natCast_one, Int.ofNat_zero, Int.natCast_zero]
  rintro ⟨⟨i, was⟩, i1, i2, i3⟩
  dsimp only at i1 i2 i3 ⊢
  rcases Nat.lt_or_ge i (D + 1) with hlt | hge
  · have hd : decide ((i : Int) ≤ days) = true := by rw [decide_eq_true_eq]; omega
    have hkp := reKept b2 t i (by have := ht.len; omega)
    have hfl := reFails b1 b2 l h hl t ht.toTabF i
    have hkb := kept_b ht.toTabF i
    generalize hnow : lastI (i : Int) t 0 = now at *
    have hnx : failN now l = none → ∀ day : Nat, day < i + 1 → failN (lastI day t 0) l = none := fun hn day hday => by
      rcases Nat.lt_or_ge day i with h | h
      · exact i3 day h
      · obtain rfl : day = i := by omega
        rw [hnow]; exact hn
    by_cases hw : now = was
    · have hne : (now != was) = false := by rw [hw]; simp
      have hn : failN now l = none := by rw [hw]; exact i2 (by omega)
      repeat' (first
    | (with_reducible first | refine DW.seq ?_ | refine DW.block ?_ | refine DW.skip ?_ | refine DW.exit ?_ | refine DW.ret ?_ | refine DW.reg ?_)
    | (simp (disch := omega) only [go_sem, Nat.reduceLT, Nat.reduceLeDiff, Nat.reduceAdd, Nat.reduceMul, Nat.reduceEqDiff, ↓reduceIte, reduceCtorEq, Nat.reduceBEq, Nat.reduceBNe, Nat.reducePow, Int.reduceLE, Int.reduceLT, Int.reduceNeg, Int.reduceToNat, Int.reduceEq, Int.reduceAdd, Int.reduceSub, Int.reduceMul, Int.reduceBEq, Int.reduceBNe, bm_box, bm_row, bk_box, bk_row, hd, hne])
    | (exact retS_of rfl rfl rfl)
    | (refine DW.cond_tt rfl ?_)
    | (refine call_c (hkp) (by decide) ?_)
    | (refine DW.cond_ff rfl ?_)
    | (refine DW.cond rfl ?_ ?_ <;> intro hc <;> (try simp only [go_sem] at hc))
    | (refine g_split ?_ ?_ <;> intro hc <;> (try simp only [hc]) <;> (try simp only [go_sem] at hc)))
      refine ⟨⟨(i + 1, was), hlt, i2, hnx hn⟩, ?_, Ent.to ?_ ?_⟩ <;> first | (show _ < _; (try simp only); omega) | (simp (disch := omega) only [wkT_cons, wkX_cons, wkT_nil, wkX_nil, get, Nat.reduceEqDiff, ↓reduceIte, ex_some, wk_self, wk_top, wk_nil, wkB_self, and_self, dI, i64_in, and_true, true_and, Int.natCast_add, Int.natCast_one, Int.ofNat_zero, Int.natCast_zero])
    · have hne : (now != was) = true := by simpa using hw
      cases hf : failN now l with
      | none =>
        have hfi : failI l now = -1 := by rw [failI, hf]
        rw [hfi] at hfl
        repeat' (first
    | (with_reducible first | refine DW.seq ?_ | refine DW.block ?_ | refine DW.skip ?_ | refine DW.exit ?_ | refine DW.ret ?_ | refine DW.reg ?_)
    | (simp (disch := omega) only [go_sem, Nat.reduceLT, Nat.reduceLeDiff, Nat.reduceAdd, Nat.reduceMul, Nat.reduceEqDiff, ↓reduceIte, reduceCtorEq, Nat.reduceBEq, Nat.reduceBNe, Nat.reducePow, Int.reduceLE, Int.reduceLT, Int.reduceNeg, Int.reduceToNat, Int.reduceEq, Int.reduceAdd, Int.reduceSub, Int.reduceMul, Int.reduceBEq, Int.reduceBNe, bm_box, bm_row, bk_box, bk_row, hd, hne])
    | (exact retS_of rfl rfl rfl)
    | (refine DW.cond_tt rfl ?_)
    | (refine call_c (hkp) (by decide) ?_)
    | (refine call_c (hfl) (by decide) ?_)
    | (refine DW.cond_ff rfl ?_)
    | (refine DW.cond rfl ?_ ?_ <;> intro hc <;> (try simp only [go_sem] at hc))
    | (refine g_split ?_ ?_ <;> intro hc <;> (try simp only [hc]) <;> (try simp only [go_sem] at hc)))
        refine ⟨⟨(i + 1, now), hlt, fun _ => hf, hnx hf⟩, ?_, Ent.to ?_ ?_⟩ <;> first | (show _ < _; (try simp only); omega) | (simp (disch := omega) only [wkT_cons, wkX_cons, wkT_nil, wkX_nil, get, Nat.reduceEqDiff, ↓reduceIte, ex_some, wk_self, wk_top, wk_nil, wkB_self, and_self, dI, i64_in, and_true, true_and, Int.natCast_add, Int.natCast_one, Int.ofNat_zero, Int.natCast_zero])
      | some j =>
        have hfi : failI l now = (j : Int) := by rw [failI, hf]
        rw [hfi] at hfl
        have hq : fallQ l days t = ((i : Int), (j : Int), true) := by
          unfold fallQ
          cases hT : fallT l days t with
          | none =>
            have := f1 hT i (by omega) (by omega)
            rw [hnow, hf] at this; cases this
          | some p =>
            obtain ⟨d, m⟩ := p
            obtain ⟨⟨g1, g2⟩, g3, g4⟩ := f2 d m hT
            have hdi : d = (i : Int) := by
              rcases Int.lt_trichotomy d i with h | h | h
              · have := i3 d.toNat (by omega)
                rw [Int.toNat_of_nonneg g1, g3] at this; cases this
              · exact h
              · have := g4 i (by omega) h
                rw [hnow, hf] at this; cases this
            rw [hdi, hnow, hf] at g3
            cases g3
            simp only [hdi]
        repeat' (first
    | (with_reducible first | refine DW.seq ?_ | refine DW.block ?_ | refine DW.skip ?_ | refine DW.exit ?_ | refine DW.ret ?_ | refine DW.reg ?_)
    | (simp (disch := omega) only [go_sem, Nat.reduceLT, Nat.reduceLeDiff, Nat.reduceAdd, Nat.reduceMul, Nat.reduceEqDiff, ↓reduceIte, reduceCtorEq, Nat.reduceBEq, Nat.reduceBNe, Nat.reducePow, Int.reduceLE, Int.reduceLT, Int.reduceNeg, Int.reduceToNat, Int.reduceEq, Int.reduceAdd, Int.reduceSub, Int.reduceMul, Int.reduceBEq, Int.reduceBNe, bm_box, bm_row, bk_box, bk_row, hd, hne])
    | (exact retS_of rfl rfl rfl)
    | (refine DW.cond_tt rfl ?_)
    | (refine call_c (hkp) (by decide) ?_)
    | (refine call_c (hfl) (by decide) ?_)
    | (refine DW.cond_ff rfl ?_)
    | (refine DW.cond rfl ?_ ?_ <;> intro hc <;> (try simp only [go_sem] at hc))
    | (refine g_split ?_ ?_ <;> intro hc <;> (try simp only [hc]) <;> (try simp only [go_sem] at hc)))
        refine retS_of rfl ?_ rfl; simp only [oneD, St.op, get, Nat.reduceEqDiff, ↓reduceIte, Option.getD_some, bD, dI]
        rw [hq]
  · obtain rfl : i = D + 1 := by omega
    have hd : decide (((D + 1 : Nat) : Int) ≤ days) = false := by rw [decide_eq_false_iff_not]; omega
    have hq : fallQ l days t = (0, 0, false) := by
      unfold fallQ
      cases hT : fallT l days t with
      | none => rfl
      | some p =>
        obtain ⟨d, m⟩ := p
        obtain ⟨⟨g1, g2⟩, g3, g4⟩ := f2 d m hT
        have := i3 d.toNat (by omega)
        rw [Int.toNat_of_nonneg g1, g3] at this; cases this
    repeat' (first
    | (with_reducible first | refine DW.seq ?_ | refine DW.block ?_ | refine DW.skip ?_ | refine DW.exit ?_ | refine DW.ret ?_ | refine DW.reg ?_)
    | (simp (disch := omega) only [go_sem, Nat.reduceLT, Nat.reduceLeDiff, Nat.reduceAdd, Nat.reduceMul, Nat.reduceEqDiff, ↓reduceIte, reduceCtorEq, Nat.reduceBEq, Nat.reduceBNe, Nat.reducePow, Int.reduceLE, Int.reduceLT, Int.reduceNeg, Int.reduceToNat, Int.reduceEq, Int.reduceAdd, Int.reduceSub, Int.reduceMul, Int.reduceBEq, Int.reduceBNe, bm_box, bm_row, bk_box, bk_row, hd])
    | (exact retS_of rfl rfl rfl)
    | (refine DW.cond_tt rfl ?_)
    | (refine DW.cond_ff rfl ?_)
    | (refine DW.cond rfl ?_ ?_ <;> intro hc <;> (try simp only [go_sem] at hc))
    | (refine g_split ?_ ?_ <;> intro hc <;> (try simp only [hc]) <;> (try simp only [go_sem] at hc)))
    refine retS_of rfl ?_ rfl; simp only [oneD, St.op, get, Nat.reduceEqDiff, ↓reduceIte, Option.getD_some, bD, dI]
    rw [hq]
theorem reStands (b1 b2 : Bool) (l : List Lod) (h : ∀ x ∈ l, x.ok) (hl : l.length ≤ 1000) (t : List (Int × Int)) (days : Int) (ht : TabOk t days) : DCall Tryd.prog 86 [.c (.sl b1 4 (rows eLd l)), .c (.sl b2 2 (rows eK t)), dI days] [] (bD (failN (lastI days t 0) l).isNone) [] := by
  have h1 := reFall b1 b2 l h hl t days ht
  have hi := fall_iff h ht
  have hq : (fallQ l days t).2.2 = !(failN (lastI days t 0) l).isNone := by
    unfold fallQ
    cases hT : fallT l days t with
    | none => rw [hi.1 hT]; rfl
    | some p =>
      cases hF : failN (lastI days t 0) l with
      | none => rw [hi.2 hF] at hT; cases hT
      | some _ => rfl
  rw [hq] at h1
  generalize (failN (lastI days t 0) l).isNone = B at *
  refine DCall.of Tryd.func86 sf86 hb86 (Nat.le_of_ble_eq_true rfl) (okRes_nil fun _ => rfl) ?_; simp only [s86, Mv, Sg, Ld, Fa, Xt, Ix, Ln, Cl, Oo, Og, idxs, Nat.reduceAdd]
  repeat' (first
    | (with_reducible first | refine DW.seq ?_ | refine DW.block ?_ | refine DW.skip ?_ | refine DW.exit ?_ | refine DW.ret ?_ | refine DW.reg ?_)
    | (simp (disch := omega) only [go_sem, Nat.reduceLT, Nat.reduceLeDiff, Nat.reduceAdd, Nat.reduceMul, Nat.reduceEqDiff, ↓reduceIte, reduceCtorEq, Nat.reduceBEq, Nat.reduceBNe, Nat.reducePow, Int.reduceLE, Int.reduceLT, Int.reduceNeg, Int.reduceToNat, Int.reduceEq, Int.reduceAdd, Int.reduceSub, Int.reduceMul, Int.reduceBEq, Int.reduceBNe, bm_box, bm_row, bk_box, bk_row])
    | (exact retS_of rfl rfl rfl)
    | (refine DW.cond_tt rfl ?_)
    | (refine call_c (h1) (by decide) ?_)
    | (refine DW.cond_ff rfl ?_)
    | (refine DW.cond rfl ?_ ?_ <;> intro hc <;> (try simp only [go_sem] at hc))
    | (refine g_split ?_ ?_ <;> intro hc <;> (try simp only [hc]) <;> (try simp only [go_sem] at hc)))
  refine retS_of rfl ?_ rfl; simp only [oneD, St.op, get, Nat.reduceEqDiff, ↓reduceIte, Option.getD_some, bD, dI]
  rw [Bool.not_not]
theorem rowC_snocL (l : List Lod) (x : Lod) : rowC (rows eLd l) ++ [[D.c (.v (.int .i64 x.sl)), D.c (.v (.int .i64 x.sh)), D.c (.v (.int .i64 x.wl)), D.c (.v (.int .i64 x.wh))]] = rowC (rows eLd (l ++ [x])) := by simp [rowC, rows, eLd]
end Go.Dw.Seat
end
section
set_option linter.unusedSimpArgs false
set_option maxRecDepth 100000
namespace Go.Dw.Seat
open Go Go.Dw Go.Proofs Go.IntWalk
def orR (l : List Lod) (k : Int) : Nat → List Nat → Option (List Nat)
  | 0, b => if (failN k (pickL l b)).isNone then some b else none
  | f + 1, b => (List.range l.length).findSome? fun i => if i ∈ b then none else orR l k f (b ++ [i])
def orD (l : List Lod) (k : Int) (f : Nat) (b : List Nat) : D := match orR l k f b with
  | some o => .tup [dIs false (nL o), bD true]
  | none => .tup [if f = 0 then dIs false (nL b) else .c (.v (.slice none 0 0)), bD false]
def usC (n : Nat) (b : List Nat) (m : Nat) : List D := ((List.range n).map fun i => bD (decide (i ∈ b))) ++ List.replicate m .top
theorem us_len (n : Nat) (b : List Nat) (m : Nat) : (usC n b m).length = n + m := by simp [usC]
theorem us_get {n i : Nat} (h : i < n) (b : List Nat) (m : Nat) : (usC n b m)[i]? = some (bD (decide (i ∈ b))) := by
  rw [usC, List.getElem?_append_left (by simpa using h), List.getElem?_map, List.getElem?_range h]; rfl
theorem us_set {n i : Nat} (h : i < n) (b : List Nat) (m : Nat) (c : List Nat) (x : Bool) (hc : ∀ j, j < n → (j ∈ c ↔ if j = i then x = true else j ∈ b)) : List.take i (usC n b m) ++ [D.c (C.v (Value.bool x))] ++ List.drop (i + 1) (usC n b m) = usC n c m := by
  apply List.ext_getElem?
  intro j
  have hlt : (List.take i (usC n b m)).length = i := by rw [List.length_take, us_len]; omega
  rcases Nat.lt_or_ge j n with hj | hj
  · rw [us_get hj, List.append_assoc]
    by_cases e : j = i
    · subst e
      rw [List.getElem?_append_right (by omega), hlt, Nat.sub_self]
      have := hc j hj
      rw [if_pos rfl] at this
      cases x with
      | true => rw [decide_eq_true (this.2 rfl)]; rfl
      | false => rw [decide_eq_false (fun h => by have := this.1 h; cases this)]; rfl
    · have := hc j hj
      rw [if_neg e] at this
      rw [decide_eq_decide.2 this]
      rcases Nat.lt_or_ge j i with h1 | h1
      · rw [List.getElem?_append_left (by omega), List.getElem?_take, if_pos h1, us_get hj]
      · rw [List.getElem?_append_right (by omega), hlt, show j - i = (j - i - 1) + 1 by omega, List.cons_append, List.nil_append, List.getElem?_cons_succ, List.getElem?_drop, show i + 1 + (j - i - 1) = j by omega, us_get hj]
  · rw [List.append_assoc, List.getElem?_append_right (by omega), hlt, show j - i = (j - i - 1) + 1 by omega, List.cons_append, List.nil_append, List.getElem?_cons_succ, List.getElem?_drop, show i + 1 + (j - i - 1) = j by omega]
    unfold usC
    rw [List.getElem?_append_right (by simpa using hj), List.getElem?_append_right (by simpa using hj)]
    simp
theorem us_nb (n : Nat) (b : List Nat) (m : Nat) : D.nbs (usC n b m) = true := by
  have : ∀ l : List D, (∀ d ∈ l, d = .top ∨ ∃ x, d = bD x) → D.nbs l = true := by
    intro l
    induction l with
    | nil => intro _; rfl
    | cons d l ih =>
      intro h
      simp only [D.nbs, Bool.and_eq_true]
      refine ⟨?_, ih fun x hx => h x (by simp [hx])⟩
      rcases h d (by simp) with rfl | ⟨x, rfl⟩ <;> rfl
  refine this _ fun d hd => ?_
  simp only [usC, List.mem_append, List.mem_map, List.mem_replicate] at hd
  rcases hd with ⟨i, _, rfl⟩ | ⟨_, rfl⟩
  · exact .inr ⟨_, rfl⟩
  · exact .inl rfl
theorem us_men (k n : Nat) (b : List Nat) (m : Nat) : D.mens k (usC n b m) = false := by
  have : ∀ l : List D, (∀ d ∈ l, d = .top ∨ ∃ x, d = bD x) → D.mens k l = false := by
    intro l
    induction l with
    | nil => intro _; rfl
    | cons d l ih =>
      intro h
      simp only [D.mens, Bool.or_eq_false_iff]
      refine ⟨?_, ih fun x hx => h x (by simp [hx])⟩
      rcases h d (by simp) with rfl | ⟨x, rfl⟩ <;> rfl
  refine this _ fun d hd => ?_
  simp only [usC, List.mem_append, List.mem_map, List.mem_replicate] at hd
  rcases hd with ⟨i, _, rfl⟩ | ⟨_, rfl⟩
  · exact .inr ⟨_, rfl⟩
  · exact .inl rfl
abbrev usB (lu n : Nat) (b : List Nat) (m : Nat) : Nat × Blk := (4, .pbox lu (usC n b m))
theorem bm_pbox (k l : Nat) (ds : List D) : Blk.men k (.pbox l ds) = D.mens k ds := rfl
theorem killB_us [Lays] (k l n : Nat) (b : List Nat) (m : Nat) : killB k (.pbox l (usC n b m)) = .pbox l (usC n b m) := by
  show Blk.pbox l ((usC n b m).map (killD k)) = _
  rw [map_killD_of (us_men k n b m)]
theorem us_rel [Lays] (k : Nat) (x : Blk) (n : Nat) (b : List Nat) (m : Nat) : relDs k x (usC n b m) = usC n b m := by
  rw [relDs_map]
  have : ∀ l : List D, (∀ d ∈ l, d = .top ∨ ∃ x, d = bD x) → l.map (relD k x) = l := by
    intro l
    induction l with
    | nil => intro _; rfl
    | cons d l ih =>
      intro h
      rw [List.map_cons, ih fun x hx => h x (by simp [hx])]
      rcases h d (by simp) with rfl | ⟨x, rfl⟩ <;> rfl
  refine this _ fun d hd => ?_
  simp only [usC, List.mem_append, List.mem_map, List.mem_replicate] at hd
  rcases hd with ⟨i, _, rfl⟩ | ⟨_, rfl⟩
  · exact .inr ⟨_, rfl⟩
  · exact .inl rfl
attribute [go_sem] us_men bm_pbox killB_us us_rel
theorem usB_ok (r : D) (hr : ∀ k, r.men k = false) (lu n : Nat) (b : List Nat) (m : Nat) : okRes r [usB lu n b m] := by
  refine ⟨fun k _ => hr k, fun j x hj k hk => ?_⟩
  simp only [get] at hj
  split at hj
  · cases hj; exact us_men k n b m
  · cases hj
theorem usB_nb (lu n : Nat) (b : List Nat) (m : Nat) {k : Nat} {x : Blk} (hk : get k [usB lu n b m] = some x) : k = 4 ∧ x = .pbox lu (usC n b m) ∧ x.nb = true := by
  simp only [get] at hk
  split at hk
  · rename_i e; cases hk; exact ⟨e, rfl, us_nb n b m⟩
  · cases hk
theorem orD_men (l : List Lod) (k : Int) (f : Nat) (b : List Nat) (j : Nat) : (orD l k f b).men j = false := by
  unfold orD
  split
  · rfl
  · split <;> rfl
def OrC (l : List Lod) (k : Int) (b1 b2 : Bool) (t : List (Int × Int)) (days : Int) (f : Nat) : Prop := ∀ b : List Nat, b.Nodup → (∀ e ∈ b, e < l.length) → b.length + f = l.length → ∀ lu cap m,
  DCall Tryd.prog 48 [.c (.sl b1 4 (rows eLd l)), .c (.sl b2 2 (rows eK t)), dI days, dIs false (nL b), .c (.v (.slice (some ⟨lu, 0, none⟩) l.length cap))] [usB lu l.length b m] (orD l k f b) [usB lu l.length b m]
theorem pick_snoc (l : List Lod) (b : List Nat) (i : Nat) {e : Nat} {u : Lod} (he : b[i]? = some e) (hu : l[e]? = some u) : pickL l (b.take (i + 1)) = pickL l (b.take i) ++ [u] := by
  rw [List.take_add_one, he]
  simp only [pickL, Option.toList_some, List.map_append, List.map_cons, List.map_nil, pk, hu, Option.getD_some]
set_option maxHeartbeats 2000000 in
theorem reOrder0 (l : List Lod) (h : ∀ x ∈ l, x.ok) (hl : l.length ≤ 10) (b1 b2 : Bool) (t : List (Int × Int)) (days : Int) (ht : TabOk t days) : OrC l (lastI days t 0) b1 b2 t days 0 := by
  intro b hn hb hlen lu cap m
  have hst := reStands true b2 (pickL l b) (fun x hx => by
    obtain ⟨e, _, rfl⟩ := List.mem_map.1 hx
    exact pk_ok h e) (by rw [pickL, List.length_map]; omega) t days ht
  have hbl : b.length = l.length := by omega
  have hD : orD l (lastI days t 0) 0 b = .tup [dIs false (nL b), bD (failN (lastI days t 0) (pickL l b)).isNone] := by
    unfold orD orR
    cases (failN (lastI days t 0) (pickL l b)).isNone <;> rfl
  rw [hD]
  generalize (failN (lastI days t 0) (pickL l b)).isNone = B at *
  have hq : ((b.length : Int) == (l.length : Int)) = true := by rw [hbl]; simp
  have hnl := nL_length b
  refine DCall.of Tryd.func48 sf48 hb48 (Nat.le_of_ble_eq_true rfl) (usB_ok _ (fun _ => rfl) _ _ _ _) ?_
  simp only [s48, Mv, Sg, Ld, Fa, Xt, Ix, Ln, Cl, Oo, Og, idxs, Nat.reduceAdd]
  repeat' (first
    | (with_reducible first | refine DW.seq ?_ | refine DW.block ?_ | refine DW.skip ?_ | refine DW.exit ?_ | refine DW.ret ?_ | refine DW.reg ?_)
    | (simp (disch := omega) only [go_sem, Nat.reduceLT, Nat.reduceLeDiff, Nat.reduceAdd, Nat.reduceMul, Nat.reduceEqDiff, ↓reduceIte, reduceCtorEq, Nat.reduceBEq, Nat.reduceBNe, Nat.reducePow, Int.reduceLE, Int.reduceLT, Int.reduceNeg, Int.reduceToNat, Int.reduceEq, Int.reduceAdd, Int.reduceSub, Int.reduceMul, Int.reduceBEq, Int.reduceBNe, bm_box, bm_row, bk_box, bk_row, hq])
    | (exact retS_of rfl rfl rfl)
    | (refine DW.cond_tt rfl ?_)
    | (refine DW.cond_ff rfl ?_)
    | (refine DW.cond rfl ?_ ?_ <;> intro hc <;> (try simp only [go_sem] at hc))
    | (refine g_split ?_ ?_ <;> intro hc <;> (try simp only [hc]) <;> (try simp only [go_sem] at hc)))
  refine DW.loop (ι := { i : Nat // i ≤ b.length }) (fun i => ⟨76, [(13, dI i.1), (12, .own 22), (3, dIs false (nL b)), (2, dI days), (1, .c (.sl b2 2 (rows eK t))), (0, .c (.sl b1 4 (rows eLd l)))], [(22, .row 4 (rowC (rows eLd (pickL l (b.take i.1))))), usB lu l.length b m]⟩) (fun i => b.length - i.1) ⟨0, Nat.zero_le _⟩ ?_ ?_
  · refine Ent.to ?_ ?_ <;> simp (disch := omega) only [wkT_cons, wkX_cons, wkT_nil, wkX_nil, get, Nat.reduceEqDiff, ↓reduceIte, ex_some, wk_self, wk_top, wk_nil, wkB_self, and_self, dI, i64_in, and_true, true_and, Int.natCast_add, Int.natCast_one, Int.ofNat_zero, Int.natCast_zero]
    exact .refl _
  rintro ⟨i, hi⟩
  dsimp only
  rcases Nat.lt_or_ge i b.length with hlt | hge
  · have hd : decide ((i : Int) < (b.length : Int)) = true := by rw [decide_eq_true_eq]; omega
    obtain ⟨e, he⟩ := getE (l := b) (i := i) hlt
    obtain ⟨u, hu⟩ := getE (l := l) (i := e) (hb e (List.mem_of_getElem? he))
    have hen : (nL b)[i]? = some (e : Int) := by simp [nL, he]
    have hsn := pick_snoc l b i he hu
    have hpl : (pickL l (b.take i)).length ≤ 10 := by rw [pickL, List.length_map, List.length_take]; omega
    generalize pickL l (b.take i) = R at *
    repeat' (first
    | (with_reducible first | refine DW.seq ?_ | refine DW.block ?_ | refine DW.skip ?_ | refine DW.exit ?_ | refine DW.ret ?_ | refine DW.reg ?_)
    | (simp (disch := omega) only [go_sem, Nat.reduceLT, Nat.reduceLeDiff, Nat.reduceAdd, Nat.reduceMul, Nat.reduceEqDiff, ↓reduceIte, reduceCtorEq, Nat.reduceBEq, Nat.reduceBNe, Nat.reducePow, Int.reduceLE, Int.reduceLT, Int.reduceNeg, Int.reduceToNat, Int.reduceEq, Int.reduceAdd, Int.reduceSub, Int.reduceMul, Int.reduceBEq, Int.reduceBNe, bm_box, bm_row, bk_box, bk_row, hd, hen, hu, rowC_snocL, List.map_cons, List.map_nil])
    | (exact retS_of rfl rfl rfl)
    | (refine DW.cond_tt rfl ?_)
    | (refine DW.cond_ff rfl ?_)
    | (refine DW.cond rfl ?_ ?_ <;> intro hc <;> (try simp only [go_sem] at hc))
    | (refine g_split ?_ ?_ <;> intro hc <;> (try simp only [hc]) <;> (try simp only [go_sem] at hc)))
    refine ⟨⟨i + 1, hlt⟩, ?_, Ent.to ?_ ?_⟩ <;> first | (show _ < _; (try simp only); omega) | (simp (disch := omega) only [wkT_cons, wkX_cons, wkT_nil, wkX_nil, get, Nat.reduceEqDiff, ↓reduceIte, ex_some, wk_self, wk_top, wk_nil, wkB_self, and_self, dI, i64_in, and_true, true_and, Int.natCast_add, Int.natCast_one, Int.ofNat_zero, Int.natCast_zero,  hsn])
  · obtain rfl : i = b.length := by omega
    have hd : decide ((b.length : Int) < (b.length : Int)) = false := by simp
    rw [List.take_length]
    generalize pickL l b = R at *
    repeat' (first
    | (with_reducible first | refine DW.seq ?_ | refine DW.block ?_ | refine DW.skip ?_ | refine DW.exit ?_ | refine DW.ret ?_ | refine DW.reg ?_)
    | (simp (disch := omega) only [go_sem, Nat.reduceLT, Nat.reduceLeDiff, Nat.reduceAdd, Nat.reduceMul, Nat.reduceEqDiff, ↓reduceIte, reduceCtorEq, Nat.reduceBEq, Nat.reduceBNe, Nat.reducePow, Int.reduceLE, Int.reduceLT, Int.reduceNeg, Int.reduceToNat, Int.reduceEq, Int.reduceAdd, Int.reduceSub, Int.reduceMul, Int.reduceBEq, Int.reduceBNe, bm_box, bm_row, bk_box, bk_row, hd])
    | (exact retS_of rfl rfl rfl)
    | (refine DW.cond_tt rfl ?_)
    | (refine call_c (hst) (by decide) ?_)
    | (refine DW.cond_ff rfl ?_)
    | (refine DW.cond rfl ?_ ?_ <;> intro hc <;> (try simp only [go_sem] at hc))
    | (refine g_split ?_ ?_ <;> intro hc <;> (try simp only [hc]) <;> (try simp only [go_sem] at hc)))
    exact retS_bs rfl rfl (by simp only [List.all_cons, List.all_nil, Blk.nb, rowC_nb, D.nb, D.nbs, C.nb, C.nbs, C.nbss, rows_nb eI_nb, Bool.and_true, Bool.not_false, Bool.and_self, bD, dI, iD, rows_nb eK_nb, rows_nb eLd_nb]) (fun j x hj => by
      obtain ⟨rfl, rfl, hn⟩ := usB_nb lu _ _ _ hj
      exact ⟨rfl, hn⟩)
def orRec (l : List Lod) (k : Int) (f : Nat) (b : List Nat) (i : Nat) : Option (List Nat) := if i ∈ b then none else orR l k f (b ++ [i])
theorem snoc_nL (b : List Nat) (i : Nat) : rowC (rows eI (nL b)) ++ [[D.c (.v (.int .i64 (i : Int)))]] = rowC (rows eI (nL (b ++ [i]))) := by simp [rowC, rows, eI, nL]
theorem or_some {α : Type} {g : Nat → Option α} : ∀ (n : Nat) {i : Nat} {o : α}, i < n → (∀ j, j < i → g j = none) → g i = some o → (List.range n).findSome? g = some o
  | 0, _, _, h, _, _ => by omega
  | n + 1, i, o, h, h1, h2 => by
    rw [List.range_succ, List.findSome?_append]
    rcases Nat.lt_or_ge i n with hi | hi
    · rw [or_some n hi h1 h2]; rfl
    · obtain rfl : i = n := by omega
      have : (List.range i).findSome? g = none := List.findSome?_eq_none_iff.2 fun x hx => h1 x (List.mem_range.1 hx)
      rw [this]
      simp [h2]
set_option maxHeartbeats 4000000 in
theorem reOrder1 (l : List Lod) (h : ∀ x ∈ l, x.ok) (hl : l.length ≤ 10) (b1 b2 : Bool) (t : List (Int × Int)) (days : Int) (ht : TabOk t days) (f : Nat) (ih : OrC l (lastI days t 0) b1 b2 t days f) : OrC l (lastI days t 0) b1 b2 t days (f + 1) := by
  intro b hn hb hlen lu cap m
  have hD : orD l (lastI days t 0) (f + 1) b = match (List.range l.length).findSome? (orRec l (lastI days t 0) f b) with
    | some o => .tup [dIs false (nL o), bD true]
    | none => .tup [.c (.v (.slice none 0 0)), bD false] := by
    unfold orD orR
    rfl
  rw [hD]
  have hq : ((b.length : Int) == (l.length : Int)) = false := by rw [beq_eq_false_iff_ne]; omega
  have hnb := hD ▸ orD_men l (lastI days t 0) (f + 1) b
  generalize lastI days t 0 = k at *
  refine DCall.of Tryd.func48 sf48 hb48 (Nat.le_of_ble_eq_true rfl) (usB_ok _ hnb _ _ _ _) ?_
  simp only [s48, Mv, Sg, Ld, Fa, Xt, Ix, Ln, Cl, Oo, Og, idxs, Nat.reduceAdd]
  repeat' (first
    | (with_reducible first | refine DW.seq ?_ | refine DW.block ?_ | refine DW.skip ?_ | refine DW.exit ?_ | refine DW.ret ?_ | refine DW.reg ?_)
    | (simp (disch := omega) only [go_sem, Nat.reduceLT, Nat.reduceLeDiff, Nat.reduceAdd, Nat.reduceMul, Nat.reduceEqDiff, ↓reduceIte, reduceCtorEq, Nat.reduceBEq, Nat.reduceBNe, Nat.reducePow, Int.reduceLE, Int.reduceLT, Int.reduceNeg, Int.reduceToNat, Int.reduceEq, Int.reduceAdd, Int.reduceSub, Int.reduceMul, Int.reduceBEq, Int.reduceBNe, bm_box, bm_row, bk_box, bk_row, hq])
    | (exact retS_of rfl rfl rfl)
    | (refine DW.cond_tt rfl ?_)
    | (refine DW.cond_ff rfl ?_)
    | (refine DW.cond rfl ?_ ?_ <;> intro hc <;> (try simp only [go_sem] at hc))
    | (refine g_split ?_ ?_ <;> intro hc <;> (try simp only [hc]) <;> (try simp only [go_sem] at hc)))
  refine DW.loop (ι := { i : Nat // i ≤ l.length ∧ ∀ j, j < i → orRec l k f b j = none }) (fun i => ⟨76, [(14, dI i.1), (4, .c (.v (.slice (some ⟨lu, 0, none⟩) l.length cap))), (3, dIs false (nL b)), (2, dI days), (1, .c (.sl b2 2 (rows eK t))), (0, .c (.sl b1 4 (rows eLd l)))], [usB lu l.length b m]⟩) (fun i => l.length - i.1) ⟨0, Nat.zero_le _, fun j h => by omega⟩ ?_ ?_
  · refine Ent.to ?_ ?_ <;> simp (disch := omega) only [wkT_cons, wkX_cons, wkT_nil, wkX_nil, get, Nat.reduceEqDiff, ↓reduceIte, ex_some, wk_self, wk_top, wk_nil, wkB_self, and_self, dI, i64_in, and_true, true_and, Int.natCast_add, Int.natCast_one, Int.ofNat_zero, Int.natCast_zero]
  rintro ⟨i, hi, hnone⟩
  dsimp only
  rcases Nat.lt_or_ge i l.length with hlt | hge
  · have hd : decide ((i : Int) < (l.length : Int)) = true := by rw [decide_eq_true_eq]; omega
    have hin : (i < l.length) = True := eq_true hlt
    have hus := us_get hlt b m
    have hulen := us_len l.length b m
    by_cases hib : i ∈ b
    · have hr : orRec l k f b i = none := by rw [orRec, if_pos hib]
      rw [decide_eq_true hib] at hus
      repeat' (first
    | (with_reducible first | refine DW.seq ?_ | refine DW.block ?_ | refine DW.skip ?_ | refine DW.exit ?_ | refine DW.ret ?_ | refine DW.reg ?_)
    | (simp (disch := omega) only [go_sem, Nat.reduceLT, Nat.reduceLeDiff, Nat.reduceAdd, Nat.reduceMul, Nat.reduceEqDiff, ↓reduceIte, reduceCtorEq, Nat.reduceBEq, Nat.reduceBNe, Nat.reducePow, Int.reduceLE, Int.reduceLT, Int.reduceNeg, Int.reduceToNat, Int.reduceEq, Int.reduceAdd, Int.reduceSub, Int.reduceMul, Int.reduceBEq, Int.reduceBNe, bm_box, bm_row, bk_box, bk_row, hd, hin, hus, Nat.mul_one])
    | (exact retS_of rfl rfl rfl)
    | (refine DW.cond_tt rfl ?_)
    | (refine DW.cond_ff rfl ?_)
    | (refine DW.cond rfl ?_ ?_ <;> intro hc <;> (try simp only [go_sem] at hc))
    | (refine g_split ?_ ?_ <;> intro hc <;> (try simp only [hc]) <;> (try simp only [go_sem] at hc)))
      refine ⟨⟨i + 1, hlt, fun j hj => by
        rcases Nat.lt_or_ge j i with h1 | h1
        · exact hnone j h1
        · obtain rfl : j = i := by omega
          exact hr⟩, ?_, Ent.to ?_ ?_⟩ <;> first | (show _ < _; (try simp only); omega) | (simp (disch := omega) only [wkT_cons, wkX_cons, wkT_nil, wkX_nil, get, Nat.reduceEqDiff, ↓reduceIte, ex_some, wk_self, wk_top, wk_nil, wkB_self, and_self, dI, i64_in, and_true, true_and, Int.natCast_add, Int.natCast_one, Int.ofNat_zero, Int.natCast_zero])
    · have hr : orRec l k f b i = orR l k f (b ++ [i]) := by rw [orRec, if_neg hib]
      rw [decide_eq_false hib] at hus
      have hset := us_set hlt b m (b ++ [i]) true (fun j hj => by
        rw [List.mem_append, List.mem_singleton]
        split
        · rename_i e; simp [e]
        · rename_i e; simp [e])
      have hset2 := us_set hlt (b ++ [i]) m b false (fun j hj => by
        rw [List.mem_append, List.mem_singleton]
        split
        · rename_i e; subst e; simpa using hib
        · rename_i e; simp [e])
      have hulen2 := us_len l.length (b ++ [i]) m
      have hle : (i + 1 ≤ l.length + m) = True := eq_true (by omega)
      have hnd : (b ++ [i]).Nodup := by
        rw [List.nodup_append]
        refine ⟨hn, by simp, ?_⟩
        intro x hx y hy
        rw [List.mem_singleton] at hy
        rintro rfl
        exact hib (hy ▸ hx)
      have hrec := ih (b ++ [i]) hnd (fun e he => by
        rcases List.mem_append.1 he with h1 | h1
        · exact hb e h1
        · rw [List.mem_singleton] at h1; omega) (by rw [List.length_append, List.length_singleton]; omega) lu cap m
      cases ho : orR l k f (b ++ [i]) with
      | some o =>
        have hDr : orD l k f (b ++ [i]) = .tup [dIs false (nL o), bD true] := by rw [orD, ho]
        rw [hDr] at hrec
        have hfin : (List.range l.length).findSome? (orRec l k f b) = some o := or_some _ hlt hnone (hr.trans ho)
        repeat' (first
    | (with_reducible first | refine DW.seq ?_ | refine DW.block ?_ | refine DW.skip ?_ | refine DW.exit ?_ | refine DW.ret ?_ | refine DW.reg ?_)
    | (simp (disch := omega) only [go_sem, Nat.reduceLT, Nat.reduceLeDiff, Nat.reduceAdd, Nat.reduceMul, Nat.reduceEqDiff, ↓reduceIte, reduceCtorEq, Nat.reduceBEq, Nat.reduceBNe, Nat.reducePow, Int.reduceLE, Int.reduceLT, Int.reduceNeg, Int.reduceToNat, Int.reduceEq, Int.reduceAdd, Int.reduceSub, Int.reduceMul, Int.reduceBEq, Int.reduceBNe, bm_box, bm_row, bk_box, bk_row, hd, hin, hus, hulen, hulen2, hle, hset, hset2, Nat.mul_one, snoc_nL])
    | (exact retS_of rfl rfl rfl)
    | (refine DW.cond_tt rfl ?_)
    | (refine DW.cond_ff rfl ?_)
    | (refine DW.cond rfl ?_ ?_ <;> intro hc <;> (try simp only [go_sem] at hc))
    | (refine g_split ?_ ?_ <;> intro hc <;> (try simp only [hc]) <;> (try simp only [go_sem] at hc)))
        refine call_rel 61 rfl ?_
        simp (disch := omega) only [go_sem, Nat.reduceLT, Nat.reduceLeDiff, Nat.reduceAdd, Nat.reduceMul, Nat.reduceEqDiff, ↓reduceIte, reduceCtorEq, Nat.reduceBEq, Nat.reduceBNe, Nat.reducePow, Int.reduceLE, Int.reduceLT, Int.reduceNeg, Int.reduceToNat, Int.reduceEq, Int.reduceAdd, Int.reduceSub, Int.reduceMul, Int.reduceBEq, Int.reduceBNe, bm_box, bm_row, bk_box, bk_row]
        refine opsN.hk 4 hrec rfl rfl (by simp (disch := omega) only [go_sem, Nat.reduceLT, Nat.reduceLeDiff, Nat.reduceAdd, Nat.reduceMul, Nat.reduceEqDiff, ↓reduceIte, reduceCtorEq, Nat.reduceBEq, Nat.reduceBNe, Nat.reducePow, Int.reduceLE, Int.reduceLT, Int.reduceNeg, Int.reduceToNat, Int.reduceEq, Int.reduceAdd, Int.reduceSub, Int.reduceMul, Int.reduceBEq, Int.reduceBNe, bm_box, bm_row, bk_box, bk_row, del, snoc_nL]) (by simp (disch := omega) only [go_sem, Nat.reduceLT, Nat.reduceLeDiff, Nat.reduceAdd, Nat.reduceMul, Nat.reduceEqDiff, ↓reduceIte, reduceCtorEq, Nat.reduceBEq, Nat.reduceBNe, Nat.reducePow, Int.reduceLE, Int.reduceLT, Int.reduceNeg, Int.reduceToNat, Int.reduceEq, Int.reduceAdd, Int.reduceSub, Int.reduceMul, Int.reduceBEq, Int.reduceBNe, bm_box, bm_row, bk_box, bk_row, del]) (by decide) ?_
        simp (disch := omega) only [go_sem, Nat.reduceLT, Nat.reduceLeDiff, Nat.reduceAdd, Nat.reduceMul, Nat.reduceEqDiff, ↓reduceIte, reduceCtorEq, Nat.reduceBEq, Nat.reduceBNe, Nat.reducePow, Int.reduceLE, Int.reduceLT, Int.reduceNeg, Int.reduceToNat, Int.reduceEq, Int.reduceAdd, Int.reduceSub, Int.reduceMul, Int.reduceBEq, Int.reduceBNe, bm_box, bm_row, bk_box, bk_row, del]
        repeat' (first
    | (with_reducible first | refine DW.seq ?_ | refine DW.block ?_ | refine DW.skip ?_ | refine DW.exit ?_ | refine DW.ret ?_ | refine DW.reg ?_)
    | (simp (disch := omega) only [go_sem, Nat.reduceLT, Nat.reduceLeDiff, Nat.reduceAdd, Nat.reduceMul, Nat.reduceEqDiff, ↓reduceIte, reduceCtorEq, Nat.reduceBEq, Nat.reduceBNe, Nat.reducePow, Int.reduceLE, Int.reduceLT, Int.reduceNeg, Int.reduceToNat, Int.reduceEq, Int.reduceAdd, Int.reduceSub, Int.reduceMul, Int.reduceBEq, Int.reduceBNe, bm_box, bm_row, bk_box, bk_row, hd, hin, hus, hulen, hulen2, hle, hset, hset2, Nat.mul_one, snoc_nL])
    | (exact retS_of rfl rfl rfl)
    | (refine DW.cond_tt rfl ?_)
    | (refine DW.cond_ff rfl ?_)
    | (refine DW.cond rfl ?_ ?_ <;> intro hc <;> (try simp only [go_sem] at hc))
    | (refine g_split ?_ ?_ <;> intro hc <;> (try simp only [hc]) <;> (try simp only [go_sem] at hc)))
        rw [hfin]
        exact retS_bs rfl rfl (by simp only [List.all_cons, List.all_nil, Blk.nb, rowC_nb, D.nb, D.nbs, C.nb, C.nbs, C.nbss, rows_nb eI_nb, Bool.and_true, Bool.not_false, Bool.and_self, bD, dI, iD, rows_nb eK_nb, rows_nb eLd_nb]) (fun j x hj => by
          obtain ⟨rfl, rfl, hn⟩ := usB_nb lu _ _ _ hj
          exact ⟨rfl, hn⟩)
      | none =>
        have hnx : ∀ j, j < i + 1 → orRec l k f b j = none := fun j hj => by
          rcases Nat.lt_or_ge j i with h1 | h1
          · exact hnone j h1
          · obtain rfl : j = i := by omega
            exact hr.trans ho
        have hDr : orD l k f (b ++ [i]) = .tup [if f = 0 then dIs false (nL (b ++ [i])) else .c (.v (.slice none 0 0)), bD false] := by rw [orD, ho]
        rw [hDr] at hrec
        by_cases hf0 : f = 0
        · rw [if_pos hf0] at hrec
          repeat' (first
    | (with_reducible first | refine DW.seq ?_ | refine DW.block ?_ | refine DW.skip ?_ | refine DW.exit ?_ | refine DW.ret ?_ | refine DW.reg ?_)
    | (simp (disch := omega) only [go_sem, Nat.reduceLT, Nat.reduceLeDiff, Nat.reduceAdd, Nat.reduceMul, Nat.reduceEqDiff, ↓reduceIte, reduceCtorEq, Nat.reduceBEq, Nat.reduceBNe, Nat.reducePow, Int.reduceLE, Int.reduceLT, Int.reduceNeg, Int.reduceToNat, Int.reduceEq, Int.reduceAdd, Int.reduceSub, Int.reduceMul, Int.reduceBEq, Int.reduceBNe, bm_box, bm_row, bk_box, bk_row, hd, hin, hus, hulen, hulen2, hle, hset, hset2, Nat.mul_one, snoc_nL])
    | (exact retS_of rfl rfl rfl)
    | (refine DW.cond_tt rfl ?_)
    | (refine DW.cond_ff rfl ?_)
    | (refine DW.cond rfl ?_ ?_ <;> intro hc <;> (try simp only [go_sem] at hc))
    | (refine g_split ?_ ?_ <;> intro hc <;> (try simp only [hc]) <;> (try simp only [go_sem] at hc)))
          refine call_rel 61 rfl ?_
          simp (disch := omega) only [go_sem, Nat.reduceLT, Nat.reduceLeDiff, Nat.reduceAdd, Nat.reduceMul, Nat.reduceEqDiff, ↓reduceIte, reduceCtorEq, Nat.reduceBEq, Nat.reduceBNe, Nat.reducePow, Int.reduceLE, Int.reduceLT, Int.reduceNeg, Int.reduceToNat, Int.reduceEq, Int.reduceAdd, Int.reduceSub, Int.reduceMul, Int.reduceBEq, Int.reduceBNe, bm_box, bm_row, bk_box, bk_row]
          refine opsN.hk 4 hrec rfl rfl (by simp (disch := omega) only [go_sem, Nat.reduceLT, Nat.reduceLeDiff, Nat.reduceAdd, Nat.reduceMul, Nat.reduceEqDiff, ↓reduceIte, reduceCtorEq, Nat.reduceBEq, Nat.reduceBNe, Nat.reducePow, Int.reduceLE, Int.reduceLT, Int.reduceNeg, Int.reduceToNat, Int.reduceEq, Int.reduceAdd, Int.reduceSub, Int.reduceMul, Int.reduceBEq, Int.reduceBNe, bm_box, bm_row, bk_box, bk_row, del, snoc_nL]) (by simp (disch := omega) only [go_sem, Nat.reduceLT, Nat.reduceLeDiff, Nat.reduceAdd, Nat.reduceMul, Nat.reduceEqDiff, ↓reduceIte, reduceCtorEq, Nat.reduceBEq, Nat.reduceBNe, Nat.reducePow, Int.reduceLE, Int.reduceLT, Int.reduceNeg, Int.reduceToNat, Int.reduceEq, Int.reduceAdd, Int.reduceSub, Int.reduceMul, Int.reduceBEq, Int.reduceBNe, bm_box, bm_row, bk_box, bk_row, del]) (by decide) ?_
          simp (disch := omega) only [go_sem, Nat.reduceLT, Nat.reduceLeDiff, Nat.reduceAdd, Nat.reduceMul, Nat.reduceEqDiff, ↓reduceIte, reduceCtorEq, Nat.reduceBEq, Nat.reduceBNe, Nat.reducePow, Int.reduceLE, Int.reduceLT, Int.reduceNeg, Int.reduceToNat, Int.reduceEq, Int.reduceAdd, Int.reduceSub, Int.reduceMul, Int.reduceBEq, Int.reduceBNe, bm_box, bm_row, bk_box, bk_row, del]
          repeat' (first
    | (with_reducible first | refine DW.seq ?_ | refine DW.block ?_ | refine DW.skip ?_ | refine DW.exit ?_ | refine DW.ret ?_ | refine DW.reg ?_)
    | (simp (disch := omega) only [go_sem, Nat.reduceLT, Nat.reduceLeDiff, Nat.reduceAdd, Nat.reduceMul, Nat.reduceEqDiff, ↓reduceIte, reduceCtorEq, Nat.reduceBEq, Nat.reduceBNe, Nat.reducePow, Int.reduceLE, Int.reduceLT, Int.reduceNeg, Int.reduceToNat, Int.reduceEq, Int.reduceAdd, Int.reduceSub, Int.reduceMul, Int.reduceBEq, Int.reduceBNe, bm_box, bm_row, bk_box, bk_row, hd, hin, hus, hulen, hulen2, hle, hset, hset2, Nat.mul_one, snoc_nL])
    | (exact retS_of rfl rfl rfl)
    | (refine DW.cond_tt rfl ?_)
    | (refine DW.cond_ff rfl ?_)
    | (refine DW.cond rfl ?_ ?_ <;> intro hc <;> (try simp only [go_sem] at hc))
    | (refine g_split ?_ ?_ <;> intro hc <;> (try simp only [hc]) <;> (try simp only [go_sem] at hc)))
          refine ⟨⟨i + 1, hlt, hnx⟩, ?_, Ent.to ?_ ?_⟩ <;> first | (show _ < _; (try simp only); omega) | (simp (disch := omega) only [wkT_cons, wkX_cons, wkT_nil, wkX_nil, get, Nat.reduceEqDiff, ↓reduceIte, ex_some, wk_self, wk_top, wk_nil, wkB_self, and_self, dI, i64_in, and_true, true_and, Int.natCast_add, Int.natCast_one, Int.ofNat_zero, Int.natCast_zero])
        · rw [if_neg hf0] at hrec
          repeat' (first
    | (with_reducible first | refine DW.seq ?_ | refine DW.block ?_ | refine DW.skip ?_ | refine DW.exit ?_ | refine DW.ret ?_ | refine DW.reg ?_)
    | (simp (disch := omega) only [go_sem, Nat.reduceLT, Nat.reduceLeDiff, Nat.reduceAdd, Nat.reduceMul, Nat.reduceEqDiff, ↓reduceIte, reduceCtorEq, Nat.reduceBEq, Nat.reduceBNe, Nat.reducePow, Int.reduceLE, Int.reduceLT, Int.reduceNeg, Int.reduceToNat, Int.reduceEq, Int.reduceAdd, Int.reduceSub, Int.reduceMul, Int.reduceBEq, Int.reduceBNe, bm_box, bm_row, bk_box, bk_row, hd, hin, hus, hulen, hulen2, hle, hset, hset2, Nat.mul_one, snoc_nL])
    | (exact retS_of rfl rfl rfl)
    | (refine DW.cond_tt rfl ?_)
    | (refine DW.cond_ff rfl ?_)
    | (refine DW.cond rfl ?_ ?_ <;> intro hc <;> (try simp only [go_sem] at hc))
    | (refine g_split ?_ ?_ <;> intro hc <;> (try simp only [hc]) <;> (try simp only [go_sem] at hc)))
          refine call_rel 61 rfl ?_
          simp (disch := omega) only [go_sem, Nat.reduceLT, Nat.reduceLeDiff, Nat.reduceAdd, Nat.reduceMul, Nat.reduceEqDiff, ↓reduceIte, reduceCtorEq, Nat.reduceBEq, Nat.reduceBNe, Nat.reducePow, Int.reduceLE, Int.reduceLT, Int.reduceNeg, Int.reduceToNat, Int.reduceEq, Int.reduceAdd, Int.reduceSub, Int.reduceMul, Int.reduceBEq, Int.reduceBNe, bm_box, bm_row, bk_box, bk_row]
          refine opsN.hk 4 hrec rfl rfl (by simp (disch := omega) only [go_sem, Nat.reduceLT, Nat.reduceLeDiff, Nat.reduceAdd, Nat.reduceMul, Nat.reduceEqDiff, ↓reduceIte, reduceCtorEq, Nat.reduceBEq, Nat.reduceBNe, Nat.reducePow, Int.reduceLE, Int.reduceLT, Int.reduceNeg, Int.reduceToNat, Int.reduceEq, Int.reduceAdd, Int.reduceSub, Int.reduceMul, Int.reduceBEq, Int.reduceBNe, bm_box, bm_row, bk_box, bk_row, del, snoc_nL]) (by simp (disch := omega) only [go_sem, Nat.reduceLT, Nat.reduceLeDiff, Nat.reduceAdd, Nat.reduceMul, Nat.reduceEqDiff, ↓reduceIte, reduceCtorEq, Nat.reduceBEq, Nat.reduceBNe, Nat.reducePow, Int.reduceLE, Int.reduceLT, Int.reduceNeg, Int.reduceToNat, Int.reduceEq, Int.reduceAdd, Int.reduceSub, Int.reduceMul, Int.reduceBEq, Int.reduceBNe, bm_box, bm_row, bk_box, bk_row, del]) (by decide) ?_
          simp (disch := omega) only [go_sem, Nat.reduceLT, Nat.reduceLeDiff, Nat.reduceAdd, Nat.reduceMul, Nat.reduceEqDiff, ↓reduceIte, reduceCtorEq, Nat.reduceBEq, Nat.reduceBNe, Nat.reducePow, Int.reduceLE, Int.reduceLT, Int.reduceNeg, Int.reduceToNat, Int.reduceEq, Int.reduceAdd, Int.reduceSub, Int.reduceMul, Int.reduceBEq, Int.reduceBNe, bm_box, bm_row, bk_box, bk_row, del]
          repeat' (first
    | (with_reducible first | refine DW.seq ?_ | refine DW.block ?_ | refine DW.skip ?_ | refine DW.exit ?_ | refine DW.ret ?_ | refine DW.reg ?_)
    | (simp (disch := omega) only [go_sem, Nat.reduceLT, Nat.reduceLeDiff, Nat.reduceAdd, Nat.reduceMul, Nat.reduceEqDiff, ↓reduceIte, reduceCtorEq, Nat.reduceBEq, Nat.reduceBNe, Nat.reducePow, Int.reduceLE, Int.reduceLT, Int.reduceNeg, Int.reduceToNat, Int.reduceEq, Int.reduceAdd, Int.reduceSub, Int.reduceMul, Int.reduceBEq, Int.reduceBNe, bm_box, bm_row, bk_box, bk_row, hd, hin, hus, hulen, hulen2, hle, hset, hset2, Nat.mul_one, snoc_nL])
    | (exact retS_of rfl rfl rfl)
    | (refine DW.cond_tt rfl ?_)
    | (refine DW.cond_ff rfl ?_)
    | (refine DW.cond rfl ?_ ?_ <;> intro hc <;> (try simp only [go_sem] at hc))
    | (refine g_split ?_ ?_ <;> intro hc <;> (try simp only [hc]) <;> (try simp only [go_sem] at hc)))
          refine ⟨⟨i + 1, hlt, hnx⟩, ?_, Ent.to ?_ ?_⟩ <;> first | (show _ < _; (try simp only); omega) | (simp (disch := omega) only [wkT_cons, wkX_cons, wkT_nil, wkX_nil, get, Nat.reduceEqDiff, ↓reduceIte, ex_some, wk_self, wk_top, wk_nil, wkB_self, and_self, dI, i64_in, and_true, true_and, Int.natCast_add, Int.natCast_one, Int.ofNat_zero, Int.natCast_zero])
  · obtain rfl : i = l.length := by omega
    have hd : decide ((l.length : Int) < (l.length : Int)) = false := by simp
    have hfin : (List.range l.length).findSome? (orRec l k f b) = none := List.findSome?_eq_none_iff.2 fun x hx => hnone x (List.mem_range.1 hx)
    rw [hfin]
    repeat' (first
    | (with_reducible first | refine DW.seq ?_ | refine DW.block ?_ | refine DW.skip ?_ | refine DW.exit ?_ | refine DW.ret ?_ | refine DW.reg ?_)
    | (simp (disch := omega) only [go_sem, Nat.reduceLT, Nat.reduceLeDiff, Nat.reduceAdd, Nat.reduceMul, Nat.reduceEqDiff, ↓reduceIte, reduceCtorEq, Nat.reduceBEq, Nat.reduceBNe, Nat.reducePow, Int.reduceLE, Int.reduceLT, Int.reduceNeg, Int.reduceToNat, Int.reduceEq, Int.reduceAdd, Int.reduceSub, Int.reduceMul, Int.reduceBEq, Int.reduceBNe, bm_box, bm_row, bk_box, bk_row, hd])
    | (exact retS_of rfl rfl rfl)
    | (refine DW.cond_tt rfl ?_)
    | (refine DW.cond_ff rfl ?_)
    | (refine DW.cond rfl ?_ ?_ <;> intro hc <;> (try simp only [go_sem] at hc))
    | (refine g_split ?_ ?_ <;> intro hc <;> (try simp only [hc]) <;> (try simp only [go_sem] at hc)))
    exact retS_bs rfl rfl (by simp only [List.all_cons, List.all_nil, Blk.nb, rowC_nb, D.nb, D.nbs, C.nb, C.nbs, C.nbss, rows_nb eI_nb, Bool.and_true, Bool.not_false, Bool.and_self, bD, dI, iD, rows_nb eK_nb, rows_nb eLd_nb]) (fun j x hj => by
      obtain ⟨rfl, rfl, hn⟩ := usB_nb lu _ _ _ hj
      exact ⟨rfl, hn⟩)
theorem reOrderC (l : List Lod) (h : ∀ x ∈ l, x.ok) (hl : l.length ≤ 10) (b1 b2 : Bool) (t : List (Int × Int)) (days : Int) (ht : TabOk t days) : ∀ f, OrC l (lastI days t 0) b1 b2 t days f
  | 0 => reOrder0 l h hl b1 b2 t days ht
  | f + 1 => reOrder1 l h hl b1 b2 t days ht f (reOrderC l h hl b1 b2 t days ht f)
end Go.Dw.Seat
end
section
set_option linter.unusedSimpArgs false
set_option maxRecDepth 100000
namespace Go.Dw.Seat
open Go Go.Dw Go.Proofs Go.IntWalk
structure Val (l : List Lod) (k : Int) (f : Nat) (b o : List Nat) : Prop where
  pre : ∃ c, o = b ++ c
  nodup : o.Nodup
  lt : ∀ e ∈ o, e < l.length
  len : o.length = b.length + f
  fail : failN k (pickL l o) = none
theorem lexB_app : ∀ (p s t : List Nat), lexB (nL (p ++ s)) (nL (p ++ t)) = lexB (nL s) (nL t)
  | [], _, _ => rfl
  | a :: p, s, t => by
    show lexB ((a : Int) :: nL (p ++ s)) ((a : Int) :: nL (p ++ t)) = _
    simp only [lexB, if_pos]
    exact lexB_app p s t
theorem find_some {α : Type} {g : Nat → Option α} : ∀ (n : Nat) {o : α}, (List.range n).findSome? g = some o → ∃ i, i < n ∧ g i = some o ∧ ∀ j, j < i → g j = none
  | 0, _, h => by cases h
  | n + 1, o, h => by
    rw [List.range_succ, List.findSome?_append] at h
    cases hr : (List.range n).findSome? g with
    | some x =>
      rw [hr] at h
      cases h
      obtain ⟨i, h1, h2⟩ := find_some n hr
      exact ⟨i, by omega, h2⟩
    | none =>
      rw [hr] at h
      simp only [Option.none_or, List.findSome?_cons, List.findSome?_nil] at h
      refine ⟨n, by omega, ?_, fun j hj => List.findSome?_eq_none_iff.1 hr j (List.mem_range.2 hj)⟩
      cases hg : g n with
      | some y => rw [hg] at h; exact h
      | none => rw [hg] at h; cases h
theorem val_next {l : List Lod} {k : Int} {f : Nat} {b o : List Nat} (h : Val l k (f + 1) b o) : ∃ i c, o = b ++ i :: c ∧ i < l.length ∧ i ∉ b ∧ Val l k f (b ++ [i]) o := by
  obtain ⟨c, rfl⟩ := h.pre
  have hlen := h.len
  rw [List.length_append] at hlen
  match c with
  | [] => simp at hlen
  | i :: c =>
    refine ⟨i, c, rfl, h.lt i (by simp), fun hi => ?_, ⟨⟨c, by simp⟩, h.nodup, h.lt, ?_, h.fail⟩⟩
    · have := (List.nodup_append.1 h.nodup).2.2 i hi i (by simp)
      exact this rfl
    · have h3 : (b ++ [i]).length = b.length + 1 := by simp
      have := h.len; omega
theorem orR_spec (l : List Lod) (k : Int) : ∀ (f : Nat) (b : List Nat), b.Nodup → (∀ e ∈ b, e < l.length) → match orR l k f b with
    | some o => Val l k f b o ∧ ∀ o', Val l k f b o' → lexB (nL o') (nL o) = false
    | none => ∀ o', ¬ Val l k f b o'
  | 0, b, hn, hb => by
    have key : ∀ o', Val l k 0 b o' → o' = b := fun o' h => by
      obtain ⟨c, rfl⟩ := h.pre
      have := h.len
      rw [List.length_append] at this
      have : c = [] := List.eq_nil_of_length_eq_zero (by omega)
      rw [this, List.append_nil]
    rw [orR]
    cases hf : failN k (pickL l b) with
    | none =>
      simp only [Option.isNone_none, if_true]
      refine ⟨⟨⟨[], by simp⟩, hn, hb, rfl, hf⟩, fun o' h => ?_⟩
      rw [key o' h]; exact lexB_irr _
    | some x =>
      simp only [Option.isNone_some, Bool.false_eq_true, if_false]
      intro o' h
      have := h.fail
      rw [key o' h, hf] at this; cases this
  | f + 1, b, hn, hb => by
    have hr : orR l k (f + 1) b = (List.range l.length).findSome? (orRec l k f b) := rfl
    rw [hr]
    have hnd : ∀ i, i < l.length → i ∉ b → (b ++ [i]).Nodup ∧ ∀ e ∈ b ++ [i], e < l.length := fun i hi hib => by
      refine ⟨?_, fun e he => ?_⟩
      · rw [List.nodup_append]
        refine ⟨hn, by simp, fun x hx y hy => ?_⟩
        rw [List.mem_singleton] at hy
        rintro rfl
        exact hib (hy ▸ hx)
      · rcases List.mem_append.1 he with h1 | h1
        · exact hb e h1
        · rw [List.mem_singleton] at h1; omega
    cases hfs : (List.range l.length).findSome? (orRec l k f b) with
    | some o =>
      obtain ⟨i, hi, h1, h2⟩ := find_some _ hfs
      by_cases hib : i ∈ b
      · rw [orRec, if_pos hib] at h1; cases h1
      · obtain ⟨hn', hb'⟩ := hnd i hi hib
        have ih := orR_spec l k f (b ++ [i]) hn' hb'
        rw [orRec, if_neg hib] at h1
        rw [h1] at ih
        obtain ⟨ih1, ih2⟩ := ih
        obtain ⟨c, hc⟩ := ih1.pre
        refine ⟨⟨⟨i :: c, by rw [hc]; simp⟩, ih1.nodup, ih1.lt, ?_, ih1.fail⟩, fun o' ho' => ?_⟩
        · have := ih1.len; rw [List.length_append, List.length_singleton] at this; omega
        · obtain ⟨i', c', e', hi', hib', hv'⟩ := val_next ho'
          rcases Nat.lt_trichotomy i' i with hlt | heq | hgt
          · have h3 := h2 i' hlt
            rw [orRec, if_neg hib'] at h3
            obtain ⟨hn2, hb2⟩ := hnd i' hi' hib'
            have ih' := orR_spec l k f (b ++ [i']) hn2 hb2
            rw [h3] at ih'
            exact absurd hv' (ih' o')
          · subst heq
            exact ih2 o' hv'
          · rw [e', hc, List.append_assoc, lexB_app]
            show lexB ((i' : Int) :: nL c') ((i : Int) :: nL c) = false
            rw [lexB, if_neg (by omega)]
            exact decide_eq_false (by omega)
    | none =>
      intro o' ho'
      obtain ⟨i', c', e', hi', hib', hv'⟩ := val_next ho'
      have h3 := List.findSome?_eq_none_iff.1 hfs i' (List.mem_range.2 hi')
      rw [orRec, if_neg hib'] at h3
      obtain ⟨hn2, hb2⟩ := hnd i' hi' hib'
      have ih' := orR_spec l k f (b ++ [i']) hn2 hb2
      rw [h3] at ih'
      exact absurd hv' (ih' o')
def fullS (l : List Lod) : Nat := 2 ^ l.length - 1
theorem val_stO {l : List Lod} {k : Int} (hl : l.length ≤ 10) {o : List Nat} : Val l k l.length [] o ↔ stO l k (fullS l) o := by
  have hp := pow_le10 hl
  have h0 : 0 < 2 ^ l.length := Nat.two_pow_pos _
  constructor
  · intro h
    exact order_full hl h.lt h.nodup h.fail (by simpa using h.len)
  · intro h
    have hk := stO_ok (by unfold fullS; omega) h
    refine ⟨⟨o, rfl⟩, hk.nodup, fun e he => ?_, ?_, hk.fail⟩
    · have := (hk.mem e).1 he
      rw [fullS, full_bits hl, List.mem_range] at this
      exact this
    · rw [hk.len, fullS, full_len hl]; simp
theorem or_top (l : List Lod) (k : Int) (hl : l.length ≤ 10) : orR l k l.length [] = if stI l k (fullS l) = true then (orR l k l.length []) else none := by
  split
  · rfl
  · rename_i hst
    have hp := pow_le10 hl
    have h0 : 0 < 2 ^ l.length := Nat.two_pow_pos _
    have := orR_spec l k l.length [] List.nodup_nil (fun _ h => by cases h)
    cases ho : orR l k l.length [] with
    | none => rfl
    | some o =>
      rw [ho] at this
      exact absurd (stI_of (by unfold fullS; omega) ((val_stO hl).1 this.1)) hst
theorem or_none {l : List Lod} {k : Int} (hl : l.length ≤ 10) (h : stI l k (fullS l) = false) : orR l k l.length [] = none := by
  rw [or_top l k hl, if_neg (by rw [h]; decide)]
theorem or_some' {l : List Lod} {k : Int} (hl : l.length ≤ 10) (h : stI l k (fullS l) = true) : ∃ o, orR l k l.length [] = some o ∧ nL o = ordI l k (fullS l) (fullS l) := by
  have hp := pow_le10 hl
  have h0 : 0 < 2 ^ l.length := Nat.two_pow_pos _
  have hlt : fullS l < 1024 := by unfold fullS; omega
  obtain ⟨o1, h1, h2, h3⟩ := ord_spec l k (fullS l) (fullS l) (fullS l) (Nat.le_refl _) hlt (Nat.le_refl _) h
  have hs := orR_spec l k l.length [] List.nodup_nil (fun _ h => by cases h)
  have hv1 := (val_stO hl).2 h2
  cases ho : orR l k l.length [] with
  | none => rw [ho] at hs; exact absurd hv1 (hs o1)
  | some o =>
    rw [ho] at hs
    refine ⟨o, rfl, ?_⟩
    rw [h1]
    have e1 := hs.2 o1 hv1
    have e2 := h3 o ((val_stO hl).1 hs.1)
    refine lexB_tri ?_ e2 e1
    rw [nL_length, nL_length]
    have := hs.1.len
    have := hv1.len
    simp at *
    omega
theorem stand_some {l : List Lod} {k : Int} {s : Nat} (hs : s < 1024) (h : stI (pickL l (bitsL s)) k (fullS (pickL l (bitsL s))) = true) : stI l k s = true := by
  have hlen := bits_len s
  have hpl : (pickL l (bitsL s)).length = (bitsL s).length := by rw [pickL, List.length_map]
  have hp := pow_le10 hlen
  have hp1 : 0 < 2 ^ (bitsL s).length := Nat.two_pow_pos _
  have hlt : fullS (pickL l (bitsL s)) < 1024 := by unfold fullS; rw [hpl]; omega
  obtain ⟨o, ho⟩ := (stI_iff _ k _ _ (Nat.le_refl _) hlt).1 h
  have hk := stO_ok hlt ho
  have hm : ∀ e, e ∈ o ↔ e < (bitsL s).length := fun e => by rw [hk.mem, fullS, hpl, full_bits hlen, List.mem_range]
  have hnd := bits_nodup s
  have hpk : ∀ e ∈ o, pk (pickL l (bitsL s)) e = pk l ((bitsL s)[e]?.getD 0) := fun e he => by
    obtain ⟨x, hx⟩ := getE (l := bitsL s) (i := e) ((hm e).1 he)
    unfold pk pickL
    rw [List.getElem?_map, hx]; rfl
  have heq : pickL l (o.map fun e => (bitsL s)[e]?.getD 0) = pickL (pickL l (bitsL s)) o := by
    show (o.map _).map (pk l) = o.map (pk _)
    rw [List.map_map]
    exact List.map_congr_left fun e he => (hpk e he).symm
  refine stI_of (o := o.map fun e => (bitsL s)[e]?.getD 0) hs (stO_of hs (nodup_map_on hk.nodup (fun x hx y hy e => ?_)) (fun e => ?_) (by rw [heq]; exact hk.fail))
  · obtain ⟨u, hu⟩ := getE (l := bitsL s) (i := x) ((hm x).1 hx)
    obtain ⟨v, hv⟩ := getE (l := bitsL s) (i := y) ((hm y).1 hy)
    rw [hu, hv] at e
    simp only [Option.getD_some] at e
    subst e
    rw [← posN_at hnd hu, ← posN_at hnd hv]
  · rw [List.mem_map]
    constructor
    · rintro ⟨x, hx, rfl⟩
      obtain ⟨u, hu⟩ := getE (l := bitsL s) (i := x) ((hm x).1 hx)
      rw [hu]; exact List.mem_of_getElem? hu
    · intro he
      refine ⟨posN (bitsL s) e, (hm _).2 ((List.getElem?_eq_some_iff.1 (posN_get he)).1), ?_⟩
      rw [posN_get he]; rfl
theorem some_eq {l : List Lod} {k : Int} {s : Nat} (hs : s < 1024) : stI (pickL l (bitsL s)) k (fullS (pickL l (bitsL s))) = stI l k s := by
  have hpl : (pickL l (bitsL s)).length = (bitsL s).length := by rw [pickL, List.length_map]
  rw [Bool.eq_iff_iff]
  refine ⟨stand_some hs, fun h => ?_⟩
  have := some_stand hs h
  rwa [← hpl] at this
def bN (s : Nat) : Nat → List Nat
  | 0 => []
  | i + 1 => if s.testBit i then bN s i ++ [i] else bN s i
theorem bN_len (s : Nat) : ∀ i, (bN s i).length ≤ i
  | 0 => Nat.le_refl _
  | i + 1 => by
    have := bN_len s i
    simp only [bN]
    split <;> simp <;> omega
theorem bN_all0 : ∀ n : Fin 11, ∀ s : Fin 1024, s.1 < 2 ^ n.1 → bN s.1 n.1 = bitsL s.1 := by decide +kernel
theorem bN_all {n s : Nat} (hn : n ≤ 10) (hs : s < 2 ^ n) : bN s n = bitsL s := bN_all0 ⟨n, by omega⟩ ⟨s, by have := pow_le10 hn; omega⟩ hs
end Go.Dw.Seat
end
section
set_option linter.unusedSimpArgs false
set_option maxRecDepth 100000
namespace Go.Dw.Seat
open Go Go.Dw Go.Proofs Go.IntWalk
theorem reStacks (b1 b2 : Bool) (l : List Lod) (hl : l.length ≤ 2 ^ 36) : DCall Tryd.prog 37 [.c (.sl b1 4 (rows eLd l)), .c (.sl b2 4 (rows eLd l))] [] (bD true) [] := by
  have e : ((l.length : Int) != l.length) = false := by simp
  refine DCall.of Tryd.func37 sf37 hb37 (Nat.le_of_ble_eq_true rfl) (okRes_nil fun _ => rfl) ?_; simp only [s37, Mv, Sg, Ld, Fa, Xt, Ix, Ln, Cl, Oo, Og, idxs, Nat.reduceAdd]
  repeat' (first
    | (with_reducible first | refine DW.seq ?_ | refine DW.block ?_ | refine DW.skip ?_ | refine DW.exit ?_ | refine DW.ret ?_ | refine DW.reg ?_)
    | (refine DW.dreg rfl (WF.of ?_) ?_; first | rfl | skip)
    | (simp (disch := omega) only [go_sem, Nat.reduceLT, Nat.reduceLeDiff, Nat.reduceAdd, Nat.reduceMul, Nat.reduceEqDiff, ↓reduceIte, reduceCtorEq, Nat.reduceBEq, Nat.reduceBNe, Nat.reducePow, Int.reduceLE, Int.reduceLT, Int.reduceNeg, Int.reduceToNat, Int.reduceEq, Int.reduceAdd, Int.reduceSub, Int.reduceMul, Int.reduceBEq, Int.reduceBNe, bm_box, bm_row, bk_box, bk_row, e])
    | (exact retS_of rfl rfl rfl)
    | (refine DW.cond_tt rfl ?_)
    | (refine DW.cond_ff rfl ?_)
    | (refine DW.cond rfl ?_ ?_ <;> intro hc <;> (try simp only [go_sem] at hc))
    | (refine g_split ?_ ?_ <;> intro hc <;> (try simp only [hc]) <;> (try simp only [go_sem] at hc)))
  refine DW.loop (ι := { i : Nat // i ≤ l.length }) (fun i => ⟨26, [(5, dI i.1), (1, .c (.sl b2 4 (rows eLd l))), (0, .c (.sl b1 4 (rows eLd l)))], []⟩) (fun i => l.length - i.1) ⟨0, Nat.zero_le _⟩ ?_ ?_
  · refine Ent.to ?_ ?_ <;> simp (disch := omega) only [wkT_cons, wkX_cons, wkT_nil, wkX_nil, get, Nat.reduceEqDiff, ↓reduceIte, ex_some, wk_self, wk_top, wk_nil, wkB_self, and_self, dI, i64_in, and_true, true_and, Int.natCast_add, Int.natCast_one, Int.ofNat_zero, Int.natCast_zero]
  rintro ⟨i, hi⟩
  rcases at_or l i hi with ⟨v, hv, hlt, hd⟩ | ⟨he, hd⟩
  · repeat' (first
    | (with_reducible first | refine DW.seq ?_ | refine DW.block ?_ | refine DW.skip ?_ | refine DW.exit ?_ | refine DW.ret ?_ | refine DW.reg ?_)
    | (refine DW.dreg rfl (WF.of ?_) ?_; first | rfl | skip)
    | (simp (disch := omega) only [go_sem, Nat.reduceLT, Nat.reduceLeDiff, Nat.reduceAdd, Nat.reduceMul, Nat.reduceEqDiff, ↓reduceIte, reduceCtorEq, Nat.reduceBEq, Nat.reduceBNe, Nat.reducePow, Int.reduceLE, Int.reduceLT, Int.reduceNeg, Int.reduceToNat, Int.reduceEq, Int.reduceAdd, Int.reduceSub, Int.reduceMul, Int.reduceBEq, Int.reduceBNe, bm_box, bm_row, bk_box, bk_row, hd, hv, List.map_cons, List.map_nil])
    | (exact retS_of rfl rfl rfl)
    | (refine DW.cond_tt rfl ?_)
    | (refine DW.cond_ff rfl ?_)
    | (refine DW.cond rfl ?_ ?_ <;> intro hc <;> (try simp only [go_sem] at hc))
    | (refine g_split ?_ ?_ <;> intro hc <;> (try simp only [hc]) <;> (try simp only [go_sem] at hc)))
    refine ⟨⟨i + 1, hlt⟩, ?_, Ent.to ?_ ?_⟩ <;> first | (show _ < _; (try simp only); omega) | (simp (disch := omega) only [wkT_cons, wkX_cons, wkT_nil, wkX_nil, get, Nat.reduceEqDiff, ↓reduceIte, ex_some, wk_self, wk_top, wk_nil, wkB_self, and_self, dI, i64_in, and_true, true_and, Int.natCast_add, Int.natCast_one, Int.ofNat_zero, Int.natCast_zero])
  · repeat' (first
    | (with_reducible first | refine DW.seq ?_ | refine DW.block ?_ | refine DW.skip ?_ | refine DW.exit ?_ | refine DW.ret ?_ | refine DW.reg ?_)
    | (refine DW.dreg rfl (WF.of ?_) ?_; first | rfl | skip)
    | (simp (disch := omega) only [go_sem, Nat.reduceLT, Nat.reduceLeDiff, Nat.reduceAdd, Nat.reduceMul, Nat.reduceEqDiff, ↓reduceIte, reduceCtorEq, Nat.reduceBEq, Nat.reduceBNe, Nat.reducePow, Int.reduceLE, Int.reduceLT, Int.reduceNeg, Int.reduceToNat, Int.reduceEq, Int.reduceAdd, Int.reduceSub, Int.reduceMul, Int.reduceBEq, Int.reduceBNe, bm_box, bm_row, bk_box, bk_row, hd])
    | (exact retS_of rfl rfl rfl)
    | (refine DW.cond_tt rfl ?_)
    | (refine DW.cond_ff rfl ?_)
    | (refine DW.cond rfl ?_ ?_ <;> intro hc <;> (try simp only [go_sem] at hc))
    | (refine g_split ?_ ?_ <;> intro hc <;> (try simp only [hc]) <;> (try simp only [go_sem] at hc)))
theorem reTables (b1 b2 : Bool) (l : List (Int × Int)) (hl : l.length ≤ 2 ^ 36) : DCall Tryd.prog 38 [.c (.sl b1 2 (rows eK l)), .c (.sl b2 2 (rows eK l))] [] (bD true) [] := by
  have e : ((l.length : Int) != l.length) = false := by simp
  refine DCall.of Tryd.func38 sf38 hb38 (Nat.le_of_ble_eq_true rfl) (okRes_nil fun _ => rfl) ?_; simp only [s38, Mv, Sg, Ld, Fa, Xt, Ix, Ln, Cl, Oo, Og, idxs, Nat.reduceAdd]
  repeat' (first
    | (with_reducible first | refine DW.seq ?_ | refine DW.block ?_ | refine DW.skip ?_ | refine DW.exit ?_ | refine DW.ret ?_ | refine DW.reg ?_)
    | (refine DW.dreg rfl (WF.of ?_) ?_; first | rfl | skip)
    | (simp (disch := omega) only [go_sem, Nat.reduceLT, Nat.reduceLeDiff, Nat.reduceAdd, Nat.reduceMul, Nat.reduceEqDiff, ↓reduceIte, reduceCtorEq, Nat.reduceBEq, Nat.reduceBNe, Nat.reducePow, Int.reduceLE, Int.reduceLT, Int.reduceNeg, Int.reduceToNat, Int.reduceEq, Int.reduceAdd, Int.reduceSub, Int.reduceMul, Int.reduceBEq, Int.reduceBNe, bm_box, bm_row, bk_box, bk_row, e])
    | (exact retS_of rfl rfl rfl)
    | (refine DW.cond_tt rfl ?_)
    | (refine DW.cond_ff rfl ?_)
    | (refine DW.cond rfl ?_ ?_ <;> intro hc <;> (try simp only [go_sem] at hc))
    | (refine g_split ?_ ?_ <;> intro hc <;> (try simp only [hc]) <;> (try simp only [go_sem] at hc)))
  refine DW.loop (ι := { i : Nat // i ≤ l.length }) (fun i => ⟨26, [(5, dI i.1), (1, .c (.sl b2 2 (rows eK l))), (0, .c (.sl b1 2 (rows eK l)))], []⟩) (fun i => l.length - i.1) ⟨0, Nat.zero_le _⟩ ?_ ?_
  · refine Ent.to ?_ ?_ <;> simp (disch := omega) only [wkT_cons, wkX_cons, wkT_nil, wkX_nil, get, Nat.reduceEqDiff, ↓reduceIte, ex_some, wk_self, wk_top, wk_nil, wkB_self, and_self, dI, i64_in, and_true, true_and, Int.natCast_add, Int.natCast_one, Int.ofNat_zero, Int.natCast_zero]
  rintro ⟨i, hi⟩
  rcases at_or l i hi with ⟨v, hv, hlt, hd⟩ | ⟨he, hd⟩
  · repeat' (first
    | (with_reducible first | refine DW.seq ?_ | refine DW.block ?_ | refine DW.skip ?_ | refine DW.exit ?_ | refine DW.ret ?_ | refine DW.reg ?_)
    | (refine DW.dreg rfl (WF.of ?_) ?_; first | rfl | skip)
    | (simp (disch := omega) only [go_sem, Nat.reduceLT, Nat.reduceLeDiff, Nat.reduceAdd, Nat.reduceMul, Nat.reduceEqDiff, ↓reduceIte, reduceCtorEq, Nat.reduceBEq, Nat.reduceBNe, Nat.reducePow, Int.reduceLE, Int.reduceLT, Int.reduceNeg, Int.reduceToNat, Int.reduceEq, Int.reduceAdd, Int.reduceSub, Int.reduceMul, Int.reduceBEq, Int.reduceBNe, bm_box, bm_row, bk_box, bk_row, hd, hv, List.map_cons, List.map_nil])
    | (exact retS_of rfl rfl rfl)
    | (refine DW.cond_tt rfl ?_)
    | (refine DW.cond_ff rfl ?_)
    | (refine DW.cond rfl ?_ ?_ <;> intro hc <;> (try simp only [go_sem] at hc))
    | (refine g_split ?_ ?_ <;> intro hc <;> (try simp only [hc]) <;> (try simp only [go_sem] at hc)))
    refine ⟨⟨i + 1, hlt⟩, ?_, Ent.to ?_ ?_⟩ <;> first | (show _ < _; (try simp only); omega) | (simp (disch := omega) only [wkT_cons, wkX_cons, wkT_nil, wkX_nil, get, Nat.reduceEqDiff, ↓reduceIte, ex_some, wk_self, wk_top, wk_nil, wkB_self, and_self, dI, i64_in, and_true, true_and, Int.natCast_add, Int.natCast_one, Int.ofNat_zero, Int.natCast_zero])
  · repeat' (first
    | (with_reducible first | refine DW.seq ?_ | refine DW.block ?_ | refine DW.skip ?_ | refine DW.exit ?_ | refine DW.ret ?_ | refine DW.reg ?_)
    | (refine DW.dreg rfl (WF.of ?_) ?_; first | rfl | skip)
    | (simp (disch := omega) only [go_sem, Nat.reduceLT, Nat.reduceLeDiff, Nat.reduceAdd, Nat.reduceMul, Nat.reduceEqDiff, ↓reduceIte, reduceCtorEq, Nat.reduceBEq, Nat.reduceBNe, Nat.reducePow, Int.reduceLE, Int.reduceLT, Int.reduceNeg, Int.reduceToNat, Int.reduceEq, Int.reduceAdd, Int.reduceSub, Int.reduceMul, Int.reduceBEq, Int.reduceBNe, bm_box, bm_row, bk_box, bk_row, hd])
    | (exact retS_of rfl rfl rfl)
    | (refine DW.cond_tt rfl ?_)
    | (refine DW.cond_ff rfl ?_)
    | (refine DW.cond rfl ?_ ?_ <;> intro hc <;> (try simp only [go_sem] at hc))
    | (refine g_split ?_ ?_ <;> intro hc <;> (try simp only [hc]) <;> (try simp only [go_sem] at hc)))
end Go.Dw.Seat
end
