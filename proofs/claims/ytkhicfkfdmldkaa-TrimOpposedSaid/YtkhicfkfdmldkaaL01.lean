/- Helpers of a proof. -/
import Derived.Test.YtkhicfkfdmldkaaL00
set_option linter.unusedVariables false
set_option linter.unusedSimpArgs false
section
set_option linter.unusedSimpArgs false
set_option maxRecDepth 100000
namespace Go.Dw.Seat
open Go Go.Dw Go.Proofs Go.IntWalk
def wrO (q : TOrd × Int) : Bool := !wthn q.1.lo q.1.hi [q.2]
def wrongI (l : List TOrd) (g : List Int) : Int := idxI wrO (l.zip g)
set_option maxHeartbeats 1000000 in
theorem trWrong (b b2 : Bool) (p : TPap) (l : List TOrd) (hl : l.length ≤ 4) (g : List Int) (hg : g.length = l.length) : DCall Try.prog 93 [macD b p l, dIs b2 g] [] (dI (wrongI l g)) [] := by
  refine DCall.of Try.func93 sf93 hb93 (Nat.le_of_ble_eq_true rfl) (okRes_nil fun _ => rfl) ?_; simp only [s93, idxs, Nat.reduceAdd]
  repeat' (first
    | (with_reducible first | refine DW.seq ?_ | refine DW.block ?_ | refine DW.skip ?_ | refine DW.exit ?_ | refine DW.ret ?_ | refine DW.reg ?_)
    | (refine DW.dreg rfl (WF.of ?_) ?_; first | rfl | skip)
    | (simp (disch := omega) only [go_sem, simprocAttr, Blk.men, Blk.keysIn])
    | (exact retS_of rfl rfl rfl)
    | (refine DW.cond_tt rfl ?_)
    | (refine DW.cond_ff rfl ?_)
    | (refine DW.cond rfl ?_ ?_ <;> intro hc <;> (try simp only [go_sem] at hc))
    | (refine g_split ?_ ?_ <;> intro hc <;> (try simp only [hc]) <;> (try simp only [go_sem] at hc)))
  refine DW.loop (ι := { i : Nat // i ≤ l.length ∧ ∀ j u, j < i → (l.zip g)[j]? = some u → wrO u = false }) (fun i => ⟨30, [(10, dI i.1), (9, dI l.length), (8, .c (.sl b 3 (rows eO l))), (1, dIs b2 g)], []⟩) (fun i => l.length - i.1) ⟨0, Nat.zero_le _, fun j u h => by omega⟩ ?_ ?_
  · refine Ent.to ?_ ?_ <;> simp (disch := omega) only [wkT_cons, wkX_cons, wkT_nil, wkX_nil, get, Nat.reduceEqDiff, ↓reduceIte, ex_some, wk_self, wk_top, wk_nil, wkB_self, and_self, dI, i64_in, and_true, true_and, Int.natCast_add, Int.natCast_one, Int.ofNat_zero, Int.natCast_zero]
    all_goals first | exact ⟨.refl _, .refl _⟩ | exact .refl _
  rintro ⟨i, hi, hij⟩
  dsimp only
  rcases at_or l i hi with ⟨o, ho, hlt, hd⟩ | ⟨he, hd⟩
  · obtain ⟨n, hn⟩ := getE (l := g) (i := i) (by omega)
    have hz : (l.zip g)[i]? = some (o, n) := by rw [List.getElem?_zip_eq_some]; exact ⟨ho, hn⟩
    have h1 := trWithin true o.lo o.hi [n] (by simp)
    cases e1 : wthn o.lo o.hi [n] <;> rw [e1] at h1
    · repeat' (first
    | (with_reducible first | refine DW.seq ?_ | refine DW.block ?_ | refine DW.skip ?_ | refine DW.exit ?_ | refine DW.ret ?_ | refine DW.reg ?_)
    | (refine DW.dreg rfl (WF.of ?_) ?_; first | rfl | skip)
    | (simp (disch := omega) only [go_sem, simprocAttr, Blk.men, Blk.keysIn, hd, ho, hn, List.map_cons, List.map_nil])
    | (exact retS_of rfl rfl rfl)
    | (refine DW.cond_tt rfl ?_)
    | (refine call_c (h1) (by decide) ?_)
    | (refine DW.cond_ff rfl ?_)
    | (refine DW.cond rfl ?_ ?_ <;> intro hc <;> (try simp only [go_sem] at hc))
    | (refine g_split ?_ ?_ <;> intro hc <;> (try simp only [hc]) <;> (try simp only [go_sem] at hc)))
      refine retS_of rfl ?_ rfl; simp only [oneD, St.op, get, Nat.reduceEqDiff, ↓reduceIte, Option.getD_some, bD, dI]
      simp only [wrongI, idxI, idxOf_some hij hz (show wrO (o, n) = true by simp only [wrO, e1]; rfl)]
    · repeat' (first
    | (with_reducible first | refine DW.seq ?_ | refine DW.block ?_ | refine DW.skip ?_ | refine DW.exit ?_ | refine DW.ret ?_ | refine DW.reg ?_)
    | (refine DW.dreg rfl (WF.of ?_) ?_; first | rfl | skip)
    | (simp (disch := omega) only [go_sem, simprocAttr, Blk.men, Blk.keysIn, hd, ho, hn, List.map_cons, List.map_nil])
    | (exact retS_of rfl rfl rfl)
    | (refine DW.cond_tt rfl ?_)
    | (refine call_c (h1) (by decide) ?_)
    | (refine DW.cond_ff rfl ?_)
    | (refine DW.cond rfl ?_ ?_ <;> intro hc <;> (try simp only [go_sem] at hc))
    | (refine g_split ?_ ?_ <;> intro hc <;> (try simp only [hc]) <;> (try simp only [go_sem] at hc)))
      refine ⟨⟨i + 1, by omega, fun j u hj hu => by
        rcases Nat.lt_or_ge j i with h | h
        · exact hij j u h hu
        · have : j = i := by omega
          subst this
          rw [hz] at hu; cases hu; simp only [wrO, e1]; rfl⟩, ?_, Ent.to ?_ ?_⟩ <;> first | (show _ < _; (try simp only); omega) | (simp (disch := omega) only [wkT_cons, wkX_cons, wkT_nil, wkX_nil, get, Nat.reduceEqDiff, ↓reduceIte, ex_some, wk_self, wk_top, wk_nil, wkB_self, and_self, dI, i64_in, and_true, true_and, Int.natCast_add, Int.natCast_one, Int.ofNat_zero, Int.natCast_zero])
      all_goals first | exact ⟨.refl _, .refl _⟩ | exact .refl _
  · have hzl : (l.zip g).length = i := by rw [List.length_zip]; omega
    repeat' (first
    | (with_reducible first | refine DW.seq ?_ | refine DW.block ?_ | refine DW.skip ?_ | refine DW.exit ?_ | refine DW.ret ?_ | refine DW.reg ?_)
    | (refine DW.dreg rfl (WF.of ?_) ?_; first | rfl | skip)
    | (simp (disch := omega) only [go_sem, simprocAttr, Blk.men, Blk.keysIn, hd])
    | (exact retS_of rfl rfl rfl)
    | (refine DW.cond_tt rfl ?_)
    | (refine DW.cond_ff rfl ?_)
    | (refine DW.cond rfl ?_ ?_ <;> intro hc <;> (try simp only [go_sem] at hc))
    | (refine g_split ?_ ?_ <;> intro hc <;> (try simp only [hc]) <;> (try simp only [go_sem] at hc)))
    refine retS_of rfl ?_ rfl; simp only [oneD, St.op, get, Nat.reduceEqDiff, ↓reduceIte, Option.getD_some, bD, dI]
    simp only [wrongI, idxI, idxOf_none (show ∀ j u, j < (l.zip g).length → (l.zip g)[j]? = some u → wrO u = false from hzl ▸ hij)]
theorem addG_take : ∀ {g ws : List Int} {r : Int} {i : Nat} {n : Int}, ws[i]? = some n → i < g.length → ∃ x, g[i]? = some x ∧ (addG g (ws.take i) r)[i]? = some x ∧ (addG g (ws.take i) r).set i (x + n * r) = addG g (ws.take (i + 1)) r
  | [], _, _, _, _, _, h => by simp at h
  | _ :: _, [], _, _, _, h, _ => by simp at h
  | g :: gs, m :: ws, r, 0, n, h, _ => by
    cases h
    exact ⟨g, rfl, rfl, by simp [addG]⟩
  | g :: gs, m :: ws, r, i + 1, n, h, hl => by
    obtain ⟨x, h1, h2, h3⟩ := addG_take (g := gs) (ws := ws) (r := r) (i := i) (n := n) h (by simpa using hl)
    refine ⟨x, h1, ?_, ?_⟩
    · rw [List.take_succ_cons, addG]; exact h2
    · rw [List.take_succ_cons, List.take_succ_cons, addG, addG, List.set_cons_succ, h3]
theorem addG_nil (g : List Int) (r : Int) : addG g [] r = g := by cases g <;> rfl
set_option maxHeartbeats 1000000 in
theorem trAdd (b bw : Bool) (g ws : List Int) (r : Int) (hg : ∀ v ∈ g, 0 ≤ v ∧ v ≤ 1000000) (hl : g.length ≤ 4) (hwl : ws.length ≤ g.length) (hw : ∀ n ∈ ws, 0 ≤ n ∧ n ≤ 4) (hr : 0 ≤ r ∧ r ≤ 100) : DCall Try.prog 85 [dIs b g, .agg [dIs bw ws, dI r]] [] (dIs false (addG g ws r)) [] := by
  refine DCall.of Try.func85 sf85 hb85 (Nat.le_of_ble_eq_true rfl) (okRes_nil fun _ => rfl) ?_; simp only [s85, idxs, Nat.reduceAdd]
  repeat' (first
    | (with_reducible first | refine DW.seq ?_ | refine DW.block ?_ | refine DW.skip ?_ | refine DW.exit ?_ | refine DW.ret ?_ | refine DW.reg ?_)
    | (refine DW.dreg rfl (WF.of ?_) ?_; first | rfl | skip)
    | (simp (disch := omega) only [go_sem, simprocAttr, Blk.men, Blk.keysIn])
    | (exact retS_of rfl rfl rfl)
    | (refine DW.cond_tt rfl ?_)
    | (refine DW.cond_ff rfl ?_)
    | (refine DW.cond rfl ?_ ?_ <;> intro hc <;> (try simp only [go_sem] at hc))
    | (refine g_split ?_ ?_ <;> intro hc <;> (try simp only [hc]) <;> (try simp only [go_sem] at hc)))
  (refine call_r (c106 b g (by omega) 9) (by decide) (by first | rfl | simp (disch := omega) only [go_sem, simprocAttr, Blk.men, Blk.keysIn]) (by first | rfl | simp (disch := omega) only [go_sem, simprocAttr, Blk.men, Blk.keysIn]) ?_; simp (disch := omega) only [go_sem, simprocAttr, Blk.men, Blk.keysIn])
  repeat' (first
    | (with_reducible first | refine DW.seq ?_ | refine DW.block ?_ | refine DW.skip ?_ | refine DW.exit ?_ | refine DW.ret ?_ | refine DW.reg ?_)
    | (refine DW.dreg rfl (WF.of ?_) ?_; first | rfl | skip)
    | (simp (disch := omega) only [go_sem, simprocAttr, Blk.men, Blk.keysIn])
    | (exact retS_of rfl rfl rfl)
    | (refine DW.cond_tt rfl ?_)
    | (refine DW.cond_ff rfl ?_)
    | (refine DW.cond rfl ?_ ?_ <;> intro hc <;> (try simp only [go_sem] at hc))
    | (refine g_split ?_ ?_ <;> intro hc <;> (try simp only [hc]) <;> (try simp only [go_sem] at hc)))
  refine DW.loop (ι := { i : Nat // i ≤ ws.length }) (fun i => ⟨30, [(13, dI i.1), (12, dI ws.length), (11, dIs bw ws), (5, .own 9), (3, .box 3 0)], [(9, .row 1 (rowC (rows eI (addG g (ws.take i.1) r)))), (3, .box [dIs bw ws, dI r])]⟩) (fun i => ws.length - i.1) ⟨0, Nat.zero_le _⟩ ?_ ?_
  · refine Ent.to ?_ ?_ <;> simp (disch := omega) only [wkT_cons, wkX_cons, wkT_nil, wkX_nil, get, Nat.reduceEqDiff, ↓reduceIte, ex_some, wk_self, wk_top, wk_nil, wkB_self, and_self, dI, i64_in, and_true, true_and, Int.natCast_add, Int.natCast_one, Int.ofNat_zero, Int.natCast_zero, List.take_zero, addG_nil]
    all_goals first | exact ⟨.refl _, .refl _⟩ | exact .refl _
  rintro ⟨i, hi⟩
  dsimp only
  rcases at_or ws i hi with ⟨n, hn, hlt, hd⟩ | ⟨he, hd⟩
  · obtain ⟨x, hx, hx2, hset⟩ := addG_take (g := g) (ws := ws) (r := r) (i := i) hn (by omega)
    have hxb := hg x (List.mem_of_getElem? hx)
    have hnb := hw n (List.mem_of_getElem? hn)
    have m1 : 0 ≤ n * r := Int.mul_nonneg hnb.1 hr.1
    have m2 : n * r ≤ 4 * r := Int.mul_le_mul_of_nonneg_right hnb.2 hr.1
    have hal : (addG g (ws.take i) r).length = g.length := addG_len _ _ _
    have hil : (i < (addG g (ws.take i) r).length) = True := eq_true (by omega)
    generalize addG g (ws.take i) r = G at *
    have w1 : IntKind.i64.wrap (n * r) = n * r := IntWalk.i64_in _ (by omega)
    have w2 : IntKind.i64.wrap (x + n * r) = x + n * r := IntWalk.i64_in _ (by omega)
    repeat' (first
    | (with_reducible first | refine DW.seq ?_ | refine DW.block ?_ | refine DW.skip ?_ | refine DW.exit ?_ | refine DW.ret ?_ | refine DW.reg ?_)
    | (refine DW.dreg rfl (WF.of ?_) ?_; first | rfl | skip)
    | (simp (disch := omega) only [go_sem, simprocAttr, Blk.men, Blk.keysIn, hd, hn, hx2, hil, w1, w2, rowC_set1, rows_setI, hset, List.map_cons, List.map_nil])
    | (exact retS_of rfl rfl rfl)
    | (refine DW.cond_tt rfl ?_)
    | (refine DW.cond_ff rfl ?_)
    | (refine DW.cond rfl ?_ ?_ <;> intro hc <;> (try simp only [go_sem] at hc))
    | (refine g_split ?_ ?_ <;> intro hc <;> (try simp only [hc]) <;> (try simp only [go_sem] at hc)))
    refine ⟨⟨i + 1, hlt⟩, ?_, Ent.to ?_ ?_⟩ <;> first | (show _ < _; (try simp only); omega) | (simp (disch := omega) only [wkT_cons, wkX_cons, wkT_nil, wkX_nil, get, Nat.reduceEqDiff, ↓reduceIte, ex_some, wk_self, wk_top, wk_nil, wkB_self, and_self, dI, i64_in, and_true, true_and, Int.natCast_add, Int.natCast_one, Int.ofNat_zero, Int.natCast_zero])
    all_goals first | exact ⟨.refl _, .refl _⟩ | exact .refl _
  · subst he
    rw [List.take_length]
    repeat' (first
    | (with_reducible first | refine DW.seq ?_ | refine DW.block ?_ | refine DW.skip ?_ | refine DW.exit ?_ | refine DW.ret ?_ | refine DW.reg ?_)
    | (refine DW.dreg rfl (WF.of ?_) ?_; first | rfl | skip)
    | (simp (disch := omega) only [go_sem, simprocAttr, Blk.men, Blk.keysIn, hd])
    | (exact retS_of rfl rfl rfl)
    | (refine DW.cond_tt rfl ?_)
    | (refine DW.cond_ff rfl ?_)
    | (refine DW.cond rfl ?_ ?_ <;> intro hc <;> (try simp only [go_sem] at hc))
    | (refine g_split ?_ ?_ <;> intro hc <;> (try simp only [hc]) <;> (try simp only [go_sem] at hc)))
    (refine retS_ent (Ent.rel 9 rfl) ?_; simp (disch := omega) only [go_sem, simprocAttr, Blk.men, Blk.keysIn])
    refine retS_wk rfl ?_ (by simp only [Blk.nb, rowC_nb, D.nb, D.nbs, C.nb, C.nbs, C.nbss, rows_nb eI_nb, Bool.and_true, Bool.not_false, Bool.and_self, bD, dI, iD, rows_nb eO_nb]); exact .refl _
end Go.Dw.Seat
end
section
set_option linter.unusedSimpArgs false
set_option maxRecDepth 100000
namespace Go.Dw.Seat
open Go Go.Dw Go.Proofs Go.IntWalk
def eSt (s : TStp) : List C := [.sl false 1 (rows eI s.ws), .v (.int .i64 s.run)]
theorem eSt_nb (s : TStp) : C.nbs (eSt s) = true := by
  simp only [eSt, C.nbs, C.nb, rows_nb eI_nb, Bool.and_self, Bool.not_false]
attribute [go_sem] eSt
abbrev dSt (b : Bool) (q : List TStp) : D := .c (.sl b 2 (rows eSt q))
theorem trClipS (q : List TStp) : DCall Try.prog 106 [dSt false q] [] (.c (.cl false 2 (rows eSt q))) [] := by
  refine DCall.of Try.func106 sf106 hb106 (Nat.le_of_ble_eq_true rfl) (okRes_nil fun _ => rfl) ?_; simp only [s106, idxs, Nat.reduceAdd]
  repeat' (first
    | (with_reducible first | refine DW.seq ?_ | refine DW.block ?_ | refine DW.skip ?_ | refine DW.exit ?_ | refine DW.ret ?_ | refine DW.reg ?_)
    | (simp (disch := omega) only [go_sem, simprocAttr, bm_box, bm_row, bk_box, bk_row, Int.le_refl])
    | (exact retS_of rfl rfl rfl)
    | (refine DW.cond_tt rfl ?_)
    | (refine DW.cond_ff rfl ?_)
    | (refine DW.cond rfl ?_ ?_ <;> intro hc <;> (try simp only [go_sem] at hc))
    | (refine g_split ?_ ?_ <;> intro hc <;> (try simp only [hc]) <;> (try simp only [go_sem] at hc)))
  refine retS_wk rfl ?_ (by simp only [Blk.nb, rowC_nb, D.nb, D.nbs, C.nb, C.nbs, C.nbss, rows_nb eI_nb, Bool.and_true, Bool.not_false, Bool.and_self, bD, dI, iD, rows_nb eO_nb, rows_nb eSt_nb]); exact .refl _
def stE (p : TPap) (l : List TOrd) (prev : Option TStp) (s : TStp) : Int :=
  if websE p l s.ws ≠ 0 then websE p l s.ws else if wthn 1 30 [s.run] = false then 3 else if (match prev with | none => false | some w => decide (0 ≤ cmpL w.ws s.ws)) = true then 6 else 0
def getR (p : TPap) (l : List TOrd) : Option TStp → List Int → Int → Nat → List TStp → (List Int × Int) ⊕ (Nat × Int)
  | _, got, w, _, [] => .inl (got, w)
  | prev, got, w, i, s :: q => if stE p l prev s ≠ 0 then .inr (i, stE p l prev s) else getR p l (some s) (addG got s.ws s.run) (w + trimI p l s.ws * s.run) (i + 1) q
end Go.Dw.Seat
end
section
set_option linter.unusedSimpArgs false
set_option maxRecDepth 100000
namespace Go.Dw.Seat
open Go Go.Dw Go.Proofs Go.IntWalk
theorem list_same {α : Type} {s t : List α} {i : Nat} (hl : s.length = t.length) (hi : i = s.length) (h : ∀ j, j < i → s[j]? = t[j]?) : s = t := by
  apply List.ext_getElem?
  intro j
  rcases Nat.lt_or_ge j i with h1 | h1
  · exact h j h1
  · rw [List.getElem?_eq_none (by omega), List.getElem?_eq_none (by omega)]
theorem upto_succ {p : Nat → Prop} {i : Nat} (h : ∀ j, j < i → p j) (hp : p i) : ∀ j, j < i + 1 → p j := fun j hj => by
  rcases Nat.lt_or_ge j i with h1 | h1
  · exact h j h1
  · obtain rfl : j = i := by omega
    exact hp
theorem reInts (b1 b2 : Bool) (s t : List Int) (hs : s.length ≤ 2 ^ 36) (ht : t.length ≤ 2 ^ 36) : DCall Try.prog 18 [dIs b1 s, dIs b2 t] [] (bD (decide (s = t))) [] := by
  by_cases hl : s.length = t.length
  · have e : ((s.length : Int) != t.length) = false := by rw [hl]; simp
    generalize hR : decide (s = t) = R
    refine DCall.of Try.func18 sf18 hb18 (Nat.le_of_ble_eq_true rfl) (okRes_nil fun _ => rfl) ?_; simp only [s18, idxs, Nat.reduceAdd]
    repeat' (first
    | (with_reducible first | refine DW.seq ?_ | refine DW.block ?_ | refine DW.skip ?_ | refine DW.exit ?_ | refine DW.ret ?_ | refine DW.reg ?_)
    | (refine DW.dreg rfl (WF.of ?_) ?_; first | rfl | skip)
    | (simp (disch := omega) only [go_sem, simprocAttr, bm_box, bm_row, bk_box, bk_row, e])
    | (exact retS_of rfl rfl rfl)
    | (refine DW.cond_tt rfl ?_)
    | (refine DW.cond_ff rfl ?_)
    | (refine DW.cond rfl ?_ ?_ <;> intro hc <;> (try simp only [go_sem] at hc))
    | (refine g_split ?_ ?_ <;> intro hc <;> (try simp only [hc]) <;> (try simp only [go_sem] at hc)))
    refine DW.loop (ι := { i : Nat // i ≤ s.length ∧ ∀ j, j < i → s[j]? = t[j]? }) (fun i => ⟨26, [(5, dI i.1), (1, dIs b2 t), (0, dIs b1 s)], []⟩) (fun i => s.length - i.1) ⟨0, Nat.zero_le _, fun j h => by omega⟩ ?_ ?_
    · refine Ent.to ?_ ?_ <;> simp (disch := omega) only [wkT_cons, wkX_cons, wkT_nil, wkX_nil, get, Nat.reduceEqDiff, ↓reduceIte, ex_some, wk_self, wk_top, wk_nil, wkB_self, and_self, dI, i64_in, and_true, true_and, Int.natCast_add, Int.natCast_one, Int.ofNat_zero, Int.natCast_zero]
    rintro ⟨i, hi, hij⟩
    dsimp only
    rcases at_or s i hi with ⟨v, hv, hlt, hd⟩ | ⟨he, hd⟩
    · obtain ⟨u, hu⟩ := getE (l := t) (i := i) (by omega)
      by_cases hvu : v = u
      · have d1 : (v != u) = false := by rw [hvu]; simp
        repeat' (first
    | (with_reducible first | refine DW.seq ?_ | refine DW.block ?_ | refine DW.skip ?_ | refine DW.exit ?_ | refine DW.ret ?_ | refine DW.reg ?_)
    | (refine DW.dreg rfl (WF.of ?_) ?_; first | rfl | skip)
    | (simp (disch := omega) only [go_sem, simprocAttr, bm_box, bm_row, bk_box, bk_row, hd, hv, hu, d1])
    | (exact retS_of rfl rfl rfl)
    | (refine DW.cond_tt rfl ?_)
    | (refine DW.cond_ff rfl ?_)
    | (refine DW.cond rfl ?_ ?_ <;> intro hc <;> (try simp only [go_sem] at hc))
    | (refine g_split ?_ ?_ <;> intro hc <;> (try simp only [hc]) <;> (try simp only [go_sem] at hc)))
        refine ⟨⟨i + 1, by omega, upto_succ hij (by rw [hv, hu, hvu])⟩, ?_, Ent.to ?_ ?_⟩ <;> first | (show _ < _; (try simp only); omega) | (simp (disch := omega) only [wkT_cons, wkX_cons, wkT_nil, wkX_nil, get, Nat.reduceEqDiff, ↓reduceIte, ex_some, wk_self, wk_top, wk_nil, wkB_self, and_self, dI, i64_in, and_true, true_and, Int.natCast_add, Int.natCast_one, Int.ofNat_zero, Int.natCast_zero])
      · have d1 : (v != u) = true := by simpa using hvu
        have hne : R = false := by
          rw [← hR, decide_eq_false_iff_not]
          rintro rfl
          rw [hv] at hu; cases hu; exact hvu rfl
        subst hne
        repeat' (first
    | (with_reducible first | refine DW.seq ?_ | refine DW.block ?_ | refine DW.skip ?_ | refine DW.exit ?_ | refine DW.ret ?_ | refine DW.reg ?_)
    | (refine DW.dreg rfl (WF.of ?_) ?_; first | rfl | skip)
    | (simp (disch := omega) only [go_sem, simprocAttr, bm_box, bm_row, bk_box, bk_row, hd, hv, hu, d1])
    | (exact retS_of rfl rfl rfl)
    | (refine DW.cond_tt rfl ?_)
    | (refine DW.cond_ff rfl ?_)
    | (refine DW.cond rfl ?_ ?_ <;> intro hc <;> (try simp only [go_sem] at hc))
    | (refine g_split ?_ ?_ <;> intro hc <;> (try simp only [hc]) <;> (try simp only [go_sem] at hc)))
    · have hst : R = true := by rw [← hR, decide_eq_true_eq]; exact list_same hl he hij
      subst hst
      repeat' (first
    | (with_reducible first | refine DW.seq ?_ | refine DW.block ?_ | refine DW.skip ?_ | refine DW.exit ?_ | refine DW.ret ?_ | refine DW.reg ?_)
    | (refine DW.dreg rfl (WF.of ?_) ?_; first | rfl | skip)
    | (simp (disch := omega) only [go_sem, simprocAttr, bm_box, bm_row, bk_box, bk_row, hd])
    | (exact retS_of rfl rfl rfl)
    | (refine DW.cond_tt rfl ?_)
    | (refine DW.cond_ff rfl ?_)
    | (refine DW.cond rfl ?_ ?_ <;> intro hc <;> (try simp only [go_sem] at hc))
    | (refine g_split ?_ ?_ <;> intro hc <;> (try simp only [hc]) <;> (try simp only [go_sem] at hc)))
  · have e : ((s.length : Int) != t.length) = true := by rw [bne_iff_ne]; omega
    have hne : decide (s = t) = false := by rw [decide_eq_false_iff_not]; rintro rfl; exact hl rfl
    rw [hne]
    refine DCall.of Try.func18 sf18 hb18 (Nat.le_of_ble_eq_true rfl) (okRes_nil fun _ => rfl) ?_; simp only [s18, idxs, Nat.reduceAdd]
    repeat' (first
    | (with_reducible first | refine DW.seq ?_ | refine DW.block ?_ | refine DW.skip ?_ | refine DW.exit ?_ | refine DW.ret ?_ | refine DW.reg ?_)
    | (refine DW.dreg rfl (WF.of ?_) ?_; first | rfl | skip)
    | (simp (disch := omega) only [go_sem, simprocAttr, bm_box, bm_row, bk_box, bk_row, e])
    | (exact retS_of rfl rfl rfl)
    | (refine DW.cond_tt rfl ?_)
    | (refine DW.cond_ff rfl ?_)
    | (refine DW.cond rfl ?_ ?_ <;> intro hc <;> (try simp only [go_sem] at hc))
    | (refine g_split ?_ ?_ <;> intro hc <;> (try simp only [hc]) <;> (try simp only [go_sem] at hc)))
theorem reSame (b1 b2 : Bool) (s t : List TStp) (hs : s.length ≤ 2 ^ 36) (ht : t.length ≤ 2 ^ 36) (hsw : ∀ x ∈ s, x.ws.length ≤ 2 ^ 36) (htw : ∀ x ∈ t, x.ws.length ≤ 2 ^ 36) (R : Bool) (hR : (R = true ↔ s = t)) : DCall Try.prog 26 [dSt b1 s, dSt b2 t] [] (bD R) [] := by
  by_cases hl : s.length = t.length
  · have e : ((s.length : Int) != t.length) = false := by rw [hl]; simp
    refine DCall.of Try.func26 sf26 hb26 (Nat.le_of_ble_eq_true rfl) (okRes_nil fun _ => rfl) ?_; simp only [s26, idxs, Nat.reduceAdd]
    repeat' (first
    | (with_reducible first | refine DW.seq ?_ | refine DW.block ?_ | refine DW.skip ?_ | refine DW.exit ?_ | refine DW.ret ?_ | refine DW.reg ?_)
    | (refine DW.dreg rfl (WF.of ?_) ?_; first | rfl | skip)
    | (simp (disch := omega) only [go_sem, simprocAttr, bm_box, bm_row, bk_box, bk_row, e])
    | (exact retS_of rfl rfl rfl)
    | (refine DW.cond_tt rfl ?_)
    | (refine DW.cond_ff rfl ?_)
    | (refine DW.cond rfl ?_ ?_ <;> intro hc <;> (try simp only [go_sem] at hc))
    | (refine g_split ?_ ?_ <;> intro hc <;> (try simp only [hc]) <;> (try simp only [go_sem] at hc)))
    refine DW.loop (ι := { i : Nat // i ≤ s.length ∧ ∀ j, j < i → s[j]? = t[j]? }) (fun i => ⟨42, [(5, dI i.1), (1, dSt b2 t), (0, dSt b1 s)], []⟩) (fun i => s.length - i.1) ⟨0, Nat.zero_le _, fun j h => by omega⟩ ?_ ?_
    · refine Ent.to ?_ ?_ <;> simp (disch := omega) only [wkT_cons, wkX_cons, wkT_nil, wkX_nil, get, Nat.reduceEqDiff, ↓reduceIte, ex_some, wk_self, wk_top, wk_nil, wkB_self, and_self, dI, i64_in, and_true, true_and, Int.natCast_add, Int.natCast_one, Int.ofNat_zero, Int.natCast_zero]
    rintro ⟨i, hi, hij⟩
    dsimp only
    rcases at_or s i hi with ⟨v, hv, hlt, hd⟩ | ⟨he, hd⟩
    · obtain ⟨u, hu⟩ := getE (l := t) (i := i) (by omega)
      have h1 := reInts false false v.ws u.ws (hsw v (List.mem_of_getElem? hv)) (htw u (List.mem_of_getElem? hu))
      have hfalse : v ≠ u → R = false := fun hvu => by
        cases R with
        | false => rfl
        | true =>
          have := hR.1 rfl
          subst this
          rw [hv] at hu; cases hu; exact absurd rfl hvu
      by_cases hr : v.run = u.run
      · have d1 : (v.run != u.run) = false := by rw [hr]; simp
        by_cases hw : v.ws = u.ws
        · have hvu : v = u := by cases v; cases u; simp at hr hw; rw [hr, hw]
          rw [decide_eq_true hw] at h1
          repeat' (first
    | (with_reducible first | refine DW.seq ?_ | refine DW.block ?_ | refine DW.skip ?_ | refine DW.exit ?_ | refine DW.ret ?_ | refine DW.reg ?_)
    | (refine DW.dreg rfl (WF.of ?_) ?_; first | rfl | skip)
    | (simp (disch := omega) only [go_sem, simprocAttr, bm_box, bm_row, bk_box, bk_row, hd, hv, hu, d1, List.map_cons, List.map_nil])
    | (exact retS_of rfl rfl rfl)
    | (refine DW.cond_tt rfl ?_)
    | (refine call_c (h1) (by decide) ?_)
    | (refine DW.cond_ff rfl ?_)
    | (refine DW.cond rfl ?_ ?_ <;> intro hc <;> (try simp only [go_sem] at hc))
    | (refine g_split ?_ ?_ <;> intro hc <;> (try simp only [hc]) <;> (try simp only [go_sem] at hc)))
          refine ⟨⟨i + 1, by omega, upto_succ hij (by rw [hv, hu, hvu])⟩, ?_, Ent.to ?_ ?_⟩ <;> first | (show _ < _; (try simp only); omega) | (simp (disch := omega) only [wkT_cons, wkX_cons, wkT_nil, wkX_nil, get, Nat.reduceEqDiff, ↓reduceIte, ex_some, wk_self, wk_top, wk_nil, wkB_self, and_self, dI, i64_in, and_true, true_and, Int.natCast_add, Int.natCast_one, Int.ofNat_zero, Int.natCast_zero])
        · rw [decide_eq_false hw] at h1
          obtain rfl := hfalse (fun h => hw (by rw [h]))
          repeat' (first
    | (with_reducible first | refine DW.seq ?_ | refine DW.block ?_ | refine DW.skip ?_ | refine DW.exit ?_ | refine DW.ret ?_ | refine DW.reg ?_)
    | (refine DW.dreg rfl (WF.of ?_) ?_; first | rfl | skip)
    | (simp (disch := omega) only [go_sem, simprocAttr, bm_box, bm_row, bk_box, bk_row, hd, hv, hu, d1, List.map_cons, List.map_nil])
    | (exact retS_of rfl rfl rfl)
    | (refine DW.cond_tt rfl ?_)
    | (refine call_c (h1) (by decide) ?_)
    | (refine DW.cond_ff rfl ?_)
    | (refine DW.cond rfl ?_ ?_ <;> intro hc <;> (try simp only [go_sem] at hc))
    | (refine g_split ?_ ?_ <;> intro hc <;> (try simp only [hc]) <;> (try simp only [go_sem] at hc)))
      · have d1 : (v.run != u.run) = true := by simpa using hr
        obtain rfl := hfalse (fun h => hr (by rw [h]))
        repeat' (first
    | (with_reducible first | refine DW.seq ?_ | refine DW.block ?_ | refine DW.skip ?_ | refine DW.exit ?_ | refine DW.ret ?_ | refine DW.reg ?_)
    | (refine DW.dreg rfl (WF.of ?_) ?_; first | rfl | skip)
    | (simp (disch := omega) only [go_sem, simprocAttr, bm_box, bm_row, bk_box, bk_row, hd, hv, hu, d1, List.map_cons, List.map_nil])
    | (exact retS_of rfl rfl rfl)
    | (refine DW.cond_tt rfl ?_)
    | (refine DW.cond_ff rfl ?_)
    | (refine DW.cond rfl ?_ ?_ <;> intro hc <;> (try simp only [go_sem] at hc))
    | (refine g_split ?_ ?_ <;> intro hc <;> (try simp only [hc]) <;> (try simp only [go_sem] at hc)))
    · have hst : R = true := hR.2 (list_same hl he hij)
      subst hst
      repeat' (first
    | (with_reducible first | refine DW.seq ?_ | refine DW.block ?_ | refine DW.skip ?_ | refine DW.exit ?_ | refine DW.ret ?_ | refine DW.reg ?_)
    | (refine DW.dreg rfl (WF.of ?_) ?_; first | rfl | skip)
    | (simp (disch := omega) only [go_sem, simprocAttr, bm_box, bm_row, bk_box, bk_row, hd])
    | (exact retS_of rfl rfl rfl)
    | (refine DW.cond_tt rfl ?_)
    | (refine DW.cond_ff rfl ?_)
    | (refine DW.cond rfl ?_ ?_ <;> intro hc <;> (try simp only [go_sem] at hc))
    | (refine g_split ?_ ?_ <;> intro hc <;> (try simp only [hc]) <;> (try simp only [go_sem] at hc)))
  · have e : ((s.length : Int) != t.length) = true := by rw [bne_iff_ne]; omega
    have hne : R = false := by
      cases R with
      | false => rfl
      | true => exact absurd (congrArg List.length (hR.1 rfl)) hl
    subst hne
    refine DCall.of Try.func26 sf26 hb26 (Nat.le_of_ble_eq_true rfl) (okRes_nil fun _ => rfl) ?_; simp only [s26, idxs, Nat.reduceAdd]
    repeat' (first
    | (with_reducible first | refine DW.seq ?_ | refine DW.block ?_ | refine DW.skip ?_ | refine DW.exit ?_ | refine DW.ret ?_ | refine DW.reg ?_)
    | (refine DW.dreg rfl (WF.of ?_) ?_; first | rfl | skip)
    | (simp (disch := omega) only [go_sem, simprocAttr, bm_box, bm_row, bk_box, bk_row, e])
    | (exact retS_of rfl rfl rfl)
    | (refine DW.cond_tt rfl ?_)
    | (refine DW.cond_ff rfl ?_)
    | (refine DW.cond rfl ?_ ?_ <;> intro hc <;> (try simp only [go_sem] at hc))
    | (refine g_split ?_ ?_ <;> intro hc <;> (try simp only [hc]) <;> (try simp only [go_sem] at hc)))
end Go.Dw.Seat
end
section
set_option linter.unusedSimpArgs false
set_option maxRecDepth 100000
namespace Go.Dw.Seat
open Go Go.Dw Go.Proofs Go.IntWalk
theorem rows_snocI (l : List Int) (x : Int) : rows eI l ++ [[C.v (.int .i64 x)]] = rows eI (l ++ [x]) := by simp [rows, eI]
theorem shut1 (n : Int) : shutEs [[D.c (.v (.int .i64 n))]] = some [[C.v (.int .i64 n)]] := rfl
theorem trClip (l : List Int) : DCall Try.prog 112 [dIs false l] [] (.c (.cl false 1 (rows eI l))) [] := by
  refine DCall.of Try.func112 sf112 hb112 (Nat.le_of_ble_eq_true rfl) (okRes_nil fun _ => rfl) ?_; simp only [s112, idxs, Nat.reduceAdd]
  repeat' (first
    | (with_reducible first | refine DW.seq ?_ | refine DW.block ?_ | refine DW.skip ?_ | refine DW.exit ?_ | refine DW.ret ?_ | refine DW.reg ?_)
    | (simp (disch := omega) only [go_sem, simprocAttr, bm_box, bm_row, bk_box, bk_row, Int.le_refl])
    | (exact retS_of rfl rfl rfl)
    | (refine DW.cond_tt rfl ?_)
    | (refine DW.cond_ff rfl ?_)
    | (refine DW.cond rfl ?_ ?_ <;> intro hc <;> (try simp only [go_sem] at hc))
    | (refine g_split ?_ ?_ <;> intro hc <;> (try simp only [hc]) <;> (try simp only [go_sem] at hc)))
  refine retS_wk rfl ?_ (by simp only [Blk.nb, rowC_nb, D.nb, D.nbs, C.nb, C.nbs, C.nbss, rows_nb eI_nb, Bool.and_true, Bool.not_false, Bool.and_self, bD, dI, iD, rows_nb eO_nb]); exact .refl _
theorem trPatterns (p : TPap) (l : List TOrd) (ws : List Int) : DCall Try.prog 100 [macD false p l, dIs false ws] [] (.fn (.func 110) [] [.c (.ro false [.sl false 1 (rows eI ws)] 0), .c (.ro false [.v (.int .i64 p.wide), .v (.int .i64 p.tl), .v (.int .i64 p.th), .v (.int .i64 p.webs), .sl false 3 (rows eO l)] 0)]) [] := by
  refine DCall.of Try.func100 sf100 hb100 (Nat.le_of_ble_eq_true rfl) (okRes_nil fun _ => rfl) ?_; simp only [s100, idxs, Nat.reduceAdd]
  repeat' (first
    | (with_reducible first | refine DW.seq ?_ | refine DW.block ?_ | refine DW.skip ?_ | refine DW.exit ?_ | refine DW.ret ?_ | refine DW.reg ?_)
    | (simp (disch := omega) only [go_sem, simprocAttr, bm_box, bm_row, bk_box, bk_row])
    | (exact retS_of rfl rfl rfl)
    | (refine DW.cond_tt rfl ?_)
    | (refine DW.cond_ff rfl ?_)
    | (refine DW.cond rfl ?_ ?_ <;> intro hc <;> (try simp only [go_sem] at hc))
    | (refine g_split ?_ ?_ <;> intro hc <;> (try simp only [hc]) <;> (try simp only [go_sem] at hc)))
  (refine retS_ent (Ent.rel 2 rfl) ?_; simp (disch := omega) only [go_sem, simprocAttr, bm_box, bm_row, bk_box, bk_row])
  (refine retS_ent (Ent.rel 3 rfl) ?_; simp (disch := omega) only [go_sem, simprocAttr, bm_box, bm_row, bk_box, bk_row])
  refine retS_wk rfl ?_ (by simp only [Blk.nb, rowC_nb, D.nb, D.nbs, C.nb, C.nbs, C.nbss, rows_nb eI_nb, Bool.and_true, Bool.not_false, Bool.and_self, bD, dI, iD, rows_nb eO_nb]); exact .refl _
def patsX (p : TPap) (l : List TOrd) : Nat → List Int → List (List Int)
  | 0, ws => if patB p l ws = true then [ws] else []
  | r + 1, ws => (List.range (p.webs.toNat + 1)).flatMap fun (d : Nat) => patsX p l r (ws ++ [(d : Int)])
def enW (w : List Int) : List D := [dIs false w]
attribute [go_sem] enW
theorem patsX_ws (p : TPap) (hp : p.ok) (l : List TOrd) : ∀ (r : Nat) (ws : List Int), ws.length + r = l.length → (∀ n ∈ ws, 0 ≤ n ∧ n ≤ 4) → ∀ w ∈ patsX p l r ws, Ws4 l w
  | 0, ws, hl, hb, w, hw => by
    rw [patsX] at hw
    split at hw
    · rw [List.mem_singleton] at hw; subst hw; exact ⟨hl, hb⟩
    · cases hw
  | r + 1, ws, hl, hb, w, hw => by
    rw [patsX, List.mem_flatMap] at hw
    obtain ⟨d, hd, hw⟩ := hw
    have := hp.webs
    rw [List.mem_range] at hd
    refine patsX_ws p hp l r (ws ++ [(d : Int)]) (by simp; omega) (fun n hn => ?_) w hw
    simp only [List.mem_append, List.mem_singleton] at hn
    rcases hn with hn | rfl
    · exact hb n hn
    · omega
def thru {β ε : Type} (stp : β → ε → Bool × β) (b : β) (e : ε) : Option Exit × β := (if (stp b e).1 = true then none else some .ret, (stp b e).2)
theorem thru_run {β ε : Type} (stp : β → ε → Bool × β) : ∀ (L R : List ε) (b : β),
    ((runIt (thru stp) b L).1 = none ∧ runB stp b (L ++ R) = runB stp (runIt (thru stp) b L).2 R) ∨ ((runIt (thru stp) b L).1 = some .ret ∧ runB stp b (L ++ R) = (runIt (thru stp) b L).2)
  | [], R, b => .inl ⟨rfl, rfl⟩
  | e :: L, R, b => by
    by_cases hs : (stp b e).1 = true
    · have := thru_run stp L R (stp b e).2
      simp only [runIt, thru, hs, if_true, List.cons_append, runB] at this ⊢
      exact this
    · refine .inr ?_
      simp [runIt, thru, hs, runB]
theorem thru_live {β ε : Type} (stp : β → ε → Bool × β) (live : List ε → β → Prop) (ok : ε → Prop) (h : ∀ b e t, live (e :: t) b → ok e → (stp b e).1 = true → live t (stp b e).2) (R : List ε) : ∀ (L : List ε) (b : β), live (L ++ R) b → (∀ e ∈ L, ok e) → (runIt (thru stp) b L).1 = none → live R (runIt (thru stp) b L).2
  | [], b, hb, _, _ => hb
  | e :: L, b, hb, ho, hn => by
    by_cases hs : (stp b e).1 = true
    · have h2 := h b e (L ++ R) hb (ho e (by simp)) hs
      simp only [runIt, thru, hs, if_true] at hn ⊢
      exact thru_live stp live ok h R L _ h2 (fun x hx => ho x (by simp [hx])) hn
    · simp [runIt, thru, hs] at hn
abbrev macC (p : TPap) (l : List TOrd) : List C := [.v (.int .i64 p.wide), .v (.int .i64 p.tl), .v (.int .i64 p.th), .v (.int .i64 p.webs), .sl false 3 (rows eO l)]
def restX (p : TPap) (l : List TOrd) (r : Nat) (ws : List Int) (k : Nat) : List (List Int) := (List.range' k (p.webs.toNat + 1 - k)).flatMap fun (d : Nat) => patsX p l r (ws ++ [(d : Int)])
theorem restX_step {p : TPap} (l : List TOrd) (r : Nat) (ws : List Int) {k : Nat} (h : k ≤ p.webs.toNat) : restX p l r ws k = patsX p l r (ws ++ [(k : Int)]) ++ restX p l r ws (k + 1) := by
  have e : p.webs.toNat + 1 - k = (p.webs.toNat + 1 - (k + 1)) + 1 := by omega
  rw [restX, e, List.range'_succ, List.flatMap_cons, restX]
theorem restX_end {p : TPap} (l : List TOrd) (r : Nat) (ws : List Int) {k : Nat} (h : p.webs.toNat < k) : restX p l r ws k = [] := by
  have e : p.webs.toNat + 1 - k = 0 := by omega
  rw [restX, e]; rfl
theorem restX_all (p : TPap) (l : List TOrd) (r : Nat) (ws : List Int) : patsX p l (r + 1) ws = restX p l r ws 0 := by
  rw [patsX, restX, Nat.sub_zero, List.range_eq_range']
set_option maxHeartbeats 2000000 in
theorem trPats1 (p : TPap) (hp : p.ok) (l : List TOrd) (hl : l.length ≤ 4) (ho : ∀ o ∈ l, o.ok) : ∀ (r : Nat) (ws : List Int), ws.length + r = l.length → (∀ n ∈ ws, 0 ≤ n ∧ n ≤ 4) → ItB true Try.prog 110 [] [.c (.ro false [.sl false 1 (rows eI ws)] 0), .c (.ro false (macC p l) 0)] enW (Ws4 l) (patsX p l r ws)
  | 0, ws, hwl, hb => by
    intro ly β H stp live _ hW hY b0 hl0
    have hH : ∀ b, HidOk (H b) := fun b => (hW b).toHidOk
    have hw : Ws4 l ws := ⟨hwl, hb⟩
    have h1 := trIsPat false false p hp l hl ho ws hw
    rw [patsX] at hl0 ⊢
    refine DCall.of Try.func110 sf110 hb110 (Nat.le_of_ble_eq_true rfl) (hH _).res ?_
    simp only [s110, o110_0, o110_1, o110_2, o110_3, o110_4, o110_5, o110_6, idxs, Nat.reduceAdd, List.map_nil, List.map_cons, List.nil_append, List.cons_append]
    have f1 := hid_get (hH b0)
    have f2 := hid_ins (hH b0)
    have f3 := (hH b0).men
    have f4 := (hH b0).lo
    have f5 : ∀ k x, k < 1000 → ins k x (H b0) = H b0 ++ [(k, x)] := fun k x hk => by have := f2 k hk x []; rwa [List.append_nil] at this
    have hd : ((ws.length : Int) == (l.length : Int)) = true := by rw [hwl.symm]; simp
    refine DW.seq (DW.reg ?_)
    simp (disch := omega) only [go_sem, simprocAttr, bm_box, bm_row, bk_box, bk_row, f1, f2, f3, f4, f5, ins]
    refine DW.ent (Ent.comm (hH b0) rfl).1 ?_
    cases e1 : patB p l ws <;> rw [e1] at h1 hl0
    · repeat' (first
    | (with_reducible first | refine DW.seq ?_ | refine DW.block ?_ | refine DW.skip ?_ | refine DW.exit ?_ | refine DW.ret ?_ | refine DW.reg ?_)
    | (refine DW.ord rfl (WF.of (by first | rfl | simp (disch := omega) only [go_sem, simprocAttr, bm_box, bm_row, bk_box, bk_row, f1, f2, f3, f4, ins, hd])) ?_ ?_ ?_; rotate_left)
    | rfl
    | (with_reducible refine And.intro ?_ ?_)
    | (simp (disch := omega) only [go_sem, simprocAttr, bm_box, bm_row, bk_box, bk_row, f1, f2, f3, f4, ins, hd])
    | (exact retS_of rfl rfl rfl)
    | (refine DW.cond_tt rfl ?_)
    | (refine call_c (h1) (by decide) ?_)
    | (refine DW.cond_ff rfl ?_)
    | (refine DW.cond rfl ?_ ?_ <;> intro hc <;> (try simp only [go_sem] at hc))
    | (refine g_split ?_ ?_ <;> intro hc <;> (try simp only [hc]) <;> (try simp only [go_sem] at hc)))
      exact retS_hid (own := [_]) (.inl rfl) (hH _) rfl
    · obtain ⟨hyc, -⟩ := hY b0 ws [] hl0 hw
      repeat' (first
    | (with_reducible first | refine DW.seq ?_ | refine DW.block ?_ | refine DW.skip ?_ | refine DW.exit ?_ | refine DW.ret ?_ | refine DW.reg ?_)
    | (refine DW.ord rfl (WF.of (by first | rfl | simp (disch := omega) only [go_sem, simprocAttr, bm_box, bm_row, bk_box, bk_row, f1, f2, f3, f4, ins, hd])) ?_ ?_ ?_; rotate_left)
    | rfl
    | (with_reducible refine And.intro ?_ ?_)
    | (simp (disch := omega) only [go_sem, simprocAttr, bm_box, bm_row, bk_box, bk_row, f1, f2, f3, f4, ins, hd])
    | (exact retS_of rfl rfl rfl)
    | (refine DW.cond_tt rfl ?_)
    | (refine call_c (h1) (by decide) ?_)
    | (refine DW.cond_ff rfl ?_)
    | (refine DW.cond rfl ?_ ?_ <;> intro hc <;> (try simp only [go_sem] at hc))
    | (refine g_split ?_ ?_ <;> intro hc <;> (try simp only [hc]) <;> (try simp only [go_sem] at hc)))
      refine call_y (own := [_]) hyc rfl rfl rfl (hH _) (hH _) (by decide) ?_
      simp (disch := omega) only [go_sem, simprocAttr, bm_box, bm_row, bk_box, bk_row]
      repeat' (first
    | (with_reducible first | refine DW.seq ?_ | refine DW.block ?_ | refine DW.skip ?_ | refine DW.exit ?_ | refine DW.ret ?_ | refine DW.reg ?_)
    | (refine DW.ord rfl (WF.of (by first | rfl | simp (disch := omega) only [go_sem, simprocAttr, bm_box, bm_row, bk_box, bk_row])) ?_ ?_ ?_; rotate_left)
    | rfl
    | (with_reducible refine And.intro ?_ ?_)
    | (simp (disch := omega) only [go_sem, simprocAttr, bm_box, bm_row, bk_box, bk_row])
    | (exact retS_of rfl rfl rfl)
    | (refine DW.cond_tt rfl ?_)
    | (refine DW.cond_ff rfl ?_)
    | (refine DW.cond rfl ?_ ?_ <;> intro hc <;> (try simp only [go_sem] at hc))
    | (refine g_split ?_ ?_ <;> intro hc <;> (try simp only [hc]) <;> (try simp only [go_sem] at hc)))
      have e2 : runB stp b0 [ws] = (stp b0 ws).2 := by simp only [runB]; cases (stp b0 ws).1 <;> rfl
      rw [e2]
      exact retS_hid (own := [_]) (.inl rfl) (hH _) rfl
  | r + 1, ws, hwl, hb => by
    intro ly β H stp live _ hW hY b0 hl0
    have hH : ∀ b, HidOk (H b) := fun b => (hW b).toHidOk
    have hd : ((ws.length : Int) == (l.length : Int)) = false := by rw [beq_eq_false_iff_ne]; omega
    rw [restX_all] at hl0 ⊢
    refine DCall.of Try.func110 sf110 hb110 (Nat.le_of_ble_eq_true rfl) (hH _).res ?_
    simp only [s110, o110_0, o110_1, o110_2, o110_3, o110_4, o110_5, o110_6, idxs, Nat.reduceAdd, List.map_nil, List.map_cons, List.nil_append, List.cons_append]
    have f1 := hid_get (hH b0)
    have f2 := hid_ins (hH b0)
    have f3 := (hH b0).men
    have f4 := (hH b0).lo
    have f5 : ∀ k x, k < 1000 → ins k x (H b0) = H b0 ++ [(k, x)] := fun k x hk => by have := f2 k hk x []; rwa [List.append_nil] at this
    repeat' (first
    | (with_reducible first | refine DW.seq ?_ | refine DW.block ?_ | refine DW.skip ?_ | refine DW.exit ?_ | refine DW.ret ?_ | refine DW.reg ?_)
    | (refine DW.ord rfl (WF.of (by first | rfl | simp (disch := omega) only [go_sem, simprocAttr, bm_box, bm_row, bk_box, bk_row, f1, f2, f3, f4, f5, ins, hd])) ?_ ?_ ?_; rotate_left)
    | rfl
    | (with_reducible refine And.intro ?_ ?_)
    | (simp (disch := omega) only [go_sem, simprocAttr, bm_box, bm_row, bk_box, bk_row, f1, f2, f3, f4, f5, ins, hd])
    | (exact retS_of rfl rfl rfl)
    | (refine DW.cond_tt rfl ?_)
    | (refine DW.cond_ff rfl ?_)
    | (refine DW.cond rfl ?_ ?_ <;> intro hc <;> (try simp only [go_sem] at hc))
    | (refine g_split ?_ ?_ <;> intro hc <;> (try simp only [hc]) <;> (try simp only [go_sem] at hc)))
    have hpw := hp.webs
    have w1 : IntKind.i64.wrap (p.webs + 1) = p.webs + 1 := IntWalk.i64_in _ (by omega)
    refine DW.ent (Ent.comm (hH b0) rfl).1 ?_
    refine DW.loop (ι := { y : Nat × β // y.1 ≤ p.webs.toNat + 1 ∧ live (restX p l r ws y.1) y.2 ∧ runB stp b0 (restX p l r ws 0) = runB stp y.2 (restX p l r ws y.1) })
      (fun y => ⟨38, [(22, dI y.1.1), (21, dI (p.webs + 1)), (3, .box 3 0), (1, .c (.ro false [.sl false 1 (rows eI ws)] 0)), (2, .c (.ro false (macC p l) 0))], [(3, .box [.c (.fn (.yield ly) [] [])])] ++ H y.1.2⟩) (fun y => p.webs.toNat + 1 - y.1.1) ⟨(0, b0), Nat.zero_le _, hl0, rfl⟩ ?_ ?_
    · refine Ent.toH (hH b0) rfl ?_ ?_ <;> simp (disch := omega) only [wkT_cons, wkX_cons, wkT_nil, wkX_nil, get, Nat.reduceEqDiff, ↓reduceIte, ex_some, wk_self, wk_top, wk_nil, wkB_self, and_self, dI, i64_in, and_true, true_and, Int.natCast_add, Int.natCast_one, Int.ofNat_zero, Int.natCast_zero, w1]
    rintro ⟨⟨k, b1⟩, hk, hlv, hrun⟩
    dsimp only at hk hlv hrun ⊢
    by_cases hkw : k ≤ p.webs.toNat
    · have hd2 : decide ((k : Int) < p.webs + 1) = true := decide_eq_true (by omega)
      have hb' : ∀ n ∈ ws ++ [(k : Int)], 0 ≤ n ∧ n ≤ 4 := fun n hn => by
        simp only [List.mem_append, List.mem_singleton] at hn
        rcases hn with hn | rfl
        · exact hb n hn
        · omega
      have hit := trPats1 p hp l hl ho r (ws ++ [(k : Int)]) (by simp; omega) hb'
      have hall := patsX_ws p hp l r (ws ++ [(k : Int)]) (by simp; omega) hb'
      have hc1 := trClip ws
      have hc2 := trPatterns p l (ws ++ [(k : Int)])
      have g1 := hid_get (hH b1)
      have g2 := hid_ins (hH b1)
      have g3 := (hH b1).men
      have g4 := (hH b1).lo
      have g5 : ∀ k x, k < 1000 → ins k x (H b1) = H b1 ++ [(k, x)] := fun k x hk => by have := g2 k hk x []; rwa [List.append_nil] at this
      have g6 : ((H b1).all fun p => Blk.keysIn ((3, Blk.box [D.c (C.fn (Fn.yield ly) [] [])]) :: H b1) p.snd) = true := (hW b1).app [_]
      repeat' (first
    | (with_reducible first | refine DW.seq ?_ | refine DW.block ?_ | refine DW.skip ?_ | refine DW.exit ?_ | refine DW.ret ?_ | refine DW.reg ?_)
    | (refine DW.ord rfl (WF.of (by first | rfl | simp (disch := omega) only [go_sem, simprocAttr, bm_box, bm_row, bk_box, bk_row, g1, g2, g3, g4, g5, g6, ins, hd2, rows_snocI, shut1])) ?_ ?_ ?_; rotate_left)
    | rfl
    | (with_reducible refine And.intro ?_ ?_)
    | (simp (disch := omega) only [go_sem, simprocAttr, bm_box, bm_row, bk_box, bk_row, g1, g2, g3, g4, g5, g6, ins, hd2, rows_snocI, shut1])
    | (exact retS_of rfl rfl rfl)
    | (refine DW.cond_tt rfl ?_)
    | (refine call_c (hc1) (by decide) ?_)
    | (refine call_c (hc2) (by decide) ?_)
    | (refine DW.cond_ff rfl ?_)
    | (refine DW.cond rfl ?_ ?_ <;> intro hc <;> (try simp only [go_sem] at hc))
    | (refine g_split ?_ ?_ <;> intro hc <;> (try simp only [hc]) <;> (try simp only [go_sem] at hc)))
      · exact (hW b1).app [_, _]
      refine DW.ent (σ' := ⟨38, [(31, .fn (.func 110) [] [.c (.ro false [.sl false 1 (rows eI (ws ++ [(k : Int)]))] 0), .c (.ro false (macC p l) 0)]), (22, dI k), (21, dI (p.webs + 1)), (3, .box 3 0), (1, .c (.ro false [.sl false 1 (rows eI ws)] 0)), (2, .c (.ro false (macC p l) 0))], [(3, .box [.c (.fn (.yield ly) [] [])])] ++ H b1⟩) ?_ ?_
      · refine Ent.toH (o := [_, _]) (o' := [_]) (hH b1) rfl ?_ ?_ <;> simp (disch := omega) only [wkT_cons, wkX_cons, wkT_nil, wkX_nil, get, Nat.reduceEqDiff, ↓reduceIte, ex_some, wk_self, wk_top, wk_nil, wkB_self, and_self, dI, i64_in, and_true, true_and, Int.natCast_add, Int.natCast_one, Int.ofNat_zero, Int.natCast_zero]
      refine DW.rngS (fs := []) (caps := [.c (.ro false [.sl false 1 (rows eI (ws ++ [(k : Int)]))] 0), .c (.ro false (macC p l) 0)]) rfl (fun _ => ⟨rfl, rfl⟩) (fun y : β => [(3, .box [.c (.fn (.yield ly) [] [])])] ++ H y) b1 rfl (thru stp) enW (Ws4 l) (patsX p l r (ws ++ [(k : Int)])) hit (fun t y => live (t ++ restX p l r ws (k + 1)) y) (by rw [← restX_step l r ws hkw]; exact hlv) ?_ (by decide) (fun _ _ => rfl) (fun _ _ _ => rfl) (by simp only [List.map_cons, List.map_nil]; decide) ?_ ?_ ?_ ?_ ?_ ?_ ?_
      · intro b e t hiv hs h1
        simp only [thru] at h1 ⊢
        split at h1
        · rename_i hc
          exact (hY b e _ hiv hs).2 hc
        · cases h1
      · intro y
        show get 999 (H y) = none
        exact (hH y).lo 999 (by decide)
      · intro y
        have := (hW y).app [(3, Blk.box [.c (.fn (.yield ly) [] [])])]
        simp only [List.cons_append, List.nil_append, wfB, List.all_cons, List.all_nil, this, Bool.and_true] at this ⊢
        rfl
      · intro y j x hj
        rw [get_app] at hj
        cases hg : get j [(3, Blk.box [.c (.fn (.yield ly) [] [])])] with
        | none => rw [hg] at hj; exact (hH y).nb j x hj
        | some x' =>
          rw [hg] at hj; cases hj
          have := get_mem hg
          simp only [List.mem_cons, Prod.mk.injEq, List.not_mem_nil, or_false] at this
          obtain ⟨_, rfl⟩ := this
          rfl
      · intro q hq
        simp only [List.mem_cons, List.not_mem_nil, or_false] at hq
        rcases hq with rfl | rfl | rfl | rfl | rfl | rfl <;> first | rfl | (simp only [D.nb, D.nbs, C.nb, C.nbs, rows_nb eO_nb, rows_nb eI_nb, Bool.and_self, Bool.not_false])
      · intro y e
        simp only [thru]
        split <;> rfl
      · intro b w t hiv hs v
        obtain ⟨hyc, -⟩ := hY b w _ hiv hs
        have g1 := hid_get (hH b)
        have g2 := hid_ins (hH b)
        have g3 := (hH b).men
        have g4 := (hH b).lo
        refine DW.ent (Ent.swap ((hH b).lo 999 (by decide))).1 ?_
        have hS : thru stp b w = (if (stp b w).1 = true then none else some .ret, (stp b w).2) := rfl
        cases hc : (stp b w).1 with
        | true =>
          rw [hc, if_pos rfl] at hS
          rw [hc] at hyc
          rw [hS]
          repeat' (first
    | (with_reducible first | refine DW.seq ?_ | refine DW.block ?_ | refine DW.skip ?_ | refine DW.exit ?_ | refine DW.ret ?_ | refine DW.reg ?_)
    | (refine DW.ord rfl (WF.of (by first | rfl | simp (disch := omega) only [go_sem, simprocAttr, bm_box, bm_row, bk_box, bk_row, g3, g4])) ?_ ?_ ?_; rotate_left)
    | rfl
    | (with_reducible refine And.intro ?_ ?_)
    | (simp (disch := omega) only [go_sem, simprocAttr, bm_box, bm_row, bk_box, bk_row, g3, g4])
    | (exact retS_of rfl rfl rfl)
    | (refine DW.cond_tt rfl ?_)
    | (refine DW.cond_ff rfl ?_)
    | (refine DW.cond rfl ?_ ?_ <;> intro hc <;> (try simp only [go_sem] at hc))
    | (refine g_split ?_ ?_ <;> intro hc <;> (try simp only [hc]) <;> (try simp only [go_sem] at hc)))
          refine call_y (own := [_, _]) hyc rfl rfl rfl (hH _) (hH _) (by decide) ?_
          simp (disch := omega) only [go_sem, simprocAttr, bm_box, bm_row, bk_box, bk_row]
          repeat' (first
    | (with_reducible first | refine DW.seq ?_ | refine DW.block ?_ | refine DW.skip ?_ | refine DW.exit ?_ | refine DW.ret ?_ | refine DW.reg ?_)
    | (refine DW.ord rfl (WF.of (by first | rfl | simp (disch := omega) only [go_sem, simprocAttr, bm_box, bm_row, bk_box, bk_row])) ?_ ?_ ?_; rotate_left)
    | rfl
    | (with_reducible refine And.intro ?_ ?_)
    | (simp (disch := omega) only [go_sem, simprocAttr, bm_box, bm_row, bk_box, bk_row])
    | (exact retS_of rfl rfl rfl)
    | (refine DW.cond_tt rfl ?_)
    | (refine DW.cond_ff rfl ?_)
    | (refine DW.cond rfl ?_ ?_ <;> intro hc <;> (try simp only [go_sem] at hc))
    | (refine g_split ?_ ?_ <;> intro hc <;> (try simp only [hc]) <;> (try simp only [go_sem] at hc)))
          refine round_end rfl rfl (Ent.trans ?_ (Ent.swap (o := [(3, Blk.box [D.c (C.fn (Fn.yield ly) [] [])])]) ((hH (stp b w).2).lo 999 (by decide))).2)
          refine Ent.toH (o := [_, _]) (o' := [_, _]) (hH _) ?_ ?_ ?_
          · rfl
          · simp (disch := omega) only [wkT_cons, wkX_cons, wkT_nil, wkX_nil, get, Nat.reduceEqDiff, ↓reduceIte, ex_some, wk_self, wk_top, wk_nil, wkB_self, and_self, dI, i64_in, and_true, true_and, Int.natCast_add, Int.natCast_one, Int.ofNat_zero, Int.natCast_zero, capB]
          · simp (disch := omega) only [wkT_cons, wkX_cons, wkT_nil, wkX_nil, get, Nat.reduceEqDiff, ↓reduceIte, ex_some, wk_self, wk_top, wk_nil, wkB_self, and_self, dI, i64_in, and_true, true_and, Int.natCast_add, Int.natCast_one, Int.ofNat_zero, Int.natCast_zero, capB]
        | false =>
          rw [hc, if_neg (by decide)] at hS
          rw [hc] at hyc
          rw [hS]
          repeat' (first
    | (with_reducible first | refine DW.seq ?_ | refine DW.block ?_ | refine DW.skip ?_ | refine DW.exit ?_ | refine DW.ret ?_ | refine DW.reg ?_)
    | (refine DW.ord rfl (WF.of (by first | rfl | simp (disch := omega) only [go_sem, simprocAttr, bm_box, bm_row, bk_box, bk_row, g3, g4])) ?_ ?_ ?_; rotate_left)
    | rfl
    | (with_reducible refine And.intro ?_ ?_)
    | (simp (disch := omega) only [go_sem, simprocAttr, bm_box, bm_row, bk_box, bk_row, g3, g4])
    | (exact retS_of rfl rfl rfl)
    | (refine DW.cond_tt rfl ?_)
    | (refine DW.cond_ff rfl ?_)
    | (refine DW.cond rfl ?_ ?_ <;> intro hc <;> (try simp only [go_sem] at hc))
    | (refine g_split ?_ ?_ <;> intro hc <;> (try simp only [hc]) <;> (try simp only [go_sem] at hc)))
          refine call_y (own := [_, _]) hyc rfl rfl rfl (hH _) (hH _) (by decide) ?_
          simp (disch := omega) only [go_sem, simprocAttr, bm_box, bm_row, bk_box, bk_row]
          repeat' (first
    | (with_reducible first | refine DW.seq ?_ | refine DW.block ?_ | refine DW.skip ?_ | refine DW.exit ?_ | refine DW.ret ?_ | refine DW.reg ?_)
    | (refine DW.ord rfl (WF.of (by first | rfl | simp (disch := omega) only [go_sem, simprocAttr, bm_box, bm_row, bk_box, bk_row])) ?_ ?_ ?_; rotate_left)
    | rfl
    | (with_reducible refine And.intro ?_ ?_)
    | (simp (disch := omega) only [go_sem, simprocAttr, bm_box, bm_row, bk_box, bk_row])
    | (exact retS_of rfl rfl rfl)
    | (refine DW.cond_tt rfl ?_)
    | (refine DW.cond_ff rfl ?_)
    | (refine DW.cond rfl ?_ ?_ <;> intro hc <;> (try simp only [go_sem] at hc))
    | (refine g_split ?_ ?_ <;> intro hc <;> (try simp only [hc]) <;> (try simp only [go_sem] at hc)))
          refine round_end rfl rfl (Ent.trans ?_ (Ent.swap (o := [(3, Blk.box [D.c (C.fn (Fn.yield ly) [] [])])]) ((hH (stp b w).2).lo 999 (by decide))).2)
          refine Ent.toH (o := [_, _]) (o' := [_, _]) (hH _) ?_ ?_ ?_
          · rfl
          · simp (disch := omega) only [wkT_cons, wkX_cons, wkT_nil, wkX_nil, get, Nat.reduceEqDiff, ↓reduceIte, ex_some, wk_self, wk_top, wk_nil, wkB_self, and_self, dI, i64_in, and_true, true_and, Int.natCast_add, Int.natCast_one, Int.ofNat_zero, Int.natCast_zero, capB]
          · simp (disch := omega) only [wkT_cons, wkX_cons, wkT_nil, wkX_nil, get, Nat.reduceEqDiff, ↓reduceIte, ex_some, wk_self, wk_top, wk_nil, wkB_self, and_self, dI, i64_in, and_true, true_and, Int.natCast_add, Int.natCast_one, Int.ofNat_zero, Int.natCast_zero, capB]
      · have hrs := thru_run stp (patsX p l r (ws ++ [(k : Int)])) (restX p l r ws (k + 1)) b1
        have hlive := thru_live stp live (Ws4 l) (fun b e t h1 h2 h3 => (hY b e t h1 h2).2 h3) (restX p l r ws (k + 1)) (patsX p l r (ws ++ [(k : Int)])) b1 (by rw [← restX_step l r ws hkw]; exact hlv) hall
        rw [restX_step (k := k) l r ws hkw] at hrun
        generalize runIt (thru stp) b1 (patsX p l r (ws ++ [(k : Int)])) = R at *
        obtain ⟨o, b2⟩ := R
        dsimp only at hrs hlive ⊢
        rcases hrs with ⟨rfl, h2⟩ | ⟨rfl, h2⟩
        · simp (disch := omega) only [go_sem, simprocAttr, bm_box, bm_row, bk_box, bk_row, Option.getD_none]
          repeat' (first
    | (with_reducible first | refine DW.seq ?_ | refine DW.block ?_ | refine DW.skip ?_ | refine DW.exit ?_ | refine DW.ret ?_ | refine DW.reg ?_)
    | (refine DW.ord rfl (WF.of (by first | rfl | simp (disch := omega) only [go_sem, simprocAttr, bm_box, bm_row, bk_box, bk_row])) ?_ ?_ ?_; rotate_left)
    | rfl
    | (with_reducible refine And.intro ?_ ?_)
    | (simp (disch := omega) only [go_sem, simprocAttr, bm_box, bm_row, bk_box, bk_row])
    | (exact retS_of rfl rfl rfl)
    | (refine DW.cond_tt rfl ?_)
    | (refine DW.cond_ff rfl ?_)
    | (refine DW.cond rfl ?_ ?_ <;> intro hc <;> (try simp only [go_sem] at hc))
    | (refine g_split ?_ ?_ <;> intro hc <;> (try simp only [hc]) <;> (try simp only [go_sem] at hc)))
          refine ⟨⟨(k + 1, b2), by omega, hlive rfl, hrun.trans h2⟩, by (show _ < _; (try simp only); omega), Ent.toT ?_⟩; simp (disch := omega) only [wkT_cons, wkX_cons, wkT_nil, wkX_nil, get, Nat.reduceEqDiff, ↓reduceIte, ex_some, wk_self, wk_top, wk_nil, wkB_self, and_self, dI, i64_in, and_true, true_and, Int.natCast_add, Int.natCast_one, Int.ofNat_zero, Int.natCast_zero]
        · simp (disch := omega) only [go_sem, simprocAttr, bm_box, bm_row, bk_box, bk_row, Option.getD_some]
          rw [hrun, h2]
          exact retS_hid (own := [_]) (.inl rfl) (hH _) rfl
    · have hd2 : decide ((k : Int) < p.webs + 1) = false := decide_eq_false (by omega)
      have hre := restX_end (p := p) l r ws (k := k) (by omega)
      rw [hre] at hrun
      simp only [runB] at hrun
      repeat' (first
    | (with_reducible first | refine DW.seq ?_ | refine DW.block ?_ | refine DW.skip ?_ | refine DW.exit ?_ | refine DW.ret ?_ | refine DW.reg ?_)
    | (refine DW.ord rfl (WF.of (by first | rfl | simp (disch := omega) only [go_sem, simprocAttr, bm_box, bm_row, bk_box, bk_row, hd2])) ?_ ?_ ?_; rotate_left)
    | rfl
    | (with_reducible refine And.intro ?_ ?_)
    | (simp (disch := omega) only [go_sem, simprocAttr, bm_box, bm_row, bk_box, bk_row, hd2])
    | (exact retS_of rfl rfl rfl)
    | (refine DW.cond_tt rfl ?_)
    | (refine DW.cond_ff rfl ?_)
    | (refine DW.cond rfl ?_ ?_ <;> intro hc <;> (try simp only [go_sem] at hc))
    | (refine g_split ?_ ?_ <;> intro hc <;> (try simp only [hc]) <;> (try simp only [go_sem] at hc)))
      rw [hrun]
      exact retS_hid (own := [_]) (.inr rfl) (hH _) rfl
end Go.Dw.Seat
end
section
set_option linter.unusedSimpArgs false
set_option maxRecDepth 100000
namespace Go.Dw.Seat
open Go Go.Dw Go.Proofs Go.IntWalk
def eWs (w : List Int) : List C := [.sl false 1 (rows eI w)]
theorem eWs_nb (w : List Int) : C.nbs (eWs w) = true := by
  simp only [eWs, C.nbs, C.nb, rows_nb eI_nb, Bool.and_self, Bool.not_false]
attribute [go_sem] eWs
abbrev dWs (b : Bool) (P : List (List Int)) : D := .c (.sl b 1 (rows eWs P))
theorem rowC_snocW (l : List (List Int)) (x : List Int) : rowC (rows eWs l) ++ [[D.c (.sl false 1 (rows eI x))]] = rowC (rows eWs (l ++ [x])) := by simp [rowC, rows, eWs]
theorem flat_len {α β : Type} (f : α → List β) (m : Nat) : ∀ (L : List α), (∀ d ∈ L, (f d).length ≤ m) → (L.flatMap f).length ≤ L.length * m
  | [], _ => by simp
  | d :: L, h => by
    have h1 := h d (by simp)
    have h2 := flat_len f m L (fun x hx => h x (by simp [hx]))
    rw [List.flatMap_cons, List.length_append, List.length_cons, Nat.succ_mul]; omega
theorem patsX_len (p : TPap) (hp : p.ok) (l : List TOrd) : ∀ (r : Nat) (ws : List Int), (patsX p l r ws).length ≤ 5 ^ r
  | 0, ws => by rw [patsX]; split <;> simp
  | r + 1, ws => by
    have hw := hp.webs
    have h1 := flat_len (fun (d : Nat) => patsX p l r (ws ++ [(d : Int)])) (5 ^ r) (List.range (p.webs.toNat + 1)) (fun d _ => patsX_len p hp l r _)
    rw [List.length_range] at h1
    have h2 : (p.webs.toNat + 1) * 5 ^ r ≤ 5 * 5 ^ r := Nat.mul_le_mul_right _ (by omega)
    rw [patsX, Nat.pow_succ, Nat.mul_comm]
    omega
theorem patsX_len4 (p : TPap) (hp : p.ok) (l : List TOrd) (hl : l.length ≤ 4) : (patsX p l l.length []).length ≤ 625 := Nat.le_trans (patsX_len p hp l _ _) (Nat.pow_le_pow_right (n := 5) (by decide) hl)
def apWS (a : List (List Int)) (e : List Int) : Option Exit × List (List Int) := (none, a ++ [e])
theorem apW_run : ∀ (L : List (List Int)) (a : List (List Int)), runIt apWS a L = (none, a ++ L)
  | [], a => by simp [runIt]
  | e :: L, a => by
    simp only [runIt, apWS, apW_run L]
    simp
set_option maxHeartbeats 1000000 in
theorem trAppSeq (p : TPap) (hp : p.ok) (l : List TOrd) (hl : l.length ≤ 4) (ho : ∀ o ∈ l, o.ok) : DCall Try.prog 109 [.c (.v (.slice none 0 0)), .c (.fn (.func 110) [] [.ro false [.sl false 1 (rows eI [])] 0, .ro false (macC p l) 0])] [] (dWs false (patsX p l l.length [])) [] := by
  have hit := trPats1 p hp l hl ho l.length [] (by simp) (by simp)
  have hbl := patsX_len4 p hp l hl
  refine DCall.of Try.func109 sf109 hb109 (Nat.le_of_ble_eq_true rfl) (okRes_nil fun _ => rfl) ?_; simp only [s109, idxs, Nat.reduceAdd]
  repeat' (first
    | (with_reducible first | refine DW.seq ?_ | refine DW.block ?_ | refine DW.skip ?_ | refine DW.exit ?_ | refine DW.ret ?_ | refine DW.reg ?_)
    | (simp (disch := omega) only [go_sem, simprocAttr, bm_box, bm_row, bk_box, bk_row])
    | (exact retS_of rfl rfl rfl)
    | (refine DW.cond_tt rfl ?_)
    | (refine DW.cond_ff rfl ?_)
    | (refine DW.cond rfl ?_ ?_ <;> intro hc <;> (try simp only [go_sem] at hc))
    | (refine g_split ?_ ?_ <;> intro hc <;> (try simp only [hc]) <;> (try simp only [go_sem] at hc)))
  (refine DW.ent (Ent.adoptB 2 0 11 1 rfl rfl rfl rfl) ?_; simp only [ins, Nat.reduceLT, Nat.reduceEqDiff, ↓reduceIte, List.set_cons_zero, List.set_cons_succ])
  refine DW.rngBS (fs := []) (caps := [.c (.ro false [.sl false 1 (rows eI [])] 0), .c (.ro false (macC p l) 0)]) (fun y : List (List Int) => [(11, .row 1 (rowC (rows eWs y))), (2, .box [.own 11])]) [] apWS enW (Ws4 l) (patsX p l l.length []) hit (fun t y => y.length + t.length ≤ 625) (by simpa using hbl) (fun a e t ha he _ => by simp only [apWS, List.length_append, List.length_cons, List.length_nil] at ha ⊢; omega) rfl (fun _ => ⟨rfl, rfl⟩) rfl (by decide) (fun _ _ => rfl) (fun _ _ _ => rfl) (by simp only [List.map_cons, List.map_nil]; decide) (fun _ => rfl) (fun _ => wf_row rfl rfl) (fun _ => nb_row eWs_nb _ rfl) (by simp only [List.all_cons, List.all_nil, Blk.nb, rowC_nb, D.nb, D.nbs, C.nb, C.nbs, C.nbss, rows_nb eI_nb, Bool.and_true, Bool.not_false, Bool.and_self, bD, dI, iD, rows_nb eO_nb, rows_nb eWs_nb]) (fun _ _ => rfl) ?_ ?_
  · rintro y e t hy he v
    have hy : y.length ≤ 625 := by omega
    simp (disch := omega) only [go_sem, simprocAttr, bm_box, bm_row, bk_box, bk_row, List.map_cons, List.map_nil, apWS]
    repeat' (first
    | (with_reducible first | refine DW.seq ?_ | refine DW.block ?_ | refine DW.skip ?_ | refine DW.exit ?_ | refine DW.ret ?_ | refine DW.reg ?_)
    | (simp (disch := omega) only [go_sem, simprocAttr, bm_box, bm_row, bk_box, bk_row, List.map_cons, List.map_nil])
    | (exact retS_of rfl rfl rfl)
    | (refine DW.cond_tt rfl ?_)
    | (refine DW.cond_ff rfl ?_)
    | (refine DW.cond rfl ?_ ?_ <;> intro hc <;> (try simp only [go_sem] at hc))
    | (refine g_split ?_ ?_ <;> intro hc <;> (try simp only [hc]) <;> (try simp only [go_sem] at hc)))
    refine round_end rfl rfl (Ent.to ?_ ?_) <;> simp (disch := omega) only [wkT_cons, wkX_cons, wkT_nil, wkX_nil, get, Nat.reduceEqDiff, ↓reduceIte, ex_some, wk_self, wk_top, wk_nil, wkB_self, and_self, dI, i64_in, and_true, true_and, Int.natCast_add, Int.natCast_one, Int.ofNat_zero, Int.natCast_zero, capB, List.cons_append, List.nil_append, rowC_snocW]
  · rw [apW_run]
    repeat' (first
    | (with_reducible first | refine DW.seq ?_ | refine DW.block ?_ | refine DW.skip ?_ | refine DW.exit ?_ | refine DW.ret ?_ | refine DW.reg ?_)
    | (simp (disch := omega) only [go_sem, simprocAttr, bm_box, bm_row, bk_box, bk_row])
    | (exact retS_of rfl rfl rfl)
    | (refine DW.cond_tt rfl ?_)
    | (refine DW.cond_ff rfl ?_)
    | (refine DW.cond rfl ?_ ?_ <;> intro hc <;> (try simp only [go_sem] at hc))
    | (refine g_split ?_ ?_ <;> intro hc <;> (try simp only [hc]) <;> (try simp only [go_sem] at hc)))
    (refine retS_ent (Ent.rel 11 rfl) ?_; simp (disch := omega) only [go_sem, simprocAttr, bm_box, bm_row, bk_box, bk_row])
    refine retS_wk rfl ?_ (by simp only [Blk.nb, rowC_nb, D.nb, D.nbs, C.nb, C.nbs, C.nbss, rows_nb eI_nb, Bool.and_true, Bool.not_false, Bool.and_self, bD, dI, iD, rows_nb eO_nb, rows_nb eWs_nb]); exact .refl _
theorem trCollect (p : TPap) (hp : p.ok) (l : List TOrd) (hl : l.length ≤ 4) (ho : ∀ o ∈ l, o.ok) : DCall Try.prog 99 [.c (.fn (.func 110) [] [.ro false [.sl false 1 (rows eI [])] 0, .ro false (macC p l) 0])] [] (dWs false (patsX p l l.length [])) [] := by
  have h1 := trAppSeq p hp l hl ho
  refine DCall.of Try.func99 sf99 hb99 (Nat.le_of_ble_eq_true rfl) (okRes_nil fun _ => rfl) ?_; simp only [s99, idxs, Nat.reduceAdd]
  repeat' (first
    | (with_reducible first | refine DW.seq ?_ | refine DW.block ?_ | refine DW.skip ?_ | refine DW.exit ?_ | refine DW.ret ?_ | refine DW.reg ?_)
    | (simp (disch := omega) only [go_sem, simprocAttr, bm_box, bm_row, bk_box, bk_row])
    | (exact retS_of rfl rfl rfl)
    | (refine DW.cond_tt rfl ?_)
    | (refine call_c (h1) (by decide) ?_)
    | (refine DW.cond_ff rfl ?_)
    | (refine DW.cond rfl ?_ ?_ <;> intro hc <;> (try simp only [go_sem] at hc))
    | (refine g_split ?_ ?_ <;> intro hc <;> (try simp only [hc]) <;> (try simp only [go_sem] at hc)))
  refine retS_wk rfl ?_ (by simp only [Blk.nb, rowC_nb, D.nb, D.nbs, C.nb, C.nbs, C.nbss, rows_nb eI_nb, Bool.and_true, Bool.not_false, Bool.and_self, bD, dI, iD, rows_nb eO_nb, rows_nb eWs_nb]); exact .refl _
theorem trAll (p : TPap) (hp : p.ok) (l : List TOrd) (hl : l.length ≤ 4) (ho : ∀ o ∈ l, o.ok) : DCall Try.prog 81 [macD false p l] [] (dWs false (patsX p l l.length [])) [] := by
  have h1 := DCall.weakA (l := [macD false p l, .c (.v (.slice none 0 0))]) (trPatterns p l []) (.cons (.inl rfl) (.cons (.inr ⟨_, _, rfl, rfl, .nil _ _⟩) .nil))
  have h2 := trCollect p hp l hl ho
  refine DCall.of Try.func81 sf81 hb81 (Nat.le_of_ble_eq_true rfl) (okRes_nil fun _ => rfl) ?_; simp only [s81, idxs, Nat.reduceAdd]
  repeat' (first
    | (with_reducible first | refine DW.seq ?_ | refine DW.block ?_ | refine DW.skip ?_ | refine DW.exit ?_ | refine DW.ret ?_ | refine DW.reg ?_)
    | (simp (disch := omega) only [go_sem, simprocAttr, bm_box, bm_row, bk_box, bk_row])
    | (exact retS_of rfl rfl rfl)
    | (refine DW.cond_tt rfl ?_)
    | (refine call_c (h1) (by decide) ?_)
    | (refine call_c (h2) (by decide) ?_)
    | (refine DW.cond_ff rfl ?_)
    | (refine DW.cond rfl ?_ ?_ <;> intro hc <;> (try simp only [go_sem] at hc))
    | (refine g_split ?_ ?_ <;> intro hc <;> (try simp only [hc]) <;> (try simp only [go_sem] at hc)))
  refine retS_wk rfl ?_ (by simp only [Blk.nb, rowC_nb, D.nb, D.nbs, C.nb, C.nbs, C.nbss, rows_nb eI_nb, Bool.and_true, Bool.not_false, Bool.and_self, bD, dI, iD, rows_nb eO_nb, rows_nb eWs_nb]); exact .refl _
def patsD (p : TPap) (l : List TOrd) : D := if openE p l = 0 then dWs false (patsX p l l.length []) else .c (.v (.slice none 0 0))
theorem trPatternsX (p : TPap) (l : List TOrd) (hl : l.length ≤ 2 ^ 36) : DCall Try.prog 46 [papD p, .c (.sl false 3 (rows eO l))] [] (.tup [patsD p l, dI (openE p l)]) [] := by
  by_cases h : openE p l = 0
  · obtain ⟨hp, hl4, ho⟩ := openE_ok h
    have h1 := trOpen p l h
    have h2 := trAll p hp l hl4 ho
    rw [patsD, if_pos h, h]
    refine DCall.of Try.func46 sf46 hb46 (Nat.le_of_ble_eq_true rfl) (okRes_nil fun _ => rfl) ?_; simp only [s46, idxs, Nat.reduceAdd]
    repeat' (first
    | (with_reducible first | refine DW.seq ?_ | refine DW.block ?_ | refine DW.skip ?_ | refine DW.exit ?_ | refine DW.ret ?_ | refine DW.reg ?_)
    | (simp (disch := omega) only [go_sem, simprocAttr, bm_box, bm_row, bk_box, bk_row])
    | (exact retS_of rfl rfl rfl)
    | (refine DW.cond_tt rfl ?_)
    | (refine call_c (h1) (by decide) ?_)
    | (refine call_c (h2) (by decide) ?_)
    | (refine DW.cond_ff rfl ?_)
    | (refine DW.cond rfl ?_ ?_ <;> intro hc <;> (try simp only [go_sem] at hc))
    | (refine g_split ?_ ?_ <;> intro hc <;> (try simp only [hc]) <;> (try simp only [go_sem] at hc)))
    refine retS_wk rfl ?_ (by simp only [Blk.nb, rowC_nb, D.nb, D.nbs, C.nb, C.nbs, C.nbss, rows_nb eI_nb, Bool.and_true, Bool.not_false, Bool.and_self, bD, dI, iD, rows_nb eO_nb, rows_nb eWs_nb]); exact .refl _
  · have h1 := trOpenE false p l hl h
    rw [patsD, if_neg h]
    generalize openE p l = e at *
    have hd : (e != 0) = true := by simpa using h
    refine DCall.of Try.func46 sf46 hb46 (Nat.le_of_ble_eq_true rfl) (okRes_nil fun _ => rfl) ?_; simp only [s46, idxs, Nat.reduceAdd]
    repeat' (first
    | (with_reducible first | refine DW.seq ?_ | refine DW.block ?_ | refine DW.skip ?_ | refine DW.exit ?_ | refine DW.ret ?_ | refine DW.reg ?_)
    | (simp (disch := omega) only [go_sem, simprocAttr, bm_box, bm_row, bk_box, bk_row, hd])
    | (exact retS_of rfl rfl rfl)
    | (refine DW.cond_tt rfl ?_)
    | (refine call_c (h1) (by decide) ?_)
    | (refine DW.cond_ff rfl ?_)
    | (refine DW.cond rfl ?_ ?_ <;> intro hc <;> (try simp only [go_sem] at hc))
    | (refine g_split ?_ ?_ <;> intro hc <;> (try simp only [hc]) <;> (try simp only [go_sem] at hc)))
end Go.Dw.Seat
end
section
set_option linter.unusedSimpArgs false
set_option maxRecDepth 100000
namespace Go.Dw.Seat
open Go Go.Dw Go.IntWalk
structure Srch where
  best : List TStp
  waste : Int
  found : Bool
def max2 (a b : Int) : Int := if b > a then b else a
def min2 (a b : Int) : Int := if b < a then b else a
def roomF (one : Bool) : List TOrd → List Int → List Int → Int → Int → Int × Int
  | o :: l, g :: got, n :: ws, lo, hi =>
    if 0 < n then roomF one l got ws (if one then max2 lo ((o.lo - g + n - 1).tdiv n) else lo) (min2 hi ((o.hi - g).tdiv n))
    else if one && decide (g < o.lo) then (1, 0) else roomF one l got ws lo hi
  | _, _, _, lo, hi => (lo, hi)
def leafF (l : List TOrd) (plan : List TStp) (waste : Int) (got : List Int) (S : Srch) : Srch := if doesB l got && (!S.found || decide (waste < S.waste)) then ⟨plan, waste, true⟩ else S
def runF (rec : List TStp → Int → List Int → Srch → Srch) (p : TPap) (l : List TOrd) (ws : List Int) (plan : List TStp) (waste : Int) (got : List Int) : Nat → Int → Srch → Srch
  | 0, _, S => S
  | k + 1, r, S => runF rec p l ws plan waste got k (r + 1) (rec (plan ++ [⟨ws, r⟩]) (waste + trimI p l ws * r) (addG got ws r) S)
def cntF (one : Bool) (R : Int × Int) : Nat := if one then (if R.1 ≤ R.2 then 1 else 0) else (R.2 - R.1 + 1).toNat
def loopF (rec : List (List Int) → List TStp → Int → List Int → Srch → Srch) (one : Bool) (p : TPap) (l : List TOrd) (plan : List TStp) (waste : Int) (got : List Int) : List (List Int) → Srch → Srch
  | [], S => S
  | ws :: T, S => loopF rec one p l plan waste got T (runF (rec T) p l ws plan waste got (cntF one (roomF one l got ws 1 30)) (roomF one l got ws 1 30).1 S)
def tryF (p : TPap) (l : List TOrd) : Nat → List (List Int) → List TStp → Int → List Int → Srch → Srch
  | 0, _, plan, waste, got, S => leafF l plan waste got S
  | m + 1, T, plan, waste, got, S => if S.found && decide (S.waste ≤ waste) then S else loopF (tryF p l m) (decide (m = 0)) p l plan waste got T S
def Ext : List (List Int) → Nat → List TStp → Prop
  | [], m, q => m = 0 ∧ q = []
  | ws :: T, m, q => match m with
    | 0 => q = []
    | m + 1 => (∃ r q', q = ⟨ws, r⟩ :: q' ∧ (1 ≤ r ∧ r ≤ 30) ∧ Ext T m q') ∨ Ext T (m + 1) q
theorem ext_zero {T : List (List Int)} {q : List TStp} : Ext T 0 q ↔ q = [] := by
  cases T with
  | nil => simp [Ext]
  | cons ws T => rfl
theorem ext_mem : ∀ {T : List (List Int)} {m : Nat} {q : List TStp}, Ext T m q → q.length = m ∧ ∀ s ∈ q, s.ws ∈ T ∧ 1 ≤ s.run ∧ s.run ≤ 30
  | [], m, q, h => by obtain ⟨rfl, rfl⟩ := h; exact ⟨rfl, fun s hs => by cases hs⟩
  | ws :: T, 0, q, h => by
    have : q = [] := h
    subst this; exact ⟨rfl, fun s hs => by cases hs⟩
  | ws :: T, m + 1, q, h => by
    rcases h with ⟨r, q', rfl, hr, h⟩ | h
    · obtain ⟨h1, h2⟩ := ext_mem h
      refine ⟨by rw [List.length_cons, h1], fun s hs => ?_⟩
      rcases List.mem_cons.1 hs with rfl | hs
      · exact ⟨by simp, hr.1, hr.2⟩
      · have := h2 s hs
        exact ⟨List.mem_cons_of_mem _ this.1, this.2⟩
    · obtain ⟨h1, h2⟩ := ext_mem h
      exact ⟨h1, fun s hs => ⟨List.mem_cons_of_mem _ (h2 s hs).1, (h2 s hs).2⟩⟩
def doesP (l : List TOrd) (q : List TStp) : Bool := doesB l (gotF (zeros l.length) q)
def bef (p : TPap) (l : List TOrd) (q b : List TStp) : Prop := wasteF p l q < wasteF p l b ∨ (wasteF p l q = wasteF p l b ∧ ltP q b = true)
theorem bef_irr (p : TPap) (l : List TOrd) (q : List TStp) : ¬ bef p l q q := by
  rintro (h | ⟨_, h⟩)
  · omega
  · have := ltP_asym h; rw [h] at this; cases this
theorem bef_trans {p : TPap} {l : List TOrd} {a b c : List TStp} (h1 : bef p l a b) (h2 : bef p l b c) : bef p l a c := by
  rcases h1 with h1 | ⟨h1, h3⟩ <;> rcases h2 with h2 | ⟨h2, h4⟩
  · exact .inl (by omega)
  · exact .inl (by omega)
  · exact .inl (by omega)
  · exact .inr ⟨by omega, ltP_trans h3 h4⟩
structure Good (p : TPap) (l : List TOrd) (S : Srch) (A : List TStp → Prop) : Prop where
  none : S.found = false → ∀ q, A q → doesP l q = false
  some : S.found = true → A S.best ∧ doesP l S.best = true ∧ S.waste = wasteF p l S.best ∧ ∀ q, A q → doesP l q = true → ¬ bef p l q S.best
theorem Good.add {p : TPap} {l : List TOrd} {S : Srch} {A B : List TStp → Prop} (h : Good p l S A) (hB : ∀ q, B q → doesP l q = true → S.found = true ∧ ¬ bef p l q S.best) : Good p l S (fun q => A q ∨ B q) := by
  refine ⟨fun hf q hq => ?_, fun hf => ?_⟩
  · rcases hq with hq | hq
    · exact h.none hf q hq
    · cases hd : doesP l q with
      | false => rfl
      | true => have := (hB q hq hd).1; rw [hf] at this; cases this
  · obtain ⟨h1, h2, h3, h4⟩ := h.some hf
    refine ⟨.inl h1, h2, h3, fun q hq hd => ?_⟩
    rcases hq with hq | hq
    · exact h4 q hq hd
    · exact (hB q hq hd).2
theorem Good.iff {p : TPap} {l : List TOrd} {S : Srch} {A B : List TStp → Prop} (h : Good p l S A) (hB : ∀ q, B q ↔ A q) : Good p l S B := by
  have : B = A := funext fun q => propext (hB q)
  rw [this]; exact h
theorem leaf_good {p : TPap} {l : List TOrd} {S : Srch} {A : List TStp → Prop} {plan : List TStp} (h : Good p l S A) (hA : ∀ a, A a → ltP a plan = true) : Good p l (leafF l plan (wasteF p l plan) (gotF (zeros l.length) plan) S) (fun q => A q ∨ q = plan) := by
  unfold leafF
  cases hd : doesB l (gotF (zeros l.length) plan) with
  | false =>
    rw [Bool.false_and, if_neg (by decide)]
    refine h.add fun q hq hd2 => ?_
    subst hq
    rw [doesP, hd] at hd2; cases hd2
  | true =>
    rw [Bool.true_and]
    cases hf : S.found with
    | false =>
      rw [Bool.not_false, Bool.true_or, if_pos rfl]
      refine ⟨fun hc => (by cases hc), fun _ => ⟨.inr rfl, hd, rfl, fun q hq hd2 => ?_⟩⟩
      rcases hq with hq | rfl
      · rw [h.none hf q hq] at hd2; cases hd2
      · exact bef_irr p l q
    | true =>
      obtain ⟨h1, h2, h3, h4⟩ := h.some hf
      rw [Bool.not_true, Bool.false_or]
      by_cases hw : wasteF p l plan < S.waste
      · rw [decide_eq_true hw, if_pos rfl]
        refine ⟨fun hc => (by cases hc), fun _ => ⟨.inr rfl, hd, rfl, fun q hq hd2 hb => ?_⟩⟩
        rcases hq with hq | rfl
        · have := h4 q hq hd2
          refine this (.inl ?_)
          rcases hb with hb | ⟨hb, _⟩ <;> dsimp only at hb <;> omega
        · exact bef_irr p l q hb
      · rw [decide_eq_false hw, if_neg (by decide)]
        refine h.add fun q hq hd2 => ⟨hf, fun hb => ?_⟩
        subst hq
        rcases hb with hb | ⟨_, hb⟩
        · omega
        · have := ltP_asym (hA _ h1)
          rw [hb] at this; cases this
theorem addG_cons (g : Int) (got : List Int) (n : Int) (ws : List Int) (r : Int) : addG (g :: got) (n :: ws) r = (g + n * r) :: addG got ws r := rfl
theorem le_tdiv {a n r : Int} (hn : 0 < n) (ha : 0 ≤ a) : r ≤ a.tdiv n ↔ n * r ≤ a := by
  rw [Int.tdiv_eq_ediv_of_nonneg ha, Int.le_ediv_iff_mul_le hn, Int.mul_comm]
theorem ceil_le {a n r : Int} (hn : 0 < n) (hr : 1 ≤ r) : (a + n - 1).tdiv n ≤ r ↔ a ≤ n * r := by
  have hnr : n ≤ n * r := by
    have := Int.mul_le_mul_of_nonneg_left hr (Int.le_of_lt hn)
    rwa [Int.mul_one] at this
  by_cases h : 0 ≤ a + n - 1
  · rw [Int.tdiv_eq_ediv_of_nonneg h]
    have := Int.ediv_lt_iff_lt_mul (a := a + n - 1) (b := r + 1) hn
    rw [Int.add_mul, Int.one_mul, Int.mul_comm] at this
    omega
  · have h2 : (a + n - 1).tdiv n ≤ 0 := by
      have e : a + n - 1 = -(-(a + n - 1)) := by omega
      rw [e, Int.neg_tdiv, Int.tdiv_eq_ediv_of_nonneg (by omega)]
      have := Int.ediv_nonneg (a := -(a + n - 1)) (b := n) (by omega) (by omega)
      omega
    constructor <;> intro _ <;> omega
theorem room_one : ∀ (l : List TOrd) (got ws : List Int) (lo hi r : Int), got.length = l.length → ws.length = l.length → (∀ n ∈ ws, 0 ≤ n) → leH l got = true → 1 ≤ lo → 1 ≤ r →
    ((roomF true l got ws lo hi).1 ≤ r ∧ r ≤ (roomF true l got ws lo hi).2 ↔ (lo ≤ r ∧ r ≤ hi) ∧ doesB l (addG got ws r) = true)
  | [], got, ws, lo, hi, r, h1, h2, _, _, _, _ => by
    obtain rfl := List.eq_nil_of_length_eq_zero h1
    obtain rfl := List.eq_nil_of_length_eq_zero h2
    simp [roomF, addG, doesB]
  | o :: l, [], _, _, _, _, h1, _, _, _, _, _ => by cases h1
  | o :: l, _ :: _, [], _, _, _, _, h2, _, _, _, _ => by cases h2
  | o :: l, g :: got, n :: ws, lo, hi, r, h1, h2, hn, hg, hlo, hr => by
    simp only [leH, Bool.and_eq_true, decide_eq_true_eq] at hg
    have hn0 := hn n (by simp)
    have ih := fun lo' hi' h => room_one l got ws lo' hi' r (by simpa using h1) (by simpa using h2) (fun m hm => hn m (by simp [hm])) hg.2 h hr
    rw [addG_cons]
    simp only [roomF, doesB, Bool.and_eq_true, decide_eq_true_eq, Bool.true_and, if_true]
    by_cases hnp : 0 < n
    · rw [if_pos hnp]
      have hm : 1 ≤ max2 lo ((o.lo - g + n - 1).tdiv n) := by unfold max2; split <;> omega
      rw [ih _ _ hm]
      have c1 := ceil_le (a := o.lo - g) hnp hr
      have c2 := le_tdiv (a := o.hi - g) (r := r) hnp (by omega)
      generalize (o.lo - g + n - 1).tdiv n = A at *
      generalize (o.hi - g).tdiv n = B at *
      generalize n * r = C at *
      have m1 : max2 lo A ≤ r ↔ lo ≤ r ∧ A ≤ r := by unfold max2; split <;> omega
      have m2 : r ≤ min2 hi B ↔ r ≤ hi ∧ r ≤ B := by unfold min2; split <;> omega
      rw [m1, m2, c1, c2]
      constructor
      · rintro ⟨⟨⟨a, b⟩, c, d⟩, e⟩; exact ⟨⟨a, c⟩, ⟨by omega, by omega⟩, e⟩
      · rintro ⟨⟨a, c⟩, ⟨b, d⟩, e⟩; exact ⟨⟨⟨a, by omega⟩, c, by omega⟩, e⟩
    · rw [if_neg hnp]
      obtain rfl : n = 0 := by omega
      rw [Int.zero_mul, Int.add_zero]
      by_cases hgl : g < o.lo
      · rw [if_pos hgl]
        constructor
        · rintro ⟨a, b⟩; dsimp only at a b; omega
        · rintro ⟨_, ⟨a, _⟩, _⟩; omega
      · rw [if_neg hgl, ih _ _ hlo]
        constructor
        · rintro ⟨a, b⟩; exact ⟨a, ⟨by omega, hg.1⟩, b⟩
        · rintro ⟨a, _, b⟩; exact ⟨a, b⟩
theorem room_more : ∀ (l : List TOrd) (got ws : List Int) (lo hi r : Int), got.length = l.length → ws.length = l.length → (∀ n ∈ ws, 0 ≤ n) → leH l got = true →
    (roomF false l got ws lo hi).1 = lo ∧ (r ≤ (roomF false l got ws lo hi).2 ↔ r ≤ hi ∧ leH l (addG got ws r) = true)
  | [], got, ws, lo, hi, r, h1, h2, _, _ => by
    obtain rfl := List.eq_nil_of_length_eq_zero h1
    obtain rfl := List.eq_nil_of_length_eq_zero h2
    simp [roomF, addG, leH]
  | o :: l, [], _, _, _, _, h1, _, _, _ => by cases h1
  | o :: l, _ :: _, [], _, _, _, _, h2, _, _ => by cases h2
  | o :: l, g :: got, n :: ws, lo, hi, r, h1, h2, hn, hg => by
    simp only [leH, Bool.and_eq_true, decide_eq_true_eq] at hg
    have hn0 := hn n (by simp)
    have ih := fun lo' hi' => room_more l got ws lo' hi' r (by simpa using h1) (by simpa using h2) (fun m hm => hn m (by simp [hm])) hg.2
    rw [addG_cons]
    simp only [roomF, leH, Bool.and_eq_true, decide_eq_true_eq, Bool.false_and, Bool.false_eq_true, if_false]
    by_cases hnp : 0 < n
    · rw [if_pos hnp]
      obtain ⟨i1, i2⟩ := ih lo (min2 hi ((o.hi - g).tdiv n))
      refine ⟨i1, ?_⟩
      rw [i2]
      have c2 := le_tdiv (a := o.hi - g) (r := r) hnp (by omega)
      generalize (o.hi - g).tdiv n = B at *
      generalize n * r = C at *
      have m2 : r ≤ min2 hi B ↔ r ≤ hi ∧ r ≤ B := by unfold min2; split <;> omega
      rw [m2, c2]
      constructor
      · rintro ⟨⟨c, d⟩, e⟩; exact ⟨c, by omega, e⟩
      · rintro ⟨c, d, e⟩; exact ⟨⟨c, by omega⟩, e⟩
    · rw [if_neg hnp]
      obtain rfl : n = 0 := by omega
      obtain ⟨i1, i2⟩ := ih lo hi
      refine ⟨i1, ?_⟩
      rw [i2, Int.zero_mul, Int.add_zero]
      constructor
      · rintro ⟨a, b⟩; exact ⟨a, hg.1, b⟩
      · rintro ⟨a, _, b⟩; exact ⟨a, b⟩
end Go.Dw.Seat
end
section
set_option linter.unusedSimpArgs false
set_option maxRecDepth 100000
namespace Go.Dw.Seat
open Go Go.Dw Go.IntWalk
structure WsOk (p : TPap) (l : List TOrd) (ws : List Int) : Prop where
  len : ws.length = l.length
  nn : ∀ n ∈ ws, 0 ≤ n
  pat : patB p l ws = true
structure PatsOk (p : TPap) (l : List TOrd) (T : List (List Int)) : Prop where
  asc : T.Pairwise fun a b => lexW a b = true
  ok : ∀ ws ∈ T, WsOk p l ws
theorem patB_b {p : TPap} {l : List TOrd} {ws : List Int} (h : patB p l ws = true) : (1 ≤ sumI ws ∧ sumI ws ≤ p.webs) ∧ usedI ws ≤ 2 ∧ p.tl ≤ trimI p l ws ∧ trimI p l ws ≤ p.th := by
  simpa [patB, and_assoc] using h
theorem trim_nn {p : TPap} (hp : p.ok) {l : List TOrd} {ws : List Int} (h : WsOk p l ws) : 0 ≤ trimI p l ws := by
  have := (patB_b h.pat).2.2
  have := hp.trim
  omega
theorem waste_nn {p : TPap} (hp : p.ok) {l : List TOrd} : ∀ {q : List TStp}, (∀ s ∈ q, WsOk p l s.ws ∧ 1 ≤ s.run) → 0 ≤ wasteF p l q
  | [], _ => Int.le_refl _
  | s :: q, h => by
    have h1 := waste_nn hp (q := q) (fun x hx => h x (by simp [hx]))
    obtain ⟨h2, h3⟩ := h s (by simp)
    have := Int.mul_nonneg (trim_nn hp h2) (show 0 ≤ s.run by omega)
    rw [wasteF]; omega
theorem leH_add : ∀ (l : List TOrd) (got ws : List Int) (r : Int), (∀ n ∈ ws, 0 ≤ n) → 0 ≤ r → leH l (addG got ws r) = true → leH l got = true
  | [], _, _, _, _, _, _ => by simp [leH]
  | _ :: _, [], _, _, _, _, _ => by simp [leH]
  | o :: l, g :: got, [], r, _, _, h => by rwa [addG] at h; all_goals simp
  | o :: l, g :: got, n :: ws, r, hn, hr, h => by
    rw [addG_cons] at h
    simp only [leH, Bool.and_eq_true, decide_eq_true_eq] at h ⊢
    have := Int.mul_nonneg (hn n (by simp)) hr
    exact ⟨by omega, leH_add l got ws r (fun m hm => hn m (by simp [hm])) hr h.2⟩
theorem leH_back {l : List TOrd} : ∀ {q : List TStp} {got : List Int}, (∀ s ∈ q, (∀ n ∈ s.ws, 0 ≤ n) ∧ 1 ≤ s.run) → leH l (gotF got q) = true → leH l got = true
  | [], _, _, h => h
  | s :: q, got, hq, h => by
    have h1 := leH_back (q := q) (got := addG got s.ws s.run) (fun x hx => hq x (by simp [hx])) h
    exact leH_add l got s.ws s.run (hq s (by simp)).1 (by have := (hq s (by simp)).2; omega) h1
theorem does_leH : ∀ {l : List TOrd} {got : List Int}, doesB l got = true → leH l got = true
  | [], _, _ => by simp [leH]
  | _ :: _, [], _ => by simp [leH]
  | o :: l, g :: got, h => by
    simp only [doesB, Bool.and_eq_true, decide_eq_true_eq] at h
    simp only [leH, Bool.and_eq_true, decide_eq_true_eq]
    exact ⟨h.1.2, does_leH h.2⟩
theorem gotF_len : ∀ (q : List TStp) (got : List Int), (gotF got q).length = got.length
  | [], _ => rfl
  | s :: q, got => by rw [gotF, gotF_len q, addG_len]
theorem room_lo : ∀ (l : List TOrd) (got ws : List Int) (lo hi : Int), 1 ≤ lo → 1 ≤ (roomF true l got ws lo hi).1
  | [], _, _, _, _, h => by simpa [roomF] using h
  | _ :: _, [], _, _, _, h => by simpa [roomF] using h
  | _ :: _, _ :: _, [], _, _, h => by simpa [roomF] using h
  | o :: l, g :: got, n :: ws, lo, hi, h => by
    simp only [roomF, Bool.true_and, if_true, decide_eq_true_eq]
    split
    · exact room_lo l got ws _ _ (by unfold max2; split <;> omega)
    · split
      · exact Int.le_refl _
      · exact room_lo l got ws _ _ h
theorem ext_head {T : List (List Int)} : ∀ {m : Nat} {q : List TStp}, Ext T (m + 1) q → ∃ ws r q', q = ⟨ws, r⟩ :: q' ∧ ws ∈ T := by
  induction T with
  | nil => intro m q h; cases h.1
  | cons ws T ih =>
    intro m q h
    rcases h with ⟨r, q', rfl, _, _⟩ | h
    · exact ⟨ws, r, q', rfl, by simp⟩
    · obtain ⟨ws', r, q', h1, h2⟩ := ih h
      exact ⟨ws', r, q', h1, by simp [h2]⟩
section
variable {p : TPap} {l : List TOrd}
theorem got_snoc (plan : List TStp) (ws : List Int) (r : Int) (got : List Int) : addG (gotF got plan) ws r = gotF got (plan ++ [⟨ws, r⟩]) := by rw [gotF_app]; rfl
theorem waste_snoc (plan : List TStp) (ws : List Int) (r : Int) : wasteF p l plan + trimI p l ws * r = wasteF p l (plan ++ [⟨ws, r⟩]) := by rw [wasteF_app]; simp [wasteF]
theorem runs_good {rec : List TStp → Int → List Int → Srch → Srch} {T : List (List Int)} {m : Nat}
    (hrec : ∀ plan S A, leH l (gotF (zeros l.length) plan) = true → Good p l S A → (∀ a q, A a → Ext T m q → ltP a (plan ++ q) = true) → Good p l (rec plan (wasteF p l plan) (gotF (zeros l.length) plan) S) (fun q => A q ∨ ∃ e, Ext T m e ∧ q = plan ++ e))
    (ws : List Int) (plan : List TStp) : ∀ (k : Nat) (r : Int) (S : Srch) (A : List TStp → Prop), (∀ r', r ≤ r' → r' < r + k → leH l (gotF (zeros l.length) (plan ++ [⟨ws, r'⟩])) = true) → Good p l S A →
      (∀ a r' e, A a → r ≤ r' → r' < r + k → Ext T m e → ltP a (plan ++ ⟨ws, r'⟩ :: e) = true) →
      Good p l (runF rec p l ws plan (wasteF p l plan) (gotF (zeros l.length) plan) k r S) (fun q => A q ∨ ∃ r' e, (r ≤ r' ∧ r' < r + k) ∧ Ext T m e ∧ q = plan ++ ⟨ws, r'⟩ :: e)
  | 0, r, S, A, _, h, _ => h.iff fun q => by
    constructor
    · rintro (hq | ⟨r', e, hr, _⟩)
      · exact hq
      · omega
    · exact .inl
  | k + 1, r, S, A, hle, h, hlt => by
    rw [runF, waste_snoc, got_snoc]
    have h1 := hrec (plan ++ [⟨ws, r⟩]) S A (hle r (Int.le_refl _) (by omega)) h (fun a q ha hq => by
      rw [List.append_assoc]
      exact hlt a r q ha (Int.le_refl _) (by omega) hq)
    have h2 := runs_good hrec ws plan k (r + 1) _ _ (fun r' h1 h2 => hle r' (by omega) (by omega)) h1 (fun a r' e ha hr1 hr2 he => by
      rcases ha with ha | ⟨e0, _, rfl⟩
      · exact hlt a r' e ha (by omega) (by omega) he
      · rw [List.append_assoc, ltP_app]
        show ltP (⟨ws, r⟩ :: e0) (⟨ws, r'⟩ :: e) = true
        simp only [ltP, if_true]
        rw [if_neg (by omega)]
        exact decide_eq_true (by omega))
    refine h2.iff fun q => ?_
    constructor
    · rintro (hq | ⟨r', e, hr, he, rfl⟩)
      · exact .inl (.inl hq)
      · by_cases e1 : r' = r
        · subst e1
          exact .inl (.inr ⟨e, he, by rw [List.append_assoc]; rfl⟩)
        · exact .inr ⟨r', e, ⟨by omega, by omega⟩, he, rfl⟩
    · rintro ((hq | ⟨e, he, rfl⟩) | ⟨r', e, hr, he, rfl⟩)
      · exact .inl hq
      · exact .inr ⟨r, e, ⟨by omega, by omega⟩, he, by rw [List.append_assoc]; rfl⟩
      · exact .inr ⟨r', e, ⟨by omega, by omega⟩, he, rfl⟩
theorem ext_ok {T : List (List Int)} (hT : PatsOk p l T) {m : Nat} {q : List TStp} (h : Ext T m q) : ∀ s ∈ q, WsOk p l s.ws ∧ 1 ≤ s.run := fun s hs =>
  ⟨hT.ok _ ((ext_mem h).2 s hs).1, ((ext_mem h).2 s hs).2.1⟩
theorem not_does {plan e : List TStp} (h : leH l (gotF (zeros l.length) plan) ≠ true) (he : ∀ s ∈ e, WsOk p l s.ws ∧ 1 ≤ s.run) : doesP l (plan ++ e) ≠ true := fun hd => by
  unfold doesP at hd
  rw [gotF_app] at hd
  exact h (leH_back (fun s hs => ⟨(he s hs).1.nn, (he s hs).2⟩) (does_leH hd))
theorem loop_good (hp : p.ok) {m : Nat} {rec : List (List Int) → List TStp → Int → List Int → Srch → Srch}
    (hrec : ∀ T, PatsOk p l T → ∀ plan S A, leH l (gotF (zeros l.length) plan) = true → Good p l S A → (∀ a q, A a → Ext T m q → ltP a (plan ++ q) = true) → Good p l (rec T plan (wasteF p l plan) (gotF (zeros l.length) plan) S) (fun q => A q ∨ ∃ e, Ext T m e ∧ q = plan ++ e))
    (plan : List TStp) (hle : leH l (gotF (zeros l.length) plan) = true) : ∀ (T : List (List Int)) (S : Srch) (A : List TStp → Prop), PatsOk p l T → Good p l S A → (∀ a q, A a → Ext T (m + 1) q → ltP a (plan ++ q) = true) →
      Good p l (loopF rec (decide (m = 0)) p l plan (wasteF p l plan) (gotF (zeros l.length) plan) T S) (fun q => A q ∨ ∃ e, Ext T (m + 1) e ∧ q = plan ++ e)
  | [], S, A, _, h, _ => h.iff fun q => by
    constructor
    · rintro (hq | ⟨e, he, _⟩)
      · exact hq
      · cases he.1
    · exact .inl
  | ws :: T, S, A, hT, h, hlt => by
    obtain ⟨hs1, hs2⟩ := List.pairwise_cons.1 hT.asc
    have hT' : PatsOk p l T := ⟨hs2, fun w hw => hT.ok w (by simp [hw])⟩
    have hws := hT.ok ws (by simp)
    have hgl : (gotF (zeros l.length) plan).length = l.length := by rw [gotF_len]; simp [zeros]
    have hruns : Good p l (runF (rec T) p l ws plan (wasteF p l plan) (gotF (zeros l.length) plan) (cntF (decide (m = 0)) (roomF (decide (m = 0)) l (gotF (zeros l.length) plan) ws 1 30)) (roomF (decide (m = 0)) l (gotF (zeros l.length) plan) ws 1 30).1 S) (fun q => A q ∨ ∃ r' e, (1 ≤ r' ∧ r' ≤ 30) ∧ Ext T m e ∧ q = plan ++ ⟨ws, r'⟩ :: e) := by
      by_cases hm : m = 0
      · subst hm
        rw [decide_eq_true rfl]
        have hr1 := fun r hr => room_one l (gotF (zeros l.length) plan) ws 1 30 r hgl hws.len hws.nn hle (Int.le_refl _) hr
        have hlo := room_lo l (gotF (zeros l.length) plan) ws 1 30 (Int.le_refl _)
        generalize roomF true l (gotF (zeros l.length) plan) ws 1 30 = R at *
        have hdoes : ∀ r, doesP l (plan ++ [⟨ws, r⟩]) = doesB l (addG (gotF (zeros l.length) plan) ws r) := fun r => by rw [got_snoc]; rfl
        unfold cntF
        rw [if_pos rfl]
        by_cases hR : R.1 ≤ R.2
        · rw [if_pos hR]
          have hdL := ((hr1 R.1 hlo).1 ⟨Int.le_refl _, hR⟩)
          have h1 := runs_good (hrec T hT') ws plan 1 R.1 S A (fun r' a b => by
            obtain rfl : r' = R.1 := by omega
            rw [← got_snoc]
            exact does_leH hdL.2) h (fun a r' e ha hr1' hr2 he => hlt a _ ha (.inl ⟨r', e, rfl, by
              obtain rfl : r' = R.1 := by omega
              exact hdL.1, he⟩))
          have hL : ∃ r' e, (R.1 ≤ r' ∧ r' < R.1 + ((1 : Nat) : Int)) ∧ Ext T 0 e ∧ plan ++ [(⟨ws, R.1⟩ : TStp)] = plan ++ ⟨ws, r'⟩ :: e := ⟨R.1, [], ⟨Int.le_refl _, by omega⟩, ext_zero.2 rfl, rfl⟩
          have h2 := h1.add (B := fun q => ∃ r' e, (1 ≤ r' ∧ r' ≤ 30) ∧ Ext T 0 e ∧ q = plan ++ ⟨ws, r'⟩ :: e) (fun q hq hd => by
            obtain ⟨r', e, hr', he, rfl⟩ := hq
            obtain rfl := ext_zero.1 he
            rw [hdoes] at hd
            have hrr := (hr1 r' hr'.1).2 ⟨hr', hd⟩
            cases hf : (runF (rec T) p l ws plan (wasteF p l plan) (gotF (zeros l.length) plan) 1 R.1 S).found with
            | false =>
              have := h1.none hf _ (.inr hL)
              rw [hdoes, hdL.2] at this; cases this
            | true =>
              refine ⟨rfl, fun hb => ?_⟩
              obtain ⟨_, _, _, h4⟩ := h1.some hf
              have hbL := h4 _ (.inr hL) (by rw [hdoes]; exact hdL.2)
              by_cases e1 : r' = R.1
              · rw [e1] at hb; exact hbL hb
              · refine hbL (bef_trans ?_ hb)
                have ht := trim_nn hp hws
                have hm1 : trimI p l ws * R.1 ≤ trimI p l ws * r' := Int.mul_le_mul_of_nonneg_left hrr.1 ht
                have hlr : ltP (plan ++ [(⟨ws, R.1⟩ : TStp)]) (plan ++ [⟨ws, r'⟩]) = true := by
                  rw [ltP_app]
                  simp only [ltP, if_true]
                  rw [if_neg (by omega)]
                  exact decide_eq_true (by omega)
                rcases Int.lt_or_le (trimI p l ws * R.1) (trimI p l ws * r') with hc | hc
                · exact .inl (by rw [← waste_snoc, ← waste_snoc]; omega)
                · exact .inr ⟨by rw [← waste_snoc, ← waste_snoc]; omega, hlr⟩)
          refine h2.iff fun q => ?_
          constructor
          · rintro (hq | hq)
            · exact .inl (.inl hq)
            · exact .inr hq
          · rintro ((hq | ⟨r', e, hr, he, rfl⟩) | hq)
            · exact .inl hq
            · obtain rfl : r' = R.1 := by omega
              exact .inr ⟨R.1, e, hdL.1, he, rfl⟩
            · exact .inr hq
        · rw [if_neg hR]
          refine h.add fun q hq hd => ?_
          obtain ⟨r', e, hr', he, rfl⟩ := hq
          obtain rfl := ext_zero.1 he
          rw [hdoes] at hd
          have := (hr1 r' hr'.1).2 ⟨hr', hd⟩
          omega
      · rw [decide_eq_false hm]
        have hr1 := fun r => room_more l (gotF (zeros l.length) plan) ws 1 30 r hgl hws.len hws.nn hle
        generalize roomF false l (gotF (zeros l.length) plan) ws 1 30 = R at *
        have e1 : R.1 = 1 := (hr1 0).1
        unfold cntF
        rw [if_neg (by decide), e1]
        have hcnt : ∀ r', 1 ≤ r' → (r' < 1 + ((R.2 - 1 + 1).toNat : Int) ↔ r' ≤ R.2) := fun r' h => by omega
        have h1 := runs_good (hrec T hT') ws plan (R.2 - 1 + 1).toNat 1 S A (fun r' a b => by
          rw [← got_snoc]
          exact ((hr1 r').2.1 ((hcnt r' a).1 b)).2) h (fun a r' e ha hr1' hr2 he => hlt a _ ha (.inl ⟨r', e, rfl, ⟨hr1', ((hr1 r').2.1 ((hcnt r' hr1').1 hr2)).1⟩, he⟩))
        have h2 := h1.add (B := fun q => ∃ r' e, (1 ≤ r' ∧ r' ≤ 30) ∧ ¬ r' ≤ R.2 ∧ Ext T m e ∧ q = plan ++ ⟨ws, r'⟩ :: e) (fun q hq hd => by
          obtain ⟨r', e, hr', hn, he, rfl⟩ := hq
          exfalso
          have h3 : leH l (gotF (zeros l.length) (plan ++ [⟨ws, r'⟩])) ≠ true := fun h4 => hn ((hr1 r').2.2 ⟨hr'.2, by rw [got_snoc]; exact h4⟩)
          have h5 := not_does (p := p) (e := e) h3 (ext_ok hT' he)
          rw [List.append_assoc] at h5
          exact h5 hd)
        refine h2.iff fun q => ?_
        constructor
        · rintro (hq | ⟨r', e, hr, he, rfl⟩)
          · exact .inl (.inl hq)
          · by_cases hle2 : r' ≤ R.2
            · exact .inl (.inr ⟨r', e, ⟨hr.1, (hcnt r' hr.1).2 hle2⟩, he, rfl⟩)
            · exact .inr ⟨r', e, hr, hle2, he, rfl⟩
        · rintro ((hq | ⟨r', e, hr, he, rfl⟩) | ⟨r', e, hr, _, he, rfl⟩)
          · exact .inl hq
          · exact .inr ⟨r', e, ⟨hr.1, ((hr1 r').2.1 ((hcnt r' hr.1).1 hr.2)).1⟩, he, rfl⟩
          · exact .inr ⟨r', e, hr, he, rfl⟩
    rw [loopF]
    have h3 := loop_good hp hrec plan hle T _ _ hT' hruns (fun a q ha hq => by
      rcases ha with ha | ⟨r', e, _, _, rfl⟩
      · exact hlt a q ha (.inr hq)
      · obtain ⟨ws', r2, q', rfl, hmem⟩ := ext_head hq
        have hlx := hs1 ws' hmem
        rw [ltP_app]
        simp only [ltP]
        rw [if_neg (fun e => by rw [e, lexW_irr] at hlx; cases hlx)]
        exact hlx)
    refine h3.iff fun q => ?_
    constructor
    · rintro (hq | ⟨e, he, rfl⟩)
      · exact .inl (.inl hq)
      · rcases he with ⟨r, q', rfl, hr, he⟩ | he
        · exact .inl (.inr ⟨r, q', hr, he, rfl⟩)
        · exact .inr ⟨e, he, rfl⟩
    · rintro ((hq | ⟨r', e, hr, he, rfl⟩) | ⟨e, he, rfl⟩)
      · exact .inl hq
      · exact .inr ⟨_, .inl ⟨r', e, rfl, hr, he⟩, rfl⟩
      · exact .inr ⟨e, .inr he, rfl⟩
theorem try_good (hp : p.ok) : ∀ (m : Nat) (T : List (List Int)), PatsOk p l T → ∀ plan S A, leH l (gotF (zeros l.length) plan) = true → Good p l S A → (∀ a q, A a → Ext T m q → ltP a (plan ++ q) = true) →
    Good p l (tryF p l m T plan (wasteF p l plan) (gotF (zeros l.length) plan) S) (fun q => A q ∨ ∃ e, Ext T m e ∧ q = plan ++ e)
  | 0, T, hT, plan, S, A, hle, h, hlt => by
    rw [tryF]
    refine (leaf_good h (fun a ha => by have := hlt a [] ha (ext_zero.2 rfl); rwa [List.append_nil] at this)).iff fun q => ?_
    constructor
    · rintro (hq | ⟨e, he, rfl⟩)
      · exact .inl hq
      · obtain rfl := ext_zero.1 he
        exact .inr (List.append_nil _)
    · rintro (hq | rfl)
      · exact .inl hq
      · exact .inr ⟨[], ext_zero.2 rfl, (List.append_nil _).symm⟩
  | m + 1, T, hT, plan, S, A, hle, h, hlt => by
    rw [tryF]
    cases hf : S.found && decide (S.waste ≤ wasteF p l plan) with
    | true =>
      rw [if_pos rfl]
      simp only [Bool.and_eq_true, decide_eq_true_eq] at hf
      obtain ⟨h1, h2, h3, h4⟩ := h.some hf.1
      refine h.add fun q hq hd => ⟨hf.1, fun hb => ?_⟩
      obtain ⟨e, he, rfl⟩ := hq
      have hw := waste_nn hp (ext_ok hT he)
      rcases hb with hb | ⟨_, hb⟩
      · rw [wasteF_app] at hb; omega
      · have := ltP_asym (hlt _ e h1 he)
        rw [hb] at this; cases this
    | false =>
      rw [if_neg (by decide)]
      exact loop_good hp (fun T hT => try_good hp m T hT) plan hle T S A hT h hlt
end
end Go.Dw.Seat
end
section
set_option linter.unusedSimpArgs false
set_option maxRecDepth 100000
namespace Go.Dw.Seat
open Go Go.Dw Go.IntWalk
theorem allW_spec : ∀ n, (allW n).Pairwise (fun a b => lexW a b = true) ∧ ∀ ws ∈ allW n, ws.length = n ∧ ∀ x ∈ ws, 0 ≤ x ∧ x ≤ 4
  | 0 => ⟨by simp [allW], fun ws h => by
    simp only [allW, List.mem_singleton] at h
    subst h; exact ⟨rfl, fun x hx => by cases hx⟩⟩
  | n + 1 => by
    obtain ⟨h1, h2⟩ := allW_spec n
    have hmem : ∀ d ws, ws ∈ (allW n).map (d :: ·) → ∃ t, t ∈ allW n ∧ ws = d :: t := fun d ws h => by
      obtain ⟨t, ht, rfl⟩ := List.mem_map.1 h
      exact ⟨t, ht, rfl⟩
    refine ⟨?_, fun ws h => ?_⟩
    · rw [allW, List.pairwise_flatMap]
      refine ⟨fun d _ => ?_, ?_⟩
      · rw [List.pairwise_map]
        exact h1.imp fun {a b} h => by rw [lexW, if_pos rfl]; exact h
      · have key : ∀ d e : Int, d < e → ∀ x ∈ (allW n).map (d :: ·), ∀ y ∈ (allW n).map (e :: ·), lexW x y = true := fun d e hde x hx y hy => by
          obtain ⟨s, _, rfl⟩ := hmem d x hx
          obtain ⟨t, _, rfl⟩ := hmem e y hy
          rw [lexW, if_neg (by omega)]
          exact decide_eq_true hde
        have hp : ([0, 1, 2, 3, 4] : List Int).Pairwise (· < ·) := by decide
        exact hp.imp fun {a b} h => key a b h
    · rw [allW, List.mem_flatMap] at h
      obtain ⟨d, hd, h⟩ := h
      obtain ⟨t, ht, rfl⟩ := hmem d ws h
      obtain ⟨h3, h4⟩ := h2 t ht
      refine ⟨by rw [List.length_cons, h3], fun x hx => ?_⟩
      rcases List.mem_cons.1 hx with rfl | hx
      · simp only [List.mem_cons, List.not_mem_nil, or_false] at hd
        rcases hd with rfl | rfl | rfl | rfl | rfl <;> decide
      · exact h4 x hx
theorem pats_ok (p : TPap) (l : List TOrd) : PatsOk p l (pats p l) := by
  obtain ⟨h1, h2⟩ := allW_spec l.length
  refine ⟨h1.filter _, fun ws h => ?_⟩
  obtain ⟨h3, h4⟩ := List.mem_filter.1 h
  exact ⟨(h2 ws h3).1, fun n hn => ((h2 ws h3).2 n hn).1, h4⟩
def srch (p : TPap) (l : List TOrd) (n : Nat) : Srch := tryF p l n (pats p l) [] 0 (zeros l.length) ⟨[], 0, false⟩
def planF (p : TPap) (l : List TOrd) : Option (List TStp × Int) := (List.range 4).findSome? fun n => if (srch p l n).found then some ((srch p l n).best, (srch p l n).waste) else none
structure PlanOk (p : TPap) (l : List TOrd) (q : List TStp) : Prop where
  len : q.length ≤ 3
  ext : Ext (pats p l) q.length q
  does : doesP l q = true
def Better (p : TPap) (l : List TOrd) (q b : List TStp) : Prop := q.length < b.length ∨ (q.length = b.length ∧ bef p l q b)
theorem zeros_le : ∀ (l : List TOrd), (∀ o ∈ l, o.ok) → leH l (zeros l.length) = true
  | [], _ => by simp [leH]
  | o :: l, h => by
    have := (h o (by simp)).need
    show leH (o :: l) ((0 : Int) :: zeros l.length) = true
    simp only [leH, Bool.and_eq_true, decide_eq_true_eq]
    exact ⟨by omega, zeros_le l fun x hx => h x (by simp [hx])⟩
theorem srch_good {p : TPap} (hp : p.ok) {l : List TOrd} (hl : ∀ o ∈ l, o.ok) (n : Nat) : Good p l (srch p l n) (fun q => Ext (pats p l) n q) := by
  have h := try_good hp n (pats p l) (pats_ok p l) [] ⟨[], 0, false⟩ (fun _ => False) (zeros_le l hl) ⟨fun _ _ h => h.elim, fun h => by cases h⟩ (fun _ _ h => h.elim)
  refine h.iff fun q => ?_
  constructor
  · intro hq; exact .inr ⟨q, hq, rfl⟩
  · rintro (hq | ⟨e, he, rfl⟩)
    · exact hq.elim
    · exact he
theorem plan_spec {p : TPap} (hp : p.ok) {l : List TOrd} (hl : ∀ o ∈ l, o.ok) : match planF p l with
    | none => ∀ q, ¬ PlanOk p l q
    | some (b, w) => PlanOk p l b ∧ w = wasteF p l b ∧ ∀ q, PlanOk p l q → ¬ Better p l q b := by
  have hg := fun n => srch_good hp hl n
  cases hF : planF p l with
  | none =>
    intro q hq
    have h1 := List.findSome?_eq_none_iff.1 hF q.length (List.mem_range.2 (by have := hq.len; omega))
    have h2 := (hg q.length).none (by
      cases hf : (srch p l q.length).found with
      | false => rfl
      | true => rw [hf] at h1; cases h1) q hq.ext
    rw [hq.does] at h2; cases h2
  | some x =>
    obtain ⟨b, w⟩ := x
    have key : ∀ n, (List.range n).findSome? (fun n => if (srch p l n).found then some ((srch p l n).best, (srch p l n).waste) else none) = some (b, w) → ∃ i, i < n ∧ (srch p l i).found = true ∧ (srch p l i).best = b ∧ (srch p l i).waste = w ∧ ∀ j, j < i → (srch p l j).found = false := by
      intro n
      induction n with
      | zero => intro h; cases h
      | succ n ih =>
        intro h
        rw [List.range_succ, List.findSome?_append] at h
        cases hr : (List.range n).findSome? (fun n => if (srch p l n).found then some ((srch p l n).best, (srch p l n).waste) else none) with
        | some y =>
          rw [hr] at h
          cases h
          obtain ⟨i, h1, h2⟩ := ih hr
          exact ⟨i, by omega, h2⟩
        | none =>
          rw [hr] at h
          simp only [Option.none_or, List.findSome?_cons, List.findSome?_nil] at h
          refine ⟨n, by omega, ?_⟩
          cases hf : (srch p l n).found with
          | false => rw [hf] at h; simp at h
          | true =>
            rw [hf] at h
            simp only [if_true, Option.some.injEq, Prod.mk.injEq] at h
            refine ⟨rfl, h.1, h.2, fun j hj => ?_⟩
            have := List.findSome?_eq_none_iff.1 hr j (List.mem_range.2 hj)
            cases hfj : (srch p l j).found with
            | false => rfl
            | true => rw [hfj] at this; cases this
    obtain ⟨i, hi, hf, rfl, rfl, hj⟩ := key 4 hF
    obtain ⟨h1, h2, h3, h4⟩ := (hg i).some hf
    have hlen := (ext_mem h1).1
    refine ⟨⟨by omega, by rw [hlen]; exact h1, h2⟩, h3, fun q hq hb => ?_⟩
    rcases hb with hb | ⟨hb1, hb2⟩
    · have := (hg q.length).none (hj q.length (by omega)) q hq.ext
      rw [hq.does] at this; cases this
    · have hx := hq.ext
      rw [hb1, hlen] at hx
      exact h4 q hx hq.does hb2
theorem plan_ws {p : TPap} {l : List TOrd} {q : List TStp} (h : PlanOk p l q) : ∀ s ∈ q, WsOk p l s.ws ∧ 1 ≤ s.run := ext_ok (pats_ok p l) h.ext
structure Good2 (p : TPap) (l : List TOrd) (b : Option (List TStp)) (A : List TStp → Prop) : Prop where
  none : b = none → ∀ q, A q → doesP l q = false
  some : ∀ x, b = some x → A x ∧ doesP l x = true ∧ ∀ q, A q → doesP l q = true → ¬ Better p l q x
theorem Good2.iff {p : TPap} {l : List TOrd} {S : Option (List TStp)} {A B : List TStp → Prop} (h : Good2 p l S A) (hB : ∀ q, B q ↔ A q) : Good2 p l S B := by
  have : B = A := funext fun q => propext (hB q)
  rw [this]; exact h
end Go.Dw.Seat
end
section
set_option linter.unusedSimpArgs false
set_option maxRecDepth 100000
namespace Go.Dw.Seat
open Go Go.Dw Go.Proofs Go.IntWalk
def getD' (r : (List Int × Int) ⊕ (Nat × Int)) : D := match r with
  | .inl (g, w) => .tup [dIs false g, dI w, dI 0, dI 0]
  | .inr (i, e) => .tup [.c (.v (.slice none 0 0)), dI 0, dI i, dI e]
def prevS (q : List TStp) : Nat → Option TStp
  | 0 => none
  | i + 1 => q[i]?
theorem replZ (n : Nat) : List.replicate n [C.v (.int .i64 0)] = rows eI (zeros n) := by simp [rows, eI, zeros]
theorem addG_b : ∀ {g ws : List Int} {r B : Int}, (∀ v ∈ g, 0 ≤ v ∧ v ≤ B) → (∀ n ∈ ws, 0 ≤ n ∧ n ≤ 4) → 0 ≤ r → ∀ v ∈ addG g ws r, 0 ≤ v ∧ v ≤ B + 4 * r
  | [], _, _, _, _, _, _ => by simp [addG]
  | g :: gs, [], r, B, hg, _, hr => fun v hv => by
    have := hg v hv
    omega
  | g :: gs, n :: ws, r, B, hg, hw, hr => fun v hv => by
    rw [addG, List.mem_cons] at hv
    rcases hv with rfl | hv
    · have h1 := hg g (by simp)
      have h2 := hw n (by simp)
      have m1 : 0 ≤ n * r := Int.mul_nonneg h2.1 hr
      have m2 : n * r ≤ 4 * r := Int.mul_le_mul_of_nonneg_right h2.2 hr
      omega
    · exact addG_b (fun x hx => hg x (by simp [hx])) (fun x hx => hw x (by simp [hx])) hr v hv
set_option maxHeartbeats 4000000 in
theorem trGetM (p : TPap) (hp : p.ok) (l : List TOrd) (hl : l.length ≤ 4) (ho : ∀ o ∈ l, o.ok) (q : List TStp) (hq : q.length ≤ 3) (hqw : ∀ s ∈ q, s.ws.length ≤ 2 ^ 36) : DCall Try.prog 92 [macD false p l, dSt false q] [] (getD' (getR p l none (zeros l.length) 0 0 q)) [] := by
  generalize hR : getR p l none (zeros l.length) 0 0 q = R
  have hd3 : decide ((3 : Int) < (q.length : Int)) = false := decide_eq_false (by omega)
  refine DCall.of Try.func92 sf92 hb92 (Nat.le_of_ble_eq_true rfl) (okRes_nil fun _ => by rcases R with ⟨g, w⟩ | ⟨i, e⟩ <;> rfl) ?_
  simp only [s92, idxs, Nat.reduceAdd]
  repeat' (first
    | (with_reducible first | refine DW.seq ?_ | refine DW.block ?_ | refine DW.skip ?_ | refine DW.exit ?_ | refine DW.ret ?_ | refine DW.reg ?_)
    | (refine DW.dreg rfl (WF.of ?_) ?_; first | rfl | skip)
    | (simp (disch := omega) only [go_sem, simprocAttr, bm_box, bm_row, bk_box, bk_row, hd3, replZ])
    | (exact retS_of rfl rfl rfl)
    | (refine DW.cond_tt rfl ?_)
    | (refine DW.cond_ff rfl ?_)
    | (refine DW.cond rfl ?_ ?_ <;> intro hc <;> (try simp only [go_sem] at hc))
    | (refine g_split ?_ ?_ <;> intro hc <;> (try simp only [hc]) <;> (try simp only [go_sem] at hc)))
  (refine DW.ent (Ent.rel 17 rfl) ?_; simp (disch := omega) only [go_sem, simprocAttr, bm_box, bm_row, bk_box, bk_row])
  refine DW.loop (ι := { y : Nat × List Int × Int // y.1 ≤ q.length ∧ y.2.1.length = l.length ∧ (∀ v ∈ y.2.1, 0 ≤ v ∧ v ≤ 120 * (y.1 : Int)) ∧ (0 ≤ y.2.2 ∧ y.2.2 ≤ 90000 * (y.1 : Int)) ∧ getR p l (prevS q y.1) y.2.1 y.2.2 y.1 (q.drop y.1) = R }) (fun y => ⟨72, [(20, dI y.1.1), (19, dI q.length), (18, dSt false q), (7, dI 0), (6, dI 0), (5, dI y.1.2.2), (4, dIs false y.1.2.1), (2, .box 2 0), (1, dSt false q)], [(2, .box [dI p.wide, dI p.tl, dI p.th, dI p.webs, .c (.sl false 3 (rows eO l))])]⟩) (fun y => q.length - y.1.1) ⟨(0, zeros l.length, 0), Nat.zero_le _, by simp [zeros], fun v hv => by (have := List.eq_of_mem_replicate hv; simp only [this]; omega), by simp only; omega, hR⟩ ?_ ?_
  · refine Ent.to ?_ ?_ <;> simp (disch := omega) only [wkT_cons, wkX_cons, wkT_nil, wkX_nil, get, Nat.reduceEqDiff, ↓reduceIte, ex_some, wk_self, wk_top, wk_nil, wkB_self, and_self, dI, i64_in, and_true, true_and, Int.natCast_add, Int.natCast_one, Int.ofNat_zero, Int.natCast_zero]
    all_goals first | exact ⟨.refl _, .refl _⟩ | exact .refl _
  rintro ⟨⟨i, G, W⟩, hi, hGl, hGb, hWb, hRun⟩
  dsimp only at hi hGl hGb hWb hRun ⊢
  rcases at_or q i hi with ⟨s, hs, hlt, hd⟩ | ⟨he, hd⟩
  · have hdr : q.drop i = s :: q.drop (i + 1) := by
      rw [List.drop_eq_getElem_cons hlt, (List.getElem_eq_iff hlt).2 hs]
    rw [hdr, getR] at hRun
    have h1 := trWebs false false p hp l hl ho s.ws (hqw s (List.mem_of_getElem? hs))
    by_cases e1 : websE p l s.ws = 0
    case neg =>
      have hst : stE p l (prevS q i) s = websE p l s.ws := if_pos e1
      rw [hst, if_pos e1] at hRun
      subst hRun
      simp only [getD']
      generalize websE p l s.ws = e at *
      have hde : (e != 0) = true := by simpa using e1
      repeat' (first
    | (with_reducible first | refine DW.seq ?_ | refine DW.block ?_ | refine DW.skip ?_ | refine DW.exit ?_ | refine DW.ret ?_ | refine DW.reg ?_)
    | (refine DW.dreg rfl (WF.of ?_) ?_; first | rfl | skip)
    | (simp (disch := omega) only [go_sem, simprocAttr, bm_box, bm_row, bk_box, bk_row, hd, hs, hde, List.map_cons, List.map_nil])
    | (exact retS_of rfl rfl rfl)
    | (refine DW.cond_tt rfl ?_)
    | (refine call_c (h1) (by decide) ?_)
    | (refine DW.cond_ff rfl ?_)
    | (refine DW.cond rfl ?_ ?_ <;> intro hc <;> (try simp only [go_sem] at hc))
    | (refine g_split ?_ ?_ <;> intro hc <;> (try simp only [hc]) <;> (try simp only [go_sem] at hc)))
    obtain ⟨hw, hpt⟩ := websE_ok e1
    rw [e1] at h1
    have h2 := trWithin true 1 30 [s.run] (by simp)
    cases e2 : wthn 1 30 [s.run] <;> rw [e2] at h2
    · have hst : stE p l (prevS q i) s = 3 := by unfold stE; rw [if_neg (by simpa using e1), if_pos e2]
      rw [hst, if_pos (by decide)] at hRun
      subst hRun
      simp only [getD']
      repeat' (first
    | (with_reducible first | refine DW.seq ?_ | refine DW.block ?_ | refine DW.skip ?_ | refine DW.exit ?_ | refine DW.ret ?_ | refine DW.reg ?_)
    | (refine DW.dreg rfl (WF.of ?_) ?_; first | rfl | skip)
    | (simp (disch := omega) only [go_sem, simprocAttr, bm_box, bm_row, bk_box, bk_row, hd, hs, List.map_cons, List.map_nil])
    | (exact retS_of rfl rfl rfl)
    | (refine DW.cond_tt rfl ?_)
    | (refine call_c (h1) (by decide) ?_)
    | (refine call_c (h2) (by decide) ?_)
    | (refine DW.cond_ff rfl ?_)
    | (refine DW.cond rfl ?_ ?_ <;> intro hc <;> (try simp only [go_sem] at hc))
    | (refine g_split ?_ ?_ <;> intro hc <;> (try simp only [hc]) <;> (try simp only [go_sem] at hc)))
    have hrb := wthn_one e2
    have h3 := trAdd false false G s.ws s.run (fun v hv => by have := hGb v hv; omega) (by omega) (by have := hw.len; omega) hw.b (by omega)
    have h4 := trTrim false false p hp l hl ho s.ws hw
    have htb : 0 ≤ trimI p l s.ws ∧ trimI p l s.ws ≤ 3000 := by
      simp only [patB, Bool.and_eq_true, decide_eq_true_eq] at hpt
      have := hp.trim
      omega
    have m1 : 0 ≤ trimI p l s.ws * s.run := Int.mul_nonneg htb.1 (by omega)
    have m2 : trimI p l s.ws * s.run ≤ 3000 * s.run := Int.mul_le_mul_of_nonneg_right htb.2 (by omega)
    have hgl : (addG G s.ws s.run).length = l.length := by rw [addG_len]; exact hGl
    have hgb := addG_b hGb hw.b (show 0 ≤ s.run by omega)
    have w1 : IntKind.i64.wrap (trimI p l s.ws * s.run) = trimI p l s.ws * s.run := IntWalk.i64_in _ (by omega)
    have w2 : IntKind.i64.wrap (W + trimI p l s.ws * s.run) = W + trimI p l s.ws * s.run := IntWalk.i64_in _ (by omega)
    have hnx : prevS q (i + 1) = some s := hs
    rcases i with _ | k
    · have hst : stE p l (prevS q 0) s = 0 := by unfold stE; rw [if_neg (by simpa using e1), if_neg (by rw [e2]; decide)]; rfl
      rw [hst, if_neg (by decide)] at hRun
      have hnew : getR p l (prevS q 1) (addG G s.ws s.run) (W + trimI p l s.ws * s.run) 1 (q.drop 1) = R := by rw [hnx]; exact hRun
      generalize trimI p l s.ws = t at *
      generalize addG G s.ws s.run = G2 at *
      have hd' : decide ((0 : Int) < (q.length : Int)) = true := hd
      repeat' (first
    | (with_reducible first | refine DW.seq ?_ | refine DW.block ?_ | refine DW.skip ?_ | refine DW.exit ?_ | refine DW.ret ?_ | refine DW.reg ?_)
    | (refine DW.dreg rfl (WF.of ?_) ?_; first | rfl | skip)
    | (simp (disch := omega) only [go_sem, simprocAttr, bm_box, bm_row, bk_box, bk_row, hd', hs, w1, w2, List.map_cons, List.map_nil])
    | (exact retS_of rfl rfl rfl)
    | (refine DW.cond_tt rfl ?_)
    | (refine call_c (h1) (by decide) ?_)
    | (refine call_c (h2) (by decide) ?_)
    | (refine call_c (h3) (by decide) ?_)
    | (refine call_c (h4) (by decide) ?_)
    | (refine DW.cond_ff rfl ?_)
    | (refine DW.cond rfl ?_ ?_ <;> intro hc <;> (try simp only [go_sem] at hc))
    | (refine g_split ?_ ?_ <;> intro hc <;> (try simp only [hc]) <;> (try simp only [go_sem] at hc)))
      refine ⟨⟨(1, G2, W + t * s.run), by omega, hgl, fun v hv => by have := hgb v hv; omega, by (simp only; omega), hnew⟩, ?_, Ent.to ?_ ?_⟩ <;> first | (show _ < _; (try simp only); omega) | (simp (disch := omega) only [wkT_cons, wkX_cons, wkT_nil, wkX_nil, get, Nat.reduceEqDiff, ↓reduceIte, ex_some, wk_self, wk_top, wk_nil, wkB_self, and_self, dI, i64_in, and_true, true_and, Int.natCast_add, Int.natCast_one, Int.ofNat_zero, Int.natCast_zero])
      all_goals first | exact ⟨.refl _, .refl _⟩ | exact .refl _
    · obtain ⟨s0, hs0⟩ := getE (l := q) (i := k) (by omega)
      have h5 := crCmpL false false s0.ws s.ws (hqw s0 (List.mem_of_getElem? hs0)) (hqw s (List.mem_of_getElem? hs))
      have hpv : prevS q (k + 1) = some s0 := hs0
      have hpos : decide ((0 : Int) < ((k + 1 : Nat) : Int)) = true := decide_eq_true (by omega)
      have ek : ((k + 1 : Nat) : Int) - 1 = (k : Int) := by omega
      rw [hpv] at hRun
      generalize hc : cmpL s0.ws s.ws = c at *
      cases e3 : decide (0 ≤ c)
      · have hst : stE p l (some s0) s = 0 := by unfold stE; rw [if_neg (by simpa using e1), if_neg (by rw [e2]; decide)]; simp only [hc, e3]; rfl
        rw [hst, if_neg (by decide)] at hRun
        have hnew : getR p l (prevS q (k + 1 + 1)) (addG G s.ws s.run) (W + trimI p l s.ws * s.run) (k + 1 + 1) (q.drop (k + 1 + 1)) = R := by rw [hnx]; exact hRun
        generalize trimI p l s.ws = t at *
        generalize addG G s.ws s.run = G2 at *
        repeat' (first
    | (with_reducible first | refine DW.seq ?_ | refine DW.block ?_ | refine DW.skip ?_ | refine DW.exit ?_ | refine DW.ret ?_ | refine DW.reg ?_)
    | (refine DW.dreg rfl (WF.of ?_) ?_; first | rfl | skip)
    | (simp (disch := omega) only [go_sem, simprocAttr, bm_box, bm_row, bk_box, bk_row, hd, hs, hs0, hpos, ek, e3, w1, w2, List.map_cons, List.map_nil])
    | (exact retS_of rfl rfl rfl)
    | (refine DW.cond_tt rfl ?_)
    | (refine call_c (h1) (by decide) ?_)
    | (refine call_c (h2) (by decide) ?_)
    | (refine call_c (h3) (by decide) ?_)
    | (refine call_c (h4) (by decide) ?_)
    | (refine call_c (h5) (by decide) ?_)
    | (refine DW.cond_ff rfl ?_)
    | (refine DW.cond rfl ?_ ?_ <;> intro hc <;> (try simp only [go_sem] at hc))
    | (refine g_split ?_ ?_ <;> intro hc <;> (try simp only [hc]) <;> (try simp only [go_sem] at hc)))
        refine ⟨⟨(k + 1 + 1, G2, W + t * s.run), by omega, hgl, fun v hv => by have := hgb v hv; omega, by (simp only; omega), hnew⟩, ?_, Ent.to ?_ ?_⟩ <;> first | (show _ < _; (try simp only); omega) | (simp (disch := omega) only [wkT_cons, wkX_cons, wkT_nil, wkX_nil, get, Nat.reduceEqDiff, ↓reduceIte, ex_some, wk_self, wk_top, wk_nil, wkB_self, and_self, dI, i64_in, and_true, true_and, Int.natCast_add, Int.natCast_one, Int.ofNat_zero, Int.natCast_zero])
        all_goals first | exact ⟨.refl _, .refl _⟩ | exact .refl _
      · have hst : stE p l (some s0) s = 6 := by unfold stE; rw [if_neg (by simpa using e1), if_neg (by rw [e2]; decide)]; simp only [hc, e3]; rfl
        rw [hst, if_pos (by decide)] at hRun
        subst hRun
        simp only [getD']
        repeat' (first
    | (with_reducible first | refine DW.seq ?_ | refine DW.block ?_ | refine DW.skip ?_ | refine DW.exit ?_ | refine DW.ret ?_ | refine DW.reg ?_)
    | (refine DW.dreg rfl (WF.of ?_) ?_; first | rfl | skip)
    | (simp (disch := omega) only [go_sem, simprocAttr, bm_box, bm_row, bk_box, bk_row, hd, hs, hs0, hpos, ek, e3, List.map_cons, List.map_nil])
    | (exact retS_of rfl rfl rfl)
    | (refine DW.cond_tt rfl ?_)
    | (refine call_c (h1) (by decide) ?_)
    | (refine call_c (h2) (by decide) ?_)
    | (refine call_c (h5) (by decide) ?_)
    | (refine DW.cond_ff rfl ?_)
    | (refine DW.cond rfl ?_ ?_ <;> intro hc <;> (try simp only [go_sem] at hc))
    | (refine g_split ?_ ?_ <;> intro hc <;> (try simp only [hc]) <;> (try simp only [go_sem] at hc)))
  · have hdr : q.drop i = [] := List.drop_eq_nil_of_le (by omega)
    rw [hdr, getR] at hRun
    subst hRun
    simp only [getD']
    repeat' (first
    | (with_reducible first | refine DW.seq ?_ | refine DW.block ?_ | refine DW.skip ?_ | refine DW.exit ?_ | refine DW.ret ?_ | refine DW.reg ?_)
    | (refine DW.dreg rfl (WF.of ?_) ?_; first | rfl | skip)
    | (simp (disch := omega) only [go_sem, simprocAttr, bm_box, bm_row, bk_box, bk_row, hd])
    | (exact retS_of rfl rfl rfl)
    | (refine DW.cond_tt rfl ?_)
    | (refine DW.cond_ff rfl ?_)
    | (refine DW.cond rfl ?_ ?_ <;> intro hc <;> (try simp only [go_sem] at hc))
    | (refine g_split ?_ ?_ <;> intro hc <;> (try simp only [hc]) <;> (try simp only [go_sem] at hc)))
    refine retS_wk rfl ?_ (by simp only [Blk.nb, rowC_nb, D.nb, D.nbs, C.nb, C.nbs, C.nbss, rows_nb eI_nb, Bool.and_true, Bool.not_false, Bool.and_self, bD, dI, iD, rows_nb eO_nb, rows_nb eSt_nb]); exact .refl _
end Go.Dw.Seat
end
section
set_option linter.unusedSimpArgs false
set_option maxRecDepth 100000
namespace Go.Dw.Seat
open Go Go.Dw Go.Proofs Go.IntWalk
theorem trGetL (b : Bool) (p : TPap) (l : List TOrd) (q : List TStp) (hq : 3 < q.length) : DCall Try.prog 92 [macD b p l, dSt b q] [] (.tup [.c (.v (.slice none 0 0)), dI 0, dI 0, dI 5]) [] := by
  have hd3 : decide ((3 : Int) < (q.length : Int)) = true := decide_eq_true (by omega)
  refine DCall.of Try.func92 sf92 hb92 (Nat.le_of_ble_eq_true rfl) (okRes_nil fun _ => rfl) ?_; simp only [s92, idxs, Nat.reduceAdd]
  repeat' (first
    | (with_reducible first | refine DW.seq ?_ | refine DW.block ?_ | refine DW.skip ?_ | refine DW.exit ?_ | refine DW.ret ?_ | refine DW.reg ?_)
    | (refine DW.dreg rfl (WF.of ?_) ?_; first | rfl | skip)
    | (simp (disch := omega) only [go_sem, simprocAttr, bm_box, bm_row, bk_box, bk_row, hd3])
    | (exact retS_of rfl rfl rfl)
    | (refine DW.cond_tt rfl ?_)
    | (refine DW.cond_ff rfl ?_)
    | (refine DW.cond rfl ?_ ?_ <;> intro hc <;> (try simp only [go_sem] at hc))
    | (refine g_split ?_ ?_ <;> intro hc <;> (try simp only [hc]) <;> (try simp only [go_sem] at hc)))
def getA (p : TPap) (l : List TOrd) (q : List TStp) : (List Int × Int) ⊕ (Nat × Int) := if 3 < q.length then .inr (0, 5) else getR p l none (zeros l.length) 0 0 q
theorem trGetA (p : TPap) (hp : p.ok) (l : List TOrd) (hl : l.length ≤ 4) (ho : ∀ o ∈ l, o.ok) (q : List TStp) (hqw : ∀ s ∈ q, s.ws.length ≤ 2 ^ 36) : DCall Try.prog 92 [macD false p l, dSt false q] [] (getD' (getA p l q)) [] := by
  unfold getA
  split
  · rename_i h
    exact trGetL false p l q h
  · rename_i h
    exact trGetM p hp l hl ho q (by omega) hqw
theorem getR_len (p : TPap) (l : List TOrd) : ∀ (q : List TStp) (pr : Option TStp) (G : List Int) (W : Int) (i : Nat) (g : List Int) (w : Int), getR p l pr G W i q = .inl (g, w) → g.length = G.length
  | [], _, _, _, _, _, _, h => by rw [getR] at h; cases h; rfl
  | s :: q, pr, G, W, i, g, w, h => by
    rw [getR] at h
    split at h
    · cases h
    · rw [getR_len p l q _ _ _ _ _ _ h, addG_len]
theorem getR_err (p : TPap) (l : List TOrd) : ∀ (q : List TStp) (pr : Option TStp) (G : List Int) (W : Int) (i : Nat) (j : Nat) (e : Int), getR p l pr G W i q = .inr (j, e) → e ≠ 0
  | [], _, _, _, _, _, _, h => by rw [getR] at h; cases h
  | s :: q, pr, G, W, i, j, e, h => by
    rw [getR] at h
    split at h
    · rename_i h2; cases h; exact h2
    · exact getR_err p l q _ _ _ _ _ _ h
def doesA (p : TPap) (l : List TOrd) (q : List TStp) : (List Int × Int) ⊕ (Int × Int) := match getA p l q with
  | .inr (i, e) => .inr ((i : Int), e)
  | .inl (g, w) => if 0 ≤ wrongI l g then .inr (wrongI l g, 9) else .inl (g, w)
def doesD (r : (List Int × Int) ⊕ (Int × Int)) : D := match r with
  | .inl (g, w) => .tup [dIs false g, dI w, dI 0, dI 0]
  | .inr (i, e) => .tup [.c (.v (.slice none 0 0)), dI 0, dI i, dI e]
set_option maxHeartbeats 1000000 in
theorem trDoes (p : TPap) (hp : p.ok) (l : List TOrd) (hl : l.length ≤ 4) (ho : ∀ o ∈ l, o.ok) (q : List TStp) (hqw : ∀ s ∈ q, s.ws.length ≤ 2 ^ 36) : DCall Try.prog 62 [macD false p l, dSt false q] [] (doesD (doesA p l q)) [] := by
  have h1 := trGetA p hp l hl ho q hqw
  unfold doesA
  cases hR : getA p l q with
  | inr x =>
    obtain ⟨i, e⟩ := x
    rw [hR] at h1
    have he : e ≠ 0 := by
      unfold getA at hR
      split at hR
      · cases hR; decide
      · exact getR_err _ _ _ _ _ _ _ _ _ hR
    have hd : (e != 0) = true := by simpa using he
    simp only [getD'] at h1
    simp only [doesD]
    refine DCall.of Try.func62 sf62 hb62 (Nat.le_of_ble_eq_true rfl) (okRes_nil fun _ => rfl) ?_; simp only [s62, idxs, Nat.reduceAdd]
    repeat' (first
    | (with_reducible first | refine DW.seq ?_ | refine DW.block ?_ | refine DW.skip ?_ | refine DW.exit ?_ | refine DW.ret ?_ | refine DW.reg ?_)
    | (simp (disch := omega) only [go_sem, simprocAttr, bm_box, bm_row, bk_box, bk_row, hd])
    | (exact retS_of rfl rfl rfl)
    | (refine DW.cond_tt rfl ?_)
    | (refine call_c (h1) (by decide) ?_)
    | (refine DW.cond_ff rfl ?_)
    | (refine DW.cond rfl ?_ ?_ <;> intro hc <;> (try simp only [go_sem] at hc))
    | (refine g_split ?_ ?_ <;> intro hc <;> (try simp only [hc]) <;> (try simp only [go_sem] at hc)))
  | inl x =>
    obtain ⟨g, w⟩ := x
    rw [hR] at h1
    have hg : g.length = l.length := by
      unfold getA at hR
      split at hR
      · cases hR
      · rw [getR_len _ _ _ _ _ _ _ _ _ hR]; simp [zeros]
    have h2 := trWrong false false p l hl g hg
    simp only [getD'] at h1
    dsimp only
    by_cases h0 : 0 ≤ wrongI l g
    · have hd : decide (0 ≤ wrongI l g) = true := decide_eq_true h0
      rw [if_pos h0]
      simp only [doesD]
      generalize wrongI l g = k at *
      refine DCall.of Try.func62 sf62 hb62 (Nat.le_of_ble_eq_true rfl) (okRes_nil fun _ => rfl) ?_; simp only [s62, idxs, Nat.reduceAdd]
      repeat' (first
    | (with_reducible first | refine DW.seq ?_ | refine DW.block ?_ | refine DW.skip ?_ | refine DW.exit ?_ | refine DW.ret ?_ | refine DW.reg ?_)
    | (simp (disch := omega) only [go_sem, simprocAttr, bm_box, bm_row, bk_box, bk_row, hd])
    | (exact retS_of rfl rfl rfl)
    | (refine DW.cond_tt rfl ?_)
    | (refine call_c (h1) (by decide) ?_)
    | (refine call_c (h2) (by decide) ?_)
    | (refine DW.cond_ff rfl ?_)
    | (refine DW.cond rfl ?_ ?_ <;> intro hc <;> (try simp only [go_sem] at hc))
    | (refine g_split ?_ ?_ <;> intro hc <;> (try simp only [hc]) <;> (try simp only [go_sem] at hc)))
    · have hd : decide (0 ≤ wrongI l g) = false := decide_eq_false h0
      rw [if_neg h0]
      simp only [doesD]
      generalize wrongI l g = k at *
      refine DCall.of Try.func62 sf62 hb62 (Nat.le_of_ble_eq_true rfl) (okRes_nil fun _ => rfl) ?_; simp only [s62, idxs, Nat.reduceAdd]
      repeat' (first
    | (with_reducible first | refine DW.seq ?_ | refine DW.block ?_ | refine DW.skip ?_ | refine DW.exit ?_ | refine DW.ret ?_ | refine DW.reg ?_)
    | (simp (disch := omega) only [go_sem, simprocAttr, bm_box, bm_row, bk_box, bk_row, hd])
    | (exact retS_of rfl rfl rfl)
    | (refine DW.cond_tt rfl ?_)
    | (refine call_c (h1) (by decide) ?_)
    | (refine call_c (h2) (by decide) ?_)
    | (refine DW.cond_ff rfl ?_)
    | (refine DW.cond rfl ?_ ?_ <;> intro hc <;> (try simp only [go_sem] at hc))
    | (refine g_split ?_ ?_ <;> intro hc <;> (try simp only [hc]) <;> (try simp only [go_sem] at hc)))
      refine retS_wk rfl ?_ (by simp only [Blk.nb, rowC_nb, D.nb, D.nbs, C.nb, C.nbs, C.nbss, rows_nb eI_nb, Bool.and_true, Bool.not_false, Bool.and_self, bD, dI, iD, rows_nb eO_nb, rows_nb eSt_nb]); exact .refl _
end Go.Dw.Seat
end
section
set_option linter.unusedSimpArgs false
set_option maxRecDepth 100000
namespace Go.Dw.Seat
open Go Go.Dw Go.Proofs Go.IntWalk
attribute [go_sem] dSt
theorem trCloneS (b : Bool) (l : List TStp) (hl : l.length ≤ 2 ^ 36) (k : Nat) : DCall Try.prog 104 [dSt b l] [] (.own k) [(k, .row 2 (rowC (rows eSt l)))] := by
  have hnb : ∀ l : List TStp, Blk.nb (.row 2 (rowC (rows eSt l))) = true := fun l => rowC_nb (rows_nb eSt_nb l)
  refine DCall.rename (k0 := 5) ?_ k
  cases l with
  | nil =>
    refine DCall.nil1 (fun a c => ?_)
    cases a with
    | none =>
      refine DCall.of Try.func104 sf104 hb104 (Nat.le_of_ble_eq_true rfl) okRes_row ?_; simp only [s104, idxs, Nat.reduceAdd]
      repeat' (first
    | (with_reducible first | refine DW.seq ?_ | refine DW.block ?_ | refine DW.skip ?_ | refine DW.exit ?_ | refine DW.ret ?_ | refine DW.reg ?_)
    | (simp (disch := omega) only [go_sem, simprocAttr, bm_box, bm_row, bk_box, bk_row, Option.isNone])
    | (exact retS_of rfl rfl rfl)
    | (refine DW.cond_tt rfl ?_)
    | (refine DW.cond_ff rfl ?_)
    | (refine DW.cond rfl ?_ ?_ <;> intro hc <;> (try simp only [go_sem] at hc))
    | (refine g_split ?_ ?_ <;> intro hc <;> (try simp only [hc]) <;> (try simp only [go_sem] at hc)))
      refine retS_ent (Ent.adopt 2 5 2 rfl rfl rfl) ?_
      simp (disch := omega) only [go_sem, simprocAttr, bm_box, bm_row, bk_box, bk_row]
      refine retS_row ?_ ?_ (hnb []) <;> rfl
    | some a =>
      refine DCall.of Try.func104 sf104 hb104 (Nat.le_of_ble_eq_true rfl) okRes_row ?_; simp only [s104, idxs, Nat.reduceAdd]
      refine DW.seq (DW.reg ?_)
      simp (disch := omega) only [go_sem, simprocAttr, bm_box, bm_row, bk_box, bk_row]
      refine DW.seq (DW.seq (DW.reg ?_))
      simp (disch := omega) only [go_sem, simprocAttr, bm_box, bm_row, bk_box, bk_row, Option.isNone]
      refine DW.cond_ff rfl (DW.skip ?_)
      simp (disch := omega) only [go_sem, simprocAttr, bm_box, bm_row, bk_box, bk_row]
      refine DW.ent (Ent.to (tm' := [(0, .c (.sl b 2 []))]) (bx' := []) (by simp (disch := omega) only [wkT_cons, wkX_cons, wkT_nil, wkX_nil, get, Nat.reduceEqDiff, ↓reduceIte, ex_some, wk_self, wk_top, wk_nil, wkB_self, and_self, dI, i64_in, and_true, true_and, Int.natCast_add, Int.natCast_one, Int.ofNat_zero, Int.natCast_zero]) trivial) ?_
      repeat' (first
    | (with_reducible first | refine DW.seq ?_ | refine DW.block ?_ | refine DW.skip ?_ | refine DW.exit ?_ | refine DW.ret ?_ | refine DW.reg ?_)
    | (simp (disch := omega) only [go_sem, simprocAttr, bm_box, bm_row, bk_box, bk_row])
    | (exact retS_of rfl rfl rfl)
    | (refine DW.cond_tt rfl ?_)
    | (refine DW.cond_ff rfl ?_)
    | (refine DW.cond rfl ?_ ?_ <;> intro hc <;> (try simp only [go_sem] at hc))
    | (refine g_split ?_ ?_ <;> intro hc <;> (try simp only [hc]) <;> (try simp only [go_sem] at hc)))
      refine retS_row ?_ ?_ (hnb []) <;> rfl
  | cons x l =>
    simp only [List.length_cons] at hl
    refine DCall.of Try.func104 sf104 hb104 (Nat.le_of_ble_eq_true rfl) okRes_row ?_; simp only [s104, idxs, Nat.reduceAdd]
    repeat' (first
    | (with_reducible first | refine DW.seq ?_ | refine DW.block ?_ | refine DW.skip ?_ | refine DW.exit ?_ | refine DW.ret ?_ | refine DW.reg ?_)
    | (simp (disch := omega) only [go_sem, simprocAttr, bm_box, bm_row, bk_box, bk_row, rows_cons])
    | (exact retS_of rfl rfl rfl)
    | (refine DW.cond_tt rfl ?_)
    | (refine DW.cond_ff rfl ?_)
    | (refine DW.cond rfl ?_ ?_ <;> intro hc <;> (try simp only [go_sem] at hc))
    | (refine g_split ?_ ?_ <;> intro hc <;> (try simp only [hc]) <;> (try simp only [go_sem] at hc)))
    refine retS_row ?_ ?_ (hnb (x :: l)) <;> rfl
end Go.Dw.Seat
end
section
set_option linter.unusedSimpArgs false
set_option maxRecDepth 100000
namespace Go.Dw.Seat
open Go Go.Dw Go.Proofs Go.IntWalk
abbrev srC (p : TPap) (l : List TOrd) (P : List (List Int)) (S : Srch) : List D := [dI p.wide, dI p.tl, dI p.th, dI p.webs, .c (.sl false 3 (rows eO l)), dWs false P, dSt false S.best, dI S.waste, bD S.found]
abbrev srB (lm : Nat) (p : TPap) (l : List TOrd) (P : List (List Int)) (S : Srch) : Nat × Blk := (14, .pbox lm (srC p l P S))
abbrev srD (lm : Nat) : D := .c (.v (.pointer (some ⟨lm, 0, none⟩)))
theorem bm_pbox (k l : Nat) (ds : List D) : Blk.men k (.pbox l ds) = D.mens k ds := rfl
theorem bk_pbox (bx : List (Nat × Blk)) (l : Nat) (ds : List D) : Blk.keysIn bx (.pbox l ds) = D.keysIns bx ds := rfl
theorem killB_pbox (k l : Nat) (ds : List D) : killB k (.pbox l ds) = .pbox l (ds.map (killD k)) := rfl
attribute [go_sem] bm_pbox bk_pbox killB_pbox dWs srB srD srC
theorem srB_ok (r : D) (hr : ∀ k, r.men k = false) (lm : Nat) (p : TPap) (l : List TOrd) (P : List (List Int)) (S : Srch) : okRes r [srB lm p l P S] := by
  refine ⟨fun k _ => hr k, fun j x hj k hk => ?_⟩
  simp only [get] at hj
  split at hj
  · cases hj; rfl
  · cases hj
theorem srB_nb (lm : Nat) (p : TPap) (l : List TOrd) (P : List (List Int)) (S : Srch) {k : Nat} {x : Blk} (hk : get k [srB lm p l P S] = some x) : k = 14 ∧ x = .pbox lm (srC p l P S) ∧ x.nb = true := by
  simp only [get] at hk
  split at hk
  · rename_i e; cases hk; exact ⟨e, rfl, by simp only [Blk.nb]; exact (by simp only [List.all_cons, List.all_nil, Blk.nb, rowC_nb, D.nb, D.nbs, C.nb, C.nbs, C.nbss, rows_nb eI_nb, Bool.and_true, Bool.not_false, Bool.and_self, bD, dI, iD, rows_nb eO_nb, rows_nb eSt_nb, rows_nb eWs_nb])⟩
  · cases hk
theorem room_drop {one : Bool} {l : List TOrd} {got ws : List Int} {i : Nat} {o : TOrd} {g n : Int} (ho : l[i]? = some o) (hg : got[i]? = some g) (hn : ws[i]? = some n) (lo hi : Int) :
    roomF one (l.drop i) (got.drop i) (ws.drop i) lo hi = if 0 < n then roomF one (l.drop (i + 1)) (got.drop (i + 1)) (ws.drop (i + 1)) (if one then max2 lo ((o.lo - g + n - 1).tdiv n) else lo) (min2 hi ((o.hi - g).tdiv n))
    else if one && decide (g < o.lo) then (1, 0) else roomF one (l.drop (i + 1)) (got.drop (i + 1)) (ws.drop (i + 1)) lo hi := by
  obtain ⟨h1, e1⟩ := List.getElem?_eq_some_iff.1 ho
  obtain ⟨h2, e2⟩ := List.getElem?_eq_some_iff.1 hg
  obtain ⟨h3, e3⟩ := List.getElem?_eq_some_iff.1 hn
  rw [List.drop_eq_getElem_cons h1, List.drop_eq_getElem_cons h2, List.drop_eq_getElem_cons h3, e1, e2, e3, roomF]
theorem max2_eq (a b : Int) : max2 a b = max a b := by unfold max2; split <;> omega
theorem min2_eq (a b : Int) : min2 a b = min a b := by unfold min2; split <;> omega
theorem tdiv_b {a n : Int} (ha : -1000 ≤ a ∧ a ≤ 1000) (hn : 1 ≤ n ∧ n ≤ 4) : -1000 ≤ Int.tdiv a n ∧ Int.tdiv a n ≤ 1000 := by
  have key : ∀ c : Int, 0 ≤ c → c ≤ 1000 → 0 ≤ Int.tdiv c n ∧ Int.tdiv c n ≤ 1000 := fun c h1 h2 => by
    rw [Int.tdiv_eq_ediv_of_nonneg h1]
    exact ⟨Int.ediv_nonneg h1 (by omega), Int.le_trans (Int.ediv_le_self _ h1) h2⟩
  by_cases h : 0 ≤ a
  · have := key a h ha.2
    omega
  · have h2 := key (-a) (by omega) (by omega)
    have e : a = -(-a) := by omega
    rw [e, Int.neg_tdiv]
    omega
theorem roomF_nil (one : Bool) (got ws : List Int) (lo hi : Int) : roomF one [] got ws lo hi = (lo, hi) := by simp [roomF]
set_option maxHeartbeats 2000000 in
theorem trRoom (b1 b2 one : Bool) (lm : Nat) (p : TPap) (l : List TOrd) (hl : l.length ≤ 4) (ho : ∀ o ∈ l, o.ok) (P : List (List Int)) (S : Srch) (got : List Int) (hg : got.length = l.length) (hgb : ∀ v ∈ got, 0 ≤ v ∧ v ≤ 1000) (ws : List Int) (hw : Ws4 l ws) :
    DCall Try.prog 105 [srD lm, dIs b1 got, dIs b2 ws, bD one] [srB lm p l P S] (.agg [dI (roomF one l got ws 1 30).1, dI (roomF one l got ws 1 30).2]) [srB lm p l P S] := by
  have hwl := hw.len
  generalize hR : roomF one l got ws 1 30 = R
  refine DCall.of Try.func105 sf105 hb105 (Nat.le_of_ble_eq_true rfl) (srB_ok _ (fun _ => rfl) _ _ _ _ _) ?_
  simp only [s105, idxs, Nat.reduceAdd]
  repeat' (first
    | (with_reducible first | refine DW.seq ?_ | refine DW.block ?_ | refine DW.skip ?_ | refine DW.exit ?_ | refine DW.ret ?_ | refine DW.reg ?_)
    | (refine DW.dreg rfl (WF.of ?_) ?_; first | rfl | skip)
    | (simp (disch := omega) only [go_sem, simprocAttr, bm_box, bm_row, bk_box, bk_row])
    | (exact retS_of rfl rfl rfl)
    | (refine DW.cond_tt rfl ?_)
    | (refine DW.cond_ff rfl ?_)
    | (refine DW.cond rfl ?_ ?_ <;> intro hc <;> (try simp only [go_sem] at hc))
    | (refine g_split ?_ ?_ <;> intro hc <;> (try simp only [hc]) <;> (try simp only [go_sem] at hc)))
  refine DW.loop (ι := { y : Nat × Int × Int // y.1 ≤ ws.length ∧ roomF one (l.drop y.1) (got.drop y.1) (ws.drop y.1) y.2.1 y.2.2 = R ∧ (-10000 ≤ y.2.1 ∧ y.2.1 ≤ 10000) ∧ -10000 ≤ y.2.2 ∧ y.2.2 ≤ 10000 }) (fun y => ⟨77, [(16, dI y.1.1), (15, dI ws.length), (14, dIs b2 ws), (9, .box 9 0), (8, .box 8 0), (0, srD lm), (1, dIs b1 got), (3, bD one)], [srB lm p l P S, (9, .box [dI y.1.2.1, dI y.1.2.2]), (8, .box [dI 0, dI 0])]⟩) (fun y => ws.length - y.1.1) ⟨(0, 1, 30), Nat.zero_le _, hR, by decide, by decide⟩ ?_ ?_
  · refine Ent.to ?_ ?_ <;> simp (disch := omega) only [wkT_cons, wkX_cons, wkT_nil, wkX_nil, get, Nat.reduceEqDiff, ↓reduceIte, ex_some, wk_self, wk_top, wk_nil, wkB_self, and_self, dI, i64_in, and_true, true_and, Int.natCast_add, Int.natCast_one, Int.ofNat_zero, Int.natCast_zero]
    all_goals first | exact ⟨.refl _, .refl _⟩ | exact .refl _
  rintro ⟨⟨i, lo, hi⟩, hi1, hi2, hi3, hi4⟩
  dsimp only at hi1 hi2 hi3 hi4 ⊢
  rcases at_or ws i hi1 with ⟨n, hn, hlt, hd⟩ | ⟨he, hd⟩
  · obtain ⟨o, hoi⟩ := getE (l := l) (i := i) (by omega)
    obtain ⟨g, hgi⟩ := getE (l := got) (i := i) (by omega)
    have hnb := hw.b n (List.mem_of_getElem? hn)
    have hob := (ho o (List.mem_of_getElem? hoi)).need
    have hgv := hgb g (List.mem_of_getElem? hgi)
    rw [room_drop hoi hgi hn] at hi2
    by_cases hnp : 0 < n
    · have hdn : decide (0 < n) = true := decide_eq_true hnp
      have hnz : (n = 0) = False := eq_false (by omega)
      rw [if_pos hnp] at hi2
      have q1 := tdiv_b (a := o.hi - g) (n := n) (by omega) (by omega)
      have q2 := tdiv_b (a := o.lo - g + n - 1) (n := n) (by omega) (by omega)
      have em : (if Int.tdiv (o.hi - g) n < hi then Int.tdiv (o.hi - g) n else hi) = min2 hi (Int.tdiv (o.hi - g) n) := rfl
      have m2 : -10000 ≤ min2 hi (Int.tdiv (o.hi - g) n) ∧ min2 hi (Int.tdiv (o.hi - g) n) ≤ 10000 := by rw [min2_eq]; omega
      have ex : (if lo < Int.tdiv (o.lo - g + n - 1) n then Int.tdiv (o.lo - g + n - 1) n else lo) = max2 lo (Int.tdiv (o.lo - g + n - 1) n) := rfl
      have m1 : -10000 ≤ max2 lo (Int.tdiv (o.lo - g + n - 1) n) ∧ max2 lo (Int.tdiv (o.lo - g + n - 1) n) ≤ 10000 := by rw [max2_eq]; omega
      generalize hX : min2 hi (Int.tdiv (o.hi - g) n) = X at *
      generalize hY : max2 lo (Int.tdiv (o.lo - g + n - 1) n) = Y at *
      generalize hA : Int.tdiv (o.hi - g) n = A at *
      generalize hB : Int.tdiv (o.lo - g + n - 1) n = B at *
      cases one with
      | true =>
        rw [if_pos rfl] at hi2
        repeat' (first
    | (with_reducible first | refine DW.seq ?_ | refine DW.block ?_ | refine DW.skip ?_ | refine DW.exit ?_ | refine DW.ret ?_ | refine DW.reg ?_)
    | (refine DW.dreg rfl (WF.of ?_) ?_; first | rfl | skip)
    | (simp (disch := omega) only [go_sem, simprocAttr, bm_box, bm_row, bk_box, bk_row, hd, hn, hoi, hgi, hdn, hnz, hA, hB, em, ex, List.map_cons, List.map_nil])
    | (exact retS_of rfl rfl rfl)
    | (refine DW.cond_tt rfl ?_)
    | (refine DW.cond_ff rfl ?_)
    | (refine DW.cond rfl ?_ ?_ <;> intro hc <;> (try simp only [go_sem] at hc))
    | (refine g_split ?_ ?_ <;> intro hc <;> (try simp only [hc]) <;> (try simp only [go_sem] at hc)))
        refine ⟨⟨(i + 1, Y, X), hlt, hi2, m1, m2⟩, ?_, Ent.to ?_ ?_⟩ <;> first | (show _ < _; (try simp only); omega) | (simp (disch := omega) only [wkT_cons, wkX_cons, wkT_nil, wkX_nil, get, Nat.reduceEqDiff, ↓reduceIte, ex_some, wk_self, wk_top, wk_nil, wkB_self, and_self, dI, i64_in, and_true, true_and, Int.natCast_add, Int.natCast_one, Int.ofNat_zero, Int.natCast_zero])
        all_goals first | exact ⟨.refl _, .refl _⟩ | exact .refl _
      | false =>
        rw [if_neg (by decide)] at hi2
        repeat' (first
    | (with_reducible first | refine DW.seq ?_ | refine DW.block ?_ | refine DW.skip ?_ | refine DW.exit ?_ | refine DW.ret ?_ | refine DW.reg ?_)
    | (refine DW.dreg rfl (WF.of ?_) ?_; first | rfl | skip)
    | (simp (disch := omega) only [go_sem, simprocAttr, bm_box, bm_row, bk_box, bk_row, hd, hn, hoi, hgi, hdn, hnz, hA, em, List.map_cons, List.map_nil])
    | (exact retS_of rfl rfl rfl)
    | (refine DW.cond_tt rfl ?_)
    | (refine DW.cond_ff rfl ?_)
    | (refine DW.cond rfl ?_ ?_ <;> intro hc <;> (try simp only [go_sem] at hc))
    | (refine g_split ?_ ?_ <;> intro hc <;> (try simp only [hc]) <;> (try simp only [go_sem] at hc)))
        refine ⟨⟨(i + 1, lo, X), hlt, hi2, hi3, m2⟩, ?_, Ent.to ?_ ?_⟩ <;> first | (show _ < _; (try simp only); omega) | (simp (disch := omega) only [wkT_cons, wkX_cons, wkT_nil, wkX_nil, get, Nat.reduceEqDiff, ↓reduceIte, ex_some, wk_self, wk_top, wk_nil, wkB_self, and_self, dI, i64_in, and_true, true_and, Int.natCast_add, Int.natCast_one, Int.ofNat_zero, Int.natCast_zero])
        all_goals first | exact ⟨.refl _, .refl _⟩ | exact .refl _
    · have hdn : decide (0 < n) = false := decide_eq_false hnp
      rw [if_neg hnp] at hi2
      cases one with
      | false =>
        rw [Bool.false_and, if_neg (by decide)] at hi2
        repeat' (first
    | (with_reducible first | refine DW.seq ?_ | refine DW.block ?_ | refine DW.skip ?_ | refine DW.exit ?_ | refine DW.ret ?_ | refine DW.reg ?_)
    | (refine DW.dreg rfl (WF.of ?_) ?_; first | rfl | skip)
    | (simp (disch := omega) only [go_sem, simprocAttr, bm_box, bm_row, bk_box, bk_row, hd, hn, hoi, hgi, hdn, List.map_cons, List.map_nil])
    | (exact retS_of rfl rfl rfl)
    | (refine DW.cond_tt rfl ?_)
    | (refine DW.cond_ff rfl ?_)
    | (refine DW.cond rfl ?_ ?_ <;> intro hc <;> (try simp only [go_sem] at hc))
    | (refine g_split ?_ ?_ <;> intro hc <;> (try simp only [hc]) <;> (try simp only [go_sem] at hc)))
        refine ⟨⟨(i + 1, lo, hi), hlt, hi2, hi3, hi4⟩, ?_, Ent.to ?_ ?_⟩ <;> first | (show _ < _; (try simp only); omega) | (simp (disch := omega) only [wkT_cons, wkX_cons, wkT_nil, wkX_nil, get, Nat.reduceEqDiff, ↓reduceIte, ex_some, wk_self, wk_top, wk_nil, wkB_self, and_self, dI, i64_in, and_true, true_and, Int.natCast_add, Int.natCast_one, Int.ofNat_zero, Int.natCast_zero])
        all_goals first | exact ⟨.refl _, .refl _⟩ | exact .refl _
      | true =>
        rw [Bool.true_and] at hi2
        cases hgl : decide (g < o.lo) with
        | true =>
          rw [hgl, if_pos rfl] at hi2
          subst hi2
          repeat' (first
    | (with_reducible first | refine DW.seq ?_ | refine DW.block ?_ | refine DW.skip ?_ | refine DW.exit ?_ | refine DW.ret ?_ | refine DW.reg ?_)
    | (refine DW.dreg rfl (WF.of ?_) ?_; first | rfl | skip)
    | (simp (disch := omega) only [go_sem, simprocAttr, bm_box, bm_row, bk_box, bk_row, hd, hn, hoi, hgi, hdn, hgl, List.map_cons, List.map_nil])
    | (exact retS_of rfl rfl rfl)
    | (refine DW.cond_tt rfl ?_)
    | (refine DW.cond_ff rfl ?_)
    | (refine DW.cond rfl ?_ ?_ <;> intro hc <;> (try simp only [go_sem] at hc))
    | (refine g_split ?_ ?_ <;> intro hc <;> (try simp only [hc]) <;> (try simp only [go_sem] at hc)))
          exact retS_bs rfl rfl rfl (fun j x hj => by
            obtain ⟨rfl, rfl, hn⟩ := srB_nb lm p l P S hj
            exact ⟨rfl, hn⟩)
        | false =>
          rw [hgl, if_neg (by decide)] at hi2
          repeat' (first
    | (with_reducible first | refine DW.seq ?_ | refine DW.block ?_ | refine DW.skip ?_ | refine DW.exit ?_ | refine DW.ret ?_ | refine DW.reg ?_)
    | (refine DW.dreg rfl (WF.of ?_) ?_; first | rfl | skip)
    | (simp (disch := omega) only [go_sem, simprocAttr, bm_box, bm_row, bk_box, bk_row, hd, hn, hoi, hgi, hdn, hgl, List.map_cons, List.map_nil])
    | (exact retS_of rfl rfl rfl)
    | (refine DW.cond_tt rfl ?_)
    | (refine DW.cond_ff rfl ?_)
    | (refine DW.cond rfl ?_ ?_ <;> intro hc <;> (try simp only [go_sem] at hc))
    | (refine g_split ?_ ?_ <;> intro hc <;> (try simp only [hc]) <;> (try simp only [go_sem] at hc)))
          refine ⟨⟨(i + 1, lo, hi), hlt, hi2, hi3, hi4⟩, ?_, Ent.to ?_ ?_⟩ <;> first | (show _ < _; (try simp only); omega) | (simp (disch := omega) only [wkT_cons, wkX_cons, wkT_nil, wkX_nil, get, Nat.reduceEqDiff, ↓reduceIte, ex_some, wk_self, wk_top, wk_nil, wkB_self, and_self, dI, i64_in, and_true, true_and, Int.natCast_add, Int.natCast_one, Int.ofNat_zero, Int.natCast_zero])
          all_goals first | exact ⟨.refl _, .refl _⟩ | exact .refl _
  · have hl0 : l.drop i = [] := List.drop_eq_nil_of_le (by omega)
    rw [hl0, roomF_nil] at hi2
    subst hi2
    repeat' (first
    | (with_reducible first | refine DW.seq ?_ | refine DW.block ?_ | refine DW.skip ?_ | refine DW.exit ?_ | refine DW.ret ?_ | refine DW.reg ?_)
    | (refine DW.dreg rfl (WF.of ?_) ?_; first | rfl | skip)
    | (simp (disch := omega) only [go_sem, simprocAttr, bm_box, bm_row, bk_box, bk_row, hd])
    | (exact retS_of rfl rfl rfl)
    | (refine DW.cond_tt rfl ?_)
    | (refine DW.cond_ff rfl ?_)
    | (refine DW.cond rfl ?_ ?_ <;> intro hc <;> (try simp only [go_sem] at hc))
    | (refine g_split ?_ ?_ <;> intro hc <;> (try simp only [hc]) <;> (try simp only [go_sem] at hc)))
    exact retS_bs rfl rfl rfl (fun j x hj => by
      obtain ⟨rfl, rfl, hn⟩ := srB_nb lm p l P S hj
      exact ⟨rfl, hn⟩)
end Go.Dw.Seat
end
section
set_option linter.unusedSimpArgs false
set_option maxRecDepth 100000
namespace Go.Dw.Seat
open Go Go.Dw Go.Proofs Go.IntWalk
def getX (p : TPap) (l : List TOrd) (q : List TStp) : (List Int × Int) ⊕ (Int × Int) := if openE p l = 0 then doesA p l q else .inr (0, openE p l)
set_option maxHeartbeats 1000000 in
theorem trGetX (p : TPap) (l : List TOrd) (hl : l.length ≤ 2 ^ 36) (q : List TStp) (hqw : ∀ s ∈ q, s.ws.length ≤ 2 ^ 36) : DCall Try.prog 24 [papD p, .c (.sl false 3 (rows eO l)), dSt false q] [] (doesD (getX p l q)) [] := by
  by_cases h : openE p l = 0
  · obtain ⟨hp, hl4, ho⟩ := openE_ok h
    have h1 := trOpen p l h
    have h2 := trDoes p hp l hl4 ho q hqw
    rw [getX, if_pos h]
    generalize doesA p l q = R at *
    rcases R with ⟨g, w⟩ | ⟨i, e⟩ <;> simp only [doesD] at h2 ⊢
    · refine DCall.of Try.func24 sf24 hb24 (Nat.le_of_ble_eq_true rfl) (okRes_nil fun _ => rfl) ?_; simp only [s24, idxs, Nat.reduceAdd]
      repeat' (first
    | (with_reducible first | refine DW.seq ?_ | refine DW.block ?_ | refine DW.skip ?_ | refine DW.exit ?_ | refine DW.ret ?_ | refine DW.reg ?_)
    | (simp (disch := omega) only [go_sem, simprocAttr, bm_box, bm_row, bk_box, bk_row])
    | (exact retS_of rfl rfl rfl)
    | (refine DW.cond_tt rfl ?_)
    | (refine call_c (h1) (by decide) ?_)
    | (refine call_c (h2) (by decide) ?_)
    | (refine DW.cond_ff rfl ?_)
    | (refine DW.cond rfl ?_ ?_ <;> intro hc <;> (try simp only [go_sem] at hc))
    | (refine g_split ?_ ?_ <;> intro hc <;> (try simp only [hc]) <;> (try simp only [go_sem] at hc)))
      refine retS_wk rfl ?_ (by simp only [Blk.nb, rowC_nb, D.nb, D.nbs, C.nb, C.nbs, C.nbss, rows_nb eI_nb, Bool.and_true, Bool.not_false, Bool.and_self, bD, dI, iD, rows_nb eO_nb, rows_nb eSt_nb]); exact .refl _
    · refine DCall.of Try.func24 sf24 hb24 (Nat.le_of_ble_eq_true rfl) (okRes_nil fun _ => rfl) ?_; simp only [s24, idxs, Nat.reduceAdd]
      repeat' (first
    | (with_reducible first | refine DW.seq ?_ | refine DW.block ?_ | refine DW.skip ?_ | refine DW.exit ?_ | refine DW.ret ?_ | refine DW.reg ?_)
    | (simp (disch := omega) only [go_sem, simprocAttr, bm_box, bm_row, bk_box, bk_row])
    | (exact retS_of rfl rfl rfl)
    | (refine DW.cond_tt rfl ?_)
    | (refine call_c (h1) (by decide) ?_)
    | (refine call_c (h2) (by decide) ?_)
    | (refine DW.cond_ff rfl ?_)
    | (refine DW.cond rfl ?_ ?_ <;> intro hc <;> (try simp only [go_sem] at hc))
    | (refine g_split ?_ ?_ <;> intro hc <;> (try simp only [hc]) <;> (try simp only [go_sem] at hc)))
  · have h1 := trOpenE false p l hl h
    rw [getX, if_neg h]
    simp only [doesD]
    generalize openE p l = e at *
    have hd : (e != 0) = true := by simpa using h
    refine DCall.of Try.func24 sf24 hb24 (Nat.le_of_ble_eq_true rfl) (okRes_nil fun _ => rfl) ?_; simp only [s24, idxs, Nat.reduceAdd]
    repeat' (first
    | (with_reducible first | refine DW.seq ?_ | refine DW.block ?_ | refine DW.skip ?_ | refine DW.exit ?_ | refine DW.ret ?_ | refine DW.reg ?_)
    | (simp (disch := omega) only [go_sem, simprocAttr, bm_box, bm_row, bk_box, bk_row, hd])
    | (exact retS_of rfl rfl rfl)
    | (refine DW.cond_tt rfl ?_)
    | (refine call_c (h1) (by decide) ?_)
    | (refine DW.cond_ff rfl ?_)
    | (refine DW.cond rfl ?_ ?_ <;> intro hc <;> (try simp only [go_sem] at hc))
    | (refine g_split ?_ ?_ <;> intro hc <;> (try simp only [hc]) <;> (try simp only [go_sem] at hc)))
end Go.Dw.Seat
end
section
set_option linter.unusedSimpArgs false
set_option maxRecDepth 100000
namespace Go.Dw.Seat
open Go Go.Dw Go.Proofs Go.IntWalk
def knN (s : Int × List Int) (w : Int) : Nat → Int × List Int
  | 0 => s
  | n + 1 => ((knN s w n).1 + w, (knN s w n).2 ++ [(knN s w n).1 + w])
def knS (x : Int) (l : List TOrd) (ws : List Int) : Nat → Int × List Int
  | 0 => (x, [x])
  | i + 1 => knN (knS x l ws i) ((l[i]?.map (·.w)).getD 0) ((ws[i]?).getD 0).toNat
def knvL (p : TPap) (l : List TOrd) (ws : List Int) : List Int := (knS (Int.tdiv (trimI p l ws) 2) l ws ws.length).2
structure KnOk (s : Int × List Int) (m : Nat) : Prop where
  x : 0 ≤ s.1 ∧ s.1 ≤ 3000 + 3000 * (m : Int)
  len : s.2.length = m + 1
theorem KnOk.n {s : Int × List Int} {m : Nat} (h : KnOk s m) {w : Int} (hw : 1 ≤ w ∧ w ≤ 3000) : ∀ n, KnOk (knN s w n) (m + n)
  | 0 => h
  | n + 1 => by
    have h2 := h.n hw n
    have := h2.x
    have := h2.len
    refine ⟨?_, ?_⟩
    · simp only [knN]; omega
    · simp only [knN, List.length_append, List.length_singleton]; omega
theorem knS_ok {x : Int} (hx : 0 ≤ x ∧ x ≤ 3000) {l : List TOrd} (ho : ∀ o ∈ l, o.ok) {ws : List Int} (hw : Ws4 l ws) : ∀ i, i ≤ ws.length → ∃ m, m ≤ 4 * i ∧ KnOk (knS x l ws i) m
  | 0, _ => ⟨0, Nat.le_refl _, ⟨by simp only [knS]; omega, rfl⟩⟩
  | i + 1, hi => by
    obtain ⟨m, hm, hk⟩ := knS_ok hx ho hw i (by omega)
    obtain ⟨n, hn⟩ := getE (l := ws) (i := i) (by omega)
    obtain ⟨o, hoi⟩ := getE (l := l) (i := i) (by have := hw.len; omega)
    have hnb := hw.b n (List.mem_of_getElem? hn)
    refine ⟨m + n.toNat, by omega, ?_⟩
    simp only [knS, hn, hoi, Option.map_some, Option.getD_some]
    exact hk.n (ho o (List.mem_of_getElem? hoi)).w n.toNat
theorem knS_step {x : Int} {l : List TOrd} {ws : List Int} {i : Nat} {n : Int} {o : TOrd} (hn : ws[i]? = some n) (ho : l[i]? = some o) : knS x l ws (i + 1) = knN (knS x l ws i) o.w n.toNat := by
  simp only [knS, hn, ho, Option.map_some, Option.getD_some]
def knvD (p : TPap) (l : List TOrd) (ws : List Int) : D := if owE p l ws = 0 then dIs false (knvL p l ws) else .c (.v (.slice none 0 0))
set_option maxHeartbeats 2000000 in
theorem trKnives (b2 : Bool) (p : TPap) (l : List TOrd) (hl : l.length ≤ 2 ^ 36) (ws : List Int) (hwl : ws.length ≤ 2 ^ 36) : DCall Try.prog 48 [papD p, .c (.sl false 3 (rows eO l)), dIs b2 ws] [] (.tup [knvD p l ws, dI (owE p l ws)]) [] := by
  have h1 := trOpenW b2 p l hl ws hwl
  by_cases h : owE p l ws = 0
  · have ho : openE p l = 0 := by
      unfold owE at h
      split at h
      · rename_i h2; exact absurd h h2
      · rename_i h2; simpa using h2
    obtain ⟨hp, hl4, hor⟩ := openE_ok ho
    have hwe : websE p l ws = 0 := by
      unfold owE at h
      rwa [if_neg (by simpa using ho)] at h
    obtain ⟨hw, hpt⟩ := websE_ok hwe
    have h2 := trTrim false b2 p hp l hl4 hor ws hw
    have hwl4 := hw.len
    have htb : 0 ≤ trimI p l ws ∧ trimI p l ws ≤ 3000 := by
      simp only [patB, Bool.and_eq_true, decide_eq_true_eq] at hpt
      have := hp.trim
      omega
    have hx : 0 ≤ Int.tdiv (trimI p l ws) 2 ∧ Int.tdiv (trimI p l ws) 2 ≤ 3000 := by
      rw [Int.tdiv_eq_ediv_of_nonneg htb.1]; omega
    rw [if_pos ho, h] at h1
    rw [knvD, if_pos h, h, knvL]
    generalize trimI p l ws = t at *
    generalize hT : Int.tdiv t 2 = x at *
    clear h hpt hwe
    refine DCall.of Try.func48 sf48 hb48 (Nat.le_of_ble_eq_true rfl) (okRes_nil fun _ => rfl) ?_; simp only [s48, idxs, Nat.reduceAdd]
    repeat' (first
    | (with_reducible first | refine DW.seq ?_ | refine DW.block ?_ | refine DW.skip ?_ | refine DW.exit ?_ | refine DW.ret ?_ | refine DW.reg ?_)
    | (simp (disch := omega) only [go_sem, simprocAttr, Blk.men, Blk.keysIn, hT])
    | (exact retS_of rfl rfl rfl)
    | (refine DW.cond_tt rfl ?_)
    | (refine call_c (h1) (by decide) ?_)
    | (refine call_c (h2) (by decide) ?_)
    | (refine DW.cond_ff rfl ?_)
    | (refine DW.cond rfl ?_ ?_ <;> intro hc <;> (try simp only [go_sem] at hc))
    | (refine g_split ?_ ?_ <;> intro hc <;> (try simp only [hc]) <;> (try simp only [go_sem] at hc)))
    refine DW.loop (ι := { i : Nat // i ≤ ws.length }) (fun i => ⟨54, [(32, dI i.1), (31, dI ws.length), (30, dIs b2 ws), (11, .own 29), (10, dI (knS x l ws i.1).1), (7, dI 0), (6, .c (.v (.slice none 0 0))), (1, .c (.sl false 3 (rows eO l)))], [(29, .row 1 (rowC (rows eI (knS x l ws i.1).2)))]⟩) (fun i => ws.length - i.1) ⟨0, Nat.zero_le _⟩ ?_ ?_
    · refine Ent.to ?_ ?_ <;> simp (disch := omega) only [wkT_cons, wkX_cons, wkT_nil, wkX_nil, get, Nat.reduceEqDiff, ↓reduceIte, ex_some, wk_self, wk_top, wk_nil, wkB_self, and_self, dI, i64_in, and_true, true_and, Int.natCast_add, Int.natCast_one, Int.ofNat_zero, Int.natCast_zero, knS]
      all_goals first | exact ⟨.refl _, .refl _⟩ | exact .refl _
    rintro ⟨i, hi⟩
    dsimp only
    obtain ⟨m, hm, hk⟩ := knS_ok hx hor hw i hi
    rcases at_or ws i hi with ⟨n, hn, hlt, hd⟩ | ⟨he, hd⟩
    · obtain ⟨o, hoi⟩ := getE (l := l) (i := i) (by omega)
      have hob := (hor o (List.mem_of_getElem? hoi)).w
      have hnb := hw.b n (List.mem_of_getElem? hn)
      have hst := knS_step (x := x) hn hoi
      have hw4 : ws.length ≤ 4 := by omega
      generalize knS x l ws i = s at *
      repeat' (first
    | (with_reducible first | refine DW.seq ?_ | refine DW.block ?_ | refine DW.skip ?_ | refine DW.exit ?_ | refine DW.ret ?_ | refine DW.reg ?_)
    | (simp (disch := omega) only [go_sem, simprocAttr, Blk.men, Blk.keysIn, hd, hn])
    | (exact retS_of rfl rfl rfl)
    | (refine DW.cond_tt rfl ?_)
    | (refine DW.cond_ff rfl ?_)
    | (refine DW.cond rfl ?_ ?_ <;> intro hc <;> (try simp only [go_sem] at hc))
    | (refine g_split ?_ ?_ <;> intro hc <;> (try simp only [hc]) <;> (try simp only [go_sem] at hc)))
      refine DW.loop (ι := { j : Nat // j ≤ n.toNat }) (fun j => ⟨54, [(38, dI j.1), (37, dI n), (32, dI i), (31, dI ws.length), (30, dIs b2 ws), (12, dI i), (11, .own 29), (10, dI (knN s o.w j.1).1), (7, dI 0), (6, .c (.v (.slice none 0 0))), (1, .c (.sl false 3 (rows eO l)))], [(29, .row 1 (rowC (rows eI (knN s o.w j.1).2)))]⟩) (fun j => n.toNat - j.1) ⟨0, Nat.zero_le _⟩ ?_ ?_
      · refine Ent.to ?_ ?_ <;> simp (disch := omega) only [wkT_cons, wkX_cons, wkT_nil, wkX_nil, get, Nat.reduceEqDiff, ↓reduceIte, ex_some, wk_self, wk_top, wk_nil, wkB_self, and_self, dI, i64_in, and_true, true_and, Int.natCast_add, Int.natCast_one, Int.ofNat_zero, Int.natCast_zero, knN]
        all_goals first | exact ⟨.refl _, .refl _⟩ | exact .refl _
      rintro ⟨j, hj⟩
      dsimp only
      have hkj := hk.n hob j
      have hxj := hkj.x
      have hlj := hkj.len
      by_cases hjn : j < n.toNat
      · have hdj : decide ((j : Int) < n) = true := decide_eq_true (by omega)
        have e1 : (knN s o.w j).1 + o.w = (knN s o.w (j + 1)).1 := rfl
        have e2 : (knN s o.w j).2 ++ [(knN s o.w j).1 + o.w] = (knN s o.w (j + 1)).2 := rfl
        rw [e1] at e2
        have hb1 : 0 ≤ (knN s o.w (j + 1)).1 ∧ (knN s o.w (j + 1)).1 ≤ 1000000 := by rw [← e1]; omega
        repeat' (first
    | (with_reducible first | refine DW.seq ?_ | refine DW.block ?_ | refine DW.skip ?_ | refine DW.exit ?_ | refine DW.ret ?_ | refine DW.reg ?_)
    | (simp (disch := omega) only [go_sem, simprocAttr, Blk.men, Blk.keysIn, hdj, hoi, List.map_cons, List.map_nil, e1])
    | (exact retS_of rfl rfl rfl)
    | (refine DW.cond_tt rfl ?_)
    | (refine DW.cond_ff rfl ?_)
    | (refine DW.cond rfl ?_ ?_ <;> intro hc <;> (try simp only [go_sem] at hc))
    | (refine g_split ?_ ?_ <;> intro hc <;> (try simp only [hc]) <;> (try simp only [go_sem] at hc)))
        refine ⟨⟨j + 1, by omega⟩, ?_, Ent.to ?_ ?_⟩ <;> first | (show _ < _; (try simp only); omega) | (simp (disch := omega) only [wkT_cons, wkX_cons, wkT_nil, wkX_nil, get, Nat.reduceEqDiff, ↓reduceIte, ex_some, wk_self, wk_top, wk_nil, wkB_self, and_self, dI, i64_in, and_true, true_and, Int.natCast_add, Int.natCast_one, Int.ofNat_zero, Int.natCast_zero,  e2])
        all_goals first | exact ⟨.refl _, .refl _⟩ | exact .refl _
      · have hdj : decide ((j : Int) < n) = false := decide_eq_false (by omega)
        have hjn' : j = n.toNat := by omega
        subst hjn'
        repeat' (first
    | (with_reducible first | refine DW.seq ?_ | refine DW.block ?_ | refine DW.skip ?_ | refine DW.exit ?_ | refine DW.ret ?_ | refine DW.reg ?_)
    | (simp (disch := omega) only [go_sem, simprocAttr, Blk.men, Blk.keysIn, hdj])
    | (exact retS_of rfl rfl rfl)
    | (refine DW.cond_tt rfl ?_)
    | (refine DW.cond_ff rfl ?_)
    | (refine DW.cond rfl ?_ ?_ <;> intro hc <;> (try simp only [go_sem] at hc))
    | (refine g_split ?_ ?_ <;> intro hc <;> (try simp only [hc]) <;> (try simp only [go_sem] at hc)))
        refine ⟨⟨i + 1, hlt⟩, ?_, Ent.to ?_ ?_⟩ <;> first | (show _ < _; (try simp only); omega) | (simp (disch := omega) only [wkT_cons, wkX_cons, wkT_nil, wkX_nil, get, Nat.reduceEqDiff, ↓reduceIte, ex_some, wk_self, wk_top, wk_nil, wkB_self, and_self, dI, i64_in, and_true, true_and, Int.natCast_add, Int.natCast_one, Int.ofNat_zero, Int.natCast_zero,  hst])
        all_goals first | exact ⟨.refl _, .refl _⟩ | exact .refl _
    · subst he
      repeat' (first
    | (with_reducible first | refine DW.seq ?_ | refine DW.block ?_ | refine DW.skip ?_ | refine DW.exit ?_ | refine DW.ret ?_ | refine DW.reg ?_)
    | (simp (disch := omega) only [go_sem, simprocAttr, Blk.men, Blk.keysIn, hd])
    | (exact retS_of rfl rfl rfl)
    | (refine DW.cond_tt rfl ?_)
    | (refine DW.cond_ff rfl ?_)
    | (refine DW.cond rfl ?_ ?_ <;> intro hc <;> (try simp only [go_sem] at hc))
    | (refine g_split ?_ ?_ <;> intro hc <;> (try simp only [hc]) <;> (try simp only [go_sem] at hc)))
      (refine retS_ent (Ent.rel 29 rfl) ?_; simp (disch := omega) only [go_sem, simprocAttr, Blk.men, Blk.keysIn])
      refine retS_wk rfl ?_ (by simp only [Blk.nb, rowC_nb, D.nb, D.nbs, C.nb, C.nbs, C.nbss, rows_nb eI_nb, Bool.and_true, Bool.not_false, Bool.and_self, bD, dI, iD, rows_nb eO_nb]); exact .refl _
  · rw [knvD, if_neg h]
    have hd : (owE p l ws != 0) = true := by simpa using h
    generalize owE p l ws = e at *
    by_cases ho : openE p l = 0
    · rw [if_pos ho] at h1
      refine DCall.of Try.func48 sf48 hb48 (Nat.le_of_ble_eq_true rfl) (okRes_nil fun _ => rfl) ?_; simp only [s48, idxs, Nat.reduceAdd]
      repeat' (first
    | (with_reducible first | refine DW.seq ?_ | refine DW.block ?_ | refine DW.skip ?_ | refine DW.exit ?_ | refine DW.ret ?_ | refine DW.reg ?_)
    | (simp (disch := omega) only [go_sem, simprocAttr, Blk.men, Blk.keysIn, hd])
    | (exact retS_of rfl rfl rfl)
    | (refine DW.cond_tt rfl ?_)
    | (refine call_c (h1) (by decide) ?_)
    | (refine DW.cond_ff rfl ?_)
    | (refine DW.cond rfl ?_ ?_ <;> intro hc <;> (try simp only [go_sem] at hc))
    | (refine g_split ?_ ?_ <;> intro hc <;> (try simp only [hc]) <;> (try simp only [go_sem] at hc)))
    · rw [if_neg ho] at h1
      refine DCall.of Try.func48 sf48 hb48 (Nat.le_of_ble_eq_true rfl) (okRes_nil fun _ => rfl) ?_; simp only [s48, idxs, Nat.reduceAdd]
      repeat' (first
    | (with_reducible first | refine DW.seq ?_ | refine DW.block ?_ | refine DW.skip ?_ | refine DW.exit ?_ | refine DW.ret ?_ | refine DW.reg ?_)
    | (simp (disch := omega) only [go_sem, simprocAttr, Blk.men, Blk.keysIn, hd])
    | (exact retS_of rfl rfl rfl)
    | (refine DW.cond_tt rfl ?_)
    | (refine call_c (h1) (by decide) ?_)
    | (refine DW.cond_ff rfl ?_)
    | (refine DW.cond rfl ?_ ?_ <;> intro hc <;> (try simp only [go_sem] at hc))
    | (refine g_split ?_ ?_ <;> intro hc <;> (try simp only [hc]) <;> (try simp only [go_sem] at hc)))
end Go.Dw.Seat
end
section
set_option linter.unusedSimpArgs false
set_option maxRecDepth 100000
namespace Go.Dw.Seat
open Go Go.Dw Go.Proofs Go.IntWalk
theorem lexW_cmp : ∀ {s t : List Int}, s.length = t.length → lexW s t = !decide (0 ≤ cmpL s t)
  | [], [], _ => rfl
  | a :: s, b :: t, h => by
    rw [lexW, cmpL]
    have ih := lexW_cmp (s := s) (t := t) (by simpa using h)
    by_cases e : a = b
    · subst e
      rw [if_pos rfl, if_pos (by unfold cmpI; rw [if_neg (by omega), if_neg (by omega)]), ih]
    · rw [if_neg e]
      by_cases h1 : a < b
      · have hc : cmpI a b = -1 := by unfold cmpI; rw [if_pos h1]
        rw [hc, if_neg (by decide), decide_eq_true h1]; rfl
      · have hc : cmpI a b = 1 := by unfold cmpI; rw [if_neg h1, if_pos (by omega)]
        rw [hc, if_neg (by decide), decide_eq_false h1]; rfl
end Go.Dw.Seat
end
section
set_option linter.unusedSimpArgs false
set_option maxRecDepth 100000
namespace Go.Dw.Seat
open Go Go.Dw Go.Proofs Go.IntWalk
theorem wrong_does : ∀ (l : List TOrd) (g : List Int), g.length = l.length → decide (wrongI l g < 0) = doesB l g
  | l, g, h => by
    have key : ∀ (l : List TOrd) (g : List Int), g.length = l.length → (l.zip g).any wrO = !doesB l g := by
      intro l
      induction l with
      | nil => intro g _; simp [doesB]
      | cons o l ih =>
        intro g h
        cases g with
        | nil => cases h
        | cons v g =>
          rw [List.zip_cons_cons, List.any_cons, ih g (by simpa using h), doesB, wrO, wthn1]
          simp only [Bool.not_and]
    have h1 := key l g h
    have h2 := idxI_any wrO (l.zip g)
    rw [h1] at h2
    unfold wrongI
    cases hd : doesB l g <;> rw [hd] at h2 <;> simp at h2 ⊢ <;> omega
abbrev noneR : D := .tup []
def TryC (p : TPap) (l : List TOrd) (P : List (List Int)) (m : Nat) : Prop := ∀ (lm : Nat) (b2 : Bool) (i : Nat) (plan : List TStp) (waste : Int) (got : List Int) (S : Srch), i ≤ P.length → plan.length + m ≤ 3 → (0 ≤ waste ∧ waste ≤ 90000 * (plan.length : Int)) → got.length = l.length → (∀ v ∈ got, 0 ≤ v ∧ v ≤ 120 * (plan.length : Int)) →
  DCall Try.prog 94 [srD lm, dSt false plan, dI i, dI m, dI waste, dIs b2 got] [srB lm p l P S] noneR [srB lm p l P (tryF p l m (P.drop i) plan waste got S)]
set_option maxHeartbeats 2000000 in
theorem trTry0 (p : TPap) (l : List TOrd) (hl : l.length ≤ 4) (P : List (List Int)) : TryC p l P 0 := by
  intro lm b2 i plan waste got S hi hpl hw hg hgb
  have h1 := trWrong false b2 p l hl got hg
  have hwd := wrong_does l got hg
  have h2 := trCloneS false plan (by omega) 60
  refine DCall.of Try.func94 sf94 hb94 (Nat.le_of_ble_eq_true rfl) (srB_ok _ (fun _ => rfl) _ _ _ _ _) ?_
  simp only [s94, o94_0, o94_1, o94_2, o94_3, o94_4, o94_5, o94_6, o94_7, o94_8, o94_9, o94_10, o94_11, o94_12, o94_13, o94_14, o94_15, o94_16, o94_17, o94_18, o94_19, o94_20, o94_21, o94_22, o94_23, idxs, Nat.reduceAdd]
  have d0 : decide ((0 : Int) < ((0 : Nat) : Int)) = false := rfl
  have e0 : ((((0 : Nat) : Int)) == 0) = true := rfl
  rw [tryF, leafF]
  generalize wrongI l got = W at *
  obtain ⟨B, w, F⟩ := S
  dsimp only
  cases hd : doesB l got with
  | false =>
    rw [Bool.false_and, if_neg (by decide)]
    rw [hd] at hwd
    cases F with
    | false =>
      repeat' (first
    | (with_reducible first | refine DW.seq ?_ | refine DW.block ?_ | refine DW.skip ?_ | refine DW.exit ?_ | refine DW.ret ?_ | refine DW.reg ?_)
    | (refine DW.ord rfl (WF.of (by first | rfl | simp (disch := omega) only [go_sem, simprocAttr, bm_box, bm_row, bk_box, bk_row, d0, e0, hwd])) ?_ ?_ ?_; rotate_left)
    | rfl
    | (with_reducible refine And.intro ?_ ?_)
    | (simp (disch := omega) only [go_sem, simprocAttr, bm_box, bm_row, bk_box, bk_row, d0, e0, hwd])
    | (exact retS_of rfl rfl rfl)
    | (refine DW.cond_tt rfl ?_)
    | (refine call_c (h1) (by decide) ?_)
    | (refine DW.cond_ff rfl ?_)
    | (refine DW.cond rfl ?_ ?_ <;> intro hc <;> (try simp only [go_sem] at hc))
    | (refine g_split ?_ ?_ <;> intro hc <;> (try simp only [hc]) <;> (try simp only [go_sem] at hc)))
      exact retS_bs rfl rfl rfl (fun j x hj => by
        obtain ⟨rfl, rfl, hn⟩ := srB_nb lm p l P ⟨B, w, false⟩ hj
        exact ⟨rfl, hn⟩)
    | true =>
      cases hx : decide (w ≤ waste) with
      | true =>
        repeat' (first
    | (with_reducible first | refine DW.seq ?_ | refine DW.block ?_ | refine DW.skip ?_ | refine DW.exit ?_ | refine DW.ret ?_ | refine DW.reg ?_)
    | (refine DW.ord rfl (WF.of (by first | rfl | simp (disch := omega) only [go_sem, simprocAttr, bm_box, bm_row, bk_box, bk_row, d0, e0, hwd, hx])) ?_ ?_ ?_; rotate_left)
    | rfl
    | (with_reducible refine And.intro ?_ ?_)
    | (simp (disch := omega) only [go_sem, simprocAttr, bm_box, bm_row, bk_box, bk_row, d0, e0, hwd, hx])
    | (exact retS_of rfl rfl rfl)
    | (refine DW.cond_tt rfl ?_)
    | (refine call_c (h1) (by decide) ?_)
    | (refine DW.cond_ff rfl ?_)
    | (refine DW.cond rfl ?_ ?_ <;> intro hc <;> (try simp only [go_sem] at hc))
    | (refine g_split ?_ ?_ <;> intro hc <;> (try simp only [hc]) <;> (try simp only [go_sem] at hc)))
        exact retS_bs rfl rfl rfl (fun j x hj => by
          obtain ⟨rfl, rfl, hn⟩ := srB_nb lm p l P ⟨B, w, true⟩ hj
          exact ⟨rfl, hn⟩)
      | false =>
        repeat' (first
    | (with_reducible first | refine DW.seq ?_ | refine DW.block ?_ | refine DW.skip ?_ | refine DW.exit ?_ | refine DW.ret ?_ | refine DW.reg ?_)
    | (refine DW.ord rfl (WF.of (by first | rfl | simp (disch := omega) only [go_sem, simprocAttr, bm_box, bm_row, bk_box, bk_row, d0, e0, hwd, hx])) ?_ ?_ ?_; rotate_left)
    | rfl
    | (with_reducible refine And.intro ?_ ?_)
    | (simp (disch := omega) only [go_sem, simprocAttr, bm_box, bm_row, bk_box, bk_row, d0, e0, hwd, hx])
    | (exact retS_of rfl rfl rfl)
    | (refine DW.cond_tt rfl ?_)
    | (refine call_c (h1) (by decide) ?_)
    | (refine DW.cond_ff rfl ?_)
    | (refine DW.cond rfl ?_ ?_ <;> intro hc <;> (try simp only [go_sem] at hc))
    | (refine g_split ?_ ?_ <;> intro hc <;> (try simp only [hc]) <;> (try simp only [go_sem] at hc)))
        exact retS_bs rfl rfl rfl (fun j x hj => by
          obtain ⟨rfl, rfl, hn⟩ := srB_nb lm p l P ⟨B, w, true⟩ hj
          exact ⟨rfl, hn⟩)
  | true =>
    rw [Bool.true_and]
    rw [hd] at hwd
    cases F with
    | false =>
      rw [Bool.not_false, Bool.true_or, if_pos rfl]
      repeat' (first
    | (with_reducible first | refine DW.seq ?_ | refine DW.block ?_ | refine DW.skip ?_ | refine DW.exit ?_ | refine DW.ret ?_ | refine DW.reg ?_)
    | (refine DW.ord rfl (WF.of (by first | rfl | simp (disch := omega) only [go_sem, simprocAttr, bm_box, bm_row, bk_box, bk_row, d0, e0, hwd])) ?_ ?_ ?_; rotate_left)
    | rfl
    | (with_reducible refine And.intro ?_ ?_)
    | (simp (disch := omega) only [go_sem, simprocAttr, bm_box, bm_row, bk_box, bk_row, d0, e0, hwd])
    | (exact retS_of rfl rfl rfl)
    | (refine DW.cond_tt rfl ?_)
    | (refine call_c (h1) (by decide) ?_)
    | (refine DW.cond_ff rfl ?_)
    | (refine DW.cond rfl ?_ ?_ <;> intro hc <;> (try simp only [go_sem] at hc))
    | (refine g_split ?_ ?_ <;> intro hc <;> (try simp only [hc]) <;> (try simp only [go_sem] at hc)))
      (refine call_r (h2) (by decide) (by first | rfl | simp (disch := omega) only [go_sem, simprocAttr, bm_box, bm_row, bk_box, bk_row]) (by first | rfl | simp (disch := omega) only [go_sem, simprocAttr, bm_box, bm_row, bk_box, bk_row]) ?_; simp (disch := omega) only [go_sem, simprocAttr, bm_box, bm_row, bk_box, bk_row])
      repeat' (first
    | (with_reducible first | refine DW.seq ?_ | refine DW.block ?_ | refine DW.skip ?_ | refine DW.exit ?_ | refine DW.ret ?_ | refine DW.reg ?_)
    | (refine DW.ord rfl (WF.of (by first | rfl | simp (disch := omega) only [go_sem, simprocAttr, bm_box, bm_row, bk_box, bk_row])) ?_ ?_ ?_; rotate_left)
    | rfl
    | (with_reducible refine And.intro ?_ ?_)
    | (simp (disch := omega) only [go_sem, simprocAttr, bm_box, bm_row, bk_box, bk_row])
    | (exact retS_of rfl rfl rfl)
    | (refine DW.cond_tt rfl ?_)
    | (refine DW.cond_ff rfl ?_)
    | (refine DW.cond rfl ?_ ?_ <;> intro hc <;> (try simp only [go_sem] at hc))
    | (refine g_split ?_ ?_ <;> intro hc <;> (try simp only [hc]) <;> (try simp only [go_sem] at hc)))
      (refine retS_ent (Ent.rel 60 rfl) ?_; simp (disch := omega) only [go_sem, simprocAttr, bm_box, bm_row, bk_box, bk_row])
      exact retS_bs rfl rfl rfl (fun j x hj => by
        obtain ⟨rfl, rfl, hn⟩ := srB_nb lm p l P ⟨plan, waste, true⟩ hj
        exact ⟨rfl, hn⟩)
    | true =>
      rw [Bool.not_true, Bool.false_or]
      by_cases hx : waste < w
      · have hx1 : decide (waste < w) = true := decide_eq_true hx
        have hx2 : decide (w ≤ waste) = false := decide_eq_false (by omega)
        rw [if_pos hx1]
        repeat' (first
    | (with_reducible first | refine DW.seq ?_ | refine DW.block ?_ | refine DW.skip ?_ | refine DW.exit ?_ | refine DW.ret ?_ | refine DW.reg ?_)
    | (refine DW.ord rfl (WF.of (by first | rfl | simp (disch := omega) only [go_sem, simprocAttr, bm_box, bm_row, bk_box, bk_row, d0, e0, hwd, hx1, hx2])) ?_ ?_ ?_; rotate_left)
    | rfl
    | (with_reducible refine And.intro ?_ ?_)
    | (simp (disch := omega) only [go_sem, simprocAttr, bm_box, bm_row, bk_box, bk_row, d0, e0, hwd, hx1, hx2])
    | (exact retS_of rfl rfl rfl)
    | (refine DW.cond_tt rfl ?_)
    | (refine call_c (h1) (by decide) ?_)
    | (refine DW.cond_ff rfl ?_)
    | (refine DW.cond rfl ?_ ?_ <;> intro hc <;> (try simp only [go_sem] at hc))
    | (refine g_split ?_ ?_ <;> intro hc <;> (try simp only [hc]) <;> (try simp only [go_sem] at hc)))
        (refine call_r (h2) (by decide) (by first | rfl | simp (disch := omega) only [go_sem, simprocAttr, bm_box, bm_row, bk_box, bk_row]) (by first | rfl | simp (disch := omega) only [go_sem, simprocAttr, bm_box, bm_row, bk_box, bk_row]) ?_; simp (disch := omega) only [go_sem, simprocAttr, bm_box, bm_row, bk_box, bk_row])
        repeat' (first
    | (with_reducible first | refine DW.seq ?_ | refine DW.block ?_ | refine DW.skip ?_ | refine DW.exit ?_ | refine DW.ret ?_ | refine DW.reg ?_)
    | (refine DW.ord rfl (WF.of (by first | rfl | simp (disch := omega) only [go_sem, simprocAttr, bm_box, bm_row, bk_box, bk_row])) ?_ ?_ ?_; rotate_left)
    | rfl
    | (with_reducible refine And.intro ?_ ?_)
    | (simp (disch := omega) only [go_sem, simprocAttr, bm_box, bm_row, bk_box, bk_row])
    | (exact retS_of rfl rfl rfl)
    | (refine DW.cond_tt rfl ?_)
    | (refine DW.cond_ff rfl ?_)
    | (refine DW.cond rfl ?_ ?_ <;> intro hc <;> (try simp only [go_sem] at hc))
    | (refine g_split ?_ ?_ <;> intro hc <;> (try simp only [hc]) <;> (try simp only [go_sem] at hc)))
        (refine retS_ent (Ent.rel 60 rfl) ?_; simp (disch := omega) only [go_sem, simprocAttr, bm_box, bm_row, bk_box, bk_row])
        exact retS_bs rfl rfl rfl (fun j x hj => by
          obtain ⟨rfl, rfl, hn⟩ := srB_nb lm p l P ⟨plan, waste, true⟩ hj
          exact ⟨rfl, hn⟩)
      · have hx1 : decide (waste < w) = false := decide_eq_false hx
        have hx2 : decide (w ≤ waste) = true := decide_eq_true (by omega)
        rw [if_neg (by rw [hx1]; decide)]
        repeat' (first
    | (with_reducible first | refine DW.seq ?_ | refine DW.block ?_ | refine DW.skip ?_ | refine DW.exit ?_ | refine DW.ret ?_ | refine DW.reg ?_)
    | (refine DW.ord rfl (WF.of (by first | rfl | simp (disch := omega) only [go_sem, simprocAttr, bm_box, bm_row, bk_box, bk_row, d0, e0, hwd, hx1, hx2])) ?_ ?_ ?_; rotate_left)
    | rfl
    | (with_reducible refine And.intro ?_ ?_)
    | (simp (disch := omega) only [go_sem, simprocAttr, bm_box, bm_row, bk_box, bk_row, d0, e0, hwd, hx1, hx2])
    | (exact retS_of rfl rfl rfl)
    | (refine DW.cond_tt rfl ?_)
    | (refine call_c (h1) (by decide) ?_)
    | (refine DW.cond_ff rfl ?_)
    | (refine DW.cond rfl ?_ ?_ <;> intro hc <;> (try simp only [go_sem] at hc))
    | (refine g_split ?_ ?_ <;> intro hc <;> (try simp only [hc]) <;> (try simp only [go_sem] at hc)))
        exact retS_bs rfl rfl rfl (fun j x hj => by
          obtain ⟨rfl, rfl, hn⟩ := srB_nb lm p l P ⟨B, w, true⟩ hj
          exact ⟨rfl, hn⟩)
end Go.Dw.Seat
end
section
set_option linter.unusedSimpArgs false
set_option maxRecDepth 100000
namespace Go.Dw.Seat
open Go Go.Dw Go.Proofs Go.IntWalk
theorem sum_app : ∀ (a b : List Int), sumI (a ++ b) = sumI a + sumI b
  | [], b => by simp [sumI]
  | n :: a, b => by rw [List.cons_append, sumI, sumI, sum_app a b]; omega
theorem sum_nn : ∀ (a : List Int), (∀ n ∈ a, 0 ≤ n) → 0 ≤ sumI a
  | [], _ => by simp [sumI]
  | n :: a, h => by
    have h1 := h n (by simp)
    have h2 := sum_nn a (fun x hx => h x (by simp [hx]))
    rw [sumI]; omega
theorem pat_none (p : TPap) (l : List TOrd) (r : Nat) (ws : List Int) (hw : ∀ n ∈ ws, 0 ≤ n) (d : Int) (hd : p.webs < d) : (((allW r).map (d :: ·)).map (ws ++ ·)).filter (patB p l) = [] := by
  rw [List.filter_eq_nil_iff]
  intro w hm hp
  simp only [List.mem_map] at hm
  obtain ⟨t, ⟨u, hu, rfl⟩, rfl⟩ := hm
  have h1 := (patB_b hp).1.2
  rw [sum_app, sumI] at h1
  have h2 := sum_nn ws hw
  have h3 := sum_nn u (fun n hn => (((allW_spec r).2 u hu).2 n hn).1)
  omega
theorem patsX_pats (p : TPap) (hp : p.ok) (l : List TOrd) : ∀ (r : Nat) (ws : List Int), (∀ n ∈ ws, 0 ≤ n) → patsX p l r ws = ((allW r).map (ws ++ ·)).filter (patB p l)
  | 0, ws, _ => by
    simp only [patsX, allW, List.map_cons, List.map_nil, List.append_nil, List.filter_cons, List.filter_nil]
  | r + 1, ws, hw => by
    have hyes : ∀ d : Nat, patsX p l r (ws ++ [(d : Int)]) = (((allW r).map ((d : Int) :: ·)).map (ws ++ ·)).filter (patB p l) := fun d => by
      rw [patsX_pats p hp l r (ws ++ [(d : Int)]) (fun n hn => by
        simp only [List.mem_append, List.mem_singleton] at hn
        rcases hn with hn | rfl
        · exact hw n hn
        · omega), List.map_map]
      congr 2
      funext u
      simp
    have hno := pat_none p l r ws hw
    have hwb := hp.webs
    rw [patsX, allW, List.map_flatMap, List.filter_flatMap]
    simp only [hyes]
    generalize hG : (fun d : Int => (((allW r).map (d :: ·)).map (ws ++ ·)).filter (patB p l)) = G
    have hG' : ∀ d : Int, (((allW r).map (d :: ·)).map (ws ++ ·)).filter (patB p l) = G d := fun d => by rw [← hG]
    simp only [hG'] at hno ⊢
    have hc : p.webs = 1 ∨ p.webs = 2 ∨ p.webs = 3 ∨ p.webs = 4 := by omega
    rcases hc with e | e | e | e <;> rw [e] at hno ⊢
    · simp [List.range_succ, hno 2 (by decide), hno 3 (by decide), hno 4 (by decide)]
    · simp [List.range_succ, hno 3 (by decide), hno 4 (by decide)]
    · simp [List.range_succ, hno 4 (by decide)]
    · simp [List.range_succ]
theorem patsX_all (p : TPap) (hp : p.ok) (l : List TOrd) : patsX p l l.length [] = pats p l := by
  rw [patsX_pats p hp l l.length [] (by simp), pats]
  simp
end Go.Dw.Seat
end
section
set_option linter.unusedSimpArgs false
set_option maxRecDepth 100000
namespace Go.Dw.Seat
open Go Go.Dw Go.Proofs Go.IntWalk
theorem WsOk.ws4 {p : TPap} (hp : p.ok) {l : List TOrd} {ws : List Int} (h : WsOk p l ws) : Ws4 l ws := by
  refine ⟨h.len, fun n hn => ⟨h.nn n hn, ?_⟩⟩
  have h1 := (patB_b h.pat).1.2
  have h2 := hp.webs
  have : ∀ ws : List Int, (∀ n ∈ ws, 0 ≤ n) → ∀ n ∈ ws, n ≤ sumI ws := by
    intro ws
    induction ws with
    | nil => intro _ n hn; cases hn
    | cons a ws ih =>
      intro h n hn
      have h3 := sum_nn ws (fun x hx => h x (by simp [hx]))
      have h4 := h a (by simp)
      rw [sumI]
      rcases List.mem_cons.1 hn with rfl | hn
      · omega
      · have := ih (fun x hx => h x (by simp [hx])) n hn
        omega
  have := this ws h.nn n hn
  omega
theorem rows_snocS (q : List TStp) (ws : List Int) (r : Int) : rows eSt q ++ [[C.sl false 1 (rows eI ws), C.v (.int .i64 r)]] = rows eSt (q ++ [⟨ws, r⟩]) := by simp [rows, eSt]
theorem shut2 (ws : List Int) (r : Int) : shutEs [[D.c (.sl false 1 (rows eI ws)), D.c (.v (.int .i64 r))]] = some [[C.sl false 1 (rows eI ws), C.v (.int .i64 r)]] := rfl
theorem room_hi : ∀ (one : Bool) (l : List TOrd) (got ws : List Int) (lo hi : Int), 0 ≤ hi → (roomF one l got ws lo hi).2 ≤ hi
  | _, [], _, _, _, _, _ => by simp [roomF]
  | _, _ :: _, [], _, _, _, _ => by simp [roomF]
  | _, _ :: _, _ :: _, [], _, _, _ => by simp [roomF]
  | one, o :: l, g :: got, n :: ws, lo, hi, h => by
    have key : ∀ (l : List TOrd) (got ws : List Int) (lo hi' : Int), hi' ≤ hi → (roomF one l got ws lo hi').2 ≤ hi := by
      intro l
      induction l with
      | nil => intro got ws lo hi' h; simpa [roomF] using h
      | cons o l ih =>
        intro got ws lo hi' h'
        cases got with
        | nil => simpa [roomF] using h'
        | cons g got =>
          cases ws with
          | nil => simpa [roomF] using h'
          | cons n ws =>
            rw [roomF]
            split
            · exact ih _ _ _ _ (by rw [min2_eq]; omega)
            · split
              · exact h
              · exact ih _ _ _ _ h'
    exact key _ _ _ _ _ (Int.le_refl _)
theorem room_lo1 (one : Bool) (l : List TOrd) (got ws : List Int) (hi : Int) : 1 ≤ (roomF one l got ws 1 hi).1 := by
  cases one with
  | true => exact room_lo l got ws 1 hi (Int.le_refl _)
  | false =>
    have key : ∀ (l : List TOrd) (got ws : List Int) (hi : Int), 1 ≤ (roomF false l got ws 1 hi).1 := by
      intro l
      induction l with
      | nil => intro _ _ _; simp [roomF]
      | cons o l ih =>
        intro got ws hi
        cases got with
        | nil => simp [roomF]
        | cons g got =>
          cases ws with
          | nil => simp [roomF]
          | cons n ws =>
            rw [roomF]
            split
            · exact ih _ _ _
            · split
              · exact Int.le_refl _
              · exact ih _ _ _
    exact key _ _ _ _
theorem srRet (lm : Nat) (p : TPap) (l : List TOrd) (P : List (List Int)) (S : Srch) {σ : St} {e : Exit} (he : e = .ret ∨ e = .normal) (h : get 14 σ.bx = some (.pbox lm (srC p l P S))) : retS Try.prog [] noneR [srB lm p l P S] e σ :=
  ⟨he, σ, [], Ent.refl _, rfl, .refl _, rfl, fun j x hj => by
    obtain ⟨rfl, rfl, hn⟩ := srB_nb lm p l P S hj
    exact ⟨h, hn⟩⟩
set_option maxHeartbeats 4000000 in
theorem trTryS (p : TPap) (hp : p.ok) (l : List TOrd) (hl : l.length ≤ 4) (ho : ∀ o ∈ l, o.ok) (P : List (List Int)) (hP : ∀ ws ∈ P, WsOk p l ws) (hPl : P.length ≤ 625) (m : Nat) (ih : TryC p l P m) : TryC p l P (m + 1) := by
  intro lm b2 i plan waste got S hi hpl hw hg hgb
  refine DCall.of Try.func94 sf94 hb94 (Nat.le_of_ble_eq_true rfl) (srB_ok _ (fun _ => rfl) _ _ _ _ _) ?_
  simp only [s94, o94_0, o94_1, o94_2, o94_3, o94_4, o94_5, o94_6, o94_7, o94_8, o94_9, o94_10, o94_11, o94_12, o94_13, o94_14, o94_15, o94_16, o94_17, o94_18, o94_19, o94_20, o94_21, o94_22, o94_23, idxs, Nat.reduceAdd]
  obtain ⟨M, hM⟩ : ∃ M : Int, M = ((m + 1 : Nat) : Int) := ⟨_, rfl⟩
  rw [← hM]
  have d0 : decide ((0 : Int) < M) = true := decide_eq_true (by omega)
  have e0 : (M == 0) = false := by rw [beq_eq_false_iff_ne]; omega
  have sM : M - 1 = (m : Int) := by omega
  have e1 : (M == 1) = decide (m = 0) := by rw [Bool.eq_iff_iff, beq_iff_eq, decide_eq_true_eq]; omega
  rw [tryF]
  obtain ⟨B, w, F⟩ := S
  dsimp only
  cases hF : (F && decide (w ≤ waste)) with
  | true =>
    simp only [Bool.and_eq_true] at hF
    obtain ⟨rfl, hx⟩ := hF
    rw [if_pos rfl]
    repeat' (first
    | (with_reducible first | refine DW.seq ?_ | refine DW.block ?_ | refine DW.skip ?_ | refine DW.exit ?_ | refine DW.ret ?_ | refine DW.reg ?_)
    | (refine DW.ord rfl (WF.of (by first | rfl | simp (disch := omega) only [go_sem, simprocAttr, bm_box, bm_row, bk_box, bk_row, d0, hx])) ?_ ?_ ?_; rotate_left)
    | rfl
    | (with_reducible refine And.intro ?_ ?_)
    | (simp (disch := omega) only [go_sem, simprocAttr, bm_box, bm_row, bk_box, bk_row, d0, hx])
    | (exact retS_of rfl rfl rfl)
    | (refine DW.cond_tt rfl ?_)
    | (refine DW.cond_ff rfl ?_)
    | (refine DW.cond rfl ?_ ?_ <;> intro hc <;> (try simp only [go_sem] at hc))
    | (refine g_split ?_ ?_ <;> intro hc <;> (try simp only [hc]) <;> (try simp only [go_sem] at hc)))
    exact srRet lm p l P ⟨B, w, true⟩ (.inl rfl) rfl
  | false =>
    rw [if_neg (by decide)]
    generalize hR : loopF (tryF p l m) (decide (m = 0)) p l plan waste got (P.drop i) ⟨B, w, F⟩ = R
    have hcut : ∀ Q : Prop, (F = false → Q) → (F = true → decide (w ≤ waste) = false → Q) → Q := fun Q h1 h2 => by
      cases F with
      | false => exact h1 rfl
      | true => exact h2 rfl (by simpa using hF)
    refine DW.cut ⟨134, [(0, srD lm), (1, dSt false plan), (2, dI i), (3, dI M), (4, dI waste), (5, dIs b2 got)], [srB lm p l P ⟨B, w, F⟩]⟩ ?_ ?_
    · refine hcut _ (fun hf => ?_) (fun hf hx => ?_)
      · subst hf
        repeat' (first
    | (with_reducible first | refine DW.seq ?_ | refine DW.block ?_ | refine DW.skip ?_ | refine DW.exit ?_ | refine DW.ret ?_ | refine DW.reg ?_)
    | (refine DW.ord rfl (WF.of (by first | rfl | simp (disch := omega) only [go_sem, simprocAttr, bm_box, bm_row, bk_box, bk_row, d0])) ?_ ?_ ?_; rotate_left)
    | rfl
    | (with_reducible refine And.intro ?_ ?_)
    | (simp (disch := omega) only [go_sem, simprocAttr, bm_box, bm_row, bk_box, bk_row, d0])
    | (exact retS_of rfl rfl rfl)
    | (refine DW.cond_tt rfl ?_)
    | (refine DW.cond_ff rfl ?_)
    | (refine DW.cond rfl ?_ ?_ <;> intro hc <;> (try simp only [go_sem] at hc))
    | (refine g_split ?_ ?_ <;> intro hc <;> (try simp only [hc]) <;> (try simp only [go_sem] at hc)))
        refine Ent.to ?_ ?_ <;> simp (disch := omega) only [wkT_cons, wkX_cons, wkT_nil, wkX_nil, get, Nat.reduceEqDiff, ↓reduceIte, ex_some, wk_self, wk_top, wk_nil, wkB_self, and_self, dI, i64_in, and_true, true_and, Int.natCast_add, Int.natCast_one, Int.ofNat_zero, Int.natCast_zero]
        all_goals first | exact ⟨.refl _, .refl _⟩ | exact .refl _
      · subst hf
        repeat' (first
    | (with_reducible first | refine DW.seq ?_ | refine DW.block ?_ | refine DW.skip ?_ | refine DW.exit ?_ | refine DW.ret ?_ | refine DW.reg ?_)
    | (refine DW.ord rfl (WF.of (by first | rfl | simp (disch := omega) only [go_sem, simprocAttr, bm_box, bm_row, bk_box, bk_row, d0, hx])) ?_ ?_ ?_; rotate_left)
    | rfl
    | (with_reducible refine And.intro ?_ ?_)
    | (simp (disch := omega) only [go_sem, simprocAttr, bm_box, bm_row, bk_box, bk_row, d0, hx])
    | (exact retS_of rfl rfl rfl)
    | (refine DW.cond_tt rfl ?_)
    | (refine DW.cond_ff rfl ?_)
    | (refine DW.cond rfl ?_ ?_ <;> intro hc <;> (try simp only [go_sem] at hc))
    | (refine g_split ?_ ?_ <;> intro hc <;> (try simp only [hc]) <;> (try simp only [go_sem] at hc)))
        refine Ent.to ?_ ?_ <;> simp (disch := omega) only [wkT_cons, wkX_cons, wkT_nil, wkX_nil, get, Nat.reduceEqDiff, ↓reduceIte, ex_some, wk_self, wk_top, wk_nil, wkB_self, and_self, dI, i64_in, and_true, true_and, Int.natCast_add, Int.natCast_one, Int.ofNat_zero, Int.natCast_zero]
        all_goals first | exact ⟨.refl _, .refl _⟩ | exact .refl _
    repeat' (first
    | (with_reducible first | refine DW.seq ?_ | refine DW.block ?_ | refine DW.skip ?_ | refine DW.exit ?_ | refine DW.ret ?_ | refine DW.reg ?_)
    | (refine DW.ord rfl (WF.of (by first | rfl | simp (disch := omega) only [go_sem, simprocAttr, bm_box, bm_row, bk_box, bk_row, e0])) ?_ ?_ ?_; rotate_left)
    | rfl
    | (with_reducible refine And.intro ?_ ?_)
    | (simp (disch := omega) only [go_sem, simprocAttr, bm_box, bm_row, bk_box, bk_row, e0])
    | (exact retS_of rfl rfl rfl)
    | (refine DW.cond_tt rfl ?_)
    | (refine DW.cond_ff rfl ?_)
    | (refine DW.cond rfl ?_ ?_ <;> intro hc <;> (try simp only [go_sem] at hc))
    | (refine g_split ?_ ?_ <;> intro hc <;> (try simp only [hc]) <;> (try simp only [go_sem] at hc)))
    refine DW.loop (ι := { y : Nat × Srch // y.1 ≤ P.length ∧ loopF (tryF p l m) (decide (m = 0)) p l plan waste got (P.drop y.1) y.2 = R }) (fun y => ⟨134, [(12, dI y.1.1), (0, srD lm), (1, dSt false plan), (3, dI M), (4, dI waste), (5, dIs b2 got)], [srB lm p l P y.1.2]⟩) (fun y => P.length - y.1.1) ⟨(i, ⟨B, w, F⟩), hi, hR⟩ ?_ ?_
    · refine Ent.to ?_ ?_ <;> simp (disch := omega) only [wkT_cons, wkX_cons, wkT_nil, wkX_nil, get, Nat.reduceEqDiff, ↓reduceIte, ex_some, wk_self, wk_top, wk_nil, wkB_self, and_self, dI, i64_in, and_true, true_and, Int.natCast_add, Int.natCast_one, Int.ofNat_zero, Int.natCast_zero]
      all_goals first | exact ⟨.refl _, .refl _⟩ | exact .refl _
    clear hR hcut hF
    rintro ⟨⟨j, S⟩, hj, hR⟩
    dsimp only at hj hR ⊢
    rcases at_or P j hj with ⟨ws, hws, hlt, hd⟩ | ⟨he, hd⟩
    case inr =>
      rw [List.drop_eq_nil_of_le (by omega), loopF] at hR
      subst hR
      repeat' (first
    | (with_reducible first | refine DW.seq ?_ | refine DW.block ?_ | refine DW.skip ?_ | refine DW.exit ?_ | refine DW.ret ?_ | refine DW.reg ?_)
    | (refine DW.ord rfl (WF.of (by first | rfl | simp (disch := omega) only [go_sem, simprocAttr, bm_box, bm_row, bk_box, bk_row, hd])) ?_ ?_ ?_; rotate_left)
    | rfl
    | (with_reducible refine And.intro ?_ ?_)
    | (simp (disch := omega) only [go_sem, simprocAttr, bm_box, bm_row, bk_box, bk_row, hd])
    | (exact retS_of rfl rfl rfl)
    | (refine DW.cond_tt rfl ?_)
    | (refine DW.cond_ff rfl ?_)
    | (refine DW.cond rfl ?_ ?_ <;> intro hc <;> (try simp only [go_sem] at hc))
    | (refine g_split ?_ ?_ <;> intro hc <;> (try simp only [hc]) <;> (try simp only [go_sem] at hc)))
      exact srRet lm p l P S (.inr rfl) rfl
    have hwo := hP ws (List.mem_of_getElem? hws)
    have hw4 := hwo.ws4 hp
    have hdr : P.drop j = ws :: P.drop (j + 1) := by rw [List.drop_eq_getElem_cons hlt, (List.getElem_eq_iff hlt).2 hws]
    rw [hdr, loopF] at hR
    have hroom := trRoom b2 false (decide (m = 0)) lm p l hl ho P S got hg (fun v hv => by have := hgb v hv; omega) ws hw4
    have hlo := room_lo1 (decide (m = 0)) l got ws 30
    have hhi := room_hi (decide (m = 0)) l got ws 1 30 (by decide)
    generalize roomF (decide (m = 0)) l got ws 1 30 = RM at *
    obtain ⟨lo, hi⟩ := RM
    dsimp only at hroom hlo hhi hR
    repeat' (first
    | (with_reducible first | refine DW.seq ?_ | refine DW.block ?_ | refine DW.skip ?_ | refine DW.exit ?_ | refine DW.ret ?_ | refine DW.reg ?_)
    | (refine DW.ord rfl (WF.of (by first | rfl | simp (disch := omega) only [go_sem, simprocAttr, bm_box, bm_row, bk_box, bk_row, hd, hws, e1, List.map_cons, List.map_nil])) ?_ ?_ ?_; rotate_left)
    | rfl
    | (with_reducible refine And.intro ?_ ?_)
    | (simp (disch := omega) only [go_sem, simprocAttr, bm_box, bm_row, bk_box, bk_row, hd, hws, e1, List.map_cons, List.map_nil])
    | (exact retS_of rfl rfl rfl)
    | (refine DW.cond_tt rfl ?_)
    | (refine DW.cond_ff rfl ?_)
    | (refine DW.cond rfl ?_ ?_ <;> intro hc <;> (try simp only [go_sem] at hc))
    | (refine g_split ?_ ?_ <;> intro hc <;> (try simp only [hc]) <;> (try simp only [go_sem] at hc)))
    refine call_hk 14 hroom rfl rfl rfl (by simp (disch := omega) only [go_sem, simprocAttr, bm_box, bm_row, bk_box, bk_row, del]) (by decide) ?_
    simp (disch := omega) only [go_sem, simprocAttr, bm_box, bm_row, bk_box, bk_row, List.map_cons, List.map_nil, del]
    repeat' (first
    | (with_reducible first | refine DW.seq ?_ | refine DW.block ?_ | refine DW.skip ?_ | refine DW.exit ?_ | refine DW.ret ?_ | refine DW.reg ?_)
    | (refine DW.ord rfl (WF.of (by first | rfl | simp (disch := omega) only [go_sem, simprocAttr, bm_box, bm_row, bk_box, bk_row, List.map_cons, List.map_nil])) ?_ ?_ ?_; rotate_left)
    | rfl
    | (with_reducible refine And.intro ?_ ?_)
    | (simp (disch := omega) only [go_sem, simprocAttr, bm_box, bm_row, bk_box, bk_row, List.map_cons, List.map_nil])
    | (exact retS_of rfl rfl rfl)
    | (refine DW.cond_tt rfl ?_)
    | (refine DW.cond_ff rfl ?_)
    | (refine DW.cond rfl ?_ ?_ <;> intro hc <;> (try simp only [go_sem] at hc))
    | (refine g_split ?_ ?_ <;> intro hc <;> (try simp only [hc]) <;> (try simp only [go_sem] at hc)))
    have hpb := patB_b hwo.pat
    have hpt := hp.trim
    have htr := trTrim false false p hp l hl ho ws hw4
    have hcl := trClipS plan
    generalize hT : trimI p l ws = T at *
    rcases m with _ | m
    ·
      rw [decide_eq_true rfl] at *
      refine DW.loop (ι := Unit) (fun _ => ⟨134, [(14, dI lo), (13, .box 13 0), (12, dI j), (0, srD lm), (1, dSt false plan), (3, dI M), (4, dI waste), (5, dIs b2 got)], [srB lm p l P S, (13, .box [dI lo, dI hi])]⟩) (fun _ => 0) () ?_ ?_
      · refine Ent.to ?_ ?_ <;> simp (disch := omega) only [wkT_cons, wkX_cons, wkT_nil, wkX_nil, get, Nat.reduceEqDiff, ↓reduceIte, ex_some, wk_self, wk_top, wk_nil, wkB_self, and_self, dI, i64_in, and_true, true_and, Int.natCast_add, Int.natCast_one, Int.ofNat_zero, Int.natCast_zero]
        all_goals first | exact ⟨.refl _, .refl _⟩ | exact .refl _
      rintro ⟨⟩
      by_cases hc : lo ≤ hi
      · have hdc : decide (lo ≤ hi) = true := decide_eq_true hc
        have m1 : 0 ≤ T * lo := Int.mul_nonneg (by omega) (by omega)
        have m2 : T * lo ≤ 3000 * lo := Int.mul_le_mul_of_nonneg_right (by omega) (by omega)
        have had := trAdd b2 false got ws lo (fun v hv => by have := hgb v hv; omega) (by omega) (by have := hwo.len; omega) hw4.b (by omega)
        have hgb2 := addG_b hgb hw4.b (show 0 ≤ lo by omega)
        have hgl2 : (addG got ws lo).length = l.length := by rw [addG_len]; exact hg
        have w1 : IntKind.i64.wrap (T * lo) = T * lo := IntWalk.i64_in _ (by omega)
        have w2 : IntKind.i64.wrap (waste + T * lo) = waste + T * lo := IntWalk.i64_in _ (by omega)
        have hrec := ih lm false (j + 1) (plan ++ [⟨ws, lo⟩]) (waste + T * lo) (addG got ws lo) S hlt (by simp; omega) (by simp only [List.length_append, List.length_cons, List.length_nil, Int.natCast_add]; omega) hgl2 (fun v hv => by have := hgb2 v hv; simp only [List.length_append, List.length_cons, List.length_nil, Int.natCast_add]; omega)
        rw [cntF, if_pos rfl, if_pos hc] at hR
        simp only [runF] at hR
        rw [hT] at hR
        generalize addG got ws lo = G at *
        generalize tryF p l 0 (P.drop (j + 1)) (plan ++ [⟨ws, lo⟩]) (waste + T * lo) G S = S2 at *
        repeat' (first
    | (with_reducible first | refine DW.seq ?_ | refine DW.block ?_ | refine DW.skip ?_ | refine DW.exit ?_ | refine DW.ret ?_ | refine DW.reg ?_)
    | (refine DW.ord rfl (WF.of (by first | rfl | simp (disch := omega) only [go_sem, simprocAttr, bm_box, bm_row, bk_box, bk_row, hdc, hws, w1, w2, rows_snocS, sM, shut2, List.map_cons, List.map_nil])) ?_ ?_ ?_; rotate_left)
    | rfl
    | (with_reducible refine And.intro ?_ ?_)
    | (simp (disch := omega) only [go_sem, simprocAttr, bm_box, bm_row, bk_box, bk_row, hdc, hws, w1, w2, rows_snocS, sM, shut2, List.map_cons, List.map_nil])
    | (exact retS_of rfl rfl rfl)
    | (refine DW.cond_tt rfl ?_)
    | (refine call_c (hcl) (by decide) ?_)
    | (refine call_c (htr) (by decide) ?_)
    | (refine call_c (had) (by decide) ?_)
    | (refine DW.cond_ff rfl ?_)
    | (refine DW.cond rfl ?_ ?_ <;> intro hc <;> (try simp only [go_sem] at hc))
    | (refine g_split ?_ ?_ <;> intro hc <;> (try simp only [hc]) <;> (try simp only [go_sem] at hc)))
        refine call_hk 14 hrec rfl rfl rfl (by simp (disch := omega) only [go_sem, simprocAttr, bm_box, bm_row, bk_box, bk_row, del]) (by decide) ?_
        simp (disch := omega) only [go_sem, simprocAttr, bm_box, bm_row, bk_box, bk_row, List.map_cons, List.map_nil, del]
        repeat' (first
    | (with_reducible first | refine DW.seq ?_ | refine DW.block ?_ | refine DW.skip ?_ | refine DW.exit ?_ | refine DW.ret ?_ | refine DW.reg ?_)
    | (refine DW.ord rfl (WF.of (by first | rfl | simp (disch := omega) only [go_sem, simprocAttr, bm_box, bm_row, bk_box, bk_row, e1, List.map_cons, List.map_nil])) ?_ ?_ ?_; rotate_left)
    | rfl
    | (with_reducible refine And.intro ?_ ?_)
    | (simp (disch := omega) only [go_sem, simprocAttr, bm_box, bm_row, bk_box, bk_row, e1, List.map_cons, List.map_nil])
    | (exact retS_of rfl rfl rfl)
    | (refine DW.cond_tt rfl ?_)
    | (refine DW.cond_ff rfl ?_)
    | (refine DW.cond rfl ?_ ?_ <;> intro hc <;> (try simp only [go_sem] at hc))
    | (refine g_split ?_ ?_ <;> intro hc <;> (try simp only [hc]) <;> (try simp only [go_sem] at hc)))
        refine ⟨⟨(j + 1, S2), hlt, hR⟩, ?_, Ent.to ?_ ?_⟩ <;> first | (show _ < _; (try simp only); omega) | (simp (disch := omega) only [wkT_cons, wkX_cons, wkT_nil, wkX_nil, get, Nat.reduceEqDiff, ↓reduceIte, ex_some, wk_self, wk_top, wk_nil, wkB_self, and_self, dI, i64_in, and_true, true_and, Int.natCast_add, Int.natCast_one, Int.ofNat_zero, Int.natCast_zero])
        all_goals first | exact ⟨.refl _, .refl _⟩ | exact .refl _
      · have hdc : decide (lo ≤ hi) = false := decide_eq_false hc
        rw [cntF, if_pos rfl, if_neg hc] at hR
        simp only [runF] at hR
        repeat' (first
    | (with_reducible first | refine DW.seq ?_ | refine DW.block ?_ | refine DW.skip ?_ | refine DW.exit ?_ | refine DW.ret ?_ | refine DW.reg ?_)
    | (refine DW.ord rfl (WF.of (by first | rfl | simp (disch := omega) only [go_sem, simprocAttr, bm_box, bm_row, bk_box, bk_row, hdc])) ?_ ?_ ?_; rotate_left)
    | rfl
    | (with_reducible refine And.intro ?_ ?_)
    | (simp (disch := omega) only [go_sem, simprocAttr, bm_box, bm_row, bk_box, bk_row, hdc])
    | (exact retS_of rfl rfl rfl)
    | (refine DW.cond_tt rfl ?_)
    | (refine DW.cond_ff rfl ?_)
    | (refine DW.cond rfl ?_ ?_ <;> intro hc <;> (try simp only [go_sem] at hc))
    | (refine g_split ?_ ?_ <;> intro hc <;> (try simp only [hc]) <;> (try simp only [go_sem] at hc)))
        refine ⟨⟨(j + 1, S), hlt, hR⟩, ?_, Ent.to ?_ ?_⟩ <;> first | (show _ < _; (try simp only); omega) | (simp (disch := omega) only [wkT_cons, wkX_cons, wkT_nil, wkX_nil, get, Nat.reduceEqDiff, ↓reduceIte, ex_some, wk_self, wk_top, wk_nil, wkB_self, and_self, dI, i64_in, and_true, true_and, Int.natCast_add, Int.natCast_one, Int.ofNat_zero, Int.natCast_zero])
        all_goals first | exact ⟨.refl _, .refl _⟩ | exact .refl _
    ·
      rw [decide_eq_false (Nat.succ_ne_zero m)] at *
      rw [cntF, if_neg (by decide)] at hR
      refine DW.loop (ι := { y : Int × Srch // 1 ≤ y.1 ∧ loopF (tryF p l (m + 1)) false p l plan waste got (P.drop (j + 1)) (runF (tryF p l (m + 1) (P.drop (j + 1))) p l ws plan waste got (hi - y.1 + 1).toNat y.1 y.2) = R }) (fun y => ⟨134, [(14, dI y.1.1), (13, .box 13 0), (12, dI j), (0, srD lm), (1, dSt false plan), (3, dI M), (4, dI waste), (5, dIs b2 got)], [srB lm p l P y.1.2, (13, .box [dI lo, dI hi])]⟩) (fun y => (hi - y.1.1 + 1).toNat) ⟨(lo, S), hlo, hR⟩ ?_ ?_
      · refine Ent.to ?_ ?_ <;> simp (disch := omega) only [wkT_cons, wkX_cons, wkT_nil, wkX_nil, get, Nat.reduceEqDiff, ↓reduceIte, ex_some, wk_self, wk_top, wk_nil, wkB_self, and_self, dI, i64_in, and_true, true_and, Int.natCast_add, Int.natCast_one, Int.ofNat_zero, Int.natCast_zero]
        all_goals first | exact ⟨.refl _, .refl _⟩ | exact .refl _
      clear hR hroom
      rintro ⟨⟨r, S1⟩, hr, hR⟩
      dsimp only at hr hR ⊢
      by_cases hc : r ≤ hi
      · have hdc : decide (r ≤ hi) = true := decide_eq_true hc
        have m1 : 0 ≤ T * r := Int.mul_nonneg (by omega) (by omega)
        have m2 : T * r ≤ 3000 * r := Int.mul_le_mul_of_nonneg_right (by omega) (by omega)
        have had := trAdd b2 false got ws r (fun v hv => by have := hgb v hv; omega) (by omega) (by have := hwo.len; omega) hw4.b (by omega)
        have hgb2 := addG_b hgb hw4.b (show 0 ≤ r by omega)
        have hgl2 : (addG got ws r).length = l.length := by rw [addG_len]; exact hg
        have w1 : IntKind.i64.wrap (T * r) = T * r := IntWalk.i64_in _ (by omega)
        have w2 : IntKind.i64.wrap (waste + T * r) = waste + T * r := IntWalk.i64_in _ (by omega)
        have hrec := ih lm false (j + 1) (plan ++ [⟨ws, r⟩]) (waste + T * r) (addG got ws r) S1 hlt (by simp; omega) (by simp only [List.length_append, List.length_cons, List.length_nil, Int.natCast_add]; omega) hgl2 (fun v hv => by have := hgb2 v hv; simp only [List.length_append, List.length_cons, List.length_nil, Int.natCast_add]; omega)
        have ec : (hi - r + 1).toNat = (hi - (r + 1) + 1).toNat + 1 := by omega
        rw [ec, runF, hT] at hR
        generalize addG got ws r = G at *
        generalize tryF p l (m + 1) (P.drop (j + 1)) (plan ++ [⟨ws, r⟩]) (waste + T * r) G S1 = S2 at *
        repeat' (first
    | (with_reducible first | refine DW.seq ?_ | refine DW.block ?_ | refine DW.skip ?_ | refine DW.exit ?_ | refine DW.ret ?_ | refine DW.reg ?_)
    | (refine DW.ord rfl (WF.of (by first | rfl | simp (disch := omega) only [go_sem, simprocAttr, bm_box, bm_row, bk_box, bk_row, hdc, hws, w1, w2, rows_snocS, sM, shut2, List.map_cons, List.map_nil])) ?_ ?_ ?_; rotate_left)
    | rfl
    | (with_reducible refine And.intro ?_ ?_)
    | (simp (disch := omega) only [go_sem, simprocAttr, bm_box, bm_row, bk_box, bk_row, hdc, hws, w1, w2, rows_snocS, sM, shut2, List.map_cons, List.map_nil])
    | (exact retS_of rfl rfl rfl)
    | (refine DW.cond_tt rfl ?_)
    | (refine call_c (hcl) (by decide) ?_)
    | (refine call_c (htr) (by decide) ?_)
    | (refine call_c (had) (by decide) ?_)
    | (refine DW.cond_ff rfl ?_)
    | (refine DW.cond rfl ?_ ?_ <;> intro hc <;> (try simp only [go_sem] at hc))
    | (refine g_split ?_ ?_ <;> intro hc <;> (try simp only [hc]) <;> (try simp only [go_sem] at hc)))
        refine call_hk 14 hrec rfl rfl rfl (by simp (disch := omega) only [go_sem, simprocAttr, bm_box, bm_row, bk_box, bk_row, del]) (by decide) ?_
        simp (disch := omega) only [go_sem, simprocAttr, bm_box, bm_row, bk_box, bk_row, List.map_cons, List.map_nil, del]
        repeat' (first
    | (with_reducible first | refine DW.seq ?_ | refine DW.block ?_ | refine DW.skip ?_ | refine DW.exit ?_ | refine DW.ret ?_ | refine DW.reg ?_)
    | (refine DW.ord rfl (WF.of (by first | rfl | simp (disch := omega) only [go_sem, simprocAttr, bm_box, bm_row, bk_box, bk_row, e1, List.map_cons, List.map_nil])) ?_ ?_ ?_; rotate_left)
    | rfl
    | (with_reducible refine And.intro ?_ ?_)
    | (simp (disch := omega) only [go_sem, simprocAttr, bm_box, bm_row, bk_box, bk_row, e1, List.map_cons, List.map_nil])
    | (exact retS_of rfl rfl rfl)
    | (refine DW.cond_tt rfl ?_)
    | (refine DW.cond_ff rfl ?_)
    | (refine DW.cond rfl ?_ ?_ <;> intro hc <;> (try simp only [go_sem] at hc))
    | (refine g_split ?_ ?_ <;> intro hc <;> (try simp only [hc]) <;> (try simp only [go_sem] at hc)))
        refine ⟨⟨(r + 1, S2), by omega, hR⟩, ?_, Ent.to ?_ ?_⟩ <;> first | (show _ < _; (try simp only); omega) | (simp (disch := omega) only [wkT_cons, wkX_cons, wkT_nil, wkX_nil, get, Nat.reduceEqDiff, ↓reduceIte, ex_some, wk_self, wk_top, wk_nil, wkB_self, and_self, dI, i64_in, and_true, true_and, Int.natCast_add, Int.natCast_one, Int.ofNat_zero, Int.natCast_zero])
        all_goals first | exact ⟨.refl _, .refl _⟩ | exact .refl _
      · have hdc : decide (r ≤ hi) = false := decide_eq_false hc
        have ec : (hi - r + 1).toNat = 0 := by omega
        rw [ec, runF] at hR
        repeat' (first
    | (with_reducible first | refine DW.seq ?_ | refine DW.block ?_ | refine DW.skip ?_ | refine DW.exit ?_ | refine DW.ret ?_ | refine DW.reg ?_)
    | (refine DW.ord rfl (WF.of (by first | rfl | simp (disch := omega) only [go_sem, simprocAttr, bm_box, bm_row, bk_box, bk_row, hdc])) ?_ ?_ ?_; rotate_left)
    | rfl
    | (with_reducible refine And.intro ?_ ?_)
    | (simp (disch := omega) only [go_sem, simprocAttr, bm_box, bm_row, bk_box, bk_row, hdc])
    | (exact retS_of rfl rfl rfl)
    | (refine DW.cond_tt rfl ?_)
    | (refine DW.cond_ff rfl ?_)
    | (refine DW.cond rfl ?_ ?_ <;> intro hc <;> (try simp only [go_sem] at hc))
    | (refine g_split ?_ ?_ <;> intro hc <;> (try simp only [hc]) <;> (try simp only [go_sem] at hc)))
        refine ⟨⟨(j + 1, S1), hlt, hR⟩, ?_, Ent.to ?_ ?_⟩ <;> first | (show _ < _; (try simp only); omega) | (simp (disch := omega) only [wkT_cons, wkX_cons, wkT_nil, wkX_nil, get, Nat.reduceEqDiff, ↓reduceIte, ex_some, wk_self, wk_top, wk_nil, wkB_self, and_self, dI, i64_in, and_true, true_and, Int.natCast_add, Int.natCast_one, Int.ofNat_zero, Int.natCast_zero])
        all_goals first | exact ⟨.refl _, .refl _⟩ | exact .refl _
theorem trTry (p : TPap) (hp : p.ok) (l : List TOrd) (hl : l.length ≤ 4) (ho : ∀ o ∈ l, o.ok) (P : List (List Int)) (hP : ∀ ws ∈ P, WsOk p l ws) (hPl : P.length ≤ 625) : ∀ m, TryC p l P m
  | 0 => trTry0 p l hl P
  | m + 1 => trTryS p hp l hl ho P hP hPl m (trTry p hp l hl ho P hP hPl m)
end Go.Dw.Seat
end
section
set_option linter.unusedSimpArgs false
set_option maxRecDepth 100000
namespace Go.Dw.Seat
open Go Go.Dw Go.Proofs Go.IntWalk
def planD (r : Option (List TStp × Int)) : D := match r with
  | some x => .tup [dSt false x.1, dI x.2, bD true]
  | none => .tup [.c (.v (.slice none 0 0)), dI 0, bD false]
set_option maxHeartbeats 2000000 in
theorem trPlanM (p : TPap) (hp : p.ok) (l : List TOrd) (hl : l.length ≤ 4) (ho : ∀ o ∈ l, o.ok) : DCall Try.prog 67 [macD false p l] [] (planD (planF p l)) [] := by
  have hall := trAll p hp l hl ho
  have hPl := patsX_len4 p hp l hl
  rw [patsX_all p hp l] at hall hPl
  have htry := trTry p hp l hl ho (pats p l) (pats_ok p l).ok hPl
  have hpf : planF p l = (List.range 4).findSome? fun n => if (srch p l n).found then some ((srch p l n).best, (srch p l n).waste) else none := rfl
  have hsr : ∀ n, srch p l n = tryF p l n ((pats p l).drop 0) [] 0 (zeros l.length) ⟨[], 0, false⟩ := fun n => rfl
  generalize pats p l = P at *
  generalize hR : planF p l = R at *
  refine DCall.of Try.func67 sf67 hb67 (Nat.le_of_ble_eq_true rfl) (okRes_nil fun _ => by rcases R with _ | ⟨q, w⟩ <;> rfl) ?_
  simp only [s67, idxs, Nat.reduceAdd]
  repeat' (first
    | (with_reducible first | refine DW.seq ?_ | refine DW.block ?_ | refine DW.skip ?_ | refine DW.exit ?_ | refine DW.ret ?_ | refine DW.reg ?_)
    | (refine DW.dreg rfl (WF.of ?_) ?_; first | rfl | skip)
    | (simp (disch := omega) only [go_sem, simprocAttr, bm_box, bm_row, bk_box, bk_row])
    | (exact retS_of rfl rfl rfl)
    | (refine DW.cond_tt rfl ?_)
    | (refine DW.cond_ff rfl ?_)
    | (refine DW.cond rfl ?_ ?_ <;> intro hc <;> (try simp only [go_sem] at hc))
    | (refine g_split ?_ ?_ <;> intro hc <;> (try simp only [hc]) <;> (try simp only [go_sem] at hc)))
  refine DW.loop (ι := { n : Nat // n ≤ 4 ∧ ((List.range 4).drop n).findSome? (fun n => if (srch p l n).found then some ((srch p l n).best, (srch p l n).waste) else none) = R }) (fun n => ⟨35, [(7, dI n.1), (1, .box 1 0)], [(1, .box [dI p.wide, dI p.tl, dI p.th, dI p.webs, .c (.sl false 3 (rows eO l))])]⟩) (fun n => 4 - n.1) ⟨0, Nat.zero_le _, hpf.symm⟩ ?_ ?_
  · refine Ent.to ?_ ?_ <;> simp (disch := omega) only [wkT_cons, wkX_cons, wkT_nil, wkX_nil, get, Nat.reduceEqDiff, ↓reduceIte, ex_some, wk_self, wk_top, wk_nil, wkB_self, and_self, dI, i64_in, and_true, true_and, Int.natCast_add, Int.natCast_one, Int.ofNat_zero, Int.natCast_zero]
    all_goals first | exact ⟨.refl _, .refl _⟩ | exact .refl _
  rintro ⟨n, hn, hf⟩
  dsimp only at hn hf ⊢
  by_cases h4 : n < 4
  · have hd : decide ((n : Int) < 4) = true := decide_eq_true (by omega)
    have hdr : (List.range 4).drop n = n :: (List.range 4).drop (n + 1) := by
      rw [List.drop_eq_getElem_cons (by simpa using h4)]; simp
    rw [hdr, List.findSome?_cons] at hf
    have hs := hsr n
    repeat' (first
    | (with_reducible first | refine DW.seq ?_ | refine DW.block ?_ | refine DW.skip ?_ | refine DW.exit ?_ | refine DW.ret ?_ | refine DW.reg ?_)
    | (refine DW.dreg rfl (WF.of ?_) ?_; first | rfl | skip)
    | (simp (disch := omega) only [go_sem, simprocAttr, bm_box, bm_row, bk_box, bk_row, hd])
    | (exact retS_of rfl rfl rfl)
    | (refine DW.cond_tt rfl ?_)
    | (refine DW.cond_ff rfl ?_)
    | (refine DW.cond rfl ?_ ?_ <;> intro hc <;> (try simp only [go_sem] at hc))
    | (refine g_split ?_ ?_ <;> intro hc <;> (try simp only [hc]) <;> (try simp only [go_sem] at hc)))
    (refine call_c (hall) (by decide) ?_; simp (disch := omega) only [go_sem, simprocAttr, bm_box, bm_row, bk_box, bk_row])
    refine DW.ent (Ent.to (tm' := [(7, dI n), (6, .box 14 0), (5, dI n), (1, .box 1 0)]) (bx' := [(14, .box (srC p l P ⟨[], 0, false⟩)), (1, .box [dI p.wide, dI p.tl, dI p.th, dI p.webs, .c (.sl false 3 (rows eO l))])]) ?_ ?_) ?_
    · simp (disch := omega) only [wkT_cons, wkX_cons, wkT_nil, wkX_nil, get, Nat.reduceEqDiff, ↓reduceIte, ex_some, wk_self, wk_top, wk_nil, wkB_self, and_self, dI, i64_in, and_true, true_and, Int.natCast_add, Int.natCast_one, Int.ofNat_zero, Int.natCast_zero]
    · simp (disch := omega) only [wkT_cons, wkX_cons, wkT_nil, wkX_nil, get, Nat.reduceEqDiff, ↓reduceIte, ex_some, wk_self, wk_top, wk_nil, wkB_self, and_self, dI, i64_in, and_true, true_and, Int.natCast_add, Int.natCast_one, Int.ofNat_zero, Int.natCast_zero]
      exact .box (.cons (.refl _) (.cons (.refl _) (.cons (.refl _) (.cons (.refl _) (.cons (.refl _) (.cons (.refl _) (.cons (.nil _ _) (.cons (.refl _) (.cons (.refl _) .nil)))))))))
    refine DW.pin 14 rfl rfl fun lm => ?_
    simp (disch := omega) only [go_sem, simprocAttr, bm_box, bm_row, bk_box, bk_row, pinT, pinX, pinD, pinDs, pinB, pinO]
    have htn := DCall.weakA (l := [srD lm, .c (.v (.slice none 0 0)), dI (0 : Nat), dI n, dI 0, dIs true (zeros l.length)]) (htry n lm true 0 [] 0 (zeros l.length) ⟨[], 0, false⟩ (Nat.zero_le _) (by simp; omega) (by simp) (by simp [zeros]) (fun v hv => by have := List.eq_of_mem_replicate hv; subst this; simp)) (.cons (.inl rfl) (.cons (.inr ⟨_, _, rfl, rfl, .nil _ _⟩) (.cons (.inl rfl) (.cons (.inl rfl) (.cons (.inl rfl) (.cons (.inl rfl) .nil))))))
    rw [← hs] at htn
    generalize srch p l n = S at *
    obtain ⟨B, w, F⟩ := S
    repeat' (first
    | (with_reducible first | refine DW.seq ?_ | refine DW.block ?_ | refine DW.skip ?_ | refine DW.exit ?_ | refine DW.ret ?_ | refine DW.reg ?_)
    | (refine DW.dreg rfl (WF.of ?_) ?_; first | rfl | skip)
    | (simp (disch := omega) only [go_sem, simprocAttr, bm_box, bm_row, bk_box, bk_row])
    | (exact retS_of rfl rfl rfl)
    | (refine DW.cond_tt rfl ?_)
    | (refine DW.cond_ff rfl ?_)
    | (refine DW.cond rfl ?_ ?_ <;> intro hc <;> (try simp only [go_sem] at hc))
    | (refine g_split ?_ ?_ <;> intro hc <;> (try simp only [hc]) <;> (try simp only [go_sem] at hc)))
    refine call_hk 14 htn rfl rfl (by simp (disch := omega) only [go_sem, simprocAttr, bm_box, bm_row, bk_box, bk_row, del, zeros, List.map_nil]) (by simp (disch := omega) only [go_sem, simprocAttr, bm_box, bm_row, bk_box, bk_row, del]) (by decide) ?_
    simp (disch := omega) only [go_sem, simprocAttr, bm_box, bm_row, bk_box, bk_row, del]
    cases F with
    | true =>
      dsimp only at hf
      rw [if_pos rfl] at hf
      cases hf
      simp only [planD]
      repeat' (first
    | (with_reducible first | refine DW.seq ?_ | refine DW.block ?_ | refine DW.skip ?_ | refine DW.exit ?_ | refine DW.ret ?_ | refine DW.reg ?_)
    | (refine DW.dreg rfl (WF.of ?_) ?_; first | rfl | skip)
    | (simp (disch := omega) only [go_sem, simprocAttr, bm_box, bm_row, bk_box, bk_row])
    | (exact retS_of rfl rfl rfl)
    | (refine DW.cond_tt rfl ?_)
    | (refine DW.cond_ff rfl ?_)
    | (refine DW.cond rfl ?_ ?_ <;> intro hc <;> (try simp only [go_sem] at hc))
    | (refine g_split ?_ ?_ <;> intro hc <;> (try simp only [hc]) <;> (try simp only [go_sem] at hc)))
      refine retS_wk rfl ?_ (by simp only [Blk.nb, rowC_nb, D.nb, D.nbs, C.nb, C.nbs, C.nbss, rows_nb eI_nb, Bool.and_true, Bool.not_false, Bool.and_self, bD, dI, iD, rows_nb eO_nb, rows_nb eSt_nb, rows_nb eWs_nb]); exact .refl _
    | false =>
      dsimp only at hf
      rw [if_neg (by decide)] at hf
      repeat' (first
    | (with_reducible first | refine DW.seq ?_ | refine DW.block ?_ | refine DW.skip ?_ | refine DW.exit ?_ | refine DW.ret ?_ | refine DW.reg ?_)
    | (refine DW.dreg rfl (WF.of ?_) ?_; first | rfl | skip)
    | (simp (disch := omega) only [go_sem, simprocAttr, bm_box, bm_row, bk_box, bk_row])
    | (exact retS_of rfl rfl rfl)
    | (refine DW.cond_tt rfl ?_)
    | (refine DW.cond_ff rfl ?_)
    | (refine DW.cond rfl ?_ ?_ <;> intro hc <;> (try simp only [go_sem] at hc))
    | (refine g_split ?_ ?_ <;> intro hc <;> (try simp only [hc]) <;> (try simp only [go_sem] at hc)))
      refine ⟨⟨n + 1, by omega, hf⟩, ?_, Ent.to ?_ ?_⟩ <;> first | (show _ < _; (try simp only); omega) | (simp (disch := omega) only [wkT_cons, wkX_cons, wkT_nil, wkX_nil, get, Nat.reduceEqDiff, ↓reduceIte, ex_some, wk_self, wk_top, wk_nil, wkB_self, and_self, dI, i64_in, and_true, true_and, Int.natCast_add, Int.natCast_one, Int.ofNat_zero, Int.natCast_zero])
      all_goals first | exact ⟨.refl _, .refl _⟩ | exact .refl _
  · have hd : decide ((n : Int) < 4) = false := decide_eq_false (by omega)
    obtain rfl : n = 4 := by omega
    subst hf
    repeat' (first
    | (with_reducible first | refine DW.seq ?_ | refine DW.block ?_ | refine DW.skip ?_ | refine DW.exit ?_ | refine DW.ret ?_ | refine DW.reg ?_)
    | (refine DW.dreg rfl (WF.of ?_) ?_; first | rfl | skip)
    | (simp (disch := omega) only [go_sem, simprocAttr, bm_box, bm_row, bk_box, bk_row, hd])
    | (exact retS_of rfl rfl rfl)
    | (refine DW.cond_tt rfl ?_)
    | (refine DW.cond_ff rfl ?_)
    | (refine DW.cond rfl ?_ ?_ <;> intro hc <;> (try simp only [go_sem] at hc))
    | (refine g_split ?_ ?_ <;> intro hc <;> (try simp only [hc]) <;> (try simp only [go_sem] at hc)))
end Go.Dw.Seat
end
section
set_option linter.unusedSimpArgs false
set_option maxRecDepth 100000
namespace Go.Dw.Seat
open Go Go.Dw Go.Proofs Go.IntWalk
theorem rowC_snocS (q : List TStp) (s : TStp) : rowC (rows eSt q) ++ [[D.c (.sl false 1 (rows eI s.ws)), D.c (.v (.int .i64 s.run))]] = rowC (rows eSt (q ++ [s])) := by simp [rowC, rows, eSt]
set_option maxHeartbeats 2000000 in
theorem trOwn (b : Bool) (q : List TStp) (hq : q.length ≤ 1000) (hw : ∀ s ∈ q, s.ws.length ≤ 2 ^ 36) : DCall Try.prog 68 [dSt b q] [] (dSt false q) [] := by
  refine DCall.of Try.func68 sf68 hb68 (Nat.le_of_ble_eq_true rfl) (okRes_nil fun _ => rfl) ?_; simp only [s68, idxs, Nat.reduceAdd]
  repeat' (first
    | (with_reducible first | refine DW.seq ?_ | refine DW.block ?_ | refine DW.skip ?_ | refine DW.exit ?_ | refine DW.ret ?_ | refine DW.reg ?_)
    | (refine DW.dreg rfl (WF.of ?_) ?_; first | rfl | skip)
    | (simp (disch := omega) only [go_sem, simprocAttr, bm_box, bm_row, bk_box, bk_row])
    | (exact retS_of rfl rfl rfl)
    | (refine DW.cond_tt rfl ?_)
    | (refine DW.cond_ff rfl ?_)
    | (refine DW.cond rfl ?_ ?_ <;> intro hc <;> (try simp only [go_sem] at hc))
    | (refine g_split ?_ ?_ <;> intro hc <;> (try simp only [hc]) <;> (try simp only [go_sem] at hc)))
  refine DW.ent (Ent.adopt 2 19 2 rfl rfl rfl) ?_
  refine DW.loop (ι := { i : Nat // i ≤ q.length }) (fun i => ⟨22, [(7, dI i.1), (6, dI q.length), (5, dSt b q), (2, .own 19)], [(19, .row 2 (rowC (rows eSt (q.take i.1))))]⟩) (fun i => q.length - i.1) ⟨0, Nat.zero_le _⟩ ?_ ?_
  · refine Ent.to ?_ ?_ <;> simp (disch := omega) only [wkT_cons, wkX_cons, wkT_nil, wkX_nil, get, Nat.reduceEqDiff, ↓reduceIte, ex_some, wk_self, wk_top, wk_nil, wkB_self, and_self, dI, i64_in, and_true, true_and, Int.natCast_add, Int.natCast_one, Int.ofNat_zero, Int.natCast_zero, ins, Nat.reduceLT, List.take_zero]
    all_goals first | exact ⟨.refl _, .refl _⟩ | exact .refl _
  rintro ⟨i, hi⟩
  dsimp only
  rcases at_or q i hi with ⟨s, hs, hlt, hd⟩ | ⟨he, hd⟩
  · have hc := c106 false s.ws (hw s (List.mem_of_getElem? hs)) 14
    have htk : q.take (i + 1) = q.take i ++ [s] := by rw [List.take_add_one, hs]; rfl
    have hlen : (q.take i).length ≤ 1000 := by rw [List.length_take]; omega
    generalize q.take i = Q at *
    repeat' (first
    | (with_reducible first | refine DW.seq ?_ | refine DW.block ?_ | refine DW.skip ?_ | refine DW.exit ?_ | refine DW.ret ?_ | refine DW.reg ?_)
    | (refine DW.dreg rfl (WF.of ?_) ?_; first | rfl | skip)
    | (simp (disch := omega) only [go_sem, simprocAttr, bm_box, bm_row, bk_box, bk_row, hd, hs, List.map_cons, List.map_nil])
    | (exact retS_of rfl rfl rfl)
    | (refine DW.cond_tt rfl ?_)
    | (refine DW.cond_ff rfl ?_)
    | (refine DW.cond rfl ?_ ?_ <;> intro hc <;> (try simp only [go_sem] at hc))
    | (refine g_split ?_ ?_ <;> intro hc <;> (try simp only [hc]) <;> (try simp only [go_sem] at hc)))
    (refine call_r (hc) (by decide) (by first | rfl | simp (disch := omega) only [go_sem, simprocAttr, bm_box, bm_row, bk_box, bk_row]) (by first | rfl | simp (disch := omega) only [go_sem, simprocAttr, bm_box, bm_row, bk_box, bk_row]) ?_; simp (disch := omega) only [go_sem, simprocAttr, bm_box, bm_row, bk_box, bk_row])
    repeat' (first
    | (with_reducible first | refine DW.seq ?_ | refine DW.block ?_ | refine DW.skip ?_ | refine DW.exit ?_ | refine DW.ret ?_ | refine DW.reg ?_)
    | (refine DW.dreg rfl (WF.of ?_) ?_; first | rfl | skip)
    | (simp (disch := omega) only [go_sem, simprocAttr, bm_box, bm_row, bk_box, bk_row])
    | (exact retS_of rfl rfl rfl)
    | (refine DW.cond_tt rfl ?_)
    | (refine DW.cond_ff rfl ?_)
    | (refine DW.cond rfl ?_ ?_ <;> intro hc <;> (try simp only [go_sem] at hc))
    | (refine g_split ?_ ?_ <;> intro hc <;> (try simp only [hc]) <;> (try simp only [go_sem] at hc)))
    refine ⟨⟨i + 1, hlt⟩, by (show _ < _; (try simp only); omega), (Ent.rel 14 rfl).trans ?_⟩; simp (disch := omega) only [go_sem, simprocAttr, bm_box, bm_row, bk_box, bk_row,  htk, rowC_snocS]; refine Ent.to ?_ ?_ <;> (simp (disch := omega) only [wkT_cons, wkX_cons, wkT_nil, wkX_nil, get, Nat.reduceEqDiff, ↓reduceIte, ex_some, wk_self, wk_top, wk_nil, wkB_self, and_self, dI, i64_in, and_true, true_and, Int.natCast_add, Int.natCast_one, Int.ofNat_zero, Int.natCast_zero,  htk, rowC_snocS])
    all_goals first | exact ⟨.refl _, .refl _⟩ | exact .refl _ | skip
  · subst he
    rw [List.take_length]
    repeat' (first
    | (with_reducible first | refine DW.seq ?_ | refine DW.block ?_ | refine DW.skip ?_ | refine DW.exit ?_ | refine DW.ret ?_ | refine DW.reg ?_)
    | (refine DW.dreg rfl (WF.of ?_) ?_; first | rfl | skip)
    | (simp (disch := omega) only [go_sem, simprocAttr, bm_box, bm_row, bk_box, bk_row, hd])
    | (exact retS_of rfl rfl rfl)
    | (refine DW.cond_tt rfl ?_)
    | (refine DW.cond_ff rfl ?_)
    | (refine DW.cond rfl ?_ ?_ <;> intro hc <;> (try simp only [go_sem] at hc))
    | (refine g_split ?_ ?_ <;> intro hc <;> (try simp only [hc]) <;> (try simp only [go_sem] at hc)))
    (refine retS_ent (Ent.rel 19 rfl) ?_; simp (disch := omega) only [go_sem, simprocAttr, bm_box, bm_row, bk_box, bk_row])
    refine retS_wk rfl ?_ (by simp only [Blk.nb, rowC_nb, D.nb, D.nbs, C.nb, C.nbs, C.nbss, rows_nb eI_nb, Bool.and_true, Bool.not_false, Bool.and_self, bD, dI, iD, rows_nb eO_nb, rows_nb eSt_nb, rows_nb eWs_nb]); exact .refl _
end Go.Dw.Seat
end
section
set_option linter.unusedSimpArgs false
set_option maxRecDepth 100000
namespace Go.Dw.Seat
open Go Go.Dw Go.Proofs Go.IntWalk
def loS : List TOrd → Int
  | [] => 0
  | o :: l => o.w * o.lo + loS l
def cntS : List TOrd → Int
  | [] => 0
  | o :: l => (if 0 < o.lo then 1 else 0) + cntS l
theorem loS_take : ∀ {l : List TOrd} {i : Nat} {o : TOrd}, l[i]? = some o → loS (l.take (i + 1)) = loS (l.take i) + o.w * o.lo
  | [], _, _, h => by simp at h
  | a :: l, 0, o, h => by cases h; simp [loS]
  | a :: l, i + 1, o, h => by
    have := loS_take (l := l) (i := i) (o := o) h
    rw [List.take_succ_cons, List.take_succ_cons, loS, loS, this]; omega
theorem cntS_take : ∀ {l : List TOrd} {i : Nat} {o : TOrd}, l[i]? = some o → cntS (l.take (i + 1)) = cntS (l.take i) + (if 0 < o.lo then 1 else 0)
  | [], _, _, h => by simp at h
  | a :: l, 0, o, h => by cases h; simp [cntS]
  | a :: l, i + 1, o, h => by
    have := cntS_take (l := l) (i := i) (o := o) h
    rw [List.take_succ_cons, List.take_succ_cons, cntS, cntS, this]; omega
theorem loS_b : ∀ {l : List TOrd}, (∀ o ∈ l, o.ok) → (0 ≤ loS l ∧ loS l ≤ 300000 * (l.length : Int)) ∧ 0 ≤ cntS l ∧ cntS l ≤ (l.length : Int)
  | [], _ => by simp [loS, cntS]
  | o :: l, h => by
    have ih := loS_b (l := l) (fun x hx => h x (by simp [hx]))
    have hw := (h o (by simp)).w
    have hn := (h o (by simp)).need
    have m1 : 0 ≤ o.w * o.lo := Int.mul_nonneg (by omega) hn.1
    have m2 : o.w * o.lo ≤ 3000 * o.lo := Int.mul_le_mul_of_nonneg_right hw.2 hn.1
    simp only [loS, cntS, List.length_cons, Int.natCast_add, Int.natCast_one]
    split <;> omega
def boundE (p : TPap) (l : List TOrd) : Int := if openE p l ≠ 0 then openE p l else if p.wide - p.tl ≤ 0 then 7 else 0
def boundI (p : TPap) (l : List TOrd) : Int × Int × Int :=
  if boundE p l = 0 then (Int.tdiv (cntS l + 2 - 1) 2, Int.tdiv (loS l + (p.wide - p.tl) - 1) (p.wide - p.tl), p.tl * Int.tdiv (loS l + (p.wide - p.tl) - 1) (p.wide - p.tl)) else (0, 0, 0)
set_option maxHeartbeats 2000000 in
theorem trBound (p : TPap) (l : List TOrd) (hl : l.length ≤ 2 ^ 36) : DCall Try.prog 32 [papD p, .c (.sl false 3 (rows eO l))] [] (.tup [dI (boundI p l).1, dI (boundI p l).2.1, dI (boundI p l).2.2, dI (boundE p l)]) [] := by
  by_cases h : openE p l = 0
  case neg =>
    have h1 := trOpenE false p l hl h
    have hE : boundE p l = openE p l := if_pos h
    rw [boundI, hE, if_neg h]
    generalize openE p l = e at *
    have hd : (e != 0) = true := by simpa using h
    refine DCall.of Try.func32 sf32 hb32 (Nat.le_of_ble_eq_true rfl) (okRes_nil fun _ => rfl) ?_; simp only [s32, idxs, Nat.reduceAdd]
    repeat' (first
    | (with_reducible first | refine DW.seq ?_ | refine DW.block ?_ | refine DW.skip ?_ | refine DW.exit ?_ | refine DW.ret ?_ | refine DW.reg ?_)
    | (refine DW.dreg rfl (WF.of ?_) ?_; first | rfl | skip)
    | (simp (disch := omega) only [go_sem, simprocAttr, Blk.men, Blk.keysIn, hd])
    | (exact retS_of rfl rfl rfl)
    | (refine DW.cond_tt rfl ?_)
    | (refine call_c (h1) (by decide) ?_)
    | (refine DW.cond_ff rfl ?_)
    | (refine DW.cond rfl ?_ ?_ <;> intro hc <;> (try simp only [go_sem] at hc))
    | (refine g_split ?_ ?_ <;> intro hc <;> (try simp only [hc]) <;> (try simp only [go_sem] at hc)))
  obtain ⟨hp, hl4, ho⟩ := openE_ok h
  have h1 := trOpen p l h
  have hwi := hp.wide
  have htr := hp.trim
  have hw1 : IntKind.i64.wrap (p.wide - p.tl) = p.wide - p.tl := IntWalk.i64_in _ (by omega)
  by_cases hx : p.wide - p.tl ≤ 0
  · have hE : boundE p l = 7 := by unfold boundE; rw [if_neg (by simpa using h), if_pos hx]
    rw [boundI, hE, if_neg (by decide)]
    have hd : decide (p.wide - p.tl ≤ 0) = true := decide_eq_true hx
    refine DCall.of Try.func32 sf32 hb32 (Nat.le_of_ble_eq_true rfl) (okRes_nil fun _ => rfl) ?_; simp only [s32, idxs, Nat.reduceAdd]
    repeat' (first
    | (with_reducible first | refine DW.seq ?_ | refine DW.block ?_ | refine DW.skip ?_ | refine DW.exit ?_ | refine DW.ret ?_ | refine DW.reg ?_)
    | (refine DW.dreg rfl (WF.of ?_) ?_; first | rfl | skip)
    | (simp (disch := omega) only [go_sem, simprocAttr, Blk.men, Blk.keysIn, hd])
    | (exact retS_of rfl rfl rfl)
    | (refine DW.cond_tt rfl ?_)
    | (refine call_c (h1) (by decide) ?_)
    | (refine DW.cond_ff rfl ?_)
    | (refine DW.cond rfl ?_ ?_ <;> intro hc <;> (try simp only [go_sem] at hc))
    | (refine g_split ?_ ?_ <;> intro hc <;> (try simp only [hc]) <;> (try simp only [go_sem] at hc)))
  have hE : boundE p l = 0 := by unfold boundE; rw [if_neg (by simpa using h), if_neg hx]
  rw [boundI, hE, if_pos rfl]
  have hd : decide (p.wide - p.tl ≤ 0) = false := decide_eq_false hx
  refine DCall.of Try.func32 sf32 hb32 (Nat.le_of_ble_eq_true rfl) (okRes_nil fun _ => rfl) ?_; simp only [s32, idxs, Nat.reduceAdd]
  repeat' (first
    | (with_reducible first | refine DW.seq ?_ | refine DW.block ?_ | refine DW.skip ?_ | refine DW.exit ?_ | refine DW.ret ?_ | refine DW.reg ?_)
    | (refine DW.dreg rfl (WF.of ?_) ?_; first | rfl | skip)
    | (simp (disch := omega) only [go_sem, simprocAttr, Blk.men, Blk.keysIn, hd, hw1])
    | (exact retS_of rfl rfl rfl)
    | (refine DW.cond_tt rfl ?_)
    | (refine call_c (h1) (by decide) ?_)
    | (refine DW.cond_ff rfl ?_)
    | (refine DW.cond rfl ?_ ?_ <;> intro hc <;> (try simp only [go_sem] at hc))
    | (refine g_split ?_ ?_ <;> intro hc <;> (try simp only [hc]) <;> (try simp only [go_sem] at hc)))
  refine DW.loop (ι := { i : Nat // i ≤ l.length }) (fun i => ⟨68, [(33, dI i.1), (32, dI l.length), (31, .c (.sl false 3 (rows eO l))), (11, dI (loS (l.take i.1))), (10, dI (p.wide - p.tl)), (4, dI (cntS (l.take i.1))), (2, .box 2 0)], [(2, .box [dI p.wide, dI p.tl, dI p.th, dI p.webs])]⟩) (fun i => l.length - i.1) ⟨0, Nat.zero_le _⟩ ?_ ?_
  · refine Ent.to ?_ ?_ <;> simp (disch := omega) only [wkT_cons, wkX_cons, wkT_nil, wkX_nil, get, Nat.reduceEqDiff, ↓reduceIte, ex_some, wk_self, wk_top, wk_nil, wkB_self, and_self, dI, i64_in, and_true, true_and, Int.natCast_add, Int.natCast_one, Int.ofNat_zero, Int.natCast_zero, List.take_zero, loS, cntS]
    all_goals first | exact ⟨.refl _, .refl _⟩ | exact .refl _
  rintro ⟨i, hi⟩
  dsimp only
  rcases at_or l i hi with ⟨o, hoi, hlt, hdl⟩ | ⟨he, hdl⟩
  · have hob := ho o (List.mem_of_getElem? hoi)
    have hwo := hob.w
    have hno := hob.need
    have m1 : 0 ≤ o.w * o.lo := Int.mul_nonneg (by omega) hno.1
    have m2 : o.w * o.lo ≤ 3000 * o.lo := Int.mul_le_mul_of_nonneg_right hwo.2 hno.1
    have hb := loS_b (l := l.take i) (fun x hx => ho x (List.mem_of_mem_take hx))
    rw [List.length_take] at hb
    have ht := loS_take hoi
    have hc := cntS_take hoi
    have w1 : IntKind.i64.wrap (o.w * o.lo) = o.w * o.lo := IntWalk.i64_in _ (by omega)
    generalize loS (l.take i) = A at *
    generalize cntS (l.take i) = B at *
    have w2 : IntKind.i64.wrap (A + o.w * o.lo) = A + o.w * o.lo := IntWalk.i64_in _ (by omega)
    by_cases h0 : 0 < o.lo
    · have hd0 : decide (0 < o.lo) = true := decide_eq_true h0
      rw [if_pos h0] at hc
      repeat' (first
    | (with_reducible first | refine DW.seq ?_ | refine DW.block ?_ | refine DW.skip ?_ | refine DW.exit ?_ | refine DW.ret ?_ | refine DW.reg ?_)
    | (refine DW.dreg rfl (WF.of ?_) ?_; first | rfl | skip)
    | (simp (disch := omega) only [go_sem, simprocAttr, Blk.men, Blk.keysIn, hdl, hoi, w1, w2, hd0, List.map_cons, List.map_nil])
    | (exact retS_of rfl rfl rfl)
    | (refine DW.cond_tt rfl ?_)
    | (refine DW.cond_ff rfl ?_)
    | (refine DW.cond rfl ?_ ?_ <;> intro hc <;> (try simp only [go_sem] at hc))
    | (refine g_split ?_ ?_ <;> intro hc <;> (try simp only [hc]) <;> (try simp only [go_sem] at hc)))
      refine ⟨⟨i + 1, hlt⟩, ?_, Ent.to ?_ ?_⟩ <;> first | (show _ < _; (try simp only); omega) | (simp (disch := omega) only [wkT_cons, wkX_cons, wkT_nil, wkX_nil, get, Nat.reduceEqDiff, ↓reduceIte, ex_some, wk_self, wk_top, wk_nil, wkB_self, and_self, dI, i64_in, and_true, true_and, Int.natCast_add, Int.natCast_one, Int.ofNat_zero, Int.natCast_zero,  ht, hc])
      all_goals first | exact ⟨.refl _, .refl _⟩ | exact .refl _
    · have hd0 : decide (0 < o.lo) = false := decide_eq_false h0
      rw [if_neg h0, Int.add_zero] at hc
      repeat' (first
    | (with_reducible first | refine DW.seq ?_ | refine DW.block ?_ | refine DW.skip ?_ | refine DW.exit ?_ | refine DW.ret ?_ | refine DW.reg ?_)
    | (refine DW.dreg rfl (WF.of ?_) ?_; first | rfl | skip)
    | (simp (disch := omega) only [go_sem, simprocAttr, Blk.men, Blk.keysIn, hdl, hoi, w1, w2, hd0, List.map_cons, List.map_nil])
    | (exact retS_of rfl rfl rfl)
    | (refine DW.cond_tt rfl ?_)
    | (refine DW.cond_ff rfl ?_)
    | (refine DW.cond rfl ?_ ?_ <;> intro hc <;> (try simp only [go_sem] at hc))
    | (refine g_split ?_ ?_ <;> intro hc <;> (try simp only [hc]) <;> (try simp only [go_sem] at hc)))
      refine ⟨⟨i + 1, hlt⟩, ?_, Ent.to ?_ ?_⟩ <;> first | (show _ < _; (try simp only); omega) | (simp (disch := omega) only [wkT_cons, wkX_cons, wkT_nil, wkX_nil, get, Nat.reduceEqDiff, ↓reduceIte, ex_some, wk_self, wk_top, wk_nil, wkB_self, and_self, dI, i64_in, and_true, true_and, Int.natCast_add, Int.natCast_one, Int.ofNat_zero, Int.natCast_zero,  ht, hc])
      all_goals first | exact ⟨.refl _, .refl _⟩ | exact .refl _
  · subst he
    rw [List.take_length]
    have hb := loS_b ho
    generalize loS l = A at *
    generalize cntS l = B at *
    have hx0 : p.wide - p.tl ≠ 0 := by omega
    have hx0' := eq_false hx0
    have hq : 0 ≤ Int.tdiv (A + (p.wide - p.tl) - 1) (p.wide - p.tl) ∧ Int.tdiv (A + (p.wide - p.tl) - 1) (p.wide - p.tl) ≤ 1300000 := by
      rw [Int.tdiv_eq_ediv_of_nonneg (by omega)]
      exact ⟨Int.ediv_nonneg (by omega) (by omega), Int.le_trans (Int.ediv_le_self _ (by omega)) (by omega)⟩
    have hq2 : 0 ≤ Int.tdiv (B + 2 - 1) 2 ∧ Int.tdiv (B + 2 - 1) 2 ≤ 100 := by
      rw [Int.tdiv_eq_ediv_of_nonneg (by omega)]; omega
    have w3 : IntKind.i64.wrap (A + (p.wide - p.tl)) = A + (p.wide - p.tl) := IntWalk.i64_in _ (by omega)
    have w4 : IntKind.i64.wrap (A + (p.wide - p.tl) - 1) = A + (p.wide - p.tl) - 1 := IntWalk.i64_in _ (by omega)
    generalize hQ : Int.tdiv (A + (p.wide - p.tl) - 1) (p.wide - p.tl) = q at *
    generalize hQ2 : Int.tdiv (B + 2 - 1) 2 = q2 at *
    have m1 : 0 ≤ p.tl * q := Int.mul_nonneg htr.1 hq.1
    have m2 : p.tl * q ≤ 3000 * q := Int.mul_le_mul_of_nonneg_right (by omega) hq.1
    have w5 : IntKind.i64.wrap (p.tl * q) = p.tl * q := IntWalk.i64_in _ (by omega)
    repeat' (first
    | (with_reducible first | refine DW.seq ?_ | refine DW.block ?_ | refine DW.skip ?_ | refine DW.exit ?_ | refine DW.ret ?_ | refine DW.reg ?_)
    | (refine DW.dreg rfl (WF.of ?_) ?_; first | rfl | skip)
    | (simp (disch := omega) only [go_sem, simprocAttr, Blk.men, Blk.keysIn, hdl, w3, w4, hx0', hQ, hQ2, w5])
    | (exact retS_of rfl rfl rfl)
    | (refine DW.cond_tt rfl ?_)
    | (refine DW.cond_ff rfl ?_)
    | (refine DW.cond rfl ?_ ?_ <;> intro hc <;> (try simp only [go_sem] at hc))
    | (refine g_split ?_ ?_ <;> intro hc <;> (try simp only [hc]) <;> (try simp only [go_sem] at hc)))
end Go.Dw.Seat
end
section
set_option linter.unusedSimpArgs false
set_option maxRecDepth 100000
namespace Go.Dw.Seat
open Go Go.Dw Go.Proofs Go.IntWalk
def knOk (l : List Int) : Bool := wthn 0 3000 l && (srt l && decide ((cpt l).length = l.length))
set_option maxHeartbeats 1000000 in
theorem trAreKnives (b : Bool) (l : List Int) (hl : l.length ≤ 2 ^ 36) : DCall Try.prog 59 [dIs b l] [] (bD (knOk l)) [] := by
  have h1 := trWithin b 0 3000 l hl
  have h2 := c116 b l hl
  cases e1 : wthn 0 3000 l <;> rw [e1] at h1
  · have hE : knOk l = false := by rw [knOk, e1]; rfl
    rw [hE]
    refine DCall.of Try.func59 sf59 hb59 (Nat.le_of_ble_eq_true rfl) (okRes_nil fun _ => rfl) ?_; simp only [s59, idxs, Nat.reduceAdd]
    repeat' (first
    | (with_reducible first | refine DW.seq ?_ | refine DW.block ?_ | refine DW.skip ?_ | refine DW.exit ?_ | refine DW.ret ?_ | refine DW.reg ?_)
    | (simp (disch := omega) only [go_sem, simprocAttr, Blk.men, Blk.keysIn])
    | (exact retS_of rfl rfl rfl)
    | (refine DW.cond_tt rfl ?_)
    | (refine call_c (h1) (by decide) ?_)
    | (refine DW.cond_ff rfl ?_)
    | (refine DW.cond rfl ?_ ?_ <;> intro hc <;> (try simp only [go_sem] at hc))
    | (refine g_split ?_ ?_ <;> intro hc <;> (try simp only [hc]) <;> (try simp only [go_sem] at hc)))
  cases e2 : srt l <;> rw [e2] at h2
  · have hE : knOk l = false := by rw [knOk, e1, e2]; rfl
    rw [hE]
    refine DCall.of Try.func59 sf59 hb59 (Nat.le_of_ble_eq_true rfl) (okRes_nil fun _ => rfl) ?_; simp only [s59, idxs, Nat.reduceAdd]
    repeat' (first
    | (with_reducible first | refine DW.seq ?_ | refine DW.block ?_ | refine DW.skip ?_ | refine DW.exit ?_ | refine DW.ret ?_ | refine DW.reg ?_)
    | (simp (disch := omega) only [go_sem, simprocAttr, Blk.men, Blk.keysIn])
    | (exact retS_of rfl rfl rfl)
    | (refine DW.cond_tt rfl ?_)
    | (refine call_c (h1) (by decide) ?_)
    | (refine call_c (h2) (by decide) ?_)
    | (refine DW.cond_ff rfl ?_)
    | (refine DW.cond rfl ?_ ?_ <;> intro hc <;> (try simp only [go_sem] at hc))
    | (refine g_split ?_ ?_ <;> intro hc <;> (try simp only [hc]) <;> (try simp only [go_sem] at hc)))
  have hE : knOk l = decide ((cpt l).length = l.length) := by rw [knOk, e1, e2]; rfl
  rw [hE]
  have hc117 := ((c117 l hl).rekey (fun _ => rfl) 11).rename 12
  have hb : (((cpt l).length : Int) == (l.length : Int)) = decide ((cpt l).length = l.length) := by rw [Bool.eq_iff_iff, beq_iff_eq, decide_eq_true_eq]; omega
  refine DCall.of Try.func59 sf59 hb59 (Nat.le_of_ble_eq_true rfl) (okRes_nil fun _ => rfl) ?_; simp only [s59, idxs, Nat.reduceAdd]
  repeat' (first
    | (with_reducible first | refine DW.seq ?_ | refine DW.block ?_ | refine DW.skip ?_ | refine DW.exit ?_ | refine DW.ret ?_ | refine DW.reg ?_)
    | (simp (disch := omega) only [go_sem, simprocAttr, Blk.men, Blk.keysIn])
    | (exact retS_of rfl rfl rfl)
    | (refine DW.cond_tt rfl ?_)
    | (refine call_c (h1) (by decide) ?_)
    | (refine call_c (h2) (by decide) ?_)
    | (refine DW.cond_ff rfl ?_)
    | (refine DW.cond rfl ?_ ?_ <;> intro hc <;> (try simp only [go_sem] at hc))
    | (refine g_split ?_ ?_ <;> intro hc <;> (try simp only [hc]) <;> (try simp only [go_sem] at hc)))
  (refine call_r (c106 b l hl 11) (by decide) (by first | rfl | simp (disch := omega) only [go_sem, simprocAttr, Blk.men, Blk.keysIn]) (by first | rfl | simp (disch := omega) only [go_sem, simprocAttr, Blk.men, Blk.keysIn]) ?_; simp (disch := omega) only [go_sem, simprocAttr, Blk.men, Blk.keysIn])
  refine call_m 11 hc117 rfl rfl rfl (by decide) rfl (by rfl) ?_
  simp (disch := omega) only [go_sem, simprocAttr, Blk.men, Blk.keysIn, hb]
  repeat' (first
    | (with_reducible first | refine DW.seq ?_ | refine DW.block ?_ | refine DW.skip ?_ | refine DW.exit ?_ | refine DW.ret ?_ | refine DW.reg ?_)
    | (simp (disch := omega) only [go_sem, simprocAttr, Blk.men, Blk.keysIn, hb])
    | (exact retS_of rfl rfl rfl)
    | (refine DW.cond_tt rfl ?_)
    | (refine DW.cond_ff rfl ?_)
    | (refine DW.cond rfl ?_ ?_ <;> intro hc <;> (try simp only [go_sem] at hc))
    | (refine g_split ?_ ?_ <;> intro hc <;> (try simp only [hc]) <;> (try simp only [go_sem] at hc)))
end Go.Dw.Seat
end
