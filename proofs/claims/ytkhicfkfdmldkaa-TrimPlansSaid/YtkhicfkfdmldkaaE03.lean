/- The law TrimPlans returns true for every input, and changes nothing that was there before: the full statement TrimPlansSaid, without conditions. -/
import Derived.Test.YtkhicfkfdmldkaaE02
import Derived.Test.YtkhicfkfdmldkaaRows
import Derived.ProofKit
import Derived.OpenShut
set_option linter.unusedVariables false
set_option linter.unusedSimpArgs false
section
set_option linter.unusedSimpArgs false
set_option maxRecDepth 100000
namespace Go.Dw.Seat
open Go Go.Dw Go.Proofs Go.IntWalk
def cmpL2 (a b : List Int) : Int := orL [(a.length : Int) - b.length, cmpL a b]
theorem trAgainst1 (b1 b2 : Bool) (s t : List Int) (hs : s.length ≤ 2 ^ 36) (ht : t.length ≤ 2 ^ 36) : DCall Try.prog 76 [dIs b1 s, dIs b2 t] [] (dI (cmpL2 s t)) [] := by
  have h1 := crCmpL b1 b2 s t hs ht
  have h2 := crOrL true [(s.length : Int) - t.length, cmpL s t] (by simp)
  unfold cmpL2
  generalize cmpL s t = c at *
  generalize orL [(s.length : Int) - t.length, c] = r at *
  refine DCall.of Try.func76 sf76 hb76 (Nat.le_of_ble_eq_true rfl) (okRes_nil fun _ => rfl) ?_; simp only [s76, idxs, Nat.reduceAdd]
  repeat' (first
    | (with_reducible first | refine DW.seq ?_ | refine DW.block ?_ | refine DW.skip ?_ | refine DW.exit ?_ | refine DW.ret ?_ | refine DW.reg ?_)
    | (simp (disch := omega) only [go_sem, simprocAttr, bm_box, bm_row, bk_box, bk_row, List.map_cons, List.map_nil])
    | (exact retS_of rfl rfl rfl)
    | (refine DW.cond_tt rfl ?_)
    | (refine call_c (h1) (by decide) ?_)
    | (refine call_c (h2) (by decide) ?_)
    | (refine DW.cond_ff rfl ?_)
    | (refine DW.cond rfl ?_ ?_ <;> intro hc <;> (try simp only [go_sem] at hc))
    | (refine g_split ?_ ?_ <;> intro hc <;> (try simp only [hc]) <;> (try simp only [go_sem] at hc)))
set_option maxHeartbeats 1000000 in
theorem trMinL (b : Bool) (x : List Int) (l : List (List Int)) (hl : l.length ≤ 2 ^ 30) (g : FuncId) (hg : ∀ u ∈ x :: l, ∀ v ∈ x :: l, DCall Try.prog g [dIs false u, dIs false v] [] (dI (cmpL2 u v)) []) : DCall Try.prog 75 [.c (.sl b 1 (rows eWs (x :: l))), .c (.fn (.func g) [] [])] [] (dIs false (minBy cmpL2 x l)) [] := by
  obtain ⟨L, hL⟩ : ∃ L, L = x :: l := ⟨_, rfl⟩
  have hx : L[0]? = some x := by rw [hL]; rfl
  have hxm : x ∈ L := by rw [hL]; simp
  have hLl : L.length = l.length + 1 := by rw [hL]; rfl
  have h1d : L.drop 1 = l := by rw [hL]; rfl
  rw [← hL] at hg ⊢
  have hd1 : decide ((L.length : Int) < 1) = false := decide_eq_false (by omega)
  have hd0 : decide ((0 : Int) < (L.length : Int)) = true := decide_eq_true (by omega)
  generalize hR : minBy cmpL2 x l = R
  refine DCall.of Try.func75 sf75 hb75 (Nat.le_of_ble_eq_true rfl) (okRes_nil fun _ => rfl) ?_; simp only [s75, idxs, Nat.reduceAdd]
  repeat' (first
    | (with_reducible first | refine DW.seq ?_ | refine DW.block ?_ | refine DW.skip ?_ | refine DW.exit ?_ | refine DW.ret ?_ | refine DW.reg ?_)
    | (simp (disch := omega) only [go_sem, simprocAttr, bm_box, bm_row, bk_box, bk_row, hd1, hd0, hx, List.map_cons, List.map_nil])
    | (exact retS_of rfl rfl rfl)
    | (refine DW.cond_tt rfl ?_)
    | (refine DW.cond_ff rfl ?_)
    | (refine DW.cond rfl ?_ ?_ <;> intro hc <;> (try simp only [go_sem] at hc))
    | (refine g_split ?_ ?_ <;> intro hc <;> (try simp only [hc]) <;> (try simp only [go_sem] at hc)))
  refine DW.loop (ι := { y : Nat × List Int // y.1 ≤ L.length ∧ y.2 ∈ L ∧ minBy cmpL2 y.2 (L.drop y.1) = R }) (fun y => ⟨33, [(6, dI y.1.1), (5, dIs false y.1.2), (4, .c (.v (.slice none 0 0))), (0, .c (.sl b 1 (rows eWs L))), (1, .c (.fn (.func g) [] []))], []⟩) (fun y => L.length - y.1.1) ⟨(1, x), by dsimp only; omega, hxm, by rw [h1d]; exact hR⟩ ?_ ?_
  · refine Ent.to ?_ ?_ <;> simp (disch := omega) only [wkT_cons, wkX_cons, wkT_nil, wkX_nil, get, Nat.reduceEqDiff, ↓reduceIte, ex_some, wk_self, wk_top, wk_nil, wkB_self, and_self, dI, i64_in, and_true, true_and, Int.natCast_add, Int.natCast_one, Int.ofNat_zero, Int.natCast_zero]
    all_goals first | exact ⟨.refl _, .refl _⟩ | exact .refl _
  rintro ⟨⟨i, m⟩, hi, hm, hr⟩
  dsimp only at hi hm hr ⊢
  rcases at_or L i hi with ⟨v, hv, hlt, hd⟩ | ⟨he, hd⟩
  · have hdr : L.drop i = v :: L.drop (i + 1) := by rw [List.drop_eq_getElem_cons hlt, (List.getElem_eq_iff hlt).2 hv]
    have hvm := List.mem_of_getElem? hv
    have hcall := hg v hvm m hm
    rw [hdr, minBy] at hr
    generalize cmpL2 v m = c at *
    by_cases hc : c < 0
    · have hdc : decide (c < 0) = true := decide_eq_true hc
      rw [if_pos hc] at hr
      repeat' (first
    | (with_reducible first | refine DW.seq ?_ | refine DW.block ?_ | refine DW.skip ?_ | refine DW.exit ?_ | refine DW.ret ?_ | refine DW.reg ?_)
    | (simp (disch := omega) only [go_sem, simprocAttr, bm_box, bm_row, bk_box, bk_row, hd, hv, hdc, closeDs_fn, List.map_cons, List.map_nil])
    | (exact retS_of rfl rfl rfl)
    | (refine DW.cond_tt rfl ?_)
    | (refine call_c (hcall) (by decide) ?_)
    | (refine DW.cond_ff rfl ?_)
    | (refine DW.cond rfl ?_ ?_ <;> intro hc <;> (try simp only [go_sem] at hc))
    | (refine g_split ?_ ?_ <;> intro hc <;> (try simp only [hc]) <;> (try simp only [go_sem] at hc)))
      refine ⟨⟨(i + 1, v), hlt, hvm, hr⟩, ?_, Ent.to ?_ ?_⟩ <;> first | (show _ < _; (try simp only); omega) | (simp (disch := omega) only [wkT_cons, wkX_cons, wkT_nil, wkX_nil, get, Nat.reduceEqDiff, ↓reduceIte, ex_some, wk_self, wk_top, wk_nil, wkB_self, and_self, dI, i64_in, and_true, true_and, Int.natCast_add, Int.natCast_one, Int.ofNat_zero, Int.natCast_zero])
      all_goals first | exact ⟨.refl _, .refl _⟩ | exact .refl _
    · have hdc : decide (c < 0) = false := decide_eq_false hc
      rw [if_neg hc] at hr
      repeat' (first
    | (with_reducible first | refine DW.seq ?_ | refine DW.block ?_ | refine DW.skip ?_ | refine DW.exit ?_ | refine DW.ret ?_ | refine DW.reg ?_)
    | (simp (disch := omega) only [go_sem, simprocAttr, bm_box, bm_row, bk_box, bk_row, hd, hv, hdc, closeDs_fn, List.map_cons, List.map_nil])
    | (exact retS_of rfl rfl rfl)
    | (refine DW.cond_tt rfl ?_)
    | (refine call_c (hcall) (by decide) ?_)
    | (refine DW.cond_ff rfl ?_)
    | (refine DW.cond rfl ?_ ?_ <;> intro hc <;> (try simp only [go_sem] at hc))
    | (refine g_split ?_ ?_ <;> intro hc <;> (try simp only [hc]) <;> (try simp only [go_sem] at hc)))
      refine ⟨⟨(i + 1, m), hlt, hm, hr⟩, ?_, Ent.to ?_ ?_⟩ <;> first | (show _ < _; (try simp only); omega) | (simp (disch := omega) only [wkT_cons, wkX_cons, wkT_nil, wkX_nil, get, Nat.reduceEqDiff, ↓reduceIte, ex_some, wk_self, wk_top, wk_nil, wkB_self, and_self, dI, i64_in, and_true, true_and, Int.natCast_add, Int.natCast_one, Int.ofNat_zero, Int.natCast_zero])
      all_goals first | exact ⟨.refl _, .refl _⟩ | exact .refl _
  · rw [List.drop_eq_nil_of_le (by omega), minBy] at hr
    subst hr
    repeat' (first
    | (with_reducible first | refine DW.seq ?_ | refine DW.block ?_ | refine DW.skip ?_ | refine DW.exit ?_ | refine DW.ret ?_ | refine DW.reg ?_)
    | (simp (disch := omega) only [go_sem, simprocAttr, bm_box, bm_row, bk_box, bk_row, hd])
    | (exact retS_of rfl rfl rfl)
    | (refine DW.cond_tt rfl ?_)
    | (refine DW.cond_ff rfl ?_)
    | (refine DW.cond rfl ?_ ?_ <;> intro hc <;> (try simp only [go_sem] at hc))
    | (refine g_split ?_ ?_ <;> intro hc <;> (try simp only [hc]) <;> (try simp only [go_sem] at hc)))
    refine retS_wk rfl ?_ (by simp only [Blk.nb, rowC_nb, D.nb, D.nbs, C.nb, C.nbs, C.nbss, rows_nb eI_nb, Bool.and_true, Bool.not_false, Bool.and_self, bD, dI, iD, rows_nb eO_nb, rows_nb eSt_nb, rows_nb eWs_nb, rows_nb eOf_nb]); exact .refl _
def badsF (p : TPap) (l : List TOrd) (n : Nat) : List (List Int) := ((List.range n).filter fun s => (planF p (selF s 0 l)).isNone).map numsI
def agE (p : TPap) (l : List TOrd) : Int := if openE p l ≠ 0 then openE p l else if (planF p l).isSome then 7 else 0
def agD (p : TPap) (l : List TOrd) : D := if agE p l ≠ 0 then .c (.v (.slice none 0 0)) else match badsF p l (2 ^ l.length) with
  | [] => .c (.v (.slice none 0 0))
  | x :: t => dIs false (minBy cmpL2 x t)
theorem badsF_succ (p : TPap) (l : List TOrd) (n : Nat) : badsF p l (n + 1) = badsF p l n ++ (if (planF p (selF n 0 l)).isNone then [numsI n] else []) := by
  rw [badsF, List.range_succ, List.filter_append, List.map_append, badsF]
  congr 1
  rw [List.filter_cons]
  split <;> simp
theorem badsF_len (p : TPap) (l : List TOrd) (n : Nat) : (badsF p l n).length ≤ n := by
  rw [badsF, List.length_map]
  exact Nat.le_trans (List.length_filter_le _ _) (by simp)
theorem badsF_ne {p : TPap} {l : List TOrd} (hl : l.length ≤ 4) (h : planF p l = none) : badsF p l (2 ^ l.length) ≠ [] := by
  intro he
  rw [badsF, List.map_eq_nil_iff, List.filter_eq_nil_iff] at he
  have h1 := Nat.one_le_two_pow (n := l.length)
  have := he (2 ^ l.length - 1) (by simp; omega)
  rw [selF_all l 0 l.length (by omega) hl, h] at this
  simp at this
theorem numsI_len (s : Nat) : (numsI s).length ≤ 4 := by
  rw [numsI, numsT, List.length_map]
  exact Nat.le_trans (List.length_filter_le _ _) (by simp)
theorem badsF_mem {p : TPap} {l : List TOrd} {n : Nat} {u : List Int} (h : u ∈ badsF p l n) : u.length ≤ 4 := by
  rw [badsF, List.mem_map] at h
  obtain ⟨s, _, rfl⟩ := h
  exact numsI_len s
set_option maxHeartbeats 4000000 in
theorem trAgainst (p : TPap) (l : List TOrd) (hl : l.length ≤ 2 ^ 36) : DCall Try.prog 36 [papD p, .c (.sl false 3 (rows eO l))] [] (.tup [agD p l, dI (agE p l)]) [] := by
  by_cases h : openE p l = 0
  case neg =>
    have h1 := trOpenE false p l hl h
    have hE : agE p l = openE p l := if_pos h
    rw [agD, hE, if_pos h]
    generalize openE p l = e at *
    have hd : (e != 0) = true := by simpa using h
    refine DCall.of Try.func36 sf36 hb36 (Nat.le_of_ble_eq_true rfl) (okRes_nil fun _ => rfl) ?_; simp only [s36, idxs, Nat.reduceAdd]
    repeat' (first
    | (with_reducible first | refine DW.seq ?_ | refine DW.block ?_ | refine DW.skip ?_ | refine DW.exit ?_ | refine DW.ret ?_ | refine DW.reg ?_)
    | (simp (disch := omega) only [go_sem, simprocAttr, bm_box, bm_row, bk_box, bk_row, hd])
    | (exact retS_of rfl rfl rfl)
    | (refine DW.cond_tt rfl ?_)
    | (refine call_c (h1) (by decide) ?_)
    | (refine DW.cond_ff rfl ?_)
    | (refine DW.cond rfl ?_ ?_ <;> intro hc <;> (try simp only [go_sem] at hc))
    | (refine g_split ?_ ?_ <;> intro hc <;> (try simp only [hc]) <;> (try simp only [go_sem] at hc)))
  obtain ⟨hp, hl4, ho⟩ := openE_ok h
  have h1 := trOpen p l h
  have h2 := trPlanM p hp l hl4 ho
  cases hR : planF p l with
  | some x =>
    have hE : agE p l = 7 := by unfold agE; rw [if_neg (by simpa using h), hR]; rfl
    rw [agD, hE, if_pos (by decide)]
    rw [hR] at h2
    simp only [planD] at h2
    refine DCall.of Try.func36 sf36 hb36 (Nat.le_of_ble_eq_true rfl) (okRes_nil fun _ => rfl) ?_; simp only [s36, idxs, Nat.reduceAdd]
    repeat' (first
    | (with_reducible first | refine DW.seq ?_ | refine DW.block ?_ | refine DW.skip ?_ | refine DW.exit ?_ | refine DW.ret ?_ | refine DW.reg ?_)
    | (simp (disch := omega) only [go_sem, simprocAttr, bm_box, bm_row, bk_box, bk_row])
    | (exact retS_of rfl rfl rfl)
    | (refine DW.cond_tt rfl ?_)
    | (refine call_c (h1) (by decide) ?_)
    | (refine call_c (h2) (by decide) ?_)
    | (refine DW.cond_ff rfl ?_)
    | (refine DW.cond rfl ?_ ?_ <;> intro hc <;> (try simp only [go_sem] at hc))
    | (refine g_split ?_ ?_ <;> intro hc <;> (try simp only [hc]) <;> (try simp only [go_sem] at hc)))
  | none =>
    have hE : agE p l = 0 := by unfold agE; rw [if_neg (by simpa using h), hR]; rfl
    rw [agD, hE, if_neg (by decide)]
    rw [hR] at h2
    simp only [planD] at h2
    have hne := badsF_ne hl4 hR
    have hpw : 2 ^ l.length ≤ 16 := Nat.pow_le_pow_right (n := 2) (by decide) hl4
    have hsh : shlI IntKind.i64 1 l.length = ((2 ^ l.length : Nat) : Int) := by
      have : ∀ n : Fin 5, shlI IntKind.i64 1 n.1 = ((2 ^ n.1 : Nat) : Int) := by decide +kernel
      exact this ⟨l.length, by omega⟩
    generalize hN : 2 ^ l.length = N at *
    refine DCall.of Try.func36 sf36 hb36 (Nat.le_of_ble_eq_true rfl) (okRes_nil fun _ => by cases badsF p l N <;> rfl) ?_
    simp only [s36, idxs, Nat.reduceAdd]
    repeat' (first
    | (with_reducible first | refine DW.seq ?_ | refine DW.block ?_ | refine DW.skip ?_ | refine DW.exit ?_ | refine DW.ret ?_ | refine DW.reg ?_)
    | (simp (disch := omega) only [go_sem, simprocAttr, bm_box, bm_row, bk_box, bk_row, hsh])
    | (exact retS_of rfl rfl rfl)
    | (refine DW.cond_tt rfl ?_)
    | (refine call_c (h1) (by decide) ?_)
    | (refine call_c (h2) (by decide) ?_)
    | (refine DW.cond_ff rfl ?_)
    | (refine DW.cond rfl ?_ ?_ <;> intro hc <;> (try simp only [go_sem] at hc))
    | (refine g_split ?_ ?_ <;> intro hc <;> (try simp only [hc]) <;> (try simp only [go_sem] at hc)))
    refine DW.ent (Ent.adopt 11 52 1 rfl rfl rfl) ?_
    refine DW.loop (ι := { s : Nat // s ≤ N }) (fun s => ⟨56, [(35, dI s.1), (34, dI N), (11, .own 52), (6, .box 6 0), (5, dI 0), (4, .c (.v (.slice none 0 0)))], [(52, .row 1 (rowC (rows eWs (badsF p l s.1)))), (6, .box [dI p.wide, dI p.tl, dI p.th, dI p.webs, .c (.sl false 3 (rows eO l))])]⟩) (fun s => N - s.1) ⟨0, Nat.zero_le _⟩ ?_ ?_
    · refine Ent.to ?_ ?_ <;> simp (disch := omega) only [wkT_cons, wkX_cons, wkT_nil, wkX_nil, get, Nat.reduceEqDiff, ↓reduceIte, ex_some, wk_self, wk_top, wk_nil, wkB_self, and_self, dI, i64_in, and_true, true_and, Int.natCast_add, Int.natCast_one, Int.ofNat_zero, Int.natCast_zero, ins, Nat.reduceLT, badsF, List.range_zero, List.filter_nil, List.map_nil]
      all_goals first | exact ⟨.refl _, .refl _, .refl _⟩ | exact ⟨.refl _, .refl _⟩ | exact .refl _
    rintro ⟨s, hs⟩
    dsimp only
    by_cases hlt : s < N
    · have hd : decide ((s : Int) < (N : Int)) = true := decide_eq_true (by omega)
      have hs16 : s < 16 := by omega
      have hbl := badsF_len p l s
      have hsc := badsF_succ p l s
      have g1 := trAmong p l hl4 s hs16
      have g2 := trPlanM p hp (selF s 0 l) (Nat.le_trans selF_len hl4) (fun o hm => ho o (selF_mem o hm))
      have g3 := trNumbers s hs16
      generalize badsF p l s = B at *
      cases hR2 : planF p (selF s 0 l) with
      | some x =>
        rw [hR2] at g2 hsc
        simp only [planD] at g2
        rw [if_neg (by simp), List.append_nil] at hsc
        generalize selF s 0 l = S at *
        repeat' (first
    | (with_reducible first | refine DW.seq ?_ | refine DW.block ?_ | refine DW.skip ?_ | refine DW.exit ?_ | refine DW.ret ?_ | refine DW.reg ?_)
    | (simp (disch := omega) only [go_sem, simprocAttr, bm_box, bm_row, bk_box, bk_row, hd])
    | (exact retS_of rfl rfl rfl)
    | (refine DW.cond_tt rfl ?_)
    | (refine call_c (g1) (by decide) ?_)
    | (refine call_c (g2) (by decide) ?_)
    | (refine DW.cond_ff rfl ?_)
    | (refine DW.cond rfl ?_ ?_ <;> intro hc <;> (try simp only [go_sem] at hc))
    | (refine g_split ?_ ?_ <;> intro hc <;> (try simp only [hc]) <;> (try simp only [go_sem] at hc)))
        refine ⟨⟨s + 1, hlt⟩, ?_, Ent.to ?_ ?_⟩ <;> first | (show _ < _; (try simp only); omega) | (simp (disch := omega) only [wkT_cons, wkX_cons, wkT_nil, wkX_nil, get, Nat.reduceEqDiff, ↓reduceIte, ex_some, wk_self, wk_top, wk_nil, wkB_self, and_self, dI, i64_in, and_true, true_and, Int.natCast_add, Int.natCast_one, Int.ofNat_zero, Int.natCast_zero,  hsc])
        all_goals first | exact ⟨.refl _, .refl _, .refl _⟩ | exact ⟨.refl _, .refl _⟩ | exact .refl _
      | none =>
        rw [hR2] at g2 hsc
        simp only [planD] at g2
        rw [if_pos (by simp)] at hsc
        generalize selF s 0 l = S at *
        generalize numsI s = M at *
        repeat' (first
    | (with_reducible first | refine DW.seq ?_ | refine DW.block ?_ | refine DW.skip ?_ | refine DW.exit ?_ | refine DW.ret ?_ | refine DW.reg ?_)
    | (simp (disch := omega) only [go_sem, simprocAttr, bm_box, bm_row, bk_box, bk_row, hd])
    | (exact retS_of rfl rfl rfl)
    | (refine DW.cond_tt rfl ?_)
    | (refine call_c (g1) (by decide) ?_)
    | (refine call_c (g2) (by decide) ?_)
    | (refine call_c (g3) (by decide) ?_)
    | (refine DW.cond_ff rfl ?_)
    | (refine DW.cond rfl ?_ ?_ <;> intro hc <;> (try simp only [go_sem] at hc))
    | (refine g_split ?_ ?_ <;> intro hc <;> (try simp only [hc]) <;> (try simp only [go_sem] at hc)))
        refine ⟨⟨s + 1, hlt⟩, ?_, Ent.to ?_ ?_⟩ <;> first | (show _ < _; (try simp only); omega) | (simp (disch := omega) only [wkT_cons, wkX_cons, wkT_nil, wkX_nil, get, Nat.reduceEqDiff, ↓reduceIte, ex_some, wk_self, wk_top, wk_nil, wkB_self, and_self, dI, i64_in, and_true, true_and, Int.natCast_add, Int.natCast_one, Int.ofNat_zero, Int.natCast_zero,  hsc, rowC_snocW])
        all_goals first | exact ⟨.refl _, .refl _, .refl _⟩ | exact ⟨.refl _, .refl _⟩ | exact .refl _
    · obtain rfl : s = N := by omega
      have hd : decide ((s : Int) < (s : Int)) = false := decide_eq_false (by omega)
      have hmem : ∀ u ∈ badsF p l s, u.length ≤ 4 := fun u hu => badsF_mem hu
      have hbl := badsF_len p l s
      cases hB : badsF p l s with
      | nil => exact absurd hB hne
      | cons x t =>
        rw [hB] at hmem hbl
        have g := trMinL true x t (by simp only [List.length_cons] at hbl; omega) 76 (fun u hu v hv => trAgainst1 false false u v (by have := hmem u hu; omega) (by have := hmem v hv; omega))
        dsimp only
        generalize minBy cmpL2 x t = m at *
        generalize x :: t = X at *
        repeat' (first
    | (with_reducible first | refine DW.seq ?_ | refine DW.block ?_ | refine DW.skip ?_ | refine DW.exit ?_ | refine DW.ret ?_ | refine DW.reg ?_)
    | (simp (disch := omega) only [go_sem, simprocAttr, bm_box, bm_row, bk_box, bk_row, hd])
    | (exact retS_of rfl rfl rfl)
    | (refine DW.cond_tt rfl ?_)
    | (refine call_c (g) (by decide) ?_)
    | (refine DW.cond_ff rfl ?_)
    | (refine DW.cond rfl ?_ ?_ <;> intro hc <;> (try simp only [go_sem] at hc))
    | (refine g_split ?_ ?_ <;> intro hc <;> (try simp only [hc]) <;> (try simp only [go_sem] at hc)))
        refine retS_wk rfl ?_ (by simp only [Blk.nb, rowC_nb, D.nb, D.nbs, C.nb, C.nbs, C.nbss, rows_nb eI_nb, Bool.and_true, Bool.not_false, Bool.and_self, bD, dI, iD, rows_nb eO_nb, rows_nb eSt_nb, rows_nb eWs_nb, rows_nb eOf_nb]); exact .refl _
end Go.Dw.Seat
end
section
set_option linter.unusedSimpArgs false
set_option maxRecDepth 100000
namespace Go.Dw.Seat
open Go Go.Dw Go.Proofs Go.IntWalk
theorem ex_open (m : Int) (h : 20 ≤ m ∧ m ≤ 3000) : openE (exP m) exO = 0 := openE_yes ⟨by simp [exP], by simp [exP]; omega, by simp [exP]⟩ (by decide) (by
  intro o ho
  simp only [exO, List.mem_cons, List.not_mem_nil, or_false] at ho
  rcases ho with rfl | rfl | rfl <;> exact ⟨by decide, by decide⟩)
def exQ : List TStp := [⟨[0, 0, 2], 2⟩, ⟨[0, 3, 0], 1⟩, ⟨[2, 1, 0], 5⟩]
def exA : List (List Int) := patsX (exP 200) exO 3 []
theorem ex_all : exA.length = 3 := by decide +kernel
theorem ex_all0 : exA[0]? = some [0, 0, 2] := by decide +kernel
theorem ex_plan : planF (exP 200) exO = none := by
  have : (planF (exP 200) exO).isNone = true := by decide +kernel
  simpa using this
def qEq (a b : List TStp) : Bool := a.map (·.ws) == b.map (·.ws) && a.map (·.run) == b.map (·.run)
theorem qEq_eq : ∀ {a b : List TStp}, qEq a b = true → a = b
  | [], [], _ => rfl
  | [], _ :: _, h => by simp [qEq] at h
  | _ :: _, [], h => by simp [qEq] at h
  | ⟨w, r⟩ :: a, ⟨w', r'⟩ :: b, h => by
    simp only [qEq, List.map_cons, Bool.and_eq_true, beq_iff_eq, List.cons.injEq] at h
    obtain ⟨⟨rfl, h1⟩, rfl, h2⟩ := h
    rw [qEq_eq (a := a) (b := b) (by simp [qEq, h1, h2])]
theorem ex_plan4 : planF (exP 400) exO = some (exQ, 1600) := by
  have h : (match planF (exP 400) exO with | some x => qEq x.1 exQ && x.2 == 1600 | none => false) = true := by decide +kernel
  cases hp : planF (exP 400) exO with
  | none => rw [hp] at h; cases h
  | some x =>
    rw [hp] at h
    simp only [Bool.and_eq_true, beq_iff_eq] at h
    obtain ⟨q, w⟩ := x
    obtain ⟨h1, h2⟩ := h
    dsimp only at h1 h2
    rw [qEq_eq h1, h2]
theorem ex_ag : (match badsF (exP 200) exO 8 with | [] => [] | x :: t => minBy cmpL2 x t) = [1] := by decide +kernel
theorem ex_get : getX (exP 400) exO exQ = .inl ([10, 8, 4], 1600) := by decide +kernel
theorem ex_bnd : boundI (exP 400) exO = (2, 8, 160) ∧ boundE (exP 400) exO = 0 := by decide +kernel
theorem ex_knv : knvL (exP 400) exO [2, 1, 0] = [100, 900, 1700, 2400] ∧ owE (exP 400) exO [2, 1, 0] = 0 := by decide +kernel
theorem ex_chE : chgE [100, 900, 1700, 2400] [50, 1250, 2450] = 0 := by decide +kernel
theorem ex_ch : edI [100, 900, 1700, 2400] [50, 1250, 2450] 4 3 = 950 := by
  simp [edI, atI]
  decide
theorem ex_sh : sheetsI 1000 1 10 = (99, 101) ∧ sheetsE 1000 1 10 = 0 := by decide +kernel
theorem ex_cho : choI [exP 200, exP 400] exO = 1 ∧ choE [exP 200, exP 400] exO = 0 := by decide +kernel
end Go.Dw.Seat
end
section
set_option linter.unusedSimpArgs false
set_option maxRecDepth 100000
namespace Go.Dw.Seat
open Go Go.Dw Go.Proofs Go.IntWalk
theorem sameY {R : Bool} {α : Type} {s t : List α} (h : s = t) (hR : R = true) : (R = true ↔ s = t) := by simp [h, hR]
set_option maxHeartbeats 8000000 in
theorem laKnown : DCall Try.prog 15 [] [] (bD true) [] := by
  have p2 := laPaper 200
  have p4 := laPaper 400
  have po := laOrders
  have e2 := ex_open 200 (by decide)
  have e4 := ex_open 400 (by decide)
  have c1 := trPatternsX (exP 200) exO (by decide)
  rw [patsD, if_pos e2, e2, show patsX (exP 200) exO exO.length [] = exA from rfl] at c1
  have c2 := trPlanX (exP 200) exO (by decide)
  rw [planX, if_pos e2, ex_plan] at c2
  dsimp only at c2
  have c3 := trAgainst (exP 200) exO (by decide)
  have a3 : agE (exP 200) exO = 0 := by unfold agE; rw [if_neg (by simpa using e2), ex_plan]; rfl
  have a4 : agD (exP 200) exO = dIs false [1] := by
    rw [agD, a3, if_neg (by decide)]
    have h := ex_ag
    have hne := badsF_ne (p := exP 200) (l := exO) (by decide) ex_plan
    rw [show (2 ^ exO.length) = 8 from rfl] at hne ⊢
    cases hb : badsF (exP 200) exO 8 with
    | nil => exact absurd hb hne
    | cons x t =>
      rw [hb] at h
      dsimp only at h ⊢
      rw [h]
  rw [a3, a4] at c3
  have c4 := trPlanX (exP 400) exO (by decide)
  rw [planX, if_pos e4, ex_plan4] at c4
  dsimp only at c4
  have c5 := trGetX (exP 400) exO (by decide) exQ (by decide)
  rw [ex_get] at c5
  simp only [doesD] at c5
  have c6 := trBound (exP 400) exO (by decide)
  rw [ex_bnd.1, ex_bnd.2] at c6
  have c7 := trKnives true (exP 400) exO (by decide) [2, 1, 0] (by decide)
  rw [knvD, if_pos ex_knv.2, ex_knv.1, ex_knv.2] at c7
  have c8 := trChangeX true true [100, 900, 1700, 2400] [50, 1250, 2450] (by decide) (by decide)
  rw [chgI, if_pos ex_chE, ex_chE, show edI [100, 900, 1700, 2400] [50, 1250, 2450] ([100, 900, 1700, 2400] : List Int).length ([50, 1250, 2450] : List Int).length = 950 from ex_ch] at c8
  have c9 := trSheets 1000 1 10
  rw [ex_sh.1, ex_sh.2] at c9
  have c10 := trChoose true [exP 200, exP 400] (by decide) exO (by decide)
  rw [ex_cho.1, ex_cho.2] at c10
  have s1 := laSetup 2 [0, 0, 2]
  have s2 := laSetup 1 [0, 3, 0]
  have s3 := laSetup 5 [2, 1, 0]
  have i1 := reInts false true [0, 0, 2] [0, 0, 2] (by decide) (by decide)
  have i2 := reInts false true [1] [1] (by decide) (by decide)
  have i3 := reInts false true [10, 8, 4] [10, 8, 4] (by decide) (by decide)
  have i4 := reInts false true [100, 900, 1700, 2400] [100, 900, 1700, 2400] (by decide) (by decide)
  rw [decide_eq_true rfl] at i1 i2 i3 i4
  have i5 := reSame false true exQ exQ (by decide) (by decide) (by decide) (by decide) true (sameY rfl rfl)
  have l1 := laSpan 99 101
  have hl := ex_all
  have h0 := ex_all0
  generalize exA = A at *
  clear e2 e4 a3 a4
  have dl : ((A.length : Int) != 3) = false := by rw [hl]; rfl
  have d0 : decide ((0 : Int) < (A.length : Int)) = true := by rw [hl]; rfl
  refine DCall.of Try.func15 sf15 hb15 (Nat.le_of_ble_eq_true rfl) (okRes_nil fun _ => rfl) ?_; simp only [s15, idxs, Nat.reduceAdd]
  repeat' (first
    | (with_reducible first | refine DW.seq ?_ | refine DW.block ?_ | refine DW.skip ?_ | refine DW.exit ?_ | refine DW.ret ?_ | refine DW.reg ?_)
    | (refine DW.dreg rfl (WF.of ?_) ?_; first | rfl | skip)
    | (simp (disch := omega) only [go_sem, simprocAttr, bm_box, bm_row, bk_box, bk_row])
    | (exact retS_of rfl rfl rfl)
    | (refine DW.cond_tt rfl ?_)
    | (refine call_c (p2) (by decide) ?_)
    | (refine call_c (p4) (by decide) ?_)
    | (refine call_c (po) (by decide) ?_)
    | (refine call_c (c1) (by decide) ?_)
    | (refine call_c (c2) (by decide) ?_)
    | (refine call_c (c3) (by decide) ?_)
    | (refine call_c (c4) (by decide) ?_)
    | (refine DW.cond_ff rfl ?_)
    | (refine DW.cond rfl ?_ ?_ <;> intro hc <;> (try simp only [go_sem] at hc))
    | (refine g_split ?_ ?_ <;> intro hc <;> (try simp only [hc]) <;> (try simp only [go_sem] at hc)))
  refine call_rel 52 rfl ?_
  simp (disch := omega) only [go_sem, simprocAttr, bm_box, bm_row, bk_box, bk_row]
  refine opsN.c s1 rfl rfl (by decide) ?_
  simp (disch := omega) only [go_sem, simprocAttr, bm_box, bm_row, bk_box, bk_row]
  repeat' (first
    | (with_reducible first | refine DW.seq ?_ | refine DW.block ?_ | refine DW.skip ?_ | refine DW.exit ?_ | refine DW.ret ?_ | refine DW.reg ?_)
    | (refine DW.dreg rfl (WF.of ?_) ?_; first | rfl | skip)
    | (simp (disch := omega) only [go_sem, simprocAttr, bm_box, bm_row, bk_box, bk_row, dl, d0, h0])
    | (exact retS_of rfl rfl rfl)
    | (refine DW.cond_tt rfl ?_)
    | (refine call_c (p2) (by decide) ?_)
    | (refine call_c (p4) (by decide) ?_)
    | (refine call_c (po) (by decide) ?_)
    | (refine call_c (c6) (by decide) ?_)
    | (refine call_c (c7) (by decide) ?_)
    | (refine call_c (c8) (by decide) ?_)
    | (refine call_c (c9) (by decide) ?_)
    | (refine call_c (c10) (by decide) ?_)
    | (refine call_c (i1) (by decide) ?_)
    | (refine call_c (i2) (by decide) ?_)
    | (refine call_c (i3) (by decide) ?_)
    | (refine call_c (i4) (by decide) ?_)
    | (refine call_c (i5) (by decide) ?_)
    | (refine call_c (l1) (by decide) ?_)
    | (refine DW.cond_ff rfl ?_)
    | (refine DW.cond rfl ?_ ?_ <;> intro hc <;> (try simp only [go_sem] at hc))
    | (refine g_split ?_ ?_ <;> intro hc <;> (try simp only [hc]) <;> (try simp only [go_sem] at hc)))
  refine call_rel 54 rfl ?_
  simp (disch := omega) only [go_sem, simprocAttr, bm_box, bm_row, bk_box, bk_row]
  refine opsN.c s2 rfl rfl (by decide) ?_
  simp (disch := omega) only [go_sem, simprocAttr, bm_box, bm_row, bk_box, bk_row]
  repeat' (first
    | (with_reducible first | refine DW.seq ?_ | refine DW.block ?_ | refine DW.skip ?_ | refine DW.exit ?_ | refine DW.ret ?_ | refine DW.reg ?_)
    | (refine DW.dreg rfl (WF.of ?_) ?_; first | rfl | skip)
    | (simp (disch := omega) only [go_sem, simprocAttr, bm_box, bm_row, bk_box, bk_row, dl, d0, h0])
    | (exact retS_of rfl rfl rfl)
    | (refine DW.cond_tt rfl ?_)
    | (refine call_c (p2) (by decide) ?_)
    | (refine call_c (p4) (by decide) ?_)
    | (refine call_c (po) (by decide) ?_)
    | (refine call_c (c6) (by decide) ?_)
    | (refine call_c (c7) (by decide) ?_)
    | (refine call_c (c8) (by decide) ?_)
    | (refine call_c (c9) (by decide) ?_)
    | (refine call_c (c10) (by decide) ?_)
    | (refine call_c (i1) (by decide) ?_)
    | (refine call_c (i2) (by decide) ?_)
    | (refine call_c (i3) (by decide) ?_)
    | (refine call_c (i4) (by decide) ?_)
    | (refine call_c (i5) (by decide) ?_)
    | (refine call_c (l1) (by decide) ?_)
    | (refine DW.cond_ff rfl ?_)
    | (refine DW.cond rfl ?_ ?_ <;> intro hc <;> (try simp only [go_sem] at hc))
    | (refine g_split ?_ ?_ <;> intro hc <;> (try simp only [hc]) <;> (try simp only [go_sem] at hc)))
  refine call_rel 56 rfl ?_
  simp (disch := omega) only [go_sem, simprocAttr, bm_box, bm_row, bk_box, bk_row]
  refine opsN.c s3 rfl rfl (by decide) ?_
  simp (disch := omega) only [go_sem, simprocAttr, bm_box, bm_row, bk_box, bk_row]
  repeat' (first
    | (with_reducible first | refine DW.seq ?_ | refine DW.block ?_ | refine DW.skip ?_ | refine DW.exit ?_ | refine DW.ret ?_ | refine DW.reg ?_)
    | (refine DW.dreg rfl (WF.of ?_) ?_; first | rfl | skip)
    | (simp (disch := omega) only [go_sem, simprocAttr, bm_box, bm_row, bk_box, bk_row, dl, d0, h0])
    | (exact retS_of rfl rfl rfl)
    | (refine DW.cond_tt rfl ?_)
    | (refine call_c (p2) (by decide) ?_)
    | (refine call_c (p4) (by decide) ?_)
    | (refine call_c (po) (by decide) ?_)
    | (refine call_c (c6) (by decide) ?_)
    | (refine call_c (c7) (by decide) ?_)
    | (refine call_c (c8) (by decide) ?_)
    | (refine call_c (c9) (by decide) ?_)
    | (refine call_c (c10) (by decide) ?_)
    | (refine call_c (i1) (by decide) ?_)
    | (refine call_c (i2) (by decide) ?_)
    | (refine call_c (i3) (by decide) ?_)
    | (refine call_c (i4) (by decide) ?_)
    | (refine call_c (i5) (by decide) ?_)
    | (refine call_c (l1) (by decide) ?_)
    | (refine DW.cond_ff rfl ?_)
    | (refine DW.cond rfl ?_ ?_ <;> intro hc <;> (try simp only [go_sem] at hc))
    | (refine g_split ?_ ?_ <;> intro hc <;> (try simp only [hc]) <;> (try simp only [go_sem] at hc)))
  refine call_rel 58 rfl ?_
  simp (disch := omega) only [go_sem, simprocAttr, bm_box, bm_row, bk_box, bk_row]
  refine opsN.c c5 rfl rfl (by decide) ?_
  simp (disch := omega) only [go_sem, simprocAttr, bm_box, bm_row, bk_box, bk_row]
  repeat' (first
    | (with_reducible first | refine DW.seq ?_ | refine DW.block ?_ | refine DW.skip ?_ | refine DW.exit ?_ | refine DW.ret ?_ | refine DW.reg ?_)
    | (refine DW.dreg rfl (WF.of ?_) ?_; first | rfl | skip)
    | (simp (disch := omega) only [go_sem, simprocAttr, bm_box, bm_row, bk_box, bk_row, dl, d0, h0])
    | (exact retS_of rfl rfl rfl)
    | (refine DW.cond_tt rfl ?_)
    | (refine call_c (p2) (by decide) ?_)
    | (refine call_c (p4) (by decide) ?_)
    | (refine call_c (po) (by decide) ?_)
    | (refine call_c (c6) (by decide) ?_)
    | (refine call_c (c7) (by decide) ?_)
    | (refine call_c (c8) (by decide) ?_)
    | (refine call_c (c9) (by decide) ?_)
    | (refine call_c (c10) (by decide) ?_)
    | (refine call_c (i1) (by decide) ?_)
    | (refine call_c (i2) (by decide) ?_)
    | (refine call_c (i3) (by decide) ?_)
    | (refine call_c (i4) (by decide) ?_)
    | (refine call_c (i5) (by decide) ?_)
    | (refine call_c (l1) (by decide) ?_)
    | (refine DW.cond_ff rfl ?_)
    | (refine DW.cond rfl ?_ ?_ <;> intro hc <;> (try simp only [go_sem] at hc))
    | (refine g_split ?_ ?_ <;> intro hc <;> (try simp only [hc]) <;> (try simp only [go_sem] at hc)))
  refine call_rel 154 rfl ?_
  simp (disch := omega) only [go_sem, simprocAttr, bm_box, bm_row, bk_box, bk_row]
  refine opsN.c s1 rfl rfl (by decide) ?_
  simp (disch := omega) only [go_sem, simprocAttr, bm_box, bm_row, bk_box, bk_row]
  repeat' (first
    | (with_reducible first | refine DW.seq ?_ | refine DW.block ?_ | refine DW.skip ?_ | refine DW.exit ?_ | refine DW.ret ?_ | refine DW.reg ?_)
    | (refine DW.dreg rfl (WF.of ?_) ?_; first | rfl | skip)
    | (simp (disch := omega) only [go_sem, simprocAttr, bm_box, bm_row, bk_box, bk_row, dl, d0, h0])
    | (exact retS_of rfl rfl rfl)
    | (refine DW.cond_tt rfl ?_)
    | (refine call_c (p2) (by decide) ?_)
    | (refine call_c (p4) (by decide) ?_)
    | (refine call_c (po) (by decide) ?_)
    | (refine call_c (c6) (by decide) ?_)
    | (refine call_c (c7) (by decide) ?_)
    | (refine call_c (c8) (by decide) ?_)
    | (refine call_c (c9) (by decide) ?_)
    | (refine call_c (c10) (by decide) ?_)
    | (refine call_c (i1) (by decide) ?_)
    | (refine call_c (i2) (by decide) ?_)
    | (refine call_c (i3) (by decide) ?_)
    | (refine call_c (i4) (by decide) ?_)
    | (refine call_c (i5) (by decide) ?_)
    | (refine call_c (l1) (by decide) ?_)
    | (refine DW.cond_ff rfl ?_)
    | (refine DW.cond rfl ?_ ?_ <;> intro hc <;> (try simp only [go_sem] at hc))
    | (refine g_split ?_ ?_ <;> intro hc <;> (try simp only [hc]) <;> (try simp only [go_sem] at hc)))
  refine call_rel 156 rfl ?_
  simp (disch := omega) only [go_sem, simprocAttr, bm_box, bm_row, bk_box, bk_row]
  refine opsN.c s2 rfl rfl (by decide) ?_
  simp (disch := omega) only [go_sem, simprocAttr, bm_box, bm_row, bk_box, bk_row]
  repeat' (first
    | (with_reducible first | refine DW.seq ?_ | refine DW.block ?_ | refine DW.skip ?_ | refine DW.exit ?_ | refine DW.ret ?_ | refine DW.reg ?_)
    | (refine DW.dreg rfl (WF.of ?_) ?_; first | rfl | skip)
    | (simp (disch := omega) only [go_sem, simprocAttr, bm_box, bm_row, bk_box, bk_row, dl, d0, h0])
    | (exact retS_of rfl rfl rfl)
    | (refine DW.cond_tt rfl ?_)
    | (refine call_c (p2) (by decide) ?_)
    | (refine call_c (p4) (by decide) ?_)
    | (refine call_c (po) (by decide) ?_)
    | (refine call_c (c6) (by decide) ?_)
    | (refine call_c (c7) (by decide) ?_)
    | (refine call_c (c8) (by decide) ?_)
    | (refine call_c (c9) (by decide) ?_)
    | (refine call_c (c10) (by decide) ?_)
    | (refine call_c (i1) (by decide) ?_)
    | (refine call_c (i2) (by decide) ?_)
    | (refine call_c (i3) (by decide) ?_)
    | (refine call_c (i4) (by decide) ?_)
    | (refine call_c (i5) (by decide) ?_)
    | (refine call_c (l1) (by decide) ?_)
    | (refine DW.cond_ff rfl ?_)
    | (refine DW.cond rfl ?_ ?_ <;> intro hc <;> (try simp only [go_sem] at hc))
    | (refine g_split ?_ ?_ <;> intro hc <;> (try simp only [hc]) <;> (try simp only [go_sem] at hc)))
  refine call_rel 158 rfl ?_
  simp (disch := omega) only [go_sem, simprocAttr, bm_box, bm_row, bk_box, bk_row]
  refine opsN.c s3 rfl rfl (by decide) ?_
  simp (disch := omega) only [go_sem, simprocAttr, bm_box, bm_row, bk_box, bk_row]
  repeat' (first
    | (with_reducible first | refine DW.seq ?_ | refine DW.block ?_ | refine DW.skip ?_ | refine DW.exit ?_ | refine DW.ret ?_ | refine DW.reg ?_)
    | (refine DW.dreg rfl (WF.of ?_) ?_; first | rfl | skip)
    | (simp (disch := omega) only [go_sem, simprocAttr, bm_box, bm_row, bk_box, bk_row, dl, d0, h0])
    | (exact retS_of rfl rfl rfl)
    | (refine DW.cond_tt rfl ?_)
    | (refine call_c (p2) (by decide) ?_)
    | (refine call_c (p4) (by decide) ?_)
    | (refine call_c (po) (by decide) ?_)
    | (refine call_c (c6) (by decide) ?_)
    | (refine call_c (c7) (by decide) ?_)
    | (refine call_c (c8) (by decide) ?_)
    | (refine call_c (c9) (by decide) ?_)
    | (refine call_c (c10) (by decide) ?_)
    | (refine call_c (i1) (by decide) ?_)
    | (refine call_c (i2) (by decide) ?_)
    | (refine call_c (i3) (by decide) ?_)
    | (refine call_c (i4) (by decide) ?_)
    | (refine call_c (i5) (by decide) ?_)
    | (refine call_c (l1) (by decide) ?_)
    | (refine DW.cond_ff rfl ?_)
    | (refine DW.cond rfl ?_ ?_ <;> intro hc <;> (try simp only [go_sem] at hc))
    | (refine g_split ?_ ?_ <;> intro hc <;> (try simp only [hc]) <;> (try simp only [go_sem] at hc)))
end Go.Dw.Seat
end
section
set_option linter.unusedSimpArgs false
set_option maxRecDepth 100000
namespace Go.Dw.Seat
open Go Go.Dw Go.Proofs Go.IntWalk
def sluC (b : Option (List TStp)) : C := match b with
  | none => .v (.slice none 0 0)
  | some x => .sl false 2 (rows eSt x)
theorem sluC_nb (b : Option (List TStp)) : C.nb (sluC b) = true := by
  cases b with
  | none => rfl
  | some x => simp only [sluC, C.nb, rows_nb eSt_nb, Bool.and_self, Bool.not_false]
abbrev sluD (b : Option (List TStp)) : D := .c (sluC b)
abbrev bstD (b : Option (List TStp)) : D := .agg [sluD b, bD b.isSome]
structure NowOk (p : TPap) (l : List TOrd) (T : List (List Int)) (q : List TStp) : Prop where
  asc : (q.map (·.ws) ++ T).Pairwise fun a b => lexW a b = true
  ok : ∀ s ∈ q, WsOk p l s.ws ∧ 1 ≤ s.run ∧ s.run ≤ 30
theorem NowOk.tail {p : TPap} {l : List TOrd} {T : List (List Int)} {q : List TStp} {ws : List Int} (h : NowOk p l (ws :: T) q) : NowOk p l T q :=
  ⟨h.asc.sublist (List.Sublist.append (List.Sublist.refl _) (List.sublist_cons_self _ _)), h.ok⟩
theorem NowOk.snoc {p : TPap} {l : List TOrd} {T : List (List Int)} {q : List TStp} {ws : List Int} (h : NowOk p l (ws :: T) q) (hw : WsOk p l ws) {r : Int} (hr : 1 ≤ r ∧ r ≤ 30) : NowOk p l T (q ++ [⟨ws, r⟩]) := by
  refine ⟨?_, fun s hs => ?_⟩
  · rw [List.map_append, List.append_assoc]
    exact h.asc
  · rcases List.mem_append.1 hs with hs | hs
    · exact h.ok s hs
    · rw [List.mem_singleton] at hs
      subst hs
      exact ⟨hw, hr⟩
theorem now_getR {p : TPap} (hp : p.ok) {l : List TOrd} : ∀ (q : List TStp) (pr : Option TStp) (G : List Int) (W : Int) (i : Nat), ((pr.toList ++ q).map (·.ws)).Pairwise (fun a b => lexW a b = true) → (∀ s ∈ pr.toList ++ q, WsOk p l s.ws ∧ 1 ≤ s.run ∧ s.run ≤ 30) → getR p l pr G W i q = .inl (gotF G q, W + wasteF p l q)
  | [], pr, G, W, i, _, _ => by rw [getR, gotF, wasteF, Int.add_zero]
  | s :: q, pr, G, W, i, ha, ho => by
    obtain ⟨h1, h2⟩ := ho s (by simp)
    have hst : stE p l pr s = 0 := by
      unfold stE
      rw [websE_yes (h1.ws4 hp) h1.pat, if_neg (by decide), if_neg (by rw [wthn_yes (by simpa using h2)]; decide)]
      cases pr with
      | none => rfl
      | some u =>
        have h3 := (ho u (by simp)).1
        have h4 : lexW u.ws s.ws = true := by
          simp only [Option.toList_some, List.map_append, List.map_cons, List.map_nil, List.cons_append, List.nil_append, List.pairwise_cons] at ha
          exact ha.1 s.ws (by simp)
        rw [lexW_cmp (by rw [h3.len, h1.len])] at h4
        dsimp only
        rw [if_neg (by simpa using h4)]
    rw [getR, hst, if_neg (by decide)]
    have ih := now_getR hp (l := l) q (some s) (addG G s.ws s.run) (W + trimI p l s.ws * s.run) (i + 1)
      (by
        refine List.Pairwise.sublist (List.Sublist.map _ ?_) ha
        exact List.sublist_append_right _ _)
      (fun x hx => ho x (by
        simp only [Option.toList_some, List.cons_append, List.nil_append] at hx
        exact List.mem_append_right _ hx))
    rw [ih, gotF, wasteF, Int.add_assoc]
theorem now_does {p : TPap} (hp : p.ok) {l : List TOrd} {T : List (List Int)} {q : List TStp} (h : NowOk p l T q) (hq : q.length ≤ 3) : ((errOf (doesA p l q)).2 == 0) = doesP l q := by
  have h1 := now_getR hp q none (zeros l.length) 0 0 (by
    have := h.asc
    rw [List.pairwise_append] at this
    simpa using this.1) (fun s hs => h.ok s (by simpa using hs))
  rw [doesA_eq (by omega), h1, doesO]
  dsimp only
  have hwd := wrong_does l (gotF (zeros l.length) q) (by rw [gotF_len]; simp [zeros])
  rw [doesP, ← hwd]
  split
  · rename_i h0
    rw [decide_eq_false (by omega)]; rfl
  · rename_i h0
    rw [decide_eq_true (by omega)]; rfl
def BesC (p : TPap) (l : List TOrd) (P : List (List Int)) (k : Nat) : Prop := ∀ (b1 b2 : Bool) (i : Nat) (now : List TStp) (b : Option (List TStp)), i ≤ P.length → now.length + k = 3 → NowOk p l (P.drop i) now → (∀ x, b = some x → ∃ T, NowOk p l T x ∧ x.length ≤ 3) →
  DCall Try.prog 69 [papD p, .c (.sl b1 3 (rows eO l)), dWs b2 P, dSt false now, dI i, bstD b] [] (bstD (bestF p l (longN l) k (P.drop i) now b)) []
def betO (p : TPap) (l : List TOrd) (now : List TStp) (b : Option (List TStp)) : Bool := match b with
  | none => true
  | some x => betB p l now x
theorem candF_eq (p : TPap) (l : List TOrd) (now : List TStp) (b : Option (List TStp)) : candF p l now b = if (doesP l now && betO p l now b) = true then some now else b := by
  cases b <;> rfl
theorem cand_ok {p : TPap} {l : List TOrd} {T : List (List Int)} {now : List TStp} (h : NowOk p l T now) (hn : now.length ≤ 3) {b : Option (List TStp)} (hb : ∀ x, b = some x → ∃ T, NowOk p l T x ∧ x.length ≤ 3) : ∀ x, candF p l now b = some x → ∃ T, NowOk p l T x ∧ x.length ≤ 3 := by
  intro x hx
  have : candF p l now b = some now ∨ candF p l now b = b := by
    unfold candF
    generalize (doesP l now && _) = c
    cases c
    · exact .inr rfl
    · exact .inl rfl
  rcases this with e | e <;> rw [e] at hx
  · cases hx; exact ⟨T, h, hn⟩
  · exact hb x hx
abbrev OkB (p : TPap) (l : List TOrd) (b : Option (List TStp)) : Prop := ∀ x, b = some x → ∃ T, NowOk p l T x ∧ x.length ≤ 3
theorem bestR_ok {p : TPap} {l : List TOrd} {rec : List TStp → Option (List TStp) → Option (List TStp)} {ws : List Int} {now : List TStp} (hrec : ∀ (r : Int) b, 1 ≤ r ∧ r ≤ 30 → OkB p l b → OkB p l (rec (now ++ [⟨ws, r⟩]) b)) : ∀ (c : Nat) (r : Int) (b : Option (List TStp)), 1 ≤ r → r + c ≤ 31 → OkB p l b → OkB p l (bestR rec ws now c r b)
  | 0, _, _, _, _, h => h
  | c + 1, r, b, h1, h2, h => by
    rw [bestR]
    exact bestR_ok hrec c (r + 1) _ (by omega) (by omega) (hrec r b (by omega) h)
theorem bestL_ok {p : TPap} {l : List TOrd} {L : Nat} (hL : L ≤ 30) {rec : List (List Int) → List TStp → Option (List TStp) → Option (List TStp)} {now : List TStp} (hrec : ∀ T ws (r : Int) b, NowOk p l (ws :: T) now → WsOk p l ws → 1 ≤ r ∧ r ≤ 30 → (∀ w ∈ T, WsOk p l w) → OkB p l b → OkB p l (rec T (now ++ [⟨ws, r⟩]) b)) : ∀ (T : List (List Int)) (b : Option (List TStp)), NowOk p l T now → (∀ w ∈ T, WsOk p l w) → OkB p l b → OkB p l (bestL rec L now T b)
  | [], _, _, _, h => h
  | ws :: T, b, h1, h2, h => by
    rw [bestL]
    refine bestL_ok hL hrec T _ h1.tail (fun w hw => h2 w (by simp [hw])) ?_
    exact bestR_ok (fun r b hr hb => hrec T ws r b h1 (h2 ws (by simp)) hr (fun w hw => h2 w (by simp [hw])) hb) L 1 b (by omega) (by omega) h
theorem bestF_ok {p : TPap} {l : List TOrd} {L : Nat} (hL : L ≤ 30) : ∀ (k : Nat) (T : List (List Int)) (now : List TStp) (b : Option (List TStp)), NowOk p l T now → now.length + k ≤ 3 → (∀ w ∈ T, WsOk p l w) → OkB p l b → OkB p l (bestF p l L k T now b)
  | 0, T, now, b, h1, h2, _, h => by rw [bestF]; exact cand_ok h1 (by omega) h
  | k + 1, T, now, b, h1, h2, h3, h => by
    rw [bestF]
    refine bestL_ok hL (fun T' ws r b' g1 g2 g3 g4 g5 => bestF_ok hL k T' (now ++ [⟨ws, r⟩]) b' (g1.snoc g2 g3) (by simp; omega) g4 g5) T _ h1 h3 (cand_ok h1 (by omega) h)
theorem now_run {p : TPap} (hp : p.ok) {l : List TOrd} {T : List (List Int)} {q : List TStp} (h : NowOk p l T q) : ∀ s ∈ q, Ws4 l s.ws ∧ 0 ≤ s.run ∧ s.run ≤ 30 := fun s hs => by
  obtain ⟨h1, h2⟩ := h.ok s hs
  exact ⟨h1.ws4 hp, by omega, h2.2⟩
set_option maxHeartbeats 4000000 in
theorem reBestS (p : TPap) (hp : p.ok) (l : List TOrd) (hl : l.length ≤ 4) (ho : ∀ o ∈ l, o.ok) (P : List (List Int)) (hP : ∀ ws ∈ P, WsOk p l ws) (hPl : P.length ≤ 625) (k : Nat) (ih : ∀ j, k = j + 1 → BesC p l P j) : BesC p l P k := by
  intro b1 b2 i now b hi hk hnow hb
  have hnl : now.length ≤ 3 := by omega
  have hrun := now_run hp hnow
  have h1 := reDoes b1 false p hp l hl ho now (fun s hs => by have := (hrun s hs).1.len; omega)
  have hdz := now_does hp hnow hnl
  have hcok := cand_ok hnow hnl hb
  have hlg := reLongest b1 l hl ho
  have hLb : longN l ≤ 30 := by rw [longN, min2_eq]; omega
  generalize hR : bestF p l (longN l) k (P.drop i) now b = R
  generalize doesA p l now = E at *
  generalize hE : errOf E = Z at *
  obtain ⟨e1, e2⟩ := Z
  dsimp only at hdz h1
  refine DCall.of Try.func69 sf69 hb69 (Nat.le_of_ble_eq_true rfl) (okRes_nil fun _ => rfl) ?_
  simp only [s69, o69_0, o69_1, o69_2, o69_3, o69_4, o69_5, o69_6, o69_7, o69_8, o69_9, o69_10, o69_11, o69_12, o69_13, o69_14, o69_15, o69_16, o69_17, idxs, Nat.reduceAdd]
  refine DW.seq (DW.reg ?_)
  simp (disch := omega) only [go_sem, simprocAttr, bm_box, bm_row, bk_box, bk_row]
  refine DW.cut ⟨77, [(1, .c (.sl b1 3 (rows eO l))), (2, dWs b2 P), (3, dSt false now), (4, dI i), (6, .box 6 0), (11, .box 11 0), (12, .box 12 0)], [(12, .box [.c (.v (.slice none 0 0)), bD false]), (11, .box [sluD (candF p l now b), bD (candF p l now b).isSome]), (6, .box [dI p.wide, dI p.tl, dI p.th, dI p.webs])]⟩ ?_ ?_
  · have hcf := candF_eq p l now b
    cases hd : doesP l now with
    | false =>
      rw [hd] at hdz
      rw [hd, Bool.false_and, if_neg (by decide)] at hcf
      rw [hcf]
      cases b with
      | none =>
        repeat' (first
    | (with_reducible first | refine DW.seq ?_ | refine DW.block ?_ | refine DW.skip ?_ | refine DW.exit ?_ | refine DW.ret ?_ | refine DW.reg ?_)
    | (refine DW.ord rfl (WF.of (by first | rfl | simp (disch := omega) only [go_sem, simprocAttr, bm_box, bm_row, bk_box, bk_row, hdz, sluC, Option.isSome_none])) ?_ ?_ ?_; rotate_left)
    | rfl
    | (with_reducible refine And.intro ?_ ?_)
    | (simp (disch := omega) only [go_sem, simprocAttr, bm_box, bm_row, bk_box, bk_row, hdz, sluC, Option.isSome_none])
    | (exact retS_of rfl rfl rfl)
    | (refine DW.cond_tt rfl ?_)
    | (refine call_c (h1) (by decide) ?_)
    | (refine DW.cond_ff rfl ?_)
    | (refine DW.cond rfl ?_ ?_ <;> intro hc <;> (try simp only [go_sem] at hc))
    | (refine g_split ?_ ?_ <;> intro hc <;> (try simp only [hc]) <;> (try simp only [go_sem] at hc)))
        refine Ent.to ?_ ?_ <;> simp (disch := omega) only [wkT_cons, wkX_cons, wkT_nil, wkX_nil, get, Nat.reduceEqDiff, ↓reduceIte, ex_some, wk_self, wk_top, wk_nil, wkB_self, and_self, dI, i64_in, and_true, true_and, Int.natCast_add, Int.natCast_one, Int.ofNat_zero, Int.natCast_zero]
        all_goals first | exact ⟨.refl _, .refl _, .refl _⟩ | exact ⟨.refl _, .refl _⟩ | exact .refl _
      | some x =>
        repeat' (first
    | (with_reducible first | refine DW.seq ?_ | refine DW.block ?_ | refine DW.skip ?_ | refine DW.exit ?_ | refine DW.ret ?_ | refine DW.reg ?_)
    | (refine DW.ord rfl (WF.of (by first | rfl | simp (disch := omega) only [go_sem, simprocAttr, bm_box, bm_row, bk_box, bk_row, hdz, sluC, Option.isSome_some])) ?_ ?_ ?_; rotate_left)
    | rfl
    | (with_reducible refine And.intro ?_ ?_)
    | (simp (disch := omega) only [go_sem, simprocAttr, bm_box, bm_row, bk_box, bk_row, hdz, sluC, Option.isSome_some])
    | (exact retS_of rfl rfl rfl)
    | (refine DW.cond_tt rfl ?_)
    | (refine call_c (h1) (by decide) ?_)
    | (refine DW.cond_ff rfl ?_)
    | (refine DW.cond rfl ?_ ?_ <;> intro hc <;> (try simp only [go_sem] at hc))
    | (refine g_split ?_ ?_ <;> intro hc <;> (try simp only [hc]) <;> (try simp only [go_sem] at hc)))
        refine Ent.to ?_ ?_ <;> simp (disch := omega) only [wkT_cons, wkX_cons, wkT_nil, wkX_nil, get, Nat.reduceEqDiff, ↓reduceIte, ex_some, wk_self, wk_top, wk_nil, wkB_self, and_self, dI, i64_in, and_true, true_and, Int.natCast_add, Int.natCast_one, Int.ofNat_zero, Int.natCast_zero]
        all_goals first | exact ⟨.refl _, .refl _, .refl _⟩ | exact ⟨.refl _, .refl _⟩ | exact .refl _
    | true =>
      rw [hd] at hdz
      rw [hd, Bool.true_and] at hcf
      cases b with
      | none =>
        rw [if_pos (show betO p l now none = true from rfl)] at hcf
        rw [hcf]
        repeat' (first
    | (with_reducible first | refine DW.seq ?_ | refine DW.block ?_ | refine DW.skip ?_ | refine DW.exit ?_ | refine DW.ret ?_ | refine DW.reg ?_)
    | (refine DW.ord rfl (WF.of (by first | rfl | simp (disch := omega) only [go_sem, simprocAttr, bm_box, bm_row, bk_box, bk_row, hdz, sluC, Option.isSome_none, Option.isSome_some])) ?_ ?_ ?_; rotate_left)
    | rfl
    | (with_reducible refine And.intro ?_ ?_)
    | (simp (disch := omega) only [go_sem, simprocAttr, bm_box, bm_row, bk_box, bk_row, hdz, sluC, Option.isSome_none, Option.isSome_some])
    | (exact retS_of rfl rfl rfl)
    | (refine DW.cond_tt rfl ?_)
    | (refine call_c (h1) (by decide) ?_)
    | (refine DW.cond_ff rfl ?_)
    | (refine DW.cond rfl ?_ ?_ <;> intro hc <;> (try simp only [go_sem] at hc))
    | (refine g_split ?_ ?_ <;> intro hc <;> (try simp only [hc]) <;> (try simp only [go_sem] at hc)))
        refine Ent.to ?_ ?_ <;> simp (disch := omega) only [wkT_cons, wkX_cons, wkT_nil, wkX_nil, get, Nat.reduceEqDiff, ↓reduceIte, ex_some, wk_self, wk_top, wk_nil, wkB_self, and_self, dI, i64_in, and_true, true_and, Int.natCast_add, Int.natCast_one, Int.ofNat_zero, Int.natCast_zero]
        all_goals first | exact ⟨.refl _, .refl _, .refl _⟩ | exact ⟨.refl _, .refl _⟩ | exact .refl _
      | some x =>
        obtain ⟨T, hx1, hx2⟩ := hb x rfl
        have h2 := reBetter b1 false false p hp l hl ho now x (by omega) (by omega) hrun (now_run hp hx1)
        rw [show betO p l now (some x) = betB p l now x from rfl] at hcf
        cases hbt : betB p l now x with
        | true =>
          rw [hbt, if_pos rfl] at hcf
          rw [hbt] at h2
          rw [hcf]
          repeat' (first
    | (with_reducible first | refine DW.seq ?_ | refine DW.block ?_ | refine DW.skip ?_ | refine DW.exit ?_ | refine DW.ret ?_ | refine DW.reg ?_)
    | (refine DW.ord rfl (WF.of (by first | rfl | simp (disch := omega) only [go_sem, simprocAttr, bm_box, bm_row, bk_box, bk_row, hdz, sluC, Option.isSome_some])) ?_ ?_ ?_; rotate_left)
    | rfl
    | (with_reducible refine And.intro ?_ ?_)
    | (simp (disch := omega) only [go_sem, simprocAttr, bm_box, bm_row, bk_box, bk_row, hdz, sluC, Option.isSome_some])
    | (exact retS_of rfl rfl rfl)
    | (refine DW.cond_tt rfl ?_)
    | (refine call_c (h1) (by decide) ?_)
    | (refine call_c (h2) (by decide) ?_)
    | (refine DW.cond_ff rfl ?_)
    | (refine DW.cond rfl ?_ ?_ <;> intro hc <;> (try simp only [go_sem] at hc))
    | (refine g_split ?_ ?_ <;> intro hc <;> (try simp only [hc]) <;> (try simp only [go_sem] at hc)))
          refine Ent.to ?_ ?_ <;> simp (disch := omega) only [wkT_cons, wkX_cons, wkT_nil, wkX_nil, get, Nat.reduceEqDiff, ↓reduceIte, ex_some, wk_self, wk_top, wk_nil, wkB_self, and_self, dI, i64_in, and_true, true_and, Int.natCast_add, Int.natCast_one, Int.ofNat_zero, Int.natCast_zero]
          all_goals first | exact ⟨.refl _, .refl _, .refl _⟩ | exact ⟨.refl _, .refl _⟩ | exact .refl _
        | false =>
          rw [hbt, if_neg (by decide)] at hcf
          rw [hbt] at h2
          rw [hcf]
          repeat' (first
    | (with_reducible first | refine DW.seq ?_ | refine DW.block ?_ | refine DW.skip ?_ | refine DW.exit ?_ | refine DW.ret ?_ | refine DW.reg ?_)
    | (refine DW.ord rfl (WF.of (by first | rfl | simp (disch := omega) only [go_sem, simprocAttr, bm_box, bm_row, bk_box, bk_row, hdz, sluC, Option.isSome_some])) ?_ ?_ ?_; rotate_left)
    | rfl
    | (with_reducible refine And.intro ?_ ?_)
    | (simp (disch := omega) only [go_sem, simprocAttr, bm_box, bm_row, bk_box, bk_row, hdz, sluC, Option.isSome_some])
    | (exact retS_of rfl rfl rfl)
    | (refine DW.cond_tt rfl ?_)
    | (refine call_c (h1) (by decide) ?_)
    | (refine call_c (h2) (by decide) ?_)
    | (refine DW.cond_ff rfl ?_)
    | (refine DW.cond rfl ?_ ?_ <;> intro hc <;> (try simp only [go_sem] at hc))
    | (refine g_split ?_ ?_ <;> intro hc <;> (try simp only [hc]) <;> (try simp only [go_sem] at hc)))
          refine Ent.to ?_ ?_ <;> simp (disch := omega) only [wkT_cons, wkX_cons, wkT_nil, wkX_nil, get, Nat.reduceEqDiff, ↓reduceIte, ex_some, wk_self, wk_top, wk_nil, wkB_self, and_self, dI, i64_in, and_true, true_and, Int.natCast_add, Int.natCast_one, Int.ofNat_zero, Int.natCast_zero]
          all_goals first | exact ⟨.refl _, .refl _, .refl _⟩ | exact ⟨.refl _, .refl _⟩ | exact .refl _
  have hR0 : k = 0 → candF p l now b = R := fun e => by subst e; rw [← hR, bestF]
  have hRS : ∀ j, k = j + 1 → bestL (bestF p l (longN l) j) (longN l) now (P.drop i) (candF p l now b) = R := fun j e => by subst e; rw [← hR, bestF]
  clear hR hdz h1 hE
  generalize candF p l now b = bc at *
  rcases k with _ | k
  · have d3 : ((now.length : Int) == 3) = true := by rw [show now.length = 3 by omega]; rfl
    obtain rfl := hR0 rfl
    repeat' (first
    | (with_reducible first | refine DW.seq ?_ | refine DW.block ?_ | refine DW.skip ?_ | refine DW.exit ?_ | refine DW.ret ?_ | refine DW.reg ?_)
    | (refine DW.ord rfl (WF.of (by first | rfl | simp (disch := omega) only [go_sem, simprocAttr, bm_box, bm_row, bk_box, bk_row, d3])) ?_ ?_ ?_; rotate_left)
    | rfl
    | (with_reducible refine And.intro ?_ ?_)
    | (simp (disch := omega) only [go_sem, simprocAttr, bm_box, bm_row, bk_box, bk_row, d3])
    | (exact retS_of rfl rfl rfl)
    | (refine DW.cond_tt rfl ?_)
    | (refine DW.cond_ff rfl ?_)
    | (refine DW.cond rfl ?_ ?_ <;> intro hc <;> (try simp only [go_sem] at hc))
    | (refine g_split ?_ ?_ <;> intro hc <;> (try simp only [hc]) <;> (try simp only [go_sem] at hc)))
    exact ⟨.inl rfl, _, _, Ent.refl _, rfl, .refl _, by simp only [D.nb, D.nbs, sluC_nb, C.nb, bD, Bool.and_self, Bool.not_false], fun k x hk => by cases hk⟩
  · have d3 : ((now.length : Int) == 3) = false := by rw [beq_eq_false_iff_ne]; omega
    have hRS := hRS k rfl
    have ih := ih k rfl
    clear hR0
    generalize hL : longN l = L at *
    repeat' (first
    | (with_reducible first | refine DW.seq ?_ | refine DW.block ?_ | refine DW.skip ?_ | refine DW.exit ?_ | refine DW.ret ?_ | refine DW.reg ?_)
    | (refine DW.ord rfl (WF.of (by first | rfl | simp (disch := omega) only [go_sem, simprocAttr, bm_box, bm_row, bk_box, bk_row, d3])) ?_ ?_ ?_; rotate_left)
    | rfl
    | (with_reducible refine And.intro ?_ ?_)
    | (simp (disch := omega) only [go_sem, simprocAttr, bm_box, bm_row, bk_box, bk_row, d3])
    | (exact retS_of rfl rfl rfl)
    | (refine DW.cond_tt rfl ?_)
    | (refine DW.cond_ff rfl ?_)
    | (refine DW.cond rfl ?_ ?_ <;> intro hc <;> (try simp only [go_sem] at hc))
    | (refine g_split ?_ ?_ <;> intro hc <;> (try simp only [hc]) <;> (try simp only [go_sem] at hc)))
    refine DW.loop (ι := { y : Nat × Option (List TStp) // y.1 ≤ P.length ∧ NowOk p l (P.drop y.1) now ∧ (∀ x, y.2 = some x → ∃ T, NowOk p l T x ∧ x.length ≤ 3) ∧ bestL (bestF p l L k) L now (P.drop y.1) y.2 = R }) (fun y => ⟨77, [(15, dI y.1.1), (1, .c (.sl b1 3 (rows eO l))), (2, dWs b2 P), (3, dSt false now), (6, .box 6 0), (11, .box 11 0), (12, .box 12 0)], [(12, .box [.c (.v (.slice none 0 0)), bD false]), (11, .box [sluD y.1.2, bD y.1.2.isSome]), (6, .box [dI p.wide, dI p.tl, dI p.th, dI p.webs])]⟩) (fun y => P.length - y.1.1) ⟨(i, bc), hi, hnow, hcok, hRS⟩ ?_ ?_
    · refine Ent.to ?_ ?_ <;> simp (disch := omega) only [wkT_cons, wkX_cons, wkT_nil, wkX_nil, get, Nat.reduceEqDiff, ↓reduceIte, ex_some, wk_self, wk_top, wk_nil, wkB_self, and_self, dI, i64_in, and_true, true_and, Int.natCast_add, Int.natCast_one, Int.ofNat_zero, Int.natCast_zero]
      all_goals first | exact ⟨.refl _, .refl _, .refl _⟩ | exact ⟨.refl _, .refl _⟩ | exact .refl _
    clear hRS hcok hnow hb hi
    rintro ⟨⟨j, bj⟩, hj, hnow, hbj, hRj⟩
    dsimp only at hj hnow hbj hRj ⊢
    rcases at_or P j hj with ⟨ws, hws, hlt, hd⟩ | ⟨he, hd⟩
    case inr =>
      rw [List.drop_eq_nil_of_le (by omega), bestL] at hRj
      subst hRj
      repeat' (first
    | (with_reducible first | refine DW.seq ?_ | refine DW.block ?_ | refine DW.skip ?_ | refine DW.exit ?_ | refine DW.ret ?_ | refine DW.reg ?_)
    | (refine DW.ord rfl (WF.of (by first | rfl | simp (disch := omega) only [go_sem, simprocAttr, bm_box, bm_row, bk_box, bk_row, hd])) ?_ ?_ ?_; rotate_left)
    | rfl
    | (with_reducible refine And.intro ?_ ?_)
    | (simp (disch := omega) only [go_sem, simprocAttr, bm_box, bm_row, bk_box, bk_row, hd])
    | (exact retS_of rfl rfl rfl)
    | (refine DW.cond_tt rfl ?_)
    | (refine DW.cond_ff rfl ?_)
    | (refine DW.cond rfl ?_ ?_ <;> intro hc <;> (try simp only [go_sem] at hc))
    | (refine g_split ?_ ?_ <;> intro hc <;> (try simp only [hc]) <;> (try simp only [go_sem] at hc)))
      exact ⟨.inl rfl, _, _, Ent.refl _, rfl, .refl _, by simp only [D.nb, D.nbs, sluC_nb, C.nb, bD, Bool.and_self, Bool.not_false], fun k x hk => by cases hk⟩
    have hwo := hP ws (List.mem_of_getElem? hws)
    have hdr : P.drop j = ws :: P.drop (j + 1) := by rw [List.drop_eq_getElem_cons hlt, (List.getElem_eq_iff hlt).2 hws]
    rw [hdr] at hnow
    rw [hdr, bestL] at hRj
    repeat' (first
    | (with_reducible first | refine DW.seq ?_ | refine DW.block ?_ | refine DW.skip ?_ | refine DW.exit ?_ | refine DW.ret ?_ | refine DW.reg ?_)
    | (refine DW.ord rfl (WF.of (by first | rfl | simp (disch := omega) only [go_sem, simprocAttr, bm_box, bm_row, bk_box, bk_row, hd])) ?_ ?_ ?_; rotate_left)
    | rfl
    | (with_reducible refine And.intro ?_ ?_)
    | (simp (disch := omega) only [go_sem, simprocAttr, bm_box, bm_row, bk_box, bk_row, hd])
    | (exact retS_of rfl rfl rfl)
    | (refine DW.cond_tt rfl ?_)
    | (refine DW.cond_ff rfl ?_)
    | (refine DW.cond rfl ?_ ?_ <;> intro hc <;> (try simp only [go_sem] at hc))
    | (refine g_split ?_ ?_ <;> intro hc <;> (try simp only [hc]) <;> (try simp only [go_sem] at hc)))
    refine DW.loop (ι := { y : Nat × Option (List TStp) // (1 ≤ y.1 ∧ y.1 ≤ L + 1) ∧ (∀ x, y.2 = some x → ∃ T, NowOk p l T x ∧ x.length ≤ 3) ∧ bestL (bestF p l L k) L now (P.drop (j + 1)) (bestR (bestF p l L k (P.drop (j + 1))) ws now (L + 1 - y.1) (y.1 : Int) y.2) = R }) (fun y => ⟨77, [(16, dI y.1.1), (15, dI j), (1, .c (.sl b1 3 (rows eO l))), (2, dWs b2 P), (3, dSt false now), (6, .box 6 0), (11, .box 11 0), (12, .box 12 0)], [(12, .box [.c (.v (.slice none 0 0)), bD false]), (11, .box [sluD y.1.2, bD y.1.2.isSome]), (6, .box [dI p.wide, dI p.tl, dI p.th, dI p.webs])]⟩) (fun y => L + 1 - y.1.1) ⟨(1, bj), by dsimp only; omega, hbj, hRj⟩ ?_ ?_
    · refine Ent.to ?_ ?_ <;> simp (disch := omega) only [wkT_cons, wkX_cons, wkT_nil, wkX_nil, get, Nat.reduceEqDiff, ↓reduceIte, ex_some, wk_self, wk_top, wk_nil, wkB_self, and_self, dI, i64_in, and_true, true_and, Int.natCast_add, Int.natCast_one, Int.ofNat_zero, Int.natCast_zero]
      all_goals first | exact ⟨.refl _, .refl _, .refl _⟩ | exact ⟨.refl _, .refl _⟩ | exact .refl _
    rintro ⟨⟨r, br⟩, hr, hbr, hRr⟩
    dsimp only at hr hbr hRr ⊢
    by_cases hrL : r ≤ L
    · have hdc : decide ((r : Int) ≤ (L : Int)) = true := decide_eq_true (by omega)
      have hnow2 : NowOk p l (P.drop (j + 1)) (now ++ [⟨ws, (r : Int)⟩]) := hnow.snoc hwo (by omega)
      have hrec := ih b1 b2 (j + 1) (now ++ [⟨ws, (r : Int)⟩]) br hlt (by simp; omega) hnow2 hbr
      have hnl3 : now.length ≤ 2 := by omega
      rw [hL] at hrec
      have ec : L + 1 - r = (L + 1 - (r + 1)) + 1 := by omega
      rw [ec, bestR] at hRr
      have hok2 : ∀ x, bestF p l L k (P.drop (j + 1)) (now ++ [⟨ws, (r : Int)⟩]) br = some x → ∃ T, NowOk p l T x ∧ x.length ≤ 3 := bestF_ok (by omega) k _ _ _ hnow2 (by simp; omega) (fun w hw => hP w (List.mem_of_mem_drop hw)) hbr
      generalize bestF p l L k (P.drop (j + 1)) (now ++ [⟨ws, (r : Int)⟩]) br = B2 at *
      have hsn : rowC (rows eSt now) ++ [[D.c (C.sl false 1 (rows eI ws)), D.c (C.v (.int .i64 r))]] = rowC (rows eSt (now ++ [⟨ws, (r : Int)⟩])) := rowC_snocS now ⟨ws, r⟩
      repeat' (first
    | (with_reducible first | refine DW.seq ?_ | refine DW.block ?_ | refine DW.skip ?_ | refine DW.exit ?_ | refine DW.ret ?_ | refine DW.reg ?_)
    | (refine DW.ord rfl (WF.of (by first | rfl | simp (disch := omega) only [go_sem, simprocAttr, bm_box, bm_row, bk_box, bk_row, hdc, hws, List.map_cons, List.map_nil, hsn])) ?_ ?_ ?_; rotate_left)
    | rfl
    | (with_reducible refine And.intro ?_ ?_)
    | (simp (disch := omega) only [go_sem, simprocAttr, bm_box, bm_row, bk_box, bk_row, hdc, hws, List.map_cons, List.map_nil, hsn])
    | (exact retS_of rfl rfl rfl)
    | (refine DW.cond_tt rfl ?_)
    | (refine call_c (hlg) (by decide) ?_)
    | (refine DW.cond_ff rfl ?_)
    | (refine DW.cond rfl ?_ ?_ <;> intro hc <;> (try simp only [go_sem] at hc))
    | (refine g_split ?_ ?_ <;> intro hc <;> (try simp only [hc]) <;> (try simp only [go_sem] at hc)))
      refine call_rel 61 rfl ?_
      simp (disch := omega) only [go_sem, simprocAttr, bm_box, bm_row, bk_box, bk_row]
      refine opsN.c hrec rfl (by simp (disch := omega) only [go_sem, simprocAttr, bm_box, bm_row, bk_box, bk_row, del]; rfl) (by decide) ?_
      simp (disch := omega) only [go_sem, simprocAttr, bm_box, bm_row, bk_box, bk_row]
      repeat' (first
    | (with_reducible first | refine DW.seq ?_ | refine DW.block ?_ | refine DW.skip ?_ | refine DW.exit ?_ | refine DW.ret ?_ | refine DW.reg ?_)
    | (refine DW.ord rfl (WF.of (by first | rfl | simp (disch := omega) only [go_sem, simprocAttr, bm_box, bm_row, bk_box, bk_row])) ?_ ?_ ?_; rotate_left)
    | rfl
    | (with_reducible refine And.intro ?_ ?_)
    | (simp (disch := omega) only [go_sem, simprocAttr, bm_box, bm_row, bk_box, bk_row])
    | (exact retS_of rfl rfl rfl)
    | (refine DW.cond_tt rfl ?_)
    | (refine DW.cond_ff rfl ?_)
    | (refine DW.cond rfl ?_ ?_ <;> intro hc <;> (try simp only [go_sem] at hc))
    | (refine g_split ?_ ?_ <;> intro hc <;> (try simp only [hc]) <;> (try simp only [go_sem] at hc)))
      refine ⟨⟨(r + 1, B2), by dsimp only; omega, hok2, hRr⟩, ?_, Ent.to ?_ ?_⟩ <;> first | (show _ < _; (try simp only); omega) | (simp (disch := omega) only [wkT_cons, wkX_cons, wkT_nil, wkX_nil, get, Nat.reduceEqDiff, ↓reduceIte, ex_some, wk_self, wk_top, wk_nil, wkB_self, and_self, dI, i64_in, and_true, true_and, Int.natCast_add, Int.natCast_one, Int.ofNat_zero, Int.natCast_zero])
      all_goals first | exact ⟨.refl _, .refl _, .refl _⟩ | exact ⟨.refl _, .refl _⟩ | exact .refl _
    · have hdc : decide ((r : Int) ≤ (L : Int)) = false := decide_eq_false (by omega)
      rw [show L + 1 - r = 0 by omega, bestR] at hRr
      repeat' (first
    | (with_reducible first | refine DW.seq ?_ | refine DW.block ?_ | refine DW.skip ?_ | refine DW.exit ?_ | refine DW.ret ?_ | refine DW.reg ?_)
    | (refine DW.ord rfl (WF.of (by first | rfl | simp (disch := omega) only [go_sem, simprocAttr, bm_box, bm_row, bk_box, bk_row, hdc])) ?_ ?_ ?_; rotate_left)
    | rfl
    | (with_reducible refine And.intro ?_ ?_)
    | (simp (disch := omega) only [go_sem, simprocAttr, bm_box, bm_row, bk_box, bk_row, hdc])
    | (exact retS_of rfl rfl rfl)
    | (refine DW.cond_tt rfl ?_)
    | (refine call_c (hlg) (by decide) ?_)
    | (refine DW.cond_ff rfl ?_)
    | (refine DW.cond rfl ?_ ?_ <;> intro hc <;> (try simp only [go_sem] at hc))
    | (refine g_split ?_ ?_ <;> intro hc <;> (try simp only [hc]) <;> (try simp only [go_sem] at hc)))
      refine ⟨⟨(j + 1, br), hlt, hnow.tail, hbr, hRr⟩, ?_, Ent.to ?_ ?_⟩ <;> first | (show _ < _; (try simp only); omega) | (simp (disch := omega) only [wkT_cons, wkX_cons, wkT_nil, wkX_nil, get, Nat.reduceEqDiff, ↓reduceIte, ex_some, wk_self, wk_top, wk_nil, wkB_self, and_self, dI, i64_in, and_true, true_and, Int.natCast_add, Int.natCast_one, Int.ofNat_zero, Int.natCast_zero])
      all_goals first | exact ⟨.refl _, .refl _, .refl _⟩ | exact ⟨.refl _, .refl _⟩ | exact .refl _
theorem reBest (p : TPap) (hp : p.ok) (l : List TOrd) (hl : l.length ≤ 4) (ho : ∀ o ∈ l, o.ok) (P : List (List Int)) (hP : ∀ ws ∈ P, WsOk p l ws) (hPl : P.length ≤ 625) : ∀ k, BesC p l P k
  | 0 => reBestS p hp l hl ho P hP hPl 0 (fun j h => by cases h)
  | k + 1 => reBestS p hp l hl ho P hP hPl (k + 1) (fun j h => by
    obtain rfl : k = j := by omega
    exact reBest p hp l hl ho P hP hPl k)
theorem reFind (b1 : Bool) (p : TPap) (hp : p.ok) (l : List TOrd) (hl : l.length ≤ 4) (ho : ∀ o ∈ l, o.ok) : DCall Try.prog 34 [papD p, .c (.sl b1 3 (rows eO l))] [] (bstD (findF p l)) [] := by
  have h1 := rePatterns b1 p hp l hl ho
  have hpl := patsX_len4 p hp l hl
  rw [patsX_all p hp l] at hpl
  have hpo := pats_ok p l
  have h2 := reBest p hp l hl ho (pats p l) hpo.ok hpl 3 b1 false 0 [] none (Nat.zero_le _) rfl ⟨hpo.asc, fun s hs => by cases hs⟩ (fun x h => by cases h)
  rw [List.drop_zero] at h2
  have h3 := DCall.weakA (l := [papD p, .c (.sl b1 3 (rows eO l)), dWs false (pats p l), .c (.v (.slice none 0 0)), dI (0 : Nat), bstD none]) h2 (.cons (.inl rfl) (.cons (.inl rfl) (.cons (.inl rfl) (.cons (.inr ⟨_, _, rfl, rfl, .nil _ _⟩) (.cons (.inl rfl) (.cons (.inl rfl) .nil))))))
  rw [findF]
  generalize pats p l = P at *
  generalize bestF p l (longN l) 3 P [] none = R at *
  refine DCall.of Try.func34 sf34 hb34 (Nat.le_of_ble_eq_true rfl) (okRes_nil fun _ => rfl) ?_; simp only [s34, idxs, Nat.reduceAdd]
  repeat' (first
    | (with_reducible first | refine DW.seq ?_ | refine DW.block ?_ | refine DW.skip ?_ | refine DW.exit ?_ | refine DW.ret ?_ | refine DW.reg ?_)
    | (refine DW.dreg rfl (WF.of ?_) ?_; first | rfl | skip)
    | (simp (disch := omega) only [go_sem, simprocAttr, bm_box, bm_row, bk_box, bk_row])
    | (exact retS_of rfl rfl rfl)
    | (refine DW.cond_tt rfl ?_)
    | (refine call_c (h1) (by decide) ?_)
    | (refine call_c (h3) (by decide) ?_)
    | (refine DW.cond_ff rfl ?_)
    | (refine DW.cond rfl ?_ ?_ <;> intro hc <;> (try simp only [go_sem] at hc))
    | (refine g_split ?_ ?_ <;> intro hc <;> (try simp only [hc]) <;> (try simp only [go_sem] at hc)))
  exact ⟨.inl rfl, _, _, Ent.refl _, rfl, .refl _, by simp only [D.nb, D.nbs, sluC_nb, C.nb, bD, Bool.and_self, Bool.not_false], fun k x hk => by cases hk⟩
end Go.Dw.Seat
end
section
set_option linter.unusedSimpArgs false
set_option maxRecDepth 100000
namespace Go.Dw.Seat
open Go Go.Dw Go.Proofs Go.IntWalk
set_option maxHeartbeats 4000000 in
theorem laPlansL (p : TPap) (l : List TOrd) (hlm : l.length ≤ maxLen) : DCall Try.prog 5 [papD p, .c (.sl false 3 (rows eO l))] [] (bD true) [] := by
  have hk := laKnown
  by_cases l10 : (10 : Int) < (l.length : Int)
  · have d1 : decide ((10 : Int) < (l.length : Int)) = true := decide_eq_true l10
    refine DCall.of Try.func5 sf5 hb5 (Nat.le_of_ble_eq_true rfl) (okRes_nil fun _ => rfl) ?_; simp only [s5, idxs, Nat.reduceAdd]
    repeat' (first
    | (with_reducible first | refine DW.seq ?_ | refine DW.block ?_ | refine DW.skip ?_ | refine DW.exit ?_ | refine DW.ret ?_ | refine DW.reg ?_)
    | (simp (disch := omega) only [go_sem, simprocAttr, bm_box, bm_row, bk_box, bk_row, d1])
    | (exact retS_of rfl rfl rfl)
    | (refine DW.cond_tt rfl ?_)
    | (refine call_c (hk) (by decide) ?_)
    | (refine DW.cond_ff rfl ?_)
    | (refine DW.cond rfl ?_ ?_ <;> intro hc <;> (try simp only [go_sem] at hc))
    | (refine g_split ?_ ?_ <;> intro hc <;> (try simp only [hc]) <;> (try simp only [go_sem] at hc)))
  have d1 : decide ((10 : Int) < (l.length : Int)) = false := decide_eq_false l10
  have hwd := laWide false p l 90
  cases hW : wideB p l 90 with
  | true =>
    rw [hW] at hwd
    refine DCall.of Try.func5 sf5 hb5 (Nat.le_of_ble_eq_true rfl) (okRes_nil fun _ => rfl) ?_; simp only [s5, idxs, Nat.reduceAdd]
    repeat' (first
    | (with_reducible first | refine DW.seq ?_ | refine DW.block ?_ | refine DW.skip ?_ | refine DW.exit ?_ | refine DW.ret ?_ | refine DW.reg ?_)
    | (simp (disch := omega) only [go_sem, simprocAttr, bm_box, bm_row, bk_box, bk_row, d1])
    | (exact retS_of rfl rfl rfl)
    | (refine DW.cond_tt rfl ?_)
    | (refine call_c (hk) (by decide) ?_)
    | (refine call_c (hwd) (by decide) ?_)
    | (refine DW.cond_ff rfl ?_)
    | (refine DW.cond rfl ?_ ?_ <;> intro hc <;> (try simp only [go_sem] at hc))
    | (refine g_split ?_ ?_ <;> intro hc <;> (try simp only [hc]) <;> (try simp only [go_sem] at hc)))
  | false =>
  rw [hW] at hwd
  have hl : l.length ≤ 2 ^ 36 := by omega
  have c1 := laOwn false l hl
  have c2 := trPlanX p l hl
  have c6 := trBound p l hl
  have c3 := reOrders false false l l hl hl true (by simp)
  have c4 := reCheck false p l
  by_cases h : openE p l = 0
  case neg =>
    have hE : boundE p l = openE p l := if_pos h
    rw [planX, if_neg h] at c2
    rw [boundI, hE, if_neg h] at c6
    generalize openE p l = e at *
    have hd2 : (e != 0) = true := by simpa using h
    refine DCall.of Try.func5 sf5 hb5 (Nat.le_of_ble_eq_true rfl) (okRes_nil fun _ => rfl) ?_; simp only [s5, idxs, Nat.reduceAdd]
    repeat' (first
    | (with_reducible first | refine DW.seq ?_ | refine DW.block ?_ | refine DW.skip ?_ | refine DW.exit ?_ | refine DW.ret ?_ | refine DW.reg ?_)
    | (simp (disch := omega) only [go_sem, simprocAttr, bm_box, bm_row, bk_box, bk_row, d1, hd2])
    | (exact retS_of rfl rfl rfl)
    | (refine DW.cond_tt rfl ?_)
    | (refine call_c (hk) (by decide) ?_)
    | (refine call_c (hwd) (by decide) ?_)
    | (refine call_c (c1) (by decide) ?_)
    | (refine call_c (c2) (by decide) ?_)
    | (refine call_c (c3) (by decide) ?_)
    | (refine call_c (c4) (by decide) ?_)
    | (refine call_c (c6) (by decide) ?_)
    | (refine DW.cond_ff rfl ?_)
    | (refine DW.cond rfl ?_ ?_ <;> intro hc <;> (try simp only [go_sem] at hc))
    | (refine g_split ?_ ?_ <;> intro hc <;> (try simp only [hc]) <;> (try simp only [go_sem] at hc)))
  obtain ⟨hp, hl4, ho⟩ := openE_ok h
  rw [h] at c4
  rw [planX, if_pos h] at c2
  have c5 := reFind false p hp l hl4 ho
  have c7 := reBound false p hp l hl4 ho
  have hfp := plan_find hp ho
  have hbE : boundE p l = if p.wide - p.tl ≤ 0 then 7 else 0 := by unfold boundE; rw [if_neg (by simpa using h)]
  unfold bndD at c7
  unfold boundI at c6
  rw [hbE] at c6
  have hT : ∀ (R : DCall Try.prog 5 [papD p, .c (.sl false 3 (rows eO l))] [] (bD true) []), DCall Try.prog 5 [papD p, .c (.sl false 3 (rows eO l))] [] (bD true) [] := fun R => R
  by_cases hU : p.wide - p.tl ≤ 0
  · rw [if_pos hU] at c6 c7
    rw [if_neg (by decide)] at c6
    cases hF : findF p l with
    | none =>
      rw [hF] at hfp c5
      rw [show planF p l = none from hfp] at c2
      simp only [bstD, sluD, sluC, Option.isSome_none] at c5
      dsimp only at c2
      refine DCall.of Try.func5 sf5 hb5 (Nat.le_of_ble_eq_true rfl) (okRes_nil fun _ => rfl) ?_; simp only [s5, idxs, Nat.reduceAdd]
      repeat' (first
    | (with_reducible first | refine DW.seq ?_ | refine DW.block ?_ | refine DW.skip ?_ | refine DW.exit ?_ | refine DW.ret ?_ | refine DW.reg ?_)
    | (simp (disch := omega) only [go_sem, simprocAttr, bm_box, bm_row, bk_box, bk_row, d1])
    | (exact retS_of rfl rfl rfl)
    | (refine DW.cond_tt rfl ?_)
    | (refine call_c (hk) (by decide) ?_)
    | (refine call_c (hwd) (by decide) ?_)
    | (refine call_c (c1) (by decide) ?_)
    | (refine call_c (c2) (by decide) ?_)
    | (refine call_c (c3) (by decide) ?_)
    | (refine call_c (c4) (by decide) ?_)
    | (refine call_c (c5) (by decide) ?_)
    | (refine call_c (c6) (by decide) ?_)
    | (refine call_c (c7) (by decide) ?_)
    | (refine DW.cond_ff rfl ?_)
    | (refine DW.cond rfl ?_ ?_ <;> intro hc <;> (try simp only [go_sem] at hc))
    | (refine g_split ?_ ?_ <;> intro hc <;> (try simp only [hc]) <;> (try simp only [go_sem] at hc)))
    | some x =>
      rw [hF] at hfp c5
      have hpx : planF p l = some (x, wasteF p l x) := hfp
      have hok := planF_ok hp ho hpx
      have hws := plan_ws hok.1
      have hxl := plan_len hok.1
      rw [hpx] at c2
      simp only [bstD, sluD, sluC, Option.isSome_some] at c5
      dsimp only at c2
      have i2 := reSame false false x x (by omega) (by omega) (fun s hs => by have := (hws s hs).1.len; omega) (fun s hs => by have := (hws s hs).1.len; omega) true (by simp)
      refine DCall.of Try.func5 sf5 hb5 (Nat.le_of_ble_eq_true rfl) (okRes_nil fun _ => rfl) ?_; simp only [s5, idxs, Nat.reduceAdd]
      repeat' (first
    | (with_reducible first | refine DW.seq ?_ | refine DW.block ?_ | refine DW.skip ?_ | refine DW.exit ?_ | refine DW.ret ?_ | refine DW.reg ?_)
    | (simp (disch := omega) only [go_sem, simprocAttr, bm_box, bm_row, bk_box, bk_row, d1])
    | (exact retS_of rfl rfl rfl)
    | (refine DW.cond_tt rfl ?_)
    | (refine call_c (hk) (by decide) ?_)
    | (refine call_c (hwd) (by decide) ?_)
    | (refine call_c (c1) (by decide) ?_)
    | (refine call_c (c2) (by decide) ?_)
    | (refine call_c (c3) (by decide) ?_)
    | (refine call_c (c4) (by decide) ?_)
    | (refine call_c (c5) (by decide) ?_)
    | (refine call_c (c6) (by decide) ?_)
    | (refine call_c (c7) (by decide) ?_)
    | (refine call_c (i2) (by decide) ?_)
    | (refine DW.cond_ff rfl ?_)
    | (refine DW.cond rfl ?_ ?_ <;> intro hc <;> (try simp only [go_sem] at hc))
    | (refine g_split ?_ ?_ <;> intro hc <;> (try simp only [hc]) <;> (try simp only [go_sem] at hc)))
  · rw [if_neg hU] at c6 c7
    rw [if_pos rfl] at c6
    dsimp only at c6
    generalize Int.tdiv (cntS l + 2 - 1) 2 = A at *
    generalize Int.tdiv (loS l + (p.wide - p.tl) - 1) (p.wide - p.tl) = B at *
    generalize p.tl * B = C at *
    cases hF : findF p l with
    | none =>
      rw [hF] at hfp c5
      rw [show planF p l = none from hfp] at c2
      simp only [bstD, sluD, sluC, Option.isSome_none] at c5
      dsimp only at c2
      refine DCall.of Try.func5 sf5 hb5 (Nat.le_of_ble_eq_true rfl) (okRes_nil fun _ => rfl) ?_; simp only [s5, idxs, Nat.reduceAdd]
      repeat' (first
    | (with_reducible first | refine DW.seq ?_ | refine DW.block ?_ | refine DW.skip ?_ | refine DW.exit ?_ | refine DW.ret ?_ | refine DW.reg ?_)
    | (simp (disch := omega) only [go_sem, simprocAttr, bm_box, bm_row, bk_box, bk_row, d1])
    | (exact retS_of rfl rfl rfl)
    | (refine DW.cond_tt rfl ?_)
    | (refine call_c (hk) (by decide) ?_)
    | (refine call_c (hwd) (by decide) ?_)
    | (refine call_c (c1) (by decide) ?_)
    | (refine call_c (c2) (by decide) ?_)
    | (refine call_c (c3) (by decide) ?_)
    | (refine call_c (c4) (by decide) ?_)
    | (refine call_c (c5) (by decide) ?_)
    | (refine call_c (c6) (by decide) ?_)
    | (refine call_c (c7) (by decide) ?_)
    | (refine DW.cond_ff rfl ?_)
    | (refine DW.cond rfl ?_ ?_ <;> intro hc <;> (try simp only [go_sem] at hc))
    | (refine g_split ?_ ?_ <;> intro hc <;> (try simp only [hc]) <;> (try simp only [go_sem] at hc)))
    | some x =>
      rw [hF] at hfp c5
      have hpx : planF p l = some (x, wasteF p l x) := hfp
      have hok := planF_ok hp ho hpx
      have hws := plan_ws hok.1
      have hxl := plan_len hok.1
      rw [hpx] at c2
      simp only [bstD, sluD, sluC, Option.isSome_some] at c5
      dsimp only at c2
      have i2 := reSame false false x x (by omega) (by omega) (fun s hs => by have := (hws s hs).1.len; omega) (fun s hs => by have := (hws s hs).1.len; omega) true (by simp)
      refine DCall.of Try.func5 sf5 hb5 (Nat.le_of_ble_eq_true rfl) (okRes_nil fun _ => rfl) ?_; simp only [s5, idxs, Nat.reduceAdd]
      repeat' (first
    | (with_reducible first | refine DW.seq ?_ | refine DW.block ?_ | refine DW.skip ?_ | refine DW.exit ?_ | refine DW.ret ?_ | refine DW.reg ?_)
    | (simp (disch := omega) only [go_sem, simprocAttr, bm_box, bm_row, bk_box, bk_row, d1])
    | (exact retS_of rfl rfl rfl)
    | (refine DW.cond_tt rfl ?_)
    | (refine call_c (hk) (by decide) ?_)
    | (refine call_c (hwd) (by decide) ?_)
    | (refine call_c (c1) (by decide) ?_)
    | (refine call_c (c2) (by decide) ?_)
    | (refine call_c (c3) (by decide) ?_)
    | (refine call_c (c4) (by decide) ?_)
    | (refine call_c (c5) (by decide) ?_)
    | (refine call_c (c6) (by decide) ?_)
    | (refine call_c (c7) (by decide) ?_)
    | (refine call_c (i2) (by decide) ?_)
    | (refine DW.cond_ff rfl ?_)
    | (refine DW.cond rfl ?_ ?_ <;> intro hc <;> (try simp only [go_sem] at hc))
    | (refine g_split ?_ ?_ <;> intro hc <;> (try simp only [hc]) <;> (try simp only [go_sem] at hc)))
end Go.Dw.Seat
end
section
set_option linter.unusedSimpArgs false
set_option maxRecDepth 100000
namespace Go.Dw.Seat
open Go Go.Dw Go.Proofs Go.ChangeShapes Go.WideShapes Go.ChangeAt Go.RowKit
theorem tOwn : ownKnob Try.prog.godebug = none := by kernel_rfl
theorem tLaid : laidOutB Try.prog = true := by kernel_rfl
theorem u3 : Try.prog.underlying 3 = some (.int .i64) := by kernel_rfl
theorem u4 : Try.prog.underlying 4 = some .bool := by kernel_rfl
theorem u32 : structIs Try.prog 32 [(3, 0), (3, 1)] = true := by kernel_rfl
theorem u34 : structIs Try.prog 34 [(3, 0), (32, 1), (3, 3)] = true := by kernel_rfl
theorem u35 : Try.prog.underlying 35 = some (.slice 85) := by kernel_rfl
theorem u85 : structIs Try.prog 85 [(3, 0), (32, 1)] = true := by kernel_rfl
theorem cl3 : Try.prog.cellsOf 3 = 1 := by kernel_rfl
theorem cl32 : Try.prog.cellsOf 32 = 2 := by kernel_rfl
theorem cl34 : Try.prog.cellsOf 34 = 4 := by kernel_rfl
theorem cl85 : Try.prog.cellsOf 85 = 3 := by kernel_rfl
def e1 (n : Nat) : List C := [.v (.int .u8 n)]
section
variable {H : Type} {enc : TypeId × Value → H} {w : World} {base : Nat} {spare : Nat → Bool} {held : Bool} {fuel : Nat} {cs : List Value} {x : DataW H × List MemPlace}
theorem rd_Span (h : DataW.trod enc Try.prog w base spare held fuel 32 cs = some x) : ∃ a b : Int, cs = [.int .i64 a, .int .i64 b] := by
  obtain ⟨hl, m, hf⟩ := rd_struct u32 h
  rw [cl32] at hl
  obtain ⟨y0, h0⟩ := hf 0 3 0 rfl
  obtain ⟨y1, h1⟩ := hf 1 3 1 rfl
  rw [cl3] at h0 h1
  match cs, hl with
  | [a, b], _ =>
    obtain ⟨n0, e0, _⟩ := rd_int u3 h0
    obtain ⟨n1, e1, _⟩ := rd_int u3 h1
    simp at e0 e1
    subst e0; subst e1
    exact ⟨n0, n1, rfl⟩
theorem rd_Pap (h : DataW.trod enc Try.prog w base spare held fuel 34 cs = some x) : ∃ p : TPap, RepVs w A0 (eP p) cs := by
  obtain ⟨hl, m, hf⟩ := rd_struct u34 h
  rw [cl34] at hl
  obtain ⟨y0, h0⟩ := hf 0 3 0 rfl
  obtain ⟨y1, h1⟩ := hf 1 32 1 rfl
  obtain ⟨y2, h2⟩ := hf 2 3 3 rfl
  rw [cl3] at h0 h2
  rw [cl32] at h1
  match cs, hl with
  | [a, b, c, d], _ =>
    obtain ⟨n0, e0, _⟩ := rd_int u3 h0
    obtain ⟨n1, n2, e1⟩ := rd_Span h1
    obtain ⟨n3, e3, _⟩ := rd_int u3 h2
    simp at e0 e1 e3
    obtain ⟨rfl, rfl⟩ := e1
    subst e0; subst e3
    exact ⟨⟨n0, n1, n2, n3⟩, _, _, rfl, ⟨rfl, rfl⟩, _, _, rfl, ⟨rfl, rfl⟩, _, _, rfl, ⟨rfl, rfl⟩, _, _, rfl, ⟨rfl, rfl⟩, rfl⟩
theorem rd_Ord (h : DataW.trod enc Try.prog w base spare held fuel 85 cs = some x) : ∃ o : TOrd, RepVs w A0 (eO o) cs := by
  obtain ⟨hl, m, hf⟩ := rd_struct u85 h
  rw [cl85] at hl
  obtain ⟨y0, h0⟩ := hf 0 3 0 rfl
  obtain ⟨y1, h1⟩ := hf 1 32 1 rfl
  rw [cl3] at h0
  rw [cl32] at h1
  match cs, hl with
  | [a, b, c], _ =>
    obtain ⟨n0, e0, _⟩ := rd_int u3 h0
    obtain ⟨n1, n2, e1⟩ := rd_Span h1
    simp at e0 e1
    obtain ⟨rfl, rfl⟩ := e1
    subst e0
    exact ⟨⟨n0, n1, n2⟩, _, _, rfl, ⟨rfl, rfl⟩, _, _, rfl, ⟨rfl, rfl⟩, _, _, rfl, ⟨rfl, rfl⟩, rfl⟩
theorem rd_Ords (h : DataW.trod enc Try.prog w base spare held fuel 35 cs = some x) : ∃ (l : List TOrd) (v : Value), cs = [v] ∧ RepC w A0 (.sl false 3 (rows eO l)) v ∧ l.length ≤ maxLen := by
  obtain ⟨l, v, e', hr, hm, _⟩ := rd_slice (f := eO) u35 cl85 (by decide) (fun _ => rfl) (fun m cs x h => rd_Ord h) h
  exact ⟨l, v, e', hr, hm⟩
def stpsOk (l : List TStp) : Prop := ∀ s ∈ l, s.ws.length ≤ maxLen
structure TBrk where
  plan : List TStp
  at' : Int
  done : Int
def TBrk.ok (x : TBrk) : Prop := x.plan.length ≤ maxLen ∧ stpsOk x.plan
end
end Go.Dw.Seat
end
section
set_option linter.unusedSimpArgs false
set_option maxRecDepth 100000
namespace Go.Dw.Seat
open Go Go.Dw Go.Proofs Go.ChangeShapes Go.WideShapes Go.ChangeAt Go.RowKit
set_option maxHeartbeats 800000 in
theorem trimPlansLifted (os : Os) (started : os.Started) (H : Type) (enc : TypeId × Value → H) :
    ReturnsInHanded {} Try.checked os 5 .any (Ytkhicfkfdmldkaa.Rows.trimPlansSpec.pre6 enc Try.prog Try.f5 Ytkhicfkfdmldkaa.Rows.trimPlansRow.domain false) (Ytkhicfkfdmldkaa.Rows.trimPlansSpec.post enc Try.prog Try.f5 false true false false) := by
  refine returnsInHanded_of_change (C := Try.checked) tOwn started (by kernel_rfl) Try.func5
    (ChangeSpec.witness6 (enc := enc) (C := Try.checked) false ⟨#[], #[.agg #[.int .i64 0, .int .i64 0, .int .i64 0, .int .i64 0], .slice none 0 0], []⟩ 8 (by kernel_rfl) (by kernel_rfl) (by kernel_rfl) (by kernel_rfl)) ?_
  intro W base args ds gs before hval0 hW _ _
  have hval : ∀ (j : Nat) t v, Try.f5.params[j]? = some t → args[j]? = some v → Value.okWide Try.prog W .any base t v := hval0
  have hW' : DataW.Whole enc Try.prog Try.f5.params.toList [] false W args.toList ds gs before := hW
  obtain ⟨p, q, hA, hV, rfl, hfz, hnd⟩ := hW
  have hA : DataW.TrodAll enc Try.prog W 0 (fun _ => true) true [34, 35] args.toList ds p := hA
  obtain ⟨rfl, rfl⟩ := trodVars_none hV
  obtain ⟨v0, vs0, d0, ds0, p0, q0, hargs, rfl, rfl, h0, r0⟩ := trodAll_cons hA
  obtain ⟨v1, vs1, d1, ds1, p1, q1, rfl, rfl, rfl, h1, r1⟩ := trodAll_cons r0
  obtain ⟨rfl, rfl, rfl⟩ := trodAll_nil r1
  obtain rfl : args = #[v0, v1] := by cases args; simp_all
  obtain ⟨f0, hu0, _⟩ := structIs_spec u34
  obtain ⟨c0, rfl, _⟩ := okWide_struct hu0 (hval 0 34 v0 rfl rfl)
  obtain ⟨a1, l1, k1, rfl⟩ := okWide_slice u35 (hval 1 35 v1 rfl rfl)
  obtain ⟨fu0, h0⟩ := h0
  obtain ⟨fu1, h1⟩ := h1
  obtain ⟨s0, hr0⟩ := rd_Pap h0
  have hr0 : RepVs W A0 (eP s0) c0.toList := by simpa [Value.cells] using hr0
  obtain ⟨s1, sv1, e1, hs1, hl1⟩ := rd_Ords h1
  have e1 : sv1 = Value.slice a1 l1 k1 := by simpa [Value.cells] using e1.symm
  subst e1
  refine ((laPlansL s0  s1 hl1).calls (W := W) (vs := [.agg c0, .slice a1 l1 k1]) (laid0 W) (fun G => ?_)).mono ?_
  · exact ⟨_, _, rfl, ⟨c0, rfl, RepDs.ofVs hr0⟩, _, _, rfl, hs1, rfl⟩
  · rintro e W' ⟨v, rfl, ⟨G', A', hr⟩, hb⟩
    obtain ⟨rfl, _⟩ := hr
    exact ⟨_, rfl, post_true tLaid (by decide +kernel) hW' hb rfl rfl u4 rfl rfl rfl⟩
theorem trimPlansHolds : Ytkhicfkfdmldkaa.Rows.trimPlansRow.holds Ytkhicfkfdmldkaa.Try.pinned (OpenSpec.ofChange Ytkhicfkfdmldkaa.Rows.trimPlansSpec) :=
  OpenClaim.holds_of_wide 5 Try.f5 rfl rfl rfl rfl rfl rfl rfl ⟨rfl, rfl, rfl, rfl, rfl⟩ rfl rfl rfl rfl rfl (by kernel_rfl) Try.func5 (by kernel_rfl)
    (of_decide_eq_true (by kernel_rfl)) (by unfold Func.isWrapper; first | (rw [if_pos (by decide +kernel)]; kernel_rfl) | (rw [if_neg (by decide +kernel)]; exact ⟨rfl, rfl⟩))
    (fun os started H enc _ => trimPlansLifted os started H enc)
end Go.Dw.Seat
namespace Go.Proofs.Ytkhicfkfdmldkaa
theorem trimPlansSaid : Rows.TrimPlansSaid := Go.Dw.Seat.trimPlansHolds
end Go.Proofs.Ytkhicfkfdmldkaa
end
