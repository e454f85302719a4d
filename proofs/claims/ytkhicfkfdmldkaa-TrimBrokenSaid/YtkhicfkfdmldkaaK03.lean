/- The law TrimBroken returns true for every input, and changes nothing that was there before: the full statement TrimBrokenSaid, without conditions. -/
import Derived.Test.YtkhicfkfdmldkaaK02
set_option linter.unusedVariables false
set_option linter.unusedSimpArgs false
section
set_option linter.unusedSimpArgs false
set_option maxRecDepth 100000
namespace Go.Dw.Seat
open Go Go.Dw Go.Proofs Go.IntWalk
set_option maxHeartbeats 8000000 in
theorem laMadeW (x : List Nat) (hx : x.length = 30) (hb : AllLt 256 x) (hinv : ∀ i, i ≤ 3 → MInv x i (mS x i)) (hW : ∀ i, i < 3 → Ws4 (mL0 x (mN x)) (mW x i)) : DCall Try.prog 42 [shD x] [] (.tup [papD (mP x), .c (.sl false 3 (rows eO (mL x))), dSt false (mQ x)]) [] := by
  have c1 := laSpan 3000 0
  refine DCall.of Try.func42 sf42 hb42 (Nat.le_of_ble_eq_true rfl) (okRes_nil fun _ => rfl) ?_; simp only [s42, o42_0, o42_1, o42_2, o42_3, o42_4, o42_5, o42_6, o42_7, o42_8, o42_9, o42_10, o42_11, idxs, Nat.reduceAdd]
  repeat' (first
    | (with_reducible first | refine DW.seq ?_ | refine DW.block ?_ | refine DW.skip ?_ | refine DW.exit ?_ | refine DW.ret ?_ | refine DW.reg ?_)
    | (refine DW.dreg rfl (WF.of ?_) ?_; first | rfl | skip)
    | (refine DW.ord rfl (WF.of (by first | rfl | simp (disch := omega) only [go_sem, simprocAttr, bm_box, bm_row, bk_box, bk_row])) ?_ ?_ ?_; rotate_left)
    | rfl
    | (with_reducible refine And.intro ?_ ?_)
    | (simp (disch := omega) only [go_sem, simprocAttr, bm_box, bm_row, bk_box, bk_row])
    | (exact retS_of rfl rfl rfl)
    | (refine DW.cond_tt rfl ?_)
    | (refine call_c (c1) (by decide) ?_)
    | (refine DW.cond_ff rfl ?_)
    | (refine DW.cond rfl ?_ ?_ <;> intro hc <;> (try simp only [go_sem] at hc))
    | (refine g_split ?_ ?_ <;> intro hc <;> (try simp only [hc]) <;> (try simp only [go_sem] at hc)))
  refine DW.loop (ι := { i : Nat // i ≤ mN x }) (fun i => ⟨255, [(8, dI i.1), (7, .own 24), (6, .own 23), (5, .box 5 0), (4, .c (.v (.slice none 0 0))), (3, .c (.v (.slice none 0 0))), (2, .box 2 0), (1, .box 1 0)], [(24, .row 2 []), (23, .row 3 (rowC (rows eO (mL0 x i.1)))), (5, .box [dI 3000, dI 3000, dI 0, dI 4]), (2, .box [dI 0, dI 0, dI 0, dI 0]), (1, shB x)]⟩) (fun i => mN x - i.1) ⟨0, Nat.zero_le _⟩ ?_ ?_
  · refine Ent.to ?_ ?_ <;> simp (disch := omega) only [wkT_cons, wkX_cons, wkT_nil, wkX_nil, get, Nat.reduceEqDiff, ↓reduceIte, ex_some, wk_self, wk_top, wk_nil, wkB_self, and_self, dI, i64_in, and_true, true_and, Int.natCast_add, Int.natCast_one, Int.ofNat_zero, Int.natCast_zero, mL0, List.range_zero]
    all_goals first | exact ⟨.refl _, .refl _, .refl _⟩ | exact ⟨.refl _, .refl _⟩ | exact .refl _
  rintro ⟨i, hi⟩
  dsimp only
  have r4 := gB_get hx (i := 4) (by decide)
  have b4 := gB_lt hb 4
  have v4 : IntKind.i64.wrap ((gB x 4 : Nat) : Int) = ((gB x 4 : Nat) : Int) := IntWalk.i64_in _ (by omega)
  have m4 : Int.tmod ((gB x 4 : Nat) : Int) 4 = ((gB x 4 % 4 : Nat) : Int) := rfl
  by_cases hc : i < mN x
  · have hd : decide ((i : Int) ≤ ((gB x 4 % 4 : Nat) : Int)) = true := decide_eq_true (by unfold mN at hc; omega)
    have hi4 : i < 4 := by unfold mN at hc; omega
    have ri := gB_get hx (i := i) (by omega)
    have bi := gB_lt hb i
    have v5 : IntKind.i64.wrap ((gB x i : Nat) : Int) = ((gB x i : Nat) : Int) := IntWalk.i64_in _ (by omega)
    have v6 : IntKind.i64.wrap (7 * ((gB x i : Nat) : Int)) = 7 * ((gB x i : Nat) : Int) := IntWalk.i64_in _ (by omega)
    have t6 : Int.tdiv (7 * ((gB x i : Nat) : Int)) 4 = 7 * ((gB x i : Nat) : Int) / 4 := Int.tdiv_eq_ediv_of_nonneg (by omega)
    have v7 : IntKind.i64.wrap (7 * ((gB x i : Nat) : Int) / 4) = 7 * ((gB x i : Nat) : Int) / 4 := IntWalk.i64_in _ (by omega)
    have v8 : IntKind.i64.wrap (300 + 7 * ((gB x i : Nat) : Int) / 4) = 300 + 7 * ((gB x i : Nat) : Int) / 4 := IntWalk.i64_in _ (by omega)
    have hap : rowC (rows eO (mL0 x i)) ++ [[dI (300 + 7 * ((gB x i : Nat) : Int) / 4), dI 0, dI 0]] = rowC (rows eO (mL0 x (i + 1))) := by rw [mL0_succ]; simp [rowC, rows, mO, eO]
    have hi5 : ((i : Int) < 4) = True := eq_true (by omega)
    have hln := mL0_len x i
    repeat' (first
    | (with_reducible first | refine DW.seq ?_ | refine DW.block ?_ | refine DW.skip ?_ | refine DW.exit ?_ | refine DW.ret ?_ | refine DW.reg ?_)
    | (refine DW.dreg rfl (WF.of ?_) ?_; first | rfl | skip)
    | (refine DW.ord rfl (WF.of (by first | rfl | simp (disch := omega) only [go_sem, simprocAttr, bm_box, bm_row, bk_box, bk_row, und5, r4, v4, m4, ri, v5, v6, t6, v7, v8, hd, hln, hi5, Nat.mul_one, hap])) ?_ ?_ ?_; rotate_left)
    | rfl
    | (with_reducible refine And.intro ?_ ?_)
    | (simp (disch := omega) only [go_sem, simprocAttr, bm_box, bm_row, bk_box, bk_row, und5, r4, v4, m4, ri, v5, v6, t6, v7, v8, hd, hln, hi5, Nat.mul_one, hap])
    | (exact retS_of rfl rfl rfl)
    | (refine DW.cond_tt rfl ?_)
    | (refine DW.cond_ff rfl ?_)
    | (refine DW.cond rfl ?_ ?_ <;> intro hc <;> (try simp only [go_sem] at hc))
    | (refine g_split ?_ ?_ <;> intro hc <;> (try simp only [hc]) <;> (try simp only [go_sem] at hc)))
    refine ⟨⟨i + 1, hc⟩, ?_, Ent.to ?_ ?_⟩ <;> first | (show _ < _; (try simp only); omega) | (simp (disch := omega) only [wkT_cons, wkX_cons, wkT_nil, wkX_nil, get, Nat.reduceEqDiff, ↓reduceIte, ex_some, wk_self, wk_top, wk_nil, wkB_self, and_self, dI, i64_in, and_true, true_and, Int.natCast_add, Int.natCast_one, Int.ofNat_zero, Int.natCast_zero,  hap])
    all_goals first | exact ⟨.refl _, .refl _, .refl _⟩ | exact ⟨.refl _, .refl _⟩ | exact .refl _
  have hd : decide ((i : Int) ≤ ((gB x 4 % 4 : Nat) : Int)) = false := decide_eq_false (by unfold mN at hc; omega)
  have hin : i = mN x := by omega
  have hn4 : mN x ≤ 4 := by unfold mN; omega
  subst hin
  have hln := mL0_len x (mN x)
  repeat' (first
    | (with_reducible first | refine DW.seq ?_ | refine DW.block ?_ | refine DW.skip ?_ | refine DW.exit ?_ | refine DW.ret ?_ | refine DW.reg ?_)
    | (refine DW.dreg rfl (WF.of ?_) ?_; first | rfl | skip)
    | (refine DW.ord rfl (WF.of (by first | rfl | simp (disch := omega) only [go_sem, simprocAttr, bm_box, bm_row, bk_box, bk_row, und5, r4, v4, m4, hd, hln, replZ])) ?_ ?_ ?_; rotate_left)
    | rfl
    | (with_reducible refine And.intro ?_ ?_)
    | (simp (disch := omega) only [go_sem, simprocAttr, bm_box, bm_row, bk_box, bk_row, und5, r4, v4, m4, hd, hln, replZ])
    | (exact retS_of rfl rfl rfl)
    | (refine DW.cond_tt rfl ?_)
    | (refine DW.cond_ff rfl ?_)
    | (refine DW.cond rfl ?_ ?_ <;> intro hc <;> (try simp only [go_sem] at hc))
    | (refine g_split ?_ ?_ <;> intro hc <;> (try simp only [hc]) <;> (try simp only [go_sem] at hc)))
  (refine DW.ent (Ent.rel 24 rfl) ?_; simp (disch := omega) only [go_sem, simprocAttr, bm_box, bm_row, bk_box, bk_row])
  refine DW.loop (ι := { y : Nat × MSt // y.1 ≤ 3 ∧ y.2 = mS x y.1 }) (fun y => ⟨255, [(10, dI y.1.1), (9, .own 47), (7, dSt false y.1.2.q), (6, .own 23), (5, .box 5 0), (4, .c (.v (.slice none 0 0))), (3, .c (.v (.slice none 0 0))), (2, .box 2 0), (1, .box 1 0)], [(47, .row 1 (rowC (rows eI y.1.2.G))), (23, .row 3 (rowC (rows eO (mL0 x (mN x))))), (5, .box [dI 3000, dI y.1.2.lo, dI y.1.2.hi, dI 4]), (2, .box [dI 0, dI 0, dI 0, dI 0]), (1, shB x)]⟩) (fun y => 3 - y.1.1) ⟨(0, mS x 0), Nat.zero_le _, rfl⟩ ?_ ?_
  · refine Ent.to ?_ ?_ <;> simp (disch := omega) only [wkT_cons, wkX_cons, wkT_nil, wkX_nil, get, Nat.reduceEqDiff, ↓reduceIte, ex_some, wk_self, wk_top, wk_nil, wkB_self, and_self, dI, i64_in, and_true, true_and, Int.natCast_add, Int.natCast_one, Int.ofNat_zero, Int.natCast_zero, mS]
    all_goals first | exact ⟨.refl _, .refl _, .refl _⟩ | exact ⟨.refl _, .refl _⟩ | exact .refl _
  clear hd
  rintro ⟨⟨i, S⟩, hi, hS⟩
  dsimp only at hi hS ⊢
  by_cases hi3 : i < 3
  · have hd : decide ((i : Int) < 3) = true := decide_eq_true (by omega)
    have hi6 : ((i : Int) < 3) = True := eq_true (by omega)
    have hxl : (x.map dU).length = 30 := by rw [List.length_map]; exact hx
    have h5 := five hx hi3
    have h5l : (5 + i * 5 + 5 ≤ 30) = True := eq_true (by omega)
    have hI := hinv i (by omega)
    rw [← hS] at hI
    have hw4 := hW i hi3
    have hql := hI.len
    have hmN : 1 ≤ mN x := by unfold mN; omega
    have hz : ((mN x : Int) = 0) = False := eq_false (by omega)
    have q0 := gB_lt hb (5 + 5 * i + 0)
    have q1 := gB_lt hb (5 + 5 * i + 1)
    have q2 := gB_lt hb (5 + 5 * i + 2)
    have q3 := gB_lt hb (5 + 5 * i + 3)
    have q4 := gB_lt hb (5 + 5 * i + 4)
    have e0 : IntKind.i64.wrap ((mv x i 0 : Nat) : Int) = ((mv x i 0 : Nat) : Int) := IntWalk.i64_in _ (by unfold mv; omega)
    have e1 : IntKind.i64.wrap ((mv x i 1 : Nat) : Int) = ((mv x i 1 : Nat) : Int) := IntWalk.i64_in _ (by unfold mv; omega)
    have e2 : IntKind.i64.wrap ((mv x i 2 : Nat) : Int) = ((mv x i 2 : Nat) : Int) := IntWalk.i64_in _ (by unfold mv; omega)
    have e3 : IntKind.i64.wrap ((mv x i 3 : Nat) : Int) = ((mv x i 3 : Nat) : Int) := IntWalk.i64_in _ (by unfold mv; omega)
    have e4 : IntKind.i64.wrap ((mv x i 4 : Nat) : Int) = ((mv x i 4 : Nat) : Int) := IntWalk.i64_in _ (by unfold mv; omega)
    have t8 : Int.tmod ((mv x i 4 : Nat) : Int) 8 = ((mv x i 4 % 8 : Nat) : Int) := rfl
    have t5 : Int.tmod ((mv x i 4 : Nat) : Int) 5 = ((mv x i 4 % 5 : Nat) : Int) := rfl
    have t3 : Int.tmod ((mv x i 2 : Nat) : Int) 3 = ((mv x i 2 % 3 : Nat) : Int) := rfl
    have tA : Int.tmod ((mv x i 0 : Nat) : Int) (mN x : Int) = ((mA x i : Nat) : Int) := rfl
    have tB : Int.tmod ((mv x i 1 : Nat) : Int) (mN x : Int) = ((mB x i : Nat) : Int) := rfl
    have w8 : IntKind.i64.wrap (1 + ((mv x i 4 % 8 : Nat) : Int)) = (mT x i).run := IntWalk.i64_in _ (by omega)
    have w3 : IntKind.i64.wrap (1 + ((mv x i 2 % 3 : Nat) : Int)) = ((mna x i : Nat) : Int) := by rw [IntWalk.i64_in _ (by omega), mna]; omega
    have hA : mA x i < mN x := Nat.mod_lt _ (by omega)
    have hB : mB x i < mN x := Nat.mod_lt _ (by omega)
    have hAl : (mA x i < mN x) = True := eq_true hA
    have hBl : (mB x i < mN x) = True := eq_true hB
    have hna : 1 ≤ mna x i ∧ mna x i ≤ 3 := by unfold mna; omega
    have hzl : (zeros (mN x)).length = mN x := by simp [zeros]
    have hW1 : (zeros (mN x)).set (mA x i) ((mna x i : Nat) : Int) = mW1 x i := rfl
    have hW1l : (mW1 x i).length = mN x := by simp [mW1, zeros]
    obtain ⟨z, hzg⟩ := getE (l := zeros (mN x)) (i := mA x i) (by omega)
    have hg1 : (mW1 x i)[mA x i]? = some ((mna x i : Nat) : Int) := by rw [mW1, List.getElem?_set_self (by omega)]
    obtain ⟨z2, hzg2⟩ := getE (l := mW1 x i) (i := mB x i) (by omega)
    have w5 : IntKind.i64.wrap (5 - ((mna x i : Nat) : Int)) = ((5 - mna x i : Nat) : Int) := by rw [IntWalk.i64_in _ (by omega)]; omega
    have tb : Int.tmod ((mv x i 3 : Nat) : Int) ((5 - mna x i : Nat) : Int) = ((mnb x i : Nat) : Int) := rfl
    have hz2 : (((5 - mna x i : Nat) : Int) = 0) = False := eq_false (by omega)
    obtain ⟨R, hR⟩ : ∃ R, seekF (mW x i) S.q 0 0 (mLk x i) = R := ⟨_, rfl⟩
    by_cases hab : mA x i = mB x i
    case' pos =>
      have d1 : (((mA x i : Nat) : Int) != ((mB x i : Nat) : Int)) = false := by rw [hab]; simp
      have hWW : mW1 x i = mW x i := by unfold mW; rw [if_pos hab]
    case' neg =>
      have d1 : (((mA x i : Nat) : Int) != ((mB x i : Nat) : Int)) = true := by rw [bne_iff_ne]; omega
      have hWW : (mW1 x i).set (mB x i) ((mnb x i : Nat) : Int) = mW x i := by unfold mW; rw [if_neg hab]
    all_goals
      by_cases hi0 : i = 0
      case' pos =>
        have d0 : decide ((0 : Int) < (i : Int)) = false := decide_eq_false (by omega)
        have d5 := hln
        have hlk : mLk x i = false := by unfold mLk; rw [decide_eq_false (by omega)]; rfl
      case' neg =>
        have d0 : decide ((0 : Int) < (i : Int)) = true := decide_eq_true (by omega)
        have d5 : (((mv x i 4 % 5 : Nat) : Int) == 0) = mLk x i := by
          unfold mLk
          rw [decide_eq_true (by omega), Bool.true_and, Bool.eq_iff_iff, beq_iff_eq, decide_eq_true_eq]; omega
        have hlk := hln
      all_goals
        repeat' (first
    | (with_reducible first | refine DW.seq ?_ | refine DW.block ?_ | refine DW.skip ?_ | refine DW.exit ?_ | refine DW.ret ?_ | refine DW.reg ?_)
    | (refine DW.dreg rfl (WF.of ?_) ?_; first | rfl | skip)
    | (refine DW.ord rfl (WF.of (by first | rfl | simp (disch := omega) only [go_sem, simprocAttr, bm_box, bm_row, bk_box, bk_row, und5, hd, hi6, hxl, h5, h5l, hln, replZ, hz, e0, e1, e2, e3, e4, t8, t3, t5, tA, tB, w8, w3, hAl, hBl, hzl, hzg, hzg2, rowC_set1, rows_setI, hW1, hW1l, d1, hg1, w5, tb, hz2, hWW, d0, d5])) ?_ ?_ ?_; rotate_left)
    | rfl
    | (with_reducible refine And.intro ?_ ?_)
    | (simp (disch := omega) only [go_sem, simprocAttr, bm_box, bm_row, bk_box, bk_row, und5, hd, hi6, hxl, h5, h5l, hln, replZ, hz, e0, e1, e2, e3, e4, t8, t3, t5, tA, tB, w8, w3, hAl, hBl, hzl, hzg, hzg2, rowC_set1, rows_setI, hW1, hW1l, d1, hg1, w5, tb, hz2, hWW, d0, d5])
    | (exact retS_of rfl rfl rfl)
    | (refine DW.cond_tt rfl ?_)
    | (refine DW.cond_ff rfl ?_)
    | (refine DW.cond rfl ?_ ?_ <;> intro hc <;> (try simp only [go_sem] at hc))
    | (refine g_split ?_ ?_ <;> intro hc <;> (try simp only [hc]) <;> (try simp only [go_sem] at hc)))
        (refine DW.ent (Ent.rel 58 rfl) ?_; simp (disch := omega) only [go_sem, simprocAttr, bm_box, bm_row, bk_box, bk_row])
        refine DW.loop (ι := { y : Nat × Nat × Bool // y.1 ≤ S.q.length ∧ y.2.1 ≤ y.1 ∧ seekF (mW x i) (S.q.drop y.1) y.1 y.2.1 y.2.2 = R }) (fun y => ⟨255, [(17, dI y.1.1), (16, bD y.1.2.2), (15, dI y.1.2.1), (12, .box 12 0), (10, dI i), (9, .own 47), (7, dSt false S.q), (6, .own 23), (5, .box 5 0), (4, .c (.v (.slice none 0 0))), (3, .c (.v (.slice none 0 0))), (2, .box 2 0), (1, .box 1 0)], [(47, .row 1 (rowC (rows eI S.G))), (23, .row 3 (rowC (rows eO (mL0 x (mN x))))), (12, .box [dIs false (mW x i), dI (mT x i).run]), (5, .box [dI 3000, dI S.lo, dI S.hi, dI 4]), (2, .box [dI 0, dI 0, dI 0, dI 0]), (1, shB x)]⟩) (fun y => S.q.length - y.1.1) ⟨(0, 0, mLk x i), Nat.zero_le _, Nat.le_refl _, hR⟩ ?_ ?_
        · refine Ent.to ?_ ?_ <;> simp (disch := omega) only [wkT_cons, wkX_cons, wkT_nil, wkX_nil, get, Nat.reduceEqDiff, ↓reduceIte, ex_some, wk_self, wk_top, wk_nil, wkB_self, and_self, dI, i64_in, and_true, true_and, Int.natCast_add, Int.natCast_one, Int.ofNat_zero, Int.natCast_zero, hlk]
          all_goals first | exact ⟨.refl _, .refl _, .refl _⟩ | exact ⟨.refl _, .refl _⟩ | exact .refl _
        rintro ⟨⟨k, m, lk⟩, hk, hmk, hsk⟩
        dsimp only at hk hmk hsk ⊢
        rcases at_or S.q k hk with ⟨u, hu, hlt, hdk⟩ | ⟨he, hdk⟩
        · have hul := (hI.st u (List.mem_of_getElem? hu)).1.1
          have hwl := hw4.len
          rw [hln] at hwl
          have hdr : S.q.drop k = u :: S.q.drop (k + 1) := by rw [List.drop_eq_getElem_cons hlt, (List.getElem_eq_iff hlt).2 hu]
          rw [hdr, seekF] at hsk
          have c1 := laBefore false false u.ws (mW x i) (by omega) (by omega)
          have c2 := laBefore false false (mW x i) u.ws (by omega) (by omega)
          cases g1 : lexW u.ws (mW x i) with
          | true =>
            rw [g1] at c1
            rw [if_pos g1] at hsk
            repeat' (first
    | (with_reducible first | refine DW.seq ?_ | refine DW.block ?_ | refine DW.skip ?_ | refine DW.exit ?_ | refine DW.ret ?_ | refine DW.reg ?_)
    | (refine DW.dreg rfl (WF.of ?_) ?_; first | rfl | skip)
    | (refine DW.ord rfl (WF.of (by first | rfl | simp (disch := omega) only [go_sem, simprocAttr, bm_box, bm_row, bk_box, bk_row, hdk, hu, List.map_cons, List.map_nil])) ?_ ?_ ?_; rotate_left)
    | rfl
    | (with_reducible refine And.intro ?_ ?_)
    | (simp (disch := omega) only [go_sem, simprocAttr, bm_box, bm_row, bk_box, bk_row, hdk, hu, List.map_cons, List.map_nil])
    | (exact retS_of rfl rfl rfl)
    | (refine DW.cond_tt rfl ?_)
    | (refine call_c (c1) (by decide) ?_)
    | (refine DW.cond_ff rfl ?_)
    | (refine DW.cond rfl ?_ ?_ <;> intro hc <;> (try simp only [go_sem] at hc))
    | (refine g_split ?_ ?_ <;> intro hc <;> (try simp only [hc]) <;> (try simp only [go_sem] at hc)))
            refine ⟨⟨(k + 1, k + 1, lk), hlt, Nat.le_refl _, hsk⟩, ?_, Ent.to ?_ ?_⟩ <;> first | (show _ < _; (try simp only); omega) | (simp (disch := omega) only [wkT_cons, wkX_cons, wkT_nil, wkX_nil, get, Nat.reduceEqDiff, ↓reduceIte, ex_some, wk_self, wk_top, wk_nil, wkB_self, and_self, dI, i64_in, and_true, true_and, Int.natCast_add, Int.natCast_one, Int.ofNat_zero, Int.natCast_zero])
            all_goals first | exact ⟨.refl _, .refl _, .refl _⟩ | exact ⟨.refl _, .refl _⟩ | exact .refl _
          | false =>
            rw [g1] at c1
            rw [if_neg (by rw [g1]; exact Bool.false_ne_true)] at hsk
            cases g2 : lexW (mW x i) u.ws with
            | true =>
              rw [g2] at c2
              rw [if_pos g2] at hsk
              repeat' (first
    | (with_reducible first | refine DW.seq ?_ | refine DW.block ?_ | refine DW.skip ?_ | refine DW.exit ?_ | refine DW.ret ?_ | refine DW.reg ?_)
    | (refine DW.dreg rfl (WF.of ?_) ?_; first | rfl | skip)
    | (refine DW.ord rfl (WF.of (by first | rfl | simp (disch := omega) only [go_sem, simprocAttr, bm_box, bm_row, bk_box, bk_row, hdk, hu, List.map_cons, List.map_nil])) ?_ ?_ ?_; rotate_left)
    | rfl
    | (with_reducible refine And.intro ?_ ?_)
    | (simp (disch := omega) only [go_sem, simprocAttr, bm_box, bm_row, bk_box, bk_row, hdk, hu, List.map_cons, List.map_nil])
    | (exact retS_of rfl rfl rfl)
    | (refine DW.cond_tt rfl ?_)
    | (refine call_c (c1) (by decide) ?_)
    | (refine call_c (c2) (by decide) ?_)
    | (refine DW.cond_ff rfl ?_)
    | (refine DW.cond rfl ?_ ?_ <;> intro hc <;> (try simp only [go_sem] at hc))
    | (refine g_split ?_ ?_ <;> intro hc <;> (try simp only [hc]) <;> (try simp only [go_sem] at hc)))
              refine ⟨⟨(k + 1, m, lk), hlt, by dsimp only; omega, hsk⟩, ?_, Ent.to ?_ ?_⟩ <;> first | (show _ < _; (try simp only); omega) | (simp (disch := omega) only [wkT_cons, wkX_cons, wkT_nil, wkX_nil, get, Nat.reduceEqDiff, ↓reduceIte, ex_some, wk_self, wk_top, wk_nil, wkB_self, and_self, dI, i64_in, and_true, true_and, Int.natCast_add, Int.natCast_one, Int.ofNat_zero, Int.natCast_zero])
              all_goals first | exact ⟨.refl _, .refl _, .refl _⟩ | exact ⟨.refl _, .refl _⟩ | exact .refl _
            | false =>
              rw [g2] at c2
              rw [if_neg (by rw [g2]; exact Bool.false_ne_true)] at hsk
              repeat' (first
    | (with_reducible first | refine DW.seq ?_ | refine DW.block ?_ | refine DW.skip ?_ | refine DW.exit ?_ | refine DW.ret ?_ | refine DW.reg ?_)
    | (refine DW.dreg rfl (WF.of ?_) ?_; first | rfl | skip)
    | (refine DW.ord rfl (WF.of (by first | rfl | simp (disch := omega) only [go_sem, simprocAttr, bm_box, bm_row, bk_box, bk_row, hdk, hu, List.map_cons, List.map_nil])) ?_ ?_ ?_; rotate_left)
    | rfl
    | (with_reducible refine And.intro ?_ ?_)
    | (simp (disch := omega) only [go_sem, simprocAttr, bm_box, bm_row, bk_box, bk_row, hdk, hu, List.map_cons, List.map_nil])
    | (exact retS_of rfl rfl rfl)
    | (refine DW.cond_tt rfl ?_)
    | (refine call_c (c1) (by decide) ?_)
    | (refine call_c (c2) (by decide) ?_)
    | (refine DW.cond_ff rfl ?_)
    | (refine DW.cond rfl ?_ ?_ <;> intro hc <;> (try simp only [go_sem] at hc))
    | (refine g_split ?_ ?_ <;> intro hc <;> (try simp only [hc]) <;> (try simp only [go_sem] at hc)))
              refine ⟨⟨(k + 1, m, true), hlt, by dsimp only; omega, hsk⟩, ?_, Ent.to ?_ ?_⟩ <;> first | (show _ < _; (try simp only); omega) | (simp (disch := omega) only [wkT_cons, wkX_cons, wkT_nil, wkX_nil, get, Nat.reduceEqDiff, ↓reduceIte, ex_some, wk_self, wk_top, wk_nil, wkB_self, and_self, dI, i64_in, and_true, true_and, Int.natCast_add, Int.natCast_one, Int.ofNat_zero, Int.natCast_zero])
              all_goals first | exact ⟨.refl _, .refl _, .refl _⟩ | exact ⟨.refl _, .refl _⟩ | exact .refl _
        rw [List.drop_eq_nil_of_le (by omega), seekF] at hsk
        have hstp : mS x (i + 1) = stepM x i S := by rw [mS, ← hS]
        unfold stepM at hstp
        rw [hR, ← hsk] at hstp
        cases lk with
        | true =>
          rw [if_pos rfl] at hstp
          repeat' (first
    | (with_reducible first | refine DW.seq ?_ | refine DW.block ?_ | refine DW.skip ?_ | refine DW.exit ?_ | refine DW.ret ?_ | refine DW.reg ?_)
    | (refine DW.dreg rfl (WF.of ?_) ?_; first | rfl | skip)
    | (refine DW.ord rfl (WF.of (by first | rfl | simp (disch := omega) only [go_sem, simprocAttr, bm_box, bm_row, bk_box, bk_row, hdk])) ?_ ?_ ?_; rotate_left)
    | rfl
    | (with_reducible refine And.intro ?_ ?_)
    | (simp (disch := omega) only [go_sem, simprocAttr, bm_box, bm_row, bk_box, bk_row, hdk])
    | (exact retS_of rfl rfl rfl)
    | (refine DW.cond_tt rfl ?_)
    | (refine DW.cond_ff rfl ?_)
    | (refine DW.cond rfl ?_ ?_ <;> intro hc <;> (try simp only [go_sem] at hc))
    | (refine g_split ?_ ?_ <;> intro hc <;> (try simp only [hc]) <;> (try simp only [go_sem] at hc)))
          refine ⟨⟨(i + 1, S), by dsimp only; omega, hstp.symm⟩, ?_, Ent.to ?_ ?_⟩ <;> first | (show _ < _; (try simp only); omega) | (simp (disch := omega) only [wkT_cons, wkX_cons, wkT_nil, wkX_nil, get, Nat.reduceEqDiff, ↓reduceIte, ex_some, wk_self, wk_top, wk_nil, wkB_self, and_self, dI, i64_in, and_true, true_and, Int.natCast_add, Int.natCast_one, Int.ofNat_zero, Int.natCast_zero])
          all_goals first | exact ⟨.refl _, .refl _, .refl _⟩ | exact ⟨.refl _, .refl _⟩ | exact .refl _
        | false =>
          rw [if_neg Bool.false_ne_true] at hstp
          dsimp only at hstp
          have hdl : (List.drop m S.q).length ≤ 3 := by rw [List.length_drop]; omega
          have htl : (List.take m S.q).length ≤ 3 := by rw [List.length_take]; omega
          have hml : ((m : Int) ≤ (S.q.length : Int)) = True := eq_true (by omega)
          have hpos : (0 < (List.drop m S.q).length + 1) = True := eq_true (by omega)
          repeat' (first
    | (with_reducible first | refine DW.seq ?_ | refine DW.block ?_ | refine DW.skip ?_ | refine DW.exit ?_ | refine DW.ret ?_ | refine DW.reg ?_)
    | (refine DW.dreg rfl (WF.of ?_) ?_; first | rfl | skip)
    | (refine DW.ord rfl (WF.of (by first | rfl | simp (disch := omega) only [go_sem, simprocAttr, bm_box, bm_row, bk_box, bk_row, hdk, hml, hpos, Int.le_refl, true_and, shut3, ins_rows])) ?_ ?_ ?_; rotate_left)
    | rfl
    | (with_reducible refine And.intro ?_ ?_)
    | (simp (disch := omega) only [go_sem, simprocAttr, bm_box, bm_row, bk_box, bk_row, hdk, hml, hpos, Int.le_refl, true_and, shut3, ins_rows])
    | (exact retS_of rfl rfl rfl)
    | (refine DW.cond_tt rfl ?_)
    | (refine DW.cond_ff rfl ?_)
    | (refine DW.cond rfl ?_ ?_ <;> intro hc <;> (try simp only [go_sem] at hc))
    | (refine g_split ?_ ?_ <;> intro hc <;> (try simp only [hc]) <;> (try simp only [go_sem] at hc)))
          have hQ : List.take m S.q ++ (⟨mW x i, (mT x i).run⟩ : TStp) :: List.drop m S.q = List.take m S.q ++ mT x i :: List.drop m S.q := rfl
          generalize List.take m S.q ++ mT x i :: List.drop m S.q = Q at hQ hstp
          rw [hQ]
          have hgb := hI.gb
          have hlo := hI.lo
          have hhi := hI.hi
          have hLo := mL0_ok hb (k := mN x)
          have hrun : 1 ≤ (mT x i).run ∧ (mT x i).run ≤ 8 := by show 1 ≤ 1 + ((mv x i 4 % 8 : Nat) : Int) ∧ 1 + ((mv x i 4 % 8 : Nat) : Int) ≤ 8; omega
          have hGl : S.G.length = mN x := by rw [hI.got, gotF_len]; exact hzl
          have hwl := hw4.len
          rw [hln] at hwl
          refine DW.loop (ι := { k : Nat // k ≤ (mL0 x (mN x)).length }) (fun k => ⟨255, [(19, dI k.1), (18, dI (3000 - dotI ((mW x i).take k.1) (mL0 x (mN x)))), (12, .box 12 0), (10, dI i), (9, .own 47), (7, dSt false Q), (6, .own 23), (5, .box 5 0), (4, .c (.v (.slice none 0 0))), (3, .c (.v (.slice none 0 0))), (2, .box 2 0), (1, .box 1 0)], [(47, .row 1 (rowC (rows eI (addG S.G ((mW x i).take k.1) (mT x i).run)))), (23, .row 3 (rowC (rows eO (mL0 x (mN x))))), (12, .box [dIs false (mW x i), dI (mT x i).run]), (5, .box [dI 3000, dI S.lo, dI S.hi, dI 4]), (2, .box [dI 0, dI 0, dI 0, dI 0]), (1, shB x)]⟩) (fun k => (mL0 x (mN x)).length - k.1) ⟨0, Nat.zero_le _⟩ ?_ ?_
          · refine Ent.to ?_ ?_ <;> simp (disch := omega) only [wkT_cons, wkX_cons, wkT_nil, wkX_nil, get, Nat.reduceEqDiff, ↓reduceIte, ex_some, wk_self, wk_top, wk_nil, wkB_self, and_self, dI, i64_in, and_true, true_and, Int.natCast_add, Int.natCast_one, Int.ofNat_zero, Int.natCast_zero, List.take_zero, addG_nil, dotI, Int.sub_zero]
            all_goals first | exact ⟨.refl _, .refl _, .refl _⟩ | exact ⟨.refl _, .refl _⟩ | exact .refl _
          rintro ⟨j, hj⟩
          dsimp only
          rcases at_or (mL0 x (mN x)) j hj with ⟨o, hok, hltj, hdj⟩ | ⟨hej, hdj⟩
          · rw [hln] at hdj
            obtain ⟨n, hn⟩ := getE (l := mW x i) (i := j) (by omega)
            obtain ⟨y, hy, hy2, hset⟩ := addG_take (g := S.G) (ws := mW x i) (r := (mT x i).run) (i := j) hn (by omega)
            have hyb := hgb y (List.mem_of_getElem? hy)
            have hnb := hw4.b n (List.mem_of_getElem? hn)
            have hob := mL0_w hb (List.mem_of_getElem? hok)
            have k1 : 0 ≤ n * (mT x i).run := Int.mul_nonneg hnb.1 (by omega)
            have k2 : n * (mT x i).run ≤ 4 * (mT x i).run := Int.mul_le_mul_of_nonneg_right hnb.2 (by omega)
            have hal : (addG S.G ((mW x i).take j) (mT x i).run).length = S.G.length := addG_len _ _ _
            have hil : (j < (addG S.G ((mW x i).take j) (mT x i).run).length) = True := eq_true (by omega)
            have hjl : (j < mN x) = True := eq_true (by omega)
            have ht := dot_take hn hok
            have hdb := dot_b (ws := (mW x i).take j) (l := mL0 x (mN x)) (fun x hx => hw4.b x (List.mem_of_mem_take hx)) hLo
            have m3 : 0 ≤ n * o.w := Int.mul_nonneg hnb.1 (by omega)
            have m4' : n * o.w ≤ 4 * o.w := Int.mul_le_mul_of_nonneg_right hnb.2 (by omega)
            have v3 : IntKind.i64.wrap (n * o.w) = n * o.w := IntWalk.i64_in _ (by omega)
            have v6 : IntKind.i64.wrap (3000 - dotI ((mW x i).take j) (mL0 x (mN x)) - n * o.w) = 3000 - dotI ((mW x i).take j) (mL0 x (mN x)) - n * o.w := IntWalk.i64_in _ (by omega)
            have hlf : 3000 - dotI ((mW x i).take (j + 1)) (mL0 x (mN x)) = 3000 - dotI ((mW x i).take j) (mL0 x (mN x)) - n * o.w := by omega
            generalize 3000 - dotI ((mW x i).take j) (mL0 x (mN x)) = A at *
            generalize addG S.G ((mW x i).take j) (mT x i).run = H at *
            have v1 : IntKind.i64.wrap (n * (mT x i).run) = n * (mT x i).run := IntWalk.i64_in _ (by omega)
            have v2 : IntKind.i64.wrap (y + n * (mT x i).run) = y + n * (mT x i).run := IntWalk.i64_in _ (by omega)
            repeat' (first
    | (with_reducible first | refine DW.seq ?_ | refine DW.block ?_ | refine DW.skip ?_ | refine DW.exit ?_ | refine DW.ret ?_ | refine DW.reg ?_)
    | (refine DW.dreg rfl (WF.of ?_) ?_; first | rfl | skip)
    | (refine DW.ord rfl (WF.of (by first | rfl | simp (disch := omega) only [go_sem, simprocAttr, bm_box, bm_row, bk_box, bk_row, hdj, hln, hn, hok, hy2, hil, hjl, v1, v2, v3, v6, rowC_set1, rows_setI, hset, List.map_cons, List.map_nil])) ?_ ?_ ?_; rotate_left)
    | rfl
    | (with_reducible refine And.intro ?_ ?_)
    | (simp (disch := omega) only [go_sem, simprocAttr, bm_box, bm_row, bk_box, bk_row, hdj, hln, hn, hok, hy2, hil, hjl, v1, v2, v3, v6, rowC_set1, rows_setI, hset, List.map_cons, List.map_nil])
    | (exact retS_of rfl rfl rfl)
    | (refine DW.cond_tt rfl ?_)
    | (refine DW.cond_ff rfl ?_)
    | (refine DW.cond rfl ?_ ?_ <;> intro hc <;> (try simp only [go_sem] at hc))
    | (refine g_split ?_ ?_ <;> intro hc <;> (try simp only [hc]) <;> (try simp only [go_sem] at hc)))
            refine ⟨⟨j + 1, hltj⟩, ?_, Ent.to ?_ ?_⟩ <;> first | (show _ < _; (try simp only); omega) | (simp (disch := omega) only [wkT_cons, wkX_cons, wkT_nil, wkX_nil, get, Nat.reduceEqDiff, ↓reduceIte, ex_some, wk_self, wk_top, wk_nil, wkB_self, and_self, dI, i64_in, and_true, true_and, Int.natCast_add, Int.natCast_one, Int.ofNat_zero, Int.natCast_zero,  hlf])
            all_goals first | exact ⟨.refl _, .refl _, .refl _⟩ | exact ⟨.refl _, .refl _⟩ | exact .refl _
          · rw [hln] at hdj
            have htw : (mW x i).take j = mW x i := List.take_of_length_le (by omega)
            rw [htw]
            have hdb := dot_b (ws := mW x i) (l := mL0 x (mN x)) hw4.b hLo
            have c3 := laSpan (min S.lo (3000 - dotI (mW x i) (mL0 x (mN x)))) (max S.hi (3000 - dotI (mW x i) (mL0 x (mN x))))
            repeat' (first
    | (with_reducible first | refine DW.seq ?_ | refine DW.block ?_ | refine DW.skip ?_ | refine DW.exit ?_ | refine DW.ret ?_ | refine DW.reg ?_)
    | (refine DW.dreg rfl (WF.of ?_) ?_; first | rfl | skip)
    | (refine DW.ord rfl (WF.of (by first | rfl | simp (disch := omega) only [go_sem, simprocAttr, bm_box, bm_row, bk_box, bk_row, hdj, hln, min_if, max_if])) ?_ ?_ ?_; rotate_left)
    | rfl
    | (with_reducible refine And.intro ?_ ?_)
    | (simp (disch := omega) only [go_sem, simprocAttr, bm_box, bm_row, bk_box, bk_row, hdj, hln, min_if, max_if])
    | (exact retS_of rfl rfl rfl)
    | (refine DW.cond_tt rfl ?_)
    | (refine call_c (c3) (by decide) ?_)
    | (refine DW.cond_ff rfl ?_)
    | (refine DW.cond rfl ?_ ?_ <;> intro hc <;> (try simp only [go_sem] at hc))
    | (refine g_split ?_ ?_ <;> intro hc <;> (try simp only [hc]) <;> (try simp only [go_sem] at hc)))
            refine ⟨⟨(i + 1, ⟨Q, addG S.G (mW x i) (mT x i).run, min S.lo (3000 - dotI (mW x i) (mL0 x (mN x))), max S.hi (3000 - dotI (mW x i) (mL0 x (mN x)))⟩), by dsimp only; omega, hstp.symm⟩, ?_, Ent.to ?_ ?_⟩ <;> first | (show _ < _; (try simp only); omega) | (simp (disch := omega) only [wkT_cons, wkX_cons, wkT_nil, wkX_nil, get, Nat.reduceEqDiff, ↓reduceIte, ex_some, wk_self, wk_top, wk_nil, wkB_self, and_self, dI, i64_in, and_true, true_and, Int.natCast_add, Int.natCast_one, Int.ofNat_zero, Int.natCast_zero])
            all_goals first | exact ⟨.refl _, .refl _, .refl _⟩ | exact ⟨.refl _, .refl _⟩ | exact .refl _
  have hd : decide ((i : Int) < 3) = false := decide_eq_false (by omega)
  obtain rfl : i = 3 := by omega
  have hI := hinv 3 (by omega)
  rw [← hS] at hI
  have hlo := hI.lo
  have hhi := hI.hi
  have hgb := hI.gb
  have r28 := gB_get hx (i := 28) (by decide)
  have r29 := gB_get hx (i := 29) (by decide)
  have q28 := gB_lt hb 28
  have q29 := gB_lt hb 29
  have e28 : IntKind.i64.wrap ((gB x 28 : Nat) : Int) = ((gB x 28 : Nat) : Int) := IntWalk.i64_in _ (by omega)
  have e29 : IntKind.i64.wrap ((gB x 29 : Nat) : Int) = ((gB x 29 : Nat) : Int) := IntWalk.i64_in _ (by omega)
  have t28 : Int.tmod ((gB x 28 : Nat) : Int) 50 = ((gB x 28 % 50 : Nat) : Int) := rfl
  have t29 : Int.tmod ((gB x 29 : Nat) : Int) 50 = ((gB x 29 % 50 : Nat) : Int) := rfl
  have v28 : IntKind.i64.wrap (S.lo - ((gB x 28 % 50 : Nat) : Int)) = S.lo - ((gB x 28 % 50 : Nat) : Int) := IntWalk.i64_in _ (by omega)
  have v29 : IntKind.i64.wrap (S.hi + ((gB x 29 % 50 : Nat) : Int)) = S.hi + ((gB x 29 % 50 : Nat) : Int) := IntWalk.i64_in _ (by omega)
  have c3 := laSpan (max 0 (S.lo - ((gB x 28 % 50 : Nat) : Int))) (S.hi + ((gB x 29 % 50 : Nat) : Int))
  have hxl : (x.map dU).length = 30 := by rw [List.length_map]; exact hx
  repeat' (first
    | (with_reducible first | refine DW.seq ?_ | refine DW.block ?_ | refine DW.skip ?_ | refine DW.exit ?_ | refine DW.ret ?_ | refine DW.reg ?_)
    | (refine DW.dreg rfl (WF.of ?_) ?_; first | rfl | skip)
    | (refine DW.ord rfl (WF.of (by first | rfl | simp (disch := omega) only [go_sem, simprocAttr, bm_box, bm_row, bk_box, bk_row, hd, und5, hxl, r28, r29, e28, e29, t28, t29, v28, v29, min_if, max_if])) ?_ ?_ ?_; rotate_left)
    | rfl
    | (with_reducible refine And.intro ?_ ?_)
    | (simp (disch := omega) only [go_sem, simprocAttr, bm_box, bm_row, bk_box, bk_row, hd, und5, hxl, r28, r29, e28, e29, t28, t29, v28, v29, min_if, max_if])
    | (exact retS_of rfl rfl rfl)
    | (refine DW.cond_tt rfl ?_)
    | (refine call_c (c3) (by decide) ?_)
    | (refine DW.cond_ff rfl ?_)
    | (refine DW.cond rfl ?_ ?_ <;> intro hc <;> (try simp only [go_sem] at hc))
    | (refine g_split ?_ ?_ <;> intro hc <;> (try simp only [hc]) <;> (try simp only [go_sem] at hc)))
  have hz := mLn_zero x S.G
  refine DW.loop (ι := { k : Nat // k ≤ mN x }) (fun k => ⟨255, [(20, dI k.1), (9, .own 47), (7, dSt false S.q), (6, .own 23), (5, .box 5 0), (4, .c (.v (.slice none 0 0))), (3, .c (.v (.slice none 0 0))), (2, .box 2 0), (1, .box 1 0)], [(47, .row 1 (rowC (rows eI S.G))), (23, .row 3 (rowC (rows eO (mLn x S.G k.1)))), (5, .box [dI 3000, dI (max 0 (S.lo - ((gB x 28 % 50 : Nat) : Int))), dI (S.hi + ((gB x 29 % 50 : Nat) : Int)), dI 4]), (2, .box [dI 0, dI 0, dI 0, dI 0]), (1, shB x)]⟩) (fun k => mN x - k.1) ⟨0, Nat.zero_le _⟩ ?_ ?_
  · refine Ent.to ?_ ?_ <;> simp (disch := omega) only [wkT_cons, wkX_cons, wkT_nil, wkX_nil, get, Nat.reduceEqDiff, ↓reduceIte, ex_some, wk_self, wk_top, wk_nil, wkB_self, and_self, dI, i64_in, and_true, true_and, Int.natCast_add, Int.natCast_one, Int.ofNat_zero, Int.natCast_zero, hz]
    all_goals first | exact ⟨.refl _, .refl _, .refl _⟩ | exact ⟨.refl _, .refl _⟩ | exact .refl _
  rintro ⟨k, hk⟩
  dsimp only
  have hll := mLn_len x S.G k
  by_cases hkn : k < mN x
  · have hdk : decide ((k : Int) < (mN x : Int)) = true := decide_eq_true (by omega)
    have hk4 : k < 4 := by omega
    have hk4i : ((k : Int) < 4) = True := eq_true (by omega)
    have hGl : S.G.length = mN x := by rw [hI.got, gotF_len]; simp [zeros]
    obtain ⟨g, hg⟩ := getE (l := S.G) (i := k) (by omega)
    have hgbk := hgb g (List.mem_of_getElem? hg)
    have hgD : S.G.getD k 0 = g := by rw [List.getD_eq_getElem?_getD, hg]; rfl
    have hkl : (k < S.G.length) = True := eq_true (by omega)
    have hkn' : (k < mN x) = True := eq_true (by omega)
    have rk0 : (x.map dU)[20 + k * 2]? = some (dU (gB x (20 + 2 * k))) := by rw [gB_get hx (by omega), Nat.mul_comm]
    have rk1 : (x.map dU)[20 + k * 2 + 1]? = some (dU (gB x (21 + 2 * k))) := by rw [gB_get hx (by omega), show 20 + k * 2 + 1 = 21 + 2 * k by omega]
    have qk0 := gB_lt hb (20 + 2 * k)
    have qk1 := gB_lt hb (21 + 2 * k)
    have ek0 : IntKind.i64.wrap ((gB x (20 + 2 * k) : Nat) : Int) = ((gB x (20 + 2 * k) : Nat) : Int) := IntWalk.i64_in _ (by omega)
    have ek1 : IntKind.i64.wrap ((gB x (21 + 2 * k) : Nat) : Int) = ((gB x (21 + 2 * k) : Nat) : Int) := IntWalk.i64_in _ (by omega)
    have tk0 : Int.tmod ((gB x (20 + 2 * k) : Nat) : Int) 3 = ((gB x (20 + 2 * k) % 3 : Nat) : Int) := rfl
    have tk1 : Int.tmod ((gB x (21 + 2 * k) : Nat) : Int) 3 = ((gB x (21 + 2 * k) % 3 : Nat) : Int) := rfl
    have vk0 : IntKind.i64.wrap (g - ((gB x (20 + 2 * k) % 3 : Nat) : Int)) = g - ((gB x (20 + 2 * k) % 3 : Nat) : Int) := IntWalk.i64_in _ (by omega)
    have vk1 : IntKind.i64.wrap (g + ((gB x (21 + 2 * k) % 3 : Nat) : Int)) = g + ((gB x (21 + 2 * k) % 3 : Nat) : Int) := IntWalk.i64_in _ (by omega)
    have c4 := laSpan (max 0 (g - ((gB x (20 + 2 * k) % 3 : Nat) : Int))) (g + ((gB x (21 + 2 * k) % 3 : Nat) : Int))
    have hmk := mLn_get (x := x) (G := S.G) hkn
    have hsk : (rowC (rows eO (mLn x S.G k))).set k [dI (mO x k).w, dI (max 0 (g - ((gB x (20 + 2 * k) % 3 : Nat) : Int))), dI (g + ((gB x (21 + 2 * k) % 3 : Nat) : Int))] = rowC (rows eO (mLn x S.G (k + 1))) := by
      rw [← mLn_set hkn]
      rw [show mNd x S.G k = ⟨300 + 7 * (gB x k : Int) / 4, max 0 (g - ((gB x (20 + 2 * k) % 3 : Nat) : Int)), g + ((gB x (21 + 2 * k) % 3 : Nat) : Int)⟩ by rw [mNd, hgD], rows, rows, List.map_set, rowC, rowC, List.map_set]
      rfl
    repeat' (first
    | (with_reducible first | refine DW.seq ?_ | refine DW.block ?_ | refine DW.skip ?_ | refine DW.exit ?_ | refine DW.ret ?_ | refine DW.reg ?_)
    | (refine DW.dreg rfl (WF.of ?_) ?_; first | rfl | skip)
    | (refine DW.ord rfl (WF.of (by first | rfl | simp (disch := omega) only [go_sem, simprocAttr, bm_box, bm_row, bk_box, bk_row, hdk, hll, und5, hxl, hk4i, hg, hkl, hkn', rk0, rk1, ek0, ek1, tk0, tk1, vk0, vk1, hmk, min_if, max_if, hsk, List.map_cons, List.map_nil])) ?_ ?_ ?_; rotate_left)
    | rfl
    | (with_reducible refine And.intro ?_ ?_)
    | (simp (disch := omega) only [go_sem, simprocAttr, bm_box, bm_row, bk_box, bk_row, hdk, hll, und5, hxl, hk4i, hg, hkl, hkn', rk0, rk1, ek0, ek1, tk0, tk1, vk0, vk1, hmk, min_if, max_if, hsk, List.map_cons, List.map_nil])
    | (exact retS_of rfl rfl rfl)
    | (refine DW.cond_tt rfl ?_)
    | (refine call_c (c4) (by decide) ?_)
    | (refine DW.cond_ff rfl ?_)
    | (refine DW.cond rfl ?_ ?_ <;> intro hc <;> (try simp only [go_sem] at hc))
    | (refine g_split ?_ ?_ <;> intro hc <;> (try simp only [hc]) <;> (try simp only [go_sem] at hc)))
    refine ⟨⟨k + 1, hkn⟩, ?_, Ent.to ?_ ?_⟩ <;> first | (show _ < _; (try simp only); omega) | (simp (disch := omega) only [wkT_cons, wkX_cons, wkT_nil, wkX_nil, get, Nat.reduceEqDiff, ↓reduceIte, ex_some, wk_self, wk_top, wk_nil, wkB_self, and_self, dI, i64_in, and_true, true_and, Int.natCast_add, Int.natCast_one, Int.ofNat_zero, Int.natCast_zero])
    all_goals first | exact ⟨.refl _, .refl _, .refl _⟩ | exact ⟨.refl _, .refl _⟩ | exact .refl _
  · have hdk : decide ((k : Int) < (mN x : Int)) = false := decide_eq_false (by omega)
    obtain rfl : k = mN x := by omega
    have hmP : mP x = ⟨3000, max 0 (S.lo - ((gB x 28 % 50 : Nat) : Int)), S.hi + ((gB x 29 % 50 : Nat) : Int), 4⟩ := by rw [mP, ← hS]
    have hmL : mL x = mLn x S.G (mN x) := by rw [mL, ← hS]
    have hmQ : mQ x = S.q := by rw [mQ, ← hS]
    rw [hmP, hmL, hmQ]
    repeat' (first
    | (with_reducible first | refine DW.seq ?_ | refine DW.block ?_ | refine DW.skip ?_ | refine DW.exit ?_ | refine DW.ret ?_ | refine DW.reg ?_)
    | (refine DW.dreg rfl (WF.of ?_) ?_; first | rfl | skip)
    | (refine DW.ord rfl (WF.of (by first | rfl | simp (disch := omega) only [go_sem, simprocAttr, bm_box, bm_row, bk_box, bk_row, hdk, hll])) ?_ ?_ ?_; rotate_left)
    | rfl
    | (with_reducible refine And.intro ?_ ?_)
    | (simp (disch := omega) only [go_sem, simprocAttr, bm_box, bm_row, bk_box, bk_row, hdk, hll])
    | (exact retS_of rfl rfl rfl)
    | (refine DW.cond_tt rfl ?_)
    | (refine DW.cond_ff rfl ?_)
    | (refine DW.cond rfl ?_ ?_ <;> intro hc <;> (try simp only [go_sem] at hc))
    | (refine g_split ?_ ?_ <;> intro hc <;> (try simp only [hc]) <;> (try simp only [go_sem] at hc)))
    (refine retS_ent (Ent.rel 23 rfl) ?_; simp (disch := omega) only [go_sem, simprocAttr, bm_box, bm_row, bk_box, bk_row])
    refine retS_wk rfl ?_ (by simp only [Blk.nb, rowC_nb, D.nb, D.nbs, C.nb, C.nbs, C.nbss, rows_nb eI_nb, Bool.and_true, Bool.not_false, Bool.and_self, bD, dI, iD, rows_nb eO_nb, rows_nb eSt_nb, rows_nb eWs_nb, rows_nb e1_nb]); exact .refl _
end Go.Dw.Seat
end
section
set_option linter.unusedSimpArgs false
set_option maxRecDepth 100000
namespace Go.Dw.Seat
open Go Go.Dw Go.Proofs Go.IntWalk
theorem allW_mem : ∀ {ws : List Int}, (∀ v ∈ ws, 0 ≤ v ∧ v ≤ 4) → ws ∈ allW ws.length
  | [], _ => by simp [allW]
  | v :: ws, h => by
    have ih := allW_mem (ws := ws) (fun x hx => h x (by simp [hx]))
    have hv := h v (by simp)
    rw [List.length_cons, allW, List.mem_flatMap]
    refine ⟨v, ?_, List.mem_map.2 ⟨ws, ih, rfl⟩⟩
    have : v = 0 ∨ v = 1 ∨ v = 2 ∨ v = 3 ∨ v = 4 := by omega
    rcases this with rfl | rfl | rfl | rfl | rfl <;> simp
theorem ext_of : ∀ {T : List (List Int)} {q : List TStp}, (T.Pairwise fun a b => lexW a b = true) → (q.Pairwise fun a b => lexW a.ws b.ws = true) → (∀ s ∈ q, s.ws ∈ T ∧ 1 ≤ s.run ∧ s.run ≤ 30) → Ext T q.length q
  | [], [], _, _, _ => ⟨rfl, rfl⟩
  | [], s :: q, _, _, h => by have := (h s (by simp)).1; cases this
  | _ :: _, [], _, _, _ => rfl
  | ws :: T, s :: q, hT, hq, h => by
    obtain ⟨hT1, hT2⟩ := List.pairwise_cons.1 hT
    obtain ⟨hq1, hq2⟩ := List.pairwise_cons.1 hq
    have hs := h s (by simp)
    rw [List.length_cons, Ext]
    by_cases e : s.ws = ws
    · refine .inl ⟨s.run, q, by rw [← e], hs.2, ext_of hT2 hq2 (fun t ht => ?_)⟩
      have h1 := h t (by simp [ht])
      refine ⟨?_, h1.2⟩
      rcases List.mem_cons.1 h1.1 with h2 | h2
      · have h3 := hq1 t ht
        rw [e, h2, lexW_irr] at h3; cases h3
      · exact h2
    · refine .inr ?_
      have hsT : s.ws ∈ T := by
        rcases List.mem_cons.1 hs.1 with h2 | h2
        · exact absurd h2 e
        · exact h2
      have := ext_of (q := s :: q) hT2 hq (fun t ht => ?_)
      · exact this
      · have h1 := h t ht
        refine ⟨?_, h1.2⟩
        rcases List.mem_cons.1 h1.1 with h2 | h2
        · rcases List.mem_cons.1 ht with rfl | ht
          · exact absurd h2 e
          · have h3 := hq1 t ht
            rw [h2] at h3
            have h4 := lexW_asym (hT1 _ hsT)
            rw [h3] at h4; cases h4
        · exact h2
theorem ext_asc : ∀ {T : List (List Int)} {m : Nat} {q : List TStp}, (T.Pairwise fun a b => lexW a b = true) → Ext T m q → q.Pairwise fun a b => lexW a.ws b.ws = true
  | [], _, q, _, h => by rw [h.2]; exact List.Pairwise.nil
  | ws :: T, 0, q, _, h => by
    have : q = [] := h
    rw [this]; exact List.Pairwise.nil
  | ws :: T, m + 1, q, hT, h => by
    obtain ⟨hT1, hT2⟩ := List.pairwise_cons.1 hT
    rcases h with ⟨r, q', rfl, _, h⟩ | h
    · exact List.pairwise_cons.2 ⟨fun t ht => hT1 _ ((ext_mem h).2 t ht).1, ext_asc hT2 h⟩
    · exact ext_asc hT2 h
theorem plan_fine {p : TPap} {l : List TOrd} {q : List TStp} (h : PlanOk p l q) : Fine p l q := ⟨plan_wsb h, ext_asc (pats_ok p l).asc h.ext⟩
theorem fine_plan {p : TPap} (hp : p.ok) {l : List TOrd} {q : List TStp} (h : Fine p l q) (hl : q.length ≤ 3) (hd : doesP l q = true) : PlanOk p l q := by
  refine ⟨hl, ext_of (pats_ok p l).asc h.asc (fun s hs => ?_), hd⟩
  obtain ⟨h1, h2⟩ := h.ok s hs
  refine ⟨List.mem_filter.2 ⟨?_, h1.pat⟩, h2⟩
  rw [← h1.len]
  exact allW_mem (h1.ws4 hp).b
theorem addG_comm : ∀ (g a b : List Int) (r t : Int), addG (addG g a r) b t = addG (addG g b t) a r
  | [], _, _, _, _ => by simp [addG]
  | _ :: _, [], b, r, t => by rw [addG_nil, addG_nil]
  | _ :: _, _ :: _, [], r, t => by rw [addG_nil, addG_nil]
  | g :: gs, m :: a, n :: b, r, t => by
    rw [addG_cons, addG_cons, addG_cons, addG_cons, addG_comm gs a b r t]
    congr 1
    omega
theorem gotF_add : ∀ (q : List TStp) (g a : List Int) (r : Int), gotF (addG g a r) q = addG (gotF g q) a r
  | [], _, _, _ => rfl
  | s :: q, g, a, r => by rw [gotF, addG_comm, gotF_add q, gotF]
theorem gotF_ins (q : List TStp) (m : Nat) (s : TStp) (g : List Int) : gotF g (q.take m ++ s :: q.drop m) = addG (gotF g q) s.ws s.run := by
  rw [gotF_app, gotF, gotF_add, ← gotF_app, List.take_append_drop]
theorem sum_set : ∀ {ws : List Int} {i : Nat} {v u : Int}, ws[i]? = some v → sumI (ws.set i u) = sumI ws - v + u
  | [], _, _, _, h => by simp at h
  | w :: ws, 0, v, u, h => by cases h; simp only [List.set_cons_zero, sumI]; omega
  | w :: ws, i + 1, v, u, h => by
    have := sum_set (ws := ws) (i := i) (v := v) (u := u) h
    simp only [List.set_cons_succ, sumI, this]; omega
theorem used_set : ∀ {ws : List Int} {i : Nat} {v u : Int}, ws[i]? = some v → usedI (ws.set i u) = usedI ws - (if 0 < v then 1 else 0) + (if 0 < u then 1 else 0)
  | [], _, _, _, h => by simp at h
  | w :: ws, 0, v, u, h => by cases h; simp only [List.set_cons_zero, usedI]; omega
  | w :: ws, i + 1, v, u, h => by
    have := used_set (ws := ws) (i := i) (v := v) (u := u) h
    simp only [List.set_cons_succ, usedI, this]; omega
theorem zeros_sum : ∀ n : Nat, sumI (zeros n) = 0 ∧ usedI (zeros n) = 0
  | 0 => ⟨rfl, rfl⟩
  | n + 1 => by
    obtain ⟨h1, h2⟩ := zeros_sum n
    have e : zeros (n + 1) = 0 :: zeros n := rfl
    rw [e, sumI, usedI, h1, h2]; exact ⟨rfl, rfl⟩
theorem dot_sum : ∀ {ws : List Int} {l : List TOrd}, ws.length = l.length → (∀ v ∈ ws, 0 ≤ v) → (∀ o ∈ l, 300 ≤ o.w ∧ o.w ≤ 746) → 300 * sumI ws ≤ dotI ws l ∧ dotI ws l ≤ 746 * sumI ws
  | [], [], _, _, _ => by simp [sumI, dotI]
  | v :: ws, o :: l, hl, h1, h2 => by
    have ih := dot_sum (ws := ws) (l := l) (by simpa using hl) (fun x hx => h1 x (by simp [hx])) (fun x hx => h2 x (by simp [hx]))
    have hv := h1 v (by simp)
    have ho := h2 o (by simp)
    have m1 : 300 * v ≤ v * o.w := by rw [Int.mul_comm]; exact Int.mul_le_mul_of_nonneg_left ho.1 hv
    have m2 : v * o.w ≤ 746 * v := by rw [Int.mul_comm 746]; exact Int.mul_le_mul_of_nonneg_left ho.2 hv
    simp only [sumI, dotI]
    omega
theorem dot_w : ∀ {ws : List Int} {l l' : List TOrd}, l.map (·.w) = l'.map (·.w) → dotI ws l = dotI ws l'
  | [], _, _, _ => by simp [dotI]
  | _ :: _, [], [], _ => rfl
  | _ :: _, [], _ :: _, h => by simp at h
  | _ :: _, _ :: _, [], h => by simp at h
  | v :: ws, o :: l, o' :: l', h => by
    simp only [List.map_cons, List.cons.injEq] at h
    rw [dotI, dotI, h.1, dot_w h.2]
end Go.Dw.Seat
end
section
set_option linter.unusedSimpArgs false
set_option maxRecDepth 100000
namespace Go.Dw.Seat
open Go Go.Dw Go.Proofs Go.IntWalk
theorem seek_true (ws : List Int) : ∀ (C : List TStp) (k m : Nat), (seekF ws C k m true).2 = true
  | [], _, _ => rfl
  | t :: C, k, m => by
    rw [seekF]
    split
    · exact seek_true ws C _ _
    · split <;> exact seek_true ws C _ _
theorem seek_spec (ws : List Int) : ∀ (C A B : List TStp) (b : Bool), ((A ++ B ++ C).Pairwise fun a b => lexW a.ws b.ws = true) → (∀ t ∈ A, lexW t.ws ws = true) → (b = false → ∀ t ∈ B, lexW ws t.ws = true) → (seekF ws C (A.length + B.length) A.length b).2 = false → ∃ A' C', A ++ B ++ C = A' ++ C' ∧ (seekF ws C (A.length + B.length) A.length b).1 = A'.length ∧ (∀ t ∈ A', lexW t.ws ws = true) ∧ ∀ t ∈ C', lexW ws t.ws = true
  | [], A, B, b, _, hA, hB, h => by
    have hb : b = false := h
    exact ⟨A, B, by simp, rfl, hA, hB hb⟩
  | t :: C, A, B, b, hp, hA, hB, h => by
    rw [seekF] at h ⊢
    by_cases h1 : lexW t.ws ws = true
    · rw [if_pos h1] at h ⊢
      have hpt : ∀ u ∈ A ++ B, lexW u.ws t.ws = true := fun u hu => (List.pairwise_append.1 hp).2.2 u hu t (by simp)
      have ih := seek_spec ws C (A ++ B ++ [t]) [] b (by simpa using hp) (fun u hu => by
        rcases List.mem_append.1 hu with hu | hu
        · exact lexW_trans (hpt u hu) h1
        · rw [List.mem_singleton.1 hu]; exact h1) (fun _ u hu => by cases hu)
      have e : (A ++ B ++ [t]).length + ([] : List TStp).length = A.length + B.length + 1 := by simp only [List.length_append, List.length_cons, List.length_nil]
      have e2 : (A ++ B ++ [t]).length = A.length + B.length + 1 := by simp only [List.length_append, List.length_cons, List.length_nil]
      rw [e, e2] at ih
      obtain ⟨A', C', g1, g2⟩ := ih h
      exact ⟨A', C', by rw [← g1]; simp, g2⟩
    · rw [if_neg h1] at h ⊢
      by_cases h2 : lexW ws t.ws = true
      · rw [if_pos h2] at h ⊢
        have ih := seek_spec ws C A (B ++ [t]) b (by simpa using hp) hA (fun hb u hu => by
          rcases List.mem_append.1 hu with hu | hu
          · exact hB hb u hu
          · rw [List.mem_singleton.1 hu]; exact h2)
        have e : A.length + (B ++ [t]).length = A.length + B.length + 1 := by simp only [List.length_append, List.length_cons, List.length_nil]; omega
        rw [e] at ih
        obtain ⟨A', C', g1, g2⟩ := ih h
        exact ⟨A', C', by rw [← g1]; simp, g2⟩
      · rw [if_neg h2, seek_true] at h
        cases h
theorem mW_spec (x : List Nat) (i : Nat) : ((mW x i).length = mN x ∧ ∀ v ∈ mW x i, 0 ≤ v) ∧ (1 ≤ sumI (mW x i) ∧ sumI (mW x i) ≤ 4) ∧ usedI (mW x i) ≤ 2 := by
  have hmN : 0 < mN x := by unfold mN; omega
  have hA : mA x i < mN x := Nat.mod_lt _ hmN
  have hB : mB x i < mN x := Nat.mod_lt _ hmN
  have hna : 1 ≤ mna x i ∧ mna x i ≤ 3 := by unfold mna; omega
  have hzl : (zeros (mN x)).length = mN x := by simp [zeros]
  obtain ⟨z1, z2⟩ := zeros_sum (mN x)
  have hz : ∀ j, j < mN x → (zeros (mN x))[j]? = some 0 := fun j hj => by rw [zeros, List.getElem?_replicate, if_pos hj]
  have hzv : ∀ v ∈ zeros (mN x), 0 ≤ v := fun v hv => by rw [List.eq_of_mem_replicate hv]; omega
  have s1 := sum_set (u := ((mna x i : Nat) : Int)) (hz _ hA)
  have u1 := used_set (u := ((mna x i : Nat) : Int)) (hz _ hA)
  rw [if_neg (by omega), if_pos (by omega)] at u1
  have hW1l : (mW1 x i).length = mN x := by rw [mW1, List.length_set, hzl]
  have hW1v : ∀ v ∈ mW1 x i, 0 ≤ v := fun v hv => by
    rcases List.mem_or_eq_of_mem_set hv with h | h
    · exact hzv v h
    · omega
  have s1' : sumI (mW1 x i) = sumI (zeros (mN x)) - 0 + ((mna x i : Nat) : Int) := s1
  have u1' : usedI (mW1 x i) = usedI (zeros (mN x)) - 0 + 1 := u1
  unfold mW
  by_cases hab : mA x i = mB x i
  · rw [if_pos hab]
    exact ⟨⟨hW1l, hW1v⟩, by omega, by omega⟩
  · rw [if_neg hab]
    have hg : (mW1 x i)[mB x i]? = some 0 := by rw [mW1, List.getElem?_set_ne hab, hz _ hB]
    have hnb : mnb x i < 5 - mna x i := Nat.mod_lt _ (by omega)
    have s2 := sum_set (u := ((mnb x i : Nat) : Int)) hg
    have u2 := used_set (u := ((mnb x i : Nat) : Int)) hg
    rw [if_neg (by omega)] at u2
    refine ⟨⟨by rw [List.length_set, hW1l], fun v hv => ?_⟩, by omega, ?_⟩
    · rcases List.mem_or_eq_of_mem_set hv with h | h
      · exact hW1v v h
      · omega
    · split at u2 <;> omega
theorem w4_of {l : List TOrd} {ws : List Int} (hl : ws.length = l.length) (h1 : ∀ v ∈ ws, 0 ≤ v) (h2 : sumI ws ≤ 4) : Ws4 l ws := by
  refine ⟨hl, fun n hn => ⟨h1 n hn, ?_⟩⟩
  have : ∀ ws : List Int, (∀ n ∈ ws, 0 ≤ n) → ∀ n ∈ ws, n ≤ sumI ws := by
    intro ws
    induction ws with
    | nil => intro _ n hn; cases hn
    | cons a ws ih =>
      intro h n hn
      have hs := sum_nn ws (fun x hx => h x (by simp [hx]))
      have ha := h a (by simp)
      rcases List.mem_cons.1 hn with rfl | hn
      · simp only [sumI]; omega
      · have := ih (fun x hx => h x (by simp [hx])) n hn
        simp only [sumI]; omega
  have := this ws h1 n hn
  omega
theorem mW_w4 (x : List Nat) (i : Nat) : Ws4 (mL0 x (mN x)) (mW x i) := by
  have h := mW_spec x i
  exact w4_of (by rw [mL0_len, h.1.1]) h.1.2 h.2.1.2
theorem made_left {x : List Nat} (hb : ∀ v ∈ x, v < 256) {ws : List Int} (h1 : ws.length = mN x) (h2 : ∀ v ∈ ws, 0 ≤ v) (h3 : 1 ≤ sumI ws ∧ sumI ws ≤ 4) : 16 ≤ 3000 - dotI ws (mL0 x (mN x)) ∧ 3000 - dotI ws (mL0 x (mN x)) ≤ 2700 := by
  have := dot_sum (l := mL0 x (mN x)) (by rw [mL0_len, h1]) h2 (fun o ho => (mL0_w hb ho).1)
  omega
theorem mS_inv {x : List Nat} (hb : ∀ v ∈ x, v < 256) : ∀ i, MInv x i (mS x i)
  | 0 => ⟨Nat.le_refl _, fun h => absurd h (by omega), fun s hs => (by cases hs), List.Pairwise.nil, rfl, fun v hv => by (have := List.eq_of_mem_replicate (show v ∈ List.replicate (mN x) (0 : Int) from hv); subst this; simp), by simp only [mS]; omega, by simp only [mS]; omega⟩
  | i + 1 => by
    have hI := mS_inv hb i
    rw [mS]
    generalize mS x i = S at hI
    unfold stepM
    dsimp only
    have hsp := seek_spec (mW x i) S.q [] [] (mLk x i) (by simpa using hI.asc) (fun t ht => by cases ht) (fun _ t ht => by cases ht)
    simp only [List.length_nil, Nat.add_zero, List.nil_append] at hsp
    cases hk : (seekF (mW x i) S.q 0 0 (mLk x i)).2 with
    | true =>
      rw [if_pos rfl]
      refine ⟨by have := hI.len; omega, fun _ => ?_, hI.st, hI.asc, hI.got, fun v hv => by have := hI.gb v hv; omega, hI.lo, hI.hi⟩
      by_cases hi : i = 0
      · subst hi
        have : S.q = [] := List.length_eq_zero_iff.1 (by have := hI.len; omega)
        rw [this, seekF] at hk
        have h0 : mLk x 0 = false := rfl
        rw [h0] at hk; cases hk
      · exact hI.ne (by omega)
    | false =>
      rw [if_neg Bool.false_ne_true]
      obtain ⟨A, C, hq, hm, hA, hC⟩ := hsp hk
      have hw := mW_spec x i
      have hlf := made_left hb hw.1.1 hw.1.2 hw.2.1
      have hrun : 1 ≤ (mT x i).run ∧ (mT x i).run ≤ 8 := by show 1 ≤ 1 + ((mv x i 4 % 8 : Nat) : Int) ∧ 1 + ((mv x i 4 % 8 : Nat) : Int) ≤ 8; omega
      have hlo := hI.lo
      have hhi := hI.hi
      have hta : S.q.take A.length = A := by rw [hq, List.take_left]
      have htc : S.q.drop A.length = C := by rw [hq, List.drop_left]
      have hasc := hI.asc
      rw [hq] at hasc
      obtain ⟨p1, p2, p3⟩ := List.pairwise_append.1 hasc
      rw [hm]
      have hlen := hI.len
      rw [hq, List.length_append] at hlen
      have hst : ∀ s ∈ A ++ mT x i :: C, s ∈ S.q ∨ s = mT x i := fun s hs => by
        rw [hq]
        simp only [List.mem_append, List.mem_cons] at hs ⊢
        rcases hs with h | h | h
        · exact .inl (.inl h)
        · exact .inr h
        · exact .inl (.inr h)
      refine ⟨?_, fun _ => ?_, fun s hs => ?_, ?_, ?_, fun v hv => ?_, ?_, ?_⟩ <;> dsimp only at *
      · rw [hta, htc, List.length_append, List.length_cons]; omega
      · simp
      · rw [hta, htc] at hs
        rcases hst s hs with h | rfl
        · have := hI.st s h
          refine ⟨this.1, this.2.1, this.2.2.1, this.2.2.2.1, ?_, ?_⟩
          · have := this.2.2.2.2.1; omega
          · have := this.2.2.2.2.2; omega
        · refine ⟨hw.1, hw.2.1, hw.2.2, hrun, ?_, ?_⟩
          · show _ ≤ 3000 - dotI (mW x i) (mL0 x (mN x)); omega
          · show 3000 - dotI (mW x i) (mL0 x (mN x)) ≤ _; omega
      · rw [hta, htc]
        refine List.pairwise_append.2 ⟨p1, List.pairwise_cons.2 ⟨hC, p2⟩, fun a ha c hc => ?_⟩
        rcases List.mem_cons.1 hc with rfl | hc
        · exact hA a ha
        · exact p3 a ha c hc
      · rw [gotF_ins, ← hI.got]; rfl
      · have := addG_b hI.gb (mW_w4 x i).b (r := (mT x i).run) (by omega) v hv
        simp only [Int.natCast_add, Int.natCast_one]; omega
      · omega
      · omega
end Go.Dw.Seat
end
section
set_option linter.unusedSimpArgs false
set_option maxRecDepth 100000
namespace Go.Dw.Seat
open Go Go.Dw Go.Proofs Go.IntWalk
theorem laMade (x : List Nat) (hx : x.length = 30) (hb : AllLt 256 x) : DCall Try.prog 42 [shD x] [] (.tup [papD (mP x), .c (.sl false 3 (rows eO (mL x))), dSt false (mQ x)]) [] :=
  laMadeW x hx hb (fun i _ => mS_inv hb i) (fun i _ => mW_w4 x i)
theorem does_of : ∀ {l : List TOrd} {got : List Int}, (∀ (i : Nat) (o : TOrd) (g : Int), l[i]? = some o → got[i]? = some g → o.lo ≤ g ∧ g ≤ o.hi) → doesB l got = true
  | [], _, _ => by simp [doesB]
  | _ :: _, [], _ => by simp [doesB]
  | o :: l, g :: got, h => by
    have h0 := h 0 o g rfl rfl
    rw [doesB, decide_eq_true h0.1, decide_eq_true h0.2, Bool.true_and, Bool.true_and]
    exact does_of (fun i o' g' h1 h2 => h (i + 1) o' g' h1 h2)
theorem mL_len (x : List Nat) : (mL x).length = mN x := mLn_len _ _ _
theorem mL_get {x : List Nat} {i : Nat} (hi : i < mN x) : (mL x)[i]? = some (mNd x (mS x 3).G i) := by
  rw [mL, mLn, List.getElem?_map, List.getElem?_range hi, Option.map_some, if_pos hi]
theorem mL_w (x : List Nat) : (mL x).map (·.w) = (mL0 x (mN x)).map (·.w) := by
  rw [mL, mLn, mL0, List.map_map, List.map_map]
  apply List.map_congr_left
  intro j hj
  have := List.mem_range.1 hj
  simp only [Function.comp]
  rw [if_pos this]; rfl
structure Made (p : TPap) (l : List TOrd) (q : List TStp) : Prop where
  pok : p.ok
  wide : p.wide = 3000
  th : p.th ≤ 2800
  ln : 1 ≤ l.length ∧ l.length ≤ 4
  lo : ∀ o ∈ l, o.ok
  hi98 : ∀ o ∈ l, o.hi ≤ 98
  wb : ∀ o ∈ l, 300 ≤ o.w ∧ o.w ≤ 746
  fine : Fine p l q
  len : q.length ≤ 3
  ne : q ≠ []
  does : doesP l q = true
theorem made_good {x : List Nat} (hb : AllLt 256 x) : Made (mP x) (mL x) (mQ x) := by
  have hI := mS_inv hb 3
  have hlen := hI.len
  have hlo := hI.lo
  have hhi := hI.hi
  have hne : mQ x ≠ [] := hI.ne (by decide)
  have hGl : (mS x 3).G.length = mN x := by rw [hI.got, gotF_len]; simp [zeros]
  have hget : ∀ o ∈ mL x, ∃ i g, i < mN x ∧ (mS x 3).G[i]? = some g ∧ (0 ≤ g ∧ g ≤ 96) ∧ o = ⟨300 + 7 * (gB x i : Int) / 4, max 0 (g - (gB x (20 + 2 * i) % 3 : Nat)), g + (gB x (21 + 2 * i) % 3 : Nat)⟩ := fun o ho => by
    obtain ⟨i, hi, rfl⟩ := List.mem_iff_getElem.1 ho
    rw [mL_len] at hi
    have h1 := mL_get hi
    obtain ⟨g, hg⟩ := getE (l := (mS x 3).G) (i := i) (by omega)
    refine ⟨i, g, hi, hg, by have := hI.gb g (List.mem_of_getElem? hg); omega, ?_⟩
    rw [(List.getElem_eq_iff _).2 h1, mNd, List.getD_eq_getElem?_getD, hg]; rfl
  have hwb : ∀ o ∈ mL x, 300 ≤ o.w ∧ o.w ≤ 746 := fun o ho => by
    obtain ⟨i, g, hi, _, _, rfl⟩ := hget o ho
    have := gB_lt hb i
    dsimp only; omega
  obtain ⟨s0, hs0⟩ : ∃ s, s ∈ (mS x 3).q := by
    cases h : (mS x 3).q with
    | nil => exact absurd h hne
    | cons s _ => exact ⟨s, by simp⟩
  have h0 := (hI.st s0 hs0).2.2.2.2
  have hpo : (mP x).ok := ⟨by simp only [mP]; omega, by simp only [mP]; omega, by simp only [mP]; omega⟩
  refine ⟨hpo, rfl, by simp only [mP]; omega, ?_, ?_, ?_, hwb, ⟨fun s hs => ?_, hI.asc⟩, hlen, hne, ?_⟩
  · rw [mL_len]; unfold mN; omega
  · intro o ho
    have hw := hwb o ho
    obtain ⟨i, g, hi, _, _, rfl⟩ := hget o ho
    exact ⟨by dsimp only at hw ⊢; omega, by dsimp only; omega⟩
  · intro o ho
    obtain ⟨i, g, hi, _, _, rfl⟩ := hget o ho
    dsimp only; omega
  · have h1 := hI.st s hs
    have hlf := made_left hb h1.1.1 h1.1.2 h1.2.1
    have hd : dotI s.ws (mL x) = dotI s.ws (mL0 x (mN x)) := dot_w (mL_w x)
    have h2 := h1.2.2.2.2
    have h3 := h1.2.2.2.1
    refine ⟨⟨by rw [mL_len, h1.1.1], h1.1.2, ?_⟩, by omega⟩
    have ht : trimI (mP x) (mL x) s.ws = 3000 - dotI s.ws (mL0 x (mN x)) := by rw [trimI, hd]; rfl
    have h4 := h1.2.1
    have h5 := h1.2.2.1
    simp only [patB, ht, Bool.and_eq_true, decide_eq_true_eq]
    simp only [mP]
    omega
  · unfold doesP
    refine does_of (fun i o g h1 h2 => ?_)
    have hi := (List.getElem?_eq_some_iff.1 h1).1
    rw [mL_len] at hi
    rw [mL_get hi] at h1
    cases h1
    rw [mL_len] at h2
    have e : (mS x 3).G[i]? = some g := by rw [hI.got]; exact h2
    simp only [mNd, List.getD_eq_getElem?_getD, e, Option.getD_some]
    have := hI.gb g (List.mem_of_getElem? e)
    omega
end Go.Dw.Seat
end
section
set_option linter.unusedSimpArgs false
set_option maxRecDepth 100000
namespace Go.Dw.Seat
open Go Go.Dw Go.Proofs Go.IntWalk
theorem stE_fine {p : TPap} (hp : p.ok) {l : List TOrd} {s : TStp} (h : WsOk p l s.ws ∧ 1 ≤ s.run ∧ s.run ≤ 30) {pr : Option TStp} (hpr : ∀ w, pr = some w → w.ws.length = s.ws.length ∧ lexW w.ws s.ws = true) : stE p l pr s = 0 := by
  have h1 := websE_yes (h.1.ws4 hp) h.1.pat
  have h2 : wthn 1 30 [s.run] = true := wthn_yes (by simpa using h.2)
  unfold stE
  rw [if_neg (by simpa using h1), if_neg (by rw [h2]; decide), if_neg]
  cases pr with
  | none => simp
  | some w =>
    obtain ⟨g1, g2⟩ := hpr w rfl
    have := lexW_cmp g1
    rw [g2] at this
    simpa using this.symm
theorem getR_fine {p : TPap} (hp : p.ok) {l : List TOrd} : ∀ {q : List TStp} {pr : Option TStp} {G : List Int} {W : Int} {i : Nat}, Fine p l q → (∀ w, pr = some w → ∀ s ∈ q, w.ws.length = s.ws.length ∧ lexW w.ws s.ws = true) → getR p l pr G W i q = .inl (gotF G q, W + wasteF p l q)
  | [], _, G, W, i, _, _ => by rw [getR, gotF, wasteF, Int.add_zero]
  | s :: q, pr, G, W, i, h, hpr => by
    have h1 := stE_fine hp (h.ok s (by simp)) (pr := pr) (fun w hw => hpr w hw s (by simp))
    obtain ⟨a1, a2⟩ := List.pairwise_cons.1 h.asc
    rw [getR, if_neg (by simpa using h1), getR_fine hp (q := q) ⟨fun t ht => h.ok t (by simp [ht]), a2⟩ (fun w hw t ht => by
      cases hw
      exact ⟨by rw [(h.ok s (by simp)).1.len, (h.ok t (by simp [ht])).1.len], a1 t ht⟩), gotF, wasteF, Int.add_assoc]
theorem getX_fine {p : TPap} (hp : p.ok) {l : List TOrd} (hl : l.length ≤ 4) (ho : ∀ o ∈ l, o.ok) {q : List TStp} (h : Fine p l q) (hq : q.length ≤ 3) (hd : doesP l q = true) : getX p l q = .inl (gotF (zeros l.length) q, wasteF p l q) := by
  have hw := wrong_does l (gotF (zeros l.length) q) (by rw [gotF_len]; simp [zeros])
  rw [show doesB l (gotF (zeros l.length) q) = true from hd, decide_eq_true_eq] at hw
  have hg : getA p l q = .inl (gotF (zeros l.length) q, wasteF p l q) := by
    unfold getA
    rw [if_neg (by omega), getR_fine hp h (fun w hw => by cases hw), Int.zero_add]
  unfold getX
  rw [if_pos (openE_yes hp hl ho)]
  unfold doesA
  rw [hg]
  dsimp only
  rw [if_neg (by omega)]
end Go.Dw.Seat
end
section
set_option linter.unusedSimpArgs false
set_option maxRecDepth 100000
namespace Go.Dw.Seat
open Go Go.Dw Go.Proofs Go.IntWalk
theorem best_le {p : TPap} {l : List TOrd} {q b : List TStp} (h : ¬ Better p l q b) : b.length < q.length ∨ (b.length = q.length ∧ wasteF p l b ≤ wasteF p l q) := by
  rcases Nat.lt_trichotomy q.length b.length with h1 | h1 | h1
  · exact absurd (.inl h1) h
  · refine .inr ⟨h1.symm, ?_⟩
    rcases Int.lt_or_le (wasteF p l q) (wasteF p l b) with h2 | h2
    · exact absurd (.inr ⟨h1, .inl h2⟩) h
    · exact h2
  · exact .inl h1
end Go.Dw.Seat
end
section
set_option linter.unusedSimpArgs false
set_option maxRecDepth 100000
namespace Go.Dw.Seat
open Go Go.Dw Go.Proofs Go.IntWalk
theorem addG_zero : ∀ g ws : List Int, addG g ws 0 = g
  | [], _ => by simp [addG]
  | _ :: _, [] => addG_nil _ _
  | g :: gs, n :: ws => by rw [addG_cons, Int.mul_zero, Int.add_zero, addG_zero gs ws]
def incF (i : Nat) : List TStp → Int
  | [] => 0
  | s :: q => (s.ws[i]?).getD 0 * s.run + incF i q
theorem incF_app (i : Nat) : ∀ a b : List TStp, incF i (a ++ b) = incF i a + incF i b
  | [], b => by simp [incF]
  | s :: a, b => by rw [List.cons_append, incF, incF_app i a b, incF, Int.add_assoc]
theorem addG_at : ∀ {g ws : List Int} {r : Int} {i : Nat} {a : Int}, g[i]? = some a → (addG g ws r)[i]? = some (a + (ws[i]?).getD 0 * r)
  | [], _, _, _, _, h => by simp at h
  | g :: gs, [], r, i, a, h => by rw [addG_nil, h]; simp
  | g :: gs, n :: ws, r, 0, a, h => by cases h; rw [addG_cons]; rfl
  | g :: gs, n :: ws, r, i + 1, a, h => by
    rw [addG_cons]
    simp only [List.getElem?_cons_succ] at h ⊢
    exact addG_at h
theorem gotF_get {i : Nat} : ∀ {q : List TStp} {g : List Int} {a : Int}, g[i]? = some a → (gotF g q)[i]? = some (a + incF i q)
  | [], g, a, h => by rw [gotF, h, incF, Int.add_zero]
  | s :: q, g, a, h => by rw [gotF, gotF_get (addG_at h), incF, Int.add_assoc]
theorem got_zero {n i : Nat} (h : i < n) (q : List TStp) : (gotF (zeros n) q)[i]? = some (incF i q) := by
  rw [gotF_get (a := 0), Int.zero_add]
  rw [zeros, List.getElem?_replicate, if_pos h]
theorem incF_nn {p : TPap} {l : List TOrd} (i : Nat) : ∀ {q : List TStp}, (∀ s ∈ q, WsOk p l s.ws ∧ 1 ≤ s.run ∧ s.run ≤ 30) → 0 ≤ incF i q
  | [], _ => by simp [incF]
  | s :: q, h => by
    have h1 := incF_nn (p := p) (l := l) i (q := q) (fun t ht => h t (by simp [ht]))
    obtain ⟨h2, h3, _⟩ := h s (by simp)
    have h4 : 0 ≤ (s.ws[i]?).getD 0 := by
      cases e : s.ws[i]? with
      | none => simp
      | some v => exact h2.nn v (List.mem_of_getElem? e)
    have h5 : 0 ≤ (s.ws[i]?).getD 0 * s.run := Int.mul_nonneg h4 (by omega)
    rw [incF]; omega
theorem does_at : ∀ {l : List TOrd} {G : List Int} {i : Nat} {o : TOrd} {g : Int}, doesB l G = true → l[i]? = some o → G[i]? = some g → o.lo ≤ g ∧ g ≤ o.hi
  | [], _, _, _, _, _, h, _ => by simp at h
  | _ :: _, [], _, _, _, _, _, h => by simp at h
  | o :: l, g :: G, 0, _, _, h, h1, h2 => by
    cases h1; cases h2
    simp only [doesB, Bool.and_eq_true, decide_eq_true_eq] at h
    exact h.1
  | o :: l, g :: G, i + 1, _, _, h, h1, h2 => by
    simp only [doesB, Bool.and_eq_true, decide_eq_true_eq] at h
    exact does_at h.2 h1 h2
theorem ws_w {p : TPap} {l l' : List TOrd} (hw : l.map (·.w) = l'.map (·.w)) {ws : List Int} (h : WsOk p l ws) : WsOk p l' ws := by
  have hl : l.length = l'.length := by simpa using congrArg List.length hw
  refine ⟨by rw [h.len, hl], h.nn, ?_⟩
  have h1 := patB_b h.pat
  have ht : trimI p l' ws = trimI p l ws := by rw [trimI, trimI, dot_w hw]
  simp only [patB, ht, Bool.and_eq_true, decide_eq_true_eq]
  omega
theorem fine_w {p : TPap} {l l' : List TOrd} (hw : l.map (·.w) = l'.map (·.w)) {q : List TStp} (h : Fine p l q) : Fine p l' q := ⟨fun s hs => ⟨ws_w hw (h.ok s hs).1, (h.ok s hs).2⟩, h.asc⟩
def brkF (q : List TStp) (n : Nat) (s : TStp) (m : Int) : List TStp := q.take n ++ (if 0 < m then [⟨s.ws, m⟩] else [])
def brkR (q : List TStp) (n : Nat) (s : TStp) (m : Int) : List TStp := (if m < s.run then [⟨s.ws, s.run - m⟩] else []) ++ q.drop (n + 1)
theorem brk_split {q : List TStp} {n : Nat} {s : TStp} (h : q[n]? = some s) : q = q.take n ++ s :: q.drop (n + 1) := by
  have hn := (List.getElem?_eq_some_iff.1 h).1
  rw [← (List.getElem_eq_iff hn).2 h, ← List.drop_eq_getElem_cons hn, List.take_append_drop]
theorem brkF_fine {p : TPap} {l : List TOrd} {q : List TStp} {n : Nat} {s : TStp} (h : q[n]? = some s) {m : Int} (hm : 0 ≤ m ∧ m ≤ s.run) (hf : Fine p l q) : Fine p l (brkF q n s m) ∧ Fine p l (brkR q n s m) := by
  have hs := hf.ok s (List.mem_of_getElem? h)
  have hasc := hf.asc
  rw [brk_split h] at hasc
  obtain ⟨h1, h2, h3⟩ := List.pairwise_append.1 hasc
  obtain ⟨h4, h5⟩ := List.pairwise_cons.1 h2
  constructor
  · unfold brkF
    constructor
    · intro t ht
      rcases List.mem_append.1 ht with ht | ht
      · exact hf.ok t (List.mem_of_mem_take ht)
      · split at ht
        · rw [List.mem_singleton.1 ht]; exact ⟨hs.1, by dsimp only; omega⟩
        · cases ht
    · refine List.pairwise_append.2 ⟨h1, ?_, fun a ha b hb => ?_⟩
      · split
        · exact List.pairwise_singleton _ _
        · exact .nil
      · split at hb
        · rw [List.mem_singleton.1 hb]; exact h3 a ha s (by simp)
        · cases hb
  · unfold brkR
    constructor
    · intro t ht
      rcases List.mem_append.1 ht with ht | ht
      · split at ht
        · rw [List.mem_singleton.1 ht]; exact ⟨hs.1, by dsimp only; omega⟩
        · cases ht
      · exact hf.ok t (List.mem_of_mem_drop ht)
    · refine List.pairwise_append.2 ⟨?_, h5, fun a ha b hb => ?_⟩
      · split
        · exact List.pairwise_singleton _ _
        · exact .nil
      · split at ha
        · rw [List.mem_singleton.1 ha]; exact h4 b hb
        · cases ha
theorem brk_len {q : List TStp} {n : Nat} {s : TStp} (h : q[n]? = some s) (m : Int) : (brkF q n s m).length ≤ q.length ∧ (brkR q n s m).length ≤ q.length := by
  have hn := (List.getElem?_eq_some_iff.1 h).1
  unfold brkF brkR
  constructor
  · rw [List.length_append, List.length_take]
    split <;> simp <;> omega
  · rw [List.length_append, List.length_drop]
    split <;> simp <;> omega
theorem brk_inc {q : List TStp} {n : Nat} {s : TStp} (h : q[n]? = some s) {m : Int} (hm : 0 ≤ m ∧ m ≤ s.run) (i : Nat) : incF i (brkF q n s m) + incF i (brkR q n s m) = incF i q := by
  have e := congrArg (incF i) (brk_split h)
  rw [incF_app, incF] at e
  rw [e, brkF, brkR, incF_app, incF_app]
  have e1 : incF i (if 0 < m then [⟨s.ws, m⟩] else []) = (s.ws[i]?).getD 0 * m := by
    split
    · simp [incF]
    · rw [show m = 0 by omega, Int.mul_zero]; rfl
  have e2 : incF i (if m < s.run then [⟨s.ws, s.run - m⟩] else []) = (s.ws[i]?).getD 0 * (s.run - m) := by
    split
    · simp [incF]
    · rw [show s.run - m = 0 by omega, Int.mul_zero]; rfl
  rw [e1, e2, Int.mul_sub]
  omega
theorem brk_rest {l : List TOrd} {q : List TStp} {n : Nat} {s : TStp} (h : q[n]? = some s) {m : Int} (hm : 0 ≤ m ∧ m ≤ s.run) : restG l q n m = gotF (zeros l.length) (brkF q n s m) := by
  rw [restG, h, Option.map_some, Option.getD_some, brkF, gotF_app]
  split
  · rfl
  · rw [show m = 0 by omega, addG_zero]; rfl
theorem lessL_get {l : List TOrd} {G : List Int} {i : Nat} {o : TOrd} {g : Int} (ho : l[i]? = some o) (hg : G[i]? = some g) : (List.zipWith lessO l G)[i]? = some (lessO o g) := by rw [List.getElem?_zipWith, ho, hg]
theorem lessL_w : ∀ {l : List TOrd} {G : List Int}, G.length = l.length → (List.zipWith lessO l G).map (·.w) = l.map (·.w)
  | [], _, _ => by simp
  | _ :: _, [], h => by simp at h
  | o :: l, g :: G, h => by rw [List.zipWith_cons_cons, List.map_cons, List.map_cons, lessL_w (by simpa using h)]; rfl
theorem max2_0 (a : Int) : max2 0 a = max 0 a := by unfold max2; split <;> omega
structure Broken (p : TPap) (l : List TOrd) (q : List TStp) (n : Nat) (s : TStp) (m : Int) (L : List TOrd) : Prop where
  rest : restE p l q n m = 0
  restL : restL l q n m = L
  len : L.length = l.length
  ok : ∀ o ∈ L, o.ok
  w : l.map (·.w) = L.map (·.w)
  f : Fine p l (brkF q n s m)
  r : Fine p l (brkR q n s m)
  r2 : Fine p L (brkR q n s m)
  lf : (brkF q n s m).length ≤ 3
  lr : (brkR q n s m).length ≤ 3
  does : doesP L (brkR q n s m) = true
  at' : ∀ (i : Nat) (o : TOrd), l[i]? = some o → ∃ g y, (gotF (zeros l.length) (brkF q n s m))[i]? = some g ∧ (gotF (zeros l.length) (brkR q n s m))[i]? = some y ∧ L[i]? = some ⟨o.w, max 0 (o.lo - g), o.hi - g⟩ ∧ (0 ≤ g ∧ 0 ≤ y) ∧ (max 0 (o.lo - g) ≤ y ∧ y ≤ o.hi - g) ∧ o.hi ≤ 100
theorem broken {p : TPap} {l : List TOrd} {q : List TStp} (hp : p.ok) (hl : l.length ≤ 4) (ho : ∀ o ∈ l, o.ok) (hf : Fine p l q) (hq : q.length ≤ 3) (hd : doesP l q = true) {n : Nat} {s : TStp} (h : q[n]? = some s) {m : Int} (hm : 0 ≤ m ∧ m ≤ s.run) : Broken p l q n s m (List.zipWith lessO l (gotF (zeros l.length) (brkF q n s m))) := by
  have hn := (List.getElem?_eq_some_iff.1 h).1
  have hfr := brkF_fine h hm hf
  have hln := brk_len h m
  have hgl : (gotF (zeros l.length) (brkF q n s m)).length = l.length := by rw [gotF_len]; simp [zeros]
  have hw := lessL_w (l := l) hgl
  have hlen : (List.zipWith lessO l (gotF (zeros l.length) (brkF q n s m))).length = l.length := by simpa using congrArg List.length hw
  have key : ∀ (i : Nat) (o : TOrd), l[i]? = some o → ∃ g y, (gotF (zeros l.length) (brkF q n s m))[i]? = some g ∧ (gotF (zeros l.length) (brkR q n s m))[i]? = some y ∧ (List.zipWith lessO l (gotF (zeros l.length) (brkF q n s m)))[i]? = some ⟨o.w, max 0 (o.lo - g), o.hi - g⟩ ∧ (0 ≤ g ∧ 0 ≤ y) ∧ (max 0 (o.lo - g) ≤ y ∧ y ≤ o.hi - g) ∧ o.hi ≤ 100 := fun i o hi => by
    have hil := (List.getElem?_eq_some_iff.1 hi).1
    have h1 := got_zero hil (brkF q n s m)
    have h2 := got_zero hil (brkR q n s m)
    have h3 := got_zero hil q
    have h4 := does_at hd hi h3
    have h5 := brk_inc h hm i
    have h6 := incF_nn i hfr.1.ok
    have h7 := incF_nn i hfr.2.ok
    have h8 := (ho o (List.mem_of_getElem? hi)).need
    refine ⟨_, _, h1, h2, ?_, ⟨h6, h7⟩, by omega, by omega⟩
    rw [lessL_get hi h1, lessO, max2_0, max2_0, show max 0 (o.hi - incF i (brkF q n s m)) = o.hi - incF i (brkF q n s m) by omega]
  refine ⟨?_, ?_, hlen, ?_, hw.symm, hfr.1, hfr.2, fine_w hw.symm hfr.2, by omega, by omega, ?_, key⟩
  · have hg := getX_fine hp hl ho hf hq hd
    have hop := openE_yes hp hl ho
    unfold getX at hg
    rw [if_pos hop] at hg
    unfold restE
    rw [if_neg (by simpa using hop), hg]
    dsimp only
    rw [if_pos (by omega), Int.toNat_natCast, h]
    exact if_pos hm
  · rw [Go.Dw.Seat.restL, Int.toNat_natCast, brk_rest h hm]
  · intro o hom
    obtain ⟨i, hi, rfl⟩ := List.mem_iff_getElem.1 hom
    obtain ⟨u, hu⟩ := getE (l := l) (i := i) (by omega)
    obtain ⟨g, y, h1, h2, h3, h4, h5, h6⟩ := key i u hu
    rw [(List.getElem_eq_iff hi).2 h3]
    have h8 := ho u (List.mem_of_getElem? hu)
    have h9 := h8.need
    exact ⟨h8.w, by dsimp only; omega⟩
  · unfold doesP
    rw [hlen]
    refine does_of (fun i o y hi hy => ?_)
    have hil := (List.getElem?_eq_some_iff.1 hi).1
    obtain ⟨u, hu⟩ := getE (l := l) (i := i) (by omega)
    obtain ⟨g, y', h1, h2, h3, h4, h5, h6⟩ := key i u hu
    rw [hi] at h3
    cases h3
    rw [hy] at h2
    cases h2
    dsimp only; omega
end Go.Dw.Seat
end
section
set_option linter.unusedSimpArgs false
set_option maxRecDepth 100000
namespace Go.Dw.Seat
open Go Go.Dw Go.Proofs Go.IntWalk
theorem eN_dU (x : List Nat) : (eN x).map D.c = x.map dU := by rw [eN, List.map_map]; rfl
theorem close_dU (σ : St) (o : Option Nat) : ∀ l : List Nat, closeDs σ o (l.map dU) = some (l.map dU)
  | [] => rfl
  | v :: l => by rw [List.map_cons, closeDs, close_dU σ o l]; rfl
theorem all30 {x : List Nat} (hx : x.length = 30) : List.take 30 (x.map dU) = x.map dU := List.take_of_length_le (by rw [List.length_map]; omega)
theorem gB_get2 {x : List Nat} {i : Nat} (hi : i < x.length) : (x.map dU)[i]? = some (dU (gB x i)) := cell_dU (by rw [gB, List.getD_eq_getElem?_getD, List.getElem?_eq_getElem hi]; rfl)
end Go.Dw.Seat
end
section
set_option linter.unusedSimpArgs false
set_option maxRecDepth 100000
namespace Go.Dw.Seat
open Go Go.Dw Go.Proofs Go.IntWalk
theorem reCopyO (b : Bool) (q : List TStp) (hq : q.length ≤ 1000) (hw : ∀ s ∈ q, s.ws.length ≤ 2 ^ 36) (k : Nat) : DCall Try.prog 60 [dSt b q] [] (.own k) [(k, .row 2 (rowC (rows eSt q)))] := by
  refine DCall.rename (k0 := 5) ?_ k
  refine DCall.of Try.func60 sf60 hb60 (Nat.le_of_ble_eq_true rfl) okRes_row ?_; simp only [s60, o60_0, o60_1, o60_2, o60_3, o60_4, o60_5, o60_6, o60_7, o60_8, o60_9, o60_10, o60_11, o60_12, o60_13, o60_14, o60_15, o60_16, idxs, Nat.reduceAdd]
  repeat' (first
    | (with_reducible first | refine DW.seq ?_ | refine DW.block ?_ | refine DW.skip ?_ | refine DW.exit ?_ | refine DW.ret ?_ | refine DW.reg ?_)
    | (refine DW.ord rfl (WF.of (by first | rfl | simp (disch := omega) only [go_sem, simprocAttr, bm_box, bm_row, bk_box, bk_row])) ?_ ?_ ?_; rotate_left)
    | rfl
    | (with_reducible refine And.intro ?_ ?_)
    | (simp (disch := omega) only [go_sem, simprocAttr, bm_box, bm_row, bk_box, bk_row])
    | (exact retS_of rfl rfl rfl)
    | (refine DW.cond_tt rfl ?_)
    | (refine DW.cond_ff rfl ?_)
    | (refine DW.cond rfl ?_ ?_ <;> intro hc <;> (try simp only [go_sem] at hc))
    | (refine g_split ?_ ?_ <;> intro hc <;> (try simp only [hc]) <;> (try simp only [go_sem] at hc)))
  refine DW.loop (ι := { i : Nat // i ≤ q.length }) (fun i => ⟨29, [(4, dI i.1), (3, .own 5), (0, dSt b q)], [(5, .row 2 (rowC (rows eSt (q.take i.1))))]⟩) (fun i => q.length - i.1) ⟨0, Nat.zero_le _⟩ ?_ ?_
  · refine Ent.to ?_ ?_ <;> simp (disch := omega) only [wkT_cons, wkX_cons, wkT_nil, wkX_nil, get, Nat.reduceEqDiff, ↓reduceIte, ex_some, wk_self, wk_top, wk_nil, wkB_self, and_self, dI, i64_in, and_true, true_and, Int.natCast_add, Int.natCast_one, Int.ofNat_zero, Int.natCast_zero, List.take_zero]
    all_goals first | exact ⟨.refl _, .refl _⟩ | exact .refl _
  rintro ⟨i, hi⟩
  dsimp only
  rcases at_or q i hi with ⟨s, hs, hlt, hd⟩ | ⟨he, hd⟩
  · have hsw := hw s (List.mem_of_getElem? hs)
    have htk : q.take (i + 1) = q.take i ++ [s] := by rw [List.take_add_one, hs]; rfl
    have hlen : (q.take i).length ≤ 1000 := by rw [List.length_take]; omega
    generalize q.take i = Q at *
    repeat' (first
    | (with_reducible first | refine DW.seq ?_ | refine DW.block ?_ | refine DW.skip ?_ | refine DW.exit ?_ | refine DW.ret ?_ | refine DW.reg ?_)
    | (refine DW.ord rfl (WF.of (by first | rfl | simp (disch := omega) only [go_sem, simprocAttr, bm_box, bm_row, bk_box, bk_row, hd, hs, List.map_cons, List.map_nil])) ?_ ?_ ?_; rotate_left)
    | rfl
    | (with_reducible refine And.intro ?_ ?_)
    | (simp (disch := omega) only [go_sem, simprocAttr, bm_box, bm_row, bk_box, bk_row, hd, hs, List.map_cons, List.map_nil])
    | (exact retS_of rfl rfl rfl)
    | (refine DW.cond_tt rfl ?_)
    | (refine DW.cond_ff rfl ?_)
    | (refine DW.cond rfl ?_ ?_ <;> intro hc <;> (try simp only [go_sem] at hc))
    | (refine g_split ?_ ?_ <;> intro hc <;> (try simp only [hc]) <;> (try simp only [go_sem] at hc)))
    refine ⟨⟨i + 1, hlt⟩, by (show _ < _; (try simp only); omega), (Ent.rel 13 rfl).trans ?_⟩; simp (disch := omega) only [go_sem, simprocAttr, bm_box, bm_row, bk_box, bk_row,  htk, rowC_snocS]; refine Ent.to ?_ ?_ <;> (simp (disch := omega) only [wkT_cons, wkX_cons, wkT_nil, wkX_nil, get, Nat.reduceEqDiff, ↓reduceIte, ex_some, wk_self, wk_top, wk_nil, wkB_self, and_self, dI, i64_in, and_true, true_and, Int.natCast_add, Int.natCast_one, Int.ofNat_zero, Int.natCast_zero,  htk, rowC_snocS])
    all_goals first | exact ⟨.refl _, .refl _⟩ | exact .refl _ | skip
  · subst he
    rw [List.take_length]
    repeat' (first
    | (with_reducible first | refine DW.seq ?_ | refine DW.block ?_ | refine DW.skip ?_ | refine DW.exit ?_ | refine DW.ret ?_ | refine DW.reg ?_)
    | (refine DW.ord rfl (WF.of (by first | rfl | simp (disch := omega) only [go_sem, simprocAttr, bm_box, bm_row, bk_box, bk_row, hd])) ?_ ?_ ?_; rotate_left)
    | rfl
    | (with_reducible refine And.intro ?_ ?_)
    | (simp (disch := omega) only [go_sem, simprocAttr, bm_box, bm_row, bk_box, bk_row, hd])
    | (exact retS_of rfl rfl rfl)
    | (refine DW.cond_tt rfl ?_)
    | (refine DW.cond_ff rfl ?_)
    | (refine DW.cond rfl ?_ ?_ <;> intro hc <;> (try simp only [go_sem] at hc))
    | (refine g_split ?_ ?_ <;> intro hc <;> (try simp only [hc]) <;> (try simp only [go_sem] at hc)))
    refine retS_row ?_ ?_ (rowC_nb (rows_nb eSt_nb q)) <;> rfl
theorem laPlansO (b : Bool) (q : List TStp) (hq : q.length ≤ 1000) (hw : ∀ s ∈ q, s.ws.length ≤ 2 ^ 36) (k : Nat) : DCall Try.prog 23 [dSt b q] [] (.own k) [(k, .row 2 (rowC (rows eSt q)))] := by
  refine DCall.rename (k0 := 4) ?_ k
  have h1 := reCopyO b q hq hw 4
  refine DCall.of Try.func23 sf23 hb23 (Nat.le_of_ble_eq_true rfl) okRes_row ?_; simp only [s23, idxs, Nat.reduceAdd]
  repeat' (first
    | (with_reducible first | refine DW.seq ?_ | refine DW.block ?_ | refine DW.skip ?_ | refine DW.exit ?_ | refine DW.ret ?_ | refine DW.reg ?_)
    | (simp (disch := omega) only [go_sem, simprocAttr, bm_box, bm_row, bk_box, bk_row])
    | (exact retS_of rfl rfl rfl)
    | (refine DW.cond_tt rfl ?_)
    | (refine DW.cond_ff rfl ?_)
    | (refine DW.cond rfl ?_ ?_ <;> intro hc <;> (try simp only [go_sem] at hc))
    | (refine g_split ?_ ?_ <;> intro hc <;> (try simp only [hc]) <;> (try simp only [go_sem] at hc)))
  (refine call_r (h1) (by decide) (by first | rfl | simp (disch := omega) only [go_sem, simprocAttr, bm_box, bm_row, bk_box, bk_row]) (by first | rfl | simp (disch := omega) only [go_sem, simprocAttr, bm_box, bm_row, bk_box, bk_row]) ?_; simp (disch := omega) only [go_sem, simprocAttr, bm_box, bm_row, bk_box, bk_row])
  repeat' (first
    | (with_reducible first | refine DW.seq ?_ | refine DW.block ?_ | refine DW.skip ?_ | refine DW.exit ?_ | refine DW.ret ?_ | refine DW.reg ?_)
    | (simp (disch := omega) only [go_sem, simprocAttr, bm_box, bm_row, bk_box, bk_row])
    | (exact retS_of rfl rfl rfl)
    | (refine DW.cond_tt rfl ?_)
    | (refine DW.cond_ff rfl ?_)
    | (refine DW.cond rfl ?_ ?_ <;> intro hc <;> (try simp only [go_sem] at hc))
    | (refine g_split ?_ ?_ <;> intro hc <;> (try simp only [hc]) <;> (try simp only [go_sem] at hc)))
  refine retS_row ?_ ?_ (rowC_nb (rows_nb eSt_nb q)) <;> rfl
theorem Fine.wl {p : TPap} {l : List TOrd} {q : List TStp} (h : Fine p l q) (hl : l.length ≤ 4) : ∀ s ∈ q, s.ws.length ≤ 2 ^ 36 := fun s hs => by
  have := (h.ok s hs).1.len
  omega
set_option maxHeartbeats 8000000 in
theorem laBroken (x : List Nat) (hx : x.length = 30 ∧ AllLt 256 x) (v : List Nat) (hv : v.length = 2 ∧ AllLt 256 v) : DCall Try.prog 14 [.agg ((eN x).map D.c), .agg ((eN v).map D.c)] [] (bD true) [] := by
  rw [eN_dU, eN_dU]
  have hk := laKnown
  have hmd := made_good hx.2
  have c42 := laMade x hx.1 hx.2
  generalize mP x = p at *
  generalize mL x = l at *
  generalize mQ x = q at *
  have hp := hmd.pok
  have hl := hmd.ln
  have hl36 : l.length ≤ 2 ^ 36 := by omega
  have hql := hmd.len
  have hq0 : 0 < q.length := List.length_pos_iff.2 hmd.ne
  have hqw := hmd.fine.wl hl.2
  have h30 := all30 hx.1
  have hx30 : (x.map dU).length = 30 := by rw [List.length_map]; exact hx.1
  have b0 := gB_lt hv.2 0
  have b1 := gB_lt hv.2 1
  have r0 := gB_get2 (x := v) (i := 0) (by omega)
  have r1 := gB_get2 (x := v) (i := 1) (by omega)
  have x0 : IntKind.i64.wrap ((gB v 0 : Nat) : Int) = ((gB v 0 : Nat) : Int) := IntWalk.i64_in _ (by omega)
  have x1 : IntKind.i64.wrap ((gB v 1 : Nat) : Int) = ((gB v 1 : Nat) : Int) := IntWalk.i64_in _ (by omega)
  obtain ⟨n, hnt, hn⟩ : ∃ n : Nat, Int.tmod ((gB v 0 : Nat) : Int) (q.length : Int) = (n : Int) ∧ n < q.length := ⟨gB v 0 % q.length, rfl, Nat.mod_lt _ hq0⟩
  have hqz : ((q.length : Int) = 0) = False := eq_false (by omega)
  obtain ⟨s, hs⟩ := getE (l := q) (i := n) hn
  obtain ⟨hso, hsr⟩ := hmd.fine.ok s (List.mem_of_getElem? hs)
  have hsz : (s.run + 1 = 0) = False := eq_false (by omega)
  have xr : IntKind.i64.wrap (s.run + 1) = s.run + 1 := IntWalk.i64_in _ (by omega)
  obtain ⟨m, hmt, hm⟩ : ∃ m : Int, Int.tmod ((gB v 1 : Nat) : Int) (s.run + 1) = m ∧ (0 ≤ m ∧ m ≤ s.run) := ⟨_, rfl, Int.tmod_nonneg _ (by omega), by have := Int.tmod_lt_of_pos ((gB v 1 : Nat) : Int) (show 0 < s.run + 1 by omega); omega⟩
  have hb := broken hp hl.2 hmd.lo hmd.fine hmd.len hmd.does hs hm
  generalize List.zipWith lessO l (gotF (zeros l.length) (brkF q n s m)) = L at hb
  have hLl := hb.len
  have hL36 : L.length ≤ 2 ^ 36 := by omega
  have cR := trRest p l hl36 q hqw n m
  rw [restD, if_pos hb.rest, hb.rest, hb.restL] at cR
  have c22 := laOwn false l hl36
  have c22L := laOwn false L hL36
  have c23 := laPlans false q (by omega) hqw
  have hdl : (q.drop (n + 1)).length ≤ 3 := by rw [List.length_drop]; omega
  have htl : (q.take n).length ≤ 3 := by rw [List.length_take]; omega
  have c23r := laPlans false (q.drop (n + 1)) (by omega) (fun t ht => hqw t (List.mem_of_mem_drop ht))
  have c16 := laInts false s.ws (by have := hso.len; omega)
  have hpl := fine_plan hp hb.r2 hb.lr hb.does
  have hsp := plan_spec hp hb.ok
  have hop := openE_yes hp (by omega) hb.ok
  have c31 := trPlanX p L hL36
  cases hP : planF p L with
  | none => rw [hP] at hsp; exact absurd hpl (hsp _)
  | some bw =>
  obtain ⟨b, wb⟩ := bw
  rw [hP] at hsp
  rw [planX, if_pos hop, hP] at c31
  dsimp only at c31
  obtain ⟨hbo, hbw, hbb⟩ := hsp
  subst hbw
  have hbf := plan_fine hbo
  have hbn := plan_len hbo
  have hbl := best_le (hbb _ hpl)
  have hbd := hbo.does
  have hat := hb.at'
  have c43b := laGives false false p hp L (by omega) hb.ok b (by omega) hbf
  have c44 := laEnough false false L (gotF (zeros L.length) b) hL36 (by rw [gotF_len]; simp [zeros])
  rw [show doesB L (gotF (zeros L.length) b) = true from hbd] at c44
  have hgb : (gotF (zeros L.length) b).length = l.length := by rw [gotF_len]; simp [zeros, hLl]
  unfold doesP at hbd
  generalize gotF (zeros L.length) b = Gb at *
  have c24 := trGetX p L hL36 (brkR q n s m) (hb.r.wl hl.2)
  rw [getX_fine hp (by omega) hb.ok hb.r2 hb.lr hb.does] at c24
  simp only [doesD] at c24
  have gf : (gotF (zeros l.length) (brkF q n s m)).length = l.length := by rw [gotF_len]; simp [zeros]
  have gr : (gotF (zeros l.length) (brkR q n s m)).length = l.length := by rw [gotF_len]; simp [zeros]
  have hlr := hb.lr
  have hlf := hb.lf
  have wR := hb.r.wl hl.2
  have c43f := fun b2 => laGives false b2 p hp l hl.2 hmd.lo (brkF q n s m) (by omega) hb.f
  have c43r := fun b2 => laGives false b2 p hp l hl.2 hmd.lo (brkR q n s m) (by omega) hb.r
  have c23s := laPlans false (brkR q n s m) (by omega) wR
  have d1 : decide (((brkR q n s m).length : Int) < (b.length : Int)) = false := decide_eq_false (by omega)
  have wrm : IntKind.i64.wrap (s.run - m) = s.run - m := IntWalk.i64_in _ (by omega)
  have hF1 : 0 < m → q.take n ++ [⟨s.ws, m⟩] = brkF q n s m := fun h => by rw [brkF, if_pos h]
  have hF0 : ¬ 0 < m → q.take n = brkF q n s m := fun h => by rw [brkF, if_neg h, List.append_nil]
  have hR1 : m < s.run → ⟨s.ws, s.run - m⟩ :: q.drop (n + 1) = brkR q n s m := fun h => by rw [brkR, if_pos h]; rfl
  have hR0 : ¬ m < s.run → q.drop (n + 1) = brkR q n s m := fun h => by rw [brkR, if_neg h]; rfl
  clear hb hbb hpl hbl
  generalize wasteF p l (brkF q n s m) = W1 at *
  generalize runsI (brkF q n s m) = U1 at *
  generalize wasteF p l (brkR q n s m) = W2 at *
  generalize runsI (brkR q n s m) = U2 at *
  generalize wasteF p L (brkR q n s m) = W3 at *
  generalize gotF (zeros l.length) (brkF q n s m) = G1 at *
  generalize gotF (zeros l.length) (brkR q n s m) = G2 at *
  generalize gotF (zeros L.length) (brkR q n s m) = G3 at *
  generalize brkF q n s m = F at *
  generalize brkR q n s m = R at *
  have hpn : n + 1 ≤ q.length := hn
  by_cases hm0 : 0 < m
  case' pos =>
    have d2 : decide (0 < m) = true := decide_eq_true hm0
    have c23f := laPlansO false (q.take n) (by omega) (fun t ht => hqw t (List.mem_of_mem_take ht)) 80
    have hF := hF1 hm0
    have c43f := c43f true
    have hFs : rowC (rows eSt (q.take n)) ++ [[D.c (.sl false 1 (rows eI s.ws)), D.c (.v (.int .i64 m))]] = rowC (rows eSt F) := by rw [← hF]; simp [rowC, rows, eSt]
  case' neg =>
    have d2 : decide (0 < m) = false := decide_eq_false hm0
    have c23f := laPlans false (q.take n) (by omega) (fun t ht => hqw t (List.mem_of_mem_take ht))
    have hF := hF0 hm0
    have c43f := c43f false
    have hFs := hF
    rw [hF] at c23f
  all_goals
    by_cases hmr : m < s.run
    case' pos =>
      have d3 : decide (m < s.run) = true := decide_eq_true hmr
      have c43r := c43r true
      have hR := hR1 hmr
      have hRs : [D.c (.sl false 1 (rows eI s.ws)), D.c (.v (.int .i64 (s.run - m)))] :: rowC (rows eSt (q.drop (n + 1))) = rowC (rows eSt R) := by rw [← hR]; simp [rowC, rows, eSt]
    case' neg =>
      have d3 : decide (m < s.run) = false := decide_eq_false hmr
      have c43r := c43r false
      have hR := hR0 hmr
      have hRs := hR
      rw [hR] at c23r
    all_goals
      refine DCall.of Try.func14 sf14 hb14 (Nat.le_of_ble_eq_true rfl) (okRes_nil fun _ => rfl) ?_; simp only [s14, idxs, Nat.reduceAdd]
      repeat' (first
    | (with_reducible first | refine DW.seq ?_ | refine DW.block ?_ | refine DW.skip ?_ | refine DW.exit ?_ | refine DW.ret ?_ | refine DW.reg ?_)
    | (refine DW.dreg rfl (WF.of ?_) ?_; first | rfl | skip)
    | (simp (disch := omega) only [go_sem, simprocAttr, bm_box, bm_row, bk_box, bk_row, h30, hx30, List.drop_zero, close_dU, und5, r0, r1, x0, x1, hnt, hqz, hs, hsz, xr, hmt, hLl, List.map_cons, List.map_nil])
    | (exact retS_of rfl rfl rfl)
    | (refine DW.cond_tt rfl ?_)
    | (refine call_c (c42) (by decide) ?_)
    | (refine call_c (c22) (by decide) ?_)
    | (refine call_c (c23) (by decide) ?_)
    | (refine call_c (cR) (by decide) ?_)
    | (refine DW.cond_ff rfl ?_)
    | (refine DW.cond rfl ?_ ?_ <;> intro hc <;> (try simp only [go_sem] at hc))
    | (refine g_split ?_ ?_ <;> intro hc <;> (try simp only [hc]) <;> (try simp only [go_sem] at hc)))
      try (refine call_r (c23f ) (by decide) (by first | rfl | simp (disch := omega) only [go_sem, simprocAttr, bm_box, bm_row, bk_box, bk_row,  List.map_cons, List.map_nil]) (by first | rfl | simp (disch := omega) only [go_sem, simprocAttr, bm_box, bm_row, bk_box, bk_row,  List.map_cons, List.map_nil]) ?_; simp (disch := omega) only [go_sem, simprocAttr, bm_box, bm_row, bk_box, bk_row,  List.map_cons, List.map_nil])
      repeat' (first
    | (with_reducible first | refine DW.seq ?_ | refine DW.block ?_ | refine DW.skip ?_ | refine DW.exit ?_ | refine DW.ret ?_ | refine DW.reg ?_)
    | (refine DW.dreg rfl (WF.of ?_) ?_; first | rfl | skip)
    | (simp (disch := omega) only [go_sem, simprocAttr, bm_box, bm_row, bk_box, bk_row, hs, d2, d3, hFs, hRs, wrm, hLl, List.map_cons, List.map_nil, List.cons_append, List.nil_append])
    | (exact retS_of rfl rfl rfl)
    | (refine DW.cond_tt rfl ?_)
    | (refine call_c (c23f) (by decide) ?_)
    | (refine call_c (c23r) (by decide) ?_)
    | (refine call_c (c16) (by decide) ?_)
    | (refine call_c (c43f) (by decide) ?_)
    | (refine call_c (c43r) (by decide) ?_)
    | (refine DW.cond_ff rfl ?_)
    | (refine DW.cond rfl ?_ ?_ <;> intro hc <;> (try simp only [go_sem] at hc))
    | (refine g_split ?_ ?_ <;> intro hc <;> (try simp only [hc]) <;> (try simp only [go_sem] at hc)))
      first | (refine DW.ent (Ent.rel 119 rfl) ?_; simp (disch := omega) only [go_sem, simprocAttr, bm_box, bm_row, bk_box, bk_row]) | skip
      refine DW.loop (ι := { i : Nat // i ≤ l.length }) (fun i => ⟨300, [(22, dI i.1), (18, dIs false G2), (14, dIs false G1), (13, dSt false R), (10, .c (.sl false 3 (rows eO L))), (6, .c (.sl false 3 (rows eO l))), (5, .box 5 0)], [(5, .box [dI p.wide, dI p.tl, dI p.th, dI p.webs])]⟩) (fun i => l.length - i.1) ⟨0, Nat.zero_le _⟩ ?_ ?_
      · refine Ent.to ?_ ?_ <;> simp (disch := omega) only [wkT_cons, wkX_cons, wkT_nil, wkX_nil, get, Nat.reduceEqDiff, ↓reduceIte, ex_some, wk_self, wk_top, wk_nil, wkB_self, and_self, dI, i64_in, and_true, true_and, Int.natCast_add, Int.natCast_one, Int.ofNat_zero, Int.natCast_zero]
        all_goals first | exact ⟨.refl _, .refl _, .refl _⟩ | exact ⟨.refl _, .refl _⟩ | exact .refl _
      rintro ⟨i, hi⟩
      dsimp only
      rcases at_or l i hi with ⟨o, ho, hlt, hd⟩ | ⟨he, hd⟩
      · obtain ⟨g, y, g1, g2, g3, g4, g5, g6⟩ := hat i o ho
        have hA : 0 ≤ max 0 (o.lo - g) := by omega
        have hB : o.hi - g ≤ 100 := by omega
        generalize max 0 (o.lo - g) = A at *
        generalize o.hi - g = B at *
        have e1 : (o.w != o.w) = false := by simp
        have e2 : decide (A < 0) = false := decide_eq_false (by omega)
        have e3 : decide (B < A) = false := decide_eq_false (by omega)
        have e4 : decide (100 < B) = false := decide_eq_false (by omega)
        have e5 : decide (y < A) = false := decide_eq_false (by omega)
        have e6 : decide (B < y) = false := decide_eq_false (by omega)
        repeat' (first
    | (with_reducible first | refine DW.seq ?_ | refine DW.block ?_ | refine DW.skip ?_ | refine DW.exit ?_ | refine DW.ret ?_ | refine DW.reg ?_)
    | (refine DW.dreg rfl (WF.of ?_) ?_; first | rfl | skip)
    | (simp (disch := omega) only [go_sem, simprocAttr, bm_box, bm_row, bk_box, bk_row, hd, ho, g2, g3, e1, e2, e3, e4, e5, e6, List.map_cons, List.map_nil])
    | (exact retS_of rfl rfl rfl)
    | (refine DW.cond_tt rfl ?_)
    | (refine DW.cond_ff rfl ?_)
    | (refine DW.cond rfl ?_ ?_ <;> intro hc <;> (try simp only [go_sem] at hc))
    | (refine g_split ?_ ?_ <;> intro hc <;> (try simp only [hc]) <;> (try simp only [go_sem] at hc)))
        refine ⟨⟨i + 1, hlt⟩, ?_, Ent.to ?_ ?_⟩ <;> first | (show _ < _; (try simp only); omega) | (simp (disch := omega) only [wkT_cons, wkX_cons, wkT_nil, wkX_nil, get, Nat.reduceEqDiff, ↓reduceIte, ex_some, wk_self, wk_top, wk_nil, wkB_self, and_self, dI, i64_in, and_true, true_and, Int.natCast_add, Int.natCast_one, Int.ofNat_zero, Int.natCast_zero])
        all_goals first | exact ⟨.refl _, .refl _, .refl _⟩ | exact ⟨.refl _, .refl _⟩ | exact .refl _
      · repeat' (first
    | (with_reducible first | refine DW.seq ?_ | refine DW.block ?_ | refine DW.skip ?_ | refine DW.exit ?_ | refine DW.ret ?_ | refine DW.reg ?_)
    | (refine DW.dreg rfl (WF.of ?_) ?_; first | rfl | skip)
    | (simp (disch := omega) only [go_sem, simprocAttr, bm_box, bm_row, bk_box, bk_row, hd, d1])
    | (exact retS_of rfl rfl rfl)
    | (refine DW.cond_tt rfl ?_)
    | (refine call_c (c22L) (by decide) ?_)
    | (refine call_c (c23s) (by decide) ?_)
    | (refine call_c (c24) (by decide) ?_)
    | (refine call_c (c31) (by decide) ?_)
    | (refine call_c (c43b) (by decide) ?_)
    | (refine call_c (c44) (by decide) ?_)
    | (refine DW.cond_ff rfl ?_)
    | (refine DW.cond rfl ?_ ?_ <;> intro hc <;> (try simp only [go_sem] at hc))
    | (refine g_split ?_ ?_ <;> intro hc <;> (try simp only [hc]) <;> (try simp only [go_sem] at hc)))
        refine DW.loop (ι := { i : Nat // i ≤ l.length }) (fun i => ⟨300, [(33, dI i.1), (29, dIs false Gb), (14, dIs false G1), (6, .c (.sl false 3 (rows eO l)))], []⟩) (fun i => l.length - i.1) ⟨0, Nat.zero_le _⟩ ?_ ?_
        · refine Ent.to ?_ ?_ <;> simp (disch := omega) only [wkT_cons, wkX_cons, wkT_nil, wkX_nil, get, Nat.reduceEqDiff, ↓reduceIte, ex_some, wk_self, wk_top, wk_nil, wkB_self, and_self, dI, i64_in, and_true, true_and, Int.natCast_add, Int.natCast_one, Int.ofNat_zero, Int.natCast_zero]
          all_goals first | exact ⟨.refl _, .refl _, .refl _⟩ | exact ⟨.refl _, .refl _⟩ | exact .refl _
        rintro ⟨j, hj⟩
        dsimp only
        rcases at_or l j hj with ⟨o, ho, hltj, hdj⟩ | ⟨hej, hdj⟩
        · obtain ⟨g, y, g1, g2, g3, g4, g5, g6⟩ := hat j o ho
          obtain ⟨z, hz⟩ := getE (l := Gb) (i := j) (by omega)
          have hzb := does_at hbd g3 hz
          dsimp only at hzb
          have wz : IntKind.i64.wrap (g + z) = g + z := IntWalk.i64_in _ (by omega)
          have e1 : decide (g + z < o.lo) = false := decide_eq_false (by omega)
          have e2 : decide (o.hi < g + z) = false := decide_eq_false (by omega)
          repeat' (first
    | (with_reducible first | refine DW.seq ?_ | refine DW.block ?_ | refine DW.skip ?_ | refine DW.exit ?_ | refine DW.ret ?_ | refine DW.reg ?_)
    | (refine DW.dreg rfl (WF.of ?_) ?_; first | rfl | skip)
    | (simp (disch := omega) only [go_sem, simprocAttr, bm_box, bm_row, bk_box, bk_row, hdj, ho, g1, hz, wz, e1, e2, List.map_cons, List.map_nil])
    | (exact retS_of rfl rfl rfl)
    | (refine DW.cond_tt rfl ?_)
    | (refine DW.cond_ff rfl ?_)
    | (refine DW.cond rfl ?_ ?_ <;> intro hc <;> (try simp only [go_sem] at hc))
    | (refine g_split ?_ ?_ <;> intro hc <;> (try simp only [hc]) <;> (try simp only [go_sem] at hc)))
          refine ⟨⟨j + 1, hltj⟩, ?_, Ent.to ?_ ?_⟩ <;> first | (show _ < _; (try simp only); omega) | (simp (disch := omega) only [wkT_cons, wkX_cons, wkT_nil, wkX_nil, get, Nat.reduceEqDiff, ↓reduceIte, ex_some, wk_self, wk_top, wk_nil, wkB_self, and_self, dI, i64_in, and_true, true_and, Int.natCast_add, Int.natCast_one, Int.ofNat_zero, Int.natCast_zero])
          all_goals first | exact ⟨.refl _, .refl _, .refl _⟩ | exact ⟨.refl _, .refl _⟩ | exact .refl _
        · repeat' (first
    | (with_reducible first | refine DW.seq ?_ | refine DW.block ?_ | refine DW.skip ?_ | refine DW.exit ?_ | refine DW.ret ?_ | refine DW.reg ?_)
    | (refine DW.dreg rfl (WF.of ?_) ?_; first | rfl | skip)
    | (simp (disch := omega) only [go_sem, simprocAttr, bm_box, bm_row, bk_box, bk_row, hdj])
    | (exact retS_of rfl rfl rfl)
    | (refine DW.cond_tt rfl ?_)
    | (refine call_c (hk) (by decide) ?_)
    | (refine DW.cond_ff rfl ?_)
    | (refine DW.cond rfl ?_ ?_ <;> intro hc <;> (try simp only [go_sem] at hc))
    | (refine g_split ?_ ?_ <;> intro hc <;> (try simp only [hc]) <;> (try simp only [go_sem] at hc)))
end Go.Dw.Seat
end
section
set_option linter.unusedSimpArgs false
set_option maxRecDepth 100000
namespace Go.Dw.Seat
open Go Go.Dw Go.Proofs Go.ChangeShapes Go.WideShapes Go.ChangeAt Go.RowKit
set_option maxHeartbeats 800000 in
theorem trimBrokenLifted (os : Os) (started : os.Started) (H : Type) (enc : TypeId × Value → H) :
    ReturnsInHanded {} Try.checked os 14 .any (Ytkhicfkfdmldkaa.Rows.trimBrokenSpec.pre6 enc Try.prog Try.f14 Ytkhicfkfdmldkaa.Rows.trimBrokenRow.domain false) (Ytkhicfkfdmldkaa.Rows.trimBrokenSpec.post enc Try.prog Try.f14 false true false false) := by
  refine returnsInHanded_of_change (C := Try.checked) tOwn started (by kernel_rfl) Try.func14
    (ChangeSpec.witness6 (enc := enc) (C := Try.checked) false ⟨#[], #[.agg #[.int .u8 0, .int .u8 0, .int .u8 0, .int .u8 0, .int .u8 0, .int .u8 0, .int .u8 0, .int .u8 0, .int .u8 0, .int .u8 0, .int .u8 0, .int .u8 0, .int .u8 0, .int .u8 0, .int .u8 0, .int .u8 0, .int .u8 0, .int .u8 0, .int .u8 0, .int .u8 0, .int .u8 0, .int .u8 0, .int .u8 0, .int .u8 0, .int .u8 0, .int .u8 0, .int .u8 0, .int .u8 0, .int .u8 0, .int .u8 0], .agg #[.int .u8 0, .int .u8 0]], []⟩ 8 (by kernel_rfl) (by kernel_rfl) (by kernel_rfl) (by kernel_rfl)) ?_
  intro W base args ds gs before hval0 hW _ _
  have hval : ∀ (j : Nat) t v, Try.f14.params[j]? = some t → args[j]? = some v → Value.okWide Try.prog W .any base t v := hval0
  have hW' : DataW.Whole enc Try.prog Try.f14.params.toList [] false W args.toList ds gs before := hW
  obtain ⟨p, q, hA, hV, rfl, hfz, hnd⟩ := hW
  have hA : DataW.TrodAll enc Try.prog W 0 (fun _ => true) true [78, 75] args.toList ds p := hA
  obtain ⟨rfl, rfl⟩ := trodVars_none hV
  obtain ⟨v0, vs0, d0, ds0, p0, q0, hargs, rfl, rfl, h0, r0⟩ := trodAll_cons hA
  obtain ⟨v1, vs1, d1, ds1, p1, q1, rfl, rfl, rfl, h1, r1⟩ := trodAll_cons r0
  obtain ⟨rfl, rfl, rfl⟩ := trodAll_nil r1
  obtain rfl : args = #[v0, v1] := by cases args; simp_all
  obtain ⟨f0, hu0, _⟩ := structIs_spec u78
  obtain ⟨c0, rfl, _⟩ := okWide_struct hu0 (hval 0 78 v0 rfl rfl)
  obtain ⟨c1, rfl, _⟩ := okWide_array u75 (hval 1 75 v1 rfl rfl)
  obtain ⟨fu0, h0⟩ := h0
  obtain ⟨fu1, h1⟩ := h1
  obtain ⟨s0, ho0, e0⟩ := rd_Shift h0
  have hr0 : RepVs W A0 (eN s0) c0.toList := by
    have e : c0.toList = bV s0 := by simpa [Value.cells] using e0
    rw [e]; exact rep_bytes s0
  obtain ⟨s1, ho1, e1⟩ := rd_A2 h1
  have hr1 : RepVs W A0 (eN s1) c1.toList := by
    have e : c1.toList = bV s1 := by simpa [Value.cells] using e1
    rw [e]; exact rep_bytes s1
  refine ((laBroken s0 ho0 s1 ho1).calls (W := W) (vs := [.agg c0, .agg c1]) (laid0 W) (fun G => ?_)).mono ?_
  · exact ⟨_, _, rfl, ⟨c0, rfl, RepDs.ofVs hr0⟩, _, _, rfl, ⟨c1, rfl, RepDs.ofVs hr1⟩, rfl⟩
  · rintro e W' ⟨v, rfl, ⟨G', A', hr⟩, hb⟩
    obtain ⟨rfl, _⟩ := hr
    exact ⟨_, rfl, post_true tLaid (by decide +kernel) hW' hb rfl rfl u4 rfl rfl rfl⟩
theorem trimBrokenHolds : Ytkhicfkfdmldkaa.Rows.trimBrokenRow.holds Ytkhicfkfdmldkaa.Try.pinned (OpenSpec.ofChange Ytkhicfkfdmldkaa.Rows.trimBrokenSpec) :=
  OpenClaim.holds_of_wide 14 Try.f14 rfl rfl rfl rfl rfl rfl rfl ⟨rfl, rfl, rfl, rfl, rfl⟩ rfl rfl rfl rfl rfl (by kernel_rfl) Try.func14 (by kernel_rfl)
    (of_decide_eq_true (by kernel_rfl)) (by unfold Func.isWrapper; first | (rw [if_pos (by decide +kernel)]; kernel_rfl) | (rw [if_neg (by decide +kernel)]; exact ⟨rfl, rfl⟩))
    (fun os started H enc _ => trimBrokenLifted os started H enc)
end Go.Dw.Seat
namespace Go.Proofs.Ytkhicfkfdmldkaa
theorem trimBrokenSaid : Rows.TrimBrokenSaid := Go.Dw.Seat.trimBrokenHolds
end Go.Proofs.Ytkhicfkfdmldkaa
end
