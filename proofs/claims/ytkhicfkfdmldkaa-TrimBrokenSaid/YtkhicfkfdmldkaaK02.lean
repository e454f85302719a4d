/- Helpers of a proof. -/
import Derived.Test.YtkhicfkfdmldkaaK01
import Derived.Test.YtkhicfkfdmldkaaRows
import Derived.ProofKit
import Derived.OpenShut
set_option linter.unusedVariables false
set_option linter.unusedSimpArgs false
section
set_option linter.unusedSimpArgs false
set_option maxRecDepth 100000
namespace Go.Dw.Seat
open Go Go.Dw Go.Proofs Go.IntWalk
theorem WsOk.ws4 {p : TPap} (hp : p.ok) {l : List TOrd} {ws : List Int} (h : WsOk p l ws) : Ws4 l ws := by
  refine ⟨h.len, fun n hn => ⟨h.nn n hn, ?_⟩⟩
  have h1 := (patB_b h.pat).1.2
  have h2 := hp.webs
  have : ∀ ws : List Int, (∀ n ∈ ws, 0 ≤ n) → ∀ n ∈ ws, n ≤ sumI ws := by
    intro ws
    induction ws with
    | nil => intro _ n hn; cases hn
    | cons a ws ih =>
      intro h n hn
      have h3 := sum_nn ws (fun x hx => h x (by simp [hx]))
      have h4 := h a (by simp)
      rw [sumI]
      rcases List.mem_cons.1 hn with rfl | hn
      · omega
      · have := ih (fun x hx => h x (by simp [hx])) n hn
        omega
  have := this ws h.nn n hn
  omega
theorem rows_snocS (q : List TStp) (ws : List Int) (r : Int) : rows eSt q ++ [[C.sl false 1 (rows eI ws), C.v (.int .i64 r)]] = rows eSt (q ++ [⟨ws, r⟩]) := by simp [rows, eSt]
theorem shut2 (ws : List Int) (r : Int) : shutEs [[D.c (.sl false 1 (rows eI ws)), D.c (.v (.int .i64 r))]] = some [[C.sl false 1 (rows eI ws), C.v (.int .i64 r)]] := rfl
theorem room_hi : ∀ (one : Bool) (l : List TOrd) (got ws : List Int) (lo hi : Int), 0 ≤ hi → (roomF one l got ws lo hi).2 ≤ hi
  | _, [], _, _, _, _, _ => by simp [roomF]
  | _, _ :: _, [], _, _, _, _ => by simp [roomF]
  | _, _ :: _, _ :: _, [], _, _, _ => by simp [roomF]
  | one, o :: l, g :: got, n :: ws, lo, hi, h => by
    have key : ∀ (l : List TOrd) (got ws : List Int) (lo hi' : Int), hi' ≤ hi → (roomF one l got ws lo hi').2 ≤ hi := by
      intro l
      induction l with
      | nil => intro got ws lo hi' h; simpa [roomF] using h
      | cons o l ih =>
        intro got ws lo hi' h'
        cases got with
        | nil => simpa [roomF] using h'
        | cons g got =>
          cases ws with
          | nil => simpa [roomF] using h'
          | cons n ws =>
            rw [roomF]
            split
            · exact ih _ _ _ _ (by rw [min2_eq]; omega)
            · split
              · exact h
              · exact ih _ _ _ _ h'
    exact key _ _ _ _ _ (Int.le_refl _)
theorem room_lo1 (one : Bool) (l : List TOrd) (got ws : List Int) (hi : Int) : 1 ≤ (roomF one l got ws 1 hi).1 := by
  cases one with
  | true => exact room_lo l got ws 1 hi (Int.le_refl _)
  | false =>
    have key : ∀ (l : List TOrd) (got ws : List Int) (hi : Int), 1 ≤ (roomF false l got ws 1 hi).1 := by
      intro l
      induction l with
      | nil => intro _ _ _; simp [roomF]
      | cons o l ih =>
        intro got ws hi
        cases got with
        | nil => simp [roomF]
        | cons g got =>
          cases ws with
          | nil => simp [roomF]
          | cons n ws =>
            rw [roomF]
            split
            · exact ih _ _ _
            · split
              · exact Int.le_refl _
              · exact ih _ _ _
    exact key _ _ _ _
theorem srRet (lm : Nat) (p : TPap) (l : List TOrd) (P : List (List Int)) (S : Srch) {σ : St} {e : Exit} (he : e = .ret ∨ e = .normal) (h : get 14 σ.bx = some (.pbox lm (srC p l P S))) : retS Try.prog [] noneR [srB lm p l P S] e σ :=
  ⟨he, σ, [], Ent.refl _, rfl, .refl _, rfl, fun j x hj => by
    obtain ⟨rfl, rfl, hn⟩ := srB_nb lm p l P S hj
    exact ⟨h, hn⟩⟩
set_option maxHeartbeats 4000000 in
theorem trTryS (p : TPap) (hp : p.ok) (l : List TOrd) (hl : l.length ≤ 4) (ho : ∀ o ∈ l, o.ok) (P : List (List Int)) (hP : ∀ ws ∈ P, WsOk p l ws) (hPl : P.length ≤ 625) (m : Nat) (ih : TryC p l P m) : TryC p l P (m + 1) := by
  intro lm b2 i plan waste got S hi hpl hw hg hgb
  refine DCall.of Try.func94 sf94 hb94 (Nat.le_of_ble_eq_true rfl) (srB_ok _ (fun _ => rfl) _ _ _ _ _) ?_
  simp only [s94, o94_0, o94_1, o94_2, o94_3, o94_4, o94_5, o94_6, o94_7, o94_8, o94_9, o94_10, o94_11, o94_12, o94_13, o94_14, o94_15, o94_16, o94_17, o94_18, o94_19, o94_20, o94_21, o94_22, o94_23, idxs, Nat.reduceAdd]
  obtain ⟨M, hM⟩ : ∃ M : Int, M = ((m + 1 : Nat) : Int) := ⟨_, rfl⟩
  rw [← hM]
  have d0 : decide ((0 : Int) < M) = true := decide_eq_true (by omega)
  have e0 : (M == 0) = false := by rw [beq_eq_false_iff_ne]; omega
  have sM : M - 1 = (m : Int) := by omega
  have e1 : (M == 1) = decide (m = 0) := by rw [Bool.eq_iff_iff, beq_iff_eq, decide_eq_true_eq]; omega
  rw [tryF]
  obtain ⟨B, w, F⟩ := S
  dsimp only
  cases hF : (F && decide (w ≤ waste)) with
  | true =>
    simp only [Bool.and_eq_true] at hF
    obtain ⟨rfl, hx⟩ := hF
    rw [if_pos rfl]
    repeat' (first
    | (with_reducible first | refine DW.seq ?_ | refine DW.block ?_ | refine DW.skip ?_ | refine DW.exit ?_ | refine DW.ret ?_ | refine DW.reg ?_)
    | (refine DW.ord rfl (WF.of (by first | rfl | simp (disch := omega) only [go_sem, simprocAttr, bm_box, bm_row, bk_box, bk_row, d0, hx])) ?_ ?_ ?_; rotate_left)
    | rfl
    | (with_reducible refine And.intro ?_ ?_)
    | (simp (disch := omega) only [go_sem, simprocAttr, bm_box, bm_row, bk_box, bk_row, d0, hx])
    | (exact retS_of rfl rfl rfl)
    | (refine DW.cond_tt rfl ?_)
    | (refine DW.cond_ff rfl ?_)
    | (refine DW.cond rfl ?_ ?_ <;> intro hc <;> (try simp only [go_sem] at hc))
    | (refine g_split ?_ ?_ <;> intro hc <;> (try simp only [hc]) <;> (try simp only [go_sem] at hc)))
    exact srRet lm p l P ⟨B, w, true⟩ (.inl rfl) rfl
  | false =>
    rw [if_neg (by decide)]
    generalize hR : loopF (tryF p l m) (decide (m = 0)) p l plan waste got (P.drop i) ⟨B, w, F⟩ = R
    have hcut : ∀ Q : Prop, (F = false → Q) → (F = true → decide (w ≤ waste) = false → Q) → Q := fun Q h1 h2 => by
      cases F with
      | false => exact h1 rfl
      | true => exact h2 rfl (by simpa using hF)
    refine DW.cut ⟨134, [(0, srD lm), (1, dSt false plan), (2, dI i), (3, dI M), (4, dI waste), (5, dIs b2 got)], [srB lm p l P ⟨B, w, F⟩]⟩ ?_ ?_
    · refine hcut _ (fun hf => ?_) (fun hf hx => ?_)
      · subst hf
        repeat' (first
    | (with_reducible first | refine DW.seq ?_ | refine DW.block ?_ | refine DW.skip ?_ | refine DW.exit ?_ | refine DW.ret ?_ | refine DW.reg ?_)
    | (refine DW.ord rfl (WF.of (by first | rfl | simp (disch := omega) only [go_sem, simprocAttr, bm_box, bm_row, bk_box, bk_row, d0])) ?_ ?_ ?_; rotate_left)
    | rfl
    | (with_reducible refine And.intro ?_ ?_)
    | (simp (disch := omega) only [go_sem, simprocAttr, bm_box, bm_row, bk_box, bk_row, d0])
    | (exact retS_of rfl rfl rfl)
    | (refine DW.cond_tt rfl ?_)
    | (refine DW.cond_ff rfl ?_)
    | (refine DW.cond rfl ?_ ?_ <;> intro hc <;> (try simp only [go_sem] at hc))
    | (refine g_split ?_ ?_ <;> intro hc <;> (try simp only [hc]) <;> (try simp only [go_sem] at hc)))
        refine Ent.to ?_ ?_ <;> simp (disch := omega) only [wkT_cons, wkX_cons, wkT_nil, wkX_nil, get, Nat.reduceEqDiff, ↓reduceIte, ex_some, wk_self, wk_top, wk_nil, wkB_self, and_self, dI, i64_in, and_true, true_and, Int.natCast_add, Int.natCast_one, Int.ofNat_zero, Int.natCast_zero]
        all_goals first | exact ⟨.refl _, .refl _⟩ | exact .refl _
      · subst hf
        repeat' (first
    | (with_reducible first | refine DW.seq ?_ | refine DW.block ?_ | refine DW.skip ?_ | refine DW.exit ?_ | refine DW.ret ?_ | refine DW.reg ?_)
    | (refine DW.ord rfl (WF.of (by first | rfl | simp (disch := omega) only [go_sem, simprocAttr, bm_box, bm_row, bk_box, bk_row, d0, hx])) ?_ ?_ ?_; rotate_left)
    | rfl
    | (with_reducible refine And.intro ?_ ?_)
    | (simp (disch := omega) only [go_sem, simprocAttr, bm_box, bm_row, bk_box, bk_row, d0, hx])
    | (exact retS_of rfl rfl rfl)
    | (refine DW.cond_tt rfl ?_)
    | (refine DW.cond_ff rfl ?_)
    | (refine DW.cond rfl ?_ ?_ <;> intro hc <;> (try simp only [go_sem] at hc))
    | (refine g_split ?_ ?_ <;> intro hc <;> (try simp only [hc]) <;> (try simp only [go_sem] at hc)))
        refine Ent.to ?_ ?_ <;> simp (disch := omega) only [wkT_cons, wkX_cons, wkT_nil, wkX_nil, get, Nat.reduceEqDiff, ↓reduceIte, ex_some, wk_self, wk_top, wk_nil, wkB_self, and_self, dI, i64_in, and_true, true_and, Int.natCast_add, Int.natCast_one, Int.ofNat_zero, Int.natCast_zero]
        all_goals first | exact ⟨.refl _, .refl _⟩ | exact .refl _
    repeat' (first
    | (with_reducible first | refine DW.seq ?_ | refine DW.block ?_ | refine DW.skip ?_ | refine DW.exit ?_ | refine DW.ret ?_ | refine DW.reg ?_)
    | (refine DW.ord rfl (WF.of (by first | rfl | simp (disch := omega) only [go_sem, simprocAttr, bm_box, bm_row, bk_box, bk_row, e0])) ?_ ?_ ?_; rotate_left)
    | rfl
    | (with_reducible refine And.intro ?_ ?_)
    | (simp (disch := omega) only [go_sem, simprocAttr, bm_box, bm_row, bk_box, bk_row, e0])
    | (exact retS_of rfl rfl rfl)
    | (refine DW.cond_tt rfl ?_)
    | (refine DW.cond_ff rfl ?_)
    | (refine DW.cond rfl ?_ ?_ <;> intro hc <;> (try simp only [go_sem] at hc))
    | (refine g_split ?_ ?_ <;> intro hc <;> (try simp only [hc]) <;> (try simp only [go_sem] at hc)))
    refine DW.loop (ι := { y : Nat × Srch // y.1 ≤ P.length ∧ loopF (tryF p l m) (decide (m = 0)) p l plan waste got (P.drop y.1) y.2 = R }) (fun y => ⟨134, [(12, dI y.1.1), (0, srD lm), (1, dSt false plan), (3, dI M), (4, dI waste), (5, dIs b2 got)], [srB lm p l P y.1.2]⟩) (fun y => P.length - y.1.1) ⟨(i, ⟨B, w, F⟩), hi, hR⟩ ?_ ?_
    · refine Ent.to ?_ ?_ <;> simp (disch := omega) only [wkT_cons, wkX_cons, wkT_nil, wkX_nil, get, Nat.reduceEqDiff, ↓reduceIte, ex_some, wk_self, wk_top, wk_nil, wkB_self, and_self, dI, i64_in, and_true, true_and, Int.natCast_add, Int.natCast_one, Int.ofNat_zero, Int.natCast_zero]
      all_goals first | exact ⟨.refl _, .refl _⟩ | exact .refl _
    clear hR hcut hF
    rintro ⟨⟨j, S⟩, hj, hR⟩
    dsimp only at hj hR ⊢
    rcases at_or P j hj with ⟨ws, hws, hlt, hd⟩ | ⟨he, hd⟩
    case inr =>
      rw [List.drop_eq_nil_of_le (by omega), loopF] at hR
      subst hR
      repeat' (first
    | (with_reducible first | refine DW.seq ?_ | refine DW.block ?_ | refine DW.skip ?_ | refine DW.exit ?_ | refine DW.ret ?_ | refine DW.reg ?_)
    | (refine DW.ord rfl (WF.of (by first | rfl | simp (disch := omega) only [go_sem, simprocAttr, bm_box, bm_row, bk_box, bk_row, hd])) ?_ ?_ ?_; rotate_left)
    | rfl
    | (with_reducible refine And.intro ?_ ?_)
    | (simp (disch := omega) only [go_sem, simprocAttr, bm_box, bm_row, bk_box, bk_row, hd])
    | (exact retS_of rfl rfl rfl)
    | (refine DW.cond_tt rfl ?_)
    | (refine DW.cond_ff rfl ?_)
    | (refine DW.cond rfl ?_ ?_ <;> intro hc <;> (try simp only [go_sem] at hc))
    | (refine g_split ?_ ?_ <;> intro hc <;> (try simp only [hc]) <;> (try simp only [go_sem] at hc)))
      exact srRet lm p l P S (.inr rfl) rfl
    have hwo := hP ws (List.mem_of_getElem? hws)
    have hw4 := hwo.ws4 hp
    have hdr : P.drop j = ws :: P.drop (j + 1) := by rw [List.drop_eq_getElem_cons hlt, (List.getElem_eq_iff hlt).2 hws]
    rw [hdr, loopF] at hR
    have hroom := trRoom b2 false (decide (m = 0)) lm p l hl ho P S got hg (fun v hv => by have := hgb v hv; omega) ws hw4
    have hlo := room_lo1 (decide (m = 0)) l got ws 30
    have hhi := room_hi (decide (m = 0)) l got ws 1 30 (by decide)
    generalize roomF (decide (m = 0)) l got ws 1 30 = RM at *
    obtain ⟨lo, hi⟩ := RM
    dsimp only at hroom hlo hhi hR
    repeat' (first
    | (with_reducible first | refine DW.seq ?_ | refine DW.block ?_ | refine DW.skip ?_ | refine DW.exit ?_ | refine DW.ret ?_ | refine DW.reg ?_)
    | (refine DW.ord rfl (WF.of (by first | rfl | simp (disch := omega) only [go_sem, simprocAttr, bm_box, bm_row, bk_box, bk_row, hd, hws, e1, List.map_cons, List.map_nil])) ?_ ?_ ?_; rotate_left)
    | rfl
    | (with_reducible refine And.intro ?_ ?_)
    | (simp (disch := omega) only [go_sem, simprocAttr, bm_box, bm_row, bk_box, bk_row, hd, hws, e1, List.map_cons, List.map_nil])
    | (exact retS_of rfl rfl rfl)
    | (refine DW.cond_tt rfl ?_)
    | (refine DW.cond_ff rfl ?_)
    | (refine DW.cond rfl ?_ ?_ <;> intro hc <;> (try simp only [go_sem] at hc))
    | (refine g_split ?_ ?_ <;> intro hc <;> (try simp only [hc]) <;> (try simp only [go_sem] at hc)))
    refine call_hk 14 hroom rfl rfl rfl (by simp (disch := omega) only [go_sem, simprocAttr, bm_box, bm_row, bk_box, bk_row, del]) (by decide) ?_
    simp (disch := omega) only [go_sem, simprocAttr, bm_box, bm_row, bk_box, bk_row, List.map_cons, List.map_nil, del]
    repeat' (first
    | (with_reducible first | refine DW.seq ?_ | refine DW.block ?_ | refine DW.skip ?_ | refine DW.exit ?_ | refine DW.ret ?_ | refine DW.reg ?_)
    | (refine DW.ord rfl (WF.of (by first | rfl | simp (disch := omega) only [go_sem, simprocAttr, bm_box, bm_row, bk_box, bk_row, List.map_cons, List.map_nil])) ?_ ?_ ?_; rotate_left)
    | rfl
    | (with_reducible refine And.intro ?_ ?_)
    | (simp (disch := omega) only [go_sem, simprocAttr, bm_box, bm_row, bk_box, bk_row, List.map_cons, List.map_nil])
    | (exact retS_of rfl rfl rfl)
    | (refine DW.cond_tt rfl ?_)
    | (refine DW.cond_ff rfl ?_)
    | (refine DW.cond rfl ?_ ?_ <;> intro hc <;> (try simp only [go_sem] at hc))
    | (refine g_split ?_ ?_ <;> intro hc <;> (try simp only [hc]) <;> (try simp only [go_sem] at hc)))
    have hpb := patB_b hwo.pat
    have hpt := hp.trim
    have htr := trTrim false false p hp l hl ho ws hw4
    have hcl := trClipS plan
    generalize hT : trimI p l ws = T at *
    rcases m with _ | m
    ·
      rw [decide_eq_true rfl] at *
      refine DW.loop (ι := Unit) (fun _ => ⟨134, [(14, dI lo), (13, .box 13 0), (12, dI j), (0, srD lm), (1, dSt false plan), (3, dI M), (4, dI waste), (5, dIs b2 got)], [srB lm p l P S, (13, .box [dI lo, dI hi])]⟩) (fun _ => 0) () ?_ ?_
      · refine Ent.to ?_ ?_ <;> simp (disch := omega) only [wkT_cons, wkX_cons, wkT_nil, wkX_nil, get, Nat.reduceEqDiff, ↓reduceIte, ex_some, wk_self, wk_top, wk_nil, wkB_self, and_self, dI, i64_in, and_true, true_and, Int.natCast_add, Int.natCast_one, Int.ofNat_zero, Int.natCast_zero]
        all_goals first | exact ⟨.refl _, .refl _⟩ | exact .refl _
      rintro ⟨⟩
      by_cases hc : lo ≤ hi
      · have hdc : decide (lo ≤ hi) = true := decide_eq_true hc
        have m1 : 0 ≤ T * lo := Int.mul_nonneg (by omega) (by omega)
        have m2 : T * lo ≤ 3000 * lo := Int.mul_le_mul_of_nonneg_right (by omega) (by omega)
        have had := trAdd b2 false got ws lo (fun v hv => by have := hgb v hv; omega) (by omega) (by have := hwo.len; omega) hw4.b (by omega)
        have hgb2 := addG_b hgb hw4.b (show 0 ≤ lo by omega)
        have hgl2 : (addG got ws lo).length = l.length := by rw [addG_len]; exact hg
        have w1 : IntKind.i64.wrap (T * lo) = T * lo := IntWalk.i64_in _ (by omega)
        have w2 : IntKind.i64.wrap (waste + T * lo) = waste + T * lo := IntWalk.i64_in _ (by omega)
        have hrec := ih lm false (j + 1) (plan ++ [⟨ws, lo⟩]) (waste + T * lo) (addG got ws lo) S hlt (by simp; omega) (by simp only [List.length_append, List.length_cons, List.length_nil, Int.natCast_add]; omega) hgl2 (fun v hv => by have := hgb2 v hv; simp only [List.length_append, List.length_cons, List.length_nil, Int.natCast_add]; omega)
        rw [cntF, if_pos rfl, if_pos hc] at hR
        simp only [runF] at hR
        rw [hT] at hR
        generalize addG got ws lo = G at *
        generalize tryF p l 0 (P.drop (j + 1)) (plan ++ [⟨ws, lo⟩]) (waste + T * lo) G S = S2 at *
        repeat' (first
    | (with_reducible first | refine DW.seq ?_ | refine DW.block ?_ | refine DW.skip ?_ | refine DW.exit ?_ | refine DW.ret ?_ | refine DW.reg ?_)
    | (refine DW.ord rfl (WF.of (by first | rfl | simp (disch := omega) only [go_sem, simprocAttr, bm_box, bm_row, bk_box, bk_row, hdc, hws, w1, w2, rows_snocS, sM, shut2, List.map_cons, List.map_nil])) ?_ ?_ ?_; rotate_left)
    | rfl
    | (with_reducible refine And.intro ?_ ?_)
    | (simp (disch := omega) only [go_sem, simprocAttr, bm_box, bm_row, bk_box, bk_row, hdc, hws, w1, w2, rows_snocS, sM, shut2, List.map_cons, List.map_nil])
    | (exact retS_of rfl rfl rfl)
    | (refine DW.cond_tt rfl ?_)
    | (refine call_c (hcl) (by decide) ?_)
    | (refine call_c (htr) (by decide) ?_)
    | (refine call_c (had) (by decide) ?_)
    | (refine DW.cond_ff rfl ?_)
    | (refine DW.cond rfl ?_ ?_ <;> intro hc <;> (try simp only [go_sem] at hc))
    | (refine g_split ?_ ?_ <;> intro hc <;> (try simp only [hc]) <;> (try simp only [go_sem] at hc)))
        refine call_hk 14 hrec rfl rfl rfl (by simp (disch := omega) only [go_sem, simprocAttr, bm_box, bm_row, bk_box, bk_row, del]) (by decide) ?_
        simp (disch := omega) only [go_sem, simprocAttr, bm_box, bm_row, bk_box, bk_row, List.map_cons, List.map_nil, del]
        repeat' (first
    | (with_reducible first | refine DW.seq ?_ | refine DW.block ?_ | refine DW.skip ?_ | refine DW.exit ?_ | refine DW.ret ?_ | refine DW.reg ?_)
    | (refine DW.ord rfl (WF.of (by first | rfl | simp (disch := omega) only [go_sem, simprocAttr, bm_box, bm_row, bk_box, bk_row, e1, List.map_cons, List.map_nil])) ?_ ?_ ?_; rotate_left)
    | rfl
    | (with_reducible refine And.intro ?_ ?_)
    | (simp (disch := omega) only [go_sem, simprocAttr, bm_box, bm_row, bk_box, bk_row, e1, List.map_cons, List.map_nil])
    | (exact retS_of rfl rfl rfl)
    | (refine DW.cond_tt rfl ?_)
    | (refine DW.cond_ff rfl ?_)
    | (refine DW.cond rfl ?_ ?_ <;> intro hc <;> (try simp only [go_sem] at hc))
    | (refine g_split ?_ ?_ <;> intro hc <;> (try simp only [hc]) <;> (try simp only [go_sem] at hc)))
        refine ⟨⟨(j + 1, S2), hlt, hR⟩, ?_, Ent.to ?_ ?_⟩ <;> first | (show _ < _; (try simp only); omega) | (simp (disch := omega) only [wkT_cons, wkX_cons, wkT_nil, wkX_nil, get, Nat.reduceEqDiff, ↓reduceIte, ex_some, wk_self, wk_top, wk_nil, wkB_self, and_self, dI, i64_in, and_true, true_and, Int.natCast_add, Int.natCast_one, Int.ofNat_zero, Int.natCast_zero])
        all_goals first | exact ⟨.refl _, .refl _⟩ | exact .refl _
      · have hdc : decide (lo ≤ hi) = false := decide_eq_false hc
        rw [cntF, if_pos rfl, if_neg hc] at hR
        simp only [runF] at hR
        repeat' (first
    | (with_reducible first | refine DW.seq ?_ | refine DW.block ?_ | refine DW.skip ?_ | refine DW.exit ?_ | refine DW.ret ?_ | refine DW.reg ?_)
    | (refine DW.ord rfl (WF.of (by first | rfl | simp (disch := omega) only [go_sem, simprocAttr, bm_box, bm_row, bk_box, bk_row, hdc])) ?_ ?_ ?_; rotate_left)
    | rfl
    | (with_reducible refine And.intro ?_ ?_)
    | (simp (disch := omega) only [go_sem, simprocAttr, bm_box, bm_row, bk_box, bk_row, hdc])
    | (exact retS_of rfl rfl rfl)
    | (refine DW.cond_tt rfl ?_)
    | (refine DW.cond_ff rfl ?_)
    | (refine DW.cond rfl ?_ ?_ <;> intro hc <;> (try simp only [go_sem] at hc))
    | (refine g_split ?_ ?_ <;> intro hc <;> (try simp only [hc]) <;> (try simp only [go_sem] at hc)))
        refine ⟨⟨(j + 1, S), hlt, hR⟩, ?_, Ent.to ?_ ?_⟩ <;> first | (show _ < _; (try simp only); omega) | (simp (disch := omega) only [wkT_cons, wkX_cons, wkT_nil, wkX_nil, get, Nat.reduceEqDiff, ↓reduceIte, ex_some, wk_self, wk_top, wk_nil, wkB_self, and_self, dI, i64_in, and_true, true_and, Int.natCast_add, Int.natCast_one, Int.ofNat_zero, Int.natCast_zero])
        all_goals first | exact ⟨.refl _, .refl _⟩ | exact .refl _
    ·
      rw [decide_eq_false (Nat.succ_ne_zero m)] at *
      rw [cntF, if_neg (by decide)] at hR
      refine DW.loop (ι := { y : Int × Srch // 1 ≤ y.1 ∧ loopF (tryF p l (m + 1)) false p l plan waste got (P.drop (j + 1)) (runF (tryF p l (m + 1) (P.drop (j + 1))) p l ws plan waste got (hi - y.1 + 1).toNat y.1 y.2) = R }) (fun y => ⟨134, [(14, dI y.1.1), (13, .box 13 0), (12, dI j), (0, srD lm), (1, dSt false plan), (3, dI M), (4, dI waste), (5, dIs b2 got)], [srB lm p l P y.1.2, (13, .box [dI lo, dI hi])]⟩) (fun y => (hi - y.1.1 + 1).toNat) ⟨(lo, S), hlo, hR⟩ ?_ ?_
      · refine Ent.to ?_ ?_ <;> simp (disch := omega) only [wkT_cons, wkX_cons, wkT_nil, wkX_nil, get, Nat.reduceEqDiff, ↓reduceIte, ex_some, wk_self, wk_top, wk_nil, wkB_self, and_self, dI, i64_in, and_true, true_and, Int.natCast_add, Int.natCast_one, Int.ofNat_zero, Int.natCast_zero]
        all_goals first | exact ⟨.refl _, .refl _⟩ | exact .refl _
      clear hR hroom
      rintro ⟨⟨r, S1⟩, hr, hR⟩
      dsimp only at hr hR ⊢
      by_cases hc : r ≤ hi
      · have hdc : decide (r ≤ hi) = true := decide_eq_true hc
        have m1 : 0 ≤ T * r := Int.mul_nonneg (by omega) (by omega)
        have m2 : T * r ≤ 3000 * r := Int.mul_le_mul_of_nonneg_right (by omega) (by omega)
        have had := trAdd b2 false got ws r (fun v hv => by have := hgb v hv; omega) (by omega) (by have := hwo.len; omega) hw4.b (by omega)
        have hgb2 := addG_b hgb hw4.b (show 0 ≤ r by omega)
        have hgl2 : (addG got ws r).length = l.length := by rw [addG_len]; exact hg
        have w1 : IntKind.i64.wrap (T * r) = T * r := IntWalk.i64_in _ (by omega)
        have w2 : IntKind.i64.wrap (waste + T * r) = waste + T * r := IntWalk.i64_in _ (by omega)
        have hrec := ih lm false (j + 1) (plan ++ [⟨ws, r⟩]) (waste + T * r) (addG got ws r) S1 hlt (by simp; omega) (by simp only [List.length_append, List.length_cons, List.length_nil, Int.natCast_add]; omega) hgl2 (fun v hv => by have := hgb2 v hv; simp only [List.length_append, List.length_cons, List.length_nil, Int.natCast_add]; omega)
        have ec : (hi - r + 1).toNat = (hi - (r + 1) + 1).toNat + 1 := by omega
        rw [ec, runF, hT] at hR
        generalize addG got ws r = G at *
        generalize tryF p l (m + 1) (P.drop (j + 1)) (plan ++ [⟨ws, r⟩]) (waste + T * r) G S1 = S2 at *
        repeat' (first
    | (with_reducible first | refine DW.seq ?_ | refine DW.block ?_ | refine DW.skip ?_ | refine DW.exit ?_ | refine DW.ret ?_ | refine DW.reg ?_)
    | (refine DW.ord rfl (WF.of (by first | rfl | simp (disch := omega) only [go_sem, simprocAttr, bm_box, bm_row, bk_box, bk_row, hdc, hws, w1, w2, rows_snocS, sM, shut2, List.map_cons, List.map_nil])) ?_ ?_ ?_; rotate_left)
    | rfl
    | (with_reducible refine And.intro ?_ ?_)
    | (simp (disch := omega) only [go_sem, simprocAttr, bm_box, bm_row, bk_box, bk_row, hdc, hws, w1, w2, rows_snocS, sM, shut2, List.map_cons, List.map_nil])
    | (exact retS_of rfl rfl rfl)
    | (refine DW.cond_tt rfl ?_)
    | (refine call_c (hcl) (by decide) ?_)
    | (refine call_c (htr) (by decide) ?_)
    | (refine call_c (had) (by decide) ?_)
    | (refine DW.cond_ff rfl ?_)
    | (refine DW.cond rfl ?_ ?_ <;> intro hc <;> (try simp only [go_sem] at hc))
    | (refine g_split ?_ ?_ <;> intro hc <;> (try simp only [hc]) <;> (try simp only [go_sem] at hc)))
        refine call_hk 14 hrec rfl rfl rfl (by simp (disch := omega) only [go_sem, simprocAttr, bm_box, bm_row, bk_box, bk_row, del]) (by decide) ?_
        simp (disch := omega) only [go_sem, simprocAttr, bm_box, bm_row, bk_box, bk_row, List.map_cons, List.map_nil, del]
        repeat' (first
    | (with_reducible first | refine DW.seq ?_ | refine DW.block ?_ | refine DW.skip ?_ | refine DW.exit ?_ | refine DW.ret ?_ | refine DW.reg ?_)
    | (refine DW.ord rfl (WF.of (by first | rfl | simp (disch := omega) only [go_sem, simprocAttr, bm_box, bm_row, bk_box, bk_row, e1, List.map_cons, List.map_nil])) ?_ ?_ ?_; rotate_left)
    | rfl
    | (with_reducible refine And.intro ?_ ?_)
    | (simp (disch := omega) only [go_sem, simprocAttr, bm_box, bm_row, bk_box, bk_row, e1, List.map_cons, List.map_nil])
    | (exact retS_of rfl rfl rfl)
    | (refine DW.cond_tt rfl ?_)
    | (refine DW.cond_ff rfl ?_)
    | (refine DW.cond rfl ?_ ?_ <;> intro hc <;> (try simp only [go_sem] at hc))
    | (refine g_split ?_ ?_ <;> intro hc <;> (try simp only [hc]) <;> (try simp only [go_sem] at hc)))
        refine ⟨⟨(r + 1, S2), by omega, hR⟩, ?_, Ent.to ?_ ?_⟩ <;> first | (show _ < _; (try simp only); omega) | (simp (disch := omega) only [wkT_cons, wkX_cons, wkT_nil, wkX_nil, get, Nat.reduceEqDiff, ↓reduceIte, ex_some, wk_self, wk_top, wk_nil, wkB_self, and_self, dI, i64_in, and_true, true_and, Int.natCast_add, Int.natCast_one, Int.ofNat_zero, Int.natCast_zero])
        all_goals first | exact ⟨.refl _, .refl _⟩ | exact .refl _
      · have hdc : decide (r ≤ hi) = false := decide_eq_false hc
        have ec : (hi - r + 1).toNat = 0 := by omega
        rw [ec, runF] at hR
        repeat' (first
    | (with_reducible first | refine DW.seq ?_ | refine DW.block ?_ | refine DW.skip ?_ | refine DW.exit ?_ | refine DW.ret ?_ | refine DW.reg ?_)
    | (refine DW.ord rfl (WF.of (by first | rfl | simp (disch := omega) only [go_sem, simprocAttr, bm_box, bm_row, bk_box, bk_row, hdc])) ?_ ?_ ?_; rotate_left)
    | rfl
    | (with_reducible refine And.intro ?_ ?_)
    | (simp (disch := omega) only [go_sem, simprocAttr, bm_box, bm_row, bk_box, bk_row, hdc])
    | (exact retS_of rfl rfl rfl)
    | (refine DW.cond_tt rfl ?_)
    | (refine DW.cond_ff rfl ?_)
    | (refine DW.cond rfl ?_ ?_ <;> intro hc <;> (try simp only [go_sem] at hc))
    | (refine g_split ?_ ?_ <;> intro hc <;> (try simp only [hc]) <;> (try simp only [go_sem] at hc)))
        refine ⟨⟨(j + 1, S1), hlt, hR⟩, ?_, Ent.to ?_ ?_⟩ <;> first | (show _ < _; (try simp only); omega) | (simp (disch := omega) only [wkT_cons, wkX_cons, wkT_nil, wkX_nil, get, Nat.reduceEqDiff, ↓reduceIte, ex_some, wk_self, wk_top, wk_nil, wkB_self, and_self, dI, i64_in, and_true, true_and, Int.natCast_add, Int.natCast_one, Int.ofNat_zero, Int.natCast_zero])
        all_goals first | exact ⟨.refl _, .refl _⟩ | exact .refl _
theorem trTry (p : TPap) (hp : p.ok) (l : List TOrd) (hl : l.length ≤ 4) (ho : ∀ o ∈ l, o.ok) (P : List (List Int)) (hP : ∀ ws ∈ P, WsOk p l ws) (hPl : P.length ≤ 625) : ∀ m, TryC p l P m
  | 0 => trTry0 p l hl P
  | m + 1 => trTryS p hp l hl ho P hP hPl m (trTry p hp l hl ho P hP hPl m)
end Go.Dw.Seat
end
section
set_option linter.unusedSimpArgs false
set_option maxRecDepth 100000
namespace Go.Dw.Seat
open Go Go.Dw Go.Proofs Go.IntWalk
def planD (r : Option (List TStp × Int)) : D := match r with
  | some x => .tup [dSt false x.1, dI x.2, bD true]
  | none => .tup [.c (.v (.slice none 0 0)), dI 0, bD false]
set_option maxHeartbeats 2000000 in
theorem trPlanM (p : TPap) (hp : p.ok) (l : List TOrd) (hl : l.length ≤ 4) (ho : ∀ o ∈ l, o.ok) : DCall Try.prog 67 [macD false p l] [] (planD (planF p l)) [] := by
  have hall := trAll p hp l hl ho
  have hPl := patsX_len4 p hp l hl
  rw [patsX_all p hp l] at hall hPl
  have htry := trTry p hp l hl ho (pats p l) (pats_ok p l).ok hPl
  have hpf : planF p l = (List.range 4).findSome? fun n => if (srch p l n).found then some ((srch p l n).best, (srch p l n).waste) else none := rfl
  have hsr : ∀ n, srch p l n = tryF p l n ((pats p l).drop 0) [] 0 (zeros l.length) ⟨[], 0, false⟩ := fun n => rfl
  generalize pats p l = P at *
  generalize hR : planF p l = R at *
  refine DCall.of Try.func67 sf67 hb67 (Nat.le_of_ble_eq_true rfl) (okRes_nil fun _ => by rcases R with _ | ⟨q, w⟩ <;> rfl) ?_
  simp only [s67, idxs, Nat.reduceAdd]
  repeat' (first
    | (with_reducible first | refine DW.seq ?_ | refine DW.block ?_ | refine DW.skip ?_ | refine DW.exit ?_ | refine DW.ret ?_ | refine DW.reg ?_)
    | (refine DW.dreg rfl (WF.of ?_) ?_; first | rfl | skip)
    | (simp (disch := omega) only [go_sem, simprocAttr, bm_box, bm_row, bk_box, bk_row])
    | (exact retS_of rfl rfl rfl)
    | (refine DW.cond_tt rfl ?_)
    | (refine DW.cond_ff rfl ?_)
    | (refine DW.cond rfl ?_ ?_ <;> intro hc <;> (try simp only [go_sem] at hc))
    | (refine g_split ?_ ?_ <;> intro hc <;> (try simp only [hc]) <;> (try simp only [go_sem] at hc)))
  refine DW.loop (ι := { n : Nat // n ≤ 4 ∧ ((List.range 4).drop n).findSome? (fun n => if (srch p l n).found then some ((srch p l n).best, (srch p l n).waste) else none) = R }) (fun n => ⟨35, [(7, dI n.1), (1, .box 1 0)], [(1, .box [dI p.wide, dI p.tl, dI p.th, dI p.webs, .c (.sl false 3 (rows eO l))])]⟩) (fun n => 4 - n.1) ⟨0, Nat.zero_le _, hpf.symm⟩ ?_ ?_
  · refine Ent.to ?_ ?_ <;> simp (disch := omega) only [wkT_cons, wkX_cons, wkT_nil, wkX_nil, get, Nat.reduceEqDiff, ↓reduceIte, ex_some, wk_self, wk_top, wk_nil, wkB_self, and_self, dI, i64_in, and_true, true_and, Int.natCast_add, Int.natCast_one, Int.ofNat_zero, Int.natCast_zero]
    all_goals first | exact ⟨.refl _, .refl _⟩ | exact .refl _
  rintro ⟨n, hn, hf⟩
  dsimp only at hn hf ⊢
  by_cases h4 : n < 4
  · have hd : decide ((n : Int) < 4) = true := decide_eq_true (by omega)
    have hdr : (List.range 4).drop n = n :: (List.range 4).drop (n + 1) := by
      rw [List.drop_eq_getElem_cons (by simpa using h4)]; simp
    rw [hdr, List.findSome?_cons] at hf
    have hs := hsr n
    repeat' (first
    | (with_reducible first | refine DW.seq ?_ | refine DW.block ?_ | refine DW.skip ?_ | refine DW.exit ?_ | refine DW.ret ?_ | refine DW.reg ?_)
    | (refine DW.dreg rfl (WF.of ?_) ?_; first | rfl | skip)
    | (simp (disch := omega) only [go_sem, simprocAttr, bm_box, bm_row, bk_box, bk_row, hd])
    | (exact retS_of rfl rfl rfl)
    | (refine DW.cond_tt rfl ?_)
    | (refine DW.cond_ff rfl ?_)
    | (refine DW.cond rfl ?_ ?_ <;> intro hc <;> (try simp only [go_sem] at hc))
    | (refine g_split ?_ ?_ <;> intro hc <;> (try simp only [hc]) <;> (try simp only [go_sem] at hc)))
    (refine call_c (hall) (by decide) ?_; simp (disch := omega) only [go_sem, simprocAttr, bm_box, bm_row, bk_box, bk_row])
    refine DW.ent (Ent.to (tm' := [(7, dI n), (6, .box 14 0), (5, dI n), (1, .box 1 0)]) (bx' := [(14, .box (srC p l P ⟨[], 0, false⟩)), (1, .box [dI p.wide, dI p.tl, dI p.th, dI p.webs, .c (.sl false 3 (rows eO l))])]) ?_ ?_) ?_
    · simp (disch := omega) only [wkT_cons, wkX_cons, wkT_nil, wkX_nil, get, Nat.reduceEqDiff, ↓reduceIte, ex_some, wk_self, wk_top, wk_nil, wkB_self, and_self, dI, i64_in, and_true, true_and, Int.natCast_add, Int.natCast_one, Int.ofNat_zero, Int.natCast_zero]
    · simp (disch := omega) only [wkT_cons, wkX_cons, wkT_nil, wkX_nil, get, Nat.reduceEqDiff, ↓reduceIte, ex_some, wk_self, wk_top, wk_nil, wkB_self, and_self, dI, i64_in, and_true, true_and, Int.natCast_add, Int.natCast_one, Int.ofNat_zero, Int.natCast_zero]
      exact .box (.cons (.refl _) (.cons (.refl _) (.cons (.refl _) (.cons (.refl _) (.cons (.refl _) (.cons (.refl _) (.cons (.nil _ _) (.cons (.refl _) (.cons (.refl _) .nil)))))))))
    refine DW.pin 14 rfl rfl fun lm => ?_
    simp (disch := omega) only [go_sem, simprocAttr, bm_box, bm_row, bk_box, bk_row, pinT, pinX, pinD, pinDs, pinB, pinO]
    have htn := DCall.weakA (l := [srD lm, .c (.v (.slice none 0 0)), dI (0 : Nat), dI n, dI 0, dIs true (zeros l.length)]) (htry n lm true 0 [] 0 (zeros l.length) ⟨[], 0, false⟩ (Nat.zero_le _) (by simp; omega) (by simp) (by simp [zeros]) (fun v hv => by have := List.eq_of_mem_replicate hv; subst this; simp)) (.cons (.inl rfl) (.cons (.inr ⟨_, _, rfl, rfl, .nil _ _⟩) (.cons (.inl rfl) (.cons (.inl rfl) (.cons (.inl rfl) (.cons (.inl rfl) .nil))))))
    rw [← hs] at htn
    generalize srch p l n = S at *
    obtain ⟨B, w, F⟩ := S
    repeat' (first
    | (with_reducible first | refine DW.seq ?_ | refine DW.block ?_ | refine DW.skip ?_ | refine DW.exit ?_ | refine DW.ret ?_ | refine DW.reg ?_)
    | (refine DW.dreg rfl (WF.of ?_) ?_; first | rfl | skip)
    | (simp (disch := omega) only [go_sem, simprocAttr, bm_box, bm_row, bk_box, bk_row])
    | (exact retS_of rfl rfl rfl)
    | (refine DW.cond_tt rfl ?_)
    | (refine DW.cond_ff rfl ?_)
    | (refine DW.cond rfl ?_ ?_ <;> intro hc <;> (try simp only [go_sem] at hc))
    | (refine g_split ?_ ?_ <;> intro hc <;> (try simp only [hc]) <;> (try simp only [go_sem] at hc)))
    refine call_hk 14 htn rfl rfl (by simp (disch := omega) only [go_sem, simprocAttr, bm_box, bm_row, bk_box, bk_row, del, zeros, List.map_nil]) (by simp (disch := omega) only [go_sem, simprocAttr, bm_box, bm_row, bk_box, bk_row, del]) (by decide) ?_
    simp (disch := omega) only [go_sem, simprocAttr, bm_box, bm_row, bk_box, bk_row, del]
    cases F with
    | true =>
      dsimp only at hf
      rw [if_pos rfl] at hf
      cases hf
      simp only [planD]
      repeat' (first
    | (with_reducible first | refine DW.seq ?_ | refine DW.block ?_ | refine DW.skip ?_ | refine DW.exit ?_ | refine DW.ret ?_ | refine DW.reg ?_)
    | (refine DW.dreg rfl (WF.of ?_) ?_; first | rfl | skip)
    | (simp (disch := omega) only [go_sem, simprocAttr, bm_box, bm_row, bk_box, bk_row])
    | (exact retS_of rfl rfl rfl)
    | (refine DW.cond_tt rfl ?_)
    | (refine DW.cond_ff rfl ?_)
    | (refine DW.cond rfl ?_ ?_ <;> intro hc <;> (try simp only [go_sem] at hc))
    | (refine g_split ?_ ?_ <;> intro hc <;> (try simp only [hc]) <;> (try simp only [go_sem] at hc)))
      refine retS_wk rfl ?_ (by simp only [Blk.nb, rowC_nb, D.nb, D.nbs, C.nb, C.nbs, C.nbss, rows_nb eI_nb, Bool.and_true, Bool.not_false, Bool.and_self, bD, dI, iD, rows_nb eO_nb, rows_nb eSt_nb, rows_nb eWs_nb]); exact .refl _
    | false =>
      dsimp only at hf
      rw [if_neg (by decide)] at hf
      repeat' (first
    | (with_reducible first | refine DW.seq ?_ | refine DW.block ?_ | refine DW.skip ?_ | refine DW.exit ?_ | refine DW.ret ?_ | refine DW.reg ?_)
    | (refine DW.dreg rfl (WF.of ?_) ?_; first | rfl | skip)
    | (simp (disch := omega) only [go_sem, simprocAttr, bm_box, bm_row, bk_box, bk_row])
    | (exact retS_of rfl rfl rfl)
    | (refine DW.cond_tt rfl ?_)
    | (refine DW.cond_ff rfl ?_)
    | (refine DW.cond rfl ?_ ?_ <;> intro hc <;> (try simp only [go_sem] at hc))
    | (refine g_split ?_ ?_ <;> intro hc <;> (try simp only [hc]) <;> (try simp only [go_sem] at hc)))
      refine ⟨⟨n + 1, by omega, hf⟩, ?_, Ent.to ?_ ?_⟩ <;> first | (show _ < _; (try simp only); omega) | (simp (disch := omega) only [wkT_cons, wkX_cons, wkT_nil, wkX_nil, get, Nat.reduceEqDiff, ↓reduceIte, ex_some, wk_self, wk_top, wk_nil, wkB_self, and_self, dI, i64_in, and_true, true_and, Int.natCast_add, Int.natCast_one, Int.ofNat_zero, Int.natCast_zero])
      all_goals first | exact ⟨.refl _, .refl _⟩ | exact .refl _
  · have hd : decide ((n : Int) < 4) = false := decide_eq_false (by omega)
    obtain rfl : n = 4 := by omega
    subst hf
    repeat' (first
    | (with_reducible first | refine DW.seq ?_ | refine DW.block ?_ | refine DW.skip ?_ | refine DW.exit ?_ | refine DW.ret ?_ | refine DW.reg ?_)
    | (refine DW.dreg rfl (WF.of ?_) ?_; first | rfl | skip)
    | (simp (disch := omega) only [go_sem, simprocAttr, bm_box, bm_row, bk_box, bk_row, hd])
    | (exact retS_of rfl rfl rfl)
    | (refine DW.cond_tt rfl ?_)
    | (refine DW.cond_ff rfl ?_)
    | (refine DW.cond rfl ?_ ?_ <;> intro hc <;> (try simp only [go_sem] at hc))
    | (refine g_split ?_ ?_ <;> intro hc <;> (try simp only [hc]) <;> (try simp only [go_sem] at hc)))
end Go.Dw.Seat
end
section
set_option linter.unusedSimpArgs false
set_option maxRecDepth 100000
namespace Go.Dw.Seat
open Go Go.Dw Go.Proofs Go.IntWalk
theorem rowC_snocS (q : List TStp) (s : TStp) : rowC (rows eSt q) ++ [[D.c (.sl false 1 (rows eI s.ws)), D.c (.v (.int .i64 s.run))]] = rowC (rows eSt (q ++ [s])) := by simp [rowC, rows, eSt]
set_option maxHeartbeats 2000000 in
theorem trOwn (b : Bool) (q : List TStp) (hq : q.length ≤ 1000) (hw : ∀ s ∈ q, s.ws.length ≤ 2 ^ 36) : DCall Try.prog 68 [dSt b q] [] (dSt false q) [] := by
  refine DCall.of Try.func68 sf68 hb68 (Nat.le_of_ble_eq_true rfl) (okRes_nil fun _ => rfl) ?_; simp only [s68, idxs, Nat.reduceAdd]
  repeat' (first
    | (with_reducible first | refine DW.seq ?_ | refine DW.block ?_ | refine DW.skip ?_ | refine DW.exit ?_ | refine DW.ret ?_ | refine DW.reg ?_)
    | (refine DW.dreg rfl (WF.of ?_) ?_; first | rfl | skip)
    | (simp (disch := omega) only [go_sem, simprocAttr, bm_box, bm_row, bk_box, bk_row])
    | (exact retS_of rfl rfl rfl)
    | (refine DW.cond_tt rfl ?_)
    | (refine DW.cond_ff rfl ?_)
    | (refine DW.cond rfl ?_ ?_ <;> intro hc <;> (try simp only [go_sem] at hc))
    | (refine g_split ?_ ?_ <;> intro hc <;> (try simp only [hc]) <;> (try simp only [go_sem] at hc)))
  refine DW.ent (Ent.adopt 2 19 2 rfl rfl rfl) ?_
  refine DW.loop (ι := { i : Nat // i ≤ q.length }) (fun i => ⟨22, [(7, dI i.1), (6, dI q.length), (5, dSt b q), (2, .own 19)], [(19, .row 2 (rowC (rows eSt (q.take i.1))))]⟩) (fun i => q.length - i.1) ⟨0, Nat.zero_le _⟩ ?_ ?_
  · refine Ent.to ?_ ?_ <;> simp (disch := omega) only [wkT_cons, wkX_cons, wkT_nil, wkX_nil, get, Nat.reduceEqDiff, ↓reduceIte, ex_some, wk_self, wk_top, wk_nil, wkB_self, and_self, dI, i64_in, and_true, true_and, Int.natCast_add, Int.natCast_one, Int.ofNat_zero, Int.natCast_zero, ins, Nat.reduceLT, List.take_zero]
    all_goals first | exact ⟨.refl _, .refl _⟩ | exact .refl _
  rintro ⟨i, hi⟩
  dsimp only
  rcases at_or q i hi with ⟨s, hs, hlt, hd⟩ | ⟨he, hd⟩
  · have hc := c106 false s.ws (hw s (List.mem_of_getElem? hs)) 14
    have htk : q.take (i + 1) = q.take i ++ [s] := by rw [List.take_add_one, hs]; rfl
    have hlen : (q.take i).length ≤ 1000 := by rw [List.length_take]; omega
    generalize q.take i = Q at *
    repeat' (first
    | (with_reducible first | refine DW.seq ?_ | refine DW.block ?_ | refine DW.skip ?_ | refine DW.exit ?_ | refine DW.ret ?_ | refine DW.reg ?_)
    | (refine DW.dreg rfl (WF.of ?_) ?_; first | rfl | skip)
    | (simp (disch := omega) only [go_sem, simprocAttr, bm_box, bm_row, bk_box, bk_row, hd, hs, List.map_cons, List.map_nil])
    | (exact retS_of rfl rfl rfl)
    | (refine DW.cond_tt rfl ?_)
    | (refine DW.cond_ff rfl ?_)
    | (refine DW.cond rfl ?_ ?_ <;> intro hc <;> (try simp only [go_sem] at hc))
    | (refine g_split ?_ ?_ <;> intro hc <;> (try simp only [hc]) <;> (try simp only [go_sem] at hc)))
    (refine call_r (hc) (by decide) (by first | rfl | simp (disch := omega) only [go_sem, simprocAttr, bm_box, bm_row, bk_box, bk_row]) (by first | rfl | simp (disch := omega) only [go_sem, simprocAttr, bm_box, bm_row, bk_box, bk_row]) ?_; simp (disch := omega) only [go_sem, simprocAttr, bm_box, bm_row, bk_box, bk_row])
    repeat' (first
    | (with_reducible first | refine DW.seq ?_ | refine DW.block ?_ | refine DW.skip ?_ | refine DW.exit ?_ | refine DW.ret ?_ | refine DW.reg ?_)
    | (refine DW.dreg rfl (WF.of ?_) ?_; first | rfl | skip)
    | (simp (disch := omega) only [go_sem, simprocAttr, bm_box, bm_row, bk_box, bk_row])
    | (exact retS_of rfl rfl rfl)
    | (refine DW.cond_tt rfl ?_)
    | (refine DW.cond_ff rfl ?_)
    | (refine DW.cond rfl ?_ ?_ <;> intro hc <;> (try simp only [go_sem] at hc))
    | (refine g_split ?_ ?_ <;> intro hc <;> (try simp only [hc]) <;> (try simp only [go_sem] at hc)))
    refine ⟨⟨i + 1, hlt⟩, by (show _ < _; (try simp only); omega), (Ent.rel 14 rfl).trans ?_⟩; simp (disch := omega) only [go_sem, simprocAttr, bm_box, bm_row, bk_box, bk_row,  htk, rowC_snocS]; refine Ent.to ?_ ?_ <;> (simp (disch := omega) only [wkT_cons, wkX_cons, wkT_nil, wkX_nil, get, Nat.reduceEqDiff, ↓reduceIte, ex_some, wk_self, wk_top, wk_nil, wkB_self, and_self, dI, i64_in, and_true, true_and, Int.natCast_add, Int.natCast_one, Int.ofNat_zero, Int.natCast_zero,  htk, rowC_snocS])
    all_goals first | exact ⟨.refl _, .refl _⟩ | exact .refl _ | skip
  · subst he
    rw [List.take_length]
    repeat' (first
    | (with_reducible first | refine DW.seq ?_ | refine DW.block ?_ | refine DW.skip ?_ | refine DW.exit ?_ | refine DW.ret ?_ | refine DW.reg ?_)
    | (refine DW.dreg rfl (WF.of ?_) ?_; first | rfl | skip)
    | (simp (disch := omega) only [go_sem, simprocAttr, bm_box, bm_row, bk_box, bk_row, hd])
    | (exact retS_of rfl rfl rfl)
    | (refine DW.cond_tt rfl ?_)
    | (refine DW.cond_ff rfl ?_)
    | (refine DW.cond rfl ?_ ?_ <;> intro hc <;> (try simp only [go_sem] at hc))
    | (refine g_split ?_ ?_ <;> intro hc <;> (try simp only [hc]) <;> (try simp only [go_sem] at hc)))
    (refine retS_ent (Ent.rel 19 rfl) ?_; simp (disch := omega) only [go_sem, simprocAttr, bm_box, bm_row, bk_box, bk_row])
    refine retS_wk rfl ?_ (by simp only [Blk.nb, rowC_nb, D.nb, D.nbs, C.nb, C.nbs, C.nbss, rows_nb eI_nb, Bool.and_true, Bool.not_false, Bool.and_self, bD, dI, iD, rows_nb eO_nb, rows_nb eSt_nb, rows_nb eWs_nb]); exact .refl _
end Go.Dw.Seat
end
section
set_option linter.unusedSimpArgs false
set_option maxRecDepth 100000
namespace Go.Dw.Seat
open Go Go.Dw Go.Proofs Go.IntWalk
def loS : List TOrd → Int
  | [] => 0
  | o :: l => o.w * o.lo + loS l
def cntS : List TOrd → Int
  | [] => 0
  | o :: l => (if 0 < o.lo then 1 else 0) + cntS l
theorem loS_take : ∀ {l : List TOrd} {i : Nat} {o : TOrd}, l[i]? = some o → loS (l.take (i + 1)) = loS (l.take i) + o.w * o.lo
  | [], _, _, h => by simp at h
  | a :: l, 0, o, h => by cases h; simp [loS]
  | a :: l, i + 1, o, h => by
    have := loS_take (l := l) (i := i) (o := o) h
    rw [List.take_succ_cons, List.take_succ_cons, loS, loS, this]; omega
theorem cntS_take : ∀ {l : List TOrd} {i : Nat} {o : TOrd}, l[i]? = some o → cntS (l.take (i + 1)) = cntS (l.take i) + (if 0 < o.lo then 1 else 0)
  | [], _, _, h => by simp at h
  | a :: l, 0, o, h => by cases h; simp [cntS]
  | a :: l, i + 1, o, h => by
    have := cntS_take (l := l) (i := i) (o := o) h
    rw [List.take_succ_cons, List.take_succ_cons, cntS, cntS, this]; omega
theorem loS_b : ∀ {l : List TOrd}, (∀ o ∈ l, o.ok) → (0 ≤ loS l ∧ loS l ≤ 300000 * (l.length : Int)) ∧ 0 ≤ cntS l ∧ cntS l ≤ (l.length : Int)
  | [], _ => by simp [loS, cntS]
  | o :: l, h => by
    have ih := loS_b (l := l) (fun x hx => h x (by simp [hx]))
    have hw := (h o (by simp)).w
    have hn := (h o (by simp)).need
    have m1 : 0 ≤ o.w * o.lo := Int.mul_nonneg (by omega) hn.1
    have m2 : o.w * o.lo ≤ 3000 * o.lo := Int.mul_le_mul_of_nonneg_right hw.2 hn.1
    simp only [loS, cntS, List.length_cons, Int.natCast_add, Int.natCast_one]
    split <;> omega
def boundE (p : TPap) (l : List TOrd) : Int := if openE p l ≠ 0 then openE p l else if p.wide - p.tl ≤ 0 then 7 else 0
def boundI (p : TPap) (l : List TOrd) : Int × Int × Int :=
  if boundE p l = 0 then (Int.tdiv (cntS l + 2 - 1) 2, Int.tdiv (loS l + (p.wide - p.tl) - 1) (p.wide - p.tl), p.tl * Int.tdiv (loS l + (p.wide - p.tl) - 1) (p.wide - p.tl)) else (0, 0, 0)
set_option maxHeartbeats 2000000 in
theorem trBound (p : TPap) (l : List TOrd) (hl : l.length ≤ 2 ^ 36) : DCall Try.prog 32 [papD p, .c (.sl false 3 (rows eO l))] [] (.tup [dI (boundI p l).1, dI (boundI p l).2.1, dI (boundI p l).2.2, dI (boundE p l)]) [] := by
  by_cases h : openE p l = 0
  case neg =>
    have h1 := trOpenE false p l hl h
    have hE : boundE p l = openE p l := if_pos h
    rw [boundI, hE, if_neg h]
    generalize openE p l = e at *
    have hd : (e != 0) = true := by simpa using h
    refine DCall.of Try.func32 sf32 hb32 (Nat.le_of_ble_eq_true rfl) (okRes_nil fun _ => rfl) ?_; simp only [s32, idxs, Nat.reduceAdd]
    repeat' (first
    | (with_reducible first | refine DW.seq ?_ | refine DW.block ?_ | refine DW.skip ?_ | refine DW.exit ?_ | refine DW.ret ?_ | refine DW.reg ?_)
    | (refine DW.dreg rfl (WF.of ?_) ?_; first | rfl | skip)
    | (simp (disch := omega) only [go_sem, simprocAttr, Blk.men, Blk.keysIn, hd])
    | (exact retS_of rfl rfl rfl)
    | (refine DW.cond_tt rfl ?_)
    | (refine call_c (h1) (by decide) ?_)
    | (refine DW.cond_ff rfl ?_)
    | (refine DW.cond rfl ?_ ?_ <;> intro hc <;> (try simp only [go_sem] at hc))
    | (refine g_split ?_ ?_ <;> intro hc <;> (try simp only [hc]) <;> (try simp only [go_sem] at hc)))
  obtain ⟨hp, hl4, ho⟩ := openE_ok h
  have h1 := trOpen p l h
  have hwi := hp.wide
  have htr := hp.trim
  have hw1 : IntKind.i64.wrap (p.wide - p.tl) = p.wide - p.tl := IntWalk.i64_in _ (by omega)
  by_cases hx : p.wide - p.tl ≤ 0
  · have hE : boundE p l = 7 := by unfold boundE; rw [if_neg (by simpa using h), if_pos hx]
    rw [boundI, hE, if_neg (by decide)]
    have hd : decide (p.wide - p.tl ≤ 0) = true := decide_eq_true hx
    refine DCall.of Try.func32 sf32 hb32 (Nat.le_of_ble_eq_true rfl) (okRes_nil fun _ => rfl) ?_; simp only [s32, idxs, Nat.reduceAdd]
    repeat' (first
    | (with_reducible first | refine DW.seq ?_ | refine DW.block ?_ | refine DW.skip ?_ | refine DW.exit ?_ | refine DW.ret ?_ | refine DW.reg ?_)
    | (refine DW.dreg rfl (WF.of ?_) ?_; first | rfl | skip)
    | (simp (disch := omega) only [go_sem, simprocAttr, Blk.men, Blk.keysIn, hd])
    | (exact retS_of rfl rfl rfl)
    | (refine DW.cond_tt rfl ?_)
    | (refine call_c (h1) (by decide) ?_)
    | (refine DW.cond_ff rfl ?_)
    | (refine DW.cond rfl ?_ ?_ <;> intro hc <;> (try simp only [go_sem] at hc))
    | (refine g_split ?_ ?_ <;> intro hc <;> (try simp only [hc]) <;> (try simp only [go_sem] at hc)))
  have hE : boundE p l = 0 := by unfold boundE; rw [if_neg (by simpa using h), if_neg hx]
  rw [boundI, hE, if_pos rfl]
  have hd : decide (p.wide - p.tl ≤ 0) = false := decide_eq_false hx
  refine DCall.of Try.func32 sf32 hb32 (Nat.le_of_ble_eq_true rfl) (okRes_nil fun _ => rfl) ?_; simp only [s32, idxs, Nat.reduceAdd]
  repeat' (first
    | (with_reducible first | refine DW.seq ?_ | refine DW.block ?_ | refine DW.skip ?_ | refine DW.exit ?_ | refine DW.ret ?_ | refine DW.reg ?_)
    | (refine DW.dreg rfl (WF.of ?_) ?_; first | rfl | skip)
    | (simp (disch := omega) only [go_sem, simprocAttr, Blk.men, Blk.keysIn, hd, hw1])
    | (exact retS_of rfl rfl rfl)
    | (refine DW.cond_tt rfl ?_)
    | (refine call_c (h1) (by decide) ?_)
    | (refine DW.cond_ff rfl ?_)
    | (refine DW.cond rfl ?_ ?_ <;> intro hc <;> (try simp only [go_sem] at hc))
    | (refine g_split ?_ ?_ <;> intro hc <;> (try simp only [hc]) <;> (try simp only [go_sem] at hc)))
  refine DW.loop (ι := { i : Nat // i ≤ l.length }) (fun i => ⟨68, [(33, dI i.1), (32, dI l.length), (31, .c (.sl false 3 (rows eO l))), (11, dI (loS (l.take i.1))), (10, dI (p.wide - p.tl)), (4, dI (cntS (l.take i.1))), (2, .box 2 0)], [(2, .box [dI p.wide, dI p.tl, dI p.th, dI p.webs])]⟩) (fun i => l.length - i.1) ⟨0, Nat.zero_le _⟩ ?_ ?_
  · refine Ent.to ?_ ?_ <;> simp (disch := omega) only [wkT_cons, wkX_cons, wkT_nil, wkX_nil, get, Nat.reduceEqDiff, ↓reduceIte, ex_some, wk_self, wk_top, wk_nil, wkB_self, and_self, dI, i64_in, and_true, true_and, Int.natCast_add, Int.natCast_one, Int.ofNat_zero, Int.natCast_zero, List.take_zero, loS, cntS]
    all_goals first | exact ⟨.refl _, .refl _⟩ | exact .refl _
  rintro ⟨i, hi⟩
  dsimp only
  rcases at_or l i hi with ⟨o, hoi, hlt, hdl⟩ | ⟨he, hdl⟩
  · have hob := ho o (List.mem_of_getElem? hoi)
    have hwo := hob.w
    have hno := hob.need
    have m1 : 0 ≤ o.w * o.lo := Int.mul_nonneg (by omega) hno.1
    have m2 : o.w * o.lo ≤ 3000 * o.lo := Int.mul_le_mul_of_nonneg_right hwo.2 hno.1
    have hb := loS_b (l := l.take i) (fun x hx => ho x (List.mem_of_mem_take hx))
    rw [List.length_take] at hb
    have ht := loS_take hoi
    have hc := cntS_take hoi
    have w1 : IntKind.i64.wrap (o.w * o.lo) = o.w * o.lo := IntWalk.i64_in _ (by omega)
    generalize loS (l.take i) = A at *
    generalize cntS (l.take i) = B at *
    have w2 : IntKind.i64.wrap (A + o.w * o.lo) = A + o.w * o.lo := IntWalk.i64_in _ (by omega)
    by_cases h0 : 0 < o.lo
    · have hd0 : decide (0 < o.lo) = true := decide_eq_true h0
      rw [if_pos h0] at hc
      repeat' (first
    | (with_reducible first | refine DW.seq ?_ | refine DW.block ?_ | refine DW.skip ?_ | refine DW.exit ?_ | refine DW.ret ?_ | refine DW.reg ?_)
    | (refine DW.dreg rfl (WF.of ?_) ?_; first | rfl | skip)
    | (simp (disch := omega) only [go_sem, simprocAttr, Blk.men, Blk.keysIn, hdl, hoi, w1, w2, hd0, List.map_cons, List.map_nil])
    | (exact retS_of rfl rfl rfl)
    | (refine DW.cond_tt rfl ?_)
    | (refine DW.cond_ff rfl ?_)
    | (refine DW.cond rfl ?_ ?_ <;> intro hc <;> (try simp only [go_sem] at hc))
    | (refine g_split ?_ ?_ <;> intro hc <;> (try simp only [hc]) <;> (try simp only [go_sem] at hc)))
      refine ⟨⟨i + 1, hlt⟩, ?_, Ent.to ?_ ?_⟩ <;> first | (show _ < _; (try simp only); omega) | (simp (disch := omega) only [wkT_cons, wkX_cons, wkT_nil, wkX_nil, get, Nat.reduceEqDiff, ↓reduceIte, ex_some, wk_self, wk_top, wk_nil, wkB_self, and_self, dI, i64_in, and_true, true_and, Int.natCast_add, Int.natCast_one, Int.ofNat_zero, Int.natCast_zero,  ht, hc])
      all_goals first | exact ⟨.refl _, .refl _⟩ | exact .refl _
    · have hd0 : decide (0 < o.lo) = false := decide_eq_false h0
      rw [if_neg h0, Int.add_zero] at hc
      repeat' (first
    | (with_reducible first | refine DW.seq ?_ | refine DW.block ?_ | refine DW.skip ?_ | refine DW.exit ?_ | refine DW.ret ?_ | refine DW.reg ?_)
    | (refine DW.dreg rfl (WF.of ?_) ?_; first | rfl | skip)
    | (simp (disch := omega) only [go_sem, simprocAttr, Blk.men, Blk.keysIn, hdl, hoi, w1, w2, hd0, List.map_cons, List.map_nil])
    | (exact retS_of rfl rfl rfl)
    | (refine DW.cond_tt rfl ?_)
    | (refine DW.cond_ff rfl ?_)
    | (refine DW.cond rfl ?_ ?_ <;> intro hc <;> (try simp only [go_sem] at hc))
    | (refine g_split ?_ ?_ <;> intro hc <;> (try simp only [hc]) <;> (try simp only [go_sem] at hc)))
      refine ⟨⟨i + 1, hlt⟩, ?_, Ent.to ?_ ?_⟩ <;> first | (show _ < _; (try simp only); omega) | (simp (disch := omega) only [wkT_cons, wkX_cons, wkT_nil, wkX_nil, get, Nat.reduceEqDiff, ↓reduceIte, ex_some, wk_self, wk_top, wk_nil, wkB_self, and_self, dI, i64_in, and_true, true_and, Int.natCast_add, Int.natCast_one, Int.ofNat_zero, Int.natCast_zero,  ht, hc])
      all_goals first | exact ⟨.refl _, .refl _⟩ | exact .refl _
  · subst he
    rw [List.take_length]
    have hb := loS_b ho
    generalize loS l = A at *
    generalize cntS l = B at *
    have hx0 : p.wide - p.tl ≠ 0 := by omega
    have hx0' := eq_false hx0
    have hq : 0 ≤ Int.tdiv (A + (p.wide - p.tl) - 1) (p.wide - p.tl) ∧ Int.tdiv (A + (p.wide - p.tl) - 1) (p.wide - p.tl) ≤ 1300000 := by
      rw [Int.tdiv_eq_ediv_of_nonneg (by omega)]
      exact ⟨Int.ediv_nonneg (by omega) (by omega), Int.le_trans (Int.ediv_le_self _ (by omega)) (by omega)⟩
    have hq2 : 0 ≤ Int.tdiv (B + 2 - 1) 2 ∧ Int.tdiv (B + 2 - 1) 2 ≤ 100 := by
      rw [Int.tdiv_eq_ediv_of_nonneg (by omega)]; omega
    have w3 : IntKind.i64.wrap (A + (p.wide - p.tl)) = A + (p.wide - p.tl) := IntWalk.i64_in _ (by omega)
    have w4 : IntKind.i64.wrap (A + (p.wide - p.tl) - 1) = A + (p.wide - p.tl) - 1 := IntWalk.i64_in _ (by omega)
    generalize hQ : Int.tdiv (A + (p.wide - p.tl) - 1) (p.wide - p.tl) = q at *
    generalize hQ2 : Int.tdiv (B + 2 - 1) 2 = q2 at *
    have m1 : 0 ≤ p.tl * q := Int.mul_nonneg htr.1 hq.1
    have m2 : p.tl * q ≤ 3000 * q := Int.mul_le_mul_of_nonneg_right (by omega) hq.1
    have w5 : IntKind.i64.wrap (p.tl * q) = p.tl * q := IntWalk.i64_in _ (by omega)
    repeat' (first
    | (with_reducible first | refine DW.seq ?_ | refine DW.block ?_ | refine DW.skip ?_ | refine DW.exit ?_ | refine DW.ret ?_ | refine DW.reg ?_)
    | (refine DW.dreg rfl (WF.of ?_) ?_; first | rfl | skip)
    | (simp (disch := omega) only [go_sem, simprocAttr, Blk.men, Blk.keysIn, hdl, w3, w4, hx0', hQ, hQ2, w5])
    | (exact retS_of rfl rfl rfl)
    | (refine DW.cond_tt rfl ?_)
    | (refine DW.cond_ff rfl ?_)
    | (refine DW.cond rfl ?_ ?_ <;> intro hc <;> (try simp only [go_sem] at hc))
    | (refine g_split ?_ ?_ <;> intro hc <;> (try simp only [hc]) <;> (try simp only [go_sem] at hc)))
end Go.Dw.Seat
end
section
set_option linter.unusedSimpArgs false
set_option maxRecDepth 100000
namespace Go.Dw.Seat
open Go Go.Dw Go.Proofs Go.IntWalk
def knOk (l : List Int) : Bool := wthn 0 3000 l && (srt l && decide ((cpt l).length = l.length))
set_option maxHeartbeats 1000000 in
theorem trAreKnives (b : Bool) (l : List Int) (hl : l.length ≤ 2 ^ 36) : DCall Try.prog 59 [dIs b l] [] (bD (knOk l)) [] := by
  have h1 := trWithin b 0 3000 l hl
  have h2 := c116 b l hl
  cases e1 : wthn 0 3000 l <;> rw [e1] at h1
  · have hE : knOk l = false := by rw [knOk, e1]; rfl
    rw [hE]
    refine DCall.of Try.func59 sf59 hb59 (Nat.le_of_ble_eq_true rfl) (okRes_nil fun _ => rfl) ?_; simp only [s59, idxs, Nat.reduceAdd]
    repeat' (first
    | (with_reducible first | refine DW.seq ?_ | refine DW.block ?_ | refine DW.skip ?_ | refine DW.exit ?_ | refine DW.ret ?_ | refine DW.reg ?_)
    | (simp (disch := omega) only [go_sem, simprocAttr, Blk.men, Blk.keysIn])
    | (exact retS_of rfl rfl rfl)
    | (refine DW.cond_tt rfl ?_)
    | (refine call_c (h1) (by decide) ?_)
    | (refine DW.cond_ff rfl ?_)
    | (refine DW.cond rfl ?_ ?_ <;> intro hc <;> (try simp only [go_sem] at hc))
    | (refine g_split ?_ ?_ <;> intro hc <;> (try simp only [hc]) <;> (try simp only [go_sem] at hc)))
  cases e2 : srt l <;> rw [e2] at h2
  · have hE : knOk l = false := by rw [knOk, e1, e2]; rfl
    rw [hE]
    refine DCall.of Try.func59 sf59 hb59 (Nat.le_of_ble_eq_true rfl) (okRes_nil fun _ => rfl) ?_; simp only [s59, idxs, Nat.reduceAdd]
    repeat' (first
    | (with_reducible first | refine DW.seq ?_ | refine DW.block ?_ | refine DW.skip ?_ | refine DW.exit ?_ | refine DW.ret ?_ | refine DW.reg ?_)
    | (simp (disch := omega) only [go_sem, simprocAttr, Blk.men, Blk.keysIn])
    | (exact retS_of rfl rfl rfl)
    | (refine DW.cond_tt rfl ?_)
    | (refine call_c (h1) (by decide) ?_)
    | (refine call_c (h2) (by decide) ?_)
    | (refine DW.cond_ff rfl ?_)
    | (refine DW.cond rfl ?_ ?_ <;> intro hc <;> (try simp only [go_sem] at hc))
    | (refine g_split ?_ ?_ <;> intro hc <;> (try simp only [hc]) <;> (try simp only [go_sem] at hc)))
  have hE : knOk l = decide ((cpt l).length = l.length) := by rw [knOk, e1, e2]; rfl
  rw [hE]
  have hc117 := ((c117 l hl).rekey (fun _ => rfl) 11).rename 12
  have hb : (((cpt l).length : Int) == (l.length : Int)) = decide ((cpt l).length = l.length) := by rw [Bool.eq_iff_iff, beq_iff_eq, decide_eq_true_eq]; omega
  refine DCall.of Try.func59 sf59 hb59 (Nat.le_of_ble_eq_true rfl) (okRes_nil fun _ => rfl) ?_; simp only [s59, idxs, Nat.reduceAdd]
  repeat' (first
    | (with_reducible first | refine DW.seq ?_ | refine DW.block ?_ | refine DW.skip ?_ | refine DW.exit ?_ | refine DW.ret ?_ | refine DW.reg ?_)
    | (simp (disch := omega) only [go_sem, simprocAttr, Blk.men, Blk.keysIn])
    | (exact retS_of rfl rfl rfl)
    | (refine DW.cond_tt rfl ?_)
    | (refine call_c (h1) (by decide) ?_)
    | (refine call_c (h2) (by decide) ?_)
    | (refine DW.cond_ff rfl ?_)
    | (refine DW.cond rfl ?_ ?_ <;> intro hc <;> (try simp only [go_sem] at hc))
    | (refine g_split ?_ ?_ <;> intro hc <;> (try simp only [hc]) <;> (try simp only [go_sem] at hc)))
  (refine call_r (c106 b l hl 11) (by decide) (by first | rfl | simp (disch := omega) only [go_sem, simprocAttr, Blk.men, Blk.keysIn]) (by first | rfl | simp (disch := omega) only [go_sem, simprocAttr, Blk.men, Blk.keysIn]) ?_; simp (disch := omega) only [go_sem, simprocAttr, Blk.men, Blk.keysIn])
  refine call_m 11 hc117 rfl rfl rfl (by decide) rfl (by rfl) ?_
  simp (disch := omega) only [go_sem, simprocAttr, Blk.men, Blk.keysIn, hb]
  repeat' (first
    | (with_reducible first | refine DW.seq ?_ | refine DW.block ?_ | refine DW.skip ?_ | refine DW.exit ?_ | refine DW.ret ?_ | refine DW.reg ?_)
    | (simp (disch := omega) only [go_sem, simprocAttr, Blk.men, Blk.keysIn, hb])
    | (exact retS_of rfl rfl rfl)
    | (refine DW.cond_tt rfl ?_)
    | (refine DW.cond_ff rfl ?_)
    | (refine DW.cond rfl ?_ ?_ <;> intro hc <;> (try simp only [go_sem] at hc))
    | (refine g_split ?_ ?_ <;> intro hc <;> (try simp only [hc]) <;> (try simp only [go_sem] at hc)))
end Go.Dw.Seat
end
section
set_option linter.unusedSimpArgs false
set_option maxRecDepth 100000
namespace Go.Dw.Seat
open Go Go.Dw Go.Proofs Go.IntWalk
def atI (s : List Int) (a : Nat) : Int := (s[a]?).getD 0
def edI (s t : List Int) : Nat → Nat → Int
  | 0, b => (b : Int) * 500
  | a + 1, 0 => ((a + 1 : Nat) : Int) * 500
  | a + 1, b + 1 => min (min (edI s t a b + (max (atI s a) (atI t b) - min (atI s a) (atI t b))) (edI s t a (b + 1) + 500)) (edI s t (a + 1) b + 500)
termination_by a b => (a, b)
theorem edI_b {s t : List Int} (hs : ∀ x ∈ s, 0 ≤ x ∧ x ≤ 3000) (ht : ∀ x ∈ t, 0 ≤ x ∧ x ≤ 3000) : ∀ (a b : Nat), 0 ≤ edI s t a b ∧ edI s t a b ≤ 500 * ((a : Int) + b)
  | 0, b => by rw [edI]; omega
  | a + 1, 0 => by rw [edI]; omega
  | a + 1, b + 1 => by
    have h1 := edI_b hs ht a b
    have h2 := edI_b hs ht a (b + 1)
    have h3 := edI_b hs ht (a + 1) b
    rw [edI]
    omega
termination_by a b => (a, b)
def gridI (s t : List Int) (a b : Nat) : List Int := (List.range 121).map fun i => if i % 11 ≤ t.length ∧ (i / 11 < a ∨ (i / 11 = a ∧ i % 11 < b)) then edI s t (i / 11) (i % 11) else 0
theorem gridI_len (s t : List Int) (a b : Nat) : (gridI s t a b).length = 121 := by simp [gridI]
theorem gridI_zero (s t : List Int) : gridI s t 0 0 = List.replicate 121 0 := by
  have h : gridI s t 0 0 = (List.range 121).map fun _ => (0 : Int) := by
    unfold gridI
    apply List.map_congr_left
    intro i _
    rw [if_neg (by omega)]
  rw [h]; rfl
theorem gridI_get {s t : List Int} {a b x y : Nat} (hx : x ≤ 10) (hy : y ≤ t.length) (ht : t.length ≤ 10) (h : x < a ∨ (x = a ∧ y < b)) : (gridI s t a b)[x * 11 + y]? = some (edI s t x y) := by
  have e1 : (x * 11 + y) / 11 = x := by omega
  have e2 : (x * 11 + y) % 11 = y := by omega
  rw [gridI, List.getElem?_map, List.getElem?_range (by omega), Option.map_some, e1, e2, if_pos ⟨hy, h⟩]
theorem gridI_set {s t : List Int} {a b : Nat} (ha : a ≤ 10) (hb : b ≤ t.length) (ht : t.length ≤ 10) : (gridI s t a b).set (a * 11 + b) (edI s t a b) = gridI s t a (b + 1) := by
  apply List.ext_getElem?
  intro i
  rw [List.getElem?_set]
  by_cases hi : i < 121
  · by_cases he : a * 11 + b = i
    · rw [if_pos he, if_pos (by rw [gridI_len]; omega)]
      subst he
      rw [gridI_get ha hb ht (.inr ⟨rfl, by omega⟩)]
    · rw [if_neg he, gridI, gridI, List.getElem?_map, List.getElem?_map, List.getElem?_range hi, Option.map_some, Option.map_some]
      congr 1
      have : (i % 11 ≤ t.length ∧ (i / 11 < a ∨ (i / 11 = a ∧ i % 11 < b))) ↔ (i % 11 ≤ t.length ∧ (i / 11 < a ∨ (i / 11 = a ∧ i % 11 < b + 1))) := by omega
      simp only [this]
  · rw [if_neg (by omega), List.getElem?_eq_none (by rw [gridI_len]; omega), List.getElem?_eq_none (by rw [gridI_len]; omega)]
theorem gridI_row (s t : List Int) (a : Nat) (ht : t.length ≤ 10) : gridI s t a (t.length + 1) = gridI s t (a + 1) 0 := by
  unfold gridI
  apply List.map_congr_left
  intro i _
  have : (i % 11 ≤ t.length ∧ (i / 11 < a ∨ (i / 11 = a ∧ i % 11 < t.length + 1))) ↔ (i % 11 ≤ t.length ∧ (i / 11 < a + 1 ∨ (i / 11 = a + 1 ∧ i % 11 < 0))) := by omega
  simp only [this]
abbrev gridB (g : List Int) : Blk := .box (g.map dI)
theorem setAt_map (g : List Int) (off : Nat) (v : Int) (h : off < g.length) : setAt (g.map dI) off [dI v] = (g.set off v).map dI := by
  rw [setAt, List.map_set, List.set_eq_take_append_cons_drop, if_pos (by simpa using h)]
  simp
theorem ty113z : tyI Try.prog 113 = some ⟨true, 121, List.replicate 121 (.int .i64 0), 968⟩ := by kernel_rfl
theorem keys_dI (bx : List (Nat × Blk)) : ∀ l : List Int, D.keysIns bx (l.map dI) = true
  | [] => rfl
  | _ :: l => keys_dI bx l
theorem splice {g : List Int} {off : Nat} (v : Int) (h : off < g.length) : List.take off (g.map dI) ++ [D.c (.v (.int .i64 v))] ++ List.drop (off + 1) (g.map dI) = (g.set off v).map dI := setAt_map g off v h
def chgE (s t : List Int) : Int := if 10 < s.length ∨ 10 < t.length then 5 else if knOk s = false ∨ knOk t = false then 4 else 0
def chgI (s t : List Int) : Int := if chgE s t = 0 then edI s t s.length t.length else 0
set_option maxHeartbeats 2000000 in
theorem trChangeE (b1 b2 : Bool) (s t : List Int) (hs : s.length ≤ 2 ^ 36) (ht : t.length ≤ 2 ^ 36) (he : chgE s t ≠ 0) : DCall Try.prog 17 [dIs b1 s, dIs b2 t] [] (.tup [dI 0, dI (chgE s t)]) [] := by
  have h1 := trAreKnives b1 s hs
  have h2 := trAreKnives b2 t ht
  unfold chgE at he ⊢
  by_cases l1 : 10 < s.length
  · have hd1 : decide ((10 : Int) < (s.length : Int)) = true := decide_eq_true (by omega)
    rw [if_pos (.inl l1)]
    refine DCall.of Try.func17 sf17 hb17 (Nat.le_of_ble_eq_true rfl) (okRes_nil fun _ => rfl) ?_; simp only [s17, idxs, Nat.reduceAdd]
    repeat' (first
    | (with_reducible first | refine DW.seq ?_ | refine DW.block ?_ | refine DW.skip ?_ | refine DW.exit ?_ | refine DW.ret ?_ | refine DW.reg ?_)
    | (refine DW.dreg rfl (WF.of ?_) ?_; first | rfl | skip)
    | (simp (disch := omega) only [go_sem, simprocAttr, Blk.men, Blk.keysIn, hd1])
    | (exact retS_of rfl rfl rfl)
    | (refine DW.cond_tt rfl ?_)
    | (refine DW.cond_ff rfl ?_)
    | (refine DW.cond rfl ?_ ?_ <;> intro hc <;> (try simp only [go_sem] at hc))
    | (refine g_split ?_ ?_ <;> intro hc <;> (try simp only [hc]) <;> (try simp only [go_sem] at hc)))
  have hd1 : decide ((10 : Int) < (s.length : Int)) = false := decide_eq_false (by omega)
  by_cases l2 : 10 < t.length
  · have hd2 : decide ((10 : Int) < (t.length : Int)) = true := decide_eq_true (by omega)
    rw [if_pos (.inr l2)]
    refine DCall.of Try.func17 sf17 hb17 (Nat.le_of_ble_eq_true rfl) (okRes_nil fun _ => rfl) ?_; simp only [s17, idxs, Nat.reduceAdd]
    repeat' (first
    | (with_reducible first | refine DW.seq ?_ | refine DW.block ?_ | refine DW.skip ?_ | refine DW.exit ?_ | refine DW.ret ?_ | refine DW.reg ?_)
    | (refine DW.dreg rfl (WF.of ?_) ?_; first | rfl | skip)
    | (simp (disch := omega) only [go_sem, simprocAttr, Blk.men, Blk.keysIn, hd1, hd2])
    | (exact retS_of rfl rfl rfl)
    | (refine DW.cond_tt rfl ?_)
    | (refine DW.cond_ff rfl ?_)
    | (refine DW.cond rfl ?_ ?_ <;> intro hc <;> (try simp only [go_sem] at hc))
    | (refine g_split ?_ ?_ <;> intro hc <;> (try simp only [hc]) <;> (try simp only [go_sem] at hc)))
  have hd2 : decide ((10 : Int) < (t.length : Int)) = false := decide_eq_false (by omega)
  rw [if_neg (by omega)] at he ⊢
  cases e1 : knOk s <;> rw [e1] at h1
  · rw [if_pos (.inl rfl)]
    refine DCall.of Try.func17 sf17 hb17 (Nat.le_of_ble_eq_true rfl) (okRes_nil fun _ => rfl) ?_; simp only [s17, idxs, Nat.reduceAdd]
    repeat' (first
    | (with_reducible first | refine DW.seq ?_ | refine DW.block ?_ | refine DW.skip ?_ | refine DW.exit ?_ | refine DW.ret ?_ | refine DW.reg ?_)
    | (refine DW.dreg rfl (WF.of ?_) ?_; first | rfl | skip)
    | (simp (disch := omega) only [go_sem, simprocAttr, Blk.men, Blk.keysIn, hd1, hd2])
    | (exact retS_of rfl rfl rfl)
    | (refine DW.cond_tt rfl ?_)
    | (refine call_c (h1) (by decide) ?_)
    | (refine DW.cond_ff rfl ?_)
    | (refine DW.cond rfl ?_ ?_ <;> intro hc <;> (try simp only [go_sem] at hc))
    | (refine g_split ?_ ?_ <;> intro hc <;> (try simp only [hc]) <;> (try simp only [go_sem] at hc)))
  cases e2 : knOk t <;> rw [e2] at h2
  · rw [if_pos (.inr rfl)]
    refine DCall.of Try.func17 sf17 hb17 (Nat.le_of_ble_eq_true rfl) (okRes_nil fun _ => rfl) ?_; simp only [s17, idxs, Nat.reduceAdd]
    repeat' (first
    | (with_reducible first | refine DW.seq ?_ | refine DW.block ?_ | refine DW.skip ?_ | refine DW.exit ?_ | refine DW.ret ?_ | refine DW.reg ?_)
    | (refine DW.dreg rfl (WF.of ?_) ?_; first | rfl | skip)
    | (simp (disch := omega) only [go_sem, simprocAttr, Blk.men, Blk.keysIn, hd1, hd2])
    | (exact retS_of rfl rfl rfl)
    | (refine DW.cond_tt rfl ?_)
    | (refine call_c (h1) (by decide) ?_)
    | (refine call_c (h2) (by decide) ?_)
    | (refine DW.cond_ff rfl ?_)
    | (refine DW.cond rfl ?_ ?_ <;> intro hc <;> (try simp only [go_sem] at hc))
    | (refine g_split ?_ ?_ <;> intro hc <;> (try simp only [hc]) <;> (try simp only [go_sem] at hc)))
  · rw [e1, e2] at he
    simp at he
set_option maxHeartbeats 4000000 in
theorem trChange (b1 b2 : Bool) (s t : List Int) (he : chgE s t = 0) : DCall Try.prog 17 [dIs b1 s, dIs b2 t] [] (.tup [dI (edI s t s.length t.length), dI 0]) [] := by
  unfold chgE at he
  split at he
  · cases he
  rename_i hl
  split at he
  · cases he
  rename_i hk
  clear he
  simp only [not_or, Bool.not_eq_false, Nat.not_lt] at hl hk
  obtain ⟨l1, l2⟩ := hl
  have h1 := trAreKnives b1 s (by omega)
  have h2 := trAreKnives b2 t (by omega)
  rw [hk.1] at h1
  rw [hk.2] at h2
  have hd1 : decide ((10 : Int) < (s.length : Int)) = false := decide_eq_false (by omega)
  have hd2 : decide ((10 : Int) < (t.length : Int)) = false := decide_eq_false (by omega)
  refine DCall.of Try.func17 sf17 hb17 (Nat.le_of_ble_eq_true rfl) (okRes_nil fun _ => rfl) ?_; simp only [s17, idxs, Nat.reduceAdd]
  have hz : gridB (gridI s t 0 0) = gridB (List.replicate 121 0) := by rw [gridI_zero]
  have hsb := wthn_all (show wthn 0 3000 s = true by have := hk.1; simp only [knOk, Bool.and_eq_true] at this; exact this.1)
  have htb := wthn_all (show wthn 0 3000 t = true by have := hk.2; simp only [knOk, Bool.and_eq_true] at this; exact this.1)
  clear hk
  repeat' (first
    | (with_reducible first | refine DW.seq ?_ | refine DW.block ?_ | refine DW.skip ?_ | refine DW.exit ?_ | refine DW.ret ?_ | refine DW.reg ?_)
    | (refine DW.dreg rfl (WF.of ?_) ?_; first | rfl | skip)
    | (simp (disch := omega) only [go_sem, simprocAttr, Blk.men, Blk.keysIn, hd1, hd2, ty113z])
    | (exact retS_of rfl rfl rfl)
    | (refine DW.cond_tt rfl ?_)
    | (refine call_c (h1) (by decide) ?_)
    | (refine call_c (h2) (by decide) ?_)
    | (refine DW.cond_ff rfl ?_)
    | (refine DW.cond rfl ?_ ?_ <;> intro hc <;> (try simp only [go_sem] at hc))
    | (refine g_split ?_ ?_ <;> intro hc <;> (try simp only [hc]) <;> (try simp only [go_sem] at hc)))
  clear h1 h2
  refine DW.loop (ι := { a : Nat // a ≤ s.length + 1 }) (fun a => ⟨114, [(27, dI a.1), (26, dI ((s.length : Int) + 1)), (6, .box 6 0), (0, dIs b1 s), (1, dIs b2 t)], [(6, gridB (gridI s t a.1 0))]⟩) (fun a => s.length + 1 - a.1) ⟨0, Nat.zero_le _⟩ ?_ ?_
  · refine Ent.to ?_ ?_ <;> simp (disch := omega) only [wkT_cons, wkX_cons, wkT_nil, wkX_nil, get, Nat.reduceEqDiff, ↓reduceIte, ex_some, wk_self, wk_top, wk_nil, wkB_self, and_self, dI, i64_in, and_true, true_and, Int.natCast_add, Int.natCast_one, Int.ofNat_zero, Int.natCast_zero]
    all_goals first | exact ⟨.refl _, .refl _⟩ | exact .refl _ | (rw [hz]; exact .refl _)
  clear hz
  rintro ⟨a, ha⟩
  dsimp only
  by_cases hal : a ≤ s.length
  · have hda : decide ((a : Int) < (s.length : Int) + 1) = true := decide_eq_true (by omega)
    repeat' (first
    | (with_reducible first | refine DW.seq ?_ | refine DW.block ?_ | refine DW.skip ?_ | refine DW.exit ?_ | refine DW.ret ?_ | refine DW.reg ?_)
    | (refine DW.dreg rfl (WF.of ?_) ?_; first | rfl | skip)
    | (simp (disch := omega) only [go_sem, simprocAttr, Blk.men, Blk.keysIn, hda])
    | (exact retS_of rfl rfl rfl)
    | (refine DW.cond_tt rfl ?_)
    | (refine DW.cond_ff rfl ?_)
    | (refine DW.cond rfl ?_ ?_ <;> intro hc <;> (try simp only [go_sem] at hc))
    | (refine g_split ?_ ?_ <;> intro hc <;> (try simp only [hc]) <;> (try simp only [go_sem] at hc)))
    refine DW.loop (ι := { b : Nat // b ≤ t.length + 1 }) (fun b => ⟨114, [(33, dI b.1), (32, dI ((t.length : Int) + 1)), (27, dI a), (26, dI ((s.length : Int) + 1)), (7, dI a), (6, .box 6 0), (0, dIs b1 s), (1, dIs b2 t)], [(6, gridB (gridI s t a b.1))]⟩) (fun b => t.length + 1 - b.1) ⟨0, Nat.zero_le _⟩ ?_ ?_
    · refine Ent.to ?_ ?_ <;> simp (disch := omega) only [wkT_cons, wkX_cons, wkT_nil, wkX_nil, get, Nat.reduceEqDiff, ↓reduceIte, ex_some, wk_self, wk_top, wk_nil, wkB_self, and_self, dI, i64_in, and_true, true_and, Int.natCast_add, Int.natCast_one, Int.ofNat_zero, Int.natCast_zero]
      all_goals first | exact ⟨.refl _, .refl _⟩ | exact .refl _
    rintro ⟨b, hb⟩
    dsimp only
    by_cases hbl : b ≤ t.length
    · have hdb : decide ((b : Int) < (t.length : Int) + 1) = true := decide_eq_true (by omega)
      have hset := gridI_set (s := s) (t := t) (a := a) (b := b) (by omega) hbl l2
      have hlen := gridI_len s t a b
      rcases a with _ | a
      · have he0 : edI s t 0 b = (b : Int) * 500 := by rw [edI]
        have b11 := eq_true (show (b : Int) < 11 by omega)
        have hle := eq_true (show b + 1 ≤ 121 by omega)
        have hsp := splice (g := gridI s t 0 b) (off := b) ((b : Int) * 500) (by omega)
        rw [Nat.zero_mul, Nat.zero_add, he0] at hset
        rw [hset] at hsp
        repeat' (first
    | (with_reducible first | refine DW.seq ?_ | refine DW.block ?_ | refine DW.skip ?_ | refine DW.exit ?_ | refine DW.ret ?_ | refine DW.reg ?_)
    | (refine DW.dreg rfl (WF.of ?_) ?_; first | rfl | skip)
    | (simp (disch := omega) only [go_sem, simprocAttr, Blk.men, Blk.keysIn, hdb, hlen, List.length_map, b11, gridB, Nat.mul_one, hle, hsp])
    | (exact retS_of rfl rfl rfl)
    | (refine DW.cond_tt rfl ?_)
    | (refine DW.cond_ff rfl ?_)
    | (refine DW.cond rfl ?_ ?_ <;> intro hc <;> (try simp only [go_sem] at hc))
    | (refine g_split ?_ ?_ <;> intro hc <;> (try simp only [hc]) <;> (try simp only [go_sem] at hc)))
        refine ⟨⟨b + 1, by omega⟩, ?_, Ent.to ?_ ?_⟩ <;> first | (show _ < _; (try simp only); omega) | (simp (disch := omega) only [wkT_cons, wkX_cons, wkT_nil, wkX_nil, get, Nat.reduceEqDiff, ↓reduceIte, ex_some, wk_self, wk_top, wk_nil, wkB_self, and_self, dI, i64_in, and_true, true_and, Int.natCast_add, Int.natCast_one, Int.ofNat_zero, Int.natCast_zero])
        all_goals first | exact ⟨.refl _, .refl _⟩ | exact .refl _
      · have ha0 : (((a + 1 : Nat) : Int) == 0) = false := by rw [beq_eq_false_iff_ne]; omega
        rcases b with _ | b
        · have he0 : edI s t (a + 1) 0 = ((a + 1 : Nat) : Int) * 500 := by rw [edI]
          have a11 := eq_true (show ((a + 1 : Nat) : Int) < 11 by omega)
          have hle := eq_true (show (a + 1) * 11 + 1 ≤ 121 by omega)
          have hd0 : decide ((0 : Int) < (t.length : Int) + 1) = true := decide_eq_true (by omega)
          have hsp := splice (g := gridI s t (a + 1) 0) (off := (a + 1) * 11) (((a + 1 : Nat) : Int) * 500) (by omega)
          rw [he0] at hset
          have hset' : (gridI s t (a + 1) 0).set ((a + 1) * 11) (((a + 1 : Nat) : Int) * 500) = gridI s t (a + 1) 1 := hset
          rw [hset'] at hsp
          repeat' (first
    | (with_reducible first | refine DW.seq ?_ | refine DW.block ?_ | refine DW.skip ?_ | refine DW.exit ?_ | refine DW.ret ?_ | refine DW.reg ?_)
    | (refine DW.dreg rfl (WF.of ?_) ?_; first | rfl | skip)
    | (simp (disch := omega) only [go_sem, simprocAttr, Blk.men, Blk.keysIn, hd0, ha0, hlen, List.length_map, a11, gridB, hle, hsp])
    | (exact retS_of rfl rfl rfl)
    | (refine DW.cond_tt rfl ?_)
    | (refine DW.cond_ff rfl ?_)
    | (refine DW.cond rfl ?_ ?_ <;> intro hc <;> (try simp only [go_sem] at hc))
    | (refine g_split ?_ ?_ <;> intro hc <;> (try simp only [hc]) <;> (try simp only [go_sem] at hc)))
          refine ⟨⟨1, by omega⟩, ?_, Ent.to ?_ ?_⟩ <;> first | (show _ < _; (try simp only); omega) | (simp (disch := omega) only [wkT_cons, wkX_cons, wkT_nil, wkX_nil, get, Nat.reduceEqDiff, ↓reduceIte, ex_some, wk_self, wk_top, wk_nil, wkB_self, and_self, dI, i64_in, and_true, true_and, Int.natCast_add, Int.natCast_one, Int.ofNat_zero, Int.natCast_zero])
          all_goals first | exact ⟨.refl _, .refl _⟩ | exact .refl _
        · have hb0 : (((b + 1 : Nat) : Int) == 0) = false := by rw [beq_eq_false_iff_ne]; omega
          have a11 := eq_true (show ((a + 1 : Nat) : Int) < 11 by omega)
          have b11 := eq_true (show ((b + 1 : Nat) : Int) < 11 by omega)
          have a11' := eq_true (show (a : Int) < 11 by omega)
          have b11' := eq_true (show (b : Int) < 11 by omega)
          have ea : ((a + 1 : Nat) : Int) - 1 = (a : Int) := by omega
          have eb : ((b + 1 : Nat) : Int) - 1 = (b : Int) := by omega
          obtain ⟨x, hx⟩ := getE (l := s) (i := a) (by omega)
          obtain ⟨y, hy⟩ := getE (l := t) (i := b) (by omega)
          have hxb := hsb x (List.mem_of_getElem? hx)
          have hyb := htb y (List.mem_of_getElem? hy)
          have q1 := gridI_get (s := s) (t := t) (a := a + 1) (b := b + 1) (x := a) (y := b) (by omega) (by omega) l2 (.inl (by omega))
          have q2 := gridI_get (s := s) (t := t) (a := a + 1) (b := b + 1) (x := a) (y := b + 1) (by omega) (by omega) l2 (.inl (by omega))
          have q3 := gridI_get (s := s) (t := t) (a := a + 1) (b := b + 1) (x := a + 1) (y := b) (by omega) (by omega) l2 (.inr (by omega))
          have c1 := edI_b hsb htb a b
          have c2 := edI_b hsb htb a (b + 1)
          have c3 := edI_b hsb htb (a + 1) b
          have he := (show edI s t (a + 1) (b + 1) = _ by rw [edI])
          have ax : atI s a = x := by rw [atI, hx]; rfl
          have by' : atI t b = y := by rw [atI, hy]; rfl
          rw [ax, by'] at he
          have hmx : (if x < y then y else x) = max x y := by split <;> omega
          have hmn : (if y < x then y else x) = min x y := by split <;> omega
          have hw : IntKind.i64.wrap (max x y - min x y) = max x y - min x y := IntWalk.i64_in _ (by omega)
          have hD : 0 ≤ max x y - min x y ∧ max x y - min x y ≤ 3000 := by omega
          generalize edI s t a b = v1 at *
          generalize edI s t a (b + 1) = v2 at *
          generalize edI s t (a + 1) b = v3 at *
          generalize hDD : max x y - min x y = dd at *
          have hle := eq_true (show (a + 1) * 11 + (b + 1) + 1 ≤ 121 by omega)
          have hsp := splice (g := gridI s t (a + 1) (b + 1)) (off := (a + 1) * 11 + (b + 1)) (edI s t (a + 1) (b + 1)) (by omega)
          rw [hset, he] at hsp
          have hm3 : (if v3 + 500 < (if v2 + 500 < v1 + dd then v2 + 500 else v1 + dd) then v3 + 500 else (if v2 + 500 < v1 + dd then v2 + 500 else v1 + dd)) = min (min (v1 + dd) (v2 + 500)) (v3 + 500) := by
            clear hsp he hset
            split <;> (try split) <;> (try split at *) <;> omega
          repeat' (first
    | (with_reducible first | refine DW.seq ?_ | refine DW.block ?_ | refine DW.skip ?_ | refine DW.exit ?_ | refine DW.ret ?_ | refine DW.reg ?_)
    | (refine DW.dreg rfl (WF.of ?_) ?_; first | rfl | skip)
    | (simp (disch := omega) only [go_sem, simprocAttr, Blk.men, Blk.keysIn, hdb, ha0, hb0, hm3, hsp, keys_dI, hlen, List.length_map, List.getElem?_map, Nat.mul_one, a11, b11, a11', b11', ea, eb, hx, hy, q1, q2, q3, hmx, hmn, hw, hDD, gridB, hle, List.map_cons, List.map_nil])
    | (exact retS_of rfl rfl rfl)
    | (refine DW.cond_tt rfl ?_)
    | (refine DW.cond_ff rfl ?_)
    | (refine DW.cond rfl ?_ ?_ <;> intro hc <;> (try simp only [go_sem] at hc))
    | (refine g_split ?_ ?_ <;> intro hc <;> (try simp only [hc]) <;> (try simp only [go_sem] at hc)))
          refine ⟨⟨b + 1 + 1, by omega⟩, ?_, Ent.to ?_ ?_⟩ <;> first | (show _ < _; (try simp only); omega) | (simp (disch := omega) only [wkT_cons, wkX_cons, wkT_nil, wkX_nil, get, Nat.reduceEqDiff, ↓reduceIte, ex_some, wk_self, wk_top, wk_nil, wkB_self, and_self, dI, i64_in, and_true, true_and, Int.natCast_add, Int.natCast_one, Int.ofNat_zero, Int.natCast_zero])
          all_goals first | exact ⟨.refl _, .refl _⟩ | exact .refl _
    · have hdb : decide ((b : Int) < (t.length : Int) + 1) = false := decide_eq_false (by omega)
      have hbe : b = t.length + 1 := by omega
      subst hbe
      have hrow := gridI_row s t a l2
      repeat' (first
    | (with_reducible first | refine DW.seq ?_ | refine DW.block ?_ | refine DW.skip ?_ | refine DW.exit ?_ | refine DW.ret ?_ | refine DW.reg ?_)
    | (refine DW.dreg rfl (WF.of ?_) ?_; first | rfl | skip)
    | (simp (disch := omega) only [go_sem, simprocAttr, Blk.men, Blk.keysIn, hdb])
    | (exact retS_of rfl rfl rfl)
    | (refine DW.cond_tt rfl ?_)
    | (refine DW.cond_ff rfl ?_)
    | (refine DW.cond rfl ?_ ?_ <;> intro hc <;> (try simp only [go_sem] at hc))
    | (refine g_split ?_ ?_ <;> intro hc <;> (try simp only [hc]) <;> (try simp only [go_sem] at hc)))
      refine ⟨⟨a + 1, by omega⟩, ?_, Ent.to ?_ ?_⟩ <;> first | (show _ < _; (try simp only); omega) | (simp (disch := omega) only [wkT_cons, wkX_cons, wkT_nil, wkX_nil, get, Nat.reduceEqDiff, ↓reduceIte, ex_some, wk_self, wk_top, wk_nil, wkB_self, and_self, dI, i64_in, and_true, true_and, Int.natCast_add, Int.natCast_one, Int.ofNat_zero, Int.natCast_zero,  hrow])
      all_goals first | exact ⟨.refl _, .refl _⟩ | exact .refl _
  · have hda : decide ((a : Int) < (s.length : Int) + 1) = false := decide_eq_false (by omega)
    have hae : a = s.length + 1 := by omega
    subst hae
    have hg := gridI_get (s := s) (t := t) (a := s.length + 1) (b := 0) (x := s.length) (y := t.length) l1 (Nat.le_refl _) l2 (.inl (by omega))
    have s11 := eq_true (show (s.length : Int) < 11 by omega)
    have t11 := eq_true (show (t.length : Int) < 11 by omega)
    repeat' (first
    | (with_reducible first | refine DW.seq ?_ | refine DW.block ?_ | refine DW.skip ?_ | refine DW.exit ?_ | refine DW.ret ?_ | refine DW.reg ?_)
    | (refine DW.dreg rfl (WF.of ?_) ?_; first | rfl | skip)
    | (simp (disch := omega) only [go_sem, simprocAttr, Blk.men, Blk.keysIn, hda, List.getElem?_map, hg, s11, t11, gridB, Nat.mul_one])
    | (exact retS_of rfl rfl rfl)
    | (refine DW.cond_tt rfl ?_)
    | (refine DW.cond_ff rfl ?_)
    | (refine DW.cond rfl ?_ ?_ <;> intro hc <;> (try simp only [go_sem] at hc))
    | (refine g_split ?_ ?_ <;> intro hc <;> (try simp only [hc]) <;> (try simp only [go_sem] at hc)))
theorem trChangeX (b1 b2 : Bool) (s t : List Int) (hs : s.length ≤ 2 ^ 36) (ht : t.length ≤ 2 ^ 36) : DCall Try.prog 17 [dIs b1 s, dIs b2 t] [] (.tup [dI (chgI s t), dI (chgE s t)]) [] := by
  by_cases h : chgE s t = 0
  · rw [chgI, if_pos h, h]
    exact trChange b1 b2 s t h
  · rw [chgI, if_neg h]
    exact trChangeE b1 b2 s t hs ht h
end Go.Dw.Seat
end
section
set_option linter.unusedSimpArgs false
set_option maxRecDepth 100000
namespace Go.Dw.Seat
open Go Go.Dw Go.Proofs Go.IntWalk
def sheetsE (x m o : Int) : Int := if wthn 100 5000 [x] = false then 2 else if (wthn 0 30 [m] && wthn 0 20 [o]) = false then 3 else 0
def sheetsI (x m o : Int) : Int × Int := if sheetsE x m o = 0 then (Int.tdiv (m * 100000) (x + o), Int.tdiv (m * 100000) (x - o)) else (0, 0)
set_option maxHeartbeats 1000000 in
theorem trSheets (x m o : Int) : DCall Try.prog 38 [dI x, dI m, dI o] [] (.tup [.agg [dI (sheetsI x m o).1, dI (sheetsI x m o).2], dI (sheetsE x m o)]) [] := by
  have h1 := trWithin true 100 5000 [x] (by simp)
  have h2 := trWithin true 0 30 [m] (by simp)
  have h3 := trWithin true 0 20 [o] (by simp)
  cases e1 : wthn 100 5000 [x] <;> rw [e1] at h1
  · have hE : sheetsE x m o = 2 := if_pos e1
    rw [sheetsI, hE, if_neg (by decide)]
    refine DCall.of Try.func38 sf38 hb38 (Nat.le_of_ble_eq_true rfl) (okRes_nil fun _ => rfl) ?_; simp only [s38, idxs, Nat.reduceAdd]
    repeat' (first
    | (with_reducible first | refine DW.seq ?_ | refine DW.block ?_ | refine DW.skip ?_ | refine DW.exit ?_ | refine DW.ret ?_ | refine DW.reg ?_)
    | (refine DW.dreg rfl (WF.of ?_) ?_; first | rfl | skip)
    | (simp (disch := omega) only [go_sem, simprocAttr, Blk.men, Blk.keysIn])
    | (exact retS_of rfl rfl rfl)
    | (refine DW.cond_tt rfl ?_)
    | (refine call_c (h1) (by decide) ?_)
    | (refine DW.cond_ff rfl ?_)
    | (refine DW.cond rfl ?_ ?_ <;> intro hc <;> (try simp only [go_sem] at hc))
    | (refine g_split ?_ ?_ <;> intro hc <;> (try simp only [hc]) <;> (try simp only [go_sem] at hc)))
  cases e2 : wthn 0 30 [m] <;> rw [e2] at h2
  · have hE : sheetsE x m o = 3 := by unfold sheetsE; rw [e1, e2]; rfl
    rw [sheetsI, hE, if_neg (by decide)]
    refine DCall.of Try.func38 sf38 hb38 (Nat.le_of_ble_eq_true rfl) (okRes_nil fun _ => rfl) ?_; simp only [s38, idxs, Nat.reduceAdd]
    repeat' (first
    | (with_reducible first | refine DW.seq ?_ | refine DW.block ?_ | refine DW.skip ?_ | refine DW.exit ?_ | refine DW.ret ?_ | refine DW.reg ?_)
    | (refine DW.dreg rfl (WF.of ?_) ?_; first | rfl | skip)
    | (simp (disch := omega) only [go_sem, simprocAttr, Blk.men, Blk.keysIn])
    | (exact retS_of rfl rfl rfl)
    | (refine DW.cond_tt rfl ?_)
    | (refine call_c (h1) (by decide) ?_)
    | (refine call_c (h2) (by decide) ?_)
    | (refine DW.cond_ff rfl ?_)
    | (refine DW.cond rfl ?_ ?_ <;> intro hc <;> (try simp only [go_sem] at hc))
    | (refine g_split ?_ ?_ <;> intro hc <;> (try simp only [hc]) <;> (try simp only [go_sem] at hc)))
  cases e3 : wthn 0 20 [o] <;> rw [e3] at h3
  · have hE : sheetsE x m o = 3 := by unfold sheetsE; rw [e1, e2, e3]; rfl
    rw [sheetsI, hE, if_neg (by decide)]
    refine DCall.of Try.func38 sf38 hb38 (Nat.le_of_ble_eq_true rfl) (okRes_nil fun _ => rfl) ?_; simp only [s38, idxs, Nat.reduceAdd]
    repeat' (first
    | (with_reducible first | refine DW.seq ?_ | refine DW.block ?_ | refine DW.skip ?_ | refine DW.exit ?_ | refine DW.ret ?_ | refine DW.reg ?_)
    | (refine DW.dreg rfl (WF.of ?_) ?_; first | rfl | skip)
    | (simp (disch := omega) only [go_sem, simprocAttr, Blk.men, Blk.keysIn])
    | (exact retS_of rfl rfl rfl)
    | (refine DW.cond_tt rfl ?_)
    | (refine call_c (h1) (by decide) ?_)
    | (refine call_c (h2) (by decide) ?_)
    | (refine call_c (h3) (by decide) ?_)
    | (refine DW.cond_ff rfl ?_)
    | (refine DW.cond rfl ?_ ?_ <;> intro hc <;> (try simp only [go_sem] at hc))
    | (refine g_split ?_ ?_ <;> intro hc <;> (try simp only [hc]) <;> (try simp only [go_sem] at hc)))
  have hE : sheetsE x m o = 0 := by unfold sheetsE; rw [e1, e2, e3]; rfl
  have b1 := wthn_one e1
  have b2 := wthn_one e2
  have b3 := wthn_one e3
  have n1 : x + o ≠ 0 := by omega
  have n2 : x - o ≠ 0 := by omega
  have t1 : 0 ≤ Int.tdiv (m * 100000) (x + o) ∧ Int.tdiv (m * 100000) (x + o) ≤ 3000000 := by
    rw [Int.tdiv_eq_ediv_of_nonneg (by omega)]
    exact ⟨Int.ediv_nonneg (by omega) (by omega), Int.le_trans (Int.ediv_le_self _ (by omega)) (by omega)⟩
  have t2 : 0 ≤ Int.tdiv (m * 100000) (x - o) ∧ Int.tdiv (m * 100000) (x - o) ≤ 3000000 := by
    rw [Int.tdiv_eq_ediv_of_nonneg (by omega)]
    exact ⟨Int.ediv_nonneg (by omega) (by omega), Int.le_trans (Int.ediv_le_self _ (by omega)) (by omega)⟩
  rw [sheetsI, hE, if_pos rfl]
  have n1' := eq_false n1
  have n2' := eq_false n2
  generalize hu1 : Int.tdiv (m * 100000) (x + o) = u1 at *
  generalize hu2 : Int.tdiv (m * 100000) (x - o) = u2 at *
  refine DCall.of Try.func38 sf38 hb38 (Nat.le_of_ble_eq_true rfl) (okRes_nil fun _ => rfl) ?_; simp only [s38, idxs, Nat.reduceAdd]
  repeat' (first
    | (with_reducible first | refine DW.seq ?_ | refine DW.block ?_ | refine DW.skip ?_ | refine DW.exit ?_ | refine DW.ret ?_ | refine DW.reg ?_)
    | (refine DW.dreg rfl (WF.of ?_) ?_; first | rfl | skip)
    | (simp (disch := omega) only [go_sem, simprocAttr, Blk.men, Blk.keysIn, n1', n2', hu1, hu2])
    | (exact retS_of rfl rfl rfl)
    | (refine DW.cond_tt rfl ?_)
    | (refine call_c (h1) (by decide) ?_)
    | (refine call_c (h2) (by decide) ?_)
    | (refine call_c (h3) (by decide) ?_)
    | (refine DW.cond_ff rfl ?_)
    | (refine DW.cond rfl ?_ ?_ <;> intro hc <;> (try simp only [go_sem] at hc))
    | (refine g_split ?_ ?_ <;> intro hc <;> (try simp only [hc]) <;> (try simp only [go_sem] at hc)))
end Go.Dw.Seat
end
section
set_option linter.unusedSimpArgs false
set_option maxRecDepth 100000
namespace Go.Dw.Seat
open Go Go.Dw Go.Proofs Go.IntWalk
set_option maxHeartbeats 1000000 in
theorem reCopy (b : Bool) (q : List TStp) (hq : q.length ≤ 1000) (hw : ∀ s ∈ q, s.ws.length ≤ 2 ^ 36) : DCall Try.prog 60 [dSt b q] [] (dSt false q) [] := by
  refine DCall.of Try.func60 sf60 hb60 (Nat.le_of_ble_eq_true rfl) (okRes_nil fun _ => rfl) ?_; simp only [s60, o60_0, o60_1, o60_2, o60_3, o60_4, o60_5, o60_6, o60_7, o60_8, o60_9, o60_10, o60_11, o60_12, o60_13, o60_14, o60_15, o60_16, idxs, Nat.reduceAdd]
  repeat' (first
    | (with_reducible first | refine DW.seq ?_ | refine DW.block ?_ | refine DW.skip ?_ | refine DW.exit ?_ | refine DW.ret ?_ | refine DW.reg ?_)
    | (refine DW.ord rfl (WF.of (by first | rfl | simp (disch := omega) only [go_sem, simprocAttr, bm_box, bm_row, bk_box, bk_row])) ?_ ?_ ?_; rotate_left)
    | rfl
    | (with_reducible refine And.intro ?_ ?_)
    | (simp (disch := omega) only [go_sem, simprocAttr, bm_box, bm_row, bk_box, bk_row])
    | (exact retS_of rfl rfl rfl)
    | (refine DW.cond_tt rfl ?_)
    | (refine DW.cond_ff rfl ?_)
    | (refine DW.cond rfl ?_ ?_ <;> intro hc <;> (try simp only [go_sem] at hc))
    | (refine g_split ?_ ?_ <;> intro hc <;> (try simp only [hc]) <;> (try simp only [go_sem] at hc)))
  refine DW.loop (ι := { i : Nat // i ≤ q.length }) (fun i => ⟨29, [(4, dI i.1), (3, .own 5), (0, dSt b q)], [(5, .row 2 (rowC (rows eSt (q.take i.1))))]⟩) (fun i => q.length - i.1) ⟨0, Nat.zero_le _⟩ ?_ ?_
  · refine Ent.to ?_ ?_ <;> simp (disch := omega) only [wkT_cons, wkX_cons, wkT_nil, wkX_nil, get, Nat.reduceEqDiff, ↓reduceIte, ex_some, wk_self, wk_top, wk_nil, wkB_self, and_self, dI, i64_in, and_true, true_and, Int.natCast_add, Int.natCast_one, Int.ofNat_zero, Int.natCast_zero, List.take_zero]
    all_goals first | exact ⟨.refl _, .refl _⟩ | exact .refl _
  rintro ⟨i, hi⟩
  dsimp only
  rcases at_or q i hi with ⟨s, hs, hlt, hd⟩ | ⟨he, hd⟩
  · have hsw := hw s (List.mem_of_getElem? hs)
    have htk : q.take (i + 1) = q.take i ++ [s] := by rw [List.take_add_one, hs]; rfl
    have hlen : (q.take i).length ≤ 1000 := by rw [List.length_take]; omega
    generalize q.take i = Q at *
    repeat' (first
    | (with_reducible first | refine DW.seq ?_ | refine DW.block ?_ | refine DW.skip ?_ | refine DW.exit ?_ | refine DW.ret ?_ | refine DW.reg ?_)
    | (refine DW.ord rfl (WF.of (by first | rfl | simp (disch := omega) only [go_sem, simprocAttr, bm_box, bm_row, bk_box, bk_row, hd, hs, List.map_cons, List.map_nil])) ?_ ?_ ?_; rotate_left)
    | rfl
    | (with_reducible refine And.intro ?_ ?_)
    | (simp (disch := omega) only [go_sem, simprocAttr, bm_box, bm_row, bk_box, bk_row, hd, hs, List.map_cons, List.map_nil])
    | (exact retS_of rfl rfl rfl)
    | (refine DW.cond_tt rfl ?_)
    | (refine DW.cond_ff rfl ?_)
    | (refine DW.cond rfl ?_ ?_ <;> intro hc <;> (try simp only [go_sem] at hc))
    | (refine g_split ?_ ?_ <;> intro hc <;> (try simp only [hc]) <;> (try simp only [go_sem] at hc)))
    refine ⟨⟨i + 1, hlt⟩, by (show _ < _; (try simp only); omega), (Ent.rel 13 rfl).trans ?_⟩; simp (disch := omega) only [go_sem, simprocAttr, bm_box, bm_row, bk_box, bk_row,  htk, rowC_snocS]; refine Ent.to ?_ ?_ <;> (simp (disch := omega) only [wkT_cons, wkX_cons, wkT_nil, wkX_nil, get, Nat.reduceEqDiff, ↓reduceIte, ex_some, wk_self, wk_top, wk_nil, wkB_self, and_self, dI, i64_in, and_true, true_and, Int.natCast_add, Int.natCast_one, Int.ofNat_zero, Int.natCast_zero,  htk, rowC_snocS])
    all_goals first | exact ⟨.refl _, .refl _⟩ | exact .refl _ | skip
  · subst he
    rw [List.take_length]
    repeat' (first
    | (with_reducible first | refine DW.seq ?_ | refine DW.block ?_ | refine DW.skip ?_ | refine DW.exit ?_ | refine DW.ret ?_ | refine DW.reg ?_)
    | (refine DW.ord rfl (WF.of (by first | rfl | simp (disch := omega) only [go_sem, simprocAttr, bm_box, bm_row, bk_box, bk_row, hd])) ?_ ?_ ?_; rotate_left)
    | rfl
    | (with_reducible refine And.intro ?_ ?_)
    | (simp (disch := omega) only [go_sem, simprocAttr, bm_box, bm_row, bk_box, bk_row, hd])
    | (exact retS_of rfl rfl rfl)
    | (refine DW.cond_tt rfl ?_)
    | (refine DW.cond_ff rfl ?_)
    | (refine DW.cond rfl ?_ ?_ <;> intro hc <;> (try simp only [go_sem] at hc))
    | (refine g_split ?_ ?_ <;> intro hc <;> (try simp only [hc]) <;> (try simp only [go_sem] at hc)))
    (refine retS_ent (Ent.rel 5 rfl) ?_; simp (disch := omega) only [go_sem, simprocAttr, bm_box, bm_row, bk_box, bk_row])
    refine retS_wk rfl ?_ (by simp only [Blk.nb, rowC_nb, D.nb, D.nbs, C.nb, C.nbs, C.nbss, rows_nb eI_nb, Bool.and_true, Bool.not_false, Bool.and_self, bD, dI, iD, rows_nb eO_nb, rows_nb eSt_nb, rows_nb eWs_nb]); exact .refl _
end Go.Dw.Seat
end
section
set_option linter.unusedSimpArgs false
set_option maxRecDepth 100000
namespace Go.Dw.Seat
open Go Go.Dw Go.Proofs Go.IntWalk
theorem laSpan (a b : Int) : DCall Try.prog 41 [dI a, dI b] [] (.agg [dI a, dI b]) [] := by
  refine DCall.of Try.func41 sf41 hb41 (Nat.le_of_ble_eq_true rfl) (okRes_nil fun _ => rfl) ?_; simp only [s41, idxs, Nat.reduceAdd]
  repeat' (first
    | (with_reducible first | refine DW.seq ?_ | refine DW.block ?_ | refine DW.skip ?_ | refine DW.exit ?_ | refine DW.ret ?_ | refine DW.reg ?_)
    | (simp (disch := omega) only [go_sem, simprocAttr, bm_box, bm_row, bk_box, bk_row])
    | (exact retS_of rfl rfl rfl)
    | (refine DW.cond_tt rfl ?_)
    | (refine DW.cond_ff rfl ?_)
    | (refine DW.cond rfl ?_ ?_ <;> intro hc <;> (try simp only [go_sem] at hc))
    | (refine g_split ?_ ?_ <;> intro hc <;> (try simp only [hc]) <;> (try simp only [go_sem] at hc)))
def exP (m : Int) : TPap := ⟨2500, 20, m, 4⟩
def exO : List TOrd := [⟨800, 10, 12⟩, ⟨700, 8, 9⟩, ⟨1200, 4, 4⟩]
theorem laPaper (m : Int) : DCall Try.prog 56 [dI m] [] (papD (exP m)) [] := by
  refine DCall.of Try.func56 sf56 hb56 (Nat.le_of_ble_eq_true rfl) (okRes_nil fun _ => rfl) ?_; simp only [s56, idxs, Nat.reduceAdd]
  repeat' (first
    | (with_reducible first | refine DW.seq ?_ | refine DW.block ?_ | refine DW.skip ?_ | refine DW.exit ?_ | refine DW.ret ?_ | refine DW.reg ?_)
    | (simp (disch := omega) only [go_sem, simprocAttr, bm_box, bm_row, bk_box, bk_row, exP])
    | (exact retS_of rfl rfl rfl)
    | (refine DW.cond_tt rfl ?_)
    | (refine DW.cond_ff rfl ?_)
    | (refine DW.cond rfl ?_ ?_ <;> intro hc <;> (try simp only [go_sem] at hc))
    | (refine g_split ?_ ?_ <;> intro hc <;> (try simp only [hc]) <;> (try simp only [go_sem] at hc)))
theorem laOrders : DCall Try.prog 57 [] [] (.c (.sl false 3 (rows eO exO))) [] := by
  have h1 := laSpan 10 12
  have h2 := laSpan 8 9
  have h3 := laSpan 4 4
  refine DCall.of Try.func57 sf57 hb57 (Nat.le_of_ble_eq_true rfl) (okRes_nil fun _ => rfl) ?_; simp only [s57, idxs, Nat.reduceAdd]
  repeat' (first
    | (with_reducible first | refine DW.seq ?_ | refine DW.block ?_ | refine DW.skip ?_ | refine DW.exit ?_ | refine DW.ret ?_ | refine DW.reg ?_)
    | (refine DW.ord rfl (WF.of (by first | rfl | simp (disch := omega) only [go_sem, simprocAttr, bm_box, bm_row, bk_box, bk_row])) ?_ ?_ ?_; rotate_left)
    | rfl
    | (with_reducible refine And.intro ?_ ?_)
    | (simp (disch := omega) only [go_sem, simprocAttr, bm_box, bm_row, bk_box, bk_row])
    | (exact retS_of rfl rfl rfl)
    | (refine DW.cond_tt rfl ?_)
    | (refine call_c (h1) (by decide) ?_)
    | (refine call_c (h2) (by decide) ?_)
    | (refine call_c (h3) (by decide) ?_)
    | (refine DW.cond_ff rfl ?_)
    | (refine DW.cond rfl ?_ ?_ <;> intro hc <;> (try simp only [go_sem] at hc))
    | (refine g_split ?_ ?_ <;> intro hc <;> (try simp only [hc]) <;> (try simp only [go_sem] at hc)))
  (refine retS_ent (Ent.rel 7 rfl) ?_; simp (disch := omega) only [go_sem, simprocAttr, bm_box, bm_row, bk_box, bk_row])
  refine retS_wk rfl ?_ (by simp only [Blk.nb, rowC_nb, D.nb, D.nbs, C.nb, C.nbs, C.nbss, rows_nb eI_nb, Bool.and_true, Bool.not_false, Bool.and_self, bD, dI, iD, rows_nb eO_nb, rows_nb eSt_nb, rows_nb eWs_nb]); exact .refl _
theorem laSetup (r : Int) (ws : List Int) : DCall Try.prog 58 [dI r, dIs false ws] [] (.agg [dIs false ws, dI r]) [] := by
  refine DCall.of Try.func58 sf58 hb58 (Nat.le_of_ble_eq_true rfl) (okRes_nil fun _ => rfl) ?_; simp only [s58, idxs, Nat.reduceAdd]
  repeat' (first
    | (with_reducible first | refine DW.seq ?_ | refine DW.block ?_ | refine DW.skip ?_ | refine DW.exit ?_ | refine DW.ret ?_ | refine DW.reg ?_)
    | (simp (disch := omega) only [go_sem, simprocAttr, bm_box, bm_row, bk_box, bk_row])
    | (exact retS_of rfl rfl rfl)
    | (refine DW.cond_tt rfl ?_)
    | (refine DW.cond_ff rfl ?_)
    | (refine DW.cond rfl ?_ ?_ <;> intro hc <;> (try simp only [go_sem] at hc))
    | (refine g_split ?_ ?_ <;> intro hc <;> (try simp only [hc]) <;> (try simp only [go_sem] at hc)))
  refine retS_wk rfl ?_ (by simp only [Blk.nb, rowC_nb, D.nb, D.nbs, C.nb, C.nbs, C.nbss, rows_nb eI_nb, Bool.and_true, Bool.not_false, Bool.and_self, bD, dI, iD, rows_nb eO_nb, rows_nb eSt_nb, rows_nb eWs_nb]); exact .refl _
theorem laOwn (b : Bool) (l : List TOrd) (hl : l.length ≤ 2 ^ 36) : DCall Try.prog 22 [.c (.sl b 3 (rows eO l))] [] (.c (.sl false 3 (rows eO l))) [] := by
  refine DCall.of Try.func22 sf22 hb22 (Nat.le_of_ble_eq_true rfl) (okRes_nil fun _ => rfl) ?_; simp only [s22, idxs, Nat.reduceAdd]
  repeat' (first
    | (with_reducible first | refine DW.seq ?_ | refine DW.block ?_ | refine DW.skip ?_ | refine DW.exit ?_ | refine DW.ret ?_ | refine DW.reg ?_)
    | (simp (disch := omega) only [go_sem, simprocAttr, bm_box, bm_row, bk_box, bk_row])
    | (exact retS_of rfl rfl rfl)
    | (refine DW.cond_tt rfl ?_)
    | (refine DW.cond_ff rfl ?_)
    | (refine DW.cond rfl ?_ ?_ <;> intro hc <;> (try simp only [go_sem] at hc))
    | (refine g_split ?_ ?_ <;> intro hc <;> (try simp only [hc]) <;> (try simp only [go_sem] at hc)))
  (refine retS_ent (Ent.rel 3 rfl) ?_; simp (disch := omega) only [go_sem, simprocAttr, bm_box, bm_row, bk_box, bk_row])
  refine retS_wk rfl ?_ (by simp only [Blk.nb, rowC_nb, D.nb, D.nbs, C.nb, C.nbs, C.nbss, rows_nb eI_nb, Bool.and_true, Bool.not_false, Bool.and_self, bD, dI, iD, rows_nb eO_nb, rows_nb eSt_nb, rows_nb eWs_nb]); exact .refl _
theorem laInts (b : Bool) (l : List Int) (hl : l.length ≤ 2 ^ 36) : DCall Try.prog 16 [dIs b l] [] (dIs false l) [] := by
  refine DCall.of Try.func16 sf16 hb16 (Nat.le_of_ble_eq_true rfl) (okRes_nil fun _ => rfl) ?_; simp only [s16, idxs, Nat.reduceAdd]
  repeat' (first
    | (with_reducible first | refine DW.seq ?_ | refine DW.block ?_ | refine DW.skip ?_ | refine DW.exit ?_ | refine DW.ret ?_ | refine DW.reg ?_)
    | (simp (disch := omega) only [go_sem, simprocAttr, bm_box, bm_row, bk_box, bk_row])
    | (exact retS_of rfl rfl rfl)
    | (refine DW.cond_tt rfl ?_)
    | (refine DW.cond_ff rfl ?_)
    | (refine DW.cond rfl ?_ ?_ <;> intro hc <;> (try simp only [go_sem] at hc))
    | (refine g_split ?_ ?_ <;> intro hc <;> (try simp only [hc]) <;> (try simp only [go_sem] at hc)))
  (refine retS_ent (Ent.rel 3 rfl) ?_; simp (disch := omega) only [go_sem, simprocAttr, bm_box, bm_row, bk_box, bk_row])
  refine retS_wk rfl ?_ (by simp only [Blk.nb, rowC_nb, D.nb, D.nbs, C.nb, C.nbs, C.nbss, rows_nb eI_nb, Bool.and_true, Bool.not_false, Bool.and_self, bD, dI, iD, rows_nb eO_nb, rows_nb eSt_nb, rows_nb eWs_nb]); exact .refl _
theorem laPlans (b : Bool) (q : List TStp) (hq : q.length ≤ 1000) (hw : ∀ s ∈ q, s.ws.length ≤ 2 ^ 36) : DCall Try.prog 23 [dSt b q] [] (dSt false q) [] := by
  have h1 := reCopy b q hq hw
  refine DCall.of Try.func23 sf23 hb23 (Nat.le_of_ble_eq_true rfl) (okRes_nil fun _ => rfl) ?_; simp only [s23, idxs, Nat.reduceAdd]
  repeat' (first
    | (with_reducible first | refine DW.seq ?_ | refine DW.block ?_ | refine DW.skip ?_ | refine DW.exit ?_ | refine DW.ret ?_ | refine DW.reg ?_)
    | (simp (disch := omega) only [go_sem, simprocAttr, bm_box, bm_row, bk_box, bk_row])
    | (exact retS_of rfl rfl rfl)
    | (refine DW.cond_tt rfl ?_)
    | (refine call_c (h1) (by decide) ?_)
    | (refine DW.cond_ff rfl ?_)
    | (refine DW.cond rfl ?_ ?_ <;> intro hc <;> (try simp only [go_sem] at hc))
    | (refine g_split ?_ ?_ <;> intro hc <;> (try simp only [hc]) <;> (try simp only [go_sem] at hc)))
  refine retS_wk rfl ?_ (by simp only [Blk.nb, rowC_nb, D.nb, D.nbs, C.nb, C.nbs, C.nbss, rows_nb eI_nb, Bool.and_true, Bool.not_false, Bool.and_self, bD, dI, iD, rows_nb eO_nb, rows_nb eSt_nb, rows_nb eWs_nb]); exact .refl _
end Go.Dw.Seat
end
section
set_option linter.unusedSimpArgs false
set_option maxRecDepth 100000
namespace Go.Dw.Seat
open Go Go.Dw Go.Proofs Go.IntWalk
theorem planF_ok {p : TPap} (hp : p.ok) {l : List TOrd} (hl : ∀ o ∈ l, o.ok) {q : List TStp} {w : Int} (h : planF p l = some (q, w)) : PlanOk p l q ∧ w = wasteF p l q := by
  have := plan_spec hp hl
  rw [h] at this
  exact ⟨this.1, this.2.1⟩
theorem plan_len {p : TPap} {l : List TOrd} {q : List TStp} (h : PlanOk p l q) : q.length ≤ 3 := h.len
def planX (p : TPap) (l : List TOrd) : D := if openE p l = 0 then (match planF p l with
  | some x => .tup [dSt false x.1, dI 0]
  | none => .tup [.c (.v (.slice none 0 0)), dI 9]) else .tup [.c (.v (.slice none 0 0)), dI (openE p l)]
set_option maxHeartbeats 1000000 in
theorem trPlanX (p : TPap) (l : List TOrd) (hl : l.length ≤ 2 ^ 36) : DCall Try.prog 31 [papD p, .c (.sl false 3 (rows eO l))] [] (planX p l) [] := by
  unfold planX
  by_cases h : openE p l = 0
  · obtain ⟨hp, hl4, ho⟩ := openE_ok h
    have h1 := trOpen p l h
    have h2 := trPlanM p hp l hl4 ho
    rw [if_pos h]
    cases hR : planF p l with
    | none =>
      rw [hR] at h2
      simp only [planD] at h2
      refine DCall.of Try.func31 sf31 hb31 (Nat.le_of_ble_eq_true rfl) (okRes_nil fun _ => rfl) ?_; simp only [s31, idxs, Nat.reduceAdd]
      repeat' (first
    | (with_reducible first | refine DW.seq ?_ | refine DW.block ?_ | refine DW.skip ?_ | refine DW.exit ?_ | refine DW.ret ?_ | refine DW.reg ?_)
    | (simp (disch := omega) only [go_sem, simprocAttr, bm_box, bm_row, bk_box, bk_row])
    | (exact retS_of rfl rfl rfl)
    | (refine DW.cond_tt rfl ?_)
    | (refine call_c (h1) (by decide) ?_)
    | (refine call_c (h2) (by decide) ?_)
    | (refine DW.cond_ff rfl ?_)
    | (refine DW.cond rfl ?_ ?_ <;> intro hc <;> (try simp only [go_sem] at hc))
    | (refine g_split ?_ ?_ <;> intro hc <;> (try simp only [hc]) <;> (try simp only [go_sem] at hc)))
    | some x =>
      obtain ⟨q, w⟩ := x
      have hq := planF_ok hp ho hR
      have hws := plan_ws hq.1
      have h3 := trOwn false q (by have := plan_len hq.1; omega) (fun s hs => by have := (hws s hs).1.len; omega)
      rw [hR] at h2
      simp only [planD] at h2
      refine DCall.of Try.func31 sf31 hb31 (Nat.le_of_ble_eq_true rfl) (okRes_nil fun _ => rfl) ?_; simp only [s31, idxs, Nat.reduceAdd]
      repeat' (first
    | (with_reducible first | refine DW.seq ?_ | refine DW.block ?_ | refine DW.skip ?_ | refine DW.exit ?_ | refine DW.ret ?_ | refine DW.reg ?_)
    | (simp (disch := omega) only [go_sem, simprocAttr, bm_box, bm_row, bk_box, bk_row])
    | (exact retS_of rfl rfl rfl)
    | (refine DW.cond_tt rfl ?_)
    | (refine call_c (h1) (by decide) ?_)
    | (refine call_c (h2) (by decide) ?_)
    | (refine call_c (h3) (by decide) ?_)
    | (refine DW.cond_ff rfl ?_)
    | (refine DW.cond rfl ?_ ?_ <;> intro hc <;> (try simp only [go_sem] at hc))
    | (refine g_split ?_ ?_ <;> intro hc <;> (try simp only [hc]) <;> (try simp only [go_sem] at hc)))
      refine retS_wk rfl ?_ (by simp only [Blk.nb, rowC_nb, D.nb, D.nbs, C.nb, C.nbs, C.nbss, rows_nb eI_nb, Bool.and_true, Bool.not_false, Bool.and_self, bD, dI, iD, rows_nb eO_nb, rows_nb eSt_nb, rows_nb eWs_nb]); exact .refl _
  · have h1 := trOpenE false p l hl h
    rw [if_neg h]
    generalize openE p l = e at *
    have hd : (e != 0) = true := by simpa using h
    refine DCall.of Try.func31 sf31 hb31 (Nat.le_of_ble_eq_true rfl) (okRes_nil fun _ => rfl) ?_; simp only [s31, idxs, Nat.reduceAdd]
    repeat' (first
    | (with_reducible first | refine DW.seq ?_ | refine DW.block ?_ | refine DW.skip ?_ | refine DW.exit ?_ | refine DW.ret ?_ | refine DW.reg ?_)
    | (simp (disch := omega) only [go_sem, simprocAttr, bm_box, bm_row, bk_box, bk_row, hd])
    | (exact retS_of rfl rfl rfl)
    | (refine DW.cond_tt rfl ?_)
    | (refine call_c (h1) (by decide) ?_)
    | (refine DW.cond_ff rfl ?_)
    | (refine DW.cond rfl ?_ ?_ <;> intro hc <;> (try simp only [go_sem] at hc))
    | (refine g_split ?_ ?_ <;> intro hc <;> (try simp only [hc]) <;> (try simp only [go_sem] at hc)))
def orL : List Int → Int
  | [] => 0
  | a :: l => if a ≠ 0 then a else orL l
theorem crOrL (bw : Bool) (l : List Int) (hl : l.length ≤ 2 ^ 36) : DCall Try.prog 72 [dIs bw l] [] (dI (orL l)) [] := by
  generalize hR : orL l = R
  refine DCall.of Try.func72 sf72 hb72 (Nat.le_of_ble_eq_true rfl) (okRes_nil fun _ => rfl) ?_; simp only [s72, idxs, Nat.reduceAdd]
  repeat' (first
    | (with_reducible first | refine DW.seq ?_ | refine DW.block ?_ | refine DW.skip ?_ | refine DW.exit ?_ | refine DW.ret ?_ | refine DW.reg ?_)
    | (simp (disch := omega) only [go_sem, simprocAttr, bm_box, bm_row, bk_box, bk_row])
    | (exact retS_of rfl rfl rfl)
    | (refine DW.cond_tt rfl ?_)
    | (refine DW.cond_ff rfl ?_)
    | (refine DW.cond rfl ?_ ?_ <;> intro hc <;> (try simp only [go_sem] at hc))
    | (refine g_split ?_ ?_ <;> intro hc <;> (try simp only [hc]) <;> (try simp only [go_sem] at hc)))
  refine DW.loop (ι := { i : Nat // i ≤ l.length ∧ orL (l.drop i) = R }) (fun i => ⟨18, [(8, dI i.1), (7, dI l.length), (6, dIs bw l), (3, dI 0)], []⟩) (fun i => l.length - i.1) ⟨0, Nat.zero_le _, hR⟩ ?_ ?_
  · refine Ent.to ?_ ?_ <;> simp (disch := omega) only [wkT_cons, wkX_cons, wkT_nil, wkX_nil, get, Nat.reduceEqDiff, ↓reduceIte, ex_some, wk_self, wk_top, wk_nil, wkB_self, and_self, dI, i64_in, and_true, true_and, Int.natCast_add, Int.natCast_one, Int.ofNat_zero, Int.natCast_zero]
    all_goals exact .refl _
  rintro ⟨i, hi, ho⟩
  dsimp only
  rcases at_or l i hi with ⟨v, hv, hlt, hd⟩ | ⟨he, hd⟩
  · have hdr : l.drop i = v :: l.drop (i + 1) := by rw [List.drop_eq_getElem_cons hlt, (List.getElem_eq_iff hlt).2 hv]
    rw [hdr, orL] at ho
    by_cases h0 : v = 0
    · have e : (v != 0) = false := by rw [h0]; rfl
      rw [if_neg (by simpa using h0)] at ho
      repeat' (first
    | (with_reducible first | refine DW.seq ?_ | refine DW.block ?_ | refine DW.skip ?_ | refine DW.exit ?_ | refine DW.ret ?_ | refine DW.reg ?_)
    | (simp (disch := omega) only [go_sem, simprocAttr, bm_box, bm_row, bk_box, bk_row, hd, hv, e, List.map_cons, List.map_nil])
    | (exact retS_of rfl rfl rfl)
    | (refine DW.cond_tt rfl ?_)
    | (refine DW.cond_ff rfl ?_)
    | (refine DW.cond rfl ?_ ?_ <;> intro hc <;> (try simp only [go_sem] at hc))
    | (refine g_split ?_ ?_ <;> intro hc <;> (try simp only [hc]) <;> (try simp only [go_sem] at hc)))
      refine ⟨⟨i + 1, hlt, ho⟩, ?_, Ent.to ?_ ?_⟩ <;> first | (show _ < _; (try simp only); omega) | (simp (disch := omega) only [wkT_cons, wkX_cons, wkT_nil, wkX_nil, get, Nat.reduceEqDiff, ↓reduceIte, ex_some, wk_self, wk_top, wk_nil, wkB_self, and_self, dI, i64_in, and_true, true_and, Int.natCast_add, Int.natCast_one, Int.ofNat_zero, Int.natCast_zero])
    · have e : (v != 0) = true := by simpa using h0
      rw [if_pos h0] at ho
      subst ho
      repeat' (first
    | (with_reducible first | refine DW.seq ?_ | refine DW.block ?_ | refine DW.skip ?_ | refine DW.exit ?_ | refine DW.ret ?_ | refine DW.reg ?_)
    | (simp (disch := omega) only [go_sem, simprocAttr, bm_box, bm_row, bk_box, bk_row, hd, hv, e, List.map_cons, List.map_nil])
    | (exact retS_of rfl rfl rfl)
    | (refine DW.cond_tt rfl ?_)
    | (refine DW.cond_ff rfl ?_)
    | (refine DW.cond rfl ?_ ?_ <;> intro hc <;> (try simp only [go_sem] at hc))
    | (refine g_split ?_ ?_ <;> intro hc <;> (try simp only [hc]) <;> (try simp only [go_sem] at hc)))
  · rw [List.drop_eq_nil_of_le (by omega), orL] at ho
    subst ho
    repeat' (first
    | (with_reducible first | refine DW.seq ?_ | refine DW.block ?_ | refine DW.skip ?_ | refine DW.exit ?_ | refine DW.ret ?_ | refine DW.reg ?_)
    | (simp (disch := omega) only [go_sem, simprocAttr, bm_box, bm_row, bk_box, bk_row, hd])
    | (exact retS_of rfl rfl rfl)
    | (refine DW.cond_tt rfl ?_)
    | (refine DW.cond_ff rfl ?_)
    | (refine DW.cond rfl ?_ ?_ <;> intro hc <;> (try simp only [go_sem] at hc))
    | (refine g_split ?_ ?_ <;> intro hc <;> (try simp only [hc]) <;> (try simp only [go_sem] at hc)))
structure TOff where
  paper : Int
  setups : Int
  waste : Int
def eOf (o : TOff) : List C := [.v (.int .i64 o.paper), .v (.int .i64 o.setups), .v (.int .i64 o.waste)]
theorem eOf_nb (v : TOff) : C.nbs (eOf v) = true := rfl
attribute [go_sem] eOf
def TOff.ok (o : TOff) : Prop := (0 ≤ o.paper ∧ o.paper ≤ 1000000000) ∧ (0 ≤ o.setups ∧ o.setups ≤ 1000000000) ∧ 0 ≤ o.waste ∧ o.waste ≤ 1000000000
def cmpO (a b : TOff) : Int := orL [a.setups - b.setups, a.waste - b.waste, a.paper - b.paper]
theorem trChoose1 (a b : TOff) (ha : a.ok) (hb : b.ok) : DCall Try.prog 71 [.agg ((eOf a).map D.c), .agg ((eOf b).map D.c)] [] (dI (cmpO a b)) [] := by
  obtain ⟨a1, a2, a3⟩ := ha
  obtain ⟨b1, b2, b3⟩ := hb
  have h1 := crOrL true [a.setups - b.setups, a.waste - b.waste, a.paper - b.paper] (by simp)
  unfold cmpO
  refine DCall.of Try.func71 sf71 hb71 (Nat.le_of_ble_eq_true rfl) (okRes_nil fun _ => rfl) ?_; simp only [s71, idxs, Nat.reduceAdd]
  repeat' (first
    | (with_reducible first | refine DW.seq ?_ | refine DW.block ?_ | refine DW.skip ?_ | refine DW.exit ?_ | refine DW.ret ?_ | refine DW.reg ?_)
    | (simp (disch := omega) only [go_sem, simprocAttr, bm_box, bm_row, bk_box, bk_row, List.map_cons, List.map_nil])
    | (exact retS_of rfl rfl rfl)
    | (refine DW.cond_tt rfl ?_)
    | (refine call_c (h1) (by decide) ?_)
    | (refine DW.cond_ff rfl ?_)
    | (refine DW.cond rfl ?_ ?_ <;> intro hc <;> (try simp only [go_sem] at hc))
    | (refine g_split ?_ ?_ <;> intro hc <;> (try simp only [hc]) <;> (try simp only [go_sem] at hc)))
def minBy {α : Type} (c : α → α → Int) : α → List α → α
  | m, [] => m
  | m, x :: l => minBy c (if c x m < 0 then x else m) l
set_option maxHeartbeats 1000000 in
theorem trMinO (b : Bool) (x : TOff) (l : List TOff) (hl : l.length ≤ 2 ^ 30) (g : FuncId) (hg : ∀ u ∈ x :: l, ∀ v ∈ x :: l, DCall Try.prog g [.agg ((eOf u).map D.c), .agg ((eOf v).map D.c)] [] (dI (cmpO u v)) []) : DCall Try.prog 70 [.c (.sl b 3 (rows eOf (x :: l))), .c (.fn (.func g) [] [])] [] (.agg ((eOf (minBy cmpO x l)).map D.c)) [] := by
  obtain ⟨L, hL⟩ : ∃ L, L = x :: l := ⟨_, rfl⟩
  have hx : L[0]? = some x := by rw [hL]; rfl
  have hxm : x ∈ L := by rw [hL]; simp
  have hLl : L.length = l.length + 1 := by rw [hL]; rfl
  have h1d : L.drop 1 = l := by rw [hL]; rfl
  rw [← hL] at hg ⊢
  have hd1 : decide ((L.length : Int) < 1) = false := decide_eq_false (by omega)
  have hd0 : decide ((0 : Int) < (L.length : Int)) = true := decide_eq_true (by omega)
  generalize hR : minBy cmpO x l = R
  refine DCall.of Try.func70 sf70 hb70 (Nat.le_of_ble_eq_true rfl) (okRes_nil fun _ => rfl) ?_; simp only [s70, idxs, Nat.reduceAdd]
  repeat' (first
    | (with_reducible first | refine DW.seq ?_ | refine DW.block ?_ | refine DW.skip ?_ | refine DW.exit ?_ | refine DW.ret ?_ | refine DW.reg ?_)
    | (refine DW.dreg rfl (WF.of ?_) ?_; first | rfl | skip)
    | (simp (disch := omega) only [go_sem, simprocAttr, bm_box, bm_row, bk_box, bk_row, hd1, hd0, hx, List.map_cons, List.map_nil])
    | (exact retS_of rfl rfl rfl)
    | (refine DW.cond_tt rfl ?_)
    | (refine DW.cond_ff rfl ?_)
    | (refine DW.cond rfl ?_ ?_ <;> intro hc <;> (try simp only [go_sem] at hc))
    | (refine g_split ?_ ?_ <;> intro hc <;> (try simp only [hc]) <;> (try simp only [go_sem] at hc)))
  refine DW.loop (ι := { y : Nat × TOff // y.1 ≤ L.length ∧ y.2 ∈ L ∧ minBy cmpO y.2 (L.drop y.1) = R }) (fun y => ⟨33, [(6, dI y.1.1), (5, .box 5 0), (4, .box 4 0), (0, .c (.sl b 3 (rows eOf L))), (1, .c (.fn (.func g) [] []))], [(5, .box [dI y.1.2.paper, dI y.1.2.setups, dI y.1.2.waste]), (4, .box [dI 0, dI 0, dI 0])]⟩) (fun y => L.length - y.1.1) ⟨(1, x), by dsimp only; omega, hxm, by rw [h1d]; exact hR⟩ ?_ ?_
  · refine Ent.to ?_ ?_ <;> simp (disch := omega) only [wkT_cons, wkX_cons, wkT_nil, wkX_nil, get, Nat.reduceEqDiff, ↓reduceIte, ex_some, wk_self, wk_top, wk_nil, wkB_self, and_self, dI, i64_in, and_true, true_and, Int.natCast_add, Int.natCast_one, Int.ofNat_zero, Int.natCast_zero]
    all_goals first | exact ⟨.refl _, .refl _⟩ | exact .refl _
  rintro ⟨⟨i, m⟩, hi, hm, hr⟩
  dsimp only at hi hm hr ⊢
  rcases at_or L i hi with ⟨v, hv, hlt, hd⟩ | ⟨he, hd⟩
  · have hdr : L.drop i = v :: L.drop (i + 1) := by rw [List.drop_eq_getElem_cons hlt, (List.getElem_eq_iff hlt).2 hv]
    have hvm := List.mem_of_getElem? hv
    have hcall := hg v hvm m hm
    rw [hdr, minBy] at hr
    generalize cmpO v m = c at *
    by_cases hc : c < 0
    · have hdc : decide (c < 0) = true := decide_eq_true hc
      rw [if_pos hc] at hr
      repeat' (first
    | (with_reducible first | refine DW.seq ?_ | refine DW.block ?_ | refine DW.skip ?_ | refine DW.exit ?_ | refine DW.ret ?_ | refine DW.reg ?_)
    | (refine DW.dreg rfl (WF.of ?_) ?_; first | rfl | skip)
    | (simp (disch := omega) only [go_sem, simprocAttr, bm_box, bm_row, bk_box, bk_row, hd, hv, hdc, closeDs_fn, List.map_cons, List.map_nil])
    | (exact retS_of rfl rfl rfl)
    | (refine DW.cond_tt rfl ?_)
    | (refine call_c (hcall) (by decide) ?_)
    | (refine DW.cond_ff rfl ?_)
    | (refine DW.cond rfl ?_ ?_ <;> intro hc <;> (try simp only [go_sem] at hc))
    | (refine g_split ?_ ?_ <;> intro hc <;> (try simp only [hc]) <;> (try simp only [go_sem] at hc)))
      refine ⟨⟨(i + 1, v), hlt, hvm, hr⟩, ?_, Ent.to ?_ ?_⟩ <;> first | (show _ < _; (try simp only); omega) | (simp (disch := omega) only [wkT_cons, wkX_cons, wkT_nil, wkX_nil, get, Nat.reduceEqDiff, ↓reduceIte, ex_some, wk_self, wk_top, wk_nil, wkB_self, and_self, dI, i64_in, and_true, true_and, Int.natCast_add, Int.natCast_one, Int.ofNat_zero, Int.natCast_zero])
      all_goals first | exact ⟨.refl _, .refl _⟩ | exact .refl _
    · have hdc : decide (c < 0) = false := decide_eq_false hc
      rw [if_neg hc] at hr
      repeat' (first
    | (with_reducible first | refine DW.seq ?_ | refine DW.block ?_ | refine DW.skip ?_ | refine DW.exit ?_ | refine DW.ret ?_ | refine DW.reg ?_)
    | (refine DW.dreg rfl (WF.of ?_) ?_; first | rfl | skip)
    | (simp (disch := omega) only [go_sem, simprocAttr, bm_box, bm_row, bk_box, bk_row, hd, hv, hdc, closeDs_fn, List.map_cons, List.map_nil])
    | (exact retS_of rfl rfl rfl)
    | (refine DW.cond_tt rfl ?_)
    | (refine call_c (hcall) (by decide) ?_)
    | (refine DW.cond_ff rfl ?_)
    | (refine DW.cond rfl ?_ ?_ <;> intro hc <;> (try simp only [go_sem] at hc))
    | (refine g_split ?_ ?_ <;> intro hc <;> (try simp only [hc]) <;> (try simp only [go_sem] at hc)))
      refine ⟨⟨(i + 1, m), hlt, hm, hr⟩, ?_, Ent.to ?_ ?_⟩ <;> first | (show _ < _; (try simp only); omega) | (simp (disch := omega) only [wkT_cons, wkX_cons, wkT_nil, wkX_nil, get, Nat.reduceEqDiff, ↓reduceIte, ex_some, wk_self, wk_top, wk_nil, wkB_self, and_self, dI, i64_in, and_true, true_and, Int.natCast_add, Int.natCast_one, Int.ofNat_zero, Int.natCast_zero])
      all_goals first | exact ⟨.refl _, .refl _⟩ | exact .refl _
  · rw [List.drop_eq_nil_of_le (by omega), minBy] at hr
    subst hr
    repeat' (first
    | (with_reducible first | refine DW.seq ?_ | refine DW.block ?_ | refine DW.skip ?_ | refine DW.exit ?_ | refine DW.ret ?_ | refine DW.reg ?_)
    | (refine DW.dreg rfl (WF.of ?_) ?_; first | rfl | skip)
    | (simp (disch := omega) only [go_sem, simprocAttr, bm_box, bm_row, bk_box, bk_row, hd])
    | (exact retS_of rfl rfl rfl)
    | (refine DW.cond_tt rfl ?_)
    | (refine DW.cond_ff rfl ?_)
    | (refine DW.cond rfl ?_ ?_ <;> intro hc <;> (try simp only [go_sem] at hc))
    | (refine g_split ?_ ?_ <;> intro hc <;> (try simp only [hc]) <;> (try simp only [go_sem] at hc)))
end Go.Dw.Seat
end
section
set_option linter.unusedSimpArgs false
set_option maxRecDepth 100000
namespace Go.Dw.Seat
open Go Go.Dw Go.Proofs Go.IntWalk
def eP (p : TPap) : List C := [.v (.int .i64 p.wide), .v (.int .i64 p.tl), .v (.int .i64 p.th), .v (.int .i64 p.webs)]
attribute [go_sem] eP
def offF (l : List TOrd) : Nat → List TPap → List TOff
  | _, [] => []
  | i, p :: ps => match planF p l with
    | some x => ⟨i, x.1.length, x.2⟩ :: offF l (i + 1) ps
    | none => offF l (i + 1) ps
def papE (l : List TOrd) (P : List TPap) : Int := orL (P.map fun p => openE p l)
def choE (P : List TPap) (l : List TOrd) : Int := if 4 < P.length then 5 else if P.length = 0 then 7 else if papE l P ≠ 0 then papE l P else if (offF l 0 P).isEmpty then 9 else 0
def choI (P : List TPap) (l : List TOrd) : Int := if choE P l ≠ 0 then 0 else match offF l 0 P with
  | [] => 0
  | x :: t => (minBy cmpO x t).paper
theorem offF_app (l : List TOrd) : ∀ (a b : List TPap) (i : Nat), offF l i (a ++ b) = offF l i a ++ offF l (i + a.length) b
  | [], b, i => by simp [offF]
  | p :: a, b, i => by
    have ih := offF_app l a b (i + 1)
    rw [List.cons_append, offF, offF, ih, List.length_cons, show i + 1 + a.length = i + (a.length + 1) by omega]
    split <;> rfl
theorem offF_len (l : List TOrd) : ∀ (a : List TPap) (i : Nat), (offF l i a).length ≤ a.length
  | [], i => by simp [offF]
  | p :: a, i => by
    have ih := offF_len l a (i + 1)
    rw [offF]
    split
    · simp only [List.length_cons]; omega
    · simp only [List.length_cons]; omega
theorem papE_zero {l : List TOrd} : ∀ {P : List TPap}, papE l P = 0 → ∀ p ∈ P, openE p l = 0
  | [], _, p, hp => by cases hp
  | q :: P, h, p, hp => by
    simp only [papE, List.map_cons, orL] at h
    by_cases h0 : openE q l = 0
    · rw [if_neg (by simpa using h0)] at h
      rcases List.mem_cons.1 hp with rfl | hp
      · exact h0
      · exact papE_zero (P := P) h p hp
    · rw [if_pos h0] at h; exact absurd h h0
theorem waste_b {p : TPap} (hp : p.ok) {l : List TOrd} : ∀ {q : List TStp}, (∀ s ∈ q, WsOk p l s.ws ∧ 1 ≤ s.run ∧ s.run ≤ 30) → 0 ≤ wasteF p l q ∧ wasteF p l q ≤ 90000 * (q.length : Int)
  | [], _ => by simp [wasteF]
  | s :: q, h => by
    have ih := waste_b hp (q := q) (fun x hx => h x (by simp [hx]))
    obtain ⟨h1, h2, h3⟩ := h s (by simp)
    have hb := (patB_b h1.pat).2.2
    have ht := hp.trim
    have m1 : 0 ≤ trimI p l s.ws * s.run := Int.mul_nonneg (by omega) (by omega)
    have m2 : trimI p l s.ws * s.run ≤ 3000 * s.run := Int.mul_le_mul_of_nonneg_right (by omega) (by omega)
    simp only [wasteF, List.length_cons, Int.natCast_add, Int.natCast_one]
    omega
theorem plan_wsb {p : TPap} {l : List TOrd} {q : List TStp} (h : PlanOk p l q) : ∀ s ∈ q, WsOk p l s.ws ∧ 1 ≤ s.run ∧ s.run ≤ 30 := fun s hs => by
  have h1 := (ext_mem h.ext).2 s hs
  exact ⟨(plan_ws h s hs).1, h1.2⟩
theorem offF_ok {l : List TOrd} (hl : ∀ o ∈ l, o.ok) : ∀ {P : List TPap} {i : Nat}, (∀ p ∈ P, p.ok) → i + P.length ≤ 1000000 → ∀ u ∈ offF l i P, u.ok
  | [], _, _, _, u, hu => by cases hu
  | p :: P, i, h, hi, u, hu => by
    have ih := offF_ok hl (P := P) (i := i + 1) (fun q hq => h q (by simp [hq])) (by simp only [List.length_cons] at hi; omega)
    rw [offF] at hu
    split at hu
    · rename_i x hx
      rcases List.mem_cons.1 hu with rfl | hu
      · have h1 := planF_ok (h p (by simp)) hl (q := x.1) (w := x.2) hx
        have h2 := plan_len h1.1
        have h3 := waste_b (h p (by simp)) (plan_wsb h1.1)
        rw [← h1.2] at h3
        simp only [List.length_cons] at hi
        refine ⟨?_, ?_, ?_⟩ <;> dsimp only <;> omega
      · exact ih u hu
    · exact ih u hu
set_option maxHeartbeats 4000000 in
theorem trChoose (b : Bool) (P : List TPap) (hP : P.length ≤ 2 ^ 36) (l : List TOrd) (hl : l.length ≤ 2 ^ 36) : DCall Try.prog 35 [.c (.sl b 4 (rows eP P)), .c (.sl false 3 (rows eO l))] [] (.tup [dI (choI P l), dI (choE P l)]) [] := by
  by_cases h4 : 4 < P.length
  · have hE : choE P l = 5 := if_pos h4
    have hI : choI P l = 0 := by unfold choI; rw [if_pos (by rw [hE]; decide)]
    have d4 : decide ((4 : Int) < (P.length : Int)) = true := decide_eq_true (by omega)
    rw [hE, hI]
    refine DCall.of Try.func35 sf35 hb35 (Nat.le_of_ble_eq_true rfl) (okRes_nil fun _ => rfl) ?_; simp only [s35, idxs, Nat.reduceAdd]
    repeat' (first
    | (with_reducible first | refine DW.seq ?_ | refine DW.block ?_ | refine DW.skip ?_ | refine DW.exit ?_ | refine DW.ret ?_ | refine DW.reg ?_)
    | (simp (disch := omega) only [go_sem, simprocAttr, bm_box, bm_row, bk_box, bk_row, d4])
    | (exact retS_of rfl rfl rfl)
    | (refine DW.cond_tt rfl ?_)
    | (refine DW.cond_ff rfl ?_)
    | (refine DW.cond rfl ?_ ?_ <;> intro hc <;> (try simp only [go_sem] at hc))
    | (refine g_split ?_ ?_ <;> intro hc <;> (try simp only [hc]) <;> (try simp only [go_sem] at hc)))
  have d4 : decide ((4 : Int) < (P.length : Int)) = false := decide_eq_false (by omega)
  by_cases h0 : P.length = 0
  · have hE : choE P l = 7 := by unfold choE; rw [if_neg h4, if_pos h0]
    have hI : choI P l = 0 := by unfold choI; rw [if_pos (by rw [hE]; decide)]
    have d0 : ((P.length : Int) == 0) = true := by rw [h0]; rfl
    rw [hE, hI]
    refine DCall.of Try.func35 sf35 hb35 (Nat.le_of_ble_eq_true rfl) (okRes_nil fun _ => rfl) ?_; simp only [s35, idxs, Nat.reduceAdd]
    repeat' (first
    | (with_reducible first | refine DW.seq ?_ | refine DW.block ?_ | refine DW.skip ?_ | refine DW.exit ?_ | refine DW.ret ?_ | refine DW.reg ?_)
    | (simp (disch := omega) only [go_sem, simprocAttr, bm_box, bm_row, bk_box, bk_row, d4, d0])
    | (exact retS_of rfl rfl rfl)
    | (refine DW.cond_tt rfl ?_)
    | (refine DW.cond_ff rfl ?_)
    | (refine DW.cond rfl ?_ ?_ <;> intro hc <;> (try simp only [go_sem] at hc))
    | (refine g_split ?_ ?_ <;> intro hc <;> (try simp only [hc]) <;> (try simp only [go_sem] at hc)))
  have d0 : ((P.length : Int) == 0) = false := by rw [beq_eq_false_iff_ne]; omega
  generalize hA : choI P l = A
  generalize hB : choE P l = B
  unfold choI at hA
  rw [hB] at hA
  unfold choE at hB
  rw [if_neg h4, if_neg h0] at hB
  refine DCall.of Try.func35 sf35 hb35 (Nat.le_of_ble_eq_true rfl) (okRes_nil fun _ => rfl) ?_; simp only [s35, idxs, Nat.reduceAdd]
  repeat' (first
    | (with_reducible first | refine DW.seq ?_ | refine DW.block ?_ | refine DW.skip ?_ | refine DW.exit ?_ | refine DW.ret ?_ | refine DW.reg ?_)
    | (simp (disch := omega) only [go_sem, simprocAttr, bm_box, bm_row, bk_box, bk_row, d4, d0])
    | (exact retS_of rfl rfl rfl)
    | (refine DW.cond_tt rfl ?_)
    | (refine DW.cond_ff rfl ?_)
    | (refine DW.cond rfl ?_ ?_ <;> intro hc <;> (try simp only [go_sem] at hc))
    | (refine g_split ?_ ?_ <;> intro hc <;> (try simp only [hc]) <;> (try simp only [go_sem] at hc)))
  refine DW.loop (ι := { i : Nat // i ≤ P.length ∧ papE l (P.drop i) = papE l P }) (fun i => ⟨67, [(25, dI i.1), (24, dI P.length), (23, .c (.sl b 4 (rows eP P))), (5, dI 0), (4, dI 0), (0, .c (.sl b 4 (rows eP P))), (1, .c (.sl false 3 (rows eO l)))], []⟩) (fun i => P.length - i.1) ⟨0, Nat.zero_le _, rfl⟩ ?_ ?_
  · refine Ent.to ?_ ?_ <;> simp (disch := omega) only [wkT_cons, wkX_cons, wkT_nil, wkX_nil, get, Nat.reduceEqDiff, ↓reduceIte, ex_some, wk_self, wk_top, wk_nil, wkB_self, and_self, dI, i64_in, and_true, true_and, Int.natCast_add, Int.natCast_one, Int.ofNat_zero, Int.natCast_zero]
    all_goals first | exact ⟨.refl _, .refl _⟩ | exact .refl _
  rintro ⟨i, hi, hpe⟩
  dsimp only
  rcases at_or P i hi with ⟨v, hv, hlt, hd⟩ | ⟨he, hd⟩
  · have h1 := trCheck v l hl
    have hdr : P.drop i = v :: P.drop (i + 1) := by rw [List.drop_eq_getElem_cons hlt, (List.getElem_eq_iff hlt).2 hv]
    have hpe2 : papE l (v :: P.drop (i + 1)) = papE l P := by rw [← hdr]; exact hpe
    have hpd : papE l (v :: P.drop (i + 1)) = if openE v l ≠ 0 then openE v l else papE l (P.drop (i + 1)) := rfl
    rw [hpd] at hpe2
    by_cases hz : openE v l = 0
    · rw [if_neg (by simpa using hz)] at hpe2
      rw [hz] at h1
      repeat' (first
    | (with_reducible first | refine DW.seq ?_ | refine DW.block ?_ | refine DW.skip ?_ | refine DW.exit ?_ | refine DW.ret ?_ | refine DW.reg ?_)
    | (simp (disch := omega) only [go_sem, simprocAttr, bm_box, bm_row, bk_box, bk_row, hd, hv, List.map_cons, List.map_nil])
    | (exact retS_of rfl rfl rfl)
    | (refine DW.cond_tt rfl ?_)
    | (refine call_c (h1) (by decide) ?_)
    | (refine DW.cond_ff rfl ?_)
    | (refine DW.cond rfl ?_ ?_ <;> intro hc <;> (try simp only [go_sem] at hc))
    | (refine g_split ?_ ?_ <;> intro hc <;> (try simp only [hc]) <;> (try simp only [go_sem] at hc)))
      refine ⟨⟨i + 1, hlt, hpe2⟩, ?_, Ent.to ?_ ?_⟩ <;> first | (show _ < _; (try simp only); omega) | (simp (disch := omega) only [wkT_cons, wkX_cons, wkT_nil, wkX_nil, get, Nat.reduceEqDiff, ↓reduceIte, ex_some, wk_self, wk_top, wk_nil, wkB_self, and_self, dI, i64_in, and_true, true_and, Int.natCast_add, Int.natCast_one, Int.ofNat_zero, Int.natCast_zero])
      all_goals first | exact ⟨.refl _, .refl _⟩ | exact .refl _
    · rw [if_pos hz] at hpe2
      rw [← hpe2, if_pos hz] at hB
      rw [← hB, if_pos hz] at hA
      subst hA
      rw [hB] at h1 hz
      have hde : (B != 0) = true := by simpa using hz
      repeat' (first
    | (with_reducible first | refine DW.seq ?_ | refine DW.block ?_ | refine DW.skip ?_ | refine DW.exit ?_ | refine DW.ret ?_ | refine DW.reg ?_)
    | (simp (disch := omega) only [go_sem, simprocAttr, bm_box, bm_row, bk_box, bk_row, hd, hv, hde, List.map_cons, List.map_nil])
    | (exact retS_of rfl rfl rfl)
    | (refine DW.cond_tt rfl ?_)
    | (refine call_c (h1) (by decide) ?_)
    | (refine DW.cond_ff rfl ?_)
    | (refine DW.cond rfl ?_ ?_ <;> intro hc <;> (try simp only [go_sem] at hc))
    | (refine g_split ?_ ?_ <;> intro hc <;> (try simp only [hc]) <;> (try simp only [go_sem] at hc)))
  have hpz : papE l P = 0 := by
    rw [List.drop_eq_nil_of_le (by omega)] at hpe
    rw [← hpe]; rfl
  rw [if_neg (by simpa using hpz)] at hB
  have hop := papE_zero hpz
  obtain ⟨q, hq⟩ : ∃ q, q ∈ P := by
    cases P with
    | nil => simp at h0
    | cons q _ => exact ⟨q, by simp⟩
  obtain ⟨_, hl4, ho⟩ := openE_ok (hop q hq)
  have hpo : ∀ p ∈ P, p.ok := fun p hp => (openE_ok (hop p hp)).1
  have hofl := offF_len l P 0
  repeat' (first
    | (with_reducible first | refine DW.seq ?_ | refine DW.block ?_ | refine DW.skip ?_ | refine DW.exit ?_ | refine DW.ret ?_ | refine DW.reg ?_)
    | (simp (disch := omega) only [go_sem, simprocAttr, bm_box, bm_row, bk_box, bk_row, hd])
    | (exact retS_of rfl rfl rfl)
    | (refine DW.cond_tt rfl ?_)
    | (refine DW.cond_ff rfl ?_)
    | (refine DW.cond rfl ?_ ?_ <;> intro hc <;> (try simp only [go_sem] at hc))
    | (refine g_split ?_ ?_ <;> intro hc <;> (try simp only [hc]) <;> (try simp only [go_sem] at hc)))
  refine DW.ent (Ent.adopt 9 59 3 rfl rfl rfl) ?_
  refine DW.loop (ι := { i : Nat // i ≤ P.length }) (fun i => ⟨67, [(38, dI i.1), (37, dI P.length), (36, .c (.sl b 4 (rows eP P))), (9, .own 59), (5, dI 0), (4, dI 0), (1, .c (.sl false 3 (rows eO l)))], [(59, .row 3 (rowC (rows eOf (offF l 0 (P.take i.1)))))]⟩) (fun i => P.length - i.1) ⟨0, Nat.zero_le _⟩ ?_ ?_
  · refine Ent.to ?_ ?_ <;> simp (disch := omega) only [wkT_cons, wkX_cons, wkT_nil, wkX_nil, get, Nat.reduceEqDiff, ↓reduceIte, ex_some, wk_self, wk_top, wk_nil, wkB_self, and_self, dI, i64_in, and_true, true_and, Int.natCast_add, Int.natCast_one, Int.ofNat_zero, Int.natCast_zero, ins, Nat.reduceLT, List.take_zero, offF]
    all_goals first | exact ⟨.refl _, .refl _⟩ | exact .refl _
  clear hpe hd
  rintro ⟨i, hi⟩
  dsimp only
  rcases at_or P i hi with ⟨v, hv, hlt, hd⟩ | ⟨he, hd⟩
  · have hvm := List.mem_of_getElem? hv
    have h1 := trPlanM v (hpo v hvm) l hl4 ho
    have htk : P.take (i + 1) = P.take i ++ [v] := by rw [List.take_add_one, hv]; rfl
    have hof : offF l 0 (P.take (i + 1)) = offF l 0 (P.take i) ++ offF l i [v] := by
      rw [htk, offF_app, List.length_take, Nat.min_eq_left (by omega), Nat.zero_add]
    have hol := offF_len l (P.take i) 0
    rw [List.length_take] at hol
    generalize offF l 0 (P.take i) = O at *
    cases hR : planF v l with
    | none =>
      rw [hR] at h1
      simp only [planD] at h1
      have hof2 : offF l 0 (P.take (i + 1)) = O := by rw [hof, offF, hR]; simp [offF]
      repeat' (first
    | (with_reducible first | refine DW.seq ?_ | refine DW.block ?_ | refine DW.skip ?_ | refine DW.exit ?_ | refine DW.ret ?_ | refine DW.reg ?_)
    | (simp (disch := omega) only [go_sem, simprocAttr, bm_box, bm_row, bk_box, bk_row, hd, hv, List.map_cons, List.map_nil])
    | (exact retS_of rfl rfl rfl)
    | (refine DW.cond_tt rfl ?_)
    | (refine call_c (h1) (by decide) ?_)
    | (refine DW.cond_ff rfl ?_)
    | (refine DW.cond rfl ?_ ?_ <;> intro hc <;> (try simp only [go_sem] at hc))
    | (refine g_split ?_ ?_ <;> intro hc <;> (try simp only [hc]) <;> (try simp only [go_sem] at hc)))
      refine ⟨⟨i + 1, hlt⟩, ?_, Ent.to ?_ ?_⟩ <;> first | (show _ < _; (try simp only); omega) | (simp (disch := omega) only [wkT_cons, wkX_cons, wkT_nil, wkX_nil, get, Nat.reduceEqDiff, ↓reduceIte, ex_some, wk_self, wk_top, wk_nil, wkB_self, and_self, dI, i64_in, and_true, true_and, Int.natCast_add, Int.natCast_one, Int.ofNat_zero, Int.natCast_zero,  hof2])
      all_goals first | exact ⟨.refl _, .refl _⟩ | exact .refl _
    | some x =>
      obtain ⟨Q, w⟩ := x
      rw [hR] at h1
      simp only [planD] at h1
      have hq := planF_ok (hpo v hvm) ho hR
      have hql := plan_len hq.1
      have hof2 : offF l 0 (P.take (i + 1)) = O ++ [⟨(i : Int), (Q.length : Int), w⟩] := by rw [hof, offF, hR]; simp [offF]
      have hsn : rowC (rows eOf O) ++ [[D.c (.v (.int .i64 i)), D.c (.v (.int .i64 Q.length)), D.c (.v (.int .i64 w))]] = rowC (rows eOf (O ++ [⟨(i : Int), (Q.length : Int), w⟩])) := by simp [rowC, rows, eOf]
      repeat' (first
    | (with_reducible first | refine DW.seq ?_ | refine DW.block ?_ | refine DW.skip ?_ | refine DW.exit ?_ | refine DW.ret ?_ | refine DW.reg ?_)
    | (simp (disch := omega) only [go_sem, simprocAttr, bm_box, bm_row, bk_box, bk_row, hd, hv, List.map_cons, List.map_nil])
    | (exact retS_of rfl rfl rfl)
    | (refine DW.cond_tt rfl ?_)
    | (refine call_c (h1) (by decide) ?_)
    | (refine DW.cond_ff rfl ?_)
    | (refine DW.cond rfl ?_ ?_ <;> intro hc <;> (try simp only [go_sem] at hc))
    | (refine g_split ?_ ?_ <;> intro hc <;> (try simp only [hc]) <;> (try simp only [go_sem] at hc)))
      refine ⟨⟨i + 1, hlt⟩, ?_, Ent.to ?_ ?_⟩ <;> first | (show _ < _; (try simp only); omega) | (simp (disch := omega) only [wkT_cons, wkX_cons, wkT_nil, wkX_nil, get, Nat.reduceEqDiff, ↓reduceIte, ex_some, wk_self, wk_top, wk_nil, wkB_self, and_self, dI, i64_in, and_true, true_and, Int.natCast_add, Int.natCast_one, Int.ofNat_zero, Int.natCast_zero,  hof2, hsn])
      all_goals first | exact ⟨.refl _, .refl _⟩ | exact .refl _
  · have hti : P.take i = P := by rw [he, List.take_length]
    rw [hti]
    have hall := offF_ok ho (P := P) (i := 0) hpo (by omega)
    cases hO : offF l 0 P with
    | nil =>
      rw [hO] at hB
      rw [if_pos (show ([] : List TOff).isEmpty = true from rfl)] at hB
      rw [← hB, if_pos (by decide)] at hA
      subst hA hB
      repeat' (first
    | (with_reducible first | refine DW.seq ?_ | refine DW.block ?_ | refine DW.skip ?_ | refine DW.exit ?_ | refine DW.ret ?_ | refine DW.reg ?_)
    | (simp (disch := omega) only [go_sem, simprocAttr, bm_box, bm_row, bk_box, bk_row, hd])
    | (exact retS_of rfl rfl rfl)
    | (refine DW.cond_tt rfl ?_)
    | (refine DW.cond_ff rfl ?_)
    | (refine DW.cond rfl ?_ ?_ <;> intro hc <;> (try simp only [go_sem] at hc))
    | (refine g_split ?_ ?_ <;> intro hc <;> (try simp only [hc]) <;> (try simp only [go_sem] at hc)))
    | cons x t =>
      rw [hO] at hB hA hall hofl
      rw [if_neg (by simp)] at hB
      rw [← hB, if_neg (by decide)] at hA
      dsimp only at hA
      have h1 := trMinO true x t (by simp only [List.length_cons] at hofl; omega) 71 (fun u hu v hv => trChoose1 u v (hall u hu) (hall v hv))
      subst hA hB
      generalize minBy cmpO x t = m at *
      have dl : (((x :: t).length : Int) == 0) = false := by rw [beq_eq_false_iff_ne]; simp only [List.length_cons]; omega
      generalize x :: t = X at *
      repeat' (first
    | (with_reducible first | refine DW.seq ?_ | refine DW.block ?_ | refine DW.skip ?_ | refine DW.exit ?_ | refine DW.ret ?_ | refine DW.reg ?_)
    | (simp (disch := omega) only [go_sem, simprocAttr, bm_box, bm_row, bk_box, bk_row, hd, dl, List.map_cons, List.map_nil])
    | (exact retS_of rfl rfl rfl)
    | (refine DW.cond_tt rfl ?_)
    | (refine call_c (h1) (by decide) ?_)
    | (refine DW.cond_ff rfl ?_)
    | (refine DW.cond rfl ?_ ?_ <;> intro hc <;> (try simp only [go_sem] at hc))
    | (refine g_split ?_ ?_ <;> intro hc <;> (try simp only [hc]) <;> (try simp only [go_sem] at hc)))
end Go.Dw.Seat
end
section
set_option linter.unusedSimpArgs false
set_option maxRecDepth 100000
namespace Go.Dw.Seat
open Go Go.Dw Go.Proofs Go.IntWalk
def numsT (s i : Nat) : List Int := ((List.range i).filter (fun j => s.testBit j)).map fun (j : Nat) => (j : Int)
def numsI (s : Nat) : List Int := numsT s 4
theorem shr16' : ∀ s : Fin 16, ∀ i : Fin 5, shrI IntKind.i64 (s.1 : Int) i.1 = ((s.1 / 2 ^ i.1 : Nat) : Int) := by decide +kernel
theorem and16' : ∀ v : Fin 16, andI IntKind.i64 (v.1 : Int) 1 = ((v.1 % 2 : Nat) : Int) := by decide +kernel
theorem nums_end' : ∀ s : Fin 16, ∀ i : Fin 5, s.1 / 2 ^ i.1 = 0 → numsT s.1 i.1 = numsI s.1 := by decide +kernel
theorem nums_lt' : ∀ s : Fin 16, s.1 / 2 ^ 4 = 0 := by decide +kernel
theorem nums_1' : ∀ s : Fin 16, ∀ i : Fin 4, s.1 / 2 ^ i.1 % 2 = 1 → numsT s.1 (i.1 + 1) = numsT s.1 i.1 ++ [(i.1 : Int)] := by decide +kernel
theorem nums_0' : ∀ s : Fin 16, ∀ i : Fin 4, s.1 / 2 ^ i.1 % 2 = 0 → numsT s.1 (i.1 + 1) = numsT s.1 i.1 := by decide +kernel
theorem nums_len' : ∀ s : Fin 16, ∀ i : Fin 5, (numsT s.1 i.1).length ≤ 4 := by decide +kernel
set_option maxHeartbeats 1000000 in
theorem trNumbers (s : Nat) (hs : s < 16) : DCall Try.prog 74 [dI s] [] (dIs false (numsI s)) [] := by
  refine DCall.of Try.func74 sf74 hb74 (Nat.le_of_ble_eq_true rfl) (okRes_nil fun _ => rfl) ?_; simp only [s74, idxs, Nat.reduceAdd]
  repeat' (first
    | (with_reducible first | refine DW.seq ?_ | refine DW.block ?_ | refine DW.skip ?_ | refine DW.exit ?_ | refine DW.ret ?_ | refine DW.reg ?_)
    | (simp (disch := omega) only [go_sem, simprocAttr, Blk.men, Blk.keysIn])
    | (exact retS_of rfl rfl rfl)
    | (refine DW.cond_tt rfl ?_)
    | (refine DW.cond_ff rfl ?_)
    | (refine DW.cond rfl ?_ ?_ <;> intro hc <;> (try simp only [go_sem] at hc))
    | (refine g_split ?_ ?_ <;> intro hc <;> (try simp only [hc]) <;> (try simp only [go_sem] at hc)))
  refine DW.ent (Ent.adopt 2 18 1 rfl rfl rfl) ?_
  refine DW.loop (ι := { i : Nat // i ≤ 4 }) (fun i => ⟨20, [(3, dI i.1), (2, .own 18), (0, dI s)], [(18, .row 1 (rowC (rows eI (numsT s i.1))))]⟩) (fun i => 4 - i.1) ⟨0, Nat.zero_le _⟩ ?_ ?_
  · refine Ent.to ?_ ?_ <;> simp (disch := omega) only [wkT_cons, wkX_cons, wkT_nil, wkX_nil, get, Nat.reduceEqDiff, ↓reduceIte, ex_some, wk_self, wk_top, wk_nil, wkB_self, and_self, dI, i64_in, and_true, true_and, Int.natCast_add, Int.natCast_one, Int.ofNat_zero, Int.natCast_zero, ins, Nat.reduceLT]
    all_goals first | exact ⟨.refl _, .refl _⟩ | exact .refl _
  rintro ⟨i, hi⟩
  dsimp only
  have hsh := shr16' ⟨s, hs⟩ ⟨i, by omega⟩
  have hen := nums_end' ⟨s, hs⟩ ⟨i, by omega⟩
  have hll := nums_len' ⟨s, hs⟩ ⟨i, by omega⟩
  have hle : s / 2 ^ i ≤ s := Nat.div_le_self _ _
  dsimp only at hsh hen hll
  by_cases h0 : s / 2 ^ i = 0
  · have hd : decide ((0 : Int) < ((s / 2 ^ i : Nat) : Int)) = false := decide_eq_false (by omega)
    have hnn := hen h0
    repeat' (first
    | (with_reducible first | refine DW.seq ?_ | refine DW.block ?_ | refine DW.skip ?_ | refine DW.exit ?_ | refine DW.ret ?_ | refine DW.reg ?_)
    | (simp (disch := omega) only [go_sem, simprocAttr, Blk.men, Blk.keysIn, hsh, hd])
    | (exact retS_of rfl rfl rfl)
    | (refine DW.cond_tt rfl ?_)
    | (refine DW.cond_ff rfl ?_)
    | (refine DW.cond rfl ?_ ?_ <;> intro hc <;> (try simp only [go_sem] at hc))
    | (refine g_split ?_ ?_ <;> intro hc <;> (try simp only [hc]) <;> (try simp only [go_sem] at hc)))
    (refine retS_ent (Ent.rel 18 rfl) ?_; simp (disch := omega) only [go_sem, simprocAttr, Blk.men, Blk.keysIn])
    rw [hnn]
    refine retS_wk rfl ?_ (by simp only [Blk.nb, rowC_nb, D.nb, D.nbs, C.nb, C.nbs, C.nbss, rows_nb eI_nb, Bool.and_true, Bool.not_false, Bool.and_self, bD, dI, iD]); exact .refl _
  · have hi4 : i < 4 := by
      rcases Nat.lt_or_ge i 4 with h | h
      · exact h
      · have : i = 4 := by omega
        subst this
        exact absurd (nums_lt' ⟨s, hs⟩) h0
    have hd : decide ((0 : Int) < ((s / 2 ^ i : Nat) : Int)) = true := decide_eq_true (Int.natCast_pos.mpr (Nat.pos_of_ne_zero h0))
    have han := and16' ⟨s / 2 ^ i, Nat.lt_of_le_of_lt hle hs⟩
    have q1 := nums_1' ⟨s, hs⟩ ⟨i, hi4⟩
    have q0 := nums_0' ⟨s, hs⟩ ⟨i, hi4⟩
    dsimp only at han q1 q0
    generalize s / 2 ^ i = u at *
    by_cases h1 : u % 2 = 1
    · have hd2 : (((u % 2 : Nat) : Int) == 1) = true := by rw [h1]; rfl
      have q := q1 h1
      generalize u % 2 = m at *
      repeat' (first
    | (with_reducible first | refine DW.seq ?_ | refine DW.block ?_ | refine DW.skip ?_ | refine DW.exit ?_ | refine DW.ret ?_ | refine DW.reg ?_)
    | (simp (disch := omega) only [go_sem, simprocAttr, Blk.men, Blk.keysIn, hsh, hd, han, hd2])
    | (exact retS_of rfl rfl rfl)
    | (refine DW.cond_tt rfl ?_)
    | (refine DW.cond_ff rfl ?_)
    | (refine DW.cond rfl ?_ ?_ <;> intro hc <;> (try simp only [go_sem] at hc))
    | (refine g_split ?_ ?_ <;> intro hc <;> (try simp only [hc]) <;> (try simp only [go_sem] at hc)))
      refine ⟨⟨i + 1, by omega⟩, ?_, Ent.to ?_ ?_⟩ <;> first | (show _ < _; (try simp only); omega) | (simp (disch := omega) only [wkT_cons, wkX_cons, wkT_nil, wkX_nil, get, Nat.reduceEqDiff, ↓reduceIte, ex_some, wk_self, wk_top, wk_nil, wkB_self, and_self, dI, i64_in, and_true, true_and, Int.natCast_add, Int.natCast_one, Int.ofNat_zero, Int.natCast_zero,  q])
      all_goals first | exact ⟨.refl _, .refl _⟩ | exact .refl _
    · have h2 : u % 2 = 0 := by omega
      have hd2 : (((u % 2 : Nat) : Int) == 1) = false := by rw [h2]; rfl
      have q := q0 h2
      generalize u % 2 = m at *
      repeat' (first
    | (with_reducible first | refine DW.seq ?_ | refine DW.block ?_ | refine DW.skip ?_ | refine DW.exit ?_ | refine DW.ret ?_ | refine DW.reg ?_)
    | (simp (disch := omega) only [go_sem, simprocAttr, Blk.men, Blk.keysIn, hsh, hd, han, hd2])
    | (exact retS_of rfl rfl rfl)
    | (refine DW.cond_tt rfl ?_)
    | (refine DW.cond_ff rfl ?_)
    | (refine DW.cond rfl ?_ ?_ <;> intro hc <;> (try simp only [go_sem] at hc))
    | (refine g_split ?_ ?_ <;> intro hc <;> (try simp only [hc]) <;> (try simp only [go_sem] at hc)))
      refine ⟨⟨i + 1, by omega⟩, ?_, Ent.to ?_ ?_⟩ <;> first | (show _ < _; (try simp only); omega) | (simp (disch := omega) only [wkT_cons, wkX_cons, wkT_nil, wkX_nil, get, Nat.reduceEqDiff, ↓reduceIte, ex_some, wk_self, wk_top, wk_nil, wkB_self, and_self, dI, i64_in, and_true, true_and, Int.natCast_add, Int.natCast_one, Int.ofNat_zero, Int.natCast_zero,  q])
      all_goals first | exact ⟨.refl _, .refl _⟩ | exact .refl _
end Go.Dw.Seat
end
section
set_option linter.unusedSimpArgs false
set_option maxRecDepth 100000
namespace Go.Dw.Seat
open Go Go.Dw Go.Proofs Go.IntWalk
def selF (s : Nat) : Nat → List TOrd → List TOrd
  | _, [] => []
  | i, o :: l => if s / 2 ^ i % 2 = 1 then o :: selF s (i + 1) l else selF s (i + 1) l
theorem selF_app (s : Nat) : ∀ (a b : List TOrd) (i : Nat), selF s i (a ++ b) = selF s i a ++ selF s (i + a.length) b
  | [], b, i => by simp [selF]
  | o :: a, b, i => by
    have ih := selF_app s a b (i + 1)
    rw [List.cons_append, selF, selF, ih, List.length_cons, show i + 1 + a.length = i + (a.length + 1) by omega]
    split <;> rfl
theorem selF_mem {s : Nat} : ∀ {l : List TOrd} {i : Nat}, ∀ o ∈ selF s i l, o ∈ l
  | [], _, o, h => by cases h
  | a :: l, i, o, h => by
    rw [selF] at h
    split at h
    · rcases List.mem_cons.1 h with rfl | h
      · simp
      · exact List.mem_cons_of_mem _ (selF_mem o h)
    · exact List.mem_cons_of_mem _ (selF_mem o h)
theorem selF_len {s : Nat} : ∀ {l : List TOrd} {i : Nat}, (selF s i l).length ≤ l.length
  | [], _ => by simp [selF]
  | a :: l, i => by
    have := selF_len (s := s) (l := l) (i := i + 1)
    rw [selF]
    split
    · simp only [List.length_cons]; omega
    · simp only [List.length_cons]; omega
theorem bit16 : ∀ n : Fin 5, ∀ i : Fin 4, i.1 < n.1 → (2 ^ n.1 - 1) / 2 ^ i.1 % 2 = 1 := by decide
theorem selF_all : ∀ (l : List TOrd) (i n : Nat), i + l.length ≤ n → n ≤ 4 → selF (2 ^ n - 1) i l = l
  | [], _, _, _, _ => rfl
  | o :: l, i, n, h, h4 => by
    simp only [List.length_cons] at h
    have := bit16 ⟨n, by omega⟩ ⟨i, by omega⟩ (by dsimp only; omega)
    rw [selF, if_pos this, selF_all l (i + 1) n (by omega) h4]
theorem rowC_snocO (q : List TOrd) (o : TOrd) : rowC (rows eO q) ++ [[D.c (.v (.int .i64 o.w)), D.c (.v (.int .i64 o.lo)), D.c (.v (.int .i64 o.hi))]] = rowC (rows eO (q ++ [o])) := by simp [rowC, rows, eO]
set_option maxHeartbeats 2000000 in
theorem trAmong (p : TPap) (l : List TOrd) (hl : l.length ≤ 4) (s : Nat) (hs : s < 16) : DCall Try.prog 73 [macD false p l, dI s] [] (macD false p (selF s 0 l)) [] := by
  generalize hR : selF s 0 l = R
  refine DCall.of Try.func73 sf73 hb73 (Nat.le_of_ble_eq_true rfl) (okRes_nil fun _ => rfl) ?_; simp only [s73, idxs, Nat.reduceAdd]
  repeat' (first
    | (with_reducible first | refine DW.seq ?_ | refine DW.block ?_ | refine DW.skip ?_ | refine DW.exit ?_ | refine DW.ret ?_ | refine DW.reg ?_)
    | (simp (disch := omega) only [go_sem, simprocAttr, bm_box, bm_row, bk_box, bk_row])
    | (exact retS_of rfl rfl rfl)
    | (refine DW.cond_tt rfl ?_)
    | (refine DW.cond_ff rfl ?_)
    | (refine DW.cond rfl ?_ ?_ <;> intro hc <;> (try simp only [go_sem] at hc))
    | (refine g_split ?_ ?_ <;> intro hc <;> (try simp only [hc]) <;> (try simp only [go_sem] at hc)))
  (refine DW.ent (Ent.adoptB 5 4 28 3 rfl rfl rfl rfl) ?_; simp only [ins, Nat.reduceLT, Nat.reduceEqDiff, ↓reduceIte, List.set_cons_zero, List.set_cons_succ])
  refine DW.loop (ι := { i : Nat // i ≤ l.length }) (fun i => ⟨32, [(14, dI i.1), (13, dI l.length), (12, .c (.sl false 3 (rows eO l))), (5, .box 5 0), (4, .box 4 0), (1, dI s)], [(28, .row 3 (rowC (rows eO (selF s 0 (l.take i.1))))), (5, .box [dI p.wide, dI p.tl, dI p.th, dI p.webs, .own 28]), (4, .box [dI 0, dI 0, dI 0, dI 0, .c (.v (.slice none 0 0))])]⟩) (fun i => l.length - i.1) ⟨0, Nat.zero_le _⟩ ?_ ?_
  · refine Ent.to ?_ ?_ <;> simp (disch := omega) only [wkT_cons, wkX_cons, wkT_nil, wkX_nil, get, Nat.reduceEqDiff, ↓reduceIte, ex_some, wk_self, wk_top, wk_nil, wkB_self, and_self, dI, i64_in, and_true, true_and, Int.natCast_add, Int.natCast_one, Int.ofNat_zero, Int.natCast_zero, List.take_zero, selF]
    all_goals first | exact ⟨.refl _, .refl _, .refl _⟩ | exact ⟨.refl _, .refl _⟩ | exact .refl _ | skip
  rintro ⟨i, hi⟩
  dsimp only
  rcases at_or l i hi with ⟨o, ho, hlt, hd⟩ | ⟨he, hd⟩
  · have hsh := shr16' ⟨s, hs⟩ ⟨i, by omega⟩
    have hle : s / 2 ^ i ≤ s := Nat.div_le_self _ _
    dsimp only at hsh
    have han := and16' ⟨s / 2 ^ i, by omega⟩
    dsimp only at han
    have htk : l.take (i + 1) = l.take i ++ [o] := by rw [List.take_add_one, ho]; rfl
    have hsl : selF s 0 (l.take (i + 1)) = selF s 0 (l.take i) ++ selF s i [o] := by
      rw [htk, selF_app, List.length_take, Nat.min_eq_left (by omega), Nat.zero_add]
    have hol := selF_len (s := s) (l := l.take i) (i := 0)
    rw [List.length_take] at hol
    generalize selF s 0 (l.take i) = S at *
    by_cases hb : s / 2 ^ i % 2 = 1
    · have hd2 : (((s / 2 ^ i % 2 : Nat) : Int) == 1) = true := by rw [hb]; rfl
      have hsl2 : selF s 0 (l.take (i + 1)) = S ++ [o] := by rw [hsl, selF, if_pos hb]; rfl
      repeat' (first
    | (with_reducible first | refine DW.seq ?_ | refine DW.block ?_ | refine DW.skip ?_ | refine DW.exit ?_ | refine DW.ret ?_ | refine DW.reg ?_)
    | (simp (disch := omega) only [go_sem, simprocAttr, bm_box, bm_row, bk_box, bk_row, hd, ho, hsh, han, hd2, List.map_cons, List.map_nil])
    | (exact retS_of rfl rfl rfl)
    | (refine DW.cond_tt rfl ?_)
    | (refine DW.cond_ff rfl ?_)
    | (refine DW.cond rfl ?_ ?_ <;> intro hc <;> (try simp only [go_sem] at hc))
    | (refine g_split ?_ ?_ <;> intro hc <;> (try simp only [hc]) <;> (try simp only [go_sem] at hc)))
      refine ⟨⟨i + 1, hlt⟩, ?_, Ent.to ?_ ?_⟩ <;> first | (show _ < _; (try simp only); omega) | (simp (disch := omega) only [wkT_cons, wkX_cons, wkT_nil, wkX_nil, get, Nat.reduceEqDiff, ↓reduceIte, ex_some, wk_self, wk_top, wk_nil, wkB_self, and_self, dI, i64_in, and_true, true_and, Int.natCast_add, Int.natCast_one, Int.ofNat_zero, Int.natCast_zero,  hsl2, rowC_snocO])
      all_goals first | exact ⟨.refl _, .refl _, .refl _⟩ | exact ⟨.refl _, .refl _⟩ | exact .refl _
    · have hd2 : (((s / 2 ^ i % 2 : Nat) : Int) == 1) = false := by rw [beq_eq_false_iff_ne]; omega
      have hsl2 : selF s 0 (l.take (i + 1)) = S := by rw [hsl, selF, if_neg hb]; simp [selF]
      repeat' (first
    | (with_reducible first | refine DW.seq ?_ | refine DW.block ?_ | refine DW.skip ?_ | refine DW.exit ?_ | refine DW.ret ?_ | refine DW.reg ?_)
    | (simp (disch := omega) only [go_sem, simprocAttr, bm_box, bm_row, bk_box, bk_row, hd, ho, hsh, han, hd2, List.map_cons, List.map_nil])
    | (exact retS_of rfl rfl rfl)
    | (refine DW.cond_tt rfl ?_)
    | (refine DW.cond_ff rfl ?_)
    | (refine DW.cond rfl ?_ ?_ <;> intro hc <;> (try simp only [go_sem] at hc))
    | (refine g_split ?_ ?_ <;> intro hc <;> (try simp only [hc]) <;> (try simp only [go_sem] at hc)))
      refine ⟨⟨i + 1, hlt⟩, ?_, Ent.to ?_ ?_⟩ <;> first | (show _ < _; (try simp only); omega) | (simp (disch := omega) only [wkT_cons, wkX_cons, wkT_nil, wkX_nil, get, Nat.reduceEqDiff, ↓reduceIte, ex_some, wk_self, wk_top, wk_nil, wkB_self, and_self, dI, i64_in, and_true, true_and, Int.natCast_add, Int.natCast_one, Int.ofNat_zero, Int.natCast_zero,  hsl2])
      all_goals first | exact ⟨.refl _, .refl _, .refl _⟩ | exact ⟨.refl _, .refl _⟩ | exact .refl _
  · have hti : l.take i = l := by rw [he, List.take_length]
    rw [hti, hR]
    repeat' (first
    | (with_reducible first | refine DW.seq ?_ | refine DW.block ?_ | refine DW.skip ?_ | refine DW.exit ?_ | refine DW.ret ?_ | refine DW.reg ?_)
    | (simp (disch := omega) only [go_sem, simprocAttr, bm_box, bm_row, bk_box, bk_row, hd])
    | (exact retS_of rfl rfl rfl)
    | (refine DW.cond_tt rfl ?_)
    | (refine DW.cond_ff rfl ?_)
    | (refine DW.cond rfl ?_ ?_ <;> intro hc <;> (try simp only [go_sem] at hc))
    | (refine g_split ?_ ?_ <;> intro hc <;> (try simp only [hc]) <;> (try simp only [go_sem] at hc)))
    (refine retS_ent (Ent.rel 28 rfl) ?_; simp (disch := omega) only [go_sem, simprocAttr, bm_box, bm_row, bk_box, bk_row])
    refine retS_wk rfl ?_ (by simp only [Blk.nb, rowC_nb, D.nb, D.nbs, C.nb, C.nbs, C.nbss, rows_nb eI_nb, Bool.and_true, Bool.not_false, Bool.and_self, bD, dI, iD, rows_nb eO_nb, rows_nb eSt_nb, rows_nb eWs_nb, rows_nb eOf_nb]); exact .refl _
end Go.Dw.Seat
end
section
set_option linter.unusedSimpArgs false
set_option maxRecDepth 100000
namespace Go.Dw.Seat
open Go Go.Dw Go.Proofs Go.IntWalk
def cmpL2 (a b : List Int) : Int := orL [(a.length : Int) - b.length, cmpL a b]
theorem trAgainst1 (b1 b2 : Bool) (s t : List Int) (hs : s.length ≤ 2 ^ 36) (ht : t.length ≤ 2 ^ 36) : DCall Try.prog 76 [dIs b1 s, dIs b2 t] [] (dI (cmpL2 s t)) [] := by
  have h1 := crCmpL b1 b2 s t hs ht
  have h2 := crOrL true [(s.length : Int) - t.length, cmpL s t] (by simp)
  unfold cmpL2
  generalize cmpL s t = c at *
  generalize orL [(s.length : Int) - t.length, c] = r at *
  refine DCall.of Try.func76 sf76 hb76 (Nat.le_of_ble_eq_true rfl) (okRes_nil fun _ => rfl) ?_; simp only [s76, idxs, Nat.reduceAdd]
  repeat' (first
    | (with_reducible first | refine DW.seq ?_ | refine DW.block ?_ | refine DW.skip ?_ | refine DW.exit ?_ | refine DW.ret ?_ | refine DW.reg ?_)
    | (simp (disch := omega) only [go_sem, simprocAttr, bm_box, bm_row, bk_box, bk_row, List.map_cons, List.map_nil])
    | (exact retS_of rfl rfl rfl)
    | (refine DW.cond_tt rfl ?_)
    | (refine call_c (h1) (by decide) ?_)
    | (refine call_c (h2) (by decide) ?_)
    | (refine DW.cond_ff rfl ?_)
    | (refine DW.cond rfl ?_ ?_ <;> intro hc <;> (try simp only [go_sem] at hc))
    | (refine g_split ?_ ?_ <;> intro hc <;> (try simp only [hc]) <;> (try simp only [go_sem] at hc)))
set_option maxHeartbeats 1000000 in
theorem trMinL (b : Bool) (x : List Int) (l : List (List Int)) (hl : l.length ≤ 2 ^ 30) (g : FuncId) (hg : ∀ u ∈ x :: l, ∀ v ∈ x :: l, DCall Try.prog g [dIs false u, dIs false v] [] (dI (cmpL2 u v)) []) : DCall Try.prog 75 [.c (.sl b 1 (rows eWs (x :: l))), .c (.fn (.func g) [] [])] [] (dIs false (minBy cmpL2 x l)) [] := by
  obtain ⟨L, hL⟩ : ∃ L, L = x :: l := ⟨_, rfl⟩
  have hx : L[0]? = some x := by rw [hL]; rfl
  have hxm : x ∈ L := by rw [hL]; simp
  have hLl : L.length = l.length + 1 := by rw [hL]; rfl
  have h1d : L.drop 1 = l := by rw [hL]; rfl
  rw [← hL] at hg ⊢
  have hd1 : decide ((L.length : Int) < 1) = false := decide_eq_false (by omega)
  have hd0 : decide ((0 : Int) < (L.length : Int)) = true := decide_eq_true (by omega)
  generalize hR : minBy cmpL2 x l = R
  refine DCall.of Try.func75 sf75 hb75 (Nat.le_of_ble_eq_true rfl) (okRes_nil fun _ => rfl) ?_; simp only [s75, idxs, Nat.reduceAdd]
  repeat' (first
    | (with_reducible first | refine DW.seq ?_ | refine DW.block ?_ | refine DW.skip ?_ | refine DW.exit ?_ | refine DW.ret ?_ | refine DW.reg ?_)
    | (simp (disch := omega) only [go_sem, simprocAttr, bm_box, bm_row, bk_box, bk_row, hd1, hd0, hx, List.map_cons, List.map_nil])
    | (exact retS_of rfl rfl rfl)
    | (refine DW.cond_tt rfl ?_)
    | (refine DW.cond_ff rfl ?_)
    | (refine DW.cond rfl ?_ ?_ <;> intro hc <;> (try simp only [go_sem] at hc))
    | (refine g_split ?_ ?_ <;> intro hc <;> (try simp only [hc]) <;> (try simp only [go_sem] at hc)))
  refine DW.loop (ι := { y : Nat × List Int // y.1 ≤ L.length ∧ y.2 ∈ L ∧ minBy cmpL2 y.2 (L.drop y.1) = R }) (fun y => ⟨33, [(6, dI y.1.1), (5, dIs false y.1.2), (4, .c (.v (.slice none 0 0))), (0, .c (.sl b 1 (rows eWs L))), (1, .c (.fn (.func g) [] []))], []⟩) (fun y => L.length - y.1.1) ⟨(1, x), by dsimp only; omega, hxm, by rw [h1d]; exact hR⟩ ?_ ?_
  · refine Ent.to ?_ ?_ <;> simp (disch := omega) only [wkT_cons, wkX_cons, wkT_nil, wkX_nil, get, Nat.reduceEqDiff, ↓reduceIte, ex_some, wk_self, wk_top, wk_nil, wkB_self, and_self, dI, i64_in, and_true, true_and, Int.natCast_add, Int.natCast_one, Int.ofNat_zero, Int.natCast_zero]
    all_goals first | exact ⟨.refl _, .refl _⟩ | exact .refl _
  rintro ⟨⟨i, m⟩, hi, hm, hr⟩
  dsimp only at hi hm hr ⊢
  rcases at_or L i hi with ⟨v, hv, hlt, hd⟩ | ⟨he, hd⟩
  · have hdr : L.drop i = v :: L.drop (i + 1) := by rw [List.drop_eq_getElem_cons hlt, (List.getElem_eq_iff hlt).2 hv]
    have hvm := List.mem_of_getElem? hv
    have hcall := hg v hvm m hm
    rw [hdr, minBy] at hr
    generalize cmpL2 v m = c at *
    by_cases hc : c < 0
    · have hdc : decide (c < 0) = true := decide_eq_true hc
      rw [if_pos hc] at hr
      repeat' (first
    | (with_reducible first | refine DW.seq ?_ | refine DW.block ?_ | refine DW.skip ?_ | refine DW.exit ?_ | refine DW.ret ?_ | refine DW.reg ?_)
    | (simp (disch := omega) only [go_sem, simprocAttr, bm_box, bm_row, bk_box, bk_row, hd, hv, hdc, closeDs_fn, List.map_cons, List.map_nil])
    | (exact retS_of rfl rfl rfl)
    | (refine DW.cond_tt rfl ?_)
    | (refine call_c (hcall) (by decide) ?_)
    | (refine DW.cond_ff rfl ?_)
    | (refine DW.cond rfl ?_ ?_ <;> intro hc <;> (try simp only [go_sem] at hc))
    | (refine g_split ?_ ?_ <;> intro hc <;> (try simp only [hc]) <;> (try simp only [go_sem] at hc)))
      refine ⟨⟨(i + 1, v), hlt, hvm, hr⟩, ?_, Ent.to ?_ ?_⟩ <;> first | (show _ < _; (try simp only); omega) | (simp (disch := omega) only [wkT_cons, wkX_cons, wkT_nil, wkX_nil, get, Nat.reduceEqDiff, ↓reduceIte, ex_some, wk_self, wk_top, wk_nil, wkB_self, and_self, dI, i64_in, and_true, true_and, Int.natCast_add, Int.natCast_one, Int.ofNat_zero, Int.natCast_zero])
      all_goals first | exact ⟨.refl _, .refl _⟩ | exact .refl _
    · have hdc : decide (c < 0) = false := decide_eq_false hc
      rw [if_neg hc] at hr
      repeat' (first
    | (with_reducible first | refine DW.seq ?_ | refine DW.block ?_ | refine DW.skip ?_ | refine DW.exit ?_ | refine DW.ret ?_ | refine DW.reg ?_)
    | (simp (disch := omega) only [go_sem, simprocAttr, bm_box, bm_row, bk_box, bk_row, hd, hv, hdc, closeDs_fn, List.map_cons, List.map_nil])
    | (exact retS_of rfl rfl rfl)
    | (refine DW.cond_tt rfl ?_)
    | (refine call_c (hcall) (by decide) ?_)
    | (refine DW.cond_ff rfl ?_)
    | (refine DW.cond rfl ?_ ?_ <;> intro hc <;> (try simp only [go_sem] at hc))
    | (refine g_split ?_ ?_ <;> intro hc <;> (try simp only [hc]) <;> (try simp only [go_sem] at hc)))
      refine ⟨⟨(i + 1, m), hlt, hm, hr⟩, ?_, Ent.to ?_ ?_⟩ <;> first | (show _ < _; (try simp only); omega) | (simp (disch := omega) only [wkT_cons, wkX_cons, wkT_nil, wkX_nil, get, Nat.reduceEqDiff, ↓reduceIte, ex_some, wk_self, wk_top, wk_nil, wkB_self, and_self, dI, i64_in, and_true, true_and, Int.natCast_add, Int.natCast_one, Int.ofNat_zero, Int.natCast_zero])
      all_goals first | exact ⟨.refl _, .refl _⟩ | exact .refl _
  · rw [List.drop_eq_nil_of_le (by omega), minBy] at hr
    subst hr
    repeat' (first
    | (with_reducible first | refine DW.seq ?_ | refine DW.block ?_ | refine DW.skip ?_ | refine DW.exit ?_ | refine DW.ret ?_ | refine DW.reg ?_)
    | (simp (disch := omega) only [go_sem, simprocAttr, bm_box, bm_row, bk_box, bk_row, hd])
    | (exact retS_of rfl rfl rfl)
    | (refine DW.cond_tt rfl ?_)
    | (refine DW.cond_ff rfl ?_)
    | (refine DW.cond rfl ?_ ?_ <;> intro hc <;> (try simp only [go_sem] at hc))
    | (refine g_split ?_ ?_ <;> intro hc <;> (try simp only [hc]) <;> (try simp only [go_sem] at hc)))
    refine retS_wk rfl ?_ (by simp only [Blk.nb, rowC_nb, D.nb, D.nbs, C.nb, C.nbs, C.nbss, rows_nb eI_nb, Bool.and_true, Bool.not_false, Bool.and_self, bD, dI, iD, rows_nb eO_nb, rows_nb eSt_nb, rows_nb eWs_nb, rows_nb eOf_nb]); exact .refl _
def badsF (p : TPap) (l : List TOrd) (n : Nat) : List (List Int) := ((List.range n).filter fun s => (planF p (selF s 0 l)).isNone).map numsI
def agE (p : TPap) (l : List TOrd) : Int := if openE p l ≠ 0 then openE p l else if (planF p l).isSome then 7 else 0
def agD (p : TPap) (l : List TOrd) : D := if agE p l ≠ 0 then .c (.v (.slice none 0 0)) else match badsF p l (2 ^ l.length) with
  | [] => .c (.v (.slice none 0 0))
  | x :: t => dIs false (minBy cmpL2 x t)
theorem badsF_succ (p : TPap) (l : List TOrd) (n : Nat) : badsF p l (n + 1) = badsF p l n ++ (if (planF p (selF n 0 l)).isNone then [numsI n] else []) := by
  rw [badsF, List.range_succ, List.filter_append, List.map_append, badsF]
  congr 1
  rw [List.filter_cons]
  split <;> simp
theorem badsF_len (p : TPap) (l : List TOrd) (n : Nat) : (badsF p l n).length ≤ n := by
  rw [badsF, List.length_map]
  exact Nat.le_trans (List.length_filter_le _ _) (by simp)
theorem badsF_ne {p : TPap} {l : List TOrd} (hl : l.length ≤ 4) (h : planF p l = none) : badsF p l (2 ^ l.length) ≠ [] := by
  intro he
  rw [badsF, List.map_eq_nil_iff, List.filter_eq_nil_iff] at he
  have h1 := Nat.one_le_two_pow (n := l.length)
  have := he (2 ^ l.length - 1) (by simp; omega)
  rw [selF_all l 0 l.length (by omega) hl, h] at this
  simp at this
theorem numsI_len (s : Nat) : (numsI s).length ≤ 4 := by
  rw [numsI, numsT, List.length_map]
  exact Nat.le_trans (List.length_filter_le _ _) (by simp)
theorem badsF_mem {p : TPap} {l : List TOrd} {n : Nat} {u : List Int} (h : u ∈ badsF p l n) : u.length ≤ 4 := by
  rw [badsF, List.mem_map] at h
  obtain ⟨s, _, rfl⟩ := h
  exact numsI_len s
set_option maxHeartbeats 4000000 in
theorem trAgainst (p : TPap) (l : List TOrd) (hl : l.length ≤ 2 ^ 36) : DCall Try.prog 36 [papD p, .c (.sl false 3 (rows eO l))] [] (.tup [agD p l, dI (agE p l)]) [] := by
  by_cases h : openE p l = 0
  case neg =>
    have h1 := trOpenE false p l hl h
    have hE : agE p l = openE p l := if_pos h
    rw [agD, hE, if_pos h]
    generalize openE p l = e at *
    have hd : (e != 0) = true := by simpa using h
    refine DCall.of Try.func36 sf36 hb36 (Nat.le_of_ble_eq_true rfl) (okRes_nil fun _ => rfl) ?_; simp only [s36, idxs, Nat.reduceAdd]
    repeat' (first
    | (with_reducible first | refine DW.seq ?_ | refine DW.block ?_ | refine DW.skip ?_ | refine DW.exit ?_ | refine DW.ret ?_ | refine DW.reg ?_)
    | (simp (disch := omega) only [go_sem, simprocAttr, bm_box, bm_row, bk_box, bk_row, hd])
    | (exact retS_of rfl rfl rfl)
    | (refine DW.cond_tt rfl ?_)
    | (refine call_c (h1) (by decide) ?_)
    | (refine DW.cond_ff rfl ?_)
    | (refine DW.cond rfl ?_ ?_ <;> intro hc <;> (try simp only [go_sem] at hc))
    | (refine g_split ?_ ?_ <;> intro hc <;> (try simp only [hc]) <;> (try simp only [go_sem] at hc)))
  obtain ⟨hp, hl4, ho⟩ := openE_ok h
  have h1 := trOpen p l h
  have h2 := trPlanM p hp l hl4 ho
  cases hR : planF p l with
  | some x =>
    have hE : agE p l = 7 := by unfold agE; rw [if_neg (by simpa using h), hR]; rfl
    rw [agD, hE, if_pos (by decide)]
    rw [hR] at h2
    simp only [planD] at h2
    refine DCall.of Try.func36 sf36 hb36 (Nat.le_of_ble_eq_true rfl) (okRes_nil fun _ => rfl) ?_; simp only [s36, idxs, Nat.reduceAdd]
    repeat' (first
    | (with_reducible first | refine DW.seq ?_ | refine DW.block ?_ | refine DW.skip ?_ | refine DW.exit ?_ | refine DW.ret ?_ | refine DW.reg ?_)
    | (simp (disch := omega) only [go_sem, simprocAttr, bm_box, bm_row, bk_box, bk_row])
    | (exact retS_of rfl rfl rfl)
    | (refine DW.cond_tt rfl ?_)
    | (refine call_c (h1) (by decide) ?_)
    | (refine call_c (h2) (by decide) ?_)
    | (refine DW.cond_ff rfl ?_)
    | (refine DW.cond rfl ?_ ?_ <;> intro hc <;> (try simp only [go_sem] at hc))
    | (refine g_split ?_ ?_ <;> intro hc <;> (try simp only [hc]) <;> (try simp only [go_sem] at hc)))
  | none =>
    have hE : agE p l = 0 := by unfold agE; rw [if_neg (by simpa using h), hR]; rfl
    rw [agD, hE, if_neg (by decide)]
    rw [hR] at h2
    simp only [planD] at h2
    have hne := badsF_ne hl4 hR
    have hpw : 2 ^ l.length ≤ 16 := Nat.pow_le_pow_right (n := 2) (by decide) hl4
    have hsh : shlI IntKind.i64 1 l.length = ((2 ^ l.length : Nat) : Int) := by
      have : ∀ n : Fin 5, shlI IntKind.i64 1 n.1 = ((2 ^ n.1 : Nat) : Int) := by decide +kernel
      exact this ⟨l.length, by omega⟩
    generalize hN : 2 ^ l.length = N at *
    refine DCall.of Try.func36 sf36 hb36 (Nat.le_of_ble_eq_true rfl) (okRes_nil fun _ => by cases badsF p l N <;> rfl) ?_
    simp only [s36, idxs, Nat.reduceAdd]
    repeat' (first
    | (with_reducible first | refine DW.seq ?_ | refine DW.block ?_ | refine DW.skip ?_ | refine DW.exit ?_ | refine DW.ret ?_ | refine DW.reg ?_)
    | (simp (disch := omega) only [go_sem, simprocAttr, bm_box, bm_row, bk_box, bk_row, hsh])
    | (exact retS_of rfl rfl rfl)
    | (refine DW.cond_tt rfl ?_)
    | (refine call_c (h1) (by decide) ?_)
    | (refine call_c (h2) (by decide) ?_)
    | (refine DW.cond_ff rfl ?_)
    | (refine DW.cond rfl ?_ ?_ <;> intro hc <;> (try simp only [go_sem] at hc))
    | (refine g_split ?_ ?_ <;> intro hc <;> (try simp only [hc]) <;> (try simp only [go_sem] at hc)))
    refine DW.ent (Ent.adopt 11 52 1 rfl rfl rfl) ?_
    refine DW.loop (ι := { s : Nat // s ≤ N }) (fun s => ⟨56, [(35, dI s.1), (34, dI N), (11, .own 52), (6, .box 6 0), (5, dI 0), (4, .c (.v (.slice none 0 0)))], [(52, .row 1 (rowC (rows eWs (badsF p l s.1)))), (6, .box [dI p.wide, dI p.tl, dI p.th, dI p.webs, .c (.sl false 3 (rows eO l))])]⟩) (fun s => N - s.1) ⟨0, Nat.zero_le _⟩ ?_ ?_
    · refine Ent.to ?_ ?_ <;> simp (disch := omega) only [wkT_cons, wkX_cons, wkT_nil, wkX_nil, get, Nat.reduceEqDiff, ↓reduceIte, ex_some, wk_self, wk_top, wk_nil, wkB_self, and_self, dI, i64_in, and_true, true_and, Int.natCast_add, Int.natCast_one, Int.ofNat_zero, Int.natCast_zero, ins, Nat.reduceLT, badsF, List.range_zero, List.filter_nil, List.map_nil]
      all_goals first | exact ⟨.refl _, .refl _, .refl _⟩ | exact ⟨.refl _, .refl _⟩ | exact .refl _
    rintro ⟨s, hs⟩
    dsimp only
    by_cases hlt : s < N
    · have hd : decide ((s : Int) < (N : Int)) = true := decide_eq_true (by omega)
      have hs16 : s < 16 := by omega
      have hbl := badsF_len p l s
      have hsc := badsF_succ p l s
      have g1 := trAmong p l hl4 s hs16
      have g2 := trPlanM p hp (selF s 0 l) (Nat.le_trans selF_len hl4) (fun o hm => ho o (selF_mem o hm))
      have g3 := trNumbers s hs16
      generalize badsF p l s = B at *
      cases hR2 : planF p (selF s 0 l) with
      | some x =>
        rw [hR2] at g2 hsc
        simp only [planD] at g2
        rw [if_neg (by simp), List.append_nil] at hsc
        generalize selF s 0 l = S at *
        repeat' (first
    | (with_reducible first | refine DW.seq ?_ | refine DW.block ?_ | refine DW.skip ?_ | refine DW.exit ?_ | refine DW.ret ?_ | refine DW.reg ?_)
    | (simp (disch := omega) only [go_sem, simprocAttr, bm_box, bm_row, bk_box, bk_row, hd])
    | (exact retS_of rfl rfl rfl)
    | (refine DW.cond_tt rfl ?_)
    | (refine call_c (g1) (by decide) ?_)
    | (refine call_c (g2) (by decide) ?_)
    | (refine DW.cond_ff rfl ?_)
    | (refine DW.cond rfl ?_ ?_ <;> intro hc <;> (try simp only [go_sem] at hc))
    | (refine g_split ?_ ?_ <;> intro hc <;> (try simp only [hc]) <;> (try simp only [go_sem] at hc)))
        refine ⟨⟨s + 1, hlt⟩, ?_, Ent.to ?_ ?_⟩ <;> first | (show _ < _; (try simp only); omega) | (simp (disch := omega) only [wkT_cons, wkX_cons, wkT_nil, wkX_nil, get, Nat.reduceEqDiff, ↓reduceIte, ex_some, wk_self, wk_top, wk_nil, wkB_self, and_self, dI, i64_in, and_true, true_and, Int.natCast_add, Int.natCast_one, Int.ofNat_zero, Int.natCast_zero,  hsc])
        all_goals first | exact ⟨.refl _, .refl _, .refl _⟩ | exact ⟨.refl _, .refl _⟩ | exact .refl _
      | none =>
        rw [hR2] at g2 hsc
        simp only [planD] at g2
        rw [if_pos (by simp)] at hsc
        generalize selF s 0 l = S at *
        generalize numsI s = M at *
        repeat' (first
    | (with_reducible first | refine DW.seq ?_ | refine DW.block ?_ | refine DW.skip ?_ | refine DW.exit ?_ | refine DW.ret ?_ | refine DW.reg ?_)
    | (simp (disch := omega) only [go_sem, simprocAttr, bm_box, bm_row, bk_box, bk_row, hd])
    | (exact retS_of rfl rfl rfl)
    | (refine DW.cond_tt rfl ?_)
    | (refine call_c (g1) (by decide) ?_)
    | (refine call_c (g2) (by decide) ?_)
    | (refine call_c (g3) (by decide) ?_)
    | (refine DW.cond_ff rfl ?_)
    | (refine DW.cond rfl ?_ ?_ <;> intro hc <;> (try simp only [go_sem] at hc))
    | (refine g_split ?_ ?_ <;> intro hc <;> (try simp only [hc]) <;> (try simp only [go_sem] at hc)))
        refine ⟨⟨s + 1, hlt⟩, ?_, Ent.to ?_ ?_⟩ <;> first | (show _ < _; (try simp only); omega) | (simp (disch := omega) only [wkT_cons, wkX_cons, wkT_nil, wkX_nil, get, Nat.reduceEqDiff, ↓reduceIte, ex_some, wk_self, wk_top, wk_nil, wkB_self, and_self, dI, i64_in, and_true, true_and, Int.natCast_add, Int.natCast_one, Int.ofNat_zero, Int.natCast_zero,  hsc, rowC_snocW])
        all_goals first | exact ⟨.refl _, .refl _, .refl _⟩ | exact ⟨.refl _, .refl _⟩ | exact .refl _
    · obtain rfl : s = N := by omega
      have hd : decide ((s : Int) < (s : Int)) = false := decide_eq_false (by omega)
      have hmem : ∀ u ∈ badsF p l s, u.length ≤ 4 := fun u hu => badsF_mem hu
      have hbl := badsF_len p l s
      cases hB : badsF p l s with
      | nil => exact absurd hB hne
      | cons x t =>
        rw [hB] at hmem hbl
        have g := trMinL true x t (by simp only [List.length_cons] at hbl; omega) 76 (fun u hu v hv => trAgainst1 false false u v (by have := hmem u hu; omega) (by have := hmem v hv; omega))
        dsimp only
        generalize minBy cmpL2 x t = m at *
        generalize x :: t = X at *
        repeat' (first
    | (with_reducible first | refine DW.seq ?_ | refine DW.block ?_ | refine DW.skip ?_ | refine DW.exit ?_ | refine DW.ret ?_ | refine DW.reg ?_)
    | (simp (disch := omega) only [go_sem, simprocAttr, bm_box, bm_row, bk_box, bk_row, hd])
    | (exact retS_of rfl rfl rfl)
    | (refine DW.cond_tt rfl ?_)
    | (refine call_c (g) (by decide) ?_)
    | (refine DW.cond_ff rfl ?_)
    | (refine DW.cond rfl ?_ ?_ <;> intro hc <;> (try simp only [go_sem] at hc))
    | (refine g_split ?_ ?_ <;> intro hc <;> (try simp only [hc]) <;> (try simp only [go_sem] at hc)))
        refine retS_wk rfl ?_ (by simp only [Blk.nb, rowC_nb, D.nb, D.nbs, C.nb, C.nbs, C.nbss, rows_nb eI_nb, Bool.and_true, Bool.not_false, Bool.and_self, bD, dI, iD, rows_nb eO_nb, rows_nb eSt_nb, rows_nb eWs_nb, rows_nb eOf_nb]); exact .refl _
end Go.Dw.Seat
end
section
set_option linter.unusedSimpArgs false
set_option maxRecDepth 100000
namespace Go.Dw.Seat
open Go Go.Dw Go.Proofs Go.IntWalk
theorem ex_open (m : Int) (h : 20 ≤ m ∧ m ≤ 3000) : openE (exP m) exO = 0 := openE_yes ⟨by simp [exP], by simp [exP]; omega, by simp [exP]⟩ (by decide) (by
  intro o ho
  simp only [exO, List.mem_cons, List.not_mem_nil, or_false] at ho
  rcases ho with rfl | rfl | rfl <;> exact ⟨by decide, by decide⟩)
def exQ : List TStp := [⟨[0, 0, 2], 2⟩, ⟨[0, 3, 0], 1⟩, ⟨[2, 1, 0], 5⟩]
def exA : List (List Int) := patsX (exP 200) exO 3 []
theorem ex_all : exA.length = 3 := by decide +kernel
theorem ex_all0 : exA[0]? = some [0, 0, 2] := by decide +kernel
theorem ex_plan : planF (exP 200) exO = none := by
  have : (planF (exP 200) exO).isNone = true := by decide +kernel
  simpa using this
def qEq (a b : List TStp) : Bool := a.map (·.ws) == b.map (·.ws) && a.map (·.run) == b.map (·.run)
theorem qEq_eq : ∀ {a b : List TStp}, qEq a b = true → a = b
  | [], [], _ => rfl
  | [], _ :: _, h => by simp [qEq] at h
  | _ :: _, [], h => by simp [qEq] at h
  | ⟨w, r⟩ :: a, ⟨w', r'⟩ :: b, h => by
    simp only [qEq, List.map_cons, Bool.and_eq_true, beq_iff_eq, List.cons.injEq] at h
    obtain ⟨⟨rfl, h1⟩, rfl, h2⟩ := h
    rw [qEq_eq (a := a) (b := b) (by simp [qEq, h1, h2])]
theorem ex_plan4 : planF (exP 400) exO = some (exQ, 1600) := by
  have h : (match planF (exP 400) exO with | some x => qEq x.1 exQ && x.2 == 1600 | none => false) = true := by decide +kernel
  cases hp : planF (exP 400) exO with
  | none => rw [hp] at h; cases h
  | some x =>
    rw [hp] at h
    simp only [Bool.and_eq_true, beq_iff_eq] at h
    obtain ⟨q, w⟩ := x
    obtain ⟨h1, h2⟩ := h
    dsimp only at h1 h2
    rw [qEq_eq h1, h2]
theorem ex_ag : (match badsF (exP 200) exO 8 with | [] => [] | x :: t => minBy cmpL2 x t) = [1] := by decide +kernel
theorem ex_get : getX (exP 400) exO exQ = .inl ([10, 8, 4], 1600) := by decide +kernel
theorem ex_bnd : boundI (exP 400) exO = (2, 8, 160) ∧ boundE (exP 400) exO = 0 := by decide +kernel
theorem ex_knv : knvL (exP 400) exO [2, 1, 0] = [100, 900, 1700, 2400] ∧ owE (exP 400) exO [2, 1, 0] = 0 := by decide +kernel
theorem ex_chE : chgE [100, 900, 1700, 2400] [50, 1250, 2450] = 0 := by decide +kernel
theorem ex_ch : edI [100, 900, 1700, 2400] [50, 1250, 2450] 4 3 = 950 := by
  simp [edI, atI]
  decide
theorem ex_sh : sheetsI 1000 1 10 = (99, 101) ∧ sheetsE 1000 1 10 = 0 := by decide +kernel
theorem ex_cho : choI [exP 200, exP 400] exO = 1 ∧ choE [exP 200, exP 400] exO = 0 := by decide +kernel
end Go.Dw.Seat
end
section
set_option linter.unusedSimpArgs false
set_option maxRecDepth 100000
namespace Go.Dw.Seat
open Go Go.Dw Go.Proofs Go.IntWalk
theorem sameY {R : Bool} {α : Type} {s t : List α} (h : s = t) (hR : R = true) : (R = true ↔ s = t) := by simp [h, hR]
set_option maxHeartbeats 8000000 in
theorem laKnown : DCall Try.prog 15 [] [] (bD true) [] := by
  have p2 := laPaper 200
  have p4 := laPaper 400
  have po := laOrders
  have e2 := ex_open 200 (by decide)
  have e4 := ex_open 400 (by decide)
  have c1 := trPatternsX (exP 200) exO (by decide)
  rw [patsD, if_pos e2, e2, show patsX (exP 200) exO exO.length [] = exA from rfl] at c1
  have c2 := trPlanX (exP 200) exO (by decide)
  rw [planX, if_pos e2, ex_plan] at c2
  dsimp only at c2
  have c3 := trAgainst (exP 200) exO (by decide)
  have a3 : agE (exP 200) exO = 0 := by unfold agE; rw [if_neg (by simpa using e2), ex_plan]; rfl
  have a4 : agD (exP 200) exO = dIs false [1] := by
    rw [agD, a3, if_neg (by decide)]
    have h := ex_ag
    have hne := badsF_ne (p := exP 200) (l := exO) (by decide) ex_plan
    rw [show (2 ^ exO.length) = 8 from rfl] at hne ⊢
    cases hb : badsF (exP 200) exO 8 with
    | nil => exact absurd hb hne
    | cons x t =>
      rw [hb] at h
      dsimp only at h ⊢
      rw [h]
  rw [a3, a4] at c3
  have c4 := trPlanX (exP 400) exO (by decide)
  rw [planX, if_pos e4, ex_plan4] at c4
  dsimp only at c4
  have c5 := trGetX (exP 400) exO (by decide) exQ (by decide)
  rw [ex_get] at c5
  simp only [doesD] at c5
  have c6 := trBound (exP 400) exO (by decide)
  rw [ex_bnd.1, ex_bnd.2] at c6
  have c7 := trKnives true (exP 400) exO (by decide) [2, 1, 0] (by decide)
  rw [knvD, if_pos ex_knv.2, ex_knv.1, ex_knv.2] at c7
  have c8 := trChangeX true true [100, 900, 1700, 2400] [50, 1250, 2450] (by decide) (by decide)
  rw [chgI, if_pos ex_chE, ex_chE, show edI [100, 900, 1700, 2400] [50, 1250, 2450] ([100, 900, 1700, 2400] : List Int).length ([50, 1250, 2450] : List Int).length = 950 from ex_ch] at c8
  have c9 := trSheets 1000 1 10
  rw [ex_sh.1, ex_sh.2] at c9
  have c10 := trChoose true [exP 200, exP 400] (by decide) exO (by decide)
  rw [ex_cho.1, ex_cho.2] at c10
  have s1 := laSetup 2 [0, 0, 2]
  have s2 := laSetup 1 [0, 3, 0]
  have s3 := laSetup 5 [2, 1, 0]
  have i1 := reInts false true [0, 0, 2] [0, 0, 2] (by decide) (by decide)
  have i2 := reInts false true [1] [1] (by decide) (by decide)
  have i3 := reInts false true [10, 8, 4] [10, 8, 4] (by decide) (by decide)
  have i4 := reInts false true [100, 900, 1700, 2400] [100, 900, 1700, 2400] (by decide) (by decide)
  rw [decide_eq_true rfl] at i1 i2 i3 i4
  have i5 := reSame false true exQ exQ (by decide) (by decide) (by decide) (by decide) true (sameY rfl rfl)
  have l1 := laSpan 99 101
  have hl := ex_all
  have h0 := ex_all0
  generalize exA = A at *
  clear e2 e4 a3 a4
  have dl : ((A.length : Int) != 3) = false := by rw [hl]; rfl
  have d0 : decide ((0 : Int) < (A.length : Int)) = true := by rw [hl]; rfl
  refine DCall.of Try.func15 sf15 hb15 (Nat.le_of_ble_eq_true rfl) (okRes_nil fun _ => rfl) ?_; simp only [s15, idxs, Nat.reduceAdd]
  repeat' (first
    | (with_reducible first | refine DW.seq ?_ | refine DW.block ?_ | refine DW.skip ?_ | refine DW.exit ?_ | refine DW.ret ?_ | refine DW.reg ?_)
    | (refine DW.dreg rfl (WF.of ?_) ?_; first | rfl | skip)
    | (simp (disch := omega) only [go_sem, simprocAttr, bm_box, bm_row, bk_box, bk_row])
    | (exact retS_of rfl rfl rfl)
    | (refine DW.cond_tt rfl ?_)
    | (refine call_c (p2) (by decide) ?_)
    | (refine call_c (p4) (by decide) ?_)
    | (refine call_c (po) (by decide) ?_)
    | (refine call_c (c1) (by decide) ?_)
    | (refine call_c (c2) (by decide) ?_)
    | (refine call_c (c3) (by decide) ?_)
    | (refine call_c (c4) (by decide) ?_)
    | (refine DW.cond_ff rfl ?_)
    | (refine DW.cond rfl ?_ ?_ <;> intro hc <;> (try simp only [go_sem] at hc))
    | (refine g_split ?_ ?_ <;> intro hc <;> (try simp only [hc]) <;> (try simp only [go_sem] at hc)))
  refine call_rel 52 rfl ?_
  simp (disch := omega) only [go_sem, simprocAttr, bm_box, bm_row, bk_box, bk_row]
  refine opsN.c s1 rfl rfl (by decide) ?_
  simp (disch := omega) only [go_sem, simprocAttr, bm_box, bm_row, bk_box, bk_row]
  repeat' (first
    | (with_reducible first | refine DW.seq ?_ | refine DW.block ?_ | refine DW.skip ?_ | refine DW.exit ?_ | refine DW.ret ?_ | refine DW.reg ?_)
    | (refine DW.dreg rfl (WF.of ?_) ?_; first | rfl | skip)
    | (simp (disch := omega) only [go_sem, simprocAttr, bm_box, bm_row, bk_box, bk_row, dl, d0, h0])
    | (exact retS_of rfl rfl rfl)
    | (refine DW.cond_tt rfl ?_)
    | (refine call_c (p2) (by decide) ?_)
    | (refine call_c (p4) (by decide) ?_)
    | (refine call_c (po) (by decide) ?_)
    | (refine call_c (c6) (by decide) ?_)
    | (refine call_c (c7) (by decide) ?_)
    | (refine call_c (c8) (by decide) ?_)
    | (refine call_c (c9) (by decide) ?_)
    | (refine call_c (c10) (by decide) ?_)
    | (refine call_c (i1) (by decide) ?_)
    | (refine call_c (i2) (by decide) ?_)
    | (refine call_c (i3) (by decide) ?_)
    | (refine call_c (i4) (by decide) ?_)
    | (refine call_c (i5) (by decide) ?_)
    | (refine call_c (l1) (by decide) ?_)
    | (refine DW.cond_ff rfl ?_)
    | (refine DW.cond rfl ?_ ?_ <;> intro hc <;> (try simp only [go_sem] at hc))
    | (refine g_split ?_ ?_ <;> intro hc <;> (try simp only [hc]) <;> (try simp only [go_sem] at hc)))
  refine call_rel 54 rfl ?_
  simp (disch := omega) only [go_sem, simprocAttr, bm_box, bm_row, bk_box, bk_row]
  refine opsN.c s2 rfl rfl (by decide) ?_
  simp (disch := omega) only [go_sem, simprocAttr, bm_box, bm_row, bk_box, bk_row]
  repeat' (first
    | (with_reducible first | refine DW.seq ?_ | refine DW.block ?_ | refine DW.skip ?_ | refine DW.exit ?_ | refine DW.ret ?_ | refine DW.reg ?_)
    | (refine DW.dreg rfl (WF.of ?_) ?_; first | rfl | skip)
    | (simp (disch := omega) only [go_sem, simprocAttr, bm_box, bm_row, bk_box, bk_row, dl, d0, h0])
    | (exact retS_of rfl rfl rfl)
    | (refine DW.cond_tt rfl ?_)
    | (refine call_c (p2) (by decide) ?_)
    | (refine call_c (p4) (by decide) ?_)
    | (refine call_c (po) (by decide) ?_)
    | (refine call_c (c6) (by decide) ?_)
    | (refine call_c (c7) (by decide) ?_)
    | (refine call_c (c8) (by decide) ?_)
    | (refine call_c (c9) (by decide) ?_)
    | (refine call_c (c10) (by decide) ?_)
    | (refine call_c (i1) (by decide) ?_)
    | (refine call_c (i2) (by decide) ?_)
    | (refine call_c (i3) (by decide) ?_)
    | (refine call_c (i4) (by decide) ?_)
    | (refine call_c (i5) (by decide) ?_)
    | (refine call_c (l1) (by decide) ?_)
    | (refine DW.cond_ff rfl ?_)
    | (refine DW.cond rfl ?_ ?_ <;> intro hc <;> (try simp only [go_sem] at hc))
    | (refine g_split ?_ ?_ <;> intro hc <;> (try simp only [hc]) <;> (try simp only [go_sem] at hc)))
  refine call_rel 56 rfl ?_
  simp (disch := omega) only [go_sem, simprocAttr, bm_box, bm_row, bk_box, bk_row]
  refine opsN.c s3 rfl rfl (by decide) ?_
  simp (disch := omega) only [go_sem, simprocAttr, bm_box, bm_row, bk_box, bk_row]
  repeat' (first
    | (with_reducible first | refine DW.seq ?_ | refine DW.block ?_ | refine DW.skip ?_ | refine DW.exit ?_ | refine DW.ret ?_ | refine DW.reg ?_)
    | (refine DW.dreg rfl (WF.of ?_) ?_; first | rfl | skip)
    | (simp (disch := omega) only [go_sem, simprocAttr, bm_box, bm_row, bk_box, bk_row, dl, d0, h0])
    | (exact retS_of rfl rfl rfl)
    | (refine DW.cond_tt rfl ?_)
    | (refine call_c (p2) (by decide) ?_)
    | (refine call_c (p4) (by decide) ?_)
    | (refine call_c (po) (by decide) ?_)
    | (refine call_c (c6) (by decide) ?_)
    | (refine call_c (c7) (by decide) ?_)
    | (refine call_c (c8) (by decide) ?_)
    | (refine call_c (c9) (by decide) ?_)
    | (refine call_c (c10) (by decide) ?_)
    | (refine call_c (i1) (by decide) ?_)
    | (refine call_c (i2) (by decide) ?_)
    | (refine call_c (i3) (by decide) ?_)
    | (refine call_c (i4) (by decide) ?_)
    | (refine call_c (i5) (by decide) ?_)
    | (refine call_c (l1) (by decide) ?_)
    | (refine DW.cond_ff rfl ?_)
    | (refine DW.cond rfl ?_ ?_ <;> intro hc <;> (try simp only [go_sem] at hc))
    | (refine g_split ?_ ?_ <;> intro hc <;> (try simp only [hc]) <;> (try simp only [go_sem] at hc)))
  refine call_rel 58 rfl ?_
  simp (disch := omega) only [go_sem, simprocAttr, bm_box, bm_row, bk_box, bk_row]
  refine opsN.c c5 rfl rfl (by decide) ?_
  simp (disch := omega) only [go_sem, simprocAttr, bm_box, bm_row, bk_box, bk_row]
  repeat' (first
    | (with_reducible first | refine DW.seq ?_ | refine DW.block ?_ | refine DW.skip ?_ | refine DW.exit ?_ | refine DW.ret ?_ | refine DW.reg ?_)
    | (refine DW.dreg rfl (WF.of ?_) ?_; first | rfl | skip)
    | (simp (disch := omega) only [go_sem, simprocAttr, bm_box, bm_row, bk_box, bk_row, dl, d0, h0])
    | (exact retS_of rfl rfl rfl)
    | (refine DW.cond_tt rfl ?_)
    | (refine call_c (p2) (by decide) ?_)
    | (refine call_c (p4) (by decide) ?_)
    | (refine call_c (po) (by decide) ?_)
    | (refine call_c (c6) (by decide) ?_)
    | (refine call_c (c7) (by decide) ?_)
    | (refine call_c (c8) (by decide) ?_)
    | (refine call_c (c9) (by decide) ?_)
    | (refine call_c (c10) (by decide) ?_)
    | (refine call_c (i1) (by decide) ?_)
    | (refine call_c (i2) (by decide) ?_)
    | (refine call_c (i3) (by decide) ?_)
    | (refine call_c (i4) (by decide) ?_)
    | (refine call_c (i5) (by decide) ?_)
    | (refine call_c (l1) (by decide) ?_)
    | (refine DW.cond_ff rfl ?_)
    | (refine DW.cond rfl ?_ ?_ <;> intro hc <;> (try simp only [go_sem] at hc))
    | (refine g_split ?_ ?_ <;> intro hc <;> (try simp only [hc]) <;> (try simp only [go_sem] at hc)))
  refine call_rel 154 rfl ?_
  simp (disch := omega) only [go_sem, simprocAttr, bm_box, bm_row, bk_box, bk_row]
  refine opsN.c s1 rfl rfl (by decide) ?_
  simp (disch := omega) only [go_sem, simprocAttr, bm_box, bm_row, bk_box, bk_row]
  repeat' (first
    | (with_reducible first | refine DW.seq ?_ | refine DW.block ?_ | refine DW.skip ?_ | refine DW.exit ?_ | refine DW.ret ?_ | refine DW.reg ?_)
    | (refine DW.dreg rfl (WF.of ?_) ?_; first | rfl | skip)
    | (simp (disch := omega) only [go_sem, simprocAttr, bm_box, bm_row, bk_box, bk_row, dl, d0, h0])
    | (exact retS_of rfl rfl rfl)
    | (refine DW.cond_tt rfl ?_)
    | (refine call_c (p2) (by decide) ?_)
    | (refine call_c (p4) (by decide) ?_)
    | (refine call_c (po) (by decide) ?_)
    | (refine call_c (c6) (by decide) ?_)
    | (refine call_c (c7) (by decide) ?_)
    | (refine call_c (c8) (by decide) ?_)
    | (refine call_c (c9) (by decide) ?_)
    | (refine call_c (c10) (by decide) ?_)
    | (refine call_c (i1) (by decide) ?_)
    | (refine call_c (i2) (by decide) ?_)
    | (refine call_c (i3) (by decide) ?_)
    | (refine call_c (i4) (by decide) ?_)
    | (refine call_c (i5) (by decide) ?_)
    | (refine call_c (l1) (by decide) ?_)
    | (refine DW.cond_ff rfl ?_)
    | (refine DW.cond rfl ?_ ?_ <;> intro hc <;> (try simp only [go_sem] at hc))
    | (refine g_split ?_ ?_ <;> intro hc <;> (try simp only [hc]) <;> (try simp only [go_sem] at hc)))
  refine call_rel 156 rfl ?_
  simp (disch := omega) only [go_sem, simprocAttr, bm_box, bm_row, bk_box, bk_row]
  refine opsN.c s2 rfl rfl (by decide) ?_
  simp (disch := omega) only [go_sem, simprocAttr, bm_box, bm_row, bk_box, bk_row]
  repeat' (first
    | (with_reducible first | refine DW.seq ?_ | refine DW.block ?_ | refine DW.skip ?_ | refine DW.exit ?_ | refine DW.ret ?_ | refine DW.reg ?_)
    | (refine DW.dreg rfl (WF.of ?_) ?_; first | rfl | skip)
    | (simp (disch := omega) only [go_sem, simprocAttr, bm_box, bm_row, bk_box, bk_row, dl, d0, h0])
    | (exact retS_of rfl rfl rfl)
    | (refine DW.cond_tt rfl ?_)
    | (refine call_c (p2) (by decide) ?_)
    | (refine call_c (p4) (by decide) ?_)
    | (refine call_c (po) (by decide) ?_)
    | (refine call_c (c6) (by decide) ?_)
    | (refine call_c (c7) (by decide) ?_)
    | (refine call_c (c8) (by decide) ?_)
    | (refine call_c (c9) (by decide) ?_)
    | (refine call_c (c10) (by decide) ?_)
    | (refine call_c (i1) (by decide) ?_)
    | (refine call_c (i2) (by decide) ?_)
    | (refine call_c (i3) (by decide) ?_)
    | (refine call_c (i4) (by decide) ?_)
    | (refine call_c (i5) (by decide) ?_)
    | (refine call_c (l1) (by decide) ?_)
    | (refine DW.cond_ff rfl ?_)
    | (refine DW.cond rfl ?_ ?_ <;> intro hc <;> (try simp only [go_sem] at hc))
    | (refine g_split ?_ ?_ <;> intro hc <;> (try simp only [hc]) <;> (try simp only [go_sem] at hc)))
  refine call_rel 158 rfl ?_
  simp (disch := omega) only [go_sem, simprocAttr, bm_box, bm_row, bk_box, bk_row]
  refine opsN.c s3 rfl rfl (by decide) ?_
  simp (disch := omega) only [go_sem, simprocAttr, bm_box, bm_row, bk_box, bk_row]
  repeat' (first
    | (with_reducible first | refine DW.seq ?_ | refine DW.block ?_ | refine DW.skip ?_ | refine DW.exit ?_ | refine DW.ret ?_ | refine DW.reg ?_)
    | (refine DW.dreg rfl (WF.of ?_) ?_; first | rfl | skip)
    | (simp (disch := omega) only [go_sem, simprocAttr, bm_box, bm_row, bk_box, bk_row, dl, d0, h0])
    | (exact retS_of rfl rfl rfl)
    | (refine DW.cond_tt rfl ?_)
    | (refine call_c (p2) (by decide) ?_)
    | (refine call_c (p4) (by decide) ?_)
    | (refine call_c (po) (by decide) ?_)
    | (refine call_c (c6) (by decide) ?_)
    | (refine call_c (c7) (by decide) ?_)
    | (refine call_c (c8) (by decide) ?_)
    | (refine call_c (c9) (by decide) ?_)
    | (refine call_c (c10) (by decide) ?_)
    | (refine call_c (i1) (by decide) ?_)
    | (refine call_c (i2) (by decide) ?_)
    | (refine call_c (i3) (by decide) ?_)
    | (refine call_c (i4) (by decide) ?_)
    | (refine call_c (i5) (by decide) ?_)
    | (refine call_c (l1) (by decide) ?_)
    | (refine DW.cond_ff rfl ?_)
    | (refine DW.cond rfl ?_ ?_ <;> intro hc <;> (try simp only [go_sem] at hc))
    | (refine g_split ?_ ?_ <;> intro hc <;> (try simp only [hc]) <;> (try simp only [go_sem] at hc)))
end Go.Dw.Seat
end
section
set_option linter.unusedSimpArgs false
set_option maxRecDepth 100000
namespace Go.Dw.Seat
open Go Go.Dw Go.Proofs Go.IntWalk
structure NowOk (p : TPap) (l : List TOrd) (T : List (List Int)) (q : List TStp) : Prop where
  asc : (q.map (·.ws) ++ T).Pairwise fun a b => lexW a b = true
  ok : ∀ s ∈ q, WsOk p l s.ws ∧ 1 ≤ s.run ∧ s.run ≤ 30
theorem NowOk.tail {p : TPap} {l : List TOrd} {T : List (List Int)} {q : List TStp} {ws : List Int} (h : NowOk p l (ws :: T) q) : NowOk p l T q :=
  ⟨h.asc.sublist (List.Sublist.append (List.Sublist.refl _) (List.sublist_cons_self _ _)), h.ok⟩
end Go.Dw.Seat
end
section
set_option linter.unusedSimpArgs false
set_option maxRecDepth 100000
namespace Go.Dw.Seat
open Go Go.Dw Go.Proofs Go.ChangeShapes Go.WideShapes Go.ChangeAt Go.RowKit
theorem tOwn : ownKnob Try.prog.godebug = none := by kernel_rfl
theorem tLaid : laidOutB Try.prog = true := by kernel_rfl
theorem u4 : Try.prog.underlying 4 = some .bool := by kernel_rfl
theorem und5 : Try.prog.underlying 5 = some (.int .u8) := by kernel_rfl
theorem u32 : structIs Try.prog 32 [(3, 0), (3, 1)] = true := by kernel_rfl
theorem u72 : Try.prog.underlying 72 = some (.array 4 5) := by kernel_rfl
theorem u73 : Try.prog.underlying 73 = some (.array 5 5) := by kernel_rfl
theorem u74 : Try.prog.underlying 74 = some (.array 3 73) := by kernel_rfl
theorem u75 : Try.prog.underlying 75 = some (.array 2 5) := by kernel_rfl
theorem u76 : Try.prog.underlying 76 = some (.array 4 75) := by kernel_rfl
theorem u78 : structIs Try.prog 78 [(72, 0), (5, 4), (74, 5), (76, 20), (75, 28)] = true := by kernel_rfl
theorem cl5 : Try.prog.cellsOf 5 = 1 := by kernel_rfl
theorem cl72 : Try.prog.cellsOf 72 = 4 := by kernel_rfl
theorem cl73 : Try.prog.cellsOf 73 = 5 := by kernel_rfl
theorem cl74 : Try.prog.cellsOf 74 = 15 := by kernel_rfl
theorem cl75 : Try.prog.cellsOf 75 = 2 := by kernel_rfl
theorem cl76 : Try.prog.cellsOf 76 = 8 := by kernel_rfl
theorem cl78 : Try.prog.cellsOf 78 = 30 := by kernel_rfl
def eN (l : List Nat) : List C := l.map fun n : Nat => .v (.int .u8 (n : Int))
def e1 (n : Nat) : List C := [.v (.int .u8 n)]
def AllLt (b : Nat) (l : List Nat) : Prop := ∀ x ∈ l, x < b
def bV (l : List Nat) : List Value := l.map fun n : Nat => Value.int .u8 (n : Int)
section
variable {H : Type} {enc : TypeId × Value → H} {w : World} {base : Nat} {spare : Nat → Bool} {held : Bool} {fuel : Nat} {cs : List Value} {x : DataW H × List MemPlace}
theorem wf8 {n : Int} (h : (Lit.int .u8 n).wf = true) : ∃ v : Nat, n = v ∧ v < 256 := by
  have e1 : IntKind.min .u8 = 0 := by decide
  have e2 : IntKind.max .u8 = 255 := by decide
  simp only [Lit.wf, e1, e2, Bool.and_eq_true, decide_eq_true_eq] at h
  exact ⟨n.toNat, by omega, by omega⟩
theorem rep_bytes : ∀ l : List Nat, RepVs w A0 (eN l) (bV l)
  | [] => rfl
  | _ :: l => ⟨_, _, rfl, ⟨rfl, rfl⟩, rep_bytes l⟩
theorem rd_U8 (h : DataW.trod enc Try.prog w base spare held fuel 5 cs = some x) : ∃ l : List Nat, (l.length = 1 ∧ AllLt 256 l) ∧ cs = bV l := by
  obtain ⟨n, e, hw⟩ := rd_int und5 h
  obtain ⟨v, rfl, hv⟩ := wf8 hw
  exact ⟨[v], ⟨rfl, fun x hx => by rw [List.mem_singleton] at hx; rw [hx]; exact hv⟩, e⟩
theorem bV_app (a b : List Nat) : bV (a ++ b) = bV a ++ bV b := by simp [bV]
theorem lt_app {b : Nat} {l l' : List Nat} (h : AllLt b l) (h' : AllLt b l') : AllLt b (l ++ l') := fun x hx => by
  rcases List.mem_append.1 hx with h1 | h1
  · exact h x h1
  · exact h' x h1
theorem rd_arrB {t e : TypeId} {n k : Nat} (ht : Try.prog.underlying t = some (.array n e)) (he : Try.prog.cellsOf e = k) (hc : Try.prog.cellsOf t = n * k)
    (hrd : ∀ m cs x, DataW.trod enc Try.prog w base spare held m e cs = some x → ∃ l : List Nat, (l.length = k ∧ AllLt 256 l) ∧ cs = bV l) (h : DataW.trod enc Try.prog w base spare held fuel t cs = some x) : ∃ l : List Nat, (l.length = n * k ∧ AllLt 256 l) ∧ cs = bV l := by
  obtain ⟨hl, m, hf⟩ := rd_array ht h
  rw [hc] at hl
  have key : ∀ j, j ≤ n → ∃ l : List Nat, (l.length = j * k ∧ AllLt 256 l) ∧ cs.take (j * k) = bV l := by
    intro j
    induction j with
    | zero => intro _; exact ⟨[], ⟨by simp, fun x hx => by cases hx⟩, by simp [bV]⟩
    | succ j ih =>
      intro hj
      obtain ⟨l, ⟨h1, h2⟩, h3⟩ := ih (by omega)
      obtain ⟨y, hy⟩ := hf j (by omega)
      rw [he] at hy
      obtain ⟨l', ⟨h4, h5⟩, h6⟩ := hrd _ _ _ hy
      refine ⟨l ++ l', ⟨by rw [List.length_append, h1, h4, Nat.succ_mul], lt_app h2 h5⟩, ?_⟩
      rw [Nat.succ_mul, List.take_add, h3, h6, bV_app]
  obtain ⟨l, h1, h2⟩ := key n (Nat.le_refl _)
  rw [List.take_of_length_le (by omega)] at h2
  exact ⟨l, h1, h2⟩
theorem rd_A4 (h : DataW.trod enc Try.prog w base spare held fuel 72 cs = some x) : ∃ l : List Nat, (l.length = 4 ∧ AllLt 256 l) ∧ cs = bV l := rd_arrB (n := 4) (k := 1) u72 cl5 cl72 (fun _ _ _ h => rd_U8 h) h
theorem rd_A5 (h : DataW.trod enc Try.prog w base spare held fuel 73 cs = some x) : ∃ l : List Nat, (l.length = 5 ∧ AllLt 256 l) ∧ cs = bV l := rd_arrB (n := 5) (k := 1) u73 cl5 cl73 (fun _ _ _ h => rd_U8 h) h
theorem rd_A2 (h : DataW.trod enc Try.prog w base spare held fuel 75 cs = some x) : ∃ l : List Nat, (l.length = 2 ∧ AllLt 256 l) ∧ cs = bV l := rd_arrB (n := 2) (k := 1) u75 cl5 cl75 (fun _ _ _ h => rd_U8 h) h
theorem rd_A35 (h : DataW.trod enc Try.prog w base spare held fuel 74 cs = some x) : ∃ l : List Nat, (l.length = 15 ∧ AllLt 256 l) ∧ cs = bV l := rd_arrB (n := 3) (k := 5) u74 cl73 cl74 (fun _ _ _ h => rd_A5 h) h
theorem rd_A42 (h : DataW.trod enc Try.prog w base spare held fuel 76 cs = some x) : ∃ l : List Nat, (l.length = 8 ∧ AllLt 256 l) ∧ cs = bV l := rd_arrB (n := 4) (k := 2) u76 cl75 cl76 (fun _ _ _ h => rd_A2 h) h
theorem rd_Shift (h : DataW.trod enc Try.prog w base spare held fuel 78 cs = some x) : ∃ l : List Nat, (l.length = 30 ∧ AllLt 256 l) ∧ cs = bV l := by
  obtain ⟨hl, m, hf⟩ := rd_struct u78 h
  rw [cl78] at hl
  obtain ⟨y0, h0⟩ := hf 0 72 0 rfl
  obtain ⟨y1, h1⟩ := hf 1 5 4 rfl
  obtain ⟨y2, h2⟩ := hf 2 74 5 rfl
  obtain ⟨y3, h3⟩ := hf 3 76 20 rfl
  obtain ⟨y4, h4⟩ := hf 4 75 28 rfl
  rw [cl72] at h0
  rw [cl5] at h1
  rw [cl74] at h2
  rw [cl76] at h3
  rw [cl75] at h4
  obtain ⟨l0, p0, e0⟩ := rd_A4 h0
  obtain ⟨l1, p1, e1⟩ := rd_U8 h1
  obtain ⟨l2, p2, e2⟩ := rd_A35 h2
  obtain ⟨l3, p3, e3⟩ := rd_A42 h3
  obtain ⟨l4, p4, e4⟩ := rd_A2 h4
  refine ⟨l0 ++ (l1 ++ (l2 ++ (l3 ++ l4))), ⟨?_, lt_app p0.2 (lt_app p1.2 (lt_app p2.2 (lt_app p3.2 p4.2)))⟩, ?_⟩
  · simp only [List.length_append, p0.1, p1.1, p2.1, p3.1, p4.1]
  · rw [bV_app, bV_app, bV_app, bV_app, ← e0, ← e1, ← e2, ← e3, ← e4]
    have s4 : (cs.drop 28).take 2 = cs.drop 28 := List.take_of_length_le (by rw [List.length_drop]; omega)
    have s3 : (cs.drop 20).take 8 ++ cs.drop 28 = cs.drop 20 := by rw [show cs.drop 28 = (cs.drop 20).drop 8 by rw [List.drop_drop]]; exact List.take_append_drop _ _
    have s2 : (cs.drop 5).take 15 ++ cs.drop 20 = cs.drop 5 := by rw [show cs.drop 20 = (cs.drop 5).drop 15 by rw [List.drop_drop]]; exact List.take_append_drop _ _
    have s1 : (cs.drop 4).take 1 ++ cs.drop 5 = cs.drop 4 := by rw [show cs.drop 5 = (cs.drop 4).drop 1 by rw [List.drop_drop]]; exact List.take_append_drop _ _
    rw [s4, s3, s2, s1, List.drop_zero]
    exact (List.take_append_drop 4 cs).symm
def stpsOk (l : List TStp) : Prop := ∀ s ∈ l, s.ws.length ≤ maxLen
structure TBrk where
  plan : List TStp
  at' : Int
  done : Int
def TBrk.ok (x : TBrk) : Prop := x.plan.length ≤ maxLen ∧ stpsOk x.plan
end
end Go.Dw.Seat
end
section
set_option linter.unusedSimpArgs false
set_option maxRecDepth 100000
namespace Go.Dw.Seat
open Go Go.Dw Go.Proofs Go.IntWalk
theorem e1_nb (v : Nat) : C.nbs (e1 v) = true := rfl
attribute [go_sem] e1
theorem laBefore (b1 b2 : Bool) (s t : List Int) (hs : s.length ≤ 2 ^ 36) (hl : s.length = t.length) : DCall Try.prog 80 [dIs b1 s, dIs b2 t] [] (bD (lexW s t)) [] := by
  generalize hR : lexW s t = R
  refine DCall.of Try.func80 sf80 hb80 (Nat.le_of_ble_eq_true rfl) (okRes_nil fun _ => rfl) ?_; simp only [s80, idxs, Nat.reduceAdd]
  repeat' (first
    | (with_reducible first | refine DW.seq ?_ | refine DW.block ?_ | refine DW.skip ?_ | refine DW.exit ?_ | refine DW.ret ?_ | refine DW.reg ?_)
    | (refine DW.dreg rfl (WF.of ?_) ?_; first | rfl | skip)
    | (simp (disch := omega) only [go_sem, simprocAttr, bm_box, bm_row, bk_box, bk_row])
    | (exact retS_of rfl rfl rfl)
    | (refine DW.cond_tt rfl ?_)
    | (refine DW.cond_ff rfl ?_)
    | (refine DW.cond rfl ?_ ?_ <;> intro hc <;> (try simp only [go_sem] at hc))
    | (refine g_split ?_ ?_ <;> intro hc <;> (try simp only [hc]) <;> (try simp only [go_sem] at hc)))
  refine DW.loop (ι := { i : Nat // i ≤ s.length ∧ lexW (s.drop i) (t.drop i) = R }) (fun i => ⟨30, [(5, dI i.1), (1, dIs b2 t), (0, dIs b1 s), (4, bD false)], []⟩) (fun i => s.length - i.1) ⟨0, Nat.zero_le _, hR⟩ ?_ ?_
  · refine Ent.to ?_ ?_ <;> simp (disch := omega) only [wkT_cons, wkX_cons, wkT_nil, wkX_nil, get, Nat.reduceEqDiff, ↓reduceIte, ex_some, wk_self, wk_top, wk_nil, wkB_self, and_self, dI, i64_in, and_true, true_and, Int.natCast_add, Int.natCast_one, Int.ofNat_zero, Int.natCast_zero]
    all_goals exact .refl _
  rintro ⟨i, hi, hr⟩
  dsimp only
  rcases at_or s i hi with ⟨v, hv, hlt, hd⟩ | ⟨he, hd⟩
  · obtain ⟨u, hu⟩ := getE (l := t) (i := i) (by omega)
    have h1 : s.drop i = v :: s.drop (i + 1) := by rw [List.drop_eq_getElem_cons hlt, (List.getElem_eq_iff hlt).2 hv]
    have hlt2 : i < t.length := by omega
    have h2 : t.drop i = u :: t.drop (i + 1) := by rw [List.drop_eq_getElem_cons hlt2, (List.getElem_eq_iff hlt2).2 hu]
    rw [h1, h2, lexW] at hr
    by_cases hvu : v = u
    · have d1 : (v != u) = false := by rw [hvu]; simp
      rw [if_pos hvu] at hr
      repeat' (first
    | (with_reducible first | refine DW.seq ?_ | refine DW.block ?_ | refine DW.skip ?_ | refine DW.exit ?_ | refine DW.ret ?_ | refine DW.reg ?_)
    | (refine DW.dreg rfl (WF.of ?_) ?_; first | rfl | skip)
    | (simp (disch := omega) only [go_sem, simprocAttr, bm_box, bm_row, bk_box, bk_row, hd, hv, hu, d1])
    | (exact retS_of rfl rfl rfl)
    | (refine DW.cond_tt rfl ?_)
    | (refine DW.cond_ff rfl ?_)
    | (refine DW.cond rfl ?_ ?_ <;> intro hc <;> (try simp only [go_sem] at hc))
    | (refine g_split ?_ ?_ <;> intro hc <;> (try simp only [hc]) <;> (try simp only [go_sem] at hc)))
      refine ⟨⟨i + 1, hlt, hr⟩, ?_, Ent.to ?_ ?_⟩ <;> first | (show _ < _; (try simp only); omega) | (simp (disch := omega) only [wkT_cons, wkX_cons, wkT_nil, wkX_nil, get, Nat.reduceEqDiff, ↓reduceIte, ex_some, wk_self, wk_top, wk_nil, wkB_self, and_self, dI, i64_in, and_true, true_and, Int.natCast_add, Int.natCast_one, Int.ofNat_zero, Int.natCast_zero])
      all_goals exact .refl _
    · have d1 : (v != u) = true := by simpa using hvu
      rw [if_neg hvu] at hr
      subst hr
      repeat' (first
    | (with_reducible first | refine DW.seq ?_ | refine DW.block ?_ | refine DW.skip ?_ | refine DW.exit ?_ | refine DW.ret ?_ | refine DW.reg ?_)
    | (refine DW.dreg rfl (WF.of ?_) ?_; first | rfl | skip)
    | (simp (disch := omega) only [go_sem, simprocAttr, bm_box, bm_row, bk_box, bk_row, hd, hv, hu, d1])
    | (exact retS_of rfl rfl rfl)
    | (refine DW.cond_tt rfl ?_)
    | (refine DW.cond_ff rfl ?_)
    | (refine DW.cond rfl ?_ ?_ <;> intro hc <;> (try simp only [go_sem] at hc))
    | (refine g_split ?_ ?_ <;> intro hc <;> (try simp only [hc]) <;> (try simp only [go_sem] at hc)))
  · rw [List.drop_eq_nil_of_le (by omega), lexW] at hr
    · subst hr
      repeat' (first
    | (with_reducible first | refine DW.seq ?_ | refine DW.block ?_ | refine DW.skip ?_ | refine DW.exit ?_ | refine DW.ret ?_ | refine DW.reg ?_)
    | (refine DW.dreg rfl (WF.of ?_) ?_; first | rfl | skip)
    | (simp (disch := omega) only [go_sem, simprocAttr, bm_box, bm_row, bk_box, bk_row, hd])
    | (exact retS_of rfl rfl rfl)
    | (refine DW.cond_tt rfl ?_)
    | (refine DW.cond_ff rfl ?_)
    | (refine DW.cond rfl ?_ ?_ <;> intro hc <;> (try simp only [go_sem] at hc))
    | (refine g_split ?_ ?_ <;> intro hc <;> (try simp only [hc]) <;> (try simp only [go_sem] at hc)))
    · intros; contradiction
theorem laEnough (b1 b2 : Bool) (l : List TOrd) (got : List Int) (hl : l.length ≤ 2 ^ 36) (hg : got.length = l.length) : DCall Try.prog 44 [.c (.sl b1 3 (rows eO l)), dIs b2 got] [] (bD (doesB l got)) [] := by
  generalize hR : doesB l got = R
  refine DCall.of Try.func44 sf44 hb44 (Nat.le_of_ble_eq_true rfl) (okRes_nil fun _ => rfl) ?_; simp only [s44, idxs, Nat.reduceAdd]
  repeat' (first
    | (with_reducible first | refine DW.seq ?_ | refine DW.block ?_ | refine DW.skip ?_ | refine DW.exit ?_ | refine DW.ret ?_ | refine DW.reg ?_)
    | (refine DW.dreg rfl (WF.of ?_) ?_; first | rfl | skip)
    | (simp (disch := omega) only [go_sem, simprocAttr, bm_box, bm_row, bk_box, bk_row])
    | (exact retS_of rfl rfl rfl)
    | (refine DW.cond_tt rfl ?_)
    | (refine DW.cond_ff rfl ?_)
    | (refine DW.cond rfl ?_ ?_ <;> intro hc <;> (try simp only [go_sem] at hc))
    | (refine g_split ?_ ?_ <;> intro hc <;> (try simp only [hc]) <;> (try simp only [go_sem] at hc)))
  refine DW.loop (ι := { i : Nat // i ≤ l.length ∧ doesB (l.drop i) (got.drop i) = R }) (fun i => ⟨36, [(5, dI i.1), (1, dIs b2 got), (0, .c (.sl b1 3 (rows eO l))), (4, bD false)], []⟩) (fun i => l.length - i.1) ⟨0, Nat.zero_le _, hR⟩ ?_ ?_
  · refine Ent.to ?_ ?_ <;> simp (disch := omega) only [wkT_cons, wkX_cons, wkT_nil, wkX_nil, get, Nat.reduceEqDiff, ↓reduceIte, ex_some, wk_self, wk_top, wk_nil, wkB_self, and_self, dI, i64_in, and_true, true_and, Int.natCast_add, Int.natCast_one, Int.ofNat_zero, Int.natCast_zero]
    all_goals exact .refl _
  rintro ⟨i, hi, hr⟩
  dsimp only
  rcases at_or l i hi with ⟨v, hv, hlt, hd⟩ | ⟨he, hd⟩
  · obtain ⟨u, hu⟩ := getE (l := got) (i := i) (by omega)
    have h1 : l.drop i = v :: l.drop (i + 1) := by rw [List.drop_eq_getElem_cons hlt, (List.getElem_eq_iff hlt).2 hv]
    have hlt2 : i < got.length := by omega
    have h2 : got.drop i = u :: got.drop (i + 1) := by rw [List.drop_eq_getElem_cons hlt2, (List.getElem_eq_iff hlt2).2 hu]
    rw [h1, h2, doesB] at hr
    by_cases g1 : u < v.lo
    · have d1 : decide (u < v.lo) = true := decide_eq_true g1
      have e1 : decide (v.lo ≤ u) = false := decide_eq_false (by omega)
      rw [e1, Bool.false_and, Bool.false_and] at hr
      subst hr
      repeat' (first
    | (with_reducible first | refine DW.seq ?_ | refine DW.block ?_ | refine DW.skip ?_ | refine DW.exit ?_ | refine DW.ret ?_ | refine DW.reg ?_)
    | (refine DW.dreg rfl (WF.of ?_) ?_; first | rfl | skip)
    | (simp (disch := omega) only [go_sem, simprocAttr, bm_box, bm_row, bk_box, bk_row, hd, hv, hu, d1, List.map_cons, List.map_nil])
    | (exact retS_of rfl rfl rfl)
    | (refine DW.cond_tt rfl ?_)
    | (refine DW.cond_ff rfl ?_)
    | (refine DW.cond rfl ?_ ?_ <;> intro hc <;> (try simp only [go_sem] at hc))
    | (refine g_split ?_ ?_ <;> intro hc <;> (try simp only [hc]) <;> (try simp only [go_sem] at hc)))
    have d1 : decide (u < v.lo) = false := decide_eq_false g1
    have e1 : decide (v.lo ≤ u) = true := decide_eq_true (by omega)
    by_cases g2 : v.hi < u
    · have d2 : decide (v.hi < u) = true := decide_eq_true g2
      have e2 : decide (u ≤ v.hi) = false := decide_eq_false (by omega)
      rw [e1, e2, Bool.and_false, Bool.false_and] at hr
      subst hr
      repeat' (first
    | (with_reducible first | refine DW.seq ?_ | refine DW.block ?_ | refine DW.skip ?_ | refine DW.exit ?_ | refine DW.ret ?_ | refine DW.reg ?_)
    | (refine DW.dreg rfl (WF.of ?_) ?_; first | rfl | skip)
    | (simp (disch := omega) only [go_sem, simprocAttr, bm_box, bm_row, bk_box, bk_row, hd, hv, hu, d1, d2, List.map_cons, List.map_nil])
    | (exact retS_of rfl rfl rfl)
    | (refine DW.cond_tt rfl ?_)
    | (refine DW.cond_ff rfl ?_)
    | (refine DW.cond rfl ?_ ?_ <;> intro hc <;> (try simp only [go_sem] at hc))
    | (refine g_split ?_ ?_ <;> intro hc <;> (try simp only [hc]) <;> (try simp only [go_sem] at hc)))
    · have d2 : decide (v.hi < u) = false := decide_eq_false g2
      have e2 : decide (u ≤ v.hi) = true := decide_eq_true (by omega)
      rw [e1, e2, Bool.and_true, Bool.true_and] at hr
      repeat' (first
    | (with_reducible first | refine DW.seq ?_ | refine DW.block ?_ | refine DW.skip ?_ | refine DW.exit ?_ | refine DW.ret ?_ | refine DW.reg ?_)
    | (refine DW.dreg rfl (WF.of ?_) ?_; first | rfl | skip)
    | (simp (disch := omega) only [go_sem, simprocAttr, bm_box, bm_row, bk_box, bk_row, hd, hv, hu, d1, d2, List.map_cons, List.map_nil])
    | (exact retS_of rfl rfl rfl)
    | (refine DW.cond_tt rfl ?_)
    | (refine DW.cond_ff rfl ?_)
    | (refine DW.cond rfl ?_ ?_ <;> intro hc <;> (try simp only [go_sem] at hc))
    | (refine g_split ?_ ?_ <;> intro hc <;> (try simp only [hc]) <;> (try simp only [go_sem] at hc)))
      refine ⟨⟨i + 1, hlt, hr⟩, ?_, Ent.to ?_ ?_⟩ <;> first | (show _ < _; (try simp only); omega) | (simp (disch := omega) only [wkT_cons, wkX_cons, wkT_nil, wkX_nil, get, Nat.reduceEqDiff, ↓reduceIte, ex_some, wk_self, wk_top, wk_nil, wkB_self, and_self, dI, i64_in, and_true, true_and, Int.natCast_add, Int.natCast_one, Int.ofNat_zero, Int.natCast_zero])
      all_goals exact .refl _
  · rw [List.drop_eq_nil_of_le (by omega), doesB] at hr
    · subst hr
      repeat' (first
    | (with_reducible first | refine DW.seq ?_ | refine DW.block ?_ | refine DW.skip ?_ | refine DW.exit ?_ | refine DW.ret ?_ | refine DW.reg ?_)
    | (refine DW.dreg rfl (WF.of ?_) ?_; first | rfl | skip)
    | (simp (disch := omega) only [go_sem, simprocAttr, bm_box, bm_row, bk_box, bk_row, hd])
    | (exact retS_of rfl rfl rfl)
    | (refine DW.cond_tt rfl ?_)
    | (refine DW.cond_ff rfl ?_)
    | (refine DW.cond rfl ?_ ?_ <;> intro hc <;> (try simp only [go_sem] at hc))
    | (refine g_split ?_ ?_ <;> intro hc <;> (try simp only [hc]) <;> (try simp only [go_sem] at hc)))
    · intros; contradiction
end Go.Dw.Seat
end
section
set_option linter.unusedSimpArgs false
set_option maxRecDepth 100000
namespace Go.Dw.Seat
open Go Go.Dw Go.Proofs Go.IntWalk
def runsI : List TStp → Int
  | [] => 0
  | s :: q => s.run + runsI q
theorem runs_app : ∀ (a b : List TStp), runsI (a ++ b) = runsI a + runsI b
  | [], b => by simp [runsI]
  | s :: a, b => by rw [List.cons_append, runsI, runs_app, runsI]; omega
structure Fine (p : TPap) (l : List TOrd) (q : List TStp) : Prop where
  ok : ∀ s ∈ q, WsOk p l s.ws ∧ 1 ≤ s.run ∧ s.run ≤ 30
  asc : q.Pairwise fun a b => lexW a.ws b.ws = true
set_option maxHeartbeats 8000000 in
theorem laGives (b1 b2 : Bool) (p : TPap) (hp : p.ok) (l : List TOrd) (hl : l.length ≤ 4) (ho : ∀ o ∈ l, o.ok) (q : List TStp) (hq : q.length ≤ 1000) (hf : Fine p l q) : DCall Try.prog 43 [papD p, .c (.sl b1 3 (rows eO l)), dSt b2 q] [] (.tup [dIs false (gotF (zeros l.length) q), dI (wasteF p l q), dI (runsI q), bD true]) [] := by
  have hwi := hp.wide
  have htm := hp.trim
  have hwb := hp.webs
  refine DCall.of Try.func43 sf43 hb43 (Nat.le_of_ble_eq_true rfl) (okRes_nil fun _ => rfl) ?_; simp only [s43, o43_0, o43_1, o43_2, o43_3, o43_4, o43_5, o43_6, o43_7, o43_8, o43_9, o43_10, idxs, Nat.reduceAdd]
  repeat' (first
    | (with_reducible first | refine DW.seq ?_ | refine DW.block ?_ | refine DW.skip ?_ | refine DW.exit ?_ | refine DW.ret ?_ | refine DW.reg ?_)
    | (refine DW.dreg rfl (WF.of ?_) ?_; first | rfl | skip)
    | (refine DW.ord rfl (WF.of (by first | rfl | simp (disch := omega) only [go_sem, simprocAttr, bm_box, bm_row, bk_box, bk_row, replZ])) ?_ ?_ ?_; rotate_left)
    | rfl
    | (with_reducible refine And.intro ?_ ?_)
    | (simp (disch := omega) only [go_sem, simprocAttr, bm_box, bm_row, bk_box, bk_row, replZ])
    | (exact retS_of rfl rfl rfl)
    | (refine DW.cond_tt rfl ?_)
    | (refine DW.cond_ff rfl ?_)
    | (refine DW.cond rfl ?_ ?_ <;> intro hc <;> (try simp only [go_sem] at hc))
    | (refine g_split ?_ ?_ <;> intro hc <;> (try simp only [hc]) <;> (try simp only [go_sem] at hc)))
  refine DW.loop (ι := { y : Nat × List Int × Int × Int // y.1 ≤ q.length ∧ (y.2.1 = gotF (zeros l.length) (q.take y.1) ∧ y.2.2.1 = wasteF p l (q.take y.1) ∧ y.2.2.2 = runsI (q.take y.1)) ∧ (∀ v ∈ y.2.1, 0 ≤ v ∧ v ≤ 120 * (y.1 : Int)) ∧ (0 ≤ y.2.2.1 ∧ y.2.2.1 ≤ 90000 * (y.1 : Int)) ∧ 0 ≤ y.2.2.2 ∧ y.2.2.2 ≤ 30 * (y.1 : Int) }) (fun y => ⟨164, [(10, dI y.1.1), (9, bD false), (8, dI y.1.2.2.2), (7, dI y.1.2.2.1), (6, .own 18), (3, .box 3 0), (1, .c (.sl b1 3 (rows eO l))), (2, dSt b2 q)], [(18, .row 1 (rowC (rows eI y.1.2.1))), (3, .box [dI p.wide, dI p.tl, dI p.th, dI p.webs])]⟩) (fun y => q.length - y.1.1) ⟨(0, zeros l.length, 0, 0), Nat.zero_le _, ⟨rfl, rfl, rfl⟩, fun v hv => by (have := List.eq_of_mem_replicate (show v ∈ List.replicate l.length (0 : Int) from hv); subst this; simp), by simp, by simp⟩ ?_ ?_
  · refine Ent.to ?_ ?_ <;> simp (disch := omega) only [wkT_cons, wkX_cons, wkT_nil, wkX_nil, get, Nat.reduceEqDiff, ↓reduceIte, ex_some, wk_self, wk_top, wk_nil, wkB_self, and_self, dI, i64_in, and_true, true_and, Int.natCast_add, Int.natCast_one, Int.ofNat_zero, Int.natCast_zero]
    all_goals first | exact ⟨.refl _, .refl _, .refl _⟩ | exact ⟨.refl _, .refl _⟩ | exact .refl _
  rintro ⟨⟨i, G, W, R⟩, hi, ⟨hGe, hWe, hRe⟩, hG, hW, hR⟩
  dsimp only at hi hGe hWe hRe hG hW hR ⊢
  rcases at_or q i hi with ⟨s, hs, hlt, hd⟩ | ⟨he, hd⟩
  · obtain ⟨hws, hr1, hr30⟩ := hf.ok s (List.mem_of_getElem? hs)
    have hw4 := hws.ws4 hp
    have hpb := patB_b hws.pat
    have hgt := gotF_take hs (zeros l.length)
    have hwt : wasteF p l (q.take (i + 1)) = wasteF p l (q.take i) + trimI p l s.ws * s.run := by rw [List.take_add_one, hs, Option.toList_some, wasteF_app]; simp [wasteF]
    have hrt : runsI (q.take (i + 1)) = runsI (q.take i) + s.run := by rw [List.take_add_one, hs, Option.toList_some, runs_app]; simp [runsI]
    have hgl : (gotF (zeros l.length) (q.take i)).length = l.length := by rw [gotF_len]; simp [zeros]
    have hwl := hw4.len
    have hne : ((s.ws.length : Int) != (l.length : Int)) = false := by rw [hwl]; simp
    have e1 : decide (s.run < 1) = false := decide_eq_false (by omega)
    have e2 : decide (30 < s.run) = false := decide_eq_false (by omega)
    rw [← hGe] at hgt hgl
    rw [← hWe] at hwt
    rw [← hRe] at hrt
    have hT0 : 0 ≤ trimI p l s.ws := by omega
    have m1 : 0 ≤ trimI p l s.ws * s.run := Int.mul_nonneg hT0 (by omega)
    have m2 : trimI p l s.ws * s.run ≤ 3000 * s.run := Int.mul_le_mul_of_nonneg_right (by omega) (by omega)
    have w1 : IntKind.i64.wrap (trimI p l s.ws * s.run) = trimI p l s.ws * s.run := IntWalk.i64_in _ (by omega)
    have w2 : IntKind.i64.wrap (W + trimI p l s.ws * s.run) = W + trimI p l s.ws * s.run := IntWalk.i64_in _ (by omega)
    have w3 : IntKind.i64.wrap (R + s.run) = R + s.run := IntWalk.i64_in _ (by omega)
    have hprev : ∀ s', q[i - 1]? = some s' → 0 < i → lexW s'.ws s.ws = true := fun s' h1 h2 => by
      have := List.pairwise_iff_getElem.1 hf.asc (i - 1) i (by omega) hlt (by omega)
      rw [(List.getElem_eq_iff _).2 h1, (List.getElem_eq_iff _).2 hs] at this
      exact this
    have hu4 := sum_b4 hw4.b
    have g1 : decide (sumI s.ws < 1) = false := decide_eq_false (by omega)
    have g2 : decide (p.webs < sumI s.ws) = false := decide_eq_false (by omega)
    have g3 : decide (2 < usedI s.ws) = false := decide_eq_false (by omega)
    have g4 : decide (trimI p l s.ws < p.tl) = false := decide_eq_false (by omega)
    have g5 : decide (p.th < trimI p l s.ws) = false := decide_eq_false (by omega)
    have hgb := addG_b hG hw4.b (r := s.run) (by omega)
    by_cases hi0 : i = 0
    case' pos =>
      have e3 : decide ((0 : Int) < (i : Int)) = false := decide_eq_false (by omega)
      repeat' (first
    | (with_reducible first | refine DW.seq ?_ | refine DW.block ?_ | refine DW.skip ?_ | refine DW.exit ?_ | refine DW.ret ?_ | refine DW.reg ?_)
    | (refine DW.dreg rfl (WF.of ?_) ?_; first | rfl | skip)
    | (refine DW.ord rfl (WF.of (by first | rfl | simp (disch := omega) only [go_sem, simprocAttr, bm_box, bm_row, bk_box, bk_row, hd, hs, hne, e1, e2, e3, List.map_cons, List.map_nil])) ?_ ?_ ?_; rotate_left)
    | rfl
    | (with_reducible refine And.intro ?_ ?_)
    | (simp (disch := omega) only [go_sem, simprocAttr, bm_box, bm_row, bk_box, bk_row, hd, hs, hne, e1, e2, e3, List.map_cons, List.map_nil])
    | (exact retS_of rfl rfl rfl)
    | (refine DW.cond_tt rfl ?_)
    | (refine DW.cond_ff rfl ?_)
    | (refine DW.cond rfl ?_ ?_ <;> intro hc <;> (try simp only [go_sem] at hc))
    | (refine g_split ?_ ?_ <;> intro hc <;> (try simp only [hc]) <;> (try simp only [go_sem] at hc)))
    case' neg =>
      have e3 : decide ((0 : Int) < (i : Int)) = true := decide_eq_true (by omega)
      have w0 : IntKind.i64.wrap ((i : Int) - 1) = ((i - 1 : Nat) : Int) := by rw [IntWalk.i64_in _ (by omega)]; omega
      obtain ⟨s', hs'⟩ := getE (l := q) (i := i - 1) (by omega)
      have hs'w := ((hf.ok s' (List.mem_of_getElem? hs')).1.ws4 hp).len
      have c80 := laBefore false false s'.ws s.ws (by omega) (by omega)
      rw [hprev s' hs' (by omega)] at c80
      repeat' (first
    | (with_reducible first | refine DW.seq ?_ | refine DW.block ?_ | refine DW.skip ?_ | refine DW.exit ?_ | refine DW.ret ?_ | refine DW.reg ?_)
    | (refine DW.dreg rfl (WF.of ?_) ?_; first | rfl | skip)
    | (refine DW.ord rfl (WF.of (by first | rfl | simp (disch := omega) only [go_sem, simprocAttr, bm_box, bm_row, bk_box, bk_row, hd, hs, hs', hne, e1, e2, e3, w0, List.map_cons, List.map_nil])) ?_ ?_ ?_; rotate_left)
    | rfl
    | (with_reducible refine And.intro ?_ ?_)
    | (simp (disch := omega) only [go_sem, simprocAttr, bm_box, bm_row, bk_box, bk_row, hd, hs, hs', hne, e1, e2, e3, w0, List.map_cons, List.map_nil])
    | (exact retS_of rfl rfl rfl)
    | (refine DW.cond_tt rfl ?_)
    | (refine call_c (c80) (by decide) ?_)
    | (refine DW.cond_ff rfl ?_)
    | (refine DW.cond rfl ?_ ?_ <;> intro hc <;> (try simp only [go_sem] at hc))
    | (refine g_split ?_ ?_ <;> intro hc <;> (try simp only [hc]) <;> (try simp only [go_sem] at hc)))
    all_goals
      refine DW.loop (ι := { k : Nat // k ≤ l.length }) (fun k => ⟨164, [(15, dI k.1), (14, dI (usedI (s.ws.take k.1))), (13, dI (sumI (s.ws.take k.1))), (12, dI (p.wide - dotI (s.ws.take k.1) l)), (11, .box 11 0), (10, dI i), (9, bD false), (8, dI R), (7, dI W), (6, .own 18), (3, .box 3 0), (1, .c (.sl b1 3 (rows eO l))), (2, dSt b2 q)], [(18, .row 1 (rowC (rows eI (addG G (s.ws.take k.1) s.run)))), (11, .box [dIs false s.ws, dI s.run]), (3, .box [dI p.wide, dI p.tl, dI p.th, dI p.webs])]⟩) (fun k => l.length - k.1) ⟨0, Nat.zero_le _⟩ ?_ ?_
      · refine Ent.to ?_ ?_ <;> simp (disch := omega) only [wkT_cons, wkX_cons, wkT_nil, wkX_nil, get, Nat.reduceEqDiff, ↓reduceIte, ex_some, wk_self, wk_top, wk_nil, wkB_self, and_self, dI, i64_in, and_true, true_and, Int.natCast_add, Int.natCast_one, Int.ofNat_zero, Int.natCast_zero, List.take_zero, addG_nil, usedI, sumI, dotI, Int.sub_zero]
        all_goals first | exact ⟨.refl _, .refl _, .refl _⟩ | exact ⟨.refl _, .refl _⟩ | exact .refl _
      rintro ⟨k, hk⟩
      dsimp only
      rcases at_or l k hk with ⟨o, hok, hltk, hdk⟩ | ⟨hek, hdk⟩
      · obtain ⟨n, hn⟩ := getE (l := s.ws) (i := k) (by omega)
        obtain ⟨x, hx, hx2, hset⟩ := addG_take (g := G) (ws := s.ws) (r := s.run) (i := k) hn (by omega)
        have hxb := hG x (List.mem_of_getElem? hx)
        have hnb := hw4.b n (List.mem_of_getElem? hn)
        have hob := (ho o (List.mem_of_getElem? hok)).w
        have k1 : 0 ≤ n * s.run := Int.mul_nonneg hnb.1 (by omega)
        have k2 : n * s.run ≤ 4 * s.run := Int.mul_le_mul_of_nonneg_right hnb.2 (by omega)
        have hal : (addG G (s.ws.take k) s.run).length = G.length := addG_len _ _ _
        have hil : (k < (addG G (s.ws.take k) s.run).length) = True := eq_true (by omega)
        have ht := dot_take hn hok
        have hdb := dot_b (ws := s.ws.take k) (l := l) (fun x hx => hw4.b x (List.mem_of_mem_take hx)) ho
        have hb := sum_b4 (ws := s.ws.take k) (fun x hx => hw4.b x (List.mem_of_mem_take hx))
        rw [List.length_take] at hb
        have hsu := sum_take hn
        have hus := used_take hn
        have m3 : 0 ≤ n * o.w := Int.mul_nonneg hnb.1 (by omega)
        have m4 : n * o.w ≤ 4 * o.w := Int.mul_le_mul_of_nonneg_right hnb.2 (by omega)
        have v3 : IntKind.i64.wrap (n * o.w) = n * o.w := IntWalk.i64_in _ (by omega)
        have v4 : IntKind.i64.wrap (p.wide - dotI (s.ws.take k) l - n * o.w) = p.wide - dotI (s.ws.take k) l - n * o.w := IntWalk.i64_in _ (by omega)
        have hlf : p.wide - dotI (s.ws.take (k + 1)) l = p.wide - dotI (s.ws.take k) l - n * o.w := by omega
        generalize p.wide - dotI (s.ws.take k) l = L at *
        generalize sumI (s.ws.take k) = A at *
        generalize usedI (s.ws.take k) = B at *
        generalize addG G (s.ws.take k) s.run = H at *
        have v1 : IntKind.i64.wrap (n * s.run) = n * s.run := IntWalk.i64_in _ (by omega)
        have v2 : IntKind.i64.wrap (x + n * s.run) = x + n * s.run := IntWalk.i64_in _ (by omega)
        have v5 : IntKind.i64.wrap (A + n) = A + n := IntWalk.i64_in _ (by omega)
        have f1 : decide (n < 0) = false := decide_eq_false (by omega)
        have f2 : decide (4 < n) = false := decide_eq_false (by omega)
        by_cases hc : 0 < n
        · have f3 : decide (0 < n) = true := decide_eq_true hc
          rw [if_pos hc] at hus
          repeat' (first
    | (with_reducible first | refine DW.seq ?_ | refine DW.block ?_ | refine DW.skip ?_ | refine DW.exit ?_ | refine DW.ret ?_ | refine DW.reg ?_)
    | (refine DW.dreg rfl (WF.of ?_) ?_; first | rfl | skip)
    | (refine DW.ord rfl (WF.of (by first | rfl | simp (disch := omega) only [go_sem, simprocAttr, bm_box, bm_row, bk_box, bk_row, hdk, hs, hn, hok, hx2, hil, v1, v2, v3, v4, v5, f1, f2, f3, rowC_set1, rows_setI, hset, List.map_cons, List.map_nil])) ?_ ?_ ?_; rotate_left)
    | rfl
    | (with_reducible refine And.intro ?_ ?_)
    | (simp (disch := omega) only [go_sem, simprocAttr, bm_box, bm_row, bk_box, bk_row, hdk, hs, hn, hok, hx2, hil, v1, v2, v3, v4, v5, f1, f2, f3, rowC_set1, rows_setI, hset, List.map_cons, List.map_nil])
    | (exact retS_of rfl rfl rfl)
    | (refine DW.cond_tt rfl ?_)
    | (refine DW.cond_ff rfl ?_)
    | (refine DW.cond rfl ?_ ?_ <;> intro hc <;> (try simp only [go_sem] at hc))
    | (refine g_split ?_ ?_ <;> intro hc <;> (try simp only [hc]) <;> (try simp only [go_sem] at hc)))
          refine ⟨⟨k + 1, hltk⟩, ?_, Ent.to ?_ ?_⟩ <;> first | (show _ < _; (try simp only); omega) | (simp (disch := omega) only [wkT_cons, wkX_cons, wkT_nil, wkX_nil, get, Nat.reduceEqDiff, ↓reduceIte, ex_some, wk_self, wk_top, wk_nil, wkB_self, and_self, dI, i64_in, and_true, true_and, Int.natCast_add, Int.natCast_one, Int.ofNat_zero, Int.natCast_zero,  hsu, hus, hlf])
          all_goals first | exact ⟨.refl _, .refl _, .refl _⟩ | exact ⟨.refl _, .refl _⟩ | exact .refl _
        · have f3 : decide (0 < n) = false := decide_eq_false hc
          rw [if_neg hc, Int.add_zero] at hus
          repeat' (first
    | (with_reducible first | refine DW.seq ?_ | refine DW.block ?_ | refine DW.skip ?_ | refine DW.exit ?_ | refine DW.ret ?_ | refine DW.reg ?_)
    | (refine DW.dreg rfl (WF.of ?_) ?_; first | rfl | skip)
    | (refine DW.ord rfl (WF.of (by first | rfl | simp (disch := omega) only [go_sem, simprocAttr, bm_box, bm_row, bk_box, bk_row, hdk, hs, hn, hok, hx2, hil, v1, v2, v3, v4, v5, f1, f2, f3, rowC_set1, rows_setI, hset, List.map_cons, List.map_nil])) ?_ ?_ ?_; rotate_left)
    | rfl
    | (with_reducible refine And.intro ?_ ?_)
    | (simp (disch := omega) only [go_sem, simprocAttr, bm_box, bm_row, bk_box, bk_row, hdk, hs, hn, hok, hx2, hil, v1, v2, v3, v4, v5, f1, f2, f3, rowC_set1, rows_setI, hset, List.map_cons, List.map_nil])
    | (exact retS_of rfl rfl rfl)
    | (refine DW.cond_tt rfl ?_)
    | (refine DW.cond_ff rfl ?_)
    | (refine DW.cond rfl ?_ ?_ <;> intro hc <;> (try simp only [go_sem] at hc))
    | (refine g_split ?_ ?_ <;> intro hc <;> (try simp only [hc]) <;> (try simp only [go_sem] at hc)))
          refine ⟨⟨k + 1, hltk⟩, ?_, Ent.to ?_ ?_⟩ <;> first | (show _ < _; (try simp only); omega) | (simp (disch := omega) only [wkT_cons, wkX_cons, wkT_nil, wkX_nil, get, Nat.reduceEqDiff, ↓reduceIte, ex_some, wk_self, wk_top, wk_nil, wkB_self, and_self, dI, i64_in, and_true, true_and, Int.natCast_add, Int.natCast_one, Int.ofNat_zero, Int.natCast_zero,  hsu, hus, hlf])
          all_goals first | exact ⟨.refl _, .refl _, .refl _⟩ | exact ⟨.refl _, .refl _⟩ | exact .refl _
      · have hti : s.ws.take k = s.ws := List.take_of_length_le (by omega)
        rw [hti, show p.wide - dotI s.ws l = trimI p l s.ws from rfl]
        generalize trimI p l s.ws = T at *
        generalize sumI s.ws = A at *
        generalize usedI s.ws = B at *
        repeat' (first
    | (with_reducible first | refine DW.seq ?_ | refine DW.block ?_ | refine DW.skip ?_ | refine DW.exit ?_ | refine DW.ret ?_ | refine DW.reg ?_)
    | (refine DW.dreg rfl (WF.of ?_) ?_; first | rfl | skip)
    | (refine DW.ord rfl (WF.of (by first | rfl | simp (disch := omega) only [go_sem, simprocAttr, bm_box, bm_row, bk_box, bk_row, hdk, w1, w2, w3, g1, g2, g3, g4, g5, List.map_cons, List.map_nil])) ?_ ?_ ?_; rotate_left)
    | rfl
    | (with_reducible refine And.intro ?_ ?_)
    | (simp (disch := omega) only [go_sem, simprocAttr, bm_box, bm_row, bk_box, bk_row, hdk, w1, w2, w3, g1, g2, g3, g4, g5, List.map_cons, List.map_nil])
    | (exact retS_of rfl rfl rfl)
    | (refine DW.cond_tt rfl ?_)
    | (refine DW.cond_ff rfl ?_)
    | (refine DW.cond rfl ?_ ?_ <;> intro hc <;> (try simp only [go_sem] at hc))
    | (refine g_split ?_ ?_ <;> intro hc <;> (try simp only [hc]) <;> (try simp only [go_sem] at hc)))
        refine ⟨⟨(i + 1, addG G s.ws s.run, W + T * s.run, R + s.run), hlt, ⟨hgt.symm, hwt.symm, hrt.symm⟩, fun v hv => by have := hgb v hv; dsimp only; omega, by dsimp only; omega, by dsimp only; omega⟩, ?_, Ent.to ?_ ?_⟩ <;> first | (show _ < _; (try simp only); omega) | (simp (disch := omega) only [wkT_cons, wkX_cons, wkT_nil, wkX_nil, get, Nat.reduceEqDiff, ↓reduceIte, ex_some, wk_self, wk_top, wk_nil, wkB_self, and_self, dI, i64_in, and_true, true_and, Int.natCast_add, Int.natCast_one, Int.ofNat_zero, Int.natCast_zero])
        all_goals first | exact ⟨.refl _, .refl _, .refl _⟩ | exact ⟨.refl _, .refl _⟩ | exact .refl _
  · rw [List.take_of_length_le (by omega)] at hGe hWe hRe
    rw [← hGe, ← hWe, ← hRe]
    repeat' (first
    | (with_reducible first | refine DW.seq ?_ | refine DW.block ?_ | refine DW.skip ?_ | refine DW.exit ?_ | refine DW.ret ?_ | refine DW.reg ?_)
    | (refine DW.dreg rfl (WF.of ?_) ?_; first | rfl | skip)
    | (refine DW.ord rfl (WF.of (by first | rfl | simp (disch := omega) only [go_sem, simprocAttr, bm_box, bm_row, bk_box, bk_row, hd])) ?_ ?_ ?_; rotate_left)
    | rfl
    | (with_reducible refine And.intro ?_ ?_)
    | (simp (disch := omega) only [go_sem, simprocAttr, bm_box, bm_row, bk_box, bk_row, hd])
    | (exact retS_of rfl rfl rfl)
    | (refine DW.cond_tt rfl ?_)
    | (refine DW.cond_ff rfl ?_)
    | (refine DW.cond rfl ?_ ?_ <;> intro hc <;> (try simp only [go_sem] at hc))
    | (refine g_split ?_ ?_ <;> intro hc <;> (try simp only [hc]) <;> (try simp only [go_sem] at hc)))
    (refine retS_ent (Ent.rel 18 rfl) ?_; simp (disch := omega) only [go_sem, simprocAttr, bm_box, bm_row, bk_box, bk_row])
    refine retS_wk rfl ?_ (by simp only [Blk.nb, rowC_nb, D.nb, D.nbs, C.nb, C.nbs, C.nbss, rows_nb eI_nb, Bool.and_true, Bool.not_false, Bool.and_self, bD, dI, iD, rows_nb eO_nb, rows_nb eSt_nb, rows_nb eWs_nb, rows_nb e1_nb]); exact .refl _
end Go.Dw.Seat
end
section
set_option linter.unusedSimpArgs false
set_option maxRecDepth 100000
namespace Go.Dw.Seat
open Go Go.Dw Go.Proofs Go.IntWalk
abbrev dU (n : Nat) : D := .c (.v (.int .u8 n))
abbrev shD (x : List Nat) : D := .agg (x.map dU)
theorem mens_dU (k : Nat) : ∀ l : List Nat, D.mens k (l.map dU) = false
  | [] => rfl
  | _ :: l => mens_dU k l
theorem keys_dU (bx : List (Nat × Blk)) : ∀ l : List Nat, D.keysIns bx (l.map dU) = true
  | [] => rfl
  | _ :: l => keys_dU bx l
theorem kill_dU (k : Nat) : ∀ l : List Nat, (l.map dU).map (killD k) = l.map dU
  | [] => rfl
  | v :: l => by rw [List.map_cons, List.map_cons, kill_dU k l]; rfl
theorem rel_dU (k : Nat) (b : Blk) : ∀ l : List Nat, relDs k b (l.map dU) = l.map dU
  | [] => rfl
  | v :: l => by rw [List.map_cons, relDs, rel_dU k b l]; rfl
attribute [go_sem] mens_dU keys_dU kill_dU rel_dU
theorem cell_dU {x : List Nat} {i : Nat} {v : Nat} (h : x[i]? = some v) : (x.map dU)[i]? = some (dU v) := by rw [List.getElem?_map, h]; rfl
abbrev shB (x : List Nat) : Blk := .box (x.map dU)
def gB (x : List Nat) (i : Nat) : Nat := x.getD i 0
def mN (x : List Nat) : Nat := gB x 4 % 4 + 1
def mO (x : List Nat) (i : Nat) : TOrd := ⟨300 + 7 * (gB x i : Int) / 4, 0, 0⟩
def mL0 (x : List Nat) (k : Nat) : List TOrd := (List.range k).map (mO x)
theorem mL0_len (x : List Nat) (k : Nat) : (mL0 x k).length = k := by simp [mL0]
theorem mL0_succ (x : List Nat) (k : Nat) : mL0 x (k + 1) = mL0 x k ++ [mO x k] := by simp [mL0, List.range_succ]
theorem gB_lt' {x : List Nat} (hb : ∀ v ∈ x, v < 256) (i : Nat) : gB x i < 256 := by
  rw [gB, List.getD_eq_getElem?_getD]
  cases h : x[i]? with
  | none => simp
  | some v => exact hb v (List.mem_of_getElem? h)
theorem mL0_w {x : List Nat} (hb : ∀ v ∈ x, v < 256) {k : Nat} {o : TOrd} (ho : o ∈ mL0 x k) : (300 ≤ o.w ∧ o.w ≤ 746) ∧ o.lo = 0 ∧ o.hi = 0 := by
  obtain ⟨i, _, rfl⟩ := List.mem_map.1 ho
  have := gB_lt' hb i
  refine ⟨?_, rfl, rfl⟩
  show 300 ≤ 300 + 7 * (gB x i : Int) / 4 ∧ 300 + 7 * (gB x i : Int) / 4 ≤ 746
  omega
theorem mL0_ok {x : List Nat} (hb : ∀ v ∈ x, v < 256) {k : Nat} : ∀ o ∈ mL0 x k, o.ok := fun o ho => by
  have := mL0_w hb ho
  exact ⟨by omega, by omega⟩
def mv (x : List Nat) (i j : Nat) : Nat := gB x (5 + 5 * i + j)
def mA (x : List Nat) (i : Nat) : Nat := mv x i 0 % mN x
def mB (x : List Nat) (i : Nat) : Nat := mv x i 1 % mN x
def mna (x : List Nat) (i : Nat) : Nat := 1 + mv x i 2 % 3
def mnb (x : List Nat) (i : Nat) : Nat := mv x i 3 % (5 - mna x i)
def mW1 (x : List Nat) (i : Nat) : List Int := (zeros (mN x)).set (mA x i) (mna x i)
def mW (x : List Nat) (i : Nat) : List Int := if mA x i = mB x i then mW1 x i else (mW1 x i).set (mB x i) (mnb x i)
def mT (x : List Nat) (i : Nat) : TStp := ⟨mW x i, 1 + (mv x i 4 % 8 : Nat)⟩
def seekF (ws : List Int) : List TStp → Nat → Nat → Bool → Nat × Bool
  | [], _, a, b => (a, b)
  | t :: q, k, a, b => if lexW t.ws ws then seekF ws q (k + 1) (k + 1) b else if lexW ws t.ws then seekF ws q (k + 1) a b else seekF ws q (k + 1) a true
structure MSt where
  q : List TStp
  G : List Int
  lo : Int
  hi : Int
def mLk (x : List Nat) (i : Nat) : Bool := decide (0 < i) && decide (mv x i 4 % 5 = 0)
def stepM (x : List Nat) (i : Nat) (S : MSt) : MSt :=
  let r := seekF (mW x i) S.q 0 0 (mLk x i)
  if r.2 then S else
    let left := 3000 - dotI (mW x i) (mL0 x (mN x))
    ⟨S.q.take r.1 ++ mT x i :: S.q.drop r.1, addG S.G (mW x i) (mT x i).run, min S.lo left, max S.hi left⟩
structure MInv (x : List Nat) (i : Nat) (S : MSt) : Prop where
  len : S.q.length ≤ i
  ne : 0 < i → S.q ≠ []
  st : ∀ s ∈ S.q, (s.ws.length = mN x ∧ ∀ v ∈ s.ws, 0 ≤ v) ∧ (1 ≤ sumI s.ws ∧ sumI s.ws ≤ 4) ∧ usedI s.ws ≤ 2 ∧ (1 ≤ s.run ∧ s.run ≤ 8) ∧ S.lo ≤ 3000 - dotI s.ws (mL0 x (mN x)) ∧ 3000 - dotI s.ws (mL0 x (mN x)) ≤ S.hi
  asc : S.q.Pairwise fun a b => lexW a.ws b.ws = true
  got : S.G = gotF (zeros (mN x)) S.q
  gb : ∀ v ∈ S.G, 0 ≤ v ∧ v ≤ 32 * (i : Int)
  lo : 16 ≤ S.lo ∧ S.lo ≤ 3000
  hi : 0 ≤ S.hi ∧ S.hi ≤ 2700
def mS (x : List Nat) : Nat → MSt
  | 0 => ⟨[], zeros (mN x), 3000, 0⟩
  | i + 1 => stepM x i (mS x i)
theorem gB_get {x : List Nat} (hx : x.length = 30) {i : Nat} (hi : i < 30) : (x.map dU)[i]? = some (dU (gB x i)) := cell_dU (by rw [gB, List.getD_eq_getElem?_getD, List.getElem?_eq_getElem (by omega)]; rfl)
theorem gB_lt {x : List Nat} (hb : AllLt 256 x) (i : Nat) : gB x i < 256 := by
  rw [gB, List.getD_eq_getElem?_getD]
  cases h : x[i]? with
  | none => simp
  | some v => exact hb v (List.mem_of_getElem? h)
theorem five {x : List Nat} (hx : x.length = 30) {i : Nat} (hi : i < 3) : List.take 5 (List.drop (5 + i * 5) (x.map dU)) = [dU (mv x i 0), dU (mv x i 1), dU (mv x i 2), dU (mv x i 3), dU (mv x i 4)] := by
  apply List.ext_getElem?
  intro j
  rw [List.getElem?_take, List.getElem?_drop]
  by_cases hj : j < 5
  · rw [if_pos hj, gB_get hx (by omega)]
    have e : ∀ k, gB x (5 + i * 5 + k) = mv x i k := fun k => by rw [mv, Nat.mul_comm i 5]
    rw [e]
    match j, hj with
    | 0, _ => rfl
    | 1, _ => rfl
    | 2, _ => rfl
    | 3, _ => rfl
    | 4, _ => rfl
  · rw [if_neg hj, List.getElem?_eq_none (by simp only [List.length_cons, List.length_nil]; omega)]
theorem shut3 (ws : List Int) (r : Int) (es : List (List C)) : shutEs ([D.c (.sl false 1 (rows eI ws)), D.c (.v (.int .i64 r))] :: rowC es) = some ([C.sl false 1 (rows eI ws), C.v (.int .i64 r)] :: es) := by
  simp only [shutEs, shutEs_rowC]; rfl
theorem ins_rows (a b : List TStp) (ws : List Int) (r : Int) : rows eSt a ++ [C.sl false 1 (rows eI ws), C.v (.int .i64 r)] :: rows eSt b = rows eSt (a ++ ⟨ws, r⟩ :: b) := by
  simp [rows, eSt]
theorem min_if (a b : Int) : (if b < a then b else a) = min a b := by split <;> omega
theorem max_if (a b : Int) : (if a < b then b else a) = max a b := by split <;> omega
def mQ (x : List Nat) : List TStp := (mS x 3).q
def mP (x : List Nat) : TPap := ⟨3000, max 0 ((mS x 3).lo - (gB x 28 % 50 : Nat)), (mS x 3).hi + (gB x 29 % 50 : Nat), 4⟩
def mNd (x : List Nat) (G : List Int) (k : Nat) : TOrd := ⟨300 + 7 * (gB x k : Int) / 4, max 0 (G.getD k 0 - (gB x (20 + 2 * k) % 3 : Nat)), G.getD k 0 + (gB x (21 + 2 * k) % 3 : Nat)⟩
def mLn (x : List Nat) (G : List Int) (k : Nat) : List TOrd := (List.range (mN x)).map fun j => if j < k then mNd x G j else mO x j
def mL (x : List Nat) : List TOrd := mLn x (mS x 3).G (mN x)
theorem mLn_zero (x : List Nat) (G : List Int) : mLn x G 0 = mL0 x (mN x) := by
  unfold mLn mL0
  apply List.map_congr_left
  intro j _
  rw [if_neg (by omega)]
theorem mLn_len (x : List Nat) (G : List Int) (k : Nat) : (mLn x G k).length = mN x := by simp [mLn]
theorem mLn_get {x : List Nat} {G : List Int} {k : Nat} (hk : k < mN x) : (mLn x G k)[k]? = some (mO x k) := by
  rw [mLn, List.getElem?_map, List.getElem?_range hk, Option.map_some, if_neg (by omega)]
theorem mLn_set {x : List Nat} {G : List Int} {k : Nat} (hk : k < mN x) : (mLn x G k).set k (mNd x G k) = mLn x G (k + 1) := by
  apply List.ext_getElem?
  intro j
  rw [List.getElem?_set, mLn_len]
  by_cases hj : j < mN x
  · by_cases he : k = j
    · subst he
      rw [if_pos rfl, if_pos hk, mLn, List.getElem?_map, List.getElem?_range hk, Option.map_some, if_pos (by omega)]
    · rw [if_neg he, mLn, mLn, List.getElem?_map, List.getElem?_map, List.getElem?_range hj, Option.map_some, Option.map_some]
      congr 1
      by_cases h : j < k
      · rw [if_pos h, if_pos (by omega)]
      · rw [if_neg h, if_neg (by omega)]
  · rw [if_neg (by omega), List.getElem?_eq_none (by rw [mLn_len]; omega), List.getElem?_eq_none (by rw [mLn_len]; omega)]
end Go.Dw.Seat
end
