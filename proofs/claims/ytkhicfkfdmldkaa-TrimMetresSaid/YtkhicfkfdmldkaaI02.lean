/- Helpers of a proof. -/
import Derived.Test.YtkhicfkfdmldkaaI01
import Derived.Test.YtkhicfkfdmldkaaRows
import Derived.ProofKit
import Derived.OpenShut
set_option linter.unusedVariables false
set_option linter.unusedSimpArgs false
section
set_option linter.unusedSimpArgs false
set_option maxRecDepth 100000
namespace Go.Dw.Seat
open Go Go.Dw Go.Proofs Go.IntWalk
def atI (s : List Int) (a : Nat) : Int := (s[a]?).getD 0
def edI (s t : List Int) : Nat → Nat → Int
  | 0, b => (b : Int) * 500
  | a + 1, 0 => ((a + 1 : Nat) : Int) * 500
  | a + 1, b + 1 => min (min (edI s t a b + (max (atI s a) (atI t b) - min (atI s a) (atI t b))) (edI s t a (b + 1) + 500)) (edI s t (a + 1) b + 500)
termination_by a b => (a, b)
theorem edI_b {s t : List Int} (hs : ∀ x ∈ s, 0 ≤ x ∧ x ≤ 3000) (ht : ∀ x ∈ t, 0 ≤ x ∧ x ≤ 3000) : ∀ (a b : Nat), 0 ≤ edI s t a b ∧ edI s t a b ≤ 500 * ((a : Int) + b)
  | 0, b => by rw [edI]; omega
  | a + 1, 0 => by rw [edI]; omega
  | a + 1, b + 1 => by
    have h1 := edI_b hs ht a b
    have h2 := edI_b hs ht a (b + 1)
    have h3 := edI_b hs ht (a + 1) b
    rw [edI]
    omega
termination_by a b => (a, b)
def gridI (s t : List Int) (a b : Nat) : List Int := (List.range 121).map fun i => if i % 11 ≤ t.length ∧ (i / 11 < a ∨ (i / 11 = a ∧ i % 11 < b)) then edI s t (i / 11) (i % 11) else 0
theorem gridI_len (s t : List Int) (a b : Nat) : (gridI s t a b).length = 121 := by simp [gridI]
theorem gridI_zero (s t : List Int) : gridI s t 0 0 = List.replicate 121 0 := by
  have h : gridI s t 0 0 = (List.range 121).map fun _ => (0 : Int) := by
    unfold gridI
    apply List.map_congr_left
    intro i _
    rw [if_neg (by omega)]
  rw [h]; rfl
theorem gridI_get {s t : List Int} {a b x y : Nat} (hx : x ≤ 10) (hy : y ≤ t.length) (ht : t.length ≤ 10) (h : x < a ∨ (x = a ∧ y < b)) : (gridI s t a b)[x * 11 + y]? = some (edI s t x y) := by
  have e1 : (x * 11 + y) / 11 = x := by omega
  have e2 : (x * 11 + y) % 11 = y := by omega
  rw [gridI, List.getElem?_map, List.getElem?_range (by omega), Option.map_some, e1, e2, if_pos ⟨hy, h⟩]
theorem gridI_set {s t : List Int} {a b : Nat} (ha : a ≤ 10) (hb : b ≤ t.length) (ht : t.length ≤ 10) : (gridI s t a b).set (a * 11 + b) (edI s t a b) = gridI s t a (b + 1) := by
  apply List.ext_getElem?
  intro i
  rw [List.getElem?_set]
  by_cases hi : i < 121
  · by_cases he : a * 11 + b = i
    · rw [if_pos he, if_pos (by rw [gridI_len]; omega)]
      subst he
      rw [gridI_get ha hb ht (.inr ⟨rfl, by omega⟩)]
    · rw [if_neg he, gridI, gridI, List.getElem?_map, List.getElem?_map, List.getElem?_range hi, Option.map_some, Option.map_some]
      congr 1
      have : (i % 11 ≤ t.length ∧ (i / 11 < a ∨ (i / 11 = a ∧ i % 11 < b))) ↔ (i % 11 ≤ t.length ∧ (i / 11 < a ∨ (i / 11 = a ∧ i % 11 < b + 1))) := by omega
      simp only [this]
  · rw [if_neg (by omega), List.getElem?_eq_none (by rw [gridI_len]; omega), List.getElem?_eq_none (by rw [gridI_len]; omega)]
theorem gridI_row (s t : List Int) (a : Nat) (ht : t.length ≤ 10) : gridI s t a (t.length + 1) = gridI s t (a + 1) 0 := by
  unfold gridI
  apply List.map_congr_left
  intro i _
  have : (i % 11 ≤ t.length ∧ (i / 11 < a ∨ (i / 11 = a ∧ i % 11 < t.length + 1))) ↔ (i % 11 ≤ t.length ∧ (i / 11 < a + 1 ∨ (i / 11 = a + 1 ∧ i % 11 < 0))) := by omega
  simp only [this]
abbrev gridB (g : List Int) : Blk := .box (g.map dI)
theorem setAt_map (g : List Int) (off : Nat) (v : Int) (h : off < g.length) : setAt (g.map dI) off [dI v] = (g.set off v).map dI := by
  rw [setAt, List.map_set, List.set_eq_take_append_cons_drop, if_pos (by simpa using h)]
  simp
theorem ty113z : tyI Try.prog 113 = some ⟨true, 121, List.replicate 121 (.int .i64 0), 968⟩ := by kernel_rfl
theorem keys_dI (bx : List (Nat × Blk)) : ∀ l : List Int, D.keysIns bx (l.map dI) = true
  | [] => rfl
  | _ :: l => keys_dI bx l
theorem splice {g : List Int} {off : Nat} (v : Int) (h : off < g.length) : List.take off (g.map dI) ++ [D.c (.v (.int .i64 v))] ++ List.drop (off + 1) (g.map dI) = (g.set off v).map dI := setAt_map g off v h
def chgE (s t : List Int) : Int := if 10 < s.length ∨ 10 < t.length then 5 else if knOk s = false ∨ knOk t = false then 4 else 0
def chgI (s t : List Int) : Int := if chgE s t = 0 then edI s t s.length t.length else 0
set_option maxHeartbeats 2000000 in
theorem trChangeE (b1 b2 : Bool) (s t : List Int) (hs : s.length ≤ 2 ^ 36) (ht : t.length ≤ 2 ^ 36) (he : chgE s t ≠ 0) : DCall Try.prog 17 [dIs b1 s, dIs b2 t] [] (.tup [dI 0, dI (chgE s t)]) [] := by
  have h1 := trAreKnives b1 s hs
  have h2 := trAreKnives b2 t ht
  unfold chgE at he ⊢
  by_cases l1 : 10 < s.length
  · have hd1 : decide ((10 : Int) < (s.length : Int)) = true := decide_eq_true (by omega)
    rw [if_pos (.inl l1)]
    refine DCall.of Try.func17 sf17 hb17 (Nat.le_of_ble_eq_true rfl) (okRes_nil fun _ => rfl) ?_; simp only [s17, idxs, Nat.reduceAdd]
    repeat' (first
    | (with_reducible first | refine DW.seq ?_ | refine DW.block ?_ | refine DW.skip ?_ | refine DW.exit ?_ | refine DW.ret ?_ | refine DW.reg ?_)
    | (refine DW.dreg rfl (WF.of ?_) ?_; first | rfl | skip)
    | (simp (disch := omega) only [go_sem, simprocAttr, Blk.men, Blk.keysIn, hd1])
    | (exact retS_of rfl rfl rfl)
    | (refine DW.cond_tt rfl ?_)
    | (refine DW.cond_ff rfl ?_)
    | (refine DW.cond rfl ?_ ?_ <;> intro hc <;> (try simp only [go_sem] at hc))
    | (refine g_split ?_ ?_ <;> intro hc <;> (try simp only [hc]) <;> (try simp only [go_sem] at hc)))
  have hd1 : decide ((10 : Int) < (s.length : Int)) = false := decide_eq_false (by omega)
  by_cases l2 : 10 < t.length
  · have hd2 : decide ((10 : Int) < (t.length : Int)) = true := decide_eq_true (by omega)
    rw [if_pos (.inr l2)]
    refine DCall.of Try.func17 sf17 hb17 (Nat.le_of_ble_eq_true rfl) (okRes_nil fun _ => rfl) ?_; simp only [s17, idxs, Nat.reduceAdd]
    repeat' (first
    | (with_reducible first | refine DW.seq ?_ | refine DW.block ?_ | refine DW.skip ?_ | refine DW.exit ?_ | refine DW.ret ?_ | refine DW.reg ?_)
    | (refine DW.dreg rfl (WF.of ?_) ?_; first | rfl | skip)
    | (simp (disch := omega) only [go_sem, simprocAttr, Blk.men, Blk.keysIn, hd1, hd2])
    | (exact retS_of rfl rfl rfl)
    | (refine DW.cond_tt rfl ?_)
    | (refine DW.cond_ff rfl ?_)
    | (refine DW.cond rfl ?_ ?_ <;> intro hc <;> (try simp only [go_sem] at hc))
    | (refine g_split ?_ ?_ <;> intro hc <;> (try simp only [hc]) <;> (try simp only [go_sem] at hc)))
  have hd2 : decide ((10 : Int) < (t.length : Int)) = false := decide_eq_false (by omega)
  rw [if_neg (by omega)] at he ⊢
  cases e1 : knOk s <;> rw [e1] at h1
  · rw [if_pos (.inl rfl)]
    refine DCall.of Try.func17 sf17 hb17 (Nat.le_of_ble_eq_true rfl) (okRes_nil fun _ => rfl) ?_; simp only [s17, idxs, Nat.reduceAdd]
    repeat' (first
    | (with_reducible first | refine DW.seq ?_ | refine DW.block ?_ | refine DW.skip ?_ | refine DW.exit ?_ | refine DW.ret ?_ | refine DW.reg ?_)
    | (refine DW.dreg rfl (WF.of ?_) ?_; first | rfl | skip)
    | (simp (disch := omega) only [go_sem, simprocAttr, Blk.men, Blk.keysIn, hd1, hd2])
    | (exact retS_of rfl rfl rfl)
    | (refine DW.cond_tt rfl ?_)
    | (refine call_c (h1) (by decide) ?_)
    | (refine DW.cond_ff rfl ?_)
    | (refine DW.cond rfl ?_ ?_ <;> intro hc <;> (try simp only [go_sem] at hc))
    | (refine g_split ?_ ?_ <;> intro hc <;> (try simp only [hc]) <;> (try simp only [go_sem] at hc)))
  cases e2 : knOk t <;> rw [e2] at h2
  · rw [if_pos (.inr rfl)]
    refine DCall.of Try.func17 sf17 hb17 (Nat.le_of_ble_eq_true rfl) (okRes_nil fun _ => rfl) ?_; simp only [s17, idxs, Nat.reduceAdd]
    repeat' (first
    | (with_reducible first | refine DW.seq ?_ | refine DW.block ?_ | refine DW.skip ?_ | refine DW.exit ?_ | refine DW.ret ?_ | refine DW.reg ?_)
    | (refine DW.dreg rfl (WF.of ?_) ?_; first | rfl | skip)
    | (simp (disch := omega) only [go_sem, simprocAttr, Blk.men, Blk.keysIn, hd1, hd2])
    | (exact retS_of rfl rfl rfl)
    | (refine DW.cond_tt rfl ?_)
    | (refine call_c (h1) (by decide) ?_)
    | (refine call_c (h2) (by decide) ?_)
    | (refine DW.cond_ff rfl ?_)
    | (refine DW.cond rfl ?_ ?_ <;> intro hc <;> (try simp only [go_sem] at hc))
    | (refine g_split ?_ ?_ <;> intro hc <;> (try simp only [hc]) <;> (try simp only [go_sem] at hc)))
  · rw [e1, e2] at he
    simp at he
set_option maxHeartbeats 4000000 in
theorem trChange (b1 b2 : Bool) (s t : List Int) (he : chgE s t = 0) : DCall Try.prog 17 [dIs b1 s, dIs b2 t] [] (.tup [dI (edI s t s.length t.length), dI 0]) [] := by
  unfold chgE at he
  split at he
  · cases he
  rename_i hl
  split at he
  · cases he
  rename_i hk
  clear he
  simp only [not_or, Bool.not_eq_false, Nat.not_lt] at hl hk
  obtain ⟨l1, l2⟩ := hl
  have h1 := trAreKnives b1 s (by omega)
  have h2 := trAreKnives b2 t (by omega)
  rw [hk.1] at h1
  rw [hk.2] at h2
  have hd1 : decide ((10 : Int) < (s.length : Int)) = false := decide_eq_false (by omega)
  have hd2 : decide ((10 : Int) < (t.length : Int)) = false := decide_eq_false (by omega)
  refine DCall.of Try.func17 sf17 hb17 (Nat.le_of_ble_eq_true rfl) (okRes_nil fun _ => rfl) ?_; simp only [s17, idxs, Nat.reduceAdd]
  have hz : gridB (gridI s t 0 0) = gridB (List.replicate 121 0) := by rw [gridI_zero]
  have hsb := wthn_all (show wthn 0 3000 s = true by have := hk.1; simp only [knOk, Bool.and_eq_true] at this; exact this.1)
  have htb := wthn_all (show wthn 0 3000 t = true by have := hk.2; simp only [knOk, Bool.and_eq_true] at this; exact this.1)
  clear hk
  repeat' (first
    | (with_reducible first | refine DW.seq ?_ | refine DW.block ?_ | refine DW.skip ?_ | refine DW.exit ?_ | refine DW.ret ?_ | refine DW.reg ?_)
    | (refine DW.dreg rfl (WF.of ?_) ?_; first | rfl | skip)
    | (simp (disch := omega) only [go_sem, simprocAttr, Blk.men, Blk.keysIn, hd1, hd2, ty113z])
    | (exact retS_of rfl rfl rfl)
    | (refine DW.cond_tt rfl ?_)
    | (refine call_c (h1) (by decide) ?_)
    | (refine call_c (h2) (by decide) ?_)
    | (refine DW.cond_ff rfl ?_)
    | (refine DW.cond rfl ?_ ?_ <;> intro hc <;> (try simp only [go_sem] at hc))
    | (refine g_split ?_ ?_ <;> intro hc <;> (try simp only [hc]) <;> (try simp only [go_sem] at hc)))
  clear h1 h2
  refine DW.loop (ι := { a : Nat // a ≤ s.length + 1 }) (fun a => ⟨114, [(27, dI a.1), (26, dI ((s.length : Int) + 1)), (6, .box 6 0), (0, dIs b1 s), (1, dIs b2 t)], [(6, gridB (gridI s t a.1 0))]⟩) (fun a => s.length + 1 - a.1) ⟨0, Nat.zero_le _⟩ ?_ ?_
  · refine Ent.to ?_ ?_ <;> simp (disch := omega) only [wkT_cons, wkX_cons, wkT_nil, wkX_nil, get, Nat.reduceEqDiff, ↓reduceIte, ex_some, wk_self, wk_top, wk_nil, wkB_self, and_self, dI, i64_in, and_true, true_and, Int.natCast_add, Int.natCast_one, Int.ofNat_zero, Int.natCast_zero]
    all_goals first | exact ⟨.refl _, .refl _⟩ | exact .refl _ | (rw [hz]; exact .refl _)
  clear hz
  rintro ⟨a, ha⟩
  dsimp only
  by_cases hal : a ≤ s.length
  · have hda : decide ((a : Int) < (s.length : Int) + 1) = true := decide_eq_true (by omega)
    repeat' (first
    | (with_reducible first | refine DW.seq ?_ | refine DW.block ?_ | refine DW.skip ?_ | refine DW.exit ?_ | refine DW.ret ?_ | refine DW.reg ?_)
    | (refine DW.dreg rfl (WF.of ?_) ?_; first | rfl | skip)
    | (simp (disch := omega) only [go_sem, simprocAttr, Blk.men, Blk.keysIn, hda])
    | (exact retS_of rfl rfl rfl)
    | (refine DW.cond_tt rfl ?_)
    | (refine DW.cond_ff rfl ?_)
    | (refine DW.cond rfl ?_ ?_ <;> intro hc <;> (try simp only [go_sem] at hc))
    | (refine g_split ?_ ?_ <;> intro hc <;> (try simp only [hc]) <;> (try simp only [go_sem] at hc)))
    refine DW.loop (ι := { b : Nat // b ≤ t.length + 1 }) (fun b => ⟨114, [(33, dI b.1), (32, dI ((t.length : Int) + 1)), (27, dI a), (26, dI ((s.length : Int) + 1)), (7, dI a), (6, .box 6 0), (0, dIs b1 s), (1, dIs b2 t)], [(6, gridB (gridI s t a b.1))]⟩) (fun b => t.length + 1 - b.1) ⟨0, Nat.zero_le _⟩ ?_ ?_
    · refine Ent.to ?_ ?_ <;> simp (disch := omega) only [wkT_cons, wkX_cons, wkT_nil, wkX_nil, get, Nat.reduceEqDiff, ↓reduceIte, ex_some, wk_self, wk_top, wk_nil, wkB_self, and_self, dI, i64_in, and_true, true_and, Int.natCast_add, Int.natCast_one, Int.ofNat_zero, Int.natCast_zero]
      all_goals first | exact ⟨.refl _, .refl _⟩ | exact .refl _
    rintro ⟨b, hb⟩
    dsimp only
    by_cases hbl : b ≤ t.length
    · have hdb : decide ((b : Int) < (t.length : Int) + 1) = true := decide_eq_true (by omega)
      have hset := gridI_set (s := s) (t := t) (a := a) (b := b) (by omega) hbl l2
      have hlen := gridI_len s t a b
      rcases a with _ | a
      · have he0 : edI s t 0 b = (b : Int) * 500 := by rw [edI]
        have b11 := eq_true (show (b : Int) < 11 by omega)
        have hle := eq_true (show b + 1 ≤ 121 by omega)
        have hsp := splice (g := gridI s t 0 b) (off := b) ((b : Int) * 500) (by omega)
        rw [Nat.zero_mul, Nat.zero_add, he0] at hset
        rw [hset] at hsp
        repeat' (first
    | (with_reducible first | refine DW.seq ?_ | refine DW.block ?_ | refine DW.skip ?_ | refine DW.exit ?_ | refine DW.ret ?_ | refine DW.reg ?_)
    | (refine DW.dreg rfl (WF.of ?_) ?_; first | rfl | skip)
    | (simp (disch := omega) only [go_sem, simprocAttr, Blk.men, Blk.keysIn, hdb, hlen, List.length_map, b11, gridB, Nat.mul_one, hle, hsp])
    | (exact retS_of rfl rfl rfl)
    | (refine DW.cond_tt rfl ?_)
    | (refine DW.cond_ff rfl ?_)
    | (refine DW.cond rfl ?_ ?_ <;> intro hc <;> (try simp only [go_sem] at hc))
    | (refine g_split ?_ ?_ <;> intro hc <;> (try simp only [hc]) <;> (try simp only [go_sem] at hc)))
        refine ⟨⟨b + 1, by omega⟩, ?_, Ent.to ?_ ?_⟩ <;> first | (show _ < _; (try simp only); omega) | (simp (disch := omega) only [wkT_cons, wkX_cons, wkT_nil, wkX_nil, get, Nat.reduceEqDiff, ↓reduceIte, ex_some, wk_self, wk_top, wk_nil, wkB_self, and_self, dI, i64_in, and_true, true_and, Int.natCast_add, Int.natCast_one, Int.ofNat_zero, Int.natCast_zero])
        all_goals first | exact ⟨.refl _, .refl _⟩ | exact .refl _
      · have ha0 : (((a + 1 : Nat) : Int) == 0) = false := by rw [beq_eq_false_iff_ne]; omega
        rcases b with _ | b
        · have he0 : edI s t (a + 1) 0 = ((a + 1 : Nat) : Int) * 500 := by rw [edI]
          have a11 := eq_true (show ((a + 1 : Nat) : Int) < 11 by omega)
          have hle := eq_true (show (a + 1) * 11 + 1 ≤ 121 by omega)
          have hd0 : decide ((0 : Int) < (t.length : Int) + 1) = true := decide_eq_true (by omega)
          have hsp := splice (g := gridI s t (a + 1) 0) (off := (a + 1) * 11) (((a + 1 : Nat) : Int) * 500) (by omega)
          rw [he0] at hset
          have hset' : (gridI s t (a + 1) 0).set ((a + 1) * 11) (((a + 1 : Nat) : Int) * 500) = gridI s t (a + 1) 1 := hset
          rw [hset'] at hsp
          repeat' (first
    | (with_reducible first | refine DW.seq ?_ | refine DW.block ?_ | refine DW.skip ?_ | refine DW.exit ?_ | refine DW.ret ?_ | refine DW.reg ?_)
    | (refine DW.dreg rfl (WF.of ?_) ?_; first | rfl | skip)
    | (simp (disch := omega) only [go_sem, simprocAttr, Blk.men, Blk.keysIn, hd0, ha0, hlen, List.length_map, a11, gridB, hle, hsp])
    | (exact retS_of rfl rfl rfl)
    | (refine DW.cond_tt rfl ?_)
    | (refine DW.cond_ff rfl ?_)
    | (refine DW.cond rfl ?_ ?_ <;> intro hc <;> (try simp only [go_sem] at hc))
    | (refine g_split ?_ ?_ <;> intro hc <;> (try simp only [hc]) <;> (try simp only [go_sem] at hc)))
          refine ⟨⟨1, by omega⟩, ?_, Ent.to ?_ ?_⟩ <;> first | (show _ < _; (try simp only); omega) | (simp (disch := omega) only [wkT_cons, wkX_cons, wkT_nil, wkX_nil, get, Nat.reduceEqDiff, ↓reduceIte, ex_some, wk_self, wk_top, wk_nil, wkB_self, and_self, dI, i64_in, and_true, true_and, Int.natCast_add, Int.natCast_one, Int.ofNat_zero, Int.natCast_zero])
          all_goals first | exact ⟨.refl _, .refl _⟩ | exact .refl _
        · have hb0 : (((b + 1 : Nat) : Int) == 0) = false := by rw [beq_eq_false_iff_ne]; omega
          have a11 := eq_true (show ((a + 1 : Nat) : Int) < 11 by omega)
          have b11 := eq_true (show ((b + 1 : Nat) : Int) < 11 by omega)
          have a11' := eq_true (show (a : Int) < 11 by omega)
          have b11' := eq_true (show (b : Int) < 11 by omega)
          have ea : ((a + 1 : Nat) : Int) - 1 = (a : Int) := by omega
          have eb : ((b + 1 : Nat) : Int) - 1 = (b : Int) := by omega
          obtain ⟨x, hx⟩ := getE (l := s) (i := a) (by omega)
          obtain ⟨y, hy⟩ := getE (l := t) (i := b) (by omega)
          have hxb := hsb x (List.mem_of_getElem? hx)
          have hyb := htb y (List.mem_of_getElem? hy)
          have q1 := gridI_get (s := s) (t := t) (a := a + 1) (b := b + 1) (x := a) (y := b) (by omega) (by omega) l2 (.inl (by omega))
          have q2 := gridI_get (s := s) (t := t) (a := a + 1) (b := b + 1) (x := a) (y := b + 1) (by omega) (by omega) l2 (.inl (by omega))
          have q3 := gridI_get (s := s) (t := t) (a := a + 1) (b := b + 1) (x := a + 1) (y := b) (by omega) (by omega) l2 (.inr (by omega))
          have c1 := edI_b hsb htb a b
          have c2 := edI_b hsb htb a (b + 1)
          have c3 := edI_b hsb htb (a + 1) b
          have he := (show edI s t (a + 1) (b + 1) = _ by rw [edI])
          have ax : atI s a = x := by rw [atI, hx]; rfl
          have by' : atI t b = y := by rw [atI, hy]; rfl
          rw [ax, by'] at he
          have hmx : (if x < y then y else x) = max x y := by split <;> omega
          have hmn : (if y < x then y else x) = min x y := by split <;> omega
          have hw : IntKind.i64.wrap (max x y - min x y) = max x y - min x y := IntWalk.i64_in _ (by omega)
          have hD : 0 ≤ max x y - min x y ∧ max x y - min x y ≤ 3000 := by omega
          generalize edI s t a b = v1 at *
          generalize edI s t a (b + 1) = v2 at *
          generalize edI s t (a + 1) b = v3 at *
          generalize hDD : max x y - min x y = dd at *
          have hle := eq_true (show (a + 1) * 11 + (b + 1) + 1 ≤ 121 by omega)
          have hsp := splice (g := gridI s t (a + 1) (b + 1)) (off := (a + 1) * 11 + (b + 1)) (edI s t (a + 1) (b + 1)) (by omega)
          rw [hset, he] at hsp
          have hm3 : (if v3 + 500 < (if v2 + 500 < v1 + dd then v2 + 500 else v1 + dd) then v3 + 500 else (if v2 + 500 < v1 + dd then v2 + 500 else v1 + dd)) = min (min (v1 + dd) (v2 + 500)) (v3 + 500) := by
            clear hsp he hset
            split <;> (try split) <;> (try split at *) <;> omega
          repeat' (first
    | (with_reducible first | refine DW.seq ?_ | refine DW.block ?_ | refine DW.skip ?_ | refine DW.exit ?_ | refine DW.ret ?_ | refine DW.reg ?_)
    | (refine DW.dreg rfl (WF.of ?_) ?_; first | rfl | skip)
    | (simp (disch := omega) only [go_sem, simprocAttr, Blk.men, Blk.keysIn, hdb, ha0, hb0, hm3, hsp, keys_dI, hlen, List.length_map, List.getElem?_map, Nat.mul_one, a11, b11, a11', b11', ea, eb, hx, hy, q1, q2, q3, hmx, hmn, hw, hDD, gridB, hle, List.map_cons, List.map_nil])
    | (exact retS_of rfl rfl rfl)
    | (refine DW.cond_tt rfl ?_)
    | (refine DW.cond_ff rfl ?_)
    | (refine DW.cond rfl ?_ ?_ <;> intro hc <;> (try simp only [go_sem] at hc))
    | (refine g_split ?_ ?_ <;> intro hc <;> (try simp only [hc]) <;> (try simp only [go_sem] at hc)))
          refine ⟨⟨b + 1 + 1, by omega⟩, ?_, Ent.to ?_ ?_⟩ <;> first | (show _ < _; (try simp only); omega) | (simp (disch := omega) only [wkT_cons, wkX_cons, wkT_nil, wkX_nil, get, Nat.reduceEqDiff, ↓reduceIte, ex_some, wk_self, wk_top, wk_nil, wkB_self, and_self, dI, i64_in, and_true, true_and, Int.natCast_add, Int.natCast_one, Int.ofNat_zero, Int.natCast_zero])
          all_goals first | exact ⟨.refl _, .refl _⟩ | exact .refl _
    · have hdb : decide ((b : Int) < (t.length : Int) + 1) = false := decide_eq_false (by omega)
      have hbe : b = t.length + 1 := by omega
      subst hbe
      have hrow := gridI_row s t a l2
      repeat' (first
    | (with_reducible first | refine DW.seq ?_ | refine DW.block ?_ | refine DW.skip ?_ | refine DW.exit ?_ | refine DW.ret ?_ | refine DW.reg ?_)
    | (refine DW.dreg rfl (WF.of ?_) ?_; first | rfl | skip)
    | (simp (disch := omega) only [go_sem, simprocAttr, Blk.men, Blk.keysIn, hdb])
    | (exact retS_of rfl rfl rfl)
    | (refine DW.cond_tt rfl ?_)
    | (refine DW.cond_ff rfl ?_)
    | (refine DW.cond rfl ?_ ?_ <;> intro hc <;> (try simp only [go_sem] at hc))
    | (refine g_split ?_ ?_ <;> intro hc <;> (try simp only [hc]) <;> (try simp only [go_sem] at hc)))
      refine ⟨⟨a + 1, by omega⟩, ?_, Ent.to ?_ ?_⟩ <;> first | (show _ < _; (try simp only); omega) | (simp (disch := omega) only [wkT_cons, wkX_cons, wkT_nil, wkX_nil, get, Nat.reduceEqDiff, ↓reduceIte, ex_some, wk_self, wk_top, wk_nil, wkB_self, and_self, dI, i64_in, and_true, true_and, Int.natCast_add, Int.natCast_one, Int.ofNat_zero, Int.natCast_zero,  hrow])
      all_goals first | exact ⟨.refl _, .refl _⟩ | exact .refl _
  · have hda : decide ((a : Int) < (s.length : Int) + 1) = false := decide_eq_false (by omega)
    have hae : a = s.length + 1 := by omega
    subst hae
    have hg := gridI_get (s := s) (t := t) (a := s.length + 1) (b := 0) (x := s.length) (y := t.length) l1 (Nat.le_refl _) l2 (.inl (by omega))
    have s11 := eq_true (show (s.length : Int) < 11 by omega)
    have t11 := eq_true (show (t.length : Int) < 11 by omega)
    repeat' (first
    | (with_reducible first | refine DW.seq ?_ | refine DW.block ?_ | refine DW.skip ?_ | refine DW.exit ?_ | refine DW.ret ?_ | refine DW.reg ?_)
    | (refine DW.dreg rfl (WF.of ?_) ?_; first | rfl | skip)
    | (simp (disch := omega) only [go_sem, simprocAttr, Blk.men, Blk.keysIn, hda, List.getElem?_map, hg, s11, t11, gridB, Nat.mul_one])
    | (exact retS_of rfl rfl rfl)
    | (refine DW.cond_tt rfl ?_)
    | (refine DW.cond_ff rfl ?_)
    | (refine DW.cond rfl ?_ ?_ <;> intro hc <;> (try simp only [go_sem] at hc))
    | (refine g_split ?_ ?_ <;> intro hc <;> (try simp only [hc]) <;> (try simp only [go_sem] at hc)))
theorem trChangeX (b1 b2 : Bool) (s t : List Int) (hs : s.length ≤ 2 ^ 36) (ht : t.length ≤ 2 ^ 36) : DCall Try.prog 17 [dIs b1 s, dIs b2 t] [] (.tup [dI (chgI s t), dI (chgE s t)]) [] := by
  by_cases h : chgE s t = 0
  · rw [chgI, if_pos h, h]
    exact trChange b1 b2 s t h
  · rw [chgI, if_neg h]
    exact trChangeE b1 b2 s t hs ht h
end Go.Dw.Seat
end
section
set_option linter.unusedSimpArgs false
set_option maxRecDepth 100000
namespace Go.Dw.Seat
open Go Go.Dw Go.Proofs Go.IntWalk
def sheetsE (x m o : Int) : Int := if wthn 100 5000 [x] = false then 2 else if (wthn 0 30 [m] && wthn 0 20 [o]) = false then 3 else 0
def sheetsI (x m o : Int) : Int × Int := if sheetsE x m o = 0 then (Int.tdiv (m * 100000) (x + o), Int.tdiv (m * 100000) (x - o)) else (0, 0)
set_option maxHeartbeats 1000000 in
theorem trSheets (x m o : Int) : DCall Try.prog 38 [dI x, dI m, dI o] [] (.tup [.agg [dI (sheetsI x m o).1, dI (sheetsI x m o).2], dI (sheetsE x m o)]) [] := by
  have h1 := trWithin true 100 5000 [x] (by simp)
  have h2 := trWithin true 0 30 [m] (by simp)
  have h3 := trWithin true 0 20 [o] (by simp)
  cases e1 : wthn 100 5000 [x] <;> rw [e1] at h1
  · have hE : sheetsE x m o = 2 := if_pos e1
    rw [sheetsI, hE, if_neg (by decide)]
    refine DCall.of Try.func38 sf38 hb38 (Nat.le_of_ble_eq_true rfl) (okRes_nil fun _ => rfl) ?_; simp only [s38, idxs, Nat.reduceAdd]
    repeat' (first
    | (with_reducible first | refine DW.seq ?_ | refine DW.block ?_ | refine DW.skip ?_ | refine DW.exit ?_ | refine DW.ret ?_ | refine DW.reg ?_)
    | (refine DW.dreg rfl (WF.of ?_) ?_; first | rfl | skip)
    | (simp (disch := omega) only [go_sem, simprocAttr, Blk.men, Blk.keysIn])
    | (exact retS_of rfl rfl rfl)
    | (refine DW.cond_tt rfl ?_)
    | (refine call_c (h1) (by decide) ?_)
    | (refine DW.cond_ff rfl ?_)
    | (refine DW.cond rfl ?_ ?_ <;> intro hc <;> (try simp only [go_sem] at hc))
    | (refine g_split ?_ ?_ <;> intro hc <;> (try simp only [hc]) <;> (try simp only [go_sem] at hc)))
  cases e2 : wthn 0 30 [m] <;> rw [e2] at h2
  · have hE : sheetsE x m o = 3 := by unfold sheetsE; rw [e1, e2]; rfl
    rw [sheetsI, hE, if_neg (by decide)]
    refine DCall.of Try.func38 sf38 hb38 (Nat.le_of_ble_eq_true rfl) (okRes_nil fun _ => rfl) ?_; simp only [s38, idxs, Nat.reduceAdd]
    repeat' (first
    | (with_reducible first | refine DW.seq ?_ | refine DW.block ?_ | refine DW.skip ?_ | refine DW.exit ?_ | refine DW.ret ?_ | refine DW.reg ?_)
    | (refine DW.dreg rfl (WF.of ?_) ?_; first | rfl | skip)
    | (simp (disch := omega) only [go_sem, simprocAttr, Blk.men, Blk.keysIn])
    | (exact retS_of rfl rfl rfl)
    | (refine DW.cond_tt rfl ?_)
    | (refine call_c (h1) (by decide) ?_)
    | (refine call_c (h2) (by decide) ?_)
    | (refine DW.cond_ff rfl ?_)
    | (refine DW.cond rfl ?_ ?_ <;> intro hc <;> (try simp only [go_sem] at hc))
    | (refine g_split ?_ ?_ <;> intro hc <;> (try simp only [hc]) <;> (try simp only [go_sem] at hc)))
  cases e3 : wthn 0 20 [o] <;> rw [e3] at h3
  · have hE : sheetsE x m o = 3 := by unfold sheetsE; rw [e1, e2, e3]; rfl
    rw [sheetsI, hE, if_neg (by decide)]
    refine DCall.of Try.func38 sf38 hb38 (Nat.le_of_ble_eq_true rfl) (okRes_nil fun _ => rfl) ?_; simp only [s38, idxs, Nat.reduceAdd]
    repeat' (first
    | (with_reducible first | refine DW.seq ?_ | refine DW.block ?_ | refine DW.skip ?_ | refine DW.exit ?_ | refine DW.ret ?_ | refine DW.reg ?_)
    | (refine DW.dreg rfl (WF.of ?_) ?_; first | rfl | skip)
    | (simp (disch := omega) only [go_sem, simprocAttr, Blk.men, Blk.keysIn])
    | (exact retS_of rfl rfl rfl)
    | (refine DW.cond_tt rfl ?_)
    | (refine call_c (h1) (by decide) ?_)
    | (refine call_c (h2) (by decide) ?_)
    | (refine call_c (h3) (by decide) ?_)
    | (refine DW.cond_ff rfl ?_)
    | (refine DW.cond rfl ?_ ?_ <;> intro hc <;> (try simp only [go_sem] at hc))
    | (refine g_split ?_ ?_ <;> intro hc <;> (try simp only [hc]) <;> (try simp only [go_sem] at hc)))
  have hE : sheetsE x m o = 0 := by unfold sheetsE; rw [e1, e2, e3]; rfl
  have b1 := wthn_one e1
  have b2 := wthn_one e2
  have b3 := wthn_one e3
  have n1 : x + o ≠ 0 := by omega
  have n2 : x - o ≠ 0 := by omega
  have t1 : 0 ≤ Int.tdiv (m * 100000) (x + o) ∧ Int.tdiv (m * 100000) (x + o) ≤ 3000000 := by
    rw [Int.tdiv_eq_ediv_of_nonneg (by omega)]
    exact ⟨Int.ediv_nonneg (by omega) (by omega), Int.le_trans (Int.ediv_le_self _ (by omega)) (by omega)⟩
  have t2 : 0 ≤ Int.tdiv (m * 100000) (x - o) ∧ Int.tdiv (m * 100000) (x - o) ≤ 3000000 := by
    rw [Int.tdiv_eq_ediv_of_nonneg (by omega)]
    exact ⟨Int.ediv_nonneg (by omega) (by omega), Int.le_trans (Int.ediv_le_self _ (by omega)) (by omega)⟩
  rw [sheetsI, hE, if_pos rfl]
  have n1' := eq_false n1
  have n2' := eq_false n2
  generalize hu1 : Int.tdiv (m * 100000) (x + o) = u1 at *
  generalize hu2 : Int.tdiv (m * 100000) (x - o) = u2 at *
  refine DCall.of Try.func38 sf38 hb38 (Nat.le_of_ble_eq_true rfl) (okRes_nil fun _ => rfl) ?_; simp only [s38, idxs, Nat.reduceAdd]
  repeat' (first
    | (with_reducible first | refine DW.seq ?_ | refine DW.block ?_ | refine DW.skip ?_ | refine DW.exit ?_ | refine DW.ret ?_ | refine DW.reg ?_)
    | (refine DW.dreg rfl (WF.of ?_) ?_; first | rfl | skip)
    | (simp (disch := omega) only [go_sem, simprocAttr, Blk.men, Blk.keysIn, n1', n2', hu1, hu2])
    | (exact retS_of rfl rfl rfl)
    | (refine DW.cond_tt rfl ?_)
    | (refine call_c (h1) (by decide) ?_)
    | (refine call_c (h2) (by decide) ?_)
    | (refine call_c (h3) (by decide) ?_)
    | (refine DW.cond_ff rfl ?_)
    | (refine DW.cond rfl ?_ ?_ <;> intro hc <;> (try simp only [go_sem] at hc))
    | (refine g_split ?_ ?_ <;> intro hc <;> (try simp only [hc]) <;> (try simp only [go_sem] at hc)))
end Go.Dw.Seat
end
section
set_option linter.unusedSimpArgs false
set_option maxRecDepth 100000
namespace Go.Dw.Seat
open Go Go.Dw Go.Proofs Go.IntWalk
set_option maxHeartbeats 1000000 in
theorem reCopy (b : Bool) (q : List TStp) (hq : q.length ≤ 1000) (hw : ∀ s ∈ q, s.ws.length ≤ 2 ^ 36) : DCall Try.prog 60 [dSt b q] [] (dSt false q) [] := by
  refine DCall.of Try.func60 sf60 hb60 (Nat.le_of_ble_eq_true rfl) (okRes_nil fun _ => rfl) ?_; simp only [s60, o60_0, o60_1, o60_2, o60_3, o60_4, o60_5, o60_6, o60_7, o60_8, o60_9, o60_10, o60_11, o60_12, o60_13, o60_14, o60_15, o60_16, idxs, Nat.reduceAdd]
  repeat' (first
    | (with_reducible first | refine DW.seq ?_ | refine DW.block ?_ | refine DW.skip ?_ | refine DW.exit ?_ | refine DW.ret ?_ | refine DW.reg ?_)
    | (refine DW.ord rfl (WF.of (by first | rfl | simp (disch := omega) only [go_sem, simprocAttr, bm_box, bm_row, bk_box, bk_row])) ?_ ?_ ?_; rotate_left)
    | rfl
    | (with_reducible refine And.intro ?_ ?_)
    | (simp (disch := omega) only [go_sem, simprocAttr, bm_box, bm_row, bk_box, bk_row])
    | (exact retS_of rfl rfl rfl)
    | (refine DW.cond_tt rfl ?_)
    | (refine DW.cond_ff rfl ?_)
    | (refine DW.cond rfl ?_ ?_ <;> intro hc <;> (try simp only [go_sem] at hc))
    | (refine g_split ?_ ?_ <;> intro hc <;> (try simp only [hc]) <;> (try simp only [go_sem] at hc)))
  refine DW.loop (ι := { i : Nat // i ≤ q.length }) (fun i => ⟨29, [(4, dI i.1), (3, .own 5), (0, dSt b q)], [(5, .row 2 (rowC (rows eSt (q.take i.1))))]⟩) (fun i => q.length - i.1) ⟨0, Nat.zero_le _⟩ ?_ ?_
  · refine Ent.to ?_ ?_ <;> simp (disch := omega) only [wkT_cons, wkX_cons, wkT_nil, wkX_nil, get, Nat.reduceEqDiff, ↓reduceIte, ex_some, wk_self, wk_top, wk_nil, wkB_self, and_self, dI, i64_in, and_true, true_and, Int.natCast_add, Int.natCast_one, Int.ofNat_zero, Int.natCast_zero, List.take_zero]
    all_goals first | exact ⟨.refl _, .refl _⟩ | exact .refl _
  rintro ⟨i, hi⟩
  dsimp only
  rcases at_or q i hi with ⟨s, hs, hlt, hd⟩ | ⟨he, hd⟩
  · have hsw := hw s (List.mem_of_getElem? hs)
    have htk : q.take (i + 1) = q.take i ++ [s] := by rw [List.take_add_one, hs]; rfl
    have hlen : (q.take i).length ≤ 1000 := by rw [List.length_take]; omega
    generalize q.take i = Q at *
    repeat' (first
    | (with_reducible first | refine DW.seq ?_ | refine DW.block ?_ | refine DW.skip ?_ | refine DW.exit ?_ | refine DW.ret ?_ | refine DW.reg ?_)
    | (refine DW.ord rfl (WF.of (by first | rfl | simp (disch := omega) only [go_sem, simprocAttr, bm_box, bm_row, bk_box, bk_row, hd, hs, List.map_cons, List.map_nil])) ?_ ?_ ?_; rotate_left)
    | rfl
    | (with_reducible refine And.intro ?_ ?_)
    | (simp (disch := omega) only [go_sem, simprocAttr, bm_box, bm_row, bk_box, bk_row, hd, hs, List.map_cons, List.map_nil])
    | (exact retS_of rfl rfl rfl)
    | (refine DW.cond_tt rfl ?_)
    | (refine DW.cond_ff rfl ?_)
    | (refine DW.cond rfl ?_ ?_ <;> intro hc <;> (try simp only [go_sem] at hc))
    | (refine g_split ?_ ?_ <;> intro hc <;> (try simp only [hc]) <;> (try simp only [go_sem] at hc)))
    refine ⟨⟨i + 1, hlt⟩, by (show _ < _; (try simp only); omega), (Ent.rel 13 rfl).trans ?_⟩; simp (disch := omega) only [go_sem, simprocAttr, bm_box, bm_row, bk_box, bk_row,  htk, rowC_snocS]; refine Ent.to ?_ ?_ <;> (simp (disch := omega) only [wkT_cons, wkX_cons, wkT_nil, wkX_nil, get, Nat.reduceEqDiff, ↓reduceIte, ex_some, wk_self, wk_top, wk_nil, wkB_self, and_self, dI, i64_in, and_true, true_and, Int.natCast_add, Int.natCast_one, Int.ofNat_zero, Int.natCast_zero,  htk, rowC_snocS])
    all_goals first | exact ⟨.refl _, .refl _⟩ | exact .refl _ | skip
  · subst he
    rw [List.take_length]
    repeat' (first
    | (with_reducible first | refine DW.seq ?_ | refine DW.block ?_ | refine DW.skip ?_ | refine DW.exit ?_ | refine DW.ret ?_ | refine DW.reg ?_)
    | (refine DW.ord rfl (WF.of (by first | rfl | simp (disch := omega) only [go_sem, simprocAttr, bm_box, bm_row, bk_box, bk_row, hd])) ?_ ?_ ?_; rotate_left)
    | rfl
    | (with_reducible refine And.intro ?_ ?_)
    | (simp (disch := omega) only [go_sem, simprocAttr, bm_box, bm_row, bk_box, bk_row, hd])
    | (exact retS_of rfl rfl rfl)
    | (refine DW.cond_tt rfl ?_)
    | (refine DW.cond_ff rfl ?_)
    | (refine DW.cond rfl ?_ ?_ <;> intro hc <;> (try simp only [go_sem] at hc))
    | (refine g_split ?_ ?_ <;> intro hc <;> (try simp only [hc]) <;> (try simp only [go_sem] at hc)))
    (refine retS_ent (Ent.rel 5 rfl) ?_; simp (disch := omega) only [go_sem, simprocAttr, bm_box, bm_row, bk_box, bk_row])
    refine retS_wk rfl ?_ (by simp only [Blk.nb, rowC_nb, D.nb, D.nbs, C.nb, C.nbs, C.nbss, rows_nb eI_nb, Bool.and_true, Bool.not_false, Bool.and_self, bD, dI, iD, rows_nb eO_nb, rows_nb eSt_nb, rows_nb eWs_nb]); exact .refl _
end Go.Dw.Seat
end
section
set_option linter.unusedSimpArgs false
set_option maxRecDepth 100000
namespace Go.Dw.Seat
open Go Go.Dw Go.Proofs Go.IntWalk
theorem laSpan (a b : Int) : DCall Try.prog 41 [dI a, dI b] [] (.agg [dI a, dI b]) [] := by
  refine DCall.of Try.func41 sf41 hb41 (Nat.le_of_ble_eq_true rfl) (okRes_nil fun _ => rfl) ?_; simp only [s41, idxs, Nat.reduceAdd]
  repeat' (first
    | (with_reducible first | refine DW.seq ?_ | refine DW.block ?_ | refine DW.skip ?_ | refine DW.exit ?_ | refine DW.ret ?_ | refine DW.reg ?_)
    | (simp (disch := omega) only [go_sem, simprocAttr, bm_box, bm_row, bk_box, bk_row])
    | (exact retS_of rfl rfl rfl)
    | (refine DW.cond_tt rfl ?_)
    | (refine DW.cond_ff rfl ?_)
    | (refine DW.cond rfl ?_ ?_ <;> intro hc <;> (try simp only [go_sem] at hc))
    | (refine g_split ?_ ?_ <;> intro hc <;> (try simp only [hc]) <;> (try simp only [go_sem] at hc)))
def exP (m : Int) : TPap := ⟨2500, 20, m, 4⟩
def exO : List TOrd := [⟨800, 10, 12⟩, ⟨700, 8, 9⟩, ⟨1200, 4, 4⟩]
theorem laPaper (m : Int) : DCall Try.prog 56 [dI m] [] (papD (exP m)) [] := by
  refine DCall.of Try.func56 sf56 hb56 (Nat.le_of_ble_eq_true rfl) (okRes_nil fun _ => rfl) ?_; simp only [s56, idxs, Nat.reduceAdd]
  repeat' (first
    | (with_reducible first | refine DW.seq ?_ | refine DW.block ?_ | refine DW.skip ?_ | refine DW.exit ?_ | refine DW.ret ?_ | refine DW.reg ?_)
    | (simp (disch := omega) only [go_sem, simprocAttr, bm_box, bm_row, bk_box, bk_row, exP])
    | (exact retS_of rfl rfl rfl)
    | (refine DW.cond_tt rfl ?_)
    | (refine DW.cond_ff rfl ?_)
    | (refine DW.cond rfl ?_ ?_ <;> intro hc <;> (try simp only [go_sem] at hc))
    | (refine g_split ?_ ?_ <;> intro hc <;> (try simp only [hc]) <;> (try simp only [go_sem] at hc)))
theorem laOrders : DCall Try.prog 57 [] [] (.c (.sl false 3 (rows eO exO))) [] := by
  have h1 := laSpan 10 12
  have h2 := laSpan 8 9
  have h3 := laSpan 4 4
  refine DCall.of Try.func57 sf57 hb57 (Nat.le_of_ble_eq_true rfl) (okRes_nil fun _ => rfl) ?_; simp only [s57, idxs, Nat.reduceAdd]
  repeat' (first
    | (with_reducible first | refine DW.seq ?_ | refine DW.block ?_ | refine DW.skip ?_ | refine DW.exit ?_ | refine DW.ret ?_ | refine DW.reg ?_)
    | (refine DW.ord rfl (WF.of (by first | rfl | simp (disch := omega) only [go_sem, simprocAttr, bm_box, bm_row, bk_box, bk_row])) ?_ ?_ ?_; rotate_left)
    | rfl
    | (with_reducible refine And.intro ?_ ?_)
    | (simp (disch := omega) only [go_sem, simprocAttr, bm_box, bm_row, bk_box, bk_row])
    | (exact retS_of rfl rfl rfl)
    | (refine DW.cond_tt rfl ?_)
    | (refine call_c (h1) (by decide) ?_)
    | (refine call_c (h2) (by decide) ?_)
    | (refine call_c (h3) (by decide) ?_)
    | (refine DW.cond_ff rfl ?_)
    | (refine DW.cond rfl ?_ ?_ <;> intro hc <;> (try simp only [go_sem] at hc))
    | (refine g_split ?_ ?_ <;> intro hc <;> (try simp only [hc]) <;> (try simp only [go_sem] at hc)))
  (refine retS_ent (Ent.rel 7 rfl) ?_; simp (disch := omega) only [go_sem, simprocAttr, bm_box, bm_row, bk_box, bk_row])
  refine retS_wk rfl ?_ (by simp only [Blk.nb, rowC_nb, D.nb, D.nbs, C.nb, C.nbs, C.nbss, rows_nb eI_nb, Bool.and_true, Bool.not_false, Bool.and_self, bD, dI, iD, rows_nb eO_nb, rows_nb eSt_nb, rows_nb eWs_nb]); exact .refl _
theorem laSetup (r : Int) (ws : List Int) : DCall Try.prog 58 [dI r, dIs false ws] [] (.agg [dIs false ws, dI r]) [] := by
  refine DCall.of Try.func58 sf58 hb58 (Nat.le_of_ble_eq_true rfl) (okRes_nil fun _ => rfl) ?_; simp only [s58, idxs, Nat.reduceAdd]
  repeat' (first
    | (with_reducible first | refine DW.seq ?_ | refine DW.block ?_ | refine DW.skip ?_ | refine DW.exit ?_ | refine DW.ret ?_ | refine DW.reg ?_)
    | (simp (disch := omega) only [go_sem, simprocAttr, bm_box, bm_row, bk_box, bk_row])
    | (exact retS_of rfl rfl rfl)
    | (refine DW.cond_tt rfl ?_)
    | (refine DW.cond_ff rfl ?_)
    | (refine DW.cond rfl ?_ ?_ <;> intro hc <;> (try simp only [go_sem] at hc))
    | (refine g_split ?_ ?_ <;> intro hc <;> (try simp only [hc]) <;> (try simp only [go_sem] at hc)))
  refine retS_wk rfl ?_ (by simp only [Blk.nb, rowC_nb, D.nb, D.nbs, C.nb, C.nbs, C.nbss, rows_nb eI_nb, Bool.and_true, Bool.not_false, Bool.and_self, bD, dI, iD, rows_nb eO_nb, rows_nb eSt_nb, rows_nb eWs_nb]); exact .refl _
theorem laOwn (b : Bool) (l : List TOrd) (hl : l.length ≤ 2 ^ 36) : DCall Try.prog 22 [.c (.sl b 3 (rows eO l))] [] (.c (.sl false 3 (rows eO l))) [] := by
  refine DCall.of Try.func22 sf22 hb22 (Nat.le_of_ble_eq_true rfl) (okRes_nil fun _ => rfl) ?_; simp only [s22, idxs, Nat.reduceAdd]
  repeat' (first
    | (with_reducible first | refine DW.seq ?_ | refine DW.block ?_ | refine DW.skip ?_ | refine DW.exit ?_ | refine DW.ret ?_ | refine DW.reg ?_)
    | (simp (disch := omega) only [go_sem, simprocAttr, bm_box, bm_row, bk_box, bk_row])
    | (exact retS_of rfl rfl rfl)
    | (refine DW.cond_tt rfl ?_)
    | (refine DW.cond_ff rfl ?_)
    | (refine DW.cond rfl ?_ ?_ <;> intro hc <;> (try simp only [go_sem] at hc))
    | (refine g_split ?_ ?_ <;> intro hc <;> (try simp only [hc]) <;> (try simp only [go_sem] at hc)))
  (refine retS_ent (Ent.rel 3 rfl) ?_; simp (disch := omega) only [go_sem, simprocAttr, bm_box, bm_row, bk_box, bk_row])
  refine retS_wk rfl ?_ (by simp only [Blk.nb, rowC_nb, D.nb, D.nbs, C.nb, C.nbs, C.nbss, rows_nb eI_nb, Bool.and_true, Bool.not_false, Bool.and_self, bD, dI, iD, rows_nb eO_nb, rows_nb eSt_nb, rows_nb eWs_nb]); exact .refl _
theorem laPlans (b : Bool) (q : List TStp) (hq : q.length ≤ 1000) (hw : ∀ s ∈ q, s.ws.length ≤ 2 ^ 36) : DCall Try.prog 23 [dSt b q] [] (dSt false q) [] := by
  have h1 := reCopy b q hq hw
  refine DCall.of Try.func23 sf23 hb23 (Nat.le_of_ble_eq_true rfl) (okRes_nil fun _ => rfl) ?_; simp only [s23, idxs, Nat.reduceAdd]
  repeat' (first
    | (with_reducible first | refine DW.seq ?_ | refine DW.block ?_ | refine DW.skip ?_ | refine DW.exit ?_ | refine DW.ret ?_ | refine DW.reg ?_)
    | (simp (disch := omega) only [go_sem, simprocAttr, bm_box, bm_row, bk_box, bk_row])
    | (exact retS_of rfl rfl rfl)
    | (refine DW.cond_tt rfl ?_)
    | (refine call_c (h1) (by decide) ?_)
    | (refine DW.cond_ff rfl ?_)
    | (refine DW.cond rfl ?_ ?_ <;> intro hc <;> (try simp only [go_sem] at hc))
    | (refine g_split ?_ ?_ <;> intro hc <;> (try simp only [hc]) <;> (try simp only [go_sem] at hc)))
  refine retS_wk rfl ?_ (by simp only [Blk.nb, rowC_nb, D.nb, D.nbs, C.nb, C.nbs, C.nbss, rows_nb eI_nb, Bool.and_true, Bool.not_false, Bool.and_self, bD, dI, iD, rows_nb eO_nb, rows_nb eSt_nb, rows_nb eWs_nb]); exact .refl _
end Go.Dw.Seat
end
section
set_option linter.unusedSimpArgs false
set_option maxRecDepth 100000
namespace Go.Dw.Seat
open Go Go.Dw Go.Proofs Go.IntWalk
theorem planF_ok {p : TPap} (hp : p.ok) {l : List TOrd} (hl : ∀ o ∈ l, o.ok) {q : List TStp} {w : Int} (h : planF p l = some (q, w)) : PlanOk p l q ∧ w = wasteF p l q := by
  have := plan_spec hp hl
  rw [h] at this
  exact ⟨this.1, this.2.1⟩
theorem plan_len {p : TPap} {l : List TOrd} {q : List TStp} (h : PlanOk p l q) : q.length ≤ 3 := h.len
def planX (p : TPap) (l : List TOrd) : D := if openE p l = 0 then (match planF p l with
  | some x => .tup [dSt false x.1, dI 0]
  | none => .tup [.c (.v (.slice none 0 0)), dI 9]) else .tup [.c (.v (.slice none 0 0)), dI (openE p l)]
set_option maxHeartbeats 1000000 in
theorem trPlanX (p : TPap) (l : List TOrd) (hl : l.length ≤ 2 ^ 36) : DCall Try.prog 31 [papD p, .c (.sl false 3 (rows eO l))] [] (planX p l) [] := by
  unfold planX
  by_cases h : openE p l = 0
  · obtain ⟨hp, hl4, ho⟩ := openE_ok h
    have h1 := trOpen p l h
    have h2 := trPlanM p hp l hl4 ho
    rw [if_pos h]
    cases hR : planF p l with
    | none =>
      rw [hR] at h2
      simp only [planD] at h2
      refine DCall.of Try.func31 sf31 hb31 (Nat.le_of_ble_eq_true rfl) (okRes_nil fun _ => rfl) ?_; simp only [s31, idxs, Nat.reduceAdd]
      repeat' (first
    | (with_reducible first | refine DW.seq ?_ | refine DW.block ?_ | refine DW.skip ?_ | refine DW.exit ?_ | refine DW.ret ?_ | refine DW.reg ?_)
    | (simp (disch := omega) only [go_sem, simprocAttr, bm_box, bm_row, bk_box, bk_row])
    | (exact retS_of rfl rfl rfl)
    | (refine DW.cond_tt rfl ?_)
    | (refine call_c (h1) (by decide) ?_)
    | (refine call_c (h2) (by decide) ?_)
    | (refine DW.cond_ff rfl ?_)
    | (refine DW.cond rfl ?_ ?_ <;> intro hc <;> (try simp only [go_sem] at hc))
    | (refine g_split ?_ ?_ <;> intro hc <;> (try simp only [hc]) <;> (try simp only [go_sem] at hc)))
    | some x =>
      obtain ⟨q, w⟩ := x
      have hq := planF_ok hp ho hR
      have hws := plan_ws hq.1
      have h3 := trOwn false q (by have := plan_len hq.1; omega) (fun s hs => by have := (hws s hs).1.len; omega)
      rw [hR] at h2
      simp only [planD] at h2
      refine DCall.of Try.func31 sf31 hb31 (Nat.le_of_ble_eq_true rfl) (okRes_nil fun _ => rfl) ?_; simp only [s31, idxs, Nat.reduceAdd]
      repeat' (first
    | (with_reducible first | refine DW.seq ?_ | refine DW.block ?_ | refine DW.skip ?_ | refine DW.exit ?_ | refine DW.ret ?_ | refine DW.reg ?_)
    | (simp (disch := omega) only [go_sem, simprocAttr, bm_box, bm_row, bk_box, bk_row])
    | (exact retS_of rfl rfl rfl)
    | (refine DW.cond_tt rfl ?_)
    | (refine call_c (h1) (by decide) ?_)
    | (refine call_c (h2) (by decide) ?_)
    | (refine call_c (h3) (by decide) ?_)
    | (refine DW.cond_ff rfl ?_)
    | (refine DW.cond rfl ?_ ?_ <;> intro hc <;> (try simp only [go_sem] at hc))
    | (refine g_split ?_ ?_ <;> intro hc <;> (try simp only [hc]) <;> (try simp only [go_sem] at hc)))
      refine retS_wk rfl ?_ (by simp only [Blk.nb, rowC_nb, D.nb, D.nbs, C.nb, C.nbs, C.nbss, rows_nb eI_nb, Bool.and_true, Bool.not_false, Bool.and_self, bD, dI, iD, rows_nb eO_nb, rows_nb eSt_nb, rows_nb eWs_nb]); exact .refl _
  · have h1 := trOpenE false p l hl h
    rw [if_neg h]
    generalize openE p l = e at *
    have hd : (e != 0) = true := by simpa using h
    refine DCall.of Try.func31 sf31 hb31 (Nat.le_of_ble_eq_true rfl) (okRes_nil fun _ => rfl) ?_; simp only [s31, idxs, Nat.reduceAdd]
    repeat' (first
    | (with_reducible first | refine DW.seq ?_ | refine DW.block ?_ | refine DW.skip ?_ | refine DW.exit ?_ | refine DW.ret ?_ | refine DW.reg ?_)
    | (simp (disch := omega) only [go_sem, simprocAttr, bm_box, bm_row, bk_box, bk_row, hd])
    | (exact retS_of rfl rfl rfl)
    | (refine DW.cond_tt rfl ?_)
    | (refine call_c (h1) (by decide) ?_)
    | (refine DW.cond_ff rfl ?_)
    | (refine DW.cond rfl ?_ ?_ <;> intro hc <;> (try simp only [go_sem] at hc))
    | (refine g_split ?_ ?_ <;> intro hc <;> (try simp only [hc]) <;> (try simp only [go_sem] at hc)))
def orL : List Int → Int
  | [] => 0
  | a :: l => if a ≠ 0 then a else orL l
theorem crOrL (bw : Bool) (l : List Int) (hl : l.length ≤ 2 ^ 36) : DCall Try.prog 72 [dIs bw l] [] (dI (orL l)) [] := by
  generalize hR : orL l = R
  refine DCall.of Try.func72 sf72 hb72 (Nat.le_of_ble_eq_true rfl) (okRes_nil fun _ => rfl) ?_; simp only [s72, idxs, Nat.reduceAdd]
  repeat' (first
    | (with_reducible first | refine DW.seq ?_ | refine DW.block ?_ | refine DW.skip ?_ | refine DW.exit ?_ | refine DW.ret ?_ | refine DW.reg ?_)
    | (simp (disch := omega) only [go_sem, simprocAttr, bm_box, bm_row, bk_box, bk_row])
    | (exact retS_of rfl rfl rfl)
    | (refine DW.cond_tt rfl ?_)
    | (refine DW.cond_ff rfl ?_)
    | (refine DW.cond rfl ?_ ?_ <;> intro hc <;> (try simp only [go_sem] at hc))
    | (refine g_split ?_ ?_ <;> intro hc <;> (try simp only [hc]) <;> (try simp only [go_sem] at hc)))
  refine DW.loop (ι := { i : Nat // i ≤ l.length ∧ orL (l.drop i) = R }) (fun i => ⟨18, [(8, dI i.1), (7, dI l.length), (6, dIs bw l), (3, dI 0)], []⟩) (fun i => l.length - i.1) ⟨0, Nat.zero_le _, hR⟩ ?_ ?_
  · refine Ent.to ?_ ?_ <;> simp (disch := omega) only [wkT_cons, wkX_cons, wkT_nil, wkX_nil, get, Nat.reduceEqDiff, ↓reduceIte, ex_some, wk_self, wk_top, wk_nil, wkB_self, and_self, dI, i64_in, and_true, true_and, Int.natCast_add, Int.natCast_one, Int.ofNat_zero, Int.natCast_zero]
    all_goals exact .refl _
  rintro ⟨i, hi, ho⟩
  dsimp only
  rcases at_or l i hi with ⟨v, hv, hlt, hd⟩ | ⟨he, hd⟩
  · have hdr : l.drop i = v :: l.drop (i + 1) := by rw [List.drop_eq_getElem_cons hlt, (List.getElem_eq_iff hlt).2 hv]
    rw [hdr, orL] at ho
    by_cases h0 : v = 0
    · have e : (v != 0) = false := by rw [h0]; rfl
      rw [if_neg (by simpa using h0)] at ho
      repeat' (first
    | (with_reducible first | refine DW.seq ?_ | refine DW.block ?_ | refine DW.skip ?_ | refine DW.exit ?_ | refine DW.ret ?_ | refine DW.reg ?_)
    | (simp (disch := omega) only [go_sem, simprocAttr, bm_box, bm_row, bk_box, bk_row, hd, hv, e, List.map_cons, List.map_nil])
    | (exact retS_of rfl rfl rfl)
    | (refine DW.cond_tt rfl ?_)
    | (refine DW.cond_ff rfl ?_)
    | (refine DW.cond rfl ?_ ?_ <;> intro hc <;> (try simp only [go_sem] at hc))
    | (refine g_split ?_ ?_ <;> intro hc <;> (try simp only [hc]) <;> (try simp only [go_sem] at hc)))
      refine ⟨⟨i + 1, hlt, ho⟩, ?_, Ent.to ?_ ?_⟩ <;> first | (show _ < _; (try simp only); omega) | (simp (disch := omega) only [wkT_cons, wkX_cons, wkT_nil, wkX_nil, get, Nat.reduceEqDiff, ↓reduceIte, ex_some, wk_self, wk_top, wk_nil, wkB_self, and_self, dI, i64_in, and_true, true_and, Int.natCast_add, Int.natCast_one, Int.ofNat_zero, Int.natCast_zero])
    · have e : (v != 0) = true := by simpa using h0
      rw [if_pos h0] at ho
      subst ho
      repeat' (first
    | (with_reducible first | refine DW.seq ?_ | refine DW.block ?_ | refine DW.skip ?_ | refine DW.exit ?_ | refine DW.ret ?_ | refine DW.reg ?_)
    | (simp (disch := omega) only [go_sem, simprocAttr, bm_box, bm_row, bk_box, bk_row, hd, hv, e, List.map_cons, List.map_nil])
    | (exact retS_of rfl rfl rfl)
    | (refine DW.cond_tt rfl ?_)
    | (refine DW.cond_ff rfl ?_)
    | (refine DW.cond rfl ?_ ?_ <;> intro hc <;> (try simp only [go_sem] at hc))
    | (refine g_split ?_ ?_ <;> intro hc <;> (try simp only [hc]) <;> (try simp only [go_sem] at hc)))
  · rw [List.drop_eq_nil_of_le (by omega), orL] at ho
    subst ho
    repeat' (first
    | (with_reducible first | refine DW.seq ?_ | refine DW.block ?_ | refine DW.skip ?_ | refine DW.exit ?_ | refine DW.ret ?_ | refine DW.reg ?_)
    | (simp (disch := omega) only [go_sem, simprocAttr, bm_box, bm_row, bk_box, bk_row, hd])
    | (exact retS_of rfl rfl rfl)
    | (refine DW.cond_tt rfl ?_)
    | (refine DW.cond_ff rfl ?_)
    | (refine DW.cond rfl ?_ ?_ <;> intro hc <;> (try simp only [go_sem] at hc))
    | (refine g_split ?_ ?_ <;> intro hc <;> (try simp only [hc]) <;> (try simp only [go_sem] at hc)))
structure TOff where
  paper : Int
  setups : Int
  waste : Int
def eOf (o : TOff) : List C := [.v (.int .i64 o.paper), .v (.int .i64 o.setups), .v (.int .i64 o.waste)]
theorem eOf_nb (v : TOff) : C.nbs (eOf v) = true := rfl
attribute [go_sem] eOf
def TOff.ok (o : TOff) : Prop := (0 ≤ o.paper ∧ o.paper ≤ 1000000000) ∧ (0 ≤ o.setups ∧ o.setups ≤ 1000000000) ∧ 0 ≤ o.waste ∧ o.waste ≤ 1000000000
def cmpO (a b : TOff) : Int := orL [a.setups - b.setups, a.waste - b.waste, a.paper - b.paper]
theorem trChoose1 (a b : TOff) (ha : a.ok) (hb : b.ok) : DCall Try.prog 71 [.agg ((eOf a).map D.c), .agg ((eOf b).map D.c)] [] (dI (cmpO a b)) [] := by
  obtain ⟨a1, a2, a3⟩ := ha
  obtain ⟨b1, b2, b3⟩ := hb
  have h1 := crOrL true [a.setups - b.setups, a.waste - b.waste, a.paper - b.paper] (by simp)
  unfold cmpO
  refine DCall.of Try.func71 sf71 hb71 (Nat.le_of_ble_eq_true rfl) (okRes_nil fun _ => rfl) ?_; simp only [s71, idxs, Nat.reduceAdd]
  repeat' (first
    | (with_reducible first | refine DW.seq ?_ | refine DW.block ?_ | refine DW.skip ?_ | refine DW.exit ?_ | refine DW.ret ?_ | refine DW.reg ?_)
    | (simp (disch := omega) only [go_sem, simprocAttr, bm_box, bm_row, bk_box, bk_row, List.map_cons, List.map_nil])
    | (exact retS_of rfl rfl rfl)
    | (refine DW.cond_tt rfl ?_)
    | (refine call_c (h1) (by decide) ?_)
    | (refine DW.cond_ff rfl ?_)
    | (refine DW.cond rfl ?_ ?_ <;> intro hc <;> (try simp only [go_sem] at hc))
    | (refine g_split ?_ ?_ <;> intro hc <;> (try simp only [hc]) <;> (try simp only [go_sem] at hc)))
def minBy {α : Type} (c : α → α → Int) : α → List α → α
  | m, [] => m
  | m, x :: l => minBy c (if c x m < 0 then x else m) l
set_option maxHeartbeats 1000000 in
theorem trMinO (b : Bool) (x : TOff) (l : List TOff) (hl : l.length ≤ 2 ^ 30) (g : FuncId) (hg : ∀ u ∈ x :: l, ∀ v ∈ x :: l, DCall Try.prog g [.agg ((eOf u).map D.c), .agg ((eOf v).map D.c)] [] (dI (cmpO u v)) []) : DCall Try.prog 70 [.c (.sl b 3 (rows eOf (x :: l))), .c (.fn (.func g) [] [])] [] (.agg ((eOf (minBy cmpO x l)).map D.c)) [] := by
  obtain ⟨L, hL⟩ : ∃ L, L = x :: l := ⟨_, rfl⟩
  have hx : L[0]? = some x := by rw [hL]; rfl
  have hxm : x ∈ L := by rw [hL]; simp
  have hLl : L.length = l.length + 1 := by rw [hL]; rfl
  have h1d : L.drop 1 = l := by rw [hL]; rfl
  rw [← hL] at hg ⊢
  have hd1 : decide ((L.length : Int) < 1) = false := decide_eq_false (by omega)
  have hd0 : decide ((0 : Int) < (L.length : Int)) = true := decide_eq_true (by omega)
  generalize hR : minBy cmpO x l = R
  refine DCall.of Try.func70 sf70 hb70 (Nat.le_of_ble_eq_true rfl) (okRes_nil fun _ => rfl) ?_; simp only [s70, idxs, Nat.reduceAdd]
  repeat' (first
    | (with_reducible first | refine DW.seq ?_ | refine DW.block ?_ | refine DW.skip ?_ | refine DW.exit ?_ | refine DW.ret ?_ | refine DW.reg ?_)
    | (refine DW.dreg rfl (WF.of ?_) ?_; first | rfl | skip)
    | (simp (disch := omega) only [go_sem, simprocAttr, bm_box, bm_row, bk_box, bk_row, hd1, hd0, hx, List.map_cons, List.map_nil])
    | (exact retS_of rfl rfl rfl)
    | (refine DW.cond_tt rfl ?_)
    | (refine DW.cond_ff rfl ?_)
    | (refine DW.cond rfl ?_ ?_ <;> intro hc <;> (try simp only [go_sem] at hc))
    | (refine g_split ?_ ?_ <;> intro hc <;> (try simp only [hc]) <;> (try simp only [go_sem] at hc)))
  refine DW.loop (ι := { y : Nat × TOff // y.1 ≤ L.length ∧ y.2 ∈ L ∧ minBy cmpO y.2 (L.drop y.1) = R }) (fun y => ⟨33, [(6, dI y.1.1), (5, .box 5 0), (4, .box 4 0), (0, .c (.sl b 3 (rows eOf L))), (1, .c (.fn (.func g) [] []))], [(5, .box [dI y.1.2.paper, dI y.1.2.setups, dI y.1.2.waste]), (4, .box [dI 0, dI 0, dI 0])]⟩) (fun y => L.length - y.1.1) ⟨(1, x), by dsimp only; omega, hxm, by rw [h1d]; exact hR⟩ ?_ ?_
  · refine Ent.to ?_ ?_ <;> simp (disch := omega) only [wkT_cons, wkX_cons, wkT_nil, wkX_nil, get, Nat.reduceEqDiff, ↓reduceIte, ex_some, wk_self, wk_top, wk_nil, wkB_self, and_self, dI, i64_in, and_true, true_and, Int.natCast_add, Int.natCast_one, Int.ofNat_zero, Int.natCast_zero]
    all_goals first | exact ⟨.refl _, .refl _⟩ | exact .refl _
  rintro ⟨⟨i, m⟩, hi, hm, hr⟩
  dsimp only at hi hm hr ⊢
  rcases at_or L i hi with ⟨v, hv, hlt, hd⟩ | ⟨he, hd⟩
  · have hdr : L.drop i = v :: L.drop (i + 1) := by rw [List.drop_eq_getElem_cons hlt, (List.getElem_eq_iff hlt).2 hv]
    have hvm := List.mem_of_getElem? hv
    have hcall := hg v hvm m hm
    rw [hdr, minBy] at hr
    generalize cmpO v m = c at *
    by_cases hc : c < 0
    · have hdc : decide (c < 0) = true := decide_eq_true hc
      rw [if_pos hc] at hr
      repeat' (first
    | (with_reducible first | refine DW.seq ?_ | refine DW.block ?_ | refine DW.skip ?_ | refine DW.exit ?_ | refine DW.ret ?_ | refine DW.reg ?_)
    | (refine DW.dreg rfl (WF.of ?_) ?_; first | rfl | skip)
    | (simp (disch := omega) only [go_sem, simprocAttr, bm_box, bm_row, bk_box, bk_row, hd, hv, hdc, closeDs_fn, List.map_cons, List.map_nil])
    | (exact retS_of rfl rfl rfl)
    | (refine DW.cond_tt rfl ?_)
    | (refine call_c (hcall) (by decide) ?_)
    | (refine DW.cond_ff rfl ?_)
    | (refine DW.cond rfl ?_ ?_ <;> intro hc <;> (try simp only [go_sem] at hc))
    | (refine g_split ?_ ?_ <;> intro hc <;> (try simp only [hc]) <;> (try simp only [go_sem] at hc)))
      refine ⟨⟨(i + 1, v), hlt, hvm, hr⟩, ?_, Ent.to ?_ ?_⟩ <;> first | (show _ < _; (try simp only); omega) | (simp (disch := omega) only [wkT_cons, wkX_cons, wkT_nil, wkX_nil, get, Nat.reduceEqDiff, ↓reduceIte, ex_some, wk_self, wk_top, wk_nil, wkB_self, and_self, dI, i64_in, and_true, true_and, Int.natCast_add, Int.natCast_one, Int.ofNat_zero, Int.natCast_zero])
      all_goals first | exact ⟨.refl _, .refl _⟩ | exact .refl _
    · have hdc : decide (c < 0) = false := decide_eq_false hc
      rw [if_neg hc] at hr
      repeat' (first
    | (with_reducible first | refine DW.seq ?_ | refine DW.block ?_ | refine DW.skip ?_ | refine DW.exit ?_ | refine DW.ret ?_ | refine DW.reg ?_)
    | (refine DW.dreg rfl (WF.of ?_) ?_; first | rfl | skip)
    | (simp (disch := omega) only [go_sem, simprocAttr, bm_box, bm_row, bk_box, bk_row, hd, hv, hdc, closeDs_fn, List.map_cons, List.map_nil])
    | (exact retS_of rfl rfl rfl)
    | (refine DW.cond_tt rfl ?_)
    | (refine call_c (hcall) (by decide) ?_)
    | (refine DW.cond_ff rfl ?_)
    | (refine DW.cond rfl ?_ ?_ <;> intro hc <;> (try simp only [go_sem] at hc))
    | (refine g_split ?_ ?_ <;> intro hc <;> (try simp only [hc]) <;> (try simp only [go_sem] at hc)))
      refine ⟨⟨(i + 1, m), hlt, hm, hr⟩, ?_, Ent.to ?_ ?_⟩ <;> first | (show _ < _; (try simp only); omega) | (simp (disch := omega) only [wkT_cons, wkX_cons, wkT_nil, wkX_nil, get, Nat.reduceEqDiff, ↓reduceIte, ex_some, wk_self, wk_top, wk_nil, wkB_self, and_self, dI, i64_in, and_true, true_and, Int.natCast_add, Int.natCast_one, Int.ofNat_zero, Int.natCast_zero])
      all_goals first | exact ⟨.refl _, .refl _⟩ | exact .refl _
  · rw [List.drop_eq_nil_of_le (by omega), minBy] at hr
    subst hr
    repeat' (first
    | (with_reducible first | refine DW.seq ?_ | refine DW.block ?_ | refine DW.skip ?_ | refine DW.exit ?_ | refine DW.ret ?_ | refine DW.reg ?_)
    | (refine DW.dreg rfl (WF.of ?_) ?_; first | rfl | skip)
    | (simp (disch := omega) only [go_sem, simprocAttr, bm_box, bm_row, bk_box, bk_row, hd])
    | (exact retS_of rfl rfl rfl)
    | (refine DW.cond_tt rfl ?_)
    | (refine DW.cond_ff rfl ?_)
    | (refine DW.cond rfl ?_ ?_ <;> intro hc <;> (try simp only [go_sem] at hc))
    | (refine g_split ?_ ?_ <;> intro hc <;> (try simp only [hc]) <;> (try simp only [go_sem] at hc)))
end Go.Dw.Seat
end
section
set_option linter.unusedSimpArgs false
set_option maxRecDepth 100000
namespace Go.Dw.Seat
open Go Go.Dw Go.Proofs Go.IntWalk
def eP (p : TPap) : List C := [.v (.int .i64 p.wide), .v (.int .i64 p.tl), .v (.int .i64 p.th), .v (.int .i64 p.webs)]
attribute [go_sem] eP
def offF (l : List TOrd) : Nat → List TPap → List TOff
  | _, [] => []
  | i, p :: ps => match planF p l with
    | some x => ⟨i, x.1.length, x.2⟩ :: offF l (i + 1) ps
    | none => offF l (i + 1) ps
def papE (l : List TOrd) (P : List TPap) : Int := orL (P.map fun p => openE p l)
def choE (P : List TPap) (l : List TOrd) : Int := if 4 < P.length then 5 else if P.length = 0 then 7 else if papE l P ≠ 0 then papE l P else if (offF l 0 P).isEmpty then 9 else 0
def choI (P : List TPap) (l : List TOrd) : Int := if choE P l ≠ 0 then 0 else match offF l 0 P with
  | [] => 0
  | x :: t => (minBy cmpO x t).paper
theorem offF_app (l : List TOrd) : ∀ (a b : List TPap) (i : Nat), offF l i (a ++ b) = offF l i a ++ offF l (i + a.length) b
  | [], b, i => by simp [offF]
  | p :: a, b, i => by
    have ih := offF_app l a b (i + 1)
    rw [List.cons_append, offF, offF, ih, List.length_cons, show i + 1 + a.length = i + (a.length + 1) by omega]
    split <;> rfl
theorem offF_len (l : List TOrd) : ∀ (a : List TPap) (i : Nat), (offF l i a).length ≤ a.length
  | [], i => by simp [offF]
  | p :: a, i => by
    have ih := offF_len l a (i + 1)
    rw [offF]
    split
    · simp only [List.length_cons]; omega
    · simp only [List.length_cons]; omega
theorem papE_zero {l : List TOrd} : ∀ {P : List TPap}, papE l P = 0 → ∀ p ∈ P, openE p l = 0
  | [], _, p, hp => by cases hp
  | q :: P, h, p, hp => by
    simp only [papE, List.map_cons, orL] at h
    by_cases h0 : openE q l = 0
    · rw [if_neg (by simpa using h0)] at h
      rcases List.mem_cons.1 hp with rfl | hp
      · exact h0
      · exact papE_zero (P := P) h p hp
    · rw [if_pos h0] at h; exact absurd h h0
theorem waste_b {p : TPap} (hp : p.ok) {l : List TOrd} : ∀ {q : List TStp}, (∀ s ∈ q, WsOk p l s.ws ∧ 1 ≤ s.run ∧ s.run ≤ 30) → 0 ≤ wasteF p l q ∧ wasteF p l q ≤ 90000 * (q.length : Int)
  | [], _ => by simp [wasteF]
  | s :: q, h => by
    have ih := waste_b hp (q := q) (fun x hx => h x (by simp [hx]))
    obtain ⟨h1, h2, h3⟩ := h s (by simp)
    have hb := (patB_b h1.pat).2.2
    have ht := hp.trim
    have m1 : 0 ≤ trimI p l s.ws * s.run := Int.mul_nonneg (by omega) (by omega)
    have m2 : trimI p l s.ws * s.run ≤ 3000 * s.run := Int.mul_le_mul_of_nonneg_right (by omega) (by omega)
    simp only [wasteF, List.length_cons, Int.natCast_add, Int.natCast_one]
    omega
theorem plan_wsb {p : TPap} {l : List TOrd} {q : List TStp} (h : PlanOk p l q) : ∀ s ∈ q, WsOk p l s.ws ∧ 1 ≤ s.run ∧ s.run ≤ 30 := fun s hs => by
  have h1 := (ext_mem h.ext).2 s hs
  exact ⟨(plan_ws h s hs).1, h1.2⟩
theorem offF_ok {l : List TOrd} (hl : ∀ o ∈ l, o.ok) : ∀ {P : List TPap} {i : Nat}, (∀ p ∈ P, p.ok) → i + P.length ≤ 1000000 → ∀ u ∈ offF l i P, u.ok
  | [], _, _, _, u, hu => by cases hu
  | p :: P, i, h, hi, u, hu => by
    have ih := offF_ok hl (P := P) (i := i + 1) (fun q hq => h q (by simp [hq])) (by simp only [List.length_cons] at hi; omega)
    rw [offF] at hu
    split at hu
    · rename_i x hx
      rcases List.mem_cons.1 hu with rfl | hu
      · have h1 := planF_ok (h p (by simp)) hl (q := x.1) (w := x.2) hx
        have h2 := plan_len h1.1
        have h3 := waste_b (h p (by simp)) (plan_wsb h1.1)
        rw [← h1.2] at h3
        simp only [List.length_cons] at hi
        refine ⟨?_, ?_, ?_⟩ <;> dsimp only <;> omega
      · exact ih u hu
    · exact ih u hu
set_option maxHeartbeats 4000000 in
theorem trChoose (b : Bool) (P : List TPap) (hP : P.length ≤ 2 ^ 36) (l : List TOrd) (hl : l.length ≤ 2 ^ 36) : DCall Try.prog 35 [.c (.sl b 4 (rows eP P)), .c (.sl false 3 (rows eO l))] [] (.tup [dI (choI P l), dI (choE P l)]) [] := by
  by_cases h4 : 4 < P.length
  · have hE : choE P l = 5 := if_pos h4
    have hI : choI P l = 0 := by unfold choI; rw [if_pos (by rw [hE]; decide)]
    have d4 : decide ((4 : Int) < (P.length : Int)) = true := decide_eq_true (by omega)
    rw [hE, hI]
    refine DCall.of Try.func35 sf35 hb35 (Nat.le_of_ble_eq_true rfl) (okRes_nil fun _ => rfl) ?_; simp only [s35, idxs, Nat.reduceAdd]
    repeat' (first
    | (with_reducible first | refine DW.seq ?_ | refine DW.block ?_ | refine DW.skip ?_ | refine DW.exit ?_ | refine DW.ret ?_ | refine DW.reg ?_)
    | (simp (disch := omega) only [go_sem, simprocAttr, bm_box, bm_row, bk_box, bk_row, d4])
    | (exact retS_of rfl rfl rfl)
    | (refine DW.cond_tt rfl ?_)
    | (refine DW.cond_ff rfl ?_)
    | (refine DW.cond rfl ?_ ?_ <;> intro hc <;> (try simp only [go_sem] at hc))
    | (refine g_split ?_ ?_ <;> intro hc <;> (try simp only [hc]) <;> (try simp only [go_sem] at hc)))
  have d4 : decide ((4 : Int) < (P.length : Int)) = false := decide_eq_false (by omega)
  by_cases h0 : P.length = 0
  · have hE : choE P l = 7 := by unfold choE; rw [if_neg h4, if_pos h0]
    have hI : choI P l = 0 := by unfold choI; rw [if_pos (by rw [hE]; decide)]
    have d0 : ((P.length : Int) == 0) = true := by rw [h0]; rfl
    rw [hE, hI]
    refine DCall.of Try.func35 sf35 hb35 (Nat.le_of_ble_eq_true rfl) (okRes_nil fun _ => rfl) ?_; simp only [s35, idxs, Nat.reduceAdd]
    repeat' (first
    | (with_reducible first | refine DW.seq ?_ | refine DW.block ?_ | refine DW.skip ?_ | refine DW.exit ?_ | refine DW.ret ?_ | refine DW.reg ?_)
    | (simp (disch := omega) only [go_sem, simprocAttr, bm_box, bm_row, bk_box, bk_row, d4, d0])
    | (exact retS_of rfl rfl rfl)
    | (refine DW.cond_tt rfl ?_)
    | (refine DW.cond_ff rfl ?_)
    | (refine DW.cond rfl ?_ ?_ <;> intro hc <;> (try simp only [go_sem] at hc))
    | (refine g_split ?_ ?_ <;> intro hc <;> (try simp only [hc]) <;> (try simp only [go_sem] at hc)))
  have d0 : ((P.length : Int) == 0) = false := by rw [beq_eq_false_iff_ne]; omega
  generalize hA : choI P l = A
  generalize hB : choE P l = B
  unfold choI at hA
  rw [hB] at hA
  unfold choE at hB
  rw [if_neg h4, if_neg h0] at hB
  refine DCall.of Try.func35 sf35 hb35 (Nat.le_of_ble_eq_true rfl) (okRes_nil fun _ => rfl) ?_; simp only [s35, idxs, Nat.reduceAdd]
  repeat' (first
    | (with_reducible first | refine DW.seq ?_ | refine DW.block ?_ | refine DW.skip ?_ | refine DW.exit ?_ | refine DW.ret ?_ | refine DW.reg ?_)
    | (simp (disch := omega) only [go_sem, simprocAttr, bm_box, bm_row, bk_box, bk_row, d4, d0])
    | (exact retS_of rfl rfl rfl)
    | (refine DW.cond_tt rfl ?_)
    | (refine DW.cond_ff rfl ?_)
    | (refine DW.cond rfl ?_ ?_ <;> intro hc <;> (try simp only [go_sem] at hc))
    | (refine g_split ?_ ?_ <;> intro hc <;> (try simp only [hc]) <;> (try simp only [go_sem] at hc)))
  refine DW.loop (ι := { i : Nat // i ≤ P.length ∧ papE l (P.drop i) = papE l P }) (fun i => ⟨67, [(25, dI i.1), (24, dI P.length), (23, .c (.sl b 4 (rows eP P))), (5, dI 0), (4, dI 0), (0, .c (.sl b 4 (rows eP P))), (1, .c (.sl false 3 (rows eO l)))], []⟩) (fun i => P.length - i.1) ⟨0, Nat.zero_le _, rfl⟩ ?_ ?_
  · refine Ent.to ?_ ?_ <;> simp (disch := omega) only [wkT_cons, wkX_cons, wkT_nil, wkX_nil, get, Nat.reduceEqDiff, ↓reduceIte, ex_some, wk_self, wk_top, wk_nil, wkB_self, and_self, dI, i64_in, and_true, true_and, Int.natCast_add, Int.natCast_one, Int.ofNat_zero, Int.natCast_zero]
    all_goals first | exact ⟨.refl _, .refl _⟩ | exact .refl _
  rintro ⟨i, hi, hpe⟩
  dsimp only
  rcases at_or P i hi with ⟨v, hv, hlt, hd⟩ | ⟨he, hd⟩
  · have h1 := trCheck v l hl
    have hdr : P.drop i = v :: P.drop (i + 1) := by rw [List.drop_eq_getElem_cons hlt, (List.getElem_eq_iff hlt).2 hv]
    have hpe2 : papE l (v :: P.drop (i + 1)) = papE l P := by rw [← hdr]; exact hpe
    have hpd : papE l (v :: P.drop (i + 1)) = if openE v l ≠ 0 then openE v l else papE l (P.drop (i + 1)) := rfl
    rw [hpd] at hpe2
    by_cases hz : openE v l = 0
    · rw [if_neg (by simpa using hz)] at hpe2
      rw [hz] at h1
      repeat' (first
    | (with_reducible first | refine DW.seq ?_ | refine DW.block ?_ | refine DW.skip ?_ | refine DW.exit ?_ | refine DW.ret ?_ | refine DW.reg ?_)
    | (simp (disch := omega) only [go_sem, simprocAttr, bm_box, bm_row, bk_box, bk_row, hd, hv, List.map_cons, List.map_nil])
    | (exact retS_of rfl rfl rfl)
    | (refine DW.cond_tt rfl ?_)
    | (refine call_c (h1) (by decide) ?_)
    | (refine DW.cond_ff rfl ?_)
    | (refine DW.cond rfl ?_ ?_ <;> intro hc <;> (try simp only [go_sem] at hc))
    | (refine g_split ?_ ?_ <;> intro hc <;> (try simp only [hc]) <;> (try simp only [go_sem] at hc)))
      refine ⟨⟨i + 1, hlt, hpe2⟩, ?_, Ent.to ?_ ?_⟩ <;> first | (show _ < _; (try simp only); omega) | (simp (disch := omega) only [wkT_cons, wkX_cons, wkT_nil, wkX_nil, get, Nat.reduceEqDiff, ↓reduceIte, ex_some, wk_self, wk_top, wk_nil, wkB_self, and_self, dI, i64_in, and_true, true_and, Int.natCast_add, Int.natCast_one, Int.ofNat_zero, Int.natCast_zero])
      all_goals first | exact ⟨.refl _, .refl _⟩ | exact .refl _
    · rw [if_pos hz] at hpe2
      rw [← hpe2, if_pos hz] at hB
      rw [← hB, if_pos hz] at hA
      subst hA
      rw [hB] at h1 hz
      have hde : (B != 0) = true := by simpa using hz
      repeat' (first
    | (with_reducible first | refine DW.seq ?_ | refine DW.block ?_ | refine DW.skip ?_ | refine DW.exit ?_ | refine DW.ret ?_ | refine DW.reg ?_)
    | (simp (disch := omega) only [go_sem, simprocAttr, bm_box, bm_row, bk_box, bk_row, hd, hv, hde, List.map_cons, List.map_nil])
    | (exact retS_of rfl rfl rfl)
    | (refine DW.cond_tt rfl ?_)
    | (refine call_c (h1) (by decide) ?_)
    | (refine DW.cond_ff rfl ?_)
    | (refine DW.cond rfl ?_ ?_ <;> intro hc <;> (try simp only [go_sem] at hc))
    | (refine g_split ?_ ?_ <;> intro hc <;> (try simp only [hc]) <;> (try simp only [go_sem] at hc)))
  have hpz : papE l P = 0 := by
    rw [List.drop_eq_nil_of_le (by omega)] at hpe
    rw [← hpe]; rfl
  rw [if_neg (by simpa using hpz)] at hB
  have hop := papE_zero hpz
  obtain ⟨q, hq⟩ : ∃ q, q ∈ P := by
    cases P with
    | nil => simp at h0
    | cons q _ => exact ⟨q, by simp⟩
  obtain ⟨_, hl4, ho⟩ := openE_ok (hop q hq)
  have hpo : ∀ p ∈ P, p.ok := fun p hp => (openE_ok (hop p hp)).1
  have hofl := offF_len l P 0
  repeat' (first
    | (with_reducible first | refine DW.seq ?_ | refine DW.block ?_ | refine DW.skip ?_ | refine DW.exit ?_ | refine DW.ret ?_ | refine DW.reg ?_)
    | (simp (disch := omega) only [go_sem, simprocAttr, bm_box, bm_row, bk_box, bk_row, hd])
    | (exact retS_of rfl rfl rfl)
    | (refine DW.cond_tt rfl ?_)
    | (refine DW.cond_ff rfl ?_)
    | (refine DW.cond rfl ?_ ?_ <;> intro hc <;> (try simp only [go_sem] at hc))
    | (refine g_split ?_ ?_ <;> intro hc <;> (try simp only [hc]) <;> (try simp only [go_sem] at hc)))
  refine DW.ent (Ent.adopt 9 59 3 rfl rfl rfl) ?_
  refine DW.loop (ι := { i : Nat // i ≤ P.length }) (fun i => ⟨67, [(38, dI i.1), (37, dI P.length), (36, .c (.sl b 4 (rows eP P))), (9, .own 59), (5, dI 0), (4, dI 0), (1, .c (.sl false 3 (rows eO l)))], [(59, .row 3 (rowC (rows eOf (offF l 0 (P.take i.1)))))]⟩) (fun i => P.length - i.1) ⟨0, Nat.zero_le _⟩ ?_ ?_
  · refine Ent.to ?_ ?_ <;> simp (disch := omega) only [wkT_cons, wkX_cons, wkT_nil, wkX_nil, get, Nat.reduceEqDiff, ↓reduceIte, ex_some, wk_self, wk_top, wk_nil, wkB_self, and_self, dI, i64_in, and_true, true_and, Int.natCast_add, Int.natCast_one, Int.ofNat_zero, Int.natCast_zero, ins, Nat.reduceLT, List.take_zero, offF]
    all_goals first | exact ⟨.refl _, .refl _⟩ | exact .refl _
  clear hpe hd
  rintro ⟨i, hi⟩
  dsimp only
  rcases at_or P i hi with ⟨v, hv, hlt, hd⟩ | ⟨he, hd⟩
  · have hvm := List.mem_of_getElem? hv
    have h1 := trPlanM v (hpo v hvm) l hl4 ho
    have htk : P.take (i + 1) = P.take i ++ [v] := by rw [List.take_add_one, hv]; rfl
    have hof : offF l 0 (P.take (i + 1)) = offF l 0 (P.take i) ++ offF l i [v] := by
      rw [htk, offF_app, List.length_take, Nat.min_eq_left (by omega), Nat.zero_add]
    have hol := offF_len l (P.take i) 0
    rw [List.length_take] at hol
    generalize offF l 0 (P.take i) = O at *
    cases hR : planF v l with
    | none =>
      rw [hR] at h1
      simp only [planD] at h1
      have hof2 : offF l 0 (P.take (i + 1)) = O := by rw [hof, offF, hR]; simp [offF]
      repeat' (first
    | (with_reducible first | refine DW.seq ?_ | refine DW.block ?_ | refine DW.skip ?_ | refine DW.exit ?_ | refine DW.ret ?_ | refine DW.reg ?_)
    | (simp (disch := omega) only [go_sem, simprocAttr, bm_box, bm_row, bk_box, bk_row, hd, hv, List.map_cons, List.map_nil])
    | (exact retS_of rfl rfl rfl)
    | (refine DW.cond_tt rfl ?_)
    | (refine call_c (h1) (by decide) ?_)
    | (refine DW.cond_ff rfl ?_)
    | (refine DW.cond rfl ?_ ?_ <;> intro hc <;> (try simp only [go_sem] at hc))
    | (refine g_split ?_ ?_ <;> intro hc <;> (try simp only [hc]) <;> (try simp only [go_sem] at hc)))
      refine ⟨⟨i + 1, hlt⟩, ?_, Ent.to ?_ ?_⟩ <;> first | (show _ < _; (try simp only); omega) | (simp (disch := omega) only [wkT_cons, wkX_cons, wkT_nil, wkX_nil, get, Nat.reduceEqDiff, ↓reduceIte, ex_some, wk_self, wk_top, wk_nil, wkB_self, and_self, dI, i64_in, and_true, true_and, Int.natCast_add, Int.natCast_one, Int.ofNat_zero, Int.natCast_zero,  hof2])
      all_goals first | exact ⟨.refl _, .refl _⟩ | exact .refl _
    | some x =>
      obtain ⟨Q, w⟩ := x
      rw [hR] at h1
      simp only [planD] at h1
      have hq := planF_ok (hpo v hvm) ho hR
      have hql := plan_len hq.1
      have hof2 : offF l 0 (P.take (i + 1)) = O ++ [⟨(i : Int), (Q.length : Int), w⟩] := by rw [hof, offF, hR]; simp [offF]
      have hsn : rowC (rows eOf O) ++ [[D.c (.v (.int .i64 i)), D.c (.v (.int .i64 Q.length)), D.c (.v (.int .i64 w))]] = rowC (rows eOf (O ++ [⟨(i : Int), (Q.length : Int), w⟩])) := by simp [rowC, rows, eOf]
      repeat' (first
    | (with_reducible first | refine DW.seq ?_ | refine DW.block ?_ | refine DW.skip ?_ | refine DW.exit ?_ | refine DW.ret ?_ | refine DW.reg ?_)
    | (simp (disch := omega) only [go_sem, simprocAttr, bm_box, bm_row, bk_box, bk_row, hd, hv, List.map_cons, List.map_nil])
    | (exact retS_of rfl rfl rfl)
    | (refine DW.cond_tt rfl ?_)
    | (refine call_c (h1) (by decide) ?_)
    | (refine DW.cond_ff rfl ?_)
    | (refine DW.cond rfl ?_ ?_ <;> intro hc <;> (try simp only [go_sem] at hc))
    | (refine g_split ?_ ?_ <;> intro hc <;> (try simp only [hc]) <;> (try simp only [go_sem] at hc)))
      refine ⟨⟨i + 1, hlt⟩, ?_, Ent.to ?_ ?_⟩ <;> first | (show _ < _; (try simp only); omega) | (simp (disch := omega) only [wkT_cons, wkX_cons, wkT_nil, wkX_nil, get, Nat.reduceEqDiff, ↓reduceIte, ex_some, wk_self, wk_top, wk_nil, wkB_self, and_self, dI, i64_in, and_true, true_and, Int.natCast_add, Int.natCast_one, Int.ofNat_zero, Int.natCast_zero,  hof2, hsn])
      all_goals first | exact ⟨.refl _, .refl _⟩ | exact .refl _
  · have hti : P.take i = P := by rw [he, List.take_length]
    rw [hti]
    have hall := offF_ok ho (P := P) (i := 0) hpo (by omega)
    cases hO : offF l 0 P with
    | nil =>
      rw [hO] at hB
      rw [if_pos (show ([] : List TOff).isEmpty = true from rfl)] at hB
      rw [← hB, if_pos (by decide)] at hA
      subst hA hB
      repeat' (first
    | (with_reducible first | refine DW.seq ?_ | refine DW.block ?_ | refine DW.skip ?_ | refine DW.exit ?_ | refine DW.ret ?_ | refine DW.reg ?_)
    | (simp (disch := omega) only [go_sem, simprocAttr, bm_box, bm_row, bk_box, bk_row, hd])
    | (exact retS_of rfl rfl rfl)
    | (refine DW.cond_tt rfl ?_)
    | (refine DW.cond_ff rfl ?_)
    | (refine DW.cond rfl ?_ ?_ <;> intro hc <;> (try simp only [go_sem] at hc))
    | (refine g_split ?_ ?_ <;> intro hc <;> (try simp only [hc]) <;> (try simp only [go_sem] at hc)))
    | cons x t =>
      rw [hO] at hB hA hall hofl
      rw [if_neg (by simp)] at hB
      rw [← hB, if_neg (by decide)] at hA
      dsimp only at hA
      have h1 := trMinO true x t (by simp only [List.length_cons] at hofl; omega) 71 (fun u hu v hv => trChoose1 u v (hall u hu) (hall v hv))
      subst hA hB
      generalize minBy cmpO x t = m at *
      have dl : (((x :: t).length : Int) == 0) = false := by rw [beq_eq_false_iff_ne]; simp only [List.length_cons]; omega
      generalize x :: t = X at *
      repeat' (first
    | (with_reducible first | refine DW.seq ?_ | refine DW.block ?_ | refine DW.skip ?_ | refine DW.exit ?_ | refine DW.ret ?_ | refine DW.reg ?_)
    | (simp (disch := omega) only [go_sem, simprocAttr, bm_box, bm_row, bk_box, bk_row, hd, dl, List.map_cons, List.map_nil])
    | (exact retS_of rfl rfl rfl)
    | (refine DW.cond_tt rfl ?_)
    | (refine call_c (h1) (by decide) ?_)
    | (refine DW.cond_ff rfl ?_)
    | (refine DW.cond rfl ?_ ?_ <;> intro hc <;> (try simp only [go_sem] at hc))
    | (refine g_split ?_ ?_ <;> intro hc <;> (try simp only [hc]) <;> (try simp only [go_sem] at hc)))
end Go.Dw.Seat
end
section
set_option linter.unusedSimpArgs false
set_option maxRecDepth 100000
namespace Go.Dw.Seat
open Go Go.Dw Go.Proofs Go.IntWalk
def numsT (s i : Nat) : List Int := ((List.range i).filter (fun j => s.testBit j)).map fun (j : Nat) => (j : Int)
def numsI (s : Nat) : List Int := numsT s 4
theorem shr16' : ∀ s : Fin 16, ∀ i : Fin 5, shrI IntKind.i64 (s.1 : Int) i.1 = ((s.1 / 2 ^ i.1 : Nat) : Int) := by decide +kernel
theorem and16' : ∀ v : Fin 16, andI IntKind.i64 (v.1 : Int) 1 = ((v.1 % 2 : Nat) : Int) := by decide +kernel
theorem nums_end' : ∀ s : Fin 16, ∀ i : Fin 5, s.1 / 2 ^ i.1 = 0 → numsT s.1 i.1 = numsI s.1 := by decide +kernel
theorem nums_lt' : ∀ s : Fin 16, s.1 / 2 ^ 4 = 0 := by decide +kernel
theorem nums_1' : ∀ s : Fin 16, ∀ i : Fin 4, s.1 / 2 ^ i.1 % 2 = 1 → numsT s.1 (i.1 + 1) = numsT s.1 i.1 ++ [(i.1 : Int)] := by decide +kernel
theorem nums_0' : ∀ s : Fin 16, ∀ i : Fin 4, s.1 / 2 ^ i.1 % 2 = 0 → numsT s.1 (i.1 + 1) = numsT s.1 i.1 := by decide +kernel
theorem nums_len' : ∀ s : Fin 16, ∀ i : Fin 5, (numsT s.1 i.1).length ≤ 4 := by decide +kernel
set_option maxHeartbeats 1000000 in
theorem trNumbers (s : Nat) (hs : s < 16) : DCall Try.prog 74 [dI s] [] (dIs false (numsI s)) [] := by
  refine DCall.of Try.func74 sf74 hb74 (Nat.le_of_ble_eq_true rfl) (okRes_nil fun _ => rfl) ?_; simp only [s74, idxs, Nat.reduceAdd]
  repeat' (first
    | (with_reducible first | refine DW.seq ?_ | refine DW.block ?_ | refine DW.skip ?_ | refine DW.exit ?_ | refine DW.ret ?_ | refine DW.reg ?_)
    | (simp (disch := omega) only [go_sem, simprocAttr, Blk.men, Blk.keysIn])
    | (exact retS_of rfl rfl rfl)
    | (refine DW.cond_tt rfl ?_)
    | (refine DW.cond_ff rfl ?_)
    | (refine DW.cond rfl ?_ ?_ <;> intro hc <;> (try simp only [go_sem] at hc))
    | (refine g_split ?_ ?_ <;> intro hc <;> (try simp only [hc]) <;> (try simp only [go_sem] at hc)))
  refine DW.ent (Ent.adopt 2 18 1 rfl rfl rfl) ?_
  refine DW.loop (ι := { i : Nat // i ≤ 4 }) (fun i => ⟨20, [(3, dI i.1), (2, .own 18), (0, dI s)], [(18, .row 1 (rowC (rows eI (numsT s i.1))))]⟩) (fun i => 4 - i.1) ⟨0, Nat.zero_le _⟩ ?_ ?_
  · refine Ent.to ?_ ?_ <;> simp (disch := omega) only [wkT_cons, wkX_cons, wkT_nil, wkX_nil, get, Nat.reduceEqDiff, ↓reduceIte, ex_some, wk_self, wk_top, wk_nil, wkB_self, and_self, dI, i64_in, and_true, true_and, Int.natCast_add, Int.natCast_one, Int.ofNat_zero, Int.natCast_zero, ins, Nat.reduceLT]
    all_goals first | exact ⟨.refl _, .refl _⟩ | exact .refl _
  rintro ⟨i, hi⟩
  dsimp only
  have hsh := shr16' ⟨s, hs⟩ ⟨i, by omega⟩
  have hen := nums_end' ⟨s, hs⟩ ⟨i, by omega⟩
  have hll := nums_len' ⟨s, hs⟩ ⟨i, by omega⟩
  have hle : s / 2 ^ i ≤ s := Nat.div_le_self _ _
  dsimp only at hsh hen hll
  by_cases h0 : s / 2 ^ i = 0
  · have hd : decide ((0 : Int) < ((s / 2 ^ i : Nat) : Int)) = false := decide_eq_false (by omega)
    have hnn := hen h0
    repeat' (first
    | (with_reducible first | refine DW.seq ?_ | refine DW.block ?_ | refine DW.skip ?_ | refine DW.exit ?_ | refine DW.ret ?_ | refine DW.reg ?_)
    | (simp (disch := omega) only [go_sem, simprocAttr, Blk.men, Blk.keysIn, hsh, hd])
    | (exact retS_of rfl rfl rfl)
    | (refine DW.cond_tt rfl ?_)
    | (refine DW.cond_ff rfl ?_)
    | (refine DW.cond rfl ?_ ?_ <;> intro hc <;> (try simp only [go_sem] at hc))
    | (refine g_split ?_ ?_ <;> intro hc <;> (try simp only [hc]) <;> (try simp only [go_sem] at hc)))
    (refine retS_ent (Ent.rel 18 rfl) ?_; simp (disch := omega) only [go_sem, simprocAttr, Blk.men, Blk.keysIn])
    rw [hnn]
    refine retS_wk rfl ?_ (by simp only [Blk.nb, rowC_nb, D.nb, D.nbs, C.nb, C.nbs, C.nbss, rows_nb eI_nb, Bool.and_true, Bool.not_false, Bool.and_self, bD, dI, iD]); exact .refl _
  · have hi4 : i < 4 := by
      rcases Nat.lt_or_ge i 4 with h | h
      · exact h
      · have : i = 4 := by omega
        subst this
        exact absurd (nums_lt' ⟨s, hs⟩) h0
    have hd : decide ((0 : Int) < ((s / 2 ^ i : Nat) : Int)) = true := decide_eq_true (Int.natCast_pos.mpr (Nat.pos_of_ne_zero h0))
    have han := and16' ⟨s / 2 ^ i, Nat.lt_of_le_of_lt hle hs⟩
    have q1 := nums_1' ⟨s, hs⟩ ⟨i, hi4⟩
    have q0 := nums_0' ⟨s, hs⟩ ⟨i, hi4⟩
    dsimp only at han q1 q0
    generalize s / 2 ^ i = u at *
    by_cases h1 : u % 2 = 1
    · have hd2 : (((u % 2 : Nat) : Int) == 1) = true := by rw [h1]; rfl
      have q := q1 h1
      generalize u % 2 = m at *
      repeat' (first
    | (with_reducible first | refine DW.seq ?_ | refine DW.block ?_ | refine DW.skip ?_ | refine DW.exit ?_ | refine DW.ret ?_ | refine DW.reg ?_)
    | (simp (disch := omega) only [go_sem, simprocAttr, Blk.men, Blk.keysIn, hsh, hd, han, hd2])
    | (exact retS_of rfl rfl rfl)
    | (refine DW.cond_tt rfl ?_)
    | (refine DW.cond_ff rfl ?_)
    | (refine DW.cond rfl ?_ ?_ <;> intro hc <;> (try simp only [go_sem] at hc))
    | (refine g_split ?_ ?_ <;> intro hc <;> (try simp only [hc]) <;> (try simp only [go_sem] at hc)))
      refine ⟨⟨i + 1, by omega⟩, ?_, Ent.to ?_ ?_⟩ <;> first | (show _ < _; (try simp only); omega) | (simp (disch := omega) only [wkT_cons, wkX_cons, wkT_nil, wkX_nil, get, Nat.reduceEqDiff, ↓reduceIte, ex_some, wk_self, wk_top, wk_nil, wkB_self, and_self, dI, i64_in, and_true, true_and, Int.natCast_add, Int.natCast_one, Int.ofNat_zero, Int.natCast_zero,  q])
      all_goals first | exact ⟨.refl _, .refl _⟩ | exact .refl _
    · have h2 : u % 2 = 0 := by omega
      have hd2 : (((u % 2 : Nat) : Int) == 1) = false := by rw [h2]; rfl
      have q := q0 h2
      generalize u % 2 = m at *
      repeat' (first
    | (with_reducible first | refine DW.seq ?_ | refine DW.block ?_ | refine DW.skip ?_ | refine DW.exit ?_ | refine DW.ret ?_ | refine DW.reg ?_)
    | (simp (disch := omega) only [go_sem, simprocAttr, Blk.men, Blk.keysIn, hsh, hd, han, hd2])
    | (exact retS_of rfl rfl rfl)
    | (refine DW.cond_tt rfl ?_)
    | (refine DW.cond_ff rfl ?_)
    | (refine DW.cond rfl ?_ ?_ <;> intro hc <;> (try simp only [go_sem] at hc))
    | (refine g_split ?_ ?_ <;> intro hc <;> (try simp only [hc]) <;> (try simp only [go_sem] at hc)))
      refine ⟨⟨i + 1, by omega⟩, ?_, Ent.to ?_ ?_⟩ <;> first | (show _ < _; (try simp only); omega) | (simp (disch := omega) only [wkT_cons, wkX_cons, wkT_nil, wkX_nil, get, Nat.reduceEqDiff, ↓reduceIte, ex_some, wk_self, wk_top, wk_nil, wkB_self, and_self, dI, i64_in, and_true, true_and, Int.natCast_add, Int.natCast_one, Int.ofNat_zero, Int.natCast_zero,  q])
      all_goals first | exact ⟨.refl _, .refl _⟩ | exact .refl _
end Go.Dw.Seat
end
section
set_option linter.unusedSimpArgs false
set_option maxRecDepth 100000
namespace Go.Dw.Seat
open Go Go.Dw Go.Proofs Go.IntWalk
def selF (s : Nat) : Nat → List TOrd → List TOrd
  | _, [] => []
  | i, o :: l => if s / 2 ^ i % 2 = 1 then o :: selF s (i + 1) l else selF s (i + 1) l
theorem selF_app (s : Nat) : ∀ (a b : List TOrd) (i : Nat), selF s i (a ++ b) = selF s i a ++ selF s (i + a.length) b
  | [], b, i => by simp [selF]
  | o :: a, b, i => by
    have ih := selF_app s a b (i + 1)
    rw [List.cons_append, selF, selF, ih, List.length_cons, show i + 1 + a.length = i + (a.length + 1) by omega]
    split <;> rfl
theorem selF_mem {s : Nat} : ∀ {l : List TOrd} {i : Nat}, ∀ o ∈ selF s i l, o ∈ l
  | [], _, o, h => by cases h
  | a :: l, i, o, h => by
    rw [selF] at h
    split at h
    · rcases List.mem_cons.1 h with rfl | h
      · simp
      · exact List.mem_cons_of_mem _ (selF_mem o h)
    · exact List.mem_cons_of_mem _ (selF_mem o h)
theorem selF_len {s : Nat} : ∀ {l : List TOrd} {i : Nat}, (selF s i l).length ≤ l.length
  | [], _ => by simp [selF]
  | a :: l, i => by
    have := selF_len (s := s) (l := l) (i := i + 1)
    rw [selF]
    split
    · simp only [List.length_cons]; omega
    · simp only [List.length_cons]; omega
theorem bit16 : ∀ n : Fin 5, ∀ i : Fin 4, i.1 < n.1 → (2 ^ n.1 - 1) / 2 ^ i.1 % 2 = 1 := by decide
theorem selF_all : ∀ (l : List TOrd) (i n : Nat), i + l.length ≤ n → n ≤ 4 → selF (2 ^ n - 1) i l = l
  | [], _, _, _, _ => rfl
  | o :: l, i, n, h, h4 => by
    simp only [List.length_cons] at h
    have := bit16 ⟨n, by omega⟩ ⟨i, by omega⟩ (by dsimp only; omega)
    rw [selF, if_pos this, selF_all l (i + 1) n (by omega) h4]
theorem rowC_snocO (q : List TOrd) (o : TOrd) : rowC (rows eO q) ++ [[D.c (.v (.int .i64 o.w)), D.c (.v (.int .i64 o.lo)), D.c (.v (.int .i64 o.hi))]] = rowC (rows eO (q ++ [o])) := by simp [rowC, rows, eO]
set_option maxHeartbeats 2000000 in
theorem trAmong (p : TPap) (l : List TOrd) (hl : l.length ≤ 4) (s : Nat) (hs : s < 16) : DCall Try.prog 73 [macD false p l, dI s] [] (macD false p (selF s 0 l)) [] := by
  generalize hR : selF s 0 l = R
  refine DCall.of Try.func73 sf73 hb73 (Nat.le_of_ble_eq_true rfl) (okRes_nil fun _ => rfl) ?_; simp only [s73, idxs, Nat.reduceAdd]
  repeat' (first
    | (with_reducible first | refine DW.seq ?_ | refine DW.block ?_ | refine DW.skip ?_ | refine DW.exit ?_ | refine DW.ret ?_ | refine DW.reg ?_)
    | (simp (disch := omega) only [go_sem, simprocAttr, bm_box, bm_row, bk_box, bk_row])
    | (exact retS_of rfl rfl rfl)
    | (refine DW.cond_tt rfl ?_)
    | (refine DW.cond_ff rfl ?_)
    | (refine DW.cond rfl ?_ ?_ <;> intro hc <;> (try simp only [go_sem] at hc))
    | (refine g_split ?_ ?_ <;> intro hc <;> (try simp only [hc]) <;> (try simp only [go_sem] at hc)))
  (refine DW.ent (Ent.adoptB 5 4 28 3 rfl rfl rfl rfl) ?_; simp only [ins, Nat.reduceLT, Nat.reduceEqDiff, ↓reduceIte, List.set_cons_zero, List.set_cons_succ])
  refine DW.loop (ι := { i : Nat // i ≤ l.length }) (fun i => ⟨32, [(14, dI i.1), (13, dI l.length), (12, .c (.sl false 3 (rows eO l))), (5, .box 5 0), (4, .box 4 0), (1, dI s)], [(28, .row 3 (rowC (rows eO (selF s 0 (l.take i.1))))), (5, .box [dI p.wide, dI p.tl, dI p.th, dI p.webs, .own 28]), (4, .box [dI 0, dI 0, dI 0, dI 0, .c (.v (.slice none 0 0))])]⟩) (fun i => l.length - i.1) ⟨0, Nat.zero_le _⟩ ?_ ?_
  · refine Ent.to ?_ ?_ <;> simp (disch := omega) only [wkT_cons, wkX_cons, wkT_nil, wkX_nil, get, Nat.reduceEqDiff, ↓reduceIte, ex_some, wk_self, wk_top, wk_nil, wkB_self, and_self, dI, i64_in, and_true, true_and, Int.natCast_add, Int.natCast_one, Int.ofNat_zero, Int.natCast_zero, List.take_zero, selF]
    all_goals first | exact ⟨.refl _, .refl _, .refl _⟩ | exact ⟨.refl _, .refl _⟩ | exact .refl _ | skip
  rintro ⟨i, hi⟩
  dsimp only
  rcases at_or l i hi with ⟨o, ho, hlt, hd⟩ | ⟨he, hd⟩
  · have hsh := shr16' ⟨s, hs⟩ ⟨i, by omega⟩
    have hle : s / 2 ^ i ≤ s := Nat.div_le_self _ _
    dsimp only at hsh
    have han := and16' ⟨s / 2 ^ i, by omega⟩
    dsimp only at han
    have htk : l.take (i + 1) = l.take i ++ [o] := by rw [List.take_add_one, ho]; rfl
    have hsl : selF s 0 (l.take (i + 1)) = selF s 0 (l.take i) ++ selF s i [o] := by
      rw [htk, selF_app, List.length_take, Nat.min_eq_left (by omega), Nat.zero_add]
    have hol := selF_len (s := s) (l := l.take i) (i := 0)
    rw [List.length_take] at hol
    generalize selF s 0 (l.take i) = S at *
    by_cases hb : s / 2 ^ i % 2 = 1
    · have hd2 : (((s / 2 ^ i % 2 : Nat) : Int) == 1) = true := by rw [hb]; rfl
      have hsl2 : selF s 0 (l.take (i + 1)) = S ++ [o] := by rw [hsl, selF, if_pos hb]; rfl
      repeat' (first
    | (with_reducible first | refine DW.seq ?_ | refine DW.block ?_ | refine DW.skip ?_ | refine DW.exit ?_ | refine DW.ret ?_ | refine DW.reg ?_)
    | (simp (disch := omega) only [go_sem, simprocAttr, bm_box, bm_row, bk_box, bk_row, hd, ho, hsh, han, hd2, List.map_cons, List.map_nil])
    | (exact retS_of rfl rfl rfl)
    | (refine DW.cond_tt rfl ?_)
    | (refine DW.cond_ff rfl ?_)
    | (refine DW.cond rfl ?_ ?_ <;> intro hc <;> (try simp only [go_sem] at hc))
    | (refine g_split ?_ ?_ <;> intro hc <;> (try simp only [hc]) <;> (try simp only [go_sem] at hc)))
      refine ⟨⟨i + 1, hlt⟩, ?_, Ent.to ?_ ?_⟩ <;> first | (show _ < _; (try simp only); omega) | (simp (disch := omega) only [wkT_cons, wkX_cons, wkT_nil, wkX_nil, get, Nat.reduceEqDiff, ↓reduceIte, ex_some, wk_self, wk_top, wk_nil, wkB_self, and_self, dI, i64_in, and_true, true_and, Int.natCast_add, Int.natCast_one, Int.ofNat_zero, Int.natCast_zero,  hsl2, rowC_snocO])
      all_goals first | exact ⟨.refl _, .refl _, .refl _⟩ | exact ⟨.refl _, .refl _⟩ | exact .refl _
    · have hd2 : (((s / 2 ^ i % 2 : Nat) : Int) == 1) = false := by rw [beq_eq_false_iff_ne]; omega
      have hsl2 : selF s 0 (l.take (i + 1)) = S := by rw [hsl, selF, if_neg hb]; simp [selF]
      repeat' (first
    | (with_reducible first | refine DW.seq ?_ | refine DW.block ?_ | refine DW.skip ?_ | refine DW.exit ?_ | refine DW.ret ?_ | refine DW.reg ?_)
    | (simp (disch := omega) only [go_sem, simprocAttr, bm_box, bm_row, bk_box, bk_row, hd, ho, hsh, han, hd2, List.map_cons, List.map_nil])
    | (exact retS_of rfl rfl rfl)
    | (refine DW.cond_tt rfl ?_)
    | (refine DW.cond_ff rfl ?_)
    | (refine DW.cond rfl ?_ ?_ <;> intro hc <;> (try simp only [go_sem] at hc))
    | (refine g_split ?_ ?_ <;> intro hc <;> (try simp only [hc]) <;> (try simp only [go_sem] at hc)))
      refine ⟨⟨i + 1, hlt⟩, ?_, Ent.to ?_ ?_⟩ <;> first | (show _ < _; (try simp only); omega) | (simp (disch := omega) only [wkT_cons, wkX_cons, wkT_nil, wkX_nil, get, Nat.reduceEqDiff, ↓reduceIte, ex_some, wk_self, wk_top, wk_nil, wkB_self, and_self, dI, i64_in, and_true, true_and, Int.natCast_add, Int.natCast_one, Int.ofNat_zero, Int.natCast_zero,  hsl2])
      all_goals first | exact ⟨.refl _, .refl _, .refl _⟩ | exact ⟨.refl _, .refl _⟩ | exact .refl _
  · have hti : l.take i = l := by rw [he, List.take_length]
    rw [hti, hR]
    repeat' (first
    | (with_reducible first | refine DW.seq ?_ | refine DW.block ?_ | refine DW.skip ?_ | refine DW.exit ?_ | refine DW.ret ?_ | refine DW.reg ?_)
    | (simp (disch := omega) only [go_sem, simprocAttr, bm_box, bm_row, bk_box, bk_row, hd])
    | (exact retS_of rfl rfl rfl)
    | (refine DW.cond_tt rfl ?_)
    | (refine DW.cond_ff rfl ?_)
    | (refine DW.cond rfl ?_ ?_ <;> intro hc <;> (try simp only [go_sem] at hc))
    | (refine g_split ?_ ?_ <;> intro hc <;> (try simp only [hc]) <;> (try simp only [go_sem] at hc)))
    (refine retS_ent (Ent.rel 28 rfl) ?_; simp (disch := omega) only [go_sem, simprocAttr, bm_box, bm_row, bk_box, bk_row])
    refine retS_wk rfl ?_ (by simp only [Blk.nb, rowC_nb, D.nb, D.nbs, C.nb, C.nbs, C.nbss, rows_nb eI_nb, Bool.and_true, Bool.not_false, Bool.and_self, bD, dI, iD, rows_nb eO_nb, rows_nb eSt_nb, rows_nb eWs_nb, rows_nb eOf_nb]); exact .refl _
end Go.Dw.Seat
end
section
set_option linter.unusedSimpArgs false
set_option maxRecDepth 100000
namespace Go.Dw.Seat
open Go Go.Dw Go.Proofs Go.IntWalk
def cmpL2 (a b : List Int) : Int := orL [(a.length : Int) - b.length, cmpL a b]
theorem trAgainst1 (b1 b2 : Bool) (s t : List Int) (hs : s.length ≤ 2 ^ 36) (ht : t.length ≤ 2 ^ 36) : DCall Try.prog 76 [dIs b1 s, dIs b2 t] [] (dI (cmpL2 s t)) [] := by
  have h1 := crCmpL b1 b2 s t hs ht
  have h2 := crOrL true [(s.length : Int) - t.length, cmpL s t] (by simp)
  unfold cmpL2
  generalize cmpL s t = c at *
  generalize orL [(s.length : Int) - t.length, c] = r at *
  refine DCall.of Try.func76 sf76 hb76 (Nat.le_of_ble_eq_true rfl) (okRes_nil fun _ => rfl) ?_; simp only [s76, idxs, Nat.reduceAdd]
  repeat' (first
    | (with_reducible first | refine DW.seq ?_ | refine DW.block ?_ | refine DW.skip ?_ | refine DW.exit ?_ | refine DW.ret ?_ | refine DW.reg ?_)
    | (simp (disch := omega) only [go_sem, simprocAttr, bm_box, bm_row, bk_box, bk_row, List.map_cons, List.map_nil])
    | (exact retS_of rfl rfl rfl)
    | (refine DW.cond_tt rfl ?_)
    | (refine call_c (h1) (by decide) ?_)
    | (refine call_c (h2) (by decide) ?_)
    | (refine DW.cond_ff rfl ?_)
    | (refine DW.cond rfl ?_ ?_ <;> intro hc <;> (try simp only [go_sem] at hc))
    | (refine g_split ?_ ?_ <;> intro hc <;> (try simp only [hc]) <;> (try simp only [go_sem] at hc)))
set_option maxHeartbeats 1000000 in
theorem trMinL (b : Bool) (x : List Int) (l : List (List Int)) (hl : l.length ≤ 2 ^ 30) (g : FuncId) (hg : ∀ u ∈ x :: l, ∀ v ∈ x :: l, DCall Try.prog g [dIs false u, dIs false v] [] (dI (cmpL2 u v)) []) : DCall Try.prog 75 [.c (.sl b 1 (rows eWs (x :: l))), .c (.fn (.func g) [] [])] [] (dIs false (minBy cmpL2 x l)) [] := by
  obtain ⟨L, hL⟩ : ∃ L, L = x :: l := ⟨_, rfl⟩
  have hx : L[0]? = some x := by rw [hL]; rfl
  have hxm : x ∈ L := by rw [hL]; simp
  have hLl : L.length = l.length + 1 := by rw [hL]; rfl
  have h1d : L.drop 1 = l := by rw [hL]; rfl
  rw [← hL] at hg ⊢
  have hd1 : decide ((L.length : Int) < 1) = false := decide_eq_false (by omega)
  have hd0 : decide ((0 : Int) < (L.length : Int)) = true := decide_eq_true (by omega)
  generalize hR : minBy cmpL2 x l = R
  refine DCall.of Try.func75 sf75 hb75 (Nat.le_of_ble_eq_true rfl) (okRes_nil fun _ => rfl) ?_; simp only [s75, idxs, Nat.reduceAdd]
  repeat' (first
    | (with_reducible first | refine DW.seq ?_ | refine DW.block ?_ | refine DW.skip ?_ | refine DW.exit ?_ | refine DW.ret ?_ | refine DW.reg ?_)
    | (simp (disch := omega) only [go_sem, simprocAttr, bm_box, bm_row, bk_box, bk_row, hd1, hd0, hx, List.map_cons, List.map_nil])
    | (exact retS_of rfl rfl rfl)
    | (refine DW.cond_tt rfl ?_)
    | (refine DW.cond_ff rfl ?_)
    | (refine DW.cond rfl ?_ ?_ <;> intro hc <;> (try simp only [go_sem] at hc))
    | (refine g_split ?_ ?_ <;> intro hc <;> (try simp only [hc]) <;> (try simp only [go_sem] at hc)))
  refine DW.loop (ι := { y : Nat × List Int // y.1 ≤ L.length ∧ y.2 ∈ L ∧ minBy cmpL2 y.2 (L.drop y.1) = R }) (fun y => ⟨33, [(6, dI y.1.1), (5, dIs false y.1.2), (4, .c (.v (.slice none 0 0))), (0, .c (.sl b 1 (rows eWs L))), (1, .c (.fn (.func g) [] []))], []⟩) (fun y => L.length - y.1.1) ⟨(1, x), by dsimp only; omega, hxm, by rw [h1d]; exact hR⟩ ?_ ?_
  · refine Ent.to ?_ ?_ <;> simp (disch := omega) only [wkT_cons, wkX_cons, wkT_nil, wkX_nil, get, Nat.reduceEqDiff, ↓reduceIte, ex_some, wk_self, wk_top, wk_nil, wkB_self, and_self, dI, i64_in, and_true, true_and, Int.natCast_add, Int.natCast_one, Int.ofNat_zero, Int.natCast_zero]
    all_goals first | exact ⟨.refl _, .refl _⟩ | exact .refl _
  rintro ⟨⟨i, m⟩, hi, hm, hr⟩
  dsimp only at hi hm hr ⊢
  rcases at_or L i hi with ⟨v, hv, hlt, hd⟩ | ⟨he, hd⟩
  · have hdr : L.drop i = v :: L.drop (i + 1) := by rw [List.drop_eq_getElem_cons hlt, (List.getElem_eq_iff hlt).2 hv]
    have hvm := List.mem_of_getElem? hv
    have hcall := hg v hvm m hm
    rw [hdr, minBy] at hr
    generalize cmpL2 v m = c at *
    by_cases hc : c < 0
    · have hdc : decide (c < 0) = true := decide_eq_true hc
      rw [if_pos hc] at hr
      repeat' (first
    | (with_reducible first | refine DW.seq ?_ | refine DW.block ?_ | refine DW.skip ?_ | refine DW.exit ?_ | refine DW.ret ?_ | refine DW.reg ?_)
    | (simp (disch := omega) only [go_sem, simprocAttr, bm_box, bm_row, bk_box, bk_row, hd, hv, hdc, closeDs_fn, List.map_cons, List.map_nil])
    | (exact retS_of rfl rfl rfl)
    | (refine DW.cond_tt rfl ?_)
    | (refine call_c (hcall) (by decide) ?_)
    | (refine DW.cond_ff rfl ?_)
    | (refine DW.cond rfl ?_ ?_ <;> intro hc <;> (try simp only [go_sem] at hc))
    | (refine g_split ?_ ?_ <;> intro hc <;> (try simp only [hc]) <;> (try simp only [go_sem] at hc)))
      refine ⟨⟨(i + 1, v), hlt, hvm, hr⟩, ?_, Ent.to ?_ ?_⟩ <;> first | (show _ < _; (try simp only); omega) | (simp (disch := omega) only [wkT_cons, wkX_cons, wkT_nil, wkX_nil, get, Nat.reduceEqDiff, ↓reduceIte, ex_some, wk_self, wk_top, wk_nil, wkB_self, and_self, dI, i64_in, and_true, true_and, Int.natCast_add, Int.natCast_one, Int.ofNat_zero, Int.natCast_zero])
      all_goals first | exact ⟨.refl _, .refl _⟩ | exact .refl _
    · have hdc : decide (c < 0) = false := decide_eq_false hc
      rw [if_neg hc] at hr
      repeat' (first
    | (with_reducible first | refine DW.seq ?_ | refine DW.block ?_ | refine DW.skip ?_ | refine DW.exit ?_ | refine DW.ret ?_ | refine DW.reg ?_)
    | (simp (disch := omega) only [go_sem, simprocAttr, bm_box, bm_row, bk_box, bk_row, hd, hv, hdc, closeDs_fn, List.map_cons, List.map_nil])
    | (exact retS_of rfl rfl rfl)
    | (refine DW.cond_tt rfl ?_)
    | (refine call_c (hcall) (by decide) ?_)
    | (refine DW.cond_ff rfl ?_)
    | (refine DW.cond rfl ?_ ?_ <;> intro hc <;> (try simp only [go_sem] at hc))
    | (refine g_split ?_ ?_ <;> intro hc <;> (try simp only [hc]) <;> (try simp only [go_sem] at hc)))
      refine ⟨⟨(i + 1, m), hlt, hm, hr⟩, ?_, Ent.to ?_ ?_⟩ <;> first | (show _ < _; (try simp only); omega) | (simp (disch := omega) only [wkT_cons, wkX_cons, wkT_nil, wkX_nil, get, Nat.reduceEqDiff, ↓reduceIte, ex_some, wk_self, wk_top, wk_nil, wkB_self, and_self, dI, i64_in, and_true, true_and, Int.natCast_add, Int.natCast_one, Int.ofNat_zero, Int.natCast_zero])
      all_goals first | exact ⟨.refl _, .refl _⟩ | exact .refl _
  · rw [List.drop_eq_nil_of_le (by omega), minBy] at hr
    subst hr
    repeat' (first
    | (with_reducible first | refine DW.seq ?_ | refine DW.block ?_ | refine DW.skip ?_ | refine DW.exit ?_ | refine DW.ret ?_ | refine DW.reg ?_)
    | (simp (disch := omega) only [go_sem, simprocAttr, bm_box, bm_row, bk_box, bk_row, hd])
    | (exact retS_of rfl rfl rfl)
    | (refine DW.cond_tt rfl ?_)
    | (refine DW.cond_ff rfl ?_)
    | (refine DW.cond rfl ?_ ?_ <;> intro hc <;> (try simp only [go_sem] at hc))
    | (refine g_split ?_ ?_ <;> intro hc <;> (try simp only [hc]) <;> (try simp only [go_sem] at hc)))
    refine retS_wk rfl ?_ (by simp only [Blk.nb, rowC_nb, D.nb, D.nbs, C.nb, C.nbs, C.nbss, rows_nb eI_nb, Bool.and_true, Bool.not_false, Bool.and_self, bD, dI, iD, rows_nb eO_nb, rows_nb eSt_nb, rows_nb eWs_nb, rows_nb eOf_nb]); exact .refl _
def badsF (p : TPap) (l : List TOrd) (n : Nat) : List (List Int) := ((List.range n).filter fun s => (planF p (selF s 0 l)).isNone).map numsI
def agE (p : TPap) (l : List TOrd) : Int := if openE p l ≠ 0 then openE p l else if (planF p l).isSome then 7 else 0
def agD (p : TPap) (l : List TOrd) : D := if agE p l ≠ 0 then .c (.v (.slice none 0 0)) else match badsF p l (2 ^ l.length) with
  | [] => .c (.v (.slice none 0 0))
  | x :: t => dIs false (minBy cmpL2 x t)
theorem badsF_succ (p : TPap) (l : List TOrd) (n : Nat) : badsF p l (n + 1) = badsF p l n ++ (if (planF p (selF n 0 l)).isNone then [numsI n] else []) := by
  rw [badsF, List.range_succ, List.filter_append, List.map_append, badsF]
  congr 1
  rw [List.filter_cons]
  split <;> simp
theorem badsF_len (p : TPap) (l : List TOrd) (n : Nat) : (badsF p l n).length ≤ n := by
  rw [badsF, List.length_map]
  exact Nat.le_trans (List.length_filter_le _ _) (by simp)
theorem badsF_ne {p : TPap} {l : List TOrd} (hl : l.length ≤ 4) (h : planF p l = none) : badsF p l (2 ^ l.length) ≠ [] := by
  intro he
  rw [badsF, List.map_eq_nil_iff, List.filter_eq_nil_iff] at he
  have h1 := Nat.one_le_two_pow (n := l.length)
  have := he (2 ^ l.length - 1) (by simp; omega)
  rw [selF_all l 0 l.length (by omega) hl, h] at this
  simp at this
theorem numsI_len (s : Nat) : (numsI s).length ≤ 4 := by
  rw [numsI, numsT, List.length_map]
  exact Nat.le_trans (List.length_filter_le _ _) (by simp)
theorem badsF_mem {p : TPap} {l : List TOrd} {n : Nat} {u : List Int} (h : u ∈ badsF p l n) : u.length ≤ 4 := by
  rw [badsF, List.mem_map] at h
  obtain ⟨s, _, rfl⟩ := h
  exact numsI_len s
set_option maxHeartbeats 4000000 in
theorem trAgainst (p : TPap) (l : List TOrd) (hl : l.length ≤ 2 ^ 36) : DCall Try.prog 36 [papD p, .c (.sl false 3 (rows eO l))] [] (.tup [agD p l, dI (agE p l)]) [] := by
  by_cases h : openE p l = 0
  case neg =>
    have h1 := trOpenE false p l hl h
    have hE : agE p l = openE p l := if_pos h
    rw [agD, hE, if_pos h]
    generalize openE p l = e at *
    have hd : (e != 0) = true := by simpa using h
    refine DCall.of Try.func36 sf36 hb36 (Nat.le_of_ble_eq_true rfl) (okRes_nil fun _ => rfl) ?_; simp only [s36, idxs, Nat.reduceAdd]
    repeat' (first
    | (with_reducible first | refine DW.seq ?_ | refine DW.block ?_ | refine DW.skip ?_ | refine DW.exit ?_ | refine DW.ret ?_ | refine DW.reg ?_)
    | (simp (disch := omega) only [go_sem, simprocAttr, bm_box, bm_row, bk_box, bk_row, hd])
    | (exact retS_of rfl rfl rfl)
    | (refine DW.cond_tt rfl ?_)
    | (refine call_c (h1) (by decide) ?_)
    | (refine DW.cond_ff rfl ?_)
    | (refine DW.cond rfl ?_ ?_ <;> intro hc <;> (try simp only [go_sem] at hc))
    | (refine g_split ?_ ?_ <;> intro hc <;> (try simp only [hc]) <;> (try simp only [go_sem] at hc)))
  obtain ⟨hp, hl4, ho⟩ := openE_ok h
  have h1 := trOpen p l h
  have h2 := trPlanM p hp l hl4 ho
  cases hR : planF p l with
  | some x =>
    have hE : agE p l = 7 := by unfold agE; rw [if_neg (by simpa using h), hR]; rfl
    rw [agD, hE, if_pos (by decide)]
    rw [hR] at h2
    simp only [planD] at h2
    refine DCall.of Try.func36 sf36 hb36 (Nat.le_of_ble_eq_true rfl) (okRes_nil fun _ => rfl) ?_; simp only [s36, idxs, Nat.reduceAdd]
    repeat' (first
    | (with_reducible first | refine DW.seq ?_ | refine DW.block ?_ | refine DW.skip ?_ | refine DW.exit ?_ | refine DW.ret ?_ | refine DW.reg ?_)
    | (simp (disch := omega) only [go_sem, simprocAttr, bm_box, bm_row, bk_box, bk_row])
    | (exact retS_of rfl rfl rfl)
    | (refine DW.cond_tt rfl ?_)
    | (refine call_c (h1) (by decide) ?_)
    | (refine call_c (h2) (by decide) ?_)
    | (refine DW.cond_ff rfl ?_)
    | (refine DW.cond rfl ?_ ?_ <;> intro hc <;> (try simp only [go_sem] at hc))
    | (refine g_split ?_ ?_ <;> intro hc <;> (try simp only [hc]) <;> (try simp only [go_sem] at hc)))
  | none =>
    have hE : agE p l = 0 := by unfold agE; rw [if_neg (by simpa using h), hR]; rfl
    rw [agD, hE, if_neg (by decide)]
    rw [hR] at h2
    simp only [planD] at h2
    have hne := badsF_ne hl4 hR
    have hpw : 2 ^ l.length ≤ 16 := Nat.pow_le_pow_right (n := 2) (by decide) hl4
    have hsh : shlI IntKind.i64 1 l.length = ((2 ^ l.length : Nat) : Int) := by
      have : ∀ n : Fin 5, shlI IntKind.i64 1 n.1 = ((2 ^ n.1 : Nat) : Int) := by decide +kernel
      exact this ⟨l.length, by omega⟩
    generalize hN : 2 ^ l.length = N at *
    refine DCall.of Try.func36 sf36 hb36 (Nat.le_of_ble_eq_true rfl) (okRes_nil fun _ => by cases badsF p l N <;> rfl) ?_
    simp only [s36, idxs, Nat.reduceAdd]
    repeat' (first
    | (with_reducible first | refine DW.seq ?_ | refine DW.block ?_ | refine DW.skip ?_ | refine DW.exit ?_ | refine DW.ret ?_ | refine DW.reg ?_)
    | (simp (disch := omega) only [go_sem, simprocAttr, bm_box, bm_row, bk_box, bk_row, hsh])
    | (exact retS_of rfl rfl rfl)
    | (refine DW.cond_tt rfl ?_)
    | (refine call_c (h1) (by decide) ?_)
    | (refine call_c (h2) (by decide) ?_)
    | (refine DW.cond_ff rfl ?_)
    | (refine DW.cond rfl ?_ ?_ <;> intro hc <;> (try simp only [go_sem] at hc))
    | (refine g_split ?_ ?_ <;> intro hc <;> (try simp only [hc]) <;> (try simp only [go_sem] at hc)))
    refine DW.ent (Ent.adopt 11 52 1 rfl rfl rfl) ?_
    refine DW.loop (ι := { s : Nat // s ≤ N }) (fun s => ⟨56, [(35, dI s.1), (34, dI N), (11, .own 52), (6, .box 6 0), (5, dI 0), (4, .c (.v (.slice none 0 0)))], [(52, .row 1 (rowC (rows eWs (badsF p l s.1)))), (6, .box [dI p.wide, dI p.tl, dI p.th, dI p.webs, .c (.sl false 3 (rows eO l))])]⟩) (fun s => N - s.1) ⟨0, Nat.zero_le _⟩ ?_ ?_
    · refine Ent.to ?_ ?_ <;> simp (disch := omega) only [wkT_cons, wkX_cons, wkT_nil, wkX_nil, get, Nat.reduceEqDiff, ↓reduceIte, ex_some, wk_self, wk_top, wk_nil, wkB_self, and_self, dI, i64_in, and_true, true_and, Int.natCast_add, Int.natCast_one, Int.ofNat_zero, Int.natCast_zero, ins, Nat.reduceLT, badsF, List.range_zero, List.filter_nil, List.map_nil]
      all_goals first | exact ⟨.refl _, .refl _, .refl _⟩ | exact ⟨.refl _, .refl _⟩ | exact .refl _
    rintro ⟨s, hs⟩
    dsimp only
    by_cases hlt : s < N
    · have hd : decide ((s : Int) < (N : Int)) = true := decide_eq_true (by omega)
      have hs16 : s < 16 := by omega
      have hbl := badsF_len p l s
      have hsc := badsF_succ p l s
      have g1 := trAmong p l hl4 s hs16
      have g2 := trPlanM p hp (selF s 0 l) (Nat.le_trans selF_len hl4) (fun o hm => ho o (selF_mem o hm))
      have g3 := trNumbers s hs16
      generalize badsF p l s = B at *
      cases hR2 : planF p (selF s 0 l) with
      | some x =>
        rw [hR2] at g2 hsc
        simp only [planD] at g2
        rw [if_neg (by simp), List.append_nil] at hsc
        generalize selF s 0 l = S at *
        repeat' (first
    | (with_reducible first | refine DW.seq ?_ | refine DW.block ?_ | refine DW.skip ?_ | refine DW.exit ?_ | refine DW.ret ?_ | refine DW.reg ?_)
    | (simp (disch := omega) only [go_sem, simprocAttr, bm_box, bm_row, bk_box, bk_row, hd])
    | (exact retS_of rfl rfl rfl)
    | (refine DW.cond_tt rfl ?_)
    | (refine call_c (g1) (by decide) ?_)
    | (refine call_c (g2) (by decide) ?_)
    | (refine DW.cond_ff rfl ?_)
    | (refine DW.cond rfl ?_ ?_ <;> intro hc <;> (try simp only [go_sem] at hc))
    | (refine g_split ?_ ?_ <;> intro hc <;> (try simp only [hc]) <;> (try simp only [go_sem] at hc)))
        refine ⟨⟨s + 1, hlt⟩, ?_, Ent.to ?_ ?_⟩ <;> first | (show _ < _; (try simp only); omega) | (simp (disch := omega) only [wkT_cons, wkX_cons, wkT_nil, wkX_nil, get, Nat.reduceEqDiff, ↓reduceIte, ex_some, wk_self, wk_top, wk_nil, wkB_self, and_self, dI, i64_in, and_true, true_and, Int.natCast_add, Int.natCast_one, Int.ofNat_zero, Int.natCast_zero,  hsc])
        all_goals first | exact ⟨.refl _, .refl _, .refl _⟩ | exact ⟨.refl _, .refl _⟩ | exact .refl _
      | none =>
        rw [hR2] at g2 hsc
        simp only [planD] at g2
        rw [if_pos (by simp)] at hsc
        generalize selF s 0 l = S at *
        generalize numsI s = M at *
        repeat' (first
    | (with_reducible first | refine DW.seq ?_ | refine DW.block ?_ | refine DW.skip ?_ | refine DW.exit ?_ | refine DW.ret ?_ | refine DW.reg ?_)
    | (simp (disch := omega) only [go_sem, simprocAttr, bm_box, bm_row, bk_box, bk_row, hd])
    | (exact retS_of rfl rfl rfl)
    | (refine DW.cond_tt rfl ?_)
    | (refine call_c (g1) (by decide) ?_)
    | (refine call_c (g2) (by decide) ?_)
    | (refine call_c (g3) (by decide) ?_)
    | (refine DW.cond_ff rfl ?_)
    | (refine DW.cond rfl ?_ ?_ <;> intro hc <;> (try simp only [go_sem] at hc))
    | (refine g_split ?_ ?_ <;> intro hc <;> (try simp only [hc]) <;> (try simp only [go_sem] at hc)))
        refine ⟨⟨s + 1, hlt⟩, ?_, Ent.to ?_ ?_⟩ <;> first | (show _ < _; (try simp only); omega) | (simp (disch := omega) only [wkT_cons, wkX_cons, wkT_nil, wkX_nil, get, Nat.reduceEqDiff, ↓reduceIte, ex_some, wk_self, wk_top, wk_nil, wkB_self, and_self, dI, i64_in, and_true, true_and, Int.natCast_add, Int.natCast_one, Int.ofNat_zero, Int.natCast_zero,  hsc, rowC_snocW])
        all_goals first | exact ⟨.refl _, .refl _, .refl _⟩ | exact ⟨.refl _, .refl _⟩ | exact .refl _
    · obtain rfl : s = N := by omega
      have hd : decide ((s : Int) < (s : Int)) = false := decide_eq_false (by omega)
      have hmem : ∀ u ∈ badsF p l s, u.length ≤ 4 := fun u hu => badsF_mem hu
      have hbl := badsF_len p l s
      cases hB : badsF p l s with
      | nil => exact absurd hB hne
      | cons x t =>
        rw [hB] at hmem hbl
        have g := trMinL true x t (by simp only [List.length_cons] at hbl; omega) 76 (fun u hu v hv => trAgainst1 false false u v (by have := hmem u hu; omega) (by have := hmem v hv; omega))
        dsimp only
        generalize minBy cmpL2 x t = m at *
        generalize x :: t = X at *
        repeat' (first
    | (with_reducible first | refine DW.seq ?_ | refine DW.block ?_ | refine DW.skip ?_ | refine DW.exit ?_ | refine DW.ret ?_ | refine DW.reg ?_)
    | (simp (disch := omega) only [go_sem, simprocAttr, bm_box, bm_row, bk_box, bk_row, hd])
    | (exact retS_of rfl rfl rfl)
    | (refine DW.cond_tt rfl ?_)
    | (refine call_c (g) (by decide) ?_)
    | (refine DW.cond_ff rfl ?_)
    | (refine DW.cond rfl ?_ ?_ <;> intro hc <;> (try simp only [go_sem] at hc))
    | (refine g_split ?_ ?_ <;> intro hc <;> (try simp only [hc]) <;> (try simp only [go_sem] at hc)))
        refine retS_wk rfl ?_ (by simp only [Blk.nb, rowC_nb, D.nb, D.nbs, C.nb, C.nbs, C.nbss, rows_nb eI_nb, Bool.and_true, Bool.not_false, Bool.and_self, bD, dI, iD, rows_nb eO_nb, rows_nb eSt_nb, rows_nb eWs_nb, rows_nb eOf_nb]); exact .refl _
end Go.Dw.Seat
end
section
set_option linter.unusedSimpArgs false
set_option maxRecDepth 100000
namespace Go.Dw.Seat
open Go Go.Dw Go.Proofs Go.IntWalk
theorem ex_open (m : Int) (h : 20 ≤ m ∧ m ≤ 3000) : openE (exP m) exO = 0 := openE_yes ⟨by simp [exP], by simp [exP]; omega, by simp [exP]⟩ (by decide) (by
  intro o ho
  simp only [exO, List.mem_cons, List.not_mem_nil, or_false] at ho
  rcases ho with rfl | rfl | rfl <;> exact ⟨by decide, by decide⟩)
def exQ : List TStp := [⟨[0, 0, 2], 2⟩, ⟨[0, 3, 0], 1⟩, ⟨[2, 1, 0], 5⟩]
def exA : List (List Int) := patsX (exP 200) exO 3 []
theorem ex_all : exA.length = 3 := by decide +kernel
theorem ex_all0 : exA[0]? = some [0, 0, 2] := by decide +kernel
theorem ex_plan : planF (exP 200) exO = none := by
  have : (planF (exP 200) exO).isNone = true := by decide +kernel
  simpa using this
def qEq (a b : List TStp) : Bool := a.map (·.ws) == b.map (·.ws) && a.map (·.run) == b.map (·.run)
theorem qEq_eq : ∀ {a b : List TStp}, qEq a b = true → a = b
  | [], [], _ => rfl
  | [], _ :: _, h => by simp [qEq] at h
  | _ :: _, [], h => by simp [qEq] at h
  | ⟨w, r⟩ :: a, ⟨w', r'⟩ :: b, h => by
    simp only [qEq, List.map_cons, Bool.and_eq_true, beq_iff_eq, List.cons.injEq] at h
    obtain ⟨⟨rfl, h1⟩, rfl, h2⟩ := h
    rw [qEq_eq (a := a) (b := b) (by simp [qEq, h1, h2])]
theorem ex_plan4 : planF (exP 400) exO = some (exQ, 1600) := by
  have h : (match planF (exP 400) exO with | some x => qEq x.1 exQ && x.2 == 1600 | none => false) = true := by decide +kernel
  cases hp : planF (exP 400) exO with
  | none => rw [hp] at h; cases h
  | some x =>
    rw [hp] at h
    simp only [Bool.and_eq_true, beq_iff_eq] at h
    obtain ⟨q, w⟩ := x
    obtain ⟨h1, h2⟩ := h
    dsimp only at h1 h2
    rw [qEq_eq h1, h2]
theorem ex_ag : (match badsF (exP 200) exO 8 with | [] => [] | x :: t => minBy cmpL2 x t) = [1] := by decide +kernel
theorem ex_get : getX (exP 400) exO exQ = .inl ([10, 8, 4], 1600) := by decide +kernel
theorem ex_bnd : boundI (exP 400) exO = (2, 8, 160) ∧ boundE (exP 400) exO = 0 := by decide +kernel
theorem ex_knv : knvL (exP 400) exO [2, 1, 0] = [100, 900, 1700, 2400] ∧ owE (exP 400) exO [2, 1, 0] = 0 := by decide +kernel
theorem ex_chE : chgE [100, 900, 1700, 2400] [50, 1250, 2450] = 0 := by decide +kernel
theorem ex_ch : edI [100, 900, 1700, 2400] [50, 1250, 2450] 4 3 = 950 := by
  simp [edI, atI]
  decide
theorem ex_sh : sheetsI 1000 1 10 = (99, 101) ∧ sheetsE 1000 1 10 = 0 := by decide +kernel
theorem ex_cho : choI [exP 200, exP 400] exO = 1 ∧ choE [exP 200, exP 400] exO = 0 := by decide +kernel
end Go.Dw.Seat
end
section
set_option linter.unusedSimpArgs false
set_option maxRecDepth 100000
namespace Go.Dw.Seat
open Go Go.Dw Go.Proofs Go.IntWalk
theorem sameY {R : Bool} {α : Type} {s t : List α} (h : s = t) (hR : R = true) : (R = true ↔ s = t) := by simp [h, hR]
set_option maxHeartbeats 8000000 in
theorem laKnown : DCall Try.prog 15 [] [] (bD true) [] := by
  have p2 := laPaper 200
  have p4 := laPaper 400
  have po := laOrders
  have e2 := ex_open 200 (by decide)
  have e4 := ex_open 400 (by decide)
  have c1 := trPatternsX (exP 200) exO (by decide)
  rw [patsD, if_pos e2, e2, show patsX (exP 200) exO exO.length [] = exA from rfl] at c1
  have c2 := trPlanX (exP 200) exO (by decide)
  rw [planX, if_pos e2, ex_plan] at c2
  dsimp only at c2
  have c3 := trAgainst (exP 200) exO (by decide)
  have a3 : agE (exP 200) exO = 0 := by unfold agE; rw [if_neg (by simpa using e2), ex_plan]; rfl
  have a4 : agD (exP 200) exO = dIs false [1] := by
    rw [agD, a3, if_neg (by decide)]
    have h := ex_ag
    have hne := badsF_ne (p := exP 200) (l := exO) (by decide) ex_plan
    rw [show (2 ^ exO.length) = 8 from rfl] at hne ⊢
    cases hb : badsF (exP 200) exO 8 with
    | nil => exact absurd hb hne
    | cons x t =>
      rw [hb] at h
      dsimp only at h ⊢
      rw [h]
  rw [a3, a4] at c3
  have c4 := trPlanX (exP 400) exO (by decide)
  rw [planX, if_pos e4, ex_plan4] at c4
  dsimp only at c4
  have c5 := trGetX (exP 400) exO (by decide) exQ (by decide)
  rw [ex_get] at c5
  simp only [doesD] at c5
  have c6 := trBound (exP 400) exO (by decide)
  rw [ex_bnd.1, ex_bnd.2] at c6
  have c7 := trKnives true (exP 400) exO (by decide) [2, 1, 0] (by decide)
  rw [knvD, if_pos ex_knv.2, ex_knv.1, ex_knv.2] at c7
  have c8 := trChangeX true true [100, 900, 1700, 2400] [50, 1250, 2450] (by decide) (by decide)
  rw [chgI, if_pos ex_chE, ex_chE, show edI [100, 900, 1700, 2400] [50, 1250, 2450] ([100, 900, 1700, 2400] : List Int).length ([50, 1250, 2450] : List Int).length = 950 from ex_ch] at c8
  have c9 := trSheets 1000 1 10
  rw [ex_sh.1, ex_sh.2] at c9
  have c10 := trChoose true [exP 200, exP 400] (by decide) exO (by decide)
  rw [ex_cho.1, ex_cho.2] at c10
  have s1 := laSetup 2 [0, 0, 2]
  have s2 := laSetup 1 [0, 3, 0]
  have s3 := laSetup 5 [2, 1, 0]
  have i1 := reInts false true [0, 0, 2] [0, 0, 2] (by decide) (by decide)
  have i2 := reInts false true [1] [1] (by decide) (by decide)
  have i3 := reInts false true [10, 8, 4] [10, 8, 4] (by decide) (by decide)
  have i4 := reInts false true [100, 900, 1700, 2400] [100, 900, 1700, 2400] (by decide) (by decide)
  rw [decide_eq_true rfl] at i1 i2 i3 i4
  have i5 := reSame false true exQ exQ (by decide) (by decide) (by decide) (by decide) true (sameY rfl rfl)
  have l1 := laSpan 99 101
  have hl := ex_all
  have h0 := ex_all0
  generalize exA = A at *
  clear e2 e4 a3 a4
  have dl : ((A.length : Int) != 3) = false := by rw [hl]; rfl
  have d0 : decide ((0 : Int) < (A.length : Int)) = true := by rw [hl]; rfl
  refine DCall.of Try.func15 sf15 hb15 (Nat.le_of_ble_eq_true rfl) (okRes_nil fun _ => rfl) ?_; simp only [s15, idxs, Nat.reduceAdd]
  repeat' (first
    | (with_reducible first | refine DW.seq ?_ | refine DW.block ?_ | refine DW.skip ?_ | refine DW.exit ?_ | refine DW.ret ?_ | refine DW.reg ?_)
    | (refine DW.dreg rfl (WF.of ?_) ?_; first | rfl | skip)
    | (simp (disch := omega) only [go_sem, simprocAttr, bm_box, bm_row, bk_box, bk_row])
    | (exact retS_of rfl rfl rfl)
    | (refine DW.cond_tt rfl ?_)
    | (refine call_c (p2) (by decide) ?_)
    | (refine call_c (p4) (by decide) ?_)
    | (refine call_c (po) (by decide) ?_)
    | (refine call_c (c1) (by decide) ?_)
    | (refine call_c (c2) (by decide) ?_)
    | (refine call_c (c3) (by decide) ?_)
    | (refine call_c (c4) (by decide) ?_)
    | (refine DW.cond_ff rfl ?_)
    | (refine DW.cond rfl ?_ ?_ <;> intro hc <;> (try simp only [go_sem] at hc))
    | (refine g_split ?_ ?_ <;> intro hc <;> (try simp only [hc]) <;> (try simp only [go_sem] at hc)))
  refine call_rel 52 rfl ?_
  simp (disch := omega) only [go_sem, simprocAttr, bm_box, bm_row, bk_box, bk_row]
  refine opsN.c s1 rfl rfl (by decide) ?_
  simp (disch := omega) only [go_sem, simprocAttr, bm_box, bm_row, bk_box, bk_row]
  repeat' (first
    | (with_reducible first | refine DW.seq ?_ | refine DW.block ?_ | refine DW.skip ?_ | refine DW.exit ?_ | refine DW.ret ?_ | refine DW.reg ?_)
    | (refine DW.dreg rfl (WF.of ?_) ?_; first | rfl | skip)
    | (simp (disch := omega) only [go_sem, simprocAttr, bm_box, bm_row, bk_box, bk_row, dl, d0, h0])
    | (exact retS_of rfl rfl rfl)
    | (refine DW.cond_tt rfl ?_)
    | (refine call_c (p2) (by decide) ?_)
    | (refine call_c (p4) (by decide) ?_)
    | (refine call_c (po) (by decide) ?_)
    | (refine call_c (c6) (by decide) ?_)
    | (refine call_c (c7) (by decide) ?_)
    | (refine call_c (c8) (by decide) ?_)
    | (refine call_c (c9) (by decide) ?_)
    | (refine call_c (c10) (by decide) ?_)
    | (refine call_c (i1) (by decide) ?_)
    | (refine call_c (i2) (by decide) ?_)
    | (refine call_c (i3) (by decide) ?_)
    | (refine call_c (i4) (by decide) ?_)
    | (refine call_c (i5) (by decide) ?_)
    | (refine call_c (l1) (by decide) ?_)
    | (refine DW.cond_ff rfl ?_)
    | (refine DW.cond rfl ?_ ?_ <;> intro hc <;> (try simp only [go_sem] at hc))
    | (refine g_split ?_ ?_ <;> intro hc <;> (try simp only [hc]) <;> (try simp only [go_sem] at hc)))
  refine call_rel 54 rfl ?_
  simp (disch := omega) only [go_sem, simprocAttr, bm_box, bm_row, bk_box, bk_row]
  refine opsN.c s2 rfl rfl (by decide) ?_
  simp (disch := omega) only [go_sem, simprocAttr, bm_box, bm_row, bk_box, bk_row]
  repeat' (first
    | (with_reducible first | refine DW.seq ?_ | refine DW.block ?_ | refine DW.skip ?_ | refine DW.exit ?_ | refine DW.ret ?_ | refine DW.reg ?_)
    | (refine DW.dreg rfl (WF.of ?_) ?_; first | rfl | skip)
    | (simp (disch := omega) only [go_sem, simprocAttr, bm_box, bm_row, bk_box, bk_row, dl, d0, h0])
    | (exact retS_of rfl rfl rfl)
    | (refine DW.cond_tt rfl ?_)
    | (refine call_c (p2) (by decide) ?_)
    | (refine call_c (p4) (by decide) ?_)
    | (refine call_c (po) (by decide) ?_)
    | (refine call_c (c6) (by decide) ?_)
    | (refine call_c (c7) (by decide) ?_)
    | (refine call_c (c8) (by decide) ?_)
    | (refine call_c (c9) (by decide) ?_)
    | (refine call_c (c10) (by decide) ?_)
    | (refine call_c (i1) (by decide) ?_)
    | (refine call_c (i2) (by decide) ?_)
    | (refine call_c (i3) (by decide) ?_)
    | (refine call_c (i4) (by decide) ?_)
    | (refine call_c (i5) (by decide) ?_)
    | (refine call_c (l1) (by decide) ?_)
    | (refine DW.cond_ff rfl ?_)
    | (refine DW.cond rfl ?_ ?_ <;> intro hc <;> (try simp only [go_sem] at hc))
    | (refine g_split ?_ ?_ <;> intro hc <;> (try simp only [hc]) <;> (try simp only [go_sem] at hc)))
  refine call_rel 56 rfl ?_
  simp (disch := omega) only [go_sem, simprocAttr, bm_box, bm_row, bk_box, bk_row]
  refine opsN.c s3 rfl rfl (by decide) ?_
  simp (disch := omega) only [go_sem, simprocAttr, bm_box, bm_row, bk_box, bk_row]
  repeat' (first
    | (with_reducible first | refine DW.seq ?_ | refine DW.block ?_ | refine DW.skip ?_ | refine DW.exit ?_ | refine DW.ret ?_ | refine DW.reg ?_)
    | (refine DW.dreg rfl (WF.of ?_) ?_; first | rfl | skip)
    | (simp (disch := omega) only [go_sem, simprocAttr, bm_box, bm_row, bk_box, bk_row, dl, d0, h0])
    | (exact retS_of rfl rfl rfl)
    | (refine DW.cond_tt rfl ?_)
    | (refine call_c (p2) (by decide) ?_)
    | (refine call_c (p4) (by decide) ?_)
    | (refine call_c (po) (by decide) ?_)
    | (refine call_c (c6) (by decide) ?_)
    | (refine call_c (c7) (by decide) ?_)
    | (refine call_c (c8) (by decide) ?_)
    | (refine call_c (c9) (by decide) ?_)
    | (refine call_c (c10) (by decide) ?_)
    | (refine call_c (i1) (by decide) ?_)
    | (refine call_c (i2) (by decide) ?_)
    | (refine call_c (i3) (by decide) ?_)
    | (refine call_c (i4) (by decide) ?_)
    | (refine call_c (i5) (by decide) ?_)
    | (refine call_c (l1) (by decide) ?_)
    | (refine DW.cond_ff rfl ?_)
    | (refine DW.cond rfl ?_ ?_ <;> intro hc <;> (try simp only [go_sem] at hc))
    | (refine g_split ?_ ?_ <;> intro hc <;> (try simp only [hc]) <;> (try simp only [go_sem] at hc)))
  refine call_rel 58 rfl ?_
  simp (disch := omega) only [go_sem, simprocAttr, bm_box, bm_row, bk_box, bk_row]
  refine opsN.c c5 rfl rfl (by decide) ?_
  simp (disch := omega) only [go_sem, simprocAttr, bm_box, bm_row, bk_box, bk_row]
  repeat' (first
    | (with_reducible first | refine DW.seq ?_ | refine DW.block ?_ | refine DW.skip ?_ | refine DW.exit ?_ | refine DW.ret ?_ | refine DW.reg ?_)
    | (refine DW.dreg rfl (WF.of ?_) ?_; first | rfl | skip)
    | (simp (disch := omega) only [go_sem, simprocAttr, bm_box, bm_row, bk_box, bk_row, dl, d0, h0])
    | (exact retS_of rfl rfl rfl)
    | (refine DW.cond_tt rfl ?_)
    | (refine call_c (p2) (by decide) ?_)
    | (refine call_c (p4) (by decide) ?_)
    | (refine call_c (po) (by decide) ?_)
    | (refine call_c (c6) (by decide) ?_)
    | (refine call_c (c7) (by decide) ?_)
    | (refine call_c (c8) (by decide) ?_)
    | (refine call_c (c9) (by decide) ?_)
    | (refine call_c (c10) (by decide) ?_)
    | (refine call_c (i1) (by decide) ?_)
    | (refine call_c (i2) (by decide) ?_)
    | (refine call_c (i3) (by decide) ?_)
    | (refine call_c (i4) (by decide) ?_)
    | (refine call_c (i5) (by decide) ?_)
    | (refine call_c (l1) (by decide) ?_)
    | (refine DW.cond_ff rfl ?_)
    | (refine DW.cond rfl ?_ ?_ <;> intro hc <;> (try simp only [go_sem] at hc))
    | (refine g_split ?_ ?_ <;> intro hc <;> (try simp only [hc]) <;> (try simp only [go_sem] at hc)))
  refine call_rel 154 rfl ?_
  simp (disch := omega) only [go_sem, simprocAttr, bm_box, bm_row, bk_box, bk_row]
  refine opsN.c s1 rfl rfl (by decide) ?_
  simp (disch := omega) only [go_sem, simprocAttr, bm_box, bm_row, bk_box, bk_row]
  repeat' (first
    | (with_reducible first | refine DW.seq ?_ | refine DW.block ?_ | refine DW.skip ?_ | refine DW.exit ?_ | refine DW.ret ?_ | refine DW.reg ?_)
    | (refine DW.dreg rfl (WF.of ?_) ?_; first | rfl | skip)
    | (simp (disch := omega) only [go_sem, simprocAttr, bm_box, bm_row, bk_box, bk_row, dl, d0, h0])
    | (exact retS_of rfl rfl rfl)
    | (refine DW.cond_tt rfl ?_)
    | (refine call_c (p2) (by decide) ?_)
    | (refine call_c (p4) (by decide) ?_)
    | (refine call_c (po) (by decide) ?_)
    | (refine call_c (c6) (by decide) ?_)
    | (refine call_c (c7) (by decide) ?_)
    | (refine call_c (c8) (by decide) ?_)
    | (refine call_c (c9) (by decide) ?_)
    | (refine call_c (c10) (by decide) ?_)
    | (refine call_c (i1) (by decide) ?_)
    | (refine call_c (i2) (by decide) ?_)
    | (refine call_c (i3) (by decide) ?_)
    | (refine call_c (i4) (by decide) ?_)
    | (refine call_c (i5) (by decide) ?_)
    | (refine call_c (l1) (by decide) ?_)
    | (refine DW.cond_ff rfl ?_)
    | (refine DW.cond rfl ?_ ?_ <;> intro hc <;> (try simp only [go_sem] at hc))
    | (refine g_split ?_ ?_ <;> intro hc <;> (try simp only [hc]) <;> (try simp only [go_sem] at hc)))
  refine call_rel 156 rfl ?_
  simp (disch := omega) only [go_sem, simprocAttr, bm_box, bm_row, bk_box, bk_row]
  refine opsN.c s2 rfl rfl (by decide) ?_
  simp (disch := omega) only [go_sem, simprocAttr, bm_box, bm_row, bk_box, bk_row]
  repeat' (first
    | (with_reducible first | refine DW.seq ?_ | refine DW.block ?_ | refine DW.skip ?_ | refine DW.exit ?_ | refine DW.ret ?_ | refine DW.reg ?_)
    | (refine DW.dreg rfl (WF.of ?_) ?_; first | rfl | skip)
    | (simp (disch := omega) only [go_sem, simprocAttr, bm_box, bm_row, bk_box, bk_row, dl, d0, h0])
    | (exact retS_of rfl rfl rfl)
    | (refine DW.cond_tt rfl ?_)
    | (refine call_c (p2) (by decide) ?_)
    | (refine call_c (p4) (by decide) ?_)
    | (refine call_c (po) (by decide) ?_)
    | (refine call_c (c6) (by decide) ?_)
    | (refine call_c (c7) (by decide) ?_)
    | (refine call_c (c8) (by decide) ?_)
    | (refine call_c (c9) (by decide) ?_)
    | (refine call_c (c10) (by decide) ?_)
    | (refine call_c (i1) (by decide) ?_)
    | (refine call_c (i2) (by decide) ?_)
    | (refine call_c (i3) (by decide) ?_)
    | (refine call_c (i4) (by decide) ?_)
    | (refine call_c (i5) (by decide) ?_)
    | (refine call_c (l1) (by decide) ?_)
    | (refine DW.cond_ff rfl ?_)
    | (refine DW.cond rfl ?_ ?_ <;> intro hc <;> (try simp only [go_sem] at hc))
    | (refine g_split ?_ ?_ <;> intro hc <;> (try simp only [hc]) <;> (try simp only [go_sem] at hc)))
  refine call_rel 158 rfl ?_
  simp (disch := omega) only [go_sem, simprocAttr, bm_box, bm_row, bk_box, bk_row]
  refine opsN.c s3 rfl rfl (by decide) ?_
  simp (disch := omega) only [go_sem, simprocAttr, bm_box, bm_row, bk_box, bk_row]
  repeat' (first
    | (with_reducible first | refine DW.seq ?_ | refine DW.block ?_ | refine DW.skip ?_ | refine DW.exit ?_ | refine DW.ret ?_ | refine DW.reg ?_)
    | (refine DW.dreg rfl (WF.of ?_) ?_; first | rfl | skip)
    | (simp (disch := omega) only [go_sem, simprocAttr, bm_box, bm_row, bk_box, bk_row, dl, d0, h0])
    | (exact retS_of rfl rfl rfl)
    | (refine DW.cond_tt rfl ?_)
    | (refine call_c (p2) (by decide) ?_)
    | (refine call_c (p4) (by decide) ?_)
    | (refine call_c (po) (by decide) ?_)
    | (refine call_c (c6) (by decide) ?_)
    | (refine call_c (c7) (by decide) ?_)
    | (refine call_c (c8) (by decide) ?_)
    | (refine call_c (c9) (by decide) ?_)
    | (refine call_c (c10) (by decide) ?_)
    | (refine call_c (i1) (by decide) ?_)
    | (refine call_c (i2) (by decide) ?_)
    | (refine call_c (i3) (by decide) ?_)
    | (refine call_c (i4) (by decide) ?_)
    | (refine call_c (i5) (by decide) ?_)
    | (refine call_c (l1) (by decide) ?_)
    | (refine DW.cond_ff rfl ?_)
    | (refine DW.cond rfl ?_ ?_ <;> intro hc <;> (try simp only [go_sem] at hc))
    | (refine g_split ?_ ?_ <;> intro hc <;> (try simp only [hc]) <;> (try simp only [go_sem] at hc)))
end Go.Dw.Seat
end
section
set_option linter.unusedSimpArgs false
set_option maxRecDepth 100000
namespace Go.Dw.Seat
open Go Go.Dw Go.Proofs Go.IntWalk
structure NowOk (p : TPap) (l : List TOrd) (T : List (List Int)) (q : List TStp) : Prop where
  asc : (q.map (·.ws) ++ T).Pairwise fun a b => lexW a b = true
  ok : ∀ s ∈ q, WsOk p l s.ws ∧ 1 ≤ s.run ∧ s.run ≤ 30
theorem NowOk.tail {p : TPap} {l : List TOrd} {T : List (List Int)} {q : List TStp} {ws : List Int} (h : NowOk p l (ws :: T) q) : NowOk p l T q :=
  ⟨h.asc.sublist (List.Sublist.append (List.Sublist.refl _) (List.sublist_cons_self _ _)), h.ok⟩
end Go.Dw.Seat
end
section
set_option linter.unusedSimpArgs false
set_option maxRecDepth 100000
namespace Go.Dw.Seat
open Go Go.Dw Go.Proofs Go.ChangeShapes Go.WideShapes Go.ChangeAt Go.RowKit
theorem tOwn : ownKnob Try.prog.godebug = none := by kernel_rfl
theorem tLaid : laidOutB Try.prog = true := by kernel_rfl
theorem u4 : Try.prog.underlying 4 = some .bool := by kernel_rfl
theorem und5 : Try.prog.underlying 5 = some (.int .u8) := by kernel_rfl
theorem u32 : structIs Try.prog 32 [(3, 0), (3, 1)] = true := by kernel_rfl
theorem u72 : Try.prog.underlying 72 = some (.array 4 5) := by kernel_rfl
theorem u73 : Try.prog.underlying 73 = some (.array 5 5) := by kernel_rfl
theorem u74 : Try.prog.underlying 74 = some (.array 3 73) := by kernel_rfl
theorem u75 : Try.prog.underlying 75 = some (.array 2 5) := by kernel_rfl
theorem u76 : Try.prog.underlying 76 = some (.array 4 75) := by kernel_rfl
theorem u78 : structIs Try.prog 78 [(72, 0), (5, 4), (74, 5), (76, 20), (75, 28)] = true := by kernel_rfl
theorem cl5 : Try.prog.cellsOf 5 = 1 := by kernel_rfl
theorem cl72 : Try.prog.cellsOf 72 = 4 := by kernel_rfl
theorem cl73 : Try.prog.cellsOf 73 = 5 := by kernel_rfl
theorem cl74 : Try.prog.cellsOf 74 = 15 := by kernel_rfl
theorem cl75 : Try.prog.cellsOf 75 = 2 := by kernel_rfl
theorem cl76 : Try.prog.cellsOf 76 = 8 := by kernel_rfl
theorem cl78 : Try.prog.cellsOf 78 = 30 := by kernel_rfl
def eN (l : List Nat) : List C := l.map fun n : Nat => .v (.int .u8 (n : Int))
def e1 (n : Nat) : List C := [.v (.int .u8 n)]
def AllLt (b : Nat) (l : List Nat) : Prop := ∀ x ∈ l, x < b
def bV (l : List Nat) : List Value := l.map fun n : Nat => Value.int .u8 (n : Int)
section
variable {H : Type} {enc : TypeId × Value → H} {w : World} {base : Nat} {spare : Nat → Bool} {held : Bool} {fuel : Nat} {cs : List Value} {x : DataW H × List MemPlace}
theorem wf8 {n : Int} (h : (Lit.int .u8 n).wf = true) : ∃ v : Nat, n = v ∧ v < 256 := by
  have e1 : IntKind.min .u8 = 0 := by decide
  have e2 : IntKind.max .u8 = 255 := by decide
  simp only [Lit.wf, e1, e2, Bool.and_eq_true, decide_eq_true_eq] at h
  exact ⟨n.toNat, by omega, by omega⟩
theorem rep_bytes : ∀ l : List Nat, RepVs w A0 (eN l) (bV l)
  | [] => rfl
  | _ :: l => ⟨_, _, rfl, ⟨rfl, rfl⟩, rep_bytes l⟩
theorem rd_U8 (h : DataW.trod enc Try.prog w base spare held fuel 5 cs = some x) : ∃ l : List Nat, (l.length = 1 ∧ AllLt 256 l) ∧ cs = bV l := by
  obtain ⟨n, e, hw⟩ := rd_int und5 h
  obtain ⟨v, rfl, hv⟩ := wf8 hw
  exact ⟨[v], ⟨rfl, fun x hx => by rw [List.mem_singleton] at hx; rw [hx]; exact hv⟩, e⟩
theorem bV_app (a b : List Nat) : bV (a ++ b) = bV a ++ bV b := by simp [bV]
theorem lt_app {b : Nat} {l l' : List Nat} (h : AllLt b l) (h' : AllLt b l') : AllLt b (l ++ l') := fun x hx => by
  rcases List.mem_append.1 hx with h1 | h1
  · exact h x h1
  · exact h' x h1
theorem rd_arrB {t e : TypeId} {n k : Nat} (ht : Try.prog.underlying t = some (.array n e)) (he : Try.prog.cellsOf e = k) (hc : Try.prog.cellsOf t = n * k)
    (hrd : ∀ m cs x, DataW.trod enc Try.prog w base spare held m e cs = some x → ∃ l : List Nat, (l.length = k ∧ AllLt 256 l) ∧ cs = bV l) (h : DataW.trod enc Try.prog w base spare held fuel t cs = some x) : ∃ l : List Nat, (l.length = n * k ∧ AllLt 256 l) ∧ cs = bV l := by
  obtain ⟨hl, m, hf⟩ := rd_array ht h
  rw [hc] at hl
  have key : ∀ j, j ≤ n → ∃ l : List Nat, (l.length = j * k ∧ AllLt 256 l) ∧ cs.take (j * k) = bV l := by
    intro j
    induction j with
    | zero => intro _; exact ⟨[], ⟨by simp, fun x hx => by cases hx⟩, by simp [bV]⟩
    | succ j ih =>
      intro hj
      obtain ⟨l, ⟨h1, h2⟩, h3⟩ := ih (by omega)
      obtain ⟨y, hy⟩ := hf j (by omega)
      rw [he] at hy
      obtain ⟨l', ⟨h4, h5⟩, h6⟩ := hrd _ _ _ hy
      refine ⟨l ++ l', ⟨by rw [List.length_append, h1, h4, Nat.succ_mul], lt_app h2 h5⟩, ?_⟩
      rw [Nat.succ_mul, List.take_add, h3, h6, bV_app]
  obtain ⟨l, h1, h2⟩ := key n (Nat.le_refl _)
  rw [List.take_of_length_le (by omega)] at h2
  exact ⟨l, h1, h2⟩
theorem rd_A4 (h : DataW.trod enc Try.prog w base spare held fuel 72 cs = some x) : ∃ l : List Nat, (l.length = 4 ∧ AllLt 256 l) ∧ cs = bV l := rd_arrB (n := 4) (k := 1) u72 cl5 cl72 (fun _ _ _ h => rd_U8 h) h
theorem rd_A5 (h : DataW.trod enc Try.prog w base spare held fuel 73 cs = some x) : ∃ l : List Nat, (l.length = 5 ∧ AllLt 256 l) ∧ cs = bV l := rd_arrB (n := 5) (k := 1) u73 cl5 cl73 (fun _ _ _ h => rd_U8 h) h
theorem rd_A2 (h : DataW.trod enc Try.prog w base spare held fuel 75 cs = some x) : ∃ l : List Nat, (l.length = 2 ∧ AllLt 256 l) ∧ cs = bV l := rd_arrB (n := 2) (k := 1) u75 cl5 cl75 (fun _ _ _ h => rd_U8 h) h
theorem rd_A35 (h : DataW.trod enc Try.prog w base spare held fuel 74 cs = some x) : ∃ l : List Nat, (l.length = 15 ∧ AllLt 256 l) ∧ cs = bV l := rd_arrB (n := 3) (k := 5) u74 cl73 cl74 (fun _ _ _ h => rd_A5 h) h
theorem rd_A42 (h : DataW.trod enc Try.prog w base spare held fuel 76 cs = some x) : ∃ l : List Nat, (l.length = 8 ∧ AllLt 256 l) ∧ cs = bV l := rd_arrB (n := 4) (k := 2) u76 cl75 cl76 (fun _ _ _ h => rd_A2 h) h
theorem rd_Shift (h : DataW.trod enc Try.prog w base spare held fuel 78 cs = some x) : ∃ l : List Nat, (l.length = 30 ∧ AllLt 256 l) ∧ cs = bV l := by
  obtain ⟨hl, m, hf⟩ := rd_struct u78 h
  rw [cl78] at hl
  obtain ⟨y0, h0⟩ := hf 0 72 0 rfl
  obtain ⟨y1, h1⟩ := hf 1 5 4 rfl
  obtain ⟨y2, h2⟩ := hf 2 74 5 rfl
  obtain ⟨y3, h3⟩ := hf 3 76 20 rfl
  obtain ⟨y4, h4⟩ := hf 4 75 28 rfl
  rw [cl72] at h0
  rw [cl5] at h1
  rw [cl74] at h2
  rw [cl76] at h3
  rw [cl75] at h4
  obtain ⟨l0, p0, e0⟩ := rd_A4 h0
  obtain ⟨l1, p1, e1⟩ := rd_U8 h1
  obtain ⟨l2, p2, e2⟩ := rd_A35 h2
  obtain ⟨l3, p3, e3⟩ := rd_A42 h3
  obtain ⟨l4, p4, e4⟩ := rd_A2 h4
  refine ⟨l0 ++ (l1 ++ (l2 ++ (l3 ++ l4))), ⟨?_, lt_app p0.2 (lt_app p1.2 (lt_app p2.2 (lt_app p3.2 p4.2)))⟩, ?_⟩
  · simp only [List.length_append, p0.1, p1.1, p2.1, p3.1, p4.1]
  · rw [bV_app, bV_app, bV_app, bV_app, ← e0, ← e1, ← e2, ← e3, ← e4]
    have s4 : (cs.drop 28).take 2 = cs.drop 28 := List.take_of_length_le (by rw [List.length_drop]; omega)
    have s3 : (cs.drop 20).take 8 ++ cs.drop 28 = cs.drop 20 := by rw [show cs.drop 28 = (cs.drop 20).drop 8 by rw [List.drop_drop]]; exact List.take_append_drop _ _
    have s2 : (cs.drop 5).take 15 ++ cs.drop 20 = cs.drop 5 := by rw [show cs.drop 20 = (cs.drop 5).drop 15 by rw [List.drop_drop]]; exact List.take_append_drop _ _
    have s1 : (cs.drop 4).take 1 ++ cs.drop 5 = cs.drop 4 := by rw [show cs.drop 5 = (cs.drop 4).drop 1 by rw [List.drop_drop]]; exact List.take_append_drop _ _
    rw [s4, s3, s2, s1, List.drop_zero]
    exact (List.take_append_drop 4 cs).symm
def stpsOk (l : List TStp) : Prop := ∀ s ∈ l, s.ws.length ≤ maxLen
structure TBrk where
  plan : List TStp
  at' : Int
  done : Int
def TBrk.ok (x : TBrk) : Prop := x.plan.length ≤ maxLen ∧ stpsOk x.plan
end
end Go.Dw.Seat
end
section
set_option linter.unusedSimpArgs false
set_option maxRecDepth 100000
namespace Go.Dw.Seat
open Go Go.Dw Go.Proofs Go.IntWalk
theorem e1_nb (v : Nat) : C.nbs (e1 v) = true := rfl
attribute [go_sem] e1
theorem laBefore (b1 b2 : Bool) (s t : List Int) (hs : s.length ≤ 2 ^ 36) (hl : s.length = t.length) : DCall Try.prog 80 [dIs b1 s, dIs b2 t] [] (bD (lexW s t)) [] := by
  generalize hR : lexW s t = R
  refine DCall.of Try.func80 sf80 hb80 (Nat.le_of_ble_eq_true rfl) (okRes_nil fun _ => rfl) ?_; simp only [s80, idxs, Nat.reduceAdd]
  repeat' (first
    | (with_reducible first | refine DW.seq ?_ | refine DW.block ?_ | refine DW.skip ?_ | refine DW.exit ?_ | refine DW.ret ?_ | refine DW.reg ?_)
    | (refine DW.dreg rfl (WF.of ?_) ?_; first | rfl | skip)
    | (simp (disch := omega) only [go_sem, simprocAttr, bm_box, bm_row, bk_box, bk_row])
    | (exact retS_of rfl rfl rfl)
    | (refine DW.cond_tt rfl ?_)
    | (refine DW.cond_ff rfl ?_)
    | (refine DW.cond rfl ?_ ?_ <;> intro hc <;> (try simp only [go_sem] at hc))
    | (refine g_split ?_ ?_ <;> intro hc <;> (try simp only [hc]) <;> (try simp only [go_sem] at hc)))
  refine DW.loop (ι := { i : Nat // i ≤ s.length ∧ lexW (s.drop i) (t.drop i) = R }) (fun i => ⟨30, [(5, dI i.1), (1, dIs b2 t), (0, dIs b1 s), (4, bD false)], []⟩) (fun i => s.length - i.1) ⟨0, Nat.zero_le _, hR⟩ ?_ ?_
  · refine Ent.to ?_ ?_ <;> simp (disch := omega) only [wkT_cons, wkX_cons, wkT_nil, wkX_nil, get, Nat.reduceEqDiff, ↓reduceIte, ex_some, wk_self, wk_top, wk_nil, wkB_self, and_self, dI, i64_in, and_true, true_and, Int.natCast_add, Int.natCast_one, Int.ofNat_zero, Int.natCast_zero]
    all_goals exact .refl _
  rintro ⟨i, hi, hr⟩
  dsimp only
  rcases at_or s i hi with ⟨v, hv, hlt, hd⟩ | ⟨he, hd⟩
  · obtain ⟨u, hu⟩ := getE (l := t) (i := i) (by omega)
    have h1 : s.drop i = v :: s.drop (i + 1) := by rw [List.drop_eq_getElem_cons hlt, (List.getElem_eq_iff hlt).2 hv]
    have hlt2 : i < t.length := by omega
    have h2 : t.drop i = u :: t.drop (i + 1) := by rw [List.drop_eq_getElem_cons hlt2, (List.getElem_eq_iff hlt2).2 hu]
    rw [h1, h2, lexW] at hr
    by_cases hvu : v = u
    · have d1 : (v != u) = false := by rw [hvu]; simp
      rw [if_pos hvu] at hr
      repeat' (first
    | (with_reducible first | refine DW.seq ?_ | refine DW.block ?_ | refine DW.skip ?_ | refine DW.exit ?_ | refine DW.ret ?_ | refine DW.reg ?_)
    | (refine DW.dreg rfl (WF.of ?_) ?_; first | rfl | skip)
    | (simp (disch := omega) only [go_sem, simprocAttr, bm_box, bm_row, bk_box, bk_row, hd, hv, hu, d1])
    | (exact retS_of rfl rfl rfl)
    | (refine DW.cond_tt rfl ?_)
    | (refine DW.cond_ff rfl ?_)
    | (refine DW.cond rfl ?_ ?_ <;> intro hc <;> (try simp only [go_sem] at hc))
    | (refine g_split ?_ ?_ <;> intro hc <;> (try simp only [hc]) <;> (try simp only [go_sem] at hc)))
      refine ⟨⟨i + 1, hlt, hr⟩, ?_, Ent.to ?_ ?_⟩ <;> first | (show _ < _; (try simp only); omega) | (simp (disch := omega) only [wkT_cons, wkX_cons, wkT_nil, wkX_nil, get, Nat.reduceEqDiff, ↓reduceIte, ex_some, wk_self, wk_top, wk_nil, wkB_self, and_self, dI, i64_in, and_true, true_and, Int.natCast_add, Int.natCast_one, Int.ofNat_zero, Int.natCast_zero])
      all_goals exact .refl _
    · have d1 : (v != u) = true := by simpa using hvu
      rw [if_neg hvu] at hr
      subst hr
      repeat' (first
    | (with_reducible first | refine DW.seq ?_ | refine DW.block ?_ | refine DW.skip ?_ | refine DW.exit ?_ | refine DW.ret ?_ | refine DW.reg ?_)
    | (refine DW.dreg rfl (WF.of ?_) ?_; first | rfl | skip)
    | (simp (disch := omega) only [go_sem, simprocAttr, bm_box, bm_row, bk_box, bk_row, hd, hv, hu, d1])
    | (exact retS_of rfl rfl rfl)
    | (refine DW.cond_tt rfl ?_)
    | (refine DW.cond_ff rfl ?_)
    | (refine DW.cond rfl ?_ ?_ <;> intro hc <;> (try simp only [go_sem] at hc))
    | (refine g_split ?_ ?_ <;> intro hc <;> (try simp only [hc]) <;> (try simp only [go_sem] at hc)))
  · rw [List.drop_eq_nil_of_le (by omega), lexW] at hr
    · subst hr
      repeat' (first
    | (with_reducible first | refine DW.seq ?_ | refine DW.block ?_ | refine DW.skip ?_ | refine DW.exit ?_ | refine DW.ret ?_ | refine DW.reg ?_)
    | (refine DW.dreg rfl (WF.of ?_) ?_; first | rfl | skip)
    | (simp (disch := omega) only [go_sem, simprocAttr, bm_box, bm_row, bk_box, bk_row, hd])
    | (exact retS_of rfl rfl rfl)
    | (refine DW.cond_tt rfl ?_)
    | (refine DW.cond_ff rfl ?_)
    | (refine DW.cond rfl ?_ ?_ <;> intro hc <;> (try simp only [go_sem] at hc))
    | (refine g_split ?_ ?_ <;> intro hc <;> (try simp only [hc]) <;> (try simp only [go_sem] at hc)))
    · intros; contradiction
theorem laEnough (b1 b2 : Bool) (l : List TOrd) (got : List Int) (hl : l.length ≤ 2 ^ 36) (hg : got.length = l.length) : DCall Try.prog 44 [.c (.sl b1 3 (rows eO l)), dIs b2 got] [] (bD (doesB l got)) [] := by
  generalize hR : doesB l got = R
  refine DCall.of Try.func44 sf44 hb44 (Nat.le_of_ble_eq_true rfl) (okRes_nil fun _ => rfl) ?_; simp only [s44, idxs, Nat.reduceAdd]
  repeat' (first
    | (with_reducible first | refine DW.seq ?_ | refine DW.block ?_ | refine DW.skip ?_ | refine DW.exit ?_ | refine DW.ret ?_ | refine DW.reg ?_)
    | (refine DW.dreg rfl (WF.of ?_) ?_; first | rfl | skip)
    | (simp (disch := omega) only [go_sem, simprocAttr, bm_box, bm_row, bk_box, bk_row])
    | (exact retS_of rfl rfl rfl)
    | (refine DW.cond_tt rfl ?_)
    | (refine DW.cond_ff rfl ?_)
    | (refine DW.cond rfl ?_ ?_ <;> intro hc <;> (try simp only [go_sem] at hc))
    | (refine g_split ?_ ?_ <;> intro hc <;> (try simp only [hc]) <;> (try simp only [go_sem] at hc)))
  refine DW.loop (ι := { i : Nat // i ≤ l.length ∧ doesB (l.drop i) (got.drop i) = R }) (fun i => ⟨36, [(5, dI i.1), (1, dIs b2 got), (0, .c (.sl b1 3 (rows eO l))), (4, bD false)], []⟩) (fun i => l.length - i.1) ⟨0, Nat.zero_le _, hR⟩ ?_ ?_
  · refine Ent.to ?_ ?_ <;> simp (disch := omega) only [wkT_cons, wkX_cons, wkT_nil, wkX_nil, get, Nat.reduceEqDiff, ↓reduceIte, ex_some, wk_self, wk_top, wk_nil, wkB_self, and_self, dI, i64_in, and_true, true_and, Int.natCast_add, Int.natCast_one, Int.ofNat_zero, Int.natCast_zero]
    all_goals exact .refl _
  rintro ⟨i, hi, hr⟩
  dsimp only
  rcases at_or l i hi with ⟨v, hv, hlt, hd⟩ | ⟨he, hd⟩
  · obtain ⟨u, hu⟩ := getE (l := got) (i := i) (by omega)
    have h1 : l.drop i = v :: l.drop (i + 1) := by rw [List.drop_eq_getElem_cons hlt, (List.getElem_eq_iff hlt).2 hv]
    have hlt2 : i < got.length := by omega
    have h2 : got.drop i = u :: got.drop (i + 1) := by rw [List.drop_eq_getElem_cons hlt2, (List.getElem_eq_iff hlt2).2 hu]
    rw [h1, h2, doesB] at hr
    by_cases g1 : u < v.lo
    · have d1 : decide (u < v.lo) = true := decide_eq_true g1
      have e1 : decide (v.lo ≤ u) = false := decide_eq_false (by omega)
      rw [e1, Bool.false_and, Bool.false_and] at hr
      subst hr
      repeat' (first
    | (with_reducible first | refine DW.seq ?_ | refine DW.block ?_ | refine DW.skip ?_ | refine DW.exit ?_ | refine DW.ret ?_ | refine DW.reg ?_)
    | (refine DW.dreg rfl (WF.of ?_) ?_; first | rfl | skip)
    | (simp (disch := omega) only [go_sem, simprocAttr, bm_box, bm_row, bk_box, bk_row, hd, hv, hu, d1, List.map_cons, List.map_nil])
    | (exact retS_of rfl rfl rfl)
    | (refine DW.cond_tt rfl ?_)
    | (refine DW.cond_ff rfl ?_)
    | (refine DW.cond rfl ?_ ?_ <;> intro hc <;> (try simp only [go_sem] at hc))
    | (refine g_split ?_ ?_ <;> intro hc <;> (try simp only [hc]) <;> (try simp only [go_sem] at hc)))
    have d1 : decide (u < v.lo) = false := decide_eq_false g1
    have e1 : decide (v.lo ≤ u) = true := decide_eq_true (by omega)
    by_cases g2 : v.hi < u
    · have d2 : decide (v.hi < u) = true := decide_eq_true g2
      have e2 : decide (u ≤ v.hi) = false := decide_eq_false (by omega)
      rw [e1, e2, Bool.and_false, Bool.false_and] at hr
      subst hr
      repeat' (first
    | (with_reducible first | refine DW.seq ?_ | refine DW.block ?_ | refine DW.skip ?_ | refine DW.exit ?_ | refine DW.ret ?_ | refine DW.reg ?_)
    | (refine DW.dreg rfl (WF.of ?_) ?_; first | rfl | skip)
    | (simp (disch := omega) only [go_sem, simprocAttr, bm_box, bm_row, bk_box, bk_row, hd, hv, hu, d1, d2, List.map_cons, List.map_nil])
    | (exact retS_of rfl rfl rfl)
    | (refine DW.cond_tt rfl ?_)
    | (refine DW.cond_ff rfl ?_)
    | (refine DW.cond rfl ?_ ?_ <;> intro hc <;> (try simp only [go_sem] at hc))
    | (refine g_split ?_ ?_ <;> intro hc <;> (try simp only [hc]) <;> (try simp only [go_sem] at hc)))
    · have d2 : decide (v.hi < u) = false := decide_eq_false g2
      have e2 : decide (u ≤ v.hi) = true := decide_eq_true (by omega)
      rw [e1, e2, Bool.and_true, Bool.true_and] at hr
      repeat' (first
    | (with_reducible first | refine DW.seq ?_ | refine DW.block ?_ | refine DW.skip ?_ | refine DW.exit ?_ | refine DW.ret ?_ | refine DW.reg ?_)
    | (refine DW.dreg rfl (WF.of ?_) ?_; first | rfl | skip)
    | (simp (disch := omega) only [go_sem, simprocAttr, bm_box, bm_row, bk_box, bk_row, hd, hv, hu, d1, d2, List.map_cons, List.map_nil])
    | (exact retS_of rfl rfl rfl)
    | (refine DW.cond_tt rfl ?_)
    | (refine DW.cond_ff rfl ?_)
    | (refine DW.cond rfl ?_ ?_ <;> intro hc <;> (try simp only [go_sem] at hc))
    | (refine g_split ?_ ?_ <;> intro hc <;> (try simp only [hc]) <;> (try simp only [go_sem] at hc)))
      refine ⟨⟨i + 1, hlt, hr⟩, ?_, Ent.to ?_ ?_⟩ <;> first | (show _ < _; (try simp only); omega) | (simp (disch := omega) only [wkT_cons, wkX_cons, wkT_nil, wkX_nil, get, Nat.reduceEqDiff, ↓reduceIte, ex_some, wk_self, wk_top, wk_nil, wkB_self, and_self, dI, i64_in, and_true, true_and, Int.natCast_add, Int.natCast_one, Int.ofNat_zero, Int.natCast_zero])
      all_goals exact .refl _
  · rw [List.drop_eq_nil_of_le (by omega), doesB] at hr
    · subst hr
      repeat' (first
    | (with_reducible first | refine DW.seq ?_ | refine DW.block ?_ | refine DW.skip ?_ | refine DW.exit ?_ | refine DW.ret ?_ | refine DW.reg ?_)
    | (refine DW.dreg rfl (WF.of ?_) ?_; first | rfl | skip)
    | (simp (disch := omega) only [go_sem, simprocAttr, bm_box, bm_row, bk_box, bk_row, hd])
    | (exact retS_of rfl rfl rfl)
    | (refine DW.cond_tt rfl ?_)
    | (refine DW.cond_ff rfl ?_)
    | (refine DW.cond rfl ?_ ?_ <;> intro hc <;> (try simp only [go_sem] at hc))
    | (refine g_split ?_ ?_ <;> intro hc <;> (try simp only [hc]) <;> (try simp only [go_sem] at hc)))
    · intros; contradiction
end Go.Dw.Seat
end
section
set_option linter.unusedSimpArgs false
set_option maxRecDepth 100000
namespace Go.Dw.Seat
open Go Go.Dw Go.Proofs Go.IntWalk
def runsI : List TStp → Int
  | [] => 0
  | s :: q => s.run + runsI q
theorem runs_app : ∀ (a b : List TStp), runsI (a ++ b) = runsI a + runsI b
  | [], b => by simp [runsI]
  | s :: a, b => by rw [List.cons_append, runsI, runs_app, runsI]; omega
structure Fine (p : TPap) (l : List TOrd) (q : List TStp) : Prop where
  ok : ∀ s ∈ q, WsOk p l s.ws ∧ 1 ≤ s.run ∧ s.run ≤ 30
  asc : q.Pairwise fun a b => lexW a.ws b.ws = true
set_option maxHeartbeats 8000000 in
theorem laGives (b1 b2 : Bool) (p : TPap) (hp : p.ok) (l : List TOrd) (hl : l.length ≤ 4) (ho : ∀ o ∈ l, o.ok) (q : List TStp) (hq : q.length ≤ 1000) (hf : Fine p l q) : DCall Try.prog 43 [papD p, .c (.sl b1 3 (rows eO l)), dSt b2 q] [] (.tup [dIs false (gotF (zeros l.length) q), dI (wasteF p l q), dI (runsI q), bD true]) [] := by
  have hwi := hp.wide
  have htm := hp.trim
  have hwb := hp.webs
  refine DCall.of Try.func43 sf43 hb43 (Nat.le_of_ble_eq_true rfl) (okRes_nil fun _ => rfl) ?_; simp only [s43, o43_0, o43_1, o43_2, o43_3, o43_4, o43_5, o43_6, o43_7, o43_8, o43_9, o43_10, idxs, Nat.reduceAdd]
  repeat' (first
    | (with_reducible first | refine DW.seq ?_ | refine DW.block ?_ | refine DW.skip ?_ | refine DW.exit ?_ | refine DW.ret ?_ | refine DW.reg ?_)
    | (refine DW.dreg rfl (WF.of ?_) ?_; first | rfl | skip)
    | (refine DW.ord rfl (WF.of (by first | rfl | simp (disch := omega) only [go_sem, simprocAttr, bm_box, bm_row, bk_box, bk_row, replZ])) ?_ ?_ ?_; rotate_left)
    | rfl
    | (with_reducible refine And.intro ?_ ?_)
    | (simp (disch := omega) only [go_sem, simprocAttr, bm_box, bm_row, bk_box, bk_row, replZ])
    | (exact retS_of rfl rfl rfl)
    | (refine DW.cond_tt rfl ?_)
    | (refine DW.cond_ff rfl ?_)
    | (refine DW.cond rfl ?_ ?_ <;> intro hc <;> (try simp only [go_sem] at hc))
    | (refine g_split ?_ ?_ <;> intro hc <;> (try simp only [hc]) <;> (try simp only [go_sem] at hc)))
  refine DW.loop (ι := { y : Nat × List Int × Int × Int // y.1 ≤ q.length ∧ (y.2.1 = gotF (zeros l.length) (q.take y.1) ∧ y.2.2.1 = wasteF p l (q.take y.1) ∧ y.2.2.2 = runsI (q.take y.1)) ∧ (∀ v ∈ y.2.1, 0 ≤ v ∧ v ≤ 120 * (y.1 : Int)) ∧ (0 ≤ y.2.2.1 ∧ y.2.2.1 ≤ 90000 * (y.1 : Int)) ∧ 0 ≤ y.2.2.2 ∧ y.2.2.2 ≤ 30 * (y.1 : Int) }) (fun y => ⟨164, [(10, dI y.1.1), (9, bD false), (8, dI y.1.2.2.2), (7, dI y.1.2.2.1), (6, .own 18), (3, .box 3 0), (1, .c (.sl b1 3 (rows eO l))), (2, dSt b2 q)], [(18, .row 1 (rowC (rows eI y.1.2.1))), (3, .box [dI p.wide, dI p.tl, dI p.th, dI p.webs])]⟩) (fun y => q.length - y.1.1) ⟨(0, zeros l.length, 0, 0), Nat.zero_le _, ⟨rfl, rfl, rfl⟩, fun v hv => by (have := List.eq_of_mem_replicate (show v ∈ List.replicate l.length (0 : Int) from hv); subst this; simp), by simp, by simp⟩ ?_ ?_
  · refine Ent.to ?_ ?_ <;> simp (disch := omega) only [wkT_cons, wkX_cons, wkT_nil, wkX_nil, get, Nat.reduceEqDiff, ↓reduceIte, ex_some, wk_self, wk_top, wk_nil, wkB_self, and_self, dI, i64_in, and_true, true_and, Int.natCast_add, Int.natCast_one, Int.ofNat_zero, Int.natCast_zero]
    all_goals first | exact ⟨.refl _, .refl _, .refl _⟩ | exact ⟨.refl _, .refl _⟩ | exact .refl _
  rintro ⟨⟨i, G, W, R⟩, hi, ⟨hGe, hWe, hRe⟩, hG, hW, hR⟩
  dsimp only at hi hGe hWe hRe hG hW hR ⊢
  rcases at_or q i hi with ⟨s, hs, hlt, hd⟩ | ⟨he, hd⟩
  · obtain ⟨hws, hr1, hr30⟩ := hf.ok s (List.mem_of_getElem? hs)
    have hw4 := hws.ws4 hp
    have hpb := patB_b hws.pat
    have hgt := gotF_take hs (zeros l.length)
    have hwt : wasteF p l (q.take (i + 1)) = wasteF p l (q.take i) + trimI p l s.ws * s.run := by rw [List.take_add_one, hs, Option.toList_some, wasteF_app]; simp [wasteF]
    have hrt : runsI (q.take (i + 1)) = runsI (q.take i) + s.run := by rw [List.take_add_one, hs, Option.toList_some, runs_app]; simp [runsI]
    have hgl : (gotF (zeros l.length) (q.take i)).length = l.length := by rw [gotF_len]; simp [zeros]
    have hwl := hw4.len
    have hne : ((s.ws.length : Int) != (l.length : Int)) = false := by rw [hwl]; simp
    have e1 : decide (s.run < 1) = false := decide_eq_false (by omega)
    have e2 : decide (30 < s.run) = false := decide_eq_false (by omega)
    rw [← hGe] at hgt hgl
    rw [← hWe] at hwt
    rw [← hRe] at hrt
    have hT0 : 0 ≤ trimI p l s.ws := by omega
    have m1 : 0 ≤ trimI p l s.ws * s.run := Int.mul_nonneg hT0 (by omega)
    have m2 : trimI p l s.ws * s.run ≤ 3000 * s.run := Int.mul_le_mul_of_nonneg_right (by omega) (by omega)
    have w1 : IntKind.i64.wrap (trimI p l s.ws * s.run) = trimI p l s.ws * s.run := IntWalk.i64_in _ (by omega)
    have w2 : IntKind.i64.wrap (W + trimI p l s.ws * s.run) = W + trimI p l s.ws * s.run := IntWalk.i64_in _ (by omega)
    have w3 : IntKind.i64.wrap (R + s.run) = R + s.run := IntWalk.i64_in _ (by omega)
    have hprev : ∀ s', q[i - 1]? = some s' → 0 < i → lexW s'.ws s.ws = true := fun s' h1 h2 => by
      have := List.pairwise_iff_getElem.1 hf.asc (i - 1) i (by omega) hlt (by omega)
      rw [(List.getElem_eq_iff _).2 h1, (List.getElem_eq_iff _).2 hs] at this
      exact this
    have hu4 := sum_b4 hw4.b
    have g1 : decide (sumI s.ws < 1) = false := decide_eq_false (by omega)
    have g2 : decide (p.webs < sumI s.ws) = false := decide_eq_false (by omega)
    have g3 : decide (2 < usedI s.ws) = false := decide_eq_false (by omega)
    have g4 : decide (trimI p l s.ws < p.tl) = false := decide_eq_false (by omega)
    have g5 : decide (p.th < trimI p l s.ws) = false := decide_eq_false (by omega)
    have hgb := addG_b hG hw4.b (r := s.run) (by omega)
    by_cases hi0 : i = 0
    case' pos =>
      have e3 : decide ((0 : Int) < (i : Int)) = false := decide_eq_false (by omega)
      repeat' (first
    | (with_reducible first | refine DW.seq ?_ | refine DW.block ?_ | refine DW.skip ?_ | refine DW.exit ?_ | refine DW.ret ?_ | refine DW.reg ?_)
    | (refine DW.dreg rfl (WF.of ?_) ?_; first | rfl | skip)
    | (refine DW.ord rfl (WF.of (by first | rfl | simp (disch := omega) only [go_sem, simprocAttr, bm_box, bm_row, bk_box, bk_row, hd, hs, hne, e1, e2, e3, List.map_cons, List.map_nil])) ?_ ?_ ?_; rotate_left)
    | rfl
    | (with_reducible refine And.intro ?_ ?_)
    | (simp (disch := omega) only [go_sem, simprocAttr, bm_box, bm_row, bk_box, bk_row, hd, hs, hne, e1, e2, e3, List.map_cons, List.map_nil])
    | (exact retS_of rfl rfl rfl)
    | (refine DW.cond_tt rfl ?_)
    | (refine DW.cond_ff rfl ?_)
    | (refine DW.cond rfl ?_ ?_ <;> intro hc <;> (try simp only [go_sem] at hc))
    | (refine g_split ?_ ?_ <;> intro hc <;> (try simp only [hc]) <;> (try simp only [go_sem] at hc)))
    case' neg =>
      have e3 : decide ((0 : Int) < (i : Int)) = true := decide_eq_true (by omega)
      have w0 : IntKind.i64.wrap ((i : Int) - 1) = ((i - 1 : Nat) : Int) := by rw [IntWalk.i64_in _ (by omega)]; omega
      obtain ⟨s', hs'⟩ := getE (l := q) (i := i - 1) (by omega)
      have hs'w := ((hf.ok s' (List.mem_of_getElem? hs')).1.ws4 hp).len
      have c80 := laBefore false false s'.ws s.ws (by omega) (by omega)
      rw [hprev s' hs' (by omega)] at c80
      repeat' (first
    | (with_reducible first | refine DW.seq ?_ | refine DW.block ?_ | refine DW.skip ?_ | refine DW.exit ?_ | refine DW.ret ?_ | refine DW.reg ?_)
    | (refine DW.dreg rfl (WF.of ?_) ?_; first | rfl | skip)
    | (refine DW.ord rfl (WF.of (by first | rfl | simp (disch := omega) only [go_sem, simprocAttr, bm_box, bm_row, bk_box, bk_row, hd, hs, hs', hne, e1, e2, e3, w0, List.map_cons, List.map_nil])) ?_ ?_ ?_; rotate_left)
    | rfl
    | (with_reducible refine And.intro ?_ ?_)
    | (simp (disch := omega) only [go_sem, simprocAttr, bm_box, bm_row, bk_box, bk_row, hd, hs, hs', hne, e1, e2, e3, w0, List.map_cons, List.map_nil])
    | (exact retS_of rfl rfl rfl)
    | (refine DW.cond_tt rfl ?_)
    | (refine call_c (c80) (by decide) ?_)
    | (refine DW.cond_ff rfl ?_)
    | (refine DW.cond rfl ?_ ?_ <;> intro hc <;> (try simp only [go_sem] at hc))
    | (refine g_split ?_ ?_ <;> intro hc <;> (try simp only [hc]) <;> (try simp only [go_sem] at hc)))
    all_goals
      refine DW.loop (ι := { k : Nat // k ≤ l.length }) (fun k => ⟨164, [(15, dI k.1), (14, dI (usedI (s.ws.take k.1))), (13, dI (sumI (s.ws.take k.1))), (12, dI (p.wide - dotI (s.ws.take k.1) l)), (11, .box 11 0), (10, dI i), (9, bD false), (8, dI R), (7, dI W), (6, .own 18), (3, .box 3 0), (1, .c (.sl b1 3 (rows eO l))), (2, dSt b2 q)], [(18, .row 1 (rowC (rows eI (addG G (s.ws.take k.1) s.run)))), (11, .box [dIs false s.ws, dI s.run]), (3, .box [dI p.wide, dI p.tl, dI p.th, dI p.webs])]⟩) (fun k => l.length - k.1) ⟨0, Nat.zero_le _⟩ ?_ ?_
      · refine Ent.to ?_ ?_ <;> simp (disch := omega) only [wkT_cons, wkX_cons, wkT_nil, wkX_nil, get, Nat.reduceEqDiff, ↓reduceIte, ex_some, wk_self, wk_top, wk_nil, wkB_self, and_self, dI, i64_in, and_true, true_and, Int.natCast_add, Int.natCast_one, Int.ofNat_zero, Int.natCast_zero, List.take_zero, addG_nil, usedI, sumI, dotI, Int.sub_zero]
        all_goals first | exact ⟨.refl _, .refl _, .refl _⟩ | exact ⟨.refl _, .refl _⟩ | exact .refl _
      rintro ⟨k, hk⟩
      dsimp only
      rcases at_or l k hk with ⟨o, hok, hltk, hdk⟩ | ⟨hek, hdk⟩
      · obtain ⟨n, hn⟩ := getE (l := s.ws) (i := k) (by omega)
        obtain ⟨x, hx, hx2, hset⟩ := addG_take (g := G) (ws := s.ws) (r := s.run) (i := k) hn (by omega)
        have hxb := hG x (List.mem_of_getElem? hx)
        have hnb := hw4.b n (List.mem_of_getElem? hn)
        have hob := (ho o (List.mem_of_getElem? hok)).w
        have k1 : 0 ≤ n * s.run := Int.mul_nonneg hnb.1 (by omega)
        have k2 : n * s.run ≤ 4 * s.run := Int.mul_le_mul_of_nonneg_right hnb.2 (by omega)
        have hal : (addG G (s.ws.take k) s.run).length = G.length := addG_len _ _ _
        have hil : (k < (addG G (s.ws.take k) s.run).length) = True := eq_true (by omega)
        have ht := dot_take hn hok
        have hdb := dot_b (ws := s.ws.take k) (l := l) (fun x hx => hw4.b x (List.mem_of_mem_take hx)) ho
        have hb := sum_b4 (ws := s.ws.take k) (fun x hx => hw4.b x (List.mem_of_mem_take hx))
        rw [List.length_take] at hb
        have hsu := sum_take hn
        have hus := used_take hn
        have m3 : 0 ≤ n * o.w := Int.mul_nonneg hnb.1 (by omega)
        have m4 : n * o.w ≤ 4 * o.w := Int.mul_le_mul_of_nonneg_right hnb.2 (by omega)
        have v3 : IntKind.i64.wrap (n * o.w) = n * o.w := IntWalk.i64_in _ (by omega)
        have v4 : IntKind.i64.wrap (p.wide - dotI (s.ws.take k) l - n * o.w) = p.wide - dotI (s.ws.take k) l - n * o.w := IntWalk.i64_in _ (by omega)
        have hlf : p.wide - dotI (s.ws.take (k + 1)) l = p.wide - dotI (s.ws.take k) l - n * o.w := by omega
        generalize p.wide - dotI (s.ws.take k) l = L at *
        generalize sumI (s.ws.take k) = A at *
        generalize usedI (s.ws.take k) = B at *
        generalize addG G (s.ws.take k) s.run = H at *
        have v1 : IntKind.i64.wrap (n * s.run) = n * s.run := IntWalk.i64_in _ (by omega)
        have v2 : IntKind.i64.wrap (x + n * s.run) = x + n * s.run := IntWalk.i64_in _ (by omega)
        have v5 : IntKind.i64.wrap (A + n) = A + n := IntWalk.i64_in _ (by omega)
        have f1 : decide (n < 0) = false := decide_eq_false (by omega)
        have f2 : decide (4 < n) = false := decide_eq_false (by omega)
        by_cases hc : 0 < n
        · have f3 : decide (0 < n) = true := decide_eq_true hc
          rw [if_pos hc] at hus
          repeat' (first
    | (with_reducible first | refine DW.seq ?_ | refine DW.block ?_ | refine DW.skip ?_ | refine DW.exit ?_ | refine DW.ret ?_ | refine DW.reg ?_)
    | (refine DW.dreg rfl (WF.of ?_) ?_; first | rfl | skip)
    | (refine DW.ord rfl (WF.of (by first | rfl | simp (disch := omega) only [go_sem, simprocAttr, bm_box, bm_row, bk_box, bk_row, hdk, hs, hn, hok, hx2, hil, v1, v2, v3, v4, v5, f1, f2, f3, rowC_set1, rows_setI, hset, List.map_cons, List.map_nil])) ?_ ?_ ?_; rotate_left)
    | rfl
    | (with_reducible refine And.intro ?_ ?_)
    | (simp (disch := omega) only [go_sem, simprocAttr, bm_box, bm_row, bk_box, bk_row, hdk, hs, hn, hok, hx2, hil, v1, v2, v3, v4, v5, f1, f2, f3, rowC_set1, rows_setI, hset, List.map_cons, List.map_nil])
    | (exact retS_of rfl rfl rfl)
    | (refine DW.cond_tt rfl ?_)
    | (refine DW.cond_ff rfl ?_)
    | (refine DW.cond rfl ?_ ?_ <;> intro hc <;> (try simp only [go_sem] at hc))
    | (refine g_split ?_ ?_ <;> intro hc <;> (try simp only [hc]) <;> (try simp only [go_sem] at hc)))
          refine ⟨⟨k + 1, hltk⟩, ?_, Ent.to ?_ ?_⟩ <;> first | (show _ < _; (try simp only); omega) | (simp (disch := omega) only [wkT_cons, wkX_cons, wkT_nil, wkX_nil, get, Nat.reduceEqDiff, ↓reduceIte, ex_some, wk_self, wk_top, wk_nil, wkB_self, and_self, dI, i64_in, and_true, true_and, Int.natCast_add, Int.natCast_one, Int.ofNat_zero, Int.natCast_zero,  hsu, hus, hlf])
          all_goals first | exact ⟨.refl _, .refl _, .refl _⟩ | exact ⟨.refl _, .refl _⟩ | exact .refl _
        · have f3 : decide (0 < n) = false := decide_eq_false hc
          rw [if_neg hc, Int.add_zero] at hus
          repeat' (first
    | (with_reducible first | refine DW.seq ?_ | refine DW.block ?_ | refine DW.skip ?_ | refine DW.exit ?_ | refine DW.ret ?_ | refine DW.reg ?_)
    | (refine DW.dreg rfl (WF.of ?_) ?_; first | rfl | skip)
    | (refine DW.ord rfl (WF.of (by first | rfl | simp (disch := omega) only [go_sem, simprocAttr, bm_box, bm_row, bk_box, bk_row, hdk, hs, hn, hok, hx2, hil, v1, v2, v3, v4, v5, f1, f2, f3, rowC_set1, rows_setI, hset, List.map_cons, List.map_nil])) ?_ ?_ ?_; rotate_left)
    | rfl
    | (with_reducible refine And.intro ?_ ?_)
    | (simp (disch := omega) only [go_sem, simprocAttr, bm_box, bm_row, bk_box, bk_row, hdk, hs, hn, hok, hx2, hil, v1, v2, v3, v4, v5, f1, f2, f3, rowC_set1, rows_setI, hset, List.map_cons, List.map_nil])
    | (exact retS_of rfl rfl rfl)
    | (refine DW.cond_tt rfl ?_)
    | (refine DW.cond_ff rfl ?_)
    | (refine DW.cond rfl ?_ ?_ <;> intro hc <;> (try simp only [go_sem] at hc))
    | (refine g_split ?_ ?_ <;> intro hc <;> (try simp only [hc]) <;> (try simp only [go_sem] at hc)))
          refine ⟨⟨k + 1, hltk⟩, ?_, Ent.to ?_ ?_⟩ <;> first | (show _ < _; (try simp only); omega) | (simp (disch := omega) only [wkT_cons, wkX_cons, wkT_nil, wkX_nil, get, Nat.reduceEqDiff, ↓reduceIte, ex_some, wk_self, wk_top, wk_nil, wkB_self, and_self, dI, i64_in, and_true, true_and, Int.natCast_add, Int.natCast_one, Int.ofNat_zero, Int.natCast_zero,  hsu, hus, hlf])
          all_goals first | exact ⟨.refl _, .refl _, .refl _⟩ | exact ⟨.refl _, .refl _⟩ | exact .refl _
      · have hti : s.ws.take k = s.ws := List.take_of_length_le (by omega)
        rw [hti, show p.wide - dotI s.ws l = trimI p l s.ws from rfl]
        generalize trimI p l s.ws = T at *
        generalize sumI s.ws = A at *
        generalize usedI s.ws = B at *
        repeat' (first
    | (with_reducible first | refine DW.seq ?_ | refine DW.block ?_ | refine DW.skip ?_ | refine DW.exit ?_ | refine DW.ret ?_ | refine DW.reg ?_)
    | (refine DW.dreg rfl (WF.of ?_) ?_; first | rfl | skip)
    | (refine DW.ord rfl (WF.of (by first | rfl | simp (disch := omega) only [go_sem, simprocAttr, bm_box, bm_row, bk_box, bk_row, hdk, w1, w2, w3, g1, g2, g3, g4, g5, List.map_cons, List.map_nil])) ?_ ?_ ?_; rotate_left)
    | rfl
    | (with_reducible refine And.intro ?_ ?_)
    | (simp (disch := omega) only [go_sem, simprocAttr, bm_box, bm_row, bk_box, bk_row, hdk, w1, w2, w3, g1, g2, g3, g4, g5, List.map_cons, List.map_nil])
    | (exact retS_of rfl rfl rfl)
    | (refine DW.cond_tt rfl ?_)
    | (refine DW.cond_ff rfl ?_)
    | (refine DW.cond rfl ?_ ?_ <;> intro hc <;> (try simp only [go_sem] at hc))
    | (refine g_split ?_ ?_ <;> intro hc <;> (try simp only [hc]) <;> (try simp only [go_sem] at hc)))
        refine ⟨⟨(i + 1, addG G s.ws s.run, W + T * s.run, R + s.run), hlt, ⟨hgt.symm, hwt.symm, hrt.symm⟩, fun v hv => by have := hgb v hv; dsimp only; omega, by dsimp only; omega, by dsimp only; omega⟩, ?_, Ent.to ?_ ?_⟩ <;> first | (show _ < _; (try simp only); omega) | (simp (disch := omega) only [wkT_cons, wkX_cons, wkT_nil, wkX_nil, get, Nat.reduceEqDiff, ↓reduceIte, ex_some, wk_self, wk_top, wk_nil, wkB_self, and_self, dI, i64_in, and_true, true_and, Int.natCast_add, Int.natCast_one, Int.ofNat_zero, Int.natCast_zero])
        all_goals first | exact ⟨.refl _, .refl _, .refl _⟩ | exact ⟨.refl _, .refl _⟩ | exact .refl _
  · rw [List.take_of_length_le (by omega)] at hGe hWe hRe
    rw [← hGe, ← hWe, ← hRe]
    repeat' (first
    | (with_reducible first | refine DW.seq ?_ | refine DW.block ?_ | refine DW.skip ?_ | refine DW.exit ?_ | refine DW.ret ?_ | refine DW.reg ?_)
    | (refine DW.dreg rfl (WF.of ?_) ?_; first | rfl | skip)
    | (refine DW.ord rfl (WF.of (by first | rfl | simp (disch := omega) only [go_sem, simprocAttr, bm_box, bm_row, bk_box, bk_row, hd])) ?_ ?_ ?_; rotate_left)
    | rfl
    | (with_reducible refine And.intro ?_ ?_)
    | (simp (disch := omega) only [go_sem, simprocAttr, bm_box, bm_row, bk_box, bk_row, hd])
    | (exact retS_of rfl rfl rfl)
    | (refine DW.cond_tt rfl ?_)
    | (refine DW.cond_ff rfl ?_)
    | (refine DW.cond rfl ?_ ?_ <;> intro hc <;> (try simp only [go_sem] at hc))
    | (refine g_split ?_ ?_ <;> intro hc <;> (try simp only [hc]) <;> (try simp only [go_sem] at hc)))
    (refine retS_ent (Ent.rel 18 rfl) ?_; simp (disch := omega) only [go_sem, simprocAttr, bm_box, bm_row, bk_box, bk_row])
    refine retS_wk rfl ?_ (by simp only [Blk.nb, rowC_nb, D.nb, D.nbs, C.nb, C.nbs, C.nbss, rows_nb eI_nb, Bool.and_true, Bool.not_false, Bool.and_self, bD, dI, iD, rows_nb eO_nb, rows_nb eSt_nb, rows_nb eWs_nb, rows_nb e1_nb]); exact .refl _
end Go.Dw.Seat
end
section
set_option linter.unusedSimpArgs false
set_option maxRecDepth 100000
namespace Go.Dw.Seat
open Go Go.Dw Go.Proofs Go.IntWalk
abbrev dU (n : Nat) : D := .c (.v (.int .u8 n))
abbrev shD (x : List Nat) : D := .agg (x.map dU)
theorem mens_dU (k : Nat) : ∀ l : List Nat, D.mens k (l.map dU) = false
  | [] => rfl
  | _ :: l => mens_dU k l
theorem keys_dU (bx : List (Nat × Blk)) : ∀ l : List Nat, D.keysIns bx (l.map dU) = true
  | [] => rfl
  | _ :: l => keys_dU bx l
theorem kill_dU (k : Nat) : ∀ l : List Nat, (l.map dU).map (killD k) = l.map dU
  | [] => rfl
  | v :: l => by rw [List.map_cons, List.map_cons, kill_dU k l]; rfl
theorem rel_dU (k : Nat) (b : Blk) : ∀ l : List Nat, relDs k b (l.map dU) = l.map dU
  | [] => rfl
  | v :: l => by rw [List.map_cons, relDs, rel_dU k b l]; rfl
attribute [go_sem] mens_dU keys_dU kill_dU rel_dU
theorem cell_dU {x : List Nat} {i : Nat} {v : Nat} (h : x[i]? = some v) : (x.map dU)[i]? = some (dU v) := by rw [List.getElem?_map, h]; rfl
abbrev shB (x : List Nat) : Blk := .box (x.map dU)
def gB (x : List Nat) (i : Nat) : Nat := x.getD i 0
def mN (x : List Nat) : Nat := gB x 4 % 4 + 1
def mO (x : List Nat) (i : Nat) : TOrd := ⟨300 + 7 * (gB x i : Int) / 4, 0, 0⟩
def mL0 (x : List Nat) (k : Nat) : List TOrd := (List.range k).map (mO x)
theorem mL0_len (x : List Nat) (k : Nat) : (mL0 x k).length = k := by simp [mL0]
theorem mL0_succ (x : List Nat) (k : Nat) : mL0 x (k + 1) = mL0 x k ++ [mO x k] := by simp [mL0, List.range_succ]
theorem gB_lt' {x : List Nat} (hb : ∀ v ∈ x, v < 256) (i : Nat) : gB x i < 256 := by
  rw [gB, List.getD_eq_getElem?_getD]
  cases h : x[i]? with
  | none => simp
  | some v => exact hb v (List.mem_of_getElem? h)
theorem mL0_w {x : List Nat} (hb : ∀ v ∈ x, v < 256) {k : Nat} {o : TOrd} (ho : o ∈ mL0 x k) : (300 ≤ o.w ∧ o.w ≤ 746) ∧ o.lo = 0 ∧ o.hi = 0 := by
  obtain ⟨i, _, rfl⟩ := List.mem_map.1 ho
  have := gB_lt' hb i
  refine ⟨?_, rfl, rfl⟩
  show 300 ≤ 300 + 7 * (gB x i : Int) / 4 ∧ 300 + 7 * (gB x i : Int) / 4 ≤ 746
  omega
theorem mL0_ok {x : List Nat} (hb : ∀ v ∈ x, v < 256) {k : Nat} : ∀ o ∈ mL0 x k, o.ok := fun o ho => by
  have := mL0_w hb ho
  exact ⟨by omega, by omega⟩
def mv (x : List Nat) (i j : Nat) : Nat := gB x (5 + 5 * i + j)
def mA (x : List Nat) (i : Nat) : Nat := mv x i 0 % mN x
def mB (x : List Nat) (i : Nat) : Nat := mv x i 1 % mN x
def mna (x : List Nat) (i : Nat) : Nat := 1 + mv x i 2 % 3
def mnb (x : List Nat) (i : Nat) : Nat := mv x i 3 % (5 - mna x i)
def mW1 (x : List Nat) (i : Nat) : List Int := (zeros (mN x)).set (mA x i) (mna x i)
def mW (x : List Nat) (i : Nat) : List Int := if mA x i = mB x i then mW1 x i else (mW1 x i).set (mB x i) (mnb x i)
def mT (x : List Nat) (i : Nat) : TStp := ⟨mW x i, 1 + (mv x i 4 % 8 : Nat)⟩
def seekF (ws : List Int) : List TStp → Nat → Nat → Bool → Nat × Bool
  | [], _, a, b => (a, b)
  | t :: q, k, a, b => if lexW t.ws ws then seekF ws q (k + 1) (k + 1) b else if lexW ws t.ws then seekF ws q (k + 1) a b else seekF ws q (k + 1) a true
structure MSt where
  q : List TStp
  G : List Int
  lo : Int
  hi : Int
def mLk (x : List Nat) (i : Nat) : Bool := decide (0 < i) && decide (mv x i 4 % 5 = 0)
def stepM (x : List Nat) (i : Nat) (S : MSt) : MSt :=
  let r := seekF (mW x i) S.q 0 0 (mLk x i)
  if r.2 then S else
    let left := 3000 - dotI (mW x i) (mL0 x (mN x))
    ⟨S.q.take r.1 ++ mT x i :: S.q.drop r.1, addG S.G (mW x i) (mT x i).run, min S.lo left, max S.hi left⟩
structure MInv (x : List Nat) (i : Nat) (S : MSt) : Prop where
  len : S.q.length ≤ i
  ne : 0 < i → S.q ≠ []
  st : ∀ s ∈ S.q, (s.ws.length = mN x ∧ ∀ v ∈ s.ws, 0 ≤ v) ∧ (1 ≤ sumI s.ws ∧ sumI s.ws ≤ 4) ∧ usedI s.ws ≤ 2 ∧ (1 ≤ s.run ∧ s.run ≤ 8) ∧ S.lo ≤ 3000 - dotI s.ws (mL0 x (mN x)) ∧ 3000 - dotI s.ws (mL0 x (mN x)) ≤ S.hi
  asc : S.q.Pairwise fun a b => lexW a.ws b.ws = true
  got : S.G = gotF (zeros (mN x)) S.q
  gb : ∀ v ∈ S.G, 0 ≤ v ∧ v ≤ 32 * (i : Int)
  lo : 16 ≤ S.lo ∧ S.lo ≤ 3000
  hi : 0 ≤ S.hi ∧ S.hi ≤ 2700
def mS (x : List Nat) : Nat → MSt
  | 0 => ⟨[], zeros (mN x), 3000, 0⟩
  | i + 1 => stepM x i (mS x i)
theorem gB_get {x : List Nat} (hx : x.length = 30) {i : Nat} (hi : i < 30) : (x.map dU)[i]? = some (dU (gB x i)) := cell_dU (by rw [gB, List.getD_eq_getElem?_getD, List.getElem?_eq_getElem (by omega)]; rfl)
theorem gB_lt {x : List Nat} (hb : AllLt 256 x) (i : Nat) : gB x i < 256 := by
  rw [gB, List.getD_eq_getElem?_getD]
  cases h : x[i]? with
  | none => simp
  | some v => exact hb v (List.mem_of_getElem? h)
theorem five {x : List Nat} (hx : x.length = 30) {i : Nat} (hi : i < 3) : List.take 5 (List.drop (5 + i * 5) (x.map dU)) = [dU (mv x i 0), dU (mv x i 1), dU (mv x i 2), dU (mv x i 3), dU (mv x i 4)] := by
  apply List.ext_getElem?
  intro j
  rw [List.getElem?_take, List.getElem?_drop]
  by_cases hj : j < 5
  · rw [if_pos hj, gB_get hx (by omega)]
    have e : ∀ k, gB x (5 + i * 5 + k) = mv x i k := fun k => by rw [mv, Nat.mul_comm i 5]
    rw [e]
    match j, hj with
    | 0, _ => rfl
    | 1, _ => rfl
    | 2, _ => rfl
    | 3, _ => rfl
    | 4, _ => rfl
  · rw [if_neg hj, List.getElem?_eq_none (by simp only [List.length_cons, List.length_nil]; omega)]
end Go.Dw.Seat
end
section
set_option linter.unusedSimpArgs false
set_option maxRecDepth 100000
namespace Go.Dw.Seat
open Go Go.Dw Go.Proofs Go.IntWalk
theorem shut3 (ws : List Int) (r : Int) (es : List (List C)) : shutEs ([D.c (.sl false 1 (rows eI ws)), D.c (.v (.int .i64 r))] :: rowC es) = some ([C.sl false 1 (rows eI ws), C.v (.int .i64 r)] :: es) := by
  simp only [shutEs, shutEs_rowC]; rfl
theorem ins_rows (a b : List TStp) (ws : List Int) (r : Int) : rows eSt a ++ [C.sl false 1 (rows eI ws), C.v (.int .i64 r)] :: rows eSt b = rows eSt (a ++ ⟨ws, r⟩ :: b) := by
  simp [rows, eSt]
theorem min_if (a b : Int) : (if b < a then b else a) = min a b := by split <;> omega
theorem max_if (a b : Int) : (if a < b then b else a) = max a b := by split <;> omega
def mQ (x : List Nat) : List TStp := (mS x 3).q
def mP (x : List Nat) : TPap := ⟨3000, max 0 ((mS x 3).lo - (gB x 28 % 50 : Nat)), (mS x 3).hi + (gB x 29 % 50 : Nat), 4⟩
def mNd (x : List Nat) (G : List Int) (k : Nat) : TOrd := ⟨300 + 7 * (gB x k : Int) / 4, max 0 (G.getD k 0 - (gB x (20 + 2 * k) % 3 : Nat)), G.getD k 0 + (gB x (21 + 2 * k) % 3 : Nat)⟩
def mLn (x : List Nat) (G : List Int) (k : Nat) : List TOrd := (List.range (mN x)).map fun j => if j < k then mNd x G j else mO x j
def mL (x : List Nat) : List TOrd := mLn x (mS x 3).G (mN x)
theorem mLn_zero (x : List Nat) (G : List Int) : mLn x G 0 = mL0 x (mN x) := by
  unfold mLn mL0
  apply List.map_congr_left
  intro j _
  rw [if_neg (by omega)]
theorem mLn_len (x : List Nat) (G : List Int) (k : Nat) : (mLn x G k).length = mN x := by simp [mLn]
theorem mLn_get {x : List Nat} {G : List Int} {k : Nat} (hk : k < mN x) : (mLn x G k)[k]? = some (mO x k) := by
  rw [mLn, List.getElem?_map, List.getElem?_range hk, Option.map_some, if_neg (by omega)]
theorem mLn_set {x : List Nat} {G : List Int} {k : Nat} (hk : k < mN x) : (mLn x G k).set k (mNd x G k) = mLn x G (k + 1) := by
  apply List.ext_getElem?
  intro j
  rw [List.getElem?_set, mLn_len]
  by_cases hj : j < mN x
  · by_cases he : k = j
    · subst he
      rw [if_pos rfl, if_pos hk, mLn, List.getElem?_map, List.getElem?_range hk, Option.map_some, if_pos (by omega)]
    · rw [if_neg he, mLn, mLn, List.getElem?_map, List.getElem?_map, List.getElem?_range hj, Option.map_some, Option.map_some]
      congr 1
      by_cases h : j < k
      · rw [if_pos h, if_pos (by omega)]
      · rw [if_neg h, if_neg (by omega)]
  · rw [if_neg (by omega), List.getElem?_eq_none (by rw [mLn_len]; omega), List.getElem?_eq_none (by rw [mLn_len]; omega)]
set_option maxHeartbeats 8000000 in
theorem laMadeW (x : List Nat) (hx : x.length = 30) (hb : AllLt 256 x) (hinv : ∀ i, i ≤ 3 → MInv x i (mS x i)) (hW : ∀ i, i < 3 → Ws4 (mL0 x (mN x)) (mW x i)) : DCall Try.prog 42 [shD x] [] (.tup [papD (mP x), .c (.sl false 3 (rows eO (mL x))), dSt false (mQ x)]) [] := by
  have c1 := laSpan 3000 0
  refine DCall.of Try.func42 sf42 hb42 (Nat.le_of_ble_eq_true rfl) (okRes_nil fun _ => rfl) ?_; simp only [s42, o42_0, o42_1, o42_2, o42_3, o42_4, o42_5, o42_6, o42_7, o42_8, o42_9, o42_10, o42_11, idxs, Nat.reduceAdd]
  repeat' (first
    | (with_reducible first | refine DW.seq ?_ | refine DW.block ?_ | refine DW.skip ?_ | refine DW.exit ?_ | refine DW.ret ?_ | refine DW.reg ?_)
    | (refine DW.dreg rfl (WF.of ?_) ?_; first | rfl | skip)
    | (refine DW.ord rfl (WF.of (by first | rfl | simp (disch := omega) only [go_sem, simprocAttr, bm_box, bm_row, bk_box, bk_row])) ?_ ?_ ?_; rotate_left)
    | rfl
    | (with_reducible refine And.intro ?_ ?_)
    | (simp (disch := omega) only [go_sem, simprocAttr, bm_box, bm_row, bk_box, bk_row])
    | (exact retS_of rfl rfl rfl)
    | (refine DW.cond_tt rfl ?_)
    | (refine call_c (c1) (by decide) ?_)
    | (refine DW.cond_ff rfl ?_)
    | (refine DW.cond rfl ?_ ?_ <;> intro hc <;> (try simp only [go_sem] at hc))
    | (refine g_split ?_ ?_ <;> intro hc <;> (try simp only [hc]) <;> (try simp only [go_sem] at hc)))
  refine DW.loop (ι := { i : Nat // i ≤ mN x }) (fun i => ⟨255, [(8, dI i.1), (7, .own 24), (6, .own 23), (5, .box 5 0), (4, .c (.v (.slice none 0 0))), (3, .c (.v (.slice none 0 0))), (2, .box 2 0), (1, .box 1 0)], [(24, .row 2 []), (23, .row 3 (rowC (rows eO (mL0 x i.1)))), (5, .box [dI 3000, dI 3000, dI 0, dI 4]), (2, .box [dI 0, dI 0, dI 0, dI 0]), (1, shB x)]⟩) (fun i => mN x - i.1) ⟨0, Nat.zero_le _⟩ ?_ ?_
  · refine Ent.to ?_ ?_ <;> simp (disch := omega) only [wkT_cons, wkX_cons, wkT_nil, wkX_nil, get, Nat.reduceEqDiff, ↓reduceIte, ex_some, wk_self, wk_top, wk_nil, wkB_self, and_self, dI, i64_in, and_true, true_and, Int.natCast_add, Int.natCast_one, Int.ofNat_zero, Int.natCast_zero, mL0, List.range_zero]
    all_goals first | exact ⟨.refl _, .refl _, .refl _⟩ | exact ⟨.refl _, .refl _⟩ | exact .refl _
  rintro ⟨i, hi⟩
  dsimp only
  have r4 := gB_get hx (i := 4) (by decide)
  have b4 := gB_lt hb 4
  have v4 : IntKind.i64.wrap ((gB x 4 : Nat) : Int) = ((gB x 4 : Nat) : Int) := IntWalk.i64_in _ (by omega)
  have m4 : Int.tmod ((gB x 4 : Nat) : Int) 4 = ((gB x 4 % 4 : Nat) : Int) := rfl
  by_cases hc : i < mN x
  · have hd : decide ((i : Int) ≤ ((gB x 4 % 4 : Nat) : Int)) = true := decide_eq_true (by unfold mN at hc; omega)
    have hi4 : i < 4 := by unfold mN at hc; omega
    have ri := gB_get hx (i := i) (by omega)
    have bi := gB_lt hb i
    have v5 : IntKind.i64.wrap ((gB x i : Nat) : Int) = ((gB x i : Nat) : Int) := IntWalk.i64_in _ (by omega)
    have v6 : IntKind.i64.wrap (7 * ((gB x i : Nat) : Int)) = 7 * ((gB x i : Nat) : Int) := IntWalk.i64_in _ (by omega)
    have t6 : Int.tdiv (7 * ((gB x i : Nat) : Int)) 4 = 7 * ((gB x i : Nat) : Int) / 4 := Int.tdiv_eq_ediv_of_nonneg (by omega)
    have v7 : IntKind.i64.wrap (7 * ((gB x i : Nat) : Int) / 4) = 7 * ((gB x i : Nat) : Int) / 4 := IntWalk.i64_in _ (by omega)
    have v8 : IntKind.i64.wrap (300 + 7 * ((gB x i : Nat) : Int) / 4) = 300 + 7 * ((gB x i : Nat) : Int) / 4 := IntWalk.i64_in _ (by omega)
    have hap : rowC (rows eO (mL0 x i)) ++ [[dI (300 + 7 * ((gB x i : Nat) : Int) / 4), dI 0, dI 0]] = rowC (rows eO (mL0 x (i + 1))) := by rw [mL0_succ]; simp [rowC, rows, mO, eO]
    have hi5 : ((i : Int) < 4) = True := eq_true (by omega)
    have hln := mL0_len x i
    repeat' (first
    | (with_reducible first | refine DW.seq ?_ | refine DW.block ?_ | refine DW.skip ?_ | refine DW.exit ?_ | refine DW.ret ?_ | refine DW.reg ?_)
    | (refine DW.dreg rfl (WF.of ?_) ?_; first | rfl | skip)
    | (refine DW.ord rfl (WF.of (by first | rfl | simp (disch := omega) only [go_sem, simprocAttr, bm_box, bm_row, bk_box, bk_row, und5, r4, v4, m4, ri, v5, v6, t6, v7, v8, hd, hln, hi5, Nat.mul_one, hap])) ?_ ?_ ?_; rotate_left)
    | rfl
    | (with_reducible refine And.intro ?_ ?_)
    | (simp (disch := omega) only [go_sem, simprocAttr, bm_box, bm_row, bk_box, bk_row, und5, r4, v4, m4, ri, v5, v6, t6, v7, v8, hd, hln, hi5, Nat.mul_one, hap])
    | (exact retS_of rfl rfl rfl)
    | (refine DW.cond_tt rfl ?_)
    | (refine DW.cond_ff rfl ?_)
    | (refine DW.cond rfl ?_ ?_ <;> intro hc <;> (try simp only [go_sem] at hc))
    | (refine g_split ?_ ?_ <;> intro hc <;> (try simp only [hc]) <;> (try simp only [go_sem] at hc)))
    refine ⟨⟨i + 1, hc⟩, ?_, Ent.to ?_ ?_⟩ <;> first | (show _ < _; (try simp only); omega) | (simp (disch := omega) only [wkT_cons, wkX_cons, wkT_nil, wkX_nil, get, Nat.reduceEqDiff, ↓reduceIte, ex_some, wk_self, wk_top, wk_nil, wkB_self, and_self, dI, i64_in, and_true, true_and, Int.natCast_add, Int.natCast_one, Int.ofNat_zero, Int.natCast_zero,  hap])
    all_goals first | exact ⟨.refl _, .refl _, .refl _⟩ | exact ⟨.refl _, .refl _⟩ | exact .refl _
  have hd : decide ((i : Int) ≤ ((gB x 4 % 4 : Nat) : Int)) = false := decide_eq_false (by unfold mN at hc; omega)
  have hin : i = mN x := by omega
  have hn4 : mN x ≤ 4 := by unfold mN; omega
  subst hin
  have hln := mL0_len x (mN x)
  repeat' (first
    | (with_reducible first | refine DW.seq ?_ | refine DW.block ?_ | refine DW.skip ?_ | refine DW.exit ?_ | refine DW.ret ?_ | refine DW.reg ?_)
    | (refine DW.dreg rfl (WF.of ?_) ?_; first | rfl | skip)
    | (refine DW.ord rfl (WF.of (by first | rfl | simp (disch := omega) only [go_sem, simprocAttr, bm_box, bm_row, bk_box, bk_row, und5, r4, v4, m4, hd, hln, replZ])) ?_ ?_ ?_; rotate_left)
    | rfl
    | (with_reducible refine And.intro ?_ ?_)
    | (simp (disch := omega) only [go_sem, simprocAttr, bm_box, bm_row, bk_box, bk_row, und5, r4, v4, m4, hd, hln, replZ])
    | (exact retS_of rfl rfl rfl)
    | (refine DW.cond_tt rfl ?_)
    | (refine DW.cond_ff rfl ?_)
    | (refine DW.cond rfl ?_ ?_ <;> intro hc <;> (try simp only [go_sem] at hc))
    | (refine g_split ?_ ?_ <;> intro hc <;> (try simp only [hc]) <;> (try simp only [go_sem] at hc)))
  (refine DW.ent (Ent.rel 24 rfl) ?_; simp (disch := omega) only [go_sem, simprocAttr, bm_box, bm_row, bk_box, bk_row])
  refine DW.loop (ι := { y : Nat × MSt // y.1 ≤ 3 ∧ y.2 = mS x y.1 }) (fun y => ⟨255, [(10, dI y.1.1), (9, .own 47), (7, dSt false y.1.2.q), (6, .own 23), (5, .box 5 0), (4, .c (.v (.slice none 0 0))), (3, .c (.v (.slice none 0 0))), (2, .box 2 0), (1, .box 1 0)], [(47, .row 1 (rowC (rows eI y.1.2.G))), (23, .row 3 (rowC (rows eO (mL0 x (mN x))))), (5, .box [dI 3000, dI y.1.2.lo, dI y.1.2.hi, dI 4]), (2, .box [dI 0, dI 0, dI 0, dI 0]), (1, shB x)]⟩) (fun y => 3 - y.1.1) ⟨(0, mS x 0), Nat.zero_le _, rfl⟩ ?_ ?_
  · refine Ent.to ?_ ?_ <;> simp (disch := omega) only [wkT_cons, wkX_cons, wkT_nil, wkX_nil, get, Nat.reduceEqDiff, ↓reduceIte, ex_some, wk_self, wk_top, wk_nil, wkB_self, and_self, dI, i64_in, and_true, true_and, Int.natCast_add, Int.natCast_one, Int.ofNat_zero, Int.natCast_zero, mS]
    all_goals first | exact ⟨.refl _, .refl _, .refl _⟩ | exact ⟨.refl _, .refl _⟩ | exact .refl _
  clear hd
  rintro ⟨⟨i, S⟩, hi, hS⟩
  dsimp only at hi hS ⊢
  by_cases hi3 : i < 3
  · have hd : decide ((i : Int) < 3) = true := decide_eq_true (by omega)
    have hi6 : ((i : Int) < 3) = True := eq_true (by omega)
    have hxl : (x.map dU).length = 30 := by rw [List.length_map]; exact hx
    have h5 := five hx hi3
    have h5l : (5 + i * 5 + 5 ≤ 30) = True := eq_true (by omega)
    have hI := hinv i (by omega)
    rw [← hS] at hI
    have hw4 := hW i hi3
    have hql := hI.len
    have hmN : 1 ≤ mN x := by unfold mN; omega
    have hz : ((mN x : Int) = 0) = False := eq_false (by omega)
    have q0 := gB_lt hb (5 + 5 * i + 0)
    have q1 := gB_lt hb (5 + 5 * i + 1)
    have q2 := gB_lt hb (5 + 5 * i + 2)
    have q3 := gB_lt hb (5 + 5 * i + 3)
    have q4 := gB_lt hb (5 + 5 * i + 4)
    have e0 : IntKind.i64.wrap ((mv x i 0 : Nat) : Int) = ((mv x i 0 : Nat) : Int) := IntWalk.i64_in _ (by unfold mv; omega)
    have e1 : IntKind.i64.wrap ((mv x i 1 : Nat) : Int) = ((mv x i 1 : Nat) : Int) := IntWalk.i64_in _ (by unfold mv; omega)
    have e2 : IntKind.i64.wrap ((mv x i 2 : Nat) : Int) = ((mv x i 2 : Nat) : Int) := IntWalk.i64_in _ (by unfold mv; omega)
    have e3 : IntKind.i64.wrap ((mv x i 3 : Nat) : Int) = ((mv x i 3 : Nat) : Int) := IntWalk.i64_in _ (by unfold mv; omega)
    have e4 : IntKind.i64.wrap ((mv x i 4 : Nat) : Int) = ((mv x i 4 : Nat) : Int) := IntWalk.i64_in _ (by unfold mv; omega)
    have t8 : Int.tmod ((mv x i 4 : Nat) : Int) 8 = ((mv x i 4 % 8 : Nat) : Int) := rfl
    have t5 : Int.tmod ((mv x i 4 : Nat) : Int) 5 = ((mv x i 4 % 5 : Nat) : Int) := rfl
    have t3 : Int.tmod ((mv x i 2 : Nat) : Int) 3 = ((mv x i 2 % 3 : Nat) : Int) := rfl
    have tA : Int.tmod ((mv x i 0 : Nat) : Int) (mN x : Int) = ((mA x i : Nat) : Int) := rfl
    have tB : Int.tmod ((mv x i 1 : Nat) : Int) (mN x : Int) = ((mB x i : Nat) : Int) := rfl
    have w8 : IntKind.i64.wrap (1 + ((mv x i 4 % 8 : Nat) : Int)) = (mT x i).run := IntWalk.i64_in _ (by omega)
    have w3 : IntKind.i64.wrap (1 + ((mv x i 2 % 3 : Nat) : Int)) = ((mna x i : Nat) : Int) := by rw [IntWalk.i64_in _ (by omega), mna]; omega
    have hA : mA x i < mN x := Nat.mod_lt _ (by omega)
    have hB : mB x i < mN x := Nat.mod_lt _ (by omega)
    have hAl : (mA x i < mN x) = True := eq_true hA
    have hBl : (mB x i < mN x) = True := eq_true hB
    have hna : 1 ≤ mna x i ∧ mna x i ≤ 3 := by unfold mna; omega
    have hzl : (zeros (mN x)).length = mN x := by simp [zeros]
    have hW1 : (zeros (mN x)).set (mA x i) ((mna x i : Nat) : Int) = mW1 x i := rfl
    have hW1l : (mW1 x i).length = mN x := by simp [mW1, zeros]
    obtain ⟨z, hzg⟩ := getE (l := zeros (mN x)) (i := mA x i) (by omega)
    have hg1 : (mW1 x i)[mA x i]? = some ((mna x i : Nat) : Int) := by rw [mW1, List.getElem?_set_self (by omega)]
    obtain ⟨z2, hzg2⟩ := getE (l := mW1 x i) (i := mB x i) (by omega)
    have w5 : IntKind.i64.wrap (5 - ((mna x i : Nat) : Int)) = ((5 - mna x i : Nat) : Int) := by rw [IntWalk.i64_in _ (by omega)]; omega
    have tb : Int.tmod ((mv x i 3 : Nat) : Int) ((5 - mna x i : Nat) : Int) = ((mnb x i : Nat) : Int) := rfl
    have hz2 : (((5 - mna x i : Nat) : Int) = 0) = False := eq_false (by omega)
    obtain ⟨R, hR⟩ : ∃ R, seekF (mW x i) S.q 0 0 (mLk x i) = R := ⟨_, rfl⟩
    by_cases hab : mA x i = mB x i
    case' pos =>
      have d1 : (((mA x i : Nat) : Int) != ((mB x i : Nat) : Int)) = false := by rw [hab]; simp
      have hWW : mW1 x i = mW x i := by unfold mW; rw [if_pos hab]
    case' neg =>
      have d1 : (((mA x i : Nat) : Int) != ((mB x i : Nat) : Int)) = true := by rw [bne_iff_ne]; omega
      have hWW : (mW1 x i).set (mB x i) ((mnb x i : Nat) : Int) = mW x i := by unfold mW; rw [if_neg hab]
    all_goals
      by_cases hi0 : i = 0
      case' pos =>
        have d0 : decide ((0 : Int) < (i : Int)) = false := decide_eq_false (by omega)
        have d5 := hln
        have hlk : mLk x i = false := by unfold mLk; rw [decide_eq_false (by omega)]; rfl
      case' neg =>
        have d0 : decide ((0 : Int) < (i : Int)) = true := decide_eq_true (by omega)
        have d5 : (((mv x i 4 % 5 : Nat) : Int) == 0) = mLk x i := by
          unfold mLk
          rw [decide_eq_true (by omega), Bool.true_and, Bool.eq_iff_iff, beq_iff_eq, decide_eq_true_eq]; omega
        have hlk := hln
      all_goals
        repeat' (first
    | (with_reducible first | refine DW.seq ?_ | refine DW.block ?_ | refine DW.skip ?_ | refine DW.exit ?_ | refine DW.ret ?_ | refine DW.reg ?_)
    | (refine DW.dreg rfl (WF.of ?_) ?_; first | rfl | skip)
    | (refine DW.ord rfl (WF.of (by first | rfl | simp (disch := omega) only [go_sem, simprocAttr, bm_box, bm_row, bk_box, bk_row, und5, hd, hi6, hxl, h5, h5l, hln, replZ, hz, e0, e1, e2, e3, e4, t8, t3, t5, tA, tB, w8, w3, hAl, hBl, hzl, hzg, hzg2, rowC_set1, rows_setI, hW1, hW1l, d1, hg1, w5, tb, hz2, hWW, d0, d5])) ?_ ?_ ?_; rotate_left)
    | rfl
    | (with_reducible refine And.intro ?_ ?_)
    | (simp (disch := omega) only [go_sem, simprocAttr, bm_box, bm_row, bk_box, bk_row, und5, hd, hi6, hxl, h5, h5l, hln, replZ, hz, e0, e1, e2, e3, e4, t8, t3, t5, tA, tB, w8, w3, hAl, hBl, hzl, hzg, hzg2, rowC_set1, rows_setI, hW1, hW1l, d1, hg1, w5, tb, hz2, hWW, d0, d5])
    | (exact retS_of rfl rfl rfl)
    | (refine DW.cond_tt rfl ?_)
    | (refine DW.cond_ff rfl ?_)
    | (refine DW.cond rfl ?_ ?_ <;> intro hc <;> (try simp only [go_sem] at hc))
    | (refine g_split ?_ ?_ <;> intro hc <;> (try simp only [hc]) <;> (try simp only [go_sem] at hc)))
        (refine DW.ent (Ent.rel 58 rfl) ?_; simp (disch := omega) only [go_sem, simprocAttr, bm_box, bm_row, bk_box, bk_row])
        refine DW.loop (ι := { y : Nat × Nat × Bool // y.1 ≤ S.q.length ∧ y.2.1 ≤ y.1 ∧ seekF (mW x i) (S.q.drop y.1) y.1 y.2.1 y.2.2 = R }) (fun y => ⟨255, [(17, dI y.1.1), (16, bD y.1.2.2), (15, dI y.1.2.1), (12, .box 12 0), (10, dI i), (9, .own 47), (7, dSt false S.q), (6, .own 23), (5, .box 5 0), (4, .c (.v (.slice none 0 0))), (3, .c (.v (.slice none 0 0))), (2, .box 2 0), (1, .box 1 0)], [(47, .row 1 (rowC (rows eI S.G))), (23, .row 3 (rowC (rows eO (mL0 x (mN x))))), (12, .box [dIs false (mW x i), dI (mT x i).run]), (5, .box [dI 3000, dI S.lo, dI S.hi, dI 4]), (2, .box [dI 0, dI 0, dI 0, dI 0]), (1, shB x)]⟩) (fun y => S.q.length - y.1.1) ⟨(0, 0, mLk x i), Nat.zero_le _, Nat.le_refl _, hR⟩ ?_ ?_
        · refine Ent.to ?_ ?_ <;> simp (disch := omega) only [wkT_cons, wkX_cons, wkT_nil, wkX_nil, get, Nat.reduceEqDiff, ↓reduceIte, ex_some, wk_self, wk_top, wk_nil, wkB_self, and_self, dI, i64_in, and_true, true_and, Int.natCast_add, Int.natCast_one, Int.ofNat_zero, Int.natCast_zero, hlk]
          all_goals first | exact ⟨.refl _, .refl _, .refl _⟩ | exact ⟨.refl _, .refl _⟩ | exact .refl _
        rintro ⟨⟨k, m, lk⟩, hk, hmk, hsk⟩
        dsimp only at hk hmk hsk ⊢
        rcases at_or S.q k hk with ⟨u, hu, hlt, hdk⟩ | ⟨he, hdk⟩
        · have hul := (hI.st u (List.mem_of_getElem? hu)).1.1
          have hwl := hw4.len
          rw [hln] at hwl
          have hdr : S.q.drop k = u :: S.q.drop (k + 1) := by rw [List.drop_eq_getElem_cons hlt, (List.getElem_eq_iff hlt).2 hu]
          rw [hdr, seekF] at hsk
          have c1 := laBefore false false u.ws (mW x i) (by omega) (by omega)
          have c2 := laBefore false false (mW x i) u.ws (by omega) (by omega)
          cases g1 : lexW u.ws (mW x i) with
          | true =>
            rw [g1] at c1
            rw [if_pos g1] at hsk
            repeat' (first
    | (with_reducible first | refine DW.seq ?_ | refine DW.block ?_ | refine DW.skip ?_ | refine DW.exit ?_ | refine DW.ret ?_ | refine DW.reg ?_)
    | (refine DW.dreg rfl (WF.of ?_) ?_; first | rfl | skip)
    | (refine DW.ord rfl (WF.of (by first | rfl | simp (disch := omega) only [go_sem, simprocAttr, bm_box, bm_row, bk_box, bk_row, hdk, hu, List.map_cons, List.map_nil])) ?_ ?_ ?_; rotate_left)
    | rfl
    | (with_reducible refine And.intro ?_ ?_)
    | (simp (disch := omega) only [go_sem, simprocAttr, bm_box, bm_row, bk_box, bk_row, hdk, hu, List.map_cons, List.map_nil])
    | (exact retS_of rfl rfl rfl)
    | (refine DW.cond_tt rfl ?_)
    | (refine call_c (c1) (by decide) ?_)
    | (refine DW.cond_ff rfl ?_)
    | (refine DW.cond rfl ?_ ?_ <;> intro hc <;> (try simp only [go_sem] at hc))
    | (refine g_split ?_ ?_ <;> intro hc <;> (try simp only [hc]) <;> (try simp only [go_sem] at hc)))
            refine ⟨⟨(k + 1, k + 1, lk), hlt, Nat.le_refl _, hsk⟩, ?_, Ent.to ?_ ?_⟩ <;> first | (show _ < _; (try simp only); omega) | (simp (disch := omega) only [wkT_cons, wkX_cons, wkT_nil, wkX_nil, get, Nat.reduceEqDiff, ↓reduceIte, ex_some, wk_self, wk_top, wk_nil, wkB_self, and_self, dI, i64_in, and_true, true_and, Int.natCast_add, Int.natCast_one, Int.ofNat_zero, Int.natCast_zero])
            all_goals first | exact ⟨.refl _, .refl _, .refl _⟩ | exact ⟨.refl _, .refl _⟩ | exact .refl _
          | false =>
            rw [g1] at c1
            rw [if_neg (by rw [g1]; exact Bool.false_ne_true)] at hsk
            cases g2 : lexW (mW x i) u.ws with
            | true =>
              rw [g2] at c2
              rw [if_pos g2] at hsk
              repeat' (first
    | (with_reducible first | refine DW.seq ?_ | refine DW.block ?_ | refine DW.skip ?_ | refine DW.exit ?_ | refine DW.ret ?_ | refine DW.reg ?_)
    | (refine DW.dreg rfl (WF.of ?_) ?_; first | rfl | skip)
    | (refine DW.ord rfl (WF.of (by first | rfl | simp (disch := omega) only [go_sem, simprocAttr, bm_box, bm_row, bk_box, bk_row, hdk, hu, List.map_cons, List.map_nil])) ?_ ?_ ?_; rotate_left)
    | rfl
    | (with_reducible refine And.intro ?_ ?_)
    | (simp (disch := omega) only [go_sem, simprocAttr, bm_box, bm_row, bk_box, bk_row, hdk, hu, List.map_cons, List.map_nil])
    | (exact retS_of rfl rfl rfl)
    | (refine DW.cond_tt rfl ?_)
    | (refine call_c (c1) (by decide) ?_)
    | (refine call_c (c2) (by decide) ?_)
    | (refine DW.cond_ff rfl ?_)
    | (refine DW.cond rfl ?_ ?_ <;> intro hc <;> (try simp only [go_sem] at hc))
    | (refine g_split ?_ ?_ <;> intro hc <;> (try simp only [hc]) <;> (try simp only [go_sem] at hc)))
              refine ⟨⟨(k + 1, m, lk), hlt, by dsimp only; omega, hsk⟩, ?_, Ent.to ?_ ?_⟩ <;> first | (show _ < _; (try simp only); omega) | (simp (disch := omega) only [wkT_cons, wkX_cons, wkT_nil, wkX_nil, get, Nat.reduceEqDiff, ↓reduceIte, ex_some, wk_self, wk_top, wk_nil, wkB_self, and_self, dI, i64_in, and_true, true_and, Int.natCast_add, Int.natCast_one, Int.ofNat_zero, Int.natCast_zero])
              all_goals first | exact ⟨.refl _, .refl _, .refl _⟩ | exact ⟨.refl _, .refl _⟩ | exact .refl _
            | false =>
              rw [g2] at c2
              rw [if_neg (by rw [g2]; exact Bool.false_ne_true)] at hsk
              repeat' (first
    | (with_reducible first | refine DW.seq ?_ | refine DW.block ?_ | refine DW.skip ?_ | refine DW.exit ?_ | refine DW.ret ?_ | refine DW.reg ?_)
    | (refine DW.dreg rfl (WF.of ?_) ?_; first | rfl | skip)
    | (refine DW.ord rfl (WF.of (by first | rfl | simp (disch := omega) only [go_sem, simprocAttr, bm_box, bm_row, bk_box, bk_row, hdk, hu, List.map_cons, List.map_nil])) ?_ ?_ ?_; rotate_left)
    | rfl
    | (with_reducible refine And.intro ?_ ?_)
    | (simp (disch := omega) only [go_sem, simprocAttr, bm_box, bm_row, bk_box, bk_row, hdk, hu, List.map_cons, List.map_nil])
    | (exact retS_of rfl rfl rfl)
    | (refine DW.cond_tt rfl ?_)
    | (refine call_c (c1) (by decide) ?_)
    | (refine call_c (c2) (by decide) ?_)
    | (refine DW.cond_ff rfl ?_)
    | (refine DW.cond rfl ?_ ?_ <;> intro hc <;> (try simp only [go_sem] at hc))
    | (refine g_split ?_ ?_ <;> intro hc <;> (try simp only [hc]) <;> (try simp only [go_sem] at hc)))
              refine ⟨⟨(k + 1, m, true), hlt, by dsimp only; omega, hsk⟩, ?_, Ent.to ?_ ?_⟩ <;> first | (show _ < _; (try simp only); omega) | (simp (disch := omega) only [wkT_cons, wkX_cons, wkT_nil, wkX_nil, get, Nat.reduceEqDiff, ↓reduceIte, ex_some, wk_self, wk_top, wk_nil, wkB_self, and_self, dI, i64_in, and_true, true_and, Int.natCast_add, Int.natCast_one, Int.ofNat_zero, Int.natCast_zero])
              all_goals first | exact ⟨.refl _, .refl _, .refl _⟩ | exact ⟨.refl _, .refl _⟩ | exact .refl _
        rw [List.drop_eq_nil_of_le (by omega), seekF] at hsk
        have hstp : mS x (i + 1) = stepM x i S := by rw [mS, ← hS]
        unfold stepM at hstp
        rw [hR, ← hsk] at hstp
        cases lk with
        | true =>
          rw [if_pos rfl] at hstp
          repeat' (first
    | (with_reducible first | refine DW.seq ?_ | refine DW.block ?_ | refine DW.skip ?_ | refine DW.exit ?_ | refine DW.ret ?_ | refine DW.reg ?_)
    | (refine DW.dreg rfl (WF.of ?_) ?_; first | rfl | skip)
    | (refine DW.ord rfl (WF.of (by first | rfl | simp (disch := omega) only [go_sem, simprocAttr, bm_box, bm_row, bk_box, bk_row, hdk])) ?_ ?_ ?_; rotate_left)
    | rfl
    | (with_reducible refine And.intro ?_ ?_)
    | (simp (disch := omega) only [go_sem, simprocAttr, bm_box, bm_row, bk_box, bk_row, hdk])
    | (exact retS_of rfl rfl rfl)
    | (refine DW.cond_tt rfl ?_)
    | (refine DW.cond_ff rfl ?_)
    | (refine DW.cond rfl ?_ ?_ <;> intro hc <;> (try simp only [go_sem] at hc))
    | (refine g_split ?_ ?_ <;> intro hc <;> (try simp only [hc]) <;> (try simp only [go_sem] at hc)))
          refine ⟨⟨(i + 1, S), by dsimp only; omega, hstp.symm⟩, ?_, Ent.to ?_ ?_⟩ <;> first | (show _ < _; (try simp only); omega) | (simp (disch := omega) only [wkT_cons, wkX_cons, wkT_nil, wkX_nil, get, Nat.reduceEqDiff, ↓reduceIte, ex_some, wk_self, wk_top, wk_nil, wkB_self, and_self, dI, i64_in, and_true, true_and, Int.natCast_add, Int.natCast_one, Int.ofNat_zero, Int.natCast_zero])
          all_goals first | exact ⟨.refl _, .refl _, .refl _⟩ | exact ⟨.refl _, .refl _⟩ | exact .refl _
        | false =>
          rw [if_neg Bool.false_ne_true] at hstp
          dsimp only at hstp
          have hdl : (List.drop m S.q).length ≤ 3 := by rw [List.length_drop]; omega
          have htl : (List.take m S.q).length ≤ 3 := by rw [List.length_take]; omega
          have hml : ((m : Int) ≤ (S.q.length : Int)) = True := eq_true (by omega)
          have hpos : (0 < (List.drop m S.q).length + 1) = True := eq_true (by omega)
          repeat' (first
    | (with_reducible first | refine DW.seq ?_ | refine DW.block ?_ | refine DW.skip ?_ | refine DW.exit ?_ | refine DW.ret ?_ | refine DW.reg ?_)
    | (refine DW.dreg rfl (WF.of ?_) ?_; first | rfl | skip)
    | (refine DW.ord rfl (WF.of (by first | rfl | simp (disch := omega) only [go_sem, simprocAttr, bm_box, bm_row, bk_box, bk_row, hdk, hml, hpos, Int.le_refl, true_and, shut3, ins_rows])) ?_ ?_ ?_; rotate_left)
    | rfl
    | (with_reducible refine And.intro ?_ ?_)
    | (simp (disch := omega) only [go_sem, simprocAttr, bm_box, bm_row, bk_box, bk_row, hdk, hml, hpos, Int.le_refl, true_and, shut3, ins_rows])
    | (exact retS_of rfl rfl rfl)
    | (refine DW.cond_tt rfl ?_)
    | (refine DW.cond_ff rfl ?_)
    | (refine DW.cond rfl ?_ ?_ <;> intro hc <;> (try simp only [go_sem] at hc))
    | (refine g_split ?_ ?_ <;> intro hc <;> (try simp only [hc]) <;> (try simp only [go_sem] at hc)))
          have hQ : List.take m S.q ++ (⟨mW x i, (mT x i).run⟩ : TStp) :: List.drop m S.q = List.take m S.q ++ mT x i :: List.drop m S.q := rfl
          generalize List.take m S.q ++ mT x i :: List.drop m S.q = Q at hQ hstp
          rw [hQ]
          have hgb := hI.gb
          have hlo := hI.lo
          have hhi := hI.hi
          have hLo := mL0_ok hb (k := mN x)
          have hrun : 1 ≤ (mT x i).run ∧ (mT x i).run ≤ 8 := by show 1 ≤ 1 + ((mv x i 4 % 8 : Nat) : Int) ∧ 1 + ((mv x i 4 % 8 : Nat) : Int) ≤ 8; omega
          have hGl : S.G.length = mN x := by rw [hI.got, gotF_len]; exact hzl
          have hwl := hw4.len
          rw [hln] at hwl
          refine DW.loop (ι := { k : Nat // k ≤ (mL0 x (mN x)).length }) (fun k => ⟨255, [(19, dI k.1), (18, dI (3000 - dotI ((mW x i).take k.1) (mL0 x (mN x)))), (12, .box 12 0), (10, dI i), (9, .own 47), (7, dSt false Q), (6, .own 23), (5, .box 5 0), (4, .c (.v (.slice none 0 0))), (3, .c (.v (.slice none 0 0))), (2, .box 2 0), (1, .box 1 0)], [(47, .row 1 (rowC (rows eI (addG S.G ((mW x i).take k.1) (mT x i).run)))), (23, .row 3 (rowC (rows eO (mL0 x (mN x))))), (12, .box [dIs false (mW x i), dI (mT x i).run]), (5, .box [dI 3000, dI S.lo, dI S.hi, dI 4]), (2, .box [dI 0, dI 0, dI 0, dI 0]), (1, shB x)]⟩) (fun k => (mL0 x (mN x)).length - k.1) ⟨0, Nat.zero_le _⟩ ?_ ?_
          · refine Ent.to ?_ ?_ <;> simp (disch := omega) only [wkT_cons, wkX_cons, wkT_nil, wkX_nil, get, Nat.reduceEqDiff, ↓reduceIte, ex_some, wk_self, wk_top, wk_nil, wkB_self, and_self, dI, i64_in, and_true, true_and, Int.natCast_add, Int.natCast_one, Int.ofNat_zero, Int.natCast_zero, List.take_zero, addG_nil, dotI, Int.sub_zero]
            all_goals first | exact ⟨.refl _, .refl _, .refl _⟩ | exact ⟨.refl _, .refl _⟩ | exact .refl _
          rintro ⟨j, hj⟩
          dsimp only
          rcases at_or (mL0 x (mN x)) j hj with ⟨o, hok, hltj, hdj⟩ | ⟨hej, hdj⟩
          · rw [hln] at hdj
            obtain ⟨n, hn⟩ := getE (l := mW x i) (i := j) (by omega)
            obtain ⟨y, hy, hy2, hset⟩ := addG_take (g := S.G) (ws := mW x i) (r := (mT x i).run) (i := j) hn (by omega)
            have hyb := hgb y (List.mem_of_getElem? hy)
            have hnb := hw4.b n (List.mem_of_getElem? hn)
            have hob := mL0_w hb (List.mem_of_getElem? hok)
            have k1 : 0 ≤ n * (mT x i).run := Int.mul_nonneg hnb.1 (by omega)
            have k2 : n * (mT x i).run ≤ 4 * (mT x i).run := Int.mul_le_mul_of_nonneg_right hnb.2 (by omega)
            have hal : (addG S.G ((mW x i).take j) (mT x i).run).length = S.G.length := addG_len _ _ _
            have hil : (j < (addG S.G ((mW x i).take j) (mT x i).run).length) = True := eq_true (by omega)
            have hjl : (j < mN x) = True := eq_true (by omega)
            have ht := dot_take hn hok
            have hdb := dot_b (ws := (mW x i).take j) (l := mL0 x (mN x)) (fun x hx => hw4.b x (List.mem_of_mem_take hx)) hLo
            have m3 : 0 ≤ n * o.w := Int.mul_nonneg hnb.1 (by omega)
            have m4' : n * o.w ≤ 4 * o.w := Int.mul_le_mul_of_nonneg_right hnb.2 (by omega)
            have v3 : IntKind.i64.wrap (n * o.w) = n * o.w := IntWalk.i64_in _ (by omega)
            have v6 : IntKind.i64.wrap (3000 - dotI ((mW x i).take j) (mL0 x (mN x)) - n * o.w) = 3000 - dotI ((mW x i).take j) (mL0 x (mN x)) - n * o.w := IntWalk.i64_in _ (by omega)
            have hlf : 3000 - dotI ((mW x i).take (j + 1)) (mL0 x (mN x)) = 3000 - dotI ((mW x i).take j) (mL0 x (mN x)) - n * o.w := by omega
            generalize 3000 - dotI ((mW x i).take j) (mL0 x (mN x)) = A at *
            generalize addG S.G ((mW x i).take j) (mT x i).run = H at *
            have v1 : IntKind.i64.wrap (n * (mT x i).run) = n * (mT x i).run := IntWalk.i64_in _ (by omega)
            have v2 : IntKind.i64.wrap (y + n * (mT x i).run) = y + n * (mT x i).run := IntWalk.i64_in _ (by omega)
            repeat' (first
    | (with_reducible first | refine DW.seq ?_ | refine DW.block ?_ | refine DW.skip ?_ | refine DW.exit ?_ | refine DW.ret ?_ | refine DW.reg ?_)
    | (refine DW.dreg rfl (WF.of ?_) ?_; first | rfl | skip)
    | (refine DW.ord rfl (WF.of (by first | rfl | simp (disch := omega) only [go_sem, simprocAttr, bm_box, bm_row, bk_box, bk_row, hdj, hln, hn, hok, hy2, hil, hjl, v1, v2, v3, v6, rowC_set1, rows_setI, hset, List.map_cons, List.map_nil])) ?_ ?_ ?_; rotate_left)
    | rfl
    | (with_reducible refine And.intro ?_ ?_)
    | (simp (disch := omega) only [go_sem, simprocAttr, bm_box, bm_row, bk_box, bk_row, hdj, hln, hn, hok, hy2, hil, hjl, v1, v2, v3, v6, rowC_set1, rows_setI, hset, List.map_cons, List.map_nil])
    | (exact retS_of rfl rfl rfl)
    | (refine DW.cond_tt rfl ?_)
    | (refine DW.cond_ff rfl ?_)
    | (refine DW.cond rfl ?_ ?_ <;> intro hc <;> (try simp only [go_sem] at hc))
    | (refine g_split ?_ ?_ <;> intro hc <;> (try simp only [hc]) <;> (try simp only [go_sem] at hc)))
            refine ⟨⟨j + 1, hltj⟩, ?_, Ent.to ?_ ?_⟩ <;> first | (show _ < _; (try simp only); omega) | (simp (disch := omega) only [wkT_cons, wkX_cons, wkT_nil, wkX_nil, get, Nat.reduceEqDiff, ↓reduceIte, ex_some, wk_self, wk_top, wk_nil, wkB_self, and_self, dI, i64_in, and_true, true_and, Int.natCast_add, Int.natCast_one, Int.ofNat_zero, Int.natCast_zero,  hlf])
            all_goals first | exact ⟨.refl _, .refl _, .refl _⟩ | exact ⟨.refl _, .refl _⟩ | exact .refl _
          · rw [hln] at hdj
            have htw : (mW x i).take j = mW x i := List.take_of_length_le (by omega)
            rw [htw]
            have hdb := dot_b (ws := mW x i) (l := mL0 x (mN x)) hw4.b hLo
            have c3 := laSpan (min S.lo (3000 - dotI (mW x i) (mL0 x (mN x)))) (max S.hi (3000 - dotI (mW x i) (mL0 x (mN x))))
            repeat' (first
    | (with_reducible first | refine DW.seq ?_ | refine DW.block ?_ | refine DW.skip ?_ | refine DW.exit ?_ | refine DW.ret ?_ | refine DW.reg ?_)
    | (refine DW.dreg rfl (WF.of ?_) ?_; first | rfl | skip)
    | (refine DW.ord rfl (WF.of (by first | rfl | simp (disch := omega) only [go_sem, simprocAttr, bm_box, bm_row, bk_box, bk_row, hdj, hln, min_if, max_if])) ?_ ?_ ?_; rotate_left)
    | rfl
    | (with_reducible refine And.intro ?_ ?_)
    | (simp (disch := omega) only [go_sem, simprocAttr, bm_box, bm_row, bk_box, bk_row, hdj, hln, min_if, max_if])
    | (exact retS_of rfl rfl rfl)
    | (refine DW.cond_tt rfl ?_)
    | (refine call_c (c3) (by decide) ?_)
    | (refine DW.cond_ff rfl ?_)
    | (refine DW.cond rfl ?_ ?_ <;> intro hc <;> (try simp only [go_sem] at hc))
    | (refine g_split ?_ ?_ <;> intro hc <;> (try simp only [hc]) <;> (try simp only [go_sem] at hc)))
            refine ⟨⟨(i + 1, ⟨Q, addG S.G (mW x i) (mT x i).run, min S.lo (3000 - dotI (mW x i) (mL0 x (mN x))), max S.hi (3000 - dotI (mW x i) (mL0 x (mN x)))⟩), by dsimp only; omega, hstp.symm⟩, ?_, Ent.to ?_ ?_⟩ <;> first | (show _ < _; (try simp only); omega) | (simp (disch := omega) only [wkT_cons, wkX_cons, wkT_nil, wkX_nil, get, Nat.reduceEqDiff, ↓reduceIte, ex_some, wk_self, wk_top, wk_nil, wkB_self, and_self, dI, i64_in, and_true, true_and, Int.natCast_add, Int.natCast_one, Int.ofNat_zero, Int.natCast_zero])
            all_goals first | exact ⟨.refl _, .refl _, .refl _⟩ | exact ⟨.refl _, .refl _⟩ | exact .refl _
  have hd : decide ((i : Int) < 3) = false := decide_eq_false (by omega)
  obtain rfl : i = 3 := by omega
  have hI := hinv 3 (by omega)
  rw [← hS] at hI
  have hlo := hI.lo
  have hhi := hI.hi
  have hgb := hI.gb
  have r28 := gB_get hx (i := 28) (by decide)
  have r29 := gB_get hx (i := 29) (by decide)
  have q28 := gB_lt hb 28
  have q29 := gB_lt hb 29
  have e28 : IntKind.i64.wrap ((gB x 28 : Nat) : Int) = ((gB x 28 : Nat) : Int) := IntWalk.i64_in _ (by omega)
  have e29 : IntKind.i64.wrap ((gB x 29 : Nat) : Int) = ((gB x 29 : Nat) : Int) := IntWalk.i64_in _ (by omega)
  have t28 : Int.tmod ((gB x 28 : Nat) : Int) 50 = ((gB x 28 % 50 : Nat) : Int) := rfl
  have t29 : Int.tmod ((gB x 29 : Nat) : Int) 50 = ((gB x 29 % 50 : Nat) : Int) := rfl
  have v28 : IntKind.i64.wrap (S.lo - ((gB x 28 % 50 : Nat) : Int)) = S.lo - ((gB x 28 % 50 : Nat) : Int) := IntWalk.i64_in _ (by omega)
  have v29 : IntKind.i64.wrap (S.hi + ((gB x 29 % 50 : Nat) : Int)) = S.hi + ((gB x 29 % 50 : Nat) : Int) := IntWalk.i64_in _ (by omega)
  have c3 := laSpan (max 0 (S.lo - ((gB x 28 % 50 : Nat) : Int))) (S.hi + ((gB x 29 % 50 : Nat) : Int))
  have hxl : (x.map dU).length = 30 := by rw [List.length_map]; exact hx
  repeat' (first
    | (with_reducible first | refine DW.seq ?_ | refine DW.block ?_ | refine DW.skip ?_ | refine DW.exit ?_ | refine DW.ret ?_ | refine DW.reg ?_)
    | (refine DW.dreg rfl (WF.of ?_) ?_; first | rfl | skip)
    | (refine DW.ord rfl (WF.of (by first | rfl | simp (disch := omega) only [go_sem, simprocAttr, bm_box, bm_row, bk_box, bk_row, hd, und5, hxl, r28, r29, e28, e29, t28, t29, v28, v29, min_if, max_if])) ?_ ?_ ?_; rotate_left)
    | rfl
    | (with_reducible refine And.intro ?_ ?_)
    | (simp (disch := omega) only [go_sem, simprocAttr, bm_box, bm_row, bk_box, bk_row, hd, und5, hxl, r28, r29, e28, e29, t28, t29, v28, v29, min_if, max_if])
    | (exact retS_of rfl rfl rfl)
    | (refine DW.cond_tt rfl ?_)
    | (refine call_c (c3) (by decide) ?_)
    | (refine DW.cond_ff rfl ?_)
    | (refine DW.cond rfl ?_ ?_ <;> intro hc <;> (try simp only [go_sem] at hc))
    | (refine g_split ?_ ?_ <;> intro hc <;> (try simp only [hc]) <;> (try simp only [go_sem] at hc)))
  have hz := mLn_zero x S.G
  refine DW.loop (ι := { k : Nat // k ≤ mN x }) (fun k => ⟨255, [(20, dI k.1), (9, .own 47), (7, dSt false S.q), (6, .own 23), (5, .box 5 0), (4, .c (.v (.slice none 0 0))), (3, .c (.v (.slice none 0 0))), (2, .box 2 0), (1, .box 1 0)], [(47, .row 1 (rowC (rows eI S.G))), (23, .row 3 (rowC (rows eO (mLn x S.G k.1)))), (5, .box [dI 3000, dI (max 0 (S.lo - ((gB x 28 % 50 : Nat) : Int))), dI (S.hi + ((gB x 29 % 50 : Nat) : Int)), dI 4]), (2, .box [dI 0, dI 0, dI 0, dI 0]), (1, shB x)]⟩) (fun k => mN x - k.1) ⟨0, Nat.zero_le _⟩ ?_ ?_
  · refine Ent.to ?_ ?_ <;> simp (disch := omega) only [wkT_cons, wkX_cons, wkT_nil, wkX_nil, get, Nat.reduceEqDiff, ↓reduceIte, ex_some, wk_self, wk_top, wk_nil, wkB_self, and_self, dI, i64_in, and_true, true_and, Int.natCast_add, Int.natCast_one, Int.ofNat_zero, Int.natCast_zero, hz]
    all_goals first | exact ⟨.refl _, .refl _, .refl _⟩ | exact ⟨.refl _, .refl _⟩ | exact .refl _
  rintro ⟨k, hk⟩
  dsimp only
  have hll := mLn_len x S.G k
  by_cases hkn : k < mN x
  · have hdk : decide ((k : Int) < (mN x : Int)) = true := decide_eq_true (by omega)
    have hk4 : k < 4 := by omega
    have hk4i : ((k : Int) < 4) = True := eq_true (by omega)
    have hGl : S.G.length = mN x := by rw [hI.got, gotF_len]; simp [zeros]
    obtain ⟨g, hg⟩ := getE (l := S.G) (i := k) (by omega)
    have hgbk := hgb g (List.mem_of_getElem? hg)
    have hgD : S.G.getD k 0 = g := by rw [List.getD_eq_getElem?_getD, hg]; rfl
    have hkl : (k < S.G.length) = True := eq_true (by omega)
    have hkn' : (k < mN x) = True := eq_true (by omega)
    have rk0 : (x.map dU)[20 + k * 2]? = some (dU (gB x (20 + 2 * k))) := by rw [gB_get hx (by omega), Nat.mul_comm]
    have rk1 : (x.map dU)[20 + k * 2 + 1]? = some (dU (gB x (21 + 2 * k))) := by rw [gB_get hx (by omega), show 20 + k * 2 + 1 = 21 + 2 * k by omega]
    have qk0 := gB_lt hb (20 + 2 * k)
    have qk1 := gB_lt hb (21 + 2 * k)
    have ek0 : IntKind.i64.wrap ((gB x (20 + 2 * k) : Nat) : Int) = ((gB x (20 + 2 * k) : Nat) : Int) := IntWalk.i64_in _ (by omega)
    have ek1 : IntKind.i64.wrap ((gB x (21 + 2 * k) : Nat) : Int) = ((gB x (21 + 2 * k) : Nat) : Int) := IntWalk.i64_in _ (by omega)
    have tk0 : Int.tmod ((gB x (20 + 2 * k) : Nat) : Int) 3 = ((gB x (20 + 2 * k) % 3 : Nat) : Int) := rfl
    have tk1 : Int.tmod ((gB x (21 + 2 * k) : Nat) : Int) 3 = ((gB x (21 + 2 * k) % 3 : Nat) : Int) := rfl
    have vk0 : IntKind.i64.wrap (g - ((gB x (20 + 2 * k) % 3 : Nat) : Int)) = g - ((gB x (20 + 2 * k) % 3 : Nat) : Int) := IntWalk.i64_in _ (by omega)
    have vk1 : IntKind.i64.wrap (g + ((gB x (21 + 2 * k) % 3 : Nat) : Int)) = g + ((gB x (21 + 2 * k) % 3 : Nat) : Int) := IntWalk.i64_in _ (by omega)
    have c4 := laSpan (max 0 (g - ((gB x (20 + 2 * k) % 3 : Nat) : Int))) (g + ((gB x (21 + 2 * k) % 3 : Nat) : Int))
    have hmk := mLn_get (x := x) (G := S.G) hkn
    have hsk : (rowC (rows eO (mLn x S.G k))).set k [dI (mO x k).w, dI (max 0 (g - ((gB x (20 + 2 * k) % 3 : Nat) : Int))), dI (g + ((gB x (21 + 2 * k) % 3 : Nat) : Int))] = rowC (rows eO (mLn x S.G (k + 1))) := by
      rw [← mLn_set hkn]
      rw [show mNd x S.G k = ⟨300 + 7 * (gB x k : Int) / 4, max 0 (g - ((gB x (20 + 2 * k) % 3 : Nat) : Int)), g + ((gB x (21 + 2 * k) % 3 : Nat) : Int)⟩ by rw [mNd, hgD], rows, rows, List.map_set, rowC, rowC, List.map_set]
      rfl
    repeat' (first
    | (with_reducible first | refine DW.seq ?_ | refine DW.block ?_ | refine DW.skip ?_ | refine DW.exit ?_ | refine DW.ret ?_ | refine DW.reg ?_)
    | (refine DW.dreg rfl (WF.of ?_) ?_; first | rfl | skip)
    | (refine DW.ord rfl (WF.of (by first | rfl | simp (disch := omega) only [go_sem, simprocAttr, bm_box, bm_row, bk_box, bk_row, hdk, hll, und5, hxl, hk4i, hg, hkl, hkn', rk0, rk1, ek0, ek1, tk0, tk1, vk0, vk1, hmk, min_if, max_if, hsk, List.map_cons, List.map_nil])) ?_ ?_ ?_; rotate_left)
    | rfl
    | (with_reducible refine And.intro ?_ ?_)
    | (simp (disch := omega) only [go_sem, simprocAttr, bm_box, bm_row, bk_box, bk_row, hdk, hll, und5, hxl, hk4i, hg, hkl, hkn', rk0, rk1, ek0, ek1, tk0, tk1, vk0, vk1, hmk, min_if, max_if, hsk, List.map_cons, List.map_nil])
    | (exact retS_of rfl rfl rfl)
    | (refine DW.cond_tt rfl ?_)
    | (refine call_c (c4) (by decide) ?_)
    | (refine DW.cond_ff rfl ?_)
    | (refine DW.cond rfl ?_ ?_ <;> intro hc <;> (try simp only [go_sem] at hc))
    | (refine g_split ?_ ?_ <;> intro hc <;> (try simp only [hc]) <;> (try simp only [go_sem] at hc)))
    refine ⟨⟨k + 1, hkn⟩, ?_, Ent.to ?_ ?_⟩ <;> first | (show _ < _; (try simp only); omega) | (simp (disch := omega) only [wkT_cons, wkX_cons, wkT_nil, wkX_nil, get, Nat.reduceEqDiff, ↓reduceIte, ex_some, wk_self, wk_top, wk_nil, wkB_self, and_self, dI, i64_in, and_true, true_and, Int.natCast_add, Int.natCast_one, Int.ofNat_zero, Int.natCast_zero])
    all_goals first | exact ⟨.refl _, .refl _, .refl _⟩ | exact ⟨.refl _, .refl _⟩ | exact .refl _
  · have hdk : decide ((k : Int) < (mN x : Int)) = false := decide_eq_false (by omega)
    obtain rfl : k = mN x := by omega
    have hmP : mP x = ⟨3000, max 0 (S.lo - ((gB x 28 % 50 : Nat) : Int)), S.hi + ((gB x 29 % 50 : Nat) : Int), 4⟩ := by rw [mP, ← hS]
    have hmL : mL x = mLn x S.G (mN x) := by rw [mL, ← hS]
    have hmQ : mQ x = S.q := by rw [mQ, ← hS]
    rw [hmP, hmL, hmQ]
    repeat' (first
    | (with_reducible first | refine DW.seq ?_ | refine DW.block ?_ | refine DW.skip ?_ | refine DW.exit ?_ | refine DW.ret ?_ | refine DW.reg ?_)
    | (refine DW.dreg rfl (WF.of ?_) ?_; first | rfl | skip)
    | (refine DW.ord rfl (WF.of (by first | rfl | simp (disch := omega) only [go_sem, simprocAttr, bm_box, bm_row, bk_box, bk_row, hdk, hll])) ?_ ?_ ?_; rotate_left)
    | rfl
    | (with_reducible refine And.intro ?_ ?_)
    | (simp (disch := omega) only [go_sem, simprocAttr, bm_box, bm_row, bk_box, bk_row, hdk, hll])
    | (exact retS_of rfl rfl rfl)
    | (refine DW.cond_tt rfl ?_)
    | (refine DW.cond_ff rfl ?_)
    | (refine DW.cond rfl ?_ ?_ <;> intro hc <;> (try simp only [go_sem] at hc))
    | (refine g_split ?_ ?_ <;> intro hc <;> (try simp only [hc]) <;> (try simp only [go_sem] at hc)))
    (refine retS_ent (Ent.rel 23 rfl) ?_; simp (disch := omega) only [go_sem, simprocAttr, bm_box, bm_row, bk_box, bk_row])
    refine retS_wk rfl ?_ (by simp only [Blk.nb, rowC_nb, D.nb, D.nbs, C.nb, C.nbs, C.nbss, rows_nb eI_nb, Bool.and_true, Bool.not_false, Bool.and_self, bD, dI, iD, rows_nb eO_nb, rows_nb eSt_nb, rows_nb eWs_nb, rows_nb e1_nb]); exact .refl _
end Go.Dw.Seat
end
section
set_option linter.unusedSimpArgs false
set_option maxRecDepth 100000
namespace Go.Dw.Seat
open Go Go.Dw Go.Proofs Go.IntWalk
theorem allW_mem : ∀ {ws : List Int}, (∀ v ∈ ws, 0 ≤ v ∧ v ≤ 4) → ws ∈ allW ws.length
  | [], _ => by simp [allW]
  | v :: ws, h => by
    have ih := allW_mem (ws := ws) (fun x hx => h x (by simp [hx]))
    have hv := h v (by simp)
    rw [List.length_cons, allW, List.mem_flatMap]
    refine ⟨v, ?_, List.mem_map.2 ⟨ws, ih, rfl⟩⟩
    have : v = 0 ∨ v = 1 ∨ v = 2 ∨ v = 3 ∨ v = 4 := by omega
    rcases this with rfl | rfl | rfl | rfl | rfl <;> simp
theorem ext_of : ∀ {T : List (List Int)} {q : List TStp}, (T.Pairwise fun a b => lexW a b = true) → (q.Pairwise fun a b => lexW a.ws b.ws = true) → (∀ s ∈ q, s.ws ∈ T ∧ 1 ≤ s.run ∧ s.run ≤ 30) → Ext T q.length q
  | [], [], _, _, _ => ⟨rfl, rfl⟩
  | [], s :: q, _, _, h => by have := (h s (by simp)).1; cases this
  | _ :: _, [], _, _, _ => rfl
  | ws :: T, s :: q, hT, hq, h => by
    obtain ⟨hT1, hT2⟩ := List.pairwise_cons.1 hT
    obtain ⟨hq1, hq2⟩ := List.pairwise_cons.1 hq
    have hs := h s (by simp)
    rw [List.length_cons, Ext]
    by_cases e : s.ws = ws
    · refine .inl ⟨s.run, q, by rw [← e], hs.2, ext_of hT2 hq2 (fun t ht => ?_)⟩
      have h1 := h t (by simp [ht])
      refine ⟨?_, h1.2⟩
      rcases List.mem_cons.1 h1.1 with h2 | h2
      · have h3 := hq1 t ht
        rw [e, h2, lexW_irr] at h3; cases h3
      · exact h2
    · refine .inr ?_
      have hsT : s.ws ∈ T := by
        rcases List.mem_cons.1 hs.1 with h2 | h2
        · exact absurd h2 e
        · exact h2
      have := ext_of (q := s :: q) hT2 hq (fun t ht => ?_)
      · exact this
      · have h1 := h t ht
        refine ⟨?_, h1.2⟩
        rcases List.mem_cons.1 h1.1 with h2 | h2
        · rcases List.mem_cons.1 ht with rfl | ht
          · exact absurd h2 e
          · have h3 := hq1 t ht
            rw [h2] at h3
            have h4 := lexW_asym (hT1 _ hsT)
            rw [h3] at h4; cases h4
        · exact h2
theorem ext_asc : ∀ {T : List (List Int)} {m : Nat} {q : List TStp}, (T.Pairwise fun a b => lexW a b = true) → Ext T m q → q.Pairwise fun a b => lexW a.ws b.ws = true
  | [], _, q, _, h => by rw [h.2]; exact List.Pairwise.nil
  | ws :: T, 0, q, _, h => by
    have : q = [] := h
    rw [this]; exact List.Pairwise.nil
  | ws :: T, m + 1, q, hT, h => by
    obtain ⟨hT1, hT2⟩ := List.pairwise_cons.1 hT
    rcases h with ⟨r, q', rfl, _, h⟩ | h
    · exact List.pairwise_cons.2 ⟨fun t ht => hT1 _ ((ext_mem h).2 t ht).1, ext_asc hT2 h⟩
    · exact ext_asc hT2 h
theorem plan_fine {p : TPap} {l : List TOrd} {q : List TStp} (h : PlanOk p l q) : Fine p l q := ⟨plan_wsb h, ext_asc (pats_ok p l).asc h.ext⟩
theorem fine_plan {p : TPap} (hp : p.ok) {l : List TOrd} {q : List TStp} (h : Fine p l q) (hl : q.length ≤ 3) (hd : doesP l q = true) : PlanOk p l q := by
  refine ⟨hl, ext_of (pats_ok p l).asc h.asc (fun s hs => ?_), hd⟩
  obtain ⟨h1, h2⟩ := h.ok s hs
  refine ⟨List.mem_filter.2 ⟨?_, h1.pat⟩, h2⟩
  rw [← h1.len]
  exact allW_mem (h1.ws4 hp).b
theorem addG_comm : ∀ (g a b : List Int) (r t : Int), addG (addG g a r) b t = addG (addG g b t) a r
  | [], _, _, _, _ => by simp [addG]
  | _ :: _, [], b, r, t => by rw [addG_nil, addG_nil]
  | _ :: _, _ :: _, [], r, t => by rw [addG_nil, addG_nil]
  | g :: gs, m :: a, n :: b, r, t => by
    rw [addG_cons, addG_cons, addG_cons, addG_cons, addG_comm gs a b r t]
    congr 1
    omega
theorem gotF_add : ∀ (q : List TStp) (g a : List Int) (r : Int), gotF (addG g a r) q = addG (gotF g q) a r
  | [], _, _, _ => rfl
  | s :: q, g, a, r => by rw [gotF, addG_comm, gotF_add q, gotF]
theorem gotF_ins (q : List TStp) (m : Nat) (s : TStp) (g : List Int) : gotF g (q.take m ++ s :: q.drop m) = addG (gotF g q) s.ws s.run := by
  rw [gotF_app, gotF, gotF_add, ← gotF_app, List.take_append_drop]
theorem sum_set : ∀ {ws : List Int} {i : Nat} {v u : Int}, ws[i]? = some v → sumI (ws.set i u) = sumI ws - v + u
  | [], _, _, _, h => by simp at h
  | w :: ws, 0, v, u, h => by cases h; simp only [List.set_cons_zero, sumI]; omega
  | w :: ws, i + 1, v, u, h => by
    have := sum_set (ws := ws) (i := i) (v := v) (u := u) h
    simp only [List.set_cons_succ, sumI, this]; omega
theorem used_set : ∀ {ws : List Int} {i : Nat} {v u : Int}, ws[i]? = some v → usedI (ws.set i u) = usedI ws - (if 0 < v then 1 else 0) + (if 0 < u then 1 else 0)
  | [], _, _, _, h => by simp at h
  | w :: ws, 0, v, u, h => by cases h; simp only [List.set_cons_zero, usedI]; omega
  | w :: ws, i + 1, v, u, h => by
    have := used_set (ws := ws) (i := i) (v := v) (u := u) h
    simp only [List.set_cons_succ, usedI, this]; omega
theorem zeros_sum : ∀ n : Nat, sumI (zeros n) = 0 ∧ usedI (zeros n) = 0
  | 0 => ⟨rfl, rfl⟩
  | n + 1 => by
    obtain ⟨h1, h2⟩ := zeros_sum n
    have e : zeros (n + 1) = 0 :: zeros n := rfl
    rw [e, sumI, usedI, h1, h2]; exact ⟨rfl, rfl⟩
theorem dot_sum : ∀ {ws : List Int} {l : List TOrd}, ws.length = l.length → (∀ v ∈ ws, 0 ≤ v) → (∀ o ∈ l, 300 ≤ o.w ∧ o.w ≤ 746) → 300 * sumI ws ≤ dotI ws l ∧ dotI ws l ≤ 746 * sumI ws
  | [], [], _, _, _ => by simp [sumI, dotI]
  | v :: ws, o :: l, hl, h1, h2 => by
    have ih := dot_sum (ws := ws) (l := l) (by simpa using hl) (fun x hx => h1 x (by simp [hx])) (fun x hx => h2 x (by simp [hx]))
    have hv := h1 v (by simp)
    have ho := h2 o (by simp)
    have m1 : 300 * v ≤ v * o.w := by rw [Int.mul_comm]; exact Int.mul_le_mul_of_nonneg_left ho.1 hv
    have m2 : v * o.w ≤ 746 * v := by rw [Int.mul_comm 746]; exact Int.mul_le_mul_of_nonneg_left ho.2 hv
    simp only [sumI, dotI]
    omega
theorem dot_w : ∀ {ws : List Int} {l l' : List TOrd}, l.map (·.w) = l'.map (·.w) → dotI ws l = dotI ws l'
  | [], _, _, _ => by simp [dotI]
  | _ :: _, [], [], _ => rfl
  | _ :: _, [], _ :: _, h => by simp at h
  | _ :: _, _ :: _, [], h => by simp at h
  | v :: ws, o :: l, o' :: l', h => by
    simp only [List.map_cons, List.cons.injEq] at h
    rw [dotI, dotI, h.1, dot_w h.2]
end Go.Dw.Seat
end
section
set_option linter.unusedSimpArgs false
set_option maxRecDepth 100000
namespace Go.Dw.Seat
open Go Go.Dw Go.Proofs Go.IntWalk
theorem seek_true (ws : List Int) : ∀ (C : List TStp) (k m : Nat), (seekF ws C k m true).2 = true
  | [], _, _ => rfl
  | t :: C, k, m => by
    rw [seekF]
    split
    · exact seek_true ws C _ _
    · split <;> exact seek_true ws C _ _
theorem seek_spec (ws : List Int) : ∀ (C A B : List TStp) (b : Bool), ((A ++ B ++ C).Pairwise fun a b => lexW a.ws b.ws = true) → (∀ t ∈ A, lexW t.ws ws = true) → (b = false → ∀ t ∈ B, lexW ws t.ws = true) → (seekF ws C (A.length + B.length) A.length b).2 = false → ∃ A' C', A ++ B ++ C = A' ++ C' ∧ (seekF ws C (A.length + B.length) A.length b).1 = A'.length ∧ (∀ t ∈ A', lexW t.ws ws = true) ∧ ∀ t ∈ C', lexW ws t.ws = true
  | [], A, B, b, _, hA, hB, h => by
    have hb : b = false := h
    exact ⟨A, B, by simp, rfl, hA, hB hb⟩
  | t :: C, A, B, b, hp, hA, hB, h => by
    rw [seekF] at h ⊢
    by_cases h1 : lexW t.ws ws = true
    · rw [if_pos h1] at h ⊢
      have hpt : ∀ u ∈ A ++ B, lexW u.ws t.ws = true := fun u hu => (List.pairwise_append.1 hp).2.2 u hu t (by simp)
      have ih := seek_spec ws C (A ++ B ++ [t]) [] b (by simpa using hp) (fun u hu => by
        rcases List.mem_append.1 hu with hu | hu
        · exact lexW_trans (hpt u hu) h1
        · rw [List.mem_singleton.1 hu]; exact h1) (fun _ u hu => by cases hu)
      have e : (A ++ B ++ [t]).length + ([] : List TStp).length = A.length + B.length + 1 := by simp only [List.length_append, List.length_cons, List.length_nil]
      have e2 : (A ++ B ++ [t]).length = A.length + B.length + 1 := by simp only [List.length_append, List.length_cons, List.length_nil]
      rw [e, e2] at ih
      obtain ⟨A', C', g1, g2⟩ := ih h
      exact ⟨A', C', by rw [← g1]; simp, g2⟩
    · rw [if_neg h1] at h ⊢
      by_cases h2 : lexW ws t.ws = true
      · rw [if_pos h2] at h ⊢
        have ih := seek_spec ws C A (B ++ [t]) b (by simpa using hp) hA (fun hb u hu => by
          rcases List.mem_append.1 hu with hu | hu
          · exact hB hb u hu
          · rw [List.mem_singleton.1 hu]; exact h2)
        have e : A.length + (B ++ [t]).length = A.length + B.length + 1 := by simp only [List.length_append, List.length_cons, List.length_nil]; omega
        rw [e] at ih
        obtain ⟨A', C', g1, g2⟩ := ih h
        exact ⟨A', C', by rw [← g1]; simp, g2⟩
      · rw [if_neg h2, seek_true] at h
        cases h
theorem mW_spec (x : List Nat) (i : Nat) : ((mW x i).length = mN x ∧ ∀ v ∈ mW x i, 0 ≤ v) ∧ (1 ≤ sumI (mW x i) ∧ sumI (mW x i) ≤ 4) ∧ usedI (mW x i) ≤ 2 := by
  have hmN : 0 < mN x := by unfold mN; omega
  have hA : mA x i < mN x := Nat.mod_lt _ hmN
  have hB : mB x i < mN x := Nat.mod_lt _ hmN
  have hna : 1 ≤ mna x i ∧ mna x i ≤ 3 := by unfold mna; omega
  have hzl : (zeros (mN x)).length = mN x := by simp [zeros]
  obtain ⟨z1, z2⟩ := zeros_sum (mN x)
  have hz : ∀ j, j < mN x → (zeros (mN x))[j]? = some 0 := fun j hj => by rw [zeros, List.getElem?_replicate, if_pos hj]
  have hzv : ∀ v ∈ zeros (mN x), 0 ≤ v := fun v hv => by rw [List.eq_of_mem_replicate hv]; omega
  have s1 := sum_set (u := ((mna x i : Nat) : Int)) (hz _ hA)
  have u1 := used_set (u := ((mna x i : Nat) : Int)) (hz _ hA)
  rw [if_neg (by omega), if_pos (by omega)] at u1
  have hW1l : (mW1 x i).length = mN x := by rw [mW1, List.length_set, hzl]
  have hW1v : ∀ v ∈ mW1 x i, 0 ≤ v := fun v hv => by
    rcases List.mem_or_eq_of_mem_set hv with h | h
    · exact hzv v h
    · omega
  have s1' : sumI (mW1 x i) = sumI (zeros (mN x)) - 0 + ((mna x i : Nat) : Int) := s1
  have u1' : usedI (mW1 x i) = usedI (zeros (mN x)) - 0 + 1 := u1
  unfold mW
  by_cases hab : mA x i = mB x i
  · rw [if_pos hab]
    exact ⟨⟨hW1l, hW1v⟩, by omega, by omega⟩
  · rw [if_neg hab]
    have hg : (mW1 x i)[mB x i]? = some 0 := by rw [mW1, List.getElem?_set_ne hab, hz _ hB]
    have hnb : mnb x i < 5 - mna x i := Nat.mod_lt _ (by omega)
    have s2 := sum_set (u := ((mnb x i : Nat) : Int)) hg
    have u2 := used_set (u := ((mnb x i : Nat) : Int)) hg
    rw [if_neg (by omega)] at u2
    refine ⟨⟨by rw [List.length_set, hW1l], fun v hv => ?_⟩, by omega, ?_⟩
    · rcases List.mem_or_eq_of_mem_set hv with h | h
      · exact hW1v v h
      · omega
    · split at u2 <;> omega
theorem w4_of {l : List TOrd} {ws : List Int} (hl : ws.length = l.length) (h1 : ∀ v ∈ ws, 0 ≤ v) (h2 : sumI ws ≤ 4) : Ws4 l ws := by
  refine ⟨hl, fun n hn => ⟨h1 n hn, ?_⟩⟩
  have : ∀ ws : List Int, (∀ n ∈ ws, 0 ≤ n) → ∀ n ∈ ws, n ≤ sumI ws := by
    intro ws
    induction ws with
    | nil => intro _ n hn; cases hn
    | cons a ws ih =>
      intro h n hn
      have hs := sum_nn ws (fun x hx => h x (by simp [hx]))
      have ha := h a (by simp)
      rcases List.mem_cons.1 hn with rfl | hn
      · simp only [sumI]; omega
      · have := ih (fun x hx => h x (by simp [hx])) n hn
        simp only [sumI]; omega
  have := this ws h1 n hn
  omega
theorem mW_w4 (x : List Nat) (i : Nat) : Ws4 (mL0 x (mN x)) (mW x i) := by
  have h := mW_spec x i
  exact w4_of (by rw [mL0_len, h.1.1]) h.1.2 h.2.1.2
theorem made_left {x : List Nat} (hb : ∀ v ∈ x, v < 256) {ws : List Int} (h1 : ws.length = mN x) (h2 : ∀ v ∈ ws, 0 ≤ v) (h3 : 1 ≤ sumI ws ∧ sumI ws ≤ 4) : 16 ≤ 3000 - dotI ws (mL0 x (mN x)) ∧ 3000 - dotI ws (mL0 x (mN x)) ≤ 2700 := by
  have := dot_sum (l := mL0 x (mN x)) (by rw [mL0_len, h1]) h2 (fun o ho => (mL0_w hb ho).1)
  omega
theorem mS_inv {x : List Nat} (hb : ∀ v ∈ x, v < 256) : ∀ i, MInv x i (mS x i)
  | 0 => ⟨Nat.le_refl _, fun h => absurd h (by omega), fun s hs => (by cases hs), List.Pairwise.nil, rfl, fun v hv => by (have := List.eq_of_mem_replicate (show v ∈ List.replicate (mN x) (0 : Int) from hv); subst this; simp), by simp only [mS]; omega, by simp only [mS]; omega⟩
  | i + 1 => by
    have hI := mS_inv hb i
    rw [mS]
    generalize mS x i = S at hI
    unfold stepM
    dsimp only
    have hsp := seek_spec (mW x i) S.q [] [] (mLk x i) (by simpa using hI.asc) (fun t ht => by cases ht) (fun _ t ht => by cases ht)
    simp only [List.length_nil, Nat.add_zero, List.nil_append] at hsp
    cases hk : (seekF (mW x i) S.q 0 0 (mLk x i)).2 with
    | true =>
      rw [if_pos rfl]
      refine ⟨by have := hI.len; omega, fun _ => ?_, hI.st, hI.asc, hI.got, fun v hv => by have := hI.gb v hv; omega, hI.lo, hI.hi⟩
      by_cases hi : i = 0
      · subst hi
        have : S.q = [] := List.length_eq_zero_iff.1 (by have := hI.len; omega)
        rw [this, seekF] at hk
        have h0 : mLk x 0 = false := rfl
        rw [h0] at hk; cases hk
      · exact hI.ne (by omega)
    | false =>
      rw [if_neg Bool.false_ne_true]
      obtain ⟨A, C, hq, hm, hA, hC⟩ := hsp hk
      have hw := mW_spec x i
      have hlf := made_left hb hw.1.1 hw.1.2 hw.2.1
      have hrun : 1 ≤ (mT x i).run ∧ (mT x i).run ≤ 8 := by show 1 ≤ 1 + ((mv x i 4 % 8 : Nat) : Int) ∧ 1 + ((mv x i 4 % 8 : Nat) : Int) ≤ 8; omega
      have hlo := hI.lo
      have hhi := hI.hi
      have hta : S.q.take A.length = A := by rw [hq, List.take_left]
      have htc : S.q.drop A.length = C := by rw [hq, List.drop_left]
      have hasc := hI.asc
      rw [hq] at hasc
      obtain ⟨p1, p2, p3⟩ := List.pairwise_append.1 hasc
      rw [hm]
      have hlen := hI.len
      rw [hq, List.length_append] at hlen
      have hst : ∀ s ∈ A ++ mT x i :: C, s ∈ S.q ∨ s = mT x i := fun s hs => by
        rw [hq]
        simp only [List.mem_append, List.mem_cons] at hs ⊢
        rcases hs with h | h | h
        · exact .inl (.inl h)
        · exact .inr h
        · exact .inl (.inr h)
      refine ⟨?_, fun _ => ?_, fun s hs => ?_, ?_, ?_, fun v hv => ?_, ?_, ?_⟩ <;> dsimp only at *
      · rw [hta, htc, List.length_append, List.length_cons]; omega
      · simp
      · rw [hta, htc] at hs
        rcases hst s hs with h | rfl
        · have := hI.st s h
          refine ⟨this.1, this.2.1, this.2.2.1, this.2.2.2.1, ?_, ?_⟩
          · have := this.2.2.2.2.1; omega
          · have := this.2.2.2.2.2; omega
        · refine ⟨hw.1, hw.2.1, hw.2.2, hrun, ?_, ?_⟩
          · show _ ≤ 3000 - dotI (mW x i) (mL0 x (mN x)); omega
          · show 3000 - dotI (mW x i) (mL0 x (mN x)) ≤ _; omega
      · rw [hta, htc]
        refine List.pairwise_append.2 ⟨p1, List.pairwise_cons.2 ⟨hC, p2⟩, fun a ha c hc => ?_⟩
        rcases List.mem_cons.1 hc with rfl | hc
        · exact hA a ha
        · exact p3 a ha c hc
      · rw [gotF_ins, ← hI.got]; rfl
      · have := addG_b hI.gb (mW_w4 x i).b (r := (mT x i).run) (by omega) v hv
        simp only [Int.natCast_add, Int.natCast_one]; omega
      · omega
      · omega
end Go.Dw.Seat
end
section
set_option linter.unusedSimpArgs false
set_option maxRecDepth 100000
namespace Go.Dw.Seat
open Go Go.Dw Go.Proofs Go.IntWalk
theorem laMade (x : List Nat) (hx : x.length = 30) (hb : AllLt 256 x) : DCall Try.prog 42 [shD x] [] (.tup [papD (mP x), .c (.sl false 3 (rows eO (mL x))), dSt false (mQ x)]) [] :=
  laMadeW x hx hb (fun i _ => mS_inv hb i) (fun i _ => mW_w4 x i)
theorem does_of : ∀ {l : List TOrd} {got : List Int}, (∀ (i : Nat) (o : TOrd) (g : Int), l[i]? = some o → got[i]? = some g → o.lo ≤ g ∧ g ≤ o.hi) → doesB l got = true
  | [], _, _ => by simp [doesB]
  | _ :: _, [], _ => by simp [doesB]
  | o :: l, g :: got, h => by
    have h0 := h 0 o g rfl rfl
    rw [doesB, decide_eq_true h0.1, decide_eq_true h0.2, Bool.true_and, Bool.true_and]
    exact does_of (fun i o' g' h1 h2 => h (i + 1) o' g' h1 h2)
theorem mL_len (x : List Nat) : (mL x).length = mN x := mLn_len _ _ _
theorem mL_get {x : List Nat} {i : Nat} (hi : i < mN x) : (mL x)[i]? = some (mNd x (mS x 3).G i) := by
  rw [mL, mLn, List.getElem?_map, List.getElem?_range hi, Option.map_some, if_pos hi]
theorem mL_w (x : List Nat) : (mL x).map (·.w) = (mL0 x (mN x)).map (·.w) := by
  rw [mL, mLn, mL0, List.map_map, List.map_map]
  apply List.map_congr_left
  intro j hj
  have := List.mem_range.1 hj
  simp only [Function.comp]
  rw [if_pos this]; rfl
structure Made (p : TPap) (l : List TOrd) (q : List TStp) : Prop where
  pok : p.ok
  wide : p.wide = 3000
  th : p.th ≤ 2800
  ln : 1 ≤ l.length ∧ l.length ≤ 4
  lo : ∀ o ∈ l, o.ok
  hi98 : ∀ o ∈ l, o.hi ≤ 98
  wb : ∀ o ∈ l, 300 ≤ o.w ∧ o.w ≤ 746
  fine : Fine p l q
  len : q.length ≤ 3
  ne : q ≠ []
  does : doesP l q = true
theorem made_good {x : List Nat} (hb : AllLt 256 x) : Made (mP x) (mL x) (mQ x) := by
  have hI := mS_inv hb 3
  have hlen := hI.len
  have hlo := hI.lo
  have hhi := hI.hi
  have hne : mQ x ≠ [] := hI.ne (by decide)
  have hGl : (mS x 3).G.length = mN x := by rw [hI.got, gotF_len]; simp [zeros]
  have hget : ∀ o ∈ mL x, ∃ i g, i < mN x ∧ (mS x 3).G[i]? = some g ∧ (0 ≤ g ∧ g ≤ 96) ∧ o = ⟨300 + 7 * (gB x i : Int) / 4, max 0 (g - (gB x (20 + 2 * i) % 3 : Nat)), g + (gB x (21 + 2 * i) % 3 : Nat)⟩ := fun o ho => by
    obtain ⟨i, hi, rfl⟩ := List.mem_iff_getElem.1 ho
    rw [mL_len] at hi
    have h1 := mL_get hi
    obtain ⟨g, hg⟩ := getE (l := (mS x 3).G) (i := i) (by omega)
    refine ⟨i, g, hi, hg, by have := hI.gb g (List.mem_of_getElem? hg); omega, ?_⟩
    rw [(List.getElem_eq_iff _).2 h1, mNd, List.getD_eq_getElem?_getD, hg]; rfl
  have hwb : ∀ o ∈ mL x, 300 ≤ o.w ∧ o.w ≤ 746 := fun o ho => by
    obtain ⟨i, g, hi, _, _, rfl⟩ := hget o ho
    have := gB_lt hb i
    dsimp only; omega
  obtain ⟨s0, hs0⟩ : ∃ s, s ∈ (mS x 3).q := by
    cases h : (mS x 3).q with
    | nil => exact absurd h hne
    | cons s _ => exact ⟨s, by simp⟩
  have h0 := (hI.st s0 hs0).2.2.2.2
  have hpo : (mP x).ok := ⟨by simp only [mP]; omega, by simp only [mP]; omega, by simp only [mP]; omega⟩
  refine ⟨hpo, rfl, by simp only [mP]; omega, ?_, ?_, ?_, hwb, ⟨fun s hs => ?_, hI.asc⟩, hlen, hne, ?_⟩
  · rw [mL_len]; unfold mN; omega
  · intro o ho
    have hw := hwb o ho
    obtain ⟨i, g, hi, _, _, rfl⟩ := hget o ho
    exact ⟨by dsimp only at hw ⊢; omega, by dsimp only; omega⟩
  · intro o ho
    obtain ⟨i, g, hi, _, _, rfl⟩ := hget o ho
    dsimp only; omega
  · have h1 := hI.st s hs
    have hlf := made_left hb h1.1.1 h1.1.2 h1.2.1
    have hd : dotI s.ws (mL x) = dotI s.ws (mL0 x (mN x)) := dot_w (mL_w x)
    have h2 := h1.2.2.2.2
    have h3 := h1.2.2.2.1
    refine ⟨⟨by rw [mL_len, h1.1.1], h1.1.2, ?_⟩, by omega⟩
    have ht : trimI (mP x) (mL x) s.ws = 3000 - dotI s.ws (mL0 x (mN x)) := by rw [trimI, hd]; rfl
    have h4 := h1.2.1
    have h5 := h1.2.2.1
    simp only [patB, ht, Bool.and_eq_true, decide_eq_true_eq]
    simp only [mP]
    omega
  · unfold doesP
    refine does_of (fun i o g h1 h2 => ?_)
    have hi := (List.getElem?_eq_some_iff.1 h1).1
    rw [mL_len] at hi
    rw [mL_get hi] at h1
    cases h1
    rw [mL_len] at h2
    have e : (mS x 3).G[i]? = some g := by rw [hI.got]; exact h2
    simp only [mNd, List.getD_eq_getElem?_getD, e, Option.getD_some]
    have := hI.gb g (List.mem_of_getElem? e)
    omega
end Go.Dw.Seat
end
section
set_option linter.unusedSimpArgs false
set_option maxRecDepth 100000
namespace Go.Dw.Seat
open Go Go.Dw Go.Proofs Go.IntWalk
theorem stE_fine {p : TPap} (hp : p.ok) {l : List TOrd} {s : TStp} (h : WsOk p l s.ws ∧ 1 ≤ s.run ∧ s.run ≤ 30) {pr : Option TStp} (hpr : ∀ w, pr = some w → w.ws.length = s.ws.length ∧ lexW w.ws s.ws = true) : stE p l pr s = 0 := by
  have h1 := websE_yes (h.1.ws4 hp) h.1.pat
  have h2 : wthn 1 30 [s.run] = true := wthn_yes (by simpa using h.2)
  unfold stE
  rw [if_neg (by simpa using h1), if_neg (by rw [h2]; decide), if_neg]
  cases pr with
  | none => simp
  | some w =>
    obtain ⟨g1, g2⟩ := hpr w rfl
    have := lexW_cmp g1
    rw [g2] at this
    simpa using this.symm
theorem getR_fine {p : TPap} (hp : p.ok) {l : List TOrd} : ∀ {q : List TStp} {pr : Option TStp} {G : List Int} {W : Int} {i : Nat}, Fine p l q → (∀ w, pr = some w → ∀ s ∈ q, w.ws.length = s.ws.length ∧ lexW w.ws s.ws = true) → getR p l pr G W i q = .inl (gotF G q, W + wasteF p l q)
  | [], _, G, W, i, _, _ => by rw [getR, gotF, wasteF, Int.add_zero]
  | s :: q, pr, G, W, i, h, hpr => by
    have h1 := stE_fine hp (h.ok s (by simp)) (pr := pr) (fun w hw => hpr w hw s (by simp))
    obtain ⟨a1, a2⟩ := List.pairwise_cons.1 h.asc
    rw [getR, if_neg (by simpa using h1), getR_fine hp (q := q) ⟨fun t ht => h.ok t (by simp [ht]), a2⟩ (fun w hw t ht => by
      cases hw
      exact ⟨by rw [(h.ok s (by simp)).1.len, (h.ok t (by simp [ht])).1.len], a1 t ht⟩), gotF, wasteF, Int.add_assoc]
theorem getX_fine {p : TPap} (hp : p.ok) {l : List TOrd} (hl : l.length ≤ 4) (ho : ∀ o ∈ l, o.ok) {q : List TStp} (h : Fine p l q) (hq : q.length ≤ 3) (hd : doesP l q = true) : getX p l q = .inl (gotF (zeros l.length) q, wasteF p l q) := by
  have hw := wrong_does l (gotF (zeros l.length) q) (by rw [gotF_len]; simp [zeros])
  rw [show doesB l (gotF (zeros l.length) q) = true from hd, decide_eq_true_eq] at hw
  have hg : getA p l q = .inl (gotF (zeros l.length) q, wasteF p l q) := by
    unfold getA
    rw [if_neg (by omega), getR_fine hp h (fun w hw => by cases hw), Int.zero_add]
  unfold getX
  rw [if_pos (openE_yes hp hl ho)]
  unfold doesA
  rw [hg]
  dsimp only
  rw [if_neg (by omega)]
def cntP : List Int → Int
  | [] => 0
  | g :: G => (if 0 < g then 1 else 0) + cntP G
theorem cntP_add : ∀ {G ws : List Int} {r : Int}, (∀ v ∈ G, 0 ≤ v) → (∀ v ∈ ws, 0 ≤ v) → 0 ≤ r → cntP (addG G ws r) ≤ cntP G + usedI ws
  | [], ws, _, _, hw, _ => by
    have : 0 ≤ usedI ws := by
      clear hw
      induction ws with
      | nil => simp [usedI]
      | cons a ws ih => simp only [usedI]; split <;> omega
    simp only [addG, cntP]; omega
  | g :: G, [], r, _, _, _ => by rw [addG_nil, usedI]; omega
  | g :: G, n :: ws, r, h1, h2, hr => by
    have ih := cntP_add (G := G) (ws := ws) (r := r) (fun v hv => h1 v (by simp [hv])) (fun v hv => h2 v (by simp [hv])) hr
    have hn := h2 n (by simp)
    have hg := h1 g (by simp)
    rw [addG_cons]
    simp only [cntP, usedI]
    by_cases hn0 : 0 < n
    · rw [if_pos hn0]
      by_cases hg0 : 0 < g
      · rw [if_pos hg0]; split <;> omega
      · rw [if_neg hg0]; split <;> omega
    · have : n = 0 := by omega
      subst this
      rw [Int.zero_mul, Int.add_zero]
      split <;> omega
theorem addG_nn {G ws : List Int} {r : Int} (h1 : ∀ v ∈ G, 0 ≤ v) (h2 : ∀ v ∈ ws, 0 ≤ v) (hr : 0 ≤ r) : ∀ v ∈ addG G ws r, 0 ≤ v := by
  induction G generalizing ws with
  | nil => intro v hv; rw [addG] at hv; cases hv; intros; contradiction
  | cons g G ih =>
    cases ws with
    | nil => rw [addG_nil]; exact h1
    | cons n ws =>
      intro v hv
      rw [addG_cons] at hv
      rcases List.mem_cons.1 hv with rfl | hv
      · have m : 0 ≤ n * r := Int.mul_nonneg (h2 n (by simp)) hr
        have := h1 g (by simp)
        omega
      · exact ih (fun x hx => h1 x (by simp [hx])) (fun x hx => h2 x (by simp [hx])) v hv
theorem cntP_got {p : TPap} {l : List TOrd} : ∀ {q : List TStp} {G : List Int}, (∀ s ∈ q, WsOk p l s.ws ∧ 1 ≤ s.run ∧ s.run ≤ 30) → (∀ v ∈ G, 0 ≤ v) → cntP (gotF G q) ≤ cntP G + 2 * (q.length : Int)
  | [], G, _, _ => by rw [gotF]; simp
  | s :: q, G, h, hG => by
    obtain ⟨h1, h2, _⟩ := h s (by simp)
    have hu := (patB_b h1.pat).2.1
    have ha := cntP_add (r := s.run) hG h1.nn (by omega)
    have ih := cntP_got (q := q) (G := addG G s.ws s.run) (fun t ht => h t (by simp [ht])) (addG_nn hG h1.nn (by omega))
    rw [gotF, List.length_cons]
    simp only [Int.natCast_add, Int.natCast_one]
    omega
theorem cntS_le : ∀ {l : List TOrd} {G : List Int}, G.length = l.length → doesB l G = true → cntS l ≤ cntP G
  | [], [], _, _ => by simp [cntS, cntP]
  | [], _ :: _, h, _ => by simp at h
  | _ :: _, [], h, _ => by simp at h
  | o :: l, g :: G, h, hd => by
    simp only [doesB, Bool.and_eq_true, decide_eq_true_eq] at hd
    have ih := cntS_le (l := l) (G := G) (by simpa using h) hd.2
    simp only [cntS, cntP]
    by_cases h0 : 0 < o.lo
    · rw [if_pos h0, if_pos (by omega)]; omega
    · rw [if_neg h0]; split <;> omega
theorem loS_le : ∀ {l : List TOrd} {G : List Int}, G.length = l.length → doesB l G = true → (∀ o ∈ l, o.ok) → loS l ≤ dotI G l
  | [], [], _, _, _ => by simp [loS, dotI]
  | [], _ :: _, h, _, _ => by simp at h
  | _ :: _, [], h, _, _ => by simp at h
  | o :: l, g :: G, h, hd, ho => by
    simp only [doesB, Bool.and_eq_true, decide_eq_true_eq] at hd
    have ih := loS_le (l := l) (G := G) (by simpa using h) hd.2 (fun x hx => ho x (by simp [hx]))
    have hw := (ho o (by simp)).w
    have m : o.w * o.lo ≤ o.w * g := Int.mul_le_mul_of_nonneg_left hd.1.1 (by omega)
    rw [Int.mul_comm o.w g] at m
    simp only [loS, dotI]; omega
theorem dot_add : ∀ {G ws : List Int} {l : List TOrd} {r : Int}, G.length = l.length → ws.length = l.length → dotI (addG G ws r) l = dotI G l + dotI ws l * r
  | [], [], [], _, _, _ => by simp [addG, dotI]
  | [], _ :: _, [], _, _, h => by simp at h
  | [], _, _ :: _, _, h, _ => by simp at h
  | _ :: _, _, [], _, h, _ => by simp at h
  | _ :: _, [], _ :: _, _, _, h => by simp at h
  | g :: G, n :: ws, o :: l, r, h1, h2 => by
    have ih := dot_add (G := G) (ws := ws) (l := l) (r := r) (by simpa using h1) (by simpa using h2)
    rw [addG_cons, dotI, dotI, dotI, ih, Int.add_mul, Int.add_mul, Int.mul_assoc n r, Int.mul_comm r, ← Int.mul_assoc]
    omega
theorem dot_got {p : TPap} (hp : p.ok) {l : List TOrd} : ∀ {q : List TStp} {G : List Int}, G.length = l.length → (∀ s ∈ q, WsOk p l s.ws ∧ 1 ≤ s.run ∧ s.run ≤ 30) → dotI (gotF G q) l ≤ dotI G l + (p.wide - p.tl) * runsI q ∧ p.tl * runsI q ≤ wasteF p l q ∧ 0 ≤ runsI q
  | [], G, _, _ => by simp [gotF, runsI, wasteF]
  | s :: q, G, hG, h => by
    obtain ⟨h1, h2, _⟩ := h s (by simp)
    have ht := (patB_b h1.pat).2.2
    have ih := dot_got hp (q := q) (G := addG G s.ws s.run) (by rw [addG_len, hG]) (fun t ht => h t (by simp [ht]))
    rw [dot_add hG h1.len] at ih
    have m1 : dotI s.ws l * s.run ≤ (p.wide - p.tl) * s.run := Int.mul_le_mul_of_nonneg_right (by unfold trimI at ht; omega) (by omega)
    have m2 : p.tl * s.run ≤ trimI p l s.ws * s.run := Int.mul_le_mul_of_nonneg_right ht.1 (by omega)
    rw [gotF, runsI, wasteF, Int.mul_add, Int.mul_add]
    omega
end Go.Dw.Seat
end
section
set_option linter.unusedSimpArgs false
set_option maxRecDepth 100000
namespace Go.Dw.Seat
open Go Go.Dw Go.Proofs Go.IntWalk
theorem cnt_nn : ∀ l : List TOrd, 0 ≤ cntS l ∧ cntS l ≤ (l.length : Int)
  | [] => by simp [cntS]
  | o :: l => by
    have := cnt_nn l
    simp only [cntS, List.length_cons, Int.natCast_add, Int.natCast_one]
    split <;> omega
theorem lo_nn : ∀ {l : List TOrd}, (∀ o ∈ l, o.ok) → 0 ≤ loS l
  | [], _ => by simp [loS]
  | o :: l, h => by
    have := lo_nn (l := l) (fun x hx => h x (by simp [hx]))
    have ho := h o (by simp)
    have : 0 ≤ o.w * o.lo := Int.mul_nonneg (by have := ho.w; omega) ho.need.1
    simp only [loS]; omega
theorem dot_zeros : ∀ (n : Nat) (l : List TOrd), dotI (zeros n) l = 0
  | 0, _ => by simp [zeros, dotI]
  | n + 1, [] => by simp [zeros, List.replicate_succ, dotI]
  | n + 1, o :: l => by
    have e : zeros (n + 1) = 0 :: zeros n := rfl
    rw [e, dotI, dot_zeros n l, Int.zero_mul, Int.add_zero]
theorem cntP_zeros : ∀ n : Nat, cntP (zeros n) = 0
  | 0 => rfl
  | n + 1 => by
    have e : zeros (n + 1) = 0 :: zeros n := rfl
    rw [e, cntP, cntP_zeros n, if_neg (by omega), Int.add_zero]
structure BoundOk (p : TPap) (l : List TOrd) (q : List TStp) : Prop where
  set : 0 ≤ Int.tdiv (cntS l + 2 - 1) 2 ∧ Int.tdiv (cntS l + 2 - 1) 2 ≤ (q.length : Int)
  run : 0 ≤ Int.tdiv (loS l + (p.wide - p.tl) - 1) (p.wide - p.tl) ∧ Int.tdiv (loS l + (p.wide - p.tl) - 1) (p.wide - p.tl) ≤ runsI q
  waste : 0 ≤ p.tl * Int.tdiv (loS l + (p.wide - p.tl) - 1) (p.wide - p.tl) ∧ p.tl * Int.tdiv (loS l + (p.wide - p.tl) - 1) (p.wide - p.tl) ≤ wasteF p l q
theorem bound_le {p : TPap} (hp : p.ok) {l : List TOrd} (ho : ∀ o ∈ l, o.ok) (hw : 0 < p.wide - p.tl) {q : List TStp} (h : PlanOk p l q) : BoundOk p l q := by
  have hf := plan_fine h
  have hzl : (zeros l.length).length = l.length := by simp [zeros]
  have hgl : (gotF (zeros l.length) q).length = l.length := by rw [gotF_len, hzl]
  have hzn : ∀ v ∈ zeros l.length, 0 ≤ v := fun v hv => by rw [List.eq_of_mem_replicate hv]; omega
  have h1 := cntS_le hgl h.does
  have h2 := cntP_got hf.ok hzn
  rw [cntP_zeros] at h2
  have h3 := loS_le hgl h.does ho
  have h4 := dot_got hp hzl hf.ok
  rw [dot_zeros] at h4
  have h5 := (cnt_nn l).1
  have h6 := lo_nn ho
  have ht := hp.trim
  have hB0 : 0 ≤ (loS l + (p.wide - p.tl) - 1) / (p.wide - p.tl) := Int.ediv_nonneg (by omega) (by omega)
  have hB : (loS l + (p.wide - p.tl) - 1) / (p.wide - p.tl) ≤ runsI q := by
    have : (loS l + (p.wide - p.tl) - 1) / (p.wide - p.tl) < runsI q + 1 := Int.ediv_lt_of_lt_mul hw (by rw [Int.add_mul, Int.one_mul, Int.mul_comm]; omega)
    omega
  have m1 : 0 ≤ p.tl * ((loS l + (p.wide - p.tl) - 1) / (p.wide - p.tl)) := Int.mul_nonneg ht.1 hB0
  have m2 : p.tl * ((loS l + (p.wide - p.tl) - 1) / (p.wide - p.tl)) ≤ p.tl * runsI q := Int.mul_le_mul_of_nonneg_left hB ht.1
  constructor
  · rw [Int.tdiv_eq_ediv_of_nonneg (by omega)]; omega
  · rw [Int.tdiv_eq_ediv_of_nonneg (by omega)]; exact ⟨hB0, hB⟩
  · rw [Int.tdiv_eq_ediv_of_nonneg (by omega)]; omega
def moreO (a b : Int) (o : TOrd) : TOrd := ⟨o.w, max 0 (o.lo - a), o.hi + b⟩
theorem more_does {a b : Int} (ha : 0 ≤ a) (hb : 0 ≤ b) : ∀ {l : List TOrd} {G : List Int}, (∀ o ∈ l, o.ok) → doesB l G = true → doesB (l.map (moreO a b)) G = true
  | [], _, _, _ => by simp [doesB]
  | _ :: _, [], _, _ => by simp [doesB]
  | o :: l, g :: G, ho, h => by
    simp only [doesB, Bool.and_eq_true, decide_eq_true_eq] at h
    have ih := more_does ha hb (l := l) (G := G) (fun x hx => ho x (by simp [hx])) h.2
    have hn := (ho o (by simp)).need
    simp only [List.map_cons, doesB, Bool.and_eq_true, decide_eq_true_eq, moreO]
    exact ⟨by omega, ih⟩
theorem more_w (a b : Int) (l : List TOrd) : (l.map (moreO a b)).map (·.w) = l.map (·.w) := by rw [List.map_map]; rfl
theorem waste_eq {p p' : TPap} {l l' : List TOrd} (hw : p.wide = p'.wide) (hl : l.map (·.w) = l'.map (·.w)) : ∀ q : List TStp, wasteF p l q = wasteF p' l' q
  | [] => rfl
  | s :: q => by rw [wasteF, wasteF, waste_eq hw hl q, trimI, trimI, hw, dot_w hl]
theorem more_plan {p : TPap} {l : List TOrd} (ho : ∀ o ∈ l, o.ok) {a b d : Int} (ha : 0 ≤ a) (hb : 0 ≤ b) (hd : 0 ≤ d) (hp' : (⟨p.wide, p.tl, p.th + d, p.webs⟩ : TPap).ok) {q : List TStp} (h : PlanOk p l q) : PlanOk ⟨p.wide, p.tl, p.th + d, p.webs⟩ (l.map (moreO a b)) q := by
  have hf := plan_fine h
  refine fine_plan hp' ⟨fun s hs => ?_, hf.asc⟩ h.len ?_
  · obtain ⟨h1, h2⟩ := hf.ok s hs
    refine ⟨⟨by rw [List.length_map]; exact h1.len, h1.nn, ?_⟩, h2⟩
    have hpb := patB_b h1.pat
    have ht : trimI ⟨p.wide, p.tl, p.th + d, p.webs⟩ (l.map (moreO a b)) s.ws = trimI p l s.ws := by
      rw [trimI, trimI, dot_w (more_w a b l)]
    simp only [patB, ht, Bool.and_eq_true, decide_eq_true_eq]
    omega
  · unfold doesP
    rw [List.length_map]
    exact more_does ha hb ho h.does
theorem best_le {p : TPap} {l : List TOrd} {q b : List TStp} (h : ¬ Better p l q b) : b.length < q.length ∨ (b.length = q.length ∧ wasteF p l b ≤ wasteF p l q) := by
  rcases Nat.lt_trichotomy q.length b.length with h1 | h1 | h1
  · exact absurd (.inl h1) h
  · refine .inr ⟨h1.symm, ?_⟩
    rcases Int.lt_or_le (wasteF p l q) (wasteF p l b) with h2 | h2
    · exact absurd (.inr ⟨h1, .inl h2⟩) h
    · exact h2
  · exact .inl h1
end Go.Dw.Seat
end
