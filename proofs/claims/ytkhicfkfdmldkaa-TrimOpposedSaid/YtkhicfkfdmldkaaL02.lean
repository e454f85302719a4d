/- The law TrimOpposed returns true for every input, and changes nothing that was there before: the full statement TrimOpposedSaid, without conditions. -/
import Derived.Test.YtkhicfkfdmldkaaL01
import Derived.Test.YtkhicfkfdmldkaaRows
import Derived.ProofKit
import Derived.OpenShut
set_option linter.unusedVariables false
set_option linter.unusedSimpArgs false
section
set_option linter.unusedSimpArgs false
set_option maxRecDepth 100000
namespace Go.Dw.Seat
open Go Go.Dw Go.Proofs Go.IntWalk
def atI (s : List Int) (a : Nat) : Int := (s[a]?).getD 0
def edI (s t : List Int) : Nat → Nat → Int
  | 0, b => (b : Int) * 500
  | a + 1, 0 => ((a + 1 : Nat) : Int) * 500
  | a + 1, b + 1 => min (min (edI s t a b + (max (atI s a) (atI t b) - min (atI s a) (atI t b))) (edI s t a (b + 1) + 500)) (edI s t (a + 1) b + 500)
termination_by a b => (a, b)
theorem edI_b {s t : List Int} (hs : ∀ x ∈ s, 0 ≤ x ∧ x ≤ 3000) (ht : ∀ x ∈ t, 0 ≤ x ∧ x ≤ 3000) : ∀ (a b : Nat), 0 ≤ edI s t a b ∧ edI s t a b ≤ 500 * ((a : Int) + b)
  | 0, b => by rw [edI]; omega
  | a + 1, 0 => by rw [edI]; omega
  | a + 1, b + 1 => by
    have h1 := edI_b hs ht a b
    have h2 := edI_b hs ht a (b + 1)
    have h3 := edI_b hs ht (a + 1) b
    rw [edI]
    omega
termination_by a b => (a, b)
def gridI (s t : List Int) (a b : Nat) : List Int := (List.range 121).map fun i => if i % 11 ≤ t.length ∧ (i / 11 < a ∨ (i / 11 = a ∧ i % 11 < b)) then edI s t (i / 11) (i % 11) else 0
theorem gridI_len (s t : List Int) (a b : Nat) : (gridI s t a b).length = 121 := by simp [gridI]
theorem gridI_zero (s t : List Int) : gridI s t 0 0 = List.replicate 121 0 := by
  have h : gridI s t 0 0 = (List.range 121).map fun _ => (0 : Int) := by
    unfold gridI
    apply List.map_congr_left
    intro i _
    rw [if_neg (by omega)]
  rw [h]; rfl
theorem gridI_get {s t : List Int} {a b x y : Nat} (hx : x ≤ 10) (hy : y ≤ t.length) (ht : t.length ≤ 10) (h : x < a ∨ (x = a ∧ y < b)) : (gridI s t a b)[x * 11 + y]? = some (edI s t x y) := by
  have e1 : (x * 11 + y) / 11 = x := by omega
  have e2 : (x * 11 + y) % 11 = y := by omega
  rw [gridI, List.getElem?_map, List.getElem?_range (by omega), Option.map_some, e1, e2, if_pos ⟨hy, h⟩]
theorem gridI_set {s t : List Int} {a b : Nat} (ha : a ≤ 10) (hb : b ≤ t.length) (ht : t.length ≤ 10) : (gridI s t a b).set (a * 11 + b) (edI s t a b) = gridI s t a (b + 1) := by
  apply List.ext_getElem?
  intro i
  rw [List.getElem?_set]
  by_cases hi : i < 121
  · by_cases he : a * 11 + b = i
    · rw [if_pos he, if_pos (by rw [gridI_len]; omega)]
      subst he
      rw [gridI_get ha hb ht (.inr ⟨rfl, by omega⟩)]
    · rw [if_neg he, gridI, gridI, List.getElem?_map, List.getElem?_map, List.getElem?_range hi, Option.map_some, Option.map_some]
      congr 1
      have : (i % 11 ≤ t.length ∧ (i / 11 < a ∨ (i / 11 = a ∧ i % 11 < b))) ↔ (i % 11 ≤ t.length ∧ (i / 11 < a ∨ (i / 11 = a ∧ i % 11 < b + 1))) := by omega
      simp only [this]
  · rw [if_neg (by omega), List.getElem?_eq_none (by rw [gridI_len]; omega), List.getElem?_eq_none (by rw [gridI_len]; omega)]
theorem gridI_row (s t : List Int) (a : Nat) (ht : t.length ≤ 10) : gridI s t a (t.length + 1) = gridI s t (a + 1) 0 := by
  unfold gridI
  apply List.map_congr_left
  intro i _
  have : (i % 11 ≤ t.length ∧ (i / 11 < a ∨ (i / 11 = a ∧ i % 11 < t.length + 1))) ↔ (i % 11 ≤ t.length ∧ (i / 11 < a + 1 ∨ (i / 11 = a + 1 ∧ i % 11 < 0))) := by omega
  simp only [this]
abbrev gridB (g : List Int) : Blk := .box (g.map dI)
theorem setAt_map (g : List Int) (off : Nat) (v : Int) (h : off < g.length) : setAt (g.map dI) off [dI v] = (g.set off v).map dI := by
  rw [setAt, List.map_set, List.set_eq_take_append_cons_drop, if_pos (by simpa using h)]
  simp
theorem ty113z : tyI Try.prog 113 = some ⟨true, 121, List.replicate 121 (.int .i64 0), 968⟩ := by kernel_rfl
theorem keys_dI (bx : List (Nat × Blk)) : ∀ l : List Int, D.keysIns bx (l.map dI) = true
  | [] => rfl
  | _ :: l => keys_dI bx l
theorem splice {g : List Int} {off : Nat} (v : Int) (h : off < g.length) : List.take off (g.map dI) ++ [D.c (.v (.int .i64 v))] ++ List.drop (off + 1) (g.map dI) = (g.set off v).map dI := setAt_map g off v h
def chgE (s t : List Int) : Int := if 10 < s.length ∨ 10 < t.length then 5 else if knOk s = false ∨ knOk t = false then 4 else 0
def chgI (s t : List Int) : Int := if chgE s t = 0 then edI s t s.length t.length else 0
set_option maxHeartbeats 2000000 in
theorem trChangeE (b1 b2 : Bool) (s t : List Int) (hs : s.length ≤ 2 ^ 36) (ht : t.length ≤ 2 ^ 36) (he : chgE s t ≠ 0) : DCall Try.prog 17 [dIs b1 s, dIs b2 t] [] (.tup [dI 0, dI (chgE s t)]) [] := by
  have h1 := trAreKnives b1 s hs
  have h2 := trAreKnives b2 t ht
  unfold chgE at he ⊢
  by_cases l1 : 10 < s.length
  · have hd1 : decide ((10 : Int) < (s.length : Int)) = true := decide_eq_true (by omega)
    rw [if_pos (.inl l1)]
    refine DCall.of Try.func17 sf17 hb17 (Nat.le_of_ble_eq_true rfl) (okRes_nil fun _ => rfl) ?_; simp only [s17, idxs, Nat.reduceAdd]
    repeat' (first
    | (with_reducible first | refine DW.seq ?_ | refine DW.block ?_ | refine DW.skip ?_ | refine DW.exit ?_ | refine DW.ret ?_ | refine DW.reg ?_)
    | (refine DW.dreg rfl (WF.of ?_) ?_; first | rfl | skip)
    | (simp (disch := omega) only [go_sem, simprocAttr, Blk.men, Blk.keysIn, hd1])
    | (exact retS_of rfl rfl rfl)
    | (refine DW.cond_tt rfl ?_)
    | (refine DW.cond_ff rfl ?_)
    | (refine DW.cond rfl ?_ ?_ <;> intro hc <;> (try simp only [go_sem] at hc))
    | (refine g_split ?_ ?_ <;> intro hc <;> (try simp only [hc]) <;> (try simp only [go_sem] at hc)))
  have hd1 : decide ((10 : Int) < (s.length : Int)) = false := decide_eq_false (by omega)
  by_cases l2 : 10 < t.length
  · have hd2 : decide ((10 : Int) < (t.length : Int)) = true := decide_eq_true (by omega)
    rw [if_pos (.inr l2)]
    refine DCall.of Try.func17 sf17 hb17 (Nat.le_of_ble_eq_true rfl) (okRes_nil fun _ => rfl) ?_; simp only [s17, idxs, Nat.reduceAdd]
    repeat' (first
    | (with_reducible first | refine DW.seq ?_ | refine DW.block ?_ | refine DW.skip ?_ | refine DW.exit ?_ | refine DW.ret ?_ | refine DW.reg ?_)
    | (refine DW.dreg rfl (WF.of ?_) ?_; first | rfl | skip)
    | (simp (disch := omega) only [go_sem, simprocAttr, Blk.men, Blk.keysIn, hd1, hd2])
    | (exact retS_of rfl rfl rfl)
    | (refine DW.cond_tt rfl ?_)
    | (refine DW.cond_ff rfl ?_)
    | (refine DW.cond rfl ?_ ?_ <;> intro hc <;> (try simp only [go_sem] at hc))
    | (refine g_split ?_ ?_ <;> intro hc <;> (try simp only [hc]) <;> (try simp only [go_sem] at hc)))
  have hd2 : decide ((10 : Int) < (t.length : Int)) = false := decide_eq_false (by omega)
  rw [if_neg (by omega)] at he ⊢
  cases e1 : knOk s <;> rw [e1] at h1
  · rw [if_pos (.inl rfl)]
    refine DCall.of Try.func17 sf17 hb17 (Nat.le_of_ble_eq_true rfl) (okRes_nil fun _ => rfl) ?_; simp only [s17, idxs, Nat.reduceAdd]
    repeat' (first
    | (with_reducible first | refine DW.seq ?_ | refine DW.block ?_ | refine DW.skip ?_ | refine DW.exit ?_ | refine DW.ret ?_ | refine DW.reg ?_)
    | (refine DW.dreg rfl (WF.of ?_) ?_; first | rfl | skip)
    | (simp (disch := omega) only [go_sem, simprocAttr, Blk.men, Blk.keysIn, hd1, hd2])
    | (exact retS_of rfl rfl rfl)
    | (refine DW.cond_tt rfl ?_)
    | (refine call_c (h1) (by decide) ?_)
    | (refine DW.cond_ff rfl ?_)
    | (refine DW.cond rfl ?_ ?_ <;> intro hc <;> (try simp only [go_sem] at hc))
    | (refine g_split ?_ ?_ <;> intro hc <;> (try simp only [hc]) <;> (try simp only [go_sem] at hc)))
  cases e2 : knOk t <;> rw [e2] at h2
  · rw [if_pos (.inr rfl)]
    refine DCall.of Try.func17 sf17 hb17 (Nat.le_of_ble_eq_true rfl) (okRes_nil fun _ => rfl) ?_; simp only [s17, idxs, Nat.reduceAdd]
    repeat' (first
    | (with_reducible first | refine DW.seq ?_ | refine DW.block ?_ | refine DW.skip ?_ | refine DW.exit ?_ | refine DW.ret ?_ | refine DW.reg ?_)
    | (refine DW.dreg rfl (WF.of ?_) ?_; first | rfl | skip)
    | (simp (disch := omega) only [go_sem, simprocAttr, Blk.men, Blk.keysIn, hd1, hd2])
    | (exact retS_of rfl rfl rfl)
    | (refine DW.cond_tt rfl ?_)
    | (refine call_c (h1) (by decide) ?_)
    | (refine call_c (h2) (by decide) ?_)
    | (refine DW.cond_ff rfl ?_)
    | (refine DW.cond rfl ?_ ?_ <;> intro hc <;> (try simp only [go_sem] at hc))
    | (refine g_split ?_ ?_ <;> intro hc <;> (try simp only [hc]) <;> (try simp only [go_sem] at hc)))
  · rw [e1, e2] at he
    simp at he
set_option maxHeartbeats 4000000 in
theorem trChange (b1 b2 : Bool) (s t : List Int) (he : chgE s t = 0) : DCall Try.prog 17 [dIs b1 s, dIs b2 t] [] (.tup [dI (edI s t s.length t.length), dI 0]) [] := by
  unfold chgE at he
  split at he
  · cases he
  rename_i hl
  split at he
  · cases he
  rename_i hk
  clear he
  simp only [not_or, Bool.not_eq_false, Nat.not_lt] at hl hk
  obtain ⟨l1, l2⟩ := hl
  have h1 := trAreKnives b1 s (by omega)
  have h2 := trAreKnives b2 t (by omega)
  rw [hk.1] at h1
  rw [hk.2] at h2
  have hd1 : decide ((10 : Int) < (s.length : Int)) = false := decide_eq_false (by omega)
  have hd2 : decide ((10 : Int) < (t.length : Int)) = false := decide_eq_false (by omega)
  refine DCall.of Try.func17 sf17 hb17 (Nat.le_of_ble_eq_true rfl) (okRes_nil fun _ => rfl) ?_; simp only [s17, idxs, Nat.reduceAdd]
  have hz : gridB (gridI s t 0 0) = gridB (List.replicate 121 0) := by rw [gridI_zero]
  have hsb := wthn_all (show wthn 0 3000 s = true by have := hk.1; simp only [knOk, Bool.and_eq_true] at this; exact this.1)
  have htb := wthn_all (show wthn 0 3000 t = true by have := hk.2; simp only [knOk, Bool.and_eq_true] at this; exact this.1)
  clear hk
  repeat' (first
    | (with_reducible first | refine DW.seq ?_ | refine DW.block ?_ | refine DW.skip ?_ | refine DW.exit ?_ | refine DW.ret ?_ | refine DW.reg ?_)
    | (refine DW.dreg rfl (WF.of ?_) ?_; first | rfl | skip)
    | (simp (disch := omega) only [go_sem, simprocAttr, Blk.men, Blk.keysIn, hd1, hd2, ty113z])
    | (exact retS_of rfl rfl rfl)
    | (refine DW.cond_tt rfl ?_)
    | (refine call_c (h1) (by decide) ?_)
    | (refine call_c (h2) (by decide) ?_)
    | (refine DW.cond_ff rfl ?_)
    | (refine DW.cond rfl ?_ ?_ <;> intro hc <;> (try simp only [go_sem] at hc))
    | (refine g_split ?_ ?_ <;> intro hc <;> (try simp only [hc]) <;> (try simp only [go_sem] at hc)))
  clear h1 h2
  refine DW.loop (ι := { a : Nat // a ≤ s.length + 1 }) (fun a => ⟨114, [(27, dI a.1), (26, dI ((s.length : Int) + 1)), (6, .box 6 0), (0, dIs b1 s), (1, dIs b2 t)], [(6, gridB (gridI s t a.1 0))]⟩) (fun a => s.length + 1 - a.1) ⟨0, Nat.zero_le _⟩ ?_ ?_
  · refine Ent.to ?_ ?_ <;> simp (disch := omega) only [wkT_cons, wkX_cons, wkT_nil, wkX_nil, get, Nat.reduceEqDiff, ↓reduceIte, ex_some, wk_self, wk_top, wk_nil, wkB_self, and_self, dI, i64_in, and_true, true_and, Int.natCast_add, Int.natCast_one, Int.ofNat_zero, Int.natCast_zero]
    all_goals first | exact ⟨.refl _, .refl _⟩ | exact .refl _ | (rw [hz]; exact .refl _)
  clear hz
  rintro ⟨a, ha⟩
  dsimp only
  by_cases hal : a ≤ s.length
  · have hda : decide ((a : Int) < (s.length : Int) + 1) = true := decide_eq_true (by omega)
    repeat' (first
    | (with_reducible first | refine DW.seq ?_ | refine DW.block ?_ | refine DW.skip ?_ | refine DW.exit ?_ | refine DW.ret ?_ | refine DW.reg ?_)
    | (refine DW.dreg rfl (WF.of ?_) ?_; first | rfl | skip)
    | (simp (disch := omega) only [go_sem, simprocAttr, Blk.men, Blk.keysIn, hda])
    | (exact retS_of rfl rfl rfl)
    | (refine DW.cond_tt rfl ?_)
    | (refine DW.cond_ff rfl ?_)
    | (refine DW.cond rfl ?_ ?_ <;> intro hc <;> (try simp only [go_sem] at hc))
    | (refine g_split ?_ ?_ <;> intro hc <;> (try simp only [hc]) <;> (try simp only [go_sem] at hc)))
    refine DW.loop (ι := { b : Nat // b ≤ t.length + 1 }) (fun b => ⟨114, [(33, dI b.1), (32, dI ((t.length : Int) + 1)), (27, dI a), (26, dI ((s.length : Int) + 1)), (7, dI a), (6, .box 6 0), (0, dIs b1 s), (1, dIs b2 t)], [(6, gridB (gridI s t a b.1))]⟩) (fun b => t.length + 1 - b.1) ⟨0, Nat.zero_le _⟩ ?_ ?_
    · refine Ent.to ?_ ?_ <;> simp (disch := omega) only [wkT_cons, wkX_cons, wkT_nil, wkX_nil, get, Nat.reduceEqDiff, ↓reduceIte, ex_some, wk_self, wk_top, wk_nil, wkB_self, and_self, dI, i64_in, and_true, true_and, Int.natCast_add, Int.natCast_one, Int.ofNat_zero, Int.natCast_zero]
      all_goals first | exact ⟨.refl _, .refl _⟩ | exact .refl _
    rintro ⟨b, hb⟩
    dsimp only
    by_cases hbl : b ≤ t.length
    · have hdb : decide ((b : Int) < (t.length : Int) + 1) = true := decide_eq_true (by omega)
      have hset := gridI_set (s := s) (t := t) (a := a) (b := b) (by omega) hbl l2
      have hlen := gridI_len s t a b
      rcases a with _ | a
      · have he0 : edI s t 0 b = (b : Int) * 500 := by rw [edI]
        have b11 := eq_true (show (b : Int) < 11 by omega)
        have hle := eq_true (show b + 1 ≤ 121 by omega)
        have hsp := splice (g := gridI s t 0 b) (off := b) ((b : Int) * 500) (by omega)
        rw [Nat.zero_mul, Nat.zero_add, he0] at hset
        rw [hset] at hsp
        repeat' (first
    | (with_reducible first | refine DW.seq ?_ | refine DW.block ?_ | refine DW.skip ?_ | refine DW.exit ?_ | refine DW.ret ?_ | refine DW.reg ?_)
    | (refine DW.dreg rfl (WF.of ?_) ?_; first | rfl | skip)
    | (simp (disch := omega) only [go_sem, simprocAttr, Blk.men, Blk.keysIn, hdb, hlen, List.length_map, b11, gridB, Nat.mul_one, hle, hsp])
    | (exact retS_of rfl rfl rfl)
    | (refine DW.cond_tt rfl ?_)
    | (refine DW.cond_ff rfl ?_)
    | (refine DW.cond rfl ?_ ?_ <;> intro hc <;> (try simp only [go_sem] at hc))
    | (refine g_split ?_ ?_ <;> intro hc <;> (try simp only [hc]) <;> (try simp only [go_sem] at hc)))
        refine ⟨⟨b + 1, by omega⟩, ?_, Ent.to ?_ ?_⟩ <;> first | (show _ < _; (try simp only); omega) | (simp (disch := omega) only [wkT_cons, wkX_cons, wkT_nil, wkX_nil, get, Nat.reduceEqDiff, ↓reduceIte, ex_some, wk_self, wk_top, wk_nil, wkB_self, and_self, dI, i64_in, and_true, true_and, Int.natCast_add, Int.natCast_one, Int.ofNat_zero, Int.natCast_zero])
        all_goals first | exact ⟨.refl _, .refl _⟩ | exact .refl _
      · have ha0 : (((a + 1 : Nat) : Int) == 0) = false := by rw [beq_eq_false_iff_ne]; omega
        rcases b with _ | b
        · have he0 : edI s t (a + 1) 0 = ((a + 1 : Nat) : Int) * 500 := by rw [edI]
          have a11 := eq_true (show ((a + 1 : Nat) : Int) < 11 by omega)
          have hle := eq_true (show (a + 1) * 11 + 1 ≤ 121 by omega)
          have hd0 : decide ((0 : Int) < (t.length : Int) + 1) = true := decide_eq_true (by omega)
          have hsp := splice (g := gridI s t (a + 1) 0) (off := (a + 1) * 11) (((a + 1 : Nat) : Int) * 500) (by omega)
          rw [he0] at hset
          have hset' : (gridI s t (a + 1) 0).set ((a + 1) * 11) (((a + 1 : Nat) : Int) * 500) = gridI s t (a + 1) 1 := hset
          rw [hset'] at hsp
          repeat' (first
    | (with_reducible first | refine DW.seq ?_ | refine DW.block ?_ | refine DW.skip ?_ | refine DW.exit ?_ | refine DW.ret ?_ | refine DW.reg ?_)
    | (refine DW.dreg rfl (WF.of ?_) ?_; first | rfl | skip)
    | (simp (disch := omega) only [go_sem, simprocAttr, Blk.men, Blk.keysIn, hd0, ha0, hlen, List.length_map, a11, gridB, hle, hsp])
    | (exact retS_of rfl rfl rfl)
    | (refine DW.cond_tt rfl ?_)
    | (refine DW.cond_ff rfl ?_)
    | (refine DW.cond rfl ?_ ?_ <;> intro hc <;> (try simp only [go_sem] at hc))
    | (refine g_split ?_ ?_ <;> intro hc <;> (try simp only [hc]) <;> (try simp only [go_sem] at hc)))
          refine ⟨⟨1, by omega⟩, ?_, Ent.to ?_ ?_⟩ <;> first | (show _ < _; (try simp only); omega) | (simp (disch := omega) only [wkT_cons, wkX_cons, wkT_nil, wkX_nil, get, Nat.reduceEqDiff, ↓reduceIte, ex_some, wk_self, wk_top, wk_nil, wkB_self, and_self, dI, i64_in, and_true, true_and, Int.natCast_add, Int.natCast_one, Int.ofNat_zero, Int.natCast_zero])
          all_goals first | exact ⟨.refl _, .refl _⟩ | exact .refl _
        · have hb0 : (((b + 1 : Nat) : Int) == 0) = false := by rw [beq_eq_false_iff_ne]; omega
          have a11 := eq_true (show ((a + 1 : Nat) : Int) < 11 by omega)
          have b11 := eq_true (show ((b + 1 : Nat) : Int) < 11 by omega)
          have a11' := eq_true (show (a : Int) < 11 by omega)
          have b11' := eq_true (show (b : Int) < 11 by omega)
          have ea : ((a + 1 : Nat) : Int) - 1 = (a : Int) := by omega
          have eb : ((b + 1 : Nat) : Int) - 1 = (b : Int) := by omega
          obtain ⟨x, hx⟩ := getE (l := s) (i := a) (by omega)
          obtain ⟨y, hy⟩ := getE (l := t) (i := b) (by omega)
          have hxb := hsb x (List.mem_of_getElem? hx)
          have hyb := htb y (List.mem_of_getElem? hy)
          have q1 := gridI_get (s := s) (t := t) (a := a + 1) (b := b + 1) (x := a) (y := b) (by omega) (by omega) l2 (.inl (by omega))
          have q2 := gridI_get (s := s) (t := t) (a := a + 1) (b := b + 1) (x := a) (y := b + 1) (by omega) (by omega) l2 (.inl (by omega))
          have q3 := gridI_get (s := s) (t := t) (a := a + 1) (b := b + 1) (x := a + 1) (y := b) (by omega) (by omega) l2 (.inr (by omega))
          have c1 := edI_b hsb htb a b
          have c2 := edI_b hsb htb a (b + 1)
          have c3 := edI_b hsb htb (a + 1) b
          have he := (show edI s t (a + 1) (b + 1) = _ by rw [edI])
          have ax : atI s a = x := by rw [atI, hx]; rfl
          have by' : atI t b = y := by rw [atI, hy]; rfl
          rw [ax, by'] at he
          have hmx : (if x < y then y else x) = max x y := by split <;> omega
          have hmn : (if y < x then y else x) = min x y := by split <;> omega
          have hw : IntKind.i64.wrap (max x y - min x y) = max x y - min x y := IntWalk.i64_in _ (by omega)
          have hD : 0 ≤ max x y - min x y ∧ max x y - min x y ≤ 3000 := by omega
          generalize edI s t a b = v1 at *
          generalize edI s t a (b + 1) = v2 at *
          generalize edI s t (a + 1) b = v3 at *
          generalize hDD : max x y - min x y = dd at *
          have hle := eq_true (show (a + 1) * 11 + (b + 1) + 1 ≤ 121 by omega)
          have hsp := splice (g := gridI s t (a + 1) (b + 1)) (off := (a + 1) * 11 + (b + 1)) (edI s t (a + 1) (b + 1)) (by omega)
          rw [hset, he] at hsp
          have hm3 : (if v3 + 500 < (if v2 + 500 < v1 + dd then v2 + 500 else v1 + dd) then v3 + 500 else (if v2 + 500 < v1 + dd then v2 + 500 else v1 + dd)) = min (min (v1 + dd) (v2 + 500)) (v3 + 500) := by
            clear hsp he hset
            split <;> (try split) <;> (try split at *) <;> omega
          repeat' (first
    | (with_reducible first | refine DW.seq ?_ | refine DW.block ?_ | refine DW.skip ?_ | refine DW.exit ?_ | refine DW.ret ?_ | refine DW.reg ?_)
    | (refine DW.dreg rfl (WF.of ?_) ?_; first | rfl | skip)
    | (simp (disch := omega) only [go_sem, simprocAttr, Blk.men, Blk.keysIn, hdb, ha0, hb0, hm3, hsp, keys_dI, hlen, List.length_map, List.getElem?_map, Nat.mul_one, a11, b11, a11', b11', ea, eb, hx, hy, q1, q2, q3, hmx, hmn, hw, hDD, gridB, hle, List.map_cons, List.map_nil])
    | (exact retS_of rfl rfl rfl)
    | (refine DW.cond_tt rfl ?_)
    | (refine DW.cond_ff rfl ?_)
    | (refine DW.cond rfl ?_ ?_ <;> intro hc <;> (try simp only [go_sem] at hc))
    | (refine g_split ?_ ?_ <;> intro hc <;> (try simp only [hc]) <;> (try simp only [go_sem] at hc)))
          refine ⟨⟨b + 1 + 1, by omega⟩, ?_, Ent.to ?_ ?_⟩ <;> first | (show _ < _; (try simp only); omega) | (simp (disch := omega) only [wkT_cons, wkX_cons, wkT_nil, wkX_nil, get, Nat.reduceEqDiff, ↓reduceIte, ex_some, wk_self, wk_top, wk_nil, wkB_self, and_self, dI, i64_in, and_true, true_and, Int.natCast_add, Int.natCast_one, Int.ofNat_zero, Int.natCast_zero])
          all_goals first | exact ⟨.refl _, .refl _⟩ | exact .refl _
    · have hdb : decide ((b : Int) < (t.length : Int) + 1) = false := decide_eq_false (by omega)
      have hbe : b = t.length + 1 := by omega
      subst hbe
      have hrow := gridI_row s t a l2
      repeat' (first
    | (with_reducible first | refine DW.seq ?_ | refine DW.block ?_ | refine DW.skip ?_ | refine DW.exit ?_ | refine DW.ret ?_ | refine DW.reg ?_)
    | (refine DW.dreg rfl (WF.of ?_) ?_; first | rfl | skip)
    | (simp (disch := omega) only [go_sem, simprocAttr, Blk.men, Blk.keysIn, hdb])
    | (exact retS_of rfl rfl rfl)
    | (refine DW.cond_tt rfl ?_)
    | (refine DW.cond_ff rfl ?_)
    | (refine DW.cond rfl ?_ ?_ <;> intro hc <;> (try simp only [go_sem] at hc))
    | (refine g_split ?_ ?_ <;> intro hc <;> (try simp only [hc]) <;> (try simp only [go_sem] at hc)))
      refine ⟨⟨a + 1, by omega⟩, ?_, Ent.to ?_ ?_⟩ <;> first | (show _ < _; (try simp only); omega) | (simp (disch := omega) only [wkT_cons, wkX_cons, wkT_nil, wkX_nil, get, Nat.reduceEqDiff, ↓reduceIte, ex_some, wk_self, wk_top, wk_nil, wkB_self, and_self, dI, i64_in, and_true, true_and, Int.natCast_add, Int.natCast_one, Int.ofNat_zero, Int.natCast_zero,  hrow])
      all_goals first | exact ⟨.refl _, .refl _⟩ | exact .refl _
  · have hda : decide ((a : Int) < (s.length : Int) + 1) = false := decide_eq_false (by omega)
    have hae : a = s.length + 1 := by omega
    subst hae
    have hg := gridI_get (s := s) (t := t) (a := s.length + 1) (b := 0) (x := s.length) (y := t.length) l1 (Nat.le_refl _) l2 (.inl (by omega))
    have s11 := eq_true (show (s.length : Int) < 11 by omega)
    have t11 := eq_true (show (t.length : Int) < 11 by omega)
    repeat' (first
    | (with_reducible first | refine DW.seq ?_ | refine DW.block ?_ | refine DW.skip ?_ | refine DW.exit ?_ | refine DW.ret ?_ | refine DW.reg ?_)
    | (refine DW.dreg rfl (WF.of ?_) ?_; first | rfl | skip)
    | (simp (disch := omega) only [go_sem, simprocAttr, Blk.men, Blk.keysIn, hda, List.getElem?_map, hg, s11, t11, gridB, Nat.mul_one])
    | (exact retS_of rfl rfl rfl)
    | (refine DW.cond_tt rfl ?_)
    | (refine DW.cond_ff rfl ?_)
    | (refine DW.cond rfl ?_ ?_ <;> intro hc <;> (try simp only [go_sem] at hc))
    | (refine g_split ?_ ?_ <;> intro hc <;> (try simp only [hc]) <;> (try simp only [go_sem] at hc)))
theorem trChangeX (b1 b2 : Bool) (s t : List Int) (hs : s.length ≤ 2 ^ 36) (ht : t.length ≤ 2 ^ 36) : DCall Try.prog 17 [dIs b1 s, dIs b2 t] [] (.tup [dI (chgI s t), dI (chgE s t)]) [] := by
  by_cases h : chgE s t = 0
  · rw [chgI, if_pos h, h]
    exact trChange b1 b2 s t h
  · rw [chgI, if_neg h]
    exact trChangeE b1 b2 s t hs ht h
end Go.Dw.Seat
end
section
set_option linter.unusedSimpArgs false
set_option maxRecDepth 100000
namespace Go.Dw.Seat
open Go Go.Dw Go.Proofs Go.IntWalk
def sheetsE (x m o : Int) : Int := if wthn 100 5000 [x] = false then 2 else if (wthn 0 30 [m] && wthn 0 20 [o]) = false then 3 else 0
def sheetsI (x m o : Int) : Int × Int := if sheetsE x m o = 0 then (Int.tdiv (m * 100000) (x + o), Int.tdiv (m * 100000) (x - o)) else (0, 0)
set_option maxHeartbeats 1000000 in
theorem trSheets (x m o : Int) : DCall Try.prog 38 [dI x, dI m, dI o] [] (.tup [.agg [dI (sheetsI x m o).1, dI (sheetsI x m o).2], dI (sheetsE x m o)]) [] := by
  have h1 := trWithin true 100 5000 [x] (by simp)
  have h2 := trWithin true 0 30 [m] (by simp)
  have h3 := trWithin true 0 20 [o] (by simp)
  cases e1 : wthn 100 5000 [x] <;> rw [e1] at h1
  · have hE : sheetsE x m o = 2 := if_pos e1
    rw [sheetsI, hE, if_neg (by decide)]
    refine DCall.of Try.func38 sf38 hb38 (Nat.le_of_ble_eq_true rfl) (okRes_nil fun _ => rfl) ?_; simp only [s38, idxs, Nat.reduceAdd]
    repeat' (first
    | (with_reducible first | refine DW.seq ?_ | refine DW.block ?_ | refine DW.skip ?_ | refine DW.exit ?_ | refine DW.ret ?_ | refine DW.reg ?_)
    | (refine DW.dreg rfl (WF.of ?_) ?_; first | rfl | skip)
    | (simp (disch := omega) only [go_sem, simprocAttr, Blk.men, Blk.keysIn])
    | (exact retS_of rfl rfl rfl)
    | (refine DW.cond_tt rfl ?_)
    | (refine call_c (h1) (by decide) ?_)
    | (refine DW.cond_ff rfl ?_)
    | (refine DW.cond rfl ?_ ?_ <;> intro hc <;> (try simp only [go_sem] at hc))
    | (refine g_split ?_ ?_ <;> intro hc <;> (try simp only [hc]) <;> (try simp only [go_sem] at hc)))
  cases e2 : wthn 0 30 [m] <;> rw [e2] at h2
  · have hE : sheetsE x m o = 3 := by unfold sheetsE; rw [e1, e2]; rfl
    rw [sheetsI, hE, if_neg (by decide)]
    refine DCall.of Try.func38 sf38 hb38 (Nat.le_of_ble_eq_true rfl) (okRes_nil fun _ => rfl) ?_; simp only [s38, idxs, Nat.reduceAdd]
    repeat' (first
    | (with_reducible first | refine DW.seq ?_ | refine DW.block ?_ | refine DW.skip ?_ | refine DW.exit ?_ | refine DW.ret ?_ | refine DW.reg ?_)
    | (refine DW.dreg rfl (WF.of ?_) ?_; first | rfl | skip)
    | (simp (disch := omega) only [go_sem, simprocAttr, Blk.men, Blk.keysIn])
    | (exact retS_of rfl rfl rfl)
    | (refine DW.cond_tt rfl ?_)
    | (refine call_c (h1) (by decide) ?_)
    | (refine call_c (h2) (by decide) ?_)
    | (refine DW.cond_ff rfl ?_)
    | (refine DW.cond rfl ?_ ?_ <;> intro hc <;> (try simp only [go_sem] at hc))
    | (refine g_split ?_ ?_ <;> intro hc <;> (try simp only [hc]) <;> (try simp only [go_sem] at hc)))
  cases e3 : wthn 0 20 [o] <;> rw [e3] at h3
  · have hE : sheetsE x m o = 3 := by unfold sheetsE; rw [e1, e2, e3]; rfl
    rw [sheetsI, hE, if_neg (by decide)]
    refine DCall.of Try.func38 sf38 hb38 (Nat.le_of_ble_eq_true rfl) (okRes_nil fun _ => rfl) ?_; simp only [s38, idxs, Nat.reduceAdd]
    repeat' (first
    | (with_reducible first | refine DW.seq ?_ | refine DW.block ?_ | refine DW.skip ?_ | refine DW.exit ?_ | refine DW.ret ?_ | refine DW.reg ?_)
    | (refine DW.dreg rfl (WF.of ?_) ?_; first | rfl | skip)
    | (simp (disch := omega) only [go_sem, simprocAttr, Blk.men, Blk.keysIn])
    | (exact retS_of rfl rfl rfl)
    | (refine DW.cond_tt rfl ?_)
    | (refine call_c (h1) (by decide) ?_)
    | (refine call_c (h2) (by decide) ?_)
    | (refine call_c (h3) (by decide) ?_)
    | (refine DW.cond_ff rfl ?_)
    | (refine DW.cond rfl ?_ ?_ <;> intro hc <;> (try simp only [go_sem] at hc))
    | (refine g_split ?_ ?_ <;> intro hc <;> (try simp only [hc]) <;> (try simp only [go_sem] at hc)))
  have hE : sheetsE x m o = 0 := by unfold sheetsE; rw [e1, e2, e3]; rfl
  have b1 := wthn_one e1
  have b2 := wthn_one e2
  have b3 := wthn_one e3
  have n1 : x + o ≠ 0 := by omega
  have n2 : x - o ≠ 0 := by omega
  have t1 : 0 ≤ Int.tdiv (m * 100000) (x + o) ∧ Int.tdiv (m * 100000) (x + o) ≤ 3000000 := by
    rw [Int.tdiv_eq_ediv_of_nonneg (by omega)]
    exact ⟨Int.ediv_nonneg (by omega) (by omega), Int.le_trans (Int.ediv_le_self _ (by omega)) (by omega)⟩
  have t2 : 0 ≤ Int.tdiv (m * 100000) (x - o) ∧ Int.tdiv (m * 100000) (x - o) ≤ 3000000 := by
    rw [Int.tdiv_eq_ediv_of_nonneg (by omega)]
    exact ⟨Int.ediv_nonneg (by omega) (by omega), Int.le_trans (Int.ediv_le_self _ (by omega)) (by omega)⟩
  rw [sheetsI, hE, if_pos rfl]
  have n1' := eq_false n1
  have n2' := eq_false n2
  generalize hu1 : Int.tdiv (m * 100000) (x + o) = u1 at *
  generalize hu2 : Int.tdiv (m * 100000) (x - o) = u2 at *
  refine DCall.of Try.func38 sf38 hb38 (Nat.le_of_ble_eq_true rfl) (okRes_nil fun _ => rfl) ?_; simp only [s38, idxs, Nat.reduceAdd]
  repeat' (first
    | (with_reducible first | refine DW.seq ?_ | refine DW.block ?_ | refine DW.skip ?_ | refine DW.exit ?_ | refine DW.ret ?_ | refine DW.reg ?_)
    | (refine DW.dreg rfl (WF.of ?_) ?_; first | rfl | skip)
    | (simp (disch := omega) only [go_sem, simprocAttr, Blk.men, Blk.keysIn, n1', n2', hu1, hu2])
    | (exact retS_of rfl rfl rfl)
    | (refine DW.cond_tt rfl ?_)
    | (refine call_c (h1) (by decide) ?_)
    | (refine call_c (h2) (by decide) ?_)
    | (refine call_c (h3) (by decide) ?_)
    | (refine DW.cond_ff rfl ?_)
    | (refine DW.cond rfl ?_ ?_ <;> intro hc <;> (try simp only [go_sem] at hc))
    | (refine g_split ?_ ?_ <;> intro hc <;> (try simp only [hc]) <;> (try simp only [go_sem] at hc)))
end Go.Dw.Seat
end
section
set_option linter.unusedSimpArgs false
set_option maxRecDepth 100000
namespace Go.Dw.Seat
open Go Go.Dw Go.Proofs Go.IntWalk
theorem laSpan (a b : Int) : DCall Try.prog 41 [dI a, dI b] [] (.agg [dI a, dI b]) [] := by
  refine DCall.of Try.func41 sf41 hb41 (Nat.le_of_ble_eq_true rfl) (okRes_nil fun _ => rfl) ?_; simp only [s41, idxs, Nat.reduceAdd]
  repeat' (first
    | (with_reducible first | refine DW.seq ?_ | refine DW.block ?_ | refine DW.skip ?_ | refine DW.exit ?_ | refine DW.ret ?_ | refine DW.reg ?_)
    | (simp (disch := omega) only [go_sem, simprocAttr, bm_box, bm_row, bk_box, bk_row])
    | (exact retS_of rfl rfl rfl)
    | (refine DW.cond_tt rfl ?_)
    | (refine DW.cond_ff rfl ?_)
    | (refine DW.cond rfl ?_ ?_ <;> intro hc <;> (try simp only [go_sem] at hc))
    | (refine g_split ?_ ?_ <;> intro hc <;> (try simp only [hc]) <;> (try simp only [go_sem] at hc)))
def exP (m : Int) : TPap := ⟨2500, 20, m, 4⟩
def exO : List TOrd := [⟨800, 10, 12⟩, ⟨700, 8, 9⟩, ⟨1200, 4, 4⟩]
theorem laPaper (m : Int) : DCall Try.prog 56 [dI m] [] (papD (exP m)) [] := by
  refine DCall.of Try.func56 sf56 hb56 (Nat.le_of_ble_eq_true rfl) (okRes_nil fun _ => rfl) ?_; simp only [s56, idxs, Nat.reduceAdd]
  repeat' (first
    | (with_reducible first | refine DW.seq ?_ | refine DW.block ?_ | refine DW.skip ?_ | refine DW.exit ?_ | refine DW.ret ?_ | refine DW.reg ?_)
    | (simp (disch := omega) only [go_sem, simprocAttr, bm_box, bm_row, bk_box, bk_row, exP])
    | (exact retS_of rfl rfl rfl)
    | (refine DW.cond_tt rfl ?_)
    | (refine DW.cond_ff rfl ?_)
    | (refine DW.cond rfl ?_ ?_ <;> intro hc <;> (try simp only [go_sem] at hc))
    | (refine g_split ?_ ?_ <;> intro hc <;> (try simp only [hc]) <;> (try simp only [go_sem] at hc)))
theorem laOrders : DCall Try.prog 57 [] [] (.c (.sl false 3 (rows eO exO))) [] := by
  have h1 := laSpan 10 12
  have h2 := laSpan 8 9
  have h3 := laSpan 4 4
  refine DCall.of Try.func57 sf57 hb57 (Nat.le_of_ble_eq_true rfl) (okRes_nil fun _ => rfl) ?_; simp only [s57, idxs, Nat.reduceAdd]
  repeat' (first
    | (with_reducible first | refine DW.seq ?_ | refine DW.block ?_ | refine DW.skip ?_ | refine DW.exit ?_ | refine DW.ret ?_ | refine DW.reg ?_)
    | (refine DW.ord rfl (WF.of (by first | rfl | simp (disch := omega) only [go_sem, simprocAttr, bm_box, bm_row, bk_box, bk_row])) ?_ ?_ ?_; rotate_left)
    | rfl
    | (with_reducible refine And.intro ?_ ?_)
    | (simp (disch := omega) only [go_sem, simprocAttr, bm_box, bm_row, bk_box, bk_row])
    | (exact retS_of rfl rfl rfl)
    | (refine DW.cond_tt rfl ?_)
    | (refine call_c (h1) (by decide) ?_)
    | (refine call_c (h2) (by decide) ?_)
    | (refine call_c (h3) (by decide) ?_)
    | (refine DW.cond_ff rfl ?_)
    | (refine DW.cond rfl ?_ ?_ <;> intro hc <;> (try simp only [go_sem] at hc))
    | (refine g_split ?_ ?_ <;> intro hc <;> (try simp only [hc]) <;> (try simp only [go_sem] at hc)))
  (refine retS_ent (Ent.rel 7 rfl) ?_; simp (disch := omega) only [go_sem, simprocAttr, bm_box, bm_row, bk_box, bk_row])
  refine retS_wk rfl ?_ (by simp only [Blk.nb, rowC_nb, D.nb, D.nbs, C.nb, C.nbs, C.nbss, rows_nb eI_nb, Bool.and_true, Bool.not_false, Bool.and_self, bD, dI, iD, rows_nb eO_nb, rows_nb eSt_nb, rows_nb eWs_nb]); exact .refl _
theorem laSetup (r : Int) (ws : List Int) : DCall Try.prog 58 [dI r, dIs false ws] [] (.agg [dIs false ws, dI r]) [] := by
  refine DCall.of Try.func58 sf58 hb58 (Nat.le_of_ble_eq_true rfl) (okRes_nil fun _ => rfl) ?_; simp only [s58, idxs, Nat.reduceAdd]
  repeat' (first
    | (with_reducible first | refine DW.seq ?_ | refine DW.block ?_ | refine DW.skip ?_ | refine DW.exit ?_ | refine DW.ret ?_ | refine DW.reg ?_)
    | (simp (disch := omega) only [go_sem, simprocAttr, bm_box, bm_row, bk_box, bk_row])
    | (exact retS_of rfl rfl rfl)
    | (refine DW.cond_tt rfl ?_)
    | (refine DW.cond_ff rfl ?_)
    | (refine DW.cond rfl ?_ ?_ <;> intro hc <;> (try simp only [go_sem] at hc))
    | (refine g_split ?_ ?_ <;> intro hc <;> (try simp only [hc]) <;> (try simp only [go_sem] at hc)))
  refine retS_wk rfl ?_ (by simp only [Blk.nb, rowC_nb, D.nb, D.nbs, C.nb, C.nbs, C.nbss, rows_nb eI_nb, Bool.and_true, Bool.not_false, Bool.and_self, bD, dI, iD, rows_nb eO_nb, rows_nb eSt_nb, rows_nb eWs_nb]); exact .refl _
theorem laOwn (b : Bool) (l : List TOrd) (hl : l.length ≤ 2 ^ 36) : DCall Try.prog 22 [.c (.sl b 3 (rows eO l))] [] (.c (.sl false 3 (rows eO l))) [] := by
  refine DCall.of Try.func22 sf22 hb22 (Nat.le_of_ble_eq_true rfl) (okRes_nil fun _ => rfl) ?_; simp only [s22, idxs, Nat.reduceAdd]
  repeat' (first
    | (with_reducible first | refine DW.seq ?_ | refine DW.block ?_ | refine DW.skip ?_ | refine DW.exit ?_ | refine DW.ret ?_ | refine DW.reg ?_)
    | (simp (disch := omega) only [go_sem, simprocAttr, bm_box, bm_row, bk_box, bk_row])
    | (exact retS_of rfl rfl rfl)
    | (refine DW.cond_tt rfl ?_)
    | (refine DW.cond_ff rfl ?_)
    | (refine DW.cond rfl ?_ ?_ <;> intro hc <;> (try simp only [go_sem] at hc))
    | (refine g_split ?_ ?_ <;> intro hc <;> (try simp only [hc]) <;> (try simp only [go_sem] at hc)))
  (refine retS_ent (Ent.rel 3 rfl) ?_; simp (disch := omega) only [go_sem, simprocAttr, bm_box, bm_row, bk_box, bk_row])
  refine retS_wk rfl ?_ (by simp only [Blk.nb, rowC_nb, D.nb, D.nbs, C.nb, C.nbs, C.nbss, rows_nb eI_nb, Bool.and_true, Bool.not_false, Bool.and_self, bD, dI, iD, rows_nb eO_nb, rows_nb eSt_nb, rows_nb eWs_nb]); exact .refl _
end Go.Dw.Seat
end
section
set_option linter.unusedSimpArgs false
set_option maxRecDepth 100000
namespace Go.Dw.Seat
open Go Go.Dw Go.Proofs Go.IntWalk
theorem planF_ok {p : TPap} (hp : p.ok) {l : List TOrd} (hl : ∀ o ∈ l, o.ok) {q : List TStp} {w : Int} (h : planF p l = some (q, w)) : PlanOk p l q ∧ w = wasteF p l q := by
  have := plan_spec hp hl
  rw [h] at this
  exact ⟨this.1, this.2.1⟩
theorem plan_len {p : TPap} {l : List TOrd} {q : List TStp} (h : PlanOk p l q) : q.length ≤ 3 := h.len
def planX (p : TPap) (l : List TOrd) : D := if openE p l = 0 then (match planF p l with
  | some x => .tup [dSt false x.1, dI 0]
  | none => .tup [.c (.v (.slice none 0 0)), dI 9]) else .tup [.c (.v (.slice none 0 0)), dI (openE p l)]
set_option maxHeartbeats 1000000 in
theorem trPlanX (p : TPap) (l : List TOrd) (hl : l.length ≤ 2 ^ 36) : DCall Try.prog 31 [papD p, .c (.sl false 3 (rows eO l))] [] (planX p l) [] := by
  unfold planX
  by_cases h : openE p l = 0
  · obtain ⟨hp, hl4, ho⟩ := openE_ok h
    have h1 := trOpen p l h
    have h2 := trPlanM p hp l hl4 ho
    rw [if_pos h]
    cases hR : planF p l with
    | none =>
      rw [hR] at h2
      simp only [planD] at h2
      refine DCall.of Try.func31 sf31 hb31 (Nat.le_of_ble_eq_true rfl) (okRes_nil fun _ => rfl) ?_; simp only [s31, idxs, Nat.reduceAdd]
      repeat' (first
    | (with_reducible first | refine DW.seq ?_ | refine DW.block ?_ | refine DW.skip ?_ | refine DW.exit ?_ | refine DW.ret ?_ | refine DW.reg ?_)
    | (simp (disch := omega) only [go_sem, simprocAttr, bm_box, bm_row, bk_box, bk_row])
    | (exact retS_of rfl rfl rfl)
    | (refine DW.cond_tt rfl ?_)
    | (refine call_c (h1) (by decide) ?_)
    | (refine call_c (h2) (by decide) ?_)
    | (refine DW.cond_ff rfl ?_)
    | (refine DW.cond rfl ?_ ?_ <;> intro hc <;> (try simp only [go_sem] at hc))
    | (refine g_split ?_ ?_ <;> intro hc <;> (try simp only [hc]) <;> (try simp only [go_sem] at hc)))
    | some x =>
      obtain ⟨q, w⟩ := x
      have hq := planF_ok hp ho hR
      have hws := plan_ws hq.1
      have h3 := trOwn false q (by have := plan_len hq.1; omega) (fun s hs => by have := (hws s hs).1.len; omega)
      rw [hR] at h2
      simp only [planD] at h2
      refine DCall.of Try.func31 sf31 hb31 (Nat.le_of_ble_eq_true rfl) (okRes_nil fun _ => rfl) ?_; simp only [s31, idxs, Nat.reduceAdd]
      repeat' (first
    | (with_reducible first | refine DW.seq ?_ | refine DW.block ?_ | refine DW.skip ?_ | refine DW.exit ?_ | refine DW.ret ?_ | refine DW.reg ?_)
    | (simp (disch := omega) only [go_sem, simprocAttr, bm_box, bm_row, bk_box, bk_row])
    | (exact retS_of rfl rfl rfl)
    | (refine DW.cond_tt rfl ?_)
    | (refine call_c (h1) (by decide) ?_)
    | (refine call_c (h2) (by decide) ?_)
    | (refine call_c (h3) (by decide) ?_)
    | (refine DW.cond_ff rfl ?_)
    | (refine DW.cond rfl ?_ ?_ <;> intro hc <;> (try simp only [go_sem] at hc))
    | (refine g_split ?_ ?_ <;> intro hc <;> (try simp only [hc]) <;> (try simp only [go_sem] at hc)))
      refine retS_wk rfl ?_ (by simp only [Blk.nb, rowC_nb, D.nb, D.nbs, C.nb, C.nbs, C.nbss, rows_nb eI_nb, Bool.and_true, Bool.not_false, Bool.and_self, bD, dI, iD, rows_nb eO_nb, rows_nb eSt_nb, rows_nb eWs_nb]); exact .refl _
  · have h1 := trOpenE false p l hl h
    rw [if_neg h]
    generalize openE p l = e at *
    have hd : (e != 0) = true := by simpa using h
    refine DCall.of Try.func31 sf31 hb31 (Nat.le_of_ble_eq_true rfl) (okRes_nil fun _ => rfl) ?_; simp only [s31, idxs, Nat.reduceAdd]
    repeat' (first
    | (with_reducible first | refine DW.seq ?_ | refine DW.block ?_ | refine DW.skip ?_ | refine DW.exit ?_ | refine DW.ret ?_ | refine DW.reg ?_)
    | (simp (disch := omega) only [go_sem, simprocAttr, bm_box, bm_row, bk_box, bk_row, hd])
    | (exact retS_of rfl rfl rfl)
    | (refine DW.cond_tt rfl ?_)
    | (refine call_c (h1) (by decide) ?_)
    | (refine DW.cond_ff rfl ?_)
    | (refine DW.cond rfl ?_ ?_ <;> intro hc <;> (try simp only [go_sem] at hc))
    | (refine g_split ?_ ?_ <;> intro hc <;> (try simp only [hc]) <;> (try simp only [go_sem] at hc)))
def orL : List Int → Int
  | [] => 0
  | a :: l => if a ≠ 0 then a else orL l
theorem crOrL (bw : Bool) (l : List Int) (hl : l.length ≤ 2 ^ 36) : DCall Try.prog 72 [dIs bw l] [] (dI (orL l)) [] := by
  generalize hR : orL l = R
  refine DCall.of Try.func72 sf72 hb72 (Nat.le_of_ble_eq_true rfl) (okRes_nil fun _ => rfl) ?_; simp only [s72, idxs, Nat.reduceAdd]
  repeat' (first
    | (with_reducible first | refine DW.seq ?_ | refine DW.block ?_ | refine DW.skip ?_ | refine DW.exit ?_ | refine DW.ret ?_ | refine DW.reg ?_)
    | (simp (disch := omega) only [go_sem, simprocAttr, bm_box, bm_row, bk_box, bk_row])
    | (exact retS_of rfl rfl rfl)
    | (refine DW.cond_tt rfl ?_)
    | (refine DW.cond_ff rfl ?_)
    | (refine DW.cond rfl ?_ ?_ <;> intro hc <;> (try simp only [go_sem] at hc))
    | (refine g_split ?_ ?_ <;> intro hc <;> (try simp only [hc]) <;> (try simp only [go_sem] at hc)))
  refine DW.loop (ι := { i : Nat // i ≤ l.length ∧ orL (l.drop i) = R }) (fun i => ⟨18, [(8, dI i.1), (7, dI l.length), (6, dIs bw l), (3, dI 0)], []⟩) (fun i => l.length - i.1) ⟨0, Nat.zero_le _, hR⟩ ?_ ?_
  · refine Ent.to ?_ ?_ <;> simp (disch := omega) only [wkT_cons, wkX_cons, wkT_nil, wkX_nil, get, Nat.reduceEqDiff, ↓reduceIte, ex_some, wk_self, wk_top, wk_nil, wkB_self, and_self, dI, i64_in, and_true, true_and, Int.natCast_add, Int.natCast_one, Int.ofNat_zero, Int.natCast_zero]
    all_goals exact .refl _
  rintro ⟨i, hi, ho⟩
  dsimp only
  rcases at_or l i hi with ⟨v, hv, hlt, hd⟩ | ⟨he, hd⟩
  · have hdr : l.drop i = v :: l.drop (i + 1) := by rw [List.drop_eq_getElem_cons hlt, (List.getElem_eq_iff hlt).2 hv]
    rw [hdr, orL] at ho
    by_cases h0 : v = 0
    · have e : (v != 0) = false := by rw [h0]; rfl
      rw [if_neg (by simpa using h0)] at ho
      repeat' (first
    | (with_reducible first | refine DW.seq ?_ | refine DW.block ?_ | refine DW.skip ?_ | refine DW.exit ?_ | refine DW.ret ?_ | refine DW.reg ?_)
    | (simp (disch := omega) only [go_sem, simprocAttr, bm_box, bm_row, bk_box, bk_row, hd, hv, e, List.map_cons, List.map_nil])
    | (exact retS_of rfl rfl rfl)
    | (refine DW.cond_tt rfl ?_)
    | (refine DW.cond_ff rfl ?_)
    | (refine DW.cond rfl ?_ ?_ <;> intro hc <;> (try simp only [go_sem] at hc))
    | (refine g_split ?_ ?_ <;> intro hc <;> (try simp only [hc]) <;> (try simp only [go_sem] at hc)))
      refine ⟨⟨i + 1, hlt, ho⟩, ?_, Ent.to ?_ ?_⟩ <;> first | (show _ < _; (try simp only); omega) | (simp (disch := omega) only [wkT_cons, wkX_cons, wkT_nil, wkX_nil, get, Nat.reduceEqDiff, ↓reduceIte, ex_some, wk_self, wk_top, wk_nil, wkB_self, and_self, dI, i64_in, and_true, true_and, Int.natCast_add, Int.natCast_one, Int.ofNat_zero, Int.natCast_zero])
    · have e : (v != 0) = true := by simpa using h0
      rw [if_pos h0] at ho
      subst ho
      repeat' (first
    | (with_reducible first | refine DW.seq ?_ | refine DW.block ?_ | refine DW.skip ?_ | refine DW.exit ?_ | refine DW.ret ?_ | refine DW.reg ?_)
    | (simp (disch := omega) only [go_sem, simprocAttr, bm_box, bm_row, bk_box, bk_row, hd, hv, e, List.map_cons, List.map_nil])
    | (exact retS_of rfl rfl rfl)
    | (refine DW.cond_tt rfl ?_)
    | (refine DW.cond_ff rfl ?_)
    | (refine DW.cond rfl ?_ ?_ <;> intro hc <;> (try simp only [go_sem] at hc))
    | (refine g_split ?_ ?_ <;> intro hc <;> (try simp only [hc]) <;> (try simp only [go_sem] at hc)))
  · rw [List.drop_eq_nil_of_le (by omega), orL] at ho
    subst ho
    repeat' (first
    | (with_reducible first | refine DW.seq ?_ | refine DW.block ?_ | refine DW.skip ?_ | refine DW.exit ?_ | refine DW.ret ?_ | refine DW.reg ?_)
    | (simp (disch := omega) only [go_sem, simprocAttr, bm_box, bm_row, bk_box, bk_row, hd])
    | (exact retS_of rfl rfl rfl)
    | (refine DW.cond_tt rfl ?_)
    | (refine DW.cond_ff rfl ?_)
    | (refine DW.cond rfl ?_ ?_ <;> intro hc <;> (try simp only [go_sem] at hc))
    | (refine g_split ?_ ?_ <;> intro hc <;> (try simp only [hc]) <;> (try simp only [go_sem] at hc)))
structure TOff where
  paper : Int
  setups : Int
  waste : Int
def eOf (o : TOff) : List C := [.v (.int .i64 o.paper), .v (.int .i64 o.setups), .v (.int .i64 o.waste)]
theorem eOf_nb (v : TOff) : C.nbs (eOf v) = true := rfl
attribute [go_sem] eOf
def TOff.ok (o : TOff) : Prop := (0 ≤ o.paper ∧ o.paper ≤ 1000000000) ∧ (0 ≤ o.setups ∧ o.setups ≤ 1000000000) ∧ 0 ≤ o.waste ∧ o.waste ≤ 1000000000
def cmpO (a b : TOff) : Int := orL [a.setups - b.setups, a.waste - b.waste, a.paper - b.paper]
theorem trChoose1 (a b : TOff) (ha : a.ok) (hb : b.ok) : DCall Try.prog 71 [.agg ((eOf a).map D.c), .agg ((eOf b).map D.c)] [] (dI (cmpO a b)) [] := by
  obtain ⟨a1, a2, a3⟩ := ha
  obtain ⟨b1, b2, b3⟩ := hb
  have h1 := crOrL true [a.setups - b.setups, a.waste - b.waste, a.paper - b.paper] (by simp)
  unfold cmpO
  refine DCall.of Try.func71 sf71 hb71 (Nat.le_of_ble_eq_true rfl) (okRes_nil fun _ => rfl) ?_; simp only [s71, idxs, Nat.reduceAdd]
  repeat' (first
    | (with_reducible first | refine DW.seq ?_ | refine DW.block ?_ | refine DW.skip ?_ | refine DW.exit ?_ | refine DW.ret ?_ | refine DW.reg ?_)
    | (simp (disch := omega) only [go_sem, simprocAttr, bm_box, bm_row, bk_box, bk_row, List.map_cons, List.map_nil])
    | (exact retS_of rfl rfl rfl)
    | (refine DW.cond_tt rfl ?_)
    | (refine call_c (h1) (by decide) ?_)
    | (refine DW.cond_ff rfl ?_)
    | (refine DW.cond rfl ?_ ?_ <;> intro hc <;> (try simp only [go_sem] at hc))
    | (refine g_split ?_ ?_ <;> intro hc <;> (try simp only [hc]) <;> (try simp only [go_sem] at hc)))
def minBy {α : Type} (c : α → α → Int) : α → List α → α
  | m, [] => m
  | m, x :: l => minBy c (if c x m < 0 then x else m) l
theorem minBy_mem {α : Type} (c : α → α → Int) : ∀ (l : List α) (m : α), minBy c m l = m ∨ minBy c m l ∈ l
  | [], m => .inl rfl
  | x :: l, m => by
    rw [minBy]
    rcases minBy_mem c l (if c x m < 0 then x else m) with h | h
    · rw [h]
      split
      · exact .inr (by simp)
      · exact .inl rfl
    · exact .inr (by simp [h])
set_option maxHeartbeats 1000000 in
theorem trMinO (b : Bool) (x : TOff) (l : List TOff) (hl : l.length ≤ 2 ^ 30) (g : FuncId) (hg : ∀ u ∈ x :: l, ∀ v ∈ x :: l, DCall Try.prog g [.agg ((eOf u).map D.c), .agg ((eOf v).map D.c)] [] (dI (cmpO u v)) []) : DCall Try.prog 70 [.c (.sl b 3 (rows eOf (x :: l))), .c (.fn (.func g) [] [])] [] (.agg ((eOf (minBy cmpO x l)).map D.c)) [] := by
  obtain ⟨L, hL⟩ : ∃ L, L = x :: l := ⟨_, rfl⟩
  have hx : L[0]? = some x := by rw [hL]; rfl
  have hxm : x ∈ L := by rw [hL]; simp
  have hLl : L.length = l.length + 1 := by rw [hL]; rfl
  have h1d : L.drop 1 = l := by rw [hL]; rfl
  rw [← hL] at hg ⊢
  have hd1 : decide ((L.length : Int) < 1) = false := decide_eq_false (by omega)
  have hd0 : decide ((0 : Int) < (L.length : Int)) = true := decide_eq_true (by omega)
  generalize hR : minBy cmpO x l = R
  refine DCall.of Try.func70 sf70 hb70 (Nat.le_of_ble_eq_true rfl) (okRes_nil fun _ => rfl) ?_; simp only [s70, idxs, Nat.reduceAdd]
  repeat' (first
    | (with_reducible first | refine DW.seq ?_ | refine DW.block ?_ | refine DW.skip ?_ | refine DW.exit ?_ | refine DW.ret ?_ | refine DW.reg ?_)
    | (refine DW.dreg rfl (WF.of ?_) ?_; first | rfl | skip)
    | (simp (disch := omega) only [go_sem, simprocAttr, bm_box, bm_row, bk_box, bk_row, hd1, hd0, hx, List.map_cons, List.map_nil])
    | (exact retS_of rfl rfl rfl)
    | (refine DW.cond_tt rfl ?_)
    | (refine DW.cond_ff rfl ?_)
    | (refine DW.cond rfl ?_ ?_ <;> intro hc <;> (try simp only [go_sem] at hc))
    | (refine g_split ?_ ?_ <;> intro hc <;> (try simp only [hc]) <;> (try simp only [go_sem] at hc)))
  refine DW.loop (ι := { y : Nat × TOff // y.1 ≤ L.length ∧ y.2 ∈ L ∧ minBy cmpO y.2 (L.drop y.1) = R }) (fun y => ⟨33, [(6, dI y.1.1), (5, .box 5 0), (4, .box 4 0), (0, .c (.sl b 3 (rows eOf L))), (1, .c (.fn (.func g) [] []))], [(5, .box [dI y.1.2.paper, dI y.1.2.setups, dI y.1.2.waste]), (4, .box [dI 0, dI 0, dI 0])]⟩) (fun y => L.length - y.1.1) ⟨(1, x), by dsimp only; omega, hxm, by rw [h1d]; exact hR⟩ ?_ ?_
  · refine Ent.to ?_ ?_ <;> simp (disch := omega) only [wkT_cons, wkX_cons, wkT_nil, wkX_nil, get, Nat.reduceEqDiff, ↓reduceIte, ex_some, wk_self, wk_top, wk_nil, wkB_self, and_self, dI, i64_in, and_true, true_and, Int.natCast_add, Int.natCast_one, Int.ofNat_zero, Int.natCast_zero]
    all_goals first | exact ⟨.refl _, .refl _⟩ | exact .refl _
  rintro ⟨⟨i, m⟩, hi, hm, hr⟩
  dsimp only at hi hm hr ⊢
  rcases at_or L i hi with ⟨v, hv, hlt, hd⟩ | ⟨he, hd⟩
  · have hdr : L.drop i = v :: L.drop (i + 1) := by rw [List.drop_eq_getElem_cons hlt, (List.getElem_eq_iff hlt).2 hv]
    have hvm := List.mem_of_getElem? hv
    have hcall := hg v hvm m hm
    rw [hdr, minBy] at hr
    generalize cmpO v m = c at *
    by_cases hc : c < 0
    · have hdc : decide (c < 0) = true := decide_eq_true hc
      rw [if_pos hc] at hr
      repeat' (first
    | (with_reducible first | refine DW.seq ?_ | refine DW.block ?_ | refine DW.skip ?_ | refine DW.exit ?_ | refine DW.ret ?_ | refine DW.reg ?_)
    | (refine DW.dreg rfl (WF.of ?_) ?_; first | rfl | skip)
    | (simp (disch := omega) only [go_sem, simprocAttr, bm_box, bm_row, bk_box, bk_row, hd, hv, hdc, closeDs_fn, List.map_cons, List.map_nil])
    | (exact retS_of rfl rfl rfl)
    | (refine DW.cond_tt rfl ?_)
    | (refine call_c (hcall) (by decide) ?_)
    | (refine DW.cond_ff rfl ?_)
    | (refine DW.cond rfl ?_ ?_ <;> intro hc <;> (try simp only [go_sem] at hc))
    | (refine g_split ?_ ?_ <;> intro hc <;> (try simp only [hc]) <;> (try simp only [go_sem] at hc)))
      refine ⟨⟨(i + 1, v), hlt, hvm, hr⟩, ?_, Ent.to ?_ ?_⟩ <;> first | (show _ < _; (try simp only); omega) | (simp (disch := omega) only [wkT_cons, wkX_cons, wkT_nil, wkX_nil, get, Nat.reduceEqDiff, ↓reduceIte, ex_some, wk_self, wk_top, wk_nil, wkB_self, and_self, dI, i64_in, and_true, true_and, Int.natCast_add, Int.natCast_one, Int.ofNat_zero, Int.natCast_zero])
      all_goals first | exact ⟨.refl _, .refl _⟩ | exact .refl _
    · have hdc : decide (c < 0) = false := decide_eq_false hc
      rw [if_neg hc] at hr
      repeat' (first
    | (with_reducible first | refine DW.seq ?_ | refine DW.block ?_ | refine DW.skip ?_ | refine DW.exit ?_ | refine DW.ret ?_ | refine DW.reg ?_)
    | (refine DW.dreg rfl (WF.of ?_) ?_; first | rfl | skip)
    | (simp (disch := omega) only [go_sem, simprocAttr, bm_box, bm_row, bk_box, bk_row, hd, hv, hdc, closeDs_fn, List.map_cons, List.map_nil])
    | (exact retS_of rfl rfl rfl)
    | (refine DW.cond_tt rfl ?_)
    | (refine call_c (hcall) (by decide) ?_)
    | (refine DW.cond_ff rfl ?_)
    | (refine DW.cond rfl ?_ ?_ <;> intro hc <;> (try simp only [go_sem] at hc))
    | (refine g_split ?_ ?_ <;> intro hc <;> (try simp only [hc]) <;> (try simp only [go_sem] at hc)))
      refine ⟨⟨(i + 1, m), hlt, hm, hr⟩, ?_, Ent.to ?_ ?_⟩ <;> first | (show _ < _; (try simp only); omega) | (simp (disch := omega) only [wkT_cons, wkX_cons, wkT_nil, wkX_nil, get, Nat.reduceEqDiff, ↓reduceIte, ex_some, wk_self, wk_top, wk_nil, wkB_self, and_self, dI, i64_in, and_true, true_and, Int.natCast_add, Int.natCast_one, Int.ofNat_zero, Int.natCast_zero])
      all_goals first | exact ⟨.refl _, .refl _⟩ | exact .refl _
  · rw [List.drop_eq_nil_of_le (by omega), minBy] at hr
    subst hr
    repeat' (first
    | (with_reducible first | refine DW.seq ?_ | refine DW.block ?_ | refine DW.skip ?_ | refine DW.exit ?_ | refine DW.ret ?_ | refine DW.reg ?_)
    | (refine DW.dreg rfl (WF.of ?_) ?_; first | rfl | skip)
    | (simp (disch := omega) only [go_sem, simprocAttr, bm_box, bm_row, bk_box, bk_row, hd])
    | (exact retS_of rfl rfl rfl)
    | (refine DW.cond_tt rfl ?_)
    | (refine DW.cond_ff rfl ?_)
    | (refine DW.cond rfl ?_ ?_ <;> intro hc <;> (try simp only [go_sem] at hc))
    | (refine g_split ?_ ?_ <;> intro hc <;> (try simp only [hc]) <;> (try simp only [go_sem] at hc)))
end Go.Dw.Seat
end
section
set_option linter.unusedSimpArgs false
set_option maxRecDepth 100000
namespace Go.Dw.Seat
open Go Go.Dw Go.Proofs Go.IntWalk
def eP (p : TPap) : List C := [.v (.int .i64 p.wide), .v (.int .i64 p.tl), .v (.int .i64 p.th), .v (.int .i64 p.webs)]
attribute [go_sem] eP
def offF (l : List TOrd) : Nat → List TPap → List TOff
  | _, [] => []
  | i, p :: ps => match planF p l with
    | some x => ⟨i, x.1.length, x.2⟩ :: offF l (i + 1) ps
    | none => offF l (i + 1) ps
def papE (l : List TOrd) (P : List TPap) : Int := orL (P.map fun p => openE p l)
def choE (P : List TPap) (l : List TOrd) : Int := if 4 < P.length then 5 else if P.length = 0 then 7 else if papE l P ≠ 0 then papE l P else if (offF l 0 P).isEmpty then 9 else 0
def choI (P : List TPap) (l : List TOrd) : Int := if choE P l ≠ 0 then 0 else match offF l 0 P with
  | [] => 0
  | x :: t => (minBy cmpO x t).paper
theorem offF_app (l : List TOrd) : ∀ (a b : List TPap) (i : Nat), offF l i (a ++ b) = offF l i a ++ offF l (i + a.length) b
  | [], b, i => by simp [offF]
  | p :: a, b, i => by
    have ih := offF_app l a b (i + 1)
    rw [List.cons_append, offF, offF, ih, List.length_cons, show i + 1 + a.length = i + (a.length + 1) by omega]
    split <;> rfl
theorem offF_len (l : List TOrd) : ∀ (a : List TPap) (i : Nat), (offF l i a).length ≤ a.length
  | [], i => by simp [offF]
  | p :: a, i => by
    have ih := offF_len l a (i + 1)
    rw [offF]
    split
    · simp only [List.length_cons]; omega
    · simp only [List.length_cons]; omega
theorem papE_zero {l : List TOrd} : ∀ {P : List TPap}, papE l P = 0 → ∀ p ∈ P, openE p l = 0
  | [], _, p, hp => by cases hp
  | q :: P, h, p, hp => by
    simp only [papE, List.map_cons, orL] at h
    by_cases h0 : openE q l = 0
    · rw [if_neg (by simpa using h0)] at h
      rcases List.mem_cons.1 hp with rfl | hp
      · exact h0
      · exact papE_zero (P := P) h p hp
    · rw [if_pos h0] at h; exact absurd h h0
theorem waste_b {p : TPap} (hp : p.ok) {l : List TOrd} : ∀ {q : List TStp}, (∀ s ∈ q, WsOk p l s.ws ∧ 1 ≤ s.run ∧ s.run ≤ 30) → 0 ≤ wasteF p l q ∧ wasteF p l q ≤ 90000 * (q.length : Int)
  | [], _ => by simp [wasteF]
  | s :: q, h => by
    have ih := waste_b hp (q := q) (fun x hx => h x (by simp [hx]))
    obtain ⟨h1, h2, h3⟩ := h s (by simp)
    have hb := (patB_b h1.pat).2.2
    have ht := hp.trim
    have m1 : 0 ≤ trimI p l s.ws * s.run := Int.mul_nonneg (by omega) (by omega)
    have m2 : trimI p l s.ws * s.run ≤ 3000 * s.run := Int.mul_le_mul_of_nonneg_right (by omega) (by omega)
    simp only [wasteF, List.length_cons, Int.natCast_add, Int.natCast_one]
    omega
theorem plan_wsb {p : TPap} {l : List TOrd} {q : List TStp} (h : PlanOk p l q) : ∀ s ∈ q, WsOk p l s.ws ∧ 1 ≤ s.run ∧ s.run ≤ 30 := fun s hs => by
  have h1 := (ext_mem h.ext).2 s hs
  exact ⟨(plan_ws h s hs).1, h1.2⟩
theorem offF_ok {l : List TOrd} (hl : ∀ o ∈ l, o.ok) : ∀ {P : List TPap} {i : Nat}, (∀ p ∈ P, p.ok) → i + P.length ≤ 1000000 → ∀ u ∈ offF l i P, u.ok
  | [], _, _, _, u, hu => by cases hu
  | p :: P, i, h, hi, u, hu => by
    have ih := offF_ok hl (P := P) (i := i + 1) (fun q hq => h q (by simp [hq])) (by simp only [List.length_cons] at hi; omega)
    rw [offF] at hu
    split at hu
    · rename_i x hx
      rcases List.mem_cons.1 hu with rfl | hu
      · have h1 := planF_ok (h p (by simp)) hl (q := x.1) (w := x.2) hx
        have h2 := plan_len h1.1
        have h3 := waste_b (h p (by simp)) (plan_wsb h1.1)
        rw [← h1.2] at h3
        simp only [List.length_cons] at hi
        refine ⟨?_, ?_, ?_⟩ <;> dsimp only <;> omega
      · exact ih u hu
    · exact ih u hu
set_option maxHeartbeats 4000000 in
theorem trChoose (b : Bool) (P : List TPap) (hP : P.length ≤ 2 ^ 36) (l : List TOrd) (hl : l.length ≤ 2 ^ 36) : DCall Try.prog 35 [.c (.sl b 4 (rows eP P)), .c (.sl false 3 (rows eO l))] [] (.tup [dI (choI P l), dI (choE P l)]) [] := by
  by_cases h4 : 4 < P.length
  · have hE : choE P l = 5 := if_pos h4
    have hI : choI P l = 0 := by unfold choI; rw [if_pos (by rw [hE]; decide)]
    have d4 : decide ((4 : Int) < (P.length : Int)) = true := decide_eq_true (by omega)
    rw [hE, hI]
    refine DCall.of Try.func35 sf35 hb35 (Nat.le_of_ble_eq_true rfl) (okRes_nil fun _ => rfl) ?_; simp only [s35, idxs, Nat.reduceAdd]
    repeat' (first
    | (with_reducible first | refine DW.seq ?_ | refine DW.block ?_ | refine DW.skip ?_ | refine DW.exit ?_ | refine DW.ret ?_ | refine DW.reg ?_)
    | (simp (disch := omega) only [go_sem, simprocAttr, bm_box, bm_row, bk_box, bk_row, d4])
    | (exact retS_of rfl rfl rfl)
    | (refine DW.cond_tt rfl ?_)
    | (refine DW.cond_ff rfl ?_)
    | (refine DW.cond rfl ?_ ?_ <;> intro hc <;> (try simp only [go_sem] at hc))
    | (refine g_split ?_ ?_ <;> intro hc <;> (try simp only [hc]) <;> (try simp only [go_sem] at hc)))
  have d4 : decide ((4 : Int) < (P.length : Int)) = false := decide_eq_false (by omega)
  by_cases h0 : P.length = 0
  · have hE : choE P l = 7 := by unfold choE; rw [if_neg h4, if_pos h0]
    have hI : choI P l = 0 := by unfold choI; rw [if_pos (by rw [hE]; decide)]
    have d0 : ((P.length : Int) == 0) = true := by rw [h0]; rfl
    rw [hE, hI]
    refine DCall.of Try.func35 sf35 hb35 (Nat.le_of_ble_eq_true rfl) (okRes_nil fun _ => rfl) ?_; simp only [s35, idxs, Nat.reduceAdd]
    repeat' (first
    | (with_reducible first | refine DW.seq ?_ | refine DW.block ?_ | refine DW.skip ?_ | refine DW.exit ?_ | refine DW.ret ?_ | refine DW.reg ?_)
    | (simp (disch := omega) only [go_sem, simprocAttr, bm_box, bm_row, bk_box, bk_row, d4, d0])
    | (exact retS_of rfl rfl rfl)
    | (refine DW.cond_tt rfl ?_)
    | (refine DW.cond_ff rfl ?_)
    | (refine DW.cond rfl ?_ ?_ <;> intro hc <;> (try simp only [go_sem] at hc))
    | (refine g_split ?_ ?_ <;> intro hc <;> (try simp only [hc]) <;> (try simp only [go_sem] at hc)))
  have d0 : ((P.length : Int) == 0) = false := by rw [beq_eq_false_iff_ne]; omega
  generalize hA : choI P l = A
  generalize hB : choE P l = B
  unfold choI at hA
  rw [hB] at hA
  unfold choE at hB
  rw [if_neg h4, if_neg h0] at hB
  refine DCall.of Try.func35 sf35 hb35 (Nat.le_of_ble_eq_true rfl) (okRes_nil fun _ => rfl) ?_; simp only [s35, idxs, Nat.reduceAdd]
  repeat' (first
    | (with_reducible first | refine DW.seq ?_ | refine DW.block ?_ | refine DW.skip ?_ | refine DW.exit ?_ | refine DW.ret ?_ | refine DW.reg ?_)
    | (simp (disch := omega) only [go_sem, simprocAttr, bm_box, bm_row, bk_box, bk_row, d4, d0])
    | (exact retS_of rfl rfl rfl)
    | (refine DW.cond_tt rfl ?_)
    | (refine DW.cond_ff rfl ?_)
    | (refine DW.cond rfl ?_ ?_ <;> intro hc <;> (try simp only [go_sem] at hc))
    | (refine g_split ?_ ?_ <;> intro hc <;> (try simp only [hc]) <;> (try simp only [go_sem] at hc)))
  refine DW.loop (ι := { i : Nat // i ≤ P.length ∧ papE l (P.drop i) = papE l P }) (fun i => ⟨67, [(25, dI i.1), (24, dI P.length), (23, .c (.sl b 4 (rows eP P))), (5, dI 0), (4, dI 0), (0, .c (.sl b 4 (rows eP P))), (1, .c (.sl false 3 (rows eO l)))], []⟩) (fun i => P.length - i.1) ⟨0, Nat.zero_le _, rfl⟩ ?_ ?_
  · refine Ent.to ?_ ?_ <;> simp (disch := omega) only [wkT_cons, wkX_cons, wkT_nil, wkX_nil, get, Nat.reduceEqDiff, ↓reduceIte, ex_some, wk_self, wk_top, wk_nil, wkB_self, and_self, dI, i64_in, and_true, true_and, Int.natCast_add, Int.natCast_one, Int.ofNat_zero, Int.natCast_zero]
    all_goals first | exact ⟨.refl _, .refl _⟩ | exact .refl _
  rintro ⟨i, hi, hpe⟩
  dsimp only
  rcases at_or P i hi with ⟨v, hv, hlt, hd⟩ | ⟨he, hd⟩
  · have h1 := trCheck v l hl
    have hdr : P.drop i = v :: P.drop (i + 1) := by rw [List.drop_eq_getElem_cons hlt, (List.getElem_eq_iff hlt).2 hv]
    have hpe2 : papE l (v :: P.drop (i + 1)) = papE l P := by rw [← hdr]; exact hpe
    have hpd : papE l (v :: P.drop (i + 1)) = if openE v l ≠ 0 then openE v l else papE l (P.drop (i + 1)) := rfl
    rw [hpd] at hpe2
    by_cases hz : openE v l = 0
    · rw [if_neg (by simpa using hz)] at hpe2
      rw [hz] at h1
      repeat' (first
    | (with_reducible first | refine DW.seq ?_ | refine DW.block ?_ | refine DW.skip ?_ | refine DW.exit ?_ | refine DW.ret ?_ | refine DW.reg ?_)
    | (simp (disch := omega) only [go_sem, simprocAttr, bm_box, bm_row, bk_box, bk_row, hd, hv, List.map_cons, List.map_nil])
    | (exact retS_of rfl rfl rfl)
    | (refine DW.cond_tt rfl ?_)
    | (refine call_c (h1) (by decide) ?_)
    | (refine DW.cond_ff rfl ?_)
    | (refine DW.cond rfl ?_ ?_ <;> intro hc <;> (try simp only [go_sem] at hc))
    | (refine g_split ?_ ?_ <;> intro hc <;> (try simp only [hc]) <;> (try simp only [go_sem] at hc)))
      refine ⟨⟨i + 1, hlt, hpe2⟩, ?_, Ent.to ?_ ?_⟩ <;> first | (show _ < _; (try simp only); omega) | (simp (disch := omega) only [wkT_cons, wkX_cons, wkT_nil, wkX_nil, get, Nat.reduceEqDiff, ↓reduceIte, ex_some, wk_self, wk_top, wk_nil, wkB_self, and_self, dI, i64_in, and_true, true_and, Int.natCast_add, Int.natCast_one, Int.ofNat_zero, Int.natCast_zero])
      all_goals first | exact ⟨.refl _, .refl _⟩ | exact .refl _
    · rw [if_pos hz] at hpe2
      rw [← hpe2, if_pos hz] at hB
      rw [← hB, if_pos hz] at hA
      subst hA
      rw [hB] at h1 hz
      have hde : (B != 0) = true := by simpa using hz
      repeat' (first
    | (with_reducible first | refine DW.seq ?_ | refine DW.block ?_ | refine DW.skip ?_ | refine DW.exit ?_ | refine DW.ret ?_ | refine DW.reg ?_)
    | (simp (disch := omega) only [go_sem, simprocAttr, bm_box, bm_row, bk_box, bk_row, hd, hv, hde, List.map_cons, List.map_nil])
    | (exact retS_of rfl rfl rfl)
    | (refine DW.cond_tt rfl ?_)
    | (refine call_c (h1) (by decide) ?_)
    | (refine DW.cond_ff rfl ?_)
    | (refine DW.cond rfl ?_ ?_ <;> intro hc <;> (try simp only [go_sem] at hc))
    | (refine g_split ?_ ?_ <;> intro hc <;> (try simp only [hc]) <;> (try simp only [go_sem] at hc)))
  have hpz : papE l P = 0 := by
    rw [List.drop_eq_nil_of_le (by omega)] at hpe
    rw [← hpe]; rfl
  rw [if_neg (by simpa using hpz)] at hB
  have hop := papE_zero hpz
  obtain ⟨q, hq⟩ : ∃ q, q ∈ P := by
    cases P with
    | nil => simp at h0
    | cons q _ => exact ⟨q, by simp⟩
  obtain ⟨_, hl4, ho⟩ := openE_ok (hop q hq)
  have hpo : ∀ p ∈ P, p.ok := fun p hp => (openE_ok (hop p hp)).1
  have hofl := offF_len l P 0
  repeat' (first
    | (with_reducible first | refine DW.seq ?_ | refine DW.block ?_ | refine DW.skip ?_ | refine DW.exit ?_ | refine DW.ret ?_ | refine DW.reg ?_)
    | (simp (disch := omega) only [go_sem, simprocAttr, bm_box, bm_row, bk_box, bk_row, hd])
    | (exact retS_of rfl rfl rfl)
    | (refine DW.cond_tt rfl ?_)
    | (refine DW.cond_ff rfl ?_)
    | (refine DW.cond rfl ?_ ?_ <;> intro hc <;> (try simp only [go_sem] at hc))
    | (refine g_split ?_ ?_ <;> intro hc <;> (try simp only [hc]) <;> (try simp only [go_sem] at hc)))
  refine DW.ent (Ent.adopt 9 59 3 rfl rfl rfl) ?_
  refine DW.loop (ι := { i : Nat // i ≤ P.length }) (fun i => ⟨67, [(38, dI i.1), (37, dI P.length), (36, .c (.sl b 4 (rows eP P))), (9, .own 59), (5, dI 0), (4, dI 0), (1, .c (.sl false 3 (rows eO l)))], [(59, .row 3 (rowC (rows eOf (offF l 0 (P.take i.1)))))]⟩) (fun i => P.length - i.1) ⟨0, Nat.zero_le _⟩ ?_ ?_
  · refine Ent.to ?_ ?_ <;> simp (disch := omega) only [wkT_cons, wkX_cons, wkT_nil, wkX_nil, get, Nat.reduceEqDiff, ↓reduceIte, ex_some, wk_self, wk_top, wk_nil, wkB_self, and_self, dI, i64_in, and_true, true_and, Int.natCast_add, Int.natCast_one, Int.ofNat_zero, Int.natCast_zero, ins, Nat.reduceLT, List.take_zero, offF]
    all_goals first | exact ⟨.refl _, .refl _⟩ | exact .refl _
  clear hpe hd
  rintro ⟨i, hi⟩
  dsimp only
  rcases at_or P i hi with ⟨v, hv, hlt, hd⟩ | ⟨he, hd⟩
  · have hvm := List.mem_of_getElem? hv
    have h1 := trPlanM v (hpo v hvm) l hl4 ho
    have htk : P.take (i + 1) = P.take i ++ [v] := by rw [List.take_add_one, hv]; rfl
    have hof : offF l 0 (P.take (i + 1)) = offF l 0 (P.take i) ++ offF l i [v] := by
      rw [htk, offF_app, List.length_take, Nat.min_eq_left (by omega), Nat.zero_add]
    have hol := offF_len l (P.take i) 0
    rw [List.length_take] at hol
    generalize offF l 0 (P.take i) = O at *
    cases hR : planF v l with
    | none =>
      rw [hR] at h1
      simp only [planD] at h1
      have hof2 : offF l 0 (P.take (i + 1)) = O := by rw [hof, offF, hR]; simp [offF]
      repeat' (first
    | (with_reducible first | refine DW.seq ?_ | refine DW.block ?_ | refine DW.skip ?_ | refine DW.exit ?_ | refine DW.ret ?_ | refine DW.reg ?_)
    | (simp (disch := omega) only [go_sem, simprocAttr, bm_box, bm_row, bk_box, bk_row, hd, hv, List.map_cons, List.map_nil])
    | (exact retS_of rfl rfl rfl)
    | (refine DW.cond_tt rfl ?_)
    | (refine call_c (h1) (by decide) ?_)
    | (refine DW.cond_ff rfl ?_)
    | (refine DW.cond rfl ?_ ?_ <;> intro hc <;> (try simp only [go_sem] at hc))
    | (refine g_split ?_ ?_ <;> intro hc <;> (try simp only [hc]) <;> (try simp only [go_sem] at hc)))
      refine ⟨⟨i + 1, hlt⟩, ?_, Ent.to ?_ ?_⟩ <;> first | (show _ < _; (try simp only); omega) | (simp (disch := omega) only [wkT_cons, wkX_cons, wkT_nil, wkX_nil, get, Nat.reduceEqDiff, ↓reduceIte, ex_some, wk_self, wk_top, wk_nil, wkB_self, and_self, dI, i64_in, and_true, true_and, Int.natCast_add, Int.natCast_one, Int.ofNat_zero, Int.natCast_zero,  hof2])
      all_goals first | exact ⟨.refl _, .refl _⟩ | exact .refl _
    | some x =>
      obtain ⟨Q, w⟩ := x
      rw [hR] at h1
      simp only [planD] at h1
      have hq := planF_ok (hpo v hvm) ho hR
      have hql := plan_len hq.1
      have hof2 : offF l 0 (P.take (i + 1)) = O ++ [⟨(i : Int), (Q.length : Int), w⟩] := by rw [hof, offF, hR]; simp [offF]
      have hsn : rowC (rows eOf O) ++ [[D.c (.v (.int .i64 i)), D.c (.v (.int .i64 Q.length)), D.c (.v (.int .i64 w))]] = rowC (rows eOf (O ++ [⟨(i : Int), (Q.length : Int), w⟩])) := by simp [rowC, rows, eOf]
      repeat' (first
    | (with_reducible first | refine DW.seq ?_ | refine DW.block ?_ | refine DW.skip ?_ | refine DW.exit ?_ | refine DW.ret ?_ | refine DW.reg ?_)
    | (simp (disch := omega) only [go_sem, simprocAttr, bm_box, bm_row, bk_box, bk_row, hd, hv, List.map_cons, List.map_nil])
    | (exact retS_of rfl rfl rfl)
    | (refine DW.cond_tt rfl ?_)
    | (refine call_c (h1) (by decide) ?_)
    | (refine DW.cond_ff rfl ?_)
    | (refine DW.cond rfl ?_ ?_ <;> intro hc <;> (try simp only [go_sem] at hc))
    | (refine g_split ?_ ?_ <;> intro hc <;> (try simp only [hc]) <;> (try simp only [go_sem] at hc)))
      refine ⟨⟨i + 1, hlt⟩, ?_, Ent.to ?_ ?_⟩ <;> first | (show _ < _; (try simp only); omega) | (simp (disch := omega) only [wkT_cons, wkX_cons, wkT_nil, wkX_nil, get, Nat.reduceEqDiff, ↓reduceIte, ex_some, wk_self, wk_top, wk_nil, wkB_self, and_self, dI, i64_in, and_true, true_and, Int.natCast_add, Int.natCast_one, Int.ofNat_zero, Int.natCast_zero,  hof2, hsn])
      all_goals first | exact ⟨.refl _, .refl _⟩ | exact .refl _
  · have hti : P.take i = P := by rw [he, List.take_length]
    rw [hti]
    have hall := offF_ok ho (P := P) (i := 0) hpo (by omega)
    cases hO : offF l 0 P with
    | nil =>
      rw [hO] at hB
      rw [if_pos (show ([] : List TOff).isEmpty = true from rfl)] at hB
      rw [← hB, if_pos (by decide)] at hA
      subst hA hB
      repeat' (first
    | (with_reducible first | refine DW.seq ?_ | refine DW.block ?_ | refine DW.skip ?_ | refine DW.exit ?_ | refine DW.ret ?_ | refine DW.reg ?_)
    | (simp (disch := omega) only [go_sem, simprocAttr, bm_box, bm_row, bk_box, bk_row, hd])
    | (exact retS_of rfl rfl rfl)
    | (refine DW.cond_tt rfl ?_)
    | (refine DW.cond_ff rfl ?_)
    | (refine DW.cond rfl ?_ ?_ <;> intro hc <;> (try simp only [go_sem] at hc))
    | (refine g_split ?_ ?_ <;> intro hc <;> (try simp only [hc]) <;> (try simp only [go_sem] at hc)))
    | cons x t =>
      rw [hO] at hB hA hall hofl
      rw [if_neg (by simp)] at hB
      rw [← hB, if_neg (by decide)] at hA
      dsimp only at hA
      have h1 := trMinO true x t (by simp only [List.length_cons] at hofl; omega) 71 (fun u hu v hv => trChoose1 u v (hall u hu) (hall v hv))
      subst hA hB
      generalize minBy cmpO x t = m at *
      have dl : (((x :: t).length : Int) == 0) = false := by rw [beq_eq_false_iff_ne]; simp only [List.length_cons]; omega
      generalize x :: t = X at *
      repeat' (first
    | (with_reducible first | refine DW.seq ?_ | refine DW.block ?_ | refine DW.skip ?_ | refine DW.exit ?_ | refine DW.ret ?_ | refine DW.reg ?_)
    | (simp (disch := omega) only [go_sem, simprocAttr, bm_box, bm_row, bk_box, bk_row, hd, dl, List.map_cons, List.map_nil])
    | (exact retS_of rfl rfl rfl)
    | (refine DW.cond_tt rfl ?_)
    | (refine call_c (h1) (by decide) ?_)
    | (refine DW.cond_ff rfl ?_)
    | (refine DW.cond rfl ?_ ?_ <;> intro hc <;> (try simp only [go_sem] at hc))
    | (refine g_split ?_ ?_ <;> intro hc <;> (try simp only [hc]) <;> (try simp only [go_sem] at hc)))
end Go.Dw.Seat
end
section
set_option linter.unusedSimpArgs false
set_option maxRecDepth 100000
namespace Go.Dw.Seat
open Go Go.Dw Go.Proofs Go.IntWalk
def numsT (s i : Nat) : List Int := ((List.range i).filter (fun j => s.testBit j)).map fun (j : Nat) => (j : Int)
def numsI (s : Nat) : List Int := numsT s 4
theorem shr16' : ∀ s : Fin 16, ∀ i : Fin 5, shrI IntKind.i64 (s.1 : Int) i.1 = ((s.1 / 2 ^ i.1 : Nat) : Int) := by decide +kernel
theorem and16' : ∀ v : Fin 16, andI IntKind.i64 (v.1 : Int) 1 = ((v.1 % 2 : Nat) : Int) := by decide +kernel
theorem nums_end' : ∀ s : Fin 16, ∀ i : Fin 5, s.1 / 2 ^ i.1 = 0 → numsT s.1 i.1 = numsI s.1 := by decide +kernel
theorem nums_lt' : ∀ s : Fin 16, s.1 / 2 ^ 4 = 0 := by decide +kernel
theorem nums_1' : ∀ s : Fin 16, ∀ i : Fin 4, s.1 / 2 ^ i.1 % 2 = 1 → numsT s.1 (i.1 + 1) = numsT s.1 i.1 ++ [(i.1 : Int)] := by decide +kernel
theorem nums_0' : ∀ s : Fin 16, ∀ i : Fin 4, s.1 / 2 ^ i.1 % 2 = 0 → numsT s.1 (i.1 + 1) = numsT s.1 i.1 := by decide +kernel
theorem nums_len' : ∀ s : Fin 16, ∀ i : Fin 5, (numsT s.1 i.1).length ≤ 4 := by decide +kernel
set_option maxHeartbeats 1000000 in
theorem trNumbers (s : Nat) (hs : s < 16) : DCall Try.prog 74 [dI s] [] (dIs false (numsI s)) [] := by
  refine DCall.of Try.func74 sf74 hb74 (Nat.le_of_ble_eq_true rfl) (okRes_nil fun _ => rfl) ?_; simp only [s74, idxs, Nat.reduceAdd]
  repeat' (first
    | (with_reducible first | refine DW.seq ?_ | refine DW.block ?_ | refine DW.skip ?_ | refine DW.exit ?_ | refine DW.ret ?_ | refine DW.reg ?_)
    | (simp (disch := omega) only [go_sem, simprocAttr, Blk.men, Blk.keysIn])
    | (exact retS_of rfl rfl rfl)
    | (refine DW.cond_tt rfl ?_)
    | (refine DW.cond_ff rfl ?_)
    | (refine DW.cond rfl ?_ ?_ <;> intro hc <;> (try simp only [go_sem] at hc))
    | (refine g_split ?_ ?_ <;> intro hc <;> (try simp only [hc]) <;> (try simp only [go_sem] at hc)))
  refine DW.ent (Ent.adopt 2 18 1 rfl rfl rfl) ?_
  refine DW.loop (ι := { i : Nat // i ≤ 4 }) (fun i => ⟨20, [(3, dI i.1), (2, .own 18), (0, dI s)], [(18, .row 1 (rowC (rows eI (numsT s i.1))))]⟩) (fun i => 4 - i.1) ⟨0, Nat.zero_le _⟩ ?_ ?_
  · refine Ent.to ?_ ?_ <;> simp (disch := omega) only [wkT_cons, wkX_cons, wkT_nil, wkX_nil, get, Nat.reduceEqDiff, ↓reduceIte, ex_some, wk_self, wk_top, wk_nil, wkB_self, and_self, dI, i64_in, and_true, true_and, Int.natCast_add, Int.natCast_one, Int.ofNat_zero, Int.natCast_zero, ins, Nat.reduceLT]
    all_goals first | exact ⟨.refl _, .refl _⟩ | exact .refl _
  rintro ⟨i, hi⟩
  dsimp only
  have hsh := shr16' ⟨s, hs⟩ ⟨i, by omega⟩
  have hen := nums_end' ⟨s, hs⟩ ⟨i, by omega⟩
  have hll := nums_len' ⟨s, hs⟩ ⟨i, by omega⟩
  have hle : s / 2 ^ i ≤ s := Nat.div_le_self _ _
  dsimp only at hsh hen hll
  by_cases h0 : s / 2 ^ i = 0
  · have hd : decide ((0 : Int) < ((s / 2 ^ i : Nat) : Int)) = false := decide_eq_false (by omega)
    have hnn := hen h0
    repeat' (first
    | (with_reducible first | refine DW.seq ?_ | refine DW.block ?_ | refine DW.skip ?_ | refine DW.exit ?_ | refine DW.ret ?_ | refine DW.reg ?_)
    | (simp (disch := omega) only [go_sem, simprocAttr, Blk.men, Blk.keysIn, hsh, hd])
    | (exact retS_of rfl rfl rfl)
    | (refine DW.cond_tt rfl ?_)
    | (refine DW.cond_ff rfl ?_)
    | (refine DW.cond rfl ?_ ?_ <;> intro hc <;> (try simp only [go_sem] at hc))
    | (refine g_split ?_ ?_ <;> intro hc <;> (try simp only [hc]) <;> (try simp only [go_sem] at hc)))
    (refine retS_ent (Ent.rel 18 rfl) ?_; simp (disch := omega) only [go_sem, simprocAttr, Blk.men, Blk.keysIn])
    rw [hnn]
    refine retS_wk rfl ?_ (by simp only [Blk.nb, rowC_nb, D.nb, D.nbs, C.nb, C.nbs, C.nbss, rows_nb eI_nb, Bool.and_true, Bool.not_false, Bool.and_self, bD, dI, iD]); exact .refl _
  · have hi4 : i < 4 := by
      rcases Nat.lt_or_ge i 4 with h | h
      · exact h
      · have : i = 4 := by omega
        subst this
        exact absurd (nums_lt' ⟨s, hs⟩) h0
    have hd : decide ((0 : Int) < ((s / 2 ^ i : Nat) : Int)) = true := decide_eq_true (Int.natCast_pos.mpr (Nat.pos_of_ne_zero h0))
    have han := and16' ⟨s / 2 ^ i, Nat.lt_of_le_of_lt hle hs⟩
    have q1 := nums_1' ⟨s, hs⟩ ⟨i, hi4⟩
    have q0 := nums_0' ⟨s, hs⟩ ⟨i, hi4⟩
    dsimp only at han q1 q0
    generalize s / 2 ^ i = u at *
    by_cases h1 : u % 2 = 1
    · have hd2 : (((u % 2 : Nat) : Int) == 1) = true := by rw [h1]; rfl
      have q := q1 h1
      generalize u % 2 = m at *
      repeat' (first
    | (with_reducible first | refine DW.seq ?_ | refine DW.block ?_ | refine DW.skip ?_ | refine DW.exit ?_ | refine DW.ret ?_ | refine DW.reg ?_)
    | (simp (disch := omega) only [go_sem, simprocAttr, Blk.men, Blk.keysIn, hsh, hd, han, hd2])
    | (exact retS_of rfl rfl rfl)
    | (refine DW.cond_tt rfl ?_)
    | (refine DW.cond_ff rfl ?_)
    | (refine DW.cond rfl ?_ ?_ <;> intro hc <;> (try simp only [go_sem] at hc))
    | (refine g_split ?_ ?_ <;> intro hc <;> (try simp only [hc]) <;> (try simp only [go_sem] at hc)))
      refine ⟨⟨i + 1, by omega⟩, ?_, Ent.to ?_ ?_⟩ <;> first | (show _ < _; (try simp only); omega) | (simp (disch := omega) only [wkT_cons, wkX_cons, wkT_nil, wkX_nil, get, Nat.reduceEqDiff, ↓reduceIte, ex_some, wk_self, wk_top, wk_nil, wkB_self, and_self, dI, i64_in, and_true, true_and, Int.natCast_add, Int.natCast_one, Int.ofNat_zero, Int.natCast_zero,  q])
      all_goals first | exact ⟨.refl _, .refl _⟩ | exact .refl _
    · have h2 : u % 2 = 0 := by omega
      have hd2 : (((u % 2 : Nat) : Int) == 1) = false := by rw [h2]; rfl
      have q := q0 h2
      generalize u % 2 = m at *
      repeat' (first
    | (with_reducible first | refine DW.seq ?_ | refine DW.block ?_ | refine DW.skip ?_ | refine DW.exit ?_ | refine DW.ret ?_ | refine DW.reg ?_)
    | (simp (disch := omega) only [go_sem, simprocAttr, Blk.men, Blk.keysIn, hsh, hd, han, hd2])
    | (exact retS_of rfl rfl rfl)
    | (refine DW.cond_tt rfl ?_)
    | (refine DW.cond_ff rfl ?_)
    | (refine DW.cond rfl ?_ ?_ <;> intro hc <;> (try simp only [go_sem] at hc))
    | (refine g_split ?_ ?_ <;> intro hc <;> (try simp only [hc]) <;> (try simp only [go_sem] at hc)))
      refine ⟨⟨i + 1, by omega⟩, ?_, Ent.to ?_ ?_⟩ <;> first | (show _ < _; (try simp only); omega) | (simp (disch := omega) only [wkT_cons, wkX_cons, wkT_nil, wkX_nil, get, Nat.reduceEqDiff, ↓reduceIte, ex_some, wk_self, wk_top, wk_nil, wkB_self, and_self, dI, i64_in, and_true, true_and, Int.natCast_add, Int.natCast_one, Int.ofNat_zero, Int.natCast_zero,  q])
      all_goals first | exact ⟨.refl _, .refl _⟩ | exact .refl _
end Go.Dw.Seat
end
section
set_option linter.unusedSimpArgs false
set_option maxRecDepth 100000
namespace Go.Dw.Seat
open Go Go.Dw Go.Proofs Go.IntWalk
def selF (s : Nat) : Nat → List TOrd → List TOrd
  | _, [] => []
  | i, o :: l => if s / 2 ^ i % 2 = 1 then o :: selF s (i + 1) l else selF s (i + 1) l
theorem selF_app (s : Nat) : ∀ (a b : List TOrd) (i : Nat), selF s i (a ++ b) = selF s i a ++ selF s (i + a.length) b
  | [], b, i => by simp [selF]
  | o :: a, b, i => by
    have ih := selF_app s a b (i + 1)
    rw [List.cons_append, selF, selF, ih, List.length_cons, show i + 1 + a.length = i + (a.length + 1) by omega]
    split <;> rfl
theorem selF_mem {s : Nat} : ∀ {l : List TOrd} {i : Nat}, ∀ o ∈ selF s i l, o ∈ l
  | [], _, o, h => by cases h
  | a :: l, i, o, h => by
    rw [selF] at h
    split at h
    · rcases List.mem_cons.1 h with rfl | h
      · simp
      · exact List.mem_cons_of_mem _ (selF_mem o h)
    · exact List.mem_cons_of_mem _ (selF_mem o h)
theorem selF_len {s : Nat} : ∀ {l : List TOrd} {i : Nat}, (selF s i l).length ≤ l.length
  | [], _ => by simp [selF]
  | a :: l, i => by
    have := selF_len (s := s) (l := l) (i := i + 1)
    rw [selF]
    split
    · simp only [List.length_cons]; omega
    · simp only [List.length_cons]; omega
theorem bit16 : ∀ n : Fin 5, ∀ i : Fin 4, i.1 < n.1 → (2 ^ n.1 - 1) / 2 ^ i.1 % 2 = 1 := by decide
theorem selF_all : ∀ (l : List TOrd) (i n : Nat), i + l.length ≤ n → n ≤ 4 → selF (2 ^ n - 1) i l = l
  | [], _, _, _, _ => rfl
  | o :: l, i, n, h, h4 => by
    simp only [List.length_cons] at h
    have := bit16 ⟨n, by omega⟩ ⟨i, by omega⟩ (by dsimp only; omega)
    rw [selF, if_pos this, selF_all l (i + 1) n (by omega) h4]
theorem rowC_snocO (q : List TOrd) (o : TOrd) : rowC (rows eO q) ++ [[D.c (.v (.int .i64 o.w)), D.c (.v (.int .i64 o.lo)), D.c (.v (.int .i64 o.hi))]] = rowC (rows eO (q ++ [o])) := by simp [rowC, rows, eO]
set_option maxHeartbeats 2000000 in
theorem trAmong (p : TPap) (l : List TOrd) (hl : l.length ≤ 4) (s : Nat) (hs : s < 16) : DCall Try.prog 73 [macD false p l, dI s] [] (macD false p (selF s 0 l)) [] := by
  generalize hR : selF s 0 l = R
  refine DCall.of Try.func73 sf73 hb73 (Nat.le_of_ble_eq_true rfl) (okRes_nil fun _ => rfl) ?_; simp only [s73, idxs, Nat.reduceAdd]
  repeat' (first
    | (with_reducible first | refine DW.seq ?_ | refine DW.block ?_ | refine DW.skip ?_ | refine DW.exit ?_ | refine DW.ret ?_ | refine DW.reg ?_)
    | (simp (disch := omega) only [go_sem, simprocAttr, bm_box, bm_row, bk_box, bk_row])
    | (exact retS_of rfl rfl rfl)
    | (refine DW.cond_tt rfl ?_)
    | (refine DW.cond_ff rfl ?_)
    | (refine DW.cond rfl ?_ ?_ <;> intro hc <;> (try simp only [go_sem] at hc))
    | (refine g_split ?_ ?_ <;> intro hc <;> (try simp only [hc]) <;> (try simp only [go_sem] at hc)))
  (refine DW.ent (Ent.adoptB 5 4 28 3 rfl rfl rfl rfl) ?_; simp only [ins, Nat.reduceLT, Nat.reduceEqDiff, ↓reduceIte, List.set_cons_zero, List.set_cons_succ])
  refine DW.loop (ι := { i : Nat // i ≤ l.length }) (fun i => ⟨32, [(14, dI i.1), (13, dI l.length), (12, .c (.sl false 3 (rows eO l))), (5, .box 5 0), (4, .box 4 0), (1, dI s)], [(28, .row 3 (rowC (rows eO (selF s 0 (l.take i.1))))), (5, .box [dI p.wide, dI p.tl, dI p.th, dI p.webs, .own 28]), (4, .box [dI 0, dI 0, dI 0, dI 0, .c (.v (.slice none 0 0))])]⟩) (fun i => l.length - i.1) ⟨0, Nat.zero_le _⟩ ?_ ?_
  · refine Ent.to ?_ ?_ <;> simp (disch := omega) only [wkT_cons, wkX_cons, wkT_nil, wkX_nil, get, Nat.reduceEqDiff, ↓reduceIte, ex_some, wk_self, wk_top, wk_nil, wkB_self, and_self, dI, i64_in, and_true, true_and, Int.natCast_add, Int.natCast_one, Int.ofNat_zero, Int.natCast_zero, List.take_zero, selF]
    all_goals first | exact ⟨.refl _, .refl _, .refl _⟩ | exact ⟨.refl _, .refl _⟩ | exact .refl _ | skip
  rintro ⟨i, hi⟩
  dsimp only
  rcases at_or l i hi with ⟨o, ho, hlt, hd⟩ | ⟨he, hd⟩
  · have hsh := shr16' ⟨s, hs⟩ ⟨i, by omega⟩
    have hle : s / 2 ^ i ≤ s := Nat.div_le_self _ _
    dsimp only at hsh
    have han := and16' ⟨s / 2 ^ i, by omega⟩
    dsimp only at han
    have htk : l.take (i + 1) = l.take i ++ [o] := by rw [List.take_add_one, ho]; rfl
    have hsl : selF s 0 (l.take (i + 1)) = selF s 0 (l.take i) ++ selF s i [o] := by
      rw [htk, selF_app, List.length_take, Nat.min_eq_left (by omega), Nat.zero_add]
    have hol := selF_len (s := s) (l := l.take i) (i := 0)
    rw [List.length_take] at hol
    generalize selF s 0 (l.take i) = S at *
    by_cases hb : s / 2 ^ i % 2 = 1
    · have hd2 : (((s / 2 ^ i % 2 : Nat) : Int) == 1) = true := by rw [hb]; rfl
      have hsl2 : selF s 0 (l.take (i + 1)) = S ++ [o] := by rw [hsl, selF, if_pos hb]; rfl
      repeat' (first
    | (with_reducible first | refine DW.seq ?_ | refine DW.block ?_ | refine DW.skip ?_ | refine DW.exit ?_ | refine DW.ret ?_ | refine DW.reg ?_)
    | (simp (disch := omega) only [go_sem, simprocAttr, bm_box, bm_row, bk_box, bk_row, hd, ho, hsh, han, hd2, List.map_cons, List.map_nil])
    | (exact retS_of rfl rfl rfl)
    | (refine DW.cond_tt rfl ?_)
    | (refine DW.cond_ff rfl ?_)
    | (refine DW.cond rfl ?_ ?_ <;> intro hc <;> (try simp only [go_sem] at hc))
    | (refine g_split ?_ ?_ <;> intro hc <;> (try simp only [hc]) <;> (try simp only [go_sem] at hc)))
      refine ⟨⟨i + 1, hlt⟩, ?_, Ent.to ?_ ?_⟩ <;> first | (show _ < _; (try simp only); omega) | (simp (disch := omega) only [wkT_cons, wkX_cons, wkT_nil, wkX_nil, get, Nat.reduceEqDiff, ↓reduceIte, ex_some, wk_self, wk_top, wk_nil, wkB_self, and_self, dI, i64_in, and_true, true_and, Int.natCast_add, Int.natCast_one, Int.ofNat_zero, Int.natCast_zero,  hsl2, rowC_snocO])
      all_goals first | exact ⟨.refl _, .refl _, .refl _⟩ | exact ⟨.refl _, .refl _⟩ | exact .refl _
    · have hd2 : (((s / 2 ^ i % 2 : Nat) : Int) == 1) = false := by rw [beq_eq_false_iff_ne]; omega
      have hsl2 : selF s 0 (l.take (i + 1)) = S := by rw [hsl, selF, if_neg hb]; simp [selF]
      repeat' (first
    | (with_reducible first | refine DW.seq ?_ | refine DW.block ?_ | refine DW.skip ?_ | refine DW.exit ?_ | refine DW.ret ?_ | refine DW.reg ?_)
    | (simp (disch := omega) only [go_sem, simprocAttr, bm_box, bm_row, bk_box, bk_row, hd, ho, hsh, han, hd2, List.map_cons, List.map_nil])
    | (exact retS_of rfl rfl rfl)
    | (refine DW.cond_tt rfl ?_)
    | (refine DW.cond_ff rfl ?_)
    | (refine DW.cond rfl ?_ ?_ <;> intro hc <;> (try simp only [go_sem] at hc))
    | (refine g_split ?_ ?_ <;> intro hc <;> (try simp only [hc]) <;> (try simp only [go_sem] at hc)))
      refine ⟨⟨i + 1, hlt⟩, ?_, Ent.to ?_ ?_⟩ <;> first | (show _ < _; (try simp only); omega) | (simp (disch := omega) only [wkT_cons, wkX_cons, wkT_nil, wkX_nil, get, Nat.reduceEqDiff, ↓reduceIte, ex_some, wk_self, wk_top, wk_nil, wkB_self, and_self, dI, i64_in, and_true, true_and, Int.natCast_add, Int.natCast_one, Int.ofNat_zero, Int.natCast_zero,  hsl2])
      all_goals first | exact ⟨.refl _, .refl _, .refl _⟩ | exact ⟨.refl _, .refl _⟩ | exact .refl _
  · have hti : l.take i = l := by rw [he, List.take_length]
    rw [hti, hR]
    repeat' (first
    | (with_reducible first | refine DW.seq ?_ | refine DW.block ?_ | refine DW.skip ?_ | refine DW.exit ?_ | refine DW.ret ?_ | refine DW.reg ?_)
    | (simp (disch := omega) only [go_sem, simprocAttr, bm_box, bm_row, bk_box, bk_row, hd])
    | (exact retS_of rfl rfl rfl)
    | (refine DW.cond_tt rfl ?_)
    | (refine DW.cond_ff rfl ?_)
    | (refine DW.cond rfl ?_ ?_ <;> intro hc <;> (try simp only [go_sem] at hc))
    | (refine g_split ?_ ?_ <;> intro hc <;> (try simp only [hc]) <;> (try simp only [go_sem] at hc)))
    (refine retS_ent (Ent.rel 28 rfl) ?_; simp (disch := omega) only [go_sem, simprocAttr, bm_box, bm_row, bk_box, bk_row])
    refine retS_wk rfl ?_ (by simp only [Blk.nb, rowC_nb, D.nb, D.nbs, C.nb, C.nbs, C.nbss, rows_nb eI_nb, Bool.and_true, Bool.not_false, Bool.and_self, bD, dI, iD, rows_nb eO_nb, rows_nb eSt_nb, rows_nb eWs_nb, rows_nb eOf_nb]); exact .refl _
end Go.Dw.Seat
end
section
set_option linter.unusedSimpArgs false
set_option maxRecDepth 100000
namespace Go.Dw.Seat
open Go Go.Dw Go.Proofs Go.IntWalk
def cmpL2 (a b : List Int) : Int := orL [(a.length : Int) - b.length, cmpL a b]
theorem trAgainst1 (b1 b2 : Bool) (s t : List Int) (hs : s.length ≤ 2 ^ 36) (ht : t.length ≤ 2 ^ 36) : DCall Try.prog 76 [dIs b1 s, dIs b2 t] [] (dI (cmpL2 s t)) [] := by
  have h1 := crCmpL b1 b2 s t hs ht
  have h2 := crOrL true [(s.length : Int) - t.length, cmpL s t] (by simp)
  unfold cmpL2
  generalize cmpL s t = c at *
  generalize orL [(s.length : Int) - t.length, c] = r at *
  refine DCall.of Try.func76 sf76 hb76 (Nat.le_of_ble_eq_true rfl) (okRes_nil fun _ => rfl) ?_; simp only [s76, idxs, Nat.reduceAdd]
  repeat' (first
    | (with_reducible first | refine DW.seq ?_ | refine DW.block ?_ | refine DW.skip ?_ | refine DW.exit ?_ | refine DW.ret ?_ | refine DW.reg ?_)
    | (simp (disch := omega) only [go_sem, simprocAttr, bm_box, bm_row, bk_box, bk_row, List.map_cons, List.map_nil])
    | (exact retS_of rfl rfl rfl)
    | (refine DW.cond_tt rfl ?_)
    | (refine call_c (h1) (by decide) ?_)
    | (refine call_c (h2) (by decide) ?_)
    | (refine DW.cond_ff rfl ?_)
    | (refine DW.cond rfl ?_ ?_ <;> intro hc <;> (try simp only [go_sem] at hc))
    | (refine g_split ?_ ?_ <;> intro hc <;> (try simp only [hc]) <;> (try simp only [go_sem] at hc)))
set_option maxHeartbeats 1000000 in
theorem trMinL (b : Bool) (x : List Int) (l : List (List Int)) (hl : l.length ≤ 2 ^ 30) (g : FuncId) (hg : ∀ u ∈ x :: l, ∀ v ∈ x :: l, DCall Try.prog g [dIs false u, dIs false v] [] (dI (cmpL2 u v)) []) : DCall Try.prog 75 [.c (.sl b 1 (rows eWs (x :: l))), .c (.fn (.func g) [] [])] [] (dIs false (minBy cmpL2 x l)) [] := by
  obtain ⟨L, hL⟩ : ∃ L, L = x :: l := ⟨_, rfl⟩
  have hx : L[0]? = some x := by rw [hL]; rfl
  have hxm : x ∈ L := by rw [hL]; simp
  have hLl : L.length = l.length + 1 := by rw [hL]; rfl
  have h1d : L.drop 1 = l := by rw [hL]; rfl
  rw [← hL] at hg ⊢
  have hd1 : decide ((L.length : Int) < 1) = false := decide_eq_false (by omega)
  have hd0 : decide ((0 : Int) < (L.length : Int)) = true := decide_eq_true (by omega)
  generalize hR : minBy cmpL2 x l = R
  refine DCall.of Try.func75 sf75 hb75 (Nat.le_of_ble_eq_true rfl) (okRes_nil fun _ => rfl) ?_; simp only [s75, idxs, Nat.reduceAdd]
  repeat' (first
    | (with_reducible first | refine DW.seq ?_ | refine DW.block ?_ | refine DW.skip ?_ | refine DW.exit ?_ | refine DW.ret ?_ | refine DW.reg ?_)
    | (simp (disch := omega) only [go_sem, simprocAttr, bm_box, bm_row, bk_box, bk_row, hd1, hd0, hx, List.map_cons, List.map_nil])
    | (exact retS_of rfl rfl rfl)
    | (refine DW.cond_tt rfl ?_)
    | (refine DW.cond_ff rfl ?_)
    | (refine DW.cond rfl ?_ ?_ <;> intro hc <;> (try simp only [go_sem] at hc))
    | (refine g_split ?_ ?_ <;> intro hc <;> (try simp only [hc]) <;> (try simp only [go_sem] at hc)))
  refine DW.loop (ι := { y : Nat × List Int // y.1 ≤ L.length ∧ y.2 ∈ L ∧ minBy cmpL2 y.2 (L.drop y.1) = R }) (fun y => ⟨33, [(6, dI y.1.1), (5, dIs false y.1.2), (4, .c (.v (.slice none 0 0))), (0, .c (.sl b 1 (rows eWs L))), (1, .c (.fn (.func g) [] []))], []⟩) (fun y => L.length - y.1.1) ⟨(1, x), by dsimp only; omega, hxm, by rw [h1d]; exact hR⟩ ?_ ?_
  · refine Ent.to ?_ ?_ <;> simp (disch := omega) only [wkT_cons, wkX_cons, wkT_nil, wkX_nil, get, Nat.reduceEqDiff, ↓reduceIte, ex_some, wk_self, wk_top, wk_nil, wkB_self, and_self, dI, i64_in, and_true, true_and, Int.natCast_add, Int.natCast_one, Int.ofNat_zero, Int.natCast_zero]
    all_goals first | exact ⟨.refl _, .refl _⟩ | exact .refl _
  rintro ⟨⟨i, m⟩, hi, hm, hr⟩
  dsimp only at hi hm hr ⊢
  rcases at_or L i hi with ⟨v, hv, hlt, hd⟩ | ⟨he, hd⟩
  · have hdr : L.drop i = v :: L.drop (i + 1) := by rw [List.drop_eq_getElem_cons hlt, (List.getElem_eq_iff hlt).2 hv]
    have hvm := List.mem_of_getElem? hv
    have hcall := hg v hvm m hm
    rw [hdr, minBy] at hr
    generalize cmpL2 v m = c at *
    by_cases hc : c < 0
    · have hdc : decide (c < 0) = true := decide_eq_true hc
      rw [if_pos hc] at hr
      repeat' (first
    | (with_reducible first | refine DW.seq ?_ | refine DW.block ?_ | refine DW.skip ?_ | refine DW.exit ?_ | refine DW.ret ?_ | refine DW.reg ?_)
    | (simp (disch := omega) only [go_sem, simprocAttr, bm_box, bm_row, bk_box, bk_row, hd, hv, hdc, closeDs_fn, List.map_cons, List.map_nil])
    | (exact retS_of rfl rfl rfl)
    | (refine DW.cond_tt rfl ?_)
    | (refine call_c (hcall) (by decide) ?_)
    | (refine DW.cond_ff rfl ?_)
    | (refine DW.cond rfl ?_ ?_ <;> intro hc <;> (try simp only [go_sem] at hc))
    | (refine g_split ?_ ?_ <;> intro hc <;> (try simp only [hc]) <;> (try simp only [go_sem] at hc)))
      refine ⟨⟨(i + 1, v), hlt, hvm, hr⟩, ?_, Ent.to ?_ ?_⟩ <;> first | (show _ < _; (try simp only); omega) | (simp (disch := omega) only [wkT_cons, wkX_cons, wkT_nil, wkX_nil, get, Nat.reduceEqDiff, ↓reduceIte, ex_some, wk_self, wk_top, wk_nil, wkB_self, and_self, dI, i64_in, and_true, true_and, Int.natCast_add, Int.natCast_one, Int.ofNat_zero, Int.natCast_zero])
      all_goals first | exact ⟨.refl _, .refl _⟩ | exact .refl _
    · have hdc : decide (c < 0) = false := decide_eq_false hc
      rw [if_neg hc] at hr
      repeat' (first
    | (with_reducible first | refine DW.seq ?_ | refine DW.block ?_ | refine DW.skip ?_ | refine DW.exit ?_ | refine DW.ret ?_ | refine DW.reg ?_)
    | (simp (disch := omega) only [go_sem, simprocAttr, bm_box, bm_row, bk_box, bk_row, hd, hv, hdc, closeDs_fn, List.map_cons, List.map_nil])
    | (exact retS_of rfl rfl rfl)
    | (refine DW.cond_tt rfl ?_)
    | (refine call_c (hcall) (by decide) ?_)
    | (refine DW.cond_ff rfl ?_)
    | (refine DW.cond rfl ?_ ?_ <;> intro hc <;> (try simp only [go_sem] at hc))
    | (refine g_split ?_ ?_ <;> intro hc <;> (try simp only [hc]) <;> (try simp only [go_sem] at hc)))
      refine ⟨⟨(i + 1, m), hlt, hm, hr⟩, ?_, Ent.to ?_ ?_⟩ <;> first | (show _ < _; (try simp only); omega) | (simp (disch := omega) only [wkT_cons, wkX_cons, wkT_nil, wkX_nil, get, Nat.reduceEqDiff, ↓reduceIte, ex_some, wk_self, wk_top, wk_nil, wkB_self, and_self, dI, i64_in, and_true, true_and, Int.natCast_add, Int.natCast_one, Int.ofNat_zero, Int.natCast_zero])
      all_goals first | exact ⟨.refl _, .refl _⟩ | exact .refl _
  · rw [List.drop_eq_nil_of_le (by omega), minBy] at hr
    subst hr
    repeat' (first
    | (with_reducible first | refine DW.seq ?_ | refine DW.block ?_ | refine DW.skip ?_ | refine DW.exit ?_ | refine DW.ret ?_ | refine DW.reg ?_)
    | (simp (disch := omega) only [go_sem, simprocAttr, bm_box, bm_row, bk_box, bk_row, hd])
    | (exact retS_of rfl rfl rfl)
    | (refine DW.cond_tt rfl ?_)
    | (refine DW.cond_ff rfl ?_)
    | (refine DW.cond rfl ?_ ?_ <;> intro hc <;> (try simp only [go_sem] at hc))
    | (refine g_split ?_ ?_ <;> intro hc <;> (try simp only [hc]) <;> (try simp only [go_sem] at hc)))
    refine retS_wk rfl ?_ (by simp only [Blk.nb, rowC_nb, D.nb, D.nbs, C.nb, C.nbs, C.nbss, rows_nb eI_nb, Bool.and_true, Bool.not_false, Bool.and_self, bD, dI, iD, rows_nb eO_nb, rows_nb eSt_nb, rows_nb eWs_nb, rows_nb eOf_nb]); exact .refl _
def badsF (p : TPap) (l : List TOrd) (n : Nat) : List (List Int) := ((List.range n).filter fun s => (planF p (selF s 0 l)).isNone).map numsI
def agE (p : TPap) (l : List TOrd) : Int := if openE p l ≠ 0 then openE p l else if (planF p l).isSome then 7 else 0
def agD (p : TPap) (l : List TOrd) : D := if agE p l ≠ 0 then .c (.v (.slice none 0 0)) else match badsF p l (2 ^ l.length) with
  | [] => .c (.v (.slice none 0 0))
  | x :: t => dIs false (minBy cmpL2 x t)
theorem badsF_succ (p : TPap) (l : List TOrd) (n : Nat) : badsF p l (n + 1) = badsF p l n ++ (if (planF p (selF n 0 l)).isNone then [numsI n] else []) := by
  rw [badsF, List.range_succ, List.filter_append, List.map_append, badsF]
  congr 1
  rw [List.filter_cons]
  split <;> simp
theorem badsF_len (p : TPap) (l : List TOrd) (n : Nat) : (badsF p l n).length ≤ n := by
  rw [badsF, List.length_map]
  exact Nat.le_trans (List.length_filter_le _ _) (by simp)
theorem badsF_ne {p : TPap} {l : List TOrd} (hl : l.length ≤ 4) (h : planF p l = none) : badsF p l (2 ^ l.length) ≠ [] := by
  intro he
  rw [badsF, List.map_eq_nil_iff, List.filter_eq_nil_iff] at he
  have h1 := Nat.one_le_two_pow (n := l.length)
  have := he (2 ^ l.length - 1) (by simp; omega)
  rw [selF_all l 0 l.length (by omega) hl, h] at this
  simp at this
theorem numsI_len (s : Nat) : (numsI s).length ≤ 4 := by
  rw [numsI, numsT, List.length_map]
  exact Nat.le_trans (List.length_filter_le _ _) (by simp)
theorem badsF_mem {p : TPap} {l : List TOrd} {n : Nat} {u : List Int} (h : u ∈ badsF p l n) : u.length ≤ 4 := by
  rw [badsF, List.mem_map] at h
  obtain ⟨s, _, rfl⟩ := h
  exact numsI_len s
set_option maxHeartbeats 4000000 in
theorem trAgainst (p : TPap) (l : List TOrd) (hl : l.length ≤ 2 ^ 36) : DCall Try.prog 36 [papD p, .c (.sl false 3 (rows eO l))] [] (.tup [agD p l, dI (agE p l)]) [] := by
  by_cases h : openE p l = 0
  case neg =>
    have h1 := trOpenE false p l hl h
    have hE : agE p l = openE p l := if_pos h
    rw [agD, hE, if_pos h]
    generalize openE p l = e at *
    have hd : (e != 0) = true := by simpa using h
    refine DCall.of Try.func36 sf36 hb36 (Nat.le_of_ble_eq_true rfl) (okRes_nil fun _ => rfl) ?_; simp only [s36, idxs, Nat.reduceAdd]
    repeat' (first
    | (with_reducible first | refine DW.seq ?_ | refine DW.block ?_ | refine DW.skip ?_ | refine DW.exit ?_ | refine DW.ret ?_ | refine DW.reg ?_)
    | (simp (disch := omega) only [go_sem, simprocAttr, bm_box, bm_row, bk_box, bk_row, hd])
    | (exact retS_of rfl rfl rfl)
    | (refine DW.cond_tt rfl ?_)
    | (refine call_c (h1) (by decide) ?_)
    | (refine DW.cond_ff rfl ?_)
    | (refine DW.cond rfl ?_ ?_ <;> intro hc <;> (try simp only [go_sem] at hc))
    | (refine g_split ?_ ?_ <;> intro hc <;> (try simp only [hc]) <;> (try simp only [go_sem] at hc)))
  obtain ⟨hp, hl4, ho⟩ := openE_ok h
  have h1 := trOpen p l h
  have h2 := trPlanM p hp l hl4 ho
  cases hR : planF p l with
  | some x =>
    have hE : agE p l = 7 := by unfold agE; rw [if_neg (by simpa using h), hR]; rfl
    rw [agD, hE, if_pos (by decide)]
    rw [hR] at h2
    simp only [planD] at h2
    refine DCall.of Try.func36 sf36 hb36 (Nat.le_of_ble_eq_true rfl) (okRes_nil fun _ => rfl) ?_; simp only [s36, idxs, Nat.reduceAdd]
    repeat' (first
    | (with_reducible first | refine DW.seq ?_ | refine DW.block ?_ | refine DW.skip ?_ | refine DW.exit ?_ | refine DW.ret ?_ | refine DW.reg ?_)
    | (simp (disch := omega) only [go_sem, simprocAttr, bm_box, bm_row, bk_box, bk_row])
    | (exact retS_of rfl rfl rfl)
    | (refine DW.cond_tt rfl ?_)
    | (refine call_c (h1) (by decide) ?_)
    | (refine call_c (h2) (by decide) ?_)
    | (refine DW.cond_ff rfl ?_)
    | (refine DW.cond rfl ?_ ?_ <;> intro hc <;> (try simp only [go_sem] at hc))
    | (refine g_split ?_ ?_ <;> intro hc <;> (try simp only [hc]) <;> (try simp only [go_sem] at hc)))
  | none =>
    have hE : agE p l = 0 := by unfold agE; rw [if_neg (by simpa using h), hR]; rfl
    rw [agD, hE, if_neg (by decide)]
    rw [hR] at h2
    simp only [planD] at h2
    have hne := badsF_ne hl4 hR
    have hpw : 2 ^ l.length ≤ 16 := Nat.pow_le_pow_right (n := 2) (by decide) hl4
    have hsh : shlI IntKind.i64 1 l.length = ((2 ^ l.length : Nat) : Int) := by
      have : ∀ n : Fin 5, shlI IntKind.i64 1 n.1 = ((2 ^ n.1 : Nat) : Int) := by decide +kernel
      exact this ⟨l.length, by omega⟩
    generalize hN : 2 ^ l.length = N at *
    refine DCall.of Try.func36 sf36 hb36 (Nat.le_of_ble_eq_true rfl) (okRes_nil fun _ => by cases badsF p l N <;> rfl) ?_
    simp only [s36, idxs, Nat.reduceAdd]
    repeat' (first
    | (with_reducible first | refine DW.seq ?_ | refine DW.block ?_ | refine DW.skip ?_ | refine DW.exit ?_ | refine DW.ret ?_ | refine DW.reg ?_)
    | (simp (disch := omega) only [go_sem, simprocAttr, bm_box, bm_row, bk_box, bk_row, hsh])
    | (exact retS_of rfl rfl rfl)
    | (refine DW.cond_tt rfl ?_)
    | (refine call_c (h1) (by decide) ?_)
    | (refine call_c (h2) (by decide) ?_)
    | (refine DW.cond_ff rfl ?_)
    | (refine DW.cond rfl ?_ ?_ <;> intro hc <;> (try simp only [go_sem] at hc))
    | (refine g_split ?_ ?_ <;> intro hc <;> (try simp only [hc]) <;> (try simp only [go_sem] at hc)))
    refine DW.ent (Ent.adopt 11 52 1 rfl rfl rfl) ?_
    refine DW.loop (ι := { s : Nat // s ≤ N }) (fun s => ⟨56, [(35, dI s.1), (34, dI N), (11, .own 52), (6, .box 6 0), (5, dI 0), (4, .c (.v (.slice none 0 0)))], [(52, .row 1 (rowC (rows eWs (badsF p l s.1)))), (6, .box [dI p.wide, dI p.tl, dI p.th, dI p.webs, .c (.sl false 3 (rows eO l))])]⟩) (fun s => N - s.1) ⟨0, Nat.zero_le _⟩ ?_ ?_
    · refine Ent.to ?_ ?_ <;> simp (disch := omega) only [wkT_cons, wkX_cons, wkT_nil, wkX_nil, get, Nat.reduceEqDiff, ↓reduceIte, ex_some, wk_self, wk_top, wk_nil, wkB_self, and_self, dI, i64_in, and_true, true_and, Int.natCast_add, Int.natCast_one, Int.ofNat_zero, Int.natCast_zero, ins, Nat.reduceLT, badsF, List.range_zero, List.filter_nil, List.map_nil]
      all_goals first | exact ⟨.refl _, .refl _, .refl _⟩ | exact ⟨.refl _, .refl _⟩ | exact .refl _
    rintro ⟨s, hs⟩
    dsimp only
    by_cases hlt : s < N
    · have hd : decide ((s : Int) < (N : Int)) = true := decide_eq_true (by omega)
      have hs16 : s < 16 := by omega
      have hbl := badsF_len p l s
      have hsc := badsF_succ p l s
      have g1 := trAmong p l hl4 s hs16
      have g2 := trPlanM p hp (selF s 0 l) (Nat.le_trans selF_len hl4) (fun o hm => ho o (selF_mem o hm))
      have g3 := trNumbers s hs16
      generalize badsF p l s = B at *
      cases hR2 : planF p (selF s 0 l) with
      | some x =>
        rw [hR2] at g2 hsc
        simp only [planD] at g2
        rw [if_neg (by simp), List.append_nil] at hsc
        generalize selF s 0 l = S at *
        repeat' (first
    | (with_reducible first | refine DW.seq ?_ | refine DW.block ?_ | refine DW.skip ?_ | refine DW.exit ?_ | refine DW.ret ?_ | refine DW.reg ?_)
    | (simp (disch := omega) only [go_sem, simprocAttr, bm_box, bm_row, bk_box, bk_row, hd])
    | (exact retS_of rfl rfl rfl)
    | (refine DW.cond_tt rfl ?_)
    | (refine call_c (g1) (by decide) ?_)
    | (refine call_c (g2) (by decide) ?_)
    | (refine DW.cond_ff rfl ?_)
    | (refine DW.cond rfl ?_ ?_ <;> intro hc <;> (try simp only [go_sem] at hc))
    | (refine g_split ?_ ?_ <;> intro hc <;> (try simp only [hc]) <;> (try simp only [go_sem] at hc)))
        refine ⟨⟨s + 1, hlt⟩, ?_, Ent.to ?_ ?_⟩ <;> first | (show _ < _; (try simp only); omega) | (simp (disch := omega) only [wkT_cons, wkX_cons, wkT_nil, wkX_nil, get, Nat.reduceEqDiff, ↓reduceIte, ex_some, wk_self, wk_top, wk_nil, wkB_self, and_self, dI, i64_in, and_true, true_and, Int.natCast_add, Int.natCast_one, Int.ofNat_zero, Int.natCast_zero,  hsc])
        all_goals first | exact ⟨.refl _, .refl _, .refl _⟩ | exact ⟨.refl _, .refl _⟩ | exact .refl _
      | none =>
        rw [hR2] at g2 hsc
        simp only [planD] at g2
        rw [if_pos (by simp)] at hsc
        generalize selF s 0 l = S at *
        generalize numsI s = M at *
        repeat' (first
    | (with_reducible first | refine DW.seq ?_ | refine DW.block ?_ | refine DW.skip ?_ | refine DW.exit ?_ | refine DW.ret ?_ | refine DW.reg ?_)
    | (simp (disch := omega) only [go_sem, simprocAttr, bm_box, bm_row, bk_box, bk_row, hd])
    | (exact retS_of rfl rfl rfl)
    | (refine DW.cond_tt rfl ?_)
    | (refine call_c (g1) (by decide) ?_)
    | (refine call_c (g2) (by decide) ?_)
    | (refine call_c (g3) (by decide) ?_)
    | (refine DW.cond_ff rfl ?_)
    | (refine DW.cond rfl ?_ ?_ <;> intro hc <;> (try simp only [go_sem] at hc))
    | (refine g_split ?_ ?_ <;> intro hc <;> (try simp only [hc]) <;> (try simp only [go_sem] at hc)))
        refine ⟨⟨s + 1, hlt⟩, ?_, Ent.to ?_ ?_⟩ <;> first | (show _ < _; (try simp only); omega) | (simp (disch := omega) only [wkT_cons, wkX_cons, wkT_nil, wkX_nil, get, Nat.reduceEqDiff, ↓reduceIte, ex_some, wk_self, wk_top, wk_nil, wkB_self, and_self, dI, i64_in, and_true, true_and, Int.natCast_add, Int.natCast_one, Int.ofNat_zero, Int.natCast_zero,  hsc, rowC_snocW])
        all_goals first | exact ⟨.refl _, .refl _, .refl _⟩ | exact ⟨.refl _, .refl _⟩ | exact .refl _
    · obtain rfl : s = N := by omega
      have hd : decide ((s : Int) < (s : Int)) = false := decide_eq_false (by omega)
      have hmem : ∀ u ∈ badsF p l s, u.length ≤ 4 := fun u hu => badsF_mem hu
      have hbl := badsF_len p l s
      cases hB : badsF p l s with
      | nil => exact absurd hB hne
      | cons x t =>
        rw [hB] at hmem hbl
        have g := trMinL true x t (by simp only [List.length_cons] at hbl; omega) 76 (fun u hu v hv => trAgainst1 false false u v (by have := hmem u hu; omega) (by have := hmem v hv; omega))
        dsimp only
        generalize minBy cmpL2 x t = m at *
        generalize x :: t = X at *
        repeat' (first
    | (with_reducible first | refine DW.seq ?_ | refine DW.block ?_ | refine DW.skip ?_ | refine DW.exit ?_ | refine DW.ret ?_ | refine DW.reg ?_)
    | (simp (disch := omega) only [go_sem, simprocAttr, bm_box, bm_row, bk_box, bk_row, hd])
    | (exact retS_of rfl rfl rfl)
    | (refine DW.cond_tt rfl ?_)
    | (refine call_c (g) (by decide) ?_)
    | (refine DW.cond_ff rfl ?_)
    | (refine DW.cond rfl ?_ ?_ <;> intro hc <;> (try simp only [go_sem] at hc))
    | (refine g_split ?_ ?_ <;> intro hc <;> (try simp only [hc]) <;> (try simp only [go_sem] at hc)))
        refine retS_wk rfl ?_ (by simp only [Blk.nb, rowC_nb, D.nb, D.nbs, C.nb, C.nbs, C.nbss, rows_nb eI_nb, Bool.and_true, Bool.not_false, Bool.and_self, bD, dI, iD, rows_nb eO_nb, rows_nb eSt_nb, rows_nb eWs_nb, rows_nb eOf_nb]); exact .refl _
end Go.Dw.Seat
end
section
set_option linter.unusedSimpArgs false
set_option maxRecDepth 100000
namespace Go.Dw.Seat
open Go Go.Dw Go.Proofs Go.IntWalk
theorem ex_open (m : Int) (h : 20 ≤ m ∧ m ≤ 3000) : openE (exP m) exO = 0 := openE_yes ⟨by simp [exP], by simp [exP]; omega, by simp [exP]⟩ (by decide) (by
  intro o ho
  simp only [exO, List.mem_cons, List.not_mem_nil, or_false] at ho
  rcases ho with rfl | rfl | rfl <;> exact ⟨by decide, by decide⟩)
def exQ : List TStp := [⟨[0, 0, 2], 2⟩, ⟨[0, 3, 0], 1⟩, ⟨[2, 1, 0], 5⟩]
def exA : List (List Int) := patsX (exP 200) exO 3 []
theorem ex_all : exA.length = 3 := by decide +kernel
theorem ex_all0 : exA[0]? = some [0, 0, 2] := by decide +kernel
theorem ex_plan : planF (exP 200) exO = none := by
  have : (planF (exP 200) exO).isNone = true := by decide +kernel
  simpa using this
def qEq (a b : List TStp) : Bool := a.map (·.ws) == b.map (·.ws) && a.map (·.run) == b.map (·.run)
theorem qEq_eq : ∀ {a b : List TStp}, qEq a b = true → a = b
  | [], [], _ => rfl
  | [], _ :: _, h => by simp [qEq] at h
  | _ :: _, [], h => by simp [qEq] at h
  | ⟨w, r⟩ :: a, ⟨w', r'⟩ :: b, h => by
    simp only [qEq, List.map_cons, Bool.and_eq_true, beq_iff_eq, List.cons.injEq] at h
    obtain ⟨⟨rfl, h1⟩, rfl, h2⟩ := h
    rw [qEq_eq (a := a) (b := b) (by simp [qEq, h1, h2])]
theorem ex_plan4 : planF (exP 400) exO = some (exQ, 1600) := by
  have h : (match planF (exP 400) exO with | some x => qEq x.1 exQ && x.2 == 1600 | none => false) = true := by decide +kernel
  cases hp : planF (exP 400) exO with
  | none => rw [hp] at h; cases h
  | some x =>
    rw [hp] at h
    simp only [Bool.and_eq_true, beq_iff_eq] at h
    obtain ⟨q, w⟩ := x
    obtain ⟨h1, h2⟩ := h
    dsimp only at h1 h2
    rw [qEq_eq h1, h2]
theorem ex_ag : (match badsF (exP 200) exO 8 with | [] => [] | x :: t => minBy cmpL2 x t) = [1] := by decide +kernel
theorem ex_get : getX (exP 400) exO exQ = .inl ([10, 8, 4], 1600) := by decide +kernel
theorem ex_bnd : boundI (exP 400) exO = (2, 8, 160) ∧ boundE (exP 400) exO = 0 := by decide +kernel
theorem ex_knv : knvL (exP 400) exO [2, 1, 0] = [100, 900, 1700, 2400] ∧ owE (exP 400) exO [2, 1, 0] = 0 := by decide +kernel
theorem ex_chE : chgE [100, 900, 1700, 2400] [50, 1250, 2450] = 0 := by decide +kernel
theorem ex_ch : edI [100, 900, 1700, 2400] [50, 1250, 2450] 4 3 = 950 := by
  simp [edI, atI]
  decide
theorem ex_sh : sheetsI 1000 1 10 = (99, 101) ∧ sheetsE 1000 1 10 = 0 := by decide +kernel
theorem ex_cho : choI [exP 200, exP 400] exO = 1 ∧ choE [exP 200, exP 400] exO = 0 := by decide +kernel
end Go.Dw.Seat
end
section
set_option linter.unusedSimpArgs false
set_option maxRecDepth 100000
namespace Go.Dw.Seat
open Go Go.Dw Go.Proofs Go.IntWalk
theorem sameY {R : Bool} {α : Type} {s t : List α} (h : s = t) (hR : R = true) : (R = true ↔ s = t) := by simp [h, hR]
set_option maxHeartbeats 8000000 in
theorem laKnown : DCall Try.prog 15 [] [] (bD true) [] := by
  have p2 := laPaper 200
  have p4 := laPaper 400
  have po := laOrders
  have e2 := ex_open 200 (by decide)
  have e4 := ex_open 400 (by decide)
  have c1 := trPatternsX (exP 200) exO (by decide)
  rw [patsD, if_pos e2, e2, show patsX (exP 200) exO exO.length [] = exA from rfl] at c1
  have c2 := trPlanX (exP 200) exO (by decide)
  rw [planX, if_pos e2, ex_plan] at c2
  dsimp only at c2
  have c3 := trAgainst (exP 200) exO (by decide)
  have a3 : agE (exP 200) exO = 0 := by unfold agE; rw [if_neg (by simpa using e2), ex_plan]; rfl
  have a4 : agD (exP 200) exO = dIs false [1] := by
    rw [agD, a3, if_neg (by decide)]
    have h := ex_ag
    have hne := badsF_ne (p := exP 200) (l := exO) (by decide) ex_plan
    rw [show (2 ^ exO.length) = 8 from rfl] at hne ⊢
    cases hb : badsF (exP 200) exO 8 with
    | nil => exact absurd hb hne
    | cons x t =>
      rw [hb] at h
      dsimp only at h ⊢
      rw [h]
  rw [a3, a4] at c3
  have c4 := trPlanX (exP 400) exO (by decide)
  rw [planX, if_pos e4, ex_plan4] at c4
  dsimp only at c4
  have c5 := trGetX (exP 400) exO (by decide) exQ (by decide)
  rw [ex_get] at c5
  simp only [doesD] at c5
  have c6 := trBound (exP 400) exO (by decide)
  rw [ex_bnd.1, ex_bnd.2] at c6
  have c7 := trKnives true (exP 400) exO (by decide) [2, 1, 0] (by decide)
  rw [knvD, if_pos ex_knv.2, ex_knv.1, ex_knv.2] at c7
  have c8 := trChangeX true true [100, 900, 1700, 2400] [50, 1250, 2450] (by decide) (by decide)
  rw [chgI, if_pos ex_chE, ex_chE, show edI [100, 900, 1700, 2400] [50, 1250, 2450] ([100, 900, 1700, 2400] : List Int).length ([50, 1250, 2450] : List Int).length = 950 from ex_ch] at c8
  have c9 := trSheets 1000 1 10
  rw [ex_sh.1, ex_sh.2] at c9
  have c10 := trChoose true [exP 200, exP 400] (by decide) exO (by decide)
  rw [ex_cho.1, ex_cho.2] at c10
  have s1 := laSetup 2 [0, 0, 2]
  have s2 := laSetup 1 [0, 3, 0]
  have s3 := laSetup 5 [2, 1, 0]
  have i1 := reInts false true [0, 0, 2] [0, 0, 2] (by decide) (by decide)
  have i2 := reInts false true [1] [1] (by decide) (by decide)
  have i3 := reInts false true [10, 8, 4] [10, 8, 4] (by decide) (by decide)
  have i4 := reInts false true [100, 900, 1700, 2400] [100, 900, 1700, 2400] (by decide) (by decide)
  rw [decide_eq_true rfl] at i1 i2 i3 i4
  have i5 := reSame false true exQ exQ (by decide) (by decide) (by decide) (by decide) true (sameY rfl rfl)
  have l1 := laSpan 99 101
  have hl := ex_all
  have h0 := ex_all0
  generalize exA = A at *
  clear e2 e4 a3 a4
  have dl : ((A.length : Int) != 3) = false := by rw [hl]; rfl
  have d0 : decide ((0 : Int) < (A.length : Int)) = true := by rw [hl]; rfl
  refine DCall.of Try.func15 sf15 hb15 (Nat.le_of_ble_eq_true rfl) (okRes_nil fun _ => rfl) ?_; simp only [s15, idxs, Nat.reduceAdd]
  repeat' (first
    | (with_reducible first | refine DW.seq ?_ | refine DW.block ?_ | refine DW.skip ?_ | refine DW.exit ?_ | refine DW.ret ?_ | refine DW.reg ?_)
    | (refine DW.dreg rfl (WF.of ?_) ?_; first | rfl | skip)
    | (simp (disch := omega) only [go_sem, simprocAttr, bm_box, bm_row, bk_box, bk_row])
    | (exact retS_of rfl rfl rfl)
    | (refine DW.cond_tt rfl ?_)
    | (refine call_c (p2) (by decide) ?_)
    | (refine call_c (p4) (by decide) ?_)
    | (refine call_c (po) (by decide) ?_)
    | (refine call_c (c1) (by decide) ?_)
    | (refine call_c (c2) (by decide) ?_)
    | (refine call_c (c3) (by decide) ?_)
    | (refine call_c (c4) (by decide) ?_)
    | (refine DW.cond_ff rfl ?_)
    | (refine DW.cond rfl ?_ ?_ <;> intro hc <;> (try simp only [go_sem] at hc))
    | (refine g_split ?_ ?_ <;> intro hc <;> (try simp only [hc]) <;> (try simp only [go_sem] at hc)))
  refine call_rel 52 rfl ?_
  simp (disch := omega) only [go_sem, simprocAttr, bm_box, bm_row, bk_box, bk_row]
  refine opsN.c s1 rfl rfl (by decide) ?_
  simp (disch := omega) only [go_sem, simprocAttr, bm_box, bm_row, bk_box, bk_row]
  repeat' (first
    | (with_reducible first | refine DW.seq ?_ | refine DW.block ?_ | refine DW.skip ?_ | refine DW.exit ?_ | refine DW.ret ?_ | refine DW.reg ?_)
    | (refine DW.dreg rfl (WF.of ?_) ?_; first | rfl | skip)
    | (simp (disch := omega) only [go_sem, simprocAttr, bm_box, bm_row, bk_box, bk_row, dl, d0, h0])
    | (exact retS_of rfl rfl rfl)
    | (refine DW.cond_tt rfl ?_)
    | (refine call_c (p2) (by decide) ?_)
    | (refine call_c (p4) (by decide) ?_)
    | (refine call_c (po) (by decide) ?_)
    | (refine call_c (c6) (by decide) ?_)
    | (refine call_c (c7) (by decide) ?_)
    | (refine call_c (c8) (by decide) ?_)
    | (refine call_c (c9) (by decide) ?_)
    | (refine call_c (c10) (by decide) ?_)
    | (refine call_c (i1) (by decide) ?_)
    | (refine call_c (i2) (by decide) ?_)
    | (refine call_c (i3) (by decide) ?_)
    | (refine call_c (i4) (by decide) ?_)
    | (refine call_c (i5) (by decide) ?_)
    | (refine call_c (l1) (by decide) ?_)
    | (refine DW.cond_ff rfl ?_)
    | (refine DW.cond rfl ?_ ?_ <;> intro hc <;> (try simp only [go_sem] at hc))
    | (refine g_split ?_ ?_ <;> intro hc <;> (try simp only [hc]) <;> (try simp only [go_sem] at hc)))
  refine call_rel 54 rfl ?_
  simp (disch := omega) only [go_sem, simprocAttr, bm_box, bm_row, bk_box, bk_row]
  refine opsN.c s2 rfl rfl (by decide) ?_
  simp (disch := omega) only [go_sem, simprocAttr, bm_box, bm_row, bk_box, bk_row]
  repeat' (first
    | (with_reducible first | refine DW.seq ?_ | refine DW.block ?_ | refine DW.skip ?_ | refine DW.exit ?_ | refine DW.ret ?_ | refine DW.reg ?_)
    | (refine DW.dreg rfl (WF.of ?_) ?_; first | rfl | skip)
    | (simp (disch := omega) only [go_sem, simprocAttr, bm_box, bm_row, bk_box, bk_row, dl, d0, h0])
    | (exact retS_of rfl rfl rfl)
    | (refine DW.cond_tt rfl ?_)
    | (refine call_c (p2) (by decide) ?_)
    | (refine call_c (p4) (by decide) ?_)
    | (refine call_c (po) (by decide) ?_)
    | (refine call_c (c6) (by decide) ?_)
    | (refine call_c (c7) (by decide) ?_)
    | (refine call_c (c8) (by decide) ?_)
    | (refine call_c (c9) (by decide) ?_)
    | (refine call_c (c10) (by decide) ?_)
    | (refine call_c (i1) (by decide) ?_)
    | (refine call_c (i2) (by decide) ?_)
    | (refine call_c (i3) (by decide) ?_)
    | (refine call_c (i4) (by decide) ?_)
    | (refine call_c (i5) (by decide) ?_)
    | (refine call_c (l1) (by decide) ?_)
    | (refine DW.cond_ff rfl ?_)
    | (refine DW.cond rfl ?_ ?_ <;> intro hc <;> (try simp only [go_sem] at hc))
    | (refine g_split ?_ ?_ <;> intro hc <;> (try simp only [hc]) <;> (try simp only [go_sem] at hc)))
  refine call_rel 56 rfl ?_
  simp (disch := omega) only [go_sem, simprocAttr, bm_box, bm_row, bk_box, bk_row]
  refine opsN.c s3 rfl rfl (by decide) ?_
  simp (disch := omega) only [go_sem, simprocAttr, bm_box, bm_row, bk_box, bk_row]
  repeat' (first
    | (with_reducible first | refine DW.seq ?_ | refine DW.block ?_ | refine DW.skip ?_ | refine DW.exit ?_ | refine DW.ret ?_ | refine DW.reg ?_)
    | (refine DW.dreg rfl (WF.of ?_) ?_; first | rfl | skip)
    | (simp (disch := omega) only [go_sem, simprocAttr, bm_box, bm_row, bk_box, bk_row, dl, d0, h0])
    | (exact retS_of rfl rfl rfl)
    | (refine DW.cond_tt rfl ?_)
    | (refine call_c (p2) (by decide) ?_)
    | (refine call_c (p4) (by decide) ?_)
    | (refine call_c (po) (by decide) ?_)
    | (refine call_c (c6) (by decide) ?_)
    | (refine call_c (c7) (by decide) ?_)
    | (refine call_c (c8) (by decide) ?_)
    | (refine call_c (c9) (by decide) ?_)
    | (refine call_c (c10) (by decide) ?_)
    | (refine call_c (i1) (by decide) ?_)
    | (refine call_c (i2) (by decide) ?_)
    | (refine call_c (i3) (by decide) ?_)
    | (refine call_c (i4) (by decide) ?_)
    | (refine call_c (i5) (by decide) ?_)
    | (refine call_c (l1) (by decide) ?_)
    | (refine DW.cond_ff rfl ?_)
    | (refine DW.cond rfl ?_ ?_ <;> intro hc <;> (try simp only [go_sem] at hc))
    | (refine g_split ?_ ?_ <;> intro hc <;> (try simp only [hc]) <;> (try simp only [go_sem] at hc)))
  refine call_rel 58 rfl ?_
  simp (disch := omega) only [go_sem, simprocAttr, bm_box, bm_row, bk_box, bk_row]
  refine opsN.c c5 rfl rfl (by decide) ?_
  simp (disch := omega) only [go_sem, simprocAttr, bm_box, bm_row, bk_box, bk_row]
  repeat' (first
    | (with_reducible first | refine DW.seq ?_ | refine DW.block ?_ | refine DW.skip ?_ | refine DW.exit ?_ | refine DW.ret ?_ | refine DW.reg ?_)
    | (refine DW.dreg rfl (WF.of ?_) ?_; first | rfl | skip)
    | (simp (disch := omega) only [go_sem, simprocAttr, bm_box, bm_row, bk_box, bk_row, dl, d0, h0])
    | (exact retS_of rfl rfl rfl)
    | (refine DW.cond_tt rfl ?_)
    | (refine call_c (p2) (by decide) ?_)
    | (refine call_c (p4) (by decide) ?_)
    | (refine call_c (po) (by decide) ?_)
    | (refine call_c (c6) (by decide) ?_)
    | (refine call_c (c7) (by decide) ?_)
    | (refine call_c (c8) (by decide) ?_)
    | (refine call_c (c9) (by decide) ?_)
    | (refine call_c (c10) (by decide) ?_)
    | (refine call_c (i1) (by decide) ?_)
    | (refine call_c (i2) (by decide) ?_)
    | (refine call_c (i3) (by decide) ?_)
    | (refine call_c (i4) (by decide) ?_)
    | (refine call_c (i5) (by decide) ?_)
    | (refine call_c (l1) (by decide) ?_)
    | (refine DW.cond_ff rfl ?_)
    | (refine DW.cond rfl ?_ ?_ <;> intro hc <;> (try simp only [go_sem] at hc))
    | (refine g_split ?_ ?_ <;> intro hc <;> (try simp only [hc]) <;> (try simp only [go_sem] at hc)))
  refine call_rel 154 rfl ?_
  simp (disch := omega) only [go_sem, simprocAttr, bm_box, bm_row, bk_box, bk_row]
  refine opsN.c s1 rfl rfl (by decide) ?_
  simp (disch := omega) only [go_sem, simprocAttr, bm_box, bm_row, bk_box, bk_row]
  repeat' (first
    | (with_reducible first | refine DW.seq ?_ | refine DW.block ?_ | refine DW.skip ?_ | refine DW.exit ?_ | refine DW.ret ?_ | refine DW.reg ?_)
    | (refine DW.dreg rfl (WF.of ?_) ?_; first | rfl | skip)
    | (simp (disch := omega) only [go_sem, simprocAttr, bm_box, bm_row, bk_box, bk_row, dl, d0, h0])
    | (exact retS_of rfl rfl rfl)
    | (refine DW.cond_tt rfl ?_)
    | (refine call_c (p2) (by decide) ?_)
    | (refine call_c (p4) (by decide) ?_)
    | (refine call_c (po) (by decide) ?_)
    | (refine call_c (c6) (by decide) ?_)
    | (refine call_c (c7) (by decide) ?_)
    | (refine call_c (c8) (by decide) ?_)
    | (refine call_c (c9) (by decide) ?_)
    | (refine call_c (c10) (by decide) ?_)
    | (refine call_c (i1) (by decide) ?_)
    | (refine call_c (i2) (by decide) ?_)
    | (refine call_c (i3) (by decide) ?_)
    | (refine call_c (i4) (by decide) ?_)
    | (refine call_c (i5) (by decide) ?_)
    | (refine call_c (l1) (by decide) ?_)
    | (refine DW.cond_ff rfl ?_)
    | (refine DW.cond rfl ?_ ?_ <;> intro hc <;> (try simp only [go_sem] at hc))
    | (refine g_split ?_ ?_ <;> intro hc <;> (try simp only [hc]) <;> (try simp only [go_sem] at hc)))
  refine call_rel 156 rfl ?_
  simp (disch := omega) only [go_sem, simprocAttr, bm_box, bm_row, bk_box, bk_row]
  refine opsN.c s2 rfl rfl (by decide) ?_
  simp (disch := omega) only [go_sem, simprocAttr, bm_box, bm_row, bk_box, bk_row]
  repeat' (first
    | (with_reducible first | refine DW.seq ?_ | refine DW.block ?_ | refine DW.skip ?_ | refine DW.exit ?_ | refine DW.ret ?_ | refine DW.reg ?_)
    | (refine DW.dreg rfl (WF.of ?_) ?_; first | rfl | skip)
    | (simp (disch := omega) only [go_sem, simprocAttr, bm_box, bm_row, bk_box, bk_row, dl, d0, h0])
    | (exact retS_of rfl rfl rfl)
    | (refine DW.cond_tt rfl ?_)
    | (refine call_c (p2) (by decide) ?_)
    | (refine call_c (p4) (by decide) ?_)
    | (refine call_c (po) (by decide) ?_)
    | (refine call_c (c6) (by decide) ?_)
    | (refine call_c (c7) (by decide) ?_)
    | (refine call_c (c8) (by decide) ?_)
    | (refine call_c (c9) (by decide) ?_)
    | (refine call_c (c10) (by decide) ?_)
    | (refine call_c (i1) (by decide) ?_)
    | (refine call_c (i2) (by decide) ?_)
    | (refine call_c (i3) (by decide) ?_)
    | (refine call_c (i4) (by decide) ?_)
    | (refine call_c (i5) (by decide) ?_)
    | (refine call_c (l1) (by decide) ?_)
    | (refine DW.cond_ff rfl ?_)
    | (refine DW.cond rfl ?_ ?_ <;> intro hc <;> (try simp only [go_sem] at hc))
    | (refine g_split ?_ ?_ <;> intro hc <;> (try simp only [hc]) <;> (try simp only [go_sem] at hc)))
  refine call_rel 158 rfl ?_
  simp (disch := omega) only [go_sem, simprocAttr, bm_box, bm_row, bk_box, bk_row]
  refine opsN.c s3 rfl rfl (by decide) ?_
  simp (disch := omega) only [go_sem, simprocAttr, bm_box, bm_row, bk_box, bk_row]
  repeat' (first
    | (with_reducible first | refine DW.seq ?_ | refine DW.block ?_ | refine DW.skip ?_ | refine DW.exit ?_ | refine DW.ret ?_ | refine DW.reg ?_)
    | (refine DW.dreg rfl (WF.of ?_) ?_; first | rfl | skip)
    | (simp (disch := omega) only [go_sem, simprocAttr, bm_box, bm_row, bk_box, bk_row, dl, d0, h0])
    | (exact retS_of rfl rfl rfl)
    | (refine DW.cond_tt rfl ?_)
    | (refine call_c (p2) (by decide) ?_)
    | (refine call_c (p4) (by decide) ?_)
    | (refine call_c (po) (by decide) ?_)
    | (refine call_c (c6) (by decide) ?_)
    | (refine call_c (c7) (by decide) ?_)
    | (refine call_c (c8) (by decide) ?_)
    | (refine call_c (c9) (by decide) ?_)
    | (refine call_c (c10) (by decide) ?_)
    | (refine call_c (i1) (by decide) ?_)
    | (refine call_c (i2) (by decide) ?_)
    | (refine call_c (i3) (by decide) ?_)
    | (refine call_c (i4) (by decide) ?_)
    | (refine call_c (i5) (by decide) ?_)
    | (refine call_c (l1) (by decide) ?_)
    | (refine DW.cond_ff rfl ?_)
    | (refine DW.cond rfl ?_ ?_ <;> intro hc <;> (try simp only [go_sem] at hc))
    | (refine g_split ?_ ?_ <;> intro hc <;> (try simp only [hc]) <;> (try simp only [go_sem] at hc)))
end Go.Dw.Seat
end
section
set_option linter.unusedSimpArgs false
set_option maxRecDepth 100000
namespace Go.Dw.Seat
open Go Go.Dw Go.Proofs Go.IntWalk
structure NowOk (p : TPap) (l : List TOrd) (T : List (List Int)) (q : List TStp) : Prop where
  asc : (q.map (·.ws) ++ T).Pairwise fun a b => lexW a b = true
  ok : ∀ s ∈ q, WsOk p l s.ws ∧ 1 ≤ s.run ∧ s.run ≤ 30
theorem NowOk.tail {p : TPap} {l : List TOrd} {T : List (List Int)} {q : List TStp} {ws : List Int} (h : NowOk p l (ws :: T) q) : NowOk p l T q :=
  ⟨h.asc.sublist (List.Sublist.append (List.Sublist.refl _) (List.sublist_cons_self _ _)), h.ok⟩
end Go.Dw.Seat
end
section
set_option linter.unusedSimpArgs false
set_option maxRecDepth 100000
namespace Go.Dw.Seat
open Go Go.Dw Go.Proofs Go.IntWalk
theorem cmpL2_neg (M b : List Int) : (cmpL2 M b < 0) ↔ ¬ (decide (b.length < M.length) || (decide (M.length = b.length) && !lexW M b)) = true := by
  unfold cmpL2
  by_cases h : M.length = b.length
  · have h2 := lexW_cmp h
    rw [decide_eq_false (by omega), decide_eq_true h, h2]
    simp only [orL, h, Int.sub_self]
    rw [if_neg (by simp)]
    simp only [Bool.false_or, Bool.true_and, Bool.not_not, decide_eq_true_eq]
    split
    · omega
    · rename_i h3
      have : cmpL M b = 0 := by simpa using h3
      rw [this]; simp
  · simp only [orL]
    rw [if_pos (by omega), decide_eq_false h]
    simp only [Bool.false_and, Bool.or_false, decide_eq_true_eq]
    omega
end Go.Dw.Seat
end
section
set_option linter.unusedSimpArgs false
set_option maxRecDepth 100000
namespace Go.Dw.Seat
open Go Go.Dw Go.Proofs Go.ChangeShapes Go.WideShapes Go.ChangeAt Go.RowKit
theorem tOwn : ownKnob Try.prog.godebug = none := by kernel_rfl
theorem tLaid : laidOutB Try.prog = true := by kernel_rfl
theorem u4 : Try.prog.underlying 4 = some .bool := by kernel_rfl
theorem und5 : Try.prog.underlying 5 = some (.int .u8) := by kernel_rfl
theorem u32 : structIs Try.prog 32 [(3, 0), (3, 1)] = true := by kernel_rfl
theorem u72 : Try.prog.underlying 72 = some (.array 4 5) := by kernel_rfl
theorem u73 : Try.prog.underlying 73 = some (.array 5 5) := by kernel_rfl
theorem u74 : Try.prog.underlying 74 = some (.array 3 73) := by kernel_rfl
theorem u75 : Try.prog.underlying 75 = some (.array 2 5) := by kernel_rfl
theorem u76 : Try.prog.underlying 76 = some (.array 4 75) := by kernel_rfl
theorem u78 : structIs Try.prog 78 [(72, 0), (5, 4), (74, 5), (76, 20), (75, 28)] = true := by kernel_rfl
theorem cl5 : Try.prog.cellsOf 5 = 1 := by kernel_rfl
theorem cl72 : Try.prog.cellsOf 72 = 4 := by kernel_rfl
theorem cl73 : Try.prog.cellsOf 73 = 5 := by kernel_rfl
theorem cl74 : Try.prog.cellsOf 74 = 15 := by kernel_rfl
theorem cl75 : Try.prog.cellsOf 75 = 2 := by kernel_rfl
theorem cl76 : Try.prog.cellsOf 76 = 8 := by kernel_rfl
theorem cl78 : Try.prog.cellsOf 78 = 30 := by kernel_rfl
def eN (l : List Nat) : List C := l.map fun n : Nat => .v (.int .u8 (n : Int))
def e1 (n : Nat) : List C := [.v (.int .u8 n)]
def AllLt (b : Nat) (l : List Nat) : Prop := ∀ x ∈ l, x < b
def bV (l : List Nat) : List Value := l.map fun n : Nat => Value.int .u8 (n : Int)
section
variable {H : Type} {enc : TypeId × Value → H} {w : World} {base : Nat} {spare : Nat → Bool} {held : Bool} {fuel : Nat} {cs : List Value} {x : DataW H × List MemPlace}
theorem wf8 {n : Int} (h : (Lit.int .u8 n).wf = true) : ∃ v : Nat, n = v ∧ v < 256 := by
  have e1 : IntKind.min .u8 = 0 := by decide
  have e2 : IntKind.max .u8 = 255 := by decide
  simp only [Lit.wf, e1, e2, Bool.and_eq_true, decide_eq_true_eq] at h
  exact ⟨n.toNat, by omega, by omega⟩
theorem rep_bytes : ∀ l : List Nat, RepVs w A0 (eN l) (bV l)
  | [] => rfl
  | _ :: l => ⟨_, _, rfl, ⟨rfl, rfl⟩, rep_bytes l⟩
theorem rd_U8 (h : DataW.trod enc Try.prog w base spare held fuel 5 cs = some x) : ∃ l : List Nat, (l.length = 1 ∧ AllLt 256 l) ∧ cs = bV l := by
  obtain ⟨n, e, hw⟩ := rd_int und5 h
  obtain ⟨v, rfl, hv⟩ := wf8 hw
  exact ⟨[v], ⟨rfl, fun x hx => by rw [List.mem_singleton] at hx; rw [hx]; exact hv⟩, e⟩
theorem bV_app (a b : List Nat) : bV (a ++ b) = bV a ++ bV b := by simp [bV]
theorem lt_app {b : Nat} {l l' : List Nat} (h : AllLt b l) (h' : AllLt b l') : AllLt b (l ++ l') := fun x hx => by
  rcases List.mem_append.1 hx with h1 | h1
  · exact h x h1
  · exact h' x h1
theorem rd_arrB {t e : TypeId} {n k : Nat} (ht : Try.prog.underlying t = some (.array n e)) (he : Try.prog.cellsOf e = k) (hc : Try.prog.cellsOf t = n * k)
    (hrd : ∀ m cs x, DataW.trod enc Try.prog w base spare held m e cs = some x → ∃ l : List Nat, (l.length = k ∧ AllLt 256 l) ∧ cs = bV l) (h : DataW.trod enc Try.prog w base spare held fuel t cs = some x) : ∃ l : List Nat, (l.length = n * k ∧ AllLt 256 l) ∧ cs = bV l := by
  obtain ⟨hl, m, hf⟩ := rd_array ht h
  rw [hc] at hl
  have key : ∀ j, j ≤ n → ∃ l : List Nat, (l.length = j * k ∧ AllLt 256 l) ∧ cs.take (j * k) = bV l := by
    intro j
    induction j with
    | zero => intro _; exact ⟨[], ⟨by simp, fun x hx => by cases hx⟩, by simp [bV]⟩
    | succ j ih =>
      intro hj
      obtain ⟨l, ⟨h1, h2⟩, h3⟩ := ih (by omega)
      obtain ⟨y, hy⟩ := hf j (by omega)
      rw [he] at hy
      obtain ⟨l', ⟨h4, h5⟩, h6⟩ := hrd _ _ _ hy
      refine ⟨l ++ l', ⟨by rw [List.length_append, h1, h4, Nat.succ_mul], lt_app h2 h5⟩, ?_⟩
      rw [Nat.succ_mul, List.take_add, h3, h6, bV_app]
  obtain ⟨l, h1, h2⟩ := key n (Nat.le_refl _)
  rw [List.take_of_length_le (by omega)] at h2
  exact ⟨l, h1, h2⟩
theorem rd_A4 (h : DataW.trod enc Try.prog w base spare held fuel 72 cs = some x) : ∃ l : List Nat, (l.length = 4 ∧ AllLt 256 l) ∧ cs = bV l := rd_arrB (n := 4) (k := 1) u72 cl5 cl72 (fun _ _ _ h => rd_U8 h) h
theorem rd_A5 (h : DataW.trod enc Try.prog w base spare held fuel 73 cs = some x) : ∃ l : List Nat, (l.length = 5 ∧ AllLt 256 l) ∧ cs = bV l := rd_arrB (n := 5) (k := 1) u73 cl5 cl73 (fun _ _ _ h => rd_U8 h) h
theorem rd_A2 (h : DataW.trod enc Try.prog w base spare held fuel 75 cs = some x) : ∃ l : List Nat, (l.length = 2 ∧ AllLt 256 l) ∧ cs = bV l := rd_arrB (n := 2) (k := 1) u75 cl5 cl75 (fun _ _ _ h => rd_U8 h) h
theorem rd_A35 (h : DataW.trod enc Try.prog w base spare held fuel 74 cs = some x) : ∃ l : List Nat, (l.length = 15 ∧ AllLt 256 l) ∧ cs = bV l := rd_arrB (n := 3) (k := 5) u74 cl73 cl74 (fun _ _ _ h => rd_A5 h) h
theorem rd_A42 (h : DataW.trod enc Try.prog w base spare held fuel 76 cs = some x) : ∃ l : List Nat, (l.length = 8 ∧ AllLt 256 l) ∧ cs = bV l := rd_arrB (n := 4) (k := 2) u76 cl75 cl76 (fun _ _ _ h => rd_A2 h) h
theorem rd_Shift (h : DataW.trod enc Try.prog w base spare held fuel 78 cs = some x) : ∃ l : List Nat, (l.length = 30 ∧ AllLt 256 l) ∧ cs = bV l := by
  obtain ⟨hl, m, hf⟩ := rd_struct u78 h
  rw [cl78] at hl
  obtain ⟨y0, h0⟩ := hf 0 72 0 rfl
  obtain ⟨y1, h1⟩ := hf 1 5 4 rfl
  obtain ⟨y2, h2⟩ := hf 2 74 5 rfl
  obtain ⟨y3, h3⟩ := hf 3 76 20 rfl
  obtain ⟨y4, h4⟩ := hf 4 75 28 rfl
  rw [cl72] at h0
  rw [cl5] at h1
  rw [cl74] at h2
  rw [cl76] at h3
  rw [cl75] at h4
  obtain ⟨l0, p0, e0⟩ := rd_A4 h0
  obtain ⟨l1, p1, e1⟩ := rd_U8 h1
  obtain ⟨l2, p2, e2⟩ := rd_A35 h2
  obtain ⟨l3, p3, e3⟩ := rd_A42 h3
  obtain ⟨l4, p4, e4⟩ := rd_A2 h4
  refine ⟨l0 ++ (l1 ++ (l2 ++ (l3 ++ l4))), ⟨?_, lt_app p0.2 (lt_app p1.2 (lt_app p2.2 (lt_app p3.2 p4.2)))⟩, ?_⟩
  · simp only [List.length_append, p0.1, p1.1, p2.1, p3.1, p4.1]
  · rw [bV_app, bV_app, bV_app, bV_app, ← e0, ← e1, ← e2, ← e3, ← e4]
    have s4 : (cs.drop 28).take 2 = cs.drop 28 := List.take_of_length_le (by rw [List.length_drop]; omega)
    have s3 : (cs.drop 20).take 8 ++ cs.drop 28 = cs.drop 20 := by rw [show cs.drop 28 = (cs.drop 20).drop 8 by rw [List.drop_drop]]; exact List.take_append_drop _ _
    have s2 : (cs.drop 5).take 15 ++ cs.drop 20 = cs.drop 5 := by rw [show cs.drop 20 = (cs.drop 5).drop 15 by rw [List.drop_drop]]; exact List.take_append_drop _ _
    have s1 : (cs.drop 4).take 1 ++ cs.drop 5 = cs.drop 4 := by rw [show cs.drop 5 = (cs.drop 4).drop 1 by rw [List.drop_drop]]; exact List.take_append_drop _ _
    rw [s4, s3, s2, s1, List.drop_zero]
    exact (List.take_append_drop 4 cs).symm
def stpsOk (l : List TStp) : Prop := ∀ s ∈ l, s.ws.length ≤ maxLen
structure TBrk where
  plan : List TStp
  at' : Int
  done : Int
def TBrk.ok (x : TBrk) : Prop := x.plan.length ≤ maxLen ∧ stpsOk x.plan
end
end Go.Dw.Seat
end
section
set_option linter.unusedSimpArgs false
set_option maxRecDepth 100000
namespace Go.Dw.Seat
open Go Go.Dw Go.Proofs Go.IntWalk
theorem e1_nb (v : Nat) : C.nbs (e1 v) = true := rfl
attribute [go_sem] e1
theorem laBefore (b1 b2 : Bool) (s t : List Int) (hs : s.length ≤ 2 ^ 36) (hl : s.length = t.length) : DCall Try.prog 80 [dIs b1 s, dIs b2 t] [] (bD (lexW s t)) [] := by
  generalize hR : lexW s t = R
  refine DCall.of Try.func80 sf80 hb80 (Nat.le_of_ble_eq_true rfl) (okRes_nil fun _ => rfl) ?_; simp only [s80, idxs, Nat.reduceAdd]
  repeat' (first
    | (with_reducible first | refine DW.seq ?_ | refine DW.block ?_ | refine DW.skip ?_ | refine DW.exit ?_ | refine DW.ret ?_ | refine DW.reg ?_)
    | (refine DW.dreg rfl (WF.of ?_) ?_; first | rfl | skip)
    | (simp (disch := omega) only [go_sem, simprocAttr, bm_box, bm_row, bk_box, bk_row])
    | (exact retS_of rfl rfl rfl)
    | (refine DW.cond_tt rfl ?_)
    | (refine DW.cond_ff rfl ?_)
    | (refine DW.cond rfl ?_ ?_ <;> intro hc <;> (try simp only [go_sem] at hc))
    | (refine g_split ?_ ?_ <;> intro hc <;> (try simp only [hc]) <;> (try simp only [go_sem] at hc)))
  refine DW.loop (ι := { i : Nat // i ≤ s.length ∧ lexW (s.drop i) (t.drop i) = R }) (fun i => ⟨30, [(5, dI i.1), (1, dIs b2 t), (0, dIs b1 s), (4, bD false)], []⟩) (fun i => s.length - i.1) ⟨0, Nat.zero_le _, hR⟩ ?_ ?_
  · refine Ent.to ?_ ?_ <;> simp (disch := omega) only [wkT_cons, wkX_cons, wkT_nil, wkX_nil, get, Nat.reduceEqDiff, ↓reduceIte, ex_some, wk_self, wk_top, wk_nil, wkB_self, and_self, dI, i64_in, and_true, true_and, Int.natCast_add, Int.natCast_one, Int.ofNat_zero, Int.natCast_zero]
    all_goals exact .refl _
  rintro ⟨i, hi, hr⟩
  dsimp only
  rcases at_or s i hi with ⟨v, hv, hlt, hd⟩ | ⟨he, hd⟩
  · obtain ⟨u, hu⟩ := getE (l := t) (i := i) (by omega)
    have h1 : s.drop i = v :: s.drop (i + 1) := by rw [List.drop_eq_getElem_cons hlt, (List.getElem_eq_iff hlt).2 hv]
    have hlt2 : i < t.length := by omega
    have h2 : t.drop i = u :: t.drop (i + 1) := by rw [List.drop_eq_getElem_cons hlt2, (List.getElem_eq_iff hlt2).2 hu]
    rw [h1, h2, lexW] at hr
    by_cases hvu : v = u
    · have d1 : (v != u) = false := by rw [hvu]; simp
      rw [if_pos hvu] at hr
      repeat' (first
    | (with_reducible first | refine DW.seq ?_ | refine DW.block ?_ | refine DW.skip ?_ | refine DW.exit ?_ | refine DW.ret ?_ | refine DW.reg ?_)
    | (refine DW.dreg rfl (WF.of ?_) ?_; first | rfl | skip)
    | (simp (disch := omega) only [go_sem, simprocAttr, bm_box, bm_row, bk_box, bk_row, hd, hv, hu, d1])
    | (exact retS_of rfl rfl rfl)
    | (refine DW.cond_tt rfl ?_)
    | (refine DW.cond_ff rfl ?_)
    | (refine DW.cond rfl ?_ ?_ <;> intro hc <;> (try simp only [go_sem] at hc))
    | (refine g_split ?_ ?_ <;> intro hc <;> (try simp only [hc]) <;> (try simp only [go_sem] at hc)))
      refine ⟨⟨i + 1, hlt, hr⟩, ?_, Ent.to ?_ ?_⟩ <;> first | (show _ < _; (try simp only); omega) | (simp (disch := omega) only [wkT_cons, wkX_cons, wkT_nil, wkX_nil, get, Nat.reduceEqDiff, ↓reduceIte, ex_some, wk_self, wk_top, wk_nil, wkB_self, and_self, dI, i64_in, and_true, true_and, Int.natCast_add, Int.natCast_one, Int.ofNat_zero, Int.natCast_zero])
      all_goals exact .refl _
    · have d1 : (v != u) = true := by simpa using hvu
      rw [if_neg hvu] at hr
      subst hr
      repeat' (first
    | (with_reducible first | refine DW.seq ?_ | refine DW.block ?_ | refine DW.skip ?_ | refine DW.exit ?_ | refine DW.ret ?_ | refine DW.reg ?_)
    | (refine DW.dreg rfl (WF.of ?_) ?_; first | rfl | skip)
    | (simp (disch := omega) only [go_sem, simprocAttr, bm_box, bm_row, bk_box, bk_row, hd, hv, hu, d1])
    | (exact retS_of rfl rfl rfl)
    | (refine DW.cond_tt rfl ?_)
    | (refine DW.cond_ff rfl ?_)
    | (refine DW.cond rfl ?_ ?_ <;> intro hc <;> (try simp only [go_sem] at hc))
    | (refine g_split ?_ ?_ <;> intro hc <;> (try simp only [hc]) <;> (try simp only [go_sem] at hc)))
  · rw [List.drop_eq_nil_of_le (by omega), lexW] at hr
    · subst hr
      repeat' (first
    | (with_reducible first | refine DW.seq ?_ | refine DW.block ?_ | refine DW.skip ?_ | refine DW.exit ?_ | refine DW.ret ?_ | refine DW.reg ?_)
    | (refine DW.dreg rfl (WF.of ?_) ?_; first | rfl | skip)
    | (simp (disch := omega) only [go_sem, simprocAttr, bm_box, bm_row, bk_box, bk_row, hd])
    | (exact retS_of rfl rfl rfl)
    | (refine DW.cond_tt rfl ?_)
    | (refine DW.cond_ff rfl ?_)
    | (refine DW.cond rfl ?_ ?_ <;> intro hc <;> (try simp only [go_sem] at hc))
    | (refine g_split ?_ ?_ <;> intro hc <;> (try simp only [hc]) <;> (try simp only [go_sem] at hc)))
    · intros; contradiction
end Go.Dw.Seat
end
section
set_option linter.unusedSimpArgs false
set_option maxRecDepth 100000
namespace Go.Dw.Seat
open Go Go.Dw Go.Proofs Go.IntWalk
structure Fine (p : TPap) (l : List TOrd) (q : List TStp) : Prop where
  ok : ∀ s ∈ q, WsOk p l s.ws ∧ 1 ≤ s.run ∧ s.run ≤ 30
  asc : q.Pairwise fun a b => lexW a.ws b.ws = true
end Go.Dw.Seat
end
section
set_option linter.unusedSimpArgs false
set_option maxRecDepth 100000
namespace Go.Dw.Seat
open Go Go.Dw Go.Proofs Go.IntWalk
abbrev dU (n : Nat) : D := .c (.v (.int .u8 n))
abbrev shD (x : List Nat) : D := .agg (x.map dU)
theorem mens_dU (k : Nat) : ∀ l : List Nat, D.mens k (l.map dU) = false
  | [] => rfl
  | _ :: l => mens_dU k l
theorem keys_dU (bx : List (Nat × Blk)) : ∀ l : List Nat, D.keysIns bx (l.map dU) = true
  | [] => rfl
  | _ :: l => keys_dU bx l
theorem kill_dU (k : Nat) : ∀ l : List Nat, (l.map dU).map (killD k) = l.map dU
  | [] => rfl
  | v :: l => by rw [List.map_cons, List.map_cons, kill_dU k l]; rfl
theorem rel_dU (k : Nat) (b : Blk) : ∀ l : List Nat, relDs k b (l.map dU) = l.map dU
  | [] => rfl
  | v :: l => by rw [List.map_cons, relDs, rel_dU k b l]; rfl
attribute [go_sem] mens_dU keys_dU kill_dU rel_dU
theorem cell_dU {x : List Nat} {i : Nat} {v : Nat} (h : x[i]? = some v) : (x.map dU)[i]? = some (dU v) := by rw [List.getElem?_map, h]; rfl
abbrev shB (x : List Nat) : Blk := .box (x.map dU)
def gB (x : List Nat) (i : Nat) : Nat := x.getD i 0
def mN (x : List Nat) : Nat := gB x 4 % 4 + 1
def mO (x : List Nat) (i : Nat) : TOrd := ⟨300 + 7 * (gB x i : Int) / 4, 0, 0⟩
def mL0 (x : List Nat) (k : Nat) : List TOrd := (List.range k).map (mO x)
theorem mL0_len (x : List Nat) (k : Nat) : (mL0 x k).length = k := by simp [mL0]
theorem mL0_succ (x : List Nat) (k : Nat) : mL0 x (k + 1) = mL0 x k ++ [mO x k] := by simp [mL0, List.range_succ]
theorem gB_lt' {x : List Nat} (hb : ∀ v ∈ x, v < 256) (i : Nat) : gB x i < 256 := by
  rw [gB, List.getD_eq_getElem?_getD]
  cases h : x[i]? with
  | none => simp
  | some v => exact hb v (List.mem_of_getElem? h)
theorem mL0_w {x : List Nat} (hb : ∀ v ∈ x, v < 256) {k : Nat} {o : TOrd} (ho : o ∈ mL0 x k) : (300 ≤ o.w ∧ o.w ≤ 746) ∧ o.lo = 0 ∧ o.hi = 0 := by
  obtain ⟨i, _, rfl⟩ := List.mem_map.1 ho
  have := gB_lt' hb i
  refine ⟨?_, rfl, rfl⟩
  show 300 ≤ 300 + 7 * (gB x i : Int) / 4 ∧ 300 + 7 * (gB x i : Int) / 4 ≤ 746
  omega
theorem mL0_ok {x : List Nat} (hb : ∀ v ∈ x, v < 256) {k : Nat} : ∀ o ∈ mL0 x k, o.ok := fun o ho => by
  have := mL0_w hb ho
  exact ⟨by omega, by omega⟩
def mv (x : List Nat) (i j : Nat) : Nat := gB x (5 + 5 * i + j)
def mA (x : List Nat) (i : Nat) : Nat := mv x i 0 % mN x
def mB (x : List Nat) (i : Nat) : Nat := mv x i 1 % mN x
def mna (x : List Nat) (i : Nat) : Nat := 1 + mv x i 2 % 3
def mnb (x : List Nat) (i : Nat) : Nat := mv x i 3 % (5 - mna x i)
def mW1 (x : List Nat) (i : Nat) : List Int := (zeros (mN x)).set (mA x i) (mna x i)
def mW (x : List Nat) (i : Nat) : List Int := if mA x i = mB x i then mW1 x i else (mW1 x i).set (mB x i) (mnb x i)
def mT (x : List Nat) (i : Nat) : TStp := ⟨mW x i, 1 + (mv x i 4 % 8 : Nat)⟩
def seekF (ws : List Int) : List TStp → Nat → Nat → Bool → Nat × Bool
  | [], _, a, b => (a, b)
  | t :: q, k, a, b => if lexW t.ws ws then seekF ws q (k + 1) (k + 1) b else if lexW ws t.ws then seekF ws q (k + 1) a b else seekF ws q (k + 1) a true
structure MSt where
  q : List TStp
  G : List Int
  lo : Int
  hi : Int
def mLk (x : List Nat) (i : Nat) : Bool := decide (0 < i) && decide (mv x i 4 % 5 = 0)
def stepM (x : List Nat) (i : Nat) (S : MSt) : MSt :=
  let r := seekF (mW x i) S.q 0 0 (mLk x i)
  if r.2 then S else
    let left := 3000 - dotI (mW x i) (mL0 x (mN x))
    ⟨S.q.take r.1 ++ mT x i :: S.q.drop r.1, addG S.G (mW x i) (mT x i).run, min S.lo left, max S.hi left⟩
structure MInv (x : List Nat) (i : Nat) (S : MSt) : Prop where
  len : S.q.length ≤ i
  ne : 0 < i → S.q ≠ []
  st : ∀ s ∈ S.q, (s.ws.length = mN x ∧ ∀ v ∈ s.ws, 0 ≤ v) ∧ (1 ≤ sumI s.ws ∧ sumI s.ws ≤ 4) ∧ usedI s.ws ≤ 2 ∧ (1 ≤ s.run ∧ s.run ≤ 8) ∧ S.lo ≤ 3000 - dotI s.ws (mL0 x (mN x)) ∧ 3000 - dotI s.ws (mL0 x (mN x)) ≤ S.hi
  asc : S.q.Pairwise fun a b => lexW a.ws b.ws = true
  got : S.G = gotF (zeros (mN x)) S.q
  gb : ∀ v ∈ S.G, 0 ≤ v ∧ v ≤ 32 * (i : Int)
  lo : 16 ≤ S.lo ∧ S.lo ≤ 3000
  hi : 0 ≤ S.hi ∧ S.hi ≤ 2700
def mS (x : List Nat) : Nat → MSt
  | 0 => ⟨[], zeros (mN x), 3000, 0⟩
  | i + 1 => stepM x i (mS x i)
theorem gB_get {x : List Nat} (hx : x.length = 30) {i : Nat} (hi : i < 30) : (x.map dU)[i]? = some (dU (gB x i)) := cell_dU (by rw [gB, List.getD_eq_getElem?_getD, List.getElem?_eq_getElem (by omega)]; rfl)
theorem gB_lt {x : List Nat} (hb : AllLt 256 x) (i : Nat) : gB x i < 256 := by
  rw [gB, List.getD_eq_getElem?_getD]
  cases h : x[i]? with
  | none => simp
  | some v => exact hb v (List.mem_of_getElem? h)
theorem five {x : List Nat} (hx : x.length = 30) {i : Nat} (hi : i < 3) : List.take 5 (List.drop (5 + i * 5) (x.map dU)) = [dU (mv x i 0), dU (mv x i 1), dU (mv x i 2), dU (mv x i 3), dU (mv x i 4)] := by
  apply List.ext_getElem?
  intro j
  rw [List.getElem?_take, List.getElem?_drop]
  by_cases hj : j < 5
  · rw [if_pos hj, gB_get hx (by omega)]
    have e : ∀ k, gB x (5 + i * 5 + k) = mv x i k := fun k => by rw [mv, Nat.mul_comm i 5]
    rw [e]
    match j, hj with
    | 0, _ => rfl
    | 1, _ => rfl
    | 2, _ => rfl
    | 3, _ => rfl
    | 4, _ => rfl
  · rw [if_neg hj, List.getElem?_eq_none (by simp only [List.length_cons, List.length_nil]; omega)]
theorem shut3 (ws : List Int) (r : Int) (es : List (List C)) : shutEs ([D.c (.sl false 1 (rows eI ws)), D.c (.v (.int .i64 r))] :: rowC es) = some ([C.sl false 1 (rows eI ws), C.v (.int .i64 r)] :: es) := by
  simp only [shutEs, shutEs_rowC]; rfl
theorem ins_rows (a b : List TStp) (ws : List Int) (r : Int) : rows eSt a ++ [C.sl false 1 (rows eI ws), C.v (.int .i64 r)] :: rows eSt b = rows eSt (a ++ ⟨ws, r⟩ :: b) := by
  simp [rows, eSt]
theorem min_if (a b : Int) : (if b < a then b else a) = min a b := by split <;> omega
theorem max_if (a b : Int) : (if a < b then b else a) = max a b := by split <;> omega
def mQ (x : List Nat) : List TStp := (mS x 3).q
def mP (x : List Nat) : TPap := ⟨3000, max 0 ((mS x 3).lo - (gB x 28 % 50 : Nat)), (mS x 3).hi + (gB x 29 % 50 : Nat), 4⟩
def mNd (x : List Nat) (G : List Int) (k : Nat) : TOrd := ⟨300 + 7 * (gB x k : Int) / 4, max 0 (G.getD k 0 - (gB x (20 + 2 * k) % 3 : Nat)), G.getD k 0 + (gB x (21 + 2 * k) % 3 : Nat)⟩
def mLn (x : List Nat) (G : List Int) (k : Nat) : List TOrd := (List.range (mN x)).map fun j => if j < k then mNd x G j else mO x j
def mL (x : List Nat) : List TOrd := mLn x (mS x 3).G (mN x)
theorem mLn_zero (x : List Nat) (G : List Int) : mLn x G 0 = mL0 x (mN x) := by
  unfold mLn mL0
  apply List.map_congr_left
  intro j _
  rw [if_neg (by omega)]
theorem mLn_len (x : List Nat) (G : List Int) (k : Nat) : (mLn x G k).length = mN x := by simp [mLn]
theorem mLn_get {x : List Nat} {G : List Int} {k : Nat} (hk : k < mN x) : (mLn x G k)[k]? = some (mO x k) := by
  rw [mLn, List.getElem?_map, List.getElem?_range hk, Option.map_some, if_neg (by omega)]
theorem mLn_set {x : List Nat} {G : List Int} {k : Nat} (hk : k < mN x) : (mLn x G k).set k (mNd x G k) = mLn x G (k + 1) := by
  apply List.ext_getElem?
  intro j
  rw [List.getElem?_set, mLn_len]
  by_cases hj : j < mN x
  · by_cases he : k = j
    · subst he
      rw [if_pos rfl, if_pos hk, mLn, List.getElem?_map, List.getElem?_range hk, Option.map_some, if_pos (by omega)]
    · rw [if_neg he, mLn, mLn, List.getElem?_map, List.getElem?_map, List.getElem?_range hj, Option.map_some, Option.map_some]
      congr 1
      by_cases h : j < k
      · rw [if_pos h, if_pos (by omega)]
      · rw [if_neg h, if_neg (by omega)]
  · rw [if_neg (by omega), List.getElem?_eq_none (by rw [mLn_len]; omega), List.getElem?_eq_none (by rw [mLn_len]; omega)]
end Go.Dw.Seat
end
section
set_option linter.unusedSimpArgs false
set_option maxRecDepth 100000
namespace Go.Dw.Seat
open Go Go.Dw Go.Proofs Go.IntWalk
theorem allW_mem : ∀ {ws : List Int}, (∀ v ∈ ws, 0 ≤ v ∧ v ≤ 4) → ws ∈ allW ws.length
  | [], _ => by simp [allW]
  | v :: ws, h => by
    have ih := allW_mem (ws := ws) (fun x hx => h x (by simp [hx]))
    have hv := h v (by simp)
    rw [List.length_cons, allW, List.mem_flatMap]
    refine ⟨v, ?_, List.mem_map.2 ⟨ws, ih, rfl⟩⟩
    have : v = 0 ∨ v = 1 ∨ v = 2 ∨ v = 3 ∨ v = 4 := by omega
    rcases this with rfl | rfl | rfl | rfl | rfl <;> simp
theorem ext_of : ∀ {T : List (List Int)} {q : List TStp}, (T.Pairwise fun a b => lexW a b = true) → (q.Pairwise fun a b => lexW a.ws b.ws = true) → (∀ s ∈ q, s.ws ∈ T ∧ 1 ≤ s.run ∧ s.run ≤ 30) → Ext T q.length q
  | [], [], _, _, _ => ⟨rfl, rfl⟩
  | [], s :: q, _, _, h => by have := (h s (by simp)).1; cases this
  | _ :: _, [], _, _, _ => rfl
  | ws :: T, s :: q, hT, hq, h => by
    obtain ⟨hT1, hT2⟩ := List.pairwise_cons.1 hT
    obtain ⟨hq1, hq2⟩ := List.pairwise_cons.1 hq
    have hs := h s (by simp)
    rw [List.length_cons, Ext]
    by_cases e : s.ws = ws
    · refine .inl ⟨s.run, q, by rw [← e], hs.2, ext_of hT2 hq2 (fun t ht => ?_)⟩
      have h1 := h t (by simp [ht])
      refine ⟨?_, h1.2⟩
      rcases List.mem_cons.1 h1.1 with h2 | h2
      · have h3 := hq1 t ht
        rw [e, h2, lexW_irr] at h3; cases h3
      · exact h2
    · refine .inr ?_
      have hsT : s.ws ∈ T := by
        rcases List.mem_cons.1 hs.1 with h2 | h2
        · exact absurd h2 e
        · exact h2
      have := ext_of (q := s :: q) hT2 hq (fun t ht => ?_)
      · exact this
      · have h1 := h t ht
        refine ⟨?_, h1.2⟩
        rcases List.mem_cons.1 h1.1 with h2 | h2
        · rcases List.mem_cons.1 ht with rfl | ht
          · exact absurd h2 e
          · have h3 := hq1 t ht
            rw [h2] at h3
            have h4 := lexW_asym (hT1 _ hsT)
            rw [h3] at h4; cases h4
        · exact h2
theorem fine_plan {p : TPap} (hp : p.ok) {l : List TOrd} {q : List TStp} (h : Fine p l q) (hl : q.length ≤ 3) (hd : doesP l q = true) : PlanOk p l q := by
  refine ⟨hl, ext_of (pats_ok p l).asc h.asc (fun s hs => ?_), hd⟩
  obtain ⟨h1, h2⟩ := h.ok s hs
  refine ⟨List.mem_filter.2 ⟨?_, h1.pat⟩, h2⟩
  rw [← h1.len]
  exact allW_mem (h1.ws4 hp).b
theorem addG_comm : ∀ (g a b : List Int) (r t : Int), addG (addG g a r) b t = addG (addG g b t) a r
  | [], _, _, _, _ => by simp [addG]
  | _ :: _, [], b, r, t => by rw [addG_nil, addG_nil]
  | _ :: _, _ :: _, [], r, t => by rw [addG_nil, addG_nil]
  | g :: gs, m :: a, n :: b, r, t => by
    rw [addG_cons, addG_cons, addG_cons, addG_cons, addG_comm gs a b r t]
    congr 1
    omega
theorem gotF_add : ∀ (q : List TStp) (g a : List Int) (r : Int), gotF (addG g a r) q = addG (gotF g q) a r
  | [], _, _, _ => rfl
  | s :: q, g, a, r => by rw [gotF, addG_comm, gotF_add q, gotF]
theorem gotF_ins (q : List TStp) (m : Nat) (s : TStp) (g : List Int) : gotF g (q.take m ++ s :: q.drop m) = addG (gotF g q) s.ws s.run := by
  rw [gotF_app, gotF, gotF_add, ← gotF_app, List.take_append_drop]
theorem sum_set : ∀ {ws : List Int} {i : Nat} {v u : Int}, ws[i]? = some v → sumI (ws.set i u) = sumI ws - v + u
  | [], _, _, _, h => by simp at h
  | w :: ws, 0, v, u, h => by cases h; simp only [List.set_cons_zero, sumI]; omega
  | w :: ws, i + 1, v, u, h => by
    have := sum_set (ws := ws) (i := i) (v := v) (u := u) h
    simp only [List.set_cons_succ, sumI, this]; omega
theorem used_set : ∀ {ws : List Int} {i : Nat} {v u : Int}, ws[i]? = some v → usedI (ws.set i u) = usedI ws - (if 0 < v then 1 else 0) + (if 0 < u then 1 else 0)
  | [], _, _, _, h => by simp at h
  | w :: ws, 0, v, u, h => by cases h; simp only [List.set_cons_zero, usedI]; omega
  | w :: ws, i + 1, v, u, h => by
    have := used_set (ws := ws) (i := i) (v := v) (u := u) h
    simp only [List.set_cons_succ, usedI, this]; omega
theorem zeros_sum : ∀ n : Nat, sumI (zeros n) = 0 ∧ usedI (zeros n) = 0
  | 0 => ⟨rfl, rfl⟩
  | n + 1 => by
    obtain ⟨h1, h2⟩ := zeros_sum n
    have e : zeros (n + 1) = 0 :: zeros n := rfl
    rw [e, sumI, usedI, h1, h2]; exact ⟨rfl, rfl⟩
theorem dot_sum : ∀ {ws : List Int} {l : List TOrd}, ws.length = l.length → (∀ v ∈ ws, 0 ≤ v) → (∀ o ∈ l, 300 ≤ o.w ∧ o.w ≤ 746) → 300 * sumI ws ≤ dotI ws l ∧ dotI ws l ≤ 746 * sumI ws
  | [], [], _, _, _ => by simp [sumI, dotI]
  | v :: ws, o :: l, hl, h1, h2 => by
    have ih := dot_sum (ws := ws) (l := l) (by simpa using hl) (fun x hx => h1 x (by simp [hx])) (fun x hx => h2 x (by simp [hx]))
    have hv := h1 v (by simp)
    have ho := h2 o (by simp)
    have m1 : 300 * v ≤ v * o.w := by rw [Int.mul_comm]; exact Int.mul_le_mul_of_nonneg_left ho.1 hv
    have m2 : v * o.w ≤ 746 * v := by rw [Int.mul_comm 746]; exact Int.mul_le_mul_of_nonneg_left ho.2 hv
    simp only [sumI, dotI]
    omega
theorem dot_w : ∀ {ws : List Int} {l l' : List TOrd}, l.map (·.w) = l'.map (·.w) → dotI ws l = dotI ws l'
  | [], _, _, _ => by simp [dotI]
  | _ :: _, [], [], _ => rfl
  | _ :: _, [], _ :: _, h => by simp at h
  | _ :: _, _ :: _, [], h => by simp at h
  | v :: ws, o :: l, o' :: l', h => by
    simp only [List.map_cons, List.cons.injEq] at h
    rw [dotI, dotI, h.1, dot_w h.2]
end Go.Dw.Seat
end
section
set_option linter.unusedSimpArgs false
set_option maxRecDepth 100000
namespace Go.Dw.Seat
open Go Go.Dw Go.Proofs Go.IntWalk
theorem seek_true (ws : List Int) : ∀ (C : List TStp) (k m : Nat), (seekF ws C k m true).2 = true
  | [], _, _ => rfl
  | t :: C, k, m => by
    rw [seekF]
    split
    · exact seek_true ws C _ _
    · split <;> exact seek_true ws C _ _
theorem seek_spec (ws : List Int) : ∀ (C A B : List TStp) (b : Bool), ((A ++ B ++ C).Pairwise fun a b => lexW a.ws b.ws = true) → (∀ t ∈ A, lexW t.ws ws = true) → (b = false → ∀ t ∈ B, lexW ws t.ws = true) → (seekF ws C (A.length + B.length) A.length b).2 = false → ∃ A' C', A ++ B ++ C = A' ++ C' ∧ (seekF ws C (A.length + B.length) A.length b).1 = A'.length ∧ (∀ t ∈ A', lexW t.ws ws = true) ∧ ∀ t ∈ C', lexW ws t.ws = true
  | [], A, B, b, _, hA, hB, h => by
    have hb : b = false := h
    exact ⟨A, B, by simp, rfl, hA, hB hb⟩
  | t :: C, A, B, b, hp, hA, hB, h => by
    rw [seekF] at h ⊢
    by_cases h1 : lexW t.ws ws = true
    · rw [if_pos h1] at h ⊢
      have hpt : ∀ u ∈ A ++ B, lexW u.ws t.ws = true := fun u hu => (List.pairwise_append.1 hp).2.2 u hu t (by simp)
      have ih := seek_spec ws C (A ++ B ++ [t]) [] b (by simpa using hp) (fun u hu => by
        rcases List.mem_append.1 hu with hu | hu
        · exact lexW_trans (hpt u hu) h1
        · rw [List.mem_singleton.1 hu]; exact h1) (fun _ u hu => by cases hu)
      have e : (A ++ B ++ [t]).length + ([] : List TStp).length = A.length + B.length + 1 := by simp only [List.length_append, List.length_cons, List.length_nil]
      have e2 : (A ++ B ++ [t]).length = A.length + B.length + 1 := by simp only [List.length_append, List.length_cons, List.length_nil]
      rw [e, e2] at ih
      obtain ⟨A', C', g1, g2⟩ := ih h
      exact ⟨A', C', by rw [← g1]; simp, g2⟩
    · rw [if_neg h1] at h ⊢
      by_cases h2 : lexW ws t.ws = true
      · rw [if_pos h2] at h ⊢
        have ih := seek_spec ws C A (B ++ [t]) b (by simpa using hp) hA (fun hb u hu => by
          rcases List.mem_append.1 hu with hu | hu
          · exact hB hb u hu
          · rw [List.mem_singleton.1 hu]; exact h2)
        have e : A.length + (B ++ [t]).length = A.length + B.length + 1 := by simp only [List.length_append, List.length_cons, List.length_nil]; omega
        rw [e] at ih
        obtain ⟨A', C', g1, g2⟩ := ih h
        exact ⟨A', C', by rw [← g1]; simp, g2⟩
      · rw [if_neg h2, seek_true] at h
        cases h
theorem mW_spec (x : List Nat) (i : Nat) : ((mW x i).length = mN x ∧ ∀ v ∈ mW x i, 0 ≤ v) ∧ (1 ≤ sumI (mW x i) ∧ sumI (mW x i) ≤ 4) ∧ usedI (mW x i) ≤ 2 := by
  have hmN : 0 < mN x := by unfold mN; omega
  have hA : mA x i < mN x := Nat.mod_lt _ hmN
  have hB : mB x i < mN x := Nat.mod_lt _ hmN
  have hna : 1 ≤ mna x i ∧ mna x i ≤ 3 := by unfold mna; omega
  have hzl : (zeros (mN x)).length = mN x := by simp [zeros]
  obtain ⟨z1, z2⟩ := zeros_sum (mN x)
  have hz : ∀ j, j < mN x → (zeros (mN x))[j]? = some 0 := fun j hj => by rw [zeros, List.getElem?_replicate, if_pos hj]
  have hzv : ∀ v ∈ zeros (mN x), 0 ≤ v := fun v hv => by rw [List.eq_of_mem_replicate hv]; omega
  have s1 := sum_set (u := ((mna x i : Nat) : Int)) (hz _ hA)
  have u1 := used_set (u := ((mna x i : Nat) : Int)) (hz _ hA)
  rw [if_neg (by omega), if_pos (by omega)] at u1
  have hW1l : (mW1 x i).length = mN x := by rw [mW1, List.length_set, hzl]
  have hW1v : ∀ v ∈ mW1 x i, 0 ≤ v := fun v hv => by
    rcases List.mem_or_eq_of_mem_set hv with h | h
    · exact hzv v h
    · omega
  have s1' : sumI (mW1 x i) = sumI (zeros (mN x)) - 0 + ((mna x i : Nat) : Int) := s1
  have u1' : usedI (mW1 x i) = usedI (zeros (mN x)) - 0 + 1 := u1
  unfold mW
  by_cases hab : mA x i = mB x i
  · rw [if_pos hab]
    exact ⟨⟨hW1l, hW1v⟩, by omega, by omega⟩
  · rw [if_neg hab]
    have hg : (mW1 x i)[mB x i]? = some 0 := by rw [mW1, List.getElem?_set_ne hab, hz _ hB]
    have hnb : mnb x i < 5 - mna x i := Nat.mod_lt _ (by omega)
    have s2 := sum_set (u := ((mnb x i : Nat) : Int)) hg
    have u2 := used_set (u := ((mnb x i : Nat) : Int)) hg
    rw [if_neg (by omega)] at u2
    refine ⟨⟨by rw [List.length_set, hW1l], fun v hv => ?_⟩, by omega, ?_⟩
    · rcases List.mem_or_eq_of_mem_set hv with h | h
      · exact hW1v v h
      · omega
    · split at u2 <;> omega
theorem w4_of {l : List TOrd} {ws : List Int} (hl : ws.length = l.length) (h1 : ∀ v ∈ ws, 0 ≤ v) (h2 : sumI ws ≤ 4) : Ws4 l ws := by
  refine ⟨hl, fun n hn => ⟨h1 n hn, ?_⟩⟩
  have : ∀ ws : List Int, (∀ n ∈ ws, 0 ≤ n) → ∀ n ∈ ws, n ≤ sumI ws := by
    intro ws
    induction ws with
    | nil => intro _ n hn; cases hn
    | cons a ws ih =>
      intro h n hn
      have hs := sum_nn ws (fun x hx => h x (by simp [hx]))
      have ha := h a (by simp)
      rcases List.mem_cons.1 hn with rfl | hn
      · simp only [sumI]; omega
      · have := ih (fun x hx => h x (by simp [hx])) n hn
        simp only [sumI]; omega
  have := this ws h1 n hn
  omega
theorem mW_w4 (x : List Nat) (i : Nat) : Ws4 (mL0 x (mN x)) (mW x i) := by
  have h := mW_spec x i
  exact w4_of (by rw [mL0_len, h.1.1]) h.1.2 h.2.1.2
theorem made_left {x : List Nat} (hb : ∀ v ∈ x, v < 256) {ws : List Int} (h1 : ws.length = mN x) (h2 : ∀ v ∈ ws, 0 ≤ v) (h3 : 1 ≤ sumI ws ∧ sumI ws ≤ 4) : 16 ≤ 3000 - dotI ws (mL0 x (mN x)) ∧ 3000 - dotI ws (mL0 x (mN x)) ≤ 2700 := by
  have := dot_sum (l := mL0 x (mN x)) (by rw [mL0_len, h1]) h2 (fun o ho => (mL0_w hb ho).1)
  omega
theorem mS_inv {x : List Nat} (hb : ∀ v ∈ x, v < 256) : ∀ i, MInv x i (mS x i)
  | 0 => ⟨Nat.le_refl _, fun h => absurd h (by omega), fun s hs => (by cases hs), List.Pairwise.nil, rfl, fun v hv => by (have := List.eq_of_mem_replicate (show v ∈ List.replicate (mN x) (0 : Int) from hv); subst this; simp), by simp only [mS]; omega, by simp only [mS]; omega⟩
  | i + 1 => by
    have hI := mS_inv hb i
    rw [mS]
    generalize mS x i = S at hI
    unfold stepM
    dsimp only
    have hsp := seek_spec (mW x i) S.q [] [] (mLk x i) (by simpa using hI.asc) (fun t ht => by cases ht) (fun _ t ht => by cases ht)
    simp only [List.length_nil, Nat.add_zero, List.nil_append] at hsp
    cases hk : (seekF (mW x i) S.q 0 0 (mLk x i)).2 with
    | true =>
      rw [if_pos rfl]
      refine ⟨by have := hI.len; omega, fun _ => ?_, hI.st, hI.asc, hI.got, fun v hv => by have := hI.gb v hv; omega, hI.lo, hI.hi⟩
      by_cases hi : i = 0
      · subst hi
        have : S.q = [] := List.length_eq_zero_iff.1 (by have := hI.len; omega)
        rw [this, seekF] at hk
        have h0 : mLk x 0 = false := rfl
        rw [h0] at hk; cases hk
      · exact hI.ne (by omega)
    | false =>
      rw [if_neg Bool.false_ne_true]
      obtain ⟨A, C, hq, hm, hA, hC⟩ := hsp hk
      have hw := mW_spec x i
      have hlf := made_left hb hw.1.1 hw.1.2 hw.2.1
      have hrun : 1 ≤ (mT x i).run ∧ (mT x i).run ≤ 8 := by show 1 ≤ 1 + ((mv x i 4 % 8 : Nat) : Int) ∧ 1 + ((mv x i 4 % 8 : Nat) : Int) ≤ 8; omega
      have hlo := hI.lo
      have hhi := hI.hi
      have hta : S.q.take A.length = A := by rw [hq, List.take_left]
      have htc : S.q.drop A.length = C := by rw [hq, List.drop_left]
      have hasc := hI.asc
      rw [hq] at hasc
      obtain ⟨p1, p2, p3⟩ := List.pairwise_append.1 hasc
      rw [hm]
      have hlen := hI.len
      rw [hq, List.length_append] at hlen
      have hst : ∀ s ∈ A ++ mT x i :: C, s ∈ S.q ∨ s = mT x i := fun s hs => by
        rw [hq]
        simp only [List.mem_append, List.mem_cons] at hs ⊢
        rcases hs with h | h | h
        · exact .inl (.inl h)
        · exact .inr h
        · exact .inl (.inr h)
      refine ⟨?_, fun _ => ?_, fun s hs => ?_, ?_, ?_, fun v hv => ?_, ?_, ?_⟩ <;> dsimp only at *
      · rw [hta, htc, List.length_append, List.length_cons]; omega
      · simp
      · rw [hta, htc] at hs
        rcases hst s hs with h | rfl
        · have := hI.st s h
          refine ⟨this.1, this.2.1, this.2.2.1, this.2.2.2.1, ?_, ?_⟩
          · have := this.2.2.2.2.1; omega
          · have := this.2.2.2.2.2; omega
        · refine ⟨hw.1, hw.2.1, hw.2.2, hrun, ?_, ?_⟩
          · show _ ≤ 3000 - dotI (mW x i) (mL0 x (mN x)); omega
          · show 3000 - dotI (mW x i) (mL0 x (mN x)) ≤ _; omega
      · rw [hta, htc]
        refine List.pairwise_append.2 ⟨p1, List.pairwise_cons.2 ⟨hC, p2⟩, fun a ha c hc => ?_⟩
        rcases List.mem_cons.1 hc with rfl | hc
        · exact hA a ha
        · exact p3 a ha c hc
      · rw [gotF_ins, ← hI.got]; rfl
      · have := addG_b hI.gb (mW_w4 x i).b (r := (mT x i).run) (by omega) v hv
        simp only [Int.natCast_add, Int.natCast_one]; omega
      · omega
      · omega
end Go.Dw.Seat
end
section
set_option linter.unusedSimpArgs false
set_option maxRecDepth 100000
namespace Go.Dw.Seat
open Go Go.Dw Go.Proofs Go.IntWalk
theorem does_of : ∀ {l : List TOrd} {got : List Int}, (∀ (i : Nat) (o : TOrd) (g : Int), l[i]? = some o → got[i]? = some g → o.lo ≤ g ∧ g ≤ o.hi) → doesB l got = true
  | [], _, _ => by simp [doesB]
  | _ :: _, [], _ => by simp [doesB]
  | o :: l, g :: got, h => by
    have h0 := h 0 o g rfl rfl
    rw [doesB, decide_eq_true h0.1, decide_eq_true h0.2, Bool.true_and, Bool.true_and]
    exact does_of (fun i o' g' h1 h2 => h (i + 1) o' g' h1 h2)
theorem mL_len (x : List Nat) : (mL x).length = mN x := mLn_len _ _ _
theorem mL_get {x : List Nat} {i : Nat} (hi : i < mN x) : (mL x)[i]? = some (mNd x (mS x 3).G i) := by
  rw [mL, mLn, List.getElem?_map, List.getElem?_range hi, Option.map_some, if_pos hi]
theorem mL_w (x : List Nat) : (mL x).map (·.w) = (mL0 x (mN x)).map (·.w) := by
  rw [mL, mLn, mL0, List.map_map, List.map_map]
  apply List.map_congr_left
  intro j hj
  have := List.mem_range.1 hj
  simp only [Function.comp]
  rw [if_pos this]; rfl
structure Made (p : TPap) (l : List TOrd) (q : List TStp) : Prop where
  pok : p.ok
  wide : p.wide = 3000
  th : p.th ≤ 2800
  ln : 1 ≤ l.length ∧ l.length ≤ 4
  lo : ∀ o ∈ l, o.ok
  hi98 : ∀ o ∈ l, o.hi ≤ 98
  wb : ∀ o ∈ l, 300 ≤ o.w ∧ o.w ≤ 746
  fine : Fine p l q
  len : q.length ≤ 3
  ne : q ≠ []
  does : doesP l q = true
theorem made_good {x : List Nat} (hb : AllLt 256 x) : Made (mP x) (mL x) (mQ x) := by
  have hI := mS_inv hb 3
  have hlen := hI.len
  have hlo := hI.lo
  have hhi := hI.hi
  have hne : mQ x ≠ [] := hI.ne (by decide)
  have hGl : (mS x 3).G.length = mN x := by rw [hI.got, gotF_len]; simp [zeros]
  have hget : ∀ o ∈ mL x, ∃ i g, i < mN x ∧ (mS x 3).G[i]? = some g ∧ (0 ≤ g ∧ g ≤ 96) ∧ o = ⟨300 + 7 * (gB x i : Int) / 4, max 0 (g - (gB x (20 + 2 * i) % 3 : Nat)), g + (gB x (21 + 2 * i) % 3 : Nat)⟩ := fun o ho => by
    obtain ⟨i, hi, rfl⟩ := List.mem_iff_getElem.1 ho
    rw [mL_len] at hi
    have h1 := mL_get hi
    obtain ⟨g, hg⟩ := getE (l := (mS x 3).G) (i := i) (by omega)
    refine ⟨i, g, hi, hg, by have := hI.gb g (List.mem_of_getElem? hg); omega, ?_⟩
    rw [(List.getElem_eq_iff _).2 h1, mNd, List.getD_eq_getElem?_getD, hg]; rfl
  have hwb : ∀ o ∈ mL x, 300 ≤ o.w ∧ o.w ≤ 746 := fun o ho => by
    obtain ⟨i, g, hi, _, _, rfl⟩ := hget o ho
    have := gB_lt hb i
    dsimp only; omega
  obtain ⟨s0, hs0⟩ : ∃ s, s ∈ (mS x 3).q := by
    cases h : (mS x 3).q with
    | nil => exact absurd h hne
    | cons s _ => exact ⟨s, by simp⟩
  have h0 := (hI.st s0 hs0).2.2.2.2
  have hpo : (mP x).ok := ⟨by simp only [mP]; omega, by simp only [mP]; omega, by simp only [mP]; omega⟩
  refine ⟨hpo, rfl, by simp only [mP]; omega, ?_, ?_, ?_, hwb, ⟨fun s hs => ?_, hI.asc⟩, hlen, hne, ?_⟩
  · rw [mL_len]; unfold mN; omega
  · intro o ho
    have hw := hwb o ho
    obtain ⟨i, g, hi, _, _, rfl⟩ := hget o ho
    exact ⟨by dsimp only at hw ⊢; omega, by dsimp only; omega⟩
  · intro o ho
    obtain ⟨i, g, hi, _, _, rfl⟩ := hget o ho
    dsimp only; omega
  · have h1 := hI.st s hs
    have hlf := made_left hb h1.1.1 h1.1.2 h1.2.1
    have hd : dotI s.ws (mL x) = dotI s.ws (mL0 x (mN x)) := dot_w (mL_w x)
    have h2 := h1.2.2.2.2
    have h3 := h1.2.2.2.1
    refine ⟨⟨by rw [mL_len, h1.1.1], h1.1.2, ?_⟩, by omega⟩
    have ht : trimI (mP x) (mL x) s.ws = 3000 - dotI s.ws (mL0 x (mN x)) := by rw [trimI, hd]; rfl
    have h4 := h1.2.1
    have h5 := h1.2.2.1
    simp only [patB, ht, Bool.and_eq_true, decide_eq_true_eq]
    simp only [mP]
    omega
  · unfold doesP
    refine does_of (fun i o g h1 h2 => ?_)
    have hi := (List.getElem?_eq_some_iff.1 h1).1
    rw [mL_len] at hi
    rw [mL_get hi] at h1
    cases h1
    rw [mL_len] at h2
    have e : (mS x 3).G[i]? = some g := by rw [hI.got]; exact h2
    simp only [mNd, List.getD_eq_getElem?_getD, e, Option.getD_some]
    have := hI.gb g (List.mem_of_getElem? e)
    omega
end Go.Dw.Seat
end
section
set_option linter.unusedSimpArgs false
set_option maxRecDepth 100000
namespace Go.Dw.Seat
open Go Go.Dw Go.Proofs Go.IntWalk
def mrJ (f : Nat → TOrd → TOrd) (l : List TOrd) (k : Nat) : List TOrd := l.mapIdx fun i o => if i < k then f i o else o
theorem mrJ_len (f : Nat → TOrd → TOrd) (l : List TOrd) (k : Nat) : (mrJ f l k).length = l.length := by simp [mrJ]
theorem mrJ_zero (f : Nat → TOrd → TOrd) (l : List TOrd) : mrJ f l 0 = l := by
  apply List.ext_getElem?
  intro j
  rw [mrJ, List.getElem?_mapIdx]
  cases l[j]? <;> simp
theorem mrJ_get {f : Nat → TOrd → TOrd} {l : List TOrd} {k : Nat} {o : TOrd} (h : l[k]? = some o) : (mrJ f l k)[k]? = some o := by
  rw [mrJ, List.getElem?_mapIdx, h]; simp
theorem mrJ_set {f : Nat → TOrd → TOrd} {l : List TOrd} {k : Nat} {o : TOrd} (h : l[k]? = some o) : (mrJ f l k).set k (f k o) = mrJ f l (k + 1) := by
  have hk := (List.getElem?_eq_some_iff.1 h).1
  apply List.ext_getElem?
  intro j
  rw [List.getElem?_set, mrJ_len, mrJ, mrJ, List.getElem?_mapIdx, List.getElem?_mapIdx]
  by_cases e : k = j
  · subst e
    rw [if_pos rfl, if_pos hk, h]; simp
  · rw [if_neg e]
    cases l[j]? with
    | none => rfl
    | some u =>
      simp only [Option.map_some]
      by_cases h1 : j < k
      · rw [if_pos h1, if_pos (by omega)]
      · rw [if_neg h1, if_neg (by omega)]
theorem mrJ_ok {f : Nat → TOrd → TOrd} {l : List TOrd} (k : Nat) (hl : ∀ o ∈ l, o.ok) (hf : ∀ i o, o.ok → (f i o).ok) : ∀ o ∈ mrJ f l k, o.ok := fun o ho => by
  obtain ⟨i, hi, rfl⟩ := List.mem_iff_getElem.1 ho
  rw [mrJ_len] at hi
  obtain ⟨u, hu⟩ := getE (l := l) (i := i) hi
  have hou := hl u (List.mem_of_getElem? hu)
  have h1 : (mrJ f l k)[i]? = some (if i < k then f i u else u) := by rw [mrJ, List.getElem?_mapIdx, hu]; rfl
  rw [(List.getElem_eq_iff _).2 h1]
  split
  · exact hf i u hou
  · exact hou
def posN (s : Nat) : Nat → Nat → List Nat
  | _, 0 => []
  | i, n + 1 => if s / 2 ^ i % 2 = 1 then i :: posN s (i + 1) n else posN s (i + 1) n
theorem nums_pos' : ∀ s : Fin 16, ∀ n : Fin 5, s.1 < 2 ^ n.1 → numsI s.1 = (posN s.1 0 n.1).map fun (k : Nat) => (k : Int) := by decide +kernel
theorem nums_asc' : ∀ s : Fin 16, (numsI s.1).Pairwise (· < ·) := by decide +kernel
theorem bit_off' : ∀ s : Fin 16, ∀ k : Fin 4, ∀ i : Fin 4, s.1 / 2 ^ k.1 % 2 = 1 → (s.1 - 2 ^ k.1) / 2 ^ i.1 % 2 = if i.1 = k.1 then 0 else s.1 / 2 ^ i.1 % 2 := by decide +kernel
theorem nums_off' : ∀ s : Fin 16, ∀ k : Fin 4, s.1 / 2 ^ k.1 % 2 = 1 → (numsI (s.1 - 2 ^ k.1)).length + 1 = (numsI s.1).length := by decide +kernel
theorem pos_len (s : Nat) : ∀ (l : List TOrd) (i : Nat), (posN s i l.length).length = (selF s i l).length
  | [], _ => rfl
  | o :: l, i => by
    rw [List.length_cons, posN, selF]
    split
    · rw [List.length_cons, List.length_cons, pos_len s l (i + 1)]
    · exact pos_len s l (i + 1)
theorem pos_get {s : Nat} : ∀ {l : List TOrd} {i j k : Nat}, (posN s i l.length)[j]? = some k → (i ≤ k ∧ k < i + l.length) ∧ s / 2 ^ k % 2 = 1 ∧ ∃ o, l[k - i]? = some o ∧ (selF s i l)[j]? = some o
  | [], i, j, k, h => by simp [posN] at h
  | o :: l, i, j, k, h => by
    rw [List.length_cons, posN] at h
    rw [selF, List.length_cons]
    by_cases hb : s / 2 ^ i % 2 = 1
    · rw [if_pos hb] at h ⊢
      cases j with
      | zero =>
        cases h
        exact ⟨by omega, hb, o, by rw [Nat.sub_self]; rfl, rfl⟩
      | succ j =>
        obtain ⟨h1, h2, u, h3, h4⟩ := pos_get (l := l) (i := i + 1) (j := j) h
        exact ⟨by omega, h2, u, by rw [show k - i = (k - (i + 1)) + 1 by omega]; exact h3, h4⟩
    · rw [if_neg hb] at h ⊢
      obtain ⟨h1, h2, u, h3, h4⟩ := pos_get (l := l) (i := i + 1) (j := j) h
      exact ⟨by omega, h2, u, by rw [show k - i = (k - (i + 1)) + 1 by omega]; exact h3, h4⟩
theorem selF_congr {s t : Nat} : ∀ {l : List TOrd} {i : Nat}, (∀ k, i ≤ k → k < i + l.length → s / 2 ^ k % 2 = t / 2 ^ k % 2) → selF s i l = selF t i l
  | [], _, _ => rfl
  | o :: l, i, h => by
    have h0 := h i (Nat.le_refl _) (by simp)
    rw [selF, selF, h0, selF_congr (l := l) (i := i + 1) (fun k h1 h2 => h k (by omega) (by rw [List.length_cons]; omega))]
theorem selF_off {s : Nat} (hs : s < 16) : ∀ {l : List TOrd} {i j k : Nat}, i + l.length ≤ 4 → (posN s i l.length)[j]? = some k → selF (s - 2 ^ k) i l = (selF s i l).take j ++ (selF s i l).drop (j + 1)
  | [], i, j, k, _, h => by simp [posN] at h
  | o :: l, i, j, k, h4, h => by
    have hg := pos_get (l := o :: l) (i := i) h
    rw [List.length_cons] at h4 hg
    have hbit := fun (m : Nat) (hm : m < 4) => bit_off' ⟨s, hs⟩ ⟨k, by omega⟩ ⟨m, hm⟩ hg.2.1
    dsimp only at hbit
    rw [List.length_cons, posN] at h
    rw [selF, selF, hbit i (by omega)]
    by_cases hb : s / 2 ^ i % 2 = 1
    · rw [if_pos hb] at h
      rw [if_pos hb]
      cases j with
      | zero =>
        cases h
        rw [if_pos rfl, if_neg (by omega), List.take_zero, List.nil_append, List.drop_succ_cons, List.drop_zero]
        refine selF_congr (fun m h1 h2 => ?_)
        rw [hbit m (by omega), if_neg (by omega)]
      | succ j =>
        have hk := (pos_get (l := l) (i := i + 1) (j := j) h).1
        rw [show (if i = k then 0 else s / 2 ^ i % 2) = s / 2 ^ i % 2 from if_neg (by omega), if_pos hb, selF_off hs (l := l) (i := i + 1) (j := j) (by omega) h, List.take_succ_cons, List.drop_succ_cons, List.cons_append]
    · rw [if_neg hb] at h
      have hk := (pos_get (l := l) (i := i + 1) (j := j) h).1
      rw [if_neg hb, show (if i = k then 0 else s / 2 ^ i % 2) = s / 2 ^ i % 2 from if_neg (by omega), if_neg hb]
      exact selF_off hs (l := l) (i := i + 1) (j := j) (by omega) h
theorem cmpL2_len {M b : List Int} : (cmpL2 M b < 0 → M.length ≤ b.length) ∧ (¬ cmpL2 M b < 0 → b.length ≤ M.length) := by
  have h := cmpL2_neg M b
  constructor
  · intro h1
    have := h.1 h1
    simp only [Bool.or_eq_true, decide_eq_true_eq, not_or] at this
    omega
  · intro h1
    apply Nat.le_of_not_lt
    intro h2
    exact h1 (h.2 (by
      simp only [Bool.or_eq_true, Bool.and_eq_true, decide_eq_true_eq]
      omega))
theorem minBy_len : ∀ (l : List (List Int)) (m : List Int), (minBy cmpL2 m l).length ≤ m.length ∧ ∀ y ∈ l, (minBy cmpL2 m l).length ≤ y.length
  | [], m => ⟨Nat.le_refl _, fun y hy => by cases hy⟩
  | x :: l, m => by
    obtain ⟨h1, h2⟩ := minBy_len l (if cmpL2 x m < 0 then x else m)
    have hc := cmpL2_len (M := x) (b := m)
    rw [minBy]
    have hle : (if cmpL2 x m < 0 then x else m).length ≤ m.length ∧ (if cmpL2 x m < 0 then x else m).length ≤ x.length := by
      by_cases h : cmpL2 x m < 0
      · rw [if_pos h]; exact ⟨hc.1 h, Nat.le_refl _⟩
      · rw [if_neg h]; exact ⟨Nat.le_refl _, hc.2 h⟩
    refine ⟨by omega, fun y hy => ?_⟩
    rcases List.mem_cons.1 hy with rfl | hy
    · omega
    · exact h2 y hy
structure Oppo (p : TPap) (l : List TOrd) (a : List Int) (S : List TOrd) : Prop where
  len : a.length = S.length
  ne : 0 < a.length
  le : a.length ≤ l.length
  ok : ∀ o ∈ S, o.ok
  bad : planF p S = none
  at' : ∀ (i : Nat) (v : Int), a[i]? = some v → ∃ (k : Nat) (o : TOrd), v = (k : Int) ∧ k < l.length ∧ l[k]? = some o ∧ S[i]? = some o
  asc : ∀ (i : Nat) (u v : Int), 0 < i → a[i - 1]? = some u → a[i]? = some v → u < v
  off : ∀ i, i < a.length → (planF p (S.take i ++ S.drop (i + 1))).isSome = true
theorem oppo {p : TPap} (hp : p.ok) {l : List TOrd} (hl : l.length ≤ 4) (ho : ∀ o ∈ l, o.ok) (hR : planF p l = none) : ∃ (a : List Int) (S : List TOrd), agD p l = dIs false a ∧ agE p l = 0 ∧ Oppo p l a S := by
  have hE : agE p l = 0 := by unfold agE; rw [if_neg (by rw [openE_yes hp hl ho]; decide), hR]; rfl
  have hne := badsF_ne hl hR
  have hpw : 2 ^ l.length ≤ 16 := Nat.pow_le_pow_right (n := 2) (by decide) hl
  rw [agD, hE, if_neg (by decide)]
  cases hB : badsF p l (2 ^ l.length) with
  | nil => exact absurd hB hne
  | cons x t =>
    dsimp only
    have hmem : minBy cmpL2 x t ∈ badsF p l (2 ^ l.length) := by
      rw [hB]
      rcases minBy_mem cmpL2 t x with h | h
      · rw [h]; simp
      · exact List.mem_cons_of_mem _ h
    have hlen : ∀ y ∈ badsF p l (2 ^ l.length), (minBy cmpL2 x t).length ≤ y.length := by
      rw [hB]
      have := minBy_len t x
      intro y hy
      rcases List.mem_cons.1 hy with rfl | hy
      · exact this.1
      · exact this.2 y hy
    generalize minBy cmpL2 x t = a at *
    rw [badsF, List.mem_map] at hmem
    obtain ⟨s, hs, rfl⟩ := hmem
    obtain ⟨hs1, hs2⟩ := List.mem_filter.1 hs
    have hsl := List.mem_range.1 hs1
    have hs16 : s < 16 := by omega
    have hnp := nums_pos' ⟨s, hs16⟩ ⟨l.length, by omega⟩ hsl
    have hpl := pos_len s l 0
    dsimp only at hnp
    refine ⟨_, selF s 0 l, rfl, rfl, ?_⟩
    have hbad : planF p (selF s 0 l) = none := by simpa using hs2
    have hlS : (numsI s).length = (selF s 0 l).length := by rw [hnp, List.length_map, hpl]
    refine ⟨hlS, ?_, by rw [hlS]; exact selF_len, fun o h => ho o (selF_mem o h), hbad, ?_, ?_, ?_⟩
    · rcases Nat.eq_zero_or_pos (numsI s).length with h | h
      · exfalso
        have h0 : selF s 0 l = [] := List.length_eq_zero_iff.1 (by omega)
        rw [h0] at hbad
        have hsp := plan_spec hp (l := []) (fun o h => by cases h)
        rw [hbad] at hsp
        refine hsp [] (fine_plan hp ⟨fun s hs => (by cases hs), .nil⟩ (by simp) ?_)
        unfold doesP
        simp [doesB]
      · exact h
    · intro i v hv
      rw [hnp, List.getElem?_map] at hv
      cases hk : (posN s 0 l.length)[i]? with
      | none => rw [hk] at hv; cases hv
      | some k =>
        rw [hk] at hv
        cases hv
        obtain ⟨h1, h2, o, h3, h4⟩ := pos_get hk
        exact ⟨k, o, rfl, by omega, h3, h4⟩
    · intro i u v hi hu hv
      have h1 := List.pairwise_iff_getElem.1 (nums_asc' ⟨s, hs16⟩)
      have hu1 := (List.getElem?_eq_some_iff.1 hu)
      have hv1 := (List.getElem?_eq_some_iff.1 hv)
      have := h1 (i - 1) i hu1.1 hv1.1 (by omega)
      dsimp only at this
      rw [hu1.2, hv1.2] at this
      exact this
    · intro i hi
      obtain ⟨k, hk⟩ : ∃ k, (posN s 0 l.length)[i]? = some k := ⟨_, List.getElem?_eq_getElem (by rw [hpl]; omega)⟩
      obtain ⟨h1, h2, o, h3, h4⟩ := pos_get hk
      rw [← selF_off hs16 (by omega) hk]
      have hno := nums_off' ⟨s, hs16⟩ ⟨k, by omega⟩ h2
      dsimp only at hno
      have hsub : s - 2 ^ k ≤ s := Nat.sub_le _ _
      cases hq : planF p (selF (s - 2 ^ k) 0 l) with
      | some _ => rfl
      | none =>
        exfalso
        have := hlen (numsI (s - 2 ^ k)) (by
          rw [badsF, List.mem_map]
          exact ⟨s - 2 ^ k, List.mem_filter.2 ⟨List.mem_range.2 (Nat.lt_of_le_of_lt hsub hsl), by rw [hq]; rfl⟩, rfl⟩)
        omega
end Go.Dw.Seat
end
section
set_option linter.unusedSimpArgs false
set_option maxRecDepth 100000
namespace Go.Dw.Seat
open Go Go.Dw Go.Proofs Go.IntWalk
theorem eN_dU (x : List Nat) : (eN x).map D.c = x.map dU := by rw [eN, List.map_map]; rfl
theorem close_dU (σ : St) (o : Option Nat) : ∀ l : List Nat, closeDs σ o (l.map dU) = some (l.map dU)
  | [] => rfl
  | v :: l => by rw [List.map_cons, closeDs, close_dU σ o l]; rfl
theorem all30 {x : List Nat} (hx : x.length = 30) : List.take 30 (x.map dU) = x.map dU := List.take_of_length_le (by rw [List.length_map]; omega)
theorem gB_get2 {x : List Nat} {i : Nat} (hi : i < x.length) : (x.map dU)[i]? = some (dU (gB x i)) := cell_dU (by rw [gB, List.getD_eq_getElem?_getD, List.getElem?_eq_getElem hi]; rfl)
theorem laOwnO (l : List TOrd) (hl : l.length ≤ 2 ^ 36) (k : Nat) : DCall Try.prog 22 [.c (.sl false 3 (rows eO l))] [] (.own k) [(k, .row 3 (rowC (rows eO l)))] := by
  refine DCall.rename (k0 := 3) ?_ k
  refine DCall.of Try.func22 sf22 hb22 (Nat.le_of_ble_eq_true rfl) okRes_row ?_; simp only [s22, idxs, Nat.reduceAdd]
  repeat' (first
    | (with_reducible first | refine DW.seq ?_ | refine DW.block ?_ | refine DW.skip ?_ | refine DW.exit ?_ | refine DW.ret ?_ | refine DW.reg ?_)
    | (simp (disch := omega) only [go_sem, simprocAttr, bm_box, bm_row, bk_box, bk_row])
    | (exact retS_of rfl rfl rfl)
    | (refine DW.cond_tt rfl ?_)
    | (refine DW.cond_ff rfl ?_)
    | (refine DW.cond rfl ?_ ?_ <;> intro hc <;> (try simp only [go_sem] at hc))
    | (refine g_split ?_ ?_ <;> intro hc <;> (try simp only [hc]) <;> (try simp only [go_sem] at hc)))
  refine retS_row ?_ ?_ (rowC_nb (rows_nb eO_nb l)) <;> rfl
end Go.Dw.Seat
end
section
set_option linter.unusedSimpArgs false
set_option maxRecDepth 100000
namespace Go.Dw.Seat
open Go Go.Dw Go.Proofs Go.IntWalk
theorem madeO_ok (p : TPap) (l : List TOrd) (q : List TStp) : okRes (.tup [papD p, .own 23, dSt false q]) [(23, .row 3 (rowC (rows eO l)))] := by
  refine ⟨fun j hj => ?_, fun j x hj i _ => ?_⟩
  · simp only [get] at hj
    by_cases e : j = 23
    · subst e; simp at hj
    · simp [D.men, D.mens, e, Ne.symm e]
  · simp only [get] at hj
    split at hj
    · cases hj; exact rowC_men i 3 _
    · cases hj
set_option maxHeartbeats 8000000 in
theorem laMadeO (x : List Nat) (hx : x.length = 30) (hb : AllLt 256 x) (hinv : ∀ i, i ≤ 3 → MInv x i (mS x i)) (hW : ∀ i, i < 3 → Ws4 (mL0 x (mN x)) (mW x i)) : DCall Try.prog 42 [shD x] [] (.tup [papD (mP x), .own 23, dSt false (mQ x)]) [(23, .row 3 (rowC (rows eO (mL x))))] := by
  have c1 := laSpan 3000 0
  refine DCall.of Try.func42 sf42 hb42 (Nat.le_of_ble_eq_true rfl) (madeO_ok _ _ _) ?_
  simp only [s42, o42_0, o42_1, o42_2, o42_3, o42_4, o42_5, o42_6, o42_7, o42_8, o42_9, o42_10, o42_11, idxs, Nat.reduceAdd]
  repeat' (first
    | (with_reducible first | refine DW.seq ?_ | refine DW.block ?_ | refine DW.skip ?_ | refine DW.exit ?_ | refine DW.ret ?_ | refine DW.reg ?_)
    | (refine DW.dreg rfl (WF.of ?_) ?_; first | rfl | skip)
    | (refine DW.ord rfl (WF.of (by first | rfl | simp (disch := omega) only [go_sem, simprocAttr, bm_box, bm_row, bk_box, bk_row])) ?_ ?_ ?_; rotate_left)
    | rfl
    | (with_reducible refine And.intro ?_ ?_)
    | (simp (disch := omega) only [go_sem, simprocAttr, bm_box, bm_row, bk_box, bk_row])
    | (exact retS_of rfl rfl rfl)
    | (refine DW.cond_tt rfl ?_)
    | (refine call_c (c1) (by decide) ?_)
    | (refine DW.cond_ff rfl ?_)
    | (refine DW.cond rfl ?_ ?_ <;> intro hc <;> (try simp only [go_sem] at hc))
    | (refine g_split ?_ ?_ <;> intro hc <;> (try simp only [hc]) <;> (try simp only [go_sem] at hc)))
  refine DW.loop (ι := { i : Nat // i ≤ mN x }) (fun i => ⟨255, [(8, dI i.1), (7, .own 24), (6, .own 23), (5, .box 5 0), (4, .c (.v (.slice none 0 0))), (3, .c (.v (.slice none 0 0))), (2, .box 2 0), (1, .box 1 0)], [(24, .row 2 []), (23, .row 3 (rowC (rows eO (mL0 x i.1)))), (5, .box [dI 3000, dI 3000, dI 0, dI 4]), (2, .box [dI 0, dI 0, dI 0, dI 0]), (1, shB x)]⟩) (fun i => mN x - i.1) ⟨0, Nat.zero_le _⟩ ?_ ?_
  · refine Ent.to ?_ ?_ <;> simp (disch := omega) only [wkT_cons, wkX_cons, wkT_nil, wkX_nil, get, Nat.reduceEqDiff, ↓reduceIte, ex_some, wk_self, wk_top, wk_nil, wkB_self, and_self, dI, i64_in, and_true, true_and, Int.natCast_add, Int.natCast_one, Int.ofNat_zero, Int.natCast_zero, mL0, List.range_zero]
    all_goals first | exact ⟨.refl _, .refl _, .refl _⟩ | exact ⟨.refl _, .refl _⟩ | exact .refl _
  rintro ⟨i, hi⟩
  dsimp only
  have r4 := gB_get hx (i := 4) (by decide)
  have b4 := gB_lt hb 4
  have v4 : IntKind.i64.wrap ((gB x 4 : Nat) : Int) = ((gB x 4 : Nat) : Int) := IntWalk.i64_in _ (by omega)
  have m4 : Int.tmod ((gB x 4 : Nat) : Int) 4 = ((gB x 4 % 4 : Nat) : Int) := rfl
  by_cases hc : i < mN x
  · have hd : decide ((i : Int) ≤ ((gB x 4 % 4 : Nat) : Int)) = true := decide_eq_true (by unfold mN at hc; omega)
    have hi4 : i < 4 := by unfold mN at hc; omega
    have ri := gB_get hx (i := i) (by omega)
    have bi := gB_lt hb i
    have v5 : IntKind.i64.wrap ((gB x i : Nat) : Int) = ((gB x i : Nat) : Int) := IntWalk.i64_in _ (by omega)
    have v6 : IntKind.i64.wrap (7 * ((gB x i : Nat) : Int)) = 7 * ((gB x i : Nat) : Int) := IntWalk.i64_in _ (by omega)
    have t6 : Int.tdiv (7 * ((gB x i : Nat) : Int)) 4 = 7 * ((gB x i : Nat) : Int) / 4 := Int.tdiv_eq_ediv_of_nonneg (by omega)
    have v7 : IntKind.i64.wrap (7 * ((gB x i : Nat) : Int) / 4) = 7 * ((gB x i : Nat) : Int) / 4 := IntWalk.i64_in _ (by omega)
    have v8 : IntKind.i64.wrap (300 + 7 * ((gB x i : Nat) : Int) / 4) = 300 + 7 * ((gB x i : Nat) : Int) / 4 := IntWalk.i64_in _ (by omega)
    have hap : rowC (rows eO (mL0 x i)) ++ [[dI (300 + 7 * ((gB x i : Nat) : Int) / 4), dI 0, dI 0]] = rowC (rows eO (mL0 x (i + 1))) := by rw [mL0_succ]; simp [rowC, rows, mO, eO]
    have hi5 : ((i : Int) < 4) = True := eq_true (by omega)
    have hln := mL0_len x i
    repeat' (first
    | (with_reducible first | refine DW.seq ?_ | refine DW.block ?_ | refine DW.skip ?_ | refine DW.exit ?_ | refine DW.ret ?_ | refine DW.reg ?_)
    | (refine DW.dreg rfl (WF.of ?_) ?_; first | rfl | skip)
    | (refine DW.ord rfl (WF.of (by first | rfl | simp (disch := omega) only [go_sem, simprocAttr, bm_box, bm_row, bk_box, bk_row, und5, r4, v4, m4, ri, v5, v6, t6, v7, v8, hd, hln, hi5, Nat.mul_one, hap])) ?_ ?_ ?_; rotate_left)
    | rfl
    | (with_reducible refine And.intro ?_ ?_)
    | (simp (disch := omega) only [go_sem, simprocAttr, bm_box, bm_row, bk_box, bk_row, und5, r4, v4, m4, ri, v5, v6, t6, v7, v8, hd, hln, hi5, Nat.mul_one, hap])
    | (exact retS_of rfl rfl rfl)
    | (refine DW.cond_tt rfl ?_)
    | (refine DW.cond_ff rfl ?_)
    | (refine DW.cond rfl ?_ ?_ <;> intro hc <;> (try simp only [go_sem] at hc))
    | (refine g_split ?_ ?_ <;> intro hc <;> (try simp only [hc]) <;> (try simp only [go_sem] at hc)))
    refine ⟨⟨i + 1, hc⟩, ?_, Ent.to ?_ ?_⟩ <;> first | (show _ < _; (try simp only); omega) | (simp (disch := omega) only [wkT_cons, wkX_cons, wkT_nil, wkX_nil, get, Nat.reduceEqDiff, ↓reduceIte, ex_some, wk_self, wk_top, wk_nil, wkB_self, and_self, dI, i64_in, and_true, true_and, Int.natCast_add, Int.natCast_one, Int.ofNat_zero, Int.natCast_zero,  hap])
    all_goals first | exact ⟨.refl _, .refl _, .refl _⟩ | exact ⟨.refl _, .refl _⟩ | exact .refl _
  have hd : decide ((i : Int) ≤ ((gB x 4 % 4 : Nat) : Int)) = false := decide_eq_false (by unfold mN at hc; omega)
  have hin : i = mN x := by omega
  have hn4 : mN x ≤ 4 := by unfold mN; omega
  subst hin
  have hln := mL0_len x (mN x)
  repeat' (first
    | (with_reducible first | refine DW.seq ?_ | refine DW.block ?_ | refine DW.skip ?_ | refine DW.exit ?_ | refine DW.ret ?_ | refine DW.reg ?_)
    | (refine DW.dreg rfl (WF.of ?_) ?_; first | rfl | skip)
    | (refine DW.ord rfl (WF.of (by first | rfl | simp (disch := omega) only [go_sem, simprocAttr, bm_box, bm_row, bk_box, bk_row, und5, r4, v4, m4, hd, hln, replZ])) ?_ ?_ ?_; rotate_left)
    | rfl
    | (with_reducible refine And.intro ?_ ?_)
    | (simp (disch := omega) only [go_sem, simprocAttr, bm_box, bm_row, bk_box, bk_row, und5, r4, v4, m4, hd, hln, replZ])
    | (exact retS_of rfl rfl rfl)
    | (refine DW.cond_tt rfl ?_)
    | (refine DW.cond_ff rfl ?_)
    | (refine DW.cond rfl ?_ ?_ <;> intro hc <;> (try simp only [go_sem] at hc))
    | (refine g_split ?_ ?_ <;> intro hc <;> (try simp only [hc]) <;> (try simp only [go_sem] at hc)))
  (refine DW.ent (Ent.rel 24 rfl) ?_; simp (disch := omega) only [go_sem, simprocAttr, bm_box, bm_row, bk_box, bk_row])
  refine DW.loop (ι := { y : Nat × MSt // y.1 ≤ 3 ∧ y.2 = mS x y.1 }) (fun y => ⟨255, [(10, dI y.1.1), (9, .own 47), (7, dSt false y.1.2.q), (6, .own 23), (5, .box 5 0), (4, .c (.v (.slice none 0 0))), (3, .c (.v (.slice none 0 0))), (2, .box 2 0), (1, .box 1 0)], [(47, .row 1 (rowC (rows eI y.1.2.G))), (23, .row 3 (rowC (rows eO (mL0 x (mN x))))), (5, .box [dI 3000, dI y.1.2.lo, dI y.1.2.hi, dI 4]), (2, .box [dI 0, dI 0, dI 0, dI 0]), (1, shB x)]⟩) (fun y => 3 - y.1.1) ⟨(0, mS x 0), Nat.zero_le _, rfl⟩ ?_ ?_
  · refine Ent.to ?_ ?_ <;> simp (disch := omega) only [wkT_cons, wkX_cons, wkT_nil, wkX_nil, get, Nat.reduceEqDiff, ↓reduceIte, ex_some, wk_self, wk_top, wk_nil, wkB_self, and_self, dI, i64_in, and_true, true_and, Int.natCast_add, Int.natCast_one, Int.ofNat_zero, Int.natCast_zero, mS]
    all_goals first | exact ⟨.refl _, .refl _, .refl _⟩ | exact ⟨.refl _, .refl _⟩ | exact .refl _
  clear hd
  rintro ⟨⟨i, S⟩, hi, hS⟩
  dsimp only at hi hS ⊢
  by_cases hi3 : i < 3
  · have hd : decide ((i : Int) < 3) = true := decide_eq_true (by omega)
    have hi6 : ((i : Int) < 3) = True := eq_true (by omega)
    have hxl : (x.map dU).length = 30 := by rw [List.length_map]; exact hx
    have h5 := five hx hi3
    have h5l : (5 + i * 5 + 5 ≤ 30) = True := eq_true (by omega)
    have hI := hinv i (by omega)
    rw [← hS] at hI
    have hw4 := hW i hi3
    have hql := hI.len
    have hmN : 1 ≤ mN x := by unfold mN; omega
    have hz : ((mN x : Int) = 0) = False := eq_false (by omega)
    have q0 := gB_lt hb (5 + 5 * i + 0)
    have q1 := gB_lt hb (5 + 5 * i + 1)
    have q2 := gB_lt hb (5 + 5 * i + 2)
    have q3 := gB_lt hb (5 + 5 * i + 3)
    have q4 := gB_lt hb (5 + 5 * i + 4)
    have e0 : IntKind.i64.wrap ((mv x i 0 : Nat) : Int) = ((mv x i 0 : Nat) : Int) := IntWalk.i64_in _ (by unfold mv; omega)
    have e1 : IntKind.i64.wrap ((mv x i 1 : Nat) : Int) = ((mv x i 1 : Nat) : Int) := IntWalk.i64_in _ (by unfold mv; omega)
    have e2 : IntKind.i64.wrap ((mv x i 2 : Nat) : Int) = ((mv x i 2 : Nat) : Int) := IntWalk.i64_in _ (by unfold mv; omega)
    have e3 : IntKind.i64.wrap ((mv x i 3 : Nat) : Int) = ((mv x i 3 : Nat) : Int) := IntWalk.i64_in _ (by unfold mv; omega)
    have e4 : IntKind.i64.wrap ((mv x i 4 : Nat) : Int) = ((mv x i 4 : Nat) : Int) := IntWalk.i64_in _ (by unfold mv; omega)
    have t8 : Int.tmod ((mv x i 4 : Nat) : Int) 8 = ((mv x i 4 % 8 : Nat) : Int) := rfl
    have t5 : Int.tmod ((mv x i 4 : Nat) : Int) 5 = ((mv x i 4 % 5 : Nat) : Int) := rfl
    have t3 : Int.tmod ((mv x i 2 : Nat) : Int) 3 = ((mv x i 2 % 3 : Nat) : Int) := rfl
    have tA : Int.tmod ((mv x i 0 : Nat) : Int) (mN x : Int) = ((mA x i : Nat) : Int) := rfl
    have tB : Int.tmod ((mv x i 1 : Nat) : Int) (mN x : Int) = ((mB x i : Nat) : Int) := rfl
    have w8 : IntKind.i64.wrap (1 + ((mv x i 4 % 8 : Nat) : Int)) = (mT x i).run := IntWalk.i64_in _ (by omega)
    have w3 : IntKind.i64.wrap (1 + ((mv x i 2 % 3 : Nat) : Int)) = ((mna x i : Nat) : Int) := by rw [IntWalk.i64_in _ (by omega), mna]; omega
    have hA : mA x i < mN x := Nat.mod_lt _ (by omega)
    have hB : mB x i < mN x := Nat.mod_lt _ (by omega)
    have hAl : (mA x i < mN x) = True := eq_true hA
    have hBl : (mB x i < mN x) = True := eq_true hB
    have hna : 1 ≤ mna x i ∧ mna x i ≤ 3 := by unfold mna; omega
    have hzl : (zeros (mN x)).length = mN x := by simp [zeros]
    have hW1 : (zeros (mN x)).set (mA x i) ((mna x i : Nat) : Int) = mW1 x i := rfl
    have hW1l : (mW1 x i).length = mN x := by simp [mW1, zeros]
    obtain ⟨z, hzg⟩ := getE (l := zeros (mN x)) (i := mA x i) (by omega)
    have hg1 : (mW1 x i)[mA x i]? = some ((mna x i : Nat) : Int) := by rw [mW1, List.getElem?_set_self (by omega)]
    obtain ⟨z2, hzg2⟩ := getE (l := mW1 x i) (i := mB x i) (by omega)
    have w5 : IntKind.i64.wrap (5 - ((mna x i : Nat) : Int)) = ((5 - mna x i : Nat) : Int) := by rw [IntWalk.i64_in _ (by omega)]; omega
    have tb : Int.tmod ((mv x i 3 : Nat) : Int) ((5 - mna x i : Nat) : Int) = ((mnb x i : Nat) : Int) := rfl
    have hz2 : (((5 - mna x i : Nat) : Int) = 0) = False := eq_false (by omega)
    obtain ⟨R, hR⟩ : ∃ R, seekF (mW x i) S.q 0 0 (mLk x i) = R := ⟨_, rfl⟩
    by_cases hab : mA x i = mB x i
    case' pos =>
      have d1 : (((mA x i : Nat) : Int) != ((mB x i : Nat) : Int)) = false := by rw [hab]; simp
      have hWW : mW1 x i = mW x i := by unfold mW; rw [if_pos hab]
    case' neg =>
      have d1 : (((mA x i : Nat) : Int) != ((mB x i : Nat) : Int)) = true := by rw [bne_iff_ne]; omega
      have hWW : (mW1 x i).set (mB x i) ((mnb x i : Nat) : Int) = mW x i := by unfold mW; rw [if_neg hab]
    all_goals
      by_cases hi0 : i = 0
      case' pos =>
        have d0 : decide ((0 : Int) < (i : Int)) = false := decide_eq_false (by omega)
        have d5 := hln
        have hlk : mLk x i = false := by unfold mLk; rw [decide_eq_false (by omega)]; rfl
      case' neg =>
        have d0 : decide ((0 : Int) < (i : Int)) = true := decide_eq_true (by omega)
        have d5 : (((mv x i 4 % 5 : Nat) : Int) == 0) = mLk x i := by
          unfold mLk
          rw [decide_eq_true (by omega), Bool.true_and, Bool.eq_iff_iff, beq_iff_eq, decide_eq_true_eq]; omega
        have hlk := hln
      all_goals
        repeat' (first
    | (with_reducible first | refine DW.seq ?_ | refine DW.block ?_ | refine DW.skip ?_ | refine DW.exit ?_ | refine DW.ret ?_ | refine DW.reg ?_)
    | (refine DW.dreg rfl (WF.of ?_) ?_; first | rfl | skip)
    | (refine DW.ord rfl (WF.of (by first | rfl | simp (disch := omega) only [go_sem, simprocAttr, bm_box, bm_row, bk_box, bk_row, und5, hd, hi6, hxl, h5, h5l, hln, replZ, hz, e0, e1, e2, e3, e4, t8, t3, t5, tA, tB, w8, w3, hAl, hBl, hzl, hzg, hzg2, rowC_set1, rows_setI, hW1, hW1l, d1, hg1, w5, tb, hz2, hWW, d0, d5])) ?_ ?_ ?_; rotate_left)
    | rfl
    | (with_reducible refine And.intro ?_ ?_)
    | (simp (disch := omega) only [go_sem, simprocAttr, bm_box, bm_row, bk_box, bk_row, und5, hd, hi6, hxl, h5, h5l, hln, replZ, hz, e0, e1, e2, e3, e4, t8, t3, t5, tA, tB, w8, w3, hAl, hBl, hzl, hzg, hzg2, rowC_set1, rows_setI, hW1, hW1l, d1, hg1, w5, tb, hz2, hWW, d0, d5])
    | (exact retS_of rfl rfl rfl)
    | (refine DW.cond_tt rfl ?_)
    | (refine DW.cond_ff rfl ?_)
    | (refine DW.cond rfl ?_ ?_ <;> intro hc <;> (try simp only [go_sem] at hc))
    | (refine g_split ?_ ?_ <;> intro hc <;> (try simp only [hc]) <;> (try simp only [go_sem] at hc)))
        (refine DW.ent (Ent.rel 58 rfl) ?_; simp (disch := omega) only [go_sem, simprocAttr, bm_box, bm_row, bk_box, bk_row])
        refine DW.loop (ι := { y : Nat × Nat × Bool // y.1 ≤ S.q.length ∧ y.2.1 ≤ y.1 ∧ seekF (mW x i) (S.q.drop y.1) y.1 y.2.1 y.2.2 = R }) (fun y => ⟨255, [(17, dI y.1.1), (16, bD y.1.2.2), (15, dI y.1.2.1), (12, .box 12 0), (10, dI i), (9, .own 47), (7, dSt false S.q), (6, .own 23), (5, .box 5 0), (4, .c (.v (.slice none 0 0))), (3, .c (.v (.slice none 0 0))), (2, .box 2 0), (1, .box 1 0)], [(47, .row 1 (rowC (rows eI S.G))), (23, .row 3 (rowC (rows eO (mL0 x (mN x))))), (12, .box [dIs false (mW x i), dI (mT x i).run]), (5, .box [dI 3000, dI S.lo, dI S.hi, dI 4]), (2, .box [dI 0, dI 0, dI 0, dI 0]), (1, shB x)]⟩) (fun y => S.q.length - y.1.1) ⟨(0, 0, mLk x i), Nat.zero_le _, Nat.le_refl _, hR⟩ ?_ ?_
        · refine Ent.to ?_ ?_ <;> simp (disch := omega) only [wkT_cons, wkX_cons, wkT_nil, wkX_nil, get, Nat.reduceEqDiff, ↓reduceIte, ex_some, wk_self, wk_top, wk_nil, wkB_self, and_self, dI, i64_in, and_true, true_and, Int.natCast_add, Int.natCast_one, Int.ofNat_zero, Int.natCast_zero, hlk]
          all_goals first | exact ⟨.refl _, .refl _, .refl _⟩ | exact ⟨.refl _, .refl _⟩ | exact .refl _
        rintro ⟨⟨k, m, lk⟩, hk, hmk, hsk⟩
        dsimp only at hk hmk hsk ⊢
        rcases at_or S.q k hk with ⟨u, hu, hlt, hdk⟩ | ⟨he, hdk⟩
        · have hul := (hI.st u (List.mem_of_getElem? hu)).1.1
          have hwl := hw4.len
          rw [hln] at hwl
          have hdr : S.q.drop k = u :: S.q.drop (k + 1) := by rw [List.drop_eq_getElem_cons hlt, (List.getElem_eq_iff hlt).2 hu]
          rw [hdr, seekF] at hsk
          have c1 := laBefore false false u.ws (mW x i) (by omega) (by omega)
          have c2 := laBefore false false (mW x i) u.ws (by omega) (by omega)
          cases g1 : lexW u.ws (mW x i) with
          | true =>
            rw [g1] at c1
            rw [if_pos g1] at hsk
            repeat' (first
    | (with_reducible first | refine DW.seq ?_ | refine DW.block ?_ | refine DW.skip ?_ | refine DW.exit ?_ | refine DW.ret ?_ | refine DW.reg ?_)
    | (refine DW.dreg rfl (WF.of ?_) ?_; first | rfl | skip)
    | (refine DW.ord rfl (WF.of (by first | rfl | simp (disch := omega) only [go_sem, simprocAttr, bm_box, bm_row, bk_box, bk_row, hdk, hu, List.map_cons, List.map_nil])) ?_ ?_ ?_; rotate_left)
    | rfl
    | (with_reducible refine And.intro ?_ ?_)
    | (simp (disch := omega) only [go_sem, simprocAttr, bm_box, bm_row, bk_box, bk_row, hdk, hu, List.map_cons, List.map_nil])
    | (exact retS_of rfl rfl rfl)
    | (refine DW.cond_tt rfl ?_)
    | (refine call_c (c1) (by decide) ?_)
    | (refine DW.cond_ff rfl ?_)
    | (refine DW.cond rfl ?_ ?_ <;> intro hc <;> (try simp only [go_sem] at hc))
    | (refine g_split ?_ ?_ <;> intro hc <;> (try simp only [hc]) <;> (try simp only [go_sem] at hc)))
            refine ⟨⟨(k + 1, k + 1, lk), hlt, Nat.le_refl _, hsk⟩, ?_, Ent.to ?_ ?_⟩ <;> first | (show _ < _; (try simp only); omega) | (simp (disch := omega) only [wkT_cons, wkX_cons, wkT_nil, wkX_nil, get, Nat.reduceEqDiff, ↓reduceIte, ex_some, wk_self, wk_top, wk_nil, wkB_self, and_self, dI, i64_in, and_true, true_and, Int.natCast_add, Int.natCast_one, Int.ofNat_zero, Int.natCast_zero])
            all_goals first | exact ⟨.refl _, .refl _, .refl _⟩ | exact ⟨.refl _, .refl _⟩ | exact .refl _
          | false =>
            rw [g1] at c1
            rw [if_neg (by rw [g1]; exact Bool.false_ne_true)] at hsk
            cases g2 : lexW (mW x i) u.ws with
            | true =>
              rw [g2] at c2
              rw [if_pos g2] at hsk
              repeat' (first
    | (with_reducible first | refine DW.seq ?_ | refine DW.block ?_ | refine DW.skip ?_ | refine DW.exit ?_ | refine DW.ret ?_ | refine DW.reg ?_)
    | (refine DW.dreg rfl (WF.of ?_) ?_; first | rfl | skip)
    | (refine DW.ord rfl (WF.of (by first | rfl | simp (disch := omega) only [go_sem, simprocAttr, bm_box, bm_row, bk_box, bk_row, hdk, hu, List.map_cons, List.map_nil])) ?_ ?_ ?_; rotate_left)
    | rfl
    | (with_reducible refine And.intro ?_ ?_)
    | (simp (disch := omega) only [go_sem, simprocAttr, bm_box, bm_row, bk_box, bk_row, hdk, hu, List.map_cons, List.map_nil])
    | (exact retS_of rfl rfl rfl)
    | (refine DW.cond_tt rfl ?_)
    | (refine call_c (c1) (by decide) ?_)
    | (refine call_c (c2) (by decide) ?_)
    | (refine DW.cond_ff rfl ?_)
    | (refine DW.cond rfl ?_ ?_ <;> intro hc <;> (try simp only [go_sem] at hc))
    | (refine g_split ?_ ?_ <;> intro hc <;> (try simp only [hc]) <;> (try simp only [go_sem] at hc)))
              refine ⟨⟨(k + 1, m, lk), hlt, by dsimp only; omega, hsk⟩, ?_, Ent.to ?_ ?_⟩ <;> first | (show _ < _; (try simp only); omega) | (simp (disch := omega) only [wkT_cons, wkX_cons, wkT_nil, wkX_nil, get, Nat.reduceEqDiff, ↓reduceIte, ex_some, wk_self, wk_top, wk_nil, wkB_self, and_self, dI, i64_in, and_true, true_and, Int.natCast_add, Int.natCast_one, Int.ofNat_zero, Int.natCast_zero])
              all_goals first | exact ⟨.refl _, .refl _, .refl _⟩ | exact ⟨.refl _, .refl _⟩ | exact .refl _
            | false =>
              rw [g2] at c2
              rw [if_neg (by rw [g2]; exact Bool.false_ne_true)] at hsk
              repeat' (first
    | (with_reducible first | refine DW.seq ?_ | refine DW.block ?_ | refine DW.skip ?_ | refine DW.exit ?_ | refine DW.ret ?_ | refine DW.reg ?_)
    | (refine DW.dreg rfl (WF.of ?_) ?_; first | rfl | skip)
    | (refine DW.ord rfl (WF.of (by first | rfl | simp (disch := omega) only [go_sem, simprocAttr, bm_box, bm_row, bk_box, bk_row, hdk, hu, List.map_cons, List.map_nil])) ?_ ?_ ?_; rotate_left)
    | rfl
    | (with_reducible refine And.intro ?_ ?_)
    | (simp (disch := omega) only [go_sem, simprocAttr, bm_box, bm_row, bk_box, bk_row, hdk, hu, List.map_cons, List.map_nil])
    | (exact retS_of rfl rfl rfl)
    | (refine DW.cond_tt rfl ?_)
    | (refine call_c (c1) (by decide) ?_)
    | (refine call_c (c2) (by decide) ?_)
    | (refine DW.cond_ff rfl ?_)
    | (refine DW.cond rfl ?_ ?_ <;> intro hc <;> (try simp only [go_sem] at hc))
    | (refine g_split ?_ ?_ <;> intro hc <;> (try simp only [hc]) <;> (try simp only [go_sem] at hc)))
              refine ⟨⟨(k + 1, m, true), hlt, by dsimp only; omega, hsk⟩, ?_, Ent.to ?_ ?_⟩ <;> first | (show _ < _; (try simp only); omega) | (simp (disch := omega) only [wkT_cons, wkX_cons, wkT_nil, wkX_nil, get, Nat.reduceEqDiff, ↓reduceIte, ex_some, wk_self, wk_top, wk_nil, wkB_self, and_self, dI, i64_in, and_true, true_and, Int.natCast_add, Int.natCast_one, Int.ofNat_zero, Int.natCast_zero])
              all_goals first | exact ⟨.refl _, .refl _, .refl _⟩ | exact ⟨.refl _, .refl _⟩ | exact .refl _
        rw [List.drop_eq_nil_of_le (by omega), seekF] at hsk
        have hstp : mS x (i + 1) = stepM x i S := by rw [mS, ← hS]
        unfold stepM at hstp
        rw [hR, ← hsk] at hstp
        cases lk with
        | true =>
          rw [if_pos rfl] at hstp
          repeat' (first
    | (with_reducible first | refine DW.seq ?_ | refine DW.block ?_ | refine DW.skip ?_ | refine DW.exit ?_ | refine DW.ret ?_ | refine DW.reg ?_)
    | (refine DW.dreg rfl (WF.of ?_) ?_; first | rfl | skip)
    | (refine DW.ord rfl (WF.of (by first | rfl | simp (disch := omega) only [go_sem, simprocAttr, bm_box, bm_row, bk_box, bk_row, hdk])) ?_ ?_ ?_; rotate_left)
    | rfl
    | (with_reducible refine And.intro ?_ ?_)
    | (simp (disch := omega) only [go_sem, simprocAttr, bm_box, bm_row, bk_box, bk_row, hdk])
    | (exact retS_of rfl rfl rfl)
    | (refine DW.cond_tt rfl ?_)
    | (refine DW.cond_ff rfl ?_)
    | (refine DW.cond rfl ?_ ?_ <;> intro hc <;> (try simp only [go_sem] at hc))
    | (refine g_split ?_ ?_ <;> intro hc <;> (try simp only [hc]) <;> (try simp only [go_sem] at hc)))
          refine ⟨⟨(i + 1, S), by dsimp only; omega, hstp.symm⟩, ?_, Ent.to ?_ ?_⟩ <;> first | (show _ < _; (try simp only); omega) | (simp (disch := omega) only [wkT_cons, wkX_cons, wkT_nil, wkX_nil, get, Nat.reduceEqDiff, ↓reduceIte, ex_some, wk_self, wk_top, wk_nil, wkB_self, and_self, dI, i64_in, and_true, true_and, Int.natCast_add, Int.natCast_one, Int.ofNat_zero, Int.natCast_zero])
          all_goals first | exact ⟨.refl _, .refl _, .refl _⟩ | exact ⟨.refl _, .refl _⟩ | exact .refl _
        | false =>
          rw [if_neg Bool.false_ne_true] at hstp
          dsimp only at hstp
          have hdl : (List.drop m S.q).length ≤ 3 := by rw [List.length_drop]; omega
          have htl : (List.take m S.q).length ≤ 3 := by rw [List.length_take]; omega
          have hml : ((m : Int) ≤ (S.q.length : Int)) = True := eq_true (by omega)
          have hpos : (0 < (List.drop m S.q).length + 1) = True := eq_true (by omega)
          repeat' (first
    | (with_reducible first | refine DW.seq ?_ | refine DW.block ?_ | refine DW.skip ?_ | refine DW.exit ?_ | refine DW.ret ?_ | refine DW.reg ?_)
    | (refine DW.dreg rfl (WF.of ?_) ?_; first | rfl | skip)
    | (refine DW.ord rfl (WF.of (by first | rfl | simp (disch := omega) only [go_sem, simprocAttr, bm_box, bm_row, bk_box, bk_row, hdk, hml, hpos, Int.le_refl, true_and, shut3, ins_rows])) ?_ ?_ ?_; rotate_left)
    | rfl
    | (with_reducible refine And.intro ?_ ?_)
    | (simp (disch := omega) only [go_sem, simprocAttr, bm_box, bm_row, bk_box, bk_row, hdk, hml, hpos, Int.le_refl, true_and, shut3, ins_rows])
    | (exact retS_of rfl rfl rfl)
    | (refine DW.cond_tt rfl ?_)
    | (refine DW.cond_ff rfl ?_)
    | (refine DW.cond rfl ?_ ?_ <;> intro hc <;> (try simp only [go_sem] at hc))
    | (refine g_split ?_ ?_ <;> intro hc <;> (try simp only [hc]) <;> (try simp only [go_sem] at hc)))
          have hQ : List.take m S.q ++ (⟨mW x i, (mT x i).run⟩ : TStp) :: List.drop m S.q = List.take m S.q ++ mT x i :: List.drop m S.q := rfl
          generalize List.take m S.q ++ mT x i :: List.drop m S.q = Q at hQ hstp
          rw [hQ]
          have hgb := hI.gb
          have hlo := hI.lo
          have hhi := hI.hi
          have hLo := mL0_ok hb (k := mN x)
          have hrun : 1 ≤ (mT x i).run ∧ (mT x i).run ≤ 8 := by show 1 ≤ 1 + ((mv x i 4 % 8 : Nat) : Int) ∧ 1 + ((mv x i 4 % 8 : Nat) : Int) ≤ 8; omega
          have hGl : S.G.length = mN x := by rw [hI.got, gotF_len]; exact hzl
          have hwl := hw4.len
          rw [hln] at hwl
          refine DW.loop (ι := { k : Nat // k ≤ (mL0 x (mN x)).length }) (fun k => ⟨255, [(19, dI k.1), (18, dI (3000 - dotI ((mW x i).take k.1) (mL0 x (mN x)))), (12, .box 12 0), (10, dI i), (9, .own 47), (7, dSt false Q), (6, .own 23), (5, .box 5 0), (4, .c (.v (.slice none 0 0))), (3, .c (.v (.slice none 0 0))), (2, .box 2 0), (1, .box 1 0)], [(47, .row 1 (rowC (rows eI (addG S.G ((mW x i).take k.1) (mT x i).run)))), (23, .row 3 (rowC (rows eO (mL0 x (mN x))))), (12, .box [dIs false (mW x i), dI (mT x i).run]), (5, .box [dI 3000, dI S.lo, dI S.hi, dI 4]), (2, .box [dI 0, dI 0, dI 0, dI 0]), (1, shB x)]⟩) (fun k => (mL0 x (mN x)).length - k.1) ⟨0, Nat.zero_le _⟩ ?_ ?_
          · refine Ent.to ?_ ?_ <;> simp (disch := omega) only [wkT_cons, wkX_cons, wkT_nil, wkX_nil, get, Nat.reduceEqDiff, ↓reduceIte, ex_some, wk_self, wk_top, wk_nil, wkB_self, and_self, dI, i64_in, and_true, true_and, Int.natCast_add, Int.natCast_one, Int.ofNat_zero, Int.natCast_zero, List.take_zero, addG_nil, dotI, Int.sub_zero]
            all_goals first | exact ⟨.refl _, .refl _, .refl _⟩ | exact ⟨.refl _, .refl _⟩ | exact .refl _
          rintro ⟨j, hj⟩
          dsimp only
          rcases at_or (mL0 x (mN x)) j hj with ⟨o, hok, hltj, hdj⟩ | ⟨hej, hdj⟩
          · rw [hln] at hdj
            obtain ⟨n, hn⟩ := getE (l := mW x i) (i := j) (by omega)
            obtain ⟨y, hy, hy2, hset⟩ := addG_take (g := S.G) (ws := mW x i) (r := (mT x i).run) (i := j) hn (by omega)
            have hyb := hgb y (List.mem_of_getElem? hy)
            have hnb := hw4.b n (List.mem_of_getElem? hn)
            have hob := mL0_w hb (List.mem_of_getElem? hok)
            have k1 : 0 ≤ n * (mT x i).run := Int.mul_nonneg hnb.1 (by omega)
            have k2 : n * (mT x i).run ≤ 4 * (mT x i).run := Int.mul_le_mul_of_nonneg_right hnb.2 (by omega)
            have hal : (addG S.G ((mW x i).take j) (mT x i).run).length = S.G.length := addG_len _ _ _
            have hil : (j < (addG S.G ((mW x i).take j) (mT x i).run).length) = True := eq_true (by omega)
            have hjl : (j < mN x) = True := eq_true (by omega)
            have ht := dot_take hn hok
            have hdb := dot_b (ws := (mW x i).take j) (l := mL0 x (mN x)) (fun x hx => hw4.b x (List.mem_of_mem_take hx)) hLo
            have m3 : 0 ≤ n * o.w := Int.mul_nonneg hnb.1 (by omega)
            have m4' : n * o.w ≤ 4 * o.w := Int.mul_le_mul_of_nonneg_right hnb.2 (by omega)
            have v3 : IntKind.i64.wrap (n * o.w) = n * o.w := IntWalk.i64_in _ (by omega)
            have v6 : IntKind.i64.wrap (3000 - dotI ((mW x i).take j) (mL0 x (mN x)) - n * o.w) = 3000 - dotI ((mW x i).take j) (mL0 x (mN x)) - n * o.w := IntWalk.i64_in _ (by omega)
            have hlf : 3000 - dotI ((mW x i).take (j + 1)) (mL0 x (mN x)) = 3000 - dotI ((mW x i).take j) (mL0 x (mN x)) - n * o.w := by omega
            generalize 3000 - dotI ((mW x i).take j) (mL0 x (mN x)) = A at *
            generalize addG S.G ((mW x i).take j) (mT x i).run = H at *
            have v1 : IntKind.i64.wrap (n * (mT x i).run) = n * (mT x i).run := IntWalk.i64_in _ (by omega)
            have v2 : IntKind.i64.wrap (y + n * (mT x i).run) = y + n * (mT x i).run := IntWalk.i64_in _ (by omega)
            repeat' (first
    | (with_reducible first | refine DW.seq ?_ | refine DW.block ?_ | refine DW.skip ?_ | refine DW.exit ?_ | refine DW.ret ?_ | refine DW.reg ?_)
    | (refine DW.dreg rfl (WF.of ?_) ?_; first | rfl | skip)
    | (refine DW.ord rfl (WF.of (by first | rfl | simp (disch := omega) only [go_sem, simprocAttr, bm_box, bm_row, bk_box, bk_row, hdj, hln, hn, hok, hy2, hil, hjl, v1, v2, v3, v6, rowC_set1, rows_setI, hset, List.map_cons, List.map_nil])) ?_ ?_ ?_; rotate_left)
    | rfl
    | (with_reducible refine And.intro ?_ ?_)
    | (simp (disch := omega) only [go_sem, simprocAttr, bm_box, bm_row, bk_box, bk_row, hdj, hln, hn, hok, hy2, hil, hjl, v1, v2, v3, v6, rowC_set1, rows_setI, hset, List.map_cons, List.map_nil])
    | (exact retS_of rfl rfl rfl)
    | (refine DW.cond_tt rfl ?_)
    | (refine DW.cond_ff rfl ?_)
    | (refine DW.cond rfl ?_ ?_ <;> intro hc <;> (try simp only [go_sem] at hc))
    | (refine g_split ?_ ?_ <;> intro hc <;> (try simp only [hc]) <;> (try simp only [go_sem] at hc)))
            refine ⟨⟨j + 1, hltj⟩, ?_, Ent.to ?_ ?_⟩ <;> first | (show _ < _; (try simp only); omega) | (simp (disch := omega) only [wkT_cons, wkX_cons, wkT_nil, wkX_nil, get, Nat.reduceEqDiff, ↓reduceIte, ex_some, wk_self, wk_top, wk_nil, wkB_self, and_self, dI, i64_in, and_true, true_and, Int.natCast_add, Int.natCast_one, Int.ofNat_zero, Int.natCast_zero,  hlf])
            all_goals first | exact ⟨.refl _, .refl _, .refl _⟩ | exact ⟨.refl _, .refl _⟩ | exact .refl _
          · rw [hln] at hdj
            have htw : (mW x i).take j = mW x i := List.take_of_length_le (by omega)
            rw [htw]
            have hdb := dot_b (ws := mW x i) (l := mL0 x (mN x)) hw4.b hLo
            have c3 := laSpan (min S.lo (3000 - dotI (mW x i) (mL0 x (mN x)))) (max S.hi (3000 - dotI (mW x i) (mL0 x (mN x))))
            repeat' (first
    | (with_reducible first | refine DW.seq ?_ | refine DW.block ?_ | refine DW.skip ?_ | refine DW.exit ?_ | refine DW.ret ?_ | refine DW.reg ?_)
    | (refine DW.dreg rfl (WF.of ?_) ?_; first | rfl | skip)
    | (refine DW.ord rfl (WF.of (by first | rfl | simp (disch := omega) only [go_sem, simprocAttr, bm_box, bm_row, bk_box, bk_row, hdj, hln, min_if, max_if])) ?_ ?_ ?_; rotate_left)
    | rfl
    | (with_reducible refine And.intro ?_ ?_)
    | (simp (disch := omega) only [go_sem, simprocAttr, bm_box, bm_row, bk_box, bk_row, hdj, hln, min_if, max_if])
    | (exact retS_of rfl rfl rfl)
    | (refine DW.cond_tt rfl ?_)
    | (refine call_c (c3) (by decide) ?_)
    | (refine DW.cond_ff rfl ?_)
    | (refine DW.cond rfl ?_ ?_ <;> intro hc <;> (try simp only [go_sem] at hc))
    | (refine g_split ?_ ?_ <;> intro hc <;> (try simp only [hc]) <;> (try simp only [go_sem] at hc)))
            refine ⟨⟨(i + 1, ⟨Q, addG S.G (mW x i) (mT x i).run, min S.lo (3000 - dotI (mW x i) (mL0 x (mN x))), max S.hi (3000 - dotI (mW x i) (mL0 x (mN x)))⟩), by dsimp only; omega, hstp.symm⟩, ?_, Ent.to ?_ ?_⟩ <;> first | (show _ < _; (try simp only); omega) | (simp (disch := omega) only [wkT_cons, wkX_cons, wkT_nil, wkX_nil, get, Nat.reduceEqDiff, ↓reduceIte, ex_some, wk_self, wk_top, wk_nil, wkB_self, and_self, dI, i64_in, and_true, true_and, Int.natCast_add, Int.natCast_one, Int.ofNat_zero, Int.natCast_zero])
            all_goals first | exact ⟨.refl _, .refl _, .refl _⟩ | exact ⟨.refl _, .refl _⟩ | exact .refl _
  have hd : decide ((i : Int) < 3) = false := decide_eq_false (by omega)
  obtain rfl : i = 3 := by omega
  have hI := hinv 3 (by omega)
  rw [← hS] at hI
  have hlo := hI.lo
  have hhi := hI.hi
  have hgb := hI.gb
  have r28 := gB_get hx (i := 28) (by decide)
  have r29 := gB_get hx (i := 29) (by decide)
  have q28 := gB_lt hb 28
  have q29 := gB_lt hb 29
  have e28 : IntKind.i64.wrap ((gB x 28 : Nat) : Int) = ((gB x 28 : Nat) : Int) := IntWalk.i64_in _ (by omega)
  have e29 : IntKind.i64.wrap ((gB x 29 : Nat) : Int) = ((gB x 29 : Nat) : Int) := IntWalk.i64_in _ (by omega)
  have t28 : Int.tmod ((gB x 28 : Nat) : Int) 50 = ((gB x 28 % 50 : Nat) : Int) := rfl
  have t29 : Int.tmod ((gB x 29 : Nat) : Int) 50 = ((gB x 29 % 50 : Nat) : Int) := rfl
  have v28 : IntKind.i64.wrap (S.lo - ((gB x 28 % 50 : Nat) : Int)) = S.lo - ((gB x 28 % 50 : Nat) : Int) := IntWalk.i64_in _ (by omega)
  have v29 : IntKind.i64.wrap (S.hi + ((gB x 29 % 50 : Nat) : Int)) = S.hi + ((gB x 29 % 50 : Nat) : Int) := IntWalk.i64_in _ (by omega)
  have c3 := laSpan (max 0 (S.lo - ((gB x 28 % 50 : Nat) : Int))) (S.hi + ((gB x 29 % 50 : Nat) : Int))
  have hxl : (x.map dU).length = 30 := by rw [List.length_map]; exact hx
  repeat' (first
    | (with_reducible first | refine DW.seq ?_ | refine DW.block ?_ | refine DW.skip ?_ | refine DW.exit ?_ | refine DW.ret ?_ | refine DW.reg ?_)
    | (refine DW.dreg rfl (WF.of ?_) ?_; first | rfl | skip)
    | (refine DW.ord rfl (WF.of (by first | rfl | simp (disch := omega) only [go_sem, simprocAttr, bm_box, bm_row, bk_box, bk_row, hd, und5, hxl, r28, r29, e28, e29, t28, t29, v28, v29, min_if, max_if])) ?_ ?_ ?_; rotate_left)
    | rfl
    | (with_reducible refine And.intro ?_ ?_)
    | (simp (disch := omega) only [go_sem, simprocAttr, bm_box, bm_row, bk_box, bk_row, hd, und5, hxl, r28, r29, e28, e29, t28, t29, v28, v29, min_if, max_if])
    | (exact retS_of rfl rfl rfl)
    | (refine DW.cond_tt rfl ?_)
    | (refine call_c (c3) (by decide) ?_)
    | (refine DW.cond_ff rfl ?_)
    | (refine DW.cond rfl ?_ ?_ <;> intro hc <;> (try simp only [go_sem] at hc))
    | (refine g_split ?_ ?_ <;> intro hc <;> (try simp only [hc]) <;> (try simp only [go_sem] at hc)))
  have hz := mLn_zero x S.G
  refine DW.loop (ι := { k : Nat // k ≤ mN x }) (fun k => ⟨255, [(20, dI k.1), (9, .own 47), (7, dSt false S.q), (6, .own 23), (5, .box 5 0), (4, .c (.v (.slice none 0 0))), (3, .c (.v (.slice none 0 0))), (2, .box 2 0), (1, .box 1 0)], [(47, .row 1 (rowC (rows eI S.G))), (23, .row 3 (rowC (rows eO (mLn x S.G k.1)))), (5, .box [dI 3000, dI (max 0 (S.lo - ((gB x 28 % 50 : Nat) : Int))), dI (S.hi + ((gB x 29 % 50 : Nat) : Int)), dI 4]), (2, .box [dI 0, dI 0, dI 0, dI 0]), (1, shB x)]⟩) (fun k => mN x - k.1) ⟨0, Nat.zero_le _⟩ ?_ ?_
  · refine Ent.to ?_ ?_ <;> simp (disch := omega) only [wkT_cons, wkX_cons, wkT_nil, wkX_nil, get, Nat.reduceEqDiff, ↓reduceIte, ex_some, wk_self, wk_top, wk_nil, wkB_self, and_self, dI, i64_in, and_true, true_and, Int.natCast_add, Int.natCast_one, Int.ofNat_zero, Int.natCast_zero, hz]
    all_goals first | exact ⟨.refl _, .refl _, .refl _⟩ | exact ⟨.refl _, .refl _⟩ | exact .refl _
  rintro ⟨k, hk⟩
  dsimp only
  have hll := mLn_len x S.G k
  by_cases hkn : k < mN x
  · have hdk : decide ((k : Int) < (mN x : Int)) = true := decide_eq_true (by omega)
    have hk4 : k < 4 := by omega
    have hk4i : ((k : Int) < 4) = True := eq_true (by omega)
    have hGl : S.G.length = mN x := by rw [hI.got, gotF_len]; simp [zeros]
    obtain ⟨g, hg⟩ := getE (l := S.G) (i := k) (by omega)
    have hgbk := hgb g (List.mem_of_getElem? hg)
    have hgD : S.G.getD k 0 = g := by rw [List.getD_eq_getElem?_getD, hg]; rfl
    have hkl : (k < S.G.length) = True := eq_true (by omega)
    have hkn' : (k < mN x) = True := eq_true (by omega)
    have rk0 : (x.map dU)[20 + k * 2]? = some (dU (gB x (20 + 2 * k))) := by rw [gB_get hx (by omega), Nat.mul_comm]
    have rk1 : (x.map dU)[20 + k * 2 + 1]? = some (dU (gB x (21 + 2 * k))) := by rw [gB_get hx (by omega), show 20 + k * 2 + 1 = 21 + 2 * k by omega]
    have qk0 := gB_lt hb (20 + 2 * k)
    have qk1 := gB_lt hb (21 + 2 * k)
    have ek0 : IntKind.i64.wrap ((gB x (20 + 2 * k) : Nat) : Int) = ((gB x (20 + 2 * k) : Nat) : Int) := IntWalk.i64_in _ (by omega)
    have ek1 : IntKind.i64.wrap ((gB x (21 + 2 * k) : Nat) : Int) = ((gB x (21 + 2 * k) : Nat) : Int) := IntWalk.i64_in _ (by omega)
    have tk0 : Int.tmod ((gB x (20 + 2 * k) : Nat) : Int) 3 = ((gB x (20 + 2 * k) % 3 : Nat) : Int) := rfl
    have tk1 : Int.tmod ((gB x (21 + 2 * k) : Nat) : Int) 3 = ((gB x (21 + 2 * k) % 3 : Nat) : Int) := rfl
    have vk0 : IntKind.i64.wrap (g - ((gB x (20 + 2 * k) % 3 : Nat) : Int)) = g - ((gB x (20 + 2 * k) % 3 : Nat) : Int) := IntWalk.i64_in _ (by omega)
    have vk1 : IntKind.i64.wrap (g + ((gB x (21 + 2 * k) % 3 : Nat) : Int)) = g + ((gB x (21 + 2 * k) % 3 : Nat) : Int) := IntWalk.i64_in _ (by omega)
    have c4 := laSpan (max 0 (g - ((gB x (20 + 2 * k) % 3 : Nat) : Int))) (g + ((gB x (21 + 2 * k) % 3 : Nat) : Int))
    have hmk := mLn_get (x := x) (G := S.G) hkn
    have hsk : (rowC (rows eO (mLn x S.G k))).set k [dI (mO x k).w, dI (max 0 (g - ((gB x (20 + 2 * k) % 3 : Nat) : Int))), dI (g + ((gB x (21 + 2 * k) % 3 : Nat) : Int))] = rowC (rows eO (mLn x S.G (k + 1))) := by
      rw [← mLn_set hkn]
      rw [show mNd x S.G k = ⟨300 + 7 * (gB x k : Int) / 4, max 0 (g - ((gB x (20 + 2 * k) % 3 : Nat) : Int)), g + ((gB x (21 + 2 * k) % 3 : Nat) : Int)⟩ by rw [mNd, hgD], rows, rows, List.map_set, rowC, rowC, List.map_set]
      rfl
    repeat' (first
    | (with_reducible first | refine DW.seq ?_ | refine DW.block ?_ | refine DW.skip ?_ | refine DW.exit ?_ | refine DW.ret ?_ | refine DW.reg ?_)
    | (refine DW.dreg rfl (WF.of ?_) ?_; first | rfl | skip)
    | (refine DW.ord rfl (WF.of (by first | rfl | simp (disch := omega) only [go_sem, simprocAttr, bm_box, bm_row, bk_box, bk_row, hdk, hll, und5, hxl, hk4i, hg, hkl, hkn', rk0, rk1, ek0, ek1, tk0, tk1, vk0, vk1, hmk, min_if, max_if, hsk, List.map_cons, List.map_nil])) ?_ ?_ ?_; rotate_left)
    | rfl
    | (with_reducible refine And.intro ?_ ?_)
    | (simp (disch := omega) only [go_sem, simprocAttr, bm_box, bm_row, bk_box, bk_row, hdk, hll, und5, hxl, hk4i, hg, hkl, hkn', rk0, rk1, ek0, ek1, tk0, tk1, vk0, vk1, hmk, min_if, max_if, hsk, List.map_cons, List.map_nil])
    | (exact retS_of rfl rfl rfl)
    | (refine DW.cond_tt rfl ?_)
    | (refine call_c (c4) (by decide) ?_)
    | (refine DW.cond_ff rfl ?_)
    | (refine DW.cond rfl ?_ ?_ <;> intro hc <;> (try simp only [go_sem] at hc))
    | (refine g_split ?_ ?_ <;> intro hc <;> (try simp only [hc]) <;> (try simp only [go_sem] at hc)))
    refine ⟨⟨k + 1, hkn⟩, ?_, Ent.to ?_ ?_⟩ <;> first | (show _ < _; (try simp only); omega) | (simp (disch := omega) only [wkT_cons, wkX_cons, wkT_nil, wkX_nil, get, Nat.reduceEqDiff, ↓reduceIte, ex_some, wk_self, wk_top, wk_nil, wkB_self, and_self, dI, i64_in, and_true, true_and, Int.natCast_add, Int.natCast_one, Int.ofNat_zero, Int.natCast_zero])
    all_goals first | exact ⟨.refl _, .refl _, .refl _⟩ | exact ⟨.refl _, .refl _⟩ | exact .refl _
  · have hdk : decide ((k : Int) < (mN x : Int)) = false := decide_eq_false (by omega)
    obtain rfl : k = mN x := by omega
    have hmP : mP x = ⟨3000, max 0 (S.lo - ((gB x 28 % 50 : Nat) : Int)), S.hi + ((gB x 29 % 50 : Nat) : Int), 4⟩ := by rw [mP, ← hS]
    have hmL : mL x = mLn x S.G (mN x) := by rw [mL, ← hS]
    have hmQ : mQ x = S.q := by rw [mQ, ← hS]
    rw [hmP, hmL, hmQ]
    repeat' (first
    | (with_reducible first | refine DW.seq ?_ | refine DW.block ?_ | refine DW.skip ?_ | refine DW.exit ?_ | refine DW.ret ?_ | refine DW.reg ?_)
    | (refine DW.dreg rfl (WF.of ?_) ?_; first | rfl | skip)
    | (refine DW.ord rfl (WF.of (by first | rfl | simp (disch := omega) only [go_sem, simprocAttr, bm_box, bm_row, bk_box, bk_row, hdk, hll])) ?_ ?_ ?_; rotate_left)
    | rfl
    | (with_reducible refine And.intro ?_ ?_)
    | (simp (disch := omega) only [go_sem, simprocAttr, bm_box, bm_row, bk_box, bk_row, hdk, hll])
    | (exact retS_of rfl rfl rfl)
    | (refine DW.cond_tt rfl ?_)
    | (refine DW.cond_ff rfl ?_)
    | (refine DW.cond rfl ?_ ?_ <;> intro hc <;> (try simp only [go_sem] at hc))
    | (refine g_split ?_ ?_ <;> intro hc <;> (try simp only [hc]) <;> (try simp only [go_sem] at hc)))
    refine retS_bs rfl rfl (by simp only [List.all_cons, List.all_nil, Blk.nb, rowC_nb, D.nb, D.nbs, C.nb, C.nbs, C.nbss, rows_nb eI_nb, Bool.and_true, Bool.not_false, Bool.and_self, bD, dI, iD, rows_nb eO_nb, rows_nb eSt_nb, rows_nb eWs_nb, rows_nb e1_nb]) (get_all (p := fun k x => get k _ = some x ∧ x.nb = true) ?_)
    intro q hq
    simp only [List.mem_cons, Prod.mk.injEq, List.not_mem_nil, or_false] at hq
    obtain ⟨rfl, rfl⟩ := hq
    exact ⟨rfl, rowC_nb (rows_nb eO_nb _)⟩
end Go.Dw.Seat
end
section
set_option linter.unusedSimpArgs false
set_option maxRecDepth 100000
namespace Go.Dw.Seat
open Go Go.Dw Go.Proofs Go.IntWalk
def oppO (w : List Nat) (i : Nat) (o : TOrd) : TOrd := ⟨o.w, min 100 (o.lo + ((gB w i % 7 : Nat) : Int)), if gB w i % 5 = 0 then min 100 (o.lo + ((gB w i % 7 : Nat) : Int)) else min 100 (o.hi + ((gB w i % 7 : Nat) : Int))⟩
theorem oppO_ok (w : List Nat) (i : Nat) (o : TOrd) (h : o.ok) : (oppO w i o).ok := by
  have hn := h.need
  refine ⟨h.w, ?_⟩
  unfold oppO
  dsimp only
  split <;> omega
theorem snoc_take {l : List TOrd} {i : Nat} {o : TOrd} (h : l[i]? = some o) : rowC (rows eO (l.take i)) ++ [[dI o.w, dI o.lo, dI o.hi]] = rowC (rows eO (l.take (i + 1))) := by
  rw [List.take_add_one, h]; simp [rowC, rows, eO]
theorem set_eO (M : List TOrd) (i : Nat) (a b c : Int) : (rowC (rows eO M)).set i [D.c (.v (.int .i64 a)), D.c (.v (.int .i64 b)), D.c (.v (.int .i64 c))] = rowC (rows eO (M.set i ⟨a, b, c⟩)) := by
  rw [rows, rows, List.map_set, rowC, rowC, List.map_set]; rfl
set_option maxHeartbeats 8000000 in
theorem laOpposed (x : List Nat) (hx : x.length = 30 ∧ AllLt 256 x) (w : List Nat) (hw : w.length = 4 ∧ AllLt 256 w) : DCall Try.prog 10 [.agg ((eN x).map D.c), .agg ((eN w).map D.c)] [] (bD true) [] := by
  rw [eN_dU, eN_dU]
  have hk := laKnown
  have hmd := made_good hx.2
  have c42 := laMadeO x hx.1 hx.2 (fun i _ => mS_inv hx.2 i) (fun i _ => mW_w4 x i)
  generalize mP x = p at *
  generalize mL x = l at *
  generalize mQ x = q at *
  have hp := hmd.pok
  have hl := hmd.ln
  have h30 := all30 hx.1
  have hx30 : (x.map dU).length = 30 := by rw [List.length_map]; exact hx.1
  have hw4 : (w.map dU).length = 4 := by rw [List.length_map]; exact hw.1
  have hw44 : List.take 4 (w.map dU) = w.map dU := List.take_of_length_le (by omega)
  have hLl : (mrJ (oppO w) l l.length).length = l.length := mrJ_len _ _ _
  have hLo := mrJ_ok (f := oppO w) l.length hmd.lo (oppO_ok w)
  have hz := mrJ_zero (oppO w) l
  refine DCall.of Try.func10 sf10 hb10 (Nat.le_of_ble_eq_true rfl) (okRes_nil fun _ => rfl) ?_; simp only [s10, idxs, Nat.reduceAdd]
  repeat' (first
    | (with_reducible first | refine DW.seq ?_ | refine DW.block ?_ | refine DW.skip ?_ | refine DW.exit ?_ | refine DW.ret ?_ | refine DW.reg ?_)
    | (refine DW.dreg rfl (WF.of ?_) ?_; first | rfl | skip)
    | (simp (disch := omega) only [go_sem, simprocAttr, bm_box, bm_row, bk_box, bk_row, h30, hx30, hw4, hw44, List.drop_zero, close_dU])
    | (exact retS_of rfl rfl rfl)
    | (refine DW.cond_tt rfl ?_)
    | (refine DW.cond_ff rfl ?_)
    | (refine DW.cond rfl ?_ ?_ <;> intro hc <;> (try simp only [go_sem] at hc))
    | (refine g_split ?_ ?_ <;> intro hc <;> (try simp only [hc]) <;> (try simp only [go_sem] at hc)))
  refine call_b c42 ⟨trivial, rfl, by simp (disch := omega) only [go_sem, simprocAttr, bm_box, bm_row, bk_box, bk_row, St.men, List.any_cons, List.any_nil], rfl⟩ (by decide) ?_
  simp only [St.addBs, St.putB, St.putO, St.put]
  simp (disch := omega) only [go_sem, simprocAttr, bm_box, bm_row, bk_box, bk_row]
  repeat' (first
    | (with_reducible first | refine DW.seq ?_ | refine DW.block ?_ | refine DW.skip ?_ | refine DW.exit ?_ | refine DW.ret ?_ | refine DW.reg ?_)
    | (refine DW.dreg rfl (WF.of ?_) ?_; first | rfl | skip)
    | (simp (disch := omega) only [go_sem, simprocAttr, bm_box, bm_row, bk_box, bk_row, und5])
    | (exact retS_of rfl rfl rfl)
    | (refine DW.cond_tt rfl ?_)
    | (refine DW.cond_ff rfl ?_)
    | (refine DW.cond rfl ?_ ?_ <;> intro hc <;> (try simp only [go_sem] at hc))
    | (refine g_split ?_ ?_ <;> intro hc <;> (try simp only [hc]) <;> (try simp only [go_sem] at hc)))
  have hl4 := hl.2
  have hf := fun (i : Nat) (o : TOrd) => oppO_ok w i o
  have hb := gB_lt hw.2
  refine DW.loop (ι := { i : Nat // i ≤ l.length }) (fun i => ⟨202, [(8, dI i.1), (6, .own 23), (5, .box 5 0), (4, bD false), (3, .box 3 0)], [(23, .row 3 (rowC (rows eO (mrJ (oppO w) l i.1)))), (5, .box [dI p.wide, dI p.tl, dI p.th, dI p.webs]), (3, shB w)]⟩) (fun i => l.length - i.1) ⟨0, Nat.zero_le _⟩ ?_ ?_
  · refine Ent.to ?_ ?_ <;> simp (disch := omega) only [wkT_cons, wkX_cons, wkT_nil, wkX_nil, get, Nat.reduceEqDiff, ↓reduceIte, ex_some, wk_self, wk_top, wk_nil, wkB_self, and_self, dI, i64_in, and_true, true_and, Int.natCast_add, Int.natCast_one, Int.ofNat_zero, Int.natCast_zero, hz]
    all_goals first | exact ⟨.refl _, .refl _, .refl _⟩ | exact ⟨.refl _, .refl _⟩ | exact .refl _
  rintro ⟨i, hi⟩
  dsimp only
  have hll := mrJ_len (oppO w) l i
  rcases at_or l i hi with ⟨o, ho, hlt, hd⟩ | ⟨he, hd⟩
  · have hmg := mrJ_get (f := oppO w) ho
    have hms := mrJ_set (f := oppO w) ho
    have hob := (hmd.lo o (List.mem_of_getElem? ho)).need
    have ri := gB_get2 (x := w) (i := i) (by omega)
    have bi := hb i
    have vi : IntKind.i64.wrap ((gB w i : Nat) : Int) = ((gB w i : Nat) : Int) := IntWalk.i64_in _ (by omega)
    have t7 : Int.tmod ((gB w i : Nat) : Int) 7 = ((gB w i % 7 : Nat) : Int) := rfl
    have w1 : IntKind.i64.wrap (o.lo + ((gB w i % 7 : Nat) : Int)) = o.lo + ((gB w i % 7 : Nat) : Int) := IntWalk.i64_in _ (by omega)
    have w2 : IntKind.i64.wrap (o.hi + ((gB w i % 7 : Nat) : Int)) = o.hi + ((gB w i % 7 : Nat) : Int) := IntWalk.i64_in _ (by omega)
    have hil : (i < l.length) = True := eq_true hlt
    have hi4 : (i < 4) = True := eq_true (by omega)
    have hi4i : ((i : Int) < 4) = True := eq_true (by omega)
    have c41 := laSpan (min 100 (o.lo + ((gB w i % 7 : Nat) : Int))) (min 100 (o.hi + ((gB w i % 7 : Nat) : Int)))
    have t5 : Int.tmod ((gB w i : Nat) : Int) 5 = ((gB w i % 5 : Nat) : Int) := rfl
    have hM : i < (mrJ (oppO w) l i).length := by omega
    have hg2 : ∀ u, ((mrJ (oppO w) l i).set i u)[i]? = some u := fun u => List.getElem?_set_self hM
    by_cases h5 : gB w i % 5 = 0
    · have d5 : (((gB w i % 5 : Nat) : Int) == 0) = true := by rw [h5]; rfl
      rw [oppO, if_pos h5] at hms
      repeat' (first
    | (with_reducible first | refine DW.seq ?_ | refine DW.block ?_ | refine DW.skip ?_ | refine DW.exit ?_ | refine DW.ret ?_ | refine DW.reg ?_)
    | (refine DW.dreg rfl (WF.of ?_) ?_; first | rfl | skip)
    | (simp (disch := omega) only [go_sem, simprocAttr, bm_box, bm_row, bk_box, bk_row, hd, hll, hil, hmg, hi4, hi4i, und5, Nat.mul_one, ri, vi, t7, w1, w2, t5, d5, min_if, set_eO, List.set_set, List.length_set, hg2, List.map_cons, List.map_nil])
    | (exact retS_of rfl rfl rfl)
    | (refine DW.cond_tt rfl ?_)
    | (refine call_c (c41) (by decide) ?_)
    | (refine DW.cond_ff rfl ?_)
    | (refine DW.cond rfl ?_ ?_ <;> intro hc <;> (try simp only [go_sem] at hc))
    | (refine g_split ?_ ?_ <;> intro hc <;> (try simp only [hc]) <;> (try simp only [go_sem] at hc)))
      refine ⟨⟨i + 1, hlt⟩, ?_, Ent.to ?_ ?_⟩ <;> first | (show _ < _; (try simp only); omega) | (simp (disch := omega) only [wkT_cons, wkX_cons, wkT_nil, wkX_nil, get, Nat.reduceEqDiff, ↓reduceIte, ex_some, wk_self, wk_top, wk_nil, wkB_self, and_self, dI, i64_in, and_true, true_and, Int.natCast_add, Int.natCast_one, Int.ofNat_zero, Int.natCast_zero,  hms])
      all_goals first | exact ⟨.refl _, .refl _, .refl _⟩ | exact ⟨.refl _, .refl _⟩ | exact .refl _
    · have d5 : (((gB w i % 5 : Nat) : Int) == 0) = false := by rw [beq_eq_false_iff_ne]; omega
      rw [oppO, if_neg h5] at hms
      repeat' (first
    | (with_reducible first | refine DW.seq ?_ | refine DW.block ?_ | refine DW.skip ?_ | refine DW.exit ?_ | refine DW.ret ?_ | refine DW.reg ?_)
    | (refine DW.dreg rfl (WF.of ?_) ?_; first | rfl | skip)
    | (simp (disch := omega) only [go_sem, simprocAttr, bm_box, bm_row, bk_box, bk_row, hd, hll, hil, hmg, hi4, hi4i, und5, Nat.mul_one, ri, vi, t7, w1, w2, t5, d5, min_if, set_eO, List.map_cons, List.map_nil])
    | (exact retS_of rfl rfl rfl)
    | (refine DW.cond_tt rfl ?_)
    | (refine call_c (c41) (by decide) ?_)
    | (refine DW.cond_ff rfl ?_)
    | (refine DW.cond rfl ?_ ?_ <;> intro hc <;> (try simp only [go_sem] at hc))
    | (refine g_split ?_ ?_ <;> intro hc <;> (try simp only [hc]) <;> (try simp only [go_sem] at hc)))
      refine ⟨⟨i + 1, hlt⟩, ?_, Ent.to ?_ ?_⟩ <;> first | (show _ < _; (try simp only); omega) | (simp (disch := omega) only [wkT_cons, wkX_cons, wkT_nil, wkX_nil, get, Nat.reduceEqDiff, ↓reduceIte, ex_some, wk_self, wk_top, wk_nil, wkB_self, and_self, dI, i64_in, and_true, true_and, Int.natCast_add, Int.natCast_one, Int.ofNat_zero, Int.natCast_zero,  hms])
      all_goals first | exact ⟨.refl _, .refl _, .refl _⟩ | exact ⟨.refl _, .refl _⟩ | exact .refl _
  · subst he
    generalize mrJ (oppO w) l l.length = L at *
    have hop := openE_yes hp (by omega) hLo
    have c22 := laOwn true L (by omega)
    have c31 := trPlanX p L (by omega)
    have c36 := trAgainst p L (by omega)
    rw [planX, if_pos hop] at c31
    cases hP : planF p L with
    | some bw =>
      have hE : agE p L = 7 := by unfold agE; rw [if_neg (by simpa using hop), hP]; rfl
      rw [agD, hE, if_pos (by decide)] at c36
      rw [hP] at c31
      dsimp only at c31
      repeat' (first
    | (with_reducible first | refine DW.seq ?_ | refine DW.block ?_ | refine DW.skip ?_ | refine DW.exit ?_ | refine DW.ret ?_ | refine DW.reg ?_)
    | (refine DW.dreg rfl (WF.of ?_) ?_; first | rfl | skip)
    | (simp (disch := omega) only [go_sem, simprocAttr, bm_box, bm_row, bk_box, bk_row, hd, hll])
    | (exact retS_of rfl rfl rfl)
    | (refine DW.cond_tt rfl ?_)
    | (refine call_c (c22) (by decide) ?_)
    | (refine call_c (c31) (by decide) ?_)
    | (refine call_c (c36) (by decide) ?_)
    | (refine call_c (hk) (by decide) ?_)
    | (refine DW.cond_ff rfl ?_)
    | (refine DW.cond rfl ?_ ?_ <;> intro hc <;> (try simp only [go_sem] at hc))
    | (refine g_split ?_ ?_ <;> intro hc <;> (try simp only [hc]) <;> (try simp only [go_sem] at hc)))
      skip
    | none =>
      obtain ⟨a, S, hA, hE, hO⟩ := oppo hp (by omega) hLo hP
      rw [hA, hE] at c36
      rw [hP] at c31
      dsimp only at c31
      have hal := hO.len
      have hle := hO.le
      have hne := hO.ne
      have d1 : ((a.length : Int) == 0) = false := by rw [beq_eq_false_iff_ne]; omega
      have d2 : decide ((l.length : Int) < (a.length : Int)) = false := decide_eq_false (by omega)
      have hat := hO.at'
      have has := hO.asc
      have hof := hO.off
      have hbd := hO.bad
      have hSo := hO.ok
      clear hO
      repeat' (first
    | (with_reducible first | refine DW.seq ?_ | refine DW.block ?_ | refine DW.skip ?_ | refine DW.exit ?_ | refine DW.ret ?_ | refine DW.reg ?_)
    | (refine DW.dreg rfl (WF.of ?_) ?_; first | rfl | skip)
    | (simp (disch := omega) only [go_sem, simprocAttr, bm_box, bm_row, bk_box, bk_row, hd, hll, d1, d2])
    | (exact retS_of rfl rfl rfl)
    | (refine DW.cond_tt rfl ?_)
    | (refine call_c (c22) (by decide) ?_)
    | (refine call_c (c31) (by decide) ?_)
    | (refine call_c (c36) (by decide) ?_)
    | (refine DW.cond_ff rfl ?_)
    | (refine DW.cond rfl ?_ ?_ <;> intro hc <;> (try simp only [go_sem] at hc))
    | (refine g_split ?_ ?_ <;> intro hc <;> (try simp only [hc]) <;> (try simp only [go_sem] at hc)))
      refine DW.loop (ι := { i : Nat // i ≤ a.length }) (fun i => ⟨202, [(15, dI i.1), (14, .own 122), (12, dIs false a), (6, .own 23), (5, .box 5 0)], [(122, .row 3 (rowC (rows eO (S.take i.1)))), (23, .row 3 (rowC (rows eO L))), (5, .box [dI p.wide, dI p.tl, dI p.th, dI p.webs])]⟩) (fun i => a.length - i.1) ⟨0, Nat.zero_le _⟩ ?_ ?_
      · refine Ent.to ?_ ?_ <;> simp (disch := omega) only [wkT_cons, wkX_cons, wkT_nil, wkX_nil, get, Nat.reduceEqDiff, ↓reduceIte, ex_some, wk_self, wk_top, wk_nil, wkB_self, and_self, dI, i64_in, and_true, true_and, Int.natCast_add, Int.natCast_one, Int.ofNat_zero, Int.natCast_zero, List.take_zero]
        all_goals first | exact ⟨.refl _, .refl _, .refl _⟩ | exact ⟨.refl _, .refl _⟩ | exact .refl _
      rintro ⟨i, hi⟩
      dsimp only
      rcases at_or a i hi with ⟨v, hv, hlt, hd⟩ | ⟨he, hd⟩
      · obtain ⟨k, o, rfl, hkl, ho, hS⟩ := hat i v hv
        have e1 : decide ((k : Int) < 0) = false := decide_eq_false (by omega)
        have e2 : decide ((l.length : Int) ≤ (k : Int)) = false := decide_eq_false (by omega)
        have htl : (S.take i).length ≤ 4 := by rw [List.length_take]; omega
        have hst := snoc_take hS
        have hkl' : (k < l.length) = True := eq_true (by omega)
        by_cases hi0 : i = 0
        · have e3 : decide ((0 : Int) < (i : Int)) = false := decide_eq_false (by omega)
          repeat' (first
    | (with_reducible first | refine DW.seq ?_ | refine DW.block ?_ | refine DW.skip ?_ | refine DW.exit ?_ | refine DW.ret ?_ | refine DW.reg ?_)
    | (refine DW.dreg rfl (WF.of ?_) ?_; first | rfl | skip)
    | (simp (disch := omega) only [go_sem, simprocAttr, bm_box, bm_row, bk_box, bk_row, hd, hll, hv, e1, e2, e3, hkl', ho, hst, List.map_cons, List.map_nil])
    | (exact retS_of rfl rfl rfl)
    | (refine DW.cond_tt rfl ?_)
    | (refine DW.cond_ff rfl ?_)
    | (refine DW.cond rfl ?_ ?_ <;> intro hc <;> (try simp only [go_sem] at hc))
    | (refine g_split ?_ ?_ <;> intro hc <;> (try simp only [hc]) <;> (try simp only [go_sem] at hc)))
          refine ⟨⟨i + 1, hlt⟩, ?_, Ent.to ?_ ?_⟩ <;> first | (show _ < _; (try simp only); omega) | (simp (disch := omega) only [wkT_cons, wkX_cons, wkT_nil, wkX_nil, get, Nat.reduceEqDiff, ↓reduceIte, ex_some, wk_self, wk_top, wk_nil, wkB_self, and_self, dI, i64_in, and_true, true_and, Int.natCast_add, Int.natCast_one, Int.ofNat_zero, Int.natCast_zero,  hst])
          all_goals first | exact ⟨.refl _, .refl _, .refl _⟩ | exact ⟨.refl _, .refl _⟩ | exact .refl _
        · have e3 : decide ((0 : Int) < (i : Int)) = true := decide_eq_true (by omega)
          have wi : IntKind.i64.wrap ((i : Int) - 1) = ((i - 1 : Nat) : Int) := by rw [IntWalk.i64_in _ (by omega)]; omega
          obtain ⟨u, hu⟩ := getE (l := a) (i := i - 1) (by omega)
          have huv := has i u _ (by omega) hu hv
          have e4 : decide ((k : Int) ≤ u) = false := decide_eq_false (by omega)
          repeat' (first
    | (with_reducible first | refine DW.seq ?_ | refine DW.block ?_ | refine DW.skip ?_ | refine DW.exit ?_ | refine DW.ret ?_ | refine DW.reg ?_)
    | (refine DW.dreg rfl (WF.of ?_) ?_; first | rfl | skip)
    | (simp (disch := omega) only [go_sem, simprocAttr, bm_box, bm_row, bk_box, bk_row, hd, hll, hv, hu, wi, e1, e2, e3, e4, hkl', ho, hst, List.map_cons, List.map_nil])
    | (exact retS_of rfl rfl rfl)
    | (refine DW.cond_tt rfl ?_)
    | (refine DW.cond_ff rfl ?_)
    | (refine DW.cond rfl ?_ ?_ <;> intro hc <;> (try simp only [go_sem] at hc))
    | (refine g_split ?_ ?_ <;> intro hc <;> (try simp only [hc]) <;> (try simp only [go_sem] at hc)))
          refine ⟨⟨i + 1, hlt⟩, ?_, Ent.to ?_ ?_⟩ <;> first | (show _ < _; (try simp only); omega) | (simp (disch := omega) only [wkT_cons, wkX_cons, wkT_nil, wkX_nil, get, Nat.reduceEqDiff, ↓reduceIte, ex_some, wk_self, wk_top, wk_nil, wkB_self, and_self, dI, i64_in, and_true, true_and, Int.natCast_add, Int.natCast_one, Int.ofNat_zero, Int.natCast_zero,  hst])
          all_goals first | exact ⟨.refl _, .refl _, .refl _⟩ | exact ⟨.refl _, .refl _⟩ | exact .refl _
      · subst he
        have hta : S.take a.length = S := by rw [hal, List.take_length]
        rw [hta]
        have c22s := laOwn true S (by omega)
        have c31s := trPlanX p S (by omega)
        have hopS := openE_yes hp (by omega) hSo
        rw [planX, if_pos hopS, hbd] at c31s
        dsimp only at c31s
        repeat' (first
    | (with_reducible first | refine DW.seq ?_ | refine DW.block ?_ | refine DW.skip ?_ | refine DW.exit ?_ | refine DW.ret ?_ | refine DW.reg ?_)
    | (refine DW.dreg rfl (WF.of ?_) ?_; first | rfl | skip)
    | (simp (disch := omega) only [go_sem, simprocAttr, bm_box, bm_row, bk_box, bk_row, hd])
    | (exact retS_of rfl rfl rfl)
    | (refine DW.cond_tt rfl ?_)
    | (refine call_c (c22s) (by decide) ?_)
    | (refine call_c (c31s) (by decide) ?_)
    | (refine DW.cond_ff rfl ?_)
    | (refine DW.cond rfl ?_ ?_ <;> intro hc <;> (try simp only [go_sem] at hc))
    | (refine g_split ?_ ?_ <;> intro hc <;> (try simp only [hc]) <;> (try simp only [go_sem] at hc)))
        (refine DW.ent (Ent.rel 122 rfl) ?_; simp (disch := omega) only [go_sem, simprocAttr, bm_box, bm_row, bk_box, bk_row])
        refine DW.loop (ι := { i : Nat // i ≤ S.length }) (fun i => ⟨202, [(18, dI i.1), (14, .c (.sl false 3 (rows eO S))), (5, .box 5 0)], [(5, .box [dI p.wide, dI p.tl, dI p.th, dI p.webs])]⟩) (fun i => S.length - i.1) ⟨0, Nat.zero_le _⟩ ?_ ?_
        · refine Ent.to ?_ ?_ <;> simp (disch := omega) only [wkT_cons, wkX_cons, wkT_nil, wkX_nil, get, Nat.reduceEqDiff, ↓reduceIte, ex_some, wk_self, wk_top, wk_nil, wkB_self, and_self, dI, i64_in, and_true, true_and, Int.natCast_add, Int.natCast_one, Int.ofNat_zero, Int.natCast_zero]
          all_goals first | exact ⟨.refl _, .refl _, .refl _⟩ | exact ⟨.refl _, .refl _⟩ | exact .refl _
        rintro ⟨j, hj⟩
        dsimp only
        rcases at_or S j hj with ⟨o, ho, hltj, hdj⟩ | ⟨hej, hdj⟩
        · have c22o := laOwnO (S.take j) (by rw [List.length_take]; omega) 187
          have hoj := hof j (by omega)
          have hlr : (S.take j ++ S.drop (j + 1)).length ≤ 4 := by rw [List.length_append, List.length_take, List.length_drop]; omega
          have hRo : ∀ o ∈ S.take j ++ S.drop (j + 1), o.ok := fun o ho => by
            rcases List.mem_append.1 ho with h | h
            · exact hSo o (List.mem_of_mem_take h)
            · exact hSo o (List.mem_of_mem_drop h)
          have c31r := trPlanX p (S.take j ++ S.drop (j + 1)) (by omega)
          have hopR := openE_yes hp hlr hRo
          rw [planX, if_pos hopR] at c31r
          have hap : rowC (rows eO (S.take j)) ++ rowC (rows eO (S.drop (j + 1))) = rowC (rows eO (S.take j ++ S.drop (j + 1))) := by simp [rowC, rows]
          have htj : (S.take j).length ≤ 4 := by rw [List.length_take]; omega
          have hdl : (S.drop (j + 1)).length ≤ 4 := by rw [List.length_drop]; omega
          have hj1 : ((j : Int) + 1 ≤ (S.length : Int)) = True := eq_true (by omega)
          have hjl : ((j : Int) ≤ (S.length : Int)) = True := eq_true (by omega)
          cases hPr : planF p (S.take j ++ S.drop (j + 1)) with
          | none => rw [hPr] at hoj; cases hoj
          | some bw =>
            rw [hPr] at c31r
            dsimp only at c31r
            repeat' (first
    | (with_reducible first | refine DW.seq ?_ | refine DW.block ?_ | refine DW.skip ?_ | refine DW.exit ?_ | refine DW.ret ?_ | refine DW.reg ?_)
    | (refine DW.dreg rfl (WF.of ?_) ?_; first | rfl | skip)
    | (simp (disch := omega) only [go_sem, simprocAttr, bm_box, bm_row, bk_box, bk_row, hdj, hjl, hj1])
    | (exact retS_of rfl rfl rfl)
    | (refine DW.cond_tt rfl ?_)
    | (refine DW.cond_ff rfl ?_)
    | (refine DW.cond rfl ?_ ?_ <;> intro hc <;> (try simp only [go_sem] at hc))
    | (refine g_split ?_ ?_ <;> intro hc <;> (try simp only [hc]) <;> (try simp only [go_sem] at hc)))
            (refine call_r (c22o) (by decide) (by first | rfl | simp (disch := omega) only [go_sem, simprocAttr, bm_box, bm_row, bk_box, bk_row]) (by first | rfl | simp (disch := omega) only [go_sem, simprocAttr, bm_box, bm_row, bk_box, bk_row]) ?_; simp (disch := omega) only [go_sem, simprocAttr, bm_box, bm_row, bk_box, bk_row])
            repeat' (first
    | (with_reducible first | refine DW.seq ?_ | refine DW.block ?_ | refine DW.skip ?_ | refine DW.exit ?_ | refine DW.ret ?_ | refine DW.reg ?_)
    | (refine DW.dreg rfl (WF.of ?_) ?_; first | rfl | skip)
    | (simp (disch := omega) only [go_sem, simprocAttr, bm_box, bm_row, bk_box, bk_row, hdj, hjl, hj1])
    | (exact retS_of rfl rfl rfl)
    | (refine DW.cond_tt rfl ?_)
    | (refine DW.cond_ff rfl ?_)
    | (refine DW.cond rfl ?_ ?_ <;> intro hc <;> (try simp only [go_sem] at hc))
    | (refine g_split ?_ ?_ <;> intro hc <;> (try simp only [hc]) <;> (try simp only [go_sem] at hc)))
            refine call_rel 187 rfl ?_
            simp (disch := omega) only [go_sem, simprocAttr, bm_box, bm_row, bk_box, bk_row]
            refine opsN.c c31r rfl (by simp (disch := omega) only [go_sem, simprocAttr, bm_box, bm_row, bk_box, bk_row, del]) (by decide) ?_
            simp (disch := omega) only [go_sem, simprocAttr, bm_box, bm_row, bk_box, bk_row]
            repeat' (first
    | (with_reducible first | refine DW.seq ?_ | refine DW.block ?_ | refine DW.skip ?_ | refine DW.exit ?_ | refine DW.ret ?_ | refine DW.reg ?_)
    | (refine DW.dreg rfl (WF.of ?_) ?_; first | rfl | skip)
    | (simp (disch := omega) only [go_sem, simprocAttr, bm_box, bm_row, bk_box, bk_row])
    | (exact retS_of rfl rfl rfl)
    | (refine DW.cond_tt rfl ?_)
    | (refine DW.cond_ff rfl ?_)
    | (refine DW.cond rfl ?_ ?_ <;> intro hc <;> (try simp only [go_sem] at hc))
    | (refine g_split ?_ ?_ <;> intro hc <;> (try simp only [hc]) <;> (try simp only [go_sem] at hc)))
            refine ⟨⟨j + 1, hltj⟩, ?_, Ent.to ?_ ?_⟩ <;> first | (show _ < _; (try simp only); omega) | (simp (disch := omega) only [wkT_cons, wkX_cons, wkT_nil, wkX_nil, get, Nat.reduceEqDiff, ↓reduceIte, ex_some, wk_self, wk_top, wk_nil, wkB_self, and_self, dI, i64_in, and_true, true_and, Int.natCast_add, Int.natCast_one, Int.ofNat_zero, Int.natCast_zero])
            all_goals first | exact ⟨.refl _, .refl _, .refl _⟩ | exact ⟨.refl _, .refl _⟩ | exact .refl _
        · repeat' (first
    | (with_reducible first | refine DW.seq ?_ | refine DW.block ?_ | refine DW.skip ?_ | refine DW.exit ?_ | refine DW.ret ?_ | refine DW.reg ?_)
    | (refine DW.dreg rfl (WF.of ?_) ?_; first | rfl | skip)
    | (simp (disch := omega) only [go_sem, simprocAttr, bm_box, bm_row, bk_box, bk_row, hdj])
    | (exact retS_of rfl rfl rfl)
    | (refine DW.cond_tt rfl ?_)
    | (refine call_c (hk) (by decide) ?_)
    | (refine DW.cond_ff rfl ?_)
    | (refine DW.cond rfl ?_ ?_ <;> intro hc <;> (try simp only [go_sem] at hc))
    | (refine g_split ?_ ?_ <;> intro hc <;> (try simp only [hc]) <;> (try simp only [go_sem] at hc)))
end Go.Dw.Seat
end
section
set_option linter.unusedSimpArgs false
set_option maxRecDepth 100000
namespace Go.Dw.Seat
open Go Go.Dw Go.Proofs Go.ChangeShapes Go.WideShapes Go.ChangeAt Go.RowKit
set_option maxHeartbeats 800000 in
theorem trimOpposedLifted (os : Os) (started : os.Started) (H : Type) (enc : TypeId × Value → H) :
    ReturnsInHanded {} Try.checked os 10 .any (Ytkhicfkfdmldkaa.Rows.trimOpposedSpec.pre6 enc Try.prog Try.f10 Ytkhicfkfdmldkaa.Rows.trimOpposedRow.domain false) (Ytkhicfkfdmldkaa.Rows.trimOpposedSpec.post enc Try.prog Try.f10 false true false false) := by
  refine returnsInHanded_of_change (C := Try.checked) tOwn started (by kernel_rfl) Try.func10
    (ChangeSpec.witness6 (enc := enc) (C := Try.checked) false ⟨#[], #[.agg #[.int .u8 0, .int .u8 0, .int .u8 0, .int .u8 0, .int .u8 0, .int .u8 0, .int .u8 0, .int .u8 0, .int .u8 0, .int .u8 0, .int .u8 0, .int .u8 0, .int .u8 0, .int .u8 0, .int .u8 0, .int .u8 0, .int .u8 0, .int .u8 0, .int .u8 0, .int .u8 0, .int .u8 0, .int .u8 0, .int .u8 0, .int .u8 0, .int .u8 0, .int .u8 0, .int .u8 0, .int .u8 0, .int .u8 0, .int .u8 0], .agg #[.int .u8 0, .int .u8 0, .int .u8 0, .int .u8 0]], []⟩ 8 (by kernel_rfl) (by kernel_rfl) (by kernel_rfl) (by kernel_rfl)) ?_
  intro W base args ds gs before hval0 hW _ _
  have hval : ∀ (j : Nat) t v, Try.f10.params[j]? = some t → args[j]? = some v → Value.okWide Try.prog W .any base t v := hval0
  have hW' : DataW.Whole enc Try.prog Try.f10.params.toList [] false W args.toList ds gs before := hW
  obtain ⟨p, q, hA, hV, rfl, hfz, hnd⟩ := hW
  have hA : DataW.TrodAll enc Try.prog W 0 (fun _ => true) true [78, 72] args.toList ds p := hA
  obtain ⟨rfl, rfl⟩ := trodVars_none hV
  obtain ⟨v0, vs0, d0, ds0, p0, q0, hargs, rfl, rfl, h0, r0⟩ := trodAll_cons hA
  obtain ⟨v1, vs1, d1, ds1, p1, q1, rfl, rfl, rfl, h1, r1⟩ := trodAll_cons r0
  obtain ⟨rfl, rfl, rfl⟩ := trodAll_nil r1
  obtain rfl : args = #[v0, v1] := by cases args; simp_all
  obtain ⟨f0, hu0, _⟩ := structIs_spec u78
  obtain ⟨c0, rfl, _⟩ := okWide_struct hu0 (hval 0 78 v0 rfl rfl)
  obtain ⟨c1, rfl, _⟩ := okWide_array u72 (hval 1 72 v1 rfl rfl)
  obtain ⟨fu0, h0⟩ := h0
  obtain ⟨fu1, h1⟩ := h1
  obtain ⟨s0, ho0, e0⟩ := rd_Shift h0
  have hr0 : RepVs W A0 (eN s0) c0.toList := by
    have e : c0.toList = bV s0 := by simpa [Value.cells] using e0
    rw [e]; exact rep_bytes s0
  obtain ⟨s1, ho1, e1⟩ := rd_A4 h1
  have hr1 : RepVs W A0 (eN s1) c1.toList := by
    have e : c1.toList = bV s1 := by simpa [Value.cells] using e1
    rw [e]; exact rep_bytes s1
  refine ((laOpposed s0 ho0 s1 ho1).calls (W := W) (vs := [.agg c0, .agg c1]) (laid0 W) (fun G => ?_)).mono ?_
  · exact ⟨_, _, rfl, ⟨c0, rfl, RepDs.ofVs hr0⟩, _, _, rfl, ⟨c1, rfl, RepDs.ofVs hr1⟩, rfl⟩
  · rintro e W' ⟨v, rfl, ⟨G', A', hr⟩, hb⟩
    obtain ⟨rfl, _⟩ := hr
    exact ⟨_, rfl, post_true tLaid (by decide +kernel) hW' hb rfl rfl u4 rfl rfl rfl⟩
theorem trimOpposedHolds : Ytkhicfkfdmldkaa.Rows.trimOpposedRow.holds Ytkhicfkfdmldkaa.Try.pinned (OpenSpec.ofChange Ytkhicfkfdmldkaa.Rows.trimOpposedSpec) :=
  OpenClaim.holds_of_wide 10 Try.f10 rfl rfl rfl rfl rfl rfl rfl ⟨rfl, rfl, rfl, rfl, rfl⟩ rfl rfl rfl rfl rfl (by kernel_rfl) Try.func10 (by kernel_rfl)
    (of_decide_eq_true (by kernel_rfl)) (by unfold Func.isWrapper; first | (rw [if_pos (by decide +kernel)]; kernel_rfl) | (rw [if_neg (by decide +kernel)]; exact ⟨rfl, rfl⟩))
    (fun os started H enc _ => trimOpposedLifted os started H enc)
end Go.Dw.Seat
namespace Go.Proofs.Ytkhicfkfdmldkaa
theorem trimOpposedSaid : Rows.TrimOpposedSaid := Go.Dw.Seat.trimOpposedHolds
end Go.Proofs.Ytkhicfkfdmldkaa
end
